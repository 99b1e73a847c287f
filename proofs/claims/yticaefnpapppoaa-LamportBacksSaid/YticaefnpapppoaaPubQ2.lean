/- The sums of the zero seed's secrets, reckoned by the kernel: a quarter. -/
import Derived.Test.YticaefnpapppoaaPubLits
namespace Go.Bz.Lamp
open Go.Bz Go.Bz.Sha
theorem lit_16 : ∀ k, k < 4 → shw (secN zs ((64 + k) / 2) ((64 + k) % 2)) = lits.getD (64 + k) [] := by decide +kernel
theorem lit_17 : ∀ k, k < 4 → shw (secN zs ((68 + k) / 2) ((68 + k) % 2)) = lits.getD (68 + k) [] := by decide +kernel
theorem lit_18 : ∀ k, k < 4 → shw (secN zs ((72 + k) / 2) ((72 + k) % 2)) = lits.getD (72 + k) [] := by decide +kernel
theorem lit_19 : ∀ k, k < 4 → shw (secN zs ((76 + k) / 2) ((76 + k) % 2)) = lits.getD (76 + k) [] := by decide +kernel
theorem lit_20 : ∀ k, k < 4 → shw (secN zs ((80 + k) / 2) ((80 + k) % 2)) = lits.getD (80 + k) [] := by decide +kernel
theorem lit_21 : ∀ k, k < 4 → shw (secN zs ((84 + k) / 2) ((84 + k) % 2)) = lits.getD (84 + k) [] := by decide +kernel
theorem lit_22 : ∀ k, k < 4 → shw (secN zs ((88 + k) / 2) ((88 + k) % 2)) = lits.getD (88 + k) [] := by decide +kernel
theorem lit_23 : ∀ k, k < 4 → shw (secN zs ((92 + k) / 2) ((92 + k) % 2)) = lits.getD (92 + k) [] := by decide +kernel
end Go.Bz.Lamp
