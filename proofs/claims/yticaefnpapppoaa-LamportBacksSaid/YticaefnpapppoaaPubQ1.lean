/- The sums of the zero seed's secrets, reckoned by the kernel: a quarter. -/
import Derived.Test.YticaefnpapppoaaPubLits
namespace Go.Bz.Lamp
open Go.Bz Go.Bz.Sha
theorem lit_8 : ∀ k, k < 4 → shw (secN zs ((32 + k) / 2) ((32 + k) % 2)) = lits.getD (32 + k) [] := by decide +kernel
theorem lit_9 : ∀ k, k < 4 → shw (secN zs ((36 + k) / 2) ((36 + k) % 2)) = lits.getD (36 + k) [] := by decide +kernel
theorem lit_10 : ∀ k, k < 4 → shw (secN zs ((40 + k) / 2) ((40 + k) % 2)) = lits.getD (40 + k) [] := by decide +kernel
theorem lit_11 : ∀ k, k < 4 → shw (secN zs ((44 + k) / 2) ((44 + k) % 2)) = lits.getD (44 + k) [] := by decide +kernel
theorem lit_12 : ∀ k, k < 4 → shw (secN zs ((48 + k) / 2) ((48 + k) % 2)) = lits.getD (48 + k) [] := by decide +kernel
theorem lit_13 : ∀ k, k < 4 → shw (secN zs ((52 + k) / 2) ((52 + k) % 2)) = lits.getD (52 + k) [] := by decide +kernel
theorem lit_14 : ∀ k, k < 4 → shw (secN zs ((56 + k) / 2) ((56 + k) % 2)) = lits.getD (56 + k) [] := by decide +kernel
theorem lit_15 : ∀ k, k < 4 → shw (secN zs ((60 + k) / 2) ((60 + k) % 2)) = lits.getD (60 + k) [] := by decide +kernel
end Go.Bz.Lamp
