/- The sums of the zero seed's secrets, reckoned by the kernel: a quarter. -/
import Derived.Test.YticaefnpapppoaaPubLits
namespace Go.Bz.Lamp
open Go.Bz Go.Bz.Sha
theorem lit_0 : ∀ k, k < 4 → shw (secN zs ((0 + k) / 2) ((0 + k) % 2)) = lits.getD (0 + k) [] := by decide +kernel
theorem lit_1 : ∀ k, k < 4 → shw (secN zs ((4 + k) / 2) ((4 + k) % 2)) = lits.getD (4 + k) [] := by decide +kernel
theorem lit_2 : ∀ k, k < 4 → shw (secN zs ((8 + k) / 2) ((8 + k) % 2)) = lits.getD (8 + k) [] := by decide +kernel
theorem lit_3 : ∀ k, k < 4 → shw (secN zs ((12 + k) / 2) ((12 + k) % 2)) = lits.getD (12 + k) [] := by decide +kernel
theorem lit_4 : ∀ k, k < 4 → shw (secN zs ((16 + k) / 2) ((16 + k) % 2)) = lits.getD (16 + k) [] := by decide +kernel
theorem lit_5 : ∀ k, k < 4 → shw (secN zs ((20 + k) / 2) ((20 + k) % 2)) = lits.getD (20 + k) [] := by decide +kernel
theorem lit_6 : ∀ k, k < 4 → shw (secN zs ((24 + k) / 2) ((24 + k) % 2)) = lits.getD (24 + k) [] := by decide +kernel
theorem lit_7 : ∀ k, k < 4 → shw (secN zs ((28 + k) / 2) ((28 + k) % 2)) = lits.getD (28 + k) [] := by decide +kernel
end Go.Bz.Lamp
