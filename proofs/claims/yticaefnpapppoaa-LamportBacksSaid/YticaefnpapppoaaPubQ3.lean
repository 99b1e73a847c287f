/- The sums of the zero seed's secrets, reckoned by the kernel: a quarter. -/
import Derived.Test.YticaefnpapppoaaPubLits
namespace Go.Bz.Lamp
open Go.Bz Go.Bz.Sha
theorem lit_24 : ∀ k, k < 4 → shw (secN zs ((96 + k) / 2) ((96 + k) % 2)) = lits.getD (96 + k) [] := by decide +kernel
theorem lit_25 : ∀ k, k < 4 → shw (secN zs ((100 + k) / 2) ((100 + k) % 2)) = lits.getD (100 + k) [] := by decide +kernel
theorem lit_26 : ∀ k, k < 4 → shw (secN zs ((104 + k) / 2) ((104 + k) % 2)) = lits.getD (104 + k) [] := by decide +kernel
theorem lit_27 : ∀ k, k < 4 → shw (secN zs ((108 + k) / 2) ((108 + k) % 2)) = lits.getD (108 + k) [] := by decide +kernel
theorem lit_28 : ∀ k, k < 4 → shw (secN zs ((112 + k) / 2) ((112 + k) % 2)) = lits.getD (112 + k) [] := by decide +kernel
theorem lit_29 : ∀ k, k < 4 → shw (secN zs ((116 + k) / 2) ((116 + k) % 2)) = lits.getD (116 + k) [] := by decide +kernel
theorem lit_30 : ∀ k, k < 4 → shw (secN zs ((120 + k) / 2) ((120 + k) % 2)) = lits.getD (120 + k) [] := by decide +kernel
theorem lit_31 : ∀ k, k < 4 → shw (secN zs ((124 + k) / 2) ((124 + k) % 2)) = lits.getD (124 + k) [] := by decide +kernel
end Go.Bz.Lamp
