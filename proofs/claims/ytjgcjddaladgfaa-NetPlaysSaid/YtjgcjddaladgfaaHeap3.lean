/- A region's own heap over an older one. -/
import Derived.Test.YtjgcjddaladgfaaHeap2
namespace Go.Bz
open Go.RowKit
section
variable {N : Nat → Prop} {w0 wr w w' : World} {L L2 : List MemO}
theorem newer (h : Chg (newN wr) wr w) : Ext wr w := h.mono fun k h1 h2 => by omega
/-- Objects that stay as long as their blocks do. -/
def Stays (N : Nat → Prop) (w : World) (L : List MemO) : Prop := ∀ O ∈ L, ∀ w2 (K : Nat → Prop), Chg K w w2 → (∀ k, K k → N k) → (∀ k, O.fp k → ¬ K k) → O.R w2
theorem Stays.nil : Stays N w [] := fun _ h => by simp at h
theorem Stays.blk {g : Nat} {cs : List Value} {T : TypeId} (hb : Blk w g cs T) (h : Stays N w L) : Stays N w (oBlk g cs T :: L) := fun O hO => by
  rcases List.mem_cons.1 hO with rfl | hO
  · exact stay_blk hb
  · exact h O hO
theorem Stays.own {e : TypeId} {size n : Nat} {v : Value} {xs : List Value} (hb : Own w e size v n xs) (h : Stays N w L) : Stays N w (oOwn e size v n xs :: L) := fun O hO => by
  rcases List.mem_cons.1 hO with rfl | hO
  · exact stay_own hb
  · exact h O hO
theorem Heap.joinN (hO : Heap N w0 wr L) (hH : Heap (newN wr) wr w L2) (hst : Stays N w L2) : Heap N w0 w (L ++ L2) := by
  have h1 := hO.ext hH.done
  refine ⟨h1.chg, h1.up, fun A hA => ?_, ?_⟩
  · rcases List.mem_append.1 hA with hA | hA
    · exact h1.al A hA
    · exact ⟨fun k hk => hO.up k (Nat.le_trans hO.size ((hH.al A hA).sub k hk)), (hH.al A hA).lt, hst A hA⟩
  · rw [List.pairwise_append]
    refine ⟨h1.apart, hH.apart, fun A hA B hB k hk hk2 => ?_⟩
    have h2 := (hO.al A hA).lt k hk
    have h3 : wr.heap.size ≤ k := (hH.al B hB).sub k hk2
    omega
end
end Go.Bz
