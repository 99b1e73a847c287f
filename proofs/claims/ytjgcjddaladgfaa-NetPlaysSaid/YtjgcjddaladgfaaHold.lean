/- Blocks that stay; a call that changes some objects, among others. -/
import Derived.Test.YtjgcjddaladgfaaHeap3
namespace Go.Bz
open Go.RowKit
section
variable {N : Nat → Prop} {w0 w w' : World} {L M M' : List MemO}
theorem Blk.stab {g : Nat} {cs : List Value} {T : TypeId} (h : Blk w g cs T) : ∀ w', Chg (newN w) w w' → Blk w' g cs T := fun _ hc => Blk.keep h hc fun hN => by have := h.lt; have : w.heap.size ≤ g := hN; omega
/-- What a call is given: a block, and a row that its cells name. -/
abbrev holdK (g : Nat) (v : Value) : Nat → Prop := fun k => k = g ∨ v.ownBlock = some k
theorem Heap.startBO {g : Nat} {cs : List Value} {T e : TypeId} {size n : Nat} {v : Value} {xs : List Value} (hb : Blk w g cs T) (ho : Own w e size v n xs) (hT : T ≠ e) : Heap (newK w (holdK g v)) w w [oBlk g cs T, oOwn e size v n xs] := by
  refine ⟨Chg.refl _ _, fun k h => .inl h, fun O hO => ?_, ?_⟩
  · rcases List.mem_cons.1 hO with rfl | hO
    · exact ⟨fun k hk => .inr (.inl hk), fun k hk => by obtain rfl : k = g := hk; exact hb.lt, stay_blk hb⟩
    · obtain rfl : O = oOwn e size v n xs := by simpa using hO
      exact ⟨fun k hk => .inr (.inr hk), own_lt ho, stay_own ho⟩
  · refine List.pairwise_cons.2 ⟨fun A hA k hk hk2 => ?_, List.pairwise_singleton _ _⟩
    obtain rfl : A = oOwn e size v n xs := by simpa using hA
    obtain rfl : k = g := hk
    exact Own.neType ho hb hT hk2
theorem hold_in {g : Nat} {cs : List Value} {T e : TypeId} {size n : Nat} {v : Value} {xs : List Value} : ∀ k, holdK g v k → ∃ O ∈ [oBlk g cs T, oOwn e size v n xs], O.fp k := fun _ h => h.elim (fun h => ⟨_, .head _, h⟩) fun h => ⟨_, .tail _ (.head _), h⟩
theorem Heap.callChg {K : Nat → Prop} (hO : Heap N w0 w (L ++ M)) (hK : ∀ k, K k → ∃ O ∈ M, O.fp k) (hH : Heap (newK w K) w w' M') : Chg N w w' :=
  hH.chg.le fun k h => h.elim (fun h => hO.up k (Nat.le_trans hO.size h)) fun h => by obtain ⟨O, hO1, h1⟩ := hK k h; exact (hO.al O (List.mem_append.2 (.inr hO1))).sub k h1
/-- A call changes the objects M; what else there is stays. -/
theorem Heap.call {K : Nat → Prop} (hO : Heap N w0 w (L ++ M)) (hK : ∀ k, K k → ∃ O ∈ M, O.fp k) (hH : Heap (newK w K) w w' M') (hst : Stays N w' M') : Heap N w0 w' (L ++ M') := by
  have hc := hO.callChg hK hH
  have hN : ∀ k, newK w K k → N k := fun k h => h.elim (fun h => hO.up k (Nat.le_trans hO.size h)) fun h => by obtain ⟨O, hO1, h1⟩ := hK k h; exact (hO.al O (List.mem_append.2 (.inr hO1))).sub k h1
  obtain ⟨_, _, hd⟩ := List.pairwise_append.1 hO.apart
  have hap : ∀ A ∈ L, ∀ k, A.fp k → ¬ newK w K k := fun A hA k hk h => h.elim (fun h => by have := (hO.al A (List.mem_append.2 (.inl hA))).lt k hk; omega) fun h => by
    obtain ⟨O, hO1, h1⟩ := hK k h; exact hd A hA O hO1 k hk h1
  refine ⟨hO.chg.trans hc, hO.up, fun A hA => ?_, ?_⟩
  · rcases List.mem_append.1 hA with hA | hA
    · exact (hO.al A (List.mem_append.2 (.inl hA))).keep hH.chg hN (hap A hA)
    · exact ⟨fun k hk => hN k ((hH.al A hA).sub k hk), (hH.al A hA).lt, hst A hA⟩
  · rw [List.pairwise_append]
    exact ⟨(List.pairwise_append.1 hO.apart).1, hH.apart, fun A hA B hB k hk hk2 => hap A hA k hk ((hH.al B hB).sub k hk2)⟩
end
end Go.Bz
