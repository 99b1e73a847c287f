/- More on rows of bytes: slices of slices that were just laid. -/
import Derived.Test.YtjgcjddaladgfaaBytes
namespace Go.Proofs.Ytjgcjddaladgfaa
open Go.RowKit Go.Bz

theorem RdB.one {w : World} {v : Value} {l : List UInt8} (h : RdB w v l) : v.oneCell' = true := by
  obtain ⟨_, _, ao, cap, rfl, _⟩ := h; rfl
theorem All2.length {α β : Type} {R : α → β → Prop} {l : List α} {m : List β} (h : All2 R l m) : l.length = m.length := by
  induction h with
  | nil => rfl
  | cons _ _ ih => simp [ih]
theorem rdP_lit {w : World} {cs : Array Value} {e : TypeId} {vs : List Value} {ls : List (List UInt8)} (hx : cs.toList = vs) (h : All2 (RdB w) vs ls) (hn : ls.length ≤ 1000000) :
    RdP (w.alloc (.cells cs e)) (.slice (some ⟨w.heap.size, 0, none⟩) ls.length ls.length) ls := by
  have h1 : ∀ u ∈ vs, u.oneCell' = true := by
    clear hx hn
    induction h with
    | nil => simp
    | cons h _ ih =>
      intro u hu
      rcases List.mem_cons.1 hu with rfl | hu
      · exact h.one
      · exact ih u hu
  exact ⟨vs, rd_lit hx (by simpa using h.length) (by unfold maxLen; omega) h1, h.mono fun _ _ h => Rd.ext h (Ext.alloc _ _)⟩
theorem rdB_blkn {w : World} {g n : Nat} {T : TypeId} {l : List UInt8} (h : Blk w g (cBs l) T) (hl : l.length = n) (hn : n ≤ 1000000) : RdB w (.slice (some ⟨g, 0, none⟩) n n) l := by
  subst hl; exact rdB_blk h hn
theorem Blk.there {w : World} {g : Nat} {cs : List Value} {T : TypeId} (h : Blk w g cs T) : w.there g 0 cs.length := fun j hj => by
  rw [Nat.zero_add, h.cell, h.free]; simp [hj]
theorem Blk.setCells {w : World} {g : Nat} {old cs : List Value} {T : TypeId} (h : Blk w g old T) (hl : cs.length = old.length) : Blk (w.setCells g 0 cs) g cs T := by
  have key : ∀ (vs : List Value) (o : Nat) (w : World) (cur : List Value), Blk w g cur T → o + vs.length = cur.length → Blk (w.setCells g o vs) g (cur.take o ++ vs) T := by
    intro vs
    induction vs with
    | nil =>
      intro o w cur h hl
      have e : cur.take o ++ [] = cur := by rw [List.append_nil]; exact List.take_of_length_le (by simp at hl; omega)
      rw [e]; exact h
    | cons v vs ih =>
      intro o w cur h hl
      rw [World.setCells]
      have := ih (o + 1) _ _ (h.set o v) (by simp at hl ⊢; omega)
      have e : (cur.set o v).take (o + 1) ++ vs = cur.take o ++ v :: vs := by
        have ho : o < cur.length := by simp at hl; omega
        rw [List.take_succ_eq_append_getElem (by simpa using ho), List.getElem_set_self, List.take_set_of_le (Nat.le_refl _)]
        simp
      rw [e] at this; exact this
  have := key cs 0 w old h (by omega)
  simpa using this
theorem Chg.setCells {g : Nat} (cs : List Value) : ∀ (o : Nat) (w : World), Chg (· = g) w (w.setCells g o cs) := by
  induction cs with
  | nil => intro o w; exact Chg.refl _ _
  | cons v vs ih => intro o w; rw [World.setCells]; exact (Chg.setCell ⟨g, o, none⟩ v).trans (ih _ _)
theorem All2.one {w : World} {vs : List Value} {ls : List (List UInt8)} (h : All2 (RdB w) vs ls) : ∀ u ∈ vs, u.oneCell' = true := by
  induction h with
  | nil => simp
  | cons h _ ih =>
    intro u hu
    rcases List.mem_cons.1 hu with rfl | hu
    · exact h.one
    · exact ih u hu
end Go.Proofs.Ytjgcjddaladgfaa
