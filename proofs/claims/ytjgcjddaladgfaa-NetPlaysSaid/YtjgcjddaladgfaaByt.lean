/- Own rules for printed walks: rows of bytes, parts, and the calls of Join, by this program's own numbers. -/
import Derived.Test.YtjgcjddaladgfaaMem
import Derived.Test.YtjgcjddaladgfaaTypes
import Derived.Test.YtjgcjddaladgfaaBytes2
namespace Go.Proofs.Ytjgcjddaladgfaa
open Go.RowKit Go.Bz

/-- Bytes that are a part of a variable. -/
theorem rdB_part {w : World} {g off n : Nat} {cs : List Value} {l : List UInt8} {T : TypeId} (hb : Blk w g cs T) (h : (cs.drop off).take n = cBs l) (hl : l.length = n) (hn : n ≤ 1000000) : RdB w (.slice (some ⟨g, off, none⟩) n n) l := by
  subst hl
  refine ⟨by simp, cBs_one _, _, l.length, rfl, Nat.le_refl _, by unfold maxLen; omega, (fun h => by cases h), fun j u hu => ⟨_, rfl, ?_⟩⟩
  rw [Addr.add_mid, hb.cell, ← List.getElem?_drop]
  rw [← h, List.getElem?_take] at hu
  split at hu
  · exact hu
  · cases hu
/-- A literal of parts. -/
theorem rdP_blk {w : World} {g n : Nat} {vs : List Value} {ls : List (List UInt8)} {T : TypeId} (hb : Blk w g vs T) (h : All2 (RdB w) vs ls) (hl : ls.length = n) (hn : n ≤ 1000000) : RdP w (.slice (some ⟨g, 0, none⟩) n n) ls := by
  subst hl
  have key : ∀ (vs : List Value) (ls : List (List UInt8)), All2 (RdB w) vs ls → vs.length = ls.length ∧ ∀ v ∈ vs, v.oneCell' = true := by
    intro vs ls h
    induction h with
    | nil => exact ⟨rfl, ones_nil⟩
    | cons h _ ih => exact ⟨by simp [ih.1], ones_cons (Rd.oneV h) ih.2⟩
  obtain ⟨h1, h2⟩ := key vs ls h
  exact ⟨vs, rd_blk hb (by simp [h1]) (by unfold maxLen; omega) h2, h⟩
theorem RdB.rn {w : World} {v : Value} {l : List UInt8} {n : Nat} (h : RdB w v l) (hl : l.length = n) : Rd w 1 v n (cBs l) := by subst hl; exact h
theorem _root_.Go.Bz.Rd.rb {w : World} {v : Value} {l : List UInt8} {n : Nat} (h : Rd w 1 v n (cBs l)) : RdB w v l := by
  have : l.length = n := by have := h.len; simpa using this
  subst this; exact h
theorem rdB_slc {w : World} {v : Value} {xs : List UInt8} {l h n : Nat} (hr : Rd w 1 v n (cBs xs)) (h1 : l ≤ h) (h2 : h ≤ n) : RdB w (slcV v 1 l h) ((xs.drop l).take (h - l)) := by
  have := hr.slc h1 h2
  rw [Nat.mul_one, Nat.mul_one, ← cBs_drop, ← cBs_take] at this
  exact this.rb
theorem rdB_slcH {w : World} {v : Value} {xs : List UInt8} {h n : Nat} (hr : Rd w 1 v n (cBs xs)) (h2 : h ≤ n) : RdB w (slcV v 1 0 h) (xs.take h) := by
  have := rdB_slc hr (Nat.zero_le h) h2
  simpa using this
theorem rdB_slcL {w : World} {v : Value} {xs : List UInt8} {l n : Nat} (hr : Rd w 1 v n (cBs xs)) (h1 : l ≤ n) : RdB w (slcV v 1 l n) (xs.drop l) := by
  have := rdB_slc hr h1 (Nat.le_refl n)
  rw [List.take_of_length_le (by have := hr.len; simp at this ⊢; omega)] at this
  exact this
theorem ownB_make {w : World} {g c : Nat} (hb : Blk w g (List.replicate (c * 1) (.int .u8 0)) 5) (hc : c ≤ 140737488355328) : OwnB w (.slice (some ⟨g, 0, none⟩) 0 c) [] :=
  ⟨by simp, .inr ⟨g, c, _, rfl, Nat.zero_le _, hb, Nat.zero_le _, by unfold maxLen; omega, by simp, by simp⟩⟩
/-- At most n bytes. -/
def cutV (v : Value) (b : List UInt8) (n : Nat) : Value := if n < b.length then slcV v 1 0 n else v
theorem cutV_own {v : Value} {b : List UInt8} {n : Nat} : (cutV v b n).ownBlock = v.ownBlock := by
  unfold cutV; split
  · exact slcV_own v 1 0 n
  · rfl
theorem cut_pos {b : List UInt8} {n : Nat} (h : 0 < (b.take n).length) : 0 < b.length := by simp at h; omega
theorem rdB_cut {w : World} {v : Value} {b : List UInt8} {n : Nat} (h : RdB w v b) : RdB w (cutV v b n) (b.take n) := by
  unfold cutV
  split
  · rename_i hn; exact rdB_slcH h (by omega)
  · rename_i hn; rw [List.take_of_length_le (by omega)]; exact h
theorem le_len {l : List UInt8} {n m : Nat} (h : l.length ≤ n) (hn : n ≤ m) : l.length ≤ m := Nat.le_trans h hn
end Go.Proofs.Ytjgcjddaladgfaa
