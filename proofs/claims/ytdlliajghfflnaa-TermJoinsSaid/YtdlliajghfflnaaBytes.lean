/- Rows of bytes in this program: append, slices, conversions, by the program's own type numbers. -/
import Derived.Test.YtdlliajghfflnaaProg
import Derived.Test.YtdlliajghfflnaaBase
import Derived.IntWalk
import Derived.StillTailTactics
namespace Go.Proofs.Ytdlliajghfflnaa
open Go.RowKit Go.Bz

abbrev RdB (w : World) (v : Value) (l : List UInt8) : Prop := Rd w 1 v l.length (cBs l)
abbrev OwnB (w : World) (v : Value) (l : List UInt8) : Prop := Own w 5 1 v l.length (cBs l)
theorem OwnB.rd {w : World} {v : Value} {l : List UInt8} (h : OwnB w v l) : RdB w v l := Own.rd h (cBs_one _)
theorem OwnB.nil {w : World} : OwnB w (.slice none 0 0) [] := World.ownsRow_nil _ _ _ _
theorem RdB.nil {w : World} : RdB w (.slice none 0 0) [] := Rd.nil
theorem RdB.form {w : World} {v : Value} {l : List UInt8} (h : RdB w v l) : ∃ ao cap, v = .slice ao l.length cap ∧ l.length ≤ cap := by
  obtain ⟨_, _, ao, cap, rfl, h, _⟩ := h; exact ⟨ao, cap, rfl, h⟩
theorem RdB.form2 {w : World} {v : Value} {l : List UInt8} (h : RdB w v l) : ∃ ao n cap, v = .slice ao n cap ∧ l.length = n ∧ n ≤ cap := by
  obtain ⟨_, _, ao, cap, rfl, h, _⟩ := h; exact ⟨ao, _, cap, rfl, rfl, h⟩
/-- Bytes in a block that was just laid. -/
theorem rdB_lit {w : World} {cs : Array Value} {e : TypeId} {l : List UInt8} (hx : cs.toList = cBs l) (hn : l.length ≤ 1000000) : RdB (w.alloc (.cells cs e)) (.slice (some ⟨w.heap.size, 0, none⟩) l.length l.length) l :=
  rd_lit hx (by simp) (by unfold maxLen; omega) (cBs_one _)
theorem rdB_blk {w : World} {g : Nat} {T : TypeId} {l : List UInt8} (h : Blk w g (cBs l) T) (hn : l.length ≤ 1000000) : RdB w (.slice (some ⟨g, 0, none⟩) l.length l.length) l :=
  rd_blk h (by simp) (by unfold maxLen; omega) (cBs_one _)
theorem ownB_lit {w : World} {cs : Array Value} {l : List UInt8} (hx : cs.toList = cBs l) (hn : l.length ≤ 1000000) : OwnB (w.alloc (.cells cs 5)) (.slice (some ⟨w.heap.size, 0, none⟩) l.length l.length) l := by
  have hb := Blk.new w cs 5
  rw [hx] at hb
  exact own_blk hb (by simp) (by unfold maxLen; omega)

/-- Two lists, place by place. -/
inductive All2 {α β : Type} (R : α → β → Prop) : List α → List β → Prop
  | nil : All2 R [] []
  | cons {a : α} {b : β} {l : List α} {m : List β} : R a b → All2 R l m → All2 R (a :: l) (b :: m)
theorem All2.get {α β : Type} {R : α → β → Prop} {l : List α} {m : List β} (h : All2 R l m) : ∀ (k : Nat) (y : β), m[k]? = some y → ∃ x, l[k]? = some x ∧ R x y := by
  induction h with
  | nil => intro k y hy; simp at hy
  | cons h _ ih =>
    intro k y hy
    cases k with
    | zero => simp only [List.getElem?_cons_zero, Option.some.injEq] at hy ⊢; subst hy; exact ⟨_, rfl, h⟩
    | succ k => simp only [List.getElem?_cons_succ] at hy ⊢; exact ih k y hy
theorem All2.mono {α β : Type} {R R' : α → β → Prop} {l : List α} {m : List β} (h : All2 R l m) (hr : ∀ x y, R x y → R' x y) : All2 R' l m := by
  induction h with
  | nil => exact .nil
  | cons h _ ih => exact .cons (hr _ _ h) ih
/-- A slice of slices of bytes. -/
def RdP (w : World) (v : Value) (ls : List (List UInt8)) : Prop := ∃ vs : List Value, Rd w 1 v ls.length vs ∧ All2 (RdB w) vs ls
theorem RdP.ext {w w' : World} {v : Value} {ls : List (List UInt8)} (h : RdP w v ls) (hx : Ext w w') : RdP w' v ls := by
  obtain ⟨vs, h1, h2⟩ := h; exact ⟨vs, h1.ext hx, h2.mono fun _ _ h => Rd.ext h hx⟩

section
variable {w : World} {ops : Array Oper} {rest : List Oper} {o : Oper} {a : Act} {Q : Exit → Act → World → Prop}
end
end Go.Proofs.Ytdlliajghfflnaa
