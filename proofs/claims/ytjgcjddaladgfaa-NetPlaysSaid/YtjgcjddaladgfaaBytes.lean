/- Rows of bytes in this program: append, slices, conversions, by the program's own type numbers. -/
import Derived.Test.YtjgcjddaladgfaaProg
import Derived.Test.YtjgcjddaladgfaaBase
import Derived.IntWalk
import Derived.StillTailTactics
namespace Go.Proofs.Ytjgcjddaladgfaa
open Go.RowKit Go.Bz

abbrev RdB (w : World) (v : Value) (l : List UInt8) : Prop := Rd w 1 v l.length (cBs l)
abbrev OwnB (w : World) (v : Value) (l : List UInt8) : Prop := Own w 5 1 v l.length (cBs l)
theorem Try.stB : ST Try.prog 22 5 (.int .u8 0) 1 1 := ⟨Try.underlying22, by kernel_rfl, rfl, by decide, by decide⟩
theorem OwnB.rd {w : World} {v : Value} {l : List UInt8} (h : OwnB w v l) : RdB w v l := Own.rd h (cBs_one _)
theorem OwnB.nil {w : World} : OwnB w (.slice none 0 0) [] := World.ownsRow_nil _ _ _ _
theorem RdB.nil {w : World} : RdB w (.slice none 0 0) [] := Rd.nil
theorem RdB.form {w : World} {v : Value} {l : List UInt8} (h : RdB w v l) : ∃ ao cap, v = .slice ao l.length cap ∧ l.length ≤ cap := by
  obtain ⟨_, _, ao, cap, rfl, h, _⟩ := h; exact ⟨ao, cap, rfl, h⟩
theorem RdB.form2 {w : World} {v : Value} {l : List UInt8} (h : RdB w v l) : ∃ ao n cap, v = .slice ao n cap ∧ l.length = n ∧ n ≤ cap := by
  obtain ⟨_, _, ao, cap, rfl, h, _⟩ := h; exact ⟨ao, _, cap, rfl, rfl, h⟩
/-- Bytes in a block that was just laid. -/
theorem rdB_lit {w : World} {cs : Array Value} {e : TypeId} {l : List UInt8} (hx : cs.toList = cBs l) (hn : l.length ≤ 1000000) : RdB (w.alloc (.cells cs e)) (.slice (some ⟨w.heap.size, 0, none⟩) l.length l.length) l :=
  rd_lit hx (by simp) (by unfold maxLen; omega) (cBs_one _)
theorem rdB_blk {w : World} {g : Nat} {T : TypeId} {l : List UInt8} (h : Blk w g (cBs l) T) (hn : l.length ≤ 1000000) : RdB w (.slice (some ⟨g, 0, none⟩) l.length l.length) l :=
  rd_blk h (by simp) (by unfold maxLen; omega) (cBs_one _)
theorem ownB_lit {w : World} {cs : Array Value} {l : List UInt8} (hx : cs.toList = cBs l) (hn : l.length ≤ 1000000) : OwnB (w.alloc (.cells cs 5)) (.slice (some ⟨w.heap.size, 0, none⟩) l.length l.length) l := by
  have hb := Blk.new w cs 5
  rw [hx] at hb
  exact own_blk hb (by simp) (by unfold maxLen; omega)

/-- Two lists, place by place. -/
inductive All2 {α β : Type} (R : α → β → Prop) : List α → List β → Prop
  | nil : All2 R [] []
  | cons {a : α} {b : β} {l : List α} {m : List β} : R a b → All2 R l m → All2 R (a :: l) (b :: m)
theorem All2.get {α β : Type} {R : α → β → Prop} {l : List α} {m : List β} (h : All2 R l m) : ∀ (k : Nat) (y : β), m[k]? = some y → ∃ x, l[k]? = some x ∧ R x y := by
  induction h with
  | nil => intro k y hy; simp at hy
  | cons h _ ih =>
    intro k y hy
    cases k with
    | zero => simp only [List.getElem?_cons_zero, Option.some.injEq] at hy ⊢; subst hy; exact ⟨_, rfl, h⟩
    | succ k => simp only [List.getElem?_cons_succ] at hy ⊢; exact ih k y hy
theorem All2.mono {α β : Type} {R R' : α → β → Prop} {l : List α} {m : List β} (h : All2 R l m) (hr : ∀ x y, R x y → R' x y) : All2 R' l m := by
  induction h with
  | nil => exact .nil
  | cons h _ ih => exact .cons (hr _ _ h) ih
/-- A slice of slices of bytes. -/
def RdP (w : World) (v : Value) (ls : List (List UInt8)) : Prop := ∃ vs : List Value, Rd w 1 v ls.length vs ∧ All2 (RdB w) vs ls
theorem RdP.ext {w w' : World} {v : Value} {ls : List (List UInt8)} (h : RdP w v ls) (hx : Ext w w') : RdP w' v ls := by
  obtain ⟨vs, h1, h2⟩ := h; exact ⟨vs, h1.ext hx, h2.mono fun _ _ h => Rd.ext h hx⟩

section
variable {w : World} {ops : Array Oper} {rest : List Oper} {o : Oper} {a : Act} {Q : Exit → Act → World → Prop}
/-- An append of bytes. -/
theorem ex_apB (s x : Operand) {v vx : Value} {xs news : List UInt8} (hown : OwnB w v xs) (hr : RdB w vx news) (hb : xs.length + news.length ≤ 140737488355328)
    (hs : a.eval s = v) (hx : a.eval x = vx) (ho : o.op = .call { callee := .builtin .append, args := #[s, x], argTypes := #[22, 22] }) :
    ∃ v' w', (execOp a.eval o).run Try.prog w = .ok (.value v') w' ∧ OwnB w' v' (xs ++ news) ∧ GB w w' v v' := by
  obtain ⟨v', w', hr, h1, h2, _⟩ := ex_append (P := Try.prog) (w := w) (a := a) (o := o) Try.stB s x hown hr hs hx ho (by omega)
  refine ⟨v', w', hr, ?_, h2⟩
  have h1' : Own w' 5 1 v' (xs ++ news).length (cBs (xs ++ news)) := by rw [List.length_append, cBs_append]; exact h1
  exact h1'
/-- A part of bytes. -/
theorem ex_slB (x : Operand) (lo hi : Option Operand) {v : Value} {xs : List UInt8} (hr : RdB w v xs) (l h : Nat)
    (hx : a.eval x = v) (hlo : (lo.map a.eval = none ∧ l = 0) ∨ ∃ k, lo.map a.eval = some (.int k (l : Int))) (hhi : (hi.map a.eval = none ∧ h = xs.length) ∨ ∃ k, hi.map a.eval = some (.int k (h : Int))) (ho : o.op = .slice 22 x lo hi none) (h1 : l ≤ h) (h2 : h ≤ xs.length) :
    ∃ v' w', (execOp a.eval o).run Try.prog w = .ok (.value v') w' ∧ RdB w v' ((xs.drop l).take (h - l)) ∧ v'.ownBlock = v.ownBlock ∧ w = w' := by
  obtain ⟨v', w', hr, h3, h4, h5⟩ := ex_slice (P := Try.prog) (w := w) (a := a) (o := o) Try.stB x lo hi hr l h hx hlo hhi ho h1 h2
  refine ⟨v', w', hr, ?_, h4, h5⟩
  have hl : ((xs.drop l).take (h - l)).length = h - l := by simp; omega
  have h3' : Rd w 1 v' ((xs.drop l).take (h - l)).length (cBs ((xs.drop l).take (h - l))) := by
    rw [hl, cBs_take, cBs_drop]
    simpa using h3
  exact h3'
end
end Go.Proofs.Ytjgcjddaladgfaa
