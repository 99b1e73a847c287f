/- append to nothing. -/
import Derived.Test.YtjgcjddaladgfaaHeap2
namespace Go.Bz
open Go.RowKit
section
variable {P : Program} {N : Nat → Prop} {w0 w : World} {L : List MemO} {a : Act} {o : Oper}
/-- append to nothing: new memory alone. -/
theorem hx_appendN (hH : Heap N w0 w L) {t e : TypeId} {z : Value} {size bytes : Nat} (T : ST P t e z size bytes) {s x : Operand} {vx : Value} {m : Nat} {news : List Value} (ho : o.op = .call { callee := .builtin .append, args := #[s, x], argTypes := #[t, t] })
    {nm : Nat} {xs' : List Value} (hnm : m = nm) (hxs : news = xs') (hr : Rd w size vx m news) (hs : a.eval s = .slice none 0 0) (hx : a.eval x = vx) (hbytes : nm * bytes ≤ 140737488355328) :
    ∃ v' w', (execOp a.eval o).run P w = .ok (.value v') w' ∧ Heap N w0 w' (L ++ [oOwn e size v' nm xs']) ∧ Ext w w' := by
  subst hnm hxs
  obtain ⟨v', w', h1, h2, h3, _⟩ := ex_append (P := P) (w := w) (a := a) T s x (World.ownsRow_nil _ 0 e size) hr hs hx ho (by simpa using hbytes)
  have hE : Ext w w' := h3.chg.mono fun k _ hk => by simp [Value.ownBlock] at hk
  refine ⟨v', w', h1, hH.addOwn hE (fun k hk => ?_) (by simpa using h2), hE⟩
  rcases h3.blk with h | ⟨g, g1, g2, g3⟩
  · rw [h] at hk; simp [Value.ownBlock] at hk
  · rw [g3] at hk; obtain rfl := Option.some.inj hk; exact g1
end
end Go.Bz
