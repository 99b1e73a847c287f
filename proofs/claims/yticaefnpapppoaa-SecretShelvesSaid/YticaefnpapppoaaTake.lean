/- Values that do not hang on the order of a drawn region: loads and comparisons under a condition on the world. -/
import Derived.Test.YticaefnpapppoaaOpen
import Derived.Test.YticaefnpapppoaaSecret
import Derived.Test.YticaefnpapppoaaLit
import Derived.Test.YticaefnpapppoaaEq
namespace Go.Bz
open Go.RowKit
end Go.Bz

namespace Go.Proofs.Yticaefnpapppoaa
open Go.RowKit Go.Bz

section
variable {w : World} {a : Act} {o : Oper}
/-- A sum that lies in a block. -/
theorem ldS {g : Nat} {l : List UInt8} {T : TypeId} (hb : Blk w g (cBs l) T) (hl : l.length = 32) (x : Operand) (hx : a.eval x = .pointer (some ⟨g, 0, none⟩)) (ho : o.op = .load 26 x) :
    (execOp a.eval o).run Try.prog w = .ok (.value (.agg (cBs l).toArray)) w := by
  obtain ⟨v, w', h, rfl, rfl⟩ := ex_load 26 x hb hx ho Try.underlying26 rfl (Try.szS.trans (by simp [hl]))
  exact h
/-- One cell of a block. -/
theorem ld1 {P : Program} {g j : Nat} {cs : List Value} {T ty : TypeId} {v : Value} (hb : Blk w g cs T) (hv : cs[j]? = some v) (x : Operand) (hx : a.eval x = .pointer (some ⟨g, j, none⟩)) (ho : o.op = .load ty x)
    {d : TypeDesc} (hu : P.underlying ty = some d) (hd : d.isRow = false) (hs : (P.info? ty).map (·.size) = some 1) : (execOp a.eval o).run P w = .ok (.value v) w := by
  have hc : w.cell? ⟨g, j, none⟩ = some v := by rw [hb.cell]; exact hv
  have hag : (isAgg ty).run P w = .ok false w := by
    unfold isAgg
    simp only [Sem.run_bind, run_underlying hu, Result.andThen_ok]
    cases d <;> first | rfl | simp [TypeDesc.isRow] at hd
  cases hq : P.info? ty with
  | none => simp [hq] at hs
  | some i =>
    have h1 : i.size = 1 := by simpa [hq] using hs
    unfold execOp
    simp only [ho, hx, Instr.loadAt, Instr.sureAddr, Sem.run_bind, Sem.run_pure, Result.andThen_ok, loadVar, sizeOf, typeInfo, hag]
    simp [hq, h1, hc]
theorem ex_load1 {P : Program} {g j : Nat} {cs : List Value} {T ty : TypeId} {v : Value} (hb : Blk w g cs T) (hv : cs[j]? = some v) (x : Operand) (hx : a.eval x = .pointer (some ⟨g, j, none⟩)) (ho : o.op = .load ty x)
    {d : TypeDesc} (hu : P.underlying ty = some d) (hd : d.isRow = false) (hs : (P.info? ty).map (·.size) = some 1) : ∃ v' w', (execOp a.eval o).run P w = .ok (.value v') w' ∧ v' = v ∧ w = w' :=
  ⟨_, _, ld1 hb hv x hx ho hu hd hs, rfl, rfl⟩
theorem bldZ (ho : o.op = .build 26 #[]) : (execOp a.eval o).run Try.prog w = .ok (.value (.agg (cBs (List.replicate 32 0)).toArray)) w := by
  unfold execOp
  simp only [ho]
  go_simp
  rfl
end
end Go.Proofs.Yticaefnpapppoaa
