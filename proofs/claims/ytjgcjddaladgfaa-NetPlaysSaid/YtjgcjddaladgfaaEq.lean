/- Two sums held against each other, as an operation. -/
import Derived.Test.YtjgcjddaladgfaaOpen
namespace Go.Proofs.Ytjgcjddaladgfaa
open Go.RowKit Go.Bz
section
variable {w : World} {a : Act} {o : Oper}
theorem eqT {x y : Operand} {l m : List UInt8} {b : Bool} {rt : TypeId} (ho : o.op = .binOp .eql 45 x y rt) (hx : a.eval x = .agg (cBs l).toArray) (hy : a.eval y = .agg (cBs m).toArray) (hl : l.length = 32) (hm : m.length = 32) (h : (l == m) = b) :
    (execOp a.eval o).run Try.prog w = .ok (.value (.bool b)) w := by
  unfold execOp
  simp only [ho, hx, hy, Sem.run_bind, run_eqGuard_agg (hm := Try.eqGuardType45), Result.andThen_ok, eqS w l m hl hm, Sem.run_pure, h]
theorem neT {x y : Operand} {l m : List UInt8} {b : Bool} {rt : TypeId} (ho : o.op = .binOp .neq 45 x y rt) (hx : a.eval x = .agg (cBs l).toArray) (hy : a.eval y = .agg (cBs m).toArray) (hl : l.length = 32) (hm : m.length = 32) (h : (l == m) = b) :
    (execOp a.eval o).run Try.prog w = .ok (.value (.bool (!b))) w := by
  unfold execOp
  simp only [ho, hx, hy, Sem.run_bind, run_eqGuard_agg (hm := Try.eqGuardType45), Result.andThen_ok, neS w l m hl hm, Sem.run_pure, h]
end
end Go.Proofs.Ytjgcjddaladgfaa
