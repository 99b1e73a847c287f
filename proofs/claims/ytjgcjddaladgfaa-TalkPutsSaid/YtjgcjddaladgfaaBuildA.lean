/- A literal of an array, by its parts. -/
import Derived.Test.YtjgcjddaladgfaaHeap2
namespace Go.Bz
open Go.RowKit
section
variable {P : Program} {w : World} {a : Act} {o : Oper}
theorem rv_buildA {t e : TypeId} {ps : List (Nat × Operand)} {vs : List (Nat × Value)} {n size : Nat} {zc cs : List Value} {z : Value} (ho : o.op = .build t ps.toArray) (hv : ps.map (fun p => (p.1, a.eval p.2)) = vs) (hz : (P.info? t).map (·.zero) = some (some z)) (hzc : z.cells = zc.toArray) (hu : P.underlying t = some (.array n e))
    (hs : (P.info? e).map (·.size) = some size) (hf : Instr.fill (fun i => some (i * size, size)) zc.toArray vs = some cs.toArray) : (execOp a.eval o).run P w = .ok (.value (.agg cs.toArray)) w := by
  have hz' : (zeroValue t).run P w = .ok z w := by
    cases hq : P.info? t with
    | none => simp [hq] at hz
    | some inf =>
      have : inf.zero = some z := by simpa [hq] using hz
      simp [zeroValue, typeInfo, hq, this]
  have hs' : (sizeOf e).run P w = .ok size w := by
    cases hq : P.info? e with
    | none => simp [hq] at hs
    | some inf =>
      have : inf.size = size := by simpa [hq] using hs
      simp [sizeOf, typeInfo, hq, this]
  unfold execOp
  simp only [ho, Instr.build, Sem.run_bind, hz', Result.andThen_ok, run_underlying hu, hs', hzc]
  have e : (ps.toArray.map fun x => (x.1, a.eval x.2)).toList = vs := by rw [← hv]; simp
  simp only [e, hf, Sem.run_pure]
  rfl
end
end Go.Bz
