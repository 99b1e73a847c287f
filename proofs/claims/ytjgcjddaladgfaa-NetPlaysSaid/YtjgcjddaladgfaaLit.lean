/- A literal of one part of many cells. -/
import Derived.Test.YtjgcjddaladgfaaMem
namespace Go.Bz
open Go.RowKit
theorem foldl_set_size (cs : List Value) : ∀ (k : Nat) (old : Array Value), ((cs.zipIdx k).foldl (fun c x => c.setIfInBounds (0 + x.2) x.1) old).size = old.size := by
  induction cs with
  | nil => intro k old; rfl
  | cons c cs ih => intro k old; simp only [List.zipIdx_cons, List.foldl_cons]; rw [ih]; simp
theorem foldl_set_get (cs : List Value) : ∀ (k : Nat) (old : Array Value) (i : Nat), ((cs.zipIdx k).foldl (fun c x => c.setIfInBounds (0 + x.2) x.1) old)[i]? = if k ≤ i ∧ i < k + cs.length ∧ i < old.size then cs[i - k]? else old[i]? := by
  induction cs with
  | nil => intro k old i; simp; omega
  | cons c cs ih =>
    intro k old i
    simp only [List.zipIdx_cons, List.foldl_cons]
    rw [ih, Nat.zero_add]
    simp only [Array.size_setIfInBounds, Array.getElem?_setIfInBounds, List.length_cons]
    by_cases h1 : k = i
    · subst h1
      rw [if_neg (by omega), if_pos rfl]
      by_cases h2 : k < old.size
      · rw [if_pos h2, if_pos (by omega)]; simp
      · rw [if_neg h2, if_neg (by omega), Array.getElem?_eq_none (by omega)]
    · by_cases h2 : k + 1 ≤ i ∧ i < k + 1 + cs.length ∧ i < old.size
      · rw [if_pos h2, if_pos (by omega), show i - k = (i - (k + 1)) + 1 from by omega, List.getElem?_cons_succ]
      · rw [if_neg h2, if_neg h1, if_neg (by omega)]
theorem fold_all (cs old : Array Value) (h : old.size = cs.size) : cs.zipIdx.foldl (fun c x => c.setIfInBounds (0 + x.2) x.1) old = cs := by
  rw [← Array.foldl_toList, Array.toList_zipIdx]
  apply Array.ext_getElem?
  intro i
  rw [foldl_set_get]
  by_cases hi : i < cs.size
  · simp [h, hi]
  · simp [h, hi]
theorem ex_lit1 {P : Program} {w : World} {a : Act} {o : Oper} {t e : TypeId} {z : Value} {size bytes : Nat} (T : ST P t e z size bytes) (x : Operand) {cs : List Value} (hx : a.eval x = .agg cs.toArray) (hl : cs.length = size) (hsz : size ≤ 1000) (ho : o.op = .buildSlice t 1 #[(0, x)]) :
    ∃ v w', (execOp a.eval o).run P w = .ok (.value v) w' ∧ v = .slice (some ⟨w.heap.size, 0, none⟩) 1 1 ∧ Blk w' w.heap.size cs e ∧ Ext w w' ∧ w'.heap.size = w.heap.size + 1 := by
  obtain ⟨ht, hinfo, hzs, hpos, _⟩ := T
  obtain ⟨i, hi, hz, hsize, _⟩ := info_parts hinfo
  refine ⟨_, w.alloc (.cells cs.toArray e), ?_, rfl, Blk.new w _ e, Ext.alloc _ _, by simp⟩
  unfold execOp
  have hf : Instr.fill (fun i => some (i * size, size)) ((Array.range size).map (z.cells[· % z.cells.size]!)) [(0, Value.agg cs.toArray)] = some cs.toArray := by
    unfold Instr.fill
    have hc : (Value.agg cs.toArray).cells = cs.toArray := rfl
    simp only [hc, Nat.zero_mul]
    rw [if_neg (by simp [hl])]
    rw [show cs.toArray.zipIdx.foldl (fun c x => c.setIfInBounds (0 + x.2) x.1) ((Array.range size).map (z.cells[· % z.cells.size]!)) = cs.toArray from fold_all _ _ (by simp [hl])]
    rfl
  simp only [ho, Instr.buildSlice, Sem.run_bind, run_underlying ht, Result.andThen_ok, sizeOf, typeInfo, hi, hsize, Sem.run_pure]
  simp [hi, hsize, hz, zeroValue, typeInfo, hx, hf, newRow, hpos, show ¬ 2 ^ 24 < size from by omega, show ¬ size = 0 from by omega]
end Go.Bz
