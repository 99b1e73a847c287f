/- A literal of parts of many cells. -/
import Derived.Test.YtjgcjddaladgfaaHeap2
namespace Go.Bz
open Go.RowKit
/-- Values and their cells. -/
inductive CellsOf (size : Nat) : List Value → List (List Value) → Prop where
  | nil : CellsOf size [] []
  | cons {v : Value} {cs : List Value} {vs : List Value} {css : List (List Value)} (h : v.cells = cs.toArray) (hl : cs.length = size) (t : CellsOf size vs css) : CellsOf size (v :: vs) (cs :: css)
theorem fill_rows {size : Nat} {vs : List Value} {css : List (List Value)} (h : CellsOf size vs css) : ∀ (pre rest : List Value) (k : Nat), pre.length = k * size → rest.length = vs.length * size →
    Instr.fill (fun i => some (i * size, size)) (pre ++ rest).toArray ((vs.zipIdx k).map fun p => (p.2, p.1)) = some (pre ++ css.flatten).toArray := by
  induction h with
  | nil => intro pre rest k _ hr; have : rest = [] := List.eq_nil_of_length_eq_zero (by simpa using hr); subst this; simp [Instr.fill]
  | @cons v cs vs css hv hl _ ih =>
    intro pre rest k hp hr
    rw [List.length_cons, Nat.succ_mul] at hr
    rw [List.zipIdx_cons, List.map_cons]
    have e1 : rest = rest.take size ++ rest.drop size := (List.take_append_drop _ _).symm
    have e2 : lay (pre ++ rest) (k * size) cs = pre ++ (cs ++ rest.drop size) := by
      conv => lhs; rw [e1]
      exact lay_app hp (by simp; omega)
    refine fillM (place := fun i => some (i * size, size)) (cells' := pre ++ (cs ++ rest.drop size)) (cs := cs) (off := k * size) (n := size) rfl hv hl (by simp; omega) e2 ?_
    have := ih (pre ++ cs) (rest.drop size) (k + 1) (by rw [List.length_append, hp, hl, Nat.succ_mul]) (by simp; omega)
    rw [List.append_assoc] at this
    rw [this, List.flatten_cons, List.append_assoc]
section
variable {P : Program} {N : Nat → Prop} {w0 w : World} {L : List MemO} {a : Act} {o : Oper}
theorem hx_litM (hH : Heap N w0 w L) {t e : TypeId} {n size bytes : Nat} {z : Value} (T : ST P t e z size bytes) (xs : List Operand) {vs : List Value} {css : List (List Value)} (ho : o.op = .buildSlice t n (xs.zipIdx.map fun p => (p.2, p.1)).toArray) (hv : xs.map a.eval = vs) (hc : CellsOf size vs css) (hn : xs.length = n) (hsz : n * size ≤ 1000000) {cs : List Value} {nm : Nat} (hcs : css.flatten = cs) (hnm : n = nm) :
    ∃ v w', (execOp a.eval o).run P w = .ok (.value v) w' ∧ Heap N w0 w' (L ++ [oOwn e size v nm cs]) ∧ Ext w w' := by
  subst hnm hcs
  obtain ⟨ht, hinfo, hzs, hpos, _⟩ := T
  obtain ⟨i, hi, hz, hsize, _⟩ := info_parts hinfo
  have hlv : vs.length = n := by rw [← hv, List.length_map, hn]
  have hl : css.flatten.length = n * size := by
    rw [← hlv]
    clear hv hlv
    induction hc with
    | nil => simp
    | cons _ hl _ ih => rw [List.flatten_cons, List.length_append, hl, ih, List.length_cons, Nat.succ_mul]; omega
  have hp : ((xs.zipIdx.map fun p => (p.2, p.1)).toArray.map fun p => (p.1, a.eval p.2)).toList = (vs.zipIdx.map fun p => (p.2, p.1)) := by
    rw [← hv]
    simp [List.zipIdx_map, Function.comp_def]
  have hmax : n ≤ maxLen := by
    have := Nat.le_mul_of_pos_right n hpos
    unfold maxLen; omega
  refine ⟨_, w.alloc (.cells css.flatten.toArray e), ?_, hH.addOwn (Ext.alloc _ _) (fun k hk => ?_) (own_blk (g := w.heap.size) (by have := Blk.new w css.flatten.toArray e; simpa using this) hl hmax), Ext.alloc _ _⟩
  · have h24 : ¬ 16777216 < n * size := by omega
    have hf := fill_rows hc [] ((Array.range (n * size)).map (fun i => z.cells[i % z.cells.size]!)).toList 0 (by simp) (by simp [hlv])
    rw [List.nil_append, List.nil_append] at hf
    unfold execOp
    simp only [ho, Instr.buildSlice, Sem.run_bind, run_underlying ht, Result.andThen_ok, sizeOf, typeInfo, hi, hsize, Sem.run_pure]
    simp only [hp]
    by_cases h0 : n * size = 0
    · have hn0 : n = 0 := by rcases Nat.mul_eq_zero.1 h0 with h | h <;> omega
      subst hn0
      have : vs = [] := List.eq_nil_of_length_eq_zero hlv
      subst this
      cases hc
      simp [hi, hsize, Instr.fill, newRow, Array.range_zero']
    · simp only [Array.toArray_toList] at hf
      simp only [hi, hsize, hz, zeroValue, typeInfo, newRow, hf, show (2 : Nat) ^ 24 = 16777216 from rfl, h24, h0, if_false, Sem.run_bind, Sem.run_pure, Result.andThen_ok, gt_iff_lt, run_program]
      rfl
  · simp [Value.ownBlock] at hk; omega
end
end Go.Bz
