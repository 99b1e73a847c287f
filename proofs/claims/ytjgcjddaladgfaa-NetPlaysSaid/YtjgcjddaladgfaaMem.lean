/- Own rules for printed walks: what lays new memory (a literal, make, a variable), by lists of cells. No seat's number stands here. -/
import Derived.Test.YtjgcjddaladgfaaRun
import Derived.Test.YtjgcjddaladgfaaOf
import Derived.Laws.MakeOwn
namespace Go.Bz
open Go.RowKit
variable {P : Program} {w : World} {a : Act} {o : Oper}

theorem cells_one {v : Value} (h : v.oneCell' = true) : v.cells = #[v] := by cases v <;> first | rfl | simp [Value.oneCell'] at h
theorem fill_ones (z : Value) : ∀ (vs pre : List Value) (m : Nat), (∀ v ∈ vs, v.oneCell' = true) → m = vs.length →
    Instr.fill (fun i => some (i * 1, 1)) (pre ++ List.replicate m z).toArray ((vs.zipIdx pre.length).map fun p => (p.2, p.1)) = some (pre ++ vs).toArray := by
  intro vs
  induction vs with
  | nil => intro pre m _ hm; subst hm; simp [Instr.fill]
  | cons v vs ih =>
    intro pre m h1 hm
    subst hm
    have hv := cells_one (h1 v (List.mem_cons_self ..))
    simp only [List.zipIdx_cons, List.map_cons, Instr.fill, hv]
    rw [if_neg (by simp)]
    have e : (#[v] : Array Value).zipIdx.foldl (fun cs x => cs.setIfInBounds (pre.length * 1 + x.2) x.1) (pre ++ List.replicate (v :: vs).length z).toArray = ((pre ++ [v]) ++ List.replicate vs.length z).toArray := by
      simp [List.replicate_succ]
    have := ih (pre ++ [v]) vs.length (fun u hu => h1 u (List.mem_cons_of_mem _ hu)) rfl
    simp only [List.length_append, List.length_cons, List.length_nil, Nat.zero_add] at this
    rw [show (Array.foldl (fun cs (x : Value × Nat) => cs.setIfInBounds (pre.length * 1 + x.2) x.1) (pre ++ List.replicate (v :: vs).length z).toArray (#[v] : Array Value).zipIdx) = _ from e, this]
    simp

/-- A literal of one-cell parts, all of them, in order. -/
theorem ex_lits {t e : TypeId} {n bytes : Nat} {z : Value} (T : ST P t e z 1 bytes) (xs : List Operand) {vs : List Value} (hv : xs.map a.eval = vs) (h1 : ∀ v ∈ vs, v.oneCell' = true) (hn : xs.length = n) (hsz : n ≤ 1000) (ho : o.op = .buildSlice t n (xs.zipIdx.map fun p => (p.2, p.1)).toArray) :
    ∃ v w', (execOp a.eval o).run P w = .ok (.value v) w' ∧ ∃ g, w.heap.size = g ∧ v = .slice (some ⟨g, 0, none⟩) n n ∧ Blk w' g vs e ∧ Ext w w' := by
  have h24 : ¬ 16777216 < n * 1 := by omega
  obtain ⟨ht, hinfo, hzs, _, _⟩ := T
  obtain ⟨i, hi, hz, hsize, _⟩ := info_parts hinfo
  refine ⟨_, w.alloc (.cells vs.toArray e), ?_, _, rfl, rfl, by have := Blk.new w vs.toArray e; simpa using this, Ext.alloc _ _⟩
  have hzc : z.cells.size = 1 := hzs
  have hlv : vs.length = n := by rw [← hv, List.length_map, hn]
  have hp : ((xs.zipIdx.map fun p => (p.2, p.1)).toArray.map fun p => (p.1, a.eval p.2)).toList = (vs.zipIdx.map fun p => (p.2, p.1)) := by
    rw [← hv]
    simp [List.zipIdx_map, Function.comp_def]
  unfold execOp
  simp only [ho, Instr.buildSlice, Sem.run_bind, run_underlying ht, Result.andThen_ok, sizeOf, typeInfo, hi, hsize, Sem.run_pure]
  simp only [hp]
  by_cases h0 : n = 0
  · subst h0
    obtain rfl : vs = [] := List.eq_nil_of_length_eq_zero hlv
    simp [hi, hsize, Instr.fill, newRow, Array.range_zero']
  · have hc : (Array.range (n * 1)).map (fun i => z.cells[i % z.cells.size]!) = (List.replicate n (z.cells[0]!)).toArray := by
      apply Array.ext
      · simp
      · intro j h1 h2; simp [hzc, Nat.mod_one]
    have hf := fill_ones (z.cells[0]!) vs [] n h1 hlv.symm
    simp only [List.nil_append, List.length_nil] at hf
    have hn1 : ¬ n * 1 = 0 := by omega
    simp only [hi, hsize, hz, zeroValue, typeInfo, newRow, hc, hf, show (2 : Nat) ^ 24 = 16777216 from rfl, h24, hn1, if_false, Sem.run_bind, Sem.run_pure, Result.andThen_ok, gt_iff_lt, run_program]
    rfl
/-- make: n elements, all zero, room for c. -/
theorem ex_make {t e : TypeId} {n c size bytes : Nat} {z z1 : Value} (T : ST P t e z size bytes) (x y : Operand) {k k2 : IntKind} (hx : a.eval x = .int k (n : Int)) (hy : a.eval y = .int k2 (c : Int)) (hnc : n ≤ c) (hb : c * bytes ≤ 140737488355328) (hz : z.cells = (List.replicate size z1).toArray) (ho : o.op = .makeSlice t x y) :
    ∃ v w', (execOp a.eval o).run P w = .ok (.value v) w' ∧ ∃ g, w.heap.size = g ∧ v = .slice (some ⟨g, 0, none⟩) n c ∧ Blk w' g (List.replicate (c * size) z1) e ∧ Ext w w' := by
  obtain ⟨ht, hinfo, hzs, hpos, hbp⟩ := T
  obtain ⟨i, hi, hzi, hsize, hby⟩ := info_parts hinfo
  subst hsize
  subst hby
  have hc1 : c ≤ 140737488355328 := Nat.le_trans (Nat.le_mul_of_pos_right c hbp) hb
  have hb' : (i.bytes : Int) * c ≤ 281474976710656 := by rw [Int.mul_comm]; have : ((c * i.bytes : Nat) : Int) ≤ 140737488355328 := Int.ofNat_le.2 hb
                                                         rw [Int.natCast_mul] at this; omega
  have hr := run_make (P := P) w t e i z ht hi hzi k k2 (n : Int) (c : Int) (by omega) (by omega) hb' (by omega)
  have hc : madeCells z.cells ((c : Int).toNat * i.size) = (List.replicate (c * i.size) z1).toArray := by
    apply Array.ext
    · simp [madeCells]
    · intro j h1 h2
      have : j % i.size < i.size := Nat.mod_lt _ hpos
      simp [madeCells, hz, this]
  rw [hc] at hr
  refine ⟨_, w.alloc (.cells (List.replicate (c * i.size) z1).toArray e), ?_, _, rfl, rfl, by have := Blk.new w (List.replicate (c * i.size) z1).toArray e; simpa using this, Ext.alloc _ _⟩
  unfold execOp
  simp only [ho, hx, hy, Sem.run_bind, hr, Result.andThen_ok, Sem.run_pure, Int.toNat_natCast]
/-- A new variable, zero. -/
theorem ex_allocG (T : TypeId) {z : Value} {n : Nat} {cs : List Value} (hinfo : (P.info? T).map (fun i => (i.zero, i.size)) = some (some z, n)) (hc : z.cells.toList = cs) (ho : o.op = .alloc T) :
    ∃ v w', (execOp a.eval o).run P w = .ok (.value v) w' ∧ ∃ g, w.heap.size = g ∧ v = .pointer (some ⟨g, 0, none⟩) ∧ Blk w' g cs T ∧ Ext w w' := by
  obtain ⟨v, w', h1, h2, h3, h4, _⟩ := ex_alloc (P := P) (w := w) (a := a) T hinfo ho
  exact ⟨v, w', h1, _, rfl, h2, hc ▸ h3, h4⟩
/-- A new variable that holds a value. -/
theorem ex_boxG (T : TypeId) (x : Operand) {v : Value} {cs : List Value} (hx : a.eval x = v) (hc : v.cells.toList = cs) (ho : o.op = .box T x) :
    ∃ v w', (execOp a.eval o).run P w = .ok (.value v) w' ∧ ∃ g, w.heap.size = g ∧ v = .pointer (some ⟨g, 0, none⟩) ∧ Blk w' g cs T ∧ Ext w w' := by
  obtain ⟨v, w', h1, h2, h3, h4, _⟩ := ex_box (P := P) (w := w) (a := a) T x hx ho
  exact ⟨v, w', h1, _, rfl, h2, hc ▸ h3, h4⟩
/-- A whole variable, by value. -/
theorem rv_loadW {ty : TypeId} {x : Operand} {g : Nat} {cs : List Value} {T : TypeId} {d : TypeDesc} (ho : o.op = .load ty x) (hb : Blk w g cs T) (hx : a.eval x = .pointer (some ⟨g, 0, none⟩))
    (hu : P.underlying ty = some d) (hd : (match d with | .struct _ | .array _ _ => true | _ => false) = true) (hi : (P.info? ty).map (·.size) = some cs.length) : (execOp a.eval o).run P w = .ok (.value (.agg cs.toArray)) w := by
  obtain ⟨v, w', h, rfl, rfl⟩ := ex_load (P := P) (w := w) (a := a) ty x hb hx ho hu hd hi
  exact h
/-- A part of a variable, of several cells, by value. -/
theorem rv_loadP {ty : TypeId} {x : Operand} {g off n : Nat} {cs cs' : List Value} {T : TypeId} {d : TypeDesc} (ho : o.op = .load ty x) (hb : Blk w g cs T) (hcs : (cs.drop off).take n = cs') (hl : cs'.length = n) (hx : a.eval x = .pointer (some ⟨g, off, none⟩))
    (hu : P.underlying ty = some d) (hd : d.isRow = true) (hi : (P.info? ty).map (·.size) = some n) : (execOp a.eval o).run P w = .ok (.value (.agg cs'.toArray)) w := by
  obtain ⟨v', w', h, rfl, rfl⟩ := ex_load_at (P := P) (w := w) (a := a) (o := o) ty x (b := g) (off := off) (cs := cs') (fun j u hu => by
    rw [← hcs] at hu
    rw [hb.cell]
    rw [List.getElem?_take] at hu
    split at hu
    · rwa [List.getElem?_drop] at hu
    · cases hu) hx ho hu hd (by rw [hl]; exact hi)
  exact h
/-- One cell of a variable. -/
theorem rv_load1 {ty : TypeId} {x : Operand} {g j : Nat} {cs : List Value} {T : TypeId} {v : Value} {d : TypeDesc} (ho : o.op = .load ty x) (hb : Blk w g cs T) (hv : cs[j]? = some v) (hx : a.eval x = .pointer (some ⟨g, j, none⟩))
    (hu : P.underlying ty = some d) (hd : d.isRow = false) (hs : (P.info? ty).map (·.size) = some 1) : (execOp a.eval o).run P w = .ok (.value v) w := by
  have hc : w.cell? ⟨g, j, none⟩ = some v := by rw [hb.cell]; exact hv
  have hag : (isAgg ty).run P w = .ok false w := by
    unfold isAgg
    simp only [Sem.run_bind, run_underlying hu, Result.andThen_ok]
    cases d <;> first | rfl | simp [TypeDesc.isRow] at hd
  cases hq : P.info? ty with
  | none => simp [hq] at hs
  | some i =>
    have h1 : i.size = 1 := by simpa [hq] using hs
    unfold execOp
    simp only [ho, hx, Instr.loadAt, Instr.sureAddr, Sem.run_bind, Sem.run_pure, Result.andThen_ok, loadVar, sizeOf, typeInfo, hag]
    simp [hq, h1, hc]
/-- A whole variable written. -/
theorem ex_storeW {ty : TypeId} {x y : Operand} {g : Nat} {old cs : List Value} {T : TypeId} (ho : o.op = .store ty x y) (hb : Blk w g old T) (hx : a.eval x = .pointer (some ⟨g, 0, none⟩)) (hy : a.eval y = .agg cs.toArray)
    (hi : (P.info? ty).map (·.size) = some cs.length) (hl : old.length = cs.length) (h1 : ∀ u ∈ cs, u.oneCell' = true) :
    ∃ w', (execOp a.eval o).run P w = .ok .skip w' ∧ Blk w' g cs T ∧ Chg (· = g) w w' := by
  obtain ⟨w', h1, h2, h3, _⟩ := ex_store (P := P) (w := w) (a := a) (o := o) ty x y hb hx hy ho hi hl h1
  exact ⟨w', h1, h2, h3⟩
/-- One cell written. -/
theorem ex_storeC {ty : TypeId} {x y : Operand} {g j : Nat} {cs cs' : List Value} {T : TypeId} {v : Value} (ho : o.op = .store ty x y) (hb : Blk w g cs T) (hj : j < cs.length) (hcs : cs.set j v = cs') (hx : a.eval x = .pointer (some ⟨g, j, none⟩)) (hy : a.eval y = v)
    (hi : (P.info? ty).map (·.size) = some 1) (h1 : v.oneCell' = true) : ∃ w', (execOp a.eval o).run P w = .ok .skip w' ∧ Blk w' g cs' T ∧ Chg (· = g) w w' := by
  obtain ⟨w', h1, h2, h3, _⟩ := ex_store1 (P := P) (w := w) (a := a) (o := o) ty x y hb hj hx hy ho hi h1
  exact ⟨w', h1, hcs ▸ h2, h3⟩
theorem cBs_len {l : List UInt8} {n : Nat} (h : l.length = n) : (cBs l).length = n := by simp [h]
theorem sz_len {ty : TypeId} {n : Nat} {cs : List Value} (h : (P.info? ty).map (·.size) = some n) (hl : cs.length = n) : (P.info? ty).map (·.size) = some cs.length := by rw [hl]; exact h
theorem Blk.rd {g n size : Nat} {cs : List Value} {T : TypeId} (hb : Blk w g cs T) (hl : cs.length = n * size) (hn : n ≤ 140737488355328) (h1 : ∀ u ∈ cs, u.oneCell' = true) : Rd w size (.slice (some ⟨g, 0, none⟩) n n) n cs := rd_blk hb hl (by unfold maxLen; omega) h1
theorem quo_nat {m n : Nat} (h : m ≤ 9223372036854775807 ∧ 1 ≤ n) : IntKind.i64.wrap ((m : Int).tdiv (n : Int)) = ((m / n : Nat) : Int) := by
  rw [IntWalk.i64_quo _ _ (by omega), Int.natCast_ediv]
theorem wrap_nat {n : Nat} (h : n ≤ 9223372036854775807) : IntKind.i64.wrap (n : Int) = (n : Int) := wrap_i64 rfl (by omega) (by omega)
theorem rem_nat (m n : Nat) : (m : Int).tmod (n : Int) = ((m % n : Nat) : Int) := by
  rw [Int.tmod_eq_emod_of_nonneg (by omega)]; omega
theorem shr_int {z : Int} {k : IntKind} (n : Nat) (h : n ≤ k.bits) : z.fdiv (2 ^ min n k.bits) = z / 2 ^ n := by
  rw [Nat.min_eq_left h, Int.fdiv_eq_ediv_of_nonneg _ (Int.le_of_lt (Int.pow_pos (by decide)))]
theorem shr_nat {m : Nat} {k : IntKind} (n : Nat) (h : n ≤ k.bits) : (m : Int).fdiv (2 ^ min n k.bits) = ((m / 2 ^ n : Nat) : Int) := by
  rw [shr_int n h, Int.natCast_ediv, Int.natCast_pow]; rfl
theorem and1_nat (n : Nat) (h : n ≤ 9223372036854775807) : bitsOf .and .i64 (n : Int) 1 = ((n % 2 : Nat) : Int) := by
  unfold bitsOf
  have h1 : (BitVec.ofInt IntKind.i64.bits (n : Int) &&& BitVec.ofInt IntKind.i64.bits 1).toNat = n % 2 := by
    rw [BitVec.toNat_and, BitVec.toNat_ofInt]
    have e1 : ((n : Int) % ((2 ^ IntKind.i64.bits : Nat) : Int)).toNat = n := by
      rw [show IntKind.i64.bits = 64 from rfl]; omega
    rw [e1, show (BitVec.ofInt IntKind.i64.bits 1).toNat = 1 from rfl, Nat.and_one_is_mod]
  simp only [h1]
  exact wrap_i64 rfl (by omega) (by omega)
theorem byte_nat (m : Nat) : (m : Int) % 256 = ((UInt8.ofNat m).toNat : Int) := by
  rw [UInt8.toNat_ofNat']; omega
theorem part_all {A : List Value} {n : Nat} (h : A.length = n) : (A.drop 0).take n = A := by rw [List.drop_zero, List.take_of_length_le (by omega)]
theorem part_0 {A C : List Value} {n : Nat} (h : A.length = n) : ((A ++ C).drop 0).take n = A := by rw [List.drop_zero, List.take_left' h]
theorem part_r {A C D : List Value} {m j k n : Nat} (hk : k = m + j) (h : A.length = m) (h2 : (C.drop j).take n = D) : ((A ++ C).drop k).take n = D := by
  rw [hk, List.drop_append, List.drop_eq_nil_of_le (by omega), List.nil_append, show m + j - A.length = j by omega]; exact h2
theorem get_r {A C : List Value} {n j k : Nat} {v : Value} (hk : k = n + j) (h : A.length = n) (h2 : C[j]? = some v) : (A ++ C)[k]? = some v := by
  rw [hk, List.getElem?_append_right (by omega), show n + j - A.length = j by omega]; exact h2
theorem cell_b {l : List UInt8} {j k : Nat} (hj : j = k) (hk : k < l.length) : (cBs l)[j]? = some (cB (l.getD k 0)) := by
  subst hj; simp [cBs, hk]
theorem len_slc {l : List UInt8} {n i j : Nat} (h : l.length = n) (h1 : i ≤ j) (h2 : j ≤ n) : (List.take (j - i) (List.drop i l)).length = j - i := by simp; omega
theorem len_slcL {l : List UInt8} {n i : Nat} (h : l.length = n) : (List.drop i l).length = n - i := by simp [h]
theorem len_slcH {l : List UInt8} {n j : Nat} (h : l.length = n) (h2 : j ≤ n) : (List.take j l).length = j := by simp; omega
theorem ones_nil : ∀ v ∈ ([] : List Value), v.oneCell' = true := fun _ h => by cases h
theorem ones_cons {v : Value} {l : List Value} (h : v.oneCell' = true) (t : ∀ v ∈ l, v.oneCell' = true) : ∀ u ∈ v :: l, u.oneCell' = true := fun u hu => by
  cases hu with
  | head => exact h
  | tail _ hu => exact t u hu
theorem Rd.oneV {size n : Nat} {v : Value} {xs : List Value} (h : Rd w size v n xs) : v.oneCell' = true := by
  obtain ⟨_, _, ao, cap, rfl, _⟩ := h; rfl
/-- A part of a slice. -/
def slcV (v : Value) (size l h : Nat) : Value := match v with | .slice ao _ cap => .slice (if cap = l then ao else ao.map (·.add (l * size))) (h - l) (cap - l) | v => v
theorem slcV_own (v : Value) (size l h : Nat) : (slcV v size l h).ownBlock = v.ownBlock := by
  have hadd : ∀ (ad : Addr) k, (ad.add k).block = ad.block := fun ad k => by unfold Addr.add; split <;> rfl
  cases v <;> try rfl
  rename_i ao n cap
  cases ao <;> by_cases hc : cap = l <;> simp [slcV, Value.ownBlock, hc, hadd]
theorem run_slc {t e : TypeId} {z : Value} {size bytes : Nat} (T : ST P t e z size bytes) {x : Operand} {lo hi : Option Operand} {v : Value} {n l h : Nat} {xs : List Value} (ho : o.op = .slice t x lo hi none) (hx : a.eval x = v) (hr : Rd w size v n xs)
    (hlo : (lo.map a.eval = none ∧ l = 0) ∨ ∃ k, lo.map a.eval = some (.int k (l : Int))) (hhi : (hi.map a.eval = none ∧ h = n) ∨ ∃ k, hi.map a.eval = some (.int k (h : Int))) (h1 : l ≤ h) (h2 : h ≤ n) :
    (execOp a.eval o).run P w = .ok (.value (slcV v size l h)) w := by
  obtain ⟨ht, hinfo, hzs, hsz, hb⟩ := T
  obtain ⟨i, hi', hz, hsize, hby⟩ := info_parts hinfo
  obtain ⟨_, _, ao, cap, rfl, hnc, _, hnone, _⟩ := hr
  unfold execOp slcV
  have hsl : (Instr.sliceBounds true n cap (lo.map a.eval) (hi.map a.eval) none).run P w = .ok (l, h, cap) w := by
    unfold Instr.sliceBounds
    rcases hlo with ⟨e1, rfl⟩ | ⟨k1, e1⟩ <;> rcases hhi with ⟨e2, rfl⟩ | ⟨k2, e2⟩
    · simp [e1, e2]
    · simp [e1, e2, run_sliceBound w k2 (h : Int) cap _ (by omega) (by omega)]
    · simp [e1, e2, run_sliceBound w k1 (l : Int) h _ (by omega) (by omega)]
    · simp [e1, e2, run_sliceBound w k2 (h : Int) cap _ (by omega) (by omega), run_sliceBound w k1 (l : Int) h _ (by omega) (by omega)]
  simp only [ho, hx, Option.map_none, Sem.run_bind, Instr.sliceAt, Instr.slice, run_underlying ht, Result.andThen_ok, hsl, sizeOf, typeInfo]
  simp [hi', hsize]
section
variable {t e : TypeId} {z : Value} {size bytes n l h : Nat} {x y u : Operand} {k k2 : IntKind} {v : Value} {xs : List Value}
theorem rv_slcLH (T : ST P t e z size bytes) (ho : o.op = .slice t x (some y) (some u) none) (hx : a.eval x = v) (hr : Rd w size v n xs) (hy : a.eval y = .int k (l : Int)) (hu : a.eval u = .int k2 (h : Int)) (h1 : l ≤ h) (h2 : h ≤ n) : (execOp a.eval o).run P w = .ok (.value (slcV v size l h)) w :=
  run_slc T ho hx hr (.inr ⟨k, by rw [Option.map_some, hy]⟩) (.inr ⟨k2, by rw [Option.map_some, hu]⟩) h1 h2
theorem rv_slcL (T : ST P t e z size bytes) (ho : o.op = .slice t x (some y) none none) (hx : a.eval x = v) (hr : Rd w size v n xs) (hy : a.eval y = .int k (l : Int)) (h1 : l ≤ n) : (execOp a.eval o).run P w = .ok (.value (slcV v size l n)) w :=
  run_slc T ho hx hr (.inr ⟨k, by rw [Option.map_some, hy]⟩) (.inl ⟨rfl, rfl⟩) h1 (Nat.le_refl _)
theorem rv_slcH (T : ST P t e z size bytes) (ho : o.op = .slice t x none (some u) none) (hx : a.eval x = v) (hr : Rd w size v n xs) (hu : a.eval u = .int k2 (h : Int)) (h2 : h ≤ n) : (execOp a.eval o).run P w = .ok (.value (slcV v size 0 h)) w :=
  run_slc T ho hx hr (.inl ⟨rfl, rfl⟩) (.inr ⟨k2, by rw [Option.map_some, hu]⟩) (Nat.zero_le _) h2
end
/-- A part reads. -/
theorem Rd.slc {size n : Nat} {v : Value} {xs : List Value} (hr : Rd w size v n xs) {l h : Nat} (h1 : l ≤ h) (h2 : h ≤ n) : Rd w size (slcV v size l h) (h - l) ((xs.drop (l * size)).take ((h - l) * size)) := by
  obtain ⟨hl, hone, ao, cap, rfl, hnc, hcm, hnone, hcells⟩ := hr
  have hll : ((xs.drop (l * size)).take ((h - l) * size)).length = (h - l) * size := by
    have hm : (h - l) * size + l * size ≤ n * size := by rw [← Nat.add_mul]; exact Nat.mul_le_mul_right _ (by omega)
    simp only [List.length_take, List.length_drop, hl]; omega
  refine ⟨hll, ?_, _, _, rfl, by omega, by omega, ?_, ?_⟩
  · intro u hu
    exact hone u (List.mem_of_mem_drop (List.mem_of_mem_take hu))
  · intro h
    by_cases hc : cap = l
    · rw [if_pos hc] at h; obtain ⟨rfl, rfl⟩ := hnone h; omega
    · rw [if_neg hc] at h
      have : ao = none := by cases ao <;> simp_all
      obtain ⟨rfl, rfl⟩ := hnone this; omega
  · intro j u hu
    rw [List.getElem?_take] at hu
    split at hu
    · rename_i hj
      rw [List.getElem?_drop] at hu
      obtain ⟨ad, rfl, hw⟩ := hcells _ u hu
      have hne : ¬ cap = l := by
        rintro rfl
        have : h - cap = 0 := by omega
        rw [this] at hj; simp at hj
      rw [if_neg hne]
      refine ⟨_, rfl, ?_⟩
      have hadd : (ad.add (l * size)).add j = ad.add (l * size + j) := by
        unfold Addr.add
        by_cases h1 : l * size = 0 <;> by_cases h2 : j = 0 <;> simp [h1, h2, Nat.add_assoc]
      rw [hadd]; exact hw
    · cases hu
theorem GB.ge {w' : World} {v v' : Value} {B : Nat} (hg : GB w w' v v') (hB : B ≤ w.heap.size) (hv : ∀ k, v.ownBlock = some k → B ≤ k) : ∀ k, v'.ownBlock = some k → B ≤ k := by
  intro k hk
  rcases hg.blk with h | ⟨g, h1, _, h2⟩
  · exact hv k (h ▸ hk)
  · rw [h2] at hk; injection hk with e; omega
theorem GB.ne {w' : World} {v v' : Value} {g : Nat} (hg : GB w w' v v') (hB : g < w.heap.size) (hv : v.ownBlock ≠ some g) : v'.ownBlock ≠ some g := by
  intro hk
  rcases hg.blk with h | ⟨g', h1, _, h2⟩
  · exact hv (h ▸ hk)
  · rw [h2] at hk; injection hk with e; omega
theorem GB.djL {w' : World} {v v' u : Value} (hg : GB w w' v v') (h : ∀ i, v.ownBlock = some i → u.ownBlock ≠ some i) (hl : ∀ k, u.ownBlock = some k → k < w.heap.size) : ∀ i, v'.ownBlock = some i → u.ownBlock ≠ some i := by
  intro i hi hu
  rcases hg.blk with e | ⟨g, h1, _, h2⟩
  · exact h i (e ▸ hi) hu
  · rw [h2] at hi; injection hi with e; have := hl i hu; omega
theorem GB.djR {w' : World} {v v' u : Value} (hg : GB w w' v v') (h : ∀ i, u.ownBlock = some i → v.ownBlock ≠ some i) (hl : ∀ k, u.ownBlock = some k → k < w.heap.size) : ∀ i, u.ownBlock = some i → v'.ownBlock ≠ some i := by
  intro i hu hi
  rcases hg.blk with e | ⟨g, h1, _, h2⟩
  · exact h i hu (e ▸ hi)
  · rw [h2] at hi; injection hi with e; have := hl i hu; omega
theorem GB.row {w' : World} {v v' v0 : Value} {B : Nat} (hg : GB w w' v v') (hB : B ≤ w.heap.size) (hv : ∀ k, v.ownBlock = some k → B ≤ k ∨ v0.ownBlock = some k) : ∀ k, v'.ownBlock = some k → B ≤ k ∨ v0.ownBlock = some k := by
  intro k hk
  rcases hg.blk with h | ⟨g, h1, _, h2⟩
  · exact hv k (h ▸ hk)
  · rw [h2] at hk; injection hk with e; exact .inl (by omega)
theorem own_lt {e : TypeId} {size : Nat} {v : Value} {n : Nat} {xs : List Value} (h : Own w e size v n xs) : ∀ k, v.ownBlock = some k → k < w.heap.size := by
  intro k hk
  rcases h.2 with ⟨rfl, _⟩ | ⟨g, cap, cur, rfl, _, hgg, _⟩
  · simp [Value.ownBlock] at hk
  · simp only [Value.ownBlock, Option.some.injEq] at hk
    subst hk
    exact (Array.getElem?_eq_some_iff.1 hgg).1
/-- The builtin copy over a whole variable. -/
theorem ex_copyW {d s : Operand} {dT sT elem T : TypeId} {g n sn : Nat} {cur cs : List Value} {v : Value} {xs : List Value} (ho : o.op = .call { callee := .builtin .copy, args := #[d, s], argTypes := #[dT, sT] }) (hb : Blk w g cur T)
    (hd : a.eval d = .slice (some ⟨g, 0, none⟩) n n) (hs : a.eval s = v) (hr : Rd w 1 v sn xs) (hu : P.underlying dT = some (.slice elem)) (hsz : (P.info? elem).map (·.size) = some 1) (hn : cur.length = n) (hle : n ≤ sn) (h0 : 0 < n) (hcs : xs.take n = cs) :
    ∃ u w', (execOp a.eval o).run P w = .ok (.value u) w' ∧ u = .int .i64 (n : Int) ∧ Blk w' g cs T ∧ Chg (· = g) w w' := by
  have hxl := hr.len
  obtain ⟨b, off, cap, rfl, _, _, _, hcell⟩ := hr.cells (by omega)
  have hl : cs.length = n := by rw [← hcs, List.length_take]; omega
  obtain ⟨u, w', h1, h2, h3, h4, _⟩ := ex_copy (P := P) (w := w) (a := a) (o := o) d s hb hd hs ho hu hsz (cs := cs) (by rw [hl]; simp [Nat.min_eq_right hle]) (fun j u hj => by
    rw [Addr.add_mid]
    rw [← hcs, List.getElem?_take] at hj
    split at hj
    · exact hcell _ _ hj
    · cases hj) (by omega) (by intro u hu; rw [← hcs] at hu; exact hr.one u (List.mem_of_mem_take hu))
  refine ⟨u, w', h1, by rw [h2, hl]; rfl, ?_, h4⟩
  have e : cur.take 0 ++ (cs ++ cur.drop (0 + cs.length)) = cs := by rw [List.drop_eq_nil_of_le (by omega)]; simp
  rw [e] at h3; exact h3
/-- The builtin copy of nothing. -/
theorem rv_copy0 {d s : Operand} {dT sT elem : TypeId} {ad : Addr} {dn dc : Nat} {v : Value} {xs : List Value} (ho : o.op = .call { callee := .builtin .copy, args := #[d, s], argTypes := #[dT, sT] }) (hd : a.eval d = .slice (some ad) dn dc) (hs : a.eval s = v) (hr : Rd w 1 v 0 xs) (hu : P.underlying dT = some (.slice elem)) (hsz : (P.info? elem).map (·.size) = some 1) : (execOp a.eval o).run P w = .ok (.value (.int .i64 0)) w := by
  obtain ⟨_, _, ao, cap, rfl, _⟩ := hr
  cases hq : P.info? elem with
  | none => simp [hq] at hsz
  | some inf =>
    unfold execOp
    simp only [ho, resolve, invoke, builtin, Sem.run_bind, Sem.run_pure, Result.andThen_ok, List.map_toArray, List.map_cons, List.map_nil, hd, hs]
    cases ao <;> simp [Builtin.copy_, run_underlying hu, Builtin.lenOf, Builtin.firstCells, sizeOf, typeInfo, hq, loadCells, loadCellsFrom, storeCells, goInt]
theorem fill1 {place : Nat → Option (Nat × Nat)} {cells cells' : List Value} {i off : Nat} {v : Value} {rest : List (Nat × Value)} {out : Option (Array Value)} (hp : place i = some (off, 1)) (h1 : v.oneCell' = true) (hb : off < cells.length) (hc : cells.set off v = cells') (h : Instr.fill place cells'.toArray rest = out) : Instr.fill place cells.toArray ((i, v) :: rest) = out := by
  have hv := cells_one h1
  simp only [Instr.fill, hp, hv]
  rw [if_neg (by simp; omega)]
  have e : (#[v] : Array Value).zipIdx.foldl (fun cs x => cs.setIfInBounds (off + x.2) x.1) cells.toArray = cells'.toArray := by simp [← hc]
  rw [show (Array.foldl (fun cs (x : Value × Nat) => cs.setIfInBounds (off + x.2) x.1) cells.toArray (#[v] : Array Value).zipIdx) = _ from e]
  exact h
theorem fill0 {place : Nat → Option (Nat × Nat)} {cells : Array Value} : Instr.fill place cells [] = some cells := rfl
theorem evpn {f : Operand → Value} : List.map (fun p : Nat × Operand => (p.1, f p.2)) [] = [] := rfl
theorem evpc {f : Operand → Value} {i : Nat} {x : Operand} {v : Value} {l : List (Nat × Operand)} {m : List (Nat × Value)} (h : f x = v) (t : List.map (fun p : Nat × Operand => (p.1, f p.2)) l = m) : List.map (fun p : Nat × Operand => (p.1, f p.2)) ((i, x) :: l) = (i, v) :: m := by rw [List.map_cons, h, t]
/-- A struct's literal. -/
theorem rv_buildS {t : TypeId} {ps : List (Nat × Operand)} {vs : List (Nat × Value)} {fs : Array Field} {places : Array (Nat × Nat)} {zc cs : List Value} {z : Value} (ho : o.op = .build t ps.toArray) (hv : ps.map (fun p => (p.1, a.eval p.2)) = vs) (hz : (P.info? t).map (·.zero) = some (some z)) (hzc : z.cells = zc.toArray) (hu : P.underlying t = some (.struct fs))
    (hpl : ∀ w, (fs.mapM (fun f => do pure (f.offset, ← sizeOf f.type)) : Sem (Array (Nat × Nat))).run P w = .ok places w) (hf : Instr.fill (fun i => places[i]?) zc.toArray vs = some cs.toArray) : (execOp a.eval o).run P w = .ok (.value (.agg cs.toArray)) w := by
  have hz' : (zeroValue t).run P w = .ok z w := by
    cases hq : P.info? t with
    | none => simp [hq] at hz
    | some inf =>
      have : inf.zero = some z := by simpa [hq] using hz
      simp [zeroValue, typeInfo, hq, this]
  have hp : ((ps.toArray.map fun p => (p.1, a.eval p.2)).toList) = vs := by rw [← hv]; simp
  unfold execOp
  simp only [ho, Instr.build, Sem.run_bind, hz', Result.andThen_ok, run_underlying hu, hpl w, hzc]
  have e : (ps.toArray.map fun x => (x.1, a.eval x.2)).toList = vs := hp
  simp only [e, hf, Sem.run_pure]
  rfl
theorem byte_int (n : Int) : n % 256 = ((ofI n).toNat : Int) := by
  have h1 := Int.emod_nonneg n (show (256 : Int) ≠ 0 by decide)
  have h2 := Int.emod_lt_of_pos n (show (0 : Int) < 256 by decide)
  unfold ofI
  rw [UInt8.toNat_ofNat']
  have : (n % 256).toNat % 2 ^ 8 = (n % 256).toNat := Nat.mod_eq_of_lt (by omega)
  rw [this]; omega
theorem cB_ofI (n : Int) : Value.int .u8 (n % 256) = cB (ofI n) := by
  unfold cB ofI
  congr 1
  have h1 := Int.emod_nonneg n (show (256 : Int) ≠ 0 by decide)
  have h2 := Int.emod_lt_of_pos n (show (0 : Int) < 256 by decide)
  rw [UInt8.toNat_ofNat']
  have : (n % 256).toNat % 2 ^ 8 = (n % 256).toNat := Nat.mod_eq_of_lt (by omega)
  rw [this]; omega
theorem ofI_eq {n : Int} {b : UInt8} (h : n % 256 = b.toNat) : ofI n = b := by
  unfold ofI
  rw [h]
  apply UInt8.toNat_inj.1
  rw [UInt8.toNat_ofNat']
  have := b.toNat_lt
  omega
end Go.Bz
