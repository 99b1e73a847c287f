/- More rules of walks over one heap: a literal string's bytes, marked. -/
import Derived.Test.YtjgcjddaladgfaaHeap
import Derived.Test.YtjgcjddaladgfaaEq
import Derived.Lib.SlBytesConst
namespace Go.Bz
open Go.RowKit
/-- Cells that read. -/
def oRd (size : Nat) (v : Value) (n : Nat) (xs : List Value) : MemO := ⟨fun k => v.ownBlock = some k, fun w => Rd w size v n xs⟩
theorem stay_rd {N : Nat → Prop} {w : World} {size n : Nat} {v : Value} {xs : List Value} (h : Rd w size v n xs) : ∀ w2 (K : Nat → Prop), Chg K w w2 → (∀ k, K k → N k) → (∀ k, (oRd size v n xs).fp k → ¬ K k) → (oRd size v n xs).R w2 := fun _ _ hc _ hd => Rd.keep h hc fun k hk _ => hd k hk
theorem Heap.rd {N : Nat → Prop} {w0 w : World} {L : List MemO} {i size n : Nat} {v : Value} {xs : List Value} (hH : Heap N w0 w L) (hi : L[i]? = some (oRd size v n xs)) : Rd w size v n xs := hH.get hi
theorem freeze_heap {w : World} {g : Nat} {c : Array Value} {e : TypeId} (hb : w.heap[g]? = some (.cells c e (0, 0))) (k : Nat) : (w.freeze ⟨g, k, none⟩ 1).heap[g]? = some (.cells c e (k, k + 1)) := by
  have hlt : g < w.heap.size := (Array.getElem?_eq_some_iff.1 hb).1
  have hg : w.heap[g] = .cells c e (0, 0) := (Array.getElem?_eq_some_iff.1 hb).2
  unfold World.freeze
  rw [if_neg (by decide)]
  simp only [Array.getElem?_modify, if_true]
  rw [hb]; simp
theorem Chg.freeze {w : World} {g k : Nat} : Chg (· = g) w (w.freeze ⟨g, k, none⟩ 1) := by
  unfold World.freeze
  rw [if_neg (by decide)]
  refine ⟨rfl, rfl, rfl, by simp, fun j _ hj => ?_⟩
  have hj : ¬ g = j := fun h => hj h.symm
  simp [Array.getElem?_modify, hj]
section
variable {P : Program} {N : Nat → Prop} {w0 w : World} {L L2 : List MemO} {a : Act} {o : Oper} {i : Nat}
theorem hx_mark (hH : Heap N w0 w L) {t e : TypeId} {x : Operand} {v : Value} {n : Nat} {xs : List Value} (ho : o.op = .convert t t x) (hi : L[i]? = some (oOwn e 1 v n xs)) (hL : L.set i (oRd 1 v n xs) = L2) (hn : 0 < n) (h1 : ∀ u ∈ xs, u.oneCell' = true) (hx : a.eval x = v) (ht : P.underlying t = some (.slice e)) (he : P.underlying e = some (.int .u8)) :
    ∃ u w', (execOp a.eval o).run P w = .ok (.value u) w' ∧ v = u ∧ Heap N w0 w' L2 ∧ Chg N w w' := by
  have hO := hH.own hi
  have hrd := Own.rd hO h1
  obtain ⟨g, cap, cur, rfl, hb, hc1, hc2, hc3, hc4⟩ := hO.form hn
  have hsh : w.shape? g = some (e, cur.toArray.size) := by
    unfold World.shape?
    rw [show w.heap[g]? = some (.cells cur.toArray e (0, 0)) from hb]
  have hc : Chg (fun k => (Value.slice (some ⟨g, 0, none⟩) n cap).ownBlock = some k) w (w.freeze ⟨g, cur.toArray.size, none⟩ 1) := Chg.freeze.mono fun k _ hk => by subst hk; rfl
  have hb2 := freeze_heap (show w.heap[g]? = some (.cells cur.toArray e (0, 0)) from hb) cur.toArray.size
  refine ⟨_, w.freeze ⟨g, cur.toArray.size, none⟩ 1, ?_, rfl, hH.mut (O' := oRd 1 (.slice (some ⟨g, 0, none⟩) n cap) n xs) hi hc (fun k hk => .inl hk) (stay_rd ⟨hrd.len, h1, _, cap, rfl, hc1, hc2, (fun h => by cases h), fun j u hu => ⟨_, rfl, ?_⟩⟩) hL, hH.within hi hc⟩
  · unfold execOp
    simp only [ho, hx, Sem.run_bind]
    have : (convert t t (.slice (some ⟨g, 0, none⟩) n cap)).run P w = .ok (.slice (some ⟨g, 0, none⟩) n cap) (w.freeze ⟨g, cur.toArray.size, none⟩ 1) := by
      simp [convert, run_underlying ht, run_underlying he, markStringish, hsh]
    rw [this]; simp
  · rw [Addr.add_mid, Nat.zero_add, cell_of_row _ _ j _ _ _ hb2, List.getElem?_toArray]
    rw [← hc4] at hu
    have := (List.getElem?_eq_some_iff.1 hu).1
    rwa [List.getElem?_take, if_pos (by simp at this; omega)] at hu
end
end Go.Bz
namespace Go.Proofs.Ytjgcjddaladgfaa
open Go.RowKit Go.Bz
abbrev oRB (v : Value) (l : List UInt8) : MemO := oRd 1 v l.length (cBs l)
end Go.Proofs.Ytjgcjddaladgfaa
namespace Go.Bz
open Go.RowKit
theorem fold_lay (cs : List Value) : ∀ (k off : Nat) (cur : Array Value), off + k + cs.length ≤ cur.size → (cs.zipIdx k).foldl (fun c x => c.setIfInBounds (off + x.2) x.1) cur = (lay cur.toList (off + k) cs).toArray := by
  induction cs with
  | nil => intro k off cur _; simp [lay]
  | cons v vs ih =>
    intro k off cur h
    simp only [List.length_cons] at h
    rw [List.zipIdx_cons, List.foldl_cons, ih (k + 1) off _ (by simp; omega)]
    congr 1
    have ho : off + k < cur.toList.length := by simp; omega
    unfold lay
    rw [Array.toList_setIfInBounds, show off + (k + 1) = off + k + 1 by omega, List.take_succ_eq_append_getElem (by simpa using ho), List.getElem_set_self, List.take_set_of_le (Nat.le_refl _), List.drop_set_of_lt (by omega), List.length_cons, show off + k + (vs.length + 1) = off + k + 1 + vs.length by omega]
    simp
theorem fillM {place : Nat → Option (Nat × Nat)} {cells cells' cs : List Value} {i off n : Nat} {v : Value} {rest : List (Nat × Value)} {out : Option (Array Value)} (hp : place i = some (off, n)) (hv : v.cells = cs.toArray) (hn : cs.length = n) (hb : off + n ≤ cells.length) (hc : lay cells off cs = cells')
    (h : Instr.fill place cells'.toArray rest = out) : Instr.fill place cells.toArray ((i, v) :: rest) = out := by
  simp only [Instr.fill, hp, hv]
  rw [if_neg (by simp [hn]; omega)]
  have e : (cs.toArray).zipIdx.foldl (fun c x => c.setIfInBounds (off + x.2) x.1) cells.toArray = cells'.toArray := by
    rw [← Array.foldl_toList, Array.toList_zipIdx, fold_lay cs 0 off cells.toArray (by simp; omega)]
    simp [hc]
  rw [show (Array.foldl (fun cs (x : Value × Nat) => cs.setIfInBounds (off + x.2) x.1) cells.toArray (cs.toArray).zipIdx) = _ from e]
  exact h
/-- Fields held against each other, one behind the other. -/
theorem eqF_nil {P : Program} {w : World} {d : Nat} {xs ys : Array Value} : (Op.eqFields d xs ys []).run P w = .ok true w := by simp [Op.eqFields]
theorem eqF_cons {P : Program} {w : World} {d : Nat} {xs ys : Array Value} {f : Field} {fs : List Field} {a b : Value} {r r2 : Bool} (hn : f.name ≠ "_") (h1 : (part f.type xs f.offset).run P w = .ok a w) (h2 : (part f.type ys f.offset).run P w = .ok b w)
    (h3 : (Op.equalIn d f.type a b).run P w = .ok r w) (h : (Op.eqFields d xs ys fs).run P w = .ok r2 w) : (Op.eqFields d xs ys (f :: fs)).run P w = .ok (r && r2) w := by
  unfold Op.eqFields
  rw [if_pos hn]
  simp only [Sem.run_bind, h1, h2, h3, Result.andThen_ok]
  cases r
  · simp
  · simpa using h
theorem part_cell {P : Program} {w : World} {t : TypeId} {d : TypeDesc} {cs : List Value} {off : Nat} {v : Value} (hu : P.underlying t = some d) (hd : d.isRow = false) (hs : (P.info? t).map (·.size) = some 1) (hv : cs[off]? = some v) : (part t cs.toArray off).run P w = .ok v w := by
  have hag : (isAgg t).run P w = .ok false w := by
    unfold isAgg
    simp only [Sem.run_bind, run_underlying hu, Result.andThen_ok]
    cases d <;> first | rfl | simp [TypeDesc.isRow] at hd
  cases hq : P.info? t with
  | none => simp [hq] at hs
  | some i =>
    have h1 : i.size = 1 := by simpa [hq] using hs
    simp [part, sizeOf, typeInfo, hq, h1, hag, hv]
theorem part_row {P : Program} {w : World} {t : TypeId} {d : TypeDesc} {cs cs' : List Value} {off n : Nat} (hu : P.underlying t = some d) (hd : d.isRow = true) (hs : (P.info? t).map (·.size) = some n) (hc : (cs.drop off).take n = cs') (hl : cs'.length = n) (ho : off + n ≤ cs.length) : (part t cs.toArray off).run P w = .ok (.agg cs'.toArray) w := by
  have hag : (isAgg t).run P w = .ok true w := by
    unfold isAgg
    simp only [Sem.run_bind, run_underlying hu, Result.andThen_ok]
    cases d <;> first | rfl | simp [TypeDesc.isRow] at hd
  cases hq : P.info? t with
  | none => simp [hq] at hs
  | some i =>
    have h1 : i.size = n := by simpa [hq] using hs
    have e : cs.toArray.extract off (off + n) = cs'.toArray := by
      rw [List.extract_toArray]; congr 1
      show List.take (off + n - off) (List.drop off cs) = _
      rw [Nat.add_sub_cancel_left, hc]
    unfold part
    simp only [Sem.run_bind, hag, Result.andThen_ok, if_true, sizeOf, typeInfo]
    simp [hq, h1]
    exact hc
end Go.Bz
namespace Go.Bz
open Go.RowKit
theorem len_app {A B : List Value} {m n k : Nat} (ha : A.length = m) (hb : B.length = n) (h : m + n = k) : (A ++ B).length = k := by simp [ha, hb, h]
theorem lay_app {A D C cs : List Value} {o : Nat} (ha : A.length = o) (hd : D.length = cs.length) : lay (A ++ (D ++ C)) o cs = A ++ (cs ++ C) := by
  unfold lay
  rw [List.take_left' ha, List.drop_append, List.drop_eq_nil_of_le (by omega), List.nil_append, ha, show o + cs.length - o = cs.length by omega, List.drop_left' hd]
theorem lay_end {A D cs : List Value} {o : Nat} (ha : A.length = o) (hd : D.length = cs.length) : lay (A ++ D) o cs = A ++ cs := by
  have := lay_app (A := A) (D := D) (C := []) (cs := cs) ha hd
  simpa using this
theorem le_of_len {cur cs : List Value} {j n m : Nat} (h1 : cur.length = m) (h2 : cs.length = n) (h : j + n ≤ m) : j + cs.length ≤ cur.length := by omega
theorem lt_of_len {cur : List Value} {j m : Nat} (h1 : cur.length = m) (h : j < m) : j < cur.length := by omega
theorem le_of_len2 {cur : List Value} {j n m : Nat} (h1 : cur.length = m) (h : j + n ≤ m) : j + n ≤ cur.length := by omega
theorem set_lay {cur : List Value} {j : Nat} {v : Value} {cur' : List Value} (hj : j < cur.length) (h : lay cur j [v] = cur') : cur.set j v = cur' := by rw [← h, lay_one hj]
theorem cells_agg (cs : List Value) : (Value.agg cs.toArray).cells = cs.toArray := rfl
theorem get_l {A C : List Value} {k : Nat} {v : Value} (h : A[k]? = some v) : (A ++ C)[k]? = some v := by
  rw [List.getElem?_append_left (List.getElem?_eq_some_iff.1 h).1]; exact h
theorem rv_neb {P : Program} {w : World} {a : Act} {o : Oper} {t t2 : TypeId} {x y : Operand} {b c d : Bool} (ho : o.op = .binOp .neq t x y t2) (hx : a.eval x = .bool b) (hy : a.eval y = .bool c) (ht : P.underlying t = some .bool) (hr : (b == c) = d) : (execOp a.eval o).run P w = .ok (.value (.bool (!d))) w := by
  unfold execOp
  subst hr
  simp only [ho, hx, hy, eqGuard, Sem.run_bind, Sem.run_pure, binOp, eq_bool t b c ht, Result.andThen_ok]
  simp
end Go.Bz
namespace Go.Bz
theorem part_app {A D C : List Value} {o n : Nat} (ha : A.length = o) (hd : D.length = n) : List.take n (List.drop o (A ++ (D ++ C))) = D := by
  rw [List.drop_left' ha, List.take_left' hd]
theorem part_end {A D : List Value} {o n : Nat} (ha : A.length = o) (hd : D.length = n) : List.take n (List.drop o (A ++ D)) = D := by
  rw [List.drop_left' ha, List.take_of_length_le (by omega)]
end Go.Bz
namespace Go.Bz
open Go.RowKit
theorem ones_app {A B : List Value} (h1 : ∀ u ∈ A, u.oneCell' = true) (h2 : ∀ u ∈ B, u.oneCell' = true) : ∀ u ∈ A ++ B, u.oneCell' = true := fun u hu => (List.mem_append.1 hu).elim (h1 u) (h2 u)
end Go.Bz
namespace Go.Bz
theorem part_of {A D C cs : List Value} {o n : Nat} (h : cs = A ++ (D ++ C)) (ha : A.length = o) (hd : D.length = n) : List.take n (List.drop o cs) = D := by rw [h]; exact part_app ha hd
theorem lay_of {A D C cur cs cur' : List Value} {o : Nat} (h : cur = A ++ (D ++ C)) (h' : cur' = A ++ (cs ++ C)) (ha : A.length = o) (hd : D.length = cs.length) : lay cur o cs = cur' := by rw [h, h']; exact lay_app ha hd
theorem get_of {A D C cs : List Value} {o j k : Nat} {v : Value} (h : cs = A ++ (D ++ C)) (ha : A.length = o) (hk : k = o + j) (hv : D[j]? = some v) : cs[k]? = some v := by rw [h]; exact get_r hk ha (get_l hv)
end Go.Bz
namespace Go.Bz
theorem calls_known {P : Program} {f : FuncId} {args : Array Value} {w : World} {b b' : Bool} (h : Calls P f args w (fun e w' => e = .returned (.bool b) ∧ Ext w w')) (hb : b = b') : Calls P f args w (fun e w' => e = .returned (.bool b') ∧ Ext w w') := by subst hb; exact h
end Go.Bz
namespace Go.Bz
open Go.RowKit
theorem wantU {ops : Array Oper} {o : Oper} {n : Nat} {F : Nat → Value} {j d : Nat} {b : Bool} (hg : o.guard = some (j, b)) (hd : (ops[j]?).bind (·.dst) = some d) (hn : Nat.blt d n = true) (e : F d = undef) : Region.wanted o (yielded ops (fr n F).tmps) = false := by
  have hn : d < n := by simpa using hn
  simp only [Region.wanted, hg, yielded, hd, Option.bind_some, fr_get, if_pos hn, e]
  cases b <;> rfl
end Go.Bz
namespace Go.Bz
theorem slcF_pos {α : Type} {f : α → List Value} {xs : List α} {n l : Nat} (h : 0 < ((List.take n (List.drop l xs)).flatMap f).length) : 0 < (xs.flatMap f).length := by
  obtain ⟨u, hu⟩ := List.exists_mem_of_length_pos h
  obtain ⟨x, hx, hux⟩ := List.mem_flatMap.1 hu
  exact List.length_pos_of_mem (List.mem_flatMap.2 ⟨x, List.mem_of_mem_drop (List.mem_of_mem_take hx), hux⟩)
end Go.Bz
namespace Go.Proofs.Ytjgcjddaladgfaa
open Go.RowKit Go.Bz
theorem rdP_nil (w : World) : RdP w (.slice none 0 0) [] := ⟨[], Rd.nil, .nil⟩
end Go.Proofs.Ytjgcjddaladgfaa
