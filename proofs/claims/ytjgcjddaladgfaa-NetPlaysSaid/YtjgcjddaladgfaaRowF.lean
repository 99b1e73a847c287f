/- Rows of any elements: their parts, and how they are opened as arguments. -/
import Derived.Test.YtjgcjddaladgfaaOpen
import Derived.Test.YtjgcjddaladgfaaByt
import Derived.DataElems
import Derived.ChangeArms
import Derived.ChangeSame
namespace Go.Bz
open Go.RowKit
section
variable {α : Type} {f : α → List Value}
theorem flat_len {sz : Nat} : ∀ {l : List α}, (∀ x ∈ l, (f x).length = sz) → (l.flatMap f).length = l.length * sz := by
  intro l h
  induction l with
  | nil => simp
  | cons x l ih =>
    rw [List.flatMap_cons, List.length_append, h x (by simp), ih (fun y hy => h y (by simp [hy])), List.length_cons, Nat.succ_mul]; omega
theorem flat_part {sz : Nat} (d : α) : ∀ {l : List α} {i : Nat}, (∀ x ∈ l, (f x).length = sz) → i < l.length → ((l.flatMap f).drop (i * sz)).take sz = f (l.getD i d) := by
  intro l
  induction l with
  | nil => intro i _ hi; simp at hi
  | cons x l ih =>
    intro i h hi
    have hx := h x (by simp)
    cases i with
    | zero => rw [Nat.zero_mul, List.drop_zero, List.flatMap_cons, List.take_left' hx]; simp
    | succ i =>
      rw [List.flatMap_cons, Nat.succ_mul, Nat.add_comm (i * sz), ← List.drop_drop, List.drop_left' hx]
      rw [ih (fun y hy => h y (by simp [hy])) (by simpa using hi)]
      simp
theorem flat_get {sz j i : Nat} (d : α) {l : List α} {u : Value} (h : ∀ x ∈ l, (f x).length = sz) (hi : i < l.length) (hu : (f (l.getD i d))[j]? = some u) (hj : j < sz) : (l.flatMap f)[i * sz + j]? = some u := by
  rw [← flat_part d h hi, List.getElem?_take, if_pos hj, List.getElem?_drop] at hu
  exact hu
theorem flat_get0 {sz i : Nat} (d : α) {l : List α} {u : Value} (h : ∀ x ∈ l, (f x).length = sz) (hi : i < l.length) (hu : (f (l.getD i d))[0]? = some u) (hj : 0 < sz) : (l.flatMap f)[i * sz]? = some u := flat_get d h hi hu hj
end
theorem flat_get1 {α : Type} {f : α → List Value} {i : Nat} (d : α) {l : List α} {u : Value} (h : ∀ x ∈ l, (f x).length = 1) (hi : i < l.length) (hu : (f (l.getD i d))[0]? = some u) : (l.flatMap f)[i]? = some u := by
  have := flat_get (j := 0) d h hi hu (by decide)
  simpa using this
/-- A row whose elements are the cells of f. -/
def RdF {α : Type} (f : α → List Value) (sz : Nat) (w : World) (v : Value) (l : List α) : Prop := Rd w sz v l.length (l.flatMap f)
theorem RdF.rd {α : Type} {f : α → List Value} {sz : Nat} {w : World} {v : Value} {l : List α} (h : RdF f sz w v l) : Rd w sz v l.length (l.flatMap f) := h
theorem RdF.ext {α : Type} {f : α → List Value} {sz : Nat} {w w' : World} {v : Value} {l : List α} (h : RdF f sz w v l) (hx : Ext w w') : RdF f sz w' v l := Rd.ext h hx
section
variable {P : Program} {w : World} {a : Act} {o : Oper}
/-- A field of an element. -/
theorem rv_fieldElem {t : TypeId} {x : Operand} {f j i size n nn : Nat} {v : Value} {xs : List Value} {fs : Array Field} {fd : Field} {r : Nat} (ho : o.op = .fieldAddr t x f) (hx : a.eval x = .pointer (some (elemA v j))) (hr : Rd w size v n xs) (hlt : i < n) (hs0 : 0 < size)
    (hu : P.underlying t = some (.struct fs)) (hf : fs[f]? = some fd) (hrr : j + fd.offset = r) (hs : (P.info? fd.type).map (·.size) = some (nn + 1)) : (execOp a.eval o).run P w = .ok (.value (.pointer (some (elemA v r)))) w := by
  obtain ⟨b, off, he, _, _⟩ := hr.at hlt hs0
  have := rv_fieldAddr (w := w) ho (hx.trans (by rw [he])) hu hf rfl hs
  rw [this, he, ← hrr, Nat.add_assoc]
theorem choose_list {β : Type} {R : Nat → β → Prop} : ∀ (n : Nat), (∀ i, i < n → ∃ x, R i x) → ∃ l : List β, l.length = n ∧ ∀ i x, l[i]? = some x → R i x := by
  intro n
  induction n with
  | zero => intro _; exact ⟨[], rfl, fun i x h => by simp at h⟩
  | succ n ih =>
    intro h
    obtain ⟨l, hl, hr⟩ := ih (fun i hi => h i (by omega))
    obtain ⟨x, hx⟩ := h n (by omega)
    refine ⟨l ++ [x], by simp [hl], fun i y hy => ?_⟩
    by_cases hi : i < l.length
    · rw [List.getElem?_append_left hi] at hy; exact hr i y hy
    · have : i = l.length := by have := (List.getElem?_eq_some_iff.1 hy).1; simp at this; omega
      subst this
      simp at hy
      subst hy
      rw [hl]; exact hx
end
end Go.Bz
namespace Go.Proofs.Ytjgcjddaladgfaa
open Go.RowKit Go.Bz Go.ChangeShapes Go.WideShapes
section
variable {H : Type} {enc : TypeId × Value → H} {P : Program} {W : World} {base : Nat} {spare : Nat → Bool} {held : Bool} {d : DataW H} {ps : List MemPlace} {r : Reach} {b0 : Nat}
/-- An argument that is a row, element by element. -/
theorem open_rowsF {α : Type} (f : α → List Value) (Q : α → Prop) {t e : TypeId} {sz : Nat} {v : Value} (ht : P.underlying t = some (.slice e)) (hsz : P.cellsOf e = sz) (h0 : 0 < sz)
    (each : ∀ (n : Nat) (c : List Value) (y : DataW H × List MemPlace), c.length = sz → DataW.trod enc P W base spare held n e c = some y → ∃ x, c = f x ∧ Q x)
    (h1 : ∀ x, ∀ u ∈ f x, u.oneCell' = true) (hval : Value.okWide P W r b0 t v) (hd : DataW.Trod enc P W base spare held t v d ps) : ∃ l : List α, RdF f sz W v l ∧ ∀ x ∈ l, Q x := by
  obtain ⟨a, len, cap, rfl⟩ := okWide_slice ht hval
  obtain ⟨fuel, h⟩ := hd
  rcases DataW.trod_slice ht h with ⟨hcs, _⟩ | ⟨a', len', cap', elems, rest, n, _, hcs, _, _, hl, hm, hlen, hel, _, _⟩
  · simp [Value.cells] at hcs
    obtain ⟨rfl, rfl, rfl⟩ := hcs
    exact ⟨[], Rd.nil, fun x hx => by simp at hx⟩
  · simp [Value.cells] at hcs
    obtain ⟨rfl, rfl, rfl⟩ := hcs
    obtain ⟨l, hll, hR⟩ := choose_list (R := fun i x => W.cells? base (a'.add (i * sz)) sz = some (f x) ∧ (f x).length = sz ∧ Q x) len (fun i hi => by
      have h2 := hel i hi
      rw [hsz] at h2
      cases hy : elems[i]? with
      | none => rw [List.getElem?_eq_none_iff] at hy; omega
      | some y =>
        rw [hy] at h2
        simp only [Option.bind_eq_some_iff] at h2
        obtain ⟨c, hc, hy2⟩ := h2
        have hcl := (World.cells?_some hc).2.1
        obtain ⟨x, rfl, hq⟩ := each n c y hcl hy2
        exact ⟨x, hc, hcl, hq⟩)
    have hmem : ∀ x ∈ l, (f x).length = sz ∧ Q x := fun x hx => by
      obtain ⟨i, hi⟩ := List.getElem?_of_mem hx
      exact (hR i x hi).2
    refine ⟨l, ⟨flat_len (fun x hx => (hmem x hx).1), ?_, some a', cap, by rw [hll], by omega, hm, (fun h => by cases h), fun j u hu => ⟨a', rfl, ?_⟩⟩, fun x hx => (hmem x hx).2⟩
    · intro u hu
      obtain ⟨x, _, hux⟩ := List.mem_flatMap.1 hu
      exact h1 x u hux
    · have hj : j < l.length * sz := by
        have := (List.getElem?_eq_some_iff.1 hu).1
        rwa [flat_len (fun x hx => (hmem x hx).1)] at this
      have hi : j / sz < l.length := Nat.div_lt_of_lt_mul (by rw [Nat.mul_comm]; exact hj)
      have hx := hR (j / sz) l[j / sz] (List.getElem?_eq_getElem hi)
      have hp := flat_part l[j / sz] (f := f) (l := l) (fun x hx => (hmem x hx).1) hi
      have hmod : j % sz < sz := Nat.mod_lt _ h0
      have e1 : j / sz * sz + j % sz = j := by rw [Nat.mul_comm]; exact Nat.div_add_mod j sz
      have e2 : (f l[j / sz])[j % sz]? = some u := by
        have e3 : l.getD (j / sz) l[j / sz] = l[j / sz] := by simp [List.getD_eq_getElem?_getD, hi]
        rw [← e3, ← hp, List.getElem?_take, if_pos hmod, List.getElem?_drop, e1]; exact hu
      have := (World.cells?_some hx.1).2.2 (j % sz) hmod
      rw [Addr.add_add, e1, e2] at this
      exact this
end
theorem _root_.Go.Bz.Rd.max {w : World} {size n : Nat} {v : Value} {xs : List Value} (h : Rd w size v n xs) : n ≤ 9223372036854775807 := by
  obtain ⟨_, _, _, _, _, h1, h2, _⟩ := h
  unfold maxLen at h2; omega
theorem rdF_slcH {α : Type} {f : α → List Value} {sz : Nat} {w : World} {v : Value} {l : List α} {k : Nat} (hf : ∀ x ∈ l, (f x).length = sz) (h : Rd w sz v l.length (l.flatMap f)) (hk : k ≤ l.length) : RdF f sz w (slcV v sz 0 k) (l.take k) := by
  have := h.slc (Nat.zero_le k) hk
  have hl : (l.take k).length = k := by simp; omega
  have e : (l.take k).flatMap f = (l.flatMap f).take (k * sz) := by
    have h1 : l.flatMap f = (l.take k).flatMap f ++ (l.drop k).flatMap f := by rw [← List.flatMap_append, List.take_append_drop]
    rw [h1, List.take_left' (by rw [flat_len (sz := sz) (fun x hx => hf x (List.mem_of_mem_take hx)), hl])]
  show Rd w sz _ (l.take k).length ((l.take k).flatMap f)
  rw [hl, e]
  simpa using this
/-- Numbers. -/
def cI (z : Int) : List Value := [.int .i64 z]
abbrev RdI := RdF cI 1
/-- Pairs of numbers. -/
def cII (p : Int × Int) : List Value := [.int .i64 p.1, .int .i64 p.2]
abbrev RdII := RdF cII 2
def inI (z : Int) : Prop := -9223372036854775808 ≤ z ∧ z ≤ 9223372036854775807
theorem cI_len {l : List Int} : ∀ x ∈ l, (cI x).length = 1 := fun _ _ => rfl
theorem cII_len {l : List (Int × Int)} : ∀ x ∈ l, (cII x).length = 2 := fun _ _ => rfl
section
variable {H : Type} {enc : TypeId × Value → H} {P : Program} {W : World} {base : Nat} {spare : Nat → Bool} {held : Bool} {d : DataW H} {ps : List MemPlace} {r : Reach} {b0 : Nat}
theorem open_rowI {t e : TypeId} {v : Value} (ht : P.underlying t = some (.slice e)) (he : P.underlying e = some (.int .i64)) (hsz : P.cellsOf e = 1) (hval : Value.okWide P W r b0 t v) (hd : DataW.Trod enc P W base spare held t v d ps) : ∃ l : List Int, RdI W v l ∧ ∀ x ∈ l, inI x :=
  open_rowsF cI inI ht hsz (by decide) (fun n c y _ h => by obtain ⟨m, rfl, _, hw⟩ := DataW.trod_int he h; exact ⟨m, rfl, bounds_i64 hw⟩) (fun x u hu => by simp [cI] at hu; subst hu; rfl) hval hd
theorem open_rowII {t e : TypeId} {v : Value} {f0 f1 : Field} (ht : P.underlying t = some (.slice e)) (he : P.underlying e = some (.struct #[f0, f1])) (h0 : f0.offset = 0) (h1 : f1.offset = 1) (hu0 : P.underlying f0.type = some (.int .i64)) (hu1 : P.underlying f1.type = some (.int .i64)) (hc0 : P.cellsOf f0.type = 1) (hc1 : P.cellsOf f1.type = 1) (hsz : P.cellsOf e = 2)
    (hval : Value.okWide P W r b0 t v) (hd : DataW.Trod enc P W base spare held t v d ps) : ∃ l : List (Int × Int), RdII W v l ∧ ∀ x ∈ l, inI x.1 ∧ inI x.2 :=
  open_rowsF cII (fun x => inI x.1 ∧ inI x.2) ht hsz (by decide) (fun n c y hl h => by
    obtain ⟨y0, y1, m, _, _, g0, g1⟩ := trod_struct2 he h
    rw [h0, hc0] at g0
    rw [h1, hc1] at g1
    match c, hl with
    | [c0, c1], _ =>
      obtain ⟨m0, e0, _, w0⟩ := DataW.trod_int hu0 g0
      obtain ⟨m1, e1, _, w1⟩ := DataW.trod_int hu1 g1
      simp at e0 e1
      subst e0 e1
      exact ⟨(m0, m1), rfl, bounds_i64 w0, bounds_i64 w1⟩) (fun x u hu => by simp [cII] at hu; rcases hu with rfl | rfl <;> rfl) hval hd
end
theorem cI_map : ∀ zs : List Int, zs.flatMap cI = zs.map (Value.int .i64)
  | [] => rfl
  | z :: l => by rw [List.flatMap_cons, cI_map l]; rfl
theorem rdI_blk {w : World} {g : Nat} {zs : List Int} {T : TypeId} {n : Nat} (hb : Blk w g (zs.map (Value.int .i64)) T) (hl : zs.length = n) (hn : n ≤ 1000000) : RdI w (.slice (some ⟨g, 0, none⟩) n n) zs := by
  subst hl
  have e := cI_map zs
  show Rd w 1 _ zs.length (zs.flatMap cI)
  rw [e]
  exact rd_blk hb (by simp) (by unfold maxLen; omega) (fun u hu => by simp at hu; obtain ⟨z, _, rfl⟩ := hu; rfl)
end Go.Proofs.Ytjgcjddaladgfaa
