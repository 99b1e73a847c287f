/- Letters: rows of them, their bytes, and how one is taken out. -/
import Derived.Test.YtjgcjddaladgfaaHold
import Derived.Test.YtjgcjddaladgfaaSym
import Derived.Test.YtjgcjddaladgfaaAppN
import Derived.Test.YtjgcjddaladgfaaOpenP
import Derived.Lib.SliceRun
namespace Go.Bz
open Go.RowKit
/-- A letter: whom to, its slice, its bytes. -/
structure Lt where
  to : Int
  v : V1
  b : List UInt8
def cLt (x : Lt) : List Value := [.int .i64 x.to, x.v.1]
def zLt : Lt := ⟨0, zV1, []⟩
theorem cLt_ln (x : Lt) : (cLt x).length = 2 := rfl
theorem cLt_len {l : List Lt} : ∀ x ∈ l, (cLt x).length = 2 := fun _ _ => rfl
theorem cLt_one : ∀ x, ∀ u ∈ cLt x, u.oneCell' = true := fun x u hu => by
  simp [cLt] at hu; rcases hu with rfl | rfl
  · rfl
  · exact x.v.2
def cNu (n : Nat) : List Value := [.int .i64 (n : Int)]
theorem cNu_len {l : List Nat} : ∀ x ∈ l, (cNu x).length = 1 := fun _ _ => rfl
theorem cNu_one : ∀ x, ∀ u ∈ cNu x, u.oneCell' = true := fun x u hu => by simp [cNu] at hu; subst hu; rfl
theorem memL {α : Type} {l : List α} {i : Nat} {d : α} (h : i < l.length) : l.getD i d ∈ l := by
  rw [List.getD_eq_getElem?_getD, List.getElem?_eq_getElem h]; exact List.getElem_mem _
def ky (x : Lt) : Int × List UInt8 := (x.to, x.b)
abbrev kys (l : List Lt) : List (Int × List UInt8) := l.map ky
theorem kys_len {l m : List Lt} (h : kys l = kys m) : l.length = m.length := by have := congrArg List.length h; simpa using this
theorem kys_at {l m : List Lt} (h : kys l = kys m) (i : Nat) : (l.getD i zLt).to = (m.getD i zLt).to ∧ (l.getD i zLt).b = (m.getD i zLt).b := by
  have h1 : (kys l)[i]? = (kys m)[i]? := by rw [h]
  simp only [List.getElem?_map] at h1
  rw [List.getD_eq_getElem?_getD, List.getD_eq_getElem?_getD]
  cases e1 : l[i]? <;> cases e2 : m[i]? <;> simp_all [ky]
abbrev RdL (w : World) (v : Value) (l : List UInt8) : Prop := Rd w 1 v l.length (cBs l)
/-- The letters' bytes: in blocks of their own, or in such as never change. -/
def BagAt (Z S : Nat → Prop) (ls : List Lt) (w : World) : Prop := ∀ x ∈ ls, RdL w x.v.1 x.b ∧ ∀ k, x.v.1.ownBlock = some k → 0 < x.b.length → S k ∨ Z k
def oBag (Z S : Nat → Prop) (ls : List Lt) : MemO := ⟨S, BagAt Z S ls⟩
section
variable {N Z S : Nat → Prop} {w0 w w' : World} {L L2 M : List MemO} {i j : Nat} {ls ms : List Lt}
theorem BagAt.rd (h : BagAt Z S ls w) {x : Lt} (hx : x ∈ ls) : RdL w x.v.1 x.b := (h x hx).1
theorem stay_bag (hZ : ∀ k, N k → ¬ Z k) (h : BagAt Z S ls w) : ∀ w2 (K : Nat → Prop), Chg K w w2 → (∀ k, K k → N k) → (∀ k, (oBag Z S ls).fp k → ¬ K k) → (oBag Z S ls).R w2 := fun w2 K hc hk hd x hx => by
  obtain ⟨h1, h2⟩ := h x hx
  refine ⟨Rd.keep h1 hc fun k hk' h0 hK => ?_, h2⟩
  have h0 : 0 < x.b.length := by simpa using h0
  rcases h2 k hk' h0 with h | h
  · exact hd k h hK
  · exact hZ k (hk k hK) h
theorem Stays.bag (hZ : ∀ k, N k → ¬ Z k) (h : BagAt Z S ls w) (t : Stays N w L) : Stays N w (oBag Z S ls :: L) := fun O hO => by
  rcases List.mem_cons.1 hO with rfl | hO
  · exact stay_bag hZ h
  · exact t O hO
theorem Heap.bag (hH : Heap N w0 w L) (hi : L[i]? = some (oBag Z S ls)) : BagAt Z S ls w := hH.get hi
theorem Heap.addBag0 (hH : Heap N w0 w L) (Z : Nat → Prop) : Heap N w0 w (L ++ [oBag Z (fun _ => False) []]) := hH.bare (fun _ h => h) fun _ x hx => by simp at hx
/-- A letter whose bytes are a row of the call's own. -/
theorem Heap.bagOwn (hH : Heap N w0 w L) {x : Lt} {e : TypeId} (hi : L[i]? = some (oBag Z S ls)) (hj : L[j]? = some (oOwn e 1 x.v.1 x.b.length (cBs x.b))) (hn : i ≠ j) (hL : (L.set i (oBag Z (fun k => S k ∨ x.v.1.ownBlock = some k) (ls ++ [x]))).eraseIdx j = L2) : Heap N w0 w L2 :=
  hH.join (O' := oBag Z (fun k => S k ∨ x.v.1.ownBlock = some k) (ls ++ [x])) hi hj hn (fun k => Iff.rfl) (fun w' hA hB y hy => by
    rcases List.mem_append.1 hy with hy | hy
    · exact ⟨(hA y hy).1, fun k h1 h2 => ((hA y hy).2 k h1 h2).elim (fun h => .inl (.inl h)) .inr⟩
    · obtain rfl : y = x := by simpa using hy
      exact ⟨Own.rd hB (cBs_one _), fun k h1 _ => .inl (.inr h1)⟩) hL
/-- A letter whose bytes never change. -/
theorem Heap.bagZ (hH : Heap N w0 w L) {x : Lt} (hZ : ∀ k, N k → ¬ Z k) (hi : L[i]? = some (oBag Z S ls)) (hr : RdL w x.v.1 x.b) (hz : ∀ k, x.v.1.ownBlock = some k → 0 < x.b.length → Z k) (hL : L.set i (oBag Z S (ls ++ [x])) = L2) : Heap N w0 w L2 := by
  have hb := hH.bag hi
  have hb' : BagAt Z S (ls ++ [x]) w := fun y hy => by
    rcases List.mem_append.1 hy with hy | hy
    · exact hb y hy
    · obtain rfl : y = x := by simpa using hy
      exact ⟨hr, fun k h1 h2 => .inr (hz k h1 h2)⟩
  exact hH.mut (O' := oBag Z S (ls ++ [x])) hi (Chg.refl _ _) (fun k hk => .inl hk) (stay_bag hZ hb') hL
/-- Letters out of those that there are. -/
theorem Heap.bagSub (hH : Heap N w0 w L) (hi : L[i]? = some (oBag Z S ls)) (hs : ∀ x ∈ ms, x ∈ ls) (hL : L.set i (oBag Z S ms) = L2) : Heap N w0 w L2 :=
  hH.conv (O' := oBag Z S ms) hi (fun k => Iff.rfl) (fun w' h x hx => h x (hs x hx)) hL
theorem sub_erase {i : Nat} : ∀ x ∈ ls.eraseIdx i, x ∈ ls := fun x hx => (List.eraseIdx_sublist ls i).subset hx
theorem sub_dup {x : Lt} (hx : x ∈ ls) : ∀ y ∈ ls ++ [x], y ∈ ls := fun y hy => by
  rcases List.mem_append.1 hy with hy | hy
  · exact hy
  · obtain rfl : y = x := by simpa using hy
    exact hx
/-- What a call is given: some of the objects. -/
abbrev fpL (M : List MemO) : Nat → Prop := fun k => ∃ O ∈ M, O.fp k
theorem Heap.subL (hO : Heap N w0 w (L ++ M)) : ∀ k, newK w (fpL M) k → N k := fun k h => h.elim (fun h => hO.up k (Nat.le_trans hO.size h)) fun h => by obtain ⟨O, hO1, h1⟩ := h; exact (hO.al O (List.mem_append.2 (.inr hO1))).sub k h1
theorem Heap.part (hO : Heap N w0 w (L ++ M)) : Heap (newK w (fpL M)) w w M :=
  ⟨Chg.refl _ _, fun k h => .inl h, fun O h => ⟨fun k hk => .inr ⟨O, h, hk⟩, (hO.al O (List.mem_append.2 (.inr h))).lt, fun w2 K hc hk hd => (hO.al O (List.mem_append.2 (.inr h))).stay w2 K hc (fun k hk' => hO.subL k (hk k hk')) hd⟩, (List.pairwise_append.1 hO.apart).2.1⟩
theorem Heap.partZ (hO : Heap N w0 w (L ++ M)) (hZ : ∀ k, N k → ¬ Z k) : ∀ k, newK w (fpL M) k → ¬ Z k := fun k h => hZ k (hO.subL k h)
theorem Stab.part {size n : Nat} {v : Value} {xs : List Value} (h : Stab N w0 size v n xs) (hO : Heap N w0 w (L ++ M)) : Stab (newK w (fpL M)) w size v n xs :=
  ⟨fun w' hc => h.rd w' (hO.chg.trans (hc.le hO.subL)), fun k hk h0 hn => h.out k hk h0 (hO.subL k hn)⟩
/-- A row that is not given. -/
theorem Heap.rowStab {e : TypeId} {size n : Nat} {v : Value} {xs : List Value} (hO : Heap N w0 w (L ++ M)) (hi : L[i]? = some (oOwn e size v n xs)) (h1 : ∀ u ∈ xs, u.oneCell' = true) : Stab (newK w (fpL M)) w size v n xs := by
  have hm := List.mem_of_getElem? hi
  have hA := hO.al _ (List.mem_append.2 (.inl hm))
  have hd : ∀ k, (oOwn e size v n xs).fp k → ¬ newK w (fpL M) k := fun k hk h => h.elim (fun h => by have := hA.lt k hk; omega) fun h => by
    obtain ⟨O, hO1, h1⟩ := h
    exact (List.pairwise_append.1 hO.apart).2.2 _ hm O hO1 k hk h1
  exact ⟨fun w' hc => Own.rd (hA.stay w' _ hc hO.subL hd) h1, fun k hk _ => hd k hk⟩
end
/-! Taking one out. -/
section
variable {P : Program} {N : Nat → Prop} {w0 w : World} {L L2 : List MemO} {i k : Nat} {o : Oper} {a : Act} {t e : TypeId} {z : Value} {size bytes g n cap : Nat} {xs : List Value}
theorem slcV_slice {ao : Option Addr} {l h : Nat} : slcV (.slice ao n cap) size l h = .slice (if cap = l then ao else ao.map (·.add (l * size))) (h - l) (cap - l) := rfl
theorem own_room {v : Value} (h : Own w e size v n xs) (hn : 0 < n) : ∃ g cap, v = .slice (some ⟨g, 0, none⟩) n cap ∧ n ≤ cap ∧ cap ≤ maxLen := by
  obtain ⟨g, cap, cur, rfl, _, h1, h2, _⟩ := h.form hn
  exact ⟨g, cap, rfl, h1, h2⟩
/-- append of a row's end to its beginning, where it lies. -/
theorem hx_appSelf (hH : Heap N w0 w L) (T : ST P t e z size bytes) {s x : Operand} {ys : List Value} {m m2 : Nat} (ho : o.op = .call { callee := .builtin .append, args := #[s, x], argTypes := #[t, t] })
    (hi : L[i]? = some (oOwn e size (.slice (some ⟨g, 0, none⟩) n cap) n xs)) (h1 : ∀ u ∈ xs, u.oneCell' = true) (hk : k < n) (hc : n ≤ cap) (hs : a.eval s = slcV (.slice (some ⟨g, 0, none⟩) n cap) size 0 k) (hx : a.eval x = slcV (.slice (some ⟨g, 0, none⟩) n cap) size (k + 1) n)
    (hm : k + (n - (k + 1)) = m) (hys : xs.take (k * size) ++ xs.drop ((k + 1) * size) = ys) (hm2 : m = m2) (hL : L.set i (oOwn e size (.slice (some ⟨g, 0, none⟩) m cap) m2 ys) = L2) :
    ∃ v w', (execOp a.eval o).run P w = .ok (.value v) w' ∧ v = .slice (some ⟨g, 0, none⟩) m cap ∧ Heap N w0 w' L2 ∧ Chg N w w' := by
  subst hm2
  have hO := hH.own hi
  have hrd := Own.rd hO h1
  obtain ⟨g', cap', cur, he, hb, hc1, hc2, hc3, hc4⟩ := hO.form (by omega)
  simp only [Value.slice.injEq, Option.some.injEq, Addr.mk.injEq] at he
  obtain ⟨⟨rfl, _⟩, _, rfl⟩ := he
  obtain ⟨ht, hinfo, hzs, hsz, hby⟩ := T
  obtain ⟨inf, hi', hz, hsize, hbytes⟩ := info_parts hinfo
  have hcl : cap ≠ 0 := by omega
  have hS : slcV (.slice (some ⟨g, 0, none⟩) n cap) size 0 k = .slice (some ⟨g, 0, none⟩) k cap := by
    simp [slcV, hcl, Addr.add]
  have hpart := hrd.slc (l := k + 1) (h := n) (by omega) (Nat.le_refl _)
  have hlx : xs.length = n * size := hO.len
  have htk : (xs.drop ((k + 1) * size)).take ((n - (k + 1)) * size) = xs.drop ((k + 1) * size) := by
    apply List.take_of_length_le
    rw [List.length_drop, hlx, ← Nat.sub_mul]; exact Nat.le_refl _
  rw [htk] at hpart
  obtain ⟨hpl, hp1, ao, cp, hpe, _, _, _, hcells⟩ := hpart
  have hao : ∃ ad, slcV (.slice (some ⟨g, 0, none⟩) n cap) size (k + 1) n = .slice (some ad) (n - (k + 1)) (cap - (k + 1)) ∧ ao = some ad := by
    rw [slcV_slice] at hpe ⊢
    simp only [Value.slice.injEq] at hpe
    obtain ⟨e1, _, _⟩ := hpe
    by_cases hq : cap = k + 1
    · rw [if_pos hq] at e1
      exact ⟨_, by rw [if_pos hq], e1.symm⟩
    · rw [if_neg hq] at e1
      exact ⟨(⟨g, 0, none⟩ : Addr).add ((k + 1) * size), by rw [if_neg hq]; rfl, e1.symm⟩
  obtain ⟨ad, hX, rfl⟩ := hao
  have hnews : ∀ j u, (xs.drop ((k + 1) * size))[j]? = some u → w.cell? (ad.add j) = some u := fun j u hu => by
    obtain ⟨a', h1, h2⟩ := hcells j u hu
    obtain rfl := Option.some.inj h1
    exact h2
  have hd : (k + 1) * size ≤ n * size := Nat.mul_le_mul_right _ (by omega)
  have hd2 : n * size ≤ cap * size := Nat.mul_le_mul_right _ hc
  have hks : (k + 1) * size = k * size + size := Nat.succ_mul _ _
  have hrun := run_append_room (P := P) w t o.type e inf ht hi' g k cap cur.toArray hb ad (n - (k + 1)) (cap - (k + 1)) (xs.drop ((k + 1) * size)) (by rw [hpl, hsize]) hnews hp1 (by omega) (by rw [hsize, List.length_drop, hlx]; simp only [List.size_toArray, hc3]; omega)
  rw [hsize, hm] at hrun
  refine ⟨_, w.setRow g (cur.take (k * size) ++ xs.drop ((k + 1) * size) ++ cur.drop (k * size + (xs.drop ((k + 1) * size)).length)).toArray, ?_, rfl, ?_⟩
  · unfold execOp
    simp only [ho, resolve, invoke, builtin, Sem.run_bind, Sem.run_pure, Result.andThen_ok, List.map_toArray, List.map_cons, List.map_nil, hs, hx, hS, hX, hrun]
  · have hc' := Chg.setRow (w := w) g (cur.take (k * size) ++ xs.drop ((k + 1) * size) ++ cur.drop (k * size + (xs.drop ((k + 1) * size)).length)).toArray
    have hset := hb.setRow (cur.take (k * size) ++ xs.drop ((k + 1) * size) ++ cur.drop (k * size + (xs.drop ((k + 1) * size)).length))
    have hcf : Chg (oOwn e size (.slice (some ⟨g, 0, none⟩) n cap) n xs).fp w (w.setRow g (cur.take (k * size) ++ xs.drop ((k + 1) * size) ++ cur.drop (k * size + (xs.drop ((k + 1) * size)).length)).toArray) := hc'.mono fun j _ hj => by subst hj; rfl
    have hmn : m = n - 1 := by omega
    have hms : m * size + size = n * size := by rw [← Nat.succ_mul]; congr 1; omega
    refine ⟨hH.setOwn (v' := .slice (some ⟨g, 0, none⟩) m cap) (n' := m) (xs' := ys) hi hcf (fun j hj => .inl hj) (Own.of_form hset (by omega) hc2 ?_ ?_) hL, hH.within hi hcf⟩
    · simp only [List.length_append, List.length_take, List.length_drop, hlx, hc3]; omega
    · rw [← hys, ← hc4]
      have hlen : (cur.take (k * size) ++ (cur.take (n * size)).drop ((k + 1) * size)).length = m * size := by
        simp only [List.length_append, List.length_take, List.length_drop, hc3]; omega
      rw [List.take_left' hlen]
      congr 1
      rw [List.take_take, Nat.min_eq_left (by omega)]
/-- A slice that goes on behind its end. -/
theorem rv_slcCap (T : ST P t e z size bytes) {x y u : Operand} {ao : Option Addr} {q q2 : IntKind} {l h : Nat} (ho : o.op = .slice t x (some y) (some u) none) (hx : a.eval x = .slice ao n cap) (hy : a.eval y = .int q (l : Int)) (hu : a.eval u = .int q2 (h : Int)) (h1 : l ≤ h) (h2 : h ≤ cap) (hcm : cap ≤ maxLen) :
    (execOp a.eval o).run P w = .ok (.value (slcV (.slice ao n cap) size l h)) w := by
  obtain ⟨ht, hinfo, hzs, hsz, hb⟩ := T
  obtain ⟨inf, hi', hz, hsize, hby⟩ := info_parts hinfo
  unfold execOp slcV
  have hsl : (Instr.sliceBounds true n cap (some (.int q (l : Int))) (some (.int q2 (h : Int))) none).run P w = .ok (l, h, cap) w := by
    unfold Instr.sliceBounds
    simp [run_sliceBound w q2 (h : Int) cap _ (by omega) (by omega), run_sliceBound w q (l : Int) h _ (by omega) (by omega)]
  simp only [ho, hx, hy, hu, Option.map_some, Option.map_none, Sem.run_bind, Instr.sliceAt, Instr.slice, run_underlying ht, Result.andThen_ok, hsl, sizeOf, typeInfo]
  simp [hi', hsize]
/-- A slice with all three bounds. -/
theorem rv_slc3 (T : ST P t e z size bytes) {x y u r : Operand} {ao : Option Addr} {q q2 q3 : IntKind} {l h c : Nat} (ho : o.op = .slice t x (some y) (some u) (some r)) (hx : a.eval x = .slice ao n cap) (hy : a.eval y = .int q (l : Int)) (hu : a.eval u = .int q2 (h : Int)) (hr : a.eval r = .int q3 (c : Int)) (h1 : l ≤ h) (h2 : h ≤ c) (h3 : c ≤ cap) (hcm : cap ≤ maxLen) :
    (execOp a.eval o).run P w = .ok (.value (.slice (if c = l then ao else ao.map (·.add (l * size))) (h - l) (c - l))) w := by
  obtain ⟨ht, hinfo, hzs, hsz, hb⟩ := T
  obtain ⟨inf, hi', hz, hsize, hby⟩ := info_parts hinfo
  unfold execOp
  have hsl : (Instr.sliceBounds true n cap (some (.int q (l : Int))) (some (.int q2 (h : Int))) (some (.int q3 (c : Int)))).run P w = .ok (l, h, c) w := by
    unfold Instr.sliceBounds
    simp [run_sliceBound w q3 (c : Int) cap _ (by omega) (by omega), run_sliceBound w q2 (h : Int) c _ (by omega) (by omega), run_sliceBound w q (l : Int) h _ (by omega) (by omega)]
  simp only [ho, hx, hy, hu, hr, Option.map_some, Sem.run_bind, Instr.sliceAt, Instr.slice, run_underlying ht, Result.andThen_ok, hsl, sizeOf, typeInfo]
  simp [hi', hsize]
/-- clear behind a row's end. -/
theorem hx_clearEnd (hH : Heap N w0 w L) (T : ST P t e z size bytes) {x : Operand} {ys zs : List Value} {m m2 : Nat} (ho : o.op = .call { callee := .builtin .clear, args := #[x], argTypes := #[t] })
    (hi : L[i]? = some (oOwn e size (.slice (some ⟨g, 0, none⟩) m cap) m2 ys)) (hz0 : ∀ w, (zeroValue e).run P w = .ok z w) (hzs : (Builtin.zeroCells z.cells 1).toList = zs) (hzl : zs.length = size) (hz1 : ∀ u ∈ zs, u.oneCell' = true) (hm : m + 1 = n) (hc : n ≤ cap) (hx : a.eval x = slcV (.slice (some ⟨g, 0, none⟩) m cap) size m n) :
    ∃ v w', (execOp a.eval o).run P w = .ok (.value v) w' ∧ Heap N w0 w' L ∧ Chg N w w' := by
  have hO := hH.own hi
  have ht := T.under
  rcases hO.2 with ⟨he, _⟩ | ⟨g', cap', cur, he, _, hb, hc1, hc2, hc3, hc4⟩
  · cases he
  simp only [Value.slice.injEq, Option.some.injEq, Addr.mk.injEq] at he
  obtain ⟨⟨rfl, _⟩, rfl, rfl⟩ := he
  have hX : slcV (.slice (some ⟨g, 0, none⟩) m cap) size m n = .slice (some ⟨g, m * size, none⟩) 1 (cap - m) := by
    have h1 : ¬ cap = m := by omega
    have h2 : n - m = 1 := by omega
    simp [slcV, h1, h2, Addr.add]
    exact fun h => h.symm
  have hms : m * size + size ≤ cap * size := by rw [← Nat.succ_mul]; exact Nat.mul_le_mul_right _ (by omega)
  have hst := run_storeCells_at P g (m * size) e zs 0 cur w hb (by rw [Nat.add_zero, hzl, hc3]; exact hms) hz1
  simp only [Nat.add_zero] at hst
  have hb' : Blk w g cur.toList e := by unfold Blk; simpa using hb
  have hset := hb'.setRow (cur.toList.take (m * size) ++ zs ++ cur.toList.drop (m * size + zs.length))
  have hcf : Chg (oOwn e size (.slice (some ⟨g, 0, none⟩) m cap) m ys).fp w (w.setRow g (cur.toList.take (m * size) ++ zs ++ cur.toList.drop (m * size + zs.length)).toArray) := (Chg.setRow (w := w) g _).mono fun j _ hj => by subst hj; rfl
  refine ⟨.tuple #[], _, ?_, hH.setOwn (v' := .slice (some ⟨g, 0, none⟩) m cap) (n' := m) (xs' := ys) hi hcf (fun j hj => .inl hj) (Own.of_form hset hc1 hc2 ?_ ?_) ?_, hH.within hi hcf⟩
  · unfold execOp
    have hcl : ∀ ty, (Builtin.clear_ #[t] ty #[.slice (some ⟨g, m * size, none⟩) 1 (cap - m)]).run P w = .ok (.tuple #[]) (w.setRow g (cur.toList.take (m * size) ++ zs ++ cur.toList.drop (m * size + zs.length)).toArray) := fun ty => by
      simp [Builtin.clear_, run_underlying ht, hz0, hzs, hst]
    simp only [ho, resolve, invoke, builtin, Sem.run_bind, Sem.run_pure, Result.andThen_ok, List.map_toArray, List.map_cons, List.map_nil, hx, hX, hcl]
  · simp only [List.length_append, List.length_take, List.length_drop, hzl, Array.length_toList, hc3]; omega
  · have h1 : (cur.toList.take (m * size)).length = m * size := by simp only [List.length_take, Array.length_toList, hc3]; omega
    rw [List.append_assoc, List.take_left' h1]; exact hc4
  · apply List.ext_getElem?
    intro j
    by_cases e : i = j
    · subst e
      rw [List.getElem?_set_self (List.getElem?_eq_some_iff.1 hi).1]; exact hi.symm
    · rw [List.getElem?_set_ne e]
end
end Go.Bz
