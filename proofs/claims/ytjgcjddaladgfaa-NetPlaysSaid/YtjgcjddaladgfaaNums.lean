/- Numbers that are written one behind the other. -/
import Derived.Test.YtjgcjddaladgfaaRowF
import Derived.Test.YtjgcjddaladgfaaRcpt
namespace Go.Proofs.Ytjgcjddaladgfaa
open Go.RowKit Go.Bz Go.Bz.Wire
attribute [local irreducible] wpList Code.wp wpAnyX
theorem getD_in {l : List Int} (h : ∀ x ∈ l, inI x) : ∀ i, i < l.length → -9223372036854775808 ≤ List.getD l i 0 ∧ List.getD l i 0 ≤ 9223372036854775807 := fun i hi => by
  have : List.getD l i 0 ∈ l := by rw [List.getD_eq_getElem?_getD, List.getElem?_eq_getElem hi]; exact List.getElem_mem _
  exact h _ this

set_option maxRecDepth 100000 in
set_option maxHeartbeats 4000000 in
theorem penNums_calls {g : Nat} {v : Value} {l : List UInt8} {x : Value} {zs : List Int} (hin : ∀ i, i < zs.length → -9223372036854775808 ≤ List.getD zs i 0 ∧ List.getD zs i 0 ≤ 9223372036854775807) (w : World) (hz0 : RdI w x zs) (hdg : ∀ k, x.ownBlock = some k → 0 < (zs.flatMap cI).length → k ≠ g) (hdv : ∀ k, x.ownBlock = some k → 0 < (zs.flatMap cI).length → v.ownBlock ≠ some k) (hp0 : PenAt w g v l) (hl : l.length + 10 * zs.length ≤ 100000000) :
    Calls Try.prog 27 #[.pointer (some ⟨g, 0, none⟩), x] w fun e'' w' => e'' = .returned (.pointer (some ⟨g, 0, none⟩)) ∧ PenPost w w' g v (l ++ puts zs) := by
  refine calls_fr (args := [.pointer (some ⟨g, 0, none⟩), x]) (n := 18) Try.func27 rfl rfl (show 2 ≤ 18 by decide) ?_
  have hC : Chg (fun k => k = g ∨ v.ownBlock = some k) w w := Chg.refl _ _
  have h_g := hp0.1
  have ho := hp0.2
  have hz := hz0
  have ge_ho : ∀ k, (v : Value).ownBlock = some k → w.heap.size ≤ k ∨ (v : Value).ownBlock = some k := fun _ h => Or.inr h
  refine wp_seq ?_
  refine wp_gen (fun F' => F' 0 = .pointer (some ⟨g, 0, none⟩) ∧ F' 1 = x) ⟨rfl, rfl⟩ ?_
  rintro F ⟨e0, e1⟩
  refine wp_regionF ?_
  refine lf_val (v := .pointer none) (wantAll rfl) (rv_assign rfl rfl) ?_
  refine lf_nil ?_
  refine then_n ?_
  refine wp_seq ?_
  refine wp_seq ?_
  refine wp_gen (fun F' => F' 0 = .pointer (some ⟨g, 0, none⟩) ∧ F' 1 = x ∧ F' 4 = .pointer none) ⟨e0, e1, rfl⟩ ?_
  clear e0 e1
  clear F
  rintro F ⟨e0, e1, e4⟩
  refine wp_regionF ?_
  refine lf_val (v := x) (wantAll rfl) (rv_move rfl (fr_eval rfl e1)) ?_
  refine lf_val (v := .int .i64 ((zs.length : Nat) : Int)) (wantAll rfl) (rv_len rfl (fr_eval rfl rfl) (RdF.rd hz) Try.underlying48) ?_
  refine lf_val (v := .int .i64 0) (wantAll rfl) (rv_move rfl rfl) ?_
  refine lf_nil ?_
  refine then_n ?_
  refine wp_block ?_
  have hzm := Rd.max hz
  refine wp_gen (fun F' => F' 0 = .pointer (some ⟨g, 0, none⟩) ∧ F' 1 = x ∧ F' 4 = .pointer none ∧ F' 7 = x ∧ F' 8 = .int .i64 ((zs.length : Nat) : Int) ∧ F' 9 = .int .i64 0) ⟨e0, e1, e4, rfl, rfl, rfl⟩ ?_
  clear e0 e1 e4
  clear F
  rintro F ⟨e0, e1, e4, e7, e8, e9⟩
  refine wp_loopF (fun m F wr => ∃ i : Nat, ∃ l2 : List UInt8, ∃ yb : Value, m = zs.length - i ∧ i ≤ zs.length ∧ l2 = l ++ puts (List.take i zs) ∧ l2.length ≤ l.length + 10 * i ∧ F 0 = .pointer (some ⟨g, 0, none⟩) ∧ F 1 = x ∧ F 4 = .pointer none ∧ F 7 = x ∧ F 8 = .int .i64 ((zs.length : Nat) : Int) ∧ F 9 = .int .i64 ((i : Nat) : Int) ∧ Blk wr g ([yb]) 50 ∧ OwnB wr yb l2 ∧ (∀ k, (yb : Value).ownBlock = some k → w.heap.size ≤ k ∨ (v : Value).ownBlock = some k) ∧ RdF cI 1 wr x zs ∧ Chg (fun k => k = g ∨ v.ownBlock = some k) w wr) ⟨0, _, _, rfl, Nat.zero_le _, (by unfold puts; simp), (by omega), e0, e1, e4, e7, e8, e9, h_g, ho, ge_ho, hz, hC⟩ ?_
  clear e0 e1 e4 e7 e8 e9 h_g ho hz ge_ho hC
  clear F
  rintro m F w1 ⟨i, l2, yb, rfl, pi0, pi1, pi2, e0, e1, e4, e7, e8, e9, h_g, ho, ge_ho, hz, hC⟩
  refine wp_seq ?_
  refine wp_regionF ?_
  by_cases hc1 : i < zs.length
  · refine lf_val (v := .bool true) (wantAll rfl) (rv_lss rfl (fr_eval rfl e9) (fr_eval rfl e8) (decide_eq_true (by omega))) ?_
    refine lf_nil ?_
    refine then_n ?_
    refine wp_seq ?_
    refine wp_gen (fun F' => F' 0 = .pointer (some ⟨g, 0, none⟩) ∧ F' 1 = x ∧ F' 4 = .pointer none ∧ F' 7 = x ∧ F' 8 = .int .i64 ((zs.length : Nat) : Int) ∧ F' 9 = .int .i64 ((i : Nat) : Int) ∧ F' 10 = .bool true) ⟨e0, e1, e4, e7, e8, e9, rfl⟩ ?_
    clear e0 e1 e4 e7 e8 e9
    clear F
    rintro F ⟨e0, e1, e4, e7, e8, e9, e10⟩
    refine wp_cond_true (fr_eval rfl e10) ?_
    refine wp_skip ?_
    refine then_n ?_
    refine wp_seq ?_
    refine wp_block ?_
    refine wp_seq ?_
    have hzi := hin i (by omega)
    refine wp_regionF ?_
    refine lf_val (v := .pointer (some (elemA x (i * 1)))) (wantAll rfl) (rv_index rfl (fr_eval rfl e7) (fr_eval rfl e9) (RdF.rd hz) (by omega) Try.underlying48 Try.sz3 (by decide)) ?_
    refine lf_val (v := .int .i64 (List.getD zs i 0)) (wantAll rfl) (rv_loadCell rfl (fr_eval rfl rfl) (Nat.mul_one _) (RdF.rd hz) (flat_get1 0 cI_len (by omega) rfl) Try.underlying3 rfl Try.sz3) ?_
    refine lf_val (v := .int .i64 (List.getD zs i 0)) (wantAll rfl) (rv_assign rfl (fr_eval rfl rfl)) ?_
    refine lf_nil ?_
    refine then_n ?_
    refine wp_gen (fun F' => F' 0 = .pointer (some ⟨g, 0, none⟩) ∧ F' 1 = x ∧ F' 4 = .pointer none ∧ F' 6 = .int .i64 (List.getD zs i 0) ∧ F' 7 = x ∧ F' 8 = .int .i64 ((zs.length : Nat) : Int) ∧ F' 9 = .int .i64 ((i : Nat) : Int) ∧ F' 10 = .bool true) ⟨e0, e1, e4, rfl, e7, e8, e9, e10⟩ ?_
    clear e0 e1 e4 e7 e8 e9 e10
    clear F
    rintro F ⟨e0, e1, e4, e6, e7, e8, e9, e10⟩
    refine wp_regionF ?_
    refine lf_val (v := .pointer (some ⟨g, 0, none⟩)) (wantAll rfl) (rv_move rfl (fr_eval rfl e0)) ?_
    refine lf_val (v := .int .i64 (List.getD zs i 0)) (wantAll rfl) (rv_move rfl (fr_eval rfl e6)) ?_
    refine lf_call (wantAll rfl) (rv_call (args := [.pointer (some ⟨g, 0, none⟩), .int .i64 (List.getD zs i 0)]) rfl (evc (fr_eval rfl rfl) (evc (fr_eval rfl rfl) evn)) Try.call24) (penNum_calls (List.getD zs i 0) (by omega) _ ⟨h_g, ho⟩ (by omega)) ?_
    rintro _ w2 ⟨rfl, ⟨y1, ⟨h_g', ho'⟩, hx, gn⟩⟩
    refine ⟨_, rfl, ?_⟩
    replace gn : ∀ k, (y1 : Value).ownBlock = some k → w.heap.size ≤ k ∨ (v : Value).ownBlock = some k := fun k hk => Or.elim (gn k hk) (fun h => Or.inl (Nat.le_trans (Chg.size hC) h)) (fun h => ge_ho k h)
    replace hz := Rd.keep hz hx (fun b hb h0 e => Or.elim e (fun e => by have e : b = g := e; exact hdg b hb h0 e) (fun e => Or.elim (ge_ho b e) (fun h => by have := Rd.lt hz0 h0 b hb; omega) (fun h => hdv b hb h0 h)))
    replace hC := Chg.then hC hx (fun i hi e => Or.elim e (fun e => Or.inl e) (fun e => Or.elim (ge_ho i e) (fun h => absurd hi (by omega)) (fun h => Or.inr h)))
    replace ge_ho := gn
    replace h_g := h_g'
    replace ho := ho'
    clear gn hx h_g' ho'
    refine lf_nil ?_
    refine blk_n ?_
    refine then_n ?_
    refine wp_gen (fun F' => F' 0 = .pointer (some ⟨g, 0, none⟩) ∧ F' 1 = x ∧ F' 4 = .pointer none ∧ F' 6 = .int .i64 (List.getD zs i 0) ∧ F' 7 = x ∧ F' 8 = .int .i64 ((zs.length : Nat) : Int) ∧ F' 9 = .int .i64 ((i : Nat) : Int) ∧ F' 10 = .bool true) ⟨e0, e1, e4, e6, e7, e8, e9, e10⟩ ?_
    clear e0 e1 e4 e6 e7 e8 e9 e10
    clear F
    rintro F ⟨e0, e1, e4, e6, e7, e8, e9, e10⟩
    refine wp_regionF ?_
    refine lf_val (v := .int .i64 ((i + 1 : Nat) : Int)) (wantAll rfl) (rv_add rfl (fr_eval rfl e9) rfl (wrap_i64 (by omega) (by omega) (by omega))) ?_
    refine lf_val (v := .int .i64 ((i + 1 : Nat) : Int)) (wantAll rfl) (rv_move rfl (fr_eval rfl rfl)) ?_
    refine lf_nil ?_
    refine then_n ?_
    exact ⟨_, _, (by omega), rfl, i + 1, _, _, rfl, (by omega), (by rw [pi1, puts_next (by omega), List.append_assoc]), (by have := put_len (List.getD zs i 0); simp only [List.length_append]; omega), e0, e1, e4, e7, e8, rfl, h_g, ho, ge_ho, hz, hC⟩
  · refine lf_val (v := .bool false) (wantAll rfl) (rv_lss rfl (fr_eval rfl e9) (fr_eval rfl e8) (decide_eq_false (by omega))) ?_
    refine lf_nil ?_
    refine then_n ?_
    refine wp_seq ?_
    refine wp_gen (fun F' => F' 0 = .pointer (some ⟨g, 0, none⟩) ∧ F' 1 = x ∧ F' 4 = .pointer none ∧ F' 7 = x ∧ F' 8 = .int .i64 ((zs.length : Nat) : Int) ∧ F' 9 = .int .i64 ((i : Nat) : Int) ∧ F' 10 = .bool false) ⟨e0, e1, e4, e7, e8, e9, rfl⟩ ?_
    clear e0 e1 e4 e7 e8 e9
    clear F
    rintro F ⟨e0, e1, e4, e7, e8, e9, e10⟩
    refine wp_cond_false (fr_eval rfl e10) ?_
    refine wp_exit ?_
    refine then_exit ?_
    refine then_exit ?_
    refine blk_exit ?_
    refine then_n ?_
    refine wp_seq ?_
    refine wp_regionF ?_
    refine lf_val (v := .pointer (some ⟨g, 0, none⟩)) (wantAll rfl) (rv_move rfl (fr_eval rfl e0)) ?_
    refine lf_val (v := .pointer (some ⟨g, 0, none⟩)) (wantAll rfl) (rv_assign rfl (fr_eval rfl rfl)) ?_
    refine lf_nil ?_
    refine then_n ?_
    refine wp_gen (fun F' => F' 0 = .pointer (some ⟨g, 0, none⟩) ∧ F' 1 = x ∧ F' 4 = .pointer (some ⟨g, 0, none⟩) ∧ F' 7 = x ∧ F' 8 = .int .i64 ((zs.length : Nat) : Int) ∧ F' 9 = .int .i64 ((i : Nat) : Int) ∧ F' 10 = .bool false) ⟨e0, e1, rfl, e7, e8, e9, e10⟩ ?_
    clear e0 e1 e4 e7 e8 e9 e10
    clear F
    rintro F ⟨e0, e1, e4, e7, e8, e9, e10⟩
    refine wp_ret ?_
    exact bodyPost_ret (v := (.pointer (some ⟨g, 0, none⟩))) (res1 rfl (ro_tmp rfl e4)) rfl (⟨rfl, ⟨_, ⟨h_g, (by have e : List.take i zs = zs := List.take_of_length_le (by omega); rw [pi1, e] at ho; exact ho)⟩, hC, ge_ho⟩⟩)

end Go.Proofs.Ytjgcjddaladgfaa
