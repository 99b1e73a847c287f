/- WireStays: the walk. -/
import Derived.Test.YtjgcjddaladgfaaNil
namespace Go.Bz.Wire
theorem upto_no {r : List UInt8} {e : Int} (m : Int) (he : ¬ e = 0) : uptoV r e m = 0 ∧ uptoE r e m = e := by
  have h : uptoE r e m = e := by unfold uptoE; rw [(num_no he).2.2, if_neg he]
  exact ⟨by unfold uptoV; rw [h, if_neg he], h⟩
theorem raw_no {r : List UInt8} {e : Int} (n : Int) (he : ¬ e = 0) : rawV r e n = [] ∧ rawE r e n = e := by
  have h : rawE r e n = e := by unfold rawE; rw [if_neg he]
  exact ⟨by unfold rawV; rw [h, if_neg he], h⟩
theorem text_no {r r2 : List UInt8} {e : Int} (m n : Int) (he : ¬ e = 0) : rawV r2 (uptoE r e m) n = [] ∧ rawE r2 (uptoE r e m) n = e := by
  rw [(upto_no m he).2]; exact raw_no n he
theorem sum_no {r : List UInt8} {e : Int} (he : ¬ e = 0) : sumV r e = List.replicate 32 0 ∧ rawE r e 32 = e := by
  have h : rawE r e 32 = e := by unfold rawE; rw [if_neg he]
  exact ⟨by unfold sumV; rw [h, if_neg he], h⟩
theorem zeros {n : Nat} : ∀ i, (List.getD (List.replicate n (0 : UInt8)) i 0).toNat = 0 := fun i => by
  rw [List.getD_eq_getElem?_getD, List.getElem?_replicate]
  split <;> rfl
theorem noBytes {l : List UInt8} (h : l = []) : ∀ i, (List.getD l i 0).toNat = 0 := fun i => by subst h; rfl
theorem done_end {r : List UInt8} {e : Int} (h : e = 0) : doneE r e = 0 ∨ doneE r e = 3 := by
  unfold doneE; split <;> omega
theorem done_no {r : List UInt8} {e : Int} (h : ¬ e = 0) : doneE r e = e := by
  unfold doneE; rw [if_neg (by omega)]
theorem done_done (r : List UInt8) (e : Int) : doneE r (doneE r e) = doneE r e := by
  by_cases h : e = 0 ∧ 0 < r.length
  · have e1 : doneE r e = 3 := by unfold doneE; rw [if_pos h]
    rw [e1]; unfold doneE; rw [if_neg (by omega)]
  · have e1 : doneE r e = e := by unfold doneE; rw [if_neg h]
    rw [e1, e1]
end Go.Bz.Wire
namespace Go.Proofs.Ytjgcjddaladgfaa
open Go.RowKit Go.Bz Go.Bz.Wire
attribute [local irreducible] wpList Code.wp wpAnyX

set_option maxRecDepth 100000 in
set_option maxHeartbeats 4000000 in
theorem step01_calls {g : Nat} {v0 : Value} {r : List UInt8} {e : Int} (k n : Int) (w : World) (he0 : EyeAt w g v0 r e) (hne : v0.ownBlock ≠ some g) (hv0 : ∀ k, v0.ownBlock = some k → k < w.heap.size) :
    Calls Try.prog 21 #[.pointer (some ⟨g, 0, none⟩), .agg #[.int .i64 k, .int .i64 n]] w fun e'' w' => ∃ z x v' e2 r2, e'' = .returned (.tuple #[.int .i64 z, v']) ∧ RdB w' v' x ∧ EyeAt w' g v0 r2 e2 ∧ Chg (· = g) w w' ∧ (¬ e = 0 → e2 = e ∧ z = 0 ∧ ∀ i, (List.getD x i 0).toNat = 0) ∧ (e = 0 → 4 < k → e2 = n) := by
  refine calls_fr (args := [.pointer (some ⟨g, 0, none⟩), .agg #[.int .i64 k, .int .i64 n]]) (n := 40) Try.func21 rfl rfl (show 2 ≤ 40 by decide) ?_
  have hC : Chg (· = g) w w := Chg.refl _ _
  have hy := he0
  refine wp_seq ?_
  refine wp_gen (fun F' => F' 0 = .pointer (some ⟨g, 0, none⟩) ∧ F' 1 = .agg #[.int .i64 k, .int .i64 n]) ⟨rfl, rfl⟩ ?_
  rintro F ⟨e0, e1⟩
  refine wp_regionF ?_
  refine lf_ex (wantAll rfl) (ex_boxG 37 (.tmp 1) (cs := [.int .i64 k, .int .i64 n]) (fr_eval rfl e1) (by rfl) rfl) ?_
  rintro _ w1 ⟨g1, hg_g1, rfl, h_g1, hx⟩
  have ge_g1 : w.heap.size ≤ g1 := by have := hC.size; omega
  have lt_g_g1 : g < g1 := by have := EyeAt.lt hy; omega
  replace hC := hC.trans (Ext.any hx)
  replace hy := EyeAt.ext hy hx
  clear hx hg_g1
  refine lf_val (v := .int .i64 0) (wantAll rfl) (rv_assign rfl rfl) ?_
  refine lf_val (v := .slice none 0 0) (wantAll rfl) (rv_assign rfl rfl) ?_
  refine lf_nil ?_
  refine then_n ?_
  refine wp_seq ?_
  refine wp_gen (fun F' => F' 0 = .pointer (some ⟨g, 0, none⟩) ∧ F' 1 = .agg #[.int .i64 k, .int .i64 n] ∧ F' 3 = .pointer (some ⟨g1, 0, none⟩) ∧ F' 4 = .int .i64 0 ∧ F' 5 = .slice none 0 0) ⟨e0, e1, rfl, rfl, rfl⟩ ?_
  clear e0 e1
  clear F
  rintro F ⟨e0, e1, e3, e4, e5⟩
  refine wp_regionF ?_
  refine lf_val (v := .pointer (some ⟨g1, 0, none⟩)) (wantAll rfl) (rv_fieldAddr (n := 0) rfl (fr_eval rfl e3) Try.underlying37 rfl rfl (by kernel_rfl)) ?_
  refine lf_val (v := .int .i64 k) (wantAll rfl) (rv_load1 rfl h_g1 rfl (fr_eval rfl rfl) Try.underlying3 rfl Try.sz3) ?_
  refine lf_nil ?_
  refine then_n ?_
  refine wp_block ?_
  refine wp_seq ?_
  refine wp_gen (fun F' => F' 0 = .pointer (some ⟨g, 0, none⟩) ∧ F' 1 = .agg #[.int .i64 k, .int .i64 n] ∧ F' 3 = .pointer (some ⟨g1, 0, none⟩) ∧ F' 4 = .int .i64 0 ∧ F' 5 = .slice none 0 0 ∧ F' 8 = .int .i64 k) ⟨e0, e1, e3, e4, e5, rfl⟩ ?_
  clear e0 e1 e3 e4 e5
  clear F
  rintro F ⟨e0, e1, e3, e4, e5, e8⟩
  refine wp_regionF ?_
  by_cases hc1 : k = 0
  · refine lf_val (v := .bool true) (wantAll rfl) (rv_eql rfl (fr_eval rfl e8) rfl (decide_eq_true (by omega))) ?_
    refine lf_val (v := .bool true) (wantAll rfl) (rv_assign rfl (fr_eval rfl rfl)) ?_
    refine lf_nil ?_
    refine then_n ?_
    refine wp_gen (fun F' => F' 0 = .pointer (some ⟨g, 0, none⟩) ∧ F' 1 = .agg #[.int .i64 k, .int .i64 n] ∧ F' 3 = .pointer (some ⟨g1, 0, none⟩) ∧ F' 4 = .int .i64 0 ∧ F' 5 = .slice none 0 0 ∧ F' 8 = .int .i64 k ∧ F' 13 = .bool true) ⟨e0, e1, e3, e4, e5, e8, rfl⟩ ?_
    clear e0 e1 e3 e4 e5 e8
    clear F
    rintro F ⟨e0, e1, e3, e4, e5, e8, e13⟩
    refine wp_cond_true (fr_eval rfl e13) ?_
    refine wp_seq ?_
    refine wp_regionF ?_
    refine lf_val (v := .pointer (some ⟨g, 0, none⟩)) (wantAll rfl) (rv_move rfl (fr_eval rfl e0)) ?_
    refine lf_call (wantAll rfl) (rv_call (args := [.pointer (some ⟨g, 0, none⟩)]) rfl (evc (fr_eval rfl rfl) evn) Try.call15) (num_calls  _ hy hne) ?_
    rintro _ w2 ⟨rfl, hy', hx⟩
    refine ⟨_, rfl, ?_⟩
    replace h_g1 := Blk.keep h_g1 hx (fun e => by have e : g1 = g := e; omega)
    replace hC := hC.trans hx
    replace hy := hy'
    clear hy'
    clear hx
    refine lf_val (v := .int .i64 ((numV r e : Nat) : Int)) (wantAll rfl) (rv_assign rfl (fr_eval rfl rfl)) ?_
    refine lf_val (v := .slice none 0 0) (wantAll rfl) (rv_assign rfl rfl) ?_
    refine lf_nil ?_
    refine then_n ?_
    refine wp_gen (fun F' => F' 0 = .pointer (some ⟨g, 0, none⟩) ∧ F' 1 = .agg #[.int .i64 k, .int .i64 n] ∧ F' 3 = .pointer (some ⟨g1, 0, none⟩) ∧ F' 4 = .int .i64 ((numV r e : Nat) : Int) ∧ F' 5 = .slice none 0 0 ∧ F' 8 = .int .i64 k ∧ F' 13 = .bool true) ⟨e0, e1, e3, rfl, rfl, e8, e13⟩ ?_
    clear e0 e1 e3 e4 e5 e8 e13
    clear F
    rintro F ⟨e0, e1, e3, e4, e5, e8, e13⟩
    refine wp_ret ?_
    refine blk_ret ?_
    exact bodyPost_ret (v := .tuple #[.int .i64 ((numV r e : Nat) : Int), .slice none 0 0]) (res2 rfl (ro_tmp rfl e4) (ro_tmp rfl e5)) rfl (⟨_, _, _, _, _, rfl, RdB.nil, hy, hC, fun he => ⟨(num_no he).2.2, by rw [(num_no he).1]; rfl, noBytes rfl⟩, fun he h4 => (by omega)⟩)
  · refine lf_val (v := .bool false) (wantAll rfl) (rv_eql rfl (fr_eval rfl e8) rfl (decide_eq_false (by omega))) ?_
    refine lf_val (v := .bool false) (wantAll rfl) (rv_assign rfl (fr_eval rfl rfl)) ?_
    refine lf_nil ?_
    refine then_n ?_
    refine wp_gen (fun F' => F' 0 = .pointer (some ⟨g, 0, none⟩) ∧ F' 1 = .agg #[.int .i64 k, .int .i64 n] ∧ F' 3 = .pointer (some ⟨g1, 0, none⟩) ∧ F' 4 = .int .i64 0 ∧ F' 5 = .slice none 0 0 ∧ F' 8 = .int .i64 k ∧ F' 13 = .bool false) ⟨e0, e1, e3, e4, e5, e8, rfl⟩ ?_
    clear e0 e1 e3 e4 e5 e8
    clear F
    rintro F ⟨e0, e1, e3, e4, e5, e8, e13⟩
    refine wp_cond_false (fr_eval rfl e13) ?_
    refine wp_seq ?_
    refine wp_regionF ?_
    by_cases hc2 : k = 1
    · refine lf_val (v := .bool true) (wantAll rfl) (rv_eql rfl (fr_eval rfl e8) rfl (decide_eq_true (by omega))) ?_
      refine lf_val (v := .bool true) (wantAll rfl) (rv_assign rfl (fr_eval rfl rfl)) ?_
      refine lf_nil ?_
      refine then_n ?_
      refine wp_gen (fun F' => F' 0 = .pointer (some ⟨g, 0, none⟩) ∧ F' 1 = .agg #[.int .i64 k, .int .i64 n] ∧ F' 3 = .pointer (some ⟨g1, 0, none⟩) ∧ F' 4 = .int .i64 0 ∧ F' 5 = .slice none 0 0 ∧ F' 8 = .int .i64 k ∧ F' 13 = .bool false ∧ F' 17 = .bool true) ⟨e0, e1, e3, e4, e5, e8, e13, rfl⟩ ?_
      clear e0 e1 e3 e4 e5 e8 e13
      clear F
      rintro F ⟨e0, e1, e3, e4, e5, e8, e13, e17⟩
      refine wp_cond_true (fr_eval rfl e17) ?_
      refine wp_seq ?_
      refine wp_regionF ?_
      refine lf_val (v := .pointer (some ⟨g, 0, none⟩)) (wantAll rfl) (rv_move rfl (fr_eval rfl e0)) ?_
      refine lf_val (v := .pointer (some ⟨g1, 1, none⟩)) (wantAll rfl) (rv_fieldAddr (n := 0) rfl (fr_eval rfl e3) Try.underlying37 rfl rfl (by kernel_rfl)) ?_
      refine lf_val (v := .int .i64 n) (wantAll rfl) (rv_load1 rfl h_g1 rfl (fr_eval rfl rfl) Try.underlying3 rfl Try.sz3) ?_
      refine lf_call (wantAll rfl) (rv_call (args := [.pointer (some ⟨g, 0, none⟩), .int .i64 n]) rfl (evc (fr_eval rfl rfl) (evc (fr_eval rfl rfl) evn)) Try.call16) (upto_calls n _ hy hne) ?_
      rintro _ w3 ⟨rfl, hy', hx⟩
      refine ⟨_, rfl, ?_⟩
      replace h_g1 := Blk.keep h_g1 hx (fun e => by have e : g1 = g := e; omega)
      replace hC := hC.trans hx
      replace hy := hy'
      clear hy'
      clear hx
      refine lf_val (v := .int .i64 ((uptoV r e n : Nat) : Int)) (wantAll rfl) (rv_assign rfl (fr_eval rfl rfl)) ?_
      refine lf_val (v := .slice none 0 0) (wantAll rfl) (rv_assign rfl rfl) ?_
      refine lf_nil ?_
      refine then_n ?_
      refine wp_gen (fun F' => F' 0 = .pointer (some ⟨g, 0, none⟩) ∧ F' 1 = .agg #[.int .i64 k, .int .i64 n] ∧ F' 3 = .pointer (some ⟨g1, 0, none⟩) ∧ F' 4 = .int .i64 ((uptoV r e n : Nat) : Int) ∧ F' 5 = .slice none 0 0 ∧ F' 8 = .int .i64 k ∧ F' 13 = .bool false ∧ F' 17 = .bool true) ⟨e0, e1, e3, rfl, rfl, e8, e13, e17⟩ ?_
      clear e0 e1 e3 e4 e5 e8 e13 e17
      clear F
      rintro F ⟨e0, e1, e3, e4, e5, e8, e13, e17⟩
      refine wp_ret ?_
      refine blk_ret ?_
      exact bodyPost_ret (v := .tuple #[.int .i64 ((uptoV r e n : Nat) : Int), .slice none 0 0]) (res2 rfl (ro_tmp rfl e4) (ro_tmp rfl e5)) rfl (⟨_, _, _, _, _, rfl, RdB.nil, hy, hC, fun he => ⟨(upto_no n he).2, by rw [(upto_no n he).1]; rfl, noBytes rfl⟩, fun he h4 => (by omega)⟩)
    · refine lf_val (v := .bool false) (wantAll rfl) (rv_eql rfl (fr_eval rfl e8) rfl (decide_eq_false (by omega))) ?_
      refine lf_val (v := .bool false) (wantAll rfl) (rv_assign rfl (fr_eval rfl rfl)) ?_
      refine lf_nil ?_
      refine then_n ?_
      refine wp_gen (fun F' => F' 0 = .pointer (some ⟨g, 0, none⟩) ∧ F' 1 = .agg #[.int .i64 k, .int .i64 n] ∧ F' 3 = .pointer (some ⟨g1, 0, none⟩) ∧ F' 4 = .int .i64 0 ∧ F' 5 = .slice none 0 0 ∧ F' 8 = .int .i64 k ∧ F' 13 = .bool false ∧ F' 17 = .bool false) ⟨e0, e1, e3, e4, e5, e8, e13, rfl⟩ ?_
      clear e0 e1 e3 e4 e5 e8 e13
      clear F
      rintro F ⟨e0, e1, e3, e4, e5, e8, e13, e17⟩
      refine wp_cond_false (fr_eval rfl e17) ?_
      refine wp_seq ?_
      refine wp_regionF ?_
      by_cases hc3 : k = 2
      · refine lf_val (v := .bool true) (wantAll rfl) (rv_eql rfl (fr_eval rfl e8) rfl (decide_eq_true (by omega))) ?_
        refine lf_val (v := .bool true) (wantAll rfl) (rv_assign rfl (fr_eval rfl rfl)) ?_
        refine lf_nil ?_
        refine then_n ?_
        refine wp_gen (fun F' => F' 0 = .pointer (some ⟨g, 0, none⟩) ∧ F' 1 = .agg #[.int .i64 k, .int .i64 n] ∧ F' 3 = .pointer (some ⟨g1, 0, none⟩) ∧ F' 4 = .int .i64 0 ∧ F' 5 = .slice none 0 0 ∧ F' 8 = .int .i64 k ∧ F' 13 = .bool false ∧ F' 17 = .bool false ∧ F' 23 = .bool true) ⟨e0, e1, e3, e4, e5, e8, e13, e17, rfl⟩ ?_
        clear e0 e1 e3 e4 e5 e8 e13 e17
        clear F
        rintro F ⟨e0, e1, e3, e4, e5, e8, e13, e17, e23⟩
        refine wp_cond_true (fr_eval rfl e23) ?_
        refine wp_seq ?_
        refine wp_regionF ?_
        refine lf_val (v := .pointer (some ⟨g, 0, none⟩)) (wantAll rfl) (rv_move rfl (fr_eval rfl e0)) ?_
        refine lf_val (v := .pointer (some ⟨g1, 1, none⟩)) (wantAll rfl) (rv_fieldAddr (n := 0) rfl (fr_eval rfl e3) Try.underlying37 rfl rfl (by kernel_rfl)) ?_
        refine lf_val (v := .int .i64 n) (wantAll rfl) (rv_load1 rfl h_g1 rfl (fr_eval rfl rfl) Try.underlying3 rfl Try.sz3) ?_
        refine lf_call (wantAll rfl) (rv_call (args := [.pointer (some ⟨g, 0, none⟩), .int .i64 n]) rfl (evc (fr_eval rfl rfl) (evc (fr_eval rfl rfl) evn)) Try.call20) (raw_calls n _ hy hne) ?_
        rintro _ w4 ⟨⟨y1, rfl, ho1', ge_ho1⟩, hy', hx⟩
        refine ⟨_, rfl, ?_⟩
        replace ge_ho1 : ∀ k, (y1 : Value).ownBlock = some k → w.heap.size ≤ k := fun k hk => Nat.le_trans (Chg.size hC) (ge_ho1 k hk)
        replace h_g1 := Blk.keep h_g1 hx (fun e => by have e : g1 = g := e; omega)
        replace hC := hC.trans hx
        replace hy := hy'
        have ho1 := ho1'
        clear hy' ho1'
        clear hx
        refine lf_val (v := .int .i64 0) (wantAll rfl) (rv_assign rfl rfl) ?_
        refine lf_val (v := y1) (wantAll rfl) (rv_assign rfl (fr_eval rfl rfl)) ?_
        refine lf_nil ?_
        refine then_n ?_
        refine wp_gen (fun F' => F' 0 = .pointer (some ⟨g, 0, none⟩) ∧ F' 1 = .agg #[.int .i64 k, .int .i64 n] ∧ F' 3 = .pointer (some ⟨g1, 0, none⟩) ∧ F' 4 = .int .i64 0 ∧ F' 5 = y1 ∧ F' 8 = .int .i64 k ∧ F' 13 = .bool false ∧ F' 17 = .bool false ∧ F' 23 = .bool true) ⟨e0, e1, e3, rfl, rfl, e8, e13, e17, e23⟩ ?_
        clear e0 e1 e3 e4 e5 e8 e13 e17 e23
        clear F
        rintro F ⟨e0, e1, e3, e4, e5, e8, e13, e17, e23⟩
        refine wp_ret ?_
        refine blk_ret ?_
        exact bodyPost_ret (v := .tuple #[.int .i64 0, y1]) (res2 rfl (ro_tmp rfl e4) (ro_tmp rfl e5)) rfl (⟨_, _, _, _, _, rfl, (OwnB.rd ho1), hy, hC, fun he => ⟨(raw_no n he).2, rfl, noBytes (raw_no n he).1⟩, fun he h4 => (by omega)⟩)
      · refine lf_val (v := .bool false) (wantAll rfl) (rv_eql rfl (fr_eval rfl e8) rfl (decide_eq_false (by omega))) ?_
        refine lf_val (v := .bool false) (wantAll rfl) (rv_assign rfl (fr_eval rfl rfl)) ?_
        refine lf_nil ?_
        refine then_n ?_
        refine wp_gen (fun F' => F' 0 = .pointer (some ⟨g, 0, none⟩) ∧ F' 1 = .agg #[.int .i64 k, .int .i64 n] ∧ F' 3 = .pointer (some ⟨g1, 0, none⟩) ∧ F' 4 = .int .i64 0 ∧ F' 5 = .slice none 0 0 ∧ F' 8 = .int .i64 k ∧ F' 13 = .bool false ∧ F' 17 = .bool false ∧ F' 23 = .bool false) ⟨e0, e1, e3, e4, e5, e8, e13, e17, rfl⟩ ?_
        clear e0 e1 e3 e4 e5 e8 e13 e17
        clear F
        rintro F ⟨e0, e1, e3, e4, e5, e8, e13, e17, e23⟩
        refine wp_cond_false (fr_eval rfl e23) ?_
        refine wp_seq ?_
        refine wp_regionF ?_
        by_cases hc4 : k = 3
        · refine lf_val (v := .bool true) (wantAll rfl) (rv_eql rfl (fr_eval rfl e8) rfl (decide_eq_true (by omega))) ?_
          refine lf_val (v := .bool true) (wantAll rfl) (rv_assign rfl (fr_eval rfl rfl)) ?_
          refine lf_nil ?_
          refine then_n ?_
          refine wp_gen (fun F' => F' 0 = .pointer (some ⟨g, 0, none⟩) ∧ F' 1 = .agg #[.int .i64 k, .int .i64 n] ∧ F' 3 = .pointer (some ⟨g1, 0, none⟩) ∧ F' 4 = .int .i64 0 ∧ F' 5 = .slice none 0 0 ∧ F' 8 = .int .i64 k ∧ F' 13 = .bool false ∧ F' 17 = .bool false ∧ F' 23 = .bool false ∧ F' 29 = .bool true) ⟨e0, e1, e3, e4, e5, e8, e13, e17, e23, rfl⟩ ?_
          clear e0 e1 e3 e4 e5 e8 e13 e17 e23
          clear F
          rintro F ⟨e0, e1, e3, e4, e5, e8, e13, e17, e23, e29⟩
          refine wp_cond_true (fr_eval rfl e29) ?_
          refine wp_seq ?_
          refine wp_regionF ?_
          refine lf_val (v := .pointer (some ⟨g, 0, none⟩)) (wantAll rfl) (rv_move rfl (fr_eval rfl e0)) ?_
          refine lf_val (v := .pointer (some ⟨g1, 1, none⟩)) (wantAll rfl) (rv_fieldAddr (n := 0) rfl (fr_eval rfl e3) Try.underlying37 rfl rfl (by kernel_rfl)) ?_
          refine lf_val (v := .int .i64 n) (wantAll rfl) (rv_load1 rfl h_g1 rfl (fr_eval rfl rfl) Try.underlying3 rfl Try.sz3) ?_
          refine lf_call (wantAll rfl) (rv_call (args := [.pointer (some ⟨g, 0, none⟩), .int .i64 n]) rfl (evc (fr_eval rfl rfl) (evc (fr_eval rfl rfl) evn)) Try.call29) (textE_calls n _ hy hne) ?_
          rintro _ w5 ⟨⟨y2, rfl, ho2', ge_ho2⟩, hy', hx⟩
          refine ⟨_, rfl, ?_⟩
          replace ge_ho2 : ∀ k, (y2 : Value).ownBlock = some k → w.heap.size ≤ k := fun k hk => Nat.le_trans (Chg.size hC) (ge_ho2 k hk)
          replace h_g1 := Blk.keep h_g1 hx (fun e => by have e : g1 = g := e; omega)
          replace hC := hC.trans hx
          replace hy := hy'
          have ho2 := ho2'
          clear hy' ho2'
          clear hx
          refine lf_val (v := .int .i64 0) (wantAll rfl) (rv_assign rfl rfl) ?_
          refine lf_val (v := y2) (wantAll rfl) (rv_assign rfl (fr_eval rfl rfl)) ?_
          refine lf_nil ?_
          refine then_n ?_
          refine wp_gen (fun F' => F' 0 = .pointer (some ⟨g, 0, none⟩) ∧ F' 1 = .agg #[.int .i64 k, .int .i64 n] ∧ F' 3 = .pointer (some ⟨g1, 0, none⟩) ∧ F' 4 = .int .i64 0 ∧ F' 5 = y2 ∧ F' 8 = .int .i64 k ∧ F' 13 = .bool false ∧ F' 17 = .bool false ∧ F' 23 = .bool false ∧ F' 29 = .bool true) ⟨e0, e1, e3, rfl, rfl, e8, e13, e17, e23, e29⟩ ?_
          clear e0 e1 e3 e4 e5 e8 e13 e17 e23 e29
          clear F
          rintro F ⟨e0, e1, e3, e4, e5, e8, e13, e17, e23, e29⟩
          refine wp_ret ?_
          refine blk_ret ?_
          exact bodyPost_ret (v := .tuple #[.int .i64 0, y2]) (res2 rfl (ro_tmp rfl e4) (ro_tmp rfl e5)) rfl (⟨_, _, _, _, _, rfl, (OwnB.rd ho2), hy, hC, fun he => ⟨(text_no n _ he).2, rfl, noBytes (text_no n _ he).1⟩, fun he h4 => (by omega)⟩)
        · refine lf_val (v := .bool false) (wantAll rfl) (rv_eql rfl (fr_eval rfl e8) rfl (decide_eq_false (by omega))) ?_
          refine lf_val (v := .bool false) (wantAll rfl) (rv_assign rfl (fr_eval rfl rfl)) ?_
          refine lf_nil ?_
          refine then_n ?_
          refine wp_gen (fun F' => F' 0 = .pointer (some ⟨g, 0, none⟩) ∧ F' 1 = .agg #[.int .i64 k, .int .i64 n] ∧ F' 3 = .pointer (some ⟨g1, 0, none⟩) ∧ F' 4 = .int .i64 0 ∧ F' 5 = .slice none 0 0 ∧ F' 8 = .int .i64 k ∧ F' 13 = .bool false ∧ F' 17 = .bool false ∧ F' 23 = .bool false ∧ F' 29 = .bool false) ⟨e0, e1, e3, e4, e5, e8, e13, e17, e23, rfl⟩ ?_
          clear e0 e1 e3 e4 e5 e8 e13 e17 e23
          clear F
          rintro F ⟨e0, e1, e3, e4, e5, e8, e13, e17, e23, e29⟩
          refine wp_cond_false (fr_eval rfl e29) ?_
          refine wp_seq ?_
          refine wp_regionF ?_
          by_cases hc5 : k = 4
          · refine lf_val (v := .bool true) (wantAll rfl) (rv_eql rfl (fr_eval rfl e8) rfl (decide_eq_true (by omega))) ?_
            refine lf_val (v := .bool true) (wantAll rfl) (rv_assign rfl (fr_eval rfl rfl)) ?_
            refine lf_nil ?_
            refine then_n ?_
            refine wp_gen (fun F' => F' 0 = .pointer (some ⟨g, 0, none⟩) ∧ F' 1 = .agg #[.int .i64 k, .int .i64 n] ∧ F' 3 = .pointer (some ⟨g1, 0, none⟩) ∧ F' 4 = .int .i64 0 ∧ F' 5 = .slice none 0 0 ∧ F' 8 = .int .i64 k ∧ F' 13 = .bool false ∧ F' 17 = .bool false ∧ F' 23 = .bool false ∧ F' 29 = .bool false ∧ F' 35 = .bool true) ⟨e0, e1, e3, e4, e5, e8, e13, e17, e23, e29, rfl⟩ ?_
            clear e0 e1 e3 e4 e5 e8 e13 e17 e23 e29
            clear F
            rintro F ⟨e0, e1, e3, e4, e5, e8, e13, e17, e23, e29, e35⟩
            refine wp_cond_true (fr_eval rfl e35) ?_
            refine wp_seq ?_
            refine wp_regionF ?_
            refine lf_val (v := .pointer (some ⟨g, 0, none⟩)) (wantAll rfl) (rv_move rfl (fr_eval rfl e0)) ?_
            refine lf_call (wantAll rfl) (rv_call (args := [.pointer (some ⟨g, 0, none⟩)]) rfl (evc (fr_eval rfl rfl) evn) Try.call30) (sumE_calls  _ hy hne (fun k hk => Nat.lt_of_lt_of_le (hv0 k hk) (Chg.size hC))) ?_
            rintro _ w6 ⟨rfl, hy', hx⟩
            refine ⟨_, rfl, ?_⟩
            replace h_g1 := Blk.keep h_g1 hx (fun e => by have e : g1 = g := e; omega)
            replace hC := hC.trans hx
            replace hy := hy'
            clear hy'
            clear hx
            refine lf_ex (wantAll rfl) (ex_allocG 45 (z := .agg (cBs (List.replicate 32 0)).toArray) (n := 32) (cs := cBs (List.replicate 32 0)) (by kernel_rfl) (by rfl) rfl) ?_
            rintro _ w7 ⟨g2, hg_g2, rfl, h_g2, hx⟩
            have ge_g2 : w.heap.size ≤ g2 := by have := hC.size; omega
            have lt_g_g2 : g < g2 := by have := EyeAt.lt hy; omega
            have lt_g1_g2 : g1 < g2 := by have := Blk.lt h_g1; omega
            replace hC := hC.trans (Ext.any hx)
            replace hy := EyeAt.ext hy hx
            replace h_g1 := Blk.ext h_g1 hx
            clear hx hg_g2
            refine lf_sk (wantAll rfl) (ex_storeW (cs := cBs (sumV r e)) rfl h_g2 (fr_eval rfl rfl) (fr_eval rfl rfl) (sz_len Try.sz45 (cBs_len sumV_len)) (((cBs_len (List.length_replicate ..))).trans ((cBs_len sumV_len)).symm) (cBs_one _)) ?_
            rintro w8 ⟨h_g2', hx⟩
            replace h_g2' : Blk w8 g2 (cBs (sumV r e)) 45 := h_g2'
            replace hy := EyeAt.keep hy hx (fun e => by have e : g = g2 := e; omega) (fun k hk e => by have e : k = g2 := e; have := hv0 k hk; omega)
            replace h_g1 := Blk.keep h_g1 hx (fun e => by have e : g1 = g2 := e; omega)
            replace hC := Chg.then hC hx (fun i hi e => absurd hi (by have e : i = g2 := e; omega))
            replace h_g2 := h_g2'
            clear h_g2'
            clear hx
            refine lf_nil ?_
            refine then_n ?_
            refine wp_seq ?_
            refine wp_gen (fun F' => F' 0 = .pointer (some ⟨g, 0, none⟩) ∧ F' 1 = .agg #[.int .i64 k, .int .i64 n] ∧ F' 3 = .pointer (some ⟨g1, 0, none⟩) ∧ F' 4 = .int .i64 0 ∧ F' 5 = .slice none 0 0 ∧ F' 6 = .pointer (some ⟨g2, 0, none⟩) ∧ F' 8 = .int .i64 k ∧ F' 13 = .bool false ∧ F' 17 = .bool false ∧ F' 23 = .bool false ∧ F' 29 = .bool false ∧ F' 35 = .bool true) ⟨e0, e1, e3, e4, e5, rfl, e8, e13, e17, e23, e29, e35⟩ ?_
            clear e0 e1 e3 e4 e5 e8 e13 e17 e23 e29 e35
            clear F
            rintro F ⟨e0, e1, e3, e4, e5, e6, e8, e13, e17, e23, e29, e35⟩
            refine wp_regionX (fun _ => False) 2 (by kernel_rfl) (by kernel_rfl) ?_
            refine xl_take (i := 0) (v := .slice (some ⟨g2, 0, none⟩) 32 32) rfl (by kernel_rfl) (by kernel_rfl) (by kernel_rfl) (by kernel_rfl) (yx_val (wantAll rfl) (fun w' hx' => rv_sliceArr rfl (fr_eval rfl e6) Try.underlying45 Try.sz5 (by decide))) ?_
            refine xl_take (i := 1) (v := .int .i64 0) rfl (by kernel_rfl) (by kernel_rfl) (by kernel_rfl) (by kernel_rfl) (yx_val (wantAll rfl) (fun w' hx' => rv_assign rfl rfl)) ?_
            refine xl_tail (s := 2) rfl ?_
            intro w9 hx
            replace hC := hC.trans (Ext.any hx)
            replace hy := EyeAt.ext hy hx
            replace h_g1 := Blk.ext h_g1 hx
            replace h_g2 := Blk.ext h_g2 hx
            clear hx
            refine lf_val (v := .slice (some ⟨g2, 0, none⟩) 32 32) (wantAll rfl) (rv_assign rfl (fr_eval rfl rfl)) ?_
            refine lf_nil ?_
            refine then_n ?_
            refine wp_gen (fun F' => F' 0 = .pointer (some ⟨g, 0, none⟩) ∧ F' 1 = .agg #[.int .i64 k, .int .i64 n] ∧ F' 3 = .pointer (some ⟨g1, 0, none⟩) ∧ F' 4 = .int .i64 0 ∧ F' 5 = .slice (some ⟨g2, 0, none⟩) 32 32 ∧ F' 6 = .pointer (some ⟨g2, 0, none⟩) ∧ F' 8 = .int .i64 k ∧ F' 13 = .bool false ∧ F' 17 = .bool false ∧ F' 23 = .bool false ∧ F' 29 = .bool false ∧ F' 35 = .bool true) ⟨e0, e1, e3, rfl, rfl, e6, e8, e13, e17, e23, e29, e35⟩ ?_
            clear e0 e1 e3 e4 e5 e6 e8 e13 e17 e23 e29 e35
            clear F
            rintro F ⟨e0, e1, e3, e4, e5, e6, e8, e13, e17, e23, e29, e35⟩
            refine wp_ret ?_
            refine blk_ret ?_
            exact bodyPost_ret (v := .tuple #[.int .i64 0, .slice (some ⟨g2, 0, none⟩) 32 32]) (res2 rfl (ro_tmp rfl e4) (ro_tmp rfl e5)) rfl (⟨_, _, _, _, _, rfl, rdB_blkn h_g2 sumV_len (by decide), hy, hC, fun he => ⟨(sum_no he).2, rfl, fun i => by rw [(sum_no he).1]; exact zeros i⟩, fun he h4 => (by omega)⟩)
          · refine lf_val (v := .bool false) (wantAll rfl) (rv_eql rfl (fr_eval rfl e8) rfl (decide_eq_false (by omega))) ?_
            refine lf_val (v := .bool false) (wantAll rfl) (rv_assign rfl (fr_eval rfl rfl)) ?_
            refine lf_nil ?_
            refine then_n ?_
            refine wp_gen (fun F' => F' 0 = .pointer (some ⟨g, 0, none⟩) ∧ F' 1 = .agg #[.int .i64 k, .int .i64 n] ∧ F' 3 = .pointer (some ⟨g1, 0, none⟩) ∧ F' 4 = .int .i64 0 ∧ F' 5 = .slice none 0 0 ∧ F' 8 = .int .i64 k ∧ F' 13 = .bool false ∧ F' 17 = .bool false ∧ F' 23 = .bool false ∧ F' 29 = .bool false ∧ F' 35 = .bool false) ⟨e0, e1, e3, e4, e5, e8, e13, e17, e23, e29, rfl⟩ ?_
            clear e0 e1 e3 e4 e5 e8 e13 e17 e23 e29
            clear F
            rintro F ⟨e0, e1, e3, e4, e5, e8, e13, e17, e23, e29, e35⟩
            refine wp_cond_false (fr_eval rfl e35) ?_
            refine wp_seq ?_
            refine wp_regionF ?_
            refine lf_val (v := .pointer (some ⟨g, 0, none⟩)) (wantAll rfl) (rv_move rfl (fr_eval rfl e0)) ?_
            refine lf_val (v := .pointer (some ⟨g1, 1, none⟩)) (wantAll rfl) (rv_fieldAddr (n := 0) rfl (fr_eval rfl e3) Try.underlying37 rfl rfl (by kernel_rfl)) ?_
            refine lf_val (v := .int .i64 n) (wantAll rfl) (rv_load1 rfl h_g1 rfl (fr_eval rfl rfl) Try.underlying3 rfl Try.sz3) ?_
            refine lf_call (wantAll rfl) (rv_call (args := [.pointer (some ⟨g, 0, none⟩), .int .i64 n]) rfl (evc (fr_eval rfl rfl) (evc (fr_eval rfl rfl) evn)) Try.call23) (failE_calls n _ hy hne) ?_
            rintro _ w10 ⟨rfl, hy', hx⟩
            refine ⟨_, rfl, ?_⟩
            replace h_g1 := Blk.keep h_g1 hx (fun e => by have e : g1 = g := e; omega)
            replace hC := hC.trans hx
            replace hy := hy'
            clear hy'
            clear hx
            refine lf_nil ?_
            refine then_n ?_
            refine wp_seq ?_
            refine wp_gen (fun F' => F' 0 = .pointer (some ⟨g, 0, none⟩) ∧ F' 1 = .agg #[.int .i64 k, .int .i64 n] ∧ F' 3 = .pointer (some ⟨g1, 0, none⟩) ∧ F' 4 = .int .i64 0 ∧ F' 5 = .slice none 0 0 ∧ F' 8 = .int .i64 k ∧ F' 13 = .bool false ∧ F' 17 = .bool false ∧ F' 23 = .bool false ∧ F' 29 = .bool false ∧ F' 35 = .bool false) ⟨e0, e1, e3, e4, e5, e8, e13, e17, e23, e29, e35⟩ ?_
            clear e0 e1 e3 e4 e5 e8 e13 e17 e23 e29 e35
            clear F
            rintro F ⟨e0, e1, e3, e4, e5, e8, e13, e17, e23, e29, e35⟩
            refine wp_regionF ?_
            refine lf_val (v := .int .i64 0) (wantAll rfl) (rv_assign rfl rfl) ?_
            refine lf_val (v := .slice none 0 0) (wantAll rfl) (rv_assign rfl rfl) ?_
            refine lf_nil ?_
            refine then_n ?_
            refine wp_gen (fun F' => F' 0 = .pointer (some ⟨g, 0, none⟩) ∧ F' 1 = .agg #[.int .i64 k, .int .i64 n] ∧ F' 3 = .pointer (some ⟨g1, 0, none⟩) ∧ F' 4 = .int .i64 0 ∧ F' 5 = .slice none 0 0 ∧ F' 8 = .int .i64 k ∧ F' 13 = .bool false ∧ F' 17 = .bool false ∧ F' 23 = .bool false ∧ F' 29 = .bool false ∧ F' 35 = .bool false) ⟨e0, e1, e3, rfl, rfl, e8, e13, e17, e23, e29, e35⟩ ?_
            clear e0 e1 e3 e4 e5 e8 e13 e17 e23 e29 e35
            clear F
            rintro F ⟨e0, e1, e3, e4, e5, e8, e13, e17, e23, e29, e35⟩
            refine wp_ret ?_
            refine blk_ret ?_
            exact bodyPost_ret (v := .tuple #[.int .i64 0, .slice none 0 0]) (res2 rfl (ro_tmp rfl e4) (ro_tmp rfl e5)) rfl (⟨_, _, _, _, _, rfl, RdB.nil, hy, hC, fun he => ⟨by rw [if_neg he], rfl, noBytes rfl⟩, fun he h4 => by rw [if_pos he]⟩)

set_option maxRecDepth 100000 in
set_option maxHeartbeats 4000000 in
theorem wireStays_walk (b : List UInt8) (v : Value) (l : List (Int × Int)) (v2 : Value) (w : World) (hr0 : RdB w v b) (hs0 : RdII w v2 l) :
    Calls Try.prog 4 #[v, v2] w fun e'' w' => e'' = .returned (.bool true) ∧ Ext w w' := by
  refine calls_fr (args := [v, v2]) (n := 109) Try.func4 rfl rfl (show 2 ≤ 109 by decide) ?_
  have hC : Ext w w := Chg.refl _ _
  have hr := hr0
  have hs := hs0
  refine wp_seq ?_
  refine wp_gen (fun F' => F' 0 = v ∧ F' 1 = v2) ⟨rfl, rfl⟩ ?_
  rintro F ⟨e0, e1⟩
  have hsm := Rd.max hs
  refine wp_regionF ?_
  refine lf_val (v := .bool false) (wantAll rfl) (rv_assign rfl rfl) ?_
  refine lf_nil ?_
  refine then_n ?_
  refine wp_seq ?_
  refine wp_gen (fun F' => F' 0 = v ∧ F' 1 = v2 ∧ F' 4 = .bool false) ⟨e0, e1, rfl⟩ ?_
  clear e0 e1
  clear F
  rintro F ⟨e0, e1, e4⟩
  refine wp_regionF ?_
  refine lf_val (v := v) (wantAll rfl) (rv_move rfl (fr_eval rfl e0)) ?_
  refine lf_call (wantAll rfl) (rv_call (args := [v]) rfl (evc (fr_eval rfl rfl) evn) Try.call13) (cut01_calls b _ _ hr) ?_
  rintro _ w1 ⟨rfl, hx⟩
  refine ⟨_, rfl, ?_⟩
  replace hC := hC.trans hx
  replace hr := Rd.ext hr hx
  replace hs := RdF.ext hs hx
  clear hx
  refine lf_val (v := cutV v b 200) (wantAll rfl) (rv_assign rfl (fr_eval rfl rfl)) ?_
  refine lf_nil ?_
  refine then_n ?_
  refine wp_seq ?_
  refine wp_gen (fun F' => F' 0 = cutV v b 200 ∧ F' 1 = v2 ∧ F' 4 = .bool false) ⟨rfl, e1, e4⟩ ?_
  clear e0 e1 e4
  clear F
  rintro F ⟨e0, e1, e4⟩
  refine wp_regionF ?_
  refine lf_val (v := cutV v b 200) (wantAll rfl) (rv_move rfl (fr_eval rfl e0)) ?_
  refine lf_call (wantAll rfl) (rv_call (args := [cutV v b 200]) rfl (evc (fr_eval rfl rfl) evn) Try.call14) (look_calls (show List.length (List.take 200 b) ≤ 100000000 from (Nat.le_trans (List.length_take_le 200 b) (by decide))) _ (rdB_cut hr)) ?_
  rintro _ w2 ⟨⟨g1, z1, rfl, hy_g1', hge_g1, hst_g1⟩, hx⟩
  refine ⟨_, rfl, ?_⟩
  have ne_hy_g1 : z1.ownBlock ≠ some g1 := fun h => by have := (hst_g1 _ h).1; omega
  have ge_g1 : w.heap.size ≤ g1 := Nat.le_trans (Chg.size hC) hge_g1
  have hvg_hy_g1 : ∀ k, z1.ownBlock = some k → k < g1 := fun k hk => Nat.lt_of_lt_of_le (hst_g1 k hk).1 hge_g1
  have hv0_hy_g1 : ∀ k, z1.ownBlock = some k → k < w.heap.size := fun k hk => Rd.lt hr0 (by simpa using (cut_pos (hst_g1 k hk).2.1)) k (cutV_own.symm.trans (hst_g1 k hk).2.2)
  replace hC := hC.trans hx
  replace hr := Rd.ext hr hx
  replace hs := RdF.ext hs hx
  have hy_g1 := hy_g1'
  clear hy_g1' hx
  refine lf_val (v := .pointer (some ⟨g1, 0, none⟩)) (wantAll rfl) (rv_assign rfl (fr_eval rfl rfl)) ?_
  refine lf_nil ?_
  refine then_n ?_
  refine wp_seq ?_
  refine wp_seq ?_
  refine wp_gen (fun F' => F' 0 = cutV v b 200 ∧ F' 1 = v2 ∧ F' 4 = .bool false ∧ F' 5 = .pointer (some ⟨g1, 0, none⟩)) ⟨e0, e1, e4, rfl⟩ ?_
  clear e0 e1 e4
  clear F
  rintro F ⟨e0, e1, e4, e5⟩
  refine wp_regionF ?_
  refine lf_val (v := .int .i64 0) (wantAll rfl) (rv_assign rfl rfl) ?_
  refine lf_nil ?_
  refine then_n ?_
  refine wp_block ?_
  refine wp_gen (fun F' => F' 0 = cutV v b 200 ∧ F' 1 = v2 ∧ F' 4 = .bool false ∧ F' 5 = .pointer (some ⟨g1, 0, none⟩) ∧ F' 6 = .int .i64 0) ⟨e0, e1, e4, e5, rfl⟩ ?_
  clear e0 e1 e4 e5
  clear F
  rintro F ⟨e0, e1, e4, e5, e6⟩
  refine wp_loopF (fun m F wr => ∃ i : Nat, ∃ r2 : List UInt8, ∃ e : Int, m = 30 - i ∧ i ≤ l.length ∧ i ≤ 30 ∧ F 0 = cutV v b 200 ∧ F 1 = v2 ∧ F 5 = .pointer (some ⟨g1, 0, none⟩) ∧ F 6 = .int .i64 ((i : Nat) : Int) ∧ RdB wr v b ∧ RdF cII 2 wr v2 l ∧ EyeAt wr g1 z1 r2 e ∧ Ext w wr) ⟨0, _, _, rfl, Nat.zero_le _, Nat.zero_le _, e0, e1, e5, e6, hr, hs, hy_g1, hC⟩ ?_
  clear e0 e1 e4 e5 e6 hr hs hy_g1 hC
  clear F
  rintro m F w3 ⟨i, r2, e, rfl, pi0, pi1, e0, e1, e5, e6, hr, hs, hy_g1, hC⟩
  refine wp_seq ?_
  refine wp_seq ?_
  refine wp_regionF ?_
  refine lf_val (v := .int .i64 ((i : Nat) : Int)) (wantAll rfl) (rv_move rfl (fr_eval rfl e6)) ?_
  refine lf_val (v := v2) (wantAll rfl) (rv_move rfl (fr_eval rfl e1)) ?_
  refine lf_val (v := .int .i64 ((l.length : Nat) : Int)) (wantAll rfl) (rv_len rfl (fr_eval rfl rfl) (RdF.rd hs) Try.underlying33) ?_
  by_cases hc1 : i < l.length
  · refine lf_val (v := .bool true) (wantAll rfl) (rv_lss rfl (fr_eval rfl rfl) (fr_eval rfl rfl) (decide_eq_true (by omega))) ?_
    refine lf_val (v := .bool true) (wantAll rfl) (rv_move rfl (fr_eval rfl rfl)) ?_
    refine lf_val (v := .int .i64 ((i : Nat) : Int)) (wantF (d := 22) rfl (by kernel_rfl) rfl rfl) (rv_move rfl (fr_eval rfl e6)) ?_
    by_cases hc2 : i < 30
    · refine lf_val (v := .bool true) (wantF (d := 22) rfl (by kernel_rfl) rfl rfl) (rv_lss rfl (fr_eval rfl rfl) rfl (decide_eq_true (by omega))) ?_
      refine lf_val (v := .bool true) (wantAll rfl) (rv_pickT rfl (fr_eval rfl rfl) (fr_eval rfl rfl)) ?_
      refine lf_nil ?_
      refine then_n ?_
      refine wp_gen (fun F' => F' 0 = cutV v b 200 ∧ F' 1 = v2 ∧ F' 5 = .pointer (some ⟨g1, 0, none⟩) ∧ F' 6 = .int .i64 ((i : Nat) : Int) ∧ F' 25 = .bool true) ⟨e0, e1, e5, e6, rfl⟩ ?_
      clear e0 e1 e5 e6
      clear F
      rintro F ⟨e0, e1, e5, e6, e25⟩
      refine wp_cond_true (fr_eval rfl e25) ?_
      refine wp_skip ?_
      refine then_n ?_
      refine wp_seq ?_
      refine wp_block ?_
      refine wp_seq ?_
      refine wp_regionF ?_
      refine lf_val (v := .pointer (some ⟨g1, 0, none⟩)) (wantAll rfl) (rv_move rfl (fr_eval rfl e5)) ?_
      refine lf_call (wantAll rfl) (rv_call (args := [.pointer (some ⟨g1, 0, none⟩)]) rfl (evc (fr_eval rfl rfl) evn) Try.call17) (errE_calls _ hy_g1) ?_
      rintro _ w4 ⟨rfl, hx⟩
      refine ⟨_, rfl, ?_⟩
      replace hC := hC.trans hx
      replace hr := Rd.ext hr hx
      replace hs := RdF.ext hs hx
      replace hy_g1 := EyeAt.ext hy_g1 hx
      clear hx
      refine lf_val (v := .int .i64 e) (wantAll rfl) (rv_assign rfl (fr_eval rfl rfl)) ?_
      refine lf_nil ?_
      refine then_n ?_
      refine wp_seq ?_
      refine wp_gen (fun F' => F' 0 = cutV v b 200 ∧ F' 1 = v2 ∧ F' 5 = .pointer (some ⟨g1, 0, none⟩) ∧ F' 6 = .int .i64 ((i : Nat) : Int) ∧ F' 7 = .int .i64 e ∧ F' 25 = .bool true) ⟨e0, e1, e5, e6, rfl, e25⟩ ?_
      clear e0 e1 e5 e6 e25
      clear F
      rintro F ⟨e0, e1, e5, e6, e7, e25⟩
      refine wp_regionF ?_
      refine lf_val (v := .pointer (some ⟨g1, 0, none⟩)) (wantAll rfl) (rv_move rfl (fr_eval rfl e5)) ?_
      refine lf_val (v := v2) (wantAll rfl) (rv_move rfl (fr_eval rfl e1)) ?_
      refine lf_val (v := .int .i64 ((i : Nat) : Int)) (wantAll rfl) (rv_move rfl (fr_eval rfl e6)) ?_
      refine lf_val (v := .pointer (some (elemA v2 (i * 2)))) (wantAll rfl) (rv_index rfl (fr_eval rfl rfl) (fr_eval rfl rfl) (RdF.rd hs) (by omega) Try.underlying33 Try.sz37 (by decide)) ?_
      refine lf_val (v := .agg #[.int .i64 ((List.getD l i (0, 0)).1), .int .i64 ((List.getD l i (0, 0)).2)]) (wantAll rfl) (rv_loadElem rfl (fr_eval rfl rfl) (RdF.rd hs) (by omega) (by decide) (flat_part (0, 0) cII_len (by omega)) Try.underlying37 rfl Try.sz37) ?_
      refine lf_call (wantAll rfl) (rv_call (args := [.pointer (some ⟨g1, 0, none⟩), .agg #[.int .i64 ((List.getD l i (0, 0)).1), .int .i64 ((List.getD l i (0, 0)).2)]]) rfl (evc (fr_eval rfl rfl) (evc (fr_eval rfl rfl) evn)) Try.call21) (step01_calls ((List.getD l i (0, 0)).1) ((List.getD l i (0, 0)).2) _ hy_g1 ne_hy_g1 (fun k hk => Nat.lt_of_lt_of_le (hv0_hy_g1 k hk) (Chg.size hC))) ?_
      rintro _ w5 ⟨sz1, sx1, sv1, se1, sr1, rfl, hsx1', hy_g1', hx, hs1, hs2⟩
      refine ⟨_, rfl, ?_⟩
      replace hr := Rd.keep hr hx (fun b hb h0 e => by have e : b = g1 := e; have := Rd.lt hr0 h0 b hb; omega)
      replace hs := Rd.keep hs hx (fun b hb h0 e => by have e : b = g1 := e; have := Rd.lt hs0 h0 b hb; omega)
      replace hC := Chg.then hC hx (fun i hi e => absurd hi (by have e : i = g1 := e; omega))
      replace hy_g1 := hy_g1'
      have hsx1 := hsx1'
      clear hy_g1' hsx1'
      clear hx
      refine lf_val (v := .tuple #[.int .i64 sz1, sv1]) (wantAll rfl) (rv_move rfl (fr_eval rfl rfl)) ?_
      refine lf_val (v := .int .i64 sz1) (wantAll rfl) (rv_extract rfl (fr_eval rfl rfl) rfl) ?_
      refine lf_val (v := sv1) (wantAll rfl) (rv_extract rfl (fr_eval rfl rfl) rfl) ?_
      refine lf_val (v := .int .i64 sz1) (wantAll rfl) (rv_assign rfl (fr_eval rfl rfl)) ?_
      refine lf_val (v := sv1) (wantAll rfl) (rv_assign rfl (fr_eval rfl rfl)) ?_
      refine lf_nil ?_
      refine then_n ?_
      refine wp_seq ?_
      refine wp_gen (fun F' => F' 0 = cutV v b 200 ∧ F' 1 = v2 ∧ F' 5 = .pointer (some ⟨g1, 0, none⟩) ∧ F' 6 = .int .i64 ((i : Nat) : Int) ∧ F' 7 = .int .i64 e ∧ F' 8 = .int .i64 sz1 ∧ F' 9 = sv1 ∧ F' 25 = .bool true) ⟨e0, e1, e5, e6, e7, rfl, rfl, e25⟩ ?_
      clear e0 e1 e5 e6 e7 e25
      clear F
      rintro F ⟨e0, e1, e5, e6, e7, e8, e9, e25⟩
      refine wp_regionF ?_
      refine lf_val (v := .pointer (some ⟨g1, 0, none⟩)) (wantAll rfl) (rv_move rfl (fr_eval rfl e5)) ?_
      refine lf_call (wantAll rfl) (rv_call (args := [.pointer (some ⟨g1, 0, none⟩)]) rfl (evc (fr_eval rfl rfl) evn) Try.call17) (errE_calls _ hy_g1) ?_
      rintro _ w6 ⟨rfl, hx⟩
      refine ⟨_, rfl, ?_⟩
      replace hC := hC.trans hx
      replace hr := Rd.ext hr hx
      replace hs := RdF.ext hs hx
      replace hy_g1 := EyeAt.ext hy_g1 hx
      replace hsx1 := Rd.ext hsx1 hx
      clear hx
      refine lf_val (v := .int .i64 se1) (wantAll rfl) (rv_assign rfl (fr_eval rfl rfl)) ?_
      refine lf_nil ?_
      refine then_n ?_
      refine wp_seq ?_
      refine wp_seq ?_
      refine wp_gen (fun F' => F' 0 = cutV v b 200 ∧ F' 1 = v2 ∧ F' 5 = .pointer (some ⟨g1, 0, none⟩) ∧ F' 6 = .int .i64 ((i : Nat) : Int) ∧ F' 7 = .int .i64 e ∧ F' 8 = .int .i64 sz1 ∧ F' 9 = sv1 ∧ F' 10 = .int .i64 se1 ∧ F' 25 = .bool true) ⟨e0, e1, e5, e6, e7, e8, e9, rfl, e25⟩ ?_
      clear e0 e1 e5 e6 e7 e8 e9 e25
      clear F
      rintro F ⟨e0, e1, e5, e6, e7, e8, e9, e10, e25⟩
      refine wp_regionF ?_
      refine lf_val (v := .int .i64 e) (wantAll rfl) (rv_move rfl (fr_eval rfl e7)) ?_
      by_cases hc3 : e = 0
      · refine lf_val (v := .bool true) (wantAll rfl) (rv_eql rfl (fr_eval rfl rfl) rfl (decide_eq_true (by omega))) ?_
        refine lf_nil ?_
        refine then_n ?_
        refine wp_gen (fun F' => F' 0 = cutV v b 200 ∧ F' 1 = v2 ∧ F' 5 = .pointer (some ⟨g1, 0, none⟩) ∧ F' 6 = .int .i64 ((i : Nat) : Int) ∧ F' 7 = .int .i64 e ∧ F' 8 = .int .i64 sz1 ∧ F' 9 = sv1 ∧ F' 10 = .int .i64 se1 ∧ F' 25 = .bool true ∧ F' 42 = .bool true) ⟨e0, e1, e5, e6, e7, e8, e9, e10, e25, rfl⟩ ?_
        clear e0 e1 e5 e6 e7 e8 e9 e10 e25
        clear F
        rintro F ⟨e0, e1, e5, e6, e7, e8, e9, e10, e25, e42⟩
        refine wp_cond_true (fr_eval rfl e42) ?_
        refine wp_seq ?_
        refine wp_seq ?_
        refine wp_regionF ?_
        refine lf_val (v := v2) (wantAll rfl) (rv_move rfl (fr_eval rfl e1)) ?_
        refine lf_val (v := .int .i64 ((i : Nat) : Int)) (wantAll rfl) (rv_move rfl (fr_eval rfl e6)) ?_
        refine lf_val (v := .pointer (some (elemA v2 (i * 2)))) (wantAll rfl) (rv_index rfl (fr_eval rfl rfl) (fr_eval rfl rfl) (RdF.rd hs) (by omega) Try.underlying33 Try.sz37 (by decide)) ?_
        refine lf_val (v := .pointer (some (elemA v2 (i * 2 + 0)))) (wantAll rfl) (rv_fieldElem (nn := 0) rfl (fr_eval rfl rfl) (RdF.rd hs) (by omega) (by decide) Try.underlying37 rfl rfl (by kernel_rfl)) ?_
        refine lf_val (v := .int .i64 ((List.getD l i (0, 0)).1)) (wantAll rfl) (rv_loadCell rfl (fr_eval rfl rfl) rfl (RdF.rd hs) (flat_get (0, 0) cII_len (by omega) rfl (by decide)) Try.underlying3 rfl Try.sz3) ?_
        by_cases hc4 : (List.getD l i (0, 0)).1 > 4
        · refine lf_val (v := .bool true) (wantAll rfl) (rv_gtr rfl (fr_eval rfl rfl) rfl (decide_eq_true (by omega))) ?_
          refine lf_val (v := .bool true) (wantAll rfl) (rv_move rfl (fr_eval rfl rfl)) ?_
          refine lf_val (v := .int .i64 se1) (wantF (d := 49) rfl (by kernel_rfl) rfl rfl) (rv_move rfl (fr_eval rfl e10)) ?_
          refine lf_val (v := v2) (wantF (d := 49) rfl (by kernel_rfl) rfl rfl) (rv_move rfl (fr_eval rfl e1)) ?_
          refine lf_val (v := .int .i64 ((i : Nat) : Int)) (wantF (d := 49) rfl (by kernel_rfl) rfl rfl) (rv_move rfl (fr_eval rfl e6)) ?_
          refine lf_val (v := .pointer (some (elemA v2 (i * 2)))) (wantF (d := 49) rfl (by kernel_rfl) rfl rfl) (rv_index rfl (fr_eval rfl rfl) (fr_eval rfl rfl) (RdF.rd hs) (by omega) Try.underlying33 Try.sz37 (by decide)) ?_
          refine lf_val (v := .pointer (some (elemA v2 (i * 2 + 1)))) (wantF (d := 49) rfl (by kernel_rfl) rfl rfl) (rv_fieldElem (nn := 0) rfl (fr_eval rfl rfl) (RdF.rd hs) (by omega) (by decide) Try.underlying37 rfl rfl (by kernel_rfl)) ?_
          refine lf_val (v := .int .i64 ((List.getD l i (0, 0)).2)) (wantF (d := 49) rfl (by kernel_rfl) rfl rfl) (rv_loadCell rfl (fr_eval rfl rfl) rfl (RdF.rd hs) (flat_get (0, 0) cII_len (by omega) rfl (by decide)) Try.underlying3 rfl Try.sz3) ?_
          have hq := hs2 (by assumption) (by omega)
          refine lf_val (v := .bool false) (wantF (d := 49) rfl (by kernel_rfl) rfl rfl) (rv_neq rfl (fr_eval rfl rfl) (fr_eval rfl rfl) (decide_eq_true (by omega))) ?_
          refine lf_val (v := .bool false) (wantAll rfl) (rv_pickT rfl (fr_eval rfl rfl) (fr_eval rfl rfl)) ?_
          refine lf_nil ?_
          refine then_n ?_
          refine wp_gen (fun F' => F' 0 = cutV v b 200 ∧ F' 1 = v2 ∧ F' 5 = .pointer (some ⟨g1, 0, none⟩) ∧ F' 6 = .int .i64 ((i : Nat) : Int) ∧ F' 7 = .int .i64 e ∧ F' 8 = .int .i64 sz1 ∧ F' 9 = sv1 ∧ F' 10 = .int .i64 se1 ∧ F' 25 = .bool true ∧ F' 42 = .bool true ∧ F' 57 = .bool false) ⟨e0, e1, e5, e6, e7, e8, e9, e10, e25, e42, rfl⟩ ?_
          clear e0 e1 e5 e6 e7 e8 e9 e10 e25 e42
          clear F
          rintro F ⟨e0, e1, e5, e6, e7, e8, e9, e10, e25, e42, e57⟩
          refine wp_cond_false (fr_eval rfl e57) ?_
          refine wp_skip ?_
          refine then_n ?_
          refine wp_exit ?_
          refine then_exit ?_
          refine blk_exit ?_
          refine then_n ?_
          refine wp_regionF ?_
          refine lf_val (v := .int .i64 ((i : Nat) : Int)) (wantAll rfl) (rv_move rfl (fr_eval rfl e6)) ?_
          refine lf_val (v := .int .i64 ((i + 1 : Nat) : Int)) (wantAll rfl) (rv_add rfl (fr_eval rfl rfl) rfl (wrap_i64 (by omega) (by omega) (by omega))) ?_
          refine lf_val (v := .int .i64 ((i + 1 : Nat) : Int)) (wantAll rfl) (rv_assign rfl (fr_eval rfl rfl)) ?_
          refine lf_nil ?_
          refine then_n ?_
          exact ⟨_, _, (by omega), rfl, i + 1, _, _, rfl, (by omega), (by omega), e0, e1, e5, rfl, hr, hs, hy_g1, hC⟩
        · refine lf_val (v := .bool false) (wantAll rfl) (rv_gtr rfl (fr_eval rfl rfl) rfl (decide_eq_false (by omega))) ?_
          refine lf_val (v := .bool false) (wantAll rfl) (rv_move rfl (fr_eval rfl rfl)) ?_
          refine lf_not (wantNot (d := 49) rfl (by kernel_rfl) rfl rfl) ?_
          refine lf_not (wantNot (d := 49) rfl (by kernel_rfl) rfl rfl) ?_
          refine lf_not (wantNot (d := 49) rfl (by kernel_rfl) rfl rfl) ?_
          refine lf_not (wantNot (d := 49) rfl (by kernel_rfl) rfl rfl) ?_
          refine lf_not (wantNot (d := 49) rfl (by kernel_rfl) rfl rfl) ?_
          refine lf_not (wantNot (d := 49) rfl (by kernel_rfl) rfl rfl) ?_
          refine lf_not (wantNot (d := 49) rfl (by kernel_rfl) rfl rfl) ?_
          refine lf_val (v := .bool false) (wantAll rfl) (rv_pickF rfl (fr_eval rfl rfl) rfl) ?_
          refine lf_nil ?_
          refine then_n ?_
          refine wp_gen (fun F' => F' 0 = cutV v b 200 ∧ F' 1 = v2 ∧ F' 5 = .pointer (some ⟨g1, 0, none⟩) ∧ F' 6 = .int .i64 ((i : Nat) : Int) ∧ F' 7 = .int .i64 e ∧ F' 8 = .int .i64 sz1 ∧ F' 9 = sv1 ∧ F' 10 = .int .i64 se1 ∧ F' 25 = .bool true ∧ F' 42 = .bool true ∧ F' 57 = .bool false) ⟨e0, e1, e5, e6, e7, e8, e9, e10, e25, e42, rfl⟩ ?_
          clear e0 e1 e5 e6 e7 e8 e9 e10 e25 e42
          clear F
          rintro F ⟨e0, e1, e5, e6, e7, e8, e9, e10, e25, e42, e57⟩
          refine wp_cond_false (fr_eval rfl e57) ?_
          refine wp_skip ?_
          refine then_n ?_
          refine wp_exit ?_
          refine then_exit ?_
          refine blk_exit ?_
          refine then_n ?_
          refine wp_regionF ?_
          refine lf_val (v := .int .i64 ((i : Nat) : Int)) (wantAll rfl) (rv_move rfl (fr_eval rfl e6)) ?_
          refine lf_val (v := .int .i64 ((i + 1 : Nat) : Int)) (wantAll rfl) (rv_add rfl (fr_eval rfl rfl) rfl (wrap_i64 (by omega) (by omega) (by omega))) ?_
          refine lf_val (v := .int .i64 ((i + 1 : Nat) : Int)) (wantAll rfl) (rv_assign rfl (fr_eval rfl rfl)) ?_
          refine lf_nil ?_
          refine then_n ?_
          exact ⟨_, _, (by omega), rfl, i + 1, _, _, rfl, (by omega), (by omega), e0, e1, e5, rfl, hr, hs, hy_g1, hC⟩
      · refine lf_val (v := .bool false) (wantAll rfl) (rv_eql rfl (fr_eval rfl rfl) rfl (decide_eq_false (by omega))) ?_
        refine lf_nil ?_
        refine then_n ?_
        refine wp_gen (fun F' => F' 0 = cutV v b 200 ∧ F' 1 = v2 ∧ F' 5 = .pointer (some ⟨g1, 0, none⟩) ∧ F' 6 = .int .i64 ((i : Nat) : Int) ∧ F' 7 = .int .i64 e ∧ F' 8 = .int .i64 sz1 ∧ F' 9 = sv1 ∧ F' 10 = .int .i64 se1 ∧ F' 25 = .bool true ∧ F' 42 = .bool false) ⟨e0, e1, e5, e6, e7, e8, e9, e10, e25, rfl⟩ ?_
        clear e0 e1 e5 e6 e7 e8 e9 e10 e25
        clear F
        rintro F ⟨e0, e1, e5, e6, e7, e8, e9, e10, e25, e42⟩
        refine wp_cond_false (fr_eval rfl e42) ?_
        refine wp_skip ?_
        refine then_n ?_
        refine wp_seq ?_
        refine wp_seq ?_
        have hq := hs1 (by assumption)
        refine wp_regionF ?_
        refine lf_val (v := .int .i64 se1) (wantAll rfl) (rv_move rfl (fr_eval rfl e10)) ?_
        refine lf_val (v := .int .i64 e) (wantAll rfl) (rv_move rfl (fr_eval rfl e7)) ?_
        refine lf_val (v := .bool false) (wantAll rfl) (rv_neq rfl (fr_eval rfl rfl) (fr_eval rfl rfl) (decide_eq_true (by omega))) ?_
        refine lf_val (v := .bool false) (wantAll rfl) (rv_move rfl (fr_eval rfl rfl)) ?_
        refine lf_val (v := .int .i64 sz1) (wantF (d := 61) rfl (by kernel_rfl) rfl rfl) (rv_move rfl (fr_eval rfl e8)) ?_
        refine lf_val (v := .bool false) (wantF (d := 61) rfl (by kernel_rfl) rfl rfl) (rv_neq rfl (fr_eval rfl rfl) rfl (decide_eq_true (by omega))) ?_
        refine lf_val (v := .bool false) (wantAll rfl) (rv_pickF rfl (fr_eval rfl rfl) (fr_eval rfl rfl)) ?_
        refine lf_nil ?_
        refine then_n ?_
        refine wp_gen (fun F' => F' 0 = cutV v b 200 ∧ F' 1 = v2 ∧ F' 5 = .pointer (some ⟨g1, 0, none⟩) ∧ F' 6 = .int .i64 ((i : Nat) : Int) ∧ F' 7 = .int .i64 e ∧ F' 8 = .int .i64 sz1 ∧ F' 9 = sv1 ∧ F' 10 = .int .i64 se1 ∧ F' 25 = .bool true ∧ F' 42 = .bool false ∧ F' 64 = .bool false) ⟨e0, e1, e5, e6, e7, e8, e9, e10, e25, e42, rfl⟩ ?_
        clear e0 e1 e5 e6 e7 e8 e9 e10 e25 e42
        clear F
        rintro F ⟨e0, e1, e5, e6, e7, e8, e9, e10, e25, e42, e64⟩
        refine wp_cond_false (fr_eval rfl e64) ?_
        refine wp_skip ?_
        refine then_n ?_
        refine wp_seq ?_
        have hxm := Rd.max hsx1
        refine wp_regionF ?_
        refine lf_val (v := .int .i64 0) (wantAll rfl) (rv_assign rfl rfl) ?_
        refine lf_nil ?_
        refine then_n ?_
        refine wp_block ?_
        refine wp_gen (fun F' => F' 0 = cutV v b 200 ∧ F' 1 = v2 ∧ F' 5 = .pointer (some ⟨g1, 0, none⟩) ∧ F' 6 = .int .i64 ((i : Nat) : Int) ∧ F' 7 = .int .i64 e ∧ F' 8 = .int .i64 sz1 ∧ F' 9 = sv1 ∧ F' 10 = .int .i64 se1 ∧ F' 11 = .int .i64 0 ∧ F' 25 = .bool true ∧ F' 42 = .bool false ∧ F' 64 = .bool false) ⟨e0, e1, e5, e6, e7, e8, e9, e10, rfl, e25, e42, e64⟩ ?_
        clear e0 e1 e5 e6 e7 e8 e9 e10 e25 e42 e64
        clear F
        rintro F ⟨e0, e1, e5, e6, e7, e8, e9, e10, e11, e25, e42, e64⟩
        refine wp_loopF (fun m F wr => ∃ j : Nat, m = sx1.length - j ∧ j ≤ sx1.length ∧ F 0 = cutV v b 200 ∧ F 1 = v2 ∧ F 5 = .pointer (some ⟨g1, 0, none⟩) ∧ F 6 = .int .i64 ((i : Nat) : Int) ∧ F 7 = .int .i64 e ∧ F 8 = .int .i64 sz1 ∧ F 9 = sv1 ∧ F 10 = .int .i64 se1 ∧ F 11 = .int .i64 ((j : Nat) : Int) ∧ F 25 = .bool true ∧ F 42 = .bool false ∧ F 64 = .bool false ∧ RdB wr v b ∧ RdF cII 2 wr v2 l ∧ EyeAt wr g1 z1 sr1 se1 ∧ RdB wr sv1 sx1 ∧ Ext w wr) ⟨0, rfl, Nat.zero_le _, e0, e1, e5, e6, e7, e8, e9, e10, e11, e25, e42, e64, hr, hs, hy_g1, hsx1, hC⟩ ?_
        clear e0 e1 e5 e6 e7 e8 e9 e10 e11 e25 e42 e64 hr hs hy_g1 hsx1 hC
        clear F
        rintro m F w7 ⟨j, rfl, pj0, e0, e1, e5, e6, e7, e8, e9, e10, e11, e25, e42, e64, hr, hs, hy_g1, hsx1, hC⟩
        refine wp_seq ?_
        refine wp_seq ?_
        refine wp_regionF ?_
        refine lf_val (v := .int .i64 ((j : Nat) : Int)) (wantAll rfl) (rv_move rfl (fr_eval rfl e11)) ?_
        refine lf_val (v := sv1) (wantAll rfl) (rv_move rfl (fr_eval rfl e9)) ?_
        refine lf_val (v := .int .i64 ((sx1.length : Nat) : Int)) (wantAll rfl) (rv_len rfl (fr_eval rfl rfl) (RdB.rn hsx1 rfl) Try.underlying22) ?_
        by_cases hc5 : j < sx1.length
        · refine lf_val (v := .bool true) (wantAll rfl) (rv_lss rfl (fr_eval rfl rfl) (fr_eval rfl rfl) (decide_eq_true (by omega))) ?_
          refine lf_nil ?_
          refine then_n ?_
          refine wp_gen (fun F' => F' 0 = cutV v b 200 ∧ F' 1 = v2 ∧ F' 5 = .pointer (some ⟨g1, 0, none⟩) ∧ F' 6 = .int .i64 ((i : Nat) : Int) ∧ F' 7 = .int .i64 e ∧ F' 8 = .int .i64 sz1 ∧ F' 9 = sv1 ∧ F' 10 = .int .i64 se1 ∧ F' 11 = .int .i64 ((j : Nat) : Int) ∧ F' 25 = .bool true ∧ F' 42 = .bool false ∧ F' 64 = .bool false ∧ F' 68 = .bool true) ⟨e0, e1, e5, e6, e7, e8, e9, e10, e11, e25, e42, e64, rfl⟩ ?_
          clear e0 e1 e5 e6 e7 e8 e9 e10 e11 e25 e42 e64
          clear F
          rintro F ⟨e0, e1, e5, e6, e7, e8, e9, e10, e11, e25, e42, e64, e68⟩
          refine wp_cond_true (fr_eval rfl e68) ?_
          refine wp_skip ?_
          refine then_n ?_
          refine wp_seq ?_
          refine wp_block ?_
          refine wp_seq ?_
          have hz0 := hq.2.2 j
          refine wp_regionF ?_
          refine lf_val (v := sv1) (wantAll rfl) (rv_move rfl (fr_eval rfl e9)) ?_
          refine lf_val (v := .int .i64 ((j : Nat) : Int)) (wantAll rfl) (rv_move rfl (fr_eval rfl e11)) ?_
          refine lf_val (v := .pointer (some (elemA sv1 (j * 1)))) (wantAll rfl) (rv_index rfl (fr_eval rfl rfl) (fr_eval rfl rfl) hsx1 (by omega) Try.underlying22 Try.sz5 (by decide)) ?_
          refine lf_val (v := cB (List.getD sx1 j 0)) (wantAll rfl) (rv_loadCell rfl (fr_eval rfl rfl) (Nat.mul_one _) hsx1 (cell_b rfl (by omega)) Try.underlying5 rfl Try.sz5) ?_
          refine lf_val (v := .bool false) (wantAll rfl) (rv_neq rfl (fr_eval rfl rfl) rfl (decide_eq_true (by omega))) ?_
          refine lf_nil ?_
          refine then_n ?_
          refine wp_gen (fun F' => F' 0 = cutV v b 200 ∧ F' 1 = v2 ∧ F' 5 = .pointer (some ⟨g1, 0, none⟩) ∧ F' 6 = .int .i64 ((i : Nat) : Int) ∧ F' 7 = .int .i64 e ∧ F' 8 = .int .i64 sz1 ∧ F' 9 = sv1 ∧ F' 10 = .int .i64 se1 ∧ F' 11 = .int .i64 ((j : Nat) : Int) ∧ F' 25 = .bool true ∧ F' 42 = .bool false ∧ F' 64 = .bool false ∧ F' 68 = .bool true ∧ F' 75 = .bool false) ⟨e0, e1, e5, e6, e7, e8, e9, e10, e11, e25, e42, e64, e68, rfl⟩ ?_
          clear e0 e1 e5 e6 e7 e8 e9 e10 e11 e25 e42 e64 e68
          clear F
          rintro F ⟨e0, e1, e5, e6, e7, e8, e9, e10, e11, e25, e42, e64, e68, e75⟩
          refine wp_cond_false (fr_eval rfl e75) ?_
          refine wp_skip ?_
          refine blk_n ?_
          refine then_n ?_
          refine wp_regionF ?_
          refine lf_val (v := .int .i64 ((j : Nat) : Int)) (wantAll rfl) (rv_move rfl (fr_eval rfl e11)) ?_
          refine lf_val (v := .int .i64 ((j + 1 : Nat) : Int)) (wantAll rfl) (rv_add rfl (fr_eval rfl rfl) rfl (wrap_i64 (by omega) (by omega) (by omega))) ?_
          refine lf_val (v := .int .i64 ((j + 1 : Nat) : Int)) (wantAll rfl) (rv_assign rfl (fr_eval rfl rfl)) ?_
          refine lf_nil ?_
          refine then_n ?_
          exact ⟨_, _, (by omega), rfl, j + 1, rfl, (by omega), e0, e1, e5, e6, e7, e8, e9, e10, rfl, e25, e42, e64, hr, hs, hy_g1, hsx1, hC⟩
        · refine lf_val (v := .bool false) (wantAll rfl) (rv_lss rfl (fr_eval rfl rfl) (fr_eval rfl rfl) (decide_eq_false (by omega))) ?_
          refine lf_nil ?_
          refine then_n ?_
          refine wp_gen (fun F' => F' 0 = cutV v b 200 ∧ F' 1 = v2 ∧ F' 5 = .pointer (some ⟨g1, 0, none⟩) ∧ F' 6 = .int .i64 ((i : Nat) : Int) ∧ F' 7 = .int .i64 e ∧ F' 8 = .int .i64 sz1 ∧ F' 9 = sv1 ∧ F' 10 = .int .i64 se1 ∧ F' 11 = .int .i64 ((j : Nat) : Int) ∧ F' 25 = .bool true ∧ F' 42 = .bool false ∧ F' 64 = .bool false ∧ F' 68 = .bool false) ⟨e0, e1, e5, e6, e7, e8, e9, e10, e11, e25, e42, e64, rfl⟩ ?_
          clear e0 e1 e5 e6 e7 e8 e9 e10 e11 e25 e42 e64
          clear F
          rintro F ⟨e0, e1, e5, e6, e7, e8, e9, e10, e11, e25, e42, e64, e68⟩
          refine wp_cond_false (fr_eval rfl e68) ?_
          refine wp_exit ?_
          refine then_exit ?_
          refine then_exit ?_
          refine blk_exit ?_
          refine blk_n ?_
          refine then_n ?_
          refine wp_regionF ?_
          refine lf_val (v := .int .i64 ((i : Nat) : Int)) (wantAll rfl) (rv_move rfl (fr_eval rfl e6)) ?_
          refine lf_val (v := .int .i64 ((i + 1 : Nat) : Int)) (wantAll rfl) (rv_add rfl (fr_eval rfl rfl) rfl (wrap_i64 (by omega) (by omega) (by omega))) ?_
          refine lf_val (v := .int .i64 ((i + 1 : Nat) : Int)) (wantAll rfl) (rv_assign rfl (fr_eval rfl rfl)) ?_
          refine lf_nil ?_
          refine then_n ?_
          exact ⟨_, _, (by omega), rfl, i + 1, _, _, rfl, (by omega), (by omega), e0, e1, e5, rfl, hr, hs, hy_g1, hC⟩
    · refine lf_val (v := .bool false) (wantF (d := 22) rfl (by kernel_rfl) rfl rfl) (rv_lss rfl (fr_eval rfl rfl) rfl (decide_eq_false (by omega))) ?_
      refine lf_val (v := .bool false) (wantAll rfl) (rv_pickT rfl (fr_eval rfl rfl) (fr_eval rfl rfl)) ?_
      refine lf_nil ?_
      refine then_n ?_
      refine wp_gen (fun F' => F' 0 = cutV v b 200 ∧ F' 1 = v2 ∧ F' 5 = .pointer (some ⟨g1, 0, none⟩) ∧ F' 6 = .int .i64 ((i : Nat) : Int) ∧ F' 25 = .bool false) ⟨e0, e1, e5, e6, rfl⟩ ?_
      clear e0 e1 e5 e6
      clear F
      rintro F ⟨e0, e1, e5, e6, e25⟩
      refine wp_cond_false (fr_eval rfl e25) ?_
      refine wp_exit ?_
      refine then_exit ?_
      refine then_exit ?_
      refine blk_exit ?_
      refine then_n ?_
      refine wp_seq ?_
      refine wp_regionF ?_
      refine lf_val (v := .pointer (some ⟨g1, 0, none⟩)) (wantAll rfl) (rv_move rfl (fr_eval rfl e5)) ?_
      refine lf_call (wantAll rfl) (rv_call (args := [.pointer (some ⟨g1, 0, none⟩)]) rfl (evc (fr_eval rfl rfl) evn) Try.call17) (errE_calls _ hy_g1) ?_
      rintro _ w8 ⟨rfl, hx⟩
      refine ⟨_, rfl, ?_⟩
      replace hC := hC.trans hx
      replace hr := Rd.ext hr hx
      replace hs := RdF.ext hs hx
      replace hy_g1 := EyeAt.ext hy_g1 hx
      clear hx
      refine lf_val (v := .int .i64 e) (wantAll rfl) (rv_assign rfl (fr_eval rfl rfl)) ?_
      refine lf_nil ?_
      refine then_n ?_
      refine wp_seq ?_
      refine wp_gen (fun F' => F' 0 = cutV v b 200 ∧ F' 1 = v2 ∧ F' 5 = .pointer (some ⟨g1, 0, none⟩) ∧ F' 6 = .int .i64 ((i : Nat) : Int) ∧ F' 12 = .int .i64 e ∧ F' 25 = .bool false) ⟨e0, e1, e5, e6, rfl, e25⟩ ?_
      clear e0 e1 e5 e6 e25
      clear F
      rintro F ⟨e0, e1, e5, e6, e12, e25⟩
      refine wp_regionF ?_
      refine lf_val (v := .pointer (some ⟨g1, 0, none⟩)) (wantAll rfl) (rv_move rfl (fr_eval rfl e5)) ?_
      refine lf_call (wantAll rfl) (rv_call (args := [.pointer (some ⟨g1, 0, none⟩)]) rfl (evc (fr_eval rfl rfl) evn) Try.call22) (done_calls  _ hy_g1 ne_hy_g1) ?_
      rintro _ w9 ⟨rfl, hy_g1', hx⟩
      refine ⟨_, rfl, ?_⟩
      replace hr := Rd.keep hr hx (fun b hb h0 e => by have e : b = g1 := e; have := Rd.lt hr0 h0 b hb; omega)
      replace hs := Rd.keep hs hx (fun b hb h0 e => by have e : b = g1 := e; have := Rd.lt hs0 h0 b hb; omega)
      replace hC := Chg.then hC hx (fun i hi e => absurd hi (by have e : i = g1 := e; omega))
      replace hy_g1 := hy_g1'
      clear hy_g1'
      clear hx
      refine lf_val (v := .int .i64 (doneE r2 e)) (wantAll rfl) (rv_assign rfl (fr_eval rfl rfl)) ?_
      refine lf_nil ?_
      refine then_n ?_
      refine wp_seq ?_
      refine wp_seq ?_
      refine wp_gen (fun F' => F' 0 = cutV v b 200 ∧ F' 1 = v2 ∧ F' 5 = .pointer (some ⟨g1, 0, none⟩) ∧ F' 6 = .int .i64 ((i : Nat) : Int) ∧ F' 12 = .int .i64 e ∧ F' 13 = .int .i64 (doneE r2 e) ∧ F' 25 = .bool false) ⟨e0, e1, e5, e6, e12, rfl, e25⟩ ?_
      clear e0 e1 e5 e6 e12 e25
      clear F
      rintro F ⟨e0, e1, e5, e6, e12, e13, e25⟩
      refine wp_regionF ?_
      refine lf_val (v := .int .i64 e) (wantAll rfl) (rv_move rfl (fr_eval rfl e12)) ?_
      by_cases hc6 : e = 0
      · refine lf_val (v := .bool false) (wantAll rfl) (rv_neq rfl (fr_eval rfl rfl) rfl (decide_eq_true (by omega))) ?_
        refine lf_nil ?_
        refine then_n ?_
        refine wp_gen (fun F' => F' 0 = cutV v b 200 ∧ F' 1 = v2 ∧ F' 5 = .pointer (some ⟨g1, 0, none⟩) ∧ F' 6 = .int .i64 ((i : Nat) : Int) ∧ F' 12 = .int .i64 e ∧ F' 13 = .int .i64 (doneE r2 e) ∧ F' 25 = .bool false ∧ F' 81 = .bool false) ⟨e0, e1, e5, e6, e12, e13, e25, rfl⟩ ?_
        clear e0 e1 e5 e6 e12 e13 e25
        clear F
        rintro F ⟨e0, e1, e5, e6, e12, e13, e25, e81⟩
        refine wp_cond_false (fr_eval rfl e81) ?_
        refine wp_skip ?_
        refine then_n ?_
        refine wp_seq ?_
        have hd := done_end (r := r2) (e := e) (by omega)
        have hdd := done_done r2 e
        refine wp_regionF ?_
        refine lf_val (v := .int .i64 (doneE r2 e)) (wantAll rfl) (rv_move rfl (fr_eval rfl e13)) ?_
        by_cases hc7 : doneE r2 e = 0
        · refine lf_val (v := .bool true) (wantAll rfl) (rv_eql rfl (fr_eval rfl rfl) rfl (decide_eq_true (by omega))) ?_
          refine lf_val (v := .bool true) (wantAll rfl) (rv_move rfl (fr_eval rfl rfl)) ?_
          refine lf_not (wantNot (d := 90) rfl (by kernel_rfl) rfl rfl) ?_
          refine lf_not (wantNot (d := 90) rfl (by kernel_rfl) rfl rfl) ?_
          refine lf_val (v := .bool true) (wantAll rfl) (rv_pickT rfl (fr_eval rfl rfl) rfl) ?_
          refine lf_val (v := .bool true) (wantAll rfl) (rv_move rfl (fr_eval rfl rfl)) ?_
          refine lf_val (v := .pointer (some ⟨g1, 0, none⟩)) (wantF (d := 94) rfl (by kernel_rfl) rfl rfl) (rv_move rfl (fr_eval rfl e5)) ?_
          refine lf_call (wantF (d := 94) rfl (by kernel_rfl) rfl rfl) (rv_call (args := [.pointer (some ⟨g1, 0, none⟩)]) rfl (evc (fr_eval rfl rfl) evn) Try.call17) (errE_calls _ hy_g1) ?_
          rintro _ w10 ⟨rfl, hx⟩
          refine ⟨_, rfl, ?_⟩
          replace hC := hC.trans hx
          replace hr := Rd.ext hr hx
          replace hs := RdF.ext hs hx
          replace hy_g1 := EyeAt.ext hy_g1 hx
          clear hx
          refine lf_val (v := .int .i64 (doneE r2 e)) (wantF (d := 94) rfl (by kernel_rfl) rfl rfl) (rv_move rfl (fr_eval rfl e13)) ?_
          refine lf_val (v := .bool true) (wantF (d := 94) rfl (by kernel_rfl) rfl rfl) (rv_eql rfl (fr_eval rfl rfl) (fr_eval rfl rfl) (decide_eq_true (by omega))) ?_
          refine lf_val (v := .bool true) (wantAll rfl) (rv_pickT rfl (fr_eval rfl rfl) (fr_eval rfl rfl)) ?_
          refine lf_val (v := .bool true) (wantAll rfl) (rv_move rfl (fr_eval rfl rfl)) ?_
          refine lf_val (v := .pointer (some ⟨g1, 0, none⟩)) (wantF (d := 100) rfl (by kernel_rfl) rfl rfl) (rv_move rfl (fr_eval rfl e5)) ?_
          refine lf_call (wantF (d := 100) rfl (by kernel_rfl) rfl rfl) (rv_call (args := [.pointer (some ⟨g1, 0, none⟩)]) rfl (evc (fr_eval rfl rfl) evn) Try.call22) (done_calls  _ hy_g1 ne_hy_g1) ?_
          rintro _ w11 ⟨rfl, hy_g1', hx⟩
          refine ⟨_, rfl, ?_⟩
          replace hr := Rd.keep hr hx (fun b hb h0 e => by have e : b = g1 := e; have := Rd.lt hr0 h0 b hb; omega)
          replace hs := Rd.keep hs hx (fun b hb h0 e => by have e : b = g1 := e; have := Rd.lt hs0 h0 b hb; omega)
          replace hC := Chg.then hC hx (fun i hi e => absurd hi (by have e : i = g1 := e; omega))
          replace hy_g1 := hy_g1'
          clear hy_g1'
          clear hx
          refine lf_val (v := .int .i64 (doneE r2 e)) (wantF (d := 100) rfl (by kernel_rfl) rfl rfl) (rv_move rfl (fr_eval rfl e13)) ?_
          refine lf_val (v := .bool true) (wantF (d := 100) rfl (by kernel_rfl) rfl rfl) (rv_eql rfl (fr_eval rfl rfl) (fr_eval rfl rfl) (decide_eq_true (by omega))) ?_
          refine lf_val (v := .bool true) (wantAll rfl) (rv_pickT rfl (fr_eval rfl rfl) (fr_eval rfl rfl)) ?_
          refine lf_val (v := .bool true) (wantAll rfl) (rv_move rfl (fr_eval rfl rfl)) ?_
          refine lf_call (wantF (d := 106) rfl (by kernel_rfl) rfl rfl) (rv_call (args := []) rfl evn Try.call18) (awake01_calls _) ?_
          rintro _ w12 ⟨rfl, hx⟩
          refine ⟨_, rfl, ?_⟩
          replace hC := hC.trans hx
          replace hr := Rd.ext hr hx
          replace hs := RdF.ext hs hx
          replace hy_g1 := EyeAt.ext hy_g1 hx
          clear hx
          refine lf_val (v := .bool true) (wantAll rfl) (rv_pickT rfl (fr_eval rfl rfl) (fr_eval rfl rfl)) ?_
          refine lf_val (v := .bool true) (wantAll rfl) (rv_assign rfl (fr_eval rfl rfl)) ?_
          refine lf_nil ?_
          refine then_n ?_
          refine wp_gen (fun F' => F' 0 = cutV v b 200 ∧ F' 1 = v2 ∧ F' 4 = .bool true ∧ F' 5 = .pointer (some ⟨g1, 0, none⟩) ∧ F' 6 = .int .i64 ((i : Nat) : Int) ∧ F' 12 = .int .i64 e ∧ F' 13 = .int .i64 (doneE r2 e) ∧ F' 25 = .bool false ∧ F' 81 = .bool false) ⟨e0, e1, rfl, e5, e6, e12, e13, e25, e81⟩ ?_
          clear e0 e1 e5 e6 e12 e13 e25 e81
          clear F
          rintro F ⟨e0, e1, e4, e5, e6, e12, e13, e25, e81⟩
          refine wp_ret ?_
          exact bodyPost_ret (v := (.bool true)) (res1 rfl (ro_tmp rfl e4)) rfl (⟨rfl, hC⟩)
        · refine lf_val (v := .bool false) (wantAll rfl) (rv_eql rfl (fr_eval rfl rfl) rfl (decide_eq_false (by omega))) ?_
          refine lf_val (v := .bool false) (wantAll rfl) (rv_move rfl (fr_eval rfl rfl)) ?_
          refine lf_val (v := .int .i64 (doneE r2 e)) (wantF (d := 90) rfl (by kernel_rfl) rfl rfl) (rv_move rfl (fr_eval rfl e13)) ?_
          refine lf_val (v := .bool true) (wantF (d := 90) rfl (by kernel_rfl) rfl rfl) (rv_eql rfl (fr_eval rfl rfl) rfl (decide_eq_true (by omega))) ?_
          refine lf_val (v := .bool true) (wantAll rfl) (rv_pickF rfl (fr_eval rfl rfl) (fr_eval rfl rfl)) ?_
          refine lf_val (v := .bool true) (wantAll rfl) (rv_move rfl (fr_eval rfl rfl)) ?_
          refine lf_val (v := .pointer (some ⟨g1, 0, none⟩)) (wantF (d := 94) rfl (by kernel_rfl) rfl rfl) (rv_move rfl (fr_eval rfl e5)) ?_
          refine lf_call (wantF (d := 94) rfl (by kernel_rfl) rfl rfl) (rv_call (args := [.pointer (some ⟨g1, 0, none⟩)]) rfl (evc (fr_eval rfl rfl) evn) Try.call17) (errE_calls _ hy_g1) ?_
          rintro _ w13 ⟨rfl, hx⟩
          refine ⟨_, rfl, ?_⟩
          replace hC := hC.trans hx
          replace hr := Rd.ext hr hx
          replace hs := RdF.ext hs hx
          replace hy_g1 := EyeAt.ext hy_g1 hx
          clear hx
          refine lf_val (v := .int .i64 (doneE r2 e)) (wantF (d := 94) rfl (by kernel_rfl) rfl rfl) (rv_move rfl (fr_eval rfl e13)) ?_
          refine lf_val (v := .bool true) (wantF (d := 94) rfl (by kernel_rfl) rfl rfl) (rv_eql rfl (fr_eval rfl rfl) (fr_eval rfl rfl) (decide_eq_true (by omega))) ?_
          refine lf_val (v := .bool true) (wantAll rfl) (rv_pickT rfl (fr_eval rfl rfl) (fr_eval rfl rfl)) ?_
          refine lf_val (v := .bool true) (wantAll rfl) (rv_move rfl (fr_eval rfl rfl)) ?_
          refine lf_val (v := .pointer (some ⟨g1, 0, none⟩)) (wantF (d := 100) rfl (by kernel_rfl) rfl rfl) (rv_move rfl (fr_eval rfl e5)) ?_
          refine lf_call (wantF (d := 100) rfl (by kernel_rfl) rfl rfl) (rv_call (args := [.pointer (some ⟨g1, 0, none⟩)]) rfl (evc (fr_eval rfl rfl) evn) Try.call22) (done_calls  _ hy_g1 ne_hy_g1) ?_
          rintro _ w14 ⟨rfl, hy_g1', hx⟩
          refine ⟨_, rfl, ?_⟩
          replace hr := Rd.keep hr hx (fun b hb h0 e => by have e : b = g1 := e; have := Rd.lt hr0 h0 b hb; omega)
          replace hs := Rd.keep hs hx (fun b hb h0 e => by have e : b = g1 := e; have := Rd.lt hs0 h0 b hb; omega)
          replace hC := Chg.then hC hx (fun i hi e => absurd hi (by have e : i = g1 := e; omega))
          replace hy_g1 := hy_g1'
          clear hy_g1'
          clear hx
          refine lf_val (v := .int .i64 (doneE r2 e)) (wantF (d := 100) rfl (by kernel_rfl) rfl rfl) (rv_move rfl (fr_eval rfl e13)) ?_
          refine lf_val (v := .bool true) (wantF (d := 100) rfl (by kernel_rfl) rfl rfl) (rv_eql rfl (fr_eval rfl rfl) (fr_eval rfl rfl) (decide_eq_true (by omega))) ?_
          refine lf_val (v := .bool true) (wantAll rfl) (rv_pickT rfl (fr_eval rfl rfl) (fr_eval rfl rfl)) ?_
          refine lf_val (v := .bool true) (wantAll rfl) (rv_move rfl (fr_eval rfl rfl)) ?_
          refine lf_call (wantF (d := 106) rfl (by kernel_rfl) rfl rfl) (rv_call (args := []) rfl evn Try.call18) (awake01_calls _) ?_
          rintro _ w15 ⟨rfl, hx⟩
          refine ⟨_, rfl, ?_⟩
          replace hC := hC.trans hx
          replace hr := Rd.ext hr hx
          replace hs := RdF.ext hs hx
          replace hy_g1 := EyeAt.ext hy_g1 hx
          clear hx
          refine lf_val (v := .bool true) (wantAll rfl) (rv_pickT rfl (fr_eval rfl rfl) (fr_eval rfl rfl)) ?_
          refine lf_val (v := .bool true) (wantAll rfl) (rv_assign rfl (fr_eval rfl rfl)) ?_
          refine lf_nil ?_
          refine then_n ?_
          refine wp_gen (fun F' => F' 0 = cutV v b 200 ∧ F' 1 = v2 ∧ F' 4 = .bool true ∧ F' 5 = .pointer (some ⟨g1, 0, none⟩) ∧ F' 6 = .int .i64 ((i : Nat) : Int) ∧ F' 12 = .int .i64 e ∧ F' 13 = .int .i64 (doneE r2 e) ∧ F' 25 = .bool false ∧ F' 81 = .bool false) ⟨e0, e1, rfl, e5, e6, e12, e13, e25, e81⟩ ?_
          clear e0 e1 e5 e6 e12 e13 e25 e81
          clear F
          rintro F ⟨e0, e1, e4, e5, e6, e12, e13, e25, e81⟩
          refine wp_ret ?_
          exact bodyPost_ret (v := (.bool true)) (res1 rfl (ro_tmp rfl e4)) rfl (⟨rfl, hC⟩)
      · refine lf_val (v := .bool true) (wantAll rfl) (rv_neq rfl (fr_eval rfl rfl) rfl (decide_eq_false (by omega))) ?_
        refine lf_nil ?_
        refine then_n ?_
        refine wp_gen (fun F' => F' 0 = cutV v b 200 ∧ F' 1 = v2 ∧ F' 5 = .pointer (some ⟨g1, 0, none⟩) ∧ F' 6 = .int .i64 ((i : Nat) : Int) ∧ F' 12 = .int .i64 e ∧ F' 13 = .int .i64 (doneE r2 e) ∧ F' 25 = .bool false ∧ F' 81 = .bool true) ⟨e0, e1, e5, e6, e12, e13, e25, rfl⟩ ?_
        clear e0 e1 e5 e6 e12 e13 e25
        clear F
        rintro F ⟨e0, e1, e5, e6, e12, e13, e25, e81⟩
        refine wp_cond_true (fr_eval rfl e81) ?_
        refine wp_seq ?_
        have hd := done_no (r := r2) (e := e) (by assumption)
        refine wp_regionF ?_
        refine lf_val (v := .int .i64 (doneE r2 e)) (wantAll rfl) (rv_move rfl (fr_eval rfl e13)) ?_
        refine lf_val (v := .int .i64 e) (wantAll rfl) (rv_move rfl (fr_eval rfl e12)) ?_
        refine lf_val (v := .bool true) (wantAll rfl) (rv_eql rfl (fr_eval rfl rfl) (fr_eval rfl rfl) (decide_eq_true (by omega))) ?_
        refine lf_val (v := .bool true) (wantAll rfl) (rv_move rfl (fr_eval rfl rfl)) ?_
        refine lf_call (wantF (d := 85) rfl (by kernel_rfl) rfl rfl) (rv_call (args := []) rfl evn Try.call18) (awake01_calls _) ?_
        rintro _ w16 ⟨rfl, hx⟩
        refine ⟨_, rfl, ?_⟩
        replace hC := hC.trans hx
        replace hr := Rd.ext hr hx
        replace hs := RdF.ext hs hx
        replace hy_g1 := EyeAt.ext hy_g1 hx
        clear hx
        refine lf_val (v := .bool true) (wantAll rfl) (rv_pickT rfl (fr_eval rfl rfl) (fr_eval rfl rfl)) ?_
        refine lf_val (v := .bool true) (wantAll rfl) (rv_assign rfl (fr_eval rfl rfl)) ?_
        refine lf_nil ?_
        refine then_n ?_
        refine wp_gen (fun F' => F' 0 = cutV v b 200 ∧ F' 1 = v2 ∧ F' 4 = .bool true ∧ F' 5 = .pointer (some ⟨g1, 0, none⟩) ∧ F' 6 = .int .i64 ((i : Nat) : Int) ∧ F' 12 = .int .i64 e ∧ F' 13 = .int .i64 (doneE r2 e) ∧ F' 25 = .bool false ∧ F' 81 = .bool true) ⟨e0, e1, rfl, e5, e6, e12, e13, e25, e81⟩ ?_
        clear e0 e1 e5 e6 e12 e13 e25 e81
        clear F
        rintro F ⟨e0, e1, e4, e5, e6, e12, e13, e25, e81⟩
        refine wp_ret ?_
        refine then_ret ?_
        exact bodyPost_ret (v := (.bool true)) (res1 rfl (ro_tmp rfl e4)) rfl (⟨rfl, hC⟩)
  · refine lf_val (v := .bool false) (wantAll rfl) (rv_lss rfl (fr_eval rfl rfl) (fr_eval rfl rfl) (decide_eq_false (by omega))) ?_
    refine lf_val (v := .bool false) (wantAll rfl) (rv_move rfl (fr_eval rfl rfl)) ?_
    refine lf_not (wantNot (d := 22) rfl (by kernel_rfl) rfl rfl) ?_
    refine lf_not (wantNot (d := 22) rfl (by kernel_rfl) rfl rfl) ?_
    refine lf_val (v := .bool false) (wantAll rfl) (rv_pickF rfl (fr_eval rfl rfl) rfl) ?_
    refine lf_nil ?_
    refine then_n ?_
    refine wp_gen (fun F' => F' 0 = cutV v b 200 ∧ F' 1 = v2 ∧ F' 5 = .pointer (some ⟨g1, 0, none⟩) ∧ F' 6 = .int .i64 ((i : Nat) : Int) ∧ F' 25 = .bool false) ⟨e0, e1, e5, e6, rfl⟩ ?_
    clear e0 e1 e5 e6
    clear F
    rintro F ⟨e0, e1, e5, e6, e25⟩
    refine wp_cond_false (fr_eval rfl e25) ?_
    refine wp_exit ?_
    refine then_exit ?_
    refine then_exit ?_
    refine blk_exit ?_
    refine then_n ?_
    refine wp_seq ?_
    refine wp_regionF ?_
    refine lf_val (v := .pointer (some ⟨g1, 0, none⟩)) (wantAll rfl) (rv_move rfl (fr_eval rfl e5)) ?_
    refine lf_call (wantAll rfl) (rv_call (args := [.pointer (some ⟨g1, 0, none⟩)]) rfl (evc (fr_eval rfl rfl) evn) Try.call17) (errE_calls _ hy_g1) ?_
    rintro _ w17 ⟨rfl, hx⟩
    refine ⟨_, rfl, ?_⟩
    replace hC := hC.trans hx
    replace hr := Rd.ext hr hx
    replace hs := RdF.ext hs hx
    replace hy_g1 := EyeAt.ext hy_g1 hx
    clear hx
    refine lf_val (v := .int .i64 e) (wantAll rfl) (rv_assign rfl (fr_eval rfl rfl)) ?_
    refine lf_nil ?_
    refine then_n ?_
    refine wp_seq ?_
    refine wp_gen (fun F' => F' 0 = cutV v b 200 ∧ F' 1 = v2 ∧ F' 5 = .pointer (some ⟨g1, 0, none⟩) ∧ F' 6 = .int .i64 ((i : Nat) : Int) ∧ F' 12 = .int .i64 e ∧ F' 25 = .bool false) ⟨e0, e1, e5, e6, rfl, e25⟩ ?_
    clear e0 e1 e5 e6 e25
    clear F
    rintro F ⟨e0, e1, e5, e6, e12, e25⟩
    refine wp_regionF ?_
    refine lf_val (v := .pointer (some ⟨g1, 0, none⟩)) (wantAll rfl) (rv_move rfl (fr_eval rfl e5)) ?_
    refine lf_call (wantAll rfl) (rv_call (args := [.pointer (some ⟨g1, 0, none⟩)]) rfl (evc (fr_eval rfl rfl) evn) Try.call22) (done_calls  _ hy_g1 ne_hy_g1) ?_
    rintro _ w18 ⟨rfl, hy_g1', hx⟩
    refine ⟨_, rfl, ?_⟩
    replace hr := Rd.keep hr hx (fun b hb h0 e => by have e : b = g1 := e; have := Rd.lt hr0 h0 b hb; omega)
    replace hs := Rd.keep hs hx (fun b hb h0 e => by have e : b = g1 := e; have := Rd.lt hs0 h0 b hb; omega)
    replace hC := Chg.then hC hx (fun i hi e => absurd hi (by have e : i = g1 := e; omega))
    replace hy_g1 := hy_g1'
    clear hy_g1'
    clear hx
    refine lf_val (v := .int .i64 (doneE r2 e)) (wantAll rfl) (rv_assign rfl (fr_eval rfl rfl)) ?_
    refine lf_nil ?_
    refine then_n ?_
    refine wp_seq ?_
    refine wp_seq ?_
    refine wp_gen (fun F' => F' 0 = cutV v b 200 ∧ F' 1 = v2 ∧ F' 5 = .pointer (some ⟨g1, 0, none⟩) ∧ F' 6 = .int .i64 ((i : Nat) : Int) ∧ F' 12 = .int .i64 e ∧ F' 13 = .int .i64 (doneE r2 e) ∧ F' 25 = .bool false) ⟨e0, e1, e5, e6, e12, rfl, e25⟩ ?_
    clear e0 e1 e5 e6 e12 e25
    clear F
    rintro F ⟨e0, e1, e5, e6, e12, e13, e25⟩
    refine wp_regionF ?_
    refine lf_val (v := .int .i64 e) (wantAll rfl) (rv_move rfl (fr_eval rfl e12)) ?_
    by_cases hc8 : e = 0
    · refine lf_val (v := .bool false) (wantAll rfl) (rv_neq rfl (fr_eval rfl rfl) rfl (decide_eq_true (by omega))) ?_
      refine lf_nil ?_
      refine then_n ?_
      refine wp_gen (fun F' => F' 0 = cutV v b 200 ∧ F' 1 = v2 ∧ F' 5 = .pointer (some ⟨g1, 0, none⟩) ∧ F' 6 = .int .i64 ((i : Nat) : Int) ∧ F' 12 = .int .i64 e ∧ F' 13 = .int .i64 (doneE r2 e) ∧ F' 25 = .bool false ∧ F' 81 = .bool false) ⟨e0, e1, e5, e6, e12, e13, e25, rfl⟩ ?_
      clear e0 e1 e5 e6 e12 e13 e25
      clear F
      rintro F ⟨e0, e1, e5, e6, e12, e13, e25, e81⟩
      refine wp_cond_false (fr_eval rfl e81) ?_
      refine wp_skip ?_
      refine then_n ?_
      refine wp_seq ?_
      have hd := done_end (r := r2) (e := e) (by omega)
      have hdd := done_done r2 e
      refine wp_regionF ?_
      refine lf_val (v := .int .i64 (doneE r2 e)) (wantAll rfl) (rv_move rfl (fr_eval rfl e13)) ?_
      by_cases hc9 : doneE r2 e = 0
      · refine lf_val (v := .bool true) (wantAll rfl) (rv_eql rfl (fr_eval rfl rfl) rfl (decide_eq_true (by omega))) ?_
        refine lf_val (v := .bool true) (wantAll rfl) (rv_move rfl (fr_eval rfl rfl)) ?_
        refine lf_not (wantNot (d := 90) rfl (by kernel_rfl) rfl rfl) ?_
        refine lf_not (wantNot (d := 90) rfl (by kernel_rfl) rfl rfl) ?_
        refine lf_val (v := .bool true) (wantAll rfl) (rv_pickT rfl (fr_eval rfl rfl) rfl) ?_
        refine lf_val (v := .bool true) (wantAll rfl) (rv_move rfl (fr_eval rfl rfl)) ?_
        refine lf_val (v := .pointer (some ⟨g1, 0, none⟩)) (wantF (d := 94) rfl (by kernel_rfl) rfl rfl) (rv_move rfl (fr_eval rfl e5)) ?_
        refine lf_call (wantF (d := 94) rfl (by kernel_rfl) rfl rfl) (rv_call (args := [.pointer (some ⟨g1, 0, none⟩)]) rfl (evc (fr_eval rfl rfl) evn) Try.call17) (errE_calls _ hy_g1) ?_
        rintro _ w19 ⟨rfl, hx⟩
        refine ⟨_, rfl, ?_⟩
        replace hC := hC.trans hx
        replace hr := Rd.ext hr hx
        replace hs := RdF.ext hs hx
        replace hy_g1 := EyeAt.ext hy_g1 hx
        clear hx
        refine lf_val (v := .int .i64 (doneE r2 e)) (wantF (d := 94) rfl (by kernel_rfl) rfl rfl) (rv_move rfl (fr_eval rfl e13)) ?_
        refine lf_val (v := .bool true) (wantF (d := 94) rfl (by kernel_rfl) rfl rfl) (rv_eql rfl (fr_eval rfl rfl) (fr_eval rfl rfl) (decide_eq_true (by omega))) ?_
        refine lf_val (v := .bool true) (wantAll rfl) (rv_pickT rfl (fr_eval rfl rfl) (fr_eval rfl rfl)) ?_
        refine lf_val (v := .bool true) (wantAll rfl) (rv_move rfl (fr_eval rfl rfl)) ?_
        refine lf_val (v := .pointer (some ⟨g1, 0, none⟩)) (wantF (d := 100) rfl (by kernel_rfl) rfl rfl) (rv_move rfl (fr_eval rfl e5)) ?_
        refine lf_call (wantF (d := 100) rfl (by kernel_rfl) rfl rfl) (rv_call (args := [.pointer (some ⟨g1, 0, none⟩)]) rfl (evc (fr_eval rfl rfl) evn) Try.call22) (done_calls  _ hy_g1 ne_hy_g1) ?_
        rintro _ w20 ⟨rfl, hy_g1', hx⟩
        refine ⟨_, rfl, ?_⟩
        replace hr := Rd.keep hr hx (fun b hb h0 e => by have e : b = g1 := e; have := Rd.lt hr0 h0 b hb; omega)
        replace hs := Rd.keep hs hx (fun b hb h0 e => by have e : b = g1 := e; have := Rd.lt hs0 h0 b hb; omega)
        replace hC := Chg.then hC hx (fun i hi e => absurd hi (by have e : i = g1 := e; omega))
        replace hy_g1 := hy_g1'
        clear hy_g1'
        clear hx
        refine lf_val (v := .int .i64 (doneE r2 e)) (wantF (d := 100) rfl (by kernel_rfl) rfl rfl) (rv_move rfl (fr_eval rfl e13)) ?_
        refine lf_val (v := .bool true) (wantF (d := 100) rfl (by kernel_rfl) rfl rfl) (rv_eql rfl (fr_eval rfl rfl) (fr_eval rfl rfl) (decide_eq_true (by omega))) ?_
        refine lf_val (v := .bool true) (wantAll rfl) (rv_pickT rfl (fr_eval rfl rfl) (fr_eval rfl rfl)) ?_
        refine lf_val (v := .bool true) (wantAll rfl) (rv_move rfl (fr_eval rfl rfl)) ?_
        refine lf_call (wantF (d := 106) rfl (by kernel_rfl) rfl rfl) (rv_call (args := []) rfl evn Try.call18) (awake01_calls _) ?_
        rintro _ w21 ⟨rfl, hx⟩
        refine ⟨_, rfl, ?_⟩
        replace hC := hC.trans hx
        replace hr := Rd.ext hr hx
        replace hs := RdF.ext hs hx
        replace hy_g1 := EyeAt.ext hy_g1 hx
        clear hx
        refine lf_val (v := .bool true) (wantAll rfl) (rv_pickT rfl (fr_eval rfl rfl) (fr_eval rfl rfl)) ?_
        refine lf_val (v := .bool true) (wantAll rfl) (rv_assign rfl (fr_eval rfl rfl)) ?_
        refine lf_nil ?_
        refine then_n ?_
        refine wp_gen (fun F' => F' 0 = cutV v b 200 ∧ F' 1 = v2 ∧ F' 4 = .bool true ∧ F' 5 = .pointer (some ⟨g1, 0, none⟩) ∧ F' 6 = .int .i64 ((i : Nat) : Int) ∧ F' 12 = .int .i64 e ∧ F' 13 = .int .i64 (doneE r2 e) ∧ F' 25 = .bool false ∧ F' 81 = .bool false) ⟨e0, e1, rfl, e5, e6, e12, e13, e25, e81⟩ ?_
        clear e0 e1 e5 e6 e12 e13 e25 e81
        clear F
        rintro F ⟨e0, e1, e4, e5, e6, e12, e13, e25, e81⟩
        refine wp_ret ?_
        exact bodyPost_ret (v := (.bool true)) (res1 rfl (ro_tmp rfl e4)) rfl (⟨rfl, hC⟩)
      · refine lf_val (v := .bool false) (wantAll rfl) (rv_eql rfl (fr_eval rfl rfl) rfl (decide_eq_false (by omega))) ?_
        refine lf_val (v := .bool false) (wantAll rfl) (rv_move rfl (fr_eval rfl rfl)) ?_
        refine lf_val (v := .int .i64 (doneE r2 e)) (wantF (d := 90) rfl (by kernel_rfl) rfl rfl) (rv_move rfl (fr_eval rfl e13)) ?_
        refine lf_val (v := .bool true) (wantF (d := 90) rfl (by kernel_rfl) rfl rfl) (rv_eql rfl (fr_eval rfl rfl) rfl (decide_eq_true (by omega))) ?_
        refine lf_val (v := .bool true) (wantAll rfl) (rv_pickF rfl (fr_eval rfl rfl) (fr_eval rfl rfl)) ?_
        refine lf_val (v := .bool true) (wantAll rfl) (rv_move rfl (fr_eval rfl rfl)) ?_
        refine lf_val (v := .pointer (some ⟨g1, 0, none⟩)) (wantF (d := 94) rfl (by kernel_rfl) rfl rfl) (rv_move rfl (fr_eval rfl e5)) ?_
        refine lf_call (wantF (d := 94) rfl (by kernel_rfl) rfl rfl) (rv_call (args := [.pointer (some ⟨g1, 0, none⟩)]) rfl (evc (fr_eval rfl rfl) evn) Try.call17) (errE_calls _ hy_g1) ?_
        rintro _ w22 ⟨rfl, hx⟩
        refine ⟨_, rfl, ?_⟩
        replace hC := hC.trans hx
        replace hr := Rd.ext hr hx
        replace hs := RdF.ext hs hx
        replace hy_g1 := EyeAt.ext hy_g1 hx
        clear hx
        refine lf_val (v := .int .i64 (doneE r2 e)) (wantF (d := 94) rfl (by kernel_rfl) rfl rfl) (rv_move rfl (fr_eval rfl e13)) ?_
        refine lf_val (v := .bool true) (wantF (d := 94) rfl (by kernel_rfl) rfl rfl) (rv_eql rfl (fr_eval rfl rfl) (fr_eval rfl rfl) (decide_eq_true (by omega))) ?_
        refine lf_val (v := .bool true) (wantAll rfl) (rv_pickT rfl (fr_eval rfl rfl) (fr_eval rfl rfl)) ?_
        refine lf_val (v := .bool true) (wantAll rfl) (rv_move rfl (fr_eval rfl rfl)) ?_
        refine lf_val (v := .pointer (some ⟨g1, 0, none⟩)) (wantF (d := 100) rfl (by kernel_rfl) rfl rfl) (rv_move rfl (fr_eval rfl e5)) ?_
        refine lf_call (wantF (d := 100) rfl (by kernel_rfl) rfl rfl) (rv_call (args := [.pointer (some ⟨g1, 0, none⟩)]) rfl (evc (fr_eval rfl rfl) evn) Try.call22) (done_calls  _ hy_g1 ne_hy_g1) ?_
        rintro _ w23 ⟨rfl, hy_g1', hx⟩
        refine ⟨_, rfl, ?_⟩
        replace hr := Rd.keep hr hx (fun b hb h0 e => by have e : b = g1 := e; have := Rd.lt hr0 h0 b hb; omega)
        replace hs := Rd.keep hs hx (fun b hb h0 e => by have e : b = g1 := e; have := Rd.lt hs0 h0 b hb; omega)
        replace hC := Chg.then hC hx (fun i hi e => absurd hi (by have e : i = g1 := e; omega))
        replace hy_g1 := hy_g1'
        clear hy_g1'
        clear hx
        refine lf_val (v := .int .i64 (doneE r2 e)) (wantF (d := 100) rfl (by kernel_rfl) rfl rfl) (rv_move rfl (fr_eval rfl e13)) ?_
        refine lf_val (v := .bool true) (wantF (d := 100) rfl (by kernel_rfl) rfl rfl) (rv_eql rfl (fr_eval rfl rfl) (fr_eval rfl rfl) (decide_eq_true (by omega))) ?_
        refine lf_val (v := .bool true) (wantAll rfl) (rv_pickT rfl (fr_eval rfl rfl) (fr_eval rfl rfl)) ?_
        refine lf_val (v := .bool true) (wantAll rfl) (rv_move rfl (fr_eval rfl rfl)) ?_
        refine lf_call (wantF (d := 106) rfl (by kernel_rfl) rfl rfl) (rv_call (args := []) rfl evn Try.call18) (awake01_calls _) ?_
        rintro _ w24 ⟨rfl, hx⟩
        refine ⟨_, rfl, ?_⟩
        replace hC := hC.trans hx
        replace hr := Rd.ext hr hx
        replace hs := RdF.ext hs hx
        replace hy_g1 := EyeAt.ext hy_g1 hx
        clear hx
        refine lf_val (v := .bool true) (wantAll rfl) (rv_pickT rfl (fr_eval rfl rfl) (fr_eval rfl rfl)) ?_
        refine lf_val (v := .bool true) (wantAll rfl) (rv_assign rfl (fr_eval rfl rfl)) ?_
        refine lf_nil ?_
        refine then_n ?_
        refine wp_gen (fun F' => F' 0 = cutV v b 200 ∧ F' 1 = v2 ∧ F' 4 = .bool true ∧ F' 5 = .pointer (some ⟨g1, 0, none⟩) ∧ F' 6 = .int .i64 ((i : Nat) : Int) ∧ F' 12 = .int .i64 e ∧ F' 13 = .int .i64 (doneE r2 e) ∧ F' 25 = .bool false ∧ F' 81 = .bool false) ⟨e0, e1, rfl, e5, e6, e12, e13, e25, e81⟩ ?_
        clear e0 e1 e5 e6 e12 e13 e25 e81
        clear F
        rintro F ⟨e0, e1, e4, e5, e6, e12, e13, e25, e81⟩
        refine wp_ret ?_
        exact bodyPost_ret (v := (.bool true)) (res1 rfl (ro_tmp rfl e4)) rfl (⟨rfl, hC⟩)
    · refine lf_val (v := .bool true) (wantAll rfl) (rv_neq rfl (fr_eval rfl rfl) rfl (decide_eq_false (by omega))) ?_
      refine lf_nil ?_
      refine then_n ?_
      refine wp_gen (fun F' => F' 0 = cutV v b 200 ∧ F' 1 = v2 ∧ F' 5 = .pointer (some ⟨g1, 0, none⟩) ∧ F' 6 = .int .i64 ((i : Nat) : Int) ∧ F' 12 = .int .i64 e ∧ F' 13 = .int .i64 (doneE r2 e) ∧ F' 25 = .bool false ∧ F' 81 = .bool true) ⟨e0, e1, e5, e6, e12, e13, e25, rfl⟩ ?_
      clear e0 e1 e5 e6 e12 e13 e25
      clear F
      rintro F ⟨e0, e1, e5, e6, e12, e13, e25, e81⟩
      refine wp_cond_true (fr_eval rfl e81) ?_
      refine wp_seq ?_
      have hd := done_no (r := r2) (e := e) (by assumption)
      refine wp_regionF ?_
      refine lf_val (v := .int .i64 (doneE r2 e)) (wantAll rfl) (rv_move rfl (fr_eval rfl e13)) ?_
      refine lf_val (v := .int .i64 e) (wantAll rfl) (rv_move rfl (fr_eval rfl e12)) ?_
      refine lf_val (v := .bool true) (wantAll rfl) (rv_eql rfl (fr_eval rfl rfl) (fr_eval rfl rfl) (decide_eq_true (by omega))) ?_
      refine lf_val (v := .bool true) (wantAll rfl) (rv_move rfl (fr_eval rfl rfl)) ?_
      refine lf_call (wantF (d := 85) rfl (by kernel_rfl) rfl rfl) (rv_call (args := []) rfl evn Try.call18) (awake01_calls _) ?_
      rintro _ w25 ⟨rfl, hx⟩
      refine ⟨_, rfl, ?_⟩
      replace hC := hC.trans hx
      replace hr := Rd.ext hr hx
      replace hs := RdF.ext hs hx
      replace hy_g1 := EyeAt.ext hy_g1 hx
      clear hx
      refine lf_val (v := .bool true) (wantAll rfl) (rv_pickT rfl (fr_eval rfl rfl) (fr_eval rfl rfl)) ?_
      refine lf_val (v := .bool true) (wantAll rfl) (rv_assign rfl (fr_eval rfl rfl)) ?_
      refine lf_nil ?_
      refine then_n ?_
      refine wp_gen (fun F' => F' 0 = cutV v b 200 ∧ F' 1 = v2 ∧ F' 4 = .bool true ∧ F' 5 = .pointer (some ⟨g1, 0, none⟩) ∧ F' 6 = .int .i64 ((i : Nat) : Int) ∧ F' 12 = .int .i64 e ∧ F' 13 = .int .i64 (doneE r2 e) ∧ F' 25 = .bool false ∧ F' 81 = .bool true) ⟨e0, e1, rfl, e5, e6, e12, e13, e25, e81⟩ ?_
      clear e0 e1 e5 e6 e12 e13 e25 e81
      clear F
      rintro F ⟨e0, e1, e4, e5, e6, e12, e13, e25, e81⟩
      refine wp_ret ?_
      refine then_ret ?_
      exact bodyPost_ret (v := (.bool true)) (res1 rfl (ro_tmp rfl e4)) rfl (⟨rfl, hC⟩)

end Go.Proofs.Ytjgcjddaladgfaa
