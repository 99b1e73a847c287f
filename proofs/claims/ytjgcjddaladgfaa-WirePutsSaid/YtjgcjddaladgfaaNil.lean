/- A nil eye, a nil pen: and WireNobody. -/
import Derived.Test.YtjgcjddaladgfaaLaw01
import Derived.Test.YtjgcjddaladgfaaRowF
namespace Go.Proofs.Ytjgcjddaladgfaa
open Go.RowKit Go.Bz Go.Bz.Wire
attribute [local irreducible] wpList Code.wp wpAnyX
theorem Try.stI : ST Try.prog 48 3 (.int .i64 0) 1 8 := ⟨Try.underlying48, by kernel_rfl, rfl, by decide, by decide⟩

set_option maxRecDepth 100000 in
set_option maxHeartbeats 4000000 in
theorem err_nil (w : World) :
    Calls Try.prog 17 #[.pointer none] w fun e'' w' => e'' = .returned (.int .i64 1) ∧ Ext w w' := by
  refine calls_fr (args := [.pointer none]) (n := 9) Try.func17 rfl rfl (show 1 ≤ 9 by decide) ?_
  have hC : Ext w w := Chg.refl _ _
  refine wp_seq ?_
  refine wp_gen (fun F' => F' 0 = .pointer none) rfl ?_
  rintro F e0
  refine wp_regionF ?_
  refine lf_val (v := .int .i64 0) (wantAll rfl) (rv_assign rfl rfl) ?_
  refine lf_nil ?_
  refine then_n ?_
  refine wp_seq ?_
  refine wp_seq ?_
  refine wp_gen (fun F' => F' 0 = .pointer none ∧ F' 2 = .int .i64 0) ⟨e0, rfl⟩ ?_
  clear e0
  clear F
  rintro F ⟨e0, e2⟩
  refine wp_regionF ?_
  refine lf_val (v := .pointer none) (wantAll rfl) (rv_move rfl (fr_eval rfl e0)) ?_
  refine lf_val (v := .bool true) (wantAll rfl) (rv_eqnil (p := none) rfl (fr_eval rfl rfl) rfl Try.underlying24) ?_
  refine lf_nil ?_
  refine then_n ?_
  refine wp_gen (fun F' => F' 0 = .pointer none ∧ F' 2 = .int .i64 0 ∧ F' 4 = .bool true) ⟨e0, e2, rfl⟩ ?_
  clear e0 e2
  clear F
  rintro F ⟨e0, e2, e4⟩
  refine wp_cond_true (fr_eval rfl e4) ?_
  refine wp_seq ?_
  refine wp_regionF ?_
  refine lf_val (v := .int .i64 1) (wantAll rfl) (rv_assign rfl rfl) ?_
  refine lf_nil ?_
  refine then_n ?_
  refine wp_gen (fun F' => F' 0 = .pointer none ∧ F' 2 = .int .i64 1 ∧ F' 4 = .bool true) ⟨e0, rfl, e4⟩ ?_
  clear e0 e2 e4
  clear F
  rintro F ⟨e0, e2, e4⟩
  refine wp_ret ?_
  refine then_ret ?_
  exact bodyPost_ret (v := (.int .i64 1)) (res1 rfl (ro_tmp rfl e2)) rfl (⟨rfl, hC⟩)

set_option maxRecDepth 100000 in
set_option maxHeartbeats 4000000 in
theorem fail_nil (n : Int) (w : World) :
    Calls Try.prog 23 #[.pointer none, .int .i64 n] w fun e'' w' => e'' = .returned (.tuple #[]) ∧ Ext w w' := by
  refine calls_fr (args := [.pointer none, .int .i64 n]) (n := 17) Try.func23 rfl rfl (show 2 ≤ 17 by decide) ?_
  have hC : Ext w w := Chg.refl _ _
  refine wp_seq ?_
  refine wp_gen (fun F' => F' 0 = .pointer none ∧ F' 1 = .int .i64 n) ⟨rfl, rfl⟩ ?_
  rintro F ⟨e0, e1⟩
  refine wp_regionF ?_
  refine lf_val (v := .pointer none) (wantAll rfl) (rv_move rfl (fr_eval rfl e0)) ?_
  refine lf_val (v := .bool false) (wantAll rfl) (rv_nenil (p := none) rfl (fr_eval rfl rfl) rfl Try.underlying24) ?_
  refine lf_val (v := .bool false) (wantAll rfl) (rv_move rfl (fr_eval rfl rfl)) ?_
  refine lf_not (wantNot (d := 6) rfl (by kernel_rfl) rfl rfl) ?_
  refine lf_not (wantNot (d := 6) rfl (by kernel_rfl) rfl rfl) ?_
  refine lf_not (wantNot (d := 6) rfl (by kernel_rfl) rfl rfl) ?_
  refine lf_not (wantNot (d := 6) rfl (by kernel_rfl) rfl rfl) ?_
  refine lf_not (wantNot (d := 6) rfl (by kernel_rfl) rfl rfl) ?_
  refine lf_val (v := .bool false) (wantAll rfl) (rv_pickF rfl (fr_eval rfl rfl) rfl) ?_
  refine lf_nil ?_
  refine then_n ?_
  refine wp_gen (fun F' => F' 0 = .pointer none ∧ F' 1 = .int .i64 n ∧ F' 12 = .bool false) ⟨e0, e1, rfl⟩ ?_
  clear e0 e1
  clear F
  rintro F ⟨e0, e1, e12⟩
  refine wp_cond_false (fr_eval rfl e12) ?_
  refine wp_skip ?_
  exact bodyPost_end (v := .tuple #[]) (res0 rfl) rfl (⟨rfl, hC⟩)

set_option maxRecDepth 100000 in
set_option maxHeartbeats 4000000 in
theorem num_nil (w : World) :
    Calls Try.prog 15 #[.pointer none] w fun e'' w' => e'' = .returned (.int .i64 0) ∧ Ext w w' := by
  refine calls_fr (args := [.pointer none]) (n := 61) Try.func15 rfl rfl (show 1 ≤ 61 by decide) ?_
  have hC : Ext w w := Chg.refl _ _
  refine wp_seq ?_
  refine wp_gen (fun F' => F' 0 = .pointer none) rfl ?_
  rintro F e0
  refine wp_regionF ?_
  refine lf_val (v := .int .i64 0) (wantAll rfl) (rv_assign rfl rfl) ?_
  refine lf_nil ?_
  refine then_n ?_
  refine wp_seq ?_
  refine wp_seq ?_
  refine wp_gen (fun F' => F' 0 = .pointer none ∧ F' 2 = .int .i64 0) ⟨e0, rfl⟩ ?_
  clear e0
  clear F
  rintro F ⟨e0, e2⟩
  refine wp_regionF ?_
  refine lf_val (v := .pointer none) (wantAll rfl) (rv_move rfl (fr_eval rfl e0)) ?_
  refine lf_call (wantAll rfl) (rv_call (args := [.pointer none]) rfl (evc (fr_eval rfl rfl) evn) Try.call17) (err_nil  _ ) ?_
  rintro _ w1 ⟨rfl, hx⟩
  refine ⟨_, rfl, ?_⟩
  replace hC := hC.trans hx
  clear hx
  refine lf_val (v := .bool true) (wantAll rfl) (rv_neq rfl (fr_eval rfl rfl) rfl (show decide ((1 : Int) = 0) = false from by decide)) ?_
  refine lf_nil ?_
  refine then_n ?_
  refine wp_gen (fun F' => F' 0 = .pointer none ∧ F' 2 = .int .i64 0 ∧ F' 8 = .bool true) ⟨e0, e2, rfl⟩ ?_
  clear e0 e2
  clear F
  rintro F ⟨e0, e2, e8⟩
  refine wp_cond_true (fr_eval rfl e8) ?_
  refine wp_seq ?_
  refine wp_regionF ?_
  refine lf_val (v := .int .i64 0) (wantAll rfl) (rv_assign rfl rfl) ?_
  refine lf_nil ?_
  refine then_n ?_
  refine wp_gen (fun F' => F' 0 = .pointer none ∧ F' 2 = .int .i64 0 ∧ F' 8 = .bool true) ⟨e0, rfl, e8⟩ ?_
  clear e0 e2 e8
  clear F
  rintro F ⟨e0, e2, e8⟩
  refine wp_ret ?_
  refine then_ret ?_
  exact bodyPost_ret (v := (.int .i64 0)) (res1 rfl (ro_tmp rfl e2)) rfl (⟨rfl, hC⟩)

set_option maxRecDepth 100000 in
set_option maxHeartbeats 4000000 in
theorem upto_nil (n : Int) (_ : -9223372036854775808 ≤ n ∧ n ≤ 9223372036854775807) (w : World) :
    Calls Try.prog 16 #[.pointer none, .int .i64 n] w fun e'' w' => e'' = .returned (.int .i64 0) ∧ Ext w w' := by
  refine calls_fr (args := [.pointer none, .int .i64 n]) (n := 17) Try.func16 rfl rfl (show 2 ≤ 17 by decide) ?_
  have hC : Ext w w := Chg.refl _ _
  refine wp_seq ?_
  refine wp_gen (fun F' => F' 0 = .pointer none ∧ F' 1 = .int .i64 n) ⟨rfl, rfl⟩ ?_
  rintro F ⟨e0, e1⟩
  refine wp_regionF ?_
  refine lf_val (v := .int .i64 0) (wantAll rfl) (rv_assign rfl rfl) ?_
  refine lf_nil ?_
  refine then_n ?_
  refine wp_seq ?_
  refine wp_gen (fun F' => F' 0 = .pointer none ∧ F' 1 = .int .i64 n ∧ F' 4 = .int .i64 0) ⟨e0, e1, rfl⟩ ?_
  clear e0 e1
  clear F
  rintro F ⟨e0, e1, e4⟩
  refine wp_regionF ?_
  refine lf_val (v := .pointer none) (wantAll rfl) (rv_move rfl (fr_eval rfl e0)) ?_
  refine lf_call (wantAll rfl) (rv_call (args := [.pointer none]) rfl (evc (fr_eval rfl rfl) evn) Try.call15) (num_nil  _ ) ?_
  rintro _ w1 ⟨rfl, hx⟩
  refine ⟨_, rfl, ?_⟩
  replace hC := hC.trans hx
  clear hx
  refine lf_val (v := .int .i64 0) (wantAll rfl) (rv_assign rfl (fr_eval rfl rfl)) ?_
  refine lf_nil ?_
  refine then_n ?_
  refine wp_seq ?_
  refine wp_seq ?_
  refine wp_gen (fun F' => F' 0 = .pointer none ∧ F' 1 = .int .i64 n ∧ F' 4 = .int .i64 0 ∧ F' 5 = .int .i64 0) ⟨e0, e1, e4, rfl⟩ ?_
  clear e0 e1 e4
  clear F
  rintro F ⟨e0, e1, e4, e5⟩
  refine wp_regionF ?_
  refine lf_val (v := .int .i64 0) (wantAll rfl) (rv_move rfl (fr_eval rfl e5)) ?_
  refine lf_val (v := .int .i64 n) (wantAll rfl) (rv_move rfl (fr_eval rfl e1)) ?_
  by_cases hc1 : 0 > n
  · refine lf_val (v := .bool true) (wantAll rfl) (rv_gtr rfl (fr_eval rfl rfl) (fr_eval rfl rfl) (decide_eq_true (by omega))) ?_
    refine lf_nil ?_
    refine then_n ?_
    refine wp_gen (fun F' => F' 0 = .pointer none ∧ F' 1 = .int .i64 n ∧ F' 4 = .int .i64 0 ∧ F' 5 = .int .i64 0 ∧ F' 10 = .bool true) ⟨e0, e1, e4, e5, rfl⟩ ?_
    clear e0 e1 e4 e5
    clear F
    rintro F ⟨e0, e1, e4, e5, e10⟩
    refine wp_cond_true (fr_eval rfl e10) ?_
    refine wp_regionF ?_
    refine lf_val (v := .pointer none) (wantAll rfl) (rv_move rfl (fr_eval rfl e0)) ?_
    refine lf_call (wantAll rfl) (rv_call (args := [.pointer none, .int .i64 5]) rfl (evc (fr_eval rfl rfl) (evc rfl evn)) Try.call23) (fail_nil 5 _ ) ?_
    rintro _ w2 ⟨rfl, hx⟩
    refine ⟨_, rfl, ?_⟩
    replace hC := hC.trans hx
    clear hx
    refine lf_nil ?_
    refine then_n ?_
    refine wp_seq ?_
    refine wp_seq ?_
    refine wp_gen (fun F' => F' 0 = .pointer none ∧ F' 1 = .int .i64 n ∧ F' 4 = .int .i64 0 ∧ F' 5 = .int .i64 0 ∧ F' 10 = .bool true) ⟨e0, e1, e4, e5, e10⟩ ?_
    clear e0 e1 e4 e5 e10
    clear F
    rintro F ⟨e0, e1, e4, e5, e10⟩
    refine wp_regionF ?_
    refine lf_val (v := .pointer none) (wantAll rfl) (rv_move rfl (fr_eval rfl e0)) ?_
    refine lf_call (wantAll rfl) (rv_call (args := [.pointer none]) rfl (evc (fr_eval rfl rfl) evn) Try.call17) (err_nil  _ ) ?_
    rintro _ w3 ⟨rfl, hx⟩
    refine ⟨_, rfl, ?_⟩
    replace hC := hC.trans hx
    clear hx
    refine lf_val (v := .bool true) (wantAll rfl) (rv_neq rfl (fr_eval rfl rfl) rfl (show decide ((1 : Int) = 0) = false from by decide)) ?_
    refine lf_nil ?_
    refine then_n ?_
    refine wp_gen (fun F' => F' 0 = .pointer none ∧ F' 1 = .int .i64 n ∧ F' 4 = .int .i64 0 ∧ F' 5 = .int .i64 0 ∧ F' 10 = .bool true ∧ F' 15 = .bool true) ⟨e0, e1, e4, e5, e10, rfl⟩ ?_
    clear e0 e1 e4 e5 e10
    clear F
    rintro F ⟨e0, e1, e4, e5, e10, e15⟩
    refine wp_cond_true (fr_eval rfl e15) ?_
    refine wp_seq ?_
    refine wp_regionF ?_
    refine lf_val (v := .int .i64 0) (wantAll rfl) (rv_assign rfl rfl) ?_
    refine lf_nil ?_
    refine then_n ?_
    refine wp_gen (fun F' => F' 0 = .pointer none ∧ F' 1 = .int .i64 n ∧ F' 4 = .int .i64 0 ∧ F' 5 = .int .i64 0 ∧ F' 10 = .bool true ∧ F' 15 = .bool true) ⟨e0, e1, rfl, e5, e10, e15⟩ ?_
    clear e0 e1 e4 e5 e10 e15
    clear F
    rintro F ⟨e0, e1, e4, e5, e10, e15⟩
    refine wp_ret ?_
    refine then_ret ?_
    exact bodyPost_ret (v := (.int .i64 0)) (res1 rfl (ro_tmp rfl e4)) rfl (⟨rfl, hC⟩)
  · refine lf_val (v := .bool false) (wantAll rfl) (rv_gtr rfl (fr_eval rfl rfl) (fr_eval rfl rfl) (decide_eq_false (by omega))) ?_
    refine lf_nil ?_
    refine then_n ?_
    refine wp_gen (fun F' => F' 0 = .pointer none ∧ F' 1 = .int .i64 n ∧ F' 4 = .int .i64 0 ∧ F' 5 = .int .i64 0 ∧ F' 10 = .bool false) ⟨e0, e1, e4, e5, rfl⟩ ?_
    clear e0 e1 e4 e5
    clear F
    rintro F ⟨e0, e1, e4, e5, e10⟩
    refine wp_cond_false (fr_eval rfl e10) ?_
    refine wp_skip ?_
    refine then_n ?_
    refine wp_seq ?_
    refine wp_seq ?_
    refine wp_regionF ?_
    refine lf_val (v := .pointer none) (wantAll rfl) (rv_move rfl (fr_eval rfl e0)) ?_
    refine lf_call (wantAll rfl) (rv_call (args := [.pointer none]) rfl (evc (fr_eval rfl rfl) evn) Try.call17) (err_nil  _ ) ?_
    rintro _ w4 ⟨rfl, hx⟩
    refine ⟨_, rfl, ?_⟩
    replace hC := hC.trans hx
    clear hx
    refine lf_val (v := .bool true) (wantAll rfl) (rv_neq rfl (fr_eval rfl rfl) rfl (show decide ((1 : Int) = 0) = false from by decide)) ?_
    refine lf_nil ?_
    refine then_n ?_
    refine wp_gen (fun F' => F' 0 = .pointer none ∧ F' 1 = .int .i64 n ∧ F' 4 = .int .i64 0 ∧ F' 5 = .int .i64 0 ∧ F' 10 = .bool false ∧ F' 15 = .bool true) ⟨e0, e1, e4, e5, e10, rfl⟩ ?_
    clear e0 e1 e4 e5 e10
    clear F
    rintro F ⟨e0, e1, e4, e5, e10, e15⟩
    refine wp_cond_true (fr_eval rfl e15) ?_
    refine wp_seq ?_
    refine wp_regionF ?_
    refine lf_val (v := .int .i64 0) (wantAll rfl) (rv_assign rfl rfl) ?_
    refine lf_nil ?_
    refine then_n ?_
    refine wp_gen (fun F' => F' 0 = .pointer none ∧ F' 1 = .int .i64 n ∧ F' 4 = .int .i64 0 ∧ F' 5 = .int .i64 0 ∧ F' 10 = .bool false ∧ F' 15 = .bool true) ⟨e0, e1, rfl, e5, e10, e15⟩ ?_
    clear e0 e1 e4 e5 e10 e15
    clear F
    rintro F ⟨e0, e1, e4, e5, e10, e15⟩
    refine wp_ret ?_
    refine then_ret ?_
    exact bodyPost_ret (v := (.int .i64 0)) (res1 rfl (ro_tmp rfl e4)) rfl (⟨rfl, hC⟩)

set_option maxRecDepth 100000 in
set_option maxHeartbeats 4000000 in
theorem raw_nil (n : Int) (w : World) :
    Calls Try.prog 20 #[.pointer none, .int .i64 n] w fun e'' w' => e'' = .returned (.slice none 0 0) ∧ Ext w w' := by
  refine calls_fr (args := [.pointer none, .int .i64 n]) (n := 39) Try.func20 rfl rfl (show 2 ≤ 39 by decide) ?_
  have hC : Ext w w := Chg.refl _ _
  refine wp_seq ?_
  refine wp_gen (fun F' => F' 0 = .pointer none ∧ F' 1 = .int .i64 n) ⟨rfl, rfl⟩ ?_
  rintro F ⟨e0, e1⟩
  refine wp_regionF ?_
  refine lf_val (v := .slice none 0 0) (wantAll rfl) (rv_assign rfl rfl) ?_
  refine lf_nil ?_
  refine then_n ?_
  refine wp_seq ?_
  refine wp_seq ?_
  refine wp_gen (fun F' => F' 0 = .pointer none ∧ F' 1 = .int .i64 n ∧ F' 4 = .slice none 0 0) ⟨e0, e1, rfl⟩ ?_
  clear e0 e1
  clear F
  rintro F ⟨e0, e1, e4⟩
  refine wp_regionF ?_
  refine lf_val (v := .pointer none) (wantAll rfl) (rv_move rfl (fr_eval rfl e0)) ?_
  refine lf_call (wantAll rfl) (rv_call (args := [.pointer none]) rfl (evc (fr_eval rfl rfl) evn) Try.call17) (err_nil  _ ) ?_
  rintro _ w1 ⟨rfl, hx⟩
  refine ⟨_, rfl, ?_⟩
  replace hC := hC.trans hx
  clear hx
  refine lf_val (v := .bool true) (wantAll rfl) (rv_neq rfl (fr_eval rfl rfl) rfl (show decide ((1 : Int) = 0) = false from by decide)) ?_
  refine lf_nil ?_
  refine then_n ?_
  refine wp_gen (fun F' => F' 0 = .pointer none ∧ F' 1 = .int .i64 n ∧ F' 4 = .slice none 0 0 ∧ F' 8 = .bool true) ⟨e0, e1, e4, rfl⟩ ?_
  clear e0 e1 e4
  clear F
  rintro F ⟨e0, e1, e4, e8⟩
  refine wp_cond_true (fr_eval rfl e8) ?_
  refine wp_seq ?_
  refine wp_regionF ?_
  refine lf_val (v := .slice none 0 0) (wantAll rfl) (rv_assign rfl rfl) ?_
  refine lf_nil ?_
  refine then_n ?_
  refine wp_gen (fun F' => F' 0 = .pointer none ∧ F' 1 = .int .i64 n ∧ F' 4 = .slice none 0 0 ∧ F' 8 = .bool true) ⟨e0, e1, rfl, e8⟩ ?_
  clear e0 e1 e4 e8
  clear F
  rintro F ⟨e0, e1, e4, e8⟩
  refine wp_ret ?_
  refine then_ret ?_
  exact bodyPost_ret (v := (.slice none 0 0)) (res1 rfl (ro_tmp rfl e4)) rfl (⟨rfl, hC⟩)

set_option maxRecDepth 100000 in
set_option maxHeartbeats 4000000 in
theorem textE_nil (n : Int) (hn : -9223372036854775808 ≤ n ∧ n ≤ 9223372036854775807) (w : World) :
    Calls Try.prog 29 #[.pointer none, .int .i64 n] w fun e'' w' => e'' = .returned (.slice none 0 0) ∧ Ext w w' := by
  refine calls_fr (args := [.pointer none, .int .i64 n]) (n := 10) Try.func29 rfl rfl (show 2 ≤ 10 by decide) ?_
  have hC : Ext w w := Chg.refl _ _
  refine wp_seq ?_
  refine wp_gen (fun F' => F' 0 = .pointer none ∧ F' 1 = .int .i64 n) ⟨rfl, rfl⟩ ?_
  rintro F ⟨e0, e1⟩
  refine wp_regionF ?_
  refine lf_val (v := .slice none 0 0) (wantAll rfl) (rv_assign rfl rfl) ?_
  refine lf_nil ?_
  refine then_n ?_
  refine wp_seq ?_
  refine wp_gen (fun F' => F' 0 = .pointer none ∧ F' 1 = .int .i64 n ∧ F' 4 = .slice none 0 0) ⟨e0, e1, rfl⟩ ?_
  clear e0 e1
  clear F
  rintro F ⟨e0, e1, e4⟩
  refine wp_regionF ?_
  refine lf_val (v := .pointer none) (wantAll rfl) (rv_move rfl (fr_eval rfl e0)) ?_
  refine lf_val (v := .pointer none) (wantAll rfl) (rv_move rfl (fr_eval rfl e0)) ?_
  refine lf_val (v := .int .i64 n) (wantAll rfl) (rv_move rfl (fr_eval rfl e1)) ?_
  refine lf_call (wantAll rfl) (rv_call (args := [.pointer none, .int .i64 n]) rfl (evc (fr_eval rfl rfl) (evc (fr_eval rfl rfl) evn)) Try.call16) (upto_nil n (by omega) _ ) ?_
  rintro _ w1 ⟨rfl, hx⟩
  refine ⟨_, rfl, ?_⟩
  replace hC := hC.trans hx
  clear hx
  refine lf_call (wantAll rfl) (rv_call (args := [.pointer none, .int .i64 0]) rfl (evc (fr_eval rfl rfl) (evc (fr_eval rfl rfl) evn)) Try.call20) (raw_nil 0 _ ) ?_
  rintro _ w2 ⟨rfl, hx⟩
  refine ⟨_, rfl, ?_⟩
  replace hC := hC.trans hx
  clear hx
  refine lf_val (v := .slice none 0 0) (wantAll rfl) (rv_assign rfl (fr_eval rfl rfl)) ?_
  refine lf_nil ?_
  refine then_n ?_
  refine wp_gen (fun F' => F' 0 = .pointer none ∧ F' 1 = .int .i64 n ∧ F' 4 = .slice none 0 0) ⟨e0, e1, rfl⟩ ?_
  clear e0 e1 e4
  clear F
  rintro F ⟨e0, e1, e4⟩
  refine wp_ret ?_
  exact bodyPost_ret (v := (.slice none 0 0)) (res1 rfl (ro_tmp rfl e4)) rfl (⟨rfl, hC⟩)

set_option maxRecDepth 100000 in
set_option maxHeartbeats 4000000 in
theorem done_nil (w : World) :
    Calls Try.prog 22 #[.pointer none] w fun e'' w' => e'' = .returned (.int .i64 1) ∧ Ext w w' := by
  refine calls_fr (args := [.pointer none]) (n := 18) Try.func22 rfl rfl (show 1 ≤ 18 by decide) ?_
  have hC : Ext w w := Chg.refl _ _
  refine wp_seq ?_
  refine wp_gen (fun F' => F' 0 = .pointer none) rfl ?_
  rintro F e0
  refine wp_regionF ?_
  refine lf_val (v := .int .i64 0) (wantAll rfl) (rv_assign rfl rfl) ?_
  refine lf_nil ?_
  refine then_n ?_
  refine wp_seq ?_
  refine wp_seq ?_
  refine wp_gen (fun F' => F' 0 = .pointer none ∧ F' 2 = .int .i64 0) ⟨e0, rfl⟩ ?_
  clear e0
  clear F
  rintro F ⟨e0, e2⟩
  refine wp_regionF ?_
  refine lf_val (v := .pointer none) (wantAll rfl) (rv_move rfl (fr_eval rfl e0)) ?_
  refine lf_call (wantAll rfl) (rv_call (args := [.pointer none]) rfl (evc (fr_eval rfl rfl) evn) Try.call17) (err_nil  _ ) ?_
  rintro _ w1 ⟨rfl, hx⟩
  refine ⟨_, rfl, ?_⟩
  replace hC := hC.trans hx
  clear hx
  refine lf_val (v := .bool false) (wantAll rfl) (rv_eql rfl (fr_eval rfl rfl) rfl (by decide)) ?_
  refine lf_val (v := .bool false) (wantAll rfl) (rv_move rfl (fr_eval rfl rfl)) ?_
  refine lf_not (wantNot (d := 6) rfl (by kernel_rfl) rfl rfl) ?_
  refine lf_not (wantNot (d := 6) rfl (by kernel_rfl) rfl rfl) ?_
  refine lf_not (wantNot (d := 6) rfl (by kernel_rfl) rfl rfl) ?_
  refine lf_not (wantNot (d := 6) rfl (by kernel_rfl) rfl rfl) ?_
  refine lf_not (wantNot (d := 6) rfl (by kernel_rfl) rfl rfl) ?_
  refine lf_not (wantNot (d := 6) rfl (by kernel_rfl) rfl rfl) ?_
  refine lf_val (v := .bool false) (wantAll rfl) (rv_pickF rfl (fr_eval rfl rfl) rfl) ?_
  refine lf_nil ?_
  refine then_n ?_
  refine wp_gen (fun F' => F' 0 = .pointer none ∧ F' 2 = .int .i64 0 ∧ F' 13 = .bool false) ⟨e0, e2, rfl⟩ ?_
  clear e0 e2
  clear F
  rintro F ⟨e0, e2, e13⟩
  refine wp_cond_false (fr_eval rfl e13) ?_
  refine wp_skip ?_
  refine then_n ?_
  refine wp_seq ?_
  refine wp_regionF ?_
  refine lf_val (v := .pointer none) (wantAll rfl) (rv_move rfl (fr_eval rfl e0)) ?_
  refine lf_call (wantAll rfl) (rv_call (args := [.pointer none]) rfl (evc (fr_eval rfl rfl) evn) Try.call17) (err_nil  _ ) ?_
  rintro _ w2 ⟨rfl, hx⟩
  refine ⟨_, rfl, ?_⟩
  replace hC := hC.trans hx
  clear hx
  refine lf_val (v := .int .i64 1) (wantAll rfl) (rv_assign rfl (fr_eval rfl rfl)) ?_
  refine lf_nil ?_
  refine then_n ?_
  refine wp_gen (fun F' => F' 0 = .pointer none ∧ F' 2 = .int .i64 1 ∧ F' 13 = .bool false) ⟨e0, rfl, e13⟩ ?_
  clear e0 e2 e13
  clear F
  rintro F ⟨e0, e2, e13⟩
  refine wp_ret ?_
  exact bodyPost_ret (v := (.int .i64 1)) (res1 rfl (ro_tmp rfl e2)) rfl (⟨rfl, hC⟩)

set_option maxRecDepth 100000 in
set_option maxHeartbeats 4000000 in
theorem penNum_nil (n : Int) (w : World) :
    Calls Try.prog 24 #[.pointer none, .int .i64 n] w fun e'' w' => e'' = .returned (.pointer none) ∧ Ext w w' := by
  refine calls_fr (args := [.pointer none, .int .i64 n]) (n := 40) Try.func24 rfl rfl (show 2 ≤ 40 by decide) ?_
  have hC : Ext w w := Chg.refl _ _
  refine wp_seq ?_
  refine wp_gen (fun F' => F' 0 = .pointer none ∧ F' 1 = .int .i64 n) ⟨rfl, rfl⟩ ?_
  rintro F ⟨e0, e1⟩
  refine wp_regionF ?_
  refine lf_val (v := .pointer none) (wantAll rfl) (rv_assign rfl rfl) ?_
  refine lf_nil ?_
  refine then_n ?_
  refine wp_seq ?_
  refine wp_seq ?_
  refine wp_gen (fun F' => F' 0 = .pointer none ∧ F' 1 = .int .i64 n ∧ F' 4 = .pointer none) ⟨e0, e1, rfl⟩ ?_
  clear e0 e1
  clear F
  rintro F ⟨e0, e1, e4⟩
  refine wp_regionF ?_
  refine lf_val (v := .pointer none) (wantAll rfl) (rv_move rfl (fr_eval rfl e0)) ?_
  refine lf_val (v := .bool true) (wantAll rfl) (rv_eqnil (p := none) rfl (fr_eval rfl rfl) rfl Try.underlying39) ?_
  refine lf_nil ?_
  refine then_n ?_
  refine wp_gen (fun F' => F' 0 = .pointer none ∧ F' 1 = .int .i64 n ∧ F' 4 = .pointer none ∧ F' 7 = .bool true) ⟨e0, e1, e4, rfl⟩ ?_
  clear e0 e1 e4
  clear F
  rintro F ⟨e0, e1, e4, e7⟩
  refine wp_cond_true (fr_eval rfl e7) ?_
  refine wp_seq ?_
  refine wp_regionF ?_
  refine lf_val (v := .pointer none) (wantAll rfl) (rv_move rfl (fr_eval rfl e0)) ?_
  refine lf_val (v := .pointer none) (wantAll rfl) (rv_assign rfl (fr_eval rfl rfl)) ?_
  refine lf_nil ?_
  refine then_n ?_
  refine wp_gen (fun F' => F' 0 = .pointer none ∧ F' 1 = .int .i64 n ∧ F' 4 = .pointer none ∧ F' 7 = .bool true) ⟨e0, e1, rfl, e7⟩ ?_
  clear e0 e1 e4 e7
  clear F
  rintro F ⟨e0, e1, e4, e7⟩
  refine wp_ret ?_
  refine then_ret ?_
  exact bodyPost_ret (v := (.pointer none)) (res1 rfl (ro_tmp rfl e4)) rfl (⟨rfl, hC⟩)

set_option maxRecDepth 100000 in
set_option maxHeartbeats 4000000 in
theorem penText_nil (x : Value) (w : World) :
    Calls Try.prog 25 #[.pointer none, x] w fun e'' w' => e'' = .returned (.pointer none) ∧ Ext w w' := by
  refine calls_fr (args := [.pointer none, x]) (n := 22) Try.func25 rfl rfl (show 2 ≤ 22 by decide) ?_
  have hC : Ext w w := Chg.refl _ _
  refine wp_seq ?_
  refine wp_gen (fun F' => F' 0 = .pointer none ∧ F' 1 = x) ⟨rfl, rfl⟩ ?_
  rintro F ⟨e0, e1⟩
  refine wp_regionF ?_
  refine lf_val (v := .pointer none) (wantAll rfl) (rv_assign rfl rfl) ?_
  refine lf_nil ?_
  refine then_n ?_
  refine wp_seq ?_
  refine wp_seq ?_
  refine wp_gen (fun F' => F' 0 = .pointer none ∧ F' 1 = x ∧ F' 4 = .pointer none) ⟨e0, e1, rfl⟩ ?_
  clear e0 e1
  clear F
  rintro F ⟨e0, e1, e4⟩
  refine wp_regionF ?_
  refine lf_val (v := .pointer none) (wantAll rfl) (rv_move rfl (fr_eval rfl e0)) ?_
  refine lf_val (v := .bool true) (wantAll rfl) (rv_eqnil (p := none) rfl (fr_eval rfl rfl) rfl Try.underlying39) ?_
  refine lf_nil ?_
  refine then_n ?_
  refine wp_gen (fun F' => F' 0 = .pointer none ∧ F' 1 = x ∧ F' 4 = .pointer none ∧ F' 6 = .bool true) ⟨e0, e1, e4, rfl⟩ ?_
  clear e0 e1 e4
  clear F
  rintro F ⟨e0, e1, e4, e6⟩
  refine wp_cond_true (fr_eval rfl e6) ?_
  refine wp_seq ?_
  refine wp_regionF ?_
  refine lf_val (v := .pointer none) (wantAll rfl) (rv_move rfl (fr_eval rfl e0)) ?_
  refine lf_val (v := .pointer none) (wantAll rfl) (rv_assign rfl (fr_eval rfl rfl)) ?_
  refine lf_nil ?_
  refine then_n ?_
  refine wp_gen (fun F' => F' 0 = .pointer none ∧ F' 1 = x ∧ F' 4 = .pointer none ∧ F' 6 = .bool true) ⟨e0, e1, rfl, e6⟩ ?_
  clear e0 e1 e4 e6
  clear F
  rintro F ⟨e0, e1, e4, e6⟩
  refine wp_ret ?_
  refine then_ret ?_
  exact bodyPost_ret (v := (.pointer none)) (res1 rfl (ro_tmp rfl e4)) rfl (⟨rfl, hC⟩)

set_option maxRecDepth 100000 in
set_option maxHeartbeats 4000000 in
theorem penSum_nil (s : List UInt8) (_ : s.length = 32) (w : World) :
    Calls Try.prog 26 #[.pointer none, .agg (cBs s).toArray] w fun e'' w' => e'' = .returned (.pointer none) ∧ Ext w w' := by
  refine calls_fr (args := [.pointer none, .agg (cBs s).toArray]) (n := 17) Try.func26 rfl rfl (show 2 ≤ 17 by decide) ?_
  have hC : Ext w w := Chg.refl _ _
  refine wp_seq ?_
  refine wp_gen (fun F' => F' 0 = .pointer none ∧ F' 1 = .agg (cBs s).toArray) ⟨rfl, rfl⟩ ?_
  rintro F ⟨e0, e1⟩
  refine wp_regionF ?_
  refine lf_ex (wantAll rfl) (ex_boxG 45 (.tmp 1) (cs := cBs s) (fr_eval rfl e1) (by rfl) rfl) ?_
  rintro _ w1 ⟨g1, hg_g1, rfl, h_g1, hx⟩
  have ge_g1 : w.heap.size ≤ g1 := by have := hC.size; omega
  replace hC := hC.trans hx
  clear hx hg_g1
  refine lf_val (v := .pointer none) (wantAll rfl) (rv_assign rfl rfl) ?_
  refine lf_nil ?_
  refine then_n ?_
  refine wp_seq ?_
  refine wp_seq ?_
  refine wp_gen (fun F' => F' 0 = .pointer none ∧ F' 1 = .agg (cBs s).toArray ∧ F' 3 = .pointer (some ⟨g1, 0, none⟩) ∧ F' 4 = .pointer none) ⟨e0, e1, rfl, rfl⟩ ?_
  clear e0 e1
  clear F
  rintro F ⟨e0, e1, e3, e4⟩
  refine wp_regionF ?_
  refine lf_val (v := .pointer none) (wantAll rfl) (rv_move rfl (fr_eval rfl e0)) ?_
  refine lf_val (v := .bool false) (wantAll rfl) (rv_nenil (p := none) rfl (fr_eval rfl rfl) rfl Try.underlying39) ?_
  refine lf_nil ?_
  refine then_n ?_
  refine wp_gen (fun F' => F' 0 = .pointer none ∧ F' 1 = .agg (cBs s).toArray ∧ F' 3 = .pointer (some ⟨g1, 0, none⟩) ∧ F' 4 = .pointer none ∧ F' 6 = .bool false) ⟨e0, e1, e3, e4, rfl⟩ ?_
  clear e0 e1 e3 e4
  clear F
  rintro F ⟨e0, e1, e3, e4, e6⟩
  refine wp_cond_false (fr_eval rfl e6) ?_
  refine wp_skip ?_
  refine then_n ?_
  refine wp_seq ?_
  refine wp_regionF ?_
  refine lf_val (v := .pointer none) (wantAll rfl) (rv_move rfl (fr_eval rfl e0)) ?_
  refine lf_val (v := .pointer none) (wantAll rfl) (rv_assign rfl (fr_eval rfl rfl)) ?_
  refine lf_nil ?_
  refine then_n ?_
  refine wp_gen (fun F' => F' 0 = .pointer none ∧ F' 1 = .agg (cBs s).toArray ∧ F' 3 = .pointer (some ⟨g1, 0, none⟩) ∧ F' 4 = .pointer none ∧ F' 6 = .bool false) ⟨e0, e1, e3, rfl, e6⟩ ?_
  clear e0 e1 e3 e4 e6
  clear F
  rintro F ⟨e0, e1, e3, e4, e6⟩
  refine wp_ret ?_
  exact bodyPost_ret (v := (.pointer none)) (res1 rfl (ro_tmp rfl e4)) rfl (⟨rfl, hC⟩)

set_option maxRecDepth 100000 in
set_option maxHeartbeats 4000000 in
theorem penNums_nil {x : Value} {zs : List Int} (w : World) (hz0 : RdI w x zs) :
    Calls Try.prog 27 #[.pointer none, x] w fun e'' w' => e'' = .returned (.pointer none) ∧ Ext w w' := by
  refine calls_fr (args := [.pointer none, x]) (n := 18) Try.func27 rfl rfl (show 2 ≤ 18 by decide) ?_
  have hC : Ext w w := Chg.refl _ _
  have hz := hz0
  refine wp_seq ?_
  refine wp_gen (fun F' => F' 0 = .pointer none ∧ F' 1 = x) ⟨rfl, rfl⟩ ?_
  rintro F ⟨e0, e1⟩
  refine wp_regionF ?_
  refine lf_val (v := .pointer none) (wantAll rfl) (rv_assign rfl rfl) ?_
  refine lf_nil ?_
  refine then_n ?_
  refine wp_seq ?_
  refine wp_seq ?_
  refine wp_gen (fun F' => F' 0 = .pointer none ∧ F' 1 = x ∧ F' 4 = .pointer none) ⟨e0, e1, rfl⟩ ?_
  clear e0 e1
  clear F
  rintro F ⟨e0, e1, e4⟩
  refine wp_regionF ?_
  refine lf_val (v := x) (wantAll rfl) (rv_move rfl (fr_eval rfl e1)) ?_
  refine lf_val (v := .int .i64 ((zs.length : Nat) : Int)) (wantAll rfl) (rv_len rfl (fr_eval rfl rfl) (RdF.rd hz) Try.underlying48) ?_
  refine lf_val (v := .int .i64 0) (wantAll rfl) (rv_move rfl rfl) ?_
  refine lf_nil ?_
  refine then_n ?_
  refine wp_block ?_
  have hzm := Rd.max hz
  refine wp_gen (fun F' => F' 0 = .pointer none ∧ F' 1 = x ∧ F' 4 = .pointer none ∧ F' 7 = x ∧ F' 8 = .int .i64 ((zs.length : Nat) : Int) ∧ F' 9 = .int .i64 0) ⟨e0, e1, e4, rfl, rfl, rfl⟩ ?_
  clear e0 e1 e4
  clear F
  rintro F ⟨e0, e1, e4, e7, e8, e9⟩
  refine wp_loopF (fun m F wr => ∃ i : Nat, m = zs.length - i ∧ i ≤ zs.length ∧ F 0 = .pointer none ∧ F 1 = x ∧ F 4 = .pointer none ∧ F 7 = x ∧ F 8 = .int .i64 ((zs.length : Nat) : Int) ∧ F 9 = .int .i64 ((i : Nat) : Int) ∧ RdF cI 1 wr x zs ∧ Ext w wr) ⟨0, rfl, Nat.zero_le _, e0, e1, e4, e7, e8, e9, hz, hC⟩ ?_
  clear e0 e1 e4 e7 e8 e9 hz hC
  clear F
  rintro m F w1 ⟨i, rfl, pi0, e0, e1, e4, e7, e8, e9, hz, hC⟩
  refine wp_seq ?_
  refine wp_regionF ?_
  by_cases hc1 : i < zs.length
  · refine lf_val (v := .bool true) (wantAll rfl) (rv_lss rfl (fr_eval rfl e9) (fr_eval rfl e8) (decide_eq_true (by omega))) ?_
    refine lf_nil ?_
    refine then_n ?_
    refine wp_seq ?_
    refine wp_gen (fun F' => F' 0 = .pointer none ∧ F' 1 = x ∧ F' 4 = .pointer none ∧ F' 7 = x ∧ F' 8 = .int .i64 ((zs.length : Nat) : Int) ∧ F' 9 = .int .i64 ((i : Nat) : Int) ∧ F' 10 = .bool true) ⟨e0, e1, e4, e7, e8, e9, rfl⟩ ?_
    clear e0 e1 e4 e7 e8 e9
    clear F
    rintro F ⟨e0, e1, e4, e7, e8, e9, e10⟩
    refine wp_cond_true (fr_eval rfl e10) ?_
    refine wp_skip ?_
    refine then_n ?_
    refine wp_seq ?_
    refine wp_block ?_
    refine wp_seq ?_
    refine wp_regionF ?_
    refine lf_val (v := .pointer (some (elemA x (i * 1)))) (wantAll rfl) (rv_index rfl (fr_eval rfl e7) (fr_eval rfl e9) (RdF.rd hz) (by omega) Try.underlying48 Try.sz3 (by decide)) ?_
    refine lf_val (v := .int .i64 (List.getD zs i 0)) (wantAll rfl) (rv_loadCell rfl (fr_eval rfl rfl) (Nat.mul_one _) (RdF.rd hz) (flat_get1 0 cI_len (by omega) rfl) Try.underlying3 rfl Try.sz3) ?_
    refine lf_val (v := .int .i64 (List.getD zs i 0)) (wantAll rfl) (rv_assign rfl (fr_eval rfl rfl)) ?_
    refine lf_nil ?_
    refine then_n ?_
    refine wp_gen (fun F' => F' 0 = .pointer none ∧ F' 1 = x ∧ F' 4 = .pointer none ∧ F' 6 = .int .i64 (List.getD zs i 0) ∧ F' 7 = x ∧ F' 8 = .int .i64 ((zs.length : Nat) : Int) ∧ F' 9 = .int .i64 ((i : Nat) : Int) ∧ F' 10 = .bool true) ⟨e0, e1, e4, rfl, e7, e8, e9, e10⟩ ?_
    clear e0 e1 e4 e7 e8 e9 e10
    clear F
    rintro F ⟨e0, e1, e4, e6, e7, e8, e9, e10⟩
    refine wp_regionF ?_
    refine lf_val (v := .pointer none) (wantAll rfl) (rv_move rfl (fr_eval rfl e0)) ?_
    refine lf_val (v := .int .i64 (List.getD zs i 0)) (wantAll rfl) (rv_move rfl (fr_eval rfl e6)) ?_
    refine lf_call (wantAll rfl) (rv_call (args := [.pointer none, .int .i64 (List.getD zs i 0)]) rfl (evc (fr_eval rfl rfl) (evc (fr_eval rfl rfl) evn)) Try.call24) (penNum_nil (List.getD zs i 0) _ ) ?_
    rintro _ w2 ⟨rfl, hx⟩
    refine ⟨_, rfl, ?_⟩
    replace hC := hC.trans hx
    replace hz := RdF.ext hz hx
    clear hx
    refine lf_nil ?_
    refine blk_n ?_
    refine then_n ?_
    refine wp_gen (fun F' => F' 0 = .pointer none ∧ F' 1 = x ∧ F' 4 = .pointer none ∧ F' 6 = .int .i64 (List.getD zs i 0) ∧ F' 7 = x ∧ F' 8 = .int .i64 ((zs.length : Nat) : Int) ∧ F' 9 = .int .i64 ((i : Nat) : Int) ∧ F' 10 = .bool true) ⟨e0, e1, e4, e6, e7, e8, e9, e10⟩ ?_
    clear e0 e1 e4 e6 e7 e8 e9 e10
    clear F
    rintro F ⟨e0, e1, e4, e6, e7, e8, e9, e10⟩
    refine wp_regionF ?_
    refine lf_val (v := .int .i64 ((i + 1 : Nat) : Int)) (wantAll rfl) (rv_add rfl (fr_eval rfl e9) rfl (wrap_i64 (by omega) (by omega) (by omega))) ?_
    refine lf_val (v := .int .i64 ((i + 1 : Nat) : Int)) (wantAll rfl) (rv_move rfl (fr_eval rfl rfl)) ?_
    refine lf_nil ?_
    refine then_n ?_
    exact ⟨_, _, (by omega), rfl, i + 1, rfl, (by omega), e0, e1, e4, e7, e8, rfl, hz, hC⟩
  · refine lf_val (v := .bool false) (wantAll rfl) (rv_lss rfl (fr_eval rfl e9) (fr_eval rfl e8) (decide_eq_false (by omega))) ?_
    refine lf_nil ?_
    refine then_n ?_
    refine wp_seq ?_
    refine wp_gen (fun F' => F' 0 = .pointer none ∧ F' 1 = x ∧ F' 4 = .pointer none ∧ F' 7 = x ∧ F' 8 = .int .i64 ((zs.length : Nat) : Int) ∧ F' 9 = .int .i64 ((i : Nat) : Int) ∧ F' 10 = .bool false) ⟨e0, e1, e4, e7, e8, e9, rfl⟩ ?_
    clear e0 e1 e4 e7 e8 e9
    clear F
    rintro F ⟨e0, e1, e4, e7, e8, e9, e10⟩
    refine wp_cond_false (fr_eval rfl e10) ?_
    refine wp_exit ?_
    refine then_exit ?_
    refine then_exit ?_
    refine blk_exit ?_
    refine then_n ?_
    refine wp_seq ?_
    refine wp_regionF ?_
    refine lf_val (v := .pointer none) (wantAll rfl) (rv_move rfl (fr_eval rfl e0)) ?_
    refine lf_val (v := .pointer none) (wantAll rfl) (rv_assign rfl (fr_eval rfl rfl)) ?_
    refine lf_nil ?_
    refine then_n ?_
    refine wp_gen (fun F' => F' 0 = .pointer none ∧ F' 1 = x ∧ F' 4 = .pointer none ∧ F' 7 = x ∧ F' 8 = .int .i64 ((zs.length : Nat) : Int) ∧ F' 9 = .int .i64 ((i : Nat) : Int) ∧ F' 10 = .bool false) ⟨e0, e1, rfl, e7, e8, e9, e10⟩ ?_
    clear e0 e1 e4 e7 e8 e9 e10
    clear F
    rintro F ⟨e0, e1, e4, e7, e8, e9, e10⟩
    refine wp_ret ?_
    exact bodyPost_ret (v := (.pointer none)) (res1 rfl (ro_tmp rfl e4)) rfl (⟨rfl, hC⟩)

set_option maxRecDepth 100000 in
set_option maxHeartbeats 4000000 in
theorem penBytes_nil (w : World) :
    Calls Try.prog 28 #[.pointer none] w fun e'' w' => e'' = .returned (.slice none 0 0) ∧ Ext w w' := by
  refine calls_fr (args := [.pointer none]) (n := 10) Try.func28 rfl rfl (show 1 ≤ 10 by decide) ?_
  have hC : Ext w w := Chg.refl _ _
  refine wp_seq ?_
  refine wp_gen (fun F' => F' 0 = .pointer none) rfl ?_
  rintro F e0
  refine wp_regionF ?_
  refine lf_val (v := .slice none 0 0) (wantAll rfl) (rv_assign rfl rfl) ?_
  refine lf_nil ?_
  refine then_n ?_
  refine wp_seq ?_
  refine wp_seq ?_
  refine wp_gen (fun F' => F' 0 = .pointer none ∧ F' 2 = .slice none 0 0) ⟨e0, rfl⟩ ?_
  clear e0
  clear F
  rintro F ⟨e0, e2⟩
  refine wp_regionF ?_
  refine lf_val (v := .pointer none) (wantAll rfl) (rv_move rfl (fr_eval rfl e0)) ?_
  refine lf_val (v := .bool true) (wantAll rfl) (rv_eqnil (p := none) rfl (fr_eval rfl rfl) rfl Try.underlying39) ?_
  refine lf_nil ?_
  refine then_n ?_
  refine wp_gen (fun F' => F' 0 = .pointer none ∧ F' 2 = .slice none 0 0 ∧ F' 4 = .bool true) ⟨e0, e2, rfl⟩ ?_
  clear e0 e2
  clear F
  rintro F ⟨e0, e2, e4⟩
  refine wp_cond_true (fr_eval rfl e4) ?_
  refine wp_seq ?_
  refine wp_regionF ?_
  refine lf_val (v := .slice none 0 0) (wantAll rfl) (rv_assign rfl rfl) ?_
  refine lf_nil ?_
  refine then_n ?_
  refine wp_gen (fun F' => F' 0 = .pointer none ∧ F' 2 = .slice none 0 0 ∧ F' 4 = .bool true) ⟨e0, rfl, e4⟩ ?_
  clear e0 e2 e4
  clear F
  rintro F ⟨e0, e2, e4⟩
  refine wp_ret ?_
  refine then_ret ?_
  exact bodyPost_ret (v := (.slice none 0 0)) (res1 rfl (ro_tmp rfl e2)) rfl (⟨rfl, hC⟩)

set_option maxRecDepth 100000 in
set_option maxHeartbeats 4000000 in
theorem wireNobody_walk (b : List UInt8) (v : Value) (n : Int) (hn : -9223372036854775808 ≤ n ∧ n ≤ 9223372036854775807) (w : World) (hr0 : RdB w v b) :
    Calls Try.prog 5 #[v, .int .i64 n] w fun e'' w' => e'' = .returned (.bool true) ∧ Ext w w' := by
  refine calls_fr (args := [v, .int .i64 n]) (n := 112) Try.func5 rfl rfl (show 2 ≤ 112 by decide) ?_
  have hC : Ext w w := Chg.refl _ _
  have hr := hr0
  refine wp_seq ?_
  refine wp_gen (fun F' => F' 0 = v ∧ F' 1 = .int .i64 n) ⟨rfl, rfl⟩ ?_
  rintro F ⟨e0, e1⟩
  refine wp_regionF ?_
  refine lf_val (v := .bool false) (wantAll rfl) (rv_assign rfl rfl) ?_
  refine lf_nil ?_
  refine then_n ?_
  refine wp_seq ?_
  refine wp_gen (fun F' => F' 0 = v ∧ F' 1 = .int .i64 n ∧ F' 4 = .bool false) ⟨e0, e1, rfl⟩ ?_
  clear e0 e1
  clear F
  rintro F ⟨e0, e1, e4⟩
  refine wp_regionF ?_
  refine lf_val (v := v) (wantAll rfl) (rv_move rfl (fr_eval rfl e0)) ?_
  refine lf_call (wantAll rfl) (rv_call (args := [v]) rfl (evc (fr_eval rfl rfl) evn) Try.call13) (cut01_calls b _ _ hr) ?_
  rintro _ w1 ⟨rfl, hx⟩
  refine ⟨_, rfl, ?_⟩
  replace hC := hC.trans hx
  replace hr := Rd.ext hr hx
  clear hx
  refine lf_val (v := cutV v b 200) (wantAll rfl) (rv_assign rfl (fr_eval rfl rfl)) ?_
  refine lf_nil ?_
  refine then_n ?_
  refine wp_seq ?_
  refine wp_gen (fun F' => F' 0 = cutV v b 200 ∧ F' 1 = .int .i64 n ∧ F' 4 = .bool false) ⟨rfl, e1, e4⟩ ?_
  clear e0 e1 e4
  clear F
  rintro F ⟨e0, e1, e4⟩
  refine wp_regionF ?_
  refine lf_val (v := .pointer none) (wantAll rfl) (rv_assign rfl rfl) ?_
  refine lf_nil ?_
  refine then_n ?_
  refine wp_seq ?_
  refine wp_gen (fun F' => F' 0 = cutV v b 200 ∧ F' 1 = .int .i64 n ∧ F' 4 = .bool false ∧ F' 5 = .pointer none) ⟨e0, e1, e4, rfl⟩ ?_
  clear e0 e1 e4
  clear F
  rintro F ⟨e0, e1, e4, e5⟩
  refine wp_regionF ?_
  refine lf_val (v := .pointer none) (wantAll rfl) (rv_assign rfl rfl) ?_
  refine lf_nil ?_
  refine then_n ?_
  refine wp_seq ?_
  refine wp_gen (fun F' => F' 0 = cutV v b 200 ∧ F' 1 = .int .i64 n ∧ F' 4 = .bool false ∧ F' 5 = .pointer none ∧ F' 6 = .pointer none) ⟨e0, e1, e4, e5, rfl⟩ ?_
  clear e0 e1 e4 e5
  clear F
  rintro F ⟨e0, e1, e4, e5, e6⟩
  refine wp_regionF ?_
  refine lf_val (v := .pointer none) (wantAll rfl) (rv_move rfl (fr_eval rfl e6)) ?_
  refine lf_call (wantAll rfl) (rv_call (args := [.pointer none, .int .i64 3]) rfl (evc (fr_eval rfl rfl) (evc rfl evn)) Try.call23) (fail_nil 3 _ ) ?_
  rintro _ w2 ⟨rfl, hx⟩
  refine ⟨_, rfl, ?_⟩
  replace hC := hC.trans hx
  replace hr := Rd.ext hr hx
  clear hx
  refine lf_nil ?_
  refine then_n ?_
  refine wp_seq ?_
  refine wp_seq ?_
  refine wp_gen (fun F' => F' 0 = cutV v b 200 ∧ F' 1 = .int .i64 n ∧ F' 4 = .bool false ∧ F' 5 = .pointer none ∧ F' 6 = .pointer none) ⟨e0, e1, e4, e5, e6⟩ ?_
  clear e0 e1 e4 e5 e6
  clear F
  rintro F ⟨e0, e1, e4, e5, e6⟩
  refine wp_regionF ?_
  refine lf_val (v := .pointer none) (wantAll rfl) (rv_move rfl (fr_eval rfl e5)) ?_
  refine lf_val (v := .int .i64 n) (wantAll rfl) (rv_move rfl (fr_eval rfl e1)) ?_
  refine lf_call (wantAll rfl) (rv_call (args := [.pointer none, .int .i64 n]) rfl (evc (fr_eval rfl rfl) (evc (fr_eval rfl rfl) evn)) Try.call24) (penNum_nil n _ ) ?_
  rintro _ w3 ⟨rfl, hx⟩
  refine ⟨_, rfl, ?_⟩
  replace hC := hC.trans hx
  replace hr := Rd.ext hr hx
  clear hx
  refine lf_val (v := .bool false) (wantAll rfl) (rv_nenil (p := none) rfl (fr_eval rfl rfl) rfl Try.underlying39) ?_
  refine lf_val (v := .bool false) (wantAll rfl) (rv_move rfl (fr_eval rfl rfl)) ?_
  refine lf_val (v := .pointer none) (wantF (d := 17) rfl (by kernel_rfl) rfl rfl) (rv_move rfl (fr_eval rfl e5)) ?_
  refine lf_val (v := cutV v b 200) (wantF (d := 17) rfl (by kernel_rfl) rfl rfl) (rv_move rfl (fr_eval rfl e0)) ?_
  refine lf_call (wantF (d := 17) rfl (by kernel_rfl) rfl rfl) (rv_call (args := [.pointer none, cutV v b 200]) rfl (evc (fr_eval rfl rfl) (evc (fr_eval rfl rfl) evn)) Try.call25) (penText_nil (cutV v b 200) _ ) ?_
  rintro _ w4 ⟨rfl, hx⟩
  refine ⟨_, rfl, ?_⟩
  replace hC := hC.trans hx
  replace hr := Rd.ext hr hx
  clear hx
  refine lf_val (v := .bool false) (wantF (d := 17) rfl (by kernel_rfl) rfl rfl) (rv_nenil (p := none) rfl (fr_eval rfl rfl) rfl Try.underlying39) ?_
  refine lf_val (v := .bool false) (wantAll rfl) (rv_pickF rfl (fr_eval rfl rfl) (fr_eval rfl rfl)) ?_
  refine lf_val (v := .bool false) (wantAll rfl) (rv_move rfl (fr_eval rfl rfl)) ?_
  refine lf_val (v := .pointer none) (wantF (d := 23) rfl (by kernel_rfl) rfl rfl) (rv_move rfl (fr_eval rfl e5)) ?_
  refine lf_val (v := .agg (cBs (List.replicate 32 0)).toArray) (wantF (d := 23) rfl (by kernel_rfl) rfl rfl) (by kernel_rfl) ?_
  refine lf_call (wantF (d := 23) rfl (by kernel_rfl) rfl rfl) (rv_call (args := [.pointer none, .agg (cBs (List.replicate 32 0)).toArray]) rfl (evc (fr_eval rfl rfl) (evc (fr_eval rfl rfl) evn)) Try.call26) (penSum_nil (List.replicate 32 0) (List.length_replicate ..) _ ) ?_
  rintro _ w5 ⟨rfl, hx⟩
  refine ⟨_, rfl, ?_⟩
  replace hC := hC.trans hx
  replace hr := Rd.ext hr hx
  clear hx
  refine lf_val (v := .bool false) (wantF (d := 23) rfl (by kernel_rfl) rfl rfl) (rv_nenil (p := none) rfl (fr_eval rfl rfl) rfl Try.underlying39) ?_
  refine lf_val (v := .bool false) (wantAll rfl) (rv_pickF rfl (fr_eval rfl rfl) (fr_eval rfl rfl)) ?_
  refine lf_val (v := .bool false) (wantAll rfl) (rv_move rfl (fr_eval rfl rfl)) ?_
  refine lf_val (v := .pointer none) (wantF (d := 29) rfl (by kernel_rfl) rfl rfl) (rv_move rfl (fr_eval rfl e5)) ?_
  refine lf_val (v := .int .i64 n) (wantF (d := 29) rfl (by kernel_rfl) rfl rfl) (rv_move rfl (fr_eval rfl e1)) ?_
  refine lf_val (v := .int .i64 n) (wantF (d := 29) rfl (by kernel_rfl) rfl rfl) (rv_move rfl (fr_eval rfl e1)) ?_
  refine lf_ex (wantF (d := 29) rfl (by kernel_rfl) rfl rfl) (ex_lits (n := 2) Try.stI [(.tmp 31), (.tmp 32)] (vs := [.int .i64 n, .int .i64 n]) (evc (fr_eval rfl rfl) (evc (fr_eval rfl rfl) evn)) (ones_cons rfl (ones_cons rfl ones_nil)) rfl (by decide) rfl) ?_
  rintro _ w6 ⟨g1, hg_g1, rfl, h_g1, hx⟩
  have ge_g1 : w.heap.size ≤ g1 := by have := hC.size; omega
  replace hC := hC.trans hx
  replace hr := Rd.ext hr hx
  clear hx hg_g1
  refine lf_call (wantF (d := 29) rfl (by kernel_rfl) rfl rfl) (rv_call (args := [.pointer none, .slice (some ⟨g1, 0, none⟩) 2 2]) rfl (evc (fr_eval rfl rfl) (evc (fr_eval rfl rfl) evn)) Try.call27) (penNums_nil  _ (rdI_blk (zs := [n, n]) h_g1 rfl (by decide))) ?_
  rintro _ w7 ⟨rfl, hx⟩
  refine ⟨_, rfl, ?_⟩
  replace hC := hC.trans hx
  replace hr := Rd.ext hr hx
  replace h_g1 := Blk.ext h_g1 hx
  clear hx
  refine lf_call (wantF (d := 29) rfl (by kernel_rfl) rfl rfl) (rv_call (args := [.pointer none]) rfl (evc (fr_eval rfl rfl) evn) Try.call28) (penBytes_nil  _ ) ?_
  rintro _ w8 ⟨rfl, hx⟩
  refine ⟨_, rfl, ?_⟩
  replace hC := hC.trans hx
  replace hr := Rd.ext hr hx
  replace h_g1 := Blk.ext h_g1 hx
  clear hx
  refine lf_val (v := .int .i64 0) (wantF (d := 29) rfl (by kernel_rfl) rfl rfl) (rv_len rfl (fr_eval rfl rfl) (Rd.nil (size := 1)) Try.underlying22) ?_
  refine lf_val (v := .bool false) (wantF (d := 29) rfl (by kernel_rfl) rfl rfl) (rv_neq rfl (fr_eval rfl rfl) rfl (show decide ((0 : Int) = 0) = true from by decide)) ?_
  refine lf_val (v := .bool false) (wantAll rfl) (rv_pickF rfl (fr_eval rfl rfl) (fr_eval rfl rfl)) ?_
  refine lf_val (v := .bool false) (wantAll rfl) (rv_move rfl (fr_eval rfl rfl)) ?_
  refine lf_val (v := .pointer none) (wantF (d := 39) rfl (by kernel_rfl) rfl rfl) (rv_move rfl (fr_eval rfl e6)) ?_
  refine lf_call (wantF (d := 39) rfl (by kernel_rfl) rfl rfl) (rv_call (args := [.pointer none]) rfl (evc (fr_eval rfl rfl) evn) Try.call17) (err_nil  _ ) ?_
  rintro _ w9 ⟨rfl, hx⟩
  refine ⟨_, rfl, ?_⟩
  replace hC := hC.trans hx
  replace hr := Rd.ext hr hx
  replace h_g1 := Blk.ext h_g1 hx
  clear hx
  refine lf_val (v := .bool false) (wantF (d := 39) rfl (by kernel_rfl) rfl rfl) (rv_neq rfl (fr_eval rfl rfl) rfl (show decide ((1 : Int) = 1) = true from by decide)) ?_
  refine lf_val (v := .bool false) (wantAll rfl) (rv_pickF rfl (fr_eval rfl rfl) (fr_eval rfl rfl)) ?_
  refine lf_val (v := .bool false) (wantAll rfl) (rv_move rfl (fr_eval rfl rfl)) ?_
  refine lf_val (v := .pointer none) (wantF (d := 44) rfl (by kernel_rfl) rfl rfl) (rv_move rfl (fr_eval rfl e6)) ?_
  refine lf_call (wantF (d := 44) rfl (by kernel_rfl) rfl rfl) (rv_call (args := [.pointer none]) rfl (evc (fr_eval rfl rfl) evn) Try.call15) (num_nil  _ ) ?_
  rintro _ w10 ⟨rfl, hx⟩
  refine ⟨_, rfl, ?_⟩
  replace hC := hC.trans hx
  replace hr := Rd.ext hr hx
  replace h_g1 := Blk.ext h_g1 hx
  clear hx
  refine lf_val (v := .pointer none) (wantF (d := 44) rfl (by kernel_rfl) rfl rfl) (rv_move rfl (fr_eval rfl e6)) ?_
  refine lf_val (v := .int .i64 n) (wantF (d := 44) rfl (by kernel_rfl) rfl rfl) (rv_move rfl (fr_eval rfl e1)) ?_
  refine lf_call (wantF (d := 44) rfl (by kernel_rfl) rfl rfl) (rv_call (args := [.pointer none, .int .i64 n]) rfl (evc (fr_eval rfl rfl) (evc (fr_eval rfl rfl) evn)) Try.call16) (upto_nil n (by omega) _ ) ?_
  rintro _ w11 ⟨rfl, hx⟩
  refine ⟨_, rfl, ?_⟩
  replace hC := hC.trans hx
  replace hr := Rd.ext hr hx
  replace h_g1 := Blk.ext h_g1 hx
  clear hx
  refine lf_val (v := .int .i64 0) (wantF (d := 44) rfl (by kernel_rfl) rfl rfl) (rv_add rfl (fr_eval rfl rfl) (fr_eval rfl rfl) (wrap_i64 (by omega) (by omega) (by omega))) ?_
  refine lf_val (v := .pointer none) (wantF (d := 44) rfl (by kernel_rfl) rfl rfl) (rv_move rfl (fr_eval rfl e6)) ?_
  refine lf_val (v := .int .i64 n) (wantF (d := 44) rfl (by kernel_rfl) rfl rfl) (rv_move rfl (fr_eval rfl e1)) ?_
  refine lf_call (wantF (d := 44) rfl (by kernel_rfl) rfl rfl) (rv_call (args := [.pointer none, .int .i64 n]) rfl (evc (fr_eval rfl rfl) (evc (fr_eval rfl rfl) evn)) Try.call20) (raw_nil n _ ) ?_
  rintro _ w12 ⟨rfl, hx⟩
  refine ⟨_, rfl, ?_⟩
  replace hC := hC.trans hx
  replace hr := Rd.ext hr hx
  replace h_g1 := Blk.ext h_g1 hx
  clear hx
  refine lf_val (v := .int .i64 0) (wantF (d := 44) rfl (by kernel_rfl) rfl rfl) (rv_len rfl (fr_eval rfl rfl) (Rd.nil (size := 1)) Try.underlying22) ?_
  refine lf_val (v := .int .i64 0) (wantF (d := 44) rfl (by kernel_rfl) rfl rfl) (rv_add rfl (fr_eval rfl rfl) (fr_eval rfl rfl) (wrap_i64 (by omega) (by omega) (by omega))) ?_
  refine lf_val (v := .pointer none) (wantF (d := 44) rfl (by kernel_rfl) rfl rfl) (rv_move rfl (fr_eval rfl e6)) ?_
  refine lf_val (v := .int .i64 n) (wantF (d := 44) rfl (by kernel_rfl) rfl rfl) (rv_move rfl (fr_eval rfl e1)) ?_
  refine lf_call (wantF (d := 44) rfl (by kernel_rfl) rfl rfl) (rv_call (args := [.pointer none, .int .i64 n]) rfl (evc (fr_eval rfl rfl) (evc (fr_eval rfl rfl) evn)) Try.call29) (textE_nil n (by omega) _ ) ?_
  rintro _ w13 ⟨rfl, hx⟩
  refine ⟨_, rfl, ?_⟩
  replace hC := hC.trans hx
  replace hr := Rd.ext hr hx
  replace h_g1 := Blk.ext h_g1 hx
  clear hx
  refine lf_val (v := .int .i64 0) (wantF (d := 44) rfl (by kernel_rfl) rfl rfl) (rv_len rfl (fr_eval rfl rfl) (Rd.nil (size := 1)) Try.underlying22) ?_
  refine lf_val (v := .int .i64 0) (wantF (d := 44) rfl (by kernel_rfl) rfl rfl) (rv_add rfl (fr_eval rfl rfl) (fr_eval rfl rfl) (wrap_i64 (by omega) (by omega) (by omega))) ?_
  refine lf_val (v := .bool false) (wantF (d := 44) rfl (by kernel_rfl) rfl rfl) (rv_neq rfl (fr_eval rfl rfl) rfl (show decide ((0 : Int) = 0) = true from by decide)) ?_
  refine lf_val (v := .bool false) (wantAll rfl) (rv_pickF rfl (fr_eval rfl rfl) (fr_eval rfl rfl)) ?_
  refine lf_val (v := .bool false) (wantAll rfl) (rv_move rfl (fr_eval rfl rfl)) ?_
  refine lf_val (v := .pointer none) (wantF (d := 63) rfl (by kernel_rfl) rfl rfl) (rv_move rfl (fr_eval rfl e6)) ?_
  refine lf_call (wantF (d := 63) rfl (by kernel_rfl) rfl rfl) (rv_call (args := [.pointer none]) rfl (evc (fr_eval rfl rfl) evn) Try.call22) (done_nil  _ ) ?_
  rintro _ w14 ⟨rfl, hx⟩
  refine ⟨_, rfl, ?_⟩
  replace hC := hC.trans hx
  replace hr := Rd.ext hr hx
  replace h_g1 := Blk.ext h_g1 hx
  clear hx
  refine lf_val (v := .bool false) (wantF (d := 63) rfl (by kernel_rfl) rfl rfl) (rv_neq rfl (fr_eval rfl rfl) rfl (show decide ((1 : Int) = 1) = true from by decide)) ?_
  refine lf_val (v := .bool false) (wantAll rfl) (rv_pickF rfl (fr_eval rfl rfl) (fr_eval rfl rfl)) ?_
  refine lf_nil ?_
  refine then_n ?_
  clear h_g1
  refine wp_gen (fun F' => F' 0 = cutV v b 200 ∧ F' 1 = .int .i64 n ∧ F' 4 = .bool false ∧ F' 5 = .pointer none ∧ F' 6 = .pointer none ∧ F' 67 = .bool false) ⟨e0, e1, e4, e5, e6, rfl⟩ ?_
  clear e0 e1 e4 e5 e6
  clear F
  rintro F ⟨e0, e1, e4, e5, e6, e67⟩
  refine wp_cond_false (fr_eval rfl e67) ?_
  refine wp_skip ?_
  refine then_n ?_
  refine wp_seq ?_
  refine wp_regionF ?_
  refine lf_val (v := cutV v b 200) (wantAll rfl) (rv_move rfl (fr_eval rfl e0)) ?_
  refine lf_call (wantAll rfl) (rv_call (args := [cutV v b 200]) rfl (evc (fr_eval rfl rfl) evn) Try.call14) (look_calls (show List.length (List.take 200 b) ≤ 100000000 from (Nat.le_trans (List.length_take_le 200 b) (by decide))) _ (rdB_cut hr)) ?_
  rintro _ w15 ⟨⟨g2, z1, rfl, hy_g2', hge_g2, hst_g2⟩, hx⟩
  refine ⟨_, rfl, ?_⟩
  have ne_hy_g2 : z1.ownBlock ≠ some g2 := fun h => by have := (hst_g2 _ h).1; omega
  have ge_g2 : w.heap.size ≤ g2 := Nat.le_trans (Chg.size hC) hge_g2
  have hvg_hy_g2 : ∀ k, z1.ownBlock = some k → k < g2 := fun k hk => Nat.lt_of_lt_of_le (hst_g2 k hk).1 hge_g2
  have hv0_hy_g2 : ∀ k, z1.ownBlock = some k → k < w.heap.size := fun k hk => Rd.lt hr0 (by simpa using (cut_pos (hst_g2 k hk).2.1)) k (cutV_own.symm.trans (hst_g2 k hk).2.2)
  replace hC := hC.trans hx
  replace hr := Rd.ext hr hx
  have hy_g2 := hy_g2'
  clear hy_g2' hx
  refine lf_val (v := .pointer (some ⟨g2, 0, none⟩)) (wantAll rfl) (rv_assign rfl (fr_eval rfl rfl)) ?_
  refine lf_nil ?_
  refine then_n ?_
  refine wp_seq ?_
  refine wp_gen (fun F' => F' 0 = cutV v b 200 ∧ F' 1 = .int .i64 n ∧ F' 4 = .bool false ∧ F' 5 = .pointer none ∧ F' 6 = .pointer none ∧ F' 7 = .pointer (some ⟨g2, 0, none⟩) ∧ F' 67 = .bool false) ⟨e0, e1, e4, e5, e6, rfl, e67⟩ ?_
  clear e0 e1 e4 e5 e6 e67
  clear F
  rintro F ⟨e0, e1, e4, e5, e6, e7, e67⟩
  refine wp_regionF ?_
  refine lf_val (v := .pointer (some ⟨g2, 0, none⟩)) (wantAll rfl) (rv_move rfl (fr_eval rfl e7)) ?_
  refine lf_val (v := .int .i64 n) (wantAll rfl) (rv_move rfl (fr_eval rfl e1)) ?_
  refine lf_call (wantAll rfl) (rv_call (args := [.pointer (some ⟨g2, 0, none⟩), .int .i64 n]) rfl (evc (fr_eval rfl rfl) (evc (fr_eval rfl rfl) evn)) Try.call20) (raw_calls n _ hy_g2 ne_hy_g2) ?_
  rintro _ w16 ⟨⟨y1, rfl, ho1', ge_ho1⟩, hy_g2', hx⟩
  refine ⟨_, rfl, ?_⟩
  replace ge_ho1 : ∀ k, (y1 : Value).ownBlock = some k → w.heap.size ≤ k := fun k hk => Nat.le_trans (Chg.size hC) (ge_ho1 k hk)
  replace hr := Rd.keep hr hx (fun b hb h0 e => by have e : b = g2 := e; have := Rd.lt hr0 h0 b hb; omega)
  replace hC := Chg.then hC hx (fun i hi e => absurd hi (by have e : i = g2 := e; omega))
  replace hy_g2 := hy_g2'
  have ho1 := ho1'
  clear hy_g2' ho1'
  clear hx
  refine lf_val (v := y1) (wantAll rfl) (rv_assign rfl (fr_eval rfl rfl)) ?_
  refine lf_nil ?_
  refine then_n ?_
  refine wp_seq ?_
  refine wp_seq ?_
  refine wp_gen (fun F' => F' 0 = cutV v b 200 ∧ F' 1 = .int .i64 n ∧ F' 4 = .bool false ∧ F' 5 = .pointer none ∧ F' 6 = .pointer none ∧ F' 7 = .pointer (some ⟨g2, 0, none⟩) ∧ F' 8 = y1 ∧ F' 67 = .bool false) ⟨e0, e1, e4, e5, e6, e7, rfl, e67⟩ ?_
  clear e0 e1 e4 e5 e6 e7 e67
  clear F
  rintro F ⟨e0, e1, e4, e5, e6, e7, e8, e67⟩
  refine wp_regionF ?_
  refine lf_val (v := .int .i64 n) (wantAll rfl) (rv_move rfl (fr_eval rfl e1)) ?_
  by_cases hc1 : n < 0
  · refine lf_val (v := .bool true) (wantAll rfl) (rv_lss rfl (fr_eval rfl rfl) rfl (decide_eq_true (by omega))) ?_
    refine lf_val (v := .bool true) (wantAll rfl) (rv_move rfl (fr_eval rfl rfl)) ?_
    refine lf_not (wantNot (d := 75) rfl (by kernel_rfl) rfl rfl) ?_
    refine lf_not (wantNot (d := 75) rfl (by kernel_rfl) rfl rfl) ?_
    refine lf_not (wantNot (d := 75) rfl (by kernel_rfl) rfl rfl) ?_
    refine lf_not (wantNot (d := 75) rfl (by kernel_rfl) rfl rfl) ?_
    refine lf_val (v := .bool true) (wantAll rfl) (rv_pickT rfl (fr_eval rfl rfl) rfl) ?_
    refine lf_nil ?_
    refine then_n ?_
    refine wp_gen (fun F' => F' 0 = cutV v b 200 ∧ F' 1 = .int .i64 n ∧ F' 4 = .bool false ∧ F' 5 = .pointer none ∧ F' 6 = .pointer none ∧ F' 7 = .pointer (some ⟨g2, 0, none⟩) ∧ F' 8 = y1 ∧ F' 67 = .bool false ∧ F' 80 = .bool true) ⟨e0, e1, e4, e5, e6, e7, e8, e67, rfl⟩ ?_
    clear e0 e1 e4 e5 e6 e7 e8 e67
    clear F
    rintro F ⟨e0, e1, e4, e5, e6, e7, e8, e67, e80⟩
    refine wp_cond_true (fr_eval rfl e80) ?_
    refine wp_seq ?_
    have hE : rawE (List.take 200 b) 0 n = 2 := by unfold rawE; rw [if_pos rfl, if_pos (by omega)]
    have hV : (rawV (List.take 200 b) 0 n).length = 0 := by unfold rawV; rw [hE]; rfl
    refine wp_regionF ?_
    refine lf_val (v := y1) (wantAll rfl) (rv_move rfl (fr_eval rfl e8)) ?_
    refine lf_val (v := .int .i64 (((rawV (List.take 200 b) 0 n).length : Nat) : Int)) (wantAll rfl) (rv_len rfl (fr_eval rfl rfl) (RdB.rn (OwnB.rd ho1) rfl) Try.underlying22) ?_
    refine lf_val (v := .bool true) (wantAll rfl) (rv_eql rfl (fr_eval rfl rfl) rfl (decide_eq_true (by omega))) ?_
    refine lf_val (v := .bool true) (wantAll rfl) (rv_move rfl (fr_eval rfl rfl)) ?_
    refine lf_val (v := .pointer (some ⟨g2, 0, none⟩)) (wantF (d := 84) rfl (by kernel_rfl) rfl rfl) (rv_move rfl (fr_eval rfl e7)) ?_
    refine lf_call (wantF (d := 84) rfl (by kernel_rfl) rfl rfl) (rv_call (args := [.pointer (some ⟨g2, 0, none⟩)]) rfl (evc (fr_eval rfl rfl) evn) Try.call17) (errE_calls _ hy_g2) ?_
    rintro _ w17 ⟨rfl, hx⟩
    refine ⟨_, rfl, ?_⟩
    replace hC := hC.trans hx
    replace hr := Rd.ext hr hx
    replace hy_g2 := EyeAt.ext hy_g2 hx
    replace ho1 := Own.ext ho1 hx
    clear hx
    refine lf_val (v := .bool true) (wantF (d := 84) rfl (by kernel_rfl) rfl rfl) (rv_eql rfl (fr_eval rfl rfl) rfl (decide_eq_true (by omega))) ?_
    refine lf_val (v := .bool true) (wantAll rfl) (rv_pickT rfl (fr_eval rfl rfl) (fr_eval rfl rfl)) ?_
    refine lf_val (v := .bool true) (wantAll rfl) (rv_move rfl (fr_eval rfl rfl)) ?_
    refine lf_call (wantF (d := 89) rfl (by kernel_rfl) rfl rfl) (rv_call (args := []) rfl evn Try.call18) (awake01_calls _) ?_
    rintro _ w18 ⟨rfl, hx⟩
    refine ⟨_, rfl, ?_⟩
    replace hC := hC.trans hx
    replace hr := Rd.ext hr hx
    replace hy_g2 := EyeAt.ext hy_g2 hx
    replace ho1 := Own.ext ho1 hx
    clear hx
    refine lf_val (v := .bool true) (wantAll rfl) (rv_pickT rfl (fr_eval rfl rfl) (fr_eval rfl rfl)) ?_
    refine lf_val (v := .bool true) (wantAll rfl) (rv_assign rfl (fr_eval rfl rfl)) ?_
    refine lf_nil ?_
    refine then_n ?_
    refine wp_gen (fun F' => F' 0 = cutV v b 200 ∧ F' 1 = .int .i64 n ∧ F' 4 = .bool true ∧ F' 5 = .pointer none ∧ F' 6 = .pointer none ∧ F' 7 = .pointer (some ⟨g2, 0, none⟩) ∧ F' 8 = y1 ∧ F' 67 = .bool false ∧ F' 80 = .bool true) ⟨e0, e1, rfl, e5, e6, e7, e8, e67, e80⟩ ?_
    clear e0 e1 e4 e5 e6 e7 e8 e67 e80
    clear F
    rintro F ⟨e0, e1, e4, e5, e6, e7, e8, e67, e80⟩
    refine wp_ret ?_
    refine then_ret ?_
    exact bodyPost_ret (v := (.bool true)) (res1 rfl (ro_tmp rfl e4)) rfl (⟨rfl, hC⟩)
  · refine lf_val (v := .bool false) (wantAll rfl) (rv_lss rfl (fr_eval rfl rfl) rfl (decide_eq_false (by omega))) ?_
    refine lf_val (v := .bool false) (wantAll rfl) (rv_move rfl (fr_eval rfl rfl)) ?_
    refine lf_val (v := .int .i64 n) (wantF (d := 75) rfl (by kernel_rfl) rfl rfl) (rv_move rfl (fr_eval rfl e1)) ?_
    refine lf_val (v := cutV v b 200) (wantF (d := 75) rfl (by kernel_rfl) rfl rfl) (rv_move rfl (fr_eval rfl e0)) ?_
    refine lf_val (v := .int .i64 (((List.take 200 b).length : Nat) : Int)) (wantF (d := 75) rfl (by kernel_rfl) rfl rfl) (rv_len rfl (fr_eval rfl rfl) (RdB.rn (rdB_cut hr) rfl) Try.underlying22) ?_
    by_cases hc2 : n > (((List.take 200 b).length : Nat) : Int)
    · refine lf_val (v := .bool true) (wantF (d := 75) rfl (by kernel_rfl) rfl rfl) (rv_gtr rfl (fr_eval rfl rfl) (fr_eval rfl rfl) (decide_eq_true (by omega))) ?_
      refine lf_val (v := .bool true) (wantAll rfl) (rv_pickF rfl (fr_eval rfl rfl) (fr_eval rfl rfl)) ?_
      refine lf_nil ?_
      refine then_n ?_
      refine wp_gen (fun F' => F' 0 = cutV v b 200 ∧ F' 1 = .int .i64 n ∧ F' 4 = .bool false ∧ F' 5 = .pointer none ∧ F' 6 = .pointer none ∧ F' 7 = .pointer (some ⟨g2, 0, none⟩) ∧ F' 8 = y1 ∧ F' 67 = .bool false ∧ F' 80 = .bool true) ⟨e0, e1, e4, e5, e6, e7, e8, e67, rfl⟩ ?_
      clear e0 e1 e4 e5 e6 e7 e8 e67
      clear F
      rintro F ⟨e0, e1, e4, e5, e6, e7, e8, e67, e80⟩
      refine wp_cond_true (fr_eval rfl e80) ?_
      refine wp_seq ?_
      have hE : rawE (List.take 200 b) 0 n = 2 := by unfold rawE; rw [if_pos rfl, if_pos (by omega)]
      have hV : (rawV (List.take 200 b) 0 n).length = 0 := by unfold rawV; rw [hE]; rfl
      refine wp_regionF ?_
      refine lf_val (v := y1) (wantAll rfl) (rv_move rfl (fr_eval rfl e8)) ?_
      refine lf_val (v := .int .i64 (((rawV (List.take 200 b) 0 n).length : Nat) : Int)) (wantAll rfl) (rv_len rfl (fr_eval rfl rfl) (RdB.rn (OwnB.rd ho1) rfl) Try.underlying22) ?_
      refine lf_val (v := .bool true) (wantAll rfl) (rv_eql rfl (fr_eval rfl rfl) rfl (decide_eq_true (by omega))) ?_
      refine lf_val (v := .bool true) (wantAll rfl) (rv_move rfl (fr_eval rfl rfl)) ?_
      refine lf_val (v := .pointer (some ⟨g2, 0, none⟩)) (wantF (d := 84) rfl (by kernel_rfl) rfl rfl) (rv_move rfl (fr_eval rfl e7)) ?_
      refine lf_call (wantF (d := 84) rfl (by kernel_rfl) rfl rfl) (rv_call (args := [.pointer (some ⟨g2, 0, none⟩)]) rfl (evc (fr_eval rfl rfl) evn) Try.call17) (errE_calls _ hy_g2) ?_
      rintro _ w19 ⟨rfl, hx⟩
      refine ⟨_, rfl, ?_⟩
      replace hC := hC.trans hx
      replace hr := Rd.ext hr hx
      replace hy_g2 := EyeAt.ext hy_g2 hx
      replace ho1 := Own.ext ho1 hx
      clear hx
      refine lf_val (v := .bool true) (wantF (d := 84) rfl (by kernel_rfl) rfl rfl) (rv_eql rfl (fr_eval rfl rfl) rfl (decide_eq_true (by omega))) ?_
      refine lf_val (v := .bool true) (wantAll rfl) (rv_pickT rfl (fr_eval rfl rfl) (fr_eval rfl rfl)) ?_
      refine lf_val (v := .bool true) (wantAll rfl) (rv_move rfl (fr_eval rfl rfl)) ?_
      refine lf_call (wantF (d := 89) rfl (by kernel_rfl) rfl rfl) (rv_call (args := []) rfl evn Try.call18) (awake01_calls _) ?_
      rintro _ w20 ⟨rfl, hx⟩
      refine ⟨_, rfl, ?_⟩
      replace hC := hC.trans hx
      replace hr := Rd.ext hr hx
      replace hy_g2 := EyeAt.ext hy_g2 hx
      replace ho1 := Own.ext ho1 hx
      clear hx
      refine lf_val (v := .bool true) (wantAll rfl) (rv_pickT rfl (fr_eval rfl rfl) (fr_eval rfl rfl)) ?_
      refine lf_val (v := .bool true) (wantAll rfl) (rv_assign rfl (fr_eval rfl rfl)) ?_
      refine lf_nil ?_
      refine then_n ?_
      refine wp_gen (fun F' => F' 0 = cutV v b 200 ∧ F' 1 = .int .i64 n ∧ F' 4 = .bool true ∧ F' 5 = .pointer none ∧ F' 6 = .pointer none ∧ F' 7 = .pointer (some ⟨g2, 0, none⟩) ∧ F' 8 = y1 ∧ F' 67 = .bool false ∧ F' 80 = .bool true) ⟨e0, e1, rfl, e5, e6, e7, e8, e67, e80⟩ ?_
      clear e0 e1 e4 e5 e6 e7 e8 e67 e80
      clear F
      rintro F ⟨e0, e1, e4, e5, e6, e7, e8, e67, e80⟩
      refine wp_ret ?_
      refine then_ret ?_
      exact bodyPost_ret (v := (.bool true)) (res1 rfl (ro_tmp rfl e4)) rfl (⟨rfl, hC⟩)
    · refine lf_val (v := .bool false) (wantF (d := 75) rfl (by kernel_rfl) rfl rfl) (rv_gtr rfl (fr_eval rfl rfl) (fr_eval rfl rfl) (decide_eq_false (by omega))) ?_
      refine lf_val (v := .bool false) (wantAll rfl) (rv_pickF rfl (fr_eval rfl rfl) (fr_eval rfl rfl)) ?_
      refine lf_nil ?_
      refine then_n ?_
      refine wp_gen (fun F' => F' 0 = cutV v b 200 ∧ F' 1 = .int .i64 n ∧ F' 4 = .bool false ∧ F' 5 = .pointer none ∧ F' 6 = .pointer none ∧ F' 7 = .pointer (some ⟨g2, 0, none⟩) ∧ F' 8 = y1 ∧ F' 67 = .bool false ∧ F' 80 = .bool false) ⟨e0, e1, e4, e5, e6, e7, e8, e67, rfl⟩ ?_
      clear e0 e1 e4 e5 e6 e7 e8 e67
      clear F
      rintro F ⟨e0, e1, e4, e5, e6, e7, e8, e67, e80⟩
      refine wp_cond_false (fr_eval rfl e80) ?_
      refine wp_skip ?_
      refine then_n ?_
      refine wp_seq ?_
      obtain ⟨k, rfl⟩ : ∃ k : Nat, n = (k : Int) := ⟨n.toNat, by omega⟩
      have hE : rawE (List.take 200 b) 0 (k : Int) = 0 := by unfold rawE; rw [if_pos rfl, if_neg (by omega)]
      have hV : rawV (List.take 200 b) 0 (k : Int) = List.take k (List.take 200 b) := by unfold rawV; rw [if_pos hE]; rfl
      have hD : doneE (rawR (List.take 200 b) 0 (k : Int)) (rawE (List.take 200 b) 0 (k : Int)) = 0 ↔ k = List.length (List.take 200 b) := by
        have h200 := List.length_take_le 200 b
        unfold doneE rawR; rw [hE, if_pos rfl, Int.toNat_natCast, List.length_drop]
        split <;> omega
      obtain ⟨B1, hB1⟩ : ∃ B, B = w16.heap.size := ⟨_, rfl⟩
      have hwB : w.heap.size ≤ B1 := by have := hC.size; omega
      replace hB1 : B1 ≤ w16.heap.size := by omega
      refine wp_regionX (fun k => B1 ≤ k ∨ ((Value.slice none 0 0).ownBlock = some k ∨ k = g2)) 20 (by kernel_rfl) (by kernel_rfl) ?_
      refine xl_take (i := 0) (v := y1) rfl (by kernel_rfl) (by kernel_rfl) (by kernel_rfl) (by kernel_rfl) (yx_val (wantAll rfl) (fun w' hx' => rv_move rfl (fr_eval rfl e8))) ?_
      refine xl_take (i := 2) (v := cutV v b 200) rfl (by kernel_rfl) (by kernel_rfl) (by kernel_rfl) (by kernel_rfl) (yx_val (wantAll rfl) (fun w' hx' => rv_move rfl (fr_eval rfl e0))) ?_
      refine xl_take (i := 3) (v := .int .i64 ((k : Nat) : Int)) rfl (by kernel_rfl) (by kernel_rfl) (by kernel_rfl) (by kernel_rfl) (yx_val (wantAll rfl) (fun w' hx' => rv_move rfl (fr_eval rfl e1))) ?_
      refine xl_take (i := 4) (v := slcV (cutV v b 200) 1 0 k) rfl (by kernel_rfl) (by kernel_rfl) (by kernel_rfl) (by kernel_rfl) (yx_val (wantAll rfl) (fun w' hx' => rv_slcH (h := k) Try.stB rfl (fr_eval rfl rfl) (RdB.rn (rdB_cut (Rd.keep hr hx' (fun b hb h0 => (fun e => Or.elim e (fun e => by have e : B1 ≤ b := e; have := Rd.lt hr0 h0 b hb; omega) (fun e => Or.elim e (fun e => absurd e (by simp [Value.ownBlock])) (fun e => by have e : b = g2 := e; have := Rd.lt hr0 h0 b hb; omega)))))) rfl) (fr_eval rfl rfl) (by omega))) ?_
      refine xl_take (i := 5) (v := .string ⟨(List.take k (List.take 200 b)).toArray⟩) rfl (by kernel_rfl) (by kernel_rfl) (by kernel_rfl) (by kernel_rfl) (yx_val (wantAll rfl) (fun w' hx' => rv_str rfl (fr_eval rfl rfl) (rdB_slcH (h := k) (RdB.rn (rdB_cut (Rd.keep hr hx' (fun b hb h0 => (fun e => Or.elim e (fun e => by have e : B1 ≤ b := e; have := Rd.lt hr0 h0 b hb; omega) (fun e => Or.elim e (fun e => absurd e (by simp [Value.ownBlock])) (fun e => by have e : b = g2 := e; have := Rd.lt hr0 h0 b hb; omega)))))) rfl) (by omega)) Try.underlying22 Try.underlying5 Try.underlying9)) ?_
      refine anyX_ready (rs := [1]) (by kernel_rfl) ?_
      intro w21 hx
      replace hC := hC.trans hx
      replace hr := Rd.ext hr hx
      replace hy_g2 := EyeAt.ext hy_g2 hx
      replace ho1 := Own.ext ho1 hx
      replace hB1 : B1 ≤ w21.heap.size := by have := Chg.size hx; omega
      clear hx
      refine (anyX_cons ?_ anyX_nil)
      refine xl_step (i := 1) rfl (wantAll rfl) ?_
      refine of_val (v := .string ⟨(rawV (List.take 200 b) 0 (k : Int)).toArray⟩) (rv_str rfl (fr_eval rfl rfl) (OwnB.rd ho1) Try.underlying22 Try.underlying5 Try.underlying9) ?_
      refine ⟨Chg.refl _ _, ?_⟩
      refine xl_take (i := 6) (v := .bool true) rfl (by kernel_rfl) (by kernel_rfl) (by kernel_rfl) (by kernel_rfl) (yx_val (wantAll rfl) (fun w' hx' => rv_eqs rfl (fr_eval rfl rfl) (fr_eval rfl rfl) (by exact decide_eq_true hV))) ?_
      refine xl_take (i := 7) (v := .bool true) rfl (by kernel_rfl) (by kernel_rfl) (by kernel_rfl) (by kernel_rfl) (yx_val (wantAll rfl) (fun w' hx' => rv_move rfl (fr_eval rfl rfl))) ?_
      refine xl_take (i := 8) (v := .pointer (some ⟨g2, 0, none⟩)) rfl (by kernel_rfl) (by kernel_rfl) (by kernel_rfl) (by kernel_rfl) (yx_val (wantF (d := 99) rfl (by kernel_rfl) rfl rfl) (fun w' hx' => rv_move rfl (fr_eval rfl e7))) ?_
      refine xl_take (i := 11) (v := .int .i64 ((k : Nat) : Int)) rfl (by kernel_rfl) (by kernel_rfl) (by kernel_rfl) (by kernel_rfl) (yx_val (wantF (d := 99) rfl (by kernel_rfl) rfl rfl) (fun w' hx' => rv_move rfl (fr_eval rfl e1))) ?_
      refine xl_take (i := 12) (v := cutV v b 200) rfl (by kernel_rfl) (by kernel_rfl) (by kernel_rfl) (by kernel_rfl) (yx_val (wantF (d := 99) rfl (by kernel_rfl) rfl rfl) (fun w' hx' => rv_move rfl (fr_eval rfl e0))) ?_
      refine xl_take (i := 13) (v := .int .i64 (((List.take 200 b).length : Nat) : Int)) rfl (by kernel_rfl) (by kernel_rfl) (by kernel_rfl) (by kernel_rfl) (yx_val (wantF (d := 99) rfl (by kernel_rfl) rfl rfl) (fun w' hx' => rv_len rfl (fr_eval rfl rfl) (RdB.rn (rdB_cut (Rd.keep hr hx' (fun b hb h0 => (fun e => Or.elim e (fun e => by have e : B1 ≤ b := e; have := Rd.lt hr0 h0 b hb; omega) (fun e => Or.elim e (fun e => absurd e (by simp [Value.ownBlock])) (fun e => by have e : b = g2 := e; have := Rd.lt hr0 h0 b hb; omega)))))) rfl) Try.underlying22)) ?_
      refine xl_take (i := 14) (v := .bool (decide (k = List.length (List.take 200 b)))) rfl (by kernel_rfl) (by kernel_rfl) (by kernel_rfl) (by kernel_rfl) (yx_val (wantF (d := 99) rfl (by kernel_rfl) rfl rfl) (fun w' hx' => rv_eql (b := decide (k = List.length (List.take 200 b))) rfl (fr_eval rfl rfl) (fr_eval rfl rfl) (decide_eq_decide.2 (by omega)))) ?_
      refine anyX_ready (rs := [9]) (by kernel_rfl) ?_
      intro w22 hx
      replace hC := hC.trans hx
      replace hr := Rd.ext hr hx
      replace hy_g2 := EyeAt.ext hy_g2 hx
      replace ho1 := Own.ext ho1 hx
      replace hB1 : B1 ≤ w22.heap.size := by have := Chg.size hx; omega
      clear hx
      refine (anyX_cons ?_ anyX_nil)
      refine xl_step (i := 9) rfl (wantF (d := 99) rfl (by kernel_rfl) rfl rfl) ?_
      refine of_call (rv_call (args := [.pointer (some ⟨g2, 0, none⟩)]) rfl (evc (fr_eval rfl rfl) evn) Try.call22) (done_calls  _ hy_g2 ne_hy_g2) ?_
      rintro _ w23 ⟨rfl, hy_g2', hx⟩
      refine ⟨_, rfl, ?_⟩
      have hx0 := hx
      replace hr := Rd.keep hr hx (fun b hb h0 e => by have e : b = g2 := e; have := Rd.lt hr0 h0 b hb; omega)
      replace ho1 := Own.keep ho1 hx (fun b hb e => EyeAt.neOwn hy_g2 ho1 (by have e : b = g2 := e; rw [← e]; exact hb))
      replace hC := Chg.then hC hx (fun i hi e => absurd hi (by have e : i = g2 := e; omega))
      replace hB1 : B1 ≤ w23.heap.size := by have := Chg.size hx; omega
      replace hy_g2 := hy_g2'
      clear hy_g2'
      refine ⟨Chg.mono hx0 (fun i hi e => Or.inr (Or.inr e)), ?_⟩
      clear hx0
      clear hx
      refine xl_take (i := 10) (v := .bool (decide (k = List.length (List.take 200 b)))) rfl (by kernel_rfl) (by kernel_rfl) (by kernel_rfl) (by kernel_rfl) (yx_val (wantF (d := 99) rfl (by kernel_rfl) rfl rfl) (fun w' hx' => rv_eql (b := decide (k = List.length (List.take 200 b))) rfl (fr_eval rfl rfl) rfl (decide_eq_decide.2 hD))) ?_
      refine xl_take (i := 15) (v := .bool true) rfl (by kernel_rfl) (by kernel_rfl) (by kernel_rfl) (by kernel_rfl) (yx_val (wantF (d := 99) rfl (by kernel_rfl) rfl rfl) (fun w' hx' => rv_eqb rfl (fr_eval rfl rfl) (fr_eval rfl rfl) Try.underlying4 (beq_self_eq_true _))) ?_
      refine xl_take (i := 16) (v := .bool true) rfl (by kernel_rfl) (by kernel_rfl) (by kernel_rfl) (by kernel_rfl) (yx_val (wantAll rfl) (fun w' hx' => rv_pickT rfl (fr_eval rfl rfl) (fr_eval rfl rfl))) ?_
      refine xl_take (i := 17) (v := .bool true) rfl (by kernel_rfl) (by kernel_rfl) (by kernel_rfl) (by kernel_rfl) (yx_val (wantAll rfl) (fun w' hx' => rv_move rfl (fr_eval rfl rfl))) ?_
      refine xl_take (i := 18) (v := .bool true) rfl (by kernel_rfl) (by kernel_rfl) (by kernel_rfl) (by kernel_rfl) (yx_call (wantF (d := 109) rfl (by kernel_rfl) rfl rfl) (fun w' => rv_call (args := []) rfl evn Try.call18) (fun w' hx' => awake01_calls _)) ?_
      refine xl_take (i := 19) (v := .bool true) rfl (by kernel_rfl) (by kernel_rfl) (by kernel_rfl) (by kernel_rfl) (yx_val (wantAll rfl) (fun w' hx' => rv_pickT rfl (fr_eval rfl rfl) (fr_eval rfl rfl))) ?_
      refine xl_tail (s := 20) rfl ?_
      intro w24 hx
      replace hC := hC.trans hx
      replace hr := Rd.ext hr hx
      replace hy_g2 := EyeAt.ext hy_g2 hx
      replace ho1 := Own.ext ho1 hx
      replace hB1 : B1 ≤ w24.heap.size := by have := Chg.size hx; omega
      clear hx
      clear hB1
      refine lf_val (v := .bool true) (wantAll rfl) (rv_assign rfl (fr_eval rfl rfl)) ?_
      refine lf_nil ?_
      refine then_n ?_
      refine wp_gen (fun F' => F' 0 = cutV v b 200 ∧ F' 1 = .int .i64 ((k : Nat) : Int) ∧ F' 4 = .bool true ∧ F' 5 = .pointer none ∧ F' 6 = .pointer none ∧ F' 7 = .pointer (some ⟨g2, 0, none⟩) ∧ F' 8 = y1 ∧ F' 67 = .bool false ∧ F' 80 = .bool false) ⟨e0, e1, rfl, e5, e6, e7, e8, e67, e80⟩ ?_
      clear e0 e1 e4 e5 e6 e7 e8 e67 e80
      clear F
      rintro F ⟨e0, e1, e4, e5, e6, e7, e8, e67, e80⟩
      refine wp_ret ?_
      exact bodyPost_ret (v := (.bool true)) (res1 rfl (ro_tmp rfl e4)) rfl (⟨rfl, hC⟩)

end Go.Proofs.Ytjgcjddaladgfaa
