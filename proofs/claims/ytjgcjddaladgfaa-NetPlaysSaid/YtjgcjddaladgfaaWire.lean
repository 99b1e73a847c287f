/- Contracts of an eye: what it reads. -/
import Derived.Test.YtjgcjddaladgfaaEye
namespace Go.Proofs.Ytjgcjddaladgfaa
open Go.RowKit Go.Bz Go.Bz.Wire
attribute [local irreducible] wpList Code.wp wpAnyX

set_option maxRecDepth 100000 in
set_option maxHeartbeats 4000000 in
theorem err_calls {g : Nat} {v : Value} {e : Int} (w : World) (hb0 : Blk w g [v, .int .i64 e] 103) :
    Calls Try.prog 17 #[.pointer (some ⟨g, 0, none⟩)] w fun e'' w' => e'' = .returned (.int .i64 e) ∧ Ext w w' := by
  refine calls_fr (args := [.pointer (some ⟨g, 0, none⟩)]) (n := 9) Try.func17 rfl rfl (show 1 ≤ 9 by decide) ?_
  have hC : Ext w w := Chg.refl _ _
  have h_g := hb0
  refine wp_seq ?_
  refine wp_gen (fun F' => F' 0 = .pointer (some ⟨g, 0, none⟩)) rfl ?_
  rintro F e0
  refine wp_regionF ?_
  refine lf_val (v := .int .i64 0) (wantAll rfl) (rv_assign rfl rfl) ?_
  refine lf_nil ?_
  refine then_n ?_
  refine wp_seq ?_
  refine wp_seq ?_
  refine wp_gen (fun F' => F' 0 = .pointer (some ⟨g, 0, none⟩) ∧ F' 2 = .int .i64 0) ⟨e0, rfl⟩ ?_
  clear e0
  clear F
  rintro F ⟨e0, e2⟩
  refine wp_regionF ?_
  refine lf_val (v := .pointer (some ⟨g, 0, none⟩)) (wantAll rfl) (rv_move rfl (fr_eval rfl e0)) ?_
  refine lf_val (v := .bool false) (wantAll rfl) (rv_eqnil (p := (some ⟨g, 0, none⟩)) rfl (fr_eval rfl rfl) rfl Try.underlying24) ?_
  refine lf_nil ?_
  refine then_n ?_
  refine wp_gen (fun F' => F' 0 = .pointer (some ⟨g, 0, none⟩) ∧ F' 2 = .int .i64 0 ∧ F' 4 = .bool false) ⟨e0, e2, rfl⟩ ?_
  clear e0 e2
  clear F
  rintro F ⟨e0, e2, e4⟩
  refine wp_cond_false (fr_eval rfl e4) ?_
  refine wp_skip ?_
  refine then_n ?_
  refine wp_seq ?_
  refine wp_regionF ?_
  refine lf_val (v := .pointer (some ⟨g, 0, none⟩)) (wantAll rfl) (rv_move rfl (fr_eval rfl e0)) ?_
  refine lf_val (v := .pointer (some ⟨g, 0, none⟩)) (wantAll rfl) (rv_nilCheck rfl (fr_eval rfl rfl)) ?_
  refine lf_val (v := .pointer (some ⟨g, 1, none⟩)) (wantAll rfl) (rv_fieldAddr (n := 0) rfl (fr_eval rfl rfl) Try.underlying103 rfl rfl (by kernel_rfl)) ?_
  refine lf_val (v := .int .i64 e) (wantAll rfl) (rv_load1 rfl h_g rfl (fr_eval rfl rfl) Try.underlying28 rfl Try.sz28) ?_
  refine lf_val (v := .int .i64 e) (wantAll rfl) (rv_assign rfl (fr_eval rfl rfl)) ?_
  refine lf_nil ?_
  refine then_n ?_
  refine wp_gen (fun F' => F' 0 = .pointer (some ⟨g, 0, none⟩) ∧ F' 2 = .int .i64 e ∧ F' 4 = .bool false) ⟨e0, rfl, e4⟩ ?_
  clear e0 e2 e4
  clear F
  rintro F ⟨e0, e2, e4⟩
  refine wp_ret ?_
  exact bodyPost_ret (v := (.int .i64 e)) (res1 rfl (ro_tmp rfl e2)) rfl (⟨rfl, hC⟩)

set_option maxRecDepth 100000 in
set_option maxHeartbeats 4000000 in
theorem fail_calls {g : Nat} {v : Value} {e : Int} (e2 : Int) (w : World) (hb0 : Blk w g [v, .int .i64 e] 103) :
    Calls Try.prog 23 #[.pointer (some ⟨g, 0, none⟩), .int .i64 e2] w fun e'' w' => e'' = .returned (.tuple #[]) ∧ Blk w' g [v, .int .i64 (if e = 0 then e2 else e)] 103 ∧ Chg (· = g) w w' := by
  refine calls_fr (args := [.pointer (some ⟨g, 0, none⟩), .int .i64 e2]) (n := 17) Try.func23 rfl rfl (show 2 ≤ 17 by decide) ?_
  have hC : Chg (· = g) w w := Chg.refl _ _
  have h_g := hb0
  refine wp_seq ?_
  refine wp_gen (fun F' => F' 0 = .pointer (some ⟨g, 0, none⟩) ∧ F' 1 = .int .i64 e2) ⟨rfl, rfl⟩ ?_
  rintro F ⟨e0, e1⟩
  refine wp_regionF ?_
  refine lf_val (v := .pointer (some ⟨g, 0, none⟩)) (wantAll rfl) (rv_move rfl (fr_eval rfl e0)) ?_
  refine lf_val (v := .bool true) (wantAll rfl) (rv_nenil (p := (some ⟨g, 0, none⟩)) rfl (fr_eval rfl rfl) rfl Try.underlying24) ?_
  refine lf_val (v := .bool true) (wantAll rfl) (rv_move rfl (fr_eval rfl rfl)) ?_
  refine lf_val (v := .pointer (some ⟨g, 0, none⟩)) (wantF (d := 6) rfl (by kernel_rfl) rfl rfl) (rv_move rfl (fr_eval rfl e0)) ?_
  refine lf_val (v := .pointer (some ⟨g, 0, none⟩)) (wantF (d := 6) rfl (by kernel_rfl) rfl rfl) (rv_nilCheck rfl (fr_eval rfl rfl)) ?_
  refine lf_val (v := .pointer (some ⟨g, 1, none⟩)) (wantF (d := 6) rfl (by kernel_rfl) rfl rfl) (rv_fieldAddr (n := 0) rfl (fr_eval rfl rfl) Try.underlying103 rfl rfl (by kernel_rfl)) ?_
  refine lf_val (v := .int .i64 e) (wantF (d := 6) rfl (by kernel_rfl) rfl rfl) (rv_load1 rfl h_g rfl (fr_eval rfl rfl) Try.underlying28 rfl Try.sz28) ?_
  by_cases hc1 : e = 0
  · refine lf_val (v := .bool true) (wantF (d := 6) rfl (by kernel_rfl) rfl rfl) (rv_eql rfl (fr_eval rfl rfl) rfl (decide_eq_true (by omega))) ?_
    refine lf_val (v := .bool true) (wantAll rfl) (rv_pickT rfl (fr_eval rfl rfl) (fr_eval rfl rfl)) ?_
    refine lf_nil ?_
    refine then_n ?_
    refine wp_gen (fun F' => F' 0 = .pointer (some ⟨g, 0, none⟩) ∧ F' 1 = .int .i64 e2 ∧ F' 12 = .bool true) ⟨e0, e1, rfl⟩ ?_
    clear e0 e1
    clear F
    rintro F ⟨e0, e1, e12⟩
    refine wp_cond_true (fr_eval rfl e12) ?_
    refine wp_regionF ?_
    refine lf_val (v := .pointer (some ⟨g, 0, none⟩)) (wantAll rfl) (rv_move rfl (fr_eval rfl e0)) ?_
    refine lf_val (v := .int .i64 e2) (wantAll rfl) (rv_move rfl (fr_eval rfl e1)) ?_
    refine lf_val (v := .pointer (some ⟨g, 0, none⟩)) (wantAll rfl) (rv_nilCheck rfl (fr_eval rfl rfl)) ?_
    refine lf_val (v := .pointer (some ⟨g, 1, none⟩)) (wantAll rfl) (rv_fieldAddr (n := 0) rfl (fr_eval rfl rfl) Try.underlying103 rfl rfl (by kernel_rfl)) ?_
    refine lf_sk (wantAll rfl) (ex_storeC (j := 1) rfl h_g (show 1 < 2 by decide) rfl (fr_eval rfl rfl) (fr_eval rfl rfl) Try.sz28 rfl) ?_
    rintro w1 ⟨h_g', hx⟩
    replace h_g' : Blk w1 g ([v, .int .i64 e2]) 103 := h_g'
    replace hC := hC.trans hx
    replace h_g := h_g'
    clear h_g'
    clear hx
    refine lf_nil ?_
    exact bodyPost_end (v := .tuple #[]) (res0 rfl) rfl (⟨rfl, (by first | (rw [if_pos (by assumption)]; exact h_g) | (rw [if_neg (by assumption)]; exact h_g)), hC⟩)
  · refine lf_val (v := .bool false) (wantF (d := 6) rfl (by kernel_rfl) rfl rfl) (rv_eql rfl (fr_eval rfl rfl) rfl (decide_eq_false (by omega))) ?_
    refine lf_val (v := .bool false) (wantAll rfl) (rv_pickT rfl (fr_eval rfl rfl) (fr_eval rfl rfl)) ?_
    refine lf_nil ?_
    refine then_n ?_
    refine wp_gen (fun F' => F' 0 = .pointer (some ⟨g, 0, none⟩) ∧ F' 1 = .int .i64 e2 ∧ F' 12 = .bool false) ⟨e0, e1, rfl⟩ ?_
    clear e0 e1
    clear F
    rintro F ⟨e0, e1, e12⟩
    refine wp_cond_false (fr_eval rfl e12) ?_
    refine wp_skip ?_
    exact bodyPost_end (v := .tuple #[]) (res0 rfl) rfl (⟨rfl, (by first | (rw [if_pos (by assumption)]; exact h_g) | (rw [if_neg (by assumption)]; exact h_g)), hC⟩)

theorem num_post {g : Nat} {v0 : Value} {r r' : List UInt8} {e : Int} {a b c : Nat} {w w' : World} (h : numV r e = b ∧ numR r e = r.drop c ∧ numE r e = a) (hr : r.drop c = r') (he : EyeAt w' g v0 r' (a : Int)) (hC : Chg (· = g) w w') : Ending.returned (.int .i64 (b : Int)) = .returned (.int .i64 ((numV r e : Nat) : Int)) ∧ EyeAt w' g v0 (numR r e) (numE r e) ∧ Chg (· = g) w w' := by
  obtain ⟨h1, h2, h3⟩ := h
  rw [h1, h2, h3, hr]; exact ⟨rfl, he, hC⟩
theorem num_post0 {g : Nat} {v0 : Value} {r : List UInt8} {e : Int} {w w' : World} (h : numV r e = 0 ∧ numR r e = r ∧ numE r e = e) (he : EyeAt w' g v0 r e) (hC : Chg (· = g) w w') : Ending.returned (.int .i64 (0 : Int)) = .returned (.int .i64 ((numV r e : Nat) : Int)) ∧ EyeAt w' g v0 (numR r e) (numE r e) ∧ Chg (· = g) w w' := by
  obtain ⟨h1, h2, h3⟩ := h
  rw [h1, h2, h3]; exact ⟨rfl, he, hC⟩

set_option maxRecDepth 100000 in
set_option maxHeartbeats 4000000 in
theorem num_calls {g : Nat} {v0 : Value} {r : List UInt8} {e : Int} (w : World) (he0 : EyeAt w g v0 r e) (hne : v0.ownBlock ≠ some g) :
    Calls Try.prog 15 #[.pointer (some ⟨g, 0, none⟩)] w fun e'' w' => e'' = .returned (.int .i64 ((numV r e : Nat) : Int)) ∧ EyeAt w' g v0 (numR r e) (numE r e) ∧ Chg (· = g) w w' := by
  obtain ⟨v, hb0, hr0, hov, hrl⟩ := he0
  refine calls_fr (args := [.pointer (some ⟨g, 0, none⟩)]) (n := 61) Try.func15 rfl rfl (show 1 ≤ 61 by decide) ?_
  have hC : Chg (· = g) w w := Chg.refl _ _
  have hr := hr0
  have h_g := hb0
  refine wp_seq ?_
  refine wp_gen (fun F' => F' 0 = .pointer (some ⟨g, 0, none⟩)) rfl ?_
  rintro F e0
  refine wp_regionF ?_
  refine lf_val (v := .int .i64 0) (wantAll rfl) (rv_assign rfl rfl) ?_
  refine lf_nil ?_
  refine then_n ?_
  refine wp_seq ?_
  refine wp_seq ?_
  refine wp_gen (fun F' => F' 0 = .pointer (some ⟨g, 0, none⟩) ∧ F' 2 = .int .i64 0) ⟨e0, rfl⟩ ?_
  clear e0
  clear F
  rintro F ⟨e0, e2⟩
  refine wp_regionF ?_
  refine lf_val (v := .pointer (some ⟨g, 0, none⟩)) (wantAll rfl) (rv_move rfl (fr_eval rfl e0)) ?_
  refine lf_call (wantAll rfl) (rv_call (args := [.pointer (some ⟨g, 0, none⟩)]) rfl (evc (fr_eval rfl rfl) evn) Try.call17) (err_calls _ h_g) ?_
  rintro _ w1 ⟨rfl, hx⟩
  refine ⟨_, rfl, ?_⟩
  replace hC := hC.trans (Ext.any hx)
  replace hr := Rd.ext hr hx
  replace h_g := Blk.ext h_g hx
  clear hx
  by_cases hc1 : e = 0
  · refine lf_val (v := .bool false) (wantAll rfl) (rv_neq rfl (fr_eval rfl rfl) rfl (decide_eq_true (by omega))) ?_
    refine lf_nil ?_
    refine then_n ?_
    refine wp_gen (fun F' => F' 0 = .pointer (some ⟨g, 0, none⟩) ∧ F' 2 = .int .i64 0 ∧ F' 8 = .bool false) ⟨e0, e2, rfl⟩ ?_
    clear e0 e2
    clear F
    rintro F ⟨e0, e2, e8⟩
    refine wp_cond_false (fr_eval rfl e8) ?_
    refine wp_skip ?_
    refine then_n ?_
    refine wp_seq ?_
    have hmx := RdB.max hr0
    refine wp_regionF ?_
    refine lf_val (v := .int .u64 0) (wantAll rfl) (rv_assign rfl rfl) ?_
    refine lf_nil ?_
    refine then_n ?_
    refine wp_seq ?_
    refine wp_seq ?_
    refine wp_gen (fun F' => F' 0 = .pointer (some ⟨g, 0, none⟩) ∧ F' 2 = .int .i64 0 ∧ F' 3 = .int .u64 0 ∧ F' 8 = .bool false) ⟨e0, e2, rfl, e8⟩ ?_
    clear e0 e2 e8
    clear F
    rintro F ⟨e0, e2, e3, e8⟩
    refine wp_regionF ?_
    refine lf_val (v := .int .i64 0) (wantAll rfl) (rv_move rfl rfl) ?_
    refine lf_nil ?_
    refine then_n ?_
    refine wp_block ?_
    refine wp_gen (fun F' => F' 0 = .pointer (some ⟨g, 0, none⟩) ∧ F' 2 = .int .i64 0 ∧ F' 3 = .int .u64 0 ∧ F' 8 = .bool false ∧ F' 9 = .int .i64 0) ⟨e0, e2, e3, e8, rfl⟩ ?_
    clear e0 e2 e3 e8
    clear F
    rintro F ⟨e0, e2, e3, e8, e9⟩
    refine wp_loopF (fun m F wr => ∃ i : Nat, ∃ n : Nat, m = 9 - i ∧ i ≤ 9 ∧ n < 128 ^ i ∧ num r = numGo r (9 - i) i n ∧ F 0 = .pointer (some ⟨g, 0, none⟩) ∧ F 3 = .int .u64 ((n : Nat) : Int) ∧ F 8 = .bool false ∧ F 9 = .int .i64 ((i : Nat) : Int) ∧ RdB wr v r ∧ Blk wr g ([v, .int .i64 e]) 103 ∧ Chg (· = g) w wr) ⟨0, 0, rfl, Nat.zero_le _, (by decide), rfl, e0, e3, e8, e9, hr, h_g, hC⟩ ?_
    clear e0 e2 e3 e8 e9 hr h_g hC
    clear F
    rintro m F w2 ⟨i, n, rfl, pi0, pi1, pi2, e0, e3, e8, e9, hr, h_g, hC⟩
    refine wp_seq ?_
    refine wp_regionF ?_
    by_cases hc2 : i < 9
    · refine lf_val (v := .bool true) (wantAll rfl) (rv_lss rfl (fr_eval rfl e9) rfl (decide_eq_true (by omega))) ?_
      refine lf_nil ?_
      refine then_n ?_
      refine wp_seq ?_
      refine wp_gen (fun F' => F' 0 = .pointer (some ⟨g, 0, none⟩) ∧ F' 3 = .int .u64 ((n : Nat) : Int) ∧ F' 8 = .bool false ∧ F' 9 = .int .i64 ((i : Nat) : Int) ∧ F' 10 = .bool true) ⟨e0, e3, e8, e9, rfl⟩ ?_
      clear e0 e3 e8 e9
      clear F
      rintro F ⟨e0, e3, e8, e9, e10⟩
      refine wp_cond_true (fr_eval rfl e10) ?_
      refine wp_skip ?_
      refine then_n ?_
      refine wp_seq ?_
      refine wp_block ?_
      refine wp_seq ?_
      refine wp_regionF ?_
      refine lf_val (v := .int .i64 ((i : Nat) : Int)) (wantAll rfl) (rv_move rfl (fr_eval rfl e9)) ?_
      refine lf_val (v := .int .i64 ((i : Nat) : Int)) (wantAll rfl) (rv_assign rfl (fr_eval rfl rfl)) ?_
      refine lf_nil ?_
      refine then_n ?_
      refine wp_seq ?_
      refine wp_seq ?_
      refine wp_gen (fun F' => F' 0 = .pointer (some ⟨g, 0, none⟩) ∧ F' 3 = .int .u64 ((n : Nat) : Int) ∧ F' 4 = .int .i64 ((i : Nat) : Int) ∧ F' 8 = .bool false ∧ F' 9 = .int .i64 ((i : Nat) : Int) ∧ F' 10 = .bool true) ⟨e0, e3, rfl, e8, e9, e10⟩ ?_
      clear e0 e3 e8 e9 e10
      clear F
      rintro F ⟨e0, e3, e4, e8, e9, e10⟩
      refine wp_regionF ?_
      refine lf_val (v := .int .i64 ((i : Nat) : Int)) (wantAll rfl) (rv_move rfl (fr_eval rfl e4)) ?_
      refine lf_val (v := .pointer (some ⟨g, 0, none⟩)) (wantAll rfl) (rv_move rfl (fr_eval rfl e0)) ?_
      refine lf_val (v := .pointer (some ⟨g, 0, none⟩)) (wantAll rfl) (rv_nilCheck rfl (fr_eval rfl rfl)) ?_
      refine lf_val (v := .pointer (some ⟨g, 0, none⟩)) (wantAll rfl) (rv_fieldAddr (n := 0) rfl (fr_eval rfl rfl) Try.underlying103 rfl rfl (by kernel_rfl)) ?_
      refine lf_val (v := v) (wantAll rfl) (rv_load1 rfl h_g rfl (fr_eval rfl rfl) Try.underlying22 rfl Try.sz22) ?_
      refine lf_val (v := .int .i64 ((r.length : Nat) : Int)) (wantAll rfl) (rv_len rfl (fr_eval rfl rfl) (RdB.rn hr rfl) Try.underlying22) ?_
      by_cases hc3 : i ≥ r.length
      · refine lf_val (v := .bool true) (wantAll rfl) (rv_geq rfl (fr_eval rfl rfl) (fr_eval rfl rfl) (decide_eq_true (by omega))) ?_
        refine lf_nil ?_
        refine then_n ?_
        refine wp_gen (fun F' => F' 0 = .pointer (some ⟨g, 0, none⟩) ∧ F' 3 = .int .u64 ((n : Nat) : Int) ∧ F' 4 = .int .i64 ((i : Nat) : Int) ∧ F' 8 = .bool false ∧ F' 9 = .int .i64 ((i : Nat) : Int) ∧ F' 10 = .bool true ∧ F' 18 = .bool true) ⟨e0, e3, e4, e8, e9, e10, rfl⟩ ?_
        clear e0 e3 e4 e8 e9 e10
        clear F
        rintro F ⟨e0, e3, e4, e8, e9, e10, e18⟩
        refine wp_cond_true (fr_eval rfl e18) ?_
        refine wp_seq ?_
        have hn : num r = (2, 0, 0) := by rw [pi2]; exact go_short (by omega) (by omega)
        refine wp_regionF ?_
        refine lf_val (v := .pointer (some ⟨g, 0, none⟩)) (wantAll rfl) (rv_move rfl (fr_eval rfl e0)) ?_
        refine lf_call (wantAll rfl) (rv_call (args := [.pointer (some ⟨g, 0, none⟩), .int .i64 2]) rfl (evc (fr_eval rfl rfl) (evc rfl evn)) Try.call23) (fail_calls 2 _ h_g) ?_
        rintro _ w3 ⟨rfl, h_g', hx⟩
        refine ⟨_, rfl, ?_⟩
        replace hr := Rd.keep hr hx (fun b hb h0 e => by have e : b = g := e; exact absurd hb (by rw [hov (by simpa using h0), e]; exact hne))
        replace hC := hC.trans hx
        replace h_g := h_g'
        clear h_g' hx
        refine lf_nil ?_
        refine then_n ?_
        refine wp_seq ?_
        refine wp_gen (fun F' => F' 0 = .pointer (some ⟨g, 0, none⟩) ∧ F' 3 = .int .u64 ((n : Nat) : Int) ∧ F' 4 = .int .i64 ((i : Nat) : Int) ∧ F' 8 = .bool false ∧ F' 9 = .int .i64 ((i : Nat) : Int) ∧ F' 10 = .bool true ∧ F' 18 = .bool true) ⟨e0, e3, e4, e8, e9, e10, e18⟩ ?_
        clear e0 e3 e4 e8 e9 e10 e18
        clear F
        rintro F ⟨e0, e3, e4, e8, e9, e10, e18⟩
        refine wp_regionF ?_
        refine lf_val (v := .int .i64 0) (wantAll rfl) (rv_assign rfl rfl) ?_
        refine lf_nil ?_
        refine then_n ?_
        refine wp_gen (fun F' => F' 0 = .pointer (some ⟨g, 0, none⟩) ∧ F' 2 = .int .i64 0 ∧ F' 3 = .int .u64 ((n : Nat) : Int) ∧ F' 4 = .int .i64 ((i : Nat) : Int) ∧ F' 8 = .bool false ∧ F' 9 = .int .i64 ((i : Nat) : Int) ∧ F' 10 = .bool true ∧ F' 18 = .bool true) ⟨e0, rfl, e3, e4, e8, e9, e10, e18⟩ ?_
        clear e0 e3 e4 e8 e9 e10 e18
        clear F
        rintro F ⟨e0, e2, e3, e4, e8, e9, e10, e18⟩
        refine wp_ret ?_
        refine then_ret ?_
        refine blk_ret ?_
        refine then_ret ?_
        refine then_ret ?_
        refine blk_ret ?_
        refine then_ret ?_
        exact bodyPost_ret (v := (.int .i64 0)) (res1 rfl (ro_tmp rfl e2)) rfl (num_post (num_ok hc1 hn) rfl ⟨_, (by have h := h_g; rw [if_pos hc1] at h; exact h), hr, hov, hrl⟩ hC)
      · refine lf_val (v := .bool false) (wantAll rfl) (rv_geq rfl (fr_eval rfl rfl) (fr_eval rfl rfl) (decide_eq_false (by omega))) ?_
        refine lf_nil ?_
        refine then_n ?_
        refine wp_gen (fun F' => F' 0 = .pointer (some ⟨g, 0, none⟩) ∧ F' 3 = .int .u64 ((n : Nat) : Int) ∧ F' 4 = .int .i64 ((i : Nat) : Int) ∧ F' 8 = .bool false ∧ F' 9 = .int .i64 ((i : Nat) : Int) ∧ F' 10 = .bool true ∧ F' 18 = .bool false) ⟨e0, e3, e4, e8, e9, e10, rfl⟩ ?_
        clear e0 e3 e4 e8 e9 e10
        clear F
        rintro F ⟨e0, e3, e4, e8, e9, e10, e18⟩
        refine wp_cond_false (fr_eval rfl e18) ?_
        refine wp_skip ?_
        refine then_n ?_
        refine wp_seq ?_
        refine wp_regionF ?_
        refine lf_val (v := .pointer (some ⟨g, 0, none⟩)) (wantAll rfl) (rv_move rfl (fr_eval rfl e0)) ?_
        refine lf_val (v := .pointer (some ⟨g, 0, none⟩)) (wantAll rfl) (rv_nilCheck rfl (fr_eval rfl rfl)) ?_
        refine lf_val (v := .pointer (some ⟨g, 0, none⟩)) (wantAll rfl) (rv_fieldAddr (n := 0) rfl (fr_eval rfl rfl) Try.underlying103 rfl rfl (by kernel_rfl)) ?_
        refine lf_val (v := v) (wantAll rfl) (rv_load1 rfl h_g rfl (fr_eval rfl rfl) Try.underlying22 rfl Try.sz22) ?_
        refine lf_val (v := .int .i64 ((i : Nat) : Int)) (wantAll rfl) (rv_move rfl (fr_eval rfl e4)) ?_
        refine lf_val (v := .pointer (some (elemA v (i * 1)))) (wantAll rfl) (rv_index rfl (fr_eval rfl rfl) (fr_eval rfl rfl) hr (by omega) Try.underlying22 Try.sz5 (by decide)) ?_
        refine lf_val (v := cB (List.getD r i 0)) (wantAll rfl) (rv_loadCell rfl (fr_eval rfl rfl) (Nat.mul_one _) hr (cell_b rfl (by omega)) Try.underlying5 rfl Try.sz5) ?_
        refine lf_val (v := cB (List.getD r i 0)) (wantAll rfl) (rv_assign rfl (fr_eval rfl rfl)) ?_
        refine lf_nil ?_
        refine then_n ?_
        refine wp_seq ?_
        refine wp_gen (fun F' => F' 0 = .pointer (some ⟨g, 0, none⟩) ∧ F' 3 = .int .u64 ((n : Nat) : Int) ∧ F' 4 = .int .i64 ((i : Nat) : Int) ∧ F' 5 = cB (List.getD r i 0) ∧ F' 8 = .bool false ∧ F' 9 = .int .i64 ((i : Nat) : Int) ∧ F' 10 = .bool true ∧ F' 18 = .bool false) ⟨e0, e3, e4, rfl, e8, e9, e10, e18⟩ ?_
        clear e0 e3 e4 e8 e9 e10 e18
        clear F
        rintro F ⟨e0, e3, e4, e5, e8, e9, e10, e18⟩
        have hc256 := UInt8.toNat_lt (List.getD r i 0)
        refine wp_regionF ?_
        refine lf_val (v := .int .u64 ((n : Nat) : Int)) (wantAll rfl) (rv_move rfl (fr_eval rfl e3)) ?_
        refine lf_val (v := cB (List.getD r i 0)) (wantAll rfl) (rv_move rfl (fr_eval rfl e5)) ?_
        refine lf_val (v := .int .u8 (((List.getD r i 0).toNat % 128 : Nat) : Int)) (wantAll rfl) (rv_and rfl (fr_eval rfl rfl) rfl (and127_nat _ hc256)) ?_
        refine lf_val (v := .int .u64 (((List.getD r i 0).toNat % 128 : Nat) : Int)) (wantAll rfl) (rv_conv rfl (fr_eval rfl rfl) Try.underlying5 Try.underlying104 (wrap_u64n (by omega))) ?_
        refine lf_val (v := .int .i64 ((i : Nat) : Int)) (wantAll rfl) (rv_move rfl (fr_eval rfl e4)) ?_
        refine lf_val (v := .int .i64 ((7 * i : Nat) : Int)) (wantAll rfl) (rv_mul rfl rfl (fr_eval rfl rfl) (wrap_i64 (by omega) (by omega) (by omega))) ?_
        refine lf_val (v := .int .u64 (((List.getD r i 0).toNat % 128 * 128 ^ i : Nat) : Int)) (wantAll rfl) (rv_shl rfl (fr_eval rfl rfl) (fr_eval rfl rfl) (shl_num (by omega) (by omega))) ?_
        refine lf_val (v := .int .u64 ((n + (List.getD r i 0).toNat % 128 * 128 ^ i : Nat) : Int)) (wantAll rfl) (rv_or rfl (fr_eval rfl rfl) (fr_eval rfl rfl) (or_num pi1 (by omega) (by omega))) ?_
        refine lf_val (v := .int .u64 ((n + (List.getD r i 0).toNat % 128 * 128 ^ i : Nat) : Int)) (wantAll rfl) (rv_assign rfl (fr_eval rfl rfl)) ?_
        refine lf_nil ?_
        refine then_n ?_
        refine wp_seq ?_
        refine wp_gen (fun F' => F' 0 = .pointer (some ⟨g, 0, none⟩) ∧ F' 3 = .int .u64 ((n + (List.getD r i 0).toNat % 128 * 128 ^ i : Nat) : Int) ∧ F' 4 = .int .i64 ((i : Nat) : Int) ∧ F' 5 = cB (List.getD r i 0) ∧ F' 8 = .bool false ∧ F' 9 = .int .i64 ((i : Nat) : Int) ∧ F' 10 = .bool true ∧ F' 18 = .bool false) ⟨e0, rfl, e4, e5, e8, e9, e10, e18⟩ ?_
        clear e0 e3 e4 e5 e8 e9 e10 e18
        clear F
        rintro F ⟨e0, e3, e4, e5, e8, e9, e10, e18⟩
        refine wp_regionF ?_
        refine lf_val (v := cB (List.getD r i 0)) (wantAll rfl) (rv_move rfl (fr_eval rfl e5)) ?_
        by_cases hc4 : (List.getD r i 0).toNat < 128
        · refine lf_val (v := .bool true) (wantAll rfl) (rv_lss rfl (fr_eval rfl rfl) rfl (decide_eq_true (by omega))) ?_
          refine lf_nil ?_
          refine then_n ?_
          refine wp_gen (fun F' => F' 0 = .pointer (some ⟨g, 0, none⟩) ∧ F' 3 = .int .u64 ((n + (List.getD r i 0).toNat % 128 * 128 ^ i : Nat) : Int) ∧ F' 4 = .int .i64 ((i : Nat) : Int) ∧ F' 5 = cB (List.getD r i 0) ∧ F' 8 = .bool false ∧ F' 9 = .int .i64 ((i : Nat) : Int) ∧ F' 10 = .bool true ∧ F' 18 = .bool false ∧ F' 37 = .bool true) ⟨e0, e3, e4, e5, e8, e9, e10, e18, rfl⟩ ?_
          clear e0 e3 e4 e5 e8 e9 e10 e18
          clear F
          rintro F ⟨e0, e3, e4, e5, e8, e9, e10, e18, e37⟩
          refine wp_cond_true (fr_eval rfl e37) ?_
          refine wp_seq ?_
          refine wp_seq ?_
          refine wp_regionF ?_
          refine lf_val (v := cB (List.getD r i 0)) (wantAll rfl) (rv_move rfl (fr_eval rfl e5)) ?_
          by_cases hc5 : (List.getD r i 0).toNat = 0
          · refine lf_val (v := .bool true) (wantAll rfl) (rv_eql rfl (fr_eval rfl rfl) rfl (decide_eq_true (by omega))) ?_
            refine lf_val (v := .bool true) (wantAll rfl) (rv_move rfl (fr_eval rfl rfl)) ?_
            refine lf_val (v := .int .i64 ((i : Nat) : Int)) (wantF (d := 40) rfl (by kernel_rfl) rfl rfl) (rv_move rfl (fr_eval rfl e4)) ?_
            by_cases hc6 : i > 0
            · refine lf_val (v := .bool true) (wantF (d := 40) rfl (by kernel_rfl) rfl rfl) (rv_gtr rfl (fr_eval rfl rfl) rfl (decide_eq_true (by omega))) ?_
              refine lf_val (v := .bool true) (wantAll rfl) (rv_pickT rfl (fr_eval rfl rfl) (fr_eval rfl rfl)) ?_
              refine lf_nil ?_
              refine then_n ?_
              refine wp_gen (fun F' => F' 0 = .pointer (some ⟨g, 0, none⟩) ∧ F' 3 = .int .u64 ((n + (List.getD r i 0).toNat % 128 * 128 ^ i : Nat) : Int) ∧ F' 4 = .int .i64 ((i : Nat) : Int) ∧ F' 5 = cB (List.getD r i 0) ∧ F' 8 = .bool false ∧ F' 9 = .int .i64 ((i : Nat) : Int) ∧ F' 10 = .bool true ∧ F' 18 = .bool false ∧ F' 37 = .bool true ∧ F' 43 = .bool true) ⟨e0, e3, e4, e5, e8, e9, e10, e18, e37, rfl⟩ ?_
              clear e0 e3 e4 e5 e8 e9 e10 e18 e37
              clear F
              rintro F ⟨e0, e3, e4, e5, e8, e9, e10, e18, e37, e43⟩
              refine wp_cond_true (fr_eval rfl e43) ?_
              refine wp_seq ?_
              have hn : num r = (4, 0, 0) := by rw [pi2]; exact go_zero (by omega) (by omega) (by omega) (by omega)
              refine wp_regionF ?_
              refine lf_val (v := .pointer (some ⟨g, 0, none⟩)) (wantAll rfl) (rv_move rfl (fr_eval rfl e0)) ?_
              refine lf_call (wantAll rfl) (rv_call (args := [.pointer (some ⟨g, 0, none⟩), .int .i64 4]) rfl (evc (fr_eval rfl rfl) (evc rfl evn)) Try.call23) (fail_calls 4 _ h_g) ?_
              rintro _ w4 ⟨rfl, h_g', hx⟩
              refine ⟨_, rfl, ?_⟩
              replace hr := Rd.keep hr hx (fun b hb h0 e => by have e : b = g := e; exact absurd hb (by rw [hov (by simpa using h0), e]; exact hne))
              replace hC := hC.trans hx
              replace h_g := h_g'
              clear h_g' hx
              refine lf_nil ?_
              refine then_n ?_
              refine wp_seq ?_
              refine wp_gen (fun F' => F' 0 = .pointer (some ⟨g, 0, none⟩) ∧ F' 3 = .int .u64 ((n + (List.getD r i 0).toNat % 128 * 128 ^ i : Nat) : Int) ∧ F' 4 = .int .i64 ((i : Nat) : Int) ∧ F' 5 = cB (List.getD r i 0) ∧ F' 8 = .bool false ∧ F' 9 = .int .i64 ((i : Nat) : Int) ∧ F' 10 = .bool true ∧ F' 18 = .bool false ∧ F' 37 = .bool true ∧ F' 43 = .bool true) ⟨e0, e3, e4, e5, e8, e9, e10, e18, e37, e43⟩ ?_
              clear e0 e3 e4 e5 e8 e9 e10 e18 e37 e43
              clear F
              rintro F ⟨e0, e3, e4, e5, e8, e9, e10, e18, e37, e43⟩
              refine wp_regionF ?_
              refine lf_val (v := .int .i64 0) (wantAll rfl) (rv_assign rfl rfl) ?_
              refine lf_nil ?_
              refine then_n ?_
              refine wp_gen (fun F' => F' 0 = .pointer (some ⟨g, 0, none⟩) ∧ F' 2 = .int .i64 0 ∧ F' 3 = .int .u64 ((n + (List.getD r i 0).toNat % 128 * 128 ^ i : Nat) : Int) ∧ F' 4 = .int .i64 ((i : Nat) : Int) ∧ F' 5 = cB (List.getD r i 0) ∧ F' 8 = .bool false ∧ F' 9 = .int .i64 ((i : Nat) : Int) ∧ F' 10 = .bool true ∧ F' 18 = .bool false ∧ F' 37 = .bool true ∧ F' 43 = .bool true) ⟨e0, rfl, e3, e4, e5, e8, e9, e10, e18, e37, e43⟩ ?_
              clear e0 e3 e4 e5 e8 e9 e10 e18 e37 e43
              clear F
              rintro F ⟨e0, e2, e3, e4, e5, e8, e9, e10, e18, e37, e43⟩
              refine wp_ret ?_
              refine then_ret ?_
              refine blk_ret ?_
              refine then_ret ?_
              refine then_ret ?_
              refine blk_ret ?_
              refine then_ret ?_
              exact bodyPost_ret (v := (.int .i64 0)) (res1 rfl (ro_tmp rfl e2)) rfl (num_post (num_ok hc1 hn) rfl ⟨_, (by have h := h_g; rw [if_pos hc1] at h; exact h), hr, hov, hrl⟩ hC)
            · refine lf_val (v := .bool false) (wantF (d := 40) rfl (by kernel_rfl) rfl rfl) (rv_gtr rfl (fr_eval rfl rfl) rfl (decide_eq_false (by omega))) ?_
              refine lf_val (v := .bool false) (wantAll rfl) (rv_pickT rfl (fr_eval rfl rfl) (fr_eval rfl rfl)) ?_
              refine lf_nil ?_
              refine then_n ?_
              refine wp_gen (fun F' => F' 0 = .pointer (some ⟨g, 0, none⟩) ∧ F' 3 = .int .u64 ((n + (List.getD r i 0).toNat % 128 * 128 ^ i : Nat) : Int) ∧ F' 4 = .int .i64 ((i : Nat) : Int) ∧ F' 5 = cB (List.getD r i 0) ∧ F' 8 = .bool false ∧ F' 9 = .int .i64 ((i : Nat) : Int) ∧ F' 10 = .bool true ∧ F' 18 = .bool false ∧ F' 37 = .bool true ∧ F' 43 = .bool false) ⟨e0, e3, e4, e5, e8, e9, e10, e18, e37, rfl⟩ ?_
              clear e0 e3 e4 e5 e8 e9 e10 e18 e37
              clear F
              rintro F ⟨e0, e3, e4, e5, e8, e9, e10, e18, e37, e43⟩
              refine wp_cond_false (fr_eval rfl e43) ?_
              refine wp_skip ?_
              refine then_n ?_
              refine wp_seq ?_
              have hn : num r = (0, n + (List.getD r i 0).toNat % 128 * 128 ^ i, i + 1) := by rw [pi2]; exact go_end (by omega) (by omega) (by omega) (by omega)
              refine wp_regionF ?_
              refine lf_val (v := .pointer (some ⟨g, 0, none⟩)) (wantAll rfl) (rv_move rfl (fr_eval rfl e0)) ?_
              refine lf_val (v := .pointer (some ⟨g, 0, none⟩)) (wantAll rfl) (rv_move rfl (fr_eval rfl e0)) ?_
              refine lf_val (v := .pointer (some ⟨g, 0, none⟩)) (wantAll rfl) (rv_nilCheck rfl (fr_eval rfl rfl)) ?_
              refine lf_val (v := .pointer (some ⟨g, 0, none⟩)) (wantAll rfl) (rv_fieldAddr (n := 0) rfl (fr_eval rfl rfl) Try.underlying103 rfl rfl (by kernel_rfl)) ?_
              refine lf_val (v := v) (wantAll rfl) (rv_load1 rfl h_g rfl (fr_eval rfl rfl) Try.underlying22 rfl Try.sz22) ?_
              refine lf_val (v := .int .i64 ((i : Nat) : Int)) (wantAll rfl) (rv_move rfl (fr_eval rfl e4)) ?_
              refine lf_val (v := .int .i64 ((i + 1 : Nat) : Int)) (wantAll rfl) (rv_add rfl (fr_eval rfl rfl) rfl (wrap_i64 (by omega) (by omega) (by omega))) ?_
              refine lf_val (v := slcV v 1 (i + 1) r.length) (wantAll rfl) (rv_slcL (l := i + 1) Try.stB rfl (fr_eval rfl rfl) (RdB.rn hr rfl) (fr_eval rfl rfl) (by omega)) ?_
              refine lf_val (v := .pointer (some ⟨g, 0, none⟩)) (wantAll rfl) (rv_nilCheck rfl (fr_eval rfl rfl)) ?_
              refine lf_val (v := .pointer (some ⟨g, 0, none⟩)) (wantAll rfl) (rv_fieldAddr (n := 0) rfl (fr_eval rfl rfl) Try.underlying103 rfl rfl (by kernel_rfl)) ?_
              refine lf_sk (wantAll rfl) (ex_storeC (j := 0) rfl h_g (show 0 < 2 by decide) rfl (fr_eval rfl rfl) (fr_eval rfl rfl) Try.sz22 (Rd.oneV (rdB_slcL (l := i + 1) (RdB.rn hr rfl) (by omega)))) ?_
              rintro w5 ⟨h_g', hx⟩
              replace h_g' : Blk w5 g ([slcV v 1 (i + 1) r.length, .int .i64 e]) 103 := h_g'
              replace hr := Rd.keep hr hx (fun b hb h0 e => by have e : b = g := e; exact absurd hb (by rw [hov (by simpa using h0), e]; exact hne))
              replace hC := hC.trans hx
              replace h_g := h_g'
              clear h_g'
              clear hx
              refine lf_nil ?_
              refine then_n ?_
              refine wp_seq ?_
              refine wp_gen (fun F' => F' 0 = .pointer (some ⟨g, 0, none⟩) ∧ F' 3 = .int .u64 ((n + (List.getD r i 0).toNat % 128 * 128 ^ i : Nat) : Int) ∧ F' 4 = .int .i64 ((i : Nat) : Int) ∧ F' 5 = cB (List.getD r i 0) ∧ F' 8 = .bool false ∧ F' 9 = .int .i64 ((i : Nat) : Int) ∧ F' 10 = .bool true ∧ F' 18 = .bool false ∧ F' 37 = .bool true ∧ F' 43 = .bool false) ⟨e0, e3, e4, e5, e8, e9, e10, e18, e37, e43⟩ ?_
              clear e0 e3 e4 e5 e8 e9 e10 e18 e37 e43
              clear F
              rintro F ⟨e0, e3, e4, e5, e8, e9, e10, e18, e37, e43⟩
              refine wp_regionF ?_
              refine lf_val (v := .int .u64 ((n + (List.getD r i 0).toNat % 128 * 128 ^ i : Nat) : Int)) (wantAll rfl) (rv_move rfl (fr_eval rfl e3)) ?_
              refine lf_val (v := .int .i64 ((n + (List.getD r i 0).toNat % 128 * 128 ^ i : Nat) : Int)) (wantAll rfl) (rv_conv rfl (fr_eval rfl rfl) Try.underlying104 Try.underlying3 (wrap_nat (next_fit (by omega) pi1))) ?_
              refine lf_val (v := .int .i64 ((n + (List.getD r i 0).toNat % 128 * 128 ^ i : Nat) : Int)) (wantAll rfl) (rv_assign rfl (fr_eval rfl rfl)) ?_
              refine lf_nil ?_
              refine then_n ?_
              refine wp_gen (fun F' => F' 0 = .pointer (some ⟨g, 0, none⟩) ∧ F' 2 = .int .i64 ((n + (List.getD r i 0).toNat % 128 * 128 ^ i : Nat) : Int) ∧ F' 3 = .int .u64 ((n + (List.getD r i 0).toNat % 128 * 128 ^ i : Nat) : Int) ∧ F' 4 = .int .i64 ((i : Nat) : Int) ∧ F' 5 = cB (List.getD r i 0) ∧ F' 8 = .bool false ∧ F' 9 = .int .i64 ((i : Nat) : Int) ∧ F' 10 = .bool true ∧ F' 18 = .bool false ∧ F' 37 = .bool true ∧ F' 43 = .bool false) ⟨e0, rfl, e3, e4, e5, e8, e9, e10, e18, e37, e43⟩ ?_
              clear e0 e3 e4 e5 e8 e9 e10 e18 e37 e43
              clear F
              rintro F ⟨e0, e2, e3, e4, e5, e8, e9, e10, e18, e37, e43⟩
              refine wp_ret ?_
              refine blk_ret ?_
              refine then_ret ?_
              refine then_ret ?_
              refine blk_ret ?_
              refine then_ret ?_
              exact bodyPost_ret (v := (.int .i64 ((n + (List.getD r i 0).toNat % 128 * 128 ^ i : Nat) : Int))) (res1 rfl (ro_tmp rfl e2)) rfl (num_post (num_ok hc1 hn) rfl ⟨_, (by have h := h_g; rw [hc1] at h; exact h), rdB_slcL (l := i + 1) (RdB.rn hr rfl) (by omega), (fun h => by rw [slcV_own]; exact hov (by simp at h; omega)), (by simp; omega)⟩ hC)
          · refine lf_val (v := .bool false) (wantAll rfl) (rv_eql rfl (fr_eval rfl rfl) rfl (decide_eq_false (by omega))) ?_
            refine lf_val (v := .bool false) (wantAll rfl) (rv_move rfl (fr_eval rfl rfl)) ?_
            refine lf_not (wantNot (d := 40) rfl (by kernel_rfl) rfl rfl) ?_
            refine lf_not (wantNot (d := 40) rfl (by kernel_rfl) rfl rfl) ?_
            refine lf_val (v := .bool false) (wantAll rfl) (rv_pickF rfl (fr_eval rfl rfl) rfl) ?_
            refine lf_nil ?_
            refine then_n ?_
            refine wp_gen (fun F' => F' 0 = .pointer (some ⟨g, 0, none⟩) ∧ F' 3 = .int .u64 ((n + (List.getD r i 0).toNat % 128 * 128 ^ i : Nat) : Int) ∧ F' 4 = .int .i64 ((i : Nat) : Int) ∧ F' 5 = cB (List.getD r i 0) ∧ F' 8 = .bool false ∧ F' 9 = .int .i64 ((i : Nat) : Int) ∧ F' 10 = .bool true ∧ F' 18 = .bool false ∧ F' 37 = .bool true ∧ F' 43 = .bool false) ⟨e0, e3, e4, e5, e8, e9, e10, e18, e37, rfl⟩ ?_
            clear e0 e3 e4 e5 e8 e9 e10 e18 e37
            clear F
            rintro F ⟨e0, e3, e4, e5, e8, e9, e10, e18, e37, e43⟩
            refine wp_cond_false (fr_eval rfl e43) ?_
            refine wp_skip ?_
            refine then_n ?_
            refine wp_seq ?_
            have hn : num r = (0, n + (List.getD r i 0).toNat % 128 * 128 ^ i, i + 1) := by rw [pi2]; exact go_end (by omega) (by omega) (by omega) (by omega)
            refine wp_regionF ?_
            refine lf_val (v := .pointer (some ⟨g, 0, none⟩)) (wantAll rfl) (rv_move rfl (fr_eval rfl e0)) ?_
            refine lf_val (v := .pointer (some ⟨g, 0, none⟩)) (wantAll rfl) (rv_move rfl (fr_eval rfl e0)) ?_
            refine lf_val (v := .pointer (some ⟨g, 0, none⟩)) (wantAll rfl) (rv_nilCheck rfl (fr_eval rfl rfl)) ?_
            refine lf_val (v := .pointer (some ⟨g, 0, none⟩)) (wantAll rfl) (rv_fieldAddr (n := 0) rfl (fr_eval rfl rfl) Try.underlying103 rfl rfl (by kernel_rfl)) ?_
            refine lf_val (v := v) (wantAll rfl) (rv_load1 rfl h_g rfl (fr_eval rfl rfl) Try.underlying22 rfl Try.sz22) ?_
            refine lf_val (v := .int .i64 ((i : Nat) : Int)) (wantAll rfl) (rv_move rfl (fr_eval rfl e4)) ?_
            refine lf_val (v := .int .i64 ((i + 1 : Nat) : Int)) (wantAll rfl) (rv_add rfl (fr_eval rfl rfl) rfl (wrap_i64 (by omega) (by omega) (by omega))) ?_
            refine lf_val (v := slcV v 1 (i + 1) r.length) (wantAll rfl) (rv_slcL (l := i + 1) Try.stB rfl (fr_eval rfl rfl) (RdB.rn hr rfl) (fr_eval rfl rfl) (by omega)) ?_
            refine lf_val (v := .pointer (some ⟨g, 0, none⟩)) (wantAll rfl) (rv_nilCheck rfl (fr_eval rfl rfl)) ?_
            refine lf_val (v := .pointer (some ⟨g, 0, none⟩)) (wantAll rfl) (rv_fieldAddr (n := 0) rfl (fr_eval rfl rfl) Try.underlying103 rfl rfl (by kernel_rfl)) ?_
            refine lf_sk (wantAll rfl) (ex_storeC (j := 0) rfl h_g (show 0 < 2 by decide) rfl (fr_eval rfl rfl) (fr_eval rfl rfl) Try.sz22 (Rd.oneV (rdB_slcL (l := i + 1) (RdB.rn hr rfl) (by omega)))) ?_
            rintro w6 ⟨h_g', hx⟩
            replace h_g' : Blk w6 g ([slcV v 1 (i + 1) r.length, .int .i64 e]) 103 := h_g'
            replace hr := Rd.keep hr hx (fun b hb h0 e => by have e : b = g := e; exact absurd hb (by rw [hov (by simpa using h0), e]; exact hne))
            replace hC := hC.trans hx
            replace h_g := h_g'
            clear h_g'
            clear hx
            refine lf_nil ?_
            refine then_n ?_
            refine wp_seq ?_
            refine wp_gen (fun F' => F' 0 = .pointer (some ⟨g, 0, none⟩) ∧ F' 3 = .int .u64 ((n + (List.getD r i 0).toNat % 128 * 128 ^ i : Nat) : Int) ∧ F' 4 = .int .i64 ((i : Nat) : Int) ∧ F' 5 = cB (List.getD r i 0) ∧ F' 8 = .bool false ∧ F' 9 = .int .i64 ((i : Nat) : Int) ∧ F' 10 = .bool true ∧ F' 18 = .bool false ∧ F' 37 = .bool true ∧ F' 43 = .bool false) ⟨e0, e3, e4, e5, e8, e9, e10, e18, e37, e43⟩ ?_
            clear e0 e3 e4 e5 e8 e9 e10 e18 e37 e43
            clear F
            rintro F ⟨e0, e3, e4, e5, e8, e9, e10, e18, e37, e43⟩
            refine wp_regionF ?_
            refine lf_val (v := .int .u64 ((n + (List.getD r i 0).toNat % 128 * 128 ^ i : Nat) : Int)) (wantAll rfl) (rv_move rfl (fr_eval rfl e3)) ?_
            refine lf_val (v := .int .i64 ((n + (List.getD r i 0).toNat % 128 * 128 ^ i : Nat) : Int)) (wantAll rfl) (rv_conv rfl (fr_eval rfl rfl) Try.underlying104 Try.underlying3 (wrap_nat (next_fit (by omega) pi1))) ?_
            refine lf_val (v := .int .i64 ((n + (List.getD r i 0).toNat % 128 * 128 ^ i : Nat) : Int)) (wantAll rfl) (rv_assign rfl (fr_eval rfl rfl)) ?_
            refine lf_nil ?_
            refine then_n ?_
            refine wp_gen (fun F' => F' 0 = .pointer (some ⟨g, 0, none⟩) ∧ F' 2 = .int .i64 ((n + (List.getD r i 0).toNat % 128 * 128 ^ i : Nat) : Int) ∧ F' 3 = .int .u64 ((n + (List.getD r i 0).toNat % 128 * 128 ^ i : Nat) : Int) ∧ F' 4 = .int .i64 ((i : Nat) : Int) ∧ F' 5 = cB (List.getD r i 0) ∧ F' 8 = .bool false ∧ F' 9 = .int .i64 ((i : Nat) : Int) ∧ F' 10 = .bool true ∧ F' 18 = .bool false ∧ F' 37 = .bool true ∧ F' 43 = .bool false) ⟨e0, rfl, e3, e4, e5, e8, e9, e10, e18, e37, e43⟩ ?_
            clear e0 e3 e4 e5 e8 e9 e10 e18 e37 e43
            clear F
            rintro F ⟨e0, e2, e3, e4, e5, e8, e9, e10, e18, e37, e43⟩
            refine wp_ret ?_
            refine blk_ret ?_
            refine then_ret ?_
            refine then_ret ?_
            refine blk_ret ?_
            refine then_ret ?_
            exact bodyPost_ret (v := (.int .i64 ((n + (List.getD r i 0).toNat % 128 * 128 ^ i : Nat) : Int))) (res1 rfl (ro_tmp rfl e2)) rfl (num_post (num_ok hc1 hn) rfl ⟨_, (by have h := h_g; rw [hc1] at h; exact h), rdB_slcL (l := i + 1) (RdB.rn hr rfl) (by omega), (fun h => by rw [slcV_own]; exact hov (by simp at h; omega)), (by simp; omega)⟩ hC)
        · refine lf_val (v := .bool false) (wantAll rfl) (rv_lss rfl (fr_eval rfl rfl) rfl (decide_eq_false (by omega))) ?_
          refine lf_nil ?_
          refine then_n ?_
          refine wp_gen (fun F' => F' 0 = .pointer (some ⟨g, 0, none⟩) ∧ F' 3 = .int .u64 ((n + (List.getD r i 0).toNat % 128 * 128 ^ i : Nat) : Int) ∧ F' 4 = .int .i64 ((i : Nat) : Int) ∧ F' 5 = cB (List.getD r i 0) ∧ F' 8 = .bool false ∧ F' 9 = .int .i64 ((i : Nat) : Int) ∧ F' 10 = .bool true ∧ F' 18 = .bool false ∧ F' 37 = .bool false) ⟨e0, e3, e4, e5, e8, e9, e10, e18, rfl⟩ ?_
          clear e0 e3 e4 e5 e8 e9 e10 e18
          clear F
          rintro F ⟨e0, e3, e4, e5, e8, e9, e10, e18, e37⟩
          refine wp_cond_false (fr_eval rfl e37) ?_
          refine wp_skip ?_
          refine blk_n ?_
          refine then_n ?_
          refine wp_regionF ?_
          refine lf_val (v := .int .i64 ((i + 1 : Nat) : Int)) (wantAll rfl) (rv_add rfl (fr_eval rfl e9) rfl (wrap_i64 (by omega) (by omega) (by omega))) ?_
          refine lf_val (v := .int .i64 ((i + 1 : Nat) : Int)) (wantAll rfl) (rv_move rfl (fr_eval rfl rfl)) ?_
          refine lf_nil ?_
          refine then_n ?_
          exact ⟨_, _, (by omega), rfl, i + 1, _, rfl, (by omega), next_lt (by omega) pi1, (by rw [pi2]; exact go_next (by omega) (by omega) (by omega)), e0, e3, e8, rfl, hr, h_g, hC⟩
    · refine lf_val (v := .bool false) (wantAll rfl) (rv_lss rfl (fr_eval rfl e9) rfl (decide_eq_false (by omega))) ?_
      refine lf_nil ?_
      refine then_n ?_
      refine wp_seq ?_
      refine wp_gen (fun F' => F' 0 = .pointer (some ⟨g, 0, none⟩) ∧ F' 3 = .int .u64 ((n : Nat) : Int) ∧ F' 8 = .bool false ∧ F' 9 = .int .i64 ((i : Nat) : Int) ∧ F' 10 = .bool false) ⟨e0, e3, e8, e9, rfl⟩ ?_
      clear e0 e3 e8 e9
      clear F
      rintro F ⟨e0, e3, e8, e9, e10⟩
      refine wp_cond_false (fr_eval rfl e10) ?_
      refine wp_exit ?_
      refine then_exit ?_
      refine then_exit ?_
      refine blk_exit ?_
      refine then_n ?_
      refine wp_seq ?_
      obtain rfl : i = 9 := by omega
      have hn : num r = (5, 0, 0) := by rw [pi2]; rfl
      refine wp_regionF ?_
      refine lf_val (v := .pointer (some ⟨g, 0, none⟩)) (wantAll rfl) (rv_move rfl (fr_eval rfl e0)) ?_
      refine lf_call (wantAll rfl) (rv_call (args := [.pointer (some ⟨g, 0, none⟩), .int .i64 5]) rfl (evc (fr_eval rfl rfl) (evc rfl evn)) Try.call23) (fail_calls 5 _ h_g) ?_
      rintro _ w7 ⟨rfl, h_g', hx⟩
      refine ⟨_, rfl, ?_⟩
      replace hr := Rd.keep hr hx (fun b hb h0 e => by have e : b = g := e; exact absurd hb (by rw [hov (by simpa using h0), e]; exact hne))
      replace hC := hC.trans hx
      replace h_g := h_g'
      clear h_g' hx
      refine lf_nil ?_
      refine then_n ?_
      refine wp_seq ?_
      refine wp_gen (fun F' => F' 0 = .pointer (some ⟨g, 0, none⟩) ∧ F' 3 = .int .u64 ((n : Nat) : Int) ∧ F' 8 = .bool false ∧ F' 9 = .int .i64 ((9 : Nat) : Int) ∧ F' 10 = .bool false) ⟨e0, e3, e8, e9, e10⟩ ?_
      clear e0 e3 e8 e9 e10
      clear F
      rintro F ⟨e0, e3, e8, e9, e10⟩
      refine wp_regionF ?_
      refine lf_val (v := .int .i64 0) (wantAll rfl) (rv_assign rfl rfl) ?_
      refine lf_nil ?_
      refine then_n ?_
      refine wp_gen (fun F' => F' 0 = .pointer (some ⟨g, 0, none⟩) ∧ F' 2 = .int .i64 0 ∧ F' 3 = .int .u64 ((n : Nat) : Int) ∧ F' 8 = .bool false ∧ F' 9 = .int .i64 ((9 : Nat) : Int) ∧ F' 10 = .bool false) ⟨e0, rfl, e3, e8, e9, e10⟩ ?_
      clear e0 e3 e8 e9 e10
      clear F
      rintro F ⟨e0, e2, e3, e8, e9, e10⟩
      refine wp_ret ?_
      exact bodyPost_ret (v := (.int .i64 0)) (res1 rfl (ro_tmp rfl e2)) rfl (num_post (num_ok hc1 hn) rfl ⟨_, (by have h := h_g; rw [if_pos hc1] at h; exact h), hr, hov, hrl⟩ hC)
  · refine lf_val (v := .bool true) (wantAll rfl) (rv_neq rfl (fr_eval rfl rfl) rfl (decide_eq_false (by omega))) ?_
    refine lf_nil ?_
    refine then_n ?_
    refine wp_gen (fun F' => F' 0 = .pointer (some ⟨g, 0, none⟩) ∧ F' 2 = .int .i64 0 ∧ F' 8 = .bool true) ⟨e0, e2, rfl⟩ ?_
    clear e0 e2
    clear F
    rintro F ⟨e0, e2, e8⟩
    refine wp_cond_true (fr_eval rfl e8) ?_
    refine wp_seq ?_
    refine wp_regionF ?_
    refine lf_val (v := .int .i64 0) (wantAll rfl) (rv_assign rfl rfl) ?_
    refine lf_nil ?_
    refine then_n ?_
    refine wp_gen (fun F' => F' 0 = .pointer (some ⟨g, 0, none⟩) ∧ F' 2 = .int .i64 0 ∧ F' 8 = .bool true) ⟨e0, rfl, e8⟩ ?_
    clear e0 e2 e8
    clear F
    rintro F ⟨e0, e2, e8⟩
    refine wp_ret ?_
    refine then_ret ?_
    exact bodyPost_ret (v := (.int .i64 0)) (res1 rfl (ro_tmp rfl e2)) rfl (num_post0 (num_no hc1) ⟨_, h_g, hr, hov, hrl⟩ hC)

theorem errE_calls {g : Nat} {v0 : Value} {r : List UInt8} {e : Int} (w : World) (h : EyeAt w g v0 r e) : Calls Try.prog 17 #[.pointer (some ⟨g, 0, none⟩)] w fun e'' w' => e'' = .returned (.int .i64 e) ∧ Ext w w' := by
  obtain ⟨v, hb, _⟩ := h; exact err_calls w hb
theorem failE_calls {g : Nat} {v0 : Value} {r : List UInt8} {e : Int} (e2 : Int) (w : World) (h : EyeAt w g v0 r e) (hne : v0.ownBlock ≠ some g) : Calls Try.prog 23 #[.pointer (some ⟨g, 0, none⟩), .int .i64 e2] w fun e'' w' => e'' = .returned (.tuple #[]) ∧ EyeAt w' g v0 r (if e = 0 then e2 else e) ∧ Chg (· = g) w w' := by
  obtain ⟨v, hb, hr, ho⟩ := h
  refine (fail_calls e2 w hb).mono fun e'' w' h => ?_
  obtain ⟨h1, h2, h3⟩ := h
  exact ⟨h1, ⟨v, h2, Rd.keep hr h3 (fun b hb h0 e => hne (by have e : b = g := e; rw [← ho.1 (by simpa using h0), ← e]; exact hb)), ho⟩, h3⟩

theorem upto_post {g : Nat} {v0 : Value} {r : List UInt8} {e m x : Int} {n : Int} {w w' : World} (he : EyeAt w' g v0 (numR r e) x) (hC : Chg (· = g) w w') (hn : n = ((uptoV r e m : Nat) : Int)) (hx : x = uptoE r e m) : Ending.returned (.int .i64 n) = .returned (.int .i64 ((uptoV r e m : Nat) : Int)) ∧ EyeAt w' g v0 (numR r e) (uptoE r e m) ∧ Chg (· = g) w w' := by
  subst hn hx; exact ⟨rfl, he, hC⟩

set_option maxRecDepth 100000 in
set_option maxHeartbeats 4000000 in
theorem upto_calls {g : Nat} {v0 : Value} {r : List UInt8} {e : Int} (m : Int) (w : World) (he0 : EyeAt w g v0 r e) (hne : v0.ownBlock ≠ some g) :
    Calls Try.prog 16 #[.pointer (some ⟨g, 0, none⟩), .int .i64 m] w fun e'' w' => e'' = .returned (.int .i64 ((uptoV r e m : Nat) : Int)) ∧ EyeAt w' g v0 (numR r e) (uptoE r e m) ∧ Chg (· = g) w w' := by
  refine calls_fr (args := [.pointer (some ⟨g, 0, none⟩), .int .i64 m]) (n := 17) Try.func16 rfl rfl (show 2 ≤ 17 by decide) ?_
  have hC : Chg (· = g) w w := Chg.refl _ _
  have hy := he0
  refine wp_seq ?_
  refine wp_gen (fun F' => F' 0 = .pointer (some ⟨g, 0, none⟩) ∧ F' 1 = .int .i64 m) ⟨rfl, rfl⟩ ?_
  rintro F ⟨e0, e1⟩
  refine wp_regionF ?_
  refine lf_val (v := .int .i64 0) (wantAll rfl) (rv_assign rfl rfl) ?_
  refine lf_nil ?_
  refine then_n ?_
  refine wp_seq ?_
  refine wp_gen (fun F' => F' 0 = .pointer (some ⟨g, 0, none⟩) ∧ F' 1 = .int .i64 m ∧ F' 4 = .int .i64 0) ⟨e0, e1, rfl⟩ ?_
  clear e0 e1
  clear F
  rintro F ⟨e0, e1, e4⟩
  refine wp_regionF ?_
  refine lf_val (v := .pointer (some ⟨g, 0, none⟩)) (wantAll rfl) (rv_move rfl (fr_eval rfl e0)) ?_
  refine lf_call (wantAll rfl) (rv_call (args := [.pointer (some ⟨g, 0, none⟩)]) rfl (evc (fr_eval rfl rfl) evn) Try.call15) (num_calls  _ hy hne) ?_
  rintro _ w1 ⟨rfl, hy', hx⟩
  refine ⟨_, rfl, ?_⟩
  replace hC := hC.trans hx
  replace hy := hy'
  clear hy'
  clear hx
  refine lf_val (v := .int .i64 ((numV r e : Nat) : Int)) (wantAll rfl) (rv_assign rfl (fr_eval rfl rfl)) ?_
  refine lf_nil ?_
  refine then_n ?_
  refine wp_seq ?_
  refine wp_seq ?_
  refine wp_gen (fun F' => F' 0 = .pointer (some ⟨g, 0, none⟩) ∧ F' 1 = .int .i64 m ∧ F' 4 = .int .i64 0 ∧ F' 5 = .int .i64 ((numV r e : Nat) : Int)) ⟨e0, e1, e4, rfl⟩ ?_
  clear e0 e1 e4
  clear F
  rintro F ⟨e0, e1, e4, e5⟩
  refine wp_regionF ?_
  refine lf_val (v := .int .i64 ((numV r e : Nat) : Int)) (wantAll rfl) (rv_move rfl (fr_eval rfl e5)) ?_
  refine lf_val (v := .int .i64 m) (wantAll rfl) (rv_move rfl (fr_eval rfl e1)) ?_
  by_cases hc1 : ((numV r e : Nat) : Int) > m
  · refine lf_val (v := .bool true) (wantAll rfl) (rv_gtr rfl (fr_eval rfl rfl) (fr_eval rfl rfl) (decide_eq_true (by omega))) ?_
    refine lf_nil ?_
    refine then_n ?_
    refine wp_gen (fun F' => F' 0 = .pointer (some ⟨g, 0, none⟩) ∧ F' 1 = .int .i64 m ∧ F' 4 = .int .i64 0 ∧ F' 5 = .int .i64 ((numV r e : Nat) : Int) ∧ F' 10 = .bool true) ⟨e0, e1, e4, e5, rfl⟩ ?_
    clear e0 e1 e4 e5
    clear F
    rintro F ⟨e0, e1, e4, e5, e10⟩
    refine wp_cond_true (fr_eval rfl e10) ?_
    refine wp_regionF ?_
    refine lf_val (v := .pointer (some ⟨g, 0, none⟩)) (wantAll rfl) (rv_move rfl (fr_eval rfl e0)) ?_
    refine lf_call (wantAll rfl) (rv_call (args := [.pointer (some ⟨g, 0, none⟩), .int .i64 5]) rfl (evc (fr_eval rfl rfl) (evc rfl evn)) Try.call23) (failE_calls 5 _ hy hne) ?_
    rintro _ w2 ⟨rfl, hy', hx⟩
    refine ⟨_, rfl, ?_⟩
    replace hC := hC.trans hx
    replace hy := hy'
    clear hy'
    clear hx
    refine lf_nil ?_
    refine then_n ?_
    refine wp_seq ?_
    refine wp_seq ?_
    refine wp_gen (fun F' => F' 0 = .pointer (some ⟨g, 0, none⟩) ∧ F' 1 = .int .i64 m ∧ F' 4 = .int .i64 0 ∧ F' 5 = .int .i64 ((numV r e : Nat) : Int) ∧ F' 10 = .bool true) ⟨e0, e1, e4, e5, e10⟩ ?_
    clear e0 e1 e4 e5 e10
    clear F
    rintro F ⟨e0, e1, e4, e5, e10⟩
    refine wp_regionF ?_
    refine lf_val (v := .pointer (some ⟨g, 0, none⟩)) (wantAll rfl) (rv_move rfl (fr_eval rfl e0)) ?_
    refine lf_call (wantAll rfl) (rv_call (args := [.pointer (some ⟨g, 0, none⟩)]) rfl (evc (fr_eval rfl rfl) evn) Try.call17) (errE_calls _ hy) ?_
    rintro _ w3 ⟨rfl, hx⟩
    refine ⟨_, rfl, ?_⟩
    replace hC := hC.trans (Ext.any hx)
    replace hy := EyeAt.ext hy hx
    clear hx
    by_cases hc2 : (if (numE r e) = 0 then 5 else (numE r e)) = 0
    · refine lf_val (v := .bool false) (wantAll rfl) (rv_neq rfl (fr_eval rfl rfl) rfl (decide_eq_true (by omega))) ?_
      refine lf_nil ?_
      refine then_n ?_
      refine wp_gen (fun F' => F' 0 = .pointer (some ⟨g, 0, none⟩) ∧ F' 1 = .int .i64 m ∧ F' 4 = .int .i64 0 ∧ F' 5 = .int .i64 ((numV r e : Nat) : Int) ∧ F' 10 = .bool true ∧ F' 15 = .bool false) ⟨e0, e1, e4, e5, e10, rfl⟩ ?_
      clear e0 e1 e4 e5 e10
      clear F
      rintro F ⟨e0, e1, e4, e5, e10, e15⟩
      refine wp_cond_false (fr_eval rfl e15) ?_
      refine wp_skip ?_
      refine then_n ?_
      refine wp_seq ?_
      refine wp_regionF ?_
      refine lf_val (v := .int .i64 ((numV r e : Nat) : Int)) (wantAll rfl) (rv_move rfl (fr_eval rfl e5)) ?_
      refine lf_val (v := .int .i64 ((numV r e : Nat) : Int)) (wantAll rfl) (rv_assign rfl (fr_eval rfl rfl)) ?_
      refine lf_nil ?_
      refine then_n ?_
      refine wp_gen (fun F' => F' 0 = .pointer (some ⟨g, 0, none⟩) ∧ F' 1 = .int .i64 m ∧ F' 4 = .int .i64 ((numV r e : Nat) : Int) ∧ F' 5 = .int .i64 ((numV r e : Nat) : Int) ∧ F' 10 = .bool true ∧ F' 15 = .bool false) ⟨e0, e1, rfl, e5, e10, e15⟩ ?_
      clear e0 e1 e4 e5 e10 e15
      clear F
      rintro F ⟨e0, e1, e4, e5, e10, e15⟩
      refine wp_ret ?_
      exact bodyPost_ret (v := (.int .i64 ((numV r e : Nat) : Int))) (res1 rfl (ro_tmp rfl e4)) rfl (upto_post  hy hC (by unfold uptoV uptoE; by_cases h0 : numE r e = 0 <;> simp_all) (by unfold uptoE; by_cases h0 : numE r e = 0 <;> simp_all))
    · refine lf_val (v := .bool true) (wantAll rfl) (rv_neq rfl (fr_eval rfl rfl) rfl (decide_eq_false (by omega))) ?_
      refine lf_nil ?_
      refine then_n ?_
      refine wp_gen (fun F' => F' 0 = .pointer (some ⟨g, 0, none⟩) ∧ F' 1 = .int .i64 m ∧ F' 4 = .int .i64 0 ∧ F' 5 = .int .i64 ((numV r e : Nat) : Int) ∧ F' 10 = .bool true ∧ F' 15 = .bool true) ⟨e0, e1, e4, e5, e10, rfl⟩ ?_
      clear e0 e1 e4 e5 e10
      clear F
      rintro F ⟨e0, e1, e4, e5, e10, e15⟩
      refine wp_cond_true (fr_eval rfl e15) ?_
      refine wp_seq ?_
      refine wp_regionF ?_
      refine lf_val (v := .int .i64 0) (wantAll rfl) (rv_assign rfl rfl) ?_
      refine lf_nil ?_
      refine then_n ?_
      refine wp_gen (fun F' => F' 0 = .pointer (some ⟨g, 0, none⟩) ∧ F' 1 = .int .i64 m ∧ F' 4 = .int .i64 0 ∧ F' 5 = .int .i64 ((numV r e : Nat) : Int) ∧ F' 10 = .bool true ∧ F' 15 = .bool true) ⟨e0, e1, rfl, e5, e10, e15⟩ ?_
      clear e0 e1 e4 e5 e10 e15
      clear F
      rintro F ⟨e0, e1, e4, e5, e10, e15⟩
      refine wp_ret ?_
      refine then_ret ?_
      exact bodyPost_ret (v := (.int .i64 0)) (res1 rfl (ro_tmp rfl e4)) rfl (upto_post  hy hC (by unfold uptoV uptoE; by_cases h0 : numE r e = 0 <;> simp_all) (by unfold uptoE; by_cases h0 : numE r e = 0 <;> simp_all))
  · refine lf_val (v := .bool false) (wantAll rfl) (rv_gtr rfl (fr_eval rfl rfl) (fr_eval rfl rfl) (decide_eq_false (by omega))) ?_
    refine lf_nil ?_
    refine then_n ?_
    refine wp_gen (fun F' => F' 0 = .pointer (some ⟨g, 0, none⟩) ∧ F' 1 = .int .i64 m ∧ F' 4 = .int .i64 0 ∧ F' 5 = .int .i64 ((numV r e : Nat) : Int) ∧ F' 10 = .bool false) ⟨e0, e1, e4, e5, rfl⟩ ?_
    clear e0 e1 e4 e5
    clear F
    rintro F ⟨e0, e1, e4, e5, e10⟩
    refine wp_cond_false (fr_eval rfl e10) ?_
    refine wp_skip ?_
    refine then_n ?_
    refine wp_seq ?_
    refine wp_seq ?_
    refine wp_regionF ?_
    refine lf_val (v := .pointer (some ⟨g, 0, none⟩)) (wantAll rfl) (rv_move rfl (fr_eval rfl e0)) ?_
    refine lf_call (wantAll rfl) (rv_call (args := [.pointer (some ⟨g, 0, none⟩)]) rfl (evc (fr_eval rfl rfl) evn) Try.call17) (errE_calls _ hy) ?_
    rintro _ w4 ⟨rfl, hx⟩
    refine ⟨_, rfl, ?_⟩
    replace hC := hC.trans (Ext.any hx)
    replace hy := EyeAt.ext hy hx
    clear hx
    by_cases hc3 : (numE r e) = 0
    · refine lf_val (v := .bool false) (wantAll rfl) (rv_neq rfl (fr_eval rfl rfl) rfl (decide_eq_true (by omega))) ?_
      refine lf_nil ?_
      refine then_n ?_
      refine wp_gen (fun F' => F' 0 = .pointer (some ⟨g, 0, none⟩) ∧ F' 1 = .int .i64 m ∧ F' 4 = .int .i64 0 ∧ F' 5 = .int .i64 ((numV r e : Nat) : Int) ∧ F' 10 = .bool false ∧ F' 15 = .bool false) ⟨e0, e1, e4, e5, e10, rfl⟩ ?_
      clear e0 e1 e4 e5 e10
      clear F
      rintro F ⟨e0, e1, e4, e5, e10, e15⟩
      refine wp_cond_false (fr_eval rfl e15) ?_
      refine wp_skip ?_
      refine then_n ?_
      refine wp_seq ?_
      refine wp_regionF ?_
      refine lf_val (v := .int .i64 ((numV r e : Nat) : Int)) (wantAll rfl) (rv_move rfl (fr_eval rfl e5)) ?_
      refine lf_val (v := .int .i64 ((numV r e : Nat) : Int)) (wantAll rfl) (rv_assign rfl (fr_eval rfl rfl)) ?_
      refine lf_nil ?_
      refine then_n ?_
      refine wp_gen (fun F' => F' 0 = .pointer (some ⟨g, 0, none⟩) ∧ F' 1 = .int .i64 m ∧ F' 4 = .int .i64 ((numV r e : Nat) : Int) ∧ F' 5 = .int .i64 ((numV r e : Nat) : Int) ∧ F' 10 = .bool false ∧ F' 15 = .bool false) ⟨e0, e1, rfl, e5, e10, e15⟩ ?_
      clear e0 e1 e4 e5 e10 e15
      clear F
      rintro F ⟨e0, e1, e4, e5, e10, e15⟩
      refine wp_ret ?_
      exact bodyPost_ret (v := (.int .i64 ((numV r e : Nat) : Int))) (res1 rfl (ro_tmp rfl e4)) rfl (upto_post  hy hC (by unfold uptoV uptoE; by_cases h0 : numE r e = 0 <;> simp_all) (by unfold uptoE; by_cases h0 : numE r e = 0 <;> simp_all))
    · refine lf_val (v := .bool true) (wantAll rfl) (rv_neq rfl (fr_eval rfl rfl) rfl (decide_eq_false (by omega))) ?_
      refine lf_nil ?_
      refine then_n ?_
      refine wp_gen (fun F' => F' 0 = .pointer (some ⟨g, 0, none⟩) ∧ F' 1 = .int .i64 m ∧ F' 4 = .int .i64 0 ∧ F' 5 = .int .i64 ((numV r e : Nat) : Int) ∧ F' 10 = .bool false ∧ F' 15 = .bool true) ⟨e0, e1, e4, e5, e10, rfl⟩ ?_
      clear e0 e1 e4 e5 e10
      clear F
      rintro F ⟨e0, e1, e4, e5, e10, e15⟩
      refine wp_cond_true (fr_eval rfl e15) ?_
      refine wp_seq ?_
      refine wp_regionF ?_
      refine lf_val (v := .int .i64 0) (wantAll rfl) (rv_assign rfl rfl) ?_
      refine lf_nil ?_
      refine then_n ?_
      refine wp_gen (fun F' => F' 0 = .pointer (some ⟨g, 0, none⟩) ∧ F' 1 = .int .i64 m ∧ F' 4 = .int .i64 0 ∧ F' 5 = .int .i64 ((numV r e : Nat) : Int) ∧ F' 10 = .bool false ∧ F' 15 = .bool true) ⟨e0, e1, rfl, e5, e10, e15⟩ ?_
      clear e0 e1 e4 e5 e10 e15
      clear F
      rintro F ⟨e0, e1, e4, e5, e10, e15⟩
      refine wp_ret ?_
      refine then_ret ?_
      exact bodyPost_ret (v := (.int .i64 0)) (res1 rfl (ro_tmp rfl e4)) rfl (upto_post  hy hC (by unfold uptoV uptoE; by_cases h0 : numE r e = 0 <;> simp_all) (by unfold uptoE; by_cases h0 : numE r e = 0 <;> simp_all))

theorem rdB_small {w : World} {v : Value} {l : List UInt8} (h : RdB w v l) : l.length ≤ 9223372036854775807 := RdB.max h
theorem raw_err {g : Nat} {v0 : Value} {r : List UInt8} {e n e' : Int} {w w' : World} (h : rawE r e n = e') (h0 : ¬ e' = 0) (he : EyeAt w' g v0 r e') (hC : Chg (· = g) w w') :
    (∃ v', Ending.returned (.slice none 0 0) = .returned v' ∧ OwnB w' v' (rawV r e n) ∧ ∀ k, v'.ownBlock = some k → w.heap.size ≤ k) ∧ EyeAt w' g v0 (rawR r e n) (rawE r e n) ∧ Chg (· = g) w w' := by
  unfold rawV rawR; rw [h, if_neg h0, if_neg h0]; exact ⟨⟨_, rfl, OwnB.nil, ownBlock_nil⟩, he, hC⟩
theorem raw_ok {g : Nat} {v0 v1 : Value} {r : List UInt8} {e : Int} {k : Nat} {w w' : World} (h : rawE r e k = 0) (ho : OwnB w' v1 (r.take k)) (hg : ∀ k, v1.ownBlock = some k → w.heap.size ≤ k) (he : EyeAt w' g v0 (r.drop k) 0) (hC : Chg (· = g) w w') :
    (∃ v', Ending.returned v1 = .returned v' ∧ OwnB w' v' (rawV r e k) ∧ ∀ k, v'.ownBlock = some k → w.heap.size ≤ k) ∧ EyeAt w' g v0 (rawR r e k) (rawE r e k) ∧ Chg (· = g) w w' := by
  unfold rawV rawR; rw [h, if_pos rfl, if_pos rfl, Int.toNat_natCast]; exact ⟨⟨_, rfl, ho, hg⟩, he, hC⟩

set_option maxRecDepth 100000 in
set_option maxHeartbeats 4000000 in
theorem raw_calls {g : Nat} {v0 : Value} {r : List UInt8} {e : Int} (n : Int) (w : World) (he0 : EyeAt w g v0 r e) (hne : v0.ownBlock ≠ some g) :
    Calls Try.prog 20 #[.pointer (some ⟨g, 0, none⟩), .int .i64 n] w fun e'' w' => (∃ v', e'' = .returned v' ∧ OwnB w' v' (rawV r e n) ∧ ∀ k, v'.ownBlock = some k → w.heap.size ≤ k) ∧ EyeAt w' g v0 (rawR r e n) (rawE r e n) ∧ Chg (· = g) w w' := by
  obtain ⟨v, hb0, hr0, hov, hrl⟩ := he0
  have hmx := RdB.max hr0
  refine calls_fr (args := [.pointer (some ⟨g, 0, none⟩), .int .i64 n]) (n := 39) Try.func20 rfl rfl (show 2 ≤ 39 by decide) ?_
  have hC : Chg (· = g) w w := Chg.refl _ _
  have hr := hr0
  have h_g := hb0
  refine wp_seq ?_
  refine wp_gen (fun F' => F' 0 = .pointer (some ⟨g, 0, none⟩) ∧ F' 1 = .int .i64 n) ⟨rfl, rfl⟩ ?_
  rintro F ⟨e0, e1⟩
  refine wp_regionF ?_
  refine lf_val (v := .slice none 0 0) (wantAll rfl) (rv_assign rfl rfl) ?_
  refine lf_nil ?_
  refine then_n ?_
  refine wp_seq ?_
  refine wp_seq ?_
  refine wp_gen (fun F' => F' 0 = .pointer (some ⟨g, 0, none⟩) ∧ F' 1 = .int .i64 n ∧ F' 4 = .slice none 0 0) ⟨e0, e1, rfl⟩ ?_
  clear e0 e1
  clear F
  rintro F ⟨e0, e1, e4⟩
  refine wp_regionF ?_
  refine lf_val (v := .pointer (some ⟨g, 0, none⟩)) (wantAll rfl) (rv_move rfl (fr_eval rfl e0)) ?_
  refine lf_call (wantAll rfl) (rv_call (args := [.pointer (some ⟨g, 0, none⟩)]) rfl (evc (fr_eval rfl rfl) evn) Try.call17) (err_calls _ h_g) ?_
  rintro _ w1 ⟨rfl, hx⟩
  refine ⟨_, rfl, ?_⟩
  replace hC := hC.trans (Ext.any hx)
  replace hr := Rd.ext hr hx
  replace h_g := Blk.ext h_g hx
  clear hx
  by_cases hc1 : e = 0
  · refine lf_val (v := .bool false) (wantAll rfl) (rv_neq rfl (fr_eval rfl rfl) rfl (decide_eq_true (by omega))) ?_
    refine lf_nil ?_
    refine then_n ?_
    refine wp_gen (fun F' => F' 0 = .pointer (some ⟨g, 0, none⟩) ∧ F' 1 = .int .i64 n ∧ F' 4 = .slice none 0 0 ∧ F' 8 = .bool false) ⟨e0, e1, e4, rfl⟩ ?_
    clear e0 e1 e4
    clear F
    rintro F ⟨e0, e1, e4, e8⟩
    refine wp_cond_false (fr_eval rfl e8) ?_
    refine wp_skip ?_
    refine then_n ?_
    refine wp_seq ?_
    refine wp_seq ?_
    refine wp_regionF ?_
    refine lf_val (v := .int .i64 n) (wantAll rfl) (rv_move rfl (fr_eval rfl e1)) ?_
    by_cases hc2 : n < 0
    · refine lf_val (v := .bool true) (wantAll rfl) (rv_lss rfl (fr_eval rfl rfl) rfl (decide_eq_true (by omega))) ?_
      refine lf_val (v := .bool true) (wantAll rfl) (rv_move rfl (fr_eval rfl rfl)) ?_
      refine lf_not (wantNot (d := 11) rfl (by kernel_rfl) rfl rfl) ?_
      refine lf_not (wantNot (d := 11) rfl (by kernel_rfl) rfl rfl) ?_
      refine lf_not (wantNot (d := 11) rfl (by kernel_rfl) rfl rfl) ?_
      refine lf_not (wantNot (d := 11) rfl (by kernel_rfl) rfl rfl) ?_
      refine lf_not (wantNot (d := 11) rfl (by kernel_rfl) rfl rfl) ?_
      refine lf_not (wantNot (d := 11) rfl (by kernel_rfl) rfl rfl) ?_
      refine lf_not (wantNot (d := 11) rfl (by kernel_rfl) rfl rfl) ?_
      refine lf_val (v := .bool true) (wantAll rfl) (rv_pickT rfl (fr_eval rfl rfl) rfl) ?_
      refine lf_nil ?_
      refine then_n ?_
      refine wp_gen (fun F' => F' 0 = .pointer (some ⟨g, 0, none⟩) ∧ F' 1 = .int .i64 n ∧ F' 4 = .slice none 0 0 ∧ F' 8 = .bool false ∧ F' 19 = .bool true) ⟨e0, e1, e4, e8, rfl⟩ ?_
      clear e0 e1 e4 e8
      clear F
      rintro F ⟨e0, e1, e4, e8, e19⟩
      refine wp_cond_true (fr_eval rfl e19) ?_
      refine wp_seq ?_
      refine wp_regionF ?_
      refine lf_val (v := .pointer (some ⟨g, 0, none⟩)) (wantAll rfl) (rv_move rfl (fr_eval rfl e0)) ?_
      refine lf_call (wantAll rfl) (rv_call (args := [.pointer (some ⟨g, 0, none⟩), .int .i64 2]) rfl (evc (fr_eval rfl rfl) (evc rfl evn)) Try.call23) (fail_calls 2 _ h_g) ?_
      rintro _ w2 ⟨rfl, h_g', hx⟩
      refine ⟨_, rfl, ?_⟩
      replace hr := Rd.keep hr hx (fun b hb h0 e => by have e : b = g := e; exact absurd hb (by rw [hov (by simpa using h0), e]; exact hne))
      replace hC := hC.trans hx
      replace h_g := h_g'
      clear h_g' hx
      refine lf_nil ?_
      refine then_n ?_
      refine wp_seq ?_
      refine wp_gen (fun F' => F' 0 = .pointer (some ⟨g, 0, none⟩) ∧ F' 1 = .int .i64 n ∧ F' 4 = .slice none 0 0 ∧ F' 8 = .bool false ∧ F' 19 = .bool true) ⟨e0, e1, e4, e8, e19⟩ ?_
      clear e0 e1 e4 e8 e19
      clear F
      rintro F ⟨e0, e1, e4, e8, e19⟩
      refine wp_regionF ?_
      refine lf_val (v := .slice none 0 0) (wantAll rfl) (rv_assign rfl rfl) ?_
      refine lf_nil ?_
      refine then_n ?_
      refine wp_gen (fun F' => F' 0 = .pointer (some ⟨g, 0, none⟩) ∧ F' 1 = .int .i64 n ∧ F' 4 = .slice none 0 0 ∧ F' 8 = .bool false ∧ F' 19 = .bool true) ⟨e0, e1, rfl, e8, e19⟩ ?_
      clear e0 e1 e4 e8 e19
      clear F
      rintro F ⟨e0, e1, e4, e8, e19⟩
      refine wp_ret ?_
      refine then_ret ?_
      exact bodyPost_ret (v := (.slice none 0 0)) (res1 rfl (ro_tmp rfl e4)) rfl (raw_err (e' := 2) (by unfold rawE; rw [if_pos hc1, if_pos (by omega)]) (by decide) ⟨_, (by have h := h_g; rw [if_pos hc1] at h; exact h), hr, hov, hrl⟩ hC)
    · refine lf_val (v := .bool false) (wantAll rfl) (rv_lss rfl (fr_eval rfl rfl) rfl (decide_eq_false (by omega))) ?_
      refine lf_val (v := .bool false) (wantAll rfl) (rv_move rfl (fr_eval rfl rfl)) ?_
      refine lf_val (v := .int .i64 n) (wantF (d := 11) rfl (by kernel_rfl) rfl rfl) (rv_move rfl (fr_eval rfl e1)) ?_
      refine lf_val (v := .pointer (some ⟨g, 0, none⟩)) (wantF (d := 11) rfl (by kernel_rfl) rfl rfl) (rv_move rfl (fr_eval rfl e0)) ?_
      refine lf_val (v := .pointer (some ⟨g, 0, none⟩)) (wantF (d := 11) rfl (by kernel_rfl) rfl rfl) (rv_nilCheck rfl (fr_eval rfl rfl)) ?_
      refine lf_val (v := .pointer (some ⟨g, 0, none⟩)) (wantF (d := 11) rfl (by kernel_rfl) rfl rfl) (rv_fieldAddr (n := 0) rfl (fr_eval rfl rfl) Try.underlying103 rfl rfl (by kernel_rfl)) ?_
      refine lf_val (v := v) (wantF (d := 11) rfl (by kernel_rfl) rfl rfl) (rv_load1 rfl h_g rfl (fr_eval rfl rfl) Try.underlying22 rfl Try.sz22) ?_
      refine lf_val (v := .int .i64 ((r.length : Nat) : Int)) (wantF (d := 11) rfl (by kernel_rfl) rfl rfl) (rv_len rfl (fr_eval rfl rfl) (RdB.rn hr rfl) Try.underlying22) ?_
      by_cases hc3 : n > ((r.length : Nat) : Int)
      · refine lf_val (v := .bool true) (wantF (d := 11) rfl (by kernel_rfl) rfl rfl) (rv_gtr rfl (fr_eval rfl rfl) (fr_eval rfl rfl) (decide_eq_true (by omega))) ?_
        refine lf_val (v := .bool true) (wantAll rfl) (rv_pickF rfl (fr_eval rfl rfl) (fr_eval rfl rfl)) ?_
        refine lf_nil ?_
        refine then_n ?_
        refine wp_gen (fun F' => F' 0 = .pointer (some ⟨g, 0, none⟩) ∧ F' 1 = .int .i64 n ∧ F' 4 = .slice none 0 0 ∧ F' 8 = .bool false ∧ F' 19 = .bool true) ⟨e0, e1, e4, e8, rfl⟩ ?_
        clear e0 e1 e4 e8
        clear F
        rintro F ⟨e0, e1, e4, e8, e19⟩
        refine wp_cond_true (fr_eval rfl e19) ?_
        refine wp_seq ?_
        refine wp_regionF ?_
        refine lf_val (v := .pointer (some ⟨g, 0, none⟩)) (wantAll rfl) (rv_move rfl (fr_eval rfl e0)) ?_
        refine lf_call (wantAll rfl) (rv_call (args := [.pointer (some ⟨g, 0, none⟩), .int .i64 2]) rfl (evc (fr_eval rfl rfl) (evc rfl evn)) Try.call23) (fail_calls 2 _ h_g) ?_
        rintro _ w3 ⟨rfl, h_g', hx⟩
        refine ⟨_, rfl, ?_⟩
        replace hr := Rd.keep hr hx (fun b hb h0 e => by have e : b = g := e; exact absurd hb (by rw [hov (by simpa using h0), e]; exact hne))
        replace hC := hC.trans hx
        replace h_g := h_g'
        clear h_g' hx
        refine lf_nil ?_
        refine then_n ?_
        refine wp_seq ?_
        refine wp_gen (fun F' => F' 0 = .pointer (some ⟨g, 0, none⟩) ∧ F' 1 = .int .i64 n ∧ F' 4 = .slice none 0 0 ∧ F' 8 = .bool false ∧ F' 19 = .bool true) ⟨e0, e1, e4, e8, e19⟩ ?_
        clear e0 e1 e4 e8 e19
        clear F
        rintro F ⟨e0, e1, e4, e8, e19⟩
        refine wp_regionF ?_
        refine lf_val (v := .slice none 0 0) (wantAll rfl) (rv_assign rfl rfl) ?_
        refine lf_nil ?_
        refine then_n ?_
        refine wp_gen (fun F' => F' 0 = .pointer (some ⟨g, 0, none⟩) ∧ F' 1 = .int .i64 n ∧ F' 4 = .slice none 0 0 ∧ F' 8 = .bool false ∧ F' 19 = .bool true) ⟨e0, e1, rfl, e8, e19⟩ ?_
        clear e0 e1 e4 e8 e19
        clear F
        rintro F ⟨e0, e1, e4, e8, e19⟩
        refine wp_ret ?_
        refine then_ret ?_
        exact bodyPost_ret (v := (.slice none 0 0)) (res1 rfl (ro_tmp rfl e4)) rfl (raw_err (e' := 2) (by unfold rawE; rw [if_pos hc1, if_pos (by omega)]) (by decide) ⟨_, (by have h := h_g; rw [if_pos hc1] at h; exact h), hr, hov, hrl⟩ hC)
      · refine lf_val (v := .bool false) (wantF (d := 11) rfl (by kernel_rfl) rfl rfl) (rv_gtr rfl (fr_eval rfl rfl) (fr_eval rfl rfl) (decide_eq_false (by omega))) ?_
        refine lf_val (v := .bool false) (wantAll rfl) (rv_pickF rfl (fr_eval rfl rfl) (fr_eval rfl rfl)) ?_
        refine lf_nil ?_
        refine then_n ?_
        refine wp_gen (fun F' => F' 0 = .pointer (some ⟨g, 0, none⟩) ∧ F' 1 = .int .i64 n ∧ F' 4 = .slice none 0 0 ∧ F' 8 = .bool false ∧ F' 19 = .bool false) ⟨e0, e1, e4, e8, rfl⟩ ?_
        clear e0 e1 e4 e8
        clear F
        rintro F ⟨e0, e1, e4, e8, e19⟩
        refine wp_cond_false (fr_eval rfl e19) ?_
        refine wp_skip ?_
        refine then_n ?_
        refine wp_seq ?_
        obtain ⟨k, rfl⟩ : ∃ k : Nat, n = (k : Int) := ⟨n.toNat, by omega⟩
        refine wp_regionF ?_
        refine lf_val (v := .pointer (some ⟨g, 0, none⟩)) (wantAll rfl) (rv_move rfl (fr_eval rfl e0)) ?_
        refine lf_val (v := .pointer (some ⟨g, 0, none⟩)) (wantAll rfl) (rv_nilCheck rfl (fr_eval rfl rfl)) ?_
        refine lf_val (v := .pointer (some ⟨g, 0, none⟩)) (wantAll rfl) (rv_fieldAddr (n := 0) rfl (fr_eval rfl rfl) Try.underlying103 rfl rfl (by kernel_rfl)) ?_
        refine lf_val (v := v) (wantAll rfl) (rv_load1 rfl h_g rfl (fr_eval rfl rfl) Try.underlying22 rfl Try.sz22) ?_
        refine lf_val (v := .int .i64 ((k : Nat) : Int)) (wantAll rfl) (rv_move rfl (fr_eval rfl e1)) ?_
        refine lf_val (v := slcV v 1 0 k) (wantAll rfl) (rv_slcH (h := k) Try.stB rfl (fr_eval rfl rfl) (RdB.rn hr rfl) (fr_eval rfl rfl) (by omega)) ?_
        refine lf_ex (wantAll rfl) (ex_apB (xs := []) (news := List.take k r) (.const (.slice none 0 0)) (.tmp 27) OwnB.nil (rdB_slcH (h := k) (RdB.rn hr rfl) (by omega)) (by simp; omega) rfl (fr_eval rfl rfl) rfl) ?_
        rintro y1 w4 ⟨ho1', hg⟩
        have hx := hg.chg
        replace ho1' : OwnB w4 y1 (List.take k r) := ho1'
        have ge_ho1 : ∀ k, (y1 : Value).ownBlock = some k → w.heap.size ≤ k := hg.ge (by have := hC.size; omega) ownBlock_nil
        replace hx : Ext w1 w4 := hx.mono (fun k _ h => by simp [Value.ownBlock] at h)
        replace hC := hC.trans (Ext.any hx)
        replace hr := Rd.ext hr hx
        replace h_g := Blk.ext h_g hx
        have ho1 := ho1'
        clear ho1'
        clear hx hg
        refine lf_val (v := y1) (wantAll rfl) (rv_assign rfl (fr_eval rfl rfl)) ?_
        refine lf_nil ?_
        refine then_n ?_
        refine wp_seq ?_
        refine wp_gen (fun F' => F' 0 = .pointer (some ⟨g, 0, none⟩) ∧ F' 1 = .int .i64 ((k : Nat) : Int) ∧ F' 4 = .slice none 0 0 ∧ F' 5 = y1 ∧ F' 8 = .bool false ∧ F' 19 = .bool false) ⟨e0, e1, e4, rfl, e8, e19⟩ ?_
        clear e0 e1 e4 e8 e19
        clear F
        rintro F ⟨e0, e1, e4, e5, e8, e19⟩
        refine wp_regionF ?_
        refine lf_val (v := .pointer (some ⟨g, 0, none⟩)) (wantAll rfl) (rv_move rfl (fr_eval rfl e0)) ?_
        refine lf_val (v := .pointer (some ⟨g, 0, none⟩)) (wantAll rfl) (rv_move rfl (fr_eval rfl e0)) ?_
        refine lf_val (v := .pointer (some ⟨g, 0, none⟩)) (wantAll rfl) (rv_nilCheck rfl (fr_eval rfl rfl)) ?_
        refine lf_val (v := .pointer (some ⟨g, 0, none⟩)) (wantAll rfl) (rv_fieldAddr (n := 0) rfl (fr_eval rfl rfl) Try.underlying103 rfl rfl (by kernel_rfl)) ?_
        refine lf_val (v := v) (wantAll rfl) (rv_load1 rfl h_g rfl (fr_eval rfl rfl) Try.underlying22 rfl Try.sz22) ?_
        refine lf_val (v := .int .i64 ((k : Nat) : Int)) (wantAll rfl) (rv_move rfl (fr_eval rfl e1)) ?_
        refine lf_val (v := slcV v 1 k r.length) (wantAll rfl) (rv_slcL (l := k) Try.stB rfl (fr_eval rfl rfl) (RdB.rn hr rfl) (fr_eval rfl rfl) (by omega)) ?_
        refine lf_val (v := .pointer (some ⟨g, 0, none⟩)) (wantAll rfl) (rv_nilCheck rfl (fr_eval rfl rfl)) ?_
        refine lf_val (v := .pointer (some ⟨g, 0, none⟩)) (wantAll rfl) (rv_fieldAddr (n := 0) rfl (fr_eval rfl rfl) Try.underlying103 rfl rfl (by kernel_rfl)) ?_
        refine lf_sk (wantAll rfl) (ex_storeC (j := 0) rfl h_g (show 0 < 2 by decide) rfl (fr_eval rfl rfl) (fr_eval rfl rfl) Try.sz22 (Rd.oneV (rdB_slcL (l := k) (RdB.rn hr rfl) (by omega)))) ?_
        rintro w5 ⟨h_g', hx⟩
        replace h_g' : Blk w5 g ([slcV v 1 k r.length, .int .i64 e]) 103 := h_g'
        replace hr := Rd.keep hr hx (fun b hb h0 e => by have e : b = g := e; exact absurd hb (by rw [hov (by simpa using h0), e]; exact hne))
        replace ho1 := Own.keep ho1 hx (fun b hb e => Own.neType ho1 h_g (by decide) (by have e : b = g := e; rw [← e]; exact hb))
        replace hC := hC.trans hx
        replace h_g := h_g'
        clear h_g'
        clear hx
        refine lf_nil ?_
        refine then_n ?_
        refine wp_seq ?_
        refine wp_gen (fun F' => F' 0 = .pointer (some ⟨g, 0, none⟩) ∧ F' 1 = .int .i64 ((k : Nat) : Int) ∧ F' 4 = .slice none 0 0 ∧ F' 5 = y1 ∧ F' 8 = .bool false ∧ F' 19 = .bool false) ⟨e0, e1, e4, e5, e8, e19⟩ ?_
        clear e0 e1 e4 e5 e8 e19
        clear F
        rintro F ⟨e0, e1, e4, e5, e8, e19⟩
        refine wp_regionF ?_
        refine lf_val (v := y1) (wantAll rfl) (rv_move rfl (fr_eval rfl e5)) ?_
        refine lf_val (v := y1) (wantAll rfl) (rv_assign rfl (fr_eval rfl rfl)) ?_
        refine lf_nil ?_
        refine then_n ?_
        refine wp_gen (fun F' => F' 0 = .pointer (some ⟨g, 0, none⟩) ∧ F' 1 = .int .i64 ((k : Nat) : Int) ∧ F' 4 = y1 ∧ F' 5 = y1 ∧ F' 8 = .bool false ∧ F' 19 = .bool false) ⟨e0, e1, rfl, e5, e8, e19⟩ ?_
        clear e0 e1 e4 e5 e8 e19
        clear F
        rintro F ⟨e0, e1, e4, e5, e8, e19⟩
        refine wp_ret ?_
        exact bodyPost_ret (v := y1) (res1 rfl (ro_tmp rfl e4)) rfl (raw_ok (by unfold rawE; rw [if_pos hc1, if_neg (by omega)]) ho1 ge_ho1 ⟨_, (by have h := h_g; rw [hc1] at h; exact h), rdB_slcL (l := k) (RdB.rn hr rfl) (by omega), (fun h => by rw [slcV_own]; exact hov (by simp at h; omega)), (by simp; omega)⟩ hC)
  · refine lf_val (v := .bool true) (wantAll rfl) (rv_neq rfl (fr_eval rfl rfl) rfl (decide_eq_false (by omega))) ?_
    refine lf_nil ?_
    refine then_n ?_
    refine wp_gen (fun F' => F' 0 = .pointer (some ⟨g, 0, none⟩) ∧ F' 1 = .int .i64 n ∧ F' 4 = .slice none 0 0 ∧ F' 8 = .bool true) ⟨e0, e1, e4, rfl⟩ ?_
    clear e0 e1 e4
    clear F
    rintro F ⟨e0, e1, e4, e8⟩
    refine wp_cond_true (fr_eval rfl e8) ?_
    refine wp_seq ?_
    refine wp_regionF ?_
    refine lf_val (v := .slice none 0 0) (wantAll rfl) (rv_assign rfl rfl) ?_
    refine lf_nil ?_
    refine then_n ?_
    refine wp_gen (fun F' => F' 0 = .pointer (some ⟨g, 0, none⟩) ∧ F' 1 = .int .i64 n ∧ F' 4 = .slice none 0 0 ∧ F' 8 = .bool true) ⟨e0, e1, rfl, e8⟩ ?_
    clear e0 e1 e4 e8
    clear F
    rintro F ⟨e0, e1, e4, e8⟩
    refine wp_ret ?_
    refine then_ret ?_
    exact bodyPost_ret (v := (.slice none 0 0)) (res1 rfl (ro_tmp rfl e4)) rfl (raw_err (e' := e) (by unfold rawE; rw [if_neg hc1]) hc1 ⟨_, h_g, hr, hov, hrl⟩ hC)

set_option maxRecDepth 100000 in
set_option maxHeartbeats 4000000 in
theorem textE_calls {g : Nat} {v0 : Value} {r : List UInt8} {e : Int} (m : Int) (w : World) (he0 : EyeAt w g v0 r e) (hne : v0.ownBlock ≠ some g) :
    Calls Try.prog 29 #[.pointer (some ⟨g, 0, none⟩), .int .i64 m] w fun e'' w' => (∃ v', e'' = .returned v' ∧ OwnB w' v' (rawV (numR r e) (uptoE r e m) ((uptoV r e m : Nat) : Int)) ∧ ∀ k, v'.ownBlock = some k → w.heap.size ≤ k) ∧ EyeAt w' g v0 (rawR (numR r e) (uptoE r e m) ((uptoV r e m : Nat) : Int)) (rawE (numR r e) (uptoE r e m) ((uptoV r e m : Nat) : Int)) ∧ Chg (· = g) w w' := by
  refine calls_fr (args := [.pointer (some ⟨g, 0, none⟩), .int .i64 m]) (n := 10) Try.func29 rfl rfl (show 2 ≤ 10 by decide) ?_
  have hC : Chg (· = g) w w := Chg.refl _ _
  have hy := he0
  refine wp_seq ?_
  refine wp_gen (fun F' => F' 0 = .pointer (some ⟨g, 0, none⟩) ∧ F' 1 = .int .i64 m) ⟨rfl, rfl⟩ ?_
  rintro F ⟨e0, e1⟩
  refine wp_regionF ?_
  refine lf_val (v := .slice none 0 0) (wantAll rfl) (rv_assign rfl rfl) ?_
  refine lf_nil ?_
  refine then_n ?_
  refine wp_seq ?_
  refine wp_gen (fun F' => F' 0 = .pointer (some ⟨g, 0, none⟩) ∧ F' 1 = .int .i64 m ∧ F' 4 = .slice none 0 0) ⟨e0, e1, rfl⟩ ?_
  clear e0 e1
  clear F
  rintro F ⟨e0, e1, e4⟩
  refine wp_regionF ?_
  refine lf_val (v := .pointer (some ⟨g, 0, none⟩)) (wantAll rfl) (rv_move rfl (fr_eval rfl e0)) ?_
  refine lf_val (v := .pointer (some ⟨g, 0, none⟩)) (wantAll rfl) (rv_move rfl (fr_eval rfl e0)) ?_
  refine lf_val (v := .int .i64 m) (wantAll rfl) (rv_move rfl (fr_eval rfl e1)) ?_
  refine lf_call (wantAll rfl) (rv_call (args := [.pointer (some ⟨g, 0, none⟩), .int .i64 m]) rfl (evc (fr_eval rfl rfl) (evc (fr_eval rfl rfl) evn)) Try.call16) (upto_calls m _ hy hne) ?_
  rintro _ w1 ⟨rfl, hy', hx⟩
  refine ⟨_, rfl, ?_⟩
  replace hC := hC.trans hx
  replace hy := hy'
  clear hy'
  clear hx
  refine lf_call (wantAll rfl) (rv_call (args := [.pointer (some ⟨g, 0, none⟩), .int .i64 ((uptoV r e m : Nat) : Int)]) rfl (evc (fr_eval rfl rfl) (evc (fr_eval rfl rfl) evn)) Try.call20) (raw_calls ((uptoV r e m : Nat) : Int) _ hy hne) ?_
  rintro _ w2 ⟨⟨y1, rfl, ho1', ge_ho1⟩, hy', hx⟩
  refine ⟨_, rfl, ?_⟩
  replace ge_ho1 : ∀ k, (y1 : Value).ownBlock = some k → w.heap.size ≤ k := fun k hk => Nat.le_trans (Chg.size hC) (ge_ho1 k hk)
  replace hC := hC.trans hx
  replace hy := hy'
  have ho1 := ho1'
  clear hy' ho1'
  clear hx
  refine lf_val (v := y1) (wantAll rfl) (rv_assign rfl (fr_eval rfl rfl)) ?_
  refine lf_nil ?_
  refine then_n ?_
  refine wp_gen (fun F' => F' 0 = .pointer (some ⟨g, 0, none⟩) ∧ F' 1 = .int .i64 m ∧ F' 4 = y1) ⟨e0, e1, rfl⟩ ?_
  clear e0 e1 e4
  clear F
  rintro F ⟨e0, e1, e4⟩
  refine wp_ret ?_
  exact bodyPost_ret (v := y1) (res1 rfl (ro_tmp rfl e4)) rfl (⟨⟨_, rfl, ho1, ge_ho1⟩, hy, hC⟩)

theorem done_post {g : Nat} {v0 : Value} {r : List UInt8} {e x y : Int} {w w' : World} (h : doneE r e = x) (hy : y = x) (he : EyeAt w' g v0 r x) (hC : Chg (· = g) w w') : Ending.returned (.int .i64 y) = .returned (.int .i64 (doneE r e)) ∧ EyeAt w' g v0 r (doneE r e) ∧ Chg (· = g) w w' := by
  subst hy; rw [h]; exact ⟨rfl, he, hC⟩

set_option maxRecDepth 100000 in
set_option maxHeartbeats 4000000 in
theorem done_calls {g : Nat} {v0 : Value} {r : List UInt8} {e : Int} (w : World) (he0 : EyeAt w g v0 r e) (hne : v0.ownBlock ≠ some g) :
    Calls Try.prog 22 #[.pointer (some ⟨g, 0, none⟩)] w fun e'' w' => e'' = .returned (.int .i64 (doneE r e)) ∧ EyeAt w' g v0 r (doneE r e) ∧ Chg (· = g) w w' := by
  obtain ⟨v, hb0, hr0, hov, hrl⟩ := he0
  refine calls_fr (args := [.pointer (some ⟨g, 0, none⟩)]) (n := 18) Try.func22 rfl rfl (show 1 ≤ 18 by decide) ?_
  have hC : Chg (· = g) w w := Chg.refl _ _
  have hr := hr0
  have h_g := hb0
  refine wp_seq ?_
  refine wp_gen (fun F' => F' 0 = .pointer (some ⟨g, 0, none⟩)) rfl ?_
  rintro F e0
  refine wp_regionF ?_
  refine lf_val (v := .int .i64 0) (wantAll rfl) (rv_assign rfl rfl) ?_
  refine lf_nil ?_
  refine then_n ?_
  refine wp_seq ?_
  refine wp_seq ?_
  refine wp_gen (fun F' => F' 0 = .pointer (some ⟨g, 0, none⟩) ∧ F' 2 = .int .i64 0) ⟨e0, rfl⟩ ?_
  clear e0
  clear F
  rintro F ⟨e0, e2⟩
  refine wp_regionF ?_
  refine lf_val (v := .pointer (some ⟨g, 0, none⟩)) (wantAll rfl) (rv_move rfl (fr_eval rfl e0)) ?_
  refine lf_call (wantAll rfl) (rv_call (args := [.pointer (some ⟨g, 0, none⟩)]) rfl (evc (fr_eval rfl rfl) evn) Try.call17) (err_calls _ h_g) ?_
  rintro _ w1 ⟨rfl, hx⟩
  refine ⟨_, rfl, ?_⟩
  replace hC := hC.trans (Ext.any hx)
  replace hr := Rd.ext hr hx
  replace h_g := Blk.ext h_g hx
  clear hx
  by_cases hc1 : e = 0
  · refine lf_val (v := .bool true) (wantAll rfl) (rv_eql rfl (fr_eval rfl rfl) rfl (decide_eq_true (by omega))) ?_
    refine lf_val (v := .bool true) (wantAll rfl) (rv_move rfl (fr_eval rfl rfl)) ?_
    refine lf_val (v := .pointer (some ⟨g, 0, none⟩)) (wantF (d := 6) rfl (by kernel_rfl) rfl rfl) (rv_move rfl (fr_eval rfl e0)) ?_
    refine lf_val (v := .pointer (some ⟨g, 0, none⟩)) (wantF (d := 6) rfl (by kernel_rfl) rfl rfl) (rv_nilCheck rfl (fr_eval rfl rfl)) ?_
    refine lf_val (v := .pointer (some ⟨g, 0, none⟩)) (wantF (d := 6) rfl (by kernel_rfl) rfl rfl) (rv_fieldAddr (n := 0) rfl (fr_eval rfl rfl) Try.underlying103 rfl rfl (by kernel_rfl)) ?_
    refine lf_val (v := v) (wantF (d := 6) rfl (by kernel_rfl) rfl rfl) (rv_load1 rfl h_g rfl (fr_eval rfl rfl) Try.underlying22 rfl Try.sz22) ?_
    refine lf_val (v := .int .i64 ((r.length : Nat) : Int)) (wantF (d := 6) rfl (by kernel_rfl) rfl rfl) (rv_len rfl (fr_eval rfl rfl) (RdB.rn hr rfl) Try.underlying22) ?_
    by_cases hc2 : r.length > 0
    · refine lf_val (v := .bool true) (wantF (d := 6) rfl (by kernel_rfl) rfl rfl) (rv_gtr rfl (fr_eval rfl rfl) rfl (decide_eq_true (by omega))) ?_
      refine lf_val (v := .bool true) (wantAll rfl) (rv_pickT rfl (fr_eval rfl rfl) (fr_eval rfl rfl)) ?_
      refine lf_nil ?_
      refine then_n ?_
      refine wp_gen (fun F' => F' 0 = .pointer (some ⟨g, 0, none⟩) ∧ F' 2 = .int .i64 0 ∧ F' 13 = .bool true) ⟨e0, e2, rfl⟩ ?_
      clear e0 e2
      clear F
      rintro F ⟨e0, e2, e13⟩
      refine wp_cond_true (fr_eval rfl e13) ?_
      refine wp_regionF ?_
      refine lf_val (v := .pointer (some ⟨g, 0, none⟩)) (wantAll rfl) (rv_move rfl (fr_eval rfl e0)) ?_
      refine lf_call (wantAll rfl) (rv_call (args := [.pointer (some ⟨g, 0, none⟩), .int .i64 3]) rfl (evc (fr_eval rfl rfl) (evc rfl evn)) Try.call23) (fail_calls 3 _ h_g) ?_
      rintro _ w2 ⟨rfl, h_g', hx⟩
      refine ⟨_, rfl, ?_⟩
      replace hr := Rd.keep hr hx (fun b hb h0 e => by have e : b = g := e; exact absurd hb (by rw [hov (by simpa using h0), e]; exact hne))
      replace hC := hC.trans hx
      replace h_g := h_g'
      clear h_g' hx
      refine lf_nil ?_
      refine then_n ?_
      refine wp_seq ?_
      refine wp_gen (fun F' => F' 0 = .pointer (some ⟨g, 0, none⟩) ∧ F' 2 = .int .i64 0 ∧ F' 13 = .bool true) ⟨e0, e2, e13⟩ ?_
      clear e0 e2 e13
      clear F
      rintro F ⟨e0, e2, e13⟩
      refine wp_regionF ?_
      refine lf_val (v := .pointer (some ⟨g, 0, none⟩)) (wantAll rfl) (rv_move rfl (fr_eval rfl e0)) ?_
      refine lf_call (wantAll rfl) (rv_call (args := [.pointer (some ⟨g, 0, none⟩)]) rfl (evc (fr_eval rfl rfl) evn) Try.call17) (err_calls _ h_g) ?_
      rintro _ w3 ⟨rfl, hx⟩
      refine ⟨_, rfl, ?_⟩
      replace hC := hC.trans (Ext.any hx)
      replace hr := Rd.ext hr hx
      replace h_g := Blk.ext h_g hx
      clear hx
      refine lf_val (v := .int .i64 (if e = 0 then 3 else e)) (wantAll rfl) (rv_assign rfl (fr_eval rfl rfl)) ?_
      refine lf_nil ?_
      refine then_n ?_
      refine wp_gen (fun F' => F' 0 = .pointer (some ⟨g, 0, none⟩) ∧ F' 2 = .int .i64 (if e = 0 then 3 else e) ∧ F' 13 = .bool true) ⟨e0, rfl, e13⟩ ?_
      clear e0 e2 e13
      clear F
      rintro F ⟨e0, e2, e13⟩
      refine wp_ret ?_
      exact bodyPost_ret (v := (.int .i64 (if e = 0 then 3 else e))) (res1 rfl (ro_tmp rfl e2)) rfl (done_post (x := 3) (by unfold doneE; rw [if_pos ⟨hc1, by omega⟩]) (by rw [if_pos hc1]) ⟨_, (by have h := h_g; rw [if_pos hc1] at h; exact h), hr, hov, hrl⟩ hC)
    · refine lf_val (v := .bool false) (wantF (d := 6) rfl (by kernel_rfl) rfl rfl) (rv_gtr rfl (fr_eval rfl rfl) rfl (decide_eq_false (by omega))) ?_
      refine lf_val (v := .bool false) (wantAll rfl) (rv_pickT rfl (fr_eval rfl rfl) (fr_eval rfl rfl)) ?_
      refine lf_nil ?_
      refine then_n ?_
      refine wp_gen (fun F' => F' 0 = .pointer (some ⟨g, 0, none⟩) ∧ F' 2 = .int .i64 0 ∧ F' 13 = .bool false) ⟨e0, e2, rfl⟩ ?_
      clear e0 e2
      clear F
      rintro F ⟨e0, e2, e13⟩
      refine wp_cond_false (fr_eval rfl e13) ?_
      refine wp_skip ?_
      refine then_n ?_
      refine wp_seq ?_
      refine wp_regionF ?_
      refine lf_val (v := .pointer (some ⟨g, 0, none⟩)) (wantAll rfl) (rv_move rfl (fr_eval rfl e0)) ?_
      refine lf_call (wantAll rfl) (rv_call (args := [.pointer (some ⟨g, 0, none⟩)]) rfl (evc (fr_eval rfl rfl) evn) Try.call17) (err_calls _ h_g) ?_
      rintro _ w4 ⟨rfl, hx⟩
      refine ⟨_, rfl, ?_⟩
      replace hC := hC.trans (Ext.any hx)
      replace hr := Rd.ext hr hx
      replace h_g := Blk.ext h_g hx
      clear hx
      refine lf_val (v := .int .i64 e) (wantAll rfl) (rv_assign rfl (fr_eval rfl rfl)) ?_
      refine lf_nil ?_
      refine then_n ?_
      refine wp_gen (fun F' => F' 0 = .pointer (some ⟨g, 0, none⟩) ∧ F' 2 = .int .i64 e ∧ F' 13 = .bool false) ⟨e0, rfl, e13⟩ ?_
      clear e0 e2 e13
      clear F
      rintro F ⟨e0, e2, e13⟩
      refine wp_ret ?_
      exact bodyPost_ret (v := (.int .i64 e)) (res1 rfl (ro_tmp rfl e2)) rfl (done_post (by unfold doneE; rw [if_neg (by omega)]) rfl ⟨_, h_g, hr, hov, hrl⟩ hC)
  · refine lf_val (v := .bool false) (wantAll rfl) (rv_eql rfl (fr_eval rfl rfl) rfl (decide_eq_false (by omega))) ?_
    refine lf_val (v := .bool false) (wantAll rfl) (rv_move rfl (fr_eval rfl rfl)) ?_
    refine lf_not (wantNot (d := 6) rfl (by kernel_rfl) rfl rfl) ?_
    refine lf_not (wantNot (d := 6) rfl (by kernel_rfl) rfl rfl) ?_
    refine lf_not (wantNot (d := 6) rfl (by kernel_rfl) rfl rfl) ?_
    refine lf_not (wantNot (d := 6) rfl (by kernel_rfl) rfl rfl) ?_
    refine lf_not (wantNot (d := 6) rfl (by kernel_rfl) rfl rfl) ?_
    refine lf_not (wantNot (d := 6) rfl (by kernel_rfl) rfl rfl) ?_
    refine lf_val (v := .bool false) (wantAll rfl) (rv_pickF rfl (fr_eval rfl rfl) rfl) ?_
    refine lf_nil ?_
    refine then_n ?_
    refine wp_gen (fun F' => F' 0 = .pointer (some ⟨g, 0, none⟩) ∧ F' 2 = .int .i64 0 ∧ F' 13 = .bool false) ⟨e0, e2, rfl⟩ ?_
    clear e0 e2
    clear F
    rintro F ⟨e0, e2, e13⟩
    refine wp_cond_false (fr_eval rfl e13) ?_
    refine wp_skip ?_
    refine then_n ?_
    refine wp_seq ?_
    refine wp_regionF ?_
    refine lf_val (v := .pointer (some ⟨g, 0, none⟩)) (wantAll rfl) (rv_move rfl (fr_eval rfl e0)) ?_
    refine lf_call (wantAll rfl) (rv_call (args := [.pointer (some ⟨g, 0, none⟩)]) rfl (evc (fr_eval rfl rfl) evn) Try.call17) (err_calls _ h_g) ?_
    rintro _ w5 ⟨rfl, hx⟩
    refine ⟨_, rfl, ?_⟩
    replace hC := hC.trans (Ext.any hx)
    replace hr := Rd.ext hr hx
    replace h_g := Blk.ext h_g hx
    clear hx
    refine lf_val (v := .int .i64 e) (wantAll rfl) (rv_assign rfl (fr_eval rfl rfl)) ?_
    refine lf_nil ?_
    refine then_n ?_
    refine wp_gen (fun F' => F' 0 = .pointer (some ⟨g, 0, none⟩) ∧ F' 2 = .int .i64 e ∧ F' 13 = .bool false) ⟨e0, rfl, e13⟩ ?_
    clear e0 e2 e13
    clear F
    rintro F ⟨e0, e2, e13⟩
    refine wp_ret ?_
    exact bodyPost_ret (v := (.int .i64 e)) (res1 rfl (ro_tmp rfl e2)) rfl (done_post (by unfold doneE; rw [if_neg (by omega)]) rfl ⟨_, h_g, hr, hov, hrl⟩ hC)

set_option maxRecDepth 100000 in
set_option maxHeartbeats 4000000 in
theorem sumE_calls {g : Nat} {v0 : Value} {r : List UInt8} {e : Int} (w : World) (he0 : EyeAt w g v0 r e) (hne : v0.ownBlock ≠ some g) (hv0 : ∀ k, v0.ownBlock = some k → k < w.heap.size) :
    Calls Try.prog 30 #[.pointer (some ⟨g, 0, none⟩)] w fun e'' w' => e'' = .returned (.agg (cBs (sumV r e)).toArray) ∧ EyeAt w' g v0 (rawR r e 32) (rawE r e 32) ∧ Chg (· = g) w w' := by
  refine calls_fr (args := [.pointer (some ⟨g, 0, none⟩)]) (n := 9) Try.func30 rfl rfl (show 1 ≤ 9 by decide) ?_
  have hC : Chg (· = g) w w := Chg.refl _ _
  have hy := he0
  by_cases h0 : rawE r e 32 = 0
  · refine wp_seq ?_
    refine wp_gen (fun F' => F' 0 = .pointer (some ⟨g, 0, none⟩)) rfl ?_
    rintro F e0
    refine wp_regionF ?_
    refine lf_ex (wantAll rfl) (ex_allocG 45 (z := .agg (cBs (List.replicate 32 0)).toArray) (n := 32) (cs := cBs (List.replicate 32 0)) (by kernel_rfl) (by rfl) rfl) ?_
    rintro _ w1 ⟨g1, hg_g1, rfl, h_g1, hx⟩
    have ge_g1 : w.heap.size ≤ g1 := by have := hC.size; omega
    have lt_g_g1 : g < g1 := by have := EyeAt.lt hy; omega
    replace hC := hC.trans (Ext.any hx)
    replace hy := EyeAt.ext hy hx
    clear hx hg_g1
    refine lf_nil ?_
    refine then_n ?_
    refine wp_seq ?_
    refine wp_gen (fun F' => F' 0 = .pointer (some ⟨g, 0, none⟩) ∧ F' 2 = .pointer (some ⟨g1, 0, none⟩)) ⟨e0, rfl⟩ ?_
    clear e0
    clear F
    rintro F ⟨e0, e2⟩
    refine wp_regionF ?_
    refine lf_ex (wantAll rfl) (ex_allocG 45 (z := .agg (cBs (List.replicate 32 0)).toArray) (n := 32) (cs := cBs (List.replicate 32 0)) (by kernel_rfl) (by rfl) rfl) ?_
    rintro _ w2 ⟨g2, hg_g2, rfl, h_g2, hx⟩
    have ge_g2 : w.heap.size ≤ g2 := by have := hC.size; omega
    have lt_g_g2 : g < g2 := by have := EyeAt.lt hy; omega
    have lt_g1_g2 : g1 < g2 := by have := Blk.lt h_g1; omega
    replace hC := hC.trans (Ext.any hx)
    replace hy := EyeAt.ext hy hx
    replace h_g1 := Blk.ext h_g1 hx
    clear hx hg_g2
    refine lf_nil ?_
    refine then_n ?_
    refine wp_seq ?_
    refine wp_gen (fun F' => F' 0 = .pointer (some ⟨g, 0, none⟩) ∧ F' 2 = .pointer (some ⟨g1, 0, none⟩) ∧ F' 3 = .pointer (some ⟨g2, 0, none⟩)) ⟨e0, e2, rfl⟩ ?_
    clear e0 e2
    clear F
    rintro F ⟨e0, e2, e3⟩
    obtain ⟨B1, hB1⟩ : ∃ B, B = w2.heap.size := ⟨_, rfl⟩
    have hwB : w.heap.size ≤ B1 := by have := hC.size; omega
    have bl_g1 : g1 < B1 := by have := Blk.lt h_g1; omega
    have bl_g2 : g2 < B1 := by have := Blk.lt h_g2; omega
    replace hB1 : B1 ≤ w2.heap.size := by omega
    refine wp_regionX (fun k => B1 ≤ k ∨ ((Value.slice none 0 0).ownBlock = some k ∨ k = g ∨ k = g2)) 4 (by kernel_rfl) (by kernel_rfl) ?_
    refine xl_take (i := 0) (v := .slice (some ⟨g2, 0, none⟩) 32 32) rfl (by kernel_rfl) (by kernel_rfl) (by kernel_rfl) (by kernel_rfl) (yx_val (wantAll rfl) (fun w' hx' => rv_sliceArr rfl (fr_eval rfl e3) Try.underlying45 Try.sz5 (by decide))) ?_
    refine xl_take (i := 1) (v := .pointer (some ⟨g, 0, none⟩)) rfl (by kernel_rfl) (by kernel_rfl) (by kernel_rfl) (by kernel_rfl) (yx_val (wantAll rfl) (fun w' hx' => rv_move rfl (fr_eval rfl e0))) ?_
    refine anyX_ready (rs := [2]) (by kernel_rfl) ?_
    intro w3 hx
    replace hC := hC.trans (Ext.any hx)
    replace hy := EyeAt.ext hy hx
    replace h_g1 := Blk.ext h_g1 hx
    replace h_g2 := Blk.ext h_g2 hx
    replace hB1 : B1 ≤ w3.heap.size := by have := Chg.size hx; omega
    clear hx
    refine (anyX_cons ?_ anyX_nil)
    refine xl_step (i := 2) rfl (wantAll rfl) ?_
    refine of_call (rv_call (args := [.pointer (some ⟨g, 0, none⟩), .int .i64 32]) rfl (evc (fr_eval rfl rfl) (evc rfl evn)) Try.call20) (raw_calls 32 _ hy hne) ?_
    rintro _ w4 ⟨⟨y1, rfl, ho1', ge_ho1⟩, hy', hx⟩
    refine ⟨_, rfl, ?_⟩
    have hx0 := hx
    replace ge_ho1 : ∀ k, (y1 : Value).ownBlock = some k → w.heap.size ≤ k := fun k hk => Nat.le_trans (Chg.size hC) (ge_ho1 k hk)
    replace h_g1 := Blk.keep h_g1 hx (fun e => by have e : g1 = g := e; omega)
    replace h_g2 := Blk.keep h_g2 hx (fun e => by have e : g2 = g := e; omega)
    replace hC := hC.trans hx
    replace hB1 : B1 ≤ w4.heap.size := by have := Chg.size hx; omega
    replace hy := hy'
    have ho1 := ho1'
    clear hy' ho1'
    refine ⟨Chg.mono hx0 (fun i hi e => Or.inr (Or.inr (Or.inl e))), ?_⟩
    clear hx0
    clear hx
    have hl32 : (rawV r e 32).length = 32 := raw_len (n := 32) h0
    refine anyX_ready (rs := [3]) (by kernel_rfl) ?_
    intro w5 hx
    replace hC := hC.trans (Ext.any hx)
    replace hy := EyeAt.ext hy hx
    replace h_g1 := Blk.ext h_g1 hx
    replace h_g2 := Blk.ext h_g2 hx
    replace ho1 := Own.ext ho1 hx
    replace hB1 : B1 ≤ w5.heap.size := by have := Chg.size hx; omega
    clear hx
    refine (anyX_cons ?_ anyX_nil)
    refine xl_step (i := 3) rfl (wantAll rfl) ?_
    refine of_ex (ex_copyW (n := 32) rfl h_g2 (fr_eval rfl rfl) (fr_eval rfl rfl) (RdB.rn (OwnB.rd ho1) rfl) Try.underlying22 Try.sz5 (cBs_len (List.length_replicate ..)) (by omega) (by decide) (show _ = cBs (sumV r e) from (by rw [← cBs_take, sum_raw h0]))) ?_
    rintro _ w6 ⟨rfl, h_g2', hx⟩
    
    have hx0 := hx
    replace hy := EyeAt.keep hy hx (fun e => by have e : g = g2 := e; omega) (fun k hk e => by have e : k = g2 := e; have := hv0 k hk; omega)
    replace h_g1 := Blk.keep h_g1 hx (fun e => by have e : g1 = g2 := e; omega)
    replace ho1 := Own.keep ho1 hx (fun b hb e => Own.neType ho1 h_g2 (by decide) (by have e : b = g2 := e; rw [← e]; exact hb))
    replace hC := Chg.then hC hx (fun i hi e => absurd hi (by have e : i = g2 := e; omega))
    replace hB1 : B1 ≤ w6.heap.size := by have := Chg.size hx; omega
    replace h_g2 := h_g2'
    clear h_g2'
    refine ⟨Chg.mono hx0 (fun i hi e => Or.inr (Or.inr (Or.inr e))), ?_⟩
    clear hx0
    clear hx
    refine xl_tail (s := 4) rfl ?_
    intro w7 hx
    replace hC := hC.trans (Ext.any hx)
    replace hy := EyeAt.ext hy hx
    replace h_g1 := Blk.ext h_g1 hx
    replace h_g2 := Blk.ext h_g2 hx
    replace ho1 := Own.ext ho1 hx
    replace hB1 : B1 ≤ w7.heap.size := by have := Chg.size hx; omega
    clear hx
    clear hB1
    refine lf_nil ?_
    refine then_n ?_
    refine wp_seq ?_
    clear ho1
    refine wp_gen (fun F' => F' 0 = .pointer (some ⟨g, 0, none⟩) ∧ F' 2 = .pointer (some ⟨g1, 0, none⟩) ∧ F' 3 = .pointer (some ⟨g2, 0, none⟩)) ⟨e0, e2, e3⟩ ?_
    clear e0 e2 e3
    clear F
    rintro F ⟨e0, e2, e3⟩
    refine wp_regionF ?_
    refine lf_val (v := .agg (cBs (sumV r e)).toArray) (wantAll rfl) (rv_loadW rfl h_g2 (fr_eval rfl e3) Try.underlying45 rfl (sz_len Try.sz45 (cBs_len sumV_len))) ?_
    refine lf_sk (wantAll rfl) (ex_storeW (cs := cBs (sumV r e)) rfl h_g1 (fr_eval rfl e2) (fr_eval rfl rfl) (sz_len Try.sz45 (cBs_len sumV_len)) (((cBs_len (List.length_replicate ..))).trans ((cBs_len sumV_len)).symm) (cBs_one _)) ?_
    rintro w8 ⟨h_g1', hx⟩
    replace h_g1' : Blk w8 g1 (cBs (sumV r e)) 45 := h_g1'
    replace hy := EyeAt.keep hy hx (fun e => by have e : g = g1 := e; omega) (fun k hk e => by have e : k = g1 := e; have := hv0 k hk; omega)
    replace h_g2 := Blk.keep h_g2 hx (fun e => by have e : g2 = g1 := e; omega)
    replace hC := Chg.then hC hx (fun i hi e => absurd hi (by have e : i = g1 := e; omega))
    replace h_g1 := h_g1'
    clear h_g1'
    clear hx
    refine lf_nil ?_
    refine then_n ?_
    refine wp_gen (fun F' => F' 0 = .pointer (some ⟨g, 0, none⟩) ∧ F' 2 = .pointer (some ⟨g1, 0, none⟩) ∧ F' 3 = .pointer (some ⟨g2, 0, none⟩)) ⟨e0, e2, e3⟩ ?_
    clear e0 e2 e3
    clear F
    rintro F ⟨e0, e2, e3⟩
    refine wp_ret ?_
    exact bodyPost_ret (v := (.agg (cBs (sumV r e)).toArray)) (res1 rfl (ro_cell rfl e2 h_g1 Try.underlying45 rfl (sz_len Try.sz45 (cBs_len sumV_len)))) rfl (⟨(by first | rfl | (unfold sumV; rw [if_neg h0])), hy, hC⟩)
  · refine wp_seq ?_
    refine wp_gen (fun F' => F' 0 = .pointer (some ⟨g, 0, none⟩)) rfl ?_
    rintro F e0
    refine wp_regionF ?_
    refine lf_ex (wantAll rfl) (ex_allocG 45 (z := .agg (cBs (List.replicate 32 0)).toArray) (n := 32) (cs := cBs (List.replicate 32 0)) (by kernel_rfl) (by rfl) rfl) ?_
    rintro _ w9 ⟨g3, hg_g3, rfl, h_g3, hx⟩
    have ge_g3 : w.heap.size ≤ g3 := by have := hC.size; omega
    have lt_g_g3 : g < g3 := by have := EyeAt.lt hy; omega
    replace hC := hC.trans (Ext.any hx)
    replace hy := EyeAt.ext hy hx
    clear hx hg_g3
    refine lf_nil ?_
    refine then_n ?_
    refine wp_seq ?_
    refine wp_gen (fun F' => F' 0 = .pointer (some ⟨g, 0, none⟩) ∧ F' 2 = .pointer (some ⟨g3, 0, none⟩)) ⟨e0, rfl⟩ ?_
    clear e0
    clear F
    rintro F ⟨e0, e2⟩
    refine wp_regionF ?_
    refine lf_ex (wantAll rfl) (ex_allocG 45 (z := .agg (cBs (List.replicate 32 0)).toArray) (n := 32) (cs := cBs (List.replicate 32 0)) (by kernel_rfl) (by rfl) rfl) ?_
    rintro _ w10 ⟨g4, hg_g4, rfl, h_g4, hx⟩
    have ge_g4 : w.heap.size ≤ g4 := by have := hC.size; omega
    have lt_g_g4 : g < g4 := by have := EyeAt.lt hy; omega
    have lt_g3_g4 : g3 < g4 := by have := Blk.lt h_g3; omega
    replace hC := hC.trans (Ext.any hx)
    replace hy := EyeAt.ext hy hx
    replace h_g3 := Blk.ext h_g3 hx
    clear hx hg_g4
    refine lf_nil ?_
    refine then_n ?_
    refine wp_seq ?_
    refine wp_gen (fun F' => F' 0 = .pointer (some ⟨g, 0, none⟩) ∧ F' 2 = .pointer (some ⟨g3, 0, none⟩) ∧ F' 3 = .pointer (some ⟨g4, 0, none⟩)) ⟨e0, e2, rfl⟩ ?_
    clear e0 e2
    clear F
    rintro F ⟨e0, e2, e3⟩
    obtain ⟨B2, hB2⟩ : ∃ B, B = w10.heap.size := ⟨_, rfl⟩
    have hwB : w.heap.size ≤ B2 := by have := hC.size; omega
    have bl_g3 : g3 < B2 := by have := Blk.lt h_g3; omega
    have bl_g4 : g4 < B2 := by have := Blk.lt h_g4; omega
    replace hB2 : B2 ≤ w10.heap.size := by omega
    refine wp_regionX (fun k => B2 ≤ k ∨ ((Value.slice none 0 0).ownBlock = some k ∨ k = g ∨ k = g4)) 4 (by kernel_rfl) (by kernel_rfl) ?_
    refine xl_take (i := 0) (v := .slice (some ⟨g4, 0, none⟩) 32 32) rfl (by kernel_rfl) (by kernel_rfl) (by kernel_rfl) (by kernel_rfl) (yx_val (wantAll rfl) (fun w' hx' => rv_sliceArr rfl (fr_eval rfl e3) Try.underlying45 Try.sz5 (by decide))) ?_
    refine xl_take (i := 1) (v := .pointer (some ⟨g, 0, none⟩)) rfl (by kernel_rfl) (by kernel_rfl) (by kernel_rfl) (by kernel_rfl) (yx_val (wantAll rfl) (fun w' hx' => rv_move rfl (fr_eval rfl e0))) ?_
    refine anyX_ready (rs := [2]) (by kernel_rfl) ?_
    intro w11 hx
    replace hC := hC.trans (Ext.any hx)
    replace hy := EyeAt.ext hy hx
    replace h_g3 := Blk.ext h_g3 hx
    replace h_g4 := Blk.ext h_g4 hx
    replace hB2 : B2 ≤ w11.heap.size := by have := Chg.size hx; omega
    clear hx
    refine (anyX_cons ?_ anyX_nil)
    refine xl_step (i := 2) rfl (wantAll rfl) ?_
    refine of_call (rv_call (args := [.pointer (some ⟨g, 0, none⟩), .int .i64 32]) rfl (evc (fr_eval rfl rfl) (evc rfl evn)) Try.call20) (raw_calls 32 _ hy hne) ?_
    rintro _ w12 ⟨⟨y2, rfl, ho2', ge_ho2⟩, hy', hx⟩
    refine ⟨_, rfl, ?_⟩
    have hx0 := hx
    replace ge_ho2 : ∀ k, (y2 : Value).ownBlock = some k → w.heap.size ≤ k := fun k hk => Nat.le_trans (Chg.size hC) (ge_ho2 k hk)
    replace h_g3 := Blk.keep h_g3 hx (fun e => by have e : g3 = g := e; omega)
    replace h_g4 := Blk.keep h_g4 hx (fun e => by have e : g4 = g := e; omega)
    replace hC := hC.trans hx
    replace hB2 : B2 ≤ w12.heap.size := by have := Chg.size hx; omega
    replace hy := hy'
    have ho2 := ho2'
    clear hy' ho2'
    refine ⟨Chg.mono hx0 (fun i hi e => Or.inr (Or.inr (Or.inl e))), ?_⟩
    clear hx0
    clear hx
    refine anyX_ready (rs := [3]) (by kernel_rfl) ?_
    intro w13 hx
    replace hC := hC.trans (Ext.any hx)
    replace hy := EyeAt.ext hy hx
    replace h_g3 := Blk.ext h_g3 hx
    replace h_g4 := Blk.ext h_g4 hx
    replace ho2 := Own.ext ho2 hx
    replace hB2 : B2 ≤ w13.heap.size := by have := Chg.size hx; omega
    clear hx
    refine (anyX_cons ?_ anyX_nil)
    refine xl_step (i := 3) rfl (wantAll rfl) ?_
    refine of_val (v := .int .i64 0) (rv_copy0 rfl (fr_eval rfl rfl) (fr_eval rfl rfl) (RdB.rn (OwnB.rd ho2) (by unfold rawV; rw [if_neg h0]; rfl)) Try.underlying22 Try.sz5) ?_
    refine ⟨Chg.refl _ _, ?_⟩
    refine xl_tail (s := 4) rfl ?_
    intro w14 hx
    replace hC := hC.trans (Ext.any hx)
    replace hy := EyeAt.ext hy hx
    replace h_g3 := Blk.ext h_g3 hx
    replace h_g4 := Blk.ext h_g4 hx
    replace ho2 := Own.ext ho2 hx
    replace hB2 : B2 ≤ w14.heap.size := by have := Chg.size hx; omega
    clear hx
    clear hB2
    refine lf_nil ?_
    refine then_n ?_
    refine wp_seq ?_
    clear ho2
    refine wp_gen (fun F' => F' 0 = .pointer (some ⟨g, 0, none⟩) ∧ F' 2 = .pointer (some ⟨g3, 0, none⟩) ∧ F' 3 = .pointer (some ⟨g4, 0, none⟩)) ⟨e0, e2, e3⟩ ?_
    clear e0 e2 e3
    clear F
    rintro F ⟨e0, e2, e3⟩
    refine wp_regionF ?_
    refine lf_val (v := .agg (cBs (List.replicate 32 0)).toArray) (wantAll rfl) (rv_loadW rfl h_g4 (fr_eval rfl e3) Try.underlying45 rfl (sz_len Try.sz45 (cBs_len (List.length_replicate ..)))) ?_
    refine lf_sk (wantAll rfl) (ex_storeW (cs := cBs (List.replicate 32 0)) rfl h_g3 (fr_eval rfl e2) (fr_eval rfl rfl) (sz_len Try.sz45 (cBs_len (List.length_replicate ..))) (((cBs_len (List.length_replicate ..))).trans ((cBs_len (List.length_replicate ..))).symm) (cBs_one _)) ?_
    rintro w15 ⟨h_g3', hx⟩
    replace h_g3' : Blk w15 g3 (cBs (List.replicate 32 0)) 45 := h_g3'
    replace hy := EyeAt.keep hy hx (fun e => by have e : g = g3 := e; omega) (fun k hk e => by have e : k = g3 := e; have := hv0 k hk; omega)
    replace h_g4 := Blk.keep h_g4 hx (fun e => by have e : g4 = g3 := e; omega)
    replace hC := Chg.then hC hx (fun i hi e => absurd hi (by have e : i = g3 := e; omega))
    replace h_g3 := h_g3'
    clear h_g3'
    clear hx
    refine lf_nil ?_
    refine then_n ?_
    refine wp_gen (fun F' => F' 0 = .pointer (some ⟨g, 0, none⟩) ∧ F' 2 = .pointer (some ⟨g3, 0, none⟩) ∧ F' 3 = .pointer (some ⟨g4, 0, none⟩)) ⟨e0, e2, e3⟩ ?_
    clear e0 e2 e3
    clear F
    rintro F ⟨e0, e2, e3⟩
    refine wp_ret ?_
    exact bodyPost_ret (v := (.agg (cBs (List.replicate 32 0)).toArray)) (res1 rfl (ro_cell rfl e2 h_g3 Try.underlying45 rfl (sz_len Try.sz45 (cBs_len (List.length_replicate ..))))) rfl (⟨(by first | rfl | (unfold sumV; rw [if_neg h0])), hy, hC⟩)

theorem look_post {g : Nat} {v : Value} {r : List UInt8} {w w' : World} (hb : Blk w' g [v, .int .i64 0] 103) (hr : RdB w' v r) (hl : r.length ≤ 100000000) (hr0 : RdB w v r) (hg : w.heap.size ≤ g) (hC : Ext w w') :
    (∃ g' v0, Ending.returned (.pointer (some ⟨g, 0, none⟩)) = .returned (.pointer (some ⟨g', 0, none⟩)) ∧ EyeAt w' g' v0 r 0 ∧ w.heap.size ≤ g' ∧ (∀ k, v0.ownBlock = some k → k < w.heap.size ∧ 0 < r.length ∧ v.ownBlock = some k)) ∧ Ext w w' := by
  by_cases h : 0 < r.length
  · exact ⟨⟨g, v, rfl, ⟨v, hb, hr, fun _ => rfl, hl⟩, hg, fun k hk => ⟨Rd.lt hr0 (by simpa using h) k hk, h, hk⟩⟩, hC⟩
  · exact ⟨⟨g, .slice none 0 0, rfl, ⟨v, hb, hr, fun h2 => absurd h2 h, hl⟩, hg, fun k hk => by simp [Value.ownBlock] at hk⟩, hC⟩

set_option maxRecDepth 100000 in
set_option maxHeartbeats 4000000 in
theorem look_calls {r : List UInt8} {v : Value} (hl : r.length ≤ 100000000) (w : World) (hr0 : RdB w v r) :
    Calls Try.prog 14 #[v] w fun e'' w' => (∃ g v0, e'' = .returned (.pointer (some ⟨g, 0, none⟩)) ∧ EyeAt w' g v0 r 0 ∧ w.heap.size ≤ g ∧ (∀ k, v0.ownBlock = some k → k < w.heap.size ∧ 0 < r.length ∧ v.ownBlock = some k)) ∧ Ext w w' := by
  refine calls_fr (args := [v]) (n := 6) Try.func14 rfl rfl (show 1 ≤ 6 by decide) ?_
  have hC : Ext w w := Chg.refl _ _
  have hr := hr0
  refine wp_seq ?_
  refine wp_gen (fun F' => F' 0 = v) rfl ?_
  rintro F e0
  refine wp_regionF ?_
  refine lf_val (v := .pointer none) (wantAll rfl) (rv_assign rfl rfl) ?_
  refine lf_nil ?_
  refine then_n ?_
  refine wp_seq ?_
  refine wp_gen (fun F' => F' 0 = v ∧ F' 2 = .pointer none) ⟨e0, rfl⟩ ?_
  clear e0
  clear F
  rintro F ⟨e0, e2⟩
  refine wp_regionF ?_
  refine lf_val (v := v) (wantAll rfl) (rv_move rfl (fr_eval rfl e0)) ?_
  refine lf_val (v := .agg #[v, .int .i64 0]) (wantAll rfl) (rv_buildS (ps := [(0, (.tmp 3))]) (places := #[(0, 1), (1, 1)]) (z := .agg #[.slice none 0 0, .int .i64 0]) (zc := [.slice none 0 0, .int .i64 0]) (cs := [v, .int .i64 0]) rfl (evpc (fr_eval rfl rfl) evpn) (by kernel_rfl) rfl Try.underlying103 (fun _ => by kernel_rfl) (fill1 rfl (Rd.oneV hr) (by decide) (show _ = [v, .int .i64 0] from rfl) fill0)) ?_
  refine lf_ex (wantAll rfl) (ex_boxG 103 (.tmp 4) (cs := [v, .int .i64 0]) (fr_eval rfl rfl) (by rfl) rfl) ?_
  rintro _ w1 ⟨g1, hg_g1, rfl, h_g1, hx⟩
  have ge_g1 : w.heap.size ≤ g1 := by have := hC.size; omega
  replace hC := hC.trans hx
  replace hr := Rd.ext hr hx
  clear hx hg_g1
  refine lf_val (v := .pointer (some ⟨g1, 0, none⟩)) (wantAll rfl) (rv_assign rfl (fr_eval rfl rfl)) ?_
  refine lf_nil ?_
  refine then_n ?_
  refine wp_gen (fun F' => F' 0 = v ∧ F' 2 = .pointer (some ⟨g1, 0, none⟩)) ⟨e0, rfl⟩ ?_
  clear e0 e2
  clear F
  rintro F ⟨e0, e2⟩
  refine wp_ret ?_
  exact bodyPost_ret (v := (.pointer (some ⟨g1, 0, none⟩))) (res1 rfl (ro_tmp rfl e2)) rfl (look_post (by assumption) hr hl hr0 ge_g1 hC)

end Go.Proofs.Ytjgcjddaladgfaa
