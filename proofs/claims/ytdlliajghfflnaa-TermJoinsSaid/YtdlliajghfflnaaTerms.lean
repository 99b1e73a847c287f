/- Terms, banks and minds: the walks. -/
import Derived.Test.YtdlliajghfflnaaMapR
namespace Go.Proofs.Ytdlliajghfflnaa
open Go.RowKit Go.Bz Go.Bz.Term
attribute [local irreducible] wpList Code.wp wpAnyX
theorem cT_dec (b : Bool) : (cT b)[0]? = some (.bool (decide (b = true))) := by simp [cT]
theorem dec_iff {p q : Prop} [Decidable p] [Decidable q] (h : p ↔ q) : decide p = decide q := decide_eq_decide.2 h

theorem zTe_l0 {a0 : Value} {a1 : Value} {a2 : Value} : List.length ([a0, a1, a2]) = 3 := (show List.length [a0, a1, a2] = 3 from rfl)
theorem zTe_o1 {a0 : Value} {a1 : Value} {a2 : Value} (qa0 : a0.oneCell' = true) (qa1 : a1.oneCell' = true) (qa2 : a2.oneCell' = true) : ∀ u ∈ ([a0, a1, a2]), u.oneCell' = true := (ones_cons qa0 (ones_cons qa1 (ones_cons qa2 ones_nil)))
theorem zTe_g2 {a0 : Value} {a1 : Value} {a2 : Value} : ([a0, a1, a2])[0]? = some a0 := rfl
theorem zTe_g3 {a0 : Value} {a1 : Value} {a2 : Value} : ([a0, a1, a2])[1]? = some a1 := rfl
theorem zTe_g4 {a0 : Value} {a1 : Value} {a2 : Value} : ([a0, a1, a2])[2]? = some a2 := rfl
set_option maxRecDepth 100000 in
set_option maxHeartbeats 4000000 in
theorem right_calls (t : List Nd) (v : Value) (w : World) (hr0 : Rd w 3 v t.length (t.flatMap cNd)) :
    Calls Try.prog 18 #[v] w fun e'' w' => e'' = .returned (.bool (decide (okT t))) ∧ Ext w w' := by
  refine calls_fr (args := [v]) (n := 78) Try.func18 rfl rfl (show 1 ≤ 78 by decide) ?_
  have hr := Rd.stab hr0
  have hH : Heap (newN w) w w [] := Heap.fresh
  refine wp_seq ?_
  refine wp_gen (fun F' => F' 0 = v) rfl ?_
  rintro F e0
  refine wp_regionF ?_
  refine lf_val (v := .bool false) (wantAll rfl) (rv_assign rfl rfl) ?_
  refine lf_nil ?_
  refine then_n ?_
  refine wp_seq ?_
  refine wp_seq ?_
  refine wp_gen (fun F' => F' 0 = v ∧ F' 2 = .bool false) ⟨e0, rfl⟩ ?_
  clear e0
  clear F
  rintro F ⟨e0, e2⟩
  refine wp_regionF ?_
  refine lf_val (v := v) (wantAll rfl) (rv_move rfl (fr_eval rfl e0)) ?_
  refine lf_val (v := .int .i64 ((t.length : Nat) : Int)) (wantAll rfl) (rv_len rfl (fr_eval rfl rfl) (hr.rd _ hH.chg) Try.underlying24) ?_
  refine lf_val (v := .bool (decide (t.length < 1))) (wantAll rfl) (rv_lssP (p := t.length < 1) rfl (fr_eval rfl rfl) rfl (by omega)) ?_
  refine lf_val (v := .bool (decide (t.length < 1))) (wantAll rfl) (rv_move rfl (fr_eval rfl rfl)) ?_
  refine lf_joinP (fun F' => F' 0 = v ∧ F' 2 = .bool false ∧ F' 12 = .bool (decide ((t.length < 1) ∨ (t.length > 64)))) 4 (fun hk => ?_) ?_
  · by_cases hc1 : t.length < 1
    · refine lf_not (wantNot (d := 8) rfl (by kernel_rfl) rfl (congrArg Value.bool (decide_eq_true hc1))) ?_
      refine lf_not (wantNot (d := 8) rfl (by kernel_rfl) rfl (congrArg Value.bool (decide_eq_true hc1))) ?_
      refine lf_not (wantNot (d := 8) rfl (by kernel_rfl) rfl (congrArg Value.bool (decide_eq_true hc1))) ?_
      refine lf_val (v := .bool true) (wantAll rfl) (rv_pickT rfl (fr_eval rfl (congrArg Value.bool (decide_eq_true hc1))) rfl) ?_
      exact hk _ ⟨e0, e2, (congrArg Value.bool (dec_orT hc1))⟩
    · refine lf_val (v := v) (wantF (d := 8) rfl (by kernel_rfl) rfl (congrArg Value.bool (decide_eq_false hc1))) (rv_move rfl (fr_eval rfl e0)) ?_
      refine lf_val (v := .int .i64 ((t.length : Nat) : Int)) (wantF (d := 8) rfl (by kernel_rfl) rfl (congrArg Value.bool (decide_eq_false hc1))) (rv_len rfl (fr_eval rfl rfl) (hr.rd _ hH.chg) Try.underlying24) ?_
      refine lf_val (v := .bool (decide (t.length > 64))) (wantF (d := 8) rfl (by kernel_rfl) rfl (congrArg Value.bool (decide_eq_false hc1))) (rv_gtrP (p := t.length > 64) rfl (fr_eval rfl rfl) rfl (by omega)) ?_
      refine lf_val (v := .bool (decide (t.length > 64))) (wantAll rfl) (rv_pickF rfl (fr_eval rfl (congrArg Value.bool (decide_eq_false hc1))) (fr_eval rfl rfl)) ?_
      exact hk _ ⟨e0, e2, (congrArg Value.bool (dec_or hc1))⟩
  · clear e0 e2
    clear F
    rintro F ⟨e0, e2, e12⟩
    refine lf_nil ?_
    refine then_n ?_
    by_cases hc2 : (t.length < 1) ∨ (t.length > 64)
    · refine wp_cond_true (fr_eval rfl (e12.trans (congrArg Value.bool (decide_eq_true hc2)))) ?_
      refine wp_seq ?_
      refine wp_regionF ?_
      refine lf_val (v := .bool false) (wantAll rfl) (rv_assign rfl rfl) ?_
      refine lf_nil ?_
      refine then_n ?_
      refine wp_gen (fun F' => F' 0 = v ∧ F' 2 = .bool false ∧ F' 12 = .bool true) ⟨e0, rfl, (e12.trans (congrArg Value.bool (decide_eq_true hc2)))⟩ ?_
      clear e0 e2 e12
      clear F
      rintro F ⟨e0, e2, e12⟩
      refine wp_ret ?_
      refine then_ret ?_
      exact bodyPost_ret (v := (.bool false)) (res1 rfl (ro_tmp rfl e2)) rfl (⟨congrArg (fun b => Ending.returned (.bool b)) (decide_eq_false (fun h => by have := h.1; have := h.2.1; omega)).symm, hH.done⟩)
    · refine wp_cond_false (fr_eval rfl (e12.trans (congrArg Value.bool (decide_eq_false hc2)))) ?_
      refine wp_skip ?_
      refine then_n ?_
      refine wp_seq ?_
      refine wp_seq ?_
      refine wp_regionF ?_
      refine lf_val (v := v) (wantAll rfl) (rv_move rfl (fr_eval rfl e0)) ?_
      refine lf_val (v := .int .i64 ((t.length : Nat) : Int)) (wantAll rfl) (rv_len rfl (fr_eval rfl rfl) (hr.rd _ hH.chg) Try.underlying24) ?_
      refine lf_val (v := .int .i64 0) (wantAll rfl) (rv_move rfl rfl) ?_
      refine lf_nil ?_
      refine then_n ?_
      refine wp_block ?_
      refine wp_gen (fun F' => F' 0 = v ∧ F' 2 = .bool false ∧ F' 12 = .bool false ∧ F' 13 = v ∧ F' 14 = .int .i64 ((t.length : Nat) : Int) ∧ F' 15 = .int .i64 0) ⟨e0, e2, (e12.trans (congrArg Value.bool (decide_eq_false hc2))), rfl, rfl, rfl⟩ ?_
      clear e0 e2 e12
      clear F
      rintro F ⟨e0, e2, e12, e13, e14, e15⟩
      refine wp_loopF (fun m F wr => ∃ i : Nat, m = t.length - i ∧ i ≤ t.length ∧ (∀ j, j < i → okN j (t.getD j zN)) ∧ (1 ≤ t.length ∧ t.length ≤ 64) ∧ F 0 = v ∧ F 12 = .bool false ∧ F 13 = v ∧ F 14 = .int .i64 ((t.length : Nat) : Int) ∧ F 15 = .int .i64 ((i : Nat) : Int) ∧ Heap (newN w) w wr []) ⟨0, rfl, Nat.zero_le _, (fun j h => by omega), (by omega), e0, e12, e13, e14, e15, hH⟩ ?_
      clear e0 e2 e12 e13 e14 e15 hH
      clear F
      rintro m F w1 ⟨i, rfl, pi0, pi1, pi2, e0, e12, e13, e14, e15, hH⟩
      refine wp_seq ?_
      refine wp_regionF ?_
      refine lf_val (v := .bool (decide (i < t.length))) (wantAll rfl) (rv_lssP (p := i < t.length) rfl (fr_eval rfl e15) (fr_eval rfl e14) (by omega)) ?_
      refine lf_nil ?_
      refine then_n ?_
      refine wp_seq ?_
      refine wp_gen (fun F' => F' 0 = v ∧ F' 12 = .bool false ∧ F' 13 = v ∧ F' 14 = .int .i64 ((t.length : Nat) : Int) ∧ F' 15 = .int .i64 ((i : Nat) : Int) ∧ F' 16 = .bool (decide (i < t.length))) ⟨e0, e12, e13, e14, e15, rfl⟩ ?_
      clear e0 e12 e13 e14 e15
      clear F
      rintro F ⟨e0, e12, e13, e14, e15, e16⟩
      by_cases hc3 : i < t.length
      · refine wp_cond_true (fr_eval rfl (e16.trans (congrArg Value.bool (decide_eq_true hc3)))) ?_
        refine wp_skip ?_
        refine then_n ?_
        refine wp_seq ?_
        refine wp_block ?_
        refine wp_seq ?_
        refine wp_regionF ?_
        refine lf_val (v := .int .i64 ((i : Nat) : Int)) (wantAll rfl) (rv_move rfl (fr_eval rfl e15)) ?_
        refine lf_val (v := .pointer (some (elemA v (i * 3)))) (wantAll rfl) (rv_index rfl (fr_eval rfl e13) (fr_eval rfl e15) (rdN (hr.rd _ hH.chg) rfl) (show i < t.length from (by omega)) Try.underlying24 Try.sz40 (by decide)) ?_
        refine lf_val (wantAll rfl) (rv_loadElem rfl (fr_eval rfl rfl) (rdN (hr.rd _ hH.chg) rfl) (show i < t.length from (by omega)) (by decide) (flat_part zN cNd_len (show i < t.length from (by omega))) Try.underlying40 rfl Try.sz40) ?_
        refine lf_ex (wantAll rfl) (hx_alloc hH 40 (z := .agg ([.int .i64 0, .int .i64 0, .int .i64 0]).toArray) (n := 3) (cs := [.int .i64 0, .int .i64 0, .int .i64 0]) rfl (by kernel_rfl) (by rfl)) ?_
        clear hH
        rintro _ w2 ⟨g1, rfl, hH, hx⟩
        replace hH : Heap _ _ _ [_] := hH
        clear hx
        refine lf_val (v := .int .i64 ((i : Nat) : Int)) (wantAll rfl) (rv_assign rfl (fr_eval rfl rfl)) ?_
        refine lf_sk (wantAll rfl) (hx_storeW hH (i := 0) (cs := [.int .i64 ((List.getD t i zN).k), .int .i64 ((List.getD t i zN).a), .int .i64 ((List.getD t i zN).b)]) rfl rfl rfl (fr_eval rfl rfl) (fr_eval rfl rfl) (sz_len Try.sz40 zTe_l0) ((zTe_l0).trans (zTe_l0).symm) (zTe_o1 rfl rfl rfl)) ?_
        clear hH
        rintro w3 ⟨hH, hx⟩
        replace hH : Heap _ _ _ [_] := hH
        clear hx
        refine lf_nil ?_
        refine then_n ?_
        refine wp_seq ?_
        refine wp_gen (fun F' => F' 0 = v ∧ F' 3 = .int .i64 ((i : Nat) : Int) ∧ F' 4 = .pointer (some ⟨g1, 0, none⟩) ∧ F' 12 = .bool false ∧ F' 13 = v ∧ F' 14 = .int .i64 ((t.length : Nat) : Int) ∧ F' 15 = .int .i64 ((i : Nat) : Int) ∧ F' 16 = .bool true) ⟨e0, rfl, rfl, e12, e13, e14, e15, (e16.trans (congrArg Value.bool (decide_eq_true hc3)))⟩ ?_
        clear e0 e12 e13 e14 e15 e16
        clear F
        rintro F ⟨e0, e3, e4, e12, e13, e14, e15, e16⟩
        refine wp_regionF ?_
        refine lf_val (v := .pointer (some ⟨g1, 0, none⟩)) (wantAll rfl) (rv_fieldAddr (n := 0) rfl (fr_eval rfl e4) Try.underlying40 rfl rfl (by kernel_rfl)) ?_
        refine lf_val (v := .int .i64 ((List.getD t i zN).k)) (wantAll rfl) (rv_load1 rfl (hH.blk (i := 0) rfl) zTe_g2 (fr_eval rfl rfl) Try.underlying3 rfl Try.sz3) ?_
        refine lf_nil ?_
        refine then_n ?_
        refine wp_block ?_
        refine wp_seq ?_
        refine wp_gen (fun F' => F' 0 = v ∧ F' 3 = .int .i64 ((i : Nat) : Int) ∧ F' 4 = .pointer (some ⟨g1, 0, none⟩) ∧ F' 12 = .bool false ∧ F' 13 = v ∧ F' 14 = .int .i64 ((t.length : Nat) : Int) ∧ F' 15 = .int .i64 ((i : Nat) : Int) ∧ F' 16 = .bool true ∧ F' 21 = .int .i64 ((List.getD t i zN).k)) ⟨e0, e3, e4, e12, e13, e14, e15, e16, rfl⟩ ?_
        clear e0 e3 e4 e12 e13 e14 e15 e16
        clear F
        rintro F ⟨e0, e3, e4, e12, e13, e14, e15, e16, e21⟩
        refine wp_regionF ?_
        refine lf_val (v := .bool (decide ((List.getD t i zN).k = 1))) (wantAll rfl) (rv_eqlP (p := (List.getD t i zN).k = 1) rfl (fr_eval rfl e21) rfl Iff.rfl) ?_
        refine lf_val (v := .bool (decide ((List.getD t i zN).k = 1))) (wantAll rfl) (rv_assign rfl (fr_eval rfl rfl)) ?_
        refine lf_nil ?_
        refine then_n ?_
        refine wp_gen (fun F' => F' 0 = v ∧ F' 3 = .int .i64 ((i : Nat) : Int) ∧ F' 4 = .pointer (some ⟨g1, 0, none⟩) ∧ F' 12 = .bool false ∧ F' 13 = v ∧ F' 14 = .int .i64 ((t.length : Nat) : Int) ∧ F' 15 = .int .i64 ((i : Nat) : Int) ∧ F' 16 = .bool true ∧ F' 21 = .int .i64 ((List.getD t i zN).k) ∧ F' 22 = .bool (decide ((List.getD t i zN).k = 1))) ⟨e0, e3, e4, e12, e13, e14, e15, e16, e21, rfl⟩ ?_
        clear e0 e3 e4 e12 e13 e14 e15 e16 e21
        clear F
        rintro F ⟨e0, e3, e4, e12, e13, e14, e15, e16, e21, e22⟩
        by_cases hc4 : (List.getD t i zN).k = 1
        · refine wp_cond_true (fr_eval rfl (e22.trans (congrArg Value.bool (decide_eq_true hc4)))) ?_
          refine wp_seq ?_
          refine wp_regionF ?_
          refine lf_val (v := .pointer (some ⟨g1, 1, none⟩)) (wantAll rfl) (rv_fieldAddr (n := 0) rfl (fr_eval rfl e4) Try.underlying40 rfl rfl (by kernel_rfl)) ?_
          refine lf_val (v := .int .i64 ((List.getD t i zN).a)) (wantAll rfl) (rv_load1 rfl (hH.blk (i := 0) rfl) zTe_g3 (fr_eval rfl rfl) Try.underlying3 rfl Try.sz3) ?_
          refine lf_val (v := .bool (decide ((List.getD t i zN).a < 0))) (wantAll rfl) (rv_lssP (p := (List.getD t i zN).a < 0) rfl (fr_eval rfl rfl) rfl Iff.rfl) ?_
          refine lf_val (v := .bool (decide ((List.getD t i zN).a < 0))) (wantAll rfl) (rv_move rfl (fr_eval rfl rfl)) ?_
          refine lf_joinP (fun F' => F' 0 = v ∧ F' 3 = .int .i64 ((i : Nat) : Int) ∧ F' 4 = .pointer (some ⟨g1, 0, none⟩) ∧ F' 12 = .bool false ∧ F' 13 = v ∧ F' 14 = .int .i64 ((t.length : Nat) : Int) ∧ F' 15 = .int .i64 ((i : Nat) : Int) ∧ F' 16 = .bool true ∧ F' 21 = .int .i64 ((List.getD t i zN).k) ∧ F' 22 = .bool true ∧ F' 31 = .bool (decide (((List.getD t i zN).a < 0) ∨ ((List.getD t i zN).a > 1048576)))) 4 (fun hk => ?_) ?_
          · by_cases hc5 : (List.getD t i zN).a < 0
            · refine lf_not (wantNot (d := 27) rfl (by kernel_rfl) rfl (congrArg Value.bool (decide_eq_true hc5))) ?_
              refine lf_not (wantNot (d := 27) rfl (by kernel_rfl) rfl (congrArg Value.bool (decide_eq_true hc5))) ?_
              refine lf_not (wantNot (d := 27) rfl (by kernel_rfl) rfl (congrArg Value.bool (decide_eq_true hc5))) ?_
              refine lf_val (v := .bool true) (wantAll rfl) (rv_pickT rfl (fr_eval rfl (congrArg Value.bool (decide_eq_true hc5))) rfl) ?_
              exact hk _ ⟨e0, e3, e4, e12, e13, e14, e15, e16, e21, (e22.trans (congrArg Value.bool (decide_eq_true hc4))), (congrArg Value.bool (dec_orT hc5))⟩
            · refine lf_val (v := .pointer (some ⟨g1, 1, none⟩)) (wantF (d := 27) rfl (by kernel_rfl) rfl (congrArg Value.bool (decide_eq_false hc5))) (rv_fieldAddr (n := 0) rfl (fr_eval rfl e4) Try.underlying40 rfl rfl (by kernel_rfl)) ?_
              refine lf_val (v := .int .i64 ((List.getD t i zN).a)) (wantF (d := 27) rfl (by kernel_rfl) rfl (congrArg Value.bool (decide_eq_false hc5))) (rv_load1 rfl (hH.blk (i := 0) rfl) zTe_g3 (fr_eval rfl rfl) Try.underlying3 rfl Try.sz3) ?_
              refine lf_val (v := .bool (decide ((List.getD t i zN).a > 1048576))) (wantF (d := 27) rfl (by kernel_rfl) rfl (congrArg Value.bool (decide_eq_false hc5))) (rv_gtrP (p := (List.getD t i zN).a > 1048576) rfl (fr_eval rfl rfl) rfl Iff.rfl) ?_
              refine lf_val (v := .bool (decide ((List.getD t i zN).a > 1048576))) (wantAll rfl) (rv_pickF rfl (fr_eval rfl (congrArg Value.bool (decide_eq_false hc5))) (fr_eval rfl rfl)) ?_
              exact hk _ ⟨e0, e3, e4, e12, e13, e14, e15, e16, e21, (e22.trans (congrArg Value.bool (decide_eq_true hc4))), (congrArg Value.bool (dec_or hc5))⟩
          · clear e0 e3 e4 e12 e13 e14 e15 e16 e21 e22
            clear F
            rintro F ⟨e0, e3, e4, e12, e13, e14, e15, e16, e21, e22, e31⟩
            refine lf_val (wantAll rfl) (rv_move rfl (fr_eval rfl e31)) ?_
            refine lf_joinP (fun F' => F' 0 = v ∧ F' 3 = .int .i64 ((i : Nat) : Int) ∧ F' 4 = .pointer (some ⟨g1, 0, none⟩) ∧ F' 12 = .bool false ∧ F' 13 = v ∧ F' 14 = .int .i64 ((t.length : Nat) : Int) ∧ F' 15 = .int .i64 ((i : Nat) : Int) ∧ F' 16 = .bool true ∧ F' 21 = .int .i64 ((List.getD t i zN).k) ∧ F' 22 = .bool true ∧ F' 36 = .bool (decide ((((List.getD t i zN).a < 0) ∨ ((List.getD t i zN).a > 1048576)) ∨ (¬ (List.getD t i zN).b = 0)))) 4 (fun hk => ?_) ?_
            · by_cases hc6 : ((List.getD t i zN).a < 0) ∨ ((List.getD t i zN).a > 1048576)
              · refine lf_not (wantNot (d := 32) rfl (by kernel_rfl) rfl (congrArg Value.bool (decide_eq_true hc6))) ?_
                refine lf_not (wantNot (d := 32) rfl (by kernel_rfl) rfl (congrArg Value.bool (decide_eq_true hc6))) ?_
                refine lf_not (wantNot (d := 32) rfl (by kernel_rfl) rfl (congrArg Value.bool (decide_eq_true hc6))) ?_
                refine lf_val (v := .bool true) (wantAll rfl) (rv_pickT rfl (fr_eval rfl (congrArg Value.bool (decide_eq_true hc6))) rfl) ?_
                exact hk _ ⟨e0, e3, e4, e12, e13, e14, e15, e16, e21, e22, (congrArg Value.bool (dec_orT hc6))⟩
              · refine lf_val (v := .pointer (some ⟨g1, 2, none⟩)) (wantF (d := 32) rfl (by kernel_rfl) rfl (congrArg Value.bool (decide_eq_false hc6))) (rv_fieldAddr (n := 0) rfl (fr_eval rfl e4) Try.underlying40 rfl rfl (by kernel_rfl)) ?_
                refine lf_val (v := .int .i64 ((List.getD t i zN).b)) (wantF (d := 32) rfl (by kernel_rfl) rfl (congrArg Value.bool (decide_eq_false hc6))) (rv_load1 rfl (hH.blk (i := 0) rfl) zTe_g4 (fr_eval rfl rfl) Try.underlying3 rfl Try.sz3) ?_
                refine lf_val (v := .bool (decide (¬ (List.getD t i zN).b = 0))) (wantF (d := 32) rfl (by kernel_rfl) rfl (congrArg Value.bool (decide_eq_false hc6))) (rv_neqP (p := ¬ (List.getD t i zN).b = 0) rfl (fr_eval rfl rfl) rfl Iff.rfl) ?_
                refine lf_val (v := .bool (decide (¬ (List.getD t i zN).b = 0))) (wantAll rfl) (rv_pickF rfl (fr_eval rfl (congrArg Value.bool (decide_eq_false hc6))) (fr_eval rfl rfl)) ?_
                exact hk _ ⟨e0, e3, e4, e12, e13, e14, e15, e16, e21, e22, (congrArg Value.bool (dec_or hc6))⟩
            · clear e0 e3 e4 e12 e13 e14 e15 e16 e21 e22 e31
              clear F
              rintro F ⟨e0, e3, e4, e12, e13, e14, e15, e16, e21, e22, e36⟩
              refine lf_nil ?_
              refine then_n ?_
              by_cases hc7 : (((List.getD t i zN).a < 0) ∨ ((List.getD t i zN).a > 1048576)) ∨ (¬ (List.getD t i zN).b = 0)
              · refine wp_cond_true (fr_eval rfl (e36.trans (congrArg Value.bool (decide_eq_true hc7)))) ?_
                refine wp_seq ?_
                refine wp_regionF ?_
                refine lf_val (v := .bool false) (wantAll rfl) (rv_assign rfl rfl) ?_
                refine lf_nil ?_
                refine then_n ?_
                refine wp_gen (fun F' => F' 0 = v ∧ F' 2 = .bool false ∧ F' 3 = .int .i64 ((i : Nat) : Int) ∧ F' 4 = .pointer (some ⟨g1, 0, none⟩) ∧ F' 12 = .bool false ∧ F' 13 = v ∧ F' 14 = .int .i64 ((t.length : Nat) : Int) ∧ F' 15 = .int .i64 ((i : Nat) : Int) ∧ F' 16 = .bool true ∧ F' 21 = .int .i64 ((List.getD t i zN).k) ∧ F' 22 = .bool true ∧ F' 36 = .bool true) ⟨e0, rfl, e3, e4, e12, e13, e14, e15, e16, e21, e22, (e36.trans (congrArg Value.bool (decide_eq_true hc7)))⟩ ?_
                clear e0 e3 e4 e12 e13 e14 e15 e16 e21 e22 e36
                clear F
                rintro F ⟨e0, e2, e3, e4, e12, e13, e14, e15, e16, e21, e22, e36⟩
                refine wp_ret ?_
                refine blk_ret ?_
                refine blk_ret ?_
                refine then_ret ?_
                refine then_ret ?_
                refine blk_ret ?_
                refine then_ret ?_
                exact bodyPost_ret (v := (.bool false)) (res1 rfl (ro_tmp rfl e2)) rfl (⟨congrArg (fun b => Ending.returned (.bool b)) (decide_eq_false (fun h => by have := h.2.2 i (by omega); unfold okN at this; omega)).symm, hH.done⟩)
              · refine wp_cond_false (fr_eval rfl (e36.trans (congrArg Value.bool (decide_eq_false hc7)))) ?_
                refine wp_skip ?_
                refine blk_n ?_
                refine blk_n ?_
                refine then_n ?_
                refine wp_regionF ?_
                refine lf_val (v := .int .i64 ((i + 1 : Nat) : Int)) (wantAll rfl) (rv_add rfl (fr_eval rfl e15) rfl (wrap_i64 (by omega) (by omega) (by omega))) ?_
                refine lf_val (v := .int .i64 ((i + 1 : Nat) : Int)) (wantAll rfl) (rv_move rfl (fr_eval rfl rfl)) ?_
                refine lf_nil ?_
                refine then_n ?_
                replace hH : Heap _ _ _ [] := hH.drop (.cons _ .slnil)
                exact ⟨_, _, (by omega), rfl, i + 1, rfl, (by omega), (fun j h => by
                  by_cases e : j < i
                  · exact pi1 j e
                  · obtain rfl : j = i := by omega
                    unfold okN; omega), pi2, e0, e12, e13, e14, rfl, hH⟩
        · refine wp_cond_false (fr_eval rfl (e22.trans (congrArg Value.bool (decide_eq_false hc4)))) ?_
          refine wp_seq ?_
          refine wp_regionF ?_
          refine lf_val (v := .bool (decide ((List.getD t i zN).k = 3))) (wantAll rfl) (rv_eqlP (p := (List.getD t i zN).k = 3) rfl (fr_eval rfl e21) rfl Iff.rfl) ?_
          refine lf_val (v := .bool (decide ((List.getD t i zN).k = 3))) (wantAll rfl) (rv_assign rfl (fr_eval rfl rfl)) ?_
          refine lf_nil ?_
          refine then_n ?_
          refine wp_gen (fun F' => F' 0 = v ∧ F' 3 = .int .i64 ((i : Nat) : Int) ∧ F' 4 = .pointer (some ⟨g1, 0, none⟩) ∧ F' 12 = .bool false ∧ F' 13 = v ∧ F' 14 = .int .i64 ((t.length : Nat) : Int) ∧ F' 15 = .int .i64 ((i : Nat) : Int) ∧ F' 16 = .bool true ∧ F' 21 = .int .i64 ((List.getD t i zN).k) ∧ F' 22 = .bool false ∧ F' 37 = .bool (decide ((List.getD t i zN).k = 3))) ⟨e0, e3, e4, e12, e13, e14, e15, e16, e21, (e22.trans (congrArg Value.bool (decide_eq_false hc4))), rfl⟩ ?_
          clear e0 e3 e4 e12 e13 e14 e15 e16 e21 e22
          clear F
          rintro F ⟨e0, e3, e4, e12, e13, e14, e15, e16, e21, e22, e37⟩
          by_cases hc8 : (List.getD t i zN).k = 3
          · refine wp_cond_true (fr_eval rfl (e37.trans (congrArg Value.bool (decide_eq_true hc8)))) ?_
            refine wp_seq ?_
            refine wp_regionF ?_
            refine lf_val (v := .pointer (some ⟨g1, 1, none⟩)) (wantAll rfl) (rv_fieldAddr (n := 0) rfl (fr_eval rfl e4) Try.underlying40 rfl rfl (by kernel_rfl)) ?_
            refine lf_val (v := .int .i64 ((List.getD t i zN).a)) (wantAll rfl) (rv_load1 rfl (hH.blk (i := 0) rfl) zTe_g3 (fr_eval rfl rfl) Try.underlying3 rfl Try.sz3) ?_
            refine lf_val (v := .bool (decide ((List.getD t i zN).a < 0))) (wantAll rfl) (rv_lssP (p := (List.getD t i zN).a < 0) rfl (fr_eval rfl rfl) rfl Iff.rfl) ?_
            refine lf_val (v := .bool (decide ((List.getD t i zN).a < 0))) (wantAll rfl) (rv_move rfl (fr_eval rfl rfl)) ?_
            refine lf_joinP (fun F' => F' 0 = v ∧ F' 3 = .int .i64 ((i : Nat) : Int) ∧ F' 4 = .pointer (some ⟨g1, 0, none⟩) ∧ F' 12 = .bool false ∧ F' 13 = v ∧ F' 14 = .int .i64 ((t.length : Nat) : Int) ∧ F' 15 = .int .i64 ((i : Nat) : Int) ∧ F' 16 = .bool true ∧ F' 21 = .int .i64 ((List.getD t i zN).k) ∧ F' 22 = .bool false ∧ F' 37 = .bool true ∧ F' 47 = .bool (decide (((List.getD t i zN).a < 0) ∨ ((List.getD t i zN).a ≥ ((i : Nat) : Int))))) 5 (fun hk => ?_) ?_
            · by_cases hc9 : (List.getD t i zN).a < 0
              · refine lf_not (wantNot (d := 42) rfl (by kernel_rfl) rfl (congrArg Value.bool (decide_eq_true hc9))) ?_
                refine lf_not (wantNot (d := 42) rfl (by kernel_rfl) rfl (congrArg Value.bool (decide_eq_true hc9))) ?_
                refine lf_not (wantNot (d := 42) rfl (by kernel_rfl) rfl (congrArg Value.bool (decide_eq_true hc9))) ?_
                refine lf_not (wantNot (d := 42) rfl (by kernel_rfl) rfl (congrArg Value.bool (decide_eq_true hc9))) ?_
                refine lf_val (v := .bool true) (wantAll rfl) (rv_pickT rfl (fr_eval rfl (congrArg Value.bool (decide_eq_true hc9))) rfl) ?_
                exact hk _ ⟨e0, e3, e4, e12, e13, e14, e15, e16, e21, e22, (e37.trans (congrArg Value.bool (decide_eq_true hc8))), (congrArg Value.bool (dec_orT hc9))⟩
              · refine lf_val (v := .pointer (some ⟨g1, 1, none⟩)) (wantF (d := 42) rfl (by kernel_rfl) rfl (congrArg Value.bool (decide_eq_false hc9))) (rv_fieldAddr (n := 0) rfl (fr_eval rfl e4) Try.underlying40 rfl rfl (by kernel_rfl)) ?_
                refine lf_val (v := .int .i64 ((List.getD t i zN).a)) (wantF (d := 42) rfl (by kernel_rfl) rfl (congrArg Value.bool (decide_eq_false hc9))) (rv_load1 rfl (hH.blk (i := 0) rfl) zTe_g3 (fr_eval rfl rfl) Try.underlying3 rfl Try.sz3) ?_
                refine lf_val (v := .int .i64 ((i : Nat) : Int)) (wantF (d := 42) rfl (by kernel_rfl) rfl (congrArg Value.bool (decide_eq_false hc9))) (rv_move rfl (fr_eval rfl e3)) ?_
                refine lf_val (v := .bool (decide ((List.getD t i zN).a ≥ ((i : Nat) : Int)))) (wantF (d := 42) rfl (by kernel_rfl) rfl (congrArg Value.bool (decide_eq_false hc9))) (rv_geqP (p := (List.getD t i zN).a ≥ ((i : Nat) : Int)) rfl (fr_eval rfl rfl) (fr_eval rfl rfl) Iff.rfl) ?_
                refine lf_val (v := .bool (decide ((List.getD t i zN).a ≥ ((i : Nat) : Int)))) (wantAll rfl) (rv_pickF rfl (fr_eval rfl (congrArg Value.bool (decide_eq_false hc9))) (fr_eval rfl rfl)) ?_
                exact hk _ ⟨e0, e3, e4, e12, e13, e14, e15, e16, e21, e22, (e37.trans (congrArg Value.bool (decide_eq_true hc8))), (congrArg Value.bool (dec_or hc9))⟩
            · clear e0 e3 e4 e12 e13 e14 e15 e16 e21 e22 e37
              clear F
              rintro F ⟨e0, e3, e4, e12, e13, e14, e15, e16, e21, e22, e37, e47⟩
              refine lf_val (wantAll rfl) (rv_move rfl (fr_eval rfl e47)) ?_
              refine lf_joinP (fun F' => F' 0 = v ∧ F' 3 = .int .i64 ((i : Nat) : Int) ∧ F' 4 = .pointer (some ⟨g1, 0, none⟩) ∧ F' 12 = .bool false ∧ F' 13 = v ∧ F' 14 = .int .i64 ((t.length : Nat) : Int) ∧ F' 15 = .int .i64 ((i : Nat) : Int) ∧ F' 16 = .bool true ∧ F' 21 = .int .i64 ((List.getD t i zN).k) ∧ F' 22 = .bool false ∧ F' 37 = .bool true ∧ F' 52 = .bool (decide ((((List.getD t i zN).a < 0) ∨ ((List.getD t i zN).a ≥ ((i : Nat) : Int))) ∨ (¬ (List.getD t i zN).b = 0)))) 4 (fun hk => ?_) ?_
              · by_cases hc10 : ((List.getD t i zN).a < 0) ∨ ((List.getD t i zN).a ≥ ((i : Nat) : Int))
                · refine lf_not (wantNot (d := 48) rfl (by kernel_rfl) rfl (congrArg Value.bool (decide_eq_true hc10))) ?_
                  refine lf_not (wantNot (d := 48) rfl (by kernel_rfl) rfl (congrArg Value.bool (decide_eq_true hc10))) ?_
                  refine lf_not (wantNot (d := 48) rfl (by kernel_rfl) rfl (congrArg Value.bool (decide_eq_true hc10))) ?_
                  refine lf_val (v := .bool true) (wantAll rfl) (rv_pickT rfl (fr_eval rfl (congrArg Value.bool (decide_eq_true hc10))) rfl) ?_
                  exact hk _ ⟨e0, e3, e4, e12, e13, e14, e15, e16, e21, e22, e37, (congrArg Value.bool (dec_orT hc10))⟩
                · refine lf_val (v := .pointer (some ⟨g1, 2, none⟩)) (wantF (d := 48) rfl (by kernel_rfl) rfl (congrArg Value.bool (decide_eq_false hc10))) (rv_fieldAddr (n := 0) rfl (fr_eval rfl e4) Try.underlying40 rfl rfl (by kernel_rfl)) ?_
                  refine lf_val (v := .int .i64 ((List.getD t i zN).b)) (wantF (d := 48) rfl (by kernel_rfl) rfl (congrArg Value.bool (decide_eq_false hc10))) (rv_load1 rfl (hH.blk (i := 0) rfl) zTe_g4 (fr_eval rfl rfl) Try.underlying3 rfl Try.sz3) ?_
                  refine lf_val (v := .bool (decide (¬ (List.getD t i zN).b = 0))) (wantF (d := 48) rfl (by kernel_rfl) rfl (congrArg Value.bool (decide_eq_false hc10))) (rv_neqP (p := ¬ (List.getD t i zN).b = 0) rfl (fr_eval rfl rfl) rfl Iff.rfl) ?_
                  refine lf_val (v := .bool (decide (¬ (List.getD t i zN).b = 0))) (wantAll rfl) (rv_pickF rfl (fr_eval rfl (congrArg Value.bool (decide_eq_false hc10))) (fr_eval rfl rfl)) ?_
                  exact hk _ ⟨e0, e3, e4, e12, e13, e14, e15, e16, e21, e22, e37, (congrArg Value.bool (dec_or hc10))⟩
              · clear e0 e3 e4 e12 e13 e14 e15 e16 e21 e22 e37 e47
                clear F
                rintro F ⟨e0, e3, e4, e12, e13, e14, e15, e16, e21, e22, e37, e52⟩
                refine lf_nil ?_
                refine then_n ?_
                by_cases hc11 : (((List.getD t i zN).a < 0) ∨ ((List.getD t i zN).a ≥ ((i : Nat) : Int))) ∨ (¬ (List.getD t i zN).b = 0)
                · refine wp_cond_true (fr_eval rfl (e52.trans (congrArg Value.bool (decide_eq_true hc11)))) ?_
                  refine wp_seq ?_
                  refine wp_regionF ?_
                  refine lf_val (v := .bool false) (wantAll rfl) (rv_assign rfl rfl) ?_
                  refine lf_nil ?_
                  refine then_n ?_
                  refine wp_gen (fun F' => F' 0 = v ∧ F' 2 = .bool false ∧ F' 3 = .int .i64 ((i : Nat) : Int) ∧ F' 4 = .pointer (some ⟨g1, 0, none⟩) ∧ F' 12 = .bool false ∧ F' 13 = v ∧ F' 14 = .int .i64 ((t.length : Nat) : Int) ∧ F' 15 = .int .i64 ((i : Nat) : Int) ∧ F' 16 = .bool true ∧ F' 21 = .int .i64 ((List.getD t i zN).k) ∧ F' 22 = .bool false ∧ F' 37 = .bool true ∧ F' 52 = .bool true) ⟨e0, rfl, e3, e4, e12, e13, e14, e15, e16, e21, e22, e37, (e52.trans (congrArg Value.bool (decide_eq_true hc11)))⟩ ?_
                  clear e0 e3 e4 e12 e13 e14 e15 e16 e21 e22 e37 e52
                  clear F
                  rintro F ⟨e0, e2, e3, e4, e12, e13, e14, e15, e16, e21, e22, e37, e52⟩
                  refine wp_ret ?_
                  refine blk_ret ?_
                  refine blk_ret ?_
                  refine then_ret ?_
                  refine then_ret ?_
                  refine blk_ret ?_
                  refine then_ret ?_
                  exact bodyPost_ret (v := (.bool false)) (res1 rfl (ro_tmp rfl e2)) rfl (⟨congrArg (fun b => Ending.returned (.bool b)) (decide_eq_false (fun h => by have := h.2.2 i (by omega); unfold okN at this; omega)).symm, hH.done⟩)
                · refine wp_cond_false (fr_eval rfl (e52.trans (congrArg Value.bool (decide_eq_false hc11)))) ?_
                  refine wp_skip ?_
                  refine blk_n ?_
                  refine blk_n ?_
                  refine then_n ?_
                  refine wp_regionF ?_
                  refine lf_val (v := .int .i64 ((i + 1 : Nat) : Int)) (wantAll rfl) (rv_add rfl (fr_eval rfl e15) rfl (wrap_i64 (by omega) (by omega) (by omega))) ?_
                  refine lf_val (v := .int .i64 ((i + 1 : Nat) : Int)) (wantAll rfl) (rv_move rfl (fr_eval rfl rfl)) ?_
                  refine lf_nil ?_
                  refine then_n ?_
                  replace hH : Heap _ _ _ [] := hH.drop (.cons _ .slnil)
                  exact ⟨_, _, (by omega), rfl, i + 1, rfl, (by omega), (fun j h => by
                    by_cases e : j < i
                    · exact pi1 j e
                    · obtain rfl : j = i := by omega
                      unfold okN; omega), pi2, e0, e12, e13, e14, rfl, hH⟩
          · refine wp_cond_false (fr_eval rfl (e37.trans (congrArg Value.bool (decide_eq_false hc8)))) ?_
            refine wp_seq ?_
            refine wp_seq ?_
            refine wp_regionF ?_
            refine lf_val (v := .bool (decide ((List.getD t i zN).k = 2))) (wantAll rfl) (rv_eqlP (p := (List.getD t i zN).k = 2) rfl (fr_eval rfl e21) rfl Iff.rfl) ?_
            refine lf_val (v := .bool (decide ((List.getD t i zN).k = 2))) (wantAll rfl) (rv_assign rfl (fr_eval rfl rfl)) ?_
            refine lf_nil ?_
            refine then_n ?_
            refine wp_gen (fun F' => F' 0 = v ∧ F' 3 = .int .i64 ((i : Nat) : Int) ∧ F' 4 = .pointer (some ⟨g1, 0, none⟩) ∧ F' 12 = .bool false ∧ F' 13 = v ∧ F' 14 = .int .i64 ((t.length : Nat) : Int) ∧ F' 15 = .int .i64 ((i : Nat) : Int) ∧ F' 16 = .bool true ∧ F' 21 = .int .i64 ((List.getD t i zN).k) ∧ F' 22 = .bool false ∧ F' 37 = .bool false ∧ F' 53 = .bool (decide ((List.getD t i zN).k = 2))) ⟨e0, e3, e4, e12, e13, e14, e15, e16, e21, e22, (e37.trans (congrArg Value.bool (decide_eq_false hc8))), rfl⟩ ?_
            clear e0 e3 e4 e12 e13 e14 e15 e16 e21 e22 e37
            clear F
            rintro F ⟨e0, e3, e4, e12, e13, e14, e15, e16, e21, e22, e37, e53⟩
            by_cases hc12 : (List.getD t i zN).k = 2
            · refine wp_cond_true (fr_eval rfl (e53.trans (congrArg Value.bool (decide_eq_true hc12)))) ?_
              refine wp_skip ?_
              refine then_n ?_
              refine wp_cond_true (fr_eval rfl (e53.trans (congrArg Value.bool (decide_eq_true hc12)))) ?_
              refine wp_seq ?_
              refine wp_regionF ?_
              refine lf_val (v := .pointer (some ⟨g1, 1, none⟩)) (wantAll rfl) (rv_fieldAddr (n := 0) rfl (fr_eval rfl e4) Try.underlying40 rfl rfl (by kernel_rfl)) ?_
              refine lf_val (v := .int .i64 ((List.getD t i zN).a)) (wantAll rfl) (rv_load1 rfl (hH.blk (i := 0) rfl) zTe_g3 (fr_eval rfl rfl) Try.underlying3 rfl Try.sz3) ?_
              refine lf_val (v := .bool (decide ((List.getD t i zN).a < 0))) (wantAll rfl) (rv_lssP (p := (List.getD t i zN).a < 0) rfl (fr_eval rfl rfl) rfl Iff.rfl) ?_
              refine lf_val (v := .bool (decide ((List.getD t i zN).a < 0))) (wantAll rfl) (rv_move rfl (fr_eval rfl rfl)) ?_
              refine lf_joinP (fun F' => F' 0 = v ∧ F' 3 = .int .i64 ((i : Nat) : Int) ∧ F' 4 = .pointer (some ⟨g1, 0, none⟩) ∧ F' 12 = .bool false ∧ F' 13 = v ∧ F' 14 = .int .i64 ((t.length : Nat) : Int) ∧ F' 15 = .int .i64 ((i : Nat) : Int) ∧ F' 16 = .bool true ∧ F' 21 = .int .i64 ((List.getD t i zN).k) ∧ F' 22 = .bool false ∧ F' 37 = .bool false ∧ F' 53 = .bool true ∧ F' 65 = .bool (decide (((List.getD t i zN).a < 0) ∨ ((List.getD t i zN).a ≥ ((i : Nat) : Int))))) 5 (fun hk => ?_) ?_
              · by_cases hc13 : (List.getD t i zN).a < 0
                · refine lf_not (wantNot (d := 60) rfl (by kernel_rfl) rfl (congrArg Value.bool (decide_eq_true hc13))) ?_
                  refine lf_not (wantNot (d := 60) rfl (by kernel_rfl) rfl (congrArg Value.bool (decide_eq_true hc13))) ?_
                  refine lf_not (wantNot (d := 60) rfl (by kernel_rfl) rfl (congrArg Value.bool (decide_eq_true hc13))) ?_
                  refine lf_not (wantNot (d := 60) rfl (by kernel_rfl) rfl (congrArg Value.bool (decide_eq_true hc13))) ?_
                  refine lf_val (v := .bool true) (wantAll rfl) (rv_pickT rfl (fr_eval rfl (congrArg Value.bool (decide_eq_true hc13))) rfl) ?_
                  exact hk _ ⟨e0, e3, e4, e12, e13, e14, e15, e16, e21, e22, e37, (e53.trans (congrArg Value.bool (decide_eq_true hc12))), (congrArg Value.bool (dec_orT hc13))⟩
                · refine lf_val (v := .pointer (some ⟨g1, 1, none⟩)) (wantF (d := 60) rfl (by kernel_rfl) rfl (congrArg Value.bool (decide_eq_false hc13))) (rv_fieldAddr (n := 0) rfl (fr_eval rfl e4) Try.underlying40 rfl rfl (by kernel_rfl)) ?_
                  refine lf_val (v := .int .i64 ((List.getD t i zN).a)) (wantF (d := 60) rfl (by kernel_rfl) rfl (congrArg Value.bool (decide_eq_false hc13))) (rv_load1 rfl (hH.blk (i := 0) rfl) zTe_g3 (fr_eval rfl rfl) Try.underlying3 rfl Try.sz3) ?_
                  refine lf_val (v := .int .i64 ((i : Nat) : Int)) (wantF (d := 60) rfl (by kernel_rfl) rfl (congrArg Value.bool (decide_eq_false hc13))) (rv_move rfl (fr_eval rfl e3)) ?_
                  refine lf_val (v := .bool (decide ((List.getD t i zN).a ≥ ((i : Nat) : Int)))) (wantF (d := 60) rfl (by kernel_rfl) rfl (congrArg Value.bool (decide_eq_false hc13))) (rv_geqP (p := (List.getD t i zN).a ≥ ((i : Nat) : Int)) rfl (fr_eval rfl rfl) (fr_eval rfl rfl) Iff.rfl) ?_
                  refine lf_val (v := .bool (decide ((List.getD t i zN).a ≥ ((i : Nat) : Int)))) (wantAll rfl) (rv_pickF rfl (fr_eval rfl (congrArg Value.bool (decide_eq_false hc13))) (fr_eval rfl rfl)) ?_
                  exact hk _ ⟨e0, e3, e4, e12, e13, e14, e15, e16, e21, e22, e37, (e53.trans (congrArg Value.bool (decide_eq_true hc12))), (congrArg Value.bool (dec_or hc13))⟩
              · clear e0 e3 e4 e12 e13 e14 e15 e16 e21 e22 e37 e53
                clear F
                rintro F ⟨e0, e3, e4, e12, e13, e14, e15, e16, e21, e22, e37, e53, e65⟩
                refine lf_val (wantAll rfl) (rv_move rfl (fr_eval rfl e65)) ?_
                refine lf_joinP (fun F' => F' 0 = v ∧ F' 3 = .int .i64 ((i : Nat) : Int) ∧ F' 4 = .pointer (some ⟨g1, 0, none⟩) ∧ F' 12 = .bool false ∧ F' 13 = v ∧ F' 14 = .int .i64 ((t.length : Nat) : Int) ∧ F' 15 = .int .i64 ((i : Nat) : Int) ∧ F' 16 = .bool true ∧ F' 21 = .int .i64 ((List.getD t i zN).k) ∧ F' 22 = .bool false ∧ F' 37 = .bool false ∧ F' 53 = .bool true ∧ F' 70 = .bool (decide ((((List.getD t i zN).a < 0) ∨ ((List.getD t i zN).a ≥ ((i : Nat) : Int))) ∨ ((List.getD t i zN).b < 0)))) 4 (fun hk => ?_) ?_
                · by_cases hc14 : ((List.getD t i zN).a < 0) ∨ ((List.getD t i zN).a ≥ ((i : Nat) : Int))
                  · refine lf_not (wantNot (d := 66) rfl (by kernel_rfl) rfl (congrArg Value.bool (decide_eq_true hc14))) ?_
                    refine lf_not (wantNot (d := 66) rfl (by kernel_rfl) rfl (congrArg Value.bool (decide_eq_true hc14))) ?_
                    refine lf_not (wantNot (d := 66) rfl (by kernel_rfl) rfl (congrArg Value.bool (decide_eq_true hc14))) ?_
                    refine lf_val (v := .bool true) (wantAll rfl) (rv_pickT rfl (fr_eval rfl (congrArg Value.bool (decide_eq_true hc14))) rfl) ?_
                    exact hk _ ⟨e0, e3, e4, e12, e13, e14, e15, e16, e21, e22, e37, e53, (congrArg Value.bool (dec_orT hc14))⟩
                  · refine lf_val (v := .pointer (some ⟨g1, 2, none⟩)) (wantF (d := 66) rfl (by kernel_rfl) rfl (congrArg Value.bool (decide_eq_false hc14))) (rv_fieldAddr (n := 0) rfl (fr_eval rfl e4) Try.underlying40 rfl rfl (by kernel_rfl)) ?_
                    refine lf_val (v := .int .i64 ((List.getD t i zN).b)) (wantF (d := 66) rfl (by kernel_rfl) rfl (congrArg Value.bool (decide_eq_false hc14))) (rv_load1 rfl (hH.blk (i := 0) rfl) zTe_g4 (fr_eval rfl rfl) Try.underlying3 rfl Try.sz3) ?_
                    refine lf_val (v := .bool (decide ((List.getD t i zN).b < 0))) (wantF (d := 66) rfl (by kernel_rfl) rfl (congrArg Value.bool (decide_eq_false hc14))) (rv_lssP (p := (List.getD t i zN).b < 0) rfl (fr_eval rfl rfl) rfl Iff.rfl) ?_
                    refine lf_val (v := .bool (decide ((List.getD t i zN).b < 0))) (wantAll rfl) (rv_pickF rfl (fr_eval rfl (congrArg Value.bool (decide_eq_false hc14))) (fr_eval rfl rfl)) ?_
                    exact hk _ ⟨e0, e3, e4, e12, e13, e14, e15, e16, e21, e22, e37, e53, (congrArg Value.bool (dec_or hc14))⟩
                · clear e0 e3 e4 e12 e13 e14 e15 e16 e21 e22 e37 e53 e65
                  clear F
                  rintro F ⟨e0, e3, e4, e12, e13, e14, e15, e16, e21, e22, e37, e53, e70⟩
                  refine lf_val (wantAll rfl) (rv_move rfl (fr_eval rfl e70)) ?_
                  refine lf_joinP (fun F' => F' 0 = v ∧ F' 3 = .int .i64 ((i : Nat) : Int) ∧ F' 4 = .pointer (some ⟨g1, 0, none⟩) ∧ F' 12 = .bool false ∧ F' 13 = v ∧ F' 14 = .int .i64 ((t.length : Nat) : Int) ∧ F' 15 = .int .i64 ((i : Nat) : Int) ∧ F' 16 = .bool true ∧ F' 21 = .int .i64 ((List.getD t i zN).k) ∧ F' 22 = .bool false ∧ F' 37 = .bool false ∧ F' 53 = .bool true ∧ F' 76 = .bool (decide (((((List.getD t i zN).a < 0) ∨ ((List.getD t i zN).a ≥ ((i : Nat) : Int))) ∨ ((List.getD t i zN).b < 0)) ∨ ((List.getD t i zN).b ≥ ((i : Nat) : Int))))) 5 (fun hk => ?_) ?_
                  · by_cases hc15 : (((List.getD t i zN).a < 0) ∨ ((List.getD t i zN).a ≥ ((i : Nat) : Int))) ∨ ((List.getD t i zN).b < 0)
                    · refine lf_not (wantNot (d := 71) rfl (by kernel_rfl) rfl (congrArg Value.bool (decide_eq_true hc15))) ?_
                      refine lf_not (wantNot (d := 71) rfl (by kernel_rfl) rfl (congrArg Value.bool (decide_eq_true hc15))) ?_
                      refine lf_not (wantNot (d := 71) rfl (by kernel_rfl) rfl (congrArg Value.bool (decide_eq_true hc15))) ?_
                      refine lf_not (wantNot (d := 71) rfl (by kernel_rfl) rfl (congrArg Value.bool (decide_eq_true hc15))) ?_
                      refine lf_val (v := .bool true) (wantAll rfl) (rv_pickT rfl (fr_eval rfl (congrArg Value.bool (decide_eq_true hc15))) rfl) ?_
                      exact hk _ ⟨e0, e3, e4, e12, e13, e14, e15, e16, e21, e22, e37, e53, (congrArg Value.bool (dec_orT hc15))⟩
                    · refine lf_val (v := .pointer (some ⟨g1, 2, none⟩)) (wantF (d := 71) rfl (by kernel_rfl) rfl (congrArg Value.bool (decide_eq_false hc15))) (rv_fieldAddr (n := 0) rfl (fr_eval rfl e4) Try.underlying40 rfl rfl (by kernel_rfl)) ?_
                      refine lf_val (v := .int .i64 ((List.getD t i zN).b)) (wantF (d := 71) rfl (by kernel_rfl) rfl (congrArg Value.bool (decide_eq_false hc15))) (rv_load1 rfl (hH.blk (i := 0) rfl) zTe_g4 (fr_eval rfl rfl) Try.underlying3 rfl Try.sz3) ?_
                      refine lf_val (v := .int .i64 ((i : Nat) : Int)) (wantF (d := 71) rfl (by kernel_rfl) rfl (congrArg Value.bool (decide_eq_false hc15))) (rv_move rfl (fr_eval rfl e3)) ?_
                      refine lf_val (v := .bool (decide ((List.getD t i zN).b ≥ ((i : Nat) : Int)))) (wantF (d := 71) rfl (by kernel_rfl) rfl (congrArg Value.bool (decide_eq_false hc15))) (rv_geqP (p := (List.getD t i zN).b ≥ ((i : Nat) : Int)) rfl (fr_eval rfl rfl) (fr_eval rfl rfl) Iff.rfl) ?_
                      refine lf_val (v := .bool (decide ((List.getD t i zN).b ≥ ((i : Nat) : Int)))) (wantAll rfl) (rv_pickF rfl (fr_eval rfl (congrArg Value.bool (decide_eq_false hc15))) (fr_eval rfl rfl)) ?_
                      exact hk _ ⟨e0, e3, e4, e12, e13, e14, e15, e16, e21, e22, e37, e53, (congrArg Value.bool (dec_or hc15))⟩
                  · clear e0 e3 e4 e12 e13 e14 e15 e16 e21 e22 e37 e53 e70
                    clear F
                    rintro F ⟨e0, e3, e4, e12, e13, e14, e15, e16, e21, e22, e37, e53, e76⟩
                    refine lf_nil ?_
                    refine then_n ?_
                    by_cases hc16 : ((((List.getD t i zN).a < 0) ∨ ((List.getD t i zN).a ≥ ((i : Nat) : Int))) ∨ ((List.getD t i zN).b < 0)) ∨ ((List.getD t i zN).b ≥ ((i : Nat) : Int))
                    · refine wp_cond_true (fr_eval rfl (e76.trans (congrArg Value.bool (decide_eq_true hc16)))) ?_
                      refine wp_seq ?_
                      refine wp_regionF ?_
                      refine lf_val (v := .bool false) (wantAll rfl) (rv_assign rfl rfl) ?_
                      refine lf_nil ?_
                      refine then_n ?_
                      refine wp_gen (fun F' => F' 0 = v ∧ F' 2 = .bool false ∧ F' 3 = .int .i64 ((i : Nat) : Int) ∧ F' 4 = .pointer (some ⟨g1, 0, none⟩) ∧ F' 12 = .bool false ∧ F' 13 = v ∧ F' 14 = .int .i64 ((t.length : Nat) : Int) ∧ F' 15 = .int .i64 ((i : Nat) : Int) ∧ F' 16 = .bool true ∧ F' 21 = .int .i64 ((List.getD t i zN).k) ∧ F' 22 = .bool false ∧ F' 37 = .bool false ∧ F' 53 = .bool true ∧ F' 76 = .bool true) ⟨e0, rfl, e3, e4, e12, e13, e14, e15, e16, e21, e22, e37, e53, (e76.trans (congrArg Value.bool (decide_eq_true hc16)))⟩ ?_
                      clear e0 e3 e4 e12 e13 e14 e15 e16 e21 e22 e37 e53 e76
                      clear F
                      rintro F ⟨e0, e2, e3, e4, e12, e13, e14, e15, e16, e21, e22, e37, e53, e76⟩
                      refine wp_ret ?_
                      refine blk_ret ?_
                      refine blk_ret ?_
                      refine then_ret ?_
                      refine then_ret ?_
                      refine blk_ret ?_
                      refine then_ret ?_
                      exact bodyPost_ret (v := (.bool false)) (res1 rfl (ro_tmp rfl e2)) rfl (⟨congrArg (fun b => Ending.returned (.bool b)) (decide_eq_false (fun h => by have := h.2.2 i (by omega); unfold okN at this; omega)).symm, hH.done⟩)
                    · refine wp_cond_false (fr_eval rfl (e76.trans (congrArg Value.bool (decide_eq_false hc16)))) ?_
                      refine wp_skip ?_
                      refine blk_n ?_
                      refine blk_n ?_
                      refine then_n ?_
                      refine wp_regionF ?_
                      refine lf_val (v := .int .i64 ((i + 1 : Nat) : Int)) (wantAll rfl) (rv_add rfl (fr_eval rfl e15) rfl (wrap_i64 (by omega) (by omega) (by omega))) ?_
                      refine lf_val (v := .int .i64 ((i + 1 : Nat) : Int)) (wantAll rfl) (rv_move rfl (fr_eval rfl rfl)) ?_
                      refine lf_nil ?_
                      refine then_n ?_
                      replace hH : Heap _ _ _ [] := hH.drop (.cons _ .slnil)
                      exact ⟨_, _, (by omega), rfl, i + 1, rfl, (by omega), (fun j h => by
                        by_cases e : j < i
                        · exact pi1 j e
                        · obtain rfl : j = i := by omega
                          unfold okN; omega), pi2, e0, e12, e13, e14, rfl, hH⟩
            · refine wp_cond_false (fr_eval rfl (e53.trans (congrArg Value.bool (decide_eq_false hc12)))) ?_
              refine wp_seq ?_
              refine wp_regionF ?_
              refine lf_val (v := .bool (decide ((List.getD t i zN).k = 4))) (wantAll rfl) (rv_eqlP (p := (List.getD t i zN).k = 4) rfl (fr_eval rfl e21) rfl Iff.rfl) ?_
              refine lf_val (v := .bool (decide ((List.getD t i zN).k = 4))) (wantAll rfl) (rv_assign rfl (fr_eval rfl rfl)) ?_
              refine lf_nil ?_
              refine then_n ?_
              refine wp_gen (fun F' => F' 0 = v ∧ F' 3 = .int .i64 ((i : Nat) : Int) ∧ F' 4 = .pointer (some ⟨g1, 0, none⟩) ∧ F' 12 = .bool false ∧ F' 13 = v ∧ F' 14 = .int .i64 ((t.length : Nat) : Int) ∧ F' 15 = .int .i64 ((i : Nat) : Int) ∧ F' 16 = .bool true ∧ F' 21 = .int .i64 ((List.getD t i zN).k) ∧ F' 22 = .bool false ∧ F' 37 = .bool false ∧ F' 53 = .bool (decide ((List.getD t i zN).k = 4))) ⟨e0, e3, e4, e12, e13, e14, e15, e16, e21, e22, e37, rfl⟩ ?_
              clear e0 e3 e4 e12 e13 e14 e15 e16 e21 e22 e37 e53
              clear F
              rintro F ⟨e0, e3, e4, e12, e13, e14, e15, e16, e21, e22, e37, e53⟩
              by_cases hc17 : (List.getD t i zN).k = 4
              · refine wp_cond_true (fr_eval rfl (e53.trans (congrArg Value.bool (decide_eq_true hc17)))) ?_
                refine wp_skip ?_
                refine then_n ?_
                refine wp_cond_true (fr_eval rfl (e53.trans (congrArg Value.bool (decide_eq_true hc17)))) ?_
                refine wp_seq ?_
                refine wp_regionF ?_
                refine lf_val (v := .pointer (some ⟨g1, 1, none⟩)) (wantAll rfl) (rv_fieldAddr (n := 0) rfl (fr_eval rfl e4) Try.underlying40 rfl rfl (by kernel_rfl)) ?_
                refine lf_val (v := .int .i64 ((List.getD t i zN).a)) (wantAll rfl) (rv_load1 rfl (hH.blk (i := 0) rfl) zTe_g3 (fr_eval rfl rfl) Try.underlying3 rfl Try.sz3) ?_
                refine lf_val (v := .bool (decide ((List.getD t i zN).a < 0))) (wantAll rfl) (rv_lssP (p := (List.getD t i zN).a < 0) rfl (fr_eval rfl rfl) rfl Iff.rfl) ?_
                refine lf_val (v := .bool (decide ((List.getD t i zN).a < 0))) (wantAll rfl) (rv_move rfl (fr_eval rfl rfl)) ?_
                refine lf_joinP (fun F' => F' 0 = v ∧ F' 3 = .int .i64 ((i : Nat) : Int) ∧ F' 4 = .pointer (some ⟨g1, 0, none⟩) ∧ F' 12 = .bool false ∧ F' 13 = v ∧ F' 14 = .int .i64 ((t.length : Nat) : Int) ∧ F' 15 = .int .i64 ((i : Nat) : Int) ∧ F' 16 = .bool true ∧ F' 21 = .int .i64 ((List.getD t i zN).k) ∧ F' 22 = .bool false ∧ F' 37 = .bool false ∧ F' 53 = .bool true ∧ F' 65 = .bool (decide (((List.getD t i zN).a < 0) ∨ ((List.getD t i zN).a ≥ ((i : Nat) : Int))))) 5 (fun hk => ?_) ?_
                · by_cases hc18 : (List.getD t i zN).a < 0
                  · refine lf_not (wantNot (d := 60) rfl (by kernel_rfl) rfl (congrArg Value.bool (decide_eq_true hc18))) ?_
                    refine lf_not (wantNot (d := 60) rfl (by kernel_rfl) rfl (congrArg Value.bool (decide_eq_true hc18))) ?_
                    refine lf_not (wantNot (d := 60) rfl (by kernel_rfl) rfl (congrArg Value.bool (decide_eq_true hc18))) ?_
                    refine lf_not (wantNot (d := 60) rfl (by kernel_rfl) rfl (congrArg Value.bool (decide_eq_true hc18))) ?_
                    refine lf_val (v := .bool true) (wantAll rfl) (rv_pickT rfl (fr_eval rfl (congrArg Value.bool (decide_eq_true hc18))) rfl) ?_
                    exact hk _ ⟨e0, e3, e4, e12, e13, e14, e15, e16, e21, e22, e37, (e53.trans (congrArg Value.bool (decide_eq_true hc17))), (congrArg Value.bool (dec_orT hc18))⟩
                  · refine lf_val (v := .pointer (some ⟨g1, 1, none⟩)) (wantF (d := 60) rfl (by kernel_rfl) rfl (congrArg Value.bool (decide_eq_false hc18))) (rv_fieldAddr (n := 0) rfl (fr_eval rfl e4) Try.underlying40 rfl rfl (by kernel_rfl)) ?_
                    refine lf_val (v := .int .i64 ((List.getD t i zN).a)) (wantF (d := 60) rfl (by kernel_rfl) rfl (congrArg Value.bool (decide_eq_false hc18))) (rv_load1 rfl (hH.blk (i := 0) rfl) zTe_g3 (fr_eval rfl rfl) Try.underlying3 rfl Try.sz3) ?_
                    refine lf_val (v := .int .i64 ((i : Nat) : Int)) (wantF (d := 60) rfl (by kernel_rfl) rfl (congrArg Value.bool (decide_eq_false hc18))) (rv_move rfl (fr_eval rfl e3)) ?_
                    refine lf_val (v := .bool (decide ((List.getD t i zN).a ≥ ((i : Nat) : Int)))) (wantF (d := 60) rfl (by kernel_rfl) rfl (congrArg Value.bool (decide_eq_false hc18))) (rv_geqP (p := (List.getD t i zN).a ≥ ((i : Nat) : Int)) rfl (fr_eval rfl rfl) (fr_eval rfl rfl) Iff.rfl) ?_
                    refine lf_val (v := .bool (decide ((List.getD t i zN).a ≥ ((i : Nat) : Int)))) (wantAll rfl) (rv_pickF rfl (fr_eval rfl (congrArg Value.bool (decide_eq_false hc18))) (fr_eval rfl rfl)) ?_
                    exact hk _ ⟨e0, e3, e4, e12, e13, e14, e15, e16, e21, e22, e37, (e53.trans (congrArg Value.bool (decide_eq_true hc17))), (congrArg Value.bool (dec_or hc18))⟩
                · clear e0 e3 e4 e12 e13 e14 e15 e16 e21 e22 e37 e53
                  clear F
                  rintro F ⟨e0, e3, e4, e12, e13, e14, e15, e16, e21, e22, e37, e53, e65⟩
                  refine lf_val (wantAll rfl) (rv_move rfl (fr_eval rfl e65)) ?_
                  refine lf_joinP (fun F' => F' 0 = v ∧ F' 3 = .int .i64 ((i : Nat) : Int) ∧ F' 4 = .pointer (some ⟨g1, 0, none⟩) ∧ F' 12 = .bool false ∧ F' 13 = v ∧ F' 14 = .int .i64 ((t.length : Nat) : Int) ∧ F' 15 = .int .i64 ((i : Nat) : Int) ∧ F' 16 = .bool true ∧ F' 21 = .int .i64 ((List.getD t i zN).k) ∧ F' 22 = .bool false ∧ F' 37 = .bool false ∧ F' 53 = .bool true ∧ F' 70 = .bool (decide ((((List.getD t i zN).a < 0) ∨ ((List.getD t i zN).a ≥ ((i : Nat) : Int))) ∨ ((List.getD t i zN).b < 0)))) 4 (fun hk => ?_) ?_
                  · by_cases hc19 : ((List.getD t i zN).a < 0) ∨ ((List.getD t i zN).a ≥ ((i : Nat) : Int))
                    · refine lf_not (wantNot (d := 66) rfl (by kernel_rfl) rfl (congrArg Value.bool (decide_eq_true hc19))) ?_
                      refine lf_not (wantNot (d := 66) rfl (by kernel_rfl) rfl (congrArg Value.bool (decide_eq_true hc19))) ?_
                      refine lf_not (wantNot (d := 66) rfl (by kernel_rfl) rfl (congrArg Value.bool (decide_eq_true hc19))) ?_
                      refine lf_val (v := .bool true) (wantAll rfl) (rv_pickT rfl (fr_eval rfl (congrArg Value.bool (decide_eq_true hc19))) rfl) ?_
                      exact hk _ ⟨e0, e3, e4, e12, e13, e14, e15, e16, e21, e22, e37, e53, (congrArg Value.bool (dec_orT hc19))⟩
                    · refine lf_val (v := .pointer (some ⟨g1, 2, none⟩)) (wantF (d := 66) rfl (by kernel_rfl) rfl (congrArg Value.bool (decide_eq_false hc19))) (rv_fieldAddr (n := 0) rfl (fr_eval rfl e4) Try.underlying40 rfl rfl (by kernel_rfl)) ?_
                      refine lf_val (v := .int .i64 ((List.getD t i zN).b)) (wantF (d := 66) rfl (by kernel_rfl) rfl (congrArg Value.bool (decide_eq_false hc19))) (rv_load1 rfl (hH.blk (i := 0) rfl) zTe_g4 (fr_eval rfl rfl) Try.underlying3 rfl Try.sz3) ?_
                      refine lf_val (v := .bool (decide ((List.getD t i zN).b < 0))) (wantF (d := 66) rfl (by kernel_rfl) rfl (congrArg Value.bool (decide_eq_false hc19))) (rv_lssP (p := (List.getD t i zN).b < 0) rfl (fr_eval rfl rfl) rfl Iff.rfl) ?_
                      refine lf_val (v := .bool (decide ((List.getD t i zN).b < 0))) (wantAll rfl) (rv_pickF rfl (fr_eval rfl (congrArg Value.bool (decide_eq_false hc19))) (fr_eval rfl rfl)) ?_
                      exact hk _ ⟨e0, e3, e4, e12, e13, e14, e15, e16, e21, e22, e37, e53, (congrArg Value.bool (dec_or hc19))⟩
                  · clear e0 e3 e4 e12 e13 e14 e15 e16 e21 e22 e37 e53 e65
                    clear F
                    rintro F ⟨e0, e3, e4, e12, e13, e14, e15, e16, e21, e22, e37, e53, e70⟩
                    refine lf_val (wantAll rfl) (rv_move rfl (fr_eval rfl e70)) ?_
                    refine lf_joinP (fun F' => F' 0 = v ∧ F' 3 = .int .i64 ((i : Nat) : Int) ∧ F' 4 = .pointer (some ⟨g1, 0, none⟩) ∧ F' 12 = .bool false ∧ F' 13 = v ∧ F' 14 = .int .i64 ((t.length : Nat) : Int) ∧ F' 15 = .int .i64 ((i : Nat) : Int) ∧ F' 16 = .bool true ∧ F' 21 = .int .i64 ((List.getD t i zN).k) ∧ F' 22 = .bool false ∧ F' 37 = .bool false ∧ F' 53 = .bool true ∧ F' 76 = .bool (decide (((((List.getD t i zN).a < 0) ∨ ((List.getD t i zN).a ≥ ((i : Nat) : Int))) ∨ ((List.getD t i zN).b < 0)) ∨ ((List.getD t i zN).b ≥ ((i : Nat) : Int))))) 5 (fun hk => ?_) ?_
                    · by_cases hc20 : (((List.getD t i zN).a < 0) ∨ ((List.getD t i zN).a ≥ ((i : Nat) : Int))) ∨ ((List.getD t i zN).b < 0)
                      · refine lf_not (wantNot (d := 71) rfl (by kernel_rfl) rfl (congrArg Value.bool (decide_eq_true hc20))) ?_
                        refine lf_not (wantNot (d := 71) rfl (by kernel_rfl) rfl (congrArg Value.bool (decide_eq_true hc20))) ?_
                        refine lf_not (wantNot (d := 71) rfl (by kernel_rfl) rfl (congrArg Value.bool (decide_eq_true hc20))) ?_
                        refine lf_not (wantNot (d := 71) rfl (by kernel_rfl) rfl (congrArg Value.bool (decide_eq_true hc20))) ?_
                        refine lf_val (v := .bool true) (wantAll rfl) (rv_pickT rfl (fr_eval rfl (congrArg Value.bool (decide_eq_true hc20))) rfl) ?_
                        exact hk _ ⟨e0, e3, e4, e12, e13, e14, e15, e16, e21, e22, e37, e53, (congrArg Value.bool (dec_orT hc20))⟩
                      · refine lf_val (v := .pointer (some ⟨g1, 2, none⟩)) (wantF (d := 71) rfl (by kernel_rfl) rfl (congrArg Value.bool (decide_eq_false hc20))) (rv_fieldAddr (n := 0) rfl (fr_eval rfl e4) Try.underlying40 rfl rfl (by kernel_rfl)) ?_
                        refine lf_val (v := .int .i64 ((List.getD t i zN).b)) (wantF (d := 71) rfl (by kernel_rfl) rfl (congrArg Value.bool (decide_eq_false hc20))) (rv_load1 rfl (hH.blk (i := 0) rfl) zTe_g4 (fr_eval rfl rfl) Try.underlying3 rfl Try.sz3) ?_
                        refine lf_val (v := .int .i64 ((i : Nat) : Int)) (wantF (d := 71) rfl (by kernel_rfl) rfl (congrArg Value.bool (decide_eq_false hc20))) (rv_move rfl (fr_eval rfl e3)) ?_
                        refine lf_val (v := .bool (decide ((List.getD t i zN).b ≥ ((i : Nat) : Int)))) (wantF (d := 71) rfl (by kernel_rfl) rfl (congrArg Value.bool (decide_eq_false hc20))) (rv_geqP (p := (List.getD t i zN).b ≥ ((i : Nat) : Int)) rfl (fr_eval rfl rfl) (fr_eval rfl rfl) Iff.rfl) ?_
                        refine lf_val (v := .bool (decide ((List.getD t i zN).b ≥ ((i : Nat) : Int)))) (wantAll rfl) (rv_pickF rfl (fr_eval rfl (congrArg Value.bool (decide_eq_false hc20))) (fr_eval rfl rfl)) ?_
                        exact hk _ ⟨e0, e3, e4, e12, e13, e14, e15, e16, e21, e22, e37, e53, (congrArg Value.bool (dec_or hc20))⟩
                    · clear e0 e3 e4 e12 e13 e14 e15 e16 e21 e22 e37 e53 e70
                      clear F
                      rintro F ⟨e0, e3, e4, e12, e13, e14, e15, e16, e21, e22, e37, e53, e76⟩
                      refine lf_nil ?_
                      refine then_n ?_
                      by_cases hc21 : ((((List.getD t i zN).a < 0) ∨ ((List.getD t i zN).a ≥ ((i : Nat) : Int))) ∨ ((List.getD t i zN).b < 0)) ∨ ((List.getD t i zN).b ≥ ((i : Nat) : Int))
                      · refine wp_cond_true (fr_eval rfl (e76.trans (congrArg Value.bool (decide_eq_true hc21)))) ?_
                        refine wp_seq ?_
                        refine wp_regionF ?_
                        refine lf_val (v := .bool false) (wantAll rfl) (rv_assign rfl rfl) ?_
                        refine lf_nil ?_
                        refine then_n ?_
                        refine wp_gen (fun F' => F' 0 = v ∧ F' 2 = .bool false ∧ F' 3 = .int .i64 ((i : Nat) : Int) ∧ F' 4 = .pointer (some ⟨g1, 0, none⟩) ∧ F' 12 = .bool false ∧ F' 13 = v ∧ F' 14 = .int .i64 ((t.length : Nat) : Int) ∧ F' 15 = .int .i64 ((i : Nat) : Int) ∧ F' 16 = .bool true ∧ F' 21 = .int .i64 ((List.getD t i zN).k) ∧ F' 22 = .bool false ∧ F' 37 = .bool false ∧ F' 53 = .bool true ∧ F' 76 = .bool true) ⟨e0, rfl, e3, e4, e12, e13, e14, e15, e16, e21, e22, e37, e53, (e76.trans (congrArg Value.bool (decide_eq_true hc21)))⟩ ?_
                        clear e0 e3 e4 e12 e13 e14 e15 e16 e21 e22 e37 e53 e76
                        clear F
                        rintro F ⟨e0, e2, e3, e4, e12, e13, e14, e15, e16, e21, e22, e37, e53, e76⟩
                        refine wp_ret ?_
                        refine blk_ret ?_
                        refine blk_ret ?_
                        refine then_ret ?_
                        refine then_ret ?_
                        refine blk_ret ?_
                        refine then_ret ?_
                        exact bodyPost_ret (v := (.bool false)) (res1 rfl (ro_tmp rfl e2)) rfl (⟨congrArg (fun b => Ending.returned (.bool b)) (decide_eq_false (fun h => by have := h.2.2 i (by omega); unfold okN at this; omega)).symm, hH.done⟩)
                      · refine wp_cond_false (fr_eval rfl (e76.trans (congrArg Value.bool (decide_eq_false hc21)))) ?_
                        refine wp_skip ?_
                        refine blk_n ?_
                        refine blk_n ?_
                        refine then_n ?_
                        refine wp_regionF ?_
                        refine lf_val (v := .int .i64 ((i + 1 : Nat) : Int)) (wantAll rfl) (rv_add rfl (fr_eval rfl e15) rfl (wrap_i64 (by omega) (by omega) (by omega))) ?_
                        refine lf_val (v := .int .i64 ((i + 1 : Nat) : Int)) (wantAll rfl) (rv_move rfl (fr_eval rfl rfl)) ?_
                        refine lf_nil ?_
                        refine then_n ?_
                        replace hH : Heap _ _ _ [] := hH.drop (.cons _ .slnil)
                        exact ⟨_, _, (by omega), rfl, i + 1, rfl, (by omega), (fun j h => by
                          by_cases e : j < i
                          · exact pi1 j e
                          · obtain rfl : j = i := by omega
                            unfold okN; omega), pi2, e0, e12, e13, e14, rfl, hH⟩
              · refine wp_cond_false (fr_eval rfl (e53.trans (congrArg Value.bool (decide_eq_false hc17)))) ?_
                refine wp_regionF ?_
                refine lf_val (v := .bool (decide ((List.getD t i zN).k = 5))) (wantAll rfl) (rv_eqlP (p := (List.getD t i zN).k = 5) rfl (fr_eval rfl e21) rfl Iff.rfl) ?_
                refine lf_val (v := .bool (decide ((List.getD t i zN).k = 5))) (wantAll rfl) (rv_assign rfl (fr_eval rfl rfl)) ?_
                refine lf_nil ?_
                refine then_n ?_
                refine wp_gen (fun F' => F' 0 = v ∧ F' 3 = .int .i64 ((i : Nat) : Int) ∧ F' 4 = .pointer (some ⟨g1, 0, none⟩) ∧ F' 12 = .bool false ∧ F' 13 = v ∧ F' 14 = .int .i64 ((t.length : Nat) : Int) ∧ F' 15 = .int .i64 ((i : Nat) : Int) ∧ F' 16 = .bool true ∧ F' 21 = .int .i64 ((List.getD t i zN).k) ∧ F' 22 = .bool false ∧ F' 37 = .bool false ∧ F' 53 = .bool (decide ((List.getD t i zN).k = 5))) ⟨e0, e3, e4, e12, e13, e14, e15, e16, e21, e22, e37, rfl⟩ ?_
                clear e0 e3 e4 e12 e13 e14 e15 e16 e21 e22 e37 e53
                clear F
                rintro F ⟨e0, e3, e4, e12, e13, e14, e15, e16, e21, e22, e37, e53⟩
                by_cases hc22 : (List.getD t i zN).k = 5
                · refine wp_cond_true (fr_eval rfl (e53.trans (congrArg Value.bool (decide_eq_true hc22)))) ?_
                  refine wp_seq ?_
                  refine wp_regionF ?_
                  refine lf_val (v := .pointer (some ⟨g1, 1, none⟩)) (wantAll rfl) (rv_fieldAddr (n := 0) rfl (fr_eval rfl e4) Try.underlying40 rfl rfl (by kernel_rfl)) ?_
                  refine lf_val (v := .int .i64 ((List.getD t i zN).a)) (wantAll rfl) (rv_load1 rfl (hH.blk (i := 0) rfl) zTe_g3 (fr_eval rfl rfl) Try.underlying3 rfl Try.sz3) ?_
                  refine lf_val (v := .bool (decide ((List.getD t i zN).a < 0))) (wantAll rfl) (rv_lssP (p := (List.getD t i zN).a < 0) rfl (fr_eval rfl rfl) rfl Iff.rfl) ?_
                  refine lf_val (v := .bool (decide ((List.getD t i zN).a < 0))) (wantAll rfl) (rv_move rfl (fr_eval rfl rfl)) ?_
                  refine lf_joinP (fun F' => F' 0 = v ∧ F' 3 = .int .i64 ((i : Nat) : Int) ∧ F' 4 = .pointer (some ⟨g1, 0, none⟩) ∧ F' 12 = .bool false ∧ F' 13 = v ∧ F' 14 = .int .i64 ((t.length : Nat) : Int) ∧ F' 15 = .int .i64 ((i : Nat) : Int) ∧ F' 16 = .bool true ∧ F' 21 = .int .i64 ((List.getD t i zN).k) ∧ F' 22 = .bool false ∧ F' 37 = .bool false ∧ F' 53 = .bool true ∧ F' 65 = .bool (decide (((List.getD t i zN).a < 0) ∨ ((List.getD t i zN).a ≥ ((i : Nat) : Int))))) 5 (fun hk => ?_) ?_
                  · by_cases hc23 : (List.getD t i zN).a < 0
                    · refine lf_not (wantNot (d := 60) rfl (by kernel_rfl) rfl (congrArg Value.bool (decide_eq_true hc23))) ?_
                      refine lf_not (wantNot (d := 60) rfl (by kernel_rfl) rfl (congrArg Value.bool (decide_eq_true hc23))) ?_
                      refine lf_not (wantNot (d := 60) rfl (by kernel_rfl) rfl (congrArg Value.bool (decide_eq_true hc23))) ?_
                      refine lf_not (wantNot (d := 60) rfl (by kernel_rfl) rfl (congrArg Value.bool (decide_eq_true hc23))) ?_
                      refine lf_val (v := .bool true) (wantAll rfl) (rv_pickT rfl (fr_eval rfl (congrArg Value.bool (decide_eq_true hc23))) rfl) ?_
                      exact hk _ ⟨e0, e3, e4, e12, e13, e14, e15, e16, e21, e22, e37, (e53.trans (congrArg Value.bool (decide_eq_true hc22))), (congrArg Value.bool (dec_orT hc23))⟩
                    · refine lf_val (v := .pointer (some ⟨g1, 1, none⟩)) (wantF (d := 60) rfl (by kernel_rfl) rfl (congrArg Value.bool (decide_eq_false hc23))) (rv_fieldAddr (n := 0) rfl (fr_eval rfl e4) Try.underlying40 rfl rfl (by kernel_rfl)) ?_
                      refine lf_val (v := .int .i64 ((List.getD t i zN).a)) (wantF (d := 60) rfl (by kernel_rfl) rfl (congrArg Value.bool (decide_eq_false hc23))) (rv_load1 rfl (hH.blk (i := 0) rfl) zTe_g3 (fr_eval rfl rfl) Try.underlying3 rfl Try.sz3) ?_
                      refine lf_val (v := .int .i64 ((i : Nat) : Int)) (wantF (d := 60) rfl (by kernel_rfl) rfl (congrArg Value.bool (decide_eq_false hc23))) (rv_move rfl (fr_eval rfl e3)) ?_
                      refine lf_val (v := .bool (decide ((List.getD t i zN).a ≥ ((i : Nat) : Int)))) (wantF (d := 60) rfl (by kernel_rfl) rfl (congrArg Value.bool (decide_eq_false hc23))) (rv_geqP (p := (List.getD t i zN).a ≥ ((i : Nat) : Int)) rfl (fr_eval rfl rfl) (fr_eval rfl rfl) Iff.rfl) ?_
                      refine lf_val (v := .bool (decide ((List.getD t i zN).a ≥ ((i : Nat) : Int)))) (wantAll rfl) (rv_pickF rfl (fr_eval rfl (congrArg Value.bool (decide_eq_false hc23))) (fr_eval rfl rfl)) ?_
                      exact hk _ ⟨e0, e3, e4, e12, e13, e14, e15, e16, e21, e22, e37, (e53.trans (congrArg Value.bool (decide_eq_true hc22))), (congrArg Value.bool (dec_or hc23))⟩
                  · clear e0 e3 e4 e12 e13 e14 e15 e16 e21 e22 e37 e53
                    clear F
                    rintro F ⟨e0, e3, e4, e12, e13, e14, e15, e16, e21, e22, e37, e53, e65⟩
                    refine lf_val (wantAll rfl) (rv_move rfl (fr_eval rfl e65)) ?_
                    refine lf_joinP (fun F' => F' 0 = v ∧ F' 3 = .int .i64 ((i : Nat) : Int) ∧ F' 4 = .pointer (some ⟨g1, 0, none⟩) ∧ F' 12 = .bool false ∧ F' 13 = v ∧ F' 14 = .int .i64 ((t.length : Nat) : Int) ∧ F' 15 = .int .i64 ((i : Nat) : Int) ∧ F' 16 = .bool true ∧ F' 21 = .int .i64 ((List.getD t i zN).k) ∧ F' 22 = .bool false ∧ F' 37 = .bool false ∧ F' 53 = .bool true ∧ F' 70 = .bool (decide ((((List.getD t i zN).a < 0) ∨ ((List.getD t i zN).a ≥ ((i : Nat) : Int))) ∨ ((List.getD t i zN).b < 0)))) 4 (fun hk => ?_) ?_
                    · by_cases hc24 : ((List.getD t i zN).a < 0) ∨ ((List.getD t i zN).a ≥ ((i : Nat) : Int))
                      · refine lf_not (wantNot (d := 66) rfl (by kernel_rfl) rfl (congrArg Value.bool (decide_eq_true hc24))) ?_
                        refine lf_not (wantNot (d := 66) rfl (by kernel_rfl) rfl (congrArg Value.bool (decide_eq_true hc24))) ?_
                        refine lf_not (wantNot (d := 66) rfl (by kernel_rfl) rfl (congrArg Value.bool (decide_eq_true hc24))) ?_
                        refine lf_val (v := .bool true) (wantAll rfl) (rv_pickT rfl (fr_eval rfl (congrArg Value.bool (decide_eq_true hc24))) rfl) ?_
                        exact hk _ ⟨e0, e3, e4, e12, e13, e14, e15, e16, e21, e22, e37, e53, (congrArg Value.bool (dec_orT hc24))⟩
                      · refine lf_val (v := .pointer (some ⟨g1, 2, none⟩)) (wantF (d := 66) rfl (by kernel_rfl) rfl (congrArg Value.bool (decide_eq_false hc24))) (rv_fieldAddr (n := 0) rfl (fr_eval rfl e4) Try.underlying40 rfl rfl (by kernel_rfl)) ?_
                        refine lf_val (v := .int .i64 ((List.getD t i zN).b)) (wantF (d := 66) rfl (by kernel_rfl) rfl (congrArg Value.bool (decide_eq_false hc24))) (rv_load1 rfl (hH.blk (i := 0) rfl) zTe_g4 (fr_eval rfl rfl) Try.underlying3 rfl Try.sz3) ?_
                        refine lf_val (v := .bool (decide ((List.getD t i zN).b < 0))) (wantF (d := 66) rfl (by kernel_rfl) rfl (congrArg Value.bool (decide_eq_false hc24))) (rv_lssP (p := (List.getD t i zN).b < 0) rfl (fr_eval rfl rfl) rfl Iff.rfl) ?_
                        refine lf_val (v := .bool (decide ((List.getD t i zN).b < 0))) (wantAll rfl) (rv_pickF rfl (fr_eval rfl (congrArg Value.bool (decide_eq_false hc24))) (fr_eval rfl rfl)) ?_
                        exact hk _ ⟨e0, e3, e4, e12, e13, e14, e15, e16, e21, e22, e37, e53, (congrArg Value.bool (dec_or hc24))⟩
                    · clear e0 e3 e4 e12 e13 e14 e15 e16 e21 e22 e37 e53 e65
                      clear F
                      rintro F ⟨e0, e3, e4, e12, e13, e14, e15, e16, e21, e22, e37, e53, e70⟩
                      refine lf_val (wantAll rfl) (rv_move rfl (fr_eval rfl e70)) ?_
                      refine lf_joinP (fun F' => F' 0 = v ∧ F' 3 = .int .i64 ((i : Nat) : Int) ∧ F' 4 = .pointer (some ⟨g1, 0, none⟩) ∧ F' 12 = .bool false ∧ F' 13 = v ∧ F' 14 = .int .i64 ((t.length : Nat) : Int) ∧ F' 15 = .int .i64 ((i : Nat) : Int) ∧ F' 16 = .bool true ∧ F' 21 = .int .i64 ((List.getD t i zN).k) ∧ F' 22 = .bool false ∧ F' 37 = .bool false ∧ F' 53 = .bool true ∧ F' 76 = .bool (decide (((((List.getD t i zN).a < 0) ∨ ((List.getD t i zN).a ≥ ((i : Nat) : Int))) ∨ ((List.getD t i zN).b < 0)) ∨ ((List.getD t i zN).b ≥ ((i : Nat) : Int))))) 5 (fun hk => ?_) ?_
                      · by_cases hc25 : (((List.getD t i zN).a < 0) ∨ ((List.getD t i zN).a ≥ ((i : Nat) : Int))) ∨ ((List.getD t i zN).b < 0)
                        · refine lf_not (wantNot (d := 71) rfl (by kernel_rfl) rfl (congrArg Value.bool (decide_eq_true hc25))) ?_
                          refine lf_not (wantNot (d := 71) rfl (by kernel_rfl) rfl (congrArg Value.bool (decide_eq_true hc25))) ?_
                          refine lf_not (wantNot (d := 71) rfl (by kernel_rfl) rfl (congrArg Value.bool (decide_eq_true hc25))) ?_
                          refine lf_not (wantNot (d := 71) rfl (by kernel_rfl) rfl (congrArg Value.bool (decide_eq_true hc25))) ?_
                          refine lf_val (v := .bool true) (wantAll rfl) (rv_pickT rfl (fr_eval rfl (congrArg Value.bool (decide_eq_true hc25))) rfl) ?_
                          exact hk _ ⟨e0, e3, e4, e12, e13, e14, e15, e16, e21, e22, e37, e53, (congrArg Value.bool (dec_orT hc25))⟩
                        · refine lf_val (v := .pointer (some ⟨g1, 2, none⟩)) (wantF (d := 71) rfl (by kernel_rfl) rfl (congrArg Value.bool (decide_eq_false hc25))) (rv_fieldAddr (n := 0) rfl (fr_eval rfl e4) Try.underlying40 rfl rfl (by kernel_rfl)) ?_
                          refine lf_val (v := .int .i64 ((List.getD t i zN).b)) (wantF (d := 71) rfl (by kernel_rfl) rfl (congrArg Value.bool (decide_eq_false hc25))) (rv_load1 rfl (hH.blk (i := 0) rfl) zTe_g4 (fr_eval rfl rfl) Try.underlying3 rfl Try.sz3) ?_
                          refine lf_val (v := .int .i64 ((i : Nat) : Int)) (wantF (d := 71) rfl (by kernel_rfl) rfl (congrArg Value.bool (decide_eq_false hc25))) (rv_move rfl (fr_eval rfl e3)) ?_
                          refine lf_val (v := .bool (decide ((List.getD t i zN).b ≥ ((i : Nat) : Int)))) (wantF (d := 71) rfl (by kernel_rfl) rfl (congrArg Value.bool (decide_eq_false hc25))) (rv_geqP (p := (List.getD t i zN).b ≥ ((i : Nat) : Int)) rfl (fr_eval rfl rfl) (fr_eval rfl rfl) Iff.rfl) ?_
                          refine lf_val (v := .bool (decide ((List.getD t i zN).b ≥ ((i : Nat) : Int)))) (wantAll rfl) (rv_pickF rfl (fr_eval rfl (congrArg Value.bool (decide_eq_false hc25))) (fr_eval rfl rfl)) ?_
                          exact hk _ ⟨e0, e3, e4, e12, e13, e14, e15, e16, e21, e22, e37, e53, (congrArg Value.bool (dec_or hc25))⟩
                      · clear e0 e3 e4 e12 e13 e14 e15 e16 e21 e22 e37 e53 e70
                        clear F
                        rintro F ⟨e0, e3, e4, e12, e13, e14, e15, e16, e21, e22, e37, e53, e76⟩
                        refine lf_nil ?_
                        refine then_n ?_
                        by_cases hc26 : ((((List.getD t i zN).a < 0) ∨ ((List.getD t i zN).a ≥ ((i : Nat) : Int))) ∨ ((List.getD t i zN).b < 0)) ∨ ((List.getD t i zN).b ≥ ((i : Nat) : Int))
                        · refine wp_cond_true (fr_eval rfl (e76.trans (congrArg Value.bool (decide_eq_true hc26)))) ?_
                          refine wp_seq ?_
                          refine wp_regionF ?_
                          refine lf_val (v := .bool false) (wantAll rfl) (rv_assign rfl rfl) ?_
                          refine lf_nil ?_
                          refine then_n ?_
                          refine wp_gen (fun F' => F' 0 = v ∧ F' 2 = .bool false ∧ F' 3 = .int .i64 ((i : Nat) : Int) ∧ F' 4 = .pointer (some ⟨g1, 0, none⟩) ∧ F' 12 = .bool false ∧ F' 13 = v ∧ F' 14 = .int .i64 ((t.length : Nat) : Int) ∧ F' 15 = .int .i64 ((i : Nat) : Int) ∧ F' 16 = .bool true ∧ F' 21 = .int .i64 ((List.getD t i zN).k) ∧ F' 22 = .bool false ∧ F' 37 = .bool false ∧ F' 53 = .bool true ∧ F' 76 = .bool true) ⟨e0, rfl, e3, e4, e12, e13, e14, e15, e16, e21, e22, e37, e53, (e76.trans (congrArg Value.bool (decide_eq_true hc26)))⟩ ?_
                          clear e0 e3 e4 e12 e13 e14 e15 e16 e21 e22 e37 e53 e76
                          clear F
                          rintro F ⟨e0, e2, e3, e4, e12, e13, e14, e15, e16, e21, e22, e37, e53, e76⟩
                          refine wp_ret ?_
                          refine blk_ret ?_
                          refine blk_ret ?_
                          refine then_ret ?_
                          refine then_ret ?_
                          refine blk_ret ?_
                          refine then_ret ?_
                          exact bodyPost_ret (v := (.bool false)) (res1 rfl (ro_tmp rfl e2)) rfl (⟨congrArg (fun b => Ending.returned (.bool b)) (decide_eq_false (fun h => by have := h.2.2 i (by omega); unfold okN at this; omega)).symm, hH.done⟩)
                        · refine wp_cond_false (fr_eval rfl (e76.trans (congrArg Value.bool (decide_eq_false hc26)))) ?_
                          refine wp_skip ?_
                          refine blk_n ?_
                          refine blk_n ?_
                          refine then_n ?_
                          refine wp_regionF ?_
                          refine lf_val (v := .int .i64 ((i + 1 : Nat) : Int)) (wantAll rfl) (rv_add rfl (fr_eval rfl e15) rfl (wrap_i64 (by omega) (by omega) (by omega))) ?_
                          refine lf_val (v := .int .i64 ((i + 1 : Nat) : Int)) (wantAll rfl) (rv_move rfl (fr_eval rfl rfl)) ?_
                          refine lf_nil ?_
                          refine then_n ?_
                          replace hH : Heap _ _ _ [] := hH.drop (.cons _ .slnil)
                          exact ⟨_, _, (by omega), rfl, i + 1, rfl, (by omega), (fun j h => by
                            by_cases e : j < i
                            · exact pi1 j e
                            · obtain rfl : j = i := by omega
                              unfold okN; omega), pi2, e0, e12, e13, e14, rfl, hH⟩
                · refine wp_cond_false (fr_eval rfl (e53.trans (congrArg Value.bool (decide_eq_false hc22)))) ?_
                  refine wp_seq ?_
                  refine wp_regionF ?_
                  refine lf_val (v := .bool false) (wantAll rfl) (rv_assign rfl rfl) ?_
                  refine lf_nil ?_
                  refine then_n ?_
                  refine wp_gen (fun F' => F' 0 = v ∧ F' 2 = .bool false ∧ F' 3 = .int .i64 ((i : Nat) : Int) ∧ F' 4 = .pointer (some ⟨g1, 0, none⟩) ∧ F' 12 = .bool false ∧ F' 13 = v ∧ F' 14 = .int .i64 ((t.length : Nat) : Int) ∧ F' 15 = .int .i64 ((i : Nat) : Int) ∧ F' 16 = .bool true ∧ F' 21 = .int .i64 ((List.getD t i zN).k) ∧ F' 22 = .bool false ∧ F' 37 = .bool false ∧ F' 53 = .bool false) ⟨e0, rfl, e3, e4, e12, e13, e14, e15, e16, e21, e22, e37, (e53.trans (congrArg Value.bool (decide_eq_false hc22)))⟩ ?_
                  clear e0 e3 e4 e12 e13 e14 e15 e16 e21 e22 e37 e53
                  clear F
                  rintro F ⟨e0, e2, e3, e4, e12, e13, e14, e15, e16, e21, e22, e37, e53⟩
                  refine wp_ret ?_
                  refine blk_ret ?_
                  refine blk_ret ?_
                  refine then_ret ?_
                  refine then_ret ?_
                  refine blk_ret ?_
                  refine then_ret ?_
                  exact bodyPost_ret (v := (.bool false)) (res1 rfl (ro_tmp rfl e2)) rfl (⟨congrArg (fun b => Ending.returned (.bool b)) (decide_eq_false (fun h => by have := h.2.2 i (by omega); unfold okN at this; omega)).symm, hH.done⟩)
      · refine wp_cond_false (fr_eval rfl (e16.trans (congrArg Value.bool (decide_eq_false hc3)))) ?_
        refine wp_exit ?_
        refine then_exit ?_
        refine then_exit ?_
        refine blk_exit ?_
        refine then_n ?_
        refine wp_seq ?_
        refine wp_regionF ?_
        refine lf_val (v := .bool true) (wantAll rfl) (rv_assign rfl rfl) ?_
        refine lf_nil ?_
        refine then_n ?_
        refine wp_gen (fun F' => F' 0 = v ∧ F' 2 = .bool true ∧ F' 12 = .bool false ∧ F' 13 = v ∧ F' 14 = .int .i64 ((t.length : Nat) : Int) ∧ F' 15 = .int .i64 ((i : Nat) : Int) ∧ F' 16 = .bool false) ⟨e0, rfl, e12, e13, e14, e15, (e16.trans (congrArg Value.bool (decide_eq_false hc3)))⟩ ?_
        clear e0 e12 e13 e14 e15 e16
        clear F
        rintro F ⟨e0, e2, e12, e13, e14, e15, e16⟩
        refine wp_ret ?_
        exact bodyPost_ret (v := (.bool true)) (res1 rfl (ro_tmp rfl e2)) rfl (⟨congrArg (fun b => Ending.returned (.bool b)) (decide_eq_true ⟨pi2.1, pi2.2, fun j h => pi1 j (by omega)⟩).symm, hH.done⟩)

set_option maxRecDepth 100000 in
set_option maxHeartbeats 4000000 in
theorem lawRight_calls (t : List Nd) (v : Value) (w : World) (hr0 : Rd w 3 v t.length (t.flatMap cNd)) :
    Calls Try.prog 11 #[v] w fun e'' w' => e'' = .returned (.bool (decide (okT t))) ∧ Ext w w' := by
  refine calls_fr (args := [v]) (n := 80) Try.func11 rfl rfl (show 1 ≤ 80 by decide) ?_
  have hr := Rd.stab hr0
  have hH : Heap (newN w) w w [] := Heap.fresh
  refine wp_seq ?_
  refine wp_gen (fun F' => F' 0 = v) rfl ?_
  rintro F e0
  refine wp_regionF ?_
  refine lf_val (v := .bool false) (wantAll rfl) (rv_assign rfl rfl) ?_
  refine lf_nil ?_
  refine then_n ?_
  refine wp_seq ?_
  refine wp_seq ?_
  refine wp_gen (fun F' => F' 0 = v ∧ F' 2 = .bool false) ⟨e0, rfl⟩ ?_
  clear e0
  clear F
  rintro F ⟨e0, e2⟩
  refine wp_regionF ?_
  refine lf_val (v := v) (wantAll rfl) (rv_move rfl (fr_eval rfl e0)) ?_
  refine lf_val (v := .int .i64 ((t.length : Nat) : Int)) (wantAll rfl) (rv_len rfl (fr_eval rfl rfl) (hr.rd _ hH.chg) Try.underlying24) ?_
  refine lf_val (v := .bool (decide (t.length < 1))) (wantAll rfl) (rv_lssP (p := t.length < 1) rfl (fr_eval rfl rfl) rfl (by omega)) ?_
  refine lf_val (v := .bool (decide (t.length < 1))) (wantAll rfl) (rv_move rfl (fr_eval rfl rfl)) ?_
  refine lf_joinP (fun F' => F' 0 = v ∧ F' 2 = .bool false ∧ F' 12 = .bool (decide ((t.length < 1) ∨ (t.length > 64)))) 4 (fun hk => ?_) ?_
  · by_cases hc1 : t.length < 1
    · refine lf_not (wantNot (d := 8) rfl (by kernel_rfl) rfl (congrArg Value.bool (decide_eq_true hc1))) ?_
      refine lf_not (wantNot (d := 8) rfl (by kernel_rfl) rfl (congrArg Value.bool (decide_eq_true hc1))) ?_
      refine lf_not (wantNot (d := 8) rfl (by kernel_rfl) rfl (congrArg Value.bool (decide_eq_true hc1))) ?_
      refine lf_val (v := .bool true) (wantAll rfl) (rv_pickT rfl (fr_eval rfl (congrArg Value.bool (decide_eq_true hc1))) rfl) ?_
      exact hk _ ⟨e0, e2, (congrArg Value.bool (dec_orT hc1))⟩
    · refine lf_val (v := v) (wantF (d := 8) rfl (by kernel_rfl) rfl (congrArg Value.bool (decide_eq_false hc1))) (rv_move rfl (fr_eval rfl e0)) ?_
      refine lf_val (v := .int .i64 ((t.length : Nat) : Int)) (wantF (d := 8) rfl (by kernel_rfl) rfl (congrArg Value.bool (decide_eq_false hc1))) (rv_len rfl (fr_eval rfl rfl) (hr.rd _ hH.chg) Try.underlying24) ?_
      refine lf_val (v := .bool (decide (t.length > 64))) (wantF (d := 8) rfl (by kernel_rfl) rfl (congrArg Value.bool (decide_eq_false hc1))) (rv_gtrP (p := t.length > 64) rfl (fr_eval rfl rfl) rfl (by omega)) ?_
      refine lf_val (v := .bool (decide (t.length > 64))) (wantAll rfl) (rv_pickF rfl (fr_eval rfl (congrArg Value.bool (decide_eq_false hc1))) (fr_eval rfl rfl)) ?_
      exact hk _ ⟨e0, e2, (congrArg Value.bool (dec_or hc1))⟩
  · clear e0 e2
    clear F
    rintro F ⟨e0, e2, e12⟩
    refine lf_nil ?_
    refine then_n ?_
    by_cases hc2 : (t.length < 1) ∨ (t.length > 64)
    · refine wp_cond_true (fr_eval rfl (e12.trans (congrArg Value.bool (decide_eq_true hc2)))) ?_
      refine wp_seq ?_
      refine wp_regionF ?_
      refine lf_val (v := .bool false) (wantAll rfl) (rv_assign rfl rfl) ?_
      refine lf_nil ?_
      refine then_n ?_
      refine wp_gen (fun F' => F' 0 = v ∧ F' 2 = .bool false ∧ F' 12 = .bool true) ⟨e0, rfl, (e12.trans (congrArg Value.bool (decide_eq_true hc2)))⟩ ?_
      clear e0 e2 e12
      clear F
      rintro F ⟨e0, e2, e12⟩
      refine wp_ret ?_
      refine then_ret ?_
      exact bodyPost_ret (v := (.bool false)) (res1 rfl (ro_tmp rfl e2)) rfl (⟨congrArg (fun b => Ending.returned (.bool b)) (decide_eq_false (fun h => by have := h.1; have := h.2.1; omega)).symm, hH.done⟩)
    · refine wp_cond_false (fr_eval rfl (e12.trans (congrArg Value.bool (decide_eq_false hc2)))) ?_
      refine wp_skip ?_
      refine then_n ?_
      refine wp_seq ?_
      refine wp_seq ?_
      refine wp_regionF ?_
      refine lf_val (v := .int .i64 0) (wantAll rfl) (rv_assign rfl rfl) ?_
      refine lf_nil ?_
      refine then_n ?_
      refine wp_block ?_
      refine wp_gen (fun F' => F' 0 = v ∧ F' 2 = .bool false ∧ F' 3 = .int .i64 0 ∧ F' 12 = .bool false) ⟨e0, e2, rfl, (e12.trans (congrArg Value.bool (decide_eq_false hc2)))⟩ ?_
      clear e0 e2 e12
      clear F
      rintro F ⟨e0, e2, e3, e12⟩
      refine wp_loopF (fun m F wr => ∃ i : Nat, m = t.length - i ∧ i ≤ t.length ∧ (∀ j, j < i → okN j (t.getD j zN)) ∧ (1 ≤ t.length ∧ t.length ≤ 64) ∧ F 0 = v ∧ F 3 = .int .i64 ((i : Nat) : Int) ∧ F 12 = .bool false ∧ Heap (newN w) w wr []) ⟨0, rfl, Nat.zero_le _, (fun j h => by omega), (by omega), e0, e3, e12, hH⟩ ?_
      clear e0 e2 e3 e12 hH
      clear F
      rintro m F w1 ⟨i, rfl, pi0, pi1, pi2, e0, e3, e12, hH⟩
      refine wp_seq ?_
      refine wp_seq ?_
      refine wp_regionF ?_
      refine lf_val (v := .int .i64 ((i : Nat) : Int)) (wantAll rfl) (rv_move rfl (fr_eval rfl e3)) ?_
      refine lf_val (v := v) (wantAll rfl) (rv_move rfl (fr_eval rfl e0)) ?_
      refine lf_val (v := .int .i64 ((t.length : Nat) : Int)) (wantAll rfl) (rv_len rfl (fr_eval rfl rfl) (hr.rd _ hH.chg) Try.underlying24) ?_
      refine lf_val (v := .bool (decide (i < t.length))) (wantAll rfl) (rv_lssP (p := i < t.length) rfl (fr_eval rfl rfl) (fr_eval rfl rfl) (by omega)) ?_
      refine lf_nil ?_
      refine then_n ?_
      refine wp_gen (fun F' => F' 0 = v ∧ F' 3 = .int .i64 ((i : Nat) : Int) ∧ F' 12 = .bool false ∧ F' 16 = .bool (decide (i < t.length))) ⟨e0, e3, e12, rfl⟩ ?_
      clear e0 e3 e12
      clear F
      rintro F ⟨e0, e3, e12, e16⟩
      by_cases hc3 : i < t.length
      · refine wp_cond_true (fr_eval rfl (e16.trans (congrArg Value.bool (decide_eq_true hc3)))) ?_
        refine wp_skip ?_
        refine then_n ?_
        refine wp_seq ?_
        refine wp_block ?_
        refine wp_seq ?_
        refine wp_regionF ?_
        refine lf_val (v := v) (wantAll rfl) (rv_move rfl (fr_eval rfl e0)) ?_
        refine lf_val (v := .int .i64 ((i : Nat) : Int)) (wantAll rfl) (rv_move rfl (fr_eval rfl e3)) ?_
        refine lf_val (v := .pointer (some (elemA v (i * 3)))) (wantAll rfl) (rv_index rfl (fr_eval rfl rfl) (fr_eval rfl rfl) (rdN (hr.rd _ hH.chg) rfl) (show i < t.length from (by omega)) Try.underlying24 Try.sz40 (by decide)) ?_
        refine lf_val (wantAll rfl) (rv_loadElem rfl (fr_eval rfl rfl) (rdN (hr.rd _ hH.chg) rfl) (show i < t.length from (by omega)) (by decide) (flat_part zN cNd_len (show i < t.length from (by omega))) Try.underlying40 rfl Try.sz40) ?_
        refine lf_ex (wantAll rfl) (hx_alloc hH 40 (z := .agg ([.int .i64 0, .int .i64 0, .int .i64 0]).toArray) (n := 3) (cs := [.int .i64 0, .int .i64 0, .int .i64 0]) rfl (by kernel_rfl) (by rfl)) ?_
        clear hH
        rintro _ w2 ⟨g1, rfl, hH, hx⟩
        replace hH : Heap _ _ _ [_] := hH
        clear hx
        refine lf_sk (wantAll rfl) (hx_storeW hH (i := 0) (cs := [.int .i64 ((List.getD t i zN).k), .int .i64 ((List.getD t i zN).a), .int .i64 ((List.getD t i zN).b)]) rfl rfl rfl (fr_eval rfl rfl) (fr_eval rfl rfl) (sz_len Try.sz40 zTe_l0) ((zTe_l0).trans (zTe_l0).symm) (zTe_o1 rfl rfl rfl)) ?_
        clear hH
        rintro w3 ⟨hH, hx⟩
        replace hH : Heap _ _ _ [_] := hH
        clear hx
        refine lf_nil ?_
        refine then_n ?_
        refine wp_seq ?_
        refine wp_gen (fun F' => F' 0 = v ∧ F' 3 = .int .i64 ((i : Nat) : Int) ∧ F' 4 = .pointer (some ⟨g1, 0, none⟩) ∧ F' 12 = .bool false ∧ F' 16 = .bool true) ⟨e0, e3, rfl, e12, (e16.trans (congrArg Value.bool (decide_eq_true hc3)))⟩ ?_
        clear e0 e3 e12 e16
        clear F
        rintro F ⟨e0, e3, e4, e12, e16⟩
        refine wp_regionF ?_
        refine lf_val (v := .pointer (some ⟨g1, 0, none⟩)) (wantAll rfl) (rv_fieldAddr (n := 0) rfl (fr_eval rfl e4) Try.underlying40 rfl rfl (by kernel_rfl)) ?_
        refine lf_val (v := .int .i64 ((List.getD t i zN).k)) (wantAll rfl) (rv_load1 rfl (hH.blk (i := 0) rfl) zTe_g2 (fr_eval rfl rfl) Try.underlying3 rfl Try.sz3) ?_
        refine lf_nil ?_
        refine then_n ?_
        refine wp_block ?_
        refine wp_seq ?_
        refine wp_gen (fun F' => F' 0 = v ∧ F' 3 = .int .i64 ((i : Nat) : Int) ∧ F' 4 = .pointer (some ⟨g1, 0, none⟩) ∧ F' 12 = .bool false ∧ F' 16 = .bool true ∧ F' 24 = .int .i64 ((List.getD t i zN).k)) ⟨e0, e3, e4, e12, e16, rfl⟩ ?_
        clear e0 e3 e4 e12 e16
        clear F
        rintro F ⟨e0, e3, e4, e12, e16, e24⟩
        refine wp_regionF ?_
        refine lf_val (v := .bool (decide ((List.getD t i zN).k = 1))) (wantAll rfl) (rv_eqlP (p := (List.getD t i zN).k = 1) rfl (fr_eval rfl e24) rfl Iff.rfl) ?_
        refine lf_val (v := .bool (decide ((List.getD t i zN).k = 1))) (wantAll rfl) (rv_assign rfl (fr_eval rfl rfl)) ?_
        refine lf_nil ?_
        refine then_n ?_
        refine wp_gen (fun F' => F' 0 = v ∧ F' 3 = .int .i64 ((i : Nat) : Int) ∧ F' 4 = .pointer (some ⟨g1, 0, none⟩) ∧ F' 12 = .bool false ∧ F' 16 = .bool true ∧ F' 24 = .int .i64 ((List.getD t i zN).k) ∧ F' 25 = .bool (decide ((List.getD t i zN).k = 1))) ⟨e0, e3, e4, e12, e16, e24, rfl⟩ ?_
        clear e0 e3 e4 e12 e16 e24
        clear F
        rintro F ⟨e0, e3, e4, e12, e16, e24, e25⟩
        by_cases hc4 : (List.getD t i zN).k = 1
        · refine wp_cond_true (fr_eval rfl (e25.trans (congrArg Value.bool (decide_eq_true hc4)))) ?_
          refine wp_seq ?_
          refine wp_regionF ?_
          refine lf_val (v := .pointer (some ⟨g1, 1, none⟩)) (wantAll rfl) (rv_fieldAddr (n := 0) rfl (fr_eval rfl e4) Try.underlying40 rfl rfl (by kernel_rfl)) ?_
          refine lf_val (v := .int .i64 ((List.getD t i zN).a)) (wantAll rfl) (rv_load1 rfl (hH.blk (i := 0) rfl) zTe_g3 (fr_eval rfl rfl) Try.underlying3 rfl Try.sz3) ?_
          refine lf_val (v := .bool (decide ((List.getD t i zN).a < 0))) (wantAll rfl) (rv_lssP (p := (List.getD t i zN).a < 0) rfl (fr_eval rfl rfl) rfl Iff.rfl) ?_
          refine lf_val (v := .bool (decide ((List.getD t i zN).a < 0))) (wantAll rfl) (rv_move rfl (fr_eval rfl rfl)) ?_
          refine lf_joinP (fun F' => F' 0 = v ∧ F' 3 = .int .i64 ((i : Nat) : Int) ∧ F' 4 = .pointer (some ⟨g1, 0, none⟩) ∧ F' 12 = .bool false ∧ F' 16 = .bool true ∧ F' 24 = .int .i64 ((List.getD t i zN).k) ∧ F' 25 = .bool true ∧ F' 34 = .bool (decide (((List.getD t i zN).a < 0) ∨ ((List.getD t i zN).a > 1048576)))) 4 (fun hk => ?_) ?_
          · by_cases hc5 : (List.getD t i zN).a < 0
            · refine lf_not (wantNot (d := 30) rfl (by kernel_rfl) rfl (congrArg Value.bool (decide_eq_true hc5))) ?_
              refine lf_not (wantNot (d := 30) rfl (by kernel_rfl) rfl (congrArg Value.bool (decide_eq_true hc5))) ?_
              refine lf_not (wantNot (d := 30) rfl (by kernel_rfl) rfl (congrArg Value.bool (decide_eq_true hc5))) ?_
              refine lf_val (v := .bool true) (wantAll rfl) (rv_pickT rfl (fr_eval rfl (congrArg Value.bool (decide_eq_true hc5))) rfl) ?_
              exact hk _ ⟨e0, e3, e4, e12, e16, e24, (e25.trans (congrArg Value.bool (decide_eq_true hc4))), (congrArg Value.bool (dec_orT hc5))⟩
            · refine lf_val (v := .pointer (some ⟨g1, 1, none⟩)) (wantF (d := 30) rfl (by kernel_rfl) rfl (congrArg Value.bool (decide_eq_false hc5))) (rv_fieldAddr (n := 0) rfl (fr_eval rfl e4) Try.underlying40 rfl rfl (by kernel_rfl)) ?_
              refine lf_val (v := .int .i64 ((List.getD t i zN).a)) (wantF (d := 30) rfl (by kernel_rfl) rfl (congrArg Value.bool (decide_eq_false hc5))) (rv_load1 rfl (hH.blk (i := 0) rfl) zTe_g3 (fr_eval rfl rfl) Try.underlying3 rfl Try.sz3) ?_
              refine lf_val (v := .bool (decide ((List.getD t i zN).a > 1048576))) (wantF (d := 30) rfl (by kernel_rfl) rfl (congrArg Value.bool (decide_eq_false hc5))) (rv_gtrP (p := (List.getD t i zN).a > 1048576) rfl (fr_eval rfl rfl) rfl Iff.rfl) ?_
              refine lf_val (v := .bool (decide ((List.getD t i zN).a > 1048576))) (wantAll rfl) (rv_pickF rfl (fr_eval rfl (congrArg Value.bool (decide_eq_false hc5))) (fr_eval rfl rfl)) ?_
              exact hk _ ⟨e0, e3, e4, e12, e16, e24, (e25.trans (congrArg Value.bool (decide_eq_true hc4))), (congrArg Value.bool (dec_or hc5))⟩
          · clear e0 e3 e4 e12 e16 e24 e25
            clear F
            rintro F ⟨e0, e3, e4, e12, e16, e24, e25, e34⟩
            refine lf_val (wantAll rfl) (rv_move rfl (fr_eval rfl e34)) ?_
            refine lf_joinP (fun F' => F' 0 = v ∧ F' 3 = .int .i64 ((i : Nat) : Int) ∧ F' 4 = .pointer (some ⟨g1, 0, none⟩) ∧ F' 12 = .bool false ∧ F' 16 = .bool true ∧ F' 24 = .int .i64 ((List.getD t i zN).k) ∧ F' 25 = .bool true ∧ F' 39 = .bool (decide ((((List.getD t i zN).a < 0) ∨ ((List.getD t i zN).a > 1048576)) ∨ (¬ (List.getD t i zN).b = 0)))) 4 (fun hk => ?_) ?_
            · by_cases hc6 : ((List.getD t i zN).a < 0) ∨ ((List.getD t i zN).a > 1048576)
              · refine lf_not (wantNot (d := 35) rfl (by kernel_rfl) rfl (congrArg Value.bool (decide_eq_true hc6))) ?_
                refine lf_not (wantNot (d := 35) rfl (by kernel_rfl) rfl (congrArg Value.bool (decide_eq_true hc6))) ?_
                refine lf_not (wantNot (d := 35) rfl (by kernel_rfl) rfl (congrArg Value.bool (decide_eq_true hc6))) ?_
                refine lf_val (v := .bool true) (wantAll rfl) (rv_pickT rfl (fr_eval rfl (congrArg Value.bool (decide_eq_true hc6))) rfl) ?_
                exact hk _ ⟨e0, e3, e4, e12, e16, e24, e25, (congrArg Value.bool (dec_orT hc6))⟩
              · refine lf_val (v := .pointer (some ⟨g1, 2, none⟩)) (wantF (d := 35) rfl (by kernel_rfl) rfl (congrArg Value.bool (decide_eq_false hc6))) (rv_fieldAddr (n := 0) rfl (fr_eval rfl e4) Try.underlying40 rfl rfl (by kernel_rfl)) ?_
                refine lf_val (v := .int .i64 ((List.getD t i zN).b)) (wantF (d := 35) rfl (by kernel_rfl) rfl (congrArg Value.bool (decide_eq_false hc6))) (rv_load1 rfl (hH.blk (i := 0) rfl) zTe_g4 (fr_eval rfl rfl) Try.underlying3 rfl Try.sz3) ?_
                refine lf_val (v := .bool (decide (¬ (List.getD t i zN).b = 0))) (wantF (d := 35) rfl (by kernel_rfl) rfl (congrArg Value.bool (decide_eq_false hc6))) (rv_neqP (p := ¬ (List.getD t i zN).b = 0) rfl (fr_eval rfl rfl) rfl Iff.rfl) ?_
                refine lf_val (v := .bool (decide (¬ (List.getD t i zN).b = 0))) (wantAll rfl) (rv_pickF rfl (fr_eval rfl (congrArg Value.bool (decide_eq_false hc6))) (fr_eval rfl rfl)) ?_
                exact hk _ ⟨e0, e3, e4, e12, e16, e24, e25, (congrArg Value.bool (dec_or hc6))⟩
            · clear e0 e3 e4 e12 e16 e24 e25 e34
              clear F
              rintro F ⟨e0, e3, e4, e12, e16, e24, e25, e39⟩
              refine lf_nil ?_
              refine then_n ?_
              by_cases hc7 : (((List.getD t i zN).a < 0) ∨ ((List.getD t i zN).a > 1048576)) ∨ (¬ (List.getD t i zN).b = 0)
              · refine wp_cond_true (fr_eval rfl (e39.trans (congrArg Value.bool (decide_eq_true hc7)))) ?_
                refine wp_seq ?_
                refine wp_regionF ?_
                refine lf_val (v := .bool false) (wantAll rfl) (rv_assign rfl rfl) ?_
                refine lf_nil ?_
                refine then_n ?_
                refine wp_gen (fun F' => F' 0 = v ∧ F' 2 = .bool false ∧ F' 3 = .int .i64 ((i : Nat) : Int) ∧ F' 4 = .pointer (some ⟨g1, 0, none⟩) ∧ F' 12 = .bool false ∧ F' 16 = .bool true ∧ F' 24 = .int .i64 ((List.getD t i zN).k) ∧ F' 25 = .bool true ∧ F' 39 = .bool true) ⟨e0, rfl, e3, e4, e12, e16, e24, e25, (e39.trans (congrArg Value.bool (decide_eq_true hc7)))⟩ ?_
                clear e0 e3 e4 e12 e16 e24 e25 e39
                clear F
                rintro F ⟨e0, e2, e3, e4, e12, e16, e24, e25, e39⟩
                refine wp_ret ?_
                refine blk_ret ?_
                refine blk_ret ?_
                refine then_ret ?_
                refine then_ret ?_
                refine blk_ret ?_
                refine then_ret ?_
                exact bodyPost_ret (v := (.bool false)) (res1 rfl (ro_tmp rfl e2)) rfl (⟨congrArg (fun b => Ending.returned (.bool b)) (decide_eq_false (fun h => by have := h.2.2 i (by omega); unfold okN at this; omega)).symm, hH.done⟩)
              · refine wp_cond_false (fr_eval rfl (e39.trans (congrArg Value.bool (decide_eq_false hc7)))) ?_
                refine wp_skip ?_
                refine blk_n ?_
                refine blk_n ?_
                refine then_n ?_
                refine wp_regionF ?_
                refine lf_val (v := .int .i64 ((i : Nat) : Int)) (wantAll rfl) (rv_move rfl (fr_eval rfl e3)) ?_
                refine lf_val (v := .int .i64 ((i + 1 : Nat) : Int)) (wantAll rfl) (rv_add rfl (fr_eval rfl rfl) rfl (wrap_i64 (by omega) (by omega) (by omega))) ?_
                refine lf_val (v := .int .i64 ((i + 1 : Nat) : Int)) (wantAll rfl) (rv_assign rfl (fr_eval rfl rfl)) ?_
                refine lf_nil ?_
                refine then_n ?_
                replace hH : Heap _ _ _ [] := hH.drop (.cons _ .slnil)
                exact ⟨_, _, (by omega), rfl, i + 1, rfl, (by omega), (fun j h => by
                  by_cases e : j < i
                  · exact pi1 j e
                  · obtain rfl : j = i := by omega
                    unfold okN; omega), pi2, e0, rfl, e12, hH⟩
        · refine wp_cond_false (fr_eval rfl (e25.trans (congrArg Value.bool (decide_eq_false hc4)))) ?_
          refine wp_seq ?_
          refine wp_regionF ?_
          refine lf_val (v := .bool (decide ((List.getD t i zN).k = 3))) (wantAll rfl) (rv_eqlP (p := (List.getD t i zN).k = 3) rfl (fr_eval rfl e24) rfl Iff.rfl) ?_
          refine lf_val (v := .bool (decide ((List.getD t i zN).k = 3))) (wantAll rfl) (rv_assign rfl (fr_eval rfl rfl)) ?_
          refine lf_nil ?_
          refine then_n ?_
          refine wp_gen (fun F' => F' 0 = v ∧ F' 3 = .int .i64 ((i : Nat) : Int) ∧ F' 4 = .pointer (some ⟨g1, 0, none⟩) ∧ F' 12 = .bool false ∧ F' 16 = .bool true ∧ F' 24 = .int .i64 ((List.getD t i zN).k) ∧ F' 25 = .bool false ∧ F' 40 = .bool (decide ((List.getD t i zN).k = 3))) ⟨e0, e3, e4, e12, e16, e24, (e25.trans (congrArg Value.bool (decide_eq_false hc4))), rfl⟩ ?_
          clear e0 e3 e4 e12 e16 e24 e25
          clear F
          rintro F ⟨e0, e3, e4, e12, e16, e24, e25, e40⟩
          by_cases hc8 : (List.getD t i zN).k = 3
          · refine wp_cond_true (fr_eval rfl (e40.trans (congrArg Value.bool (decide_eq_true hc8)))) ?_
            refine wp_seq ?_
            refine wp_regionF ?_
            refine lf_val (v := .pointer (some ⟨g1, 1, none⟩)) (wantAll rfl) (rv_fieldAddr (n := 0) rfl (fr_eval rfl e4) Try.underlying40 rfl rfl (by kernel_rfl)) ?_
            refine lf_val (v := .int .i64 ((List.getD t i zN).a)) (wantAll rfl) (rv_load1 rfl (hH.blk (i := 0) rfl) zTe_g3 (fr_eval rfl rfl) Try.underlying3 rfl Try.sz3) ?_
            refine lf_val (v := .bool (decide ((List.getD t i zN).a < 0))) (wantAll rfl) (rv_lssP (p := (List.getD t i zN).a < 0) rfl (fr_eval rfl rfl) rfl Iff.rfl) ?_
            refine lf_val (v := .bool (decide ((List.getD t i zN).a < 0))) (wantAll rfl) (rv_move rfl (fr_eval rfl rfl)) ?_
            refine lf_joinP (fun F' => F' 0 = v ∧ F' 3 = .int .i64 ((i : Nat) : Int) ∧ F' 4 = .pointer (some ⟨g1, 0, none⟩) ∧ F' 12 = .bool false ∧ F' 16 = .bool true ∧ F' 24 = .int .i64 ((List.getD t i zN).k) ∧ F' 25 = .bool false ∧ F' 40 = .bool true ∧ F' 50 = .bool (decide (((List.getD t i zN).a < 0) ∨ ((List.getD t i zN).a ≥ ((i : Nat) : Int))))) 5 (fun hk => ?_) ?_
            · by_cases hc9 : (List.getD t i zN).a < 0
              · refine lf_not (wantNot (d := 45) rfl (by kernel_rfl) rfl (congrArg Value.bool (decide_eq_true hc9))) ?_
                refine lf_not (wantNot (d := 45) rfl (by kernel_rfl) rfl (congrArg Value.bool (decide_eq_true hc9))) ?_
                refine lf_not (wantNot (d := 45) rfl (by kernel_rfl) rfl (congrArg Value.bool (decide_eq_true hc9))) ?_
                refine lf_not (wantNot (d := 45) rfl (by kernel_rfl) rfl (congrArg Value.bool (decide_eq_true hc9))) ?_
                refine lf_val (v := .bool true) (wantAll rfl) (rv_pickT rfl (fr_eval rfl (congrArg Value.bool (decide_eq_true hc9))) rfl) ?_
                exact hk _ ⟨e0, e3, e4, e12, e16, e24, e25, (e40.trans (congrArg Value.bool (decide_eq_true hc8))), (congrArg Value.bool (dec_orT hc9))⟩
              · refine lf_val (v := .pointer (some ⟨g1, 1, none⟩)) (wantF (d := 45) rfl (by kernel_rfl) rfl (congrArg Value.bool (decide_eq_false hc9))) (rv_fieldAddr (n := 0) rfl (fr_eval rfl e4) Try.underlying40 rfl rfl (by kernel_rfl)) ?_
                refine lf_val (v := .int .i64 ((List.getD t i zN).a)) (wantF (d := 45) rfl (by kernel_rfl) rfl (congrArg Value.bool (decide_eq_false hc9))) (rv_load1 rfl (hH.blk (i := 0) rfl) zTe_g3 (fr_eval rfl rfl) Try.underlying3 rfl Try.sz3) ?_
                refine lf_val (v := .int .i64 ((i : Nat) : Int)) (wantF (d := 45) rfl (by kernel_rfl) rfl (congrArg Value.bool (decide_eq_false hc9))) (rv_move rfl (fr_eval rfl e3)) ?_
                refine lf_val (v := .bool (decide ((List.getD t i zN).a ≥ ((i : Nat) : Int)))) (wantF (d := 45) rfl (by kernel_rfl) rfl (congrArg Value.bool (decide_eq_false hc9))) (rv_geqP (p := (List.getD t i zN).a ≥ ((i : Nat) : Int)) rfl (fr_eval rfl rfl) (fr_eval rfl rfl) Iff.rfl) ?_
                refine lf_val (v := .bool (decide ((List.getD t i zN).a ≥ ((i : Nat) : Int)))) (wantAll rfl) (rv_pickF rfl (fr_eval rfl (congrArg Value.bool (decide_eq_false hc9))) (fr_eval rfl rfl)) ?_
                exact hk _ ⟨e0, e3, e4, e12, e16, e24, e25, (e40.trans (congrArg Value.bool (decide_eq_true hc8))), (congrArg Value.bool (dec_or hc9))⟩
            · clear e0 e3 e4 e12 e16 e24 e25 e40
              clear F
              rintro F ⟨e0, e3, e4, e12, e16, e24, e25, e40, e50⟩
              refine lf_val (wantAll rfl) (rv_move rfl (fr_eval rfl e50)) ?_
              refine lf_joinP (fun F' => F' 0 = v ∧ F' 3 = .int .i64 ((i : Nat) : Int) ∧ F' 4 = .pointer (some ⟨g1, 0, none⟩) ∧ F' 12 = .bool false ∧ F' 16 = .bool true ∧ F' 24 = .int .i64 ((List.getD t i zN).k) ∧ F' 25 = .bool false ∧ F' 40 = .bool true ∧ F' 55 = .bool (decide ((((List.getD t i zN).a < 0) ∨ ((List.getD t i zN).a ≥ ((i : Nat) : Int))) ∨ (¬ (List.getD t i zN).b = 0)))) 4 (fun hk => ?_) ?_
              · by_cases hc10 : ((List.getD t i zN).a < 0) ∨ ((List.getD t i zN).a ≥ ((i : Nat) : Int))
                · refine lf_not (wantNot (d := 51) rfl (by kernel_rfl) rfl (congrArg Value.bool (decide_eq_true hc10))) ?_
                  refine lf_not (wantNot (d := 51) rfl (by kernel_rfl) rfl (congrArg Value.bool (decide_eq_true hc10))) ?_
                  refine lf_not (wantNot (d := 51) rfl (by kernel_rfl) rfl (congrArg Value.bool (decide_eq_true hc10))) ?_
                  refine lf_val (v := .bool true) (wantAll rfl) (rv_pickT rfl (fr_eval rfl (congrArg Value.bool (decide_eq_true hc10))) rfl) ?_
                  exact hk _ ⟨e0, e3, e4, e12, e16, e24, e25, e40, (congrArg Value.bool (dec_orT hc10))⟩
                · refine lf_val (v := .pointer (some ⟨g1, 2, none⟩)) (wantF (d := 51) rfl (by kernel_rfl) rfl (congrArg Value.bool (decide_eq_false hc10))) (rv_fieldAddr (n := 0) rfl (fr_eval rfl e4) Try.underlying40 rfl rfl (by kernel_rfl)) ?_
                  refine lf_val (v := .int .i64 ((List.getD t i zN).b)) (wantF (d := 51) rfl (by kernel_rfl) rfl (congrArg Value.bool (decide_eq_false hc10))) (rv_load1 rfl (hH.blk (i := 0) rfl) zTe_g4 (fr_eval rfl rfl) Try.underlying3 rfl Try.sz3) ?_
                  refine lf_val (v := .bool (decide (¬ (List.getD t i zN).b = 0))) (wantF (d := 51) rfl (by kernel_rfl) rfl (congrArg Value.bool (decide_eq_false hc10))) (rv_neqP (p := ¬ (List.getD t i zN).b = 0) rfl (fr_eval rfl rfl) rfl Iff.rfl) ?_
                  refine lf_val (v := .bool (decide (¬ (List.getD t i zN).b = 0))) (wantAll rfl) (rv_pickF rfl (fr_eval rfl (congrArg Value.bool (decide_eq_false hc10))) (fr_eval rfl rfl)) ?_
                  exact hk _ ⟨e0, e3, e4, e12, e16, e24, e25, e40, (congrArg Value.bool (dec_or hc10))⟩
              · clear e0 e3 e4 e12 e16 e24 e25 e40 e50
                clear F
                rintro F ⟨e0, e3, e4, e12, e16, e24, e25, e40, e55⟩
                refine lf_nil ?_
                refine then_n ?_
                by_cases hc11 : (((List.getD t i zN).a < 0) ∨ ((List.getD t i zN).a ≥ ((i : Nat) : Int))) ∨ (¬ (List.getD t i zN).b = 0)
                · refine wp_cond_true (fr_eval rfl (e55.trans (congrArg Value.bool (decide_eq_true hc11)))) ?_
                  refine wp_seq ?_
                  refine wp_regionF ?_
                  refine lf_val (v := .bool false) (wantAll rfl) (rv_assign rfl rfl) ?_
                  refine lf_nil ?_
                  refine then_n ?_
                  refine wp_gen (fun F' => F' 0 = v ∧ F' 2 = .bool false ∧ F' 3 = .int .i64 ((i : Nat) : Int) ∧ F' 4 = .pointer (some ⟨g1, 0, none⟩) ∧ F' 12 = .bool false ∧ F' 16 = .bool true ∧ F' 24 = .int .i64 ((List.getD t i zN).k) ∧ F' 25 = .bool false ∧ F' 40 = .bool true ∧ F' 55 = .bool true) ⟨e0, rfl, e3, e4, e12, e16, e24, e25, e40, (e55.trans (congrArg Value.bool (decide_eq_true hc11)))⟩ ?_
                  clear e0 e3 e4 e12 e16 e24 e25 e40 e55
                  clear F
                  rintro F ⟨e0, e2, e3, e4, e12, e16, e24, e25, e40, e55⟩
                  refine wp_ret ?_
                  refine blk_ret ?_
                  refine blk_ret ?_
                  refine then_ret ?_
                  refine then_ret ?_
                  refine blk_ret ?_
                  refine then_ret ?_
                  exact bodyPost_ret (v := (.bool false)) (res1 rfl (ro_tmp rfl e2)) rfl (⟨congrArg (fun b => Ending.returned (.bool b)) (decide_eq_false (fun h => by have := h.2.2 i (by omega); unfold okN at this; omega)).symm, hH.done⟩)
                · refine wp_cond_false (fr_eval rfl (e55.trans (congrArg Value.bool (decide_eq_false hc11)))) ?_
                  refine wp_skip ?_
                  refine blk_n ?_
                  refine blk_n ?_
                  refine then_n ?_
                  refine wp_regionF ?_
                  refine lf_val (v := .int .i64 ((i : Nat) : Int)) (wantAll rfl) (rv_move rfl (fr_eval rfl e3)) ?_
                  refine lf_val (v := .int .i64 ((i + 1 : Nat) : Int)) (wantAll rfl) (rv_add rfl (fr_eval rfl rfl) rfl (wrap_i64 (by omega) (by omega) (by omega))) ?_
                  refine lf_val (v := .int .i64 ((i + 1 : Nat) : Int)) (wantAll rfl) (rv_assign rfl (fr_eval rfl rfl)) ?_
                  refine lf_nil ?_
                  refine then_n ?_
                  replace hH : Heap _ _ _ [] := hH.drop (.cons _ .slnil)
                  exact ⟨_, _, (by omega), rfl, i + 1, rfl, (by omega), (fun j h => by
                    by_cases e : j < i
                    · exact pi1 j e
                    · obtain rfl : j = i := by omega
                      unfold okN; omega), pi2, e0, rfl, e12, hH⟩
          · refine wp_cond_false (fr_eval rfl (e40.trans (congrArg Value.bool (decide_eq_false hc8)))) ?_
            refine wp_seq ?_
            refine wp_seq ?_
            refine wp_regionF ?_
            refine lf_val (v := .bool (decide ((List.getD t i zN).k = 2))) (wantAll rfl) (rv_eqlP (p := (List.getD t i zN).k = 2) rfl (fr_eval rfl e24) rfl Iff.rfl) ?_
            refine lf_val (v := .bool (decide ((List.getD t i zN).k = 2))) (wantAll rfl) (rv_assign rfl (fr_eval rfl rfl)) ?_
            refine lf_nil ?_
            refine then_n ?_
            refine wp_gen (fun F' => F' 0 = v ∧ F' 3 = .int .i64 ((i : Nat) : Int) ∧ F' 4 = .pointer (some ⟨g1, 0, none⟩) ∧ F' 12 = .bool false ∧ F' 16 = .bool true ∧ F' 24 = .int .i64 ((List.getD t i zN).k) ∧ F' 25 = .bool false ∧ F' 40 = .bool false ∧ F' 56 = .bool (decide ((List.getD t i zN).k = 2))) ⟨e0, e3, e4, e12, e16, e24, e25, (e40.trans (congrArg Value.bool (decide_eq_false hc8))), rfl⟩ ?_
            clear e0 e3 e4 e12 e16 e24 e25 e40
            clear F
            rintro F ⟨e0, e3, e4, e12, e16, e24, e25, e40, e56⟩
            by_cases hc12 : (List.getD t i zN).k = 2
            · refine wp_cond_true (fr_eval rfl (e56.trans (congrArg Value.bool (decide_eq_true hc12)))) ?_
              refine wp_skip ?_
              refine then_n ?_
              refine wp_cond_true (fr_eval rfl (e56.trans (congrArg Value.bool (decide_eq_true hc12)))) ?_
              refine wp_seq ?_
              refine wp_regionF ?_
              refine lf_val (v := .pointer (some ⟨g1, 1, none⟩)) (wantAll rfl) (rv_fieldAddr (n := 0) rfl (fr_eval rfl e4) Try.underlying40 rfl rfl (by kernel_rfl)) ?_
              refine lf_val (v := .int .i64 ((List.getD t i zN).a)) (wantAll rfl) (rv_load1 rfl (hH.blk (i := 0) rfl) zTe_g3 (fr_eval rfl rfl) Try.underlying3 rfl Try.sz3) ?_
              refine lf_val (v := .bool (decide ((List.getD t i zN).a < 0))) (wantAll rfl) (rv_lssP (p := (List.getD t i zN).a < 0) rfl (fr_eval rfl rfl) rfl Iff.rfl) ?_
              refine lf_val (v := .bool (decide ((List.getD t i zN).a < 0))) (wantAll rfl) (rv_move rfl (fr_eval rfl rfl)) ?_
              refine lf_joinP (fun F' => F' 0 = v ∧ F' 3 = .int .i64 ((i : Nat) : Int) ∧ F' 4 = .pointer (some ⟨g1, 0, none⟩) ∧ F' 12 = .bool false ∧ F' 16 = .bool true ∧ F' 24 = .int .i64 ((List.getD t i zN).k) ∧ F' 25 = .bool false ∧ F' 40 = .bool false ∧ F' 56 = .bool true ∧ F' 68 = .bool (decide (((List.getD t i zN).a < 0) ∨ ((List.getD t i zN).a ≥ ((i : Nat) : Int))))) 5 (fun hk => ?_) ?_
              · by_cases hc13 : (List.getD t i zN).a < 0
                · refine lf_not (wantNot (d := 63) rfl (by kernel_rfl) rfl (congrArg Value.bool (decide_eq_true hc13))) ?_
                  refine lf_not (wantNot (d := 63) rfl (by kernel_rfl) rfl (congrArg Value.bool (decide_eq_true hc13))) ?_
                  refine lf_not (wantNot (d := 63) rfl (by kernel_rfl) rfl (congrArg Value.bool (decide_eq_true hc13))) ?_
                  refine lf_not (wantNot (d := 63) rfl (by kernel_rfl) rfl (congrArg Value.bool (decide_eq_true hc13))) ?_
                  refine lf_val (v := .bool true) (wantAll rfl) (rv_pickT rfl (fr_eval rfl (congrArg Value.bool (decide_eq_true hc13))) rfl) ?_
                  exact hk _ ⟨e0, e3, e4, e12, e16, e24, e25, e40, (e56.trans (congrArg Value.bool (decide_eq_true hc12))), (congrArg Value.bool (dec_orT hc13))⟩
                · refine lf_val (v := .pointer (some ⟨g1, 1, none⟩)) (wantF (d := 63) rfl (by kernel_rfl) rfl (congrArg Value.bool (decide_eq_false hc13))) (rv_fieldAddr (n := 0) rfl (fr_eval rfl e4) Try.underlying40 rfl rfl (by kernel_rfl)) ?_
                  refine lf_val (v := .int .i64 ((List.getD t i zN).a)) (wantF (d := 63) rfl (by kernel_rfl) rfl (congrArg Value.bool (decide_eq_false hc13))) (rv_load1 rfl (hH.blk (i := 0) rfl) zTe_g3 (fr_eval rfl rfl) Try.underlying3 rfl Try.sz3) ?_
                  refine lf_val (v := .int .i64 ((i : Nat) : Int)) (wantF (d := 63) rfl (by kernel_rfl) rfl (congrArg Value.bool (decide_eq_false hc13))) (rv_move rfl (fr_eval rfl e3)) ?_
                  refine lf_val (v := .bool (decide ((List.getD t i zN).a ≥ ((i : Nat) : Int)))) (wantF (d := 63) rfl (by kernel_rfl) rfl (congrArg Value.bool (decide_eq_false hc13))) (rv_geqP (p := (List.getD t i zN).a ≥ ((i : Nat) : Int)) rfl (fr_eval rfl rfl) (fr_eval rfl rfl) Iff.rfl) ?_
                  refine lf_val (v := .bool (decide ((List.getD t i zN).a ≥ ((i : Nat) : Int)))) (wantAll rfl) (rv_pickF rfl (fr_eval rfl (congrArg Value.bool (decide_eq_false hc13))) (fr_eval rfl rfl)) ?_
                  exact hk _ ⟨e0, e3, e4, e12, e16, e24, e25, e40, (e56.trans (congrArg Value.bool (decide_eq_true hc12))), (congrArg Value.bool (dec_or hc13))⟩
              · clear e0 e3 e4 e12 e16 e24 e25 e40 e56
                clear F
                rintro F ⟨e0, e3, e4, e12, e16, e24, e25, e40, e56, e68⟩
                refine lf_val (wantAll rfl) (rv_move rfl (fr_eval rfl e68)) ?_
                refine lf_joinP (fun F' => F' 0 = v ∧ F' 3 = .int .i64 ((i : Nat) : Int) ∧ F' 4 = .pointer (some ⟨g1, 0, none⟩) ∧ F' 12 = .bool false ∧ F' 16 = .bool true ∧ F' 24 = .int .i64 ((List.getD t i zN).k) ∧ F' 25 = .bool false ∧ F' 40 = .bool false ∧ F' 56 = .bool true ∧ F' 73 = .bool (decide ((((List.getD t i zN).a < 0) ∨ ((List.getD t i zN).a ≥ ((i : Nat) : Int))) ∨ ((List.getD t i zN).b < 0)))) 4 (fun hk => ?_) ?_
                · by_cases hc14 : ((List.getD t i zN).a < 0) ∨ ((List.getD t i zN).a ≥ ((i : Nat) : Int))
                  · refine lf_not (wantNot (d := 69) rfl (by kernel_rfl) rfl (congrArg Value.bool (decide_eq_true hc14))) ?_
                    refine lf_not (wantNot (d := 69) rfl (by kernel_rfl) rfl (congrArg Value.bool (decide_eq_true hc14))) ?_
                    refine lf_not (wantNot (d := 69) rfl (by kernel_rfl) rfl (congrArg Value.bool (decide_eq_true hc14))) ?_
                    refine lf_val (v := .bool true) (wantAll rfl) (rv_pickT rfl (fr_eval rfl (congrArg Value.bool (decide_eq_true hc14))) rfl) ?_
                    exact hk _ ⟨e0, e3, e4, e12, e16, e24, e25, e40, e56, (congrArg Value.bool (dec_orT hc14))⟩
                  · refine lf_val (v := .pointer (some ⟨g1, 2, none⟩)) (wantF (d := 69) rfl (by kernel_rfl) rfl (congrArg Value.bool (decide_eq_false hc14))) (rv_fieldAddr (n := 0) rfl (fr_eval rfl e4) Try.underlying40 rfl rfl (by kernel_rfl)) ?_
                    refine lf_val (v := .int .i64 ((List.getD t i zN).b)) (wantF (d := 69) rfl (by kernel_rfl) rfl (congrArg Value.bool (decide_eq_false hc14))) (rv_load1 rfl (hH.blk (i := 0) rfl) zTe_g4 (fr_eval rfl rfl) Try.underlying3 rfl Try.sz3) ?_
                    refine lf_val (v := .bool (decide ((List.getD t i zN).b < 0))) (wantF (d := 69) rfl (by kernel_rfl) rfl (congrArg Value.bool (decide_eq_false hc14))) (rv_lssP (p := (List.getD t i zN).b < 0) rfl (fr_eval rfl rfl) rfl Iff.rfl) ?_
                    refine lf_val (v := .bool (decide ((List.getD t i zN).b < 0))) (wantAll rfl) (rv_pickF rfl (fr_eval rfl (congrArg Value.bool (decide_eq_false hc14))) (fr_eval rfl rfl)) ?_
                    exact hk _ ⟨e0, e3, e4, e12, e16, e24, e25, e40, e56, (congrArg Value.bool (dec_or hc14))⟩
                · clear e0 e3 e4 e12 e16 e24 e25 e40 e56 e68
                  clear F
                  rintro F ⟨e0, e3, e4, e12, e16, e24, e25, e40, e56, e73⟩
                  refine lf_val (wantAll rfl) (rv_move rfl (fr_eval rfl e73)) ?_
                  refine lf_joinP (fun F' => F' 0 = v ∧ F' 3 = .int .i64 ((i : Nat) : Int) ∧ F' 4 = .pointer (some ⟨g1, 0, none⟩) ∧ F' 12 = .bool false ∧ F' 16 = .bool true ∧ F' 24 = .int .i64 ((List.getD t i zN).k) ∧ F' 25 = .bool false ∧ F' 40 = .bool false ∧ F' 56 = .bool true ∧ F' 79 = .bool (decide (((((List.getD t i zN).a < 0) ∨ ((List.getD t i zN).a ≥ ((i : Nat) : Int))) ∨ ((List.getD t i zN).b < 0)) ∨ ((List.getD t i zN).b ≥ ((i : Nat) : Int))))) 5 (fun hk => ?_) ?_
                  · by_cases hc15 : (((List.getD t i zN).a < 0) ∨ ((List.getD t i zN).a ≥ ((i : Nat) : Int))) ∨ ((List.getD t i zN).b < 0)
                    · refine lf_not (wantNot (d := 74) rfl (by kernel_rfl) rfl (congrArg Value.bool (decide_eq_true hc15))) ?_
                      refine lf_not (wantNot (d := 74) rfl (by kernel_rfl) rfl (congrArg Value.bool (decide_eq_true hc15))) ?_
                      refine lf_not (wantNot (d := 74) rfl (by kernel_rfl) rfl (congrArg Value.bool (decide_eq_true hc15))) ?_
                      refine lf_not (wantNot (d := 74) rfl (by kernel_rfl) rfl (congrArg Value.bool (decide_eq_true hc15))) ?_
                      refine lf_val (v := .bool true) (wantAll rfl) (rv_pickT rfl (fr_eval rfl (congrArg Value.bool (decide_eq_true hc15))) rfl) ?_
                      exact hk _ ⟨e0, e3, e4, e12, e16, e24, e25, e40, e56, (congrArg Value.bool (dec_orT hc15))⟩
                    · refine lf_val (v := .pointer (some ⟨g1, 2, none⟩)) (wantF (d := 74) rfl (by kernel_rfl) rfl (congrArg Value.bool (decide_eq_false hc15))) (rv_fieldAddr (n := 0) rfl (fr_eval rfl e4) Try.underlying40 rfl rfl (by kernel_rfl)) ?_
                      refine lf_val (v := .int .i64 ((List.getD t i zN).b)) (wantF (d := 74) rfl (by kernel_rfl) rfl (congrArg Value.bool (decide_eq_false hc15))) (rv_load1 rfl (hH.blk (i := 0) rfl) zTe_g4 (fr_eval rfl rfl) Try.underlying3 rfl Try.sz3) ?_
                      refine lf_val (v := .int .i64 ((i : Nat) : Int)) (wantF (d := 74) rfl (by kernel_rfl) rfl (congrArg Value.bool (decide_eq_false hc15))) (rv_move rfl (fr_eval rfl e3)) ?_
                      refine lf_val (v := .bool (decide ((List.getD t i zN).b ≥ ((i : Nat) : Int)))) (wantF (d := 74) rfl (by kernel_rfl) rfl (congrArg Value.bool (decide_eq_false hc15))) (rv_geqP (p := (List.getD t i zN).b ≥ ((i : Nat) : Int)) rfl (fr_eval rfl rfl) (fr_eval rfl rfl) Iff.rfl) ?_
                      refine lf_val (v := .bool (decide ((List.getD t i zN).b ≥ ((i : Nat) : Int)))) (wantAll rfl) (rv_pickF rfl (fr_eval rfl (congrArg Value.bool (decide_eq_false hc15))) (fr_eval rfl rfl)) ?_
                      exact hk _ ⟨e0, e3, e4, e12, e16, e24, e25, e40, e56, (congrArg Value.bool (dec_or hc15))⟩
                  · clear e0 e3 e4 e12 e16 e24 e25 e40 e56 e73
                    clear F
                    rintro F ⟨e0, e3, e4, e12, e16, e24, e25, e40, e56, e79⟩
                    refine lf_nil ?_
                    refine then_n ?_
                    by_cases hc16 : ((((List.getD t i zN).a < 0) ∨ ((List.getD t i zN).a ≥ ((i : Nat) : Int))) ∨ ((List.getD t i zN).b < 0)) ∨ ((List.getD t i zN).b ≥ ((i : Nat) : Int))
                    · refine wp_cond_true (fr_eval rfl (e79.trans (congrArg Value.bool (decide_eq_true hc16)))) ?_
                      refine wp_seq ?_
                      refine wp_regionF ?_
                      refine lf_val (v := .bool false) (wantAll rfl) (rv_assign rfl rfl) ?_
                      refine lf_nil ?_
                      refine then_n ?_
                      refine wp_gen (fun F' => F' 0 = v ∧ F' 2 = .bool false ∧ F' 3 = .int .i64 ((i : Nat) : Int) ∧ F' 4 = .pointer (some ⟨g1, 0, none⟩) ∧ F' 12 = .bool false ∧ F' 16 = .bool true ∧ F' 24 = .int .i64 ((List.getD t i zN).k) ∧ F' 25 = .bool false ∧ F' 40 = .bool false ∧ F' 56 = .bool true ∧ F' 79 = .bool true) ⟨e0, rfl, e3, e4, e12, e16, e24, e25, e40, e56, (e79.trans (congrArg Value.bool (decide_eq_true hc16)))⟩ ?_
                      clear e0 e3 e4 e12 e16 e24 e25 e40 e56 e79
                      clear F
                      rintro F ⟨e0, e2, e3, e4, e12, e16, e24, e25, e40, e56, e79⟩
                      refine wp_ret ?_
                      refine blk_ret ?_
                      refine blk_ret ?_
                      refine then_ret ?_
                      refine then_ret ?_
                      refine blk_ret ?_
                      refine then_ret ?_
                      exact bodyPost_ret (v := (.bool false)) (res1 rfl (ro_tmp rfl e2)) rfl (⟨congrArg (fun b => Ending.returned (.bool b)) (decide_eq_false (fun h => by have := h.2.2 i (by omega); unfold okN at this; omega)).symm, hH.done⟩)
                    · refine wp_cond_false (fr_eval rfl (e79.trans (congrArg Value.bool (decide_eq_false hc16)))) ?_
                      refine wp_skip ?_
                      refine blk_n ?_
                      refine blk_n ?_
                      refine then_n ?_
                      refine wp_regionF ?_
                      refine lf_val (v := .int .i64 ((i : Nat) : Int)) (wantAll rfl) (rv_move rfl (fr_eval rfl e3)) ?_
                      refine lf_val (v := .int .i64 ((i + 1 : Nat) : Int)) (wantAll rfl) (rv_add rfl (fr_eval rfl rfl) rfl (wrap_i64 (by omega) (by omega) (by omega))) ?_
                      refine lf_val (v := .int .i64 ((i + 1 : Nat) : Int)) (wantAll rfl) (rv_assign rfl (fr_eval rfl rfl)) ?_
                      refine lf_nil ?_
                      refine then_n ?_
                      replace hH : Heap _ _ _ [] := hH.drop (.cons _ .slnil)
                      exact ⟨_, _, (by omega), rfl, i + 1, rfl, (by omega), (fun j h => by
                        by_cases e : j < i
                        · exact pi1 j e
                        · obtain rfl : j = i := by omega
                          unfold okN; omega), pi2, e0, rfl, e12, hH⟩
            · refine wp_cond_false (fr_eval rfl (e56.trans (congrArg Value.bool (decide_eq_false hc12)))) ?_
              refine wp_seq ?_
              refine wp_regionF ?_
              refine lf_val (v := .bool (decide ((List.getD t i zN).k = 4))) (wantAll rfl) (rv_eqlP (p := (List.getD t i zN).k = 4) rfl (fr_eval rfl e24) rfl Iff.rfl) ?_
              refine lf_val (v := .bool (decide ((List.getD t i zN).k = 4))) (wantAll rfl) (rv_assign rfl (fr_eval rfl rfl)) ?_
              refine lf_nil ?_
              refine then_n ?_
              refine wp_gen (fun F' => F' 0 = v ∧ F' 3 = .int .i64 ((i : Nat) : Int) ∧ F' 4 = .pointer (some ⟨g1, 0, none⟩) ∧ F' 12 = .bool false ∧ F' 16 = .bool true ∧ F' 24 = .int .i64 ((List.getD t i zN).k) ∧ F' 25 = .bool false ∧ F' 40 = .bool false ∧ F' 56 = .bool (decide ((List.getD t i zN).k = 4))) ⟨e0, e3, e4, e12, e16, e24, e25, e40, rfl⟩ ?_
              clear e0 e3 e4 e12 e16 e24 e25 e40 e56
              clear F
              rintro F ⟨e0, e3, e4, e12, e16, e24, e25, e40, e56⟩
              by_cases hc17 : (List.getD t i zN).k = 4
              · refine wp_cond_true (fr_eval rfl (e56.trans (congrArg Value.bool (decide_eq_true hc17)))) ?_
                refine wp_skip ?_
                refine then_n ?_
                refine wp_cond_true (fr_eval rfl (e56.trans (congrArg Value.bool (decide_eq_true hc17)))) ?_
                refine wp_seq ?_
                refine wp_regionF ?_
                refine lf_val (v := .pointer (some ⟨g1, 1, none⟩)) (wantAll rfl) (rv_fieldAddr (n := 0) rfl (fr_eval rfl e4) Try.underlying40 rfl rfl (by kernel_rfl)) ?_
                refine lf_val (v := .int .i64 ((List.getD t i zN).a)) (wantAll rfl) (rv_load1 rfl (hH.blk (i := 0) rfl) zTe_g3 (fr_eval rfl rfl) Try.underlying3 rfl Try.sz3) ?_
                refine lf_val (v := .bool (decide ((List.getD t i zN).a < 0))) (wantAll rfl) (rv_lssP (p := (List.getD t i zN).a < 0) rfl (fr_eval rfl rfl) rfl Iff.rfl) ?_
                refine lf_val (v := .bool (decide ((List.getD t i zN).a < 0))) (wantAll rfl) (rv_move rfl (fr_eval rfl rfl)) ?_
                refine lf_joinP (fun F' => F' 0 = v ∧ F' 3 = .int .i64 ((i : Nat) : Int) ∧ F' 4 = .pointer (some ⟨g1, 0, none⟩) ∧ F' 12 = .bool false ∧ F' 16 = .bool true ∧ F' 24 = .int .i64 ((List.getD t i zN).k) ∧ F' 25 = .bool false ∧ F' 40 = .bool false ∧ F' 56 = .bool true ∧ F' 68 = .bool (decide (((List.getD t i zN).a < 0) ∨ ((List.getD t i zN).a ≥ ((i : Nat) : Int))))) 5 (fun hk => ?_) ?_
                · by_cases hc18 : (List.getD t i zN).a < 0
                  · refine lf_not (wantNot (d := 63) rfl (by kernel_rfl) rfl (congrArg Value.bool (decide_eq_true hc18))) ?_
                    refine lf_not (wantNot (d := 63) rfl (by kernel_rfl) rfl (congrArg Value.bool (decide_eq_true hc18))) ?_
                    refine lf_not (wantNot (d := 63) rfl (by kernel_rfl) rfl (congrArg Value.bool (decide_eq_true hc18))) ?_
                    refine lf_not (wantNot (d := 63) rfl (by kernel_rfl) rfl (congrArg Value.bool (decide_eq_true hc18))) ?_
                    refine lf_val (v := .bool true) (wantAll rfl) (rv_pickT rfl (fr_eval rfl (congrArg Value.bool (decide_eq_true hc18))) rfl) ?_
                    exact hk _ ⟨e0, e3, e4, e12, e16, e24, e25, e40, (e56.trans (congrArg Value.bool (decide_eq_true hc17))), (congrArg Value.bool (dec_orT hc18))⟩
                  · refine lf_val (v := .pointer (some ⟨g1, 1, none⟩)) (wantF (d := 63) rfl (by kernel_rfl) rfl (congrArg Value.bool (decide_eq_false hc18))) (rv_fieldAddr (n := 0) rfl (fr_eval rfl e4) Try.underlying40 rfl rfl (by kernel_rfl)) ?_
                    refine lf_val (v := .int .i64 ((List.getD t i zN).a)) (wantF (d := 63) rfl (by kernel_rfl) rfl (congrArg Value.bool (decide_eq_false hc18))) (rv_load1 rfl (hH.blk (i := 0) rfl) zTe_g3 (fr_eval rfl rfl) Try.underlying3 rfl Try.sz3) ?_
                    refine lf_val (v := .int .i64 ((i : Nat) : Int)) (wantF (d := 63) rfl (by kernel_rfl) rfl (congrArg Value.bool (decide_eq_false hc18))) (rv_move rfl (fr_eval rfl e3)) ?_
                    refine lf_val (v := .bool (decide ((List.getD t i zN).a ≥ ((i : Nat) : Int)))) (wantF (d := 63) rfl (by kernel_rfl) rfl (congrArg Value.bool (decide_eq_false hc18))) (rv_geqP (p := (List.getD t i zN).a ≥ ((i : Nat) : Int)) rfl (fr_eval rfl rfl) (fr_eval rfl rfl) Iff.rfl) ?_
                    refine lf_val (v := .bool (decide ((List.getD t i zN).a ≥ ((i : Nat) : Int)))) (wantAll rfl) (rv_pickF rfl (fr_eval rfl (congrArg Value.bool (decide_eq_false hc18))) (fr_eval rfl rfl)) ?_
                    exact hk _ ⟨e0, e3, e4, e12, e16, e24, e25, e40, (e56.trans (congrArg Value.bool (decide_eq_true hc17))), (congrArg Value.bool (dec_or hc18))⟩
                · clear e0 e3 e4 e12 e16 e24 e25 e40 e56
                  clear F
                  rintro F ⟨e0, e3, e4, e12, e16, e24, e25, e40, e56, e68⟩
                  refine lf_val (wantAll rfl) (rv_move rfl (fr_eval rfl e68)) ?_
                  refine lf_joinP (fun F' => F' 0 = v ∧ F' 3 = .int .i64 ((i : Nat) : Int) ∧ F' 4 = .pointer (some ⟨g1, 0, none⟩) ∧ F' 12 = .bool false ∧ F' 16 = .bool true ∧ F' 24 = .int .i64 ((List.getD t i zN).k) ∧ F' 25 = .bool false ∧ F' 40 = .bool false ∧ F' 56 = .bool true ∧ F' 73 = .bool (decide ((((List.getD t i zN).a < 0) ∨ ((List.getD t i zN).a ≥ ((i : Nat) : Int))) ∨ ((List.getD t i zN).b < 0)))) 4 (fun hk => ?_) ?_
                  · by_cases hc19 : ((List.getD t i zN).a < 0) ∨ ((List.getD t i zN).a ≥ ((i : Nat) : Int))
                    · refine lf_not (wantNot (d := 69) rfl (by kernel_rfl) rfl (congrArg Value.bool (decide_eq_true hc19))) ?_
                      refine lf_not (wantNot (d := 69) rfl (by kernel_rfl) rfl (congrArg Value.bool (decide_eq_true hc19))) ?_
                      refine lf_not (wantNot (d := 69) rfl (by kernel_rfl) rfl (congrArg Value.bool (decide_eq_true hc19))) ?_
                      refine lf_val (v := .bool true) (wantAll rfl) (rv_pickT rfl (fr_eval rfl (congrArg Value.bool (decide_eq_true hc19))) rfl) ?_
                      exact hk _ ⟨e0, e3, e4, e12, e16, e24, e25, e40, e56, (congrArg Value.bool (dec_orT hc19))⟩
                    · refine lf_val (v := .pointer (some ⟨g1, 2, none⟩)) (wantF (d := 69) rfl (by kernel_rfl) rfl (congrArg Value.bool (decide_eq_false hc19))) (rv_fieldAddr (n := 0) rfl (fr_eval rfl e4) Try.underlying40 rfl rfl (by kernel_rfl)) ?_
                      refine lf_val (v := .int .i64 ((List.getD t i zN).b)) (wantF (d := 69) rfl (by kernel_rfl) rfl (congrArg Value.bool (decide_eq_false hc19))) (rv_load1 rfl (hH.blk (i := 0) rfl) zTe_g4 (fr_eval rfl rfl) Try.underlying3 rfl Try.sz3) ?_
                      refine lf_val (v := .bool (decide ((List.getD t i zN).b < 0))) (wantF (d := 69) rfl (by kernel_rfl) rfl (congrArg Value.bool (decide_eq_false hc19))) (rv_lssP (p := (List.getD t i zN).b < 0) rfl (fr_eval rfl rfl) rfl Iff.rfl) ?_
                      refine lf_val (v := .bool (decide ((List.getD t i zN).b < 0))) (wantAll rfl) (rv_pickF rfl (fr_eval rfl (congrArg Value.bool (decide_eq_false hc19))) (fr_eval rfl rfl)) ?_
                      exact hk _ ⟨e0, e3, e4, e12, e16, e24, e25, e40, e56, (congrArg Value.bool (dec_or hc19))⟩
                  · clear e0 e3 e4 e12 e16 e24 e25 e40 e56 e68
                    clear F
                    rintro F ⟨e0, e3, e4, e12, e16, e24, e25, e40, e56, e73⟩
                    refine lf_val (wantAll rfl) (rv_move rfl (fr_eval rfl e73)) ?_
                    refine lf_joinP (fun F' => F' 0 = v ∧ F' 3 = .int .i64 ((i : Nat) : Int) ∧ F' 4 = .pointer (some ⟨g1, 0, none⟩) ∧ F' 12 = .bool false ∧ F' 16 = .bool true ∧ F' 24 = .int .i64 ((List.getD t i zN).k) ∧ F' 25 = .bool false ∧ F' 40 = .bool false ∧ F' 56 = .bool true ∧ F' 79 = .bool (decide (((((List.getD t i zN).a < 0) ∨ ((List.getD t i zN).a ≥ ((i : Nat) : Int))) ∨ ((List.getD t i zN).b < 0)) ∨ ((List.getD t i zN).b ≥ ((i : Nat) : Int))))) 5 (fun hk => ?_) ?_
                    · by_cases hc20 : (((List.getD t i zN).a < 0) ∨ ((List.getD t i zN).a ≥ ((i : Nat) : Int))) ∨ ((List.getD t i zN).b < 0)
                      · refine lf_not (wantNot (d := 74) rfl (by kernel_rfl) rfl (congrArg Value.bool (decide_eq_true hc20))) ?_
                        refine lf_not (wantNot (d := 74) rfl (by kernel_rfl) rfl (congrArg Value.bool (decide_eq_true hc20))) ?_
                        refine lf_not (wantNot (d := 74) rfl (by kernel_rfl) rfl (congrArg Value.bool (decide_eq_true hc20))) ?_
                        refine lf_not (wantNot (d := 74) rfl (by kernel_rfl) rfl (congrArg Value.bool (decide_eq_true hc20))) ?_
                        refine lf_val (v := .bool true) (wantAll rfl) (rv_pickT rfl (fr_eval rfl (congrArg Value.bool (decide_eq_true hc20))) rfl) ?_
                        exact hk _ ⟨e0, e3, e4, e12, e16, e24, e25, e40, e56, (congrArg Value.bool (dec_orT hc20))⟩
                      · refine lf_val (v := .pointer (some ⟨g1, 2, none⟩)) (wantF (d := 74) rfl (by kernel_rfl) rfl (congrArg Value.bool (decide_eq_false hc20))) (rv_fieldAddr (n := 0) rfl (fr_eval rfl e4) Try.underlying40 rfl rfl (by kernel_rfl)) ?_
                        refine lf_val (v := .int .i64 ((List.getD t i zN).b)) (wantF (d := 74) rfl (by kernel_rfl) rfl (congrArg Value.bool (decide_eq_false hc20))) (rv_load1 rfl (hH.blk (i := 0) rfl) zTe_g4 (fr_eval rfl rfl) Try.underlying3 rfl Try.sz3) ?_
                        refine lf_val (v := .int .i64 ((i : Nat) : Int)) (wantF (d := 74) rfl (by kernel_rfl) rfl (congrArg Value.bool (decide_eq_false hc20))) (rv_move rfl (fr_eval rfl e3)) ?_
                        refine lf_val (v := .bool (decide ((List.getD t i zN).b ≥ ((i : Nat) : Int)))) (wantF (d := 74) rfl (by kernel_rfl) rfl (congrArg Value.bool (decide_eq_false hc20))) (rv_geqP (p := (List.getD t i zN).b ≥ ((i : Nat) : Int)) rfl (fr_eval rfl rfl) (fr_eval rfl rfl) Iff.rfl) ?_
                        refine lf_val (v := .bool (decide ((List.getD t i zN).b ≥ ((i : Nat) : Int)))) (wantAll rfl) (rv_pickF rfl (fr_eval rfl (congrArg Value.bool (decide_eq_false hc20))) (fr_eval rfl rfl)) ?_
                        exact hk _ ⟨e0, e3, e4, e12, e16, e24, e25, e40, e56, (congrArg Value.bool (dec_or hc20))⟩
                    · clear e0 e3 e4 e12 e16 e24 e25 e40 e56 e73
                      clear F
                      rintro F ⟨e0, e3, e4, e12, e16, e24, e25, e40, e56, e79⟩
                      refine lf_nil ?_
                      refine then_n ?_
                      by_cases hc21 : ((((List.getD t i zN).a < 0) ∨ ((List.getD t i zN).a ≥ ((i : Nat) : Int))) ∨ ((List.getD t i zN).b < 0)) ∨ ((List.getD t i zN).b ≥ ((i : Nat) : Int))
                      · refine wp_cond_true (fr_eval rfl (e79.trans (congrArg Value.bool (decide_eq_true hc21)))) ?_
                        refine wp_seq ?_
                        refine wp_regionF ?_
                        refine lf_val (v := .bool false) (wantAll rfl) (rv_assign rfl rfl) ?_
                        refine lf_nil ?_
                        refine then_n ?_
                        refine wp_gen (fun F' => F' 0 = v ∧ F' 2 = .bool false ∧ F' 3 = .int .i64 ((i : Nat) : Int) ∧ F' 4 = .pointer (some ⟨g1, 0, none⟩) ∧ F' 12 = .bool false ∧ F' 16 = .bool true ∧ F' 24 = .int .i64 ((List.getD t i zN).k) ∧ F' 25 = .bool false ∧ F' 40 = .bool false ∧ F' 56 = .bool true ∧ F' 79 = .bool true) ⟨e0, rfl, e3, e4, e12, e16, e24, e25, e40, e56, (e79.trans (congrArg Value.bool (decide_eq_true hc21)))⟩ ?_
                        clear e0 e3 e4 e12 e16 e24 e25 e40 e56 e79
                        clear F
                        rintro F ⟨e0, e2, e3, e4, e12, e16, e24, e25, e40, e56, e79⟩
                        refine wp_ret ?_
                        refine blk_ret ?_
                        refine blk_ret ?_
                        refine then_ret ?_
                        refine then_ret ?_
                        refine blk_ret ?_
                        refine then_ret ?_
                        exact bodyPost_ret (v := (.bool false)) (res1 rfl (ro_tmp rfl e2)) rfl (⟨congrArg (fun b => Ending.returned (.bool b)) (decide_eq_false (fun h => by have := h.2.2 i (by omega); unfold okN at this; omega)).symm, hH.done⟩)
                      · refine wp_cond_false (fr_eval rfl (e79.trans (congrArg Value.bool (decide_eq_false hc21)))) ?_
                        refine wp_skip ?_
                        refine blk_n ?_
                        refine blk_n ?_
                        refine then_n ?_
                        refine wp_regionF ?_
                        refine lf_val (v := .int .i64 ((i : Nat) : Int)) (wantAll rfl) (rv_move rfl (fr_eval rfl e3)) ?_
                        refine lf_val (v := .int .i64 ((i + 1 : Nat) : Int)) (wantAll rfl) (rv_add rfl (fr_eval rfl rfl) rfl (wrap_i64 (by omega) (by omega) (by omega))) ?_
                        refine lf_val (v := .int .i64 ((i + 1 : Nat) : Int)) (wantAll rfl) (rv_assign rfl (fr_eval rfl rfl)) ?_
                        refine lf_nil ?_
                        refine then_n ?_
                        replace hH : Heap _ _ _ [] := hH.drop (.cons _ .slnil)
                        exact ⟨_, _, (by omega), rfl, i + 1, rfl, (by omega), (fun j h => by
                          by_cases e : j < i
                          · exact pi1 j e
                          · obtain rfl : j = i := by omega
                            unfold okN; omega), pi2, e0, rfl, e12, hH⟩
              · refine wp_cond_false (fr_eval rfl (e56.trans (congrArg Value.bool (decide_eq_false hc17)))) ?_
                refine wp_regionF ?_
                refine lf_val (v := .bool (decide ((List.getD t i zN).k = 5))) (wantAll rfl) (rv_eqlP (p := (List.getD t i zN).k = 5) rfl (fr_eval rfl e24) rfl Iff.rfl) ?_
                refine lf_val (v := .bool (decide ((List.getD t i zN).k = 5))) (wantAll rfl) (rv_assign rfl (fr_eval rfl rfl)) ?_
                refine lf_nil ?_
                refine then_n ?_
                refine wp_gen (fun F' => F' 0 = v ∧ F' 3 = .int .i64 ((i : Nat) : Int) ∧ F' 4 = .pointer (some ⟨g1, 0, none⟩) ∧ F' 12 = .bool false ∧ F' 16 = .bool true ∧ F' 24 = .int .i64 ((List.getD t i zN).k) ∧ F' 25 = .bool false ∧ F' 40 = .bool false ∧ F' 56 = .bool (decide ((List.getD t i zN).k = 5))) ⟨e0, e3, e4, e12, e16, e24, e25, e40, rfl⟩ ?_
                clear e0 e3 e4 e12 e16 e24 e25 e40 e56
                clear F
                rintro F ⟨e0, e3, e4, e12, e16, e24, e25, e40, e56⟩
                by_cases hc22 : (List.getD t i zN).k = 5
                · refine wp_cond_true (fr_eval rfl (e56.trans (congrArg Value.bool (decide_eq_true hc22)))) ?_
                  refine wp_seq ?_
                  refine wp_regionF ?_
                  refine lf_val (v := .pointer (some ⟨g1, 1, none⟩)) (wantAll rfl) (rv_fieldAddr (n := 0) rfl (fr_eval rfl e4) Try.underlying40 rfl rfl (by kernel_rfl)) ?_
                  refine lf_val (v := .int .i64 ((List.getD t i zN).a)) (wantAll rfl) (rv_load1 rfl (hH.blk (i := 0) rfl) zTe_g3 (fr_eval rfl rfl) Try.underlying3 rfl Try.sz3) ?_
                  refine lf_val (v := .bool (decide ((List.getD t i zN).a < 0))) (wantAll rfl) (rv_lssP (p := (List.getD t i zN).a < 0) rfl (fr_eval rfl rfl) rfl Iff.rfl) ?_
                  refine lf_val (v := .bool (decide ((List.getD t i zN).a < 0))) (wantAll rfl) (rv_move rfl (fr_eval rfl rfl)) ?_
                  refine lf_joinP (fun F' => F' 0 = v ∧ F' 3 = .int .i64 ((i : Nat) : Int) ∧ F' 4 = .pointer (some ⟨g1, 0, none⟩) ∧ F' 12 = .bool false ∧ F' 16 = .bool true ∧ F' 24 = .int .i64 ((List.getD t i zN).k) ∧ F' 25 = .bool false ∧ F' 40 = .bool false ∧ F' 56 = .bool true ∧ F' 68 = .bool (decide (((List.getD t i zN).a < 0) ∨ ((List.getD t i zN).a ≥ ((i : Nat) : Int))))) 5 (fun hk => ?_) ?_
                  · by_cases hc23 : (List.getD t i zN).a < 0
                    · refine lf_not (wantNot (d := 63) rfl (by kernel_rfl) rfl (congrArg Value.bool (decide_eq_true hc23))) ?_
                      refine lf_not (wantNot (d := 63) rfl (by kernel_rfl) rfl (congrArg Value.bool (decide_eq_true hc23))) ?_
                      refine lf_not (wantNot (d := 63) rfl (by kernel_rfl) rfl (congrArg Value.bool (decide_eq_true hc23))) ?_
                      refine lf_not (wantNot (d := 63) rfl (by kernel_rfl) rfl (congrArg Value.bool (decide_eq_true hc23))) ?_
                      refine lf_val (v := .bool true) (wantAll rfl) (rv_pickT rfl (fr_eval rfl (congrArg Value.bool (decide_eq_true hc23))) rfl) ?_
                      exact hk _ ⟨e0, e3, e4, e12, e16, e24, e25, e40, (e56.trans (congrArg Value.bool (decide_eq_true hc22))), (congrArg Value.bool (dec_orT hc23))⟩
                    · refine lf_val (v := .pointer (some ⟨g1, 1, none⟩)) (wantF (d := 63) rfl (by kernel_rfl) rfl (congrArg Value.bool (decide_eq_false hc23))) (rv_fieldAddr (n := 0) rfl (fr_eval rfl e4) Try.underlying40 rfl rfl (by kernel_rfl)) ?_
                      refine lf_val (v := .int .i64 ((List.getD t i zN).a)) (wantF (d := 63) rfl (by kernel_rfl) rfl (congrArg Value.bool (decide_eq_false hc23))) (rv_load1 rfl (hH.blk (i := 0) rfl) zTe_g3 (fr_eval rfl rfl) Try.underlying3 rfl Try.sz3) ?_
                      refine lf_val (v := .int .i64 ((i : Nat) : Int)) (wantF (d := 63) rfl (by kernel_rfl) rfl (congrArg Value.bool (decide_eq_false hc23))) (rv_move rfl (fr_eval rfl e3)) ?_
                      refine lf_val (v := .bool (decide ((List.getD t i zN).a ≥ ((i : Nat) : Int)))) (wantF (d := 63) rfl (by kernel_rfl) rfl (congrArg Value.bool (decide_eq_false hc23))) (rv_geqP (p := (List.getD t i zN).a ≥ ((i : Nat) : Int)) rfl (fr_eval rfl rfl) (fr_eval rfl rfl) Iff.rfl) ?_
                      refine lf_val (v := .bool (decide ((List.getD t i zN).a ≥ ((i : Nat) : Int)))) (wantAll rfl) (rv_pickF rfl (fr_eval rfl (congrArg Value.bool (decide_eq_false hc23))) (fr_eval rfl rfl)) ?_
                      exact hk _ ⟨e0, e3, e4, e12, e16, e24, e25, e40, (e56.trans (congrArg Value.bool (decide_eq_true hc22))), (congrArg Value.bool (dec_or hc23))⟩
                  · clear e0 e3 e4 e12 e16 e24 e25 e40 e56
                    clear F
                    rintro F ⟨e0, e3, e4, e12, e16, e24, e25, e40, e56, e68⟩
                    refine lf_val (wantAll rfl) (rv_move rfl (fr_eval rfl e68)) ?_
                    refine lf_joinP (fun F' => F' 0 = v ∧ F' 3 = .int .i64 ((i : Nat) : Int) ∧ F' 4 = .pointer (some ⟨g1, 0, none⟩) ∧ F' 12 = .bool false ∧ F' 16 = .bool true ∧ F' 24 = .int .i64 ((List.getD t i zN).k) ∧ F' 25 = .bool false ∧ F' 40 = .bool false ∧ F' 56 = .bool true ∧ F' 73 = .bool (decide ((((List.getD t i zN).a < 0) ∨ ((List.getD t i zN).a ≥ ((i : Nat) : Int))) ∨ ((List.getD t i zN).b < 0)))) 4 (fun hk => ?_) ?_
                    · by_cases hc24 : ((List.getD t i zN).a < 0) ∨ ((List.getD t i zN).a ≥ ((i : Nat) : Int))
                      · refine lf_not (wantNot (d := 69) rfl (by kernel_rfl) rfl (congrArg Value.bool (decide_eq_true hc24))) ?_
                        refine lf_not (wantNot (d := 69) rfl (by kernel_rfl) rfl (congrArg Value.bool (decide_eq_true hc24))) ?_
                        refine lf_not (wantNot (d := 69) rfl (by kernel_rfl) rfl (congrArg Value.bool (decide_eq_true hc24))) ?_
                        refine lf_val (v := .bool true) (wantAll rfl) (rv_pickT rfl (fr_eval rfl (congrArg Value.bool (decide_eq_true hc24))) rfl) ?_
                        exact hk _ ⟨e0, e3, e4, e12, e16, e24, e25, e40, e56, (congrArg Value.bool (dec_orT hc24))⟩
                      · refine lf_val (v := .pointer (some ⟨g1, 2, none⟩)) (wantF (d := 69) rfl (by kernel_rfl) rfl (congrArg Value.bool (decide_eq_false hc24))) (rv_fieldAddr (n := 0) rfl (fr_eval rfl e4) Try.underlying40 rfl rfl (by kernel_rfl)) ?_
                        refine lf_val (v := .int .i64 ((List.getD t i zN).b)) (wantF (d := 69) rfl (by kernel_rfl) rfl (congrArg Value.bool (decide_eq_false hc24))) (rv_load1 rfl (hH.blk (i := 0) rfl) zTe_g4 (fr_eval rfl rfl) Try.underlying3 rfl Try.sz3) ?_
                        refine lf_val (v := .bool (decide ((List.getD t i zN).b < 0))) (wantF (d := 69) rfl (by kernel_rfl) rfl (congrArg Value.bool (decide_eq_false hc24))) (rv_lssP (p := (List.getD t i zN).b < 0) rfl (fr_eval rfl rfl) rfl Iff.rfl) ?_
                        refine lf_val (v := .bool (decide ((List.getD t i zN).b < 0))) (wantAll rfl) (rv_pickF rfl (fr_eval rfl (congrArg Value.bool (decide_eq_false hc24))) (fr_eval rfl rfl)) ?_
                        exact hk _ ⟨e0, e3, e4, e12, e16, e24, e25, e40, e56, (congrArg Value.bool (dec_or hc24))⟩
                    · clear e0 e3 e4 e12 e16 e24 e25 e40 e56 e68
                      clear F
                      rintro F ⟨e0, e3, e4, e12, e16, e24, e25, e40, e56, e73⟩
                      refine lf_val (wantAll rfl) (rv_move rfl (fr_eval rfl e73)) ?_
                      refine lf_joinP (fun F' => F' 0 = v ∧ F' 3 = .int .i64 ((i : Nat) : Int) ∧ F' 4 = .pointer (some ⟨g1, 0, none⟩) ∧ F' 12 = .bool false ∧ F' 16 = .bool true ∧ F' 24 = .int .i64 ((List.getD t i zN).k) ∧ F' 25 = .bool false ∧ F' 40 = .bool false ∧ F' 56 = .bool true ∧ F' 79 = .bool (decide (((((List.getD t i zN).a < 0) ∨ ((List.getD t i zN).a ≥ ((i : Nat) : Int))) ∨ ((List.getD t i zN).b < 0)) ∨ ((List.getD t i zN).b ≥ ((i : Nat) : Int))))) 5 (fun hk => ?_) ?_
                      · by_cases hc25 : (((List.getD t i zN).a < 0) ∨ ((List.getD t i zN).a ≥ ((i : Nat) : Int))) ∨ ((List.getD t i zN).b < 0)
                        · refine lf_not (wantNot (d := 74) rfl (by kernel_rfl) rfl (congrArg Value.bool (decide_eq_true hc25))) ?_
                          refine lf_not (wantNot (d := 74) rfl (by kernel_rfl) rfl (congrArg Value.bool (decide_eq_true hc25))) ?_
                          refine lf_not (wantNot (d := 74) rfl (by kernel_rfl) rfl (congrArg Value.bool (decide_eq_true hc25))) ?_
                          refine lf_not (wantNot (d := 74) rfl (by kernel_rfl) rfl (congrArg Value.bool (decide_eq_true hc25))) ?_
                          refine lf_val (v := .bool true) (wantAll rfl) (rv_pickT rfl (fr_eval rfl (congrArg Value.bool (decide_eq_true hc25))) rfl) ?_
                          exact hk _ ⟨e0, e3, e4, e12, e16, e24, e25, e40, e56, (congrArg Value.bool (dec_orT hc25))⟩
                        · refine lf_val (v := .pointer (some ⟨g1, 2, none⟩)) (wantF (d := 74) rfl (by kernel_rfl) rfl (congrArg Value.bool (decide_eq_false hc25))) (rv_fieldAddr (n := 0) rfl (fr_eval rfl e4) Try.underlying40 rfl rfl (by kernel_rfl)) ?_
                          refine lf_val (v := .int .i64 ((List.getD t i zN).b)) (wantF (d := 74) rfl (by kernel_rfl) rfl (congrArg Value.bool (decide_eq_false hc25))) (rv_load1 rfl (hH.blk (i := 0) rfl) zTe_g4 (fr_eval rfl rfl) Try.underlying3 rfl Try.sz3) ?_
                          refine lf_val (v := .int .i64 ((i : Nat) : Int)) (wantF (d := 74) rfl (by kernel_rfl) rfl (congrArg Value.bool (decide_eq_false hc25))) (rv_move rfl (fr_eval rfl e3)) ?_
                          refine lf_val (v := .bool (decide ((List.getD t i zN).b ≥ ((i : Nat) : Int)))) (wantF (d := 74) rfl (by kernel_rfl) rfl (congrArg Value.bool (decide_eq_false hc25))) (rv_geqP (p := (List.getD t i zN).b ≥ ((i : Nat) : Int)) rfl (fr_eval rfl rfl) (fr_eval rfl rfl) Iff.rfl) ?_
                          refine lf_val (v := .bool (decide ((List.getD t i zN).b ≥ ((i : Nat) : Int)))) (wantAll rfl) (rv_pickF rfl (fr_eval rfl (congrArg Value.bool (decide_eq_false hc25))) (fr_eval rfl rfl)) ?_
                          exact hk _ ⟨e0, e3, e4, e12, e16, e24, e25, e40, e56, (congrArg Value.bool (dec_or hc25))⟩
                      · clear e0 e3 e4 e12 e16 e24 e25 e40 e56 e73
                        clear F
                        rintro F ⟨e0, e3, e4, e12, e16, e24, e25, e40, e56, e79⟩
                        refine lf_nil ?_
                        refine then_n ?_
                        by_cases hc26 : ((((List.getD t i zN).a < 0) ∨ ((List.getD t i zN).a ≥ ((i : Nat) : Int))) ∨ ((List.getD t i zN).b < 0)) ∨ ((List.getD t i zN).b ≥ ((i : Nat) : Int))
                        · refine wp_cond_true (fr_eval rfl (e79.trans (congrArg Value.bool (decide_eq_true hc26)))) ?_
                          refine wp_seq ?_
                          refine wp_regionF ?_
                          refine lf_val (v := .bool false) (wantAll rfl) (rv_assign rfl rfl) ?_
                          refine lf_nil ?_
                          refine then_n ?_
                          refine wp_gen (fun F' => F' 0 = v ∧ F' 2 = .bool false ∧ F' 3 = .int .i64 ((i : Nat) : Int) ∧ F' 4 = .pointer (some ⟨g1, 0, none⟩) ∧ F' 12 = .bool false ∧ F' 16 = .bool true ∧ F' 24 = .int .i64 ((List.getD t i zN).k) ∧ F' 25 = .bool false ∧ F' 40 = .bool false ∧ F' 56 = .bool true ∧ F' 79 = .bool true) ⟨e0, rfl, e3, e4, e12, e16, e24, e25, e40, e56, (e79.trans (congrArg Value.bool (decide_eq_true hc26)))⟩ ?_
                          clear e0 e3 e4 e12 e16 e24 e25 e40 e56 e79
                          clear F
                          rintro F ⟨e0, e2, e3, e4, e12, e16, e24, e25, e40, e56, e79⟩
                          refine wp_ret ?_
                          refine blk_ret ?_
                          refine blk_ret ?_
                          refine then_ret ?_
                          refine then_ret ?_
                          refine blk_ret ?_
                          refine then_ret ?_
                          exact bodyPost_ret (v := (.bool false)) (res1 rfl (ro_tmp rfl e2)) rfl (⟨congrArg (fun b => Ending.returned (.bool b)) (decide_eq_false (fun h => by have := h.2.2 i (by omega); unfold okN at this; omega)).symm, hH.done⟩)
                        · refine wp_cond_false (fr_eval rfl (e79.trans (congrArg Value.bool (decide_eq_false hc26)))) ?_
                          refine wp_skip ?_
                          refine blk_n ?_
                          refine blk_n ?_
                          refine then_n ?_
                          refine wp_regionF ?_
                          refine lf_val (v := .int .i64 ((i : Nat) : Int)) (wantAll rfl) (rv_move rfl (fr_eval rfl e3)) ?_
                          refine lf_val (v := .int .i64 ((i + 1 : Nat) : Int)) (wantAll rfl) (rv_add rfl (fr_eval rfl rfl) rfl (wrap_i64 (by omega) (by omega) (by omega))) ?_
                          refine lf_val (v := .int .i64 ((i + 1 : Nat) : Int)) (wantAll rfl) (rv_assign rfl (fr_eval rfl rfl)) ?_
                          refine lf_nil ?_
                          refine then_n ?_
                          replace hH : Heap _ _ _ [] := hH.drop (.cons _ .slnil)
                          exact ⟨_, _, (by omega), rfl, i + 1, rfl, (by omega), (fun j h => by
                            by_cases e : j < i
                            · exact pi1 j e
                            · obtain rfl : j = i := by omega
                              unfold okN; omega), pi2, e0, rfl, e12, hH⟩
                · refine wp_cond_false (fr_eval rfl (e56.trans (congrArg Value.bool (decide_eq_false hc22)))) ?_
                  refine wp_seq ?_
                  refine wp_regionF ?_
                  refine lf_val (v := .bool false) (wantAll rfl) (rv_assign rfl rfl) ?_
                  refine lf_nil ?_
                  refine then_n ?_
                  refine wp_gen (fun F' => F' 0 = v ∧ F' 2 = .bool false ∧ F' 3 = .int .i64 ((i : Nat) : Int) ∧ F' 4 = .pointer (some ⟨g1, 0, none⟩) ∧ F' 12 = .bool false ∧ F' 16 = .bool true ∧ F' 24 = .int .i64 ((List.getD t i zN).k) ∧ F' 25 = .bool false ∧ F' 40 = .bool false ∧ F' 56 = .bool false) ⟨e0, rfl, e3, e4, e12, e16, e24, e25, e40, (e56.trans (congrArg Value.bool (decide_eq_false hc22)))⟩ ?_
                  clear e0 e3 e4 e12 e16 e24 e25 e40 e56
                  clear F
                  rintro F ⟨e0, e2, e3, e4, e12, e16, e24, e25, e40, e56⟩
                  refine wp_ret ?_
                  refine blk_ret ?_
                  refine blk_ret ?_
                  refine then_ret ?_
                  refine then_ret ?_
                  refine blk_ret ?_
                  refine then_ret ?_
                  exact bodyPost_ret (v := (.bool false)) (res1 rfl (ro_tmp rfl e2)) rfl (⟨congrArg (fun b => Ending.returned (.bool b)) (decide_eq_false (fun h => by have := h.2.2 i (by omega); unfold okN at this; omega)).symm, hH.done⟩)
      · refine wp_cond_false (fr_eval rfl (e16.trans (congrArg Value.bool (decide_eq_false hc3)))) ?_
        refine wp_exit ?_
        refine then_exit ?_
        refine then_exit ?_
        refine blk_exit ?_
        refine then_n ?_
        refine wp_seq ?_
        refine wp_regionF ?_
        refine lf_val (v := .bool true) (wantAll rfl) (rv_assign rfl rfl) ?_
        refine lf_nil ?_
        refine then_n ?_
        refine wp_gen (fun F' => F' 0 = v ∧ F' 2 = .bool true ∧ F' 3 = .int .i64 ((i : Nat) : Int) ∧ F' 12 = .bool false ∧ F' 16 = .bool false) ⟨e0, rfl, e3, e12, (e16.trans (congrArg Value.bool (decide_eq_false hc3)))⟩ ?_
        clear e0 e3 e12 e16
        clear F
        rintro F ⟨e0, e2, e3, e12, e16⟩
        refine wp_ret ?_
        exact bodyPost_ret (v := (.bool true)) (res1 rfl (ro_tmp rfl e2)) rfl (⟨congrArg (fun b => Ending.returned (.bool b)) (decide_eq_true ⟨pi2.1, pi2.2, fun j h => pi1 j (by omega)⟩).symm, hH.done⟩)

end Go.Proofs.Ytdlliajghfflnaa
