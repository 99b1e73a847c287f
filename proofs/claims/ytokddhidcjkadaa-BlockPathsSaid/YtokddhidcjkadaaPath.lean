/- Paths: the walk of merkle.Path. -/
import Derived.Test.YtokddhidcjkadaaMerkles
import Derived.Test.YtokddhidcjkadaaMerkle2
namespace Go.Proofs.Ytokddhidcjkadaa
open Go.RowKit Go.Bz Go.Bz.Sha Go.Bz.Merkle
attribute [local irreducible] wpList Code.wp wpAnyX

theorem path_len (row : List S32) (a : Nat) : (pathT row a).length ≤ row.length := by
  by_cases h : row.length ≤ 1
  · rw [pathT_end h]; exact Nat.zero_le _
  · have hu := upL_len row
    have := path_len (upL row) (a / 2)
    rw [pathT_go h, List.length_append]
    split
    · rw [List.length_singleton]; omega
    · rw [List.length_nil]; omega
termination_by row.length
decreasing_by omega

set_option maxRecDepth 100000 in
set_option maxHeartbeats 4000000 in
theorem path_out (at' : Int) (hn : -9223372036854775808 ≤ at' ∧ at' ≤ 9223372036854775807) (l : List S32) (ho : ¬ (0 ≤ at' ∧ at' < (l.length : Int))) (v : Value) (w : World) (hr0 : Rd w 32 v l.length (l.flatMap cS)) :
    Calls Try.prog 18 #[.int .i64 at', v] w fun e'' w' => e'' = .returned (.tuple #[.slice none 0 0, .bool false]) ∧ Ext w w' := by
  refine calls_fr (args := [.int .i64 at', v]) (n := 40) Try.func18 rfl rfl (show 2 ≤ 40 by decide) ?_
  have hr := Rd.stab hr0
  have hH : Heap (newN w) w w [] := Heap.fresh
  refine wp_seq ?_
  refine wp_gen (fun F' => F' 0 = .int .i64 at' ∧ F' 1 = v) ⟨rfl, rfl⟩ ?_
  rintro F ⟨e0, e1⟩
  refine wp_regionF ?_
  refine lf_val (v := .slice none 0 0) (wantAll rfl) (rv_assign rfl rfl) ?_
  refine lf_val (v := .bool false) (wantAll rfl) (rv_assign rfl rfl) ?_
  refine lf_nil ?_
  refine then_n ?_
  refine wp_seq ?_
  refine wp_seq ?_
  refine wp_gen (fun F' => F' 0 = .int .i64 at' ∧ F' 1 = v ∧ F' 4 = .slice none 0 0 ∧ F' 5 = .bool false) ⟨e0, e1, rfl, rfl⟩ ?_
  clear e0 e1
  clear F
  rintro F ⟨e0, e1, e4, e5⟩
  refine wp_regionF ?_
  refine lf_val (v := .int .i64 at') (wantAll rfl) (rv_move rfl (fr_eval rfl e0)) ?_
  by_cases hc1 : at' < 0
  · refine lf_val (v := .bool true) (wantAll rfl) (rv_lss rfl (fr_eval rfl rfl) rfl (decide_eq_true (by omega))) ?_
    refine lf_val (v := .bool true) (wantAll rfl) (rv_move rfl (fr_eval rfl rfl)) ?_
    refine lf_not (wantNot (d := 11) rfl (by kernel_rfl) rfl rfl) ?_
    refine lf_not (wantNot (d := 11) rfl (by kernel_rfl) rfl rfl) ?_
    refine lf_not (wantNot (d := 11) rfl (by kernel_rfl) rfl rfl) ?_
    refine lf_not (wantNot (d := 11) rfl (by kernel_rfl) rfl rfl) ?_
    refine lf_val (v := .bool true) (wantAll rfl) (rv_pickT rfl (fr_eval rfl rfl) rfl) ?_
    refine lf_nil ?_
    refine then_n ?_
    refine wp_gen (fun F' => F' 0 = .int .i64 at' ∧ F' 1 = v ∧ F' 4 = .slice none 0 0 ∧ F' 5 = .bool false ∧ F' 16 = .bool true) ⟨e0, e1, e4, e5, rfl⟩ ?_
    clear e0 e1 e4 e5
    clear F
    rintro F ⟨e0, e1, e4, e5, e16⟩
    refine wp_cond_true (fr_eval rfl e16) ?_
    refine wp_seq ?_
    refine wp_regionF ?_
    refine lf_val (v := .slice none 0 0) (wantAll rfl) (rv_assign rfl rfl) ?_
    refine lf_val (v := .bool false) (wantAll rfl) (rv_assign rfl rfl) ?_
    refine lf_nil ?_
    refine then_n ?_
    refine wp_gen (fun F' => F' 0 = .int .i64 at' ∧ F' 1 = v ∧ F' 4 = .slice none 0 0 ∧ F' 5 = .bool false ∧ F' 16 = .bool true) ⟨e0, e1, rfl, rfl, e16⟩ ?_
    clear e0 e1 e4 e5 e16
    clear F
    rintro F ⟨e0, e1, e4, e5, e16⟩
    refine wp_ret ?_
    refine then_ret ?_
    exact bodyPost_ret (v := .tuple #[.slice none 0 0, .bool false]) (res2 rfl (ro_tmp rfl e4) (ro_tmp rfl e5)) rfl (⟨rfl, hH.done⟩)
  · refine lf_val (v := .bool false) (wantAll rfl) (rv_lss rfl (fr_eval rfl rfl) rfl (decide_eq_false (by omega))) ?_
    refine lf_val (v := .bool false) (wantAll rfl) (rv_move rfl (fr_eval rfl rfl)) ?_
    refine lf_val (v := .int .i64 at') (wantF (d := 11) rfl (by kernel_rfl) rfl rfl) (rv_move rfl (fr_eval rfl e0)) ?_
    refine lf_val (v := v) (wantF (d := 11) rfl (by kernel_rfl) rfl rfl) (rv_move rfl (fr_eval rfl e1)) ?_
    refine lf_val (v := .int .i64 ((l.length : Nat) : Int)) (wantF (d := 11) rfl (by kernel_rfl) rfl rfl) (rv_len rfl (fr_eval rfl rfl) (hr.rd _ hH.chg) Try.underlying24) ?_
    refine lf_val (v := .bool true) (wantF (d := 11) rfl (by kernel_rfl) rfl rfl) (rv_geq rfl (fr_eval rfl rfl) (fr_eval rfl rfl) (decide_eq_true (by omega))) ?_
    refine lf_val (v := .bool true) (wantAll rfl) (rv_pickF rfl (fr_eval rfl rfl) (fr_eval rfl rfl)) ?_
    refine lf_nil ?_
    refine then_n ?_
    refine wp_gen (fun F' => F' 0 = .int .i64 at' ∧ F' 1 = v ∧ F' 4 = .slice none 0 0 ∧ F' 5 = .bool false ∧ F' 16 = .bool true) ⟨e0, e1, e4, e5, rfl⟩ ?_
    clear e0 e1 e4 e5
    clear F
    rintro F ⟨e0, e1, e4, e5, e16⟩
    refine wp_cond_true (fr_eval rfl e16) ?_
    refine wp_seq ?_
    refine wp_regionF ?_
    refine lf_val (v := .slice none 0 0) (wantAll rfl) (rv_assign rfl rfl) ?_
    refine lf_val (v := .bool false) (wantAll rfl) (rv_assign rfl rfl) ?_
    refine lf_nil ?_
    refine then_n ?_
    refine wp_gen (fun F' => F' 0 = .int .i64 at' ∧ F' 1 = v ∧ F' 4 = .slice none 0 0 ∧ F' 5 = .bool false ∧ F' 16 = .bool true) ⟨e0, e1, rfl, rfl, e16⟩ ?_
    clear e0 e1 e4 e5 e16
    clear F
    rintro F ⟨e0, e1, e4, e5, e16⟩
    refine wp_ret ?_
    refine then_ret ?_
    exact bodyPost_ret (v := .tuple #[.slice none 0 0, .bool false]) (res2 rfl (ro_tmp rfl e4) (ro_tmp rfl e5)) rfl (⟨rfl, hH.done⟩)

set_option maxRecDepth 100000 in
set_option maxHeartbeats 4000000 in
theorem path_in (a0 : Nat) (l : List S32) (hl : l.length ≤ 1000000) (ha : a0 < l.length) (v : Value) (w : World) (hr0 : Rd w 32 v l.length (l.flatMap cS)) :
    Calls Try.prog 18 #[.int .i64 ((a0 : Nat) : Int), v] w fun e'' w' => (∃ v', e'' = .returned (.tuple #[v', .bool true]) ∧ Own w' 23 32 v' (pathT (l.map leafS) a0).length ((pathT (l.map leafS) a0).flatMap cS) ∧ ∀ k, v'.ownBlock = some k → w.heap.size ≤ k) ∧ Ext w w' := by
  refine calls_fr (args := [.int .i64 ((a0 : Nat) : Int), v]) (n := 40) Try.func18 rfl rfl (show 2 ≤ 40 by decide) ?_
  have hr := Rd.stab hr0
  have hH : Heap (newN w) w w [] := Heap.fresh
  refine wp_seq ?_
  refine wp_gen (fun F' => F' 0 = .int .i64 ((a0 : Nat) : Int) ∧ F' 1 = v) ⟨rfl, rfl⟩ ?_
  rintro F ⟨e0, e1⟩
  refine wp_regionF ?_
  refine lf_val (v := .slice none 0 0) (wantAll rfl) (rv_assign rfl rfl) ?_
  refine lf_val (v := .bool false) (wantAll rfl) (rv_assign rfl rfl) ?_
  refine lf_nil ?_
  refine then_n ?_
  refine wp_seq ?_
  refine wp_seq ?_
  refine wp_gen (fun F' => F' 0 = .int .i64 ((a0 : Nat) : Int) ∧ F' 1 = v ∧ F' 4 = .slice none 0 0 ∧ F' 5 = .bool false) ⟨e0, e1, rfl, rfl⟩ ?_
  clear e0 e1
  clear F
  rintro F ⟨e0, e1, e4, e5⟩
  refine wp_regionF ?_
  refine lf_val (v := .int .i64 ((a0 : Nat) : Int)) (wantAll rfl) (rv_move rfl (fr_eval rfl e0)) ?_
  refine lf_val (v := .bool false) (wantAll rfl) (rv_lss rfl (fr_eval rfl rfl) rfl (decide_eq_false (by omega))) ?_
  refine lf_val (v := .bool false) (wantAll rfl) (rv_move rfl (fr_eval rfl rfl)) ?_
  refine lf_val (v := .int .i64 ((a0 : Nat) : Int)) (wantF (d := 11) rfl (by kernel_rfl) rfl rfl) (rv_move rfl (fr_eval rfl e0)) ?_
  refine lf_val (v := v) (wantF (d := 11) rfl (by kernel_rfl) rfl rfl) (rv_move rfl (fr_eval rfl e1)) ?_
  refine lf_val (v := .int .i64 ((l.length : Nat) : Int)) (wantF (d := 11) rfl (by kernel_rfl) rfl rfl) (rv_len rfl (fr_eval rfl rfl) (hr.rd _ hH.chg) Try.underlying24) ?_
  refine lf_val (v := .bool false) (wantF (d := 11) rfl (by kernel_rfl) rfl rfl) (rv_geq rfl (fr_eval rfl rfl) (fr_eval rfl rfl) (decide_eq_false (by omega))) ?_
  refine lf_val (v := .bool false) (wantAll rfl) (rv_pickF rfl (fr_eval rfl rfl) (fr_eval rfl rfl)) ?_
  refine lf_nil ?_
  refine then_n ?_
  refine wp_gen (fun F' => F' 0 = .int .i64 ((a0 : Nat) : Int) ∧ F' 1 = v ∧ F' 4 = .slice none 0 0 ∧ F' 5 = .bool false ∧ F' 16 = .bool false) ⟨e0, e1, e4, e5, rfl⟩ ?_
  clear e0 e1 e4 e5
  clear F
  rintro F ⟨e0, e1, e4, e5, e16⟩
  refine wp_cond_false (fr_eval rfl e16) ?_
  refine wp_skip ?_
  refine then_n ?_
  refine wp_seq ?_
  refine wp_regionF ?_
  refine lf_val (v := .slice none 0 0) (wantAll rfl) (rv_assign rfl rfl) ?_
  refine lf_nil ?_
  refine then_n ?_
  refine wp_seq ?_
  refine wp_seq ?_
  refine wp_gen (fun F' => F' 0 = .int .i64 ((a0 : Nat) : Int) ∧ F' 1 = v ∧ F' 4 = .slice none 0 0 ∧ F' 5 = .bool false ∧ F' 6 = .slice none 0 0 ∧ F' 16 = .bool false) ⟨e0, e1, e4, e5, rfl, e16⟩ ?_
  clear e0 e1 e4 e5 e16
  clear F
  rintro F ⟨e0, e1, e4, e5, e6, e16⟩
  refine wp_regionF ?_
  refine lf_val (v := v) (wantAll rfl) (rv_move rfl (fr_eval rfl e1)) ?_
  refine lf_call (wantAll rfl) (rv_call (args := [v]) rfl (evc (fr_eval rfl rfl) evn) Try.call61) (leaves_calls l (by omega) _ _ (hr.rd _ hH.chg)) ?_
  rintro _ w1 ⟨⟨y1, rfl, ho, hg⟩, hx⟩
  refine ⟨_, rfl, ?_⟩
  replace hH : Heap _ _ _ [_] := hH.addOwn hx hg ho
  clear ho hg
  clear hx
  refine lf_val (v := y1) (wantAll rfl) (rv_assign rfl (fr_eval rfl rfl)) ?_
  refine lf_nil ?_
  refine then_n ?_
  refine wp_block ?_
  replace hH : Heap _ _ _ [_, _] := hH.addNil 23 32
  refine wp_gen (fun F' => F' 0 = .int .i64 ((a0 : Nat) : Int) ∧ F' 1 = v ∧ F' 4 = .slice none 0 0 ∧ F' 5 = .bool false ∧ F' 6 = (.slice none 0 0) ∧ F' 7 = y1 ∧ F' 16 = .bool false) ⟨e0, e1, e4, e5, e6, rfl, e16⟩ ?_
  clear e0 e1 e4 e5 e6 e16
  clear F
  rintro F ⟨e0, e1, e4, e5, e6, e7, e16⟩
  refine wp_loopF (fun m F wr => ∃ a : Nat, ∃ row : List S32, ∃ yr : Value, ∃ q : List S32, ∃ yq : Value, m = row.length ∧ row.length ≤ 1000000 ∧ a < row.length ∧ q.length + row.length ≤ 1000001 ∧ pathT (l.map leafS) a0 = q ++ pathT row a ∧ F 0 = .int .i64 ((a : Nat) : Int) ∧ F 1 = v ∧ F 4 = .slice none 0 0 ∧ F 5 = .bool false ∧ F 6 = yq ∧ F 7 = yr ∧ F 16 = .bool false ∧ Heap (newN w) w wr [oRow cS 23 32 yr row, oRow cS 23 32 yq q]) ⟨a0, _, _, [], _, rfl, (by simpa using hl), (by simpa using ha), (by simp; omega), rfl, e0, e1, e4, e5, e6, e7, e16, hH⟩ ?_
  clear e0 e1 e4 e5 e6 e7 e16 hH
  clear F
  rintro m F w2 ⟨a, row, yr, q, yq, rfl, pa0, pa1, pa2, pa3, e0, e1, e4, e5, e6, e7, e16, hH⟩
  refine wp_seq ?_
  refine wp_seq ?_
  refine wp_regionF ?_
  refine lf_val (v := yr) (wantAll rfl) (rv_move rfl (fr_eval rfl e7)) ?_
  refine lf_val (v := .int .i64 ((row.length : Nat) : Int)) (wantAll rfl) (rv_len rfl (fr_eval rfl rfl) (Own.rd (hH.own (i := 0) rfl) (row_one cS_one)) Try.underlying24) ?_
  by_cases hc1 : row.length > 1
  · refine lf_val (v := .bool true) (wantAll rfl) (rv_gtr rfl (fr_eval rfl rfl) rfl (decide_eq_true (by omega))) ?_
    refine lf_nil ?_
    refine then_n ?_
    refine wp_gen (fun F' => F' 0 = .int .i64 ((a : Nat) : Int) ∧ F' 1 = v ∧ F' 4 = .slice none 0 0 ∧ F' 5 = .bool false ∧ F' 6 = yq ∧ F' 7 = yr ∧ F' 16 = .bool false ∧ F' 21 = .bool true) ⟨e0, e1, e4, e5, e6, e7, e16, rfl⟩ ?_
    clear e0 e1 e4 e5 e6 e7 e16
    clear F
    rintro F ⟨e0, e1, e4, e5, e6, e7, e16, e21⟩
    refine wp_cond_true (fr_eval rfl e21) ?_
    refine wp_skip ?_
    refine then_n ?_
    refine wp_seq ?_
    refine wp_block ?_
    refine wp_seq ?_
    refine wp_seq ?_
    refine wp_regionF ?_
    refine lf_val (v := .int .i64 ((a : Nat) : Int)) (wantAll rfl) (rv_move rfl (fr_eval rfl e0)) ?_
    refine lf_val (v := .int .i64 ((beside a : Nat) : Int)) (wantAll rfl) (rv_xor rfl (fr_eval rfl rfl) rfl (xor1_nat _ (by omega))) ?_
    refine lf_val (v := .int .i64 ((beside a : Nat) : Int)) (wantAll rfl) (rv_assign rfl (fr_eval rfl rfl)) ?_
    refine lf_nil ?_
    refine then_n ?_
    refine wp_seq ?_
    refine wp_gen (fun F' => F' 0 = .int .i64 ((a : Nat) : Int) ∧ F' 1 = v ∧ F' 4 = .slice none 0 0 ∧ F' 5 = .bool false ∧ F' 6 = yq ∧ F' 7 = yr ∧ F' 8 = .int .i64 ((beside a : Nat) : Int) ∧ F' 16 = .bool false ∧ F' 21 = .bool true) ⟨e0, e1, e4, e5, e6, e7, rfl, e16, e21⟩ ?_
    clear e0 e1 e4 e5 e6 e7 e16 e21
    clear F
    rintro F ⟨e0, e1, e4, e5, e6, e7, e8, e16, e21⟩
    refine wp_regionF ?_
    refine lf_val (v := .int .i64 ((beside a : Nat) : Int)) (wantAll rfl) (rv_move rfl (fr_eval rfl e8)) ?_
    refine lf_val (v := yr) (wantAll rfl) (rv_move rfl (fr_eval rfl e7)) ?_
    refine lf_val (v := .int .i64 ((row.length : Nat) : Int)) (wantAll rfl) (rv_len rfl (fr_eval rfl rfl) (Own.rd (hH.own (i := 0) rfl) (row_one cS_one)) Try.underlying24) ?_
    by_cases hc2 : beside a < row.length
    · refine lf_val (v := .bool true) (wantAll rfl) (rv_lss rfl (fr_eval rfl rfl) (fr_eval rfl rfl) (decide_eq_true (by omega))) ?_
      refine lf_nil ?_
      refine then_n ?_
      refine wp_gen (fun F' => F' 0 = .int .i64 ((a : Nat) : Int) ∧ F' 1 = v ∧ F' 4 = .slice none 0 0 ∧ F' 5 = .bool false ∧ F' 6 = yq ∧ F' 7 = yr ∧ F' 8 = .int .i64 ((beside a : Nat) : Int) ∧ F' 16 = .bool false ∧ F' 21 = .bool true ∧ F' 29 = .bool true) ⟨e0, e1, e4, e5, e6, e7, e8, e16, e21, rfl⟩ ?_
      clear e0 e1 e4 e5 e6 e7 e8 e16 e21
      clear F
      rintro F ⟨e0, e1, e4, e5, e6, e7, e8, e16, e21, e29⟩
      refine wp_cond_true (fr_eval rfl e29) ?_
      refine wp_regionF ?_
      refine lf_val (v := yq) (wantAll rfl) (rv_move rfl (fr_eval rfl e6)) ?_
      refine lf_val (v := yr) (wantAll rfl) (rv_move rfl (fr_eval rfl e7)) ?_
      refine lf_val (v := .int .i64 ((beside a : Nat) : Int)) (wantAll rfl) (rv_move rfl (fr_eval rfl e8)) ?_
      refine lf_val (v := .pointer (some (elemA yr ((beside a) * 32)))) (wantAll rfl) (rv_index rfl (fr_eval rfl rfl) (fr_eval rfl rfl) (rdN (Own.rd (hH.own (i := 0) rfl) (row_one cS_one)) rfl) (show beside a < row.length from (by omega)) Try.underlying24 Try.sz23 (by decide)) ?_
      refine lf_val (wantAll rfl) (rv_loadElem rfl (fr_eval rfl rfl) (rdN (Own.rd (hH.own (i := 0) rfl) (row_one cS_one)) rfl) (show beside a < row.length from (by omega)) (by decide) (flat_part zS cS_len (show beside a < row.length from (by omega))) Try.underlying23 rfl Try.sz23) ?_
      refine lf_ex (wantAll rfl) (hx_lit1 hH Try.stSum (cs := cS ((List.getD row (beside a) zS))) (xs := List.flatMap cS [((List.getD row (beside a) zS))]) rfl (fr_eval rfl rfl) (cS_ln ((List.getD row (beside a) zS))) (by decide) (List.flatMap_singleton ..).symm) ?_
      clear hH
      rintro y2 w3 ⟨hH, hx⟩
      replace hH : Heap _ _ _ [_, _, _] := hH
      clear hx
      refine lf_ex (wantAll rfl) (hx_append hH Try.stSum (i := 1) (xs' := (q ++ [((List.getD row (beside a) zS))]).flatMap cS) (nm := (q ++ [((List.getD row (beside a) zS))]).length) rfl rfl (fun _ => rfl) List.length_append.symm List.flatMap_append.symm (Own.rd (hH.own (i := 2) rfl) (row_one cS_one)) (fr_eval rfl rfl) (fr_eval rfl rfl) (by simp only [List.length_append, List.length_cons, List.length_nil]; omega)) ?_
      clear hH
      rintro y3 w4 ⟨hH, hx⟩
      replace hH : Heap _ _ _ [_, _, _] := hH
      clear hx
      refine lf_val (v := y3) (wantAll rfl) (rv_assign rfl (fr_eval rfl rfl)) ?_
      refine lf_nil ?_
      refine then_n ?_
      replace hH : Heap _ _ _ [_, _] := hH.drop (.cons_cons _ (.cons_cons _ (.cons _ .slnil)))
      refine wp_gen (fun F' => F' 0 = .int .i64 ((a : Nat) : Int) ∧ F' 1 = v ∧ F' 4 = .slice none 0 0 ∧ F' 5 = .bool false ∧ F' 6 = y3 ∧ F' 7 = yr ∧ F' 8 = .int .i64 ((beside a : Nat) : Int) ∧ F' 16 = .bool false ∧ F' 21 = .bool true ∧ F' 29 = .bool true) ⟨e0, e1, e4, e5, rfl, e7, e8, e16, e21, e29⟩ ?_
      clear e0 e1 e4 e5 e6 e7 e8 e16 e21 e29
      clear F
      rintro F ⟨e0, e1, e4, e5, e6, e7, e8, e16, e21, e29⟩
      refine wp_regionF ?_
      refine lf_val (v := .int .i64 ((a : Nat) : Int)) (wantAll rfl) (rv_move rfl (fr_eval rfl e0)) ?_
      refine lf_val (v := .int .i64 ((a / 2 : Nat) : Int)) (wantAll rfl) (rv_quo rfl (fr_eval rfl rfl) rfl (by decide) (quo_nat (n := 2) (by omega))) ?_
      refine lf_val (v := .int .i64 ((a / 2 : Nat) : Int)) (wantAll rfl) (rv_assign rfl (fr_eval rfl rfl)) ?_
      refine lf_nil ?_
      refine blk_n ?_
      refine then_n ?_
      refine wp_gen (fun F' => F' 0 = .int .i64 ((a / 2 : Nat) : Int) ∧ F' 1 = v ∧ F' 4 = .slice none 0 0 ∧ F' 5 = .bool false ∧ F' 6 = y3 ∧ F' 7 = yr ∧ F' 8 = .int .i64 ((beside a : Nat) : Int) ∧ F' 16 = .bool false ∧ F' 21 = .bool true ∧ F' 29 = .bool true) ⟨rfl, e1, e4, e5, e6, e7, e8, e16, e21, e29⟩ ?_
      clear e0 e1 e4 e5 e6 e7 e8 e16 e21 e29
      clear F
      rintro F ⟨e0, e1, e4, e5, e6, e7, e8, e16, e21, e29⟩
      refine wp_regionF ?_
      refine lf_val (v := yr) (wantAll rfl) (rv_move rfl (fr_eval rfl e7)) ?_
      refine lf_call (wantAll rfl) (rv_call (args := [yr]) rfl (evc (fr_eval rfl rfl) evn) Try.call62) (up_calls row (by omega) _ _ (Own.rd (hH.own (i := 0) rfl) (row_one cS_one))) ?_
      rintro _ w5 ⟨⟨y4, rfl, ho, hg⟩, hx⟩
      refine ⟨_, rfl, ?_⟩
      replace hH : Heap _ _ _ [_, _, _] := hH.addOwn hx hg ho
      clear ho hg
      clear hx
      refine lf_val (v := y4) (wantAll rfl) (rv_assign rfl (fr_eval rfl rfl)) ?_
      refine lf_nil ?_
      refine then_n ?_
      replace hH : Heap _ _ _ [_, _] := hH.drop (.cons _ (.cons_cons _ (.cons_cons _ .slnil)))
      replace hH : Heap _ _ _ [_, _] := hH.perm (.trans (.swap _ _ _) (.cons _ (.refl _)))
      exact ⟨_, _, (by rw [upL_len]; omega), rfl, _, _, _, _, _, rfl, (by rw [upL_len]; omega), (by rw [upL_len]; omega), (by rw [upL_len, List.length_append, List.length_singleton]; omega), (by rw [pa3, pathT_go (by omega), if_pos (by omega), List.append_assoc]), e0, e1, e4, e5, e6, rfl, e16, hH⟩
    · refine lf_val (v := .bool false) (wantAll rfl) (rv_lss rfl (fr_eval rfl rfl) (fr_eval rfl rfl) (decide_eq_false (by omega))) ?_
      refine lf_nil ?_
      refine then_n ?_
      refine wp_gen (fun F' => F' 0 = .int .i64 ((a : Nat) : Int) ∧ F' 1 = v ∧ F' 4 = .slice none 0 0 ∧ F' 5 = .bool false ∧ F' 6 = yq ∧ F' 7 = yr ∧ F' 8 = .int .i64 ((beside a : Nat) : Int) ∧ F' 16 = .bool false ∧ F' 21 = .bool true ∧ F' 29 = .bool false) ⟨e0, e1, e4, e5, e6, e7, e8, e16, e21, rfl⟩ ?_
      clear e0 e1 e4 e5 e6 e7 e8 e16 e21
      clear F
      rintro F ⟨e0, e1, e4, e5, e6, e7, e8, e16, e21, e29⟩
      refine wp_cond_false (fr_eval rfl e29) ?_
      refine wp_skip ?_
      refine then_n ?_
      refine wp_regionF ?_
      refine lf_val (v := .int .i64 ((a : Nat) : Int)) (wantAll rfl) (rv_move rfl (fr_eval rfl e0)) ?_
      refine lf_val (v := .int .i64 ((a / 2 : Nat) : Int)) (wantAll rfl) (rv_quo rfl (fr_eval rfl rfl) rfl (by decide) (quo_nat (n := 2) (by omega))) ?_
      refine lf_val (v := .int .i64 ((a / 2 : Nat) : Int)) (wantAll rfl) (rv_assign rfl (fr_eval rfl rfl)) ?_
      refine lf_nil ?_
      refine blk_n ?_
      refine then_n ?_
      refine wp_gen (fun F' => F' 0 = .int .i64 ((a / 2 : Nat) : Int) ∧ F' 1 = v ∧ F' 4 = .slice none 0 0 ∧ F' 5 = .bool false ∧ F' 6 = yq ∧ F' 7 = yr ∧ F' 8 = .int .i64 ((beside a : Nat) : Int) ∧ F' 16 = .bool false ∧ F' 21 = .bool true ∧ F' 29 = .bool false) ⟨rfl, e1, e4, e5, e6, e7, e8, e16, e21, e29⟩ ?_
      clear e0 e1 e4 e5 e6 e7 e8 e16 e21 e29
      clear F
      rintro F ⟨e0, e1, e4, e5, e6, e7, e8, e16, e21, e29⟩
      refine wp_regionF ?_
      refine lf_val (v := yr) (wantAll rfl) (rv_move rfl (fr_eval rfl e7)) ?_
      refine lf_call (wantAll rfl) (rv_call (args := [yr]) rfl (evc (fr_eval rfl rfl) evn) Try.call62) (up_calls row (by omega) _ _ (Own.rd (hH.own (i := 0) rfl) (row_one cS_one))) ?_
      rintro _ w6 ⟨⟨y5, rfl, ho, hg⟩, hx⟩
      refine ⟨_, rfl, ?_⟩
      replace hH : Heap _ _ _ [_, _, _] := hH.addOwn hx hg ho
      clear ho hg
      clear hx
      refine lf_val (v := y5) (wantAll rfl) (rv_assign rfl (fr_eval rfl rfl)) ?_
      refine lf_nil ?_
      refine then_n ?_
      replace hH : Heap _ _ _ [_, _] := hH.drop (.cons _ (.cons_cons _ (.cons_cons _ .slnil)))
      replace hH : Heap _ _ _ [_, _] := hH.perm (.trans (.swap _ _ _) (.cons _ (.refl _)))
      exact ⟨_, _, (by rw [upL_len]; omega), rfl, _, _, _, _, _, rfl, (by rw [upL_len]; omega), (by rw [upL_len]; omega), (by rw [upL_len]; omega), (by rw [pa3, pathT_go (by omega), if_neg (by omega), List.nil_append]), e0, e1, e4, e5, e6, rfl, e16, hH⟩
  · refine lf_val (v := .bool false) (wantAll rfl) (rv_gtr rfl (fr_eval rfl rfl) rfl (decide_eq_false (by omega))) ?_
    refine lf_nil ?_
    refine then_n ?_
    refine wp_gen (fun F' => F' 0 = .int .i64 ((a : Nat) : Int) ∧ F' 1 = v ∧ F' 4 = .slice none 0 0 ∧ F' 5 = .bool false ∧ F' 6 = yq ∧ F' 7 = yr ∧ F' 16 = .bool false ∧ F' 21 = .bool false) ⟨e0, e1, e4, e5, e6, e7, e16, rfl⟩ ?_
    clear e0 e1 e4 e5 e6 e7 e16
    clear F
    rintro F ⟨e0, e1, e4, e5, e6, e7, e16, e21⟩
    refine wp_cond_false (fr_eval rfl e21) ?_
    refine wp_exit ?_
    refine then_exit ?_
    refine then_exit ?_
    refine blk_exit ?_
    refine then_n ?_
    refine wp_seq ?_
    rw [show q = pathT (l.map leafS) a0 from (pa3.trans (by rw [pathT_end (by omega), List.append_nil])).symm] at hH
    refine wp_regionF ?_
    refine lf_val (v := yq) (wantAll rfl) (rv_move rfl (fr_eval rfl e6)) ?_
    refine lf_val (v := yq) (wantAll rfl) (rv_assign rfl (fr_eval rfl rfl)) ?_
    refine lf_val (v := .bool true) (wantAll rfl) (rv_assign rfl rfl) ?_
    refine lf_nil ?_
    refine then_n ?_
    refine wp_gen (fun F' => F' 0 = .int .i64 ((a : Nat) : Int) ∧ F' 1 = v ∧ F' 4 = yq ∧ F' 5 = .bool true ∧ F' 6 = yq ∧ F' 7 = yr ∧ F' 16 = .bool false ∧ F' 21 = .bool false) ⟨e0, e1, rfl, rfl, e6, e7, e16, e21⟩ ?_
    clear e0 e1 e4 e5 e6 e7 e16 e21
    clear F
    rintro F ⟨e0, e1, e4, e5, e6, e7, e16, e21⟩
    refine wp_ret ?_
    exact bodyPost_ret (v := .tuple #[yq, .bool true]) (res2 rfl (ro_tmp rfl e4) (ro_tmp rfl e5)) rfl (⟨⟨_, rfl, hH.own (i := 1) rfl, hH.ge (i := 1) rfl⟩, hH.done⟩)

end Go.Proofs.Ytokddhidcjkadaa
