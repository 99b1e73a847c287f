/- Receipts: the walks of the program's functions on them. -/
import Derived.Test.YtjgcjddaladgfaaRcpt
import Derived.Test.YtjgcjddaladgfaaNums
namespace Go.Proofs.Ytjgcjddaladgfaa
open Go.RowKit Go.Bz Go.Bz.Wire Go.Bz.Rcpt
attribute [local irreducible] wpList Code.wp wpAnyX
deriving instance DecidableEq for Go.Bz.Rcpt.Rc
theorem in3 {a b c : Int} (h1 : inI a) (h2 : inI b) (h3 : inI c) : ∀ i, i < List.length [a, b, c] → -9223372036854775808 ≤ List.getD [a, b, c] i 0 ∧ List.getD [a, b, c] i 0 ≤ 9223372036854775807 := fun i hi => by
  match i, hi with
  | 0, _ => exact h1
  | 1, _ => exact h2
  | 2, _ => exact h3
def inRc (r : Rc) : Prop := inI r.t ∧ inI r.c ∧ inI r.s
theorem inR_in {r : Rc} (h : inR r) : inRc r := by unfold inR at h; unfold inRc inI; omega

set_option maxRecDepth 100000 in
set_option maxHeartbeats 4000000 in
theorem rcRight_calls (r : Rc) (w : World) :
    Calls Try.prog 34 #[.agg (([.int .i64 r.t, .int .i64 r.c, .int .i64 r.s] : List Value) ++ (cBs r.h.1 ++ cBs r.b.1)).toArray] w fun e'' w' => e'' = .returned (.bool (decide (inR r))) ∧ Ext w w' := by
  refine calls_fr (args := [.agg (([.int .i64 r.t, .int .i64 r.c, .int .i64 r.s] : List Value) ++ (cBs r.h.1 ++ cBs r.b.1)).toArray]) (n := 31) Try.func34 rfl rfl (show 1 ≤ 31 by decide) ?_
  have hH : Heap (newN w) w w [] := Heap.fresh
  refine wp_seq ?_
  refine wp_gen (fun F' => F' 0 = .agg (([.int .i64 r.t, .int .i64 r.c, .int .i64 r.s] : List Value) ++ (cBs r.h.1 ++ cBs r.b.1)).toArray) rfl ?_
  rintro F e0
  refine wp_regionF ?_
  refine lf_ex (wantAll rfl) (hx_box hH 54 (cs := ([.int .i64 r.t, .int .i64 r.c, .int .i64 r.s] : List Value) ++ (cBs r.h.1 ++ cBs r.b.1)) rfl (fr_eval rfl e0) (by rfl)) ?_
  clear hH
  rintro _ w1 ⟨g1, rfl, hH, hx⟩
  replace hH : Heap (newN w) w w1 [oBlk g1 (([.int .i64 r.t, .int .i64 r.c, .int .i64 r.s] : List Value) ++ (cBs r.h.1 ++ cBs r.b.1)) 54] := hH
  clear hx
  refine lf_val (v := .bool false) (wantAll rfl) (rv_assign rfl rfl) ?_
  refine lf_nil ?_
  refine then_n ?_
  refine wp_seq ?_
  refine wp_gen (fun F' => F' 0 = .agg (([.int .i64 r.t, .int .i64 r.c, .int .i64 r.s] : List Value) ++ (cBs r.h.1 ++ cBs r.b.1)).toArray ∧ F' 1 = .pointer (some ⟨g1, 0, none⟩) ∧ F' 2 = .bool false) ⟨e0, rfl, rfl⟩ ?_
  clear e0
  clear F
  rintro F ⟨e0, e1, e2⟩
  refine wp_regionF ?_
  refine lf_val (v := .pointer (some ⟨g1, 0, none⟩)) (wantAll rfl) (rv_fieldAddr (n := 0) rfl (fr_eval rfl e1) Try.underlying54 rfl rfl (by kernel_rfl)) ?_
  refine lf_val (v := .int .i64 r.t) (wantAll rfl) (rv_load1 rfl (hH.blk (i := 0) rfl) (show (([.int .i64 r.t, .int .i64 r.c, .int .i64 r.s] : List Value) ++ (cBs r.h.1 ++ cBs r.b.1))[0]? = some (.int .i64 r.t) from (get_l (C := cBs r.h.1 ++ cBs r.b.1) (show ([.int .i64 r.t, .int .i64 r.c, .int .i64 r.s] : List Value)[0]? = some (.int .i64 r.t) from rfl))) (fr_eval rfl rfl) Try.underlying3 rfl Try.sz3) ?_
  by_cases hc1 : r.t ≥ 0
  · refine lf_val (v := .bool true) (wantAll rfl) (rv_geq rfl (fr_eval rfl rfl) rfl (decide_eq_true (by omega))) ?_
    refine lf_val (v := .bool true) (wantAll rfl) (rv_move rfl (fr_eval rfl rfl)) ?_
    refine lf_val (v := .pointer (some ⟨g1, 0, none⟩)) (wantF (d := 6) rfl (by kernel_rfl) rfl rfl) (rv_fieldAddr (n := 0) rfl (fr_eval rfl e1) Try.underlying54 rfl rfl (by kernel_rfl)) ?_
    refine lf_val (v := .int .i64 r.t) (wantF (d := 6) rfl (by kernel_rfl) rfl rfl) (rv_load1 rfl (hH.blk (i := 0) rfl) (show (([.int .i64 r.t, .int .i64 r.c, .int .i64 r.s] : List Value) ++ (cBs r.h.1 ++ cBs r.b.1))[0]? = some (.int .i64 r.t) from (get_l (C := cBs r.h.1 ++ cBs r.b.1) (show ([.int .i64 r.t, .int .i64 r.c, .int .i64 r.s] : List Value)[0]? = some (.int .i64 r.t) from rfl))) (fr_eval rfl rfl) Try.underlying3 rfl Try.sz3) ?_
    by_cases hc2 : r.t < 16
    · refine lf_val (v := .bool true) (wantF (d := 6) rfl (by kernel_rfl) rfl rfl) (rv_lss rfl (fr_eval rfl rfl) rfl (decide_eq_true (by omega))) ?_
      refine lf_val (v := .bool true) (wantAll rfl) (rv_pickT rfl (fr_eval rfl rfl) (fr_eval rfl rfl)) ?_
      refine lf_val (v := .bool true) (wantAll rfl) (rv_move rfl (fr_eval rfl rfl)) ?_
      refine lf_val (v := .pointer (some ⟨g1, 1, none⟩)) (wantF (d := 11) rfl (by kernel_rfl) rfl rfl) (rv_fieldAddr (n := 0) rfl (fr_eval rfl e1) Try.underlying54 rfl rfl (by kernel_rfl)) ?_
      refine lf_val (v := .int .i64 r.c) (wantF (d := 11) rfl (by kernel_rfl) rfl rfl) (rv_load1 rfl (hH.blk (i := 0) rfl) (show (([.int .i64 r.t, .int .i64 r.c, .int .i64 r.s] : List Value) ++ (cBs r.h.1 ++ cBs r.b.1))[1]? = some (.int .i64 r.c) from (get_l (C := cBs r.h.1 ++ cBs r.b.1) (show ([.int .i64 r.t, .int .i64 r.c, .int .i64 r.s] : List Value)[1]? = some (.int .i64 r.c) from rfl))) (fr_eval rfl rfl) Try.underlying3 rfl Try.sz3) ?_
      by_cases hc3 : r.c ≥ 0
      · refine lf_val (v := .bool true) (wantF (d := 11) rfl (by kernel_rfl) rfl rfl) (rv_geq rfl (fr_eval rfl rfl) rfl (decide_eq_true (by omega))) ?_
        refine lf_val (v := .bool true) (wantAll rfl) (rv_pickT rfl (fr_eval rfl rfl) (fr_eval rfl rfl)) ?_
        refine lf_val (v := .bool true) (wantAll rfl) (rv_move rfl (fr_eval rfl rfl)) ?_
        refine lf_val (v := .pointer (some ⟨g1, 1, none⟩)) (wantF (d := 16) rfl (by kernel_rfl) rfl rfl) (rv_fieldAddr (n := 0) rfl (fr_eval rfl e1) Try.underlying54 rfl rfl (by kernel_rfl)) ?_
        refine lf_val (v := .int .i64 r.c) (wantF (d := 16) rfl (by kernel_rfl) rfl rfl) (rv_load1 rfl (hH.blk (i := 0) rfl) (show (([.int .i64 r.t, .int .i64 r.c, .int .i64 r.s] : List Value) ++ (cBs r.h.1 ++ cBs r.b.1))[1]? = some (.int .i64 r.c) from (get_l (C := cBs r.h.1 ++ cBs r.b.1) (show ([.int .i64 r.t, .int .i64 r.c, .int .i64 r.s] : List Value)[1]? = some (.int .i64 r.c) from rfl))) (fr_eval rfl rfl) Try.underlying3 rfl Try.sz3) ?_
        by_cases hc4 : r.c ≤ 1048576
        · refine lf_val (v := .bool true) (wantF (d := 16) rfl (by kernel_rfl) rfl rfl) (rv_leq rfl (fr_eval rfl rfl) rfl (decide_eq_true (by omega))) ?_
          refine lf_val (v := .bool true) (wantAll rfl) (rv_pickT rfl (fr_eval rfl rfl) (fr_eval rfl rfl)) ?_
          refine lf_val (v := .bool true) (wantAll rfl) (rv_move rfl (fr_eval rfl rfl)) ?_
          refine lf_val (v := .pointer (some ⟨g1, 2, none⟩)) (wantF (d := 21) rfl (by kernel_rfl) rfl rfl) (rv_fieldAddr (n := 0) rfl (fr_eval rfl e1) Try.underlying54 rfl rfl (by kernel_rfl)) ?_
          refine lf_val (v := .int .i64 r.s) (wantF (d := 21) rfl (by kernel_rfl) rfl rfl) (rv_load1 rfl (hH.blk (i := 0) rfl) (show (([.int .i64 r.t, .int .i64 r.c, .int .i64 r.s] : List Value) ++ (cBs r.h.1 ++ cBs r.b.1))[2]? = some (.int .i64 r.s) from (get_l (C := cBs r.h.1 ++ cBs r.b.1) (show ([.int .i64 r.t, .int .i64 r.c, .int .i64 r.s] : List Value)[2]? = some (.int .i64 r.s) from rfl))) (fr_eval rfl rfl) Try.underlying3 rfl Try.sz3) ?_
          by_cases hc5 : r.s ≥ 0
          · refine lf_val (v := .bool true) (wantF (d := 21) rfl (by kernel_rfl) rfl rfl) (rv_geq rfl (fr_eval rfl rfl) rfl (decide_eq_true (by omega))) ?_
            refine lf_val (v := .bool true) (wantAll rfl) (rv_pickT rfl (fr_eval rfl rfl) (fr_eval rfl rfl)) ?_
            refine lf_val (v := .bool true) (wantAll rfl) (rv_move rfl (fr_eval rfl rfl)) ?_
            refine lf_val (v := .pointer (some ⟨g1, 2, none⟩)) (wantF (d := 26) rfl (by kernel_rfl) rfl rfl) (rv_fieldAddr (n := 0) rfl (fr_eval rfl e1) Try.underlying54 rfl rfl (by kernel_rfl)) ?_
            refine lf_val (v := .int .i64 r.s) (wantF (d := 26) rfl (by kernel_rfl) rfl rfl) (rv_load1 rfl (hH.blk (i := 0) rfl) (show (([.int .i64 r.t, .int .i64 r.c, .int .i64 r.s] : List Value) ++ (cBs r.h.1 ++ cBs r.b.1))[2]? = some (.int .i64 r.s) from (get_l (C := cBs r.h.1 ++ cBs r.b.1) (show ([.int .i64 r.t, .int .i64 r.c, .int .i64 r.s] : List Value)[2]? = some (.int .i64 r.s) from rfl))) (fr_eval rfl rfl) Try.underlying3 rfl Try.sz3) ?_
            by_cases hc6 : r.s ≤ 1048576
            · refine lf_val (v := .bool true) (wantF (d := 26) rfl (by kernel_rfl) rfl rfl) (rv_leq rfl (fr_eval rfl rfl) rfl (decide_eq_true (by omega))) ?_
              refine lf_val (v := .bool true) (wantAll rfl) (rv_pickT rfl (fr_eval rfl rfl) (fr_eval rfl rfl)) ?_
              refine lf_val (v := .bool true) (wantAll rfl) (rv_assign rfl (fr_eval rfl rfl)) ?_
              refine lf_nil ?_
              refine then_n ?_
              refine wp_gen (fun F' => F' 0 = .agg (([.int .i64 r.t, .int .i64 r.c, .int .i64 r.s] : List Value) ++ (cBs r.h.1 ++ cBs r.b.1)).toArray ∧ F' 1 = .pointer (some ⟨g1, 0, none⟩) ∧ F' 2 = .bool true) ⟨e0, e1, rfl⟩ ?_
              clear e0 e1 e2
              clear F
              rintro F ⟨e0, e1, e2⟩
              refine wp_ret ?_
              exact bodyPost_ret (v := (.bool true)) (res1 rfl (ro_tmp rfl e2)) rfl (⟨congrArg (fun b => Ending.returned (.bool b)) (decide_eq_true (by unfold inR; omega)).symm, hH.done⟩)
            · refine lf_val (v := .bool false) (wantF (d := 26) rfl (by kernel_rfl) rfl rfl) (rv_leq rfl (fr_eval rfl rfl) rfl (decide_eq_false (by omega))) ?_
              refine lf_val (v := .bool false) (wantAll rfl) (rv_pickT rfl (fr_eval rfl rfl) (fr_eval rfl rfl)) ?_
              refine lf_val (v := .bool false) (wantAll rfl) (rv_assign rfl (fr_eval rfl rfl)) ?_
              refine lf_nil ?_
              refine then_n ?_
              refine wp_gen (fun F' => F' 0 = .agg (([.int .i64 r.t, .int .i64 r.c, .int .i64 r.s] : List Value) ++ (cBs r.h.1 ++ cBs r.b.1)).toArray ∧ F' 1 = .pointer (some ⟨g1, 0, none⟩) ∧ F' 2 = .bool false) ⟨e0, e1, rfl⟩ ?_
              clear e0 e1 e2
              clear F
              rintro F ⟨e0, e1, e2⟩
              refine wp_ret ?_
              exact bodyPost_ret (v := (.bool false)) (res1 rfl (ro_tmp rfl e2)) rfl (⟨congrArg (fun b => Ending.returned (.bool b)) (decide_eq_false (by unfold inR; omega)).symm, hH.done⟩)
          · refine lf_val (v := .bool false) (wantF (d := 21) rfl (by kernel_rfl) rfl rfl) (rv_geq rfl (fr_eval rfl rfl) rfl (decide_eq_false (by omega))) ?_
            refine lf_val (v := .bool false) (wantAll rfl) (rv_pickT rfl (fr_eval rfl rfl) (fr_eval rfl rfl)) ?_
            refine lf_val (v := .bool false) (wantAll rfl) (rv_move rfl (fr_eval rfl rfl)) ?_
            refine lf_not (wantNot (d := 26) rfl (by kernel_rfl) rfl rfl) ?_
            refine lf_not (wantNot (d := 26) rfl (by kernel_rfl) rfl rfl) ?_
            refine lf_not (wantNot (d := 26) rfl (by kernel_rfl) rfl rfl) ?_
            refine lf_val (v := .bool false) (wantAll rfl) (rv_pickF rfl (fr_eval rfl rfl) rfl) ?_
            refine lf_val (v := .bool false) (wantAll rfl) (rv_assign rfl (fr_eval rfl rfl)) ?_
            refine lf_nil ?_
            refine then_n ?_
            refine wp_gen (fun F' => F' 0 = .agg (([.int .i64 r.t, .int .i64 r.c, .int .i64 r.s] : List Value) ++ (cBs r.h.1 ++ cBs r.b.1)).toArray ∧ F' 1 = .pointer (some ⟨g1, 0, none⟩) ∧ F' 2 = .bool false) ⟨e0, e1, rfl⟩ ?_
            clear e0 e1 e2
            clear F
            rintro F ⟨e0, e1, e2⟩
            refine wp_ret ?_
            exact bodyPost_ret (v := (.bool false)) (res1 rfl (ro_tmp rfl e2)) rfl (⟨congrArg (fun b => Ending.returned (.bool b)) (decide_eq_false (by unfold inR; omega)).symm, hH.done⟩)
        · refine lf_val (v := .bool false) (wantF (d := 16) rfl (by kernel_rfl) rfl rfl) (rv_leq rfl (fr_eval rfl rfl) rfl (decide_eq_false (by omega))) ?_
          refine lf_val (v := .bool false) (wantAll rfl) (rv_pickT rfl (fr_eval rfl rfl) (fr_eval rfl rfl)) ?_
          refine lf_val (v := .bool false) (wantAll rfl) (rv_move rfl (fr_eval rfl rfl)) ?_
          refine lf_not (wantNot (d := 21) rfl (by kernel_rfl) rfl rfl) ?_
          refine lf_not (wantNot (d := 21) rfl (by kernel_rfl) rfl rfl) ?_
          refine lf_not (wantNot (d := 21) rfl (by kernel_rfl) rfl rfl) ?_
          refine lf_val (v := .bool false) (wantAll rfl) (rv_pickF rfl (fr_eval rfl rfl) rfl) ?_
          refine lf_val (v := .bool false) (wantAll rfl) (rv_move rfl (fr_eval rfl rfl)) ?_
          refine lf_not (wantNot (d := 26) rfl (by kernel_rfl) rfl rfl) ?_
          refine lf_not (wantNot (d := 26) rfl (by kernel_rfl) rfl rfl) ?_
          refine lf_not (wantNot (d := 26) rfl (by kernel_rfl) rfl rfl) ?_
          refine lf_val (v := .bool false) (wantAll rfl) (rv_pickF rfl (fr_eval rfl rfl) rfl) ?_
          refine lf_val (v := .bool false) (wantAll rfl) (rv_assign rfl (fr_eval rfl rfl)) ?_
          refine lf_nil ?_
          refine then_n ?_
          refine wp_gen (fun F' => F' 0 = .agg (([.int .i64 r.t, .int .i64 r.c, .int .i64 r.s] : List Value) ++ (cBs r.h.1 ++ cBs r.b.1)).toArray ∧ F' 1 = .pointer (some ⟨g1, 0, none⟩) ∧ F' 2 = .bool false) ⟨e0, e1, rfl⟩ ?_
          clear e0 e1 e2
          clear F
          rintro F ⟨e0, e1, e2⟩
          refine wp_ret ?_
          exact bodyPost_ret (v := (.bool false)) (res1 rfl (ro_tmp rfl e2)) rfl (⟨congrArg (fun b => Ending.returned (.bool b)) (decide_eq_false (by unfold inR; omega)).symm, hH.done⟩)
      · refine lf_val (v := .bool false) (wantF (d := 11) rfl (by kernel_rfl) rfl rfl) (rv_geq rfl (fr_eval rfl rfl) rfl (decide_eq_false (by omega))) ?_
        refine lf_val (v := .bool false) (wantAll rfl) (rv_pickT rfl (fr_eval rfl rfl) (fr_eval rfl rfl)) ?_
        refine lf_val (v := .bool false) (wantAll rfl) (rv_move rfl (fr_eval rfl rfl)) ?_
        refine lf_not (wantNot (d := 16) rfl (by kernel_rfl) rfl rfl) ?_
        refine lf_not (wantNot (d := 16) rfl (by kernel_rfl) rfl rfl) ?_
        refine lf_not (wantNot (d := 16) rfl (by kernel_rfl) rfl rfl) ?_
        refine lf_val (v := .bool false) (wantAll rfl) (rv_pickF rfl (fr_eval rfl rfl) rfl) ?_
        refine lf_val (v := .bool false) (wantAll rfl) (rv_move rfl (fr_eval rfl rfl)) ?_
        refine lf_not (wantNot (d := 21) rfl (by kernel_rfl) rfl rfl) ?_
        refine lf_not (wantNot (d := 21) rfl (by kernel_rfl) rfl rfl) ?_
        refine lf_not (wantNot (d := 21) rfl (by kernel_rfl) rfl rfl) ?_
        refine lf_val (v := .bool false) (wantAll rfl) (rv_pickF rfl (fr_eval rfl rfl) rfl) ?_
        refine lf_val (v := .bool false) (wantAll rfl) (rv_move rfl (fr_eval rfl rfl)) ?_
        refine lf_not (wantNot (d := 26) rfl (by kernel_rfl) rfl rfl) ?_
        refine lf_not (wantNot (d := 26) rfl (by kernel_rfl) rfl rfl) ?_
        refine lf_not (wantNot (d := 26) rfl (by kernel_rfl) rfl rfl) ?_
        refine lf_val (v := .bool false) (wantAll rfl) (rv_pickF rfl (fr_eval rfl rfl) rfl) ?_
        refine lf_val (v := .bool false) (wantAll rfl) (rv_assign rfl (fr_eval rfl rfl)) ?_
        refine lf_nil ?_
        refine then_n ?_
        refine wp_gen (fun F' => F' 0 = .agg (([.int .i64 r.t, .int .i64 r.c, .int .i64 r.s] : List Value) ++ (cBs r.h.1 ++ cBs r.b.1)).toArray ∧ F' 1 = .pointer (some ⟨g1, 0, none⟩) ∧ F' 2 = .bool false) ⟨e0, e1, rfl⟩ ?_
        clear e0 e1 e2
        clear F
        rintro F ⟨e0, e1, e2⟩
        refine wp_ret ?_
        exact bodyPost_ret (v := (.bool false)) (res1 rfl (ro_tmp rfl e2)) rfl (⟨congrArg (fun b => Ending.returned (.bool b)) (decide_eq_false (by unfold inR; omega)).symm, hH.done⟩)
    · refine lf_val (v := .bool false) (wantF (d := 6) rfl (by kernel_rfl) rfl rfl) (rv_lss rfl (fr_eval rfl rfl) rfl (decide_eq_false (by omega))) ?_
      refine lf_val (v := .bool false) (wantAll rfl) (rv_pickT rfl (fr_eval rfl rfl) (fr_eval rfl rfl)) ?_
      refine lf_val (v := .bool false) (wantAll rfl) (rv_move rfl (fr_eval rfl rfl)) ?_
      refine lf_not (wantNot (d := 11) rfl (by kernel_rfl) rfl rfl) ?_
      refine lf_not (wantNot (d := 11) rfl (by kernel_rfl) rfl rfl) ?_
      refine lf_not (wantNot (d := 11) rfl (by kernel_rfl) rfl rfl) ?_
      refine lf_val (v := .bool false) (wantAll rfl) (rv_pickF rfl (fr_eval rfl rfl) rfl) ?_
      refine lf_val (v := .bool false) (wantAll rfl) (rv_move rfl (fr_eval rfl rfl)) ?_
      refine lf_not (wantNot (d := 16) rfl (by kernel_rfl) rfl rfl) ?_
      refine lf_not (wantNot (d := 16) rfl (by kernel_rfl) rfl rfl) ?_
      refine lf_not (wantNot (d := 16) rfl (by kernel_rfl) rfl rfl) ?_
      refine lf_val (v := .bool false) (wantAll rfl) (rv_pickF rfl (fr_eval rfl rfl) rfl) ?_
      refine lf_val (v := .bool false) (wantAll rfl) (rv_move rfl (fr_eval rfl rfl)) ?_
      refine lf_not (wantNot (d := 21) rfl (by kernel_rfl) rfl rfl) ?_
      refine lf_not (wantNot (d := 21) rfl (by kernel_rfl) rfl rfl) ?_
      refine lf_not (wantNot (d := 21) rfl (by kernel_rfl) rfl rfl) ?_
      refine lf_val (v := .bool false) (wantAll rfl) (rv_pickF rfl (fr_eval rfl rfl) rfl) ?_
      refine lf_val (v := .bool false) (wantAll rfl) (rv_move rfl (fr_eval rfl rfl)) ?_
      refine lf_not (wantNot (d := 26) rfl (by kernel_rfl) rfl rfl) ?_
      refine lf_not (wantNot (d := 26) rfl (by kernel_rfl) rfl rfl) ?_
      refine lf_not (wantNot (d := 26) rfl (by kernel_rfl) rfl rfl) ?_
      refine lf_val (v := .bool false) (wantAll rfl) (rv_pickF rfl (fr_eval rfl rfl) rfl) ?_
      refine lf_val (v := .bool false) (wantAll rfl) (rv_assign rfl (fr_eval rfl rfl)) ?_
      refine lf_nil ?_
      refine then_n ?_
      refine wp_gen (fun F' => F' 0 = .agg (([.int .i64 r.t, .int .i64 r.c, .int .i64 r.s] : List Value) ++ (cBs r.h.1 ++ cBs r.b.1)).toArray ∧ F' 1 = .pointer (some ⟨g1, 0, none⟩) ∧ F' 2 = .bool false) ⟨e0, e1, rfl⟩ ?_
      clear e0 e1 e2
      clear F
      rintro F ⟨e0, e1, e2⟩
      refine wp_ret ?_
      exact bodyPost_ret (v := (.bool false)) (res1 rfl (ro_tmp rfl e2)) rfl (⟨congrArg (fun b => Ending.returned (.bool b)) (decide_eq_false (by unfold inR; omega)).symm, hH.done⟩)
  · refine lf_val (v := .bool false) (wantAll rfl) (rv_geq rfl (fr_eval rfl rfl) rfl (decide_eq_false (by omega))) ?_
    refine lf_val (v := .bool false) (wantAll rfl) (rv_move rfl (fr_eval rfl rfl)) ?_
    refine lf_not (wantNot (d := 6) rfl (by kernel_rfl) rfl rfl) ?_
    refine lf_not (wantNot (d := 6) rfl (by kernel_rfl) rfl rfl) ?_
    refine lf_not (wantNot (d := 6) rfl (by kernel_rfl) rfl rfl) ?_
    refine lf_val (v := .bool false) (wantAll rfl) (rv_pickF rfl (fr_eval rfl rfl) rfl) ?_
    refine lf_val (v := .bool false) (wantAll rfl) (rv_move rfl (fr_eval rfl rfl)) ?_
    refine lf_not (wantNot (d := 11) rfl (by kernel_rfl) rfl rfl) ?_
    refine lf_not (wantNot (d := 11) rfl (by kernel_rfl) rfl rfl) ?_
    refine lf_not (wantNot (d := 11) rfl (by kernel_rfl) rfl rfl) ?_
    refine lf_val (v := .bool false) (wantAll rfl) (rv_pickF rfl (fr_eval rfl rfl) rfl) ?_
    refine lf_val (v := .bool false) (wantAll rfl) (rv_move rfl (fr_eval rfl rfl)) ?_
    refine lf_not (wantNot (d := 16) rfl (by kernel_rfl) rfl rfl) ?_
    refine lf_not (wantNot (d := 16) rfl (by kernel_rfl) rfl rfl) ?_
    refine lf_not (wantNot (d := 16) rfl (by kernel_rfl) rfl rfl) ?_
    refine lf_val (v := .bool false) (wantAll rfl) (rv_pickF rfl (fr_eval rfl rfl) rfl) ?_
    refine lf_val (v := .bool false) (wantAll rfl) (rv_move rfl (fr_eval rfl rfl)) ?_
    refine lf_not (wantNot (d := 21) rfl (by kernel_rfl) rfl rfl) ?_
    refine lf_not (wantNot (d := 21) rfl (by kernel_rfl) rfl rfl) ?_
    refine lf_not (wantNot (d := 21) rfl (by kernel_rfl) rfl rfl) ?_
    refine lf_val (v := .bool false) (wantAll rfl) (rv_pickF rfl (fr_eval rfl rfl) rfl) ?_
    refine lf_val (v := .bool false) (wantAll rfl) (rv_move rfl (fr_eval rfl rfl)) ?_
    refine lf_not (wantNot (d := 26) rfl (by kernel_rfl) rfl rfl) ?_
    refine lf_not (wantNot (d := 26) rfl (by kernel_rfl) rfl rfl) ?_
    refine lf_not (wantNot (d := 26) rfl (by kernel_rfl) rfl rfl) ?_
    refine lf_val (v := .bool false) (wantAll rfl) (rv_pickF rfl (fr_eval rfl rfl) rfl) ?_
    refine lf_val (v := .bool false) (wantAll rfl) (rv_assign rfl (fr_eval rfl rfl)) ?_
    refine lf_nil ?_
    refine then_n ?_
    refine wp_gen (fun F' => F' 0 = .agg (([.int .i64 r.t, .int .i64 r.c, .int .i64 r.s] : List Value) ++ (cBs r.h.1 ++ cBs r.b.1)).toArray ∧ F' 1 = .pointer (some ⟨g1, 0, none⟩) ∧ F' 2 = .bool false) ⟨e0, e1, rfl⟩ ?_
    clear e0 e1 e2
    clear F
    rintro F ⟨e0, e1, e2⟩
    refine wp_ret ?_
    exact bodyPost_ret (v := (.bool false)) (res1 rfl (ro_tmp rfl e2)) rfl (⟨congrArg (fun b => Ending.returned (.bool b)) (decide_eq_false (by unfold inR; omega)).symm, hH.done⟩)

set_option maxRecDepth 100000 in
set_option maxHeartbeats 4000000 in
theorem rcRight12_calls (r : Rc) (w : World) :
    Calls Try.prog 35 #[.agg (([.int .i64 r.t, .int .i64 r.c, .int .i64 r.s] : List Value) ++ (cBs r.h.1 ++ cBs r.b.1)).toArray] w fun e'' w' => e'' = .returned (.bool (decide (inR r))) ∧ Ext w w' := by
  refine calls_fr (args := [.agg (([.int .i64 r.t, .int .i64 r.c, .int .i64 r.s] : List Value) ++ (cBs r.h.1 ++ cBs r.b.1)).toArray]) (n := 31) Try.func35 rfl rfl (show 1 ≤ 31 by decide) ?_
  have hH : Heap (newN w) w w [] := Heap.fresh
  refine wp_seq ?_
  refine wp_gen (fun F' => F' 0 = .agg (([.int .i64 r.t, .int .i64 r.c, .int .i64 r.s] : List Value) ++ (cBs r.h.1 ++ cBs r.b.1)).toArray) rfl ?_
  rintro F e0
  refine wp_regionF ?_
  refine lf_ex (wantAll rfl) (hx_box hH 54 (cs := ([.int .i64 r.t, .int .i64 r.c, .int .i64 r.s] : List Value) ++ (cBs r.h.1 ++ cBs r.b.1)) rfl (fr_eval rfl e0) (by rfl)) ?_
  clear hH
  rintro _ w1 ⟨g1, rfl, hH, hx⟩
  replace hH : Heap (newN w) w w1 [oBlk g1 (([.int .i64 r.t, .int .i64 r.c, .int .i64 r.s] : List Value) ++ (cBs r.h.1 ++ cBs r.b.1)) 54] := hH
  clear hx
  refine lf_val (v := .bool false) (wantAll rfl) (rv_assign rfl rfl) ?_
  refine lf_nil ?_
  refine then_n ?_
  refine wp_seq ?_
  refine wp_gen (fun F' => F' 0 = .agg (([.int .i64 r.t, .int .i64 r.c, .int .i64 r.s] : List Value) ++ (cBs r.h.1 ++ cBs r.b.1)).toArray ∧ F' 1 = .pointer (some ⟨g1, 0, none⟩) ∧ F' 2 = .bool false) ⟨e0, rfl, rfl⟩ ?_
  clear e0
  clear F
  rintro F ⟨e0, e1, e2⟩
  refine wp_regionF ?_
  refine lf_val (v := .pointer (some ⟨g1, 0, none⟩)) (wantAll rfl) (rv_fieldAddr (n := 0) rfl (fr_eval rfl e1) Try.underlying54 rfl rfl (by kernel_rfl)) ?_
  refine lf_val (v := .int .i64 r.t) (wantAll rfl) (rv_load1 rfl (hH.blk (i := 0) rfl) (show (([.int .i64 r.t, .int .i64 r.c, .int .i64 r.s] : List Value) ++ (cBs r.h.1 ++ cBs r.b.1))[0]? = some (.int .i64 r.t) from (get_l (C := cBs r.h.1 ++ cBs r.b.1) (show ([.int .i64 r.t, .int .i64 r.c, .int .i64 r.s] : List Value)[0]? = some (.int .i64 r.t) from rfl))) (fr_eval rfl rfl) Try.underlying3 rfl Try.sz3) ?_
  by_cases hc1 : r.t ≥ 0
  · refine lf_val (v := .bool true) (wantAll rfl) (rv_geq rfl (fr_eval rfl rfl) rfl (decide_eq_true (by omega))) ?_
    refine lf_val (v := .bool true) (wantAll rfl) (rv_move rfl (fr_eval rfl rfl)) ?_
    refine lf_val (v := .pointer (some ⟨g1, 0, none⟩)) (wantF (d := 6) rfl (by kernel_rfl) rfl rfl) (rv_fieldAddr (n := 0) rfl (fr_eval rfl e1) Try.underlying54 rfl rfl (by kernel_rfl)) ?_
    refine lf_val (v := .int .i64 r.t) (wantF (d := 6) rfl (by kernel_rfl) rfl rfl) (rv_load1 rfl (hH.blk (i := 0) rfl) (show (([.int .i64 r.t, .int .i64 r.c, .int .i64 r.s] : List Value) ++ (cBs r.h.1 ++ cBs r.b.1))[0]? = some (.int .i64 r.t) from (get_l (C := cBs r.h.1 ++ cBs r.b.1) (show ([.int .i64 r.t, .int .i64 r.c, .int .i64 r.s] : List Value)[0]? = some (.int .i64 r.t) from rfl))) (fr_eval rfl rfl) Try.underlying3 rfl Try.sz3) ?_
    by_cases hc2 : r.t < 16
    · refine lf_val (v := .bool true) (wantF (d := 6) rfl (by kernel_rfl) rfl rfl) (rv_lss rfl (fr_eval rfl rfl) rfl (decide_eq_true (by omega))) ?_
      refine lf_val (v := .bool true) (wantAll rfl) (rv_pickT rfl (fr_eval rfl rfl) (fr_eval rfl rfl)) ?_
      refine lf_val (v := .bool true) (wantAll rfl) (rv_move rfl (fr_eval rfl rfl)) ?_
      refine lf_val (v := .pointer (some ⟨g1, 1, none⟩)) (wantF (d := 11) rfl (by kernel_rfl) rfl rfl) (rv_fieldAddr (n := 0) rfl (fr_eval rfl e1) Try.underlying54 rfl rfl (by kernel_rfl)) ?_
      refine lf_val (v := .int .i64 r.c) (wantF (d := 11) rfl (by kernel_rfl) rfl rfl) (rv_load1 rfl (hH.blk (i := 0) rfl) (show (([.int .i64 r.t, .int .i64 r.c, .int .i64 r.s] : List Value) ++ (cBs r.h.1 ++ cBs r.b.1))[1]? = some (.int .i64 r.c) from (get_l (C := cBs r.h.1 ++ cBs r.b.1) (show ([.int .i64 r.t, .int .i64 r.c, .int .i64 r.s] : List Value)[1]? = some (.int .i64 r.c) from rfl))) (fr_eval rfl rfl) Try.underlying3 rfl Try.sz3) ?_
      by_cases hc3 : r.c ≥ 0
      · refine lf_val (v := .bool true) (wantF (d := 11) rfl (by kernel_rfl) rfl rfl) (rv_geq rfl (fr_eval rfl rfl) rfl (decide_eq_true (by omega))) ?_
        refine lf_val (v := .bool true) (wantAll rfl) (rv_pickT rfl (fr_eval rfl rfl) (fr_eval rfl rfl)) ?_
        refine lf_val (v := .bool true) (wantAll rfl) (rv_move rfl (fr_eval rfl rfl)) ?_
        refine lf_val (v := .pointer (some ⟨g1, 1, none⟩)) (wantF (d := 16) rfl (by kernel_rfl) rfl rfl) (rv_fieldAddr (n := 0) rfl (fr_eval rfl e1) Try.underlying54 rfl rfl (by kernel_rfl)) ?_
        refine lf_val (v := .int .i64 r.c) (wantF (d := 16) rfl (by kernel_rfl) rfl rfl) (rv_load1 rfl (hH.blk (i := 0) rfl) (show (([.int .i64 r.t, .int .i64 r.c, .int .i64 r.s] : List Value) ++ (cBs r.h.1 ++ cBs r.b.1))[1]? = some (.int .i64 r.c) from (get_l (C := cBs r.h.1 ++ cBs r.b.1) (show ([.int .i64 r.t, .int .i64 r.c, .int .i64 r.s] : List Value)[1]? = some (.int .i64 r.c) from rfl))) (fr_eval rfl rfl) Try.underlying3 rfl Try.sz3) ?_
        by_cases hc4 : r.c ≤ 1048576
        · refine lf_val (v := .bool true) (wantF (d := 16) rfl (by kernel_rfl) rfl rfl) (rv_leq rfl (fr_eval rfl rfl) rfl (decide_eq_true (by omega))) ?_
          refine lf_val (v := .bool true) (wantAll rfl) (rv_pickT rfl (fr_eval rfl rfl) (fr_eval rfl rfl)) ?_
          refine lf_val (v := .bool true) (wantAll rfl) (rv_move rfl (fr_eval rfl rfl)) ?_
          refine lf_val (v := .pointer (some ⟨g1, 2, none⟩)) (wantF (d := 21) rfl (by kernel_rfl) rfl rfl) (rv_fieldAddr (n := 0) rfl (fr_eval rfl e1) Try.underlying54 rfl rfl (by kernel_rfl)) ?_
          refine lf_val (v := .int .i64 r.s) (wantF (d := 21) rfl (by kernel_rfl) rfl rfl) (rv_load1 rfl (hH.blk (i := 0) rfl) (show (([.int .i64 r.t, .int .i64 r.c, .int .i64 r.s] : List Value) ++ (cBs r.h.1 ++ cBs r.b.1))[2]? = some (.int .i64 r.s) from (get_l (C := cBs r.h.1 ++ cBs r.b.1) (show ([.int .i64 r.t, .int .i64 r.c, .int .i64 r.s] : List Value)[2]? = some (.int .i64 r.s) from rfl))) (fr_eval rfl rfl) Try.underlying3 rfl Try.sz3) ?_
          by_cases hc5 : r.s ≥ 0
          · refine lf_val (v := .bool true) (wantF (d := 21) rfl (by kernel_rfl) rfl rfl) (rv_geq rfl (fr_eval rfl rfl) rfl (decide_eq_true (by omega))) ?_
            refine lf_val (v := .bool true) (wantAll rfl) (rv_pickT rfl (fr_eval rfl rfl) (fr_eval rfl rfl)) ?_
            refine lf_val (v := .bool true) (wantAll rfl) (rv_move rfl (fr_eval rfl rfl)) ?_
            refine lf_val (v := .pointer (some ⟨g1, 2, none⟩)) (wantF (d := 26) rfl (by kernel_rfl) rfl rfl) (rv_fieldAddr (n := 0) rfl (fr_eval rfl e1) Try.underlying54 rfl rfl (by kernel_rfl)) ?_
            refine lf_val (v := .int .i64 r.s) (wantF (d := 26) rfl (by kernel_rfl) rfl rfl) (rv_load1 rfl (hH.blk (i := 0) rfl) (show (([.int .i64 r.t, .int .i64 r.c, .int .i64 r.s] : List Value) ++ (cBs r.h.1 ++ cBs r.b.1))[2]? = some (.int .i64 r.s) from (get_l (C := cBs r.h.1 ++ cBs r.b.1) (show ([.int .i64 r.t, .int .i64 r.c, .int .i64 r.s] : List Value)[2]? = some (.int .i64 r.s) from rfl))) (fr_eval rfl rfl) Try.underlying3 rfl Try.sz3) ?_
            by_cases hc6 : r.s ≤ 1048576
            · refine lf_val (v := .bool true) (wantF (d := 26) rfl (by kernel_rfl) rfl rfl) (rv_leq rfl (fr_eval rfl rfl) rfl (decide_eq_true (by omega))) ?_
              refine lf_val (v := .bool true) (wantAll rfl) (rv_pickT rfl (fr_eval rfl rfl) (fr_eval rfl rfl)) ?_
              refine lf_val (v := .bool true) (wantAll rfl) (rv_assign rfl (fr_eval rfl rfl)) ?_
              refine lf_nil ?_
              refine then_n ?_
              refine wp_gen (fun F' => F' 0 = .agg (([.int .i64 r.t, .int .i64 r.c, .int .i64 r.s] : List Value) ++ (cBs r.h.1 ++ cBs r.b.1)).toArray ∧ F' 1 = .pointer (some ⟨g1, 0, none⟩) ∧ F' 2 = .bool true) ⟨e0, e1, rfl⟩ ?_
              clear e0 e1 e2
              clear F
              rintro F ⟨e0, e1, e2⟩
              refine wp_ret ?_
              exact bodyPost_ret (v := (.bool true)) (res1 rfl (ro_tmp rfl e2)) rfl (⟨congrArg (fun b => Ending.returned (.bool b)) (decide_eq_true (by unfold inR; omega)).symm, hH.done⟩)
            · refine lf_val (v := .bool false) (wantF (d := 26) rfl (by kernel_rfl) rfl rfl) (rv_leq rfl (fr_eval rfl rfl) rfl (decide_eq_false (by omega))) ?_
              refine lf_val (v := .bool false) (wantAll rfl) (rv_pickT rfl (fr_eval rfl rfl) (fr_eval rfl rfl)) ?_
              refine lf_val (v := .bool false) (wantAll rfl) (rv_assign rfl (fr_eval rfl rfl)) ?_
              refine lf_nil ?_
              refine then_n ?_
              refine wp_gen (fun F' => F' 0 = .agg (([.int .i64 r.t, .int .i64 r.c, .int .i64 r.s] : List Value) ++ (cBs r.h.1 ++ cBs r.b.1)).toArray ∧ F' 1 = .pointer (some ⟨g1, 0, none⟩) ∧ F' 2 = .bool false) ⟨e0, e1, rfl⟩ ?_
              clear e0 e1 e2
              clear F
              rintro F ⟨e0, e1, e2⟩
              refine wp_ret ?_
              exact bodyPost_ret (v := (.bool false)) (res1 rfl (ro_tmp rfl e2)) rfl (⟨congrArg (fun b => Ending.returned (.bool b)) (decide_eq_false (by unfold inR; omega)).symm, hH.done⟩)
          · refine lf_val (v := .bool false) (wantF (d := 21) rfl (by kernel_rfl) rfl rfl) (rv_geq rfl (fr_eval rfl rfl) rfl (decide_eq_false (by omega))) ?_
            refine lf_val (v := .bool false) (wantAll rfl) (rv_pickT rfl (fr_eval rfl rfl) (fr_eval rfl rfl)) ?_
            refine lf_val (v := .bool false) (wantAll rfl) (rv_move rfl (fr_eval rfl rfl)) ?_
            refine lf_not (wantNot (d := 26) rfl (by kernel_rfl) rfl rfl) ?_
            refine lf_not (wantNot (d := 26) rfl (by kernel_rfl) rfl rfl) ?_
            refine lf_not (wantNot (d := 26) rfl (by kernel_rfl) rfl rfl) ?_
            refine lf_val (v := .bool false) (wantAll rfl) (rv_pickF rfl (fr_eval rfl rfl) rfl) ?_
            refine lf_val (v := .bool false) (wantAll rfl) (rv_assign rfl (fr_eval rfl rfl)) ?_
            refine lf_nil ?_
            refine then_n ?_
            refine wp_gen (fun F' => F' 0 = .agg (([.int .i64 r.t, .int .i64 r.c, .int .i64 r.s] : List Value) ++ (cBs r.h.1 ++ cBs r.b.1)).toArray ∧ F' 1 = .pointer (some ⟨g1, 0, none⟩) ∧ F' 2 = .bool false) ⟨e0, e1, rfl⟩ ?_
            clear e0 e1 e2
            clear F
            rintro F ⟨e0, e1, e2⟩
            refine wp_ret ?_
            exact bodyPost_ret (v := (.bool false)) (res1 rfl (ro_tmp rfl e2)) rfl (⟨congrArg (fun b => Ending.returned (.bool b)) (decide_eq_false (by unfold inR; omega)).symm, hH.done⟩)
        · refine lf_val (v := .bool false) (wantF (d := 16) rfl (by kernel_rfl) rfl rfl) (rv_leq rfl (fr_eval rfl rfl) rfl (decide_eq_false (by omega))) ?_
          refine lf_val (v := .bool false) (wantAll rfl) (rv_pickT rfl (fr_eval rfl rfl) (fr_eval rfl rfl)) ?_
          refine lf_val (v := .bool false) (wantAll rfl) (rv_move rfl (fr_eval rfl rfl)) ?_
          refine lf_not (wantNot (d := 21) rfl (by kernel_rfl) rfl rfl) ?_
          refine lf_not (wantNot (d := 21) rfl (by kernel_rfl) rfl rfl) ?_
          refine lf_not (wantNot (d := 21) rfl (by kernel_rfl) rfl rfl) ?_
          refine lf_val (v := .bool false) (wantAll rfl) (rv_pickF rfl (fr_eval rfl rfl) rfl) ?_
          refine lf_val (v := .bool false) (wantAll rfl) (rv_move rfl (fr_eval rfl rfl)) ?_
          refine lf_not (wantNot (d := 26) rfl (by kernel_rfl) rfl rfl) ?_
          refine lf_not (wantNot (d := 26) rfl (by kernel_rfl) rfl rfl) ?_
          refine lf_not (wantNot (d := 26) rfl (by kernel_rfl) rfl rfl) ?_
          refine lf_val (v := .bool false) (wantAll rfl) (rv_pickF rfl (fr_eval rfl rfl) rfl) ?_
          refine lf_val (v := .bool false) (wantAll rfl) (rv_assign rfl (fr_eval rfl rfl)) ?_
          refine lf_nil ?_
          refine then_n ?_
          refine wp_gen (fun F' => F' 0 = .agg (([.int .i64 r.t, .int .i64 r.c, .int .i64 r.s] : List Value) ++ (cBs r.h.1 ++ cBs r.b.1)).toArray ∧ F' 1 = .pointer (some ⟨g1, 0, none⟩) ∧ F' 2 = .bool false) ⟨e0, e1, rfl⟩ ?_
          clear e0 e1 e2
          clear F
          rintro F ⟨e0, e1, e2⟩
          refine wp_ret ?_
          exact bodyPost_ret (v := (.bool false)) (res1 rfl (ro_tmp rfl e2)) rfl (⟨congrArg (fun b => Ending.returned (.bool b)) (decide_eq_false (by unfold inR; omega)).symm, hH.done⟩)
      · refine lf_val (v := .bool false) (wantF (d := 11) rfl (by kernel_rfl) rfl rfl) (rv_geq rfl (fr_eval rfl rfl) rfl (decide_eq_false (by omega))) ?_
        refine lf_val (v := .bool false) (wantAll rfl) (rv_pickT rfl (fr_eval rfl rfl) (fr_eval rfl rfl)) ?_
        refine lf_val (v := .bool false) (wantAll rfl) (rv_move rfl (fr_eval rfl rfl)) ?_
        refine lf_not (wantNot (d := 16) rfl (by kernel_rfl) rfl rfl) ?_
        refine lf_not (wantNot (d := 16) rfl (by kernel_rfl) rfl rfl) ?_
        refine lf_not (wantNot (d := 16) rfl (by kernel_rfl) rfl rfl) ?_
        refine lf_val (v := .bool false) (wantAll rfl) (rv_pickF rfl (fr_eval rfl rfl) rfl) ?_
        refine lf_val (v := .bool false) (wantAll rfl) (rv_move rfl (fr_eval rfl rfl)) ?_
        refine lf_not (wantNot (d := 21) rfl (by kernel_rfl) rfl rfl) ?_
        refine lf_not (wantNot (d := 21) rfl (by kernel_rfl) rfl rfl) ?_
        refine lf_not (wantNot (d := 21) rfl (by kernel_rfl) rfl rfl) ?_
        refine lf_val (v := .bool false) (wantAll rfl) (rv_pickF rfl (fr_eval rfl rfl) rfl) ?_
        refine lf_val (v := .bool false) (wantAll rfl) (rv_move rfl (fr_eval rfl rfl)) ?_
        refine lf_not (wantNot (d := 26) rfl (by kernel_rfl) rfl rfl) ?_
        refine lf_not (wantNot (d := 26) rfl (by kernel_rfl) rfl rfl) ?_
        refine lf_not (wantNot (d := 26) rfl (by kernel_rfl) rfl rfl) ?_
        refine lf_val (v := .bool false) (wantAll rfl) (rv_pickF rfl (fr_eval rfl rfl) rfl) ?_
        refine lf_val (v := .bool false) (wantAll rfl) (rv_assign rfl (fr_eval rfl rfl)) ?_
        refine lf_nil ?_
        refine then_n ?_
        refine wp_gen (fun F' => F' 0 = .agg (([.int .i64 r.t, .int .i64 r.c, .int .i64 r.s] : List Value) ++ (cBs r.h.1 ++ cBs r.b.1)).toArray ∧ F' 1 = .pointer (some ⟨g1, 0, none⟩) ∧ F' 2 = .bool false) ⟨e0, e1, rfl⟩ ?_
        clear e0 e1 e2
        clear F
        rintro F ⟨e0, e1, e2⟩
        refine wp_ret ?_
        exact bodyPost_ret (v := (.bool false)) (res1 rfl (ro_tmp rfl e2)) rfl (⟨congrArg (fun b => Ending.returned (.bool b)) (decide_eq_false (by unfold inR; omega)).symm, hH.done⟩)
    · refine lf_val (v := .bool false) (wantF (d := 6) rfl (by kernel_rfl) rfl rfl) (rv_lss rfl (fr_eval rfl rfl) rfl (decide_eq_false (by omega))) ?_
      refine lf_val (v := .bool false) (wantAll rfl) (rv_pickT rfl (fr_eval rfl rfl) (fr_eval rfl rfl)) ?_
      refine lf_val (v := .bool false) (wantAll rfl) (rv_move rfl (fr_eval rfl rfl)) ?_
      refine lf_not (wantNot (d := 11) rfl (by kernel_rfl) rfl rfl) ?_
      refine lf_not (wantNot (d := 11) rfl (by kernel_rfl) rfl rfl) ?_
      refine lf_not (wantNot (d := 11) rfl (by kernel_rfl) rfl rfl) ?_
      refine lf_val (v := .bool false) (wantAll rfl) (rv_pickF rfl (fr_eval rfl rfl) rfl) ?_
      refine lf_val (v := .bool false) (wantAll rfl) (rv_move rfl (fr_eval rfl rfl)) ?_
      refine lf_not (wantNot (d := 16) rfl (by kernel_rfl) rfl rfl) ?_
      refine lf_not (wantNot (d := 16) rfl (by kernel_rfl) rfl rfl) ?_
      refine lf_not (wantNot (d := 16) rfl (by kernel_rfl) rfl rfl) ?_
      refine lf_val (v := .bool false) (wantAll rfl) (rv_pickF rfl (fr_eval rfl rfl) rfl) ?_
      refine lf_val (v := .bool false) (wantAll rfl) (rv_move rfl (fr_eval rfl rfl)) ?_
      refine lf_not (wantNot (d := 21) rfl (by kernel_rfl) rfl rfl) ?_
      refine lf_not (wantNot (d := 21) rfl (by kernel_rfl) rfl rfl) ?_
      refine lf_not (wantNot (d := 21) rfl (by kernel_rfl) rfl rfl) ?_
      refine lf_val (v := .bool false) (wantAll rfl) (rv_pickF rfl (fr_eval rfl rfl) rfl) ?_
      refine lf_val (v := .bool false) (wantAll rfl) (rv_move rfl (fr_eval rfl rfl)) ?_
      refine lf_not (wantNot (d := 26) rfl (by kernel_rfl) rfl rfl) ?_
      refine lf_not (wantNot (d := 26) rfl (by kernel_rfl) rfl rfl) ?_
      refine lf_not (wantNot (d := 26) rfl (by kernel_rfl) rfl rfl) ?_
      refine lf_val (v := .bool false) (wantAll rfl) (rv_pickF rfl (fr_eval rfl rfl) rfl) ?_
      refine lf_val (v := .bool false) (wantAll rfl) (rv_assign rfl (fr_eval rfl rfl)) ?_
      refine lf_nil ?_
      refine then_n ?_
      refine wp_gen (fun F' => F' 0 = .agg (([.int .i64 r.t, .int .i64 r.c, .int .i64 r.s] : List Value) ++ (cBs r.h.1 ++ cBs r.b.1)).toArray ∧ F' 1 = .pointer (some ⟨g1, 0, none⟩) ∧ F' 2 = .bool false) ⟨e0, e1, rfl⟩ ?_
      clear e0 e1 e2
      clear F
      rintro F ⟨e0, e1, e2⟩
      refine wp_ret ?_
      exact bodyPost_ret (v := (.bool false)) (res1 rfl (ro_tmp rfl e2)) rfl (⟨congrArg (fun b => Ending.returned (.bool b)) (decide_eq_false (by unfold inR; omega)).symm, hH.done⟩)
  · refine lf_val (v := .bool false) (wantAll rfl) (rv_geq rfl (fr_eval rfl rfl) rfl (decide_eq_false (by omega))) ?_
    refine lf_val (v := .bool false) (wantAll rfl) (rv_move rfl (fr_eval rfl rfl)) ?_
    refine lf_not (wantNot (d := 6) rfl (by kernel_rfl) rfl rfl) ?_
    refine lf_not (wantNot (d := 6) rfl (by kernel_rfl) rfl rfl) ?_
    refine lf_not (wantNot (d := 6) rfl (by kernel_rfl) rfl rfl) ?_
    refine lf_val (v := .bool false) (wantAll rfl) (rv_pickF rfl (fr_eval rfl rfl) rfl) ?_
    refine lf_val (v := .bool false) (wantAll rfl) (rv_move rfl (fr_eval rfl rfl)) ?_
    refine lf_not (wantNot (d := 11) rfl (by kernel_rfl) rfl rfl) ?_
    refine lf_not (wantNot (d := 11) rfl (by kernel_rfl) rfl rfl) ?_
    refine lf_not (wantNot (d := 11) rfl (by kernel_rfl) rfl rfl) ?_
    refine lf_val (v := .bool false) (wantAll rfl) (rv_pickF rfl (fr_eval rfl rfl) rfl) ?_
    refine lf_val (v := .bool false) (wantAll rfl) (rv_move rfl (fr_eval rfl rfl)) ?_
    refine lf_not (wantNot (d := 16) rfl (by kernel_rfl) rfl rfl) ?_
    refine lf_not (wantNot (d := 16) rfl (by kernel_rfl) rfl rfl) ?_
    refine lf_not (wantNot (d := 16) rfl (by kernel_rfl) rfl rfl) ?_
    refine lf_val (v := .bool false) (wantAll rfl) (rv_pickF rfl (fr_eval rfl rfl) rfl) ?_
    refine lf_val (v := .bool false) (wantAll rfl) (rv_move rfl (fr_eval rfl rfl)) ?_
    refine lf_not (wantNot (d := 21) rfl (by kernel_rfl) rfl rfl) ?_
    refine lf_not (wantNot (d := 21) rfl (by kernel_rfl) rfl rfl) ?_
    refine lf_not (wantNot (d := 21) rfl (by kernel_rfl) rfl rfl) ?_
    refine lf_val (v := .bool false) (wantAll rfl) (rv_pickF rfl (fr_eval rfl rfl) rfl) ?_
    refine lf_val (v := .bool false) (wantAll rfl) (rv_move rfl (fr_eval rfl rfl)) ?_
    refine lf_not (wantNot (d := 26) rfl (by kernel_rfl) rfl rfl) ?_
    refine lf_not (wantNot (d := 26) rfl (by kernel_rfl) rfl rfl) ?_
    refine lf_not (wantNot (d := 26) rfl (by kernel_rfl) rfl rfl) ?_
    refine lf_val (v := .bool false) (wantAll rfl) (rv_pickF rfl (fr_eval rfl rfl) rfl) ?_
    refine lf_val (v := .bool false) (wantAll rfl) (rv_assign rfl (fr_eval rfl rfl)) ?_
    refine lf_nil ?_
    refine then_n ?_
    refine wp_gen (fun F' => F' 0 = .agg (([.int .i64 r.t, .int .i64 r.c, .int .i64 r.s] : List Value) ++ (cBs r.h.1 ++ cBs r.b.1)).toArray ∧ F' 1 = .pointer (some ⟨g1, 0, none⟩) ∧ F' 2 = .bool false) ⟨e0, e1, rfl⟩ ?_
    clear e0 e1 e2
    clear F
    rintro F ⟨e0, e1, e2⟩
    refine wp_ret ?_
    exact bodyPost_ret (v := (.bool false)) (res1 rfl (ro_tmp rfl e2)) rfl (⟨congrArg (fun b => Ending.returned (.bool b)) (decide_eq_false (by unfold inR; omega)).symm, hH.done⟩)

set_option maxRecDepth 100000 in
set_option maxHeartbeats 4000000 in
theorem rcText_calls (r : Rc) (hr : inRc r) (w : World) :
    Calls Try.prog 33 #[.agg (([.int .i64 r.t, .int .i64 r.c, .int .i64 r.s] : List Value) ++ (cBs r.h.1 ++ cBs r.b.1)).toArray] w fun e'' w' => (∃ v', e'' = .returned v' ∧ OwnB w' v' (textR r) ∧ ∀ k, v'.ownBlock = some k → w.heap.size ≤ k) ∧ Ext w w' := by
  refine calls_fr (args := [.agg (([.int .i64 r.t, .int .i64 r.c, .int .i64 r.s] : List Value) ++ (cBs r.h.1 ++ cBs r.b.1)).toArray]) (n := 19) Try.func33 rfl rfl (show 1 ≤ 19 by decide) ?_
  obtain ⟨⟨h1, h2⟩, ⟨h3, h4⟩, ⟨h5, h6⟩⟩ := hr
  have l1 := put_len r.t
  have l2 := put_len r.c
  have l3 := put_len r.s
  have hH : Heap (newN w) w w [] := Heap.fresh
  refine wp_seq ?_
  refine wp_gen (fun F' => F' 0 = .agg (([.int .i64 r.t, .int .i64 r.c, .int .i64 r.s] : List Value) ++ (cBs r.h.1 ++ cBs r.b.1)).toArray) rfl ?_
  rintro F e0
  refine wp_regionF ?_
  refine lf_ex (wantAll rfl) (hx_box hH 54 (cs := ([.int .i64 r.t, .int .i64 r.c, .int .i64 r.s] : List Value) ++ (cBs r.h.1 ++ cBs r.b.1)) rfl (fr_eval rfl e0) (by rfl)) ?_
  clear hH
  rintro _ w1 ⟨g1, rfl, hH, hx⟩
  replace hH : Heap (newN w) w w1 [oBlk g1 (([.int .i64 r.t, .int .i64 r.c, .int .i64 r.s] : List Value) ++ (cBs r.h.1 ++ cBs r.b.1)) 54] := hH
  clear hx
  refine lf_val (v := .slice none 0 0) (wantAll rfl) (rv_assign rfl rfl) ?_
  refine lf_nil ?_
  refine then_n ?_
  refine wp_seq ?_
  refine wp_gen (fun F' => F' 0 = .agg (([.int .i64 r.t, .int .i64 r.c, .int .i64 r.s] : List Value) ++ (cBs r.h.1 ++ cBs r.b.1)).toArray ∧ F' 1 = .pointer (some ⟨g1, 0, none⟩) ∧ F' 2 = .slice none 0 0) ⟨e0, rfl, rfl⟩ ?_
  clear e0
  clear F
  rintro F ⟨e0, e1, e2⟩
  refine wp_regionF ?_
  refine lf_ex (wantAll rfl) (hx_alloc hH 50 (z := .agg ([.slice none 0 0]).toArray) (n := 1) (cs := [.slice none 0 0]) rfl (by kernel_rfl) (by rfl)) ?_
  clear hH
  rintro _ w2 ⟨g2, rfl, hH, hx⟩
  replace hH : Heap (newN w) w w2 [oBlk g1 (([.int .i64 r.t, .int .i64 r.c, .int .i64 r.s] : List Value) ++ (cBs r.h.1 ++ cBs r.b.1)) 54, oBlk g2 ([.slice none 0 0]) 50] := hH
  clear hx
  refine lf_nil ?_
  refine then_n ?_
  refine wp_seq ?_
  refine wp_gen (fun F' => F' 0 = .agg (([.int .i64 r.t, .int .i64 r.c, .int .i64 r.s] : List Value) ++ (cBs r.h.1 ++ cBs r.b.1)).toArray ∧ F' 1 = .pointer (some ⟨g1, 0, none⟩) ∧ F' 2 = .slice none 0 0 ∧ F' 3 = .pointer (some ⟨g2, 0, none⟩)) ⟨e0, e1, e2, rfl⟩ ?_
  clear e0 e1 e2
  clear F
  rintro F ⟨e0, e1, e2, e3⟩
  replace hH : Heap (newN w) w w2 [oBlk g1 (([.int .i64 r.t, .int .i64 r.c, .int .i64 r.s] : List Value) ++ (cBs r.h.1 ++ cBs r.b.1)) 54, oPen g2 (.slice none 0 0) []] := hH.toPen (i := 1) rfl rfl
  have hs_1 := hH.fixed1 (j := 0) (i := 1) rfl rfl (by decide)
  have hKN := hH.sub1 (i := 1) rfl
  have hcK : Chg (newK w2 (oPen g2 (.slice none 0 0) []).fp) w2 w2 := Chg.refl _ _
  have hfM : ∀ k, (oPen g2 (.slice none 0 0) []).fp k → (newK w2 (oPen g2 (.slice none 0 0) []).fp) k := fun k h => Or.inr h
  refine wp_regionX (newK w2 (oPen g2 (.slice none 0 0) []).fp) 13 (by kernel_rfl) (by kernel_rfl) ?_
  refine xl_take (i := 0) (v := .pointer (some ⟨g1, 0, none⟩)) rfl (by kernel_rfl) (by kernel_rfl) (by kernel_rfl) (by kernel_rfl) (yx_val (wantAll rfl) (fun w' hx' => rv_fieldAddr (n := 0) rfl (fr_eval rfl e1) Try.underlying54 rfl rfl (by kernel_rfl))) ?_
  refine xl_take (i := 1) (v := .int .i64 r.t) rfl (by kernel_rfl) (by kernel_rfl) (by kernel_rfl) (by kernel_rfl) (yx_val (wantAll rfl) (fun w' hx' => rv_load1 rfl (hs_1 _ (hcK.trans hx')) (show (([.int .i64 r.t, .int .i64 r.c, .int .i64 r.s] : List Value) ++ (cBs r.h.1 ++ cBs r.b.1))[0]? = some (.int .i64 r.t) from (get_l (C := cBs r.h.1 ++ cBs r.b.1) (show ([.int .i64 r.t, .int .i64 r.c, .int .i64 r.s] : List Value)[0]? = some (.int .i64 r.t) from rfl))) (fr_eval rfl rfl) Try.underlying3 rfl Try.sz3)) ?_
  refine xl_take (i := 2) (v := .pointer (some ⟨g1, 1, none⟩)) rfl (by kernel_rfl) (by kernel_rfl) (by kernel_rfl) (by kernel_rfl) (yx_val (wantAll rfl) (fun w' hx' => rv_fieldAddr (n := 0) rfl (fr_eval rfl e1) Try.underlying54 rfl rfl (by kernel_rfl))) ?_
  refine xl_take (i := 3) (v := .int .i64 r.c) rfl (by kernel_rfl) (by kernel_rfl) (by kernel_rfl) (by kernel_rfl) (yx_val (wantAll rfl) (fun w' hx' => rv_load1 rfl (hs_1 _ (hcK.trans hx')) (show (([.int .i64 r.t, .int .i64 r.c, .int .i64 r.s] : List Value) ++ (cBs r.h.1 ++ cBs r.b.1))[1]? = some (.int .i64 r.c) from (get_l (C := cBs r.h.1 ++ cBs r.b.1) (show ([.int .i64 r.t, .int .i64 r.c, .int .i64 r.s] : List Value)[1]? = some (.int .i64 r.c) from rfl))) (fr_eval rfl rfl) Try.underlying3 rfl Try.sz3)) ?_
  refine xl_take (i := 4) (v := .pointer (some ⟨g1, 2, none⟩)) rfl (by kernel_rfl) (by kernel_rfl) (by kernel_rfl) (by kernel_rfl) (yx_val (wantAll rfl) (fun w' hx' => rv_fieldAddr (n := 0) rfl (fr_eval rfl e1) Try.underlying54 rfl rfl (by kernel_rfl))) ?_
  refine xl_take (i := 5) (v := .int .i64 r.s) rfl (by kernel_rfl) (by kernel_rfl) (by kernel_rfl) (by kernel_rfl) (yx_val (wantAll rfl) (fun w' hx' => rv_load1 rfl (hs_1 _ (hcK.trans hx')) (show (([.int .i64 r.t, .int .i64 r.c, .int .i64 r.s] : List Value) ++ (cBs r.h.1 ++ cBs r.b.1))[2]? = some (.int .i64 r.s) from (get_l (C := cBs r.h.1 ++ cBs r.b.1) (show ([.int .i64 r.t, .int .i64 r.c, .int .i64 r.s] : List Value)[2]? = some (.int .i64 r.s) from rfl))) (fr_eval rfl rfl) Try.underlying3 rfl Try.sz3)) ?_
  refine xl_take (i := 8) (v := .pointer (some ⟨g1, 3, none⟩)) rfl (by kernel_rfl) (by kernel_rfl) (by kernel_rfl) (by kernel_rfl) (yx_val (wantAll rfl) (fun w' hx' => rv_fieldAddr (n := 31) rfl (fr_eval rfl e1) Try.underlying54 rfl rfl (by kernel_rfl))) ?_
  refine xl_take (i := 9) (v := .agg (cBs r.h.1).toArray) rfl (by kernel_rfl) (by kernel_rfl) (by kernel_rfl) (by kernel_rfl) (yx_val (wantAll rfl) (fun w' hx' => rv_loadP rfl (hs_1 _ (hcK.trans hx')) (show List.take 32 (List.drop 3 ([.int .i64 r.t, .int .i64 r.c, .int .i64 r.s] ++ ((cBs r.h.1) ++ (cBs r.b.1)))) = cBs r.h.1 from part_app (show List.length [.int .i64 r.t, .int .i64 r.c, .int .i64 r.s] = 3 from rfl) (cBs_len r.h.2)) (cBs_len r.h.2) (fr_eval rfl rfl) Try.underlying45 rfl Try.sz45)) ?_
  refine xl_take (i := 11) (v := .pointer (some ⟨g1, 35, none⟩)) rfl (by kernel_rfl) (by kernel_rfl) (by kernel_rfl) (by kernel_rfl) (yx_val (wantAll rfl) (fun w' hx' => rv_fieldAddr (n := 31) rfl (fr_eval rfl e1) Try.underlying54 rfl rfl (by kernel_rfl))) ?_
  refine xl_take (i := 12) (v := .agg (cBs r.b.1).toArray) rfl (by kernel_rfl) (by kernel_rfl) (by kernel_rfl) (by kernel_rfl) (yx_val (wantAll rfl) (fun w' hx' => rv_loadP rfl (hs_1 _ (hcK.trans hx')) (part_of (cs := ([.int .i64 r.t, .int .i64 r.c, .int .i64 r.s] : List Value) ++ (cBs r.h.1 ++ cBs r.b.1)) (A := (([.int .i64 r.t, .int .i64 r.c, .int .i64 r.s] : List Value) ++ cBs r.h.1 : List Value)) (D := (cBs r.b.1 : List Value)) (C := ([] : List Value)) (by simp only [List.append_assoc, List.cons_append, List.nil_append, List.append_nil]) (len_app (m := 3) (n := 32) (k := 35) rfl (cBs_len r.h.2) rfl) (cBs_len r.b.2)) (cBs_len r.b.2) (fr_eval rfl rfl) Try.underlying45 rfl Try.sz45)) ?_
  refine anyX_ready (rs := [6]) (by kernel_rfl) ?_
  intro w3 hx
  replace hH := hH.ext hx
  replace hcK := hcK.trans (Ext.any hx)
  clear hx
  refine (anyX_cons ?_ anyX_nil)
  refine xl_step (i := 6) rfl (wantAll rfl) ?_
  refine of_ex (hx_lits hH Try.stInt (n := 3) (nm := List.length [r.t, r.c, r.s]) [(.tmp 5), (.tmp 7), (.tmp 9)] (vs := [(.int .i64 r.t), (.int .i64 r.c), (.int .i64 r.s)]) (cs := List.flatMap cI [r.t, r.c, r.s]) rfl (evc (fr_eval rfl rfl) (evc (fr_eval rfl rfl) (evc (fr_eval rfl rfl) evn))) (row_one (l := [r.t, r.c, r.s]) cI_one) rfl (by decide) rfl rfl) ?_
  clear hH
  rintro y1 w4 ⟨hH, hx⟩
  replace hH : Heap (newN w) w w4 [oBlk g1 (([.int .i64 r.t, .int .i64 r.c, .int .i64 r.s] : List Value) ++ (cBs r.h.1 ++ cBs r.b.1)) 54, oPen g2 (.slice none 0 0) [], oRow cI 3 1 y1 [r.t, r.c, r.s]] := hH
  replace hcK := hcK.trans (Ext.any hx)
  refine ⟨(Ext.any hx), ?_⟩
  clear hx
  refine anyX_ready (rs := [7]) (by kernel_rfl) ?_
  intro w5 hx
  replace hH := hH.ext hx
  replace hcK := hcK.trans (Ext.any hx)
  clear hx
  refine (anyX_cons ?_ anyX_nil)
  refine xl_step (i := 7) rfl (wantAll rfl) ?_
  refine of_call (rv_call (args := [.pointer (some ⟨g2, 0, none⟩), y1]) rfl (evc (fr_eval rfl e3) (evc (fr_eval rfl rfl) evn)) Try.call27) (penNums_calls (in3 ⟨h1, h2⟩ ⟨h3, h4⟩ ⟨h5, h6⟩) _ (Own.rd (hH.own (i := 2) rfl) (row_one cI_one)) (fun k hk h0 e => apart_at hH.apart (i := 2) (j := 1) rfl rfl (by decide) k hk (Or.inl e)) (fun k hk h0 h => apart_at hH.apart (i := 2) (j := 1) rfl rfl (by decide) k hk (Or.inr h)) (hH.pen (i := 1) rfl) (by have := puts_len [r.t, r.c, r.s]; simp only [List.length_append, List.length_cons, List.length_nil, r.h.2, r.b.2] at *; omega)) ?_
  rintro _ w6 ⟨rfl, hp⟩
  refine ⟨_, rfl, ?_⟩
  obtain ⟨y2, hH', hx, hxf, hgr⟩ := hH.penPost (i := 1) (l2 := puts [r.t, r.c, r.s]) rfl (fun _ => rfl) hp
  clear hH hp
  have hH : Heap (newN w) w w6 [oBlk g1 (([.int .i64 r.t, .int .i64 r.c, .int .i64 r.s] : List Value) ++ (cBs r.h.1 ++ cBs r.b.1)) 54, oPen g2 y2 (puts [r.t, r.c, r.s]), oRow cI 3 1 y1 [r.t, r.c, r.s]] := hH'
  clear hH'
  have hcx := hxf.mono (fun k _ hk => hfM k hk)
  replace hfM := grow1 (fun k h => Or.inl h) hcK.size hfM hgr
  replace hcK := hcK.trans hcx
  refine ⟨hcx, ?_⟩
  clear hcx hxf hgr hx
  refine anyX_ready (rs := [10]) (by kernel_rfl) ?_
  intro w7 hx
  replace hH := hH.ext hx
  replace hcK := hcK.trans (Ext.any hx)
  clear hx
  refine (anyX_cons ?_ anyX_nil)
  refine xl_step (i := 10) rfl (wantAll rfl) ?_
  refine of_call (rv_call (args := [.pointer (some ⟨g2, 0, none⟩), .agg (cBs r.h.1).toArray]) rfl (evc (fr_eval rfl rfl) (evc (fr_eval rfl rfl) evn)) Try.call26) (penSum_calls r.h.1 r.h.2 _ (hH.pen (i := 1) rfl) (by have := puts_len [r.t, r.c, r.s]; simp only [List.length_append, List.length_cons, List.length_nil, r.h.2, r.b.2] at *; omega)) ?_
  rintro _ w8 ⟨rfl, hp⟩
  refine ⟨_, rfl, ?_⟩
  obtain ⟨y3, hH', hx, hxf, hgr⟩ := hH.penPost (i := 1) (l2 := puts [r.t, r.c, r.s] ++ r.h.1) rfl (fun _ => rfl) hp
  clear hH hp
  have hH : Heap (newN w) w w8 [oBlk g1 (([.int .i64 r.t, .int .i64 r.c, .int .i64 r.s] : List Value) ++ (cBs r.h.1 ++ cBs r.b.1)) 54, oPen g2 y3 (puts [r.t, r.c, r.s] ++ r.h.1), oRow cI 3 1 y1 [r.t, r.c, r.s]] := hH'
  clear hH'
  have hcx := hxf.mono (fun k _ hk => hfM k hk)
  replace hfM := grow1 (fun k h => Or.inl h) hcK.size hfM hgr
  replace hcK := hcK.trans hcx
  refine ⟨hcx, ?_⟩
  clear hcx hxf hgr hx
  refine xl_tail (s := 13) rfl ?_
  intro w9 hx
  replace hH := hH.ext hx
  clear hx
  clear hs_1 hKN hcK hfM
  refine lf_call (wantAll rfl) (rv_call (args := [.pointer (some ⟨g2, 0, none⟩), .agg (cBs r.b.1).toArray]) rfl (evc (fr_eval rfl rfl) (evc (fr_eval rfl rfl) evn)) Try.call26) (penSum_calls r.b.1 r.b.2 _ (hH.pen (i := 1) rfl) (by have := puts_len [r.t, r.c, r.s]; simp only [List.length_append, List.length_cons, List.length_nil, r.h.2, r.b.2] at *; omega)) ?_
  rintro _ w10 ⟨rfl, hp⟩
  refine ⟨_, rfl, ?_⟩
  obtain ⟨y4, hH', hx, hxf, hgr⟩ := hH.penPost (i := 1) (l2 := puts [r.t, r.c, r.s] ++ r.h.1 ++ r.b.1) rfl (fun _ => rfl) hp
  clear hH hp
  have hH : Heap (newN w) w w10 [oBlk g1 (([.int .i64 r.t, .int .i64 r.c, .int .i64 r.s] : List Value) ++ (cBs r.h.1 ++ cBs r.b.1)) 54, oPen g2 y4 (puts [r.t, r.c, r.s] ++ r.h.1 ++ r.b.1), oRow cI 3 1 y1 [r.t, r.c, r.s]] := hH'
  clear hH'
  clear hxf hgr hx
  refine lf_call (wantAll rfl) (rv_call (args := [.pointer (some ⟨g2, 0, none⟩)]) rfl (evc (fr_eval rfl rfl) evn) Try.call28) (penBytes_calls _ (hH.pen (i := 1) rfl) (by have := puts_len [r.t, r.c, r.s]; simp only [List.length_append, List.length_cons, List.length_nil, r.h.2, r.b.2] at *; omega)) ?_
  rintro _ w11 ⟨⟨y5, rfl, ho, hg⟩, hx⟩
  refine ⟨_, rfl, ?_⟩
  replace hH : Heap (newN w) w w11 [oBlk g1 (([.int .i64 r.t, .int .i64 r.c, .int .i64 r.s] : List Value) ++ (cBs r.h.1 ++ cBs r.b.1)) 54, oPen g2 y4 (puts [r.t, r.c, r.s] ++ r.h.1 ++ r.b.1), oRow cI 3 1 y1 [r.t, r.c, r.s], oB y5 (puts [r.t, r.c, r.s] ++ r.h.1 ++ r.b.1)] := hH.addOwn hx hg ho
  clear ho hg
  clear hx
  refine lf_val (v := y5) (wantAll rfl) (rv_assign rfl (fr_eval rfl rfl)) ?_
  refine lf_nil ?_
  refine then_n ?_
  replace hH : Heap (newN w) w w11 [oBlk g1 (([.int .i64 r.t, .int .i64 r.c, .int .i64 r.s] : List Value) ++ (cBs r.h.1 ++ cBs r.b.1)) 54, oPen g2 y4 (puts [r.t, r.c, r.s] ++ r.h.1 ++ r.b.1), oB y5 (puts [r.t, r.c, r.s] ++ r.h.1 ++ r.b.1)] := hH.drop (.cons_cons _ (.cons_cons _ (.cons _ (.cons_cons _ .slnil))))
  refine wp_gen (fun F' => F' 0 = .agg (([.int .i64 r.t, .int .i64 r.c, .int .i64 r.s] : List Value) ++ (cBs r.h.1 ++ cBs r.b.1)).toArray ∧ F' 1 = .pointer (some ⟨g1, 0, none⟩) ∧ F' 2 = y5 ∧ F' 3 = .pointer (some ⟨g2, 0, none⟩)) ⟨e0, e1, rfl, e3⟩ ?_
  clear e0 e1 e2 e3
  clear F
  rintro F ⟨e0, e1, e2, e3⟩
  refine wp_ret ?_
  exact bodyPost_ret (v := y5) (res1 rfl (ro_tmp rfl e2)) rfl (⟨⟨_, rfl, (by have h := hH.own (i := 2) rfl; have e : puts [r.t, r.c, r.s] ++ r.h.1 ++ r.b.1 = textR r := textR_puts r; rw [e] at h; exact h), hH.ge (i := 2) rfl⟩, hH.done⟩)

set_option maxRecDepth 100000 in
set_option maxHeartbeats 4000000 in
theorem rcText12_calls (r : Rc) (hr : inRc r) (w : World) :
    Calls Try.prog 32 #[.agg (([.int .i64 r.t, .int .i64 r.c, .int .i64 r.s] : List Value) ++ (cBs r.h.1 ++ cBs r.b.1)).toArray] w fun e'' w' => (∃ v', e'' = .returned v' ∧ OwnB w' v' (textR r) ∧ ∀ k, v'.ownBlock = some k → w.heap.size ≤ k) ∧ Ext w w' := by
  refine calls_fr (args := [.agg (([.int .i64 r.t, .int .i64 r.c, .int .i64 r.s] : List Value) ++ (cBs r.h.1 ++ cBs r.b.1)).toArray]) (n := 20) Try.func32 rfl rfl (show 1 ≤ 20 by decide) ?_
  obtain ⟨⟨h1, h2⟩, ⟨h3, h4⟩, ⟨h5, h6⟩⟩ := hr
  have l1 := put_len r.t
  have l2 := put_len r.c
  have l3 := put_len r.s
  have hH : Heap (newN w) w w [] := Heap.fresh
  refine wp_seq ?_
  refine wp_gen (fun F' => F' 0 = .agg (([.int .i64 r.t, .int .i64 r.c, .int .i64 r.s] : List Value) ++ (cBs r.h.1 ++ cBs r.b.1)).toArray) rfl ?_
  rintro F e0
  refine wp_regionF ?_
  refine lf_ex (wantAll rfl) (hx_box hH 54 (cs := ([.int .i64 r.t, .int .i64 r.c, .int .i64 r.s] : List Value) ++ (cBs r.h.1 ++ cBs r.b.1)) rfl (fr_eval rfl e0) (by rfl)) ?_
  clear hH
  rintro _ w1 ⟨g1, rfl, hH, hx⟩
  replace hH : Heap (newN w) w w1 [oBlk g1 (([.int .i64 r.t, .int .i64 r.c, .int .i64 r.s] : List Value) ++ (cBs r.h.1 ++ cBs r.b.1)) 54] := hH
  clear hx
  refine lf_val (v := .slice none 0 0) (wantAll rfl) (rv_assign rfl rfl) ?_
  refine lf_nil ?_
  refine then_n ?_
  refine wp_seq ?_
  refine wp_gen (fun F' => F' 0 = .agg (([.int .i64 r.t, .int .i64 r.c, .int .i64 r.s] : List Value) ++ (cBs r.h.1 ++ cBs r.b.1)).toArray ∧ F' 1 = .pointer (some ⟨g1, 0, none⟩) ∧ F' 2 = .slice none 0 0) ⟨e0, rfl, rfl⟩ ?_
  clear e0
  clear F
  rintro F ⟨e0, e1, e2⟩
  refine wp_regionF ?_
  refine lf_ex (wantAll rfl) (hx_alloc hH 50 (z := .agg ([.slice none 0 0]).toArray) (n := 1) (cs := [.slice none 0 0]) rfl (by kernel_rfl) (by rfl)) ?_
  clear hH
  rintro _ w2 ⟨g2, rfl, hH, hx⟩
  replace hH : Heap (newN w) w w2 [oBlk g1 (([.int .i64 r.t, .int .i64 r.c, .int .i64 r.s] : List Value) ++ (cBs r.h.1 ++ cBs r.b.1)) 54, oBlk g2 ([.slice none 0 0]) 50] := hH
  clear hx
  refine lf_nil ?_
  refine then_n ?_
  refine wp_seq ?_
  refine wp_gen (fun F' => F' 0 = .agg (([.int .i64 r.t, .int .i64 r.c, .int .i64 r.s] : List Value) ++ (cBs r.h.1 ++ cBs r.b.1)).toArray ∧ F' 1 = .pointer (some ⟨g1, 0, none⟩) ∧ F' 2 = .slice none 0 0 ∧ F' 3 = .pointer (some ⟨g2, 0, none⟩)) ⟨e0, e1, e2, rfl⟩ ?_
  clear e0 e1 e2
  clear F
  rintro F ⟨e0, e1, e2, e3⟩
  replace hH : Heap (newN w) w w2 [oBlk g1 (([.int .i64 r.t, .int .i64 r.c, .int .i64 r.s] : List Value) ++ (cBs r.h.1 ++ cBs r.b.1)) 54, oPen g2 (.slice none 0 0) []] := hH.toPen (i := 1) rfl rfl
  have hs_1 := hH.fixed1 (j := 0) (i := 1) rfl rfl (by decide)
  have hKN := hH.sub1 (i := 1) rfl
  have hcK : Chg (newK w2 (oPen g2 (.slice none 0 0) []).fp) w2 w2 := Chg.refl _ _
  have hfM : ∀ k, (oPen g2 (.slice none 0 0) []).fp k → (newK w2 (oPen g2 (.slice none 0 0) []).fp) k := fun k h => Or.inr h
  refine wp_regionX (newK w2 (oPen g2 (.slice none 0 0) []).fp) 14 (by kernel_rfl) (by kernel_rfl) ?_
  refine xl_take (i := 0) (v := .pointer (some ⟨g1, 0, none⟩)) rfl (by kernel_rfl) (by kernel_rfl) (by kernel_rfl) (by kernel_rfl) (yx_val (wantAll rfl) (fun w' hx' => rv_fieldAddr (n := 0) rfl (fr_eval rfl e1) Try.underlying54 rfl rfl (by kernel_rfl))) ?_
  refine xl_take (i := 1) (v := .int .i64 r.t) rfl (by kernel_rfl) (by kernel_rfl) (by kernel_rfl) (by kernel_rfl) (yx_val (wantAll rfl) (fun w' hx' => rv_load1 rfl (hs_1 _ (hcK.trans hx')) (show (([.int .i64 r.t, .int .i64 r.c, .int .i64 r.s] : List Value) ++ (cBs r.h.1 ++ cBs r.b.1))[0]? = some (.int .i64 r.t) from (get_l (C := cBs r.h.1 ++ cBs r.b.1) (show ([.int .i64 r.t, .int .i64 r.c, .int .i64 r.s] : List Value)[0]? = some (.int .i64 r.t) from rfl))) (fr_eval rfl rfl) Try.underlying3 rfl Try.sz3)) ?_
  refine xl_take (i := 3) (v := .pointer (some ⟨g1, 1, none⟩)) rfl (by kernel_rfl) (by kernel_rfl) (by kernel_rfl) (by kernel_rfl) (yx_val (wantAll rfl) (fun w' hx' => rv_fieldAddr (n := 0) rfl (fr_eval rfl e1) Try.underlying54 rfl rfl (by kernel_rfl))) ?_
  refine xl_take (i := 4) (v := .int .i64 r.c) rfl (by kernel_rfl) (by kernel_rfl) (by kernel_rfl) (by kernel_rfl) (yx_val (wantAll rfl) (fun w' hx' => rv_load1 rfl (hs_1 _ (hcK.trans hx')) (show (([.int .i64 r.t, .int .i64 r.c, .int .i64 r.s] : List Value) ++ (cBs r.h.1 ++ cBs r.b.1))[1]? = some (.int .i64 r.c) from (get_l (C := cBs r.h.1 ++ cBs r.b.1) (show ([.int .i64 r.t, .int .i64 r.c, .int .i64 r.s] : List Value)[1]? = some (.int .i64 r.c) from rfl))) (fr_eval rfl rfl) Try.underlying3 rfl Try.sz3)) ?_
  refine xl_take (i := 6) (v := .pointer (some ⟨g1, 2, none⟩)) rfl (by kernel_rfl) (by kernel_rfl) (by kernel_rfl) (by kernel_rfl) (yx_val (wantAll rfl) (fun w' hx' => rv_fieldAddr (n := 0) rfl (fr_eval rfl e1) Try.underlying54 rfl rfl (by kernel_rfl))) ?_
  refine xl_take (i := 7) (v := .int .i64 r.s) rfl (by kernel_rfl) (by kernel_rfl) (by kernel_rfl) (by kernel_rfl) (yx_val (wantAll rfl) (fun w' hx' => rv_load1 rfl (hs_1 _ (hcK.trans hx')) (show (([.int .i64 r.t, .int .i64 r.c, .int .i64 r.s] : List Value) ++ (cBs r.h.1 ++ cBs r.b.1))[2]? = some (.int .i64 r.s) from (get_l (C := cBs r.h.1 ++ cBs r.b.1) (show ([.int .i64 r.t, .int .i64 r.c, .int .i64 r.s] : List Value)[2]? = some (.int .i64 r.s) from rfl))) (fr_eval rfl rfl) Try.underlying3 rfl Try.sz3)) ?_
  refine xl_take (i := 9) (v := .pointer (some ⟨g1, 3, none⟩)) rfl (by kernel_rfl) (by kernel_rfl) (by kernel_rfl) (by kernel_rfl) (yx_val (wantAll rfl) (fun w' hx' => rv_fieldAddr (n := 31) rfl (fr_eval rfl e1) Try.underlying54 rfl rfl (by kernel_rfl))) ?_
  refine xl_take (i := 10) (v := .agg (cBs r.h.1).toArray) rfl (by kernel_rfl) (by kernel_rfl) (by kernel_rfl) (by kernel_rfl) (yx_val (wantAll rfl) (fun w' hx' => rv_loadP rfl (hs_1 _ (hcK.trans hx')) (show List.take 32 (List.drop 3 ([.int .i64 r.t, .int .i64 r.c, .int .i64 r.s] ++ ((cBs r.h.1) ++ (cBs r.b.1)))) = cBs r.h.1 from part_app (show List.length [.int .i64 r.t, .int .i64 r.c, .int .i64 r.s] = 3 from rfl) (cBs_len r.h.2)) (cBs_len r.h.2) (fr_eval rfl rfl) Try.underlying45 rfl Try.sz45)) ?_
  refine xl_take (i := 12) (v := .pointer (some ⟨g1, 35, none⟩)) rfl (by kernel_rfl) (by kernel_rfl) (by kernel_rfl) (by kernel_rfl) (yx_val (wantAll rfl) (fun w' hx' => rv_fieldAddr (n := 31) rfl (fr_eval rfl e1) Try.underlying54 rfl rfl (by kernel_rfl))) ?_
  refine xl_take (i := 13) (v := .agg (cBs r.b.1).toArray) rfl (by kernel_rfl) (by kernel_rfl) (by kernel_rfl) (by kernel_rfl) (yx_val (wantAll rfl) (fun w' hx' => rv_loadP rfl (hs_1 _ (hcK.trans hx')) (part_of (cs := ([.int .i64 r.t, .int .i64 r.c, .int .i64 r.s] : List Value) ++ (cBs r.h.1 ++ cBs r.b.1)) (A := (([.int .i64 r.t, .int .i64 r.c, .int .i64 r.s] : List Value) ++ cBs r.h.1 : List Value)) (D := (cBs r.b.1 : List Value)) (C := ([] : List Value)) (by simp only [List.append_assoc, List.cons_append, List.nil_append, List.append_nil]) (len_app (m := 3) (n := 32) (k := 35) rfl (cBs_len r.h.2) rfl) (cBs_len r.b.2)) (cBs_len r.b.2) (fr_eval rfl rfl) Try.underlying45 rfl Try.sz45)) ?_
  refine anyX_ready (rs := [2]) (by kernel_rfl) ?_
  intro w3 hx
  replace hH := hH.ext hx
  replace hcK := hcK.trans (Ext.any hx)
  clear hx
  refine (anyX_cons ?_ anyX_nil)
  refine xl_step (i := 2) rfl (wantAll rfl) ?_
  refine of_call (rv_call (args := [.pointer (some ⟨g2, 0, none⟩), .int .i64 r.t]) rfl (evc (fr_eval rfl e3) (evc (fr_eval rfl rfl) evn)) Try.call24) (penNum_calls r.t (by omega) _ (hH.pen (i := 1) rfl) (by have := puts_len [r.t, r.c, r.s]; simp only [List.length_append, List.length_cons, List.length_nil, r.h.2, r.b.2] at *; omega)) ?_
  rintro _ w4 ⟨rfl, hp⟩
  refine ⟨_, rfl, ?_⟩
  obtain ⟨y1, hH', hx, hxf, hgr⟩ := hH.penPost (i := 1) (l2 := put r.t) rfl (fun _ => rfl) hp
  clear hH hp
  have hH : Heap (newN w) w w4 [oBlk g1 (([.int .i64 r.t, .int .i64 r.c, .int .i64 r.s] : List Value) ++ (cBs r.h.1 ++ cBs r.b.1)) 54, oPen g2 y1 (put r.t)] := hH'
  clear hH'
  have hcx := hxf.mono (fun k _ hk => hfM k hk)
  replace hfM := grow1 (fun k h => Or.inl h) hcK.size hfM hgr
  replace hcK := hcK.trans hcx
  refine ⟨hcx, ?_⟩
  clear hcx hxf hgr hx
  refine anyX_ready (rs := [5]) (by kernel_rfl) ?_
  intro w5 hx
  replace hH := hH.ext hx
  replace hcK := hcK.trans (Ext.any hx)
  clear hx
  refine (anyX_cons ?_ anyX_nil)
  refine xl_step (i := 5) rfl (wantAll rfl) ?_
  refine of_call (rv_call (args := [.pointer (some ⟨g2, 0, none⟩), .int .i64 r.c]) rfl (evc (fr_eval rfl rfl) (evc (fr_eval rfl rfl) evn)) Try.call24) (penNum_calls r.c (by omega) _ (hH.pen (i := 1) rfl) (by have := puts_len [r.t, r.c, r.s]; simp only [List.length_append, List.length_cons, List.length_nil, r.h.2, r.b.2] at *; omega)) ?_
  rintro _ w6 ⟨rfl, hp⟩
  refine ⟨_, rfl, ?_⟩
  obtain ⟨y2, hH', hx, hxf, hgr⟩ := hH.penPost (i := 1) (l2 := put r.t ++ put r.c) rfl (fun _ => rfl) hp
  clear hH hp
  have hH : Heap (newN w) w w6 [oBlk g1 (([.int .i64 r.t, .int .i64 r.c, .int .i64 r.s] : List Value) ++ (cBs r.h.1 ++ cBs r.b.1)) 54, oPen g2 y2 (put r.t ++ put r.c)] := hH'
  clear hH'
  have hcx := hxf.mono (fun k _ hk => hfM k hk)
  replace hfM := grow1 (fun k h => Or.inl h) hcK.size hfM hgr
  replace hcK := hcK.trans hcx
  refine ⟨hcx, ?_⟩
  clear hcx hxf hgr hx
  refine anyX_ready (rs := [8]) (by kernel_rfl) ?_
  intro w7 hx
  replace hH := hH.ext hx
  replace hcK := hcK.trans (Ext.any hx)
  clear hx
  refine (anyX_cons ?_ anyX_nil)
  refine xl_step (i := 8) rfl (wantAll rfl) ?_
  refine of_call (rv_call (args := [.pointer (some ⟨g2, 0, none⟩), .int .i64 r.s]) rfl (evc (fr_eval rfl rfl) (evc (fr_eval rfl rfl) evn)) Try.call24) (penNum_calls r.s (by omega) _ (hH.pen (i := 1) rfl) (by have := puts_len [r.t, r.c, r.s]; simp only [List.length_append, List.length_cons, List.length_nil, r.h.2, r.b.2] at *; omega)) ?_
  rintro _ w8 ⟨rfl, hp⟩
  refine ⟨_, rfl, ?_⟩
  obtain ⟨y3, hH', hx, hxf, hgr⟩ := hH.penPost (i := 1) (l2 := put r.t ++ put r.c ++ put r.s) rfl (fun _ => rfl) hp
  clear hH hp
  have hH : Heap (newN w) w w8 [oBlk g1 (([.int .i64 r.t, .int .i64 r.c, .int .i64 r.s] : List Value) ++ (cBs r.h.1 ++ cBs r.b.1)) 54, oPen g2 y3 (put r.t ++ put r.c ++ put r.s)] := hH'
  clear hH'
  have hcx := hxf.mono (fun k _ hk => hfM k hk)
  replace hfM := grow1 (fun k h => Or.inl h) hcK.size hfM hgr
  replace hcK := hcK.trans hcx
  refine ⟨hcx, ?_⟩
  clear hcx hxf hgr hx
  refine anyX_ready (rs := [11]) (by kernel_rfl) ?_
  intro w9 hx
  replace hH := hH.ext hx
  replace hcK := hcK.trans (Ext.any hx)
  clear hx
  refine (anyX_cons ?_ anyX_nil)
  refine xl_step (i := 11) rfl (wantAll rfl) ?_
  refine of_call (rv_call (args := [.pointer (some ⟨g2, 0, none⟩), .agg (cBs r.h.1).toArray]) rfl (evc (fr_eval rfl rfl) (evc (fr_eval rfl rfl) evn)) Try.call26) (penSum_calls r.h.1 r.h.2 _ (hH.pen (i := 1) rfl) (by have := puts_len [r.t, r.c, r.s]; simp only [List.length_append, List.length_cons, List.length_nil, r.h.2, r.b.2] at *; omega)) ?_
  rintro _ w10 ⟨rfl, hp⟩
  refine ⟨_, rfl, ?_⟩
  obtain ⟨y4, hH', hx, hxf, hgr⟩ := hH.penPost (i := 1) (l2 := put r.t ++ put r.c ++ put r.s ++ r.h.1) rfl (fun _ => rfl) hp
  clear hH hp
  have hH : Heap (newN w) w w10 [oBlk g1 (([.int .i64 r.t, .int .i64 r.c, .int .i64 r.s] : List Value) ++ (cBs r.h.1 ++ cBs r.b.1)) 54, oPen g2 y4 (put r.t ++ put r.c ++ put r.s ++ r.h.1)] := hH'
  clear hH'
  have hcx := hxf.mono (fun k _ hk => hfM k hk)
  replace hfM := grow1 (fun k h => Or.inl h) hcK.size hfM hgr
  replace hcK := hcK.trans hcx
  refine ⟨hcx, ?_⟩
  clear hcx hxf hgr hx
  refine xl_tail (s := 14) rfl ?_
  intro w11 hx
  replace hH := hH.ext hx
  clear hx
  clear hs_1 hKN hcK hfM
  refine lf_call (wantAll rfl) (rv_call (args := [.pointer (some ⟨g2, 0, none⟩), .agg (cBs r.b.1).toArray]) rfl (evc (fr_eval rfl rfl) (evc (fr_eval rfl rfl) evn)) Try.call26) (penSum_calls r.b.1 r.b.2 _ (hH.pen (i := 1) rfl) (by have := puts_len [r.t, r.c, r.s]; simp only [List.length_append, List.length_cons, List.length_nil, r.h.2, r.b.2] at *; omega)) ?_
  rintro _ w12 ⟨rfl, hp⟩
  refine ⟨_, rfl, ?_⟩
  obtain ⟨y5, hH', hx, hxf, hgr⟩ := hH.penPost (i := 1) (l2 := put r.t ++ put r.c ++ put r.s ++ r.h.1 ++ r.b.1) rfl (fun _ => rfl) hp
  clear hH hp
  have hH : Heap (newN w) w w12 [oBlk g1 (([.int .i64 r.t, .int .i64 r.c, .int .i64 r.s] : List Value) ++ (cBs r.h.1 ++ cBs r.b.1)) 54, oPen g2 y5 (put r.t ++ put r.c ++ put r.s ++ r.h.1 ++ r.b.1)] := hH'
  clear hH'
  clear hxf hgr hx
  refine lf_call (wantAll rfl) (rv_call (args := [.pointer (some ⟨g2, 0, none⟩)]) rfl (evc (fr_eval rfl rfl) evn) Try.call28) (penBytes_calls _ (hH.pen (i := 1) rfl) (by have := puts_len [r.t, r.c, r.s]; simp only [List.length_append, List.length_cons, List.length_nil, r.h.2, r.b.2] at *; omega)) ?_
  rintro _ w13 ⟨⟨y6, rfl, ho, hg⟩, hx⟩
  refine ⟨_, rfl, ?_⟩
  replace hH : Heap (newN w) w w13 [oBlk g1 (([.int .i64 r.t, .int .i64 r.c, .int .i64 r.s] : List Value) ++ (cBs r.h.1 ++ cBs r.b.1)) 54, oPen g2 y5 (put r.t ++ put r.c ++ put r.s ++ r.h.1 ++ r.b.1), oB y6 (put r.t ++ put r.c ++ put r.s ++ r.h.1 ++ r.b.1)] := hH.addOwn hx hg ho
  clear ho hg
  clear hx
  refine lf_val (v := y6) (wantAll rfl) (rv_assign rfl (fr_eval rfl rfl)) ?_
  refine lf_nil ?_
  refine then_n ?_
  refine wp_gen (fun F' => F' 0 = .agg (([.int .i64 r.t, .int .i64 r.c, .int .i64 r.s] : List Value) ++ (cBs r.h.1 ++ cBs r.b.1)).toArray ∧ F' 1 = .pointer (some ⟨g1, 0, none⟩) ∧ F' 2 = y6 ∧ F' 3 = .pointer (some ⟨g2, 0, none⟩)) ⟨e0, e1, rfl, e3⟩ ?_
  clear e0 e1 e2 e3
  clear F
  rintro F ⟨e0, e1, e2, e3⟩
  refine wp_ret ?_
  exact bodyPost_ret (v := y6) (res1 rfl (ro_tmp rfl e2)) rfl (⟨⟨_, rfl, (by have h := hH.own (i := 2) rfl; have e : put r.t ++ put r.c ++ put r.s ++ r.h.1 ++ r.b.1 = textR r := rfl; rw [e] at h; exact h), hH.ge (i := 2) rfl⟩, hH.done⟩)

set_option maxRecDepth 100000 in
set_option maxHeartbeats 4000000 in
theorem rcRead_calls (b : List UInt8) (hb : b.length ≤ 100000000) (v : Value) (w : World) (hr0 : RdB w v b) :
    Calls Try.prog 31 #[v] w fun e'' w' => (∃ (r : Rc) (e : Int), e'' = .returned (.tuple #[.agg (([.int .i64 r.t, .int .i64 r.c, .int .i64 r.s] : List Value) ++ (cBs r.h.1 ++ cBs r.b.1)).toArray, .int .i64 e]) ∧ ReadOk b r e) ∧ Ext w w' := by
  refine calls_fr (args := [v]) (n := 29) Try.func31 rfl rfl (show 1 ≤ 29 by decide) ?_
  have hr := Rd.stab hr0
  have hH : Heap (newN w) w w [] := Heap.fresh
  refine wp_seq ?_
  refine wp_gen (fun F' => F' 0 = v) rfl ?_
  rintro F e0
  refine wp_regionF ?_
  refine lf_ex (wantAll rfl) (hx_alloc hH 54 (z := .agg (([.int .i64 0, .int .i64 0, .int .i64 0] : List Value) ++ (cBs (List.replicate 32 0) ++ cBs (List.replicate 32 0))).toArray) (n := 67) (cs := ([.int .i64 0, .int .i64 0, .int .i64 0] : List Value) ++ (cBs (List.replicate 32 0) ++ cBs (List.replicate 32 0))) rfl (by kernel_rfl) (by rfl)) ?_
  clear hH
  rintro _ w1 ⟨g1, rfl, hH, hx⟩
  replace hH : Heap (newN w) w w1 [oBlk g1 (([.int .i64 0, .int .i64 0, .int .i64 0] : List Value) ++ (cBs (List.replicate 32 0) ++ cBs (List.replicate 32 0))) 54] := hH
  clear hx
  refine lf_val (v := .int .i64 0) (wantAll rfl) (rv_assign rfl rfl) ?_
  refine lf_nil ?_
  refine then_n ?_
  refine wp_seq ?_
  refine wp_gen (fun F' => F' 0 = v ∧ F' 2 = .pointer (some ⟨g1, 0, none⟩) ∧ F' 3 = .int .i64 0) ⟨e0, rfl, rfl⟩ ?_
  clear e0
  clear F
  rintro F ⟨e0, e2, e3⟩
  refine wp_regionF ?_
  refine lf_val (v := v) (wantAll rfl) (rv_move rfl (fr_eval rfl e0)) ?_
  refine lf_call (wantAll rfl) (rv_call (args := [v]) rfl (evc (fr_eval rfl rfl) evn) Try.call14) (look_calls (show List.length b ≤ 100000000 from (by omega)) _ (hr.rd _ hH.chg)) ?_
  rintro _ w2 ⟨⟨g2, z1, rfl, hy, hge, hst⟩, hx⟩
  refine ⟨_, rfl, ?_⟩
  have hv_g2 : ∀ k, z1.ownBlock = some k → ¬ (newN w) k := fun k hk => hr.out _ (hst k hk).2.2 (by have := (hst k hk).2.1; simpa using this)
  replace hH : Heap (newN w) w w2 [oBlk g1 (([.int .i64 0, .int .i64 0, .int .i64 0] : List Value) ++ (cBs (List.replicate 32 0) ++ cBs (List.replicate 32 0))) 54, oEye g2 z1 b 0] := hH.addEye hx hge hv_g2 hy
  clear hst hge hy
  clear hx
  refine lf_val (v := .pointer (some ⟨g2, 0, none⟩)) (wantAll rfl) (rv_assign rfl (fr_eval rfl rfl)) ?_
  refine lf_nil ?_
  refine then_n ?_
  refine wp_seq ?_
  refine wp_gen (fun F' => F' 0 = v ∧ F' 2 = .pointer (some ⟨g1, 0, none⟩) ∧ F' 3 = .int .i64 0 ∧ F' 4 = .pointer (some ⟨g2, 0, none⟩)) ⟨e0, e2, e3, rfl⟩ ?_
  clear e0 e2 e3
  clear F
  rintro F ⟨e0, e2, e3, e4⟩
  refine wp_regionF ?_
  refine lf_val (v := .pointer (some ⟨g2, 0, none⟩)) (wantAll rfl) (rv_move rfl (fr_eval rfl e4)) ?_
  refine lf_call (wantAll rfl) (rv_call (args := [.pointer (some ⟨g2, 0, none⟩), .int .i64 15]) rfl (evc (fr_eval rfl rfl) (evc rfl evn)) Try.call16) (upto_calls 15 _ (hH.eye (i := 1) rfl) (eye_ne hH (i := 1) rfl hv_g2)) ?_
  rintro _ w3 ⟨rfl, hy, hxf⟩
  refine ⟨_, rfl, ?_⟩
  replace hH : Heap (newN w) w w3 [oBlk g1 (([.int .i64 0, .int .i64 0, .int .i64 0] : List Value) ++ (cBs (List.replicate 32 0) ++ cBs (List.replicate 32 0))) 54, oEye g2 z1 (numR b 0) (uptoE b 0 15)] := hH.setEye (i := 1) rfl rfl hv_g2 hy hxf
  clear hy
  clear hxf
  refine lf_val (v := .pointer (some ⟨g2, 0, none⟩)) (wantAll rfl) (rv_move rfl (fr_eval rfl e4)) ?_
  refine lf_call (wantAll rfl) (rv_call (args := [.pointer (some ⟨g2, 0, none⟩), .int .i64 1048576]) rfl (evc (fr_eval rfl rfl) (evc rfl evn)) Try.call16) (upto_calls 1048576 _ (hH.eye (i := 1) rfl) (eye_ne hH (i := 1) rfl hv_g2)) ?_
  rintro _ w4 ⟨rfl, hy, hxf⟩
  refine ⟨_, rfl, ?_⟩
  replace hH : Heap (newN w) w w4 [oBlk g1 (([.int .i64 0, .int .i64 0, .int .i64 0] : List Value) ++ (cBs (List.replicate 32 0) ++ cBs (List.replicate 32 0))) 54, oEye g2 z1 (numR (numR b 0) (uptoE b 0 15)) (uptoE (numR b 0) (uptoE b 0 15) 1048576)] := hH.setEye (i := 1) rfl rfl hv_g2 hy hxf
  clear hy
  clear hxf
  refine lf_val (v := .pointer (some ⟨g2, 0, none⟩)) (wantAll rfl) (rv_move rfl (fr_eval rfl e4)) ?_
  refine lf_call (wantAll rfl) (rv_call (args := [.pointer (some ⟨g2, 0, none⟩), .int .i64 1048576]) rfl (evc (fr_eval rfl rfl) (evc rfl evn)) Try.call16) (upto_calls 1048576 _ (hH.eye (i := 1) rfl) (eye_ne hH (i := 1) rfl hv_g2)) ?_
  rintro _ w5 ⟨rfl, hy, hxf⟩
  refine ⟨_, rfl, ?_⟩
  replace hH : Heap (newN w) w w5 [oBlk g1 (([.int .i64 0, .int .i64 0, .int .i64 0] : List Value) ++ (cBs (List.replicate 32 0) ++ cBs (List.replicate 32 0))) 54, oEye g2 z1 (numR (numR (numR b 0) (uptoE b 0 15)) (uptoE (numR b 0) (uptoE b 0 15) 1048576)) (uptoE (numR (numR b 0) (uptoE b 0 15)) (uptoE (numR b 0) (uptoE b 0 15) 1048576) 1048576)] := hH.setEye (i := 1) rfl rfl hv_g2 hy hxf
  clear hy
  clear hxf
  refine lf_val (v := .agg (([.int .i64 ((uptoV b 0 15 : Nat) : Int), .int .i64 ((uptoV (numR b 0) (uptoE b 0 15) 1048576 : Nat) : Int), .int .i64 ((uptoV (numR (numR b 0) (uptoE b 0 15)) (uptoE (numR b 0) (uptoE b 0 15) 1048576) 1048576 : Nat) : Int)] : List Value) ++ (cBs (List.replicate 32 0) ++ cBs (List.replicate 32 0))).toArray) (wantAll rfl) (rv_buildS (ps := [(0, (.tmp 10)), (1, (.tmp 12)), (2, (.tmp 14))]) (places := #[(0, 1), (1, 1), (2, 1), (3, 32), (35, 32)]) (z := .agg (([.int .i64 0, .int .i64 0, .int .i64 0] : List Value) ++ (cBs (List.replicate 32 0) ++ cBs (List.replicate 32 0))).toArray) (zc := ([.int .i64 0, .int .i64 0, .int .i64 0] : List Value) ++ (cBs (List.replicate 32 0) ++ cBs (List.replicate 32 0))) (cs := ([.int .i64 ((uptoV b 0 15 : Nat) : Int), .int .i64 ((uptoV (numR b 0) (uptoE b 0 15) 1048576 : Nat) : Int), .int .i64 ((uptoV (numR (numR b 0) (uptoE b 0 15)) (uptoE (numR b 0) (uptoE b 0 15) 1048576) 1048576 : Nat) : Int)] : List Value) ++ (cBs (List.replicate 32 0) ++ cBs (List.replicate 32 0))) rfl (evpc (fr_eval rfl rfl) (evpc (fr_eval rfl rfl) (evpc (fr_eval rfl rfl) evpn))) (by kernel_rfl) rfl Try.underlying54 (fun _ => by kernel_rfl) (fillM (cells' := ([.int .i64 ((uptoV b 0 15 : Nat) : Int), .int .i64 0, .int .i64 0] : List Value) ++ (cBs (List.replicate 32 0) ++ cBs (List.replicate 32 0))) (cs := [.int .i64 ((uptoV b 0 15 : Nat) : Int)]) (off := 0) (n := 1) rfl (cells_one rfl) (show List.length [.int .i64 ((uptoV b 0 15 : Nat) : Int)] = 1 from rfl) (le_of_len2 (len_app (m := 3) (n := 64) (k := 67) rfl (len_app (m := 32) (n := 32) (k := 64) (cBs_len (List.length_replicate ..)) (cBs_len (List.length_replicate ..)) rfl) rfl) (by decide)) (show lay ([] ++ (([.int .i64 0]) ++ (([.int .i64 0, .int .i64 0] : List Value) ++ (cBs (List.replicate 32 0) ++ cBs (List.replicate 32 0))))) 0 ([.int .i64 ((uptoV b 0 15 : Nat) : Int)]) = [] ++ (([.int .i64 ((uptoV b 0 15 : Nat) : Int)]) ++ (([.int .i64 0, .int .i64 0] : List Value) ++ (cBs (List.replicate 32 0) ++ cBs (List.replicate 32 0)))) from lay_app (show List.length ([] : List Value) = 0 from rfl) ((show List.length [.int .i64 0] = 1 from rfl).trans (show List.length [.int .i64 ((uptoV b 0 15 : Nat) : Int)] = 1 from rfl).symm)) (fillM (cells' := ([.int .i64 ((uptoV b 0 15 : Nat) : Int), .int .i64 ((uptoV (numR b 0) (uptoE b 0 15) 1048576 : Nat) : Int), .int .i64 0] : List Value) ++ (cBs (List.replicate 32 0) ++ cBs (List.replicate 32 0))) (cs := [.int .i64 ((uptoV (numR b 0) (uptoE b 0 15) 1048576 : Nat) : Int)]) (off := 1) (n := 1) rfl (cells_one rfl) (show List.length [.int .i64 ((uptoV (numR b 0) (uptoE b 0 15) 1048576 : Nat) : Int)] = 1 from rfl) (le_of_len2 (len_app (m := 3) (n := 64) (k := 67) rfl (len_app (m := 32) (n := 32) (k := 64) (cBs_len (List.length_replicate ..)) (cBs_len (List.length_replicate ..)) rfl) rfl) (by decide)) (show lay ([.int .i64 ((uptoV b 0 15 : Nat) : Int)] ++ (([.int .i64 0]) ++ (([.int .i64 0] : List Value) ++ (cBs (List.replicate 32 0) ++ cBs (List.replicate 32 0))))) 1 ([.int .i64 ((uptoV (numR b 0) (uptoE b 0 15) 1048576 : Nat) : Int)]) = [.int .i64 ((uptoV b 0 15 : Nat) : Int)] ++ (([.int .i64 ((uptoV (numR b 0) (uptoE b 0 15) 1048576 : Nat) : Int)]) ++ (([.int .i64 0] : List Value) ++ (cBs (List.replicate 32 0) ++ cBs (List.replicate 32 0)))) from lay_app (show List.length [.int .i64 ((uptoV b 0 15 : Nat) : Int)] = 1 from rfl) ((show List.length [.int .i64 0] = 1 from rfl).trans (show List.length [.int .i64 ((uptoV (numR b 0) (uptoE b 0 15) 1048576 : Nat) : Int)] = 1 from rfl).symm)) (fillM (cells' := ([.int .i64 ((uptoV b 0 15 : Nat) : Int), .int .i64 ((uptoV (numR b 0) (uptoE b 0 15) 1048576 : Nat) : Int), .int .i64 ((uptoV (numR (numR b 0) (uptoE b 0 15)) (uptoE (numR b 0) (uptoE b 0 15) 1048576) 1048576 : Nat) : Int)] : List Value) ++ (cBs (List.replicate 32 0) ++ cBs (List.replicate 32 0))) (cs := [.int .i64 ((uptoV (numR (numR b 0) (uptoE b 0 15)) (uptoE (numR b 0) (uptoE b 0 15) 1048576) 1048576 : Nat) : Int)]) (off := 2) (n := 1) rfl (cells_one rfl) (show List.length [.int .i64 ((uptoV (numR (numR b 0) (uptoE b 0 15)) (uptoE (numR b 0) (uptoE b 0 15) 1048576) 1048576 : Nat) : Int)] = 1 from rfl) (le_of_len2 (len_app (m := 3) (n := 64) (k := 67) rfl (len_app (m := 32) (n := 32) (k := 64) (cBs_len (List.length_replicate ..)) (cBs_len (List.length_replicate ..)) rfl) rfl) (by decide)) (show lay ([.int .i64 ((uptoV b 0 15 : Nat) : Int), .int .i64 ((uptoV (numR b 0) (uptoE b 0 15) 1048576 : Nat) : Int)] ++ (([.int .i64 0]) ++ (cBs (List.replicate 32 0) ++ cBs (List.replicate 32 0)))) 2 ([.int .i64 ((uptoV (numR (numR b 0) (uptoE b 0 15)) (uptoE (numR b 0) (uptoE b 0 15) 1048576) 1048576 : Nat) : Int)]) = [.int .i64 ((uptoV b 0 15 : Nat) : Int), .int .i64 ((uptoV (numR b 0) (uptoE b 0 15) 1048576 : Nat) : Int)] ++ (([.int .i64 ((uptoV (numR (numR b 0) (uptoE b 0 15)) (uptoE (numR b 0) (uptoE b 0 15) 1048576) 1048576 : Nat) : Int)]) ++ (cBs (List.replicate 32 0) ++ cBs (List.replicate 32 0))) from lay_app (show List.length [.int .i64 ((uptoV b 0 15 : Nat) : Int), .int .i64 ((uptoV (numR b 0) (uptoE b 0 15) 1048576 : Nat) : Int)] = 2 from rfl) ((show List.length [.int .i64 0] = 1 from rfl).trans (show List.length [.int .i64 ((uptoV (numR (numR b 0) (uptoE b 0 15)) (uptoE (numR b 0) (uptoE b 0 15) 1048576) 1048576 : Nat) : Int)] = 1 from rfl).symm)) fill0)))) ?_
  refine lf_ex (wantAll rfl) (hx_alloc hH 54 (z := .agg (([.int .i64 0, .int .i64 0, .int .i64 0] : List Value) ++ (cBs (List.replicate 32 0) ++ cBs (List.replicate 32 0))).toArray) (n := 67) (cs := ([.int .i64 0, .int .i64 0, .int .i64 0] : List Value) ++ (cBs (List.replicate 32 0) ++ cBs (List.replicate 32 0))) rfl (by kernel_rfl) (by rfl)) ?_
  clear hH
  rintro _ w6 ⟨g3, rfl, hH, hx⟩
  replace hH : Heap (newN w) w w6 [oBlk g1 (([.int .i64 0, .int .i64 0, .int .i64 0] : List Value) ++ (cBs (List.replicate 32 0) ++ cBs (List.replicate 32 0))) 54, oEye g2 z1 (numR (numR (numR b 0) (uptoE b 0 15)) (uptoE (numR b 0) (uptoE b 0 15) 1048576)) (uptoE (numR (numR b 0) (uptoE b 0 15)) (uptoE (numR b 0) (uptoE b 0 15) 1048576) 1048576), oBlk g3 (([.int .i64 0, .int .i64 0, .int .i64 0] : List Value) ++ (cBs (List.replicate 32 0) ++ cBs (List.replicate 32 0))) 54] := hH
  clear hx
  refine lf_sk (wantAll rfl) (hx_storeW hH (i := 2) (cs := ([.int .i64 ((uptoV b 0 15 : Nat) : Int), .int .i64 ((uptoV (numR b 0) (uptoE b 0 15) 1048576 : Nat) : Int), .int .i64 ((uptoV (numR (numR b 0) (uptoE b 0 15)) (uptoE (numR b 0) (uptoE b 0 15) 1048576) 1048576 : Nat) : Int)] : List Value) ++ (cBs (List.replicate 32 0) ++ cBs (List.replicate 32 0))) rfl rfl rfl (fr_eval rfl rfl) (fr_eval rfl rfl) (sz_len Try.sz54 (len_app (m := 3) (n := 64) (k := 67) rfl (len_app (m := 32) (n := 32) (k := 64) (cBs_len (List.length_replicate ..)) (cBs_len (List.length_replicate ..)) rfl) rfl)) (((len_app (m := 3) (n := 64) (k := 67) rfl (len_app (m := 32) (n := 32) (k := 64) (cBs_len (List.length_replicate ..)) (cBs_len (List.length_replicate ..)) rfl) rfl)).trans ((len_app (m := 3) (n := 64) (k := 67) rfl (len_app (m := 32) (n := 32) (k := 64) (cBs_len (List.length_replicate ..)) (cBs_len (List.length_replicate ..)) rfl) rfl)).symm) ((ones_app (ones_cons rfl (ones_cons rfl (ones_cons rfl ones_nil))) (ones_app (cBs_one _) (cBs_one _))))) ?_
  clear hH
  rintro w7 ⟨hH, hx⟩
  replace hH : Heap (newN w) w w7 [oBlk g1 (([.int .i64 0, .int .i64 0, .int .i64 0] : List Value) ++ (cBs (List.replicate 32 0) ++ cBs (List.replicate 32 0))) 54, oEye g2 z1 (numR (numR (numR b 0) (uptoE b 0 15)) (uptoE (numR b 0) (uptoE b 0 15) 1048576)) (uptoE (numR (numR b 0) (uptoE b 0 15)) (uptoE (numR b 0) (uptoE b 0 15) 1048576) 1048576), oBlk g3 (([.int .i64 ((uptoV b 0 15 : Nat) : Int), .int .i64 ((uptoV (numR b 0) (uptoE b 0 15) 1048576 : Nat) : Int), .int .i64 ((uptoV (numR (numR b 0) (uptoE b 0 15)) (uptoE (numR b 0) (uptoE b 0 15) 1048576) 1048576 : Nat) : Int)] : List Value) ++ (cBs (List.replicate 32 0) ++ cBs (List.replicate 32 0))) 54] := hH
  clear hx
  refine lf_nil ?_
  refine then_n ?_
  refine wp_seq ?_
  refine wp_gen (fun F' => F' 0 = v ∧ F' 2 = .pointer (some ⟨g1, 0, none⟩) ∧ F' 3 = .int .i64 0 ∧ F' 4 = .pointer (some ⟨g2, 0, none⟩) ∧ F' 5 = .pointer (some ⟨g3, 0, none⟩)) ⟨e0, e2, e3, e4, rfl⟩ ?_
  clear e0 e2 e3 e4
  clear F
  rintro F ⟨e0, e2, e3, e4, e5⟩
  refine wp_regionF ?_
  refine lf_val (v := .pointer (some ⟨g2, 0, none⟩)) (wantAll rfl) (rv_move rfl (fr_eval rfl e4)) ?_
  refine lf_call (wantAll rfl) (rv_call (args := [.pointer (some ⟨g2, 0, none⟩)]) rfl (evc (fr_eval rfl rfl) evn) Try.call30) (sumE_calls  _ (hH.eye (i := 1) rfl) (eye_ne hH (i := 1) rfl hv_g2) (eye_lt hH.up hH.size hv_g2)) ?_
  rintro _ w8 ⟨rfl, hy, hxf⟩
  refine ⟨_, rfl, ?_⟩
  replace hH : Heap (newN w) w w8 [oBlk g1 (([.int .i64 0, .int .i64 0, .int .i64 0] : List Value) ++ (cBs (List.replicate 32 0) ++ cBs (List.replicate 32 0))) 54, oEye g2 z1 (rawR (numR (numR (numR b 0) (uptoE b 0 15)) (uptoE (numR b 0) (uptoE b 0 15) 1048576)) (uptoE (numR (numR b 0) (uptoE b 0 15)) (uptoE (numR b 0) (uptoE b 0 15) 1048576) 1048576) 32) (rawE (numR (numR (numR b 0) (uptoE b 0 15)) (uptoE (numR b 0) (uptoE b 0 15) 1048576)) (uptoE (numR (numR b 0) (uptoE b 0 15)) (uptoE (numR b 0) (uptoE b 0 15) 1048576) 1048576) 32), oBlk g3 (([.int .i64 ((uptoV b 0 15 : Nat) : Int), .int .i64 ((uptoV (numR b 0) (uptoE b 0 15) 1048576 : Nat) : Int), .int .i64 ((uptoV (numR (numR b 0) (uptoE b 0 15)) (uptoE (numR b 0) (uptoE b 0 15) 1048576) 1048576 : Nat) : Int)] : List Value) ++ (cBs (List.replicate 32 0) ++ cBs (List.replicate 32 0))) 54] := hH.setEye (i := 1) rfl rfl hv_g2 hy hxf
  clear hy
  clear hxf
  refine lf_val (v := .pointer (some ⟨g2, 0, none⟩)) (wantAll rfl) (rv_move rfl (fr_eval rfl e4)) ?_
  refine lf_call (wantAll rfl) (rv_call (args := [.pointer (some ⟨g2, 0, none⟩)]) rfl (evc (fr_eval rfl rfl) evn) Try.call30) (sumE_calls  _ (hH.eye (i := 1) rfl) (eye_ne hH (i := 1) rfl hv_g2) (eye_lt hH.up hH.size hv_g2)) ?_
  rintro _ w9 ⟨rfl, hy, hxf⟩
  refine ⟨_, rfl, ?_⟩
  replace hH : Heap (newN w) w w9 [oBlk g1 (([.int .i64 0, .int .i64 0, .int .i64 0] : List Value) ++ (cBs (List.replicate 32 0) ++ cBs (List.replicate 32 0))) 54, oEye g2 z1 (rawR (rawR (numR (numR (numR b 0) (uptoE b 0 15)) (uptoE (numR b 0) (uptoE b 0 15) 1048576)) (uptoE (numR (numR b 0) (uptoE b 0 15)) (uptoE (numR b 0) (uptoE b 0 15) 1048576) 1048576) 32) (rawE (numR (numR (numR b 0) (uptoE b 0 15)) (uptoE (numR b 0) (uptoE b 0 15) 1048576)) (uptoE (numR (numR b 0) (uptoE b 0 15)) (uptoE (numR b 0) (uptoE b 0 15) 1048576) 1048576) 32) 32) (rawE (rawR (numR (numR (numR b 0) (uptoE b 0 15)) (uptoE (numR b 0) (uptoE b 0 15) 1048576)) (uptoE (numR (numR b 0) (uptoE b 0 15)) (uptoE (numR b 0) (uptoE b 0 15) 1048576) 1048576) 32) (rawE (numR (numR (numR b 0) (uptoE b 0 15)) (uptoE (numR b 0) (uptoE b 0 15) 1048576)) (uptoE (numR (numR b 0) (uptoE b 0 15)) (uptoE (numR b 0) (uptoE b 0 15) 1048576) 1048576) 32) 32), oBlk g3 (([.int .i64 ((uptoV b 0 15 : Nat) : Int), .int .i64 ((uptoV (numR b 0) (uptoE b 0 15) 1048576 : Nat) : Int), .int .i64 ((uptoV (numR (numR b 0) (uptoE b 0 15)) (uptoE (numR b 0) (uptoE b 0 15) 1048576) 1048576 : Nat) : Int)] : List Value) ++ (cBs (List.replicate 32 0) ++ cBs (List.replicate 32 0))) 54] := hH.setEye (i := 1) rfl rfl hv_g2 hy hxf
  clear hy
  clear hxf
  refine lf_val (v := .pointer (some ⟨g3, 3, none⟩)) (wantAll rfl) (rv_fieldAddr (n := 31) rfl (fr_eval rfl e5) Try.underlying54 rfl rfl (by kernel_rfl)) ?_
  refine lf_sk (wantAll rfl) (hx_storeM hH (i := 2) (j := 3) (cs := cBs (sumV (numR (numR (numR b 0) (uptoE b 0 15)) (uptoE (numR b 0) (uptoE b 0 15) 1048576)) (uptoE (numR (numR b 0) (uptoE b 0 15)) (uptoE (numR b 0) (uptoE b 0 15) 1048576) 1048576))) (cs' := ([.int .i64 ((uptoV b 0 15 : Nat) : Int), .int .i64 ((uptoV (numR b 0) (uptoE b 0 15) 1048576 : Nat) : Int), .int .i64 ((uptoV (numR (numR b 0) (uptoE b 0 15)) (uptoE (numR b 0) (uptoE b 0 15) 1048576) 1048576 : Nat) : Int)] : List Value) ++ (cBs (sumV (numR (numR (numR b 0) (uptoE b 0 15)) (uptoE (numR b 0) (uptoE b 0 15) 1048576)) (uptoE (numR (numR b 0) (uptoE b 0 15)) (uptoE (numR b 0) (uptoE b 0 15) 1048576) 1048576)) ++ cBs (List.replicate 32 0))) rfl rfl rfl (show lay ([.int .i64 ((uptoV b 0 15 : Nat) : Int), .int .i64 ((uptoV (numR b 0) (uptoE b 0 15) 1048576 : Nat) : Int), .int .i64 ((uptoV (numR (numR b 0) (uptoE b 0 15)) (uptoE (numR b 0) (uptoE b 0 15) 1048576) 1048576 : Nat) : Int)] ++ ((cBs (List.replicate 32 0)) ++ (cBs (List.replicate 32 0)))) 3 (cBs (sumV (numR (numR (numR b 0) (uptoE b 0 15)) (uptoE (numR b 0) (uptoE b 0 15) 1048576)) (uptoE (numR (numR b 0) (uptoE b 0 15)) (uptoE (numR b 0) (uptoE b 0 15) 1048576) 1048576))) = [.int .i64 ((uptoV b 0 15 : Nat) : Int), .int .i64 ((uptoV (numR b 0) (uptoE b 0 15) 1048576 : Nat) : Int), .int .i64 ((uptoV (numR (numR b 0) (uptoE b 0 15)) (uptoE (numR b 0) (uptoE b 0 15) 1048576) 1048576 : Nat) : Int)] ++ ((cBs (sumV (numR (numR (numR b 0) (uptoE b 0 15)) (uptoE (numR b 0) (uptoE b 0 15) 1048576)) (uptoE (numR (numR b 0) (uptoE b 0 15)) (uptoE (numR b 0) (uptoE b 0 15) 1048576) 1048576))) ++ (cBs (List.replicate 32 0))) from lay_app (show List.length [.int .i64 ((uptoV b 0 15 : Nat) : Int), .int .i64 ((uptoV (numR b 0) (uptoE b 0 15) 1048576 : Nat) : Int), .int .i64 ((uptoV (numR (numR b 0) (uptoE b 0 15)) (uptoE (numR b 0) (uptoE b 0 15) 1048576) 1048576 : Nat) : Int)] = 3 from rfl) ((cBs_len (List.length_replicate ..)).trans (cBs_len sumV_len).symm)) (le_of_len (len_app (m := 3) (n := 64) (k := 67) rfl (len_app (m := 32) (n := 32) (k := 64) (cBs_len (List.length_replicate ..)) (cBs_len (List.length_replicate ..)) rfl) rfl) (cBs_len sumV_len) (by decide)) (fr_eval rfl rfl) (fr_eval rfl rfl) (sz_len Try.sz45 (cBs_len sumV_len)) ((cBs_one _))) ?_
  clear hH
  rintro w10 ⟨hH, hx⟩
  replace hH : Heap (newN w) w w10 [oBlk g1 (([.int .i64 0, .int .i64 0, .int .i64 0] : List Value) ++ (cBs (List.replicate 32 0) ++ cBs (List.replicate 32 0))) 54, oEye g2 z1 (rawR (rawR (numR (numR (numR b 0) (uptoE b 0 15)) (uptoE (numR b 0) (uptoE b 0 15) 1048576)) (uptoE (numR (numR b 0) (uptoE b 0 15)) (uptoE (numR b 0) (uptoE b 0 15) 1048576) 1048576) 32) (rawE (numR (numR (numR b 0) (uptoE b 0 15)) (uptoE (numR b 0) (uptoE b 0 15) 1048576)) (uptoE (numR (numR b 0) (uptoE b 0 15)) (uptoE (numR b 0) (uptoE b 0 15) 1048576) 1048576) 32) 32) (rawE (rawR (numR (numR (numR b 0) (uptoE b 0 15)) (uptoE (numR b 0) (uptoE b 0 15) 1048576)) (uptoE (numR (numR b 0) (uptoE b 0 15)) (uptoE (numR b 0) (uptoE b 0 15) 1048576) 1048576) 32) (rawE (numR (numR (numR b 0) (uptoE b 0 15)) (uptoE (numR b 0) (uptoE b 0 15) 1048576)) (uptoE (numR (numR b 0) (uptoE b 0 15)) (uptoE (numR b 0) (uptoE b 0 15) 1048576) 1048576) 32) 32), oBlk g3 (([.int .i64 ((uptoV b 0 15 : Nat) : Int), .int .i64 ((uptoV (numR b 0) (uptoE b 0 15) 1048576 : Nat) : Int), .int .i64 ((uptoV (numR (numR b 0) (uptoE b 0 15)) (uptoE (numR b 0) (uptoE b 0 15) 1048576) 1048576 : Nat) : Int)] : List Value) ++ (cBs (sumV (numR (numR (numR b 0) (uptoE b 0 15)) (uptoE (numR b 0) (uptoE b 0 15) 1048576)) (uptoE (numR (numR b 0) (uptoE b 0 15)) (uptoE (numR b 0) (uptoE b 0 15) 1048576) 1048576)) ++ cBs (List.replicate 32 0))) 54] := hH
  clear hx
  refine lf_val (v := .pointer (some ⟨g3, 35, none⟩)) (wantAll rfl) (rv_fieldAddr (n := 31) rfl (fr_eval rfl e5) Try.underlying54 rfl rfl (by kernel_rfl)) ?_
  refine lf_sk (wantAll rfl) (hx_storeM hH (i := 2) (j := 35) (cs := cBs (sumV (rawR (numR (numR (numR b 0) (uptoE b 0 15)) (uptoE (numR b 0) (uptoE b 0 15) 1048576)) (uptoE (numR (numR b 0) (uptoE b 0 15)) (uptoE (numR b 0) (uptoE b 0 15) 1048576) 1048576) 32) (rawE (numR (numR (numR b 0) (uptoE b 0 15)) (uptoE (numR b 0) (uptoE b 0 15) 1048576)) (uptoE (numR (numR b 0) (uptoE b 0 15)) (uptoE (numR b 0) (uptoE b 0 15) 1048576) 1048576) 32))) (cs' := ([.int .i64 ((uptoV b 0 15 : Nat) : Int), .int .i64 ((uptoV (numR b 0) (uptoE b 0 15) 1048576 : Nat) : Int), .int .i64 ((uptoV (numR (numR b 0) (uptoE b 0 15)) (uptoE (numR b 0) (uptoE b 0 15) 1048576) 1048576 : Nat) : Int)] : List Value) ++ (cBs (sumV (numR (numR (numR b 0) (uptoE b 0 15)) (uptoE (numR b 0) (uptoE b 0 15) 1048576)) (uptoE (numR (numR b 0) (uptoE b 0 15)) (uptoE (numR b 0) (uptoE b 0 15) 1048576) 1048576)) ++ cBs (sumV (rawR (numR (numR (numR b 0) (uptoE b 0 15)) (uptoE (numR b 0) (uptoE b 0 15) 1048576)) (uptoE (numR (numR b 0) (uptoE b 0 15)) (uptoE (numR b 0) (uptoE b 0 15) 1048576) 1048576) 32) (rawE (numR (numR (numR b 0) (uptoE b 0 15)) (uptoE (numR b 0) (uptoE b 0 15) 1048576)) (uptoE (numR (numR b 0) (uptoE b 0 15)) (uptoE (numR b 0) (uptoE b 0 15) 1048576) 1048576) 32)))) rfl rfl rfl (lay_of (cur := ([.int .i64 ((uptoV b 0 15 : Nat) : Int), .int .i64 ((uptoV (numR b 0) (uptoE b 0 15) 1048576 : Nat) : Int), .int .i64 ((uptoV (numR (numR b 0) (uptoE b 0 15)) (uptoE (numR b 0) (uptoE b 0 15) 1048576) 1048576 : Nat) : Int)] : List Value) ++ (cBs (sumV (numR (numR (numR b 0) (uptoE b 0 15)) (uptoE (numR b 0) (uptoE b 0 15) 1048576)) (uptoE (numR (numR b 0) (uptoE b 0 15)) (uptoE (numR b 0) (uptoE b 0 15) 1048576) 1048576)) ++ cBs (List.replicate 32 0))) (cs := cBs (sumV (rawR (numR (numR (numR b 0) (uptoE b 0 15)) (uptoE (numR b 0) (uptoE b 0 15) 1048576)) (uptoE (numR (numR b 0) (uptoE b 0 15)) (uptoE (numR b 0) (uptoE b 0 15) 1048576) 1048576) 32) (rawE (numR (numR (numR b 0) (uptoE b 0 15)) (uptoE (numR b 0) (uptoE b 0 15) 1048576)) (uptoE (numR (numR b 0) (uptoE b 0 15)) (uptoE (numR b 0) (uptoE b 0 15) 1048576) 1048576) 32))) (cur' := ([.int .i64 ((uptoV b 0 15 : Nat) : Int), .int .i64 ((uptoV (numR b 0) (uptoE b 0 15) 1048576 : Nat) : Int), .int .i64 ((uptoV (numR (numR b 0) (uptoE b 0 15)) (uptoE (numR b 0) (uptoE b 0 15) 1048576) 1048576 : Nat) : Int)] : List Value) ++ (cBs (sumV (numR (numR (numR b 0) (uptoE b 0 15)) (uptoE (numR b 0) (uptoE b 0 15) 1048576)) (uptoE (numR (numR b 0) (uptoE b 0 15)) (uptoE (numR b 0) (uptoE b 0 15) 1048576) 1048576)) ++ cBs (sumV (rawR (numR (numR (numR b 0) (uptoE b 0 15)) (uptoE (numR b 0) (uptoE b 0 15) 1048576)) (uptoE (numR (numR b 0) (uptoE b 0 15)) (uptoE (numR b 0) (uptoE b 0 15) 1048576) 1048576) 32) (rawE (numR (numR (numR b 0) (uptoE b 0 15)) (uptoE (numR b 0) (uptoE b 0 15) 1048576)) (uptoE (numR (numR b 0) (uptoE b 0 15)) (uptoE (numR b 0) (uptoE b 0 15) 1048576) 1048576) 32)))) (A := (([.int .i64 ((uptoV b 0 15 : Nat) : Int), .int .i64 ((uptoV (numR b 0) (uptoE b 0 15) 1048576 : Nat) : Int), .int .i64 ((uptoV (numR (numR b 0) (uptoE b 0 15)) (uptoE (numR b 0) (uptoE b 0 15) 1048576) 1048576 : Nat) : Int)] : List Value) ++ cBs (sumV (numR (numR (numR b 0) (uptoE b 0 15)) (uptoE (numR b 0) (uptoE b 0 15) 1048576)) (uptoE (numR (numR b 0) (uptoE b 0 15)) (uptoE (numR b 0) (uptoE b 0 15) 1048576) 1048576)) : List Value)) (D := (cBs (List.replicate 32 0) : List Value)) (C := ([] : List Value)) (by simp only [List.append_assoc, List.cons_append, List.nil_append, List.append_nil]) (by simp only [List.append_assoc, List.cons_append, List.nil_append, List.append_nil]) (len_app (m := 3) (n := 32) (k := 35) rfl (cBs_len sumV_len) rfl) ((cBs_len (List.length_replicate ..)).trans (cBs_len sumV_len).symm)) (le_of_len (len_app (m := 3) (n := 64) (k := 67) rfl (len_app (m := 32) (n := 32) (k := 64) (cBs_len sumV_len) (cBs_len (List.length_replicate ..)) rfl) rfl) (cBs_len sumV_len) (by decide)) (fr_eval rfl rfl) (fr_eval rfl rfl) (sz_len Try.sz45 (cBs_len sumV_len)) ((cBs_one _))) ?_
  clear hH
  rintro w11 ⟨hH, hx⟩
  replace hH : Heap (newN w) w w11 [oBlk g1 (([.int .i64 0, .int .i64 0, .int .i64 0] : List Value) ++ (cBs (List.replicate 32 0) ++ cBs (List.replicate 32 0))) 54, oEye g2 z1 (rawR (rawR (numR (numR (numR b 0) (uptoE b 0 15)) (uptoE (numR b 0) (uptoE b 0 15) 1048576)) (uptoE (numR (numR b 0) (uptoE b 0 15)) (uptoE (numR b 0) (uptoE b 0 15) 1048576) 1048576) 32) (rawE (numR (numR (numR b 0) (uptoE b 0 15)) (uptoE (numR b 0) (uptoE b 0 15) 1048576)) (uptoE (numR (numR b 0) (uptoE b 0 15)) (uptoE (numR b 0) (uptoE b 0 15) 1048576) 1048576) 32) 32) (rawE (rawR (numR (numR (numR b 0) (uptoE b 0 15)) (uptoE (numR b 0) (uptoE b 0 15) 1048576)) (uptoE (numR (numR b 0) (uptoE b 0 15)) (uptoE (numR b 0) (uptoE b 0 15) 1048576) 1048576) 32) (rawE (numR (numR (numR b 0) (uptoE b 0 15)) (uptoE (numR b 0) (uptoE b 0 15) 1048576)) (uptoE (numR (numR b 0) (uptoE b 0 15)) (uptoE (numR b 0) (uptoE b 0 15) 1048576) 1048576) 32) 32), oBlk g3 (([.int .i64 ((uptoV b 0 15 : Nat) : Int), .int .i64 ((uptoV (numR b 0) (uptoE b 0 15) 1048576 : Nat) : Int), .int .i64 ((uptoV (numR (numR b 0) (uptoE b 0 15)) (uptoE (numR b 0) (uptoE b 0 15) 1048576) 1048576 : Nat) : Int)] : List Value) ++ (cBs (sumV (numR (numR (numR b 0) (uptoE b 0 15)) (uptoE (numR b 0) (uptoE b 0 15) 1048576)) (uptoE (numR (numR b 0) (uptoE b 0 15)) (uptoE (numR b 0) (uptoE b 0 15) 1048576) 1048576)) ++ cBs (sumV (rawR (numR (numR (numR b 0) (uptoE b 0 15)) (uptoE (numR b 0) (uptoE b 0 15) 1048576)) (uptoE (numR (numR b 0) (uptoE b 0 15)) (uptoE (numR b 0) (uptoE b 0 15) 1048576) 1048576) 32) (rawE (numR (numR (numR b 0) (uptoE b 0 15)) (uptoE (numR b 0) (uptoE b 0 15) 1048576)) (uptoE (numR (numR b 0) (uptoE b 0 15)) (uptoE (numR b 0) (uptoE b 0 15) 1048576) 1048576) 32)))) 54] := hH
  clear hx
  refine lf_nil ?_
  refine then_n ?_
  refine wp_seq ?_
  refine wp_seq ?_
  refine wp_gen (fun F' => F' 0 = v ∧ F' 2 = .pointer (some ⟨g1, 0, none⟩) ∧ F' 3 = .int .i64 0 ∧ F' 4 = .pointer (some ⟨g2, 0, none⟩) ∧ F' 5 = .pointer (some ⟨g3, 0, none⟩)) ⟨e0, e2, e3, e4, e5⟩ ?_
  clear e0 e2 e3 e4 e5
  clear F
  rintro F ⟨e0, e2, e3, e4, e5⟩
  refine wp_regionF ?_
  refine lf_val (v := .pointer (some ⟨g2, 0, none⟩)) (wantAll rfl) (rv_move rfl (fr_eval rfl e4)) ?_
  refine lf_call (wantAll rfl) (rv_call (args := [.pointer (some ⟨g2, 0, none⟩)]) rfl (evc (fr_eval rfl rfl) evn) Try.call22) (done_calls  _ (hH.eye (i := 1) rfl) (eye_ne hH (i := 1) rfl hv_g2)) ?_
  rintro _ w12 ⟨rfl, hy, hxf⟩
  refine ⟨_, rfl, ?_⟩
  replace hH : Heap (newN w) w w12 [oBlk g1 (([.int .i64 0, .int .i64 0, .int .i64 0] : List Value) ++ (cBs (List.replicate 32 0) ++ cBs (List.replicate 32 0))) 54, oEye g2 z1 (rawR (rawR (numR (numR (numR b 0) (uptoE b 0 15)) (uptoE (numR b 0) (uptoE b 0 15) 1048576)) (uptoE (numR (numR b 0) (uptoE b 0 15)) (uptoE (numR b 0) (uptoE b 0 15) 1048576) 1048576) 32) (rawE (numR (numR (numR b 0) (uptoE b 0 15)) (uptoE (numR b 0) (uptoE b 0 15) 1048576)) (uptoE (numR (numR b 0) (uptoE b 0 15)) (uptoE (numR b 0) (uptoE b 0 15) 1048576) 1048576) 32) 32) (doneE (rawR (rawR (numR (numR (numR b 0) (uptoE b 0 15)) (uptoE (numR b 0) (uptoE b 0 15) 1048576)) (uptoE (numR (numR b 0) (uptoE b 0 15)) (uptoE (numR b 0) (uptoE b 0 15) 1048576) 1048576) 32) (rawE (numR (numR (numR b 0) (uptoE b 0 15)) (uptoE (numR b 0) (uptoE b 0 15) 1048576)) (uptoE (numR (numR b 0) (uptoE b 0 15)) (uptoE (numR b 0) (uptoE b 0 15) 1048576) 1048576) 32) 32) (rawE (rawR (numR (numR (numR b 0) (uptoE b 0 15)) (uptoE (numR b 0) (uptoE b 0 15) 1048576)) (uptoE (numR (numR b 0) (uptoE b 0 15)) (uptoE (numR b 0) (uptoE b 0 15) 1048576) 1048576) 32) (rawE (numR (numR (numR b 0) (uptoE b 0 15)) (uptoE (numR b 0) (uptoE b 0 15) 1048576)) (uptoE (numR (numR b 0) (uptoE b 0 15)) (uptoE (numR b 0) (uptoE b 0 15) 1048576) 1048576) 32) 32)), oBlk g3 (([.int .i64 ((uptoV b 0 15 : Nat) : Int), .int .i64 ((uptoV (numR b 0) (uptoE b 0 15) 1048576 : Nat) : Int), .int .i64 ((uptoV (numR (numR b 0) (uptoE b 0 15)) (uptoE (numR b 0) (uptoE b 0 15) 1048576) 1048576 : Nat) : Int)] : List Value) ++ (cBs (sumV (numR (numR (numR b 0) (uptoE b 0 15)) (uptoE (numR b 0) (uptoE b 0 15) 1048576)) (uptoE (numR (numR b 0) (uptoE b 0 15)) (uptoE (numR b 0) (uptoE b 0 15) 1048576) 1048576)) ++ cBs (sumV (rawR (numR (numR (numR b 0) (uptoE b 0 15)) (uptoE (numR b 0) (uptoE b 0 15) 1048576)) (uptoE (numR (numR b 0) (uptoE b 0 15)) (uptoE (numR b 0) (uptoE b 0 15) 1048576) 1048576) 32) (rawE (numR (numR (numR b 0) (uptoE b 0 15)) (uptoE (numR b 0) (uptoE b 0 15) 1048576)) (uptoE (numR (numR b 0) (uptoE b 0 15)) (uptoE (numR b 0) (uptoE b 0 15) 1048576) 1048576) 32)))) 54] := hH.setEye (i := 1) rfl rfl hv_g2 hy hxf
  clear hy
  clear hxf
  refine lf_val (v := .int .i64 (doneE (rawR (rawR (numR (numR (numR b 0) (uptoE b 0 15)) (uptoE (numR b 0) (uptoE b 0 15) 1048576)) (uptoE (numR (numR b 0) (uptoE b 0 15)) (uptoE (numR b 0) (uptoE b 0 15) 1048576) 1048576) 32) (rawE (numR (numR (numR b 0) (uptoE b 0 15)) (uptoE (numR b 0) (uptoE b 0 15) 1048576)) (uptoE (numR (numR b 0) (uptoE b 0 15)) (uptoE (numR b 0) (uptoE b 0 15) 1048576) 1048576) 32) 32) (rawE (rawR (numR (numR (numR b 0) (uptoE b 0 15)) (uptoE (numR b 0) (uptoE b 0 15) 1048576)) (uptoE (numR (numR b 0) (uptoE b 0 15)) (uptoE (numR b 0) (uptoE b 0 15) 1048576) 1048576) 32) (rawE (numR (numR (numR b 0) (uptoE b 0 15)) (uptoE (numR b 0) (uptoE b 0 15) 1048576)) (uptoE (numR (numR b 0) (uptoE b 0 15)) (uptoE (numR b 0) (uptoE b 0 15) 1048576) 1048576) 32) 32))) (wantAll rfl) (rv_assign rfl (fr_eval rfl rfl)) ?_
  refine lf_nil ?_
  refine then_n ?_
  refine wp_seq ?_
  refine wp_gen (fun F' => F' 0 = v ∧ F' 2 = .pointer (some ⟨g1, 0, none⟩) ∧ F' 3 = .int .i64 0 ∧ F' 4 = .pointer (some ⟨g2, 0, none⟩) ∧ F' 5 = .pointer (some ⟨g3, 0, none⟩) ∧ F' 6 = .int .i64 (doneE (rawR (rawR (numR (numR (numR b 0) (uptoE b 0 15)) (uptoE (numR b 0) (uptoE b 0 15) 1048576)) (uptoE (numR (numR b 0) (uptoE b 0 15)) (uptoE (numR b 0) (uptoE b 0 15) 1048576) 1048576) 32) (rawE (numR (numR (numR b 0) (uptoE b 0 15)) (uptoE (numR b 0) (uptoE b 0 15) 1048576)) (uptoE (numR (numR b 0) (uptoE b 0 15)) (uptoE (numR b 0) (uptoE b 0 15) 1048576) 1048576) 32) 32) (rawE (rawR (numR (numR (numR b 0) (uptoE b 0 15)) (uptoE (numR b 0) (uptoE b 0 15) 1048576)) (uptoE (numR (numR b 0) (uptoE b 0 15)) (uptoE (numR b 0) (uptoE b 0 15) 1048576) 1048576) 32) (rawE (numR (numR (numR b 0) (uptoE b 0 15)) (uptoE (numR b 0) (uptoE b 0 15) 1048576)) (uptoE (numR (numR b 0) (uptoE b 0 15)) (uptoE (numR b 0) (uptoE b 0 15) 1048576) 1048576) 32) 32))) ⟨e0, e2, e3, e4, e5, rfl⟩ ?_
  clear e0 e2 e3 e4 e5
  clear F
  rintro F ⟨e0, e2, e3, e4, e5, e6⟩
  refine wp_regionF ?_
  refine lf_val (v := .int .i64 (doneE (rawR (rawR (numR (numR (numR b 0) (uptoE b 0 15)) (uptoE (numR b 0) (uptoE b 0 15) 1048576)) (uptoE (numR (numR b 0) (uptoE b 0 15)) (uptoE (numR b 0) (uptoE b 0 15) 1048576) 1048576) 32) (rawE (numR (numR (numR b 0) (uptoE b 0 15)) (uptoE (numR b 0) (uptoE b 0 15) 1048576)) (uptoE (numR (numR b 0) (uptoE b 0 15)) (uptoE (numR b 0) (uptoE b 0 15) 1048576) 1048576) 32) 32) (rawE (rawR (numR (numR (numR b 0) (uptoE b 0 15)) (uptoE (numR b 0) (uptoE b 0 15) 1048576)) (uptoE (numR (numR b 0) (uptoE b 0 15)) (uptoE (numR b 0) (uptoE b 0 15) 1048576) 1048576) 32) (rawE (numR (numR (numR b 0) (uptoE b 0 15)) (uptoE (numR b 0) (uptoE b 0 15) 1048576)) (uptoE (numR (numR b 0) (uptoE b 0 15)) (uptoE (numR b 0) (uptoE b 0 15) 1048576) 1048576) 32) 32))) (wantAll rfl) (rv_move rfl (fr_eval rfl e6)) ?_
  by_cases hc1 : doneE (rawR (rawR (numR (numR (numR b 0) (uptoE b 0 15)) (uptoE (numR b 0) (uptoE b 0 15) 1048576)) (uptoE (numR (numR b 0) (uptoE b 0 15)) (uptoE (numR b 0) (uptoE b 0 15) 1048576) 1048576) 32) (rawE (numR (numR (numR b 0) (uptoE b 0 15)) (uptoE (numR b 0) (uptoE b 0 15) 1048576)) (uptoE (numR (numR b 0) (uptoE b 0 15)) (uptoE (numR b 0) (uptoE b 0 15) 1048576) 1048576) 32) 32) (rawE (rawR (numR (numR (numR b 0) (uptoE b 0 15)) (uptoE (numR b 0) (uptoE b 0 15) 1048576)) (uptoE (numR (numR b 0) (uptoE b 0 15)) (uptoE (numR b 0) (uptoE b 0 15) 1048576) 1048576) 32) (rawE (numR (numR (numR b 0) (uptoE b 0 15)) (uptoE (numR b 0) (uptoE b 0 15) 1048576)) (uptoE (numR (numR b 0) (uptoE b 0 15)) (uptoE (numR b 0) (uptoE b 0 15) 1048576) 1048576) 32) 32) = 0
  · refine lf_val (v := .bool false) (wantAll rfl) (rv_neq rfl (fr_eval rfl rfl) rfl (decide_eq_true (by omega))) ?_
    refine lf_nil ?_
    refine then_n ?_
    refine wp_gen (fun F' => F' 0 = v ∧ F' 2 = .pointer (some ⟨g1, 0, none⟩) ∧ F' 3 = .int .i64 0 ∧ F' 4 = .pointer (some ⟨g2, 0, none⟩) ∧ F' 5 = .pointer (some ⟨g3, 0, none⟩) ∧ F' 6 = .int .i64 (doneE (rawR (rawR (numR (numR (numR b 0) (uptoE b 0 15)) (uptoE (numR b 0) (uptoE b 0 15) 1048576)) (uptoE (numR (numR b 0) (uptoE b 0 15)) (uptoE (numR b 0) (uptoE b 0 15) 1048576) 1048576) 32) (rawE (numR (numR (numR b 0) (uptoE b 0 15)) (uptoE (numR b 0) (uptoE b 0 15) 1048576)) (uptoE (numR (numR b 0) (uptoE b 0 15)) (uptoE (numR b 0) (uptoE b 0 15) 1048576) 1048576) 32) 32) (rawE (rawR (numR (numR (numR b 0) (uptoE b 0 15)) (uptoE (numR b 0) (uptoE b 0 15) 1048576)) (uptoE (numR (numR b 0) (uptoE b 0 15)) (uptoE (numR b 0) (uptoE b 0 15) 1048576) 1048576) 32) (rawE (numR (numR (numR b 0) (uptoE b 0 15)) (uptoE (numR b 0) (uptoE b 0 15) 1048576)) (uptoE (numR (numR b 0) (uptoE b 0 15)) (uptoE (numR b 0) (uptoE b 0 15) 1048576) 1048576) 32) 32)) ∧ F' 25 = .bool false) ⟨e0, e2, e3, e4, e5, e6, rfl⟩ ?_
    clear e0 e2 e3 e4 e5 e6
    clear F
    rintro F ⟨e0, e2, e3, e4, e5, e6, e25⟩
    refine wp_cond_false (fr_eval rfl e25) ?_
    refine wp_skip ?_
    refine then_n ?_
    refine wp_seq ?_
    refine wp_regionF ?_
    refine lf_val (v := .agg (([.int .i64 ((uptoV b 0 15 : Nat) : Int), .int .i64 ((uptoV (numR b 0) (uptoE b 0 15) 1048576 : Nat) : Int), .int .i64 ((uptoV (numR (numR b 0) (uptoE b 0 15)) (uptoE (numR b 0) (uptoE b 0 15) 1048576) 1048576 : Nat) : Int)] : List Value) ++ (cBs (sumV (numR (numR (numR b 0) (uptoE b 0 15)) (uptoE (numR b 0) (uptoE b 0 15) 1048576)) (uptoE (numR (numR b 0) (uptoE b 0 15)) (uptoE (numR b 0) (uptoE b 0 15) 1048576) 1048576)) ++ cBs (sumV (rawR (numR (numR (numR b 0) (uptoE b 0 15)) (uptoE (numR b 0) (uptoE b 0 15) 1048576)) (uptoE (numR (numR b 0) (uptoE b 0 15)) (uptoE (numR b 0) (uptoE b 0 15) 1048576) 1048576) 32) (rawE (numR (numR (numR b 0) (uptoE b 0 15)) (uptoE (numR b 0) (uptoE b 0 15) 1048576)) (uptoE (numR (numR b 0) (uptoE b 0 15)) (uptoE (numR b 0) (uptoE b 0 15) 1048576) 1048576) 32)))).toArray) (wantAll rfl) (rv_loadW rfl (hH.blk (i := 2) rfl) (fr_eval rfl e5) Try.underlying54 rfl (sz_len Try.sz54 (len_app (m := 3) (n := 64) (k := 67) rfl (len_app (m := 32) (n := 32) (k := 64) (cBs_len sumV_len) (cBs_len sumV_len) rfl) rfl))) ?_
    refine lf_sk (wantAll rfl) (hx_storeW hH (i := 0) (cs := ([.int .i64 ((uptoV b 0 15 : Nat) : Int), .int .i64 ((uptoV (numR b 0) (uptoE b 0 15) 1048576 : Nat) : Int), .int .i64 ((uptoV (numR (numR b 0) (uptoE b 0 15)) (uptoE (numR b 0) (uptoE b 0 15) 1048576) 1048576 : Nat) : Int)] : List Value) ++ (cBs (sumV (numR (numR (numR b 0) (uptoE b 0 15)) (uptoE (numR b 0) (uptoE b 0 15) 1048576)) (uptoE (numR (numR b 0) (uptoE b 0 15)) (uptoE (numR b 0) (uptoE b 0 15) 1048576) 1048576)) ++ cBs (sumV (rawR (numR (numR (numR b 0) (uptoE b 0 15)) (uptoE (numR b 0) (uptoE b 0 15) 1048576)) (uptoE (numR (numR b 0) (uptoE b 0 15)) (uptoE (numR b 0) (uptoE b 0 15) 1048576) 1048576) 32) (rawE (numR (numR (numR b 0) (uptoE b 0 15)) (uptoE (numR b 0) (uptoE b 0 15) 1048576)) (uptoE (numR (numR b 0) (uptoE b 0 15)) (uptoE (numR b 0) (uptoE b 0 15) 1048576) 1048576) 32)))) rfl rfl rfl (fr_eval rfl e2) (fr_eval rfl rfl) (sz_len Try.sz54 (len_app (m := 3) (n := 64) (k := 67) rfl (len_app (m := 32) (n := 32) (k := 64) (cBs_len sumV_len) (cBs_len sumV_len) rfl) rfl)) (((len_app (m := 3) (n := 64) (k := 67) rfl (len_app (m := 32) (n := 32) (k := 64) (cBs_len (List.length_replicate ..)) (cBs_len (List.length_replicate ..)) rfl) rfl)).trans ((len_app (m := 3) (n := 64) (k := 67) rfl (len_app (m := 32) (n := 32) (k := 64) (cBs_len sumV_len) (cBs_len sumV_len) rfl) rfl)).symm) ((ones_app (ones_cons rfl (ones_cons rfl (ones_cons rfl ones_nil))) (ones_app (cBs_one _) (cBs_one _))))) ?_
    clear hH
    rintro w13 ⟨hH, hx⟩
    replace hH : Heap (newN w) w w13 [oBlk g1 (([.int .i64 ((uptoV b 0 15 : Nat) : Int), .int .i64 ((uptoV (numR b 0) (uptoE b 0 15) 1048576 : Nat) : Int), .int .i64 ((uptoV (numR (numR b 0) (uptoE b 0 15)) (uptoE (numR b 0) (uptoE b 0 15) 1048576) 1048576 : Nat) : Int)] : List Value) ++ (cBs (sumV (numR (numR (numR b 0) (uptoE b 0 15)) (uptoE (numR b 0) (uptoE b 0 15) 1048576)) (uptoE (numR (numR b 0) (uptoE b 0 15)) (uptoE (numR b 0) (uptoE b 0 15) 1048576) 1048576)) ++ cBs (sumV (rawR (numR (numR (numR b 0) (uptoE b 0 15)) (uptoE (numR b 0) (uptoE b 0 15) 1048576)) (uptoE (numR (numR b 0) (uptoE b 0 15)) (uptoE (numR b 0) (uptoE b 0 15) 1048576) 1048576) 32) (rawE (numR (numR (numR b 0) (uptoE b 0 15)) (uptoE (numR b 0) (uptoE b 0 15) 1048576)) (uptoE (numR (numR b 0) (uptoE b 0 15)) (uptoE (numR b 0) (uptoE b 0 15) 1048576) 1048576) 32)))) 54, oEye g2 z1 (rawR (rawR (numR (numR (numR b 0) (uptoE b 0 15)) (uptoE (numR b 0) (uptoE b 0 15) 1048576)) (uptoE (numR (numR b 0) (uptoE b 0 15)) (uptoE (numR b 0) (uptoE b 0 15) 1048576) 1048576) 32) (rawE (numR (numR (numR b 0) (uptoE b 0 15)) (uptoE (numR b 0) (uptoE b 0 15) 1048576)) (uptoE (numR (numR b 0) (uptoE b 0 15)) (uptoE (numR b 0) (uptoE b 0 15) 1048576) 1048576) 32) 32) (doneE (rawR (rawR (numR (numR (numR b 0) (uptoE b 0 15)) (uptoE (numR b 0) (uptoE b 0 15) 1048576)) (uptoE (numR (numR b 0) (uptoE b 0 15)) (uptoE (numR b 0) (uptoE b 0 15) 1048576) 1048576) 32) (rawE (numR (numR (numR b 0) (uptoE b 0 15)) (uptoE (numR b 0) (uptoE b 0 15) 1048576)) (uptoE (numR (numR b 0) (uptoE b 0 15)) (uptoE (numR b 0) (uptoE b 0 15) 1048576) 1048576) 32) 32) (rawE (rawR (numR (numR (numR b 0) (uptoE b 0 15)) (uptoE (numR b 0) (uptoE b 0 15) 1048576)) (uptoE (numR (numR b 0) (uptoE b 0 15)) (uptoE (numR b 0) (uptoE b 0 15) 1048576) 1048576) 32) (rawE (numR (numR (numR b 0) (uptoE b 0 15)) (uptoE (numR b 0) (uptoE b 0 15) 1048576)) (uptoE (numR (numR b 0) (uptoE b 0 15)) (uptoE (numR b 0) (uptoE b 0 15) 1048576) 1048576) 32) 32)), oBlk g3 (([.int .i64 ((uptoV b 0 15 : Nat) : Int), .int .i64 ((uptoV (numR b 0) (uptoE b 0 15) 1048576 : Nat) : Int), .int .i64 ((uptoV (numR (numR b 0) (uptoE b 0 15)) (uptoE (numR b 0) (uptoE b 0 15) 1048576) 1048576 : Nat) : Int)] : List Value) ++ (cBs (sumV (numR (numR (numR b 0) (uptoE b 0 15)) (uptoE (numR b 0) (uptoE b 0 15) 1048576)) (uptoE (numR (numR b 0) (uptoE b 0 15)) (uptoE (numR b 0) (uptoE b 0 15) 1048576) 1048576)) ++ cBs (sumV (rawR (numR (numR (numR b 0) (uptoE b 0 15)) (uptoE (numR b 0) (uptoE b 0 15) 1048576)) (uptoE (numR (numR b 0) (uptoE b 0 15)) (uptoE (numR b 0) (uptoE b 0 15) 1048576) 1048576) 32) (rawE (numR (numR (numR b 0) (uptoE b 0 15)) (uptoE (numR b 0) (uptoE b 0 15) 1048576)) (uptoE (numR (numR b 0) (uptoE b 0 15)) (uptoE (numR b 0) (uptoE b 0 15) 1048576) 1048576) 32)))) 54] := hH
    clear hx
    refine lf_val (v := .int .i64 0) (wantAll rfl) (rv_assign rfl rfl) ?_
    refine lf_nil ?_
    refine then_n ?_
    refine wp_gen (fun F' => F' 0 = v ∧ F' 2 = .pointer (some ⟨g1, 0, none⟩) ∧ F' 3 = .int .i64 0 ∧ F' 4 = .pointer (some ⟨g2, 0, none⟩) ∧ F' 5 = .pointer (some ⟨g3, 0, none⟩) ∧ F' 6 = .int .i64 (doneE (rawR (rawR (numR (numR (numR b 0) (uptoE b 0 15)) (uptoE (numR b 0) (uptoE b 0 15) 1048576)) (uptoE (numR (numR b 0) (uptoE b 0 15)) (uptoE (numR b 0) (uptoE b 0 15) 1048576) 1048576) 32) (rawE (numR (numR (numR b 0) (uptoE b 0 15)) (uptoE (numR b 0) (uptoE b 0 15) 1048576)) (uptoE (numR (numR b 0) (uptoE b 0 15)) (uptoE (numR b 0) (uptoE b 0 15) 1048576) 1048576) 32) 32) (rawE (rawR (numR (numR (numR b 0) (uptoE b 0 15)) (uptoE (numR b 0) (uptoE b 0 15) 1048576)) (uptoE (numR (numR b 0) (uptoE b 0 15)) (uptoE (numR b 0) (uptoE b 0 15) 1048576) 1048576) 32) (rawE (numR (numR (numR b 0) (uptoE b 0 15)) (uptoE (numR b 0) (uptoE b 0 15) 1048576)) (uptoE (numR (numR b 0) (uptoE b 0 15)) (uptoE (numR b 0) (uptoE b 0 15) 1048576) 1048576) 32) 32)) ∧ F' 25 = .bool false) ⟨e0, e2, rfl, e4, e5, e6, e25⟩ ?_
    clear e0 e2 e3 e4 e5 e6 e25
    clear F
    rintro F ⟨e0, e2, e3, e4, e5, e6, e25⟩
    refine wp_ret ?_
    exact bodyPost_ret (v := .tuple #[.agg (([.int .i64 ((uptoV b 0 15 : Nat) : Int), .int .i64 ((uptoV (numR b 0) (uptoE b 0 15) 1048576 : Nat) : Int), .int .i64 ((uptoV (numR (numR b 0) (uptoE b 0 15)) (uptoE (numR b 0) (uptoE b 0 15) 1048576) 1048576 : Nat) : Int)] : List Value) ++ (cBs (sumV (numR (numR (numR b 0) (uptoE b 0 15)) (uptoE (numR b 0) (uptoE b 0 15) 1048576)) (uptoE (numR (numR b 0) (uptoE b 0 15)) (uptoE (numR b 0) (uptoE b 0 15) 1048576) 1048576)) ++ cBs (sumV (rawR (numR (numR (numR b 0) (uptoE b 0 15)) (uptoE (numR b 0) (uptoE b 0 15) 1048576)) (uptoE (numR (numR b 0) (uptoE b 0 15)) (uptoE (numR b 0) (uptoE b 0 15) 1048576) 1048576) 32) (rawE (numR (numR (numR b 0) (uptoE b 0 15)) (uptoE (numR b 0) (uptoE b 0 15) 1048576)) (uptoE (numR (numR b 0) (uptoE b 0 15)) (uptoE (numR b 0) (uptoE b 0 15) 1048576) 1048576) 32)))).toArray, .int .i64 0]) (res2 rfl (ro_cell rfl e2 (hH.blk (i := 0) rfl) Try.underlying54 rfl (sz_len Try.sz54 (len_app (m := 3) (n := 64) (k := 67) rfl (len_app (m := 32) (n := 32) (k := 64) (cBs_len sumV_len) (cBs_len sumV_len) rfl) rfl))) (ro_tmp rfl e3)) rfl (⟨⟨rV b, 0, rfl, (by have h0 := (show rE b = 0 by assumption); have h := read_ok h0; rw [h0] at h; exact h)⟩, hH.done⟩)
  · refine lf_val (v := .bool true) (wantAll rfl) (rv_neq rfl (fr_eval rfl rfl) rfl (decide_eq_false (by omega))) ?_
    refine lf_nil ?_
    refine then_n ?_
    refine wp_gen (fun F' => F' 0 = v ∧ F' 2 = .pointer (some ⟨g1, 0, none⟩) ∧ F' 3 = .int .i64 0 ∧ F' 4 = .pointer (some ⟨g2, 0, none⟩) ∧ F' 5 = .pointer (some ⟨g3, 0, none⟩) ∧ F' 6 = .int .i64 (doneE (rawR (rawR (numR (numR (numR b 0) (uptoE b 0 15)) (uptoE (numR b 0) (uptoE b 0 15) 1048576)) (uptoE (numR (numR b 0) (uptoE b 0 15)) (uptoE (numR b 0) (uptoE b 0 15) 1048576) 1048576) 32) (rawE (numR (numR (numR b 0) (uptoE b 0 15)) (uptoE (numR b 0) (uptoE b 0 15) 1048576)) (uptoE (numR (numR b 0) (uptoE b 0 15)) (uptoE (numR b 0) (uptoE b 0 15) 1048576) 1048576) 32) 32) (rawE (rawR (numR (numR (numR b 0) (uptoE b 0 15)) (uptoE (numR b 0) (uptoE b 0 15) 1048576)) (uptoE (numR (numR b 0) (uptoE b 0 15)) (uptoE (numR b 0) (uptoE b 0 15) 1048576) 1048576) 32) (rawE (numR (numR (numR b 0) (uptoE b 0 15)) (uptoE (numR b 0) (uptoE b 0 15) 1048576)) (uptoE (numR (numR b 0) (uptoE b 0 15)) (uptoE (numR b 0) (uptoE b 0 15) 1048576) 1048576) 32) 32)) ∧ F' 25 = .bool true) ⟨e0, e2, e3, e4, e5, e6, rfl⟩ ?_
    clear e0 e2 e3 e4 e5 e6
    clear F
    rintro F ⟨e0, e2, e3, e4, e5, e6, e25⟩
    refine wp_cond_true (fr_eval rfl e25) ?_
    refine wp_seq ?_
    refine wp_regionF ?_
    refine lf_val (v := .agg (([.int .i64 0, .int .i64 0, .int .i64 0] : List Value) ++ (cBs (List.replicate 32 0) ++ cBs (List.replicate 32 0))).toArray) (wantAll rfl) (rv_buildS (ps := []) (places := #[(0, 1), (1, 1), (2, 1), (3, 32), (35, 32)]) (z := .agg (([.int .i64 0, .int .i64 0, .int .i64 0] : List Value) ++ (cBs (List.replicate 32 0) ++ cBs (List.replicate 32 0))).toArray) (zc := ([.int .i64 0, .int .i64 0, .int .i64 0] : List Value) ++ (cBs (List.replicate 32 0) ++ cBs (List.replicate 32 0))) (cs := ([.int .i64 0, .int .i64 0, .int .i64 0] : List Value) ++ (cBs (List.replicate 32 0) ++ cBs (List.replicate 32 0))) rfl evpn (by kernel_rfl) rfl Try.underlying54 (fun _ => by kernel_rfl) fill0) ?_
    refine lf_val (v := .int .i64 (doneE (rawR (rawR (numR (numR (numR b 0) (uptoE b 0 15)) (uptoE (numR b 0) (uptoE b 0 15) 1048576)) (uptoE (numR (numR b 0) (uptoE b 0 15)) (uptoE (numR b 0) (uptoE b 0 15) 1048576) 1048576) 32) (rawE (numR (numR (numR b 0) (uptoE b 0 15)) (uptoE (numR b 0) (uptoE b 0 15) 1048576)) (uptoE (numR (numR b 0) (uptoE b 0 15)) (uptoE (numR b 0) (uptoE b 0 15) 1048576) 1048576) 32) 32) (rawE (rawR (numR (numR (numR b 0) (uptoE b 0 15)) (uptoE (numR b 0) (uptoE b 0 15) 1048576)) (uptoE (numR (numR b 0) (uptoE b 0 15)) (uptoE (numR b 0) (uptoE b 0 15) 1048576) 1048576) 32) (rawE (numR (numR (numR b 0) (uptoE b 0 15)) (uptoE (numR b 0) (uptoE b 0 15) 1048576)) (uptoE (numR (numR b 0) (uptoE b 0 15)) (uptoE (numR b 0) (uptoE b 0 15) 1048576) 1048576) 32) 32))) (wantAll rfl) (rv_move rfl (fr_eval rfl e6)) ?_
    refine lf_sk (wantAll rfl) (hx_storeW hH (i := 0) (cs := ([.int .i64 0, .int .i64 0, .int .i64 0] : List Value) ++ (cBs (List.replicate 32 0) ++ cBs (List.replicate 32 0))) rfl rfl rfl (fr_eval rfl e2) (fr_eval rfl rfl) (sz_len Try.sz54 (len_app (m := 3) (n := 64) (k := 67) rfl (len_app (m := 32) (n := 32) (k := 64) (cBs_len (List.length_replicate ..)) (cBs_len (List.length_replicate ..)) rfl) rfl)) (((len_app (m := 3) (n := 64) (k := 67) rfl (len_app (m := 32) (n := 32) (k := 64) (cBs_len (List.length_replicate ..)) (cBs_len (List.length_replicate ..)) rfl) rfl)).trans ((len_app (m := 3) (n := 64) (k := 67) rfl (len_app (m := 32) (n := 32) (k := 64) (cBs_len (List.length_replicate ..)) (cBs_len (List.length_replicate ..)) rfl) rfl)).symm) ((ones_app (ones_cons rfl (ones_cons rfl (ones_cons rfl ones_nil))) (ones_app (cBs_one _) (cBs_one _))))) ?_
    clear hH
    rintro w14 ⟨hH, hx⟩
    replace hH : Heap (newN w) w w14 [oBlk g1 (([.int .i64 0, .int .i64 0, .int .i64 0] : List Value) ++ (cBs (List.replicate 32 0) ++ cBs (List.replicate 32 0))) 54, oEye g2 z1 (rawR (rawR (numR (numR (numR b 0) (uptoE b 0 15)) (uptoE (numR b 0) (uptoE b 0 15) 1048576)) (uptoE (numR (numR b 0) (uptoE b 0 15)) (uptoE (numR b 0) (uptoE b 0 15) 1048576) 1048576) 32) (rawE (numR (numR (numR b 0) (uptoE b 0 15)) (uptoE (numR b 0) (uptoE b 0 15) 1048576)) (uptoE (numR (numR b 0) (uptoE b 0 15)) (uptoE (numR b 0) (uptoE b 0 15) 1048576) 1048576) 32) 32) (doneE (rawR (rawR (numR (numR (numR b 0) (uptoE b 0 15)) (uptoE (numR b 0) (uptoE b 0 15) 1048576)) (uptoE (numR (numR b 0) (uptoE b 0 15)) (uptoE (numR b 0) (uptoE b 0 15) 1048576) 1048576) 32) (rawE (numR (numR (numR b 0) (uptoE b 0 15)) (uptoE (numR b 0) (uptoE b 0 15) 1048576)) (uptoE (numR (numR b 0) (uptoE b 0 15)) (uptoE (numR b 0) (uptoE b 0 15) 1048576) 1048576) 32) 32) (rawE (rawR (numR (numR (numR b 0) (uptoE b 0 15)) (uptoE (numR b 0) (uptoE b 0 15) 1048576)) (uptoE (numR (numR b 0) (uptoE b 0 15)) (uptoE (numR b 0) (uptoE b 0 15) 1048576) 1048576) 32) (rawE (numR (numR (numR b 0) (uptoE b 0 15)) (uptoE (numR b 0) (uptoE b 0 15) 1048576)) (uptoE (numR (numR b 0) (uptoE b 0 15)) (uptoE (numR b 0) (uptoE b 0 15) 1048576) 1048576) 32) 32)), oBlk g3 (([.int .i64 ((uptoV b 0 15 : Nat) : Int), .int .i64 ((uptoV (numR b 0) (uptoE b 0 15) 1048576 : Nat) : Int), .int .i64 ((uptoV (numR (numR b 0) (uptoE b 0 15)) (uptoE (numR b 0) (uptoE b 0 15) 1048576) 1048576 : Nat) : Int)] : List Value) ++ (cBs (sumV (numR (numR (numR b 0) (uptoE b 0 15)) (uptoE (numR b 0) (uptoE b 0 15) 1048576)) (uptoE (numR (numR b 0) (uptoE b 0 15)) (uptoE (numR b 0) (uptoE b 0 15) 1048576) 1048576)) ++ cBs (sumV (rawR (numR (numR (numR b 0) (uptoE b 0 15)) (uptoE (numR b 0) (uptoE b 0 15) 1048576)) (uptoE (numR (numR b 0) (uptoE b 0 15)) (uptoE (numR b 0) (uptoE b 0 15) 1048576) 1048576) 32) (rawE (numR (numR (numR b 0) (uptoE b 0 15)) (uptoE (numR b 0) (uptoE b 0 15) 1048576)) (uptoE (numR (numR b 0) (uptoE b 0 15)) (uptoE (numR b 0) (uptoE b 0 15) 1048576) 1048576) 32)))) 54] := hH
    clear hx
    refine lf_val (v := .int .i64 (doneE (rawR (rawR (numR (numR (numR b 0) (uptoE b 0 15)) (uptoE (numR b 0) (uptoE b 0 15) 1048576)) (uptoE (numR (numR b 0) (uptoE b 0 15)) (uptoE (numR b 0) (uptoE b 0 15) 1048576) 1048576) 32) (rawE (numR (numR (numR b 0) (uptoE b 0 15)) (uptoE (numR b 0) (uptoE b 0 15) 1048576)) (uptoE (numR (numR b 0) (uptoE b 0 15)) (uptoE (numR b 0) (uptoE b 0 15) 1048576) 1048576) 32) 32) (rawE (rawR (numR (numR (numR b 0) (uptoE b 0 15)) (uptoE (numR b 0) (uptoE b 0 15) 1048576)) (uptoE (numR (numR b 0) (uptoE b 0 15)) (uptoE (numR b 0) (uptoE b 0 15) 1048576) 1048576) 32) (rawE (numR (numR (numR b 0) (uptoE b 0 15)) (uptoE (numR b 0) (uptoE b 0 15) 1048576)) (uptoE (numR (numR b 0) (uptoE b 0 15)) (uptoE (numR b 0) (uptoE b 0 15) 1048576) 1048576) 32) 32))) (wantAll rfl) (rv_assign rfl (fr_eval rfl rfl)) ?_
    refine lf_nil ?_
    refine then_n ?_
    refine wp_gen (fun F' => F' 0 = v ∧ F' 2 = .pointer (some ⟨g1, 0, none⟩) ∧ F' 3 = .int .i64 (doneE (rawR (rawR (numR (numR (numR b 0) (uptoE b 0 15)) (uptoE (numR b 0) (uptoE b 0 15) 1048576)) (uptoE (numR (numR b 0) (uptoE b 0 15)) (uptoE (numR b 0) (uptoE b 0 15) 1048576) 1048576) 32) (rawE (numR (numR (numR b 0) (uptoE b 0 15)) (uptoE (numR b 0) (uptoE b 0 15) 1048576)) (uptoE (numR (numR b 0) (uptoE b 0 15)) (uptoE (numR b 0) (uptoE b 0 15) 1048576) 1048576) 32) 32) (rawE (rawR (numR (numR (numR b 0) (uptoE b 0 15)) (uptoE (numR b 0) (uptoE b 0 15) 1048576)) (uptoE (numR (numR b 0) (uptoE b 0 15)) (uptoE (numR b 0) (uptoE b 0 15) 1048576) 1048576) 32) (rawE (numR (numR (numR b 0) (uptoE b 0 15)) (uptoE (numR b 0) (uptoE b 0 15) 1048576)) (uptoE (numR (numR b 0) (uptoE b 0 15)) (uptoE (numR b 0) (uptoE b 0 15) 1048576) 1048576) 32) 32)) ∧ F' 4 = .pointer (some ⟨g2, 0, none⟩) ∧ F' 5 = .pointer (some ⟨g3, 0, none⟩) ∧ F' 6 = .int .i64 (doneE (rawR (rawR (numR (numR (numR b 0) (uptoE b 0 15)) (uptoE (numR b 0) (uptoE b 0 15) 1048576)) (uptoE (numR (numR b 0) (uptoE b 0 15)) (uptoE (numR b 0) (uptoE b 0 15) 1048576) 1048576) 32) (rawE (numR (numR (numR b 0) (uptoE b 0 15)) (uptoE (numR b 0) (uptoE b 0 15) 1048576)) (uptoE (numR (numR b 0) (uptoE b 0 15)) (uptoE (numR b 0) (uptoE b 0 15) 1048576) 1048576) 32) 32) (rawE (rawR (numR (numR (numR b 0) (uptoE b 0 15)) (uptoE (numR b 0) (uptoE b 0 15) 1048576)) (uptoE (numR (numR b 0) (uptoE b 0 15)) (uptoE (numR b 0) (uptoE b 0 15) 1048576) 1048576) 32) (rawE (numR (numR (numR b 0) (uptoE b 0 15)) (uptoE (numR b 0) (uptoE b 0 15) 1048576)) (uptoE (numR (numR b 0) (uptoE b 0 15)) (uptoE (numR b 0) (uptoE b 0 15) 1048576) 1048576) 32) 32)) ∧ F' 25 = .bool true) ⟨e0, e2, rfl, e4, e5, e6, e25⟩ ?_
    clear e0 e2 e3 e4 e5 e6 e25
    clear F
    rintro F ⟨e0, e2, e3, e4, e5, e6, e25⟩
    refine wp_ret ?_
    refine then_ret ?_
    exact bodyPost_ret (v := .tuple #[.agg (([.int .i64 0, .int .i64 0, .int .i64 0] : List Value) ++ (cBs (List.replicate 32 0) ++ cBs (List.replicate 32 0))).toArray, .int .i64 (doneE (rawR (rawR (numR (numR (numR b 0) (uptoE b 0 15)) (uptoE (numR b 0) (uptoE b 0 15) 1048576)) (uptoE (numR (numR b 0) (uptoE b 0 15)) (uptoE (numR b 0) (uptoE b 0 15) 1048576) 1048576) 32) (rawE (numR (numR (numR b 0) (uptoE b 0 15)) (uptoE (numR b 0) (uptoE b 0 15) 1048576)) (uptoE (numR (numR b 0) (uptoE b 0 15)) (uptoE (numR b 0) (uptoE b 0 15) 1048576) 1048576) 32) 32) (rawE (rawR (numR (numR (numR b 0) (uptoE b 0 15)) (uptoE (numR b 0) (uptoE b 0 15) 1048576)) (uptoE (numR (numR b 0) (uptoE b 0 15)) (uptoE (numR b 0) (uptoE b 0 15) 1048576) 1048576) 32) (rawE (numR (numR (numR b 0) (uptoE b 0 15)) (uptoE (numR b 0) (uptoE b 0 15) 1048576)) (uptoE (numR (numR b 0) (uptoE b 0 15)) (uptoE (numR b 0) (uptoE b 0 15) 1048576) 1048576) 32) 32))]) (res2 rfl (ro_cell rfl e2 (hH.blk (i := 0) rfl) Try.underlying54 rfl (sz_len Try.sz54 (len_app (m := 3) (n := 64) (k := 67) rfl (len_app (m := 32) (n := 32) (k := 64) (cBs_len (List.length_replicate ..)) (cBs_len (List.length_replicate ..)) rfl) rfl))) (ro_tmp rfl e3)) rfl (⟨⟨zR, _, rfl, read_no (by assumption)⟩, hH.done⟩)

end Go.Proofs.Ytjgcjddaladgfaa
