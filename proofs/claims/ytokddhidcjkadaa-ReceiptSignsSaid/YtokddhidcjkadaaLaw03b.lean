/- Chapter 3's laws: Path, root, path, same, MerkleRoots, MerkleChecks. -/
import Derived.Test.YtokddhidcjkadaaLaw03
import Derived.Test.YtokddhidcjkadaaMerkle2
namespace Go.Proofs.Ytokddhidcjkadaa
open Go.RowKit Go.Bz Go.Bz.Sha Go.Bz.Merkle
attribute [local irreducible] wpList Code.wp wpAnyX
theorem root_nil {l : List S32} (h : l.length = 0) : rootS l = voidS := by
  unfold rootS; rw [if_pos (List.eq_nil_of_length_eq_zero h)]
theorem root_one {l : List S32} (h : l.length = 1) : rootS l = leafS (l.getD 0 zS) := by
  match l, h with
  | [x], _ => exact rootS_1 x
theorem path_end' {l : List S32} {a : Nat} (h : l.length < 2) : [] = pathT (l.map leafS) a := (pathT_end (by rw [List.length_map]; omega)).symm

set_option maxRecDepth 100000 in
set_option maxHeartbeats 4000000 in
theorem root03_step (l : List S32) (hl : l.length ≤ 1000000) (v : Value) (w : World) (ih : ∀ (q : List S32) (vq : Value) (wq : World), q.length < l.length → Rd wq 32 vq q.length (q.flatMap cS) → Calls Try.prog 20 #[vq] wq fun e'' w' => e'' = .returned (.agg (cBs (rootS q).1).toArray) ∧ Ext wq w') (hr0 : Rd w 32 v l.length (l.flatMap cS)) :
    Calls Try.prog 20 #[v] w fun e'' w' => e'' = .returned (.agg (cBs (rootS l).1).toArray) ∧ Ext w w' := by
  refine calls_fr (args := [v]) (n := 31) Try.func20 rfl rfl (show 1 ≤ 31 by decide) ?_
  have hr := Rd.stab hr0
  have hH : Heap (newN w) w w [] := Heap.fresh
  refine wp_seq ?_
  refine wp_gen (fun F' => F' 0 = v) rfl ?_
  rintro F e0
  refine wp_regionF ?_
  refine lf_ex (wantAll rfl) (hx_alloc hH 23 (z := .agg (cBs (List.replicate 32 0)).toArray) (n := 32) (cs := cBs (List.replicate 32 0)) rfl (by kernel_rfl) (by rfl)) ?_
  clear hH
  rintro _ w1 ⟨g1, rfl, hH, hx⟩
  replace hH : Heap (newN w) w w1 [oBlk g1 (cBs (List.replicate 32 0)) 23] := hH
  clear hx
  refine lf_nil ?_
  refine then_n ?_
  refine wp_seq ?_
  refine wp_seq ?_
  refine wp_gen (fun F' => F' 0 = v ∧ F' 2 = .pointer (some ⟨g1, 0, none⟩)) ⟨e0, rfl⟩ ?_
  clear e0
  clear F
  rintro F ⟨e0, e2⟩
  refine wp_regionF ?_
  refine lf_val (v := v) (wantAll rfl) (rv_move rfl (fr_eval rfl e0)) ?_
  refine lf_val (v := .int .i64 ((l.length : Nat) : Int)) (wantAll rfl) (rv_len rfl (fr_eval rfl rfl) (hr.rd _ hH.chg) Try.underlying24) ?_
  by_cases hc1 : l.length = 0
  · refine lf_val (v := .bool true) (wantAll rfl) (rv_eql rfl (fr_eval rfl rfl) rfl (decide_eq_true (by omega))) ?_
    refine lf_nil ?_
    refine then_n ?_
    refine wp_gen (fun F' => F' 0 = v ∧ F' 2 = .pointer (some ⟨g1, 0, none⟩) ∧ F' 6 = .bool true) ⟨e0, e2, rfl⟩ ?_
    clear e0 e2
    clear F
    rintro F ⟨e0, e2, e6⟩
    refine wp_cond_true (fr_eval rfl e6) ?_
    refine wp_seq ?_
    refine wp_regionF ?_
    refine lf_call (wantAll rfl) (rv_call (args := [cB 3, .slice none 0 0]) rfl (evc rfl (evc rfl evn)) Try.call45) (join_calls 3 [] (flat0s) _ _ (rdP_nil _)) ?_
    rintro _ w2 ⟨rfl, hx⟩
    refine ⟨_, rfl, ?_⟩
    replace hH := hH.ext hx
    clear hx
    refine lf_sk (wantAll rfl) (hx_storeW hH (i := 0) (cs := cBs (join 3 [])) rfl rfl rfl (fr_eval rfl e2) (fr_eval rfl rfl) (sz_len Try.sz23 (cBs_len (join_length _ _))) (((cBs_len (List.length_replicate ..))).trans ((cBs_len (join_length _ _))).symm) ((cBs_one _))) ?_
    clear hH
    rintro w3 ⟨hH, hx⟩
    replace hH : Heap (newN w) w w3 [oBlk g1 (cBs (join 3 [])) 23] := hH
    clear hx
    refine lf_nil ?_
    refine then_n ?_
    refine wp_gen (fun F' => F' 0 = v ∧ F' 2 = .pointer (some ⟨g1, 0, none⟩) ∧ F' 6 = .bool true) ⟨e0, e2, e6⟩ ?_
    clear e0 e2 e6
    clear F
    rintro F ⟨e0, e2, e6⟩
    refine wp_ret ?_
    refine then_ret ?_
    exact bodyPost_ret (v := (.agg (cBs (join 3 [])).toArray)) (res1 rfl (ro_cell rfl e2 (hH.blk (i := 0) rfl) Try.underlying23 rfl (sz_len Try.sz23 (cBs_len (join_length _ _))))) rfl (⟨by rw [root_nil (l := l) (by omega)]; rfl, hH.done⟩)
  · refine lf_val (v := .bool false) (wantAll rfl) (rv_eql rfl (fr_eval rfl rfl) rfl (decide_eq_false (by omega))) ?_
    refine lf_nil ?_
    refine then_n ?_
    refine wp_gen (fun F' => F' 0 = v ∧ F' 2 = .pointer (some ⟨g1, 0, none⟩) ∧ F' 6 = .bool false) ⟨e0, e2, rfl⟩ ?_
    clear e0 e2
    clear F
    rintro F ⟨e0, e2, e6⟩
    refine wp_cond_false (fr_eval rfl e6) ?_
    refine wp_skip ?_
    refine then_n ?_
    refine wp_seq ?_
    refine wp_seq ?_
    refine wp_regionF ?_
    refine lf_val (v := v) (wantAll rfl) (rv_move rfl (fr_eval rfl e0)) ?_
    refine lf_val (v := .int .i64 ((l.length : Nat) : Int)) (wantAll rfl) (rv_len rfl (fr_eval rfl rfl) (hr.rd _ hH.chg) Try.underlying24) ?_
    by_cases hc2 : l.length = 1
    · refine lf_val (v := .bool true) (wantAll rfl) (rv_eql rfl (fr_eval rfl rfl) rfl (decide_eq_true (by omega))) ?_
      refine lf_nil ?_
      refine then_n ?_
      refine wp_gen (fun F' => F' 0 = v ∧ F' 2 = .pointer (some ⟨g1, 0, none⟩) ∧ F' 6 = .bool false ∧ F' 10 = .bool true) ⟨e0, e2, e6, rfl⟩ ?_
      clear e0 e2 e6
      clear F
      rintro F ⟨e0, e2, e6, e10⟩
      refine wp_cond_true (fr_eval rfl e10) ?_
      refine wp_seq ?_
      refine wp_regionF ?_
      refine lf_val (v := v) (wantAll rfl) (rv_move rfl (fr_eval rfl e0)) ?_
      refine lf_val (v := .pointer (some (elemA v (0 * 32)))) (wantAll rfl) (rv_index rfl (fr_eval rfl rfl) (show _ = Value.int _ ((0 : Nat) : Int) from rfl) (rdN (hr.rd _ hH.chg) rfl) (show 0 < l.length from (by omega)) Try.underlying24 Try.sz23 (by decide)) ?_
      refine lf_val (v := .agg (cBs (((List.getD l 0 zS)).1)).toArray) (wantAll rfl) (rv_loadElem rfl (fr_eval rfl rfl) (rdN (hr.rd _ hH.chg) rfl) (show 0 < l.length from (by omega)) (by decide) (flat_part zS cS_len (show 0 < l.length from (by omega))) Try.underlying23 rfl Try.sz23) ?_
      refine lf_call (wantAll rfl) (rv_call (args := [.agg (cBs (((List.getD l 0 zS)).1)).toArray]) rfl (evc (fr_eval rfl rfl) evn) Try.call22) (leaf03_calls ((List.getD l 0 zS)) _) ?_
      rintro _ w4 ⟨rfl, hx⟩
      refine ⟨_, rfl, ?_⟩
      replace hH := hH.ext hx
      clear hx
      refine lf_sk (wantAll rfl) (hx_storeW hH (i := 0) (cs := cBs ((leafS ((List.getD l 0 zS))).1)) rfl rfl rfl (fr_eval rfl e2) (fr_eval rfl rfl) (sz_len Try.sz23 (cBs_len (leafS ((List.getD l 0 zS))).2)) (((cBs_len (List.length_replicate ..))).trans ((cBs_len (leafS ((List.getD l 0 zS))).2)).symm) ((cBs_one _))) ?_
      clear hH
      rintro w5 ⟨hH, hx⟩
      replace hH : Heap (newN w) w w5 [oBlk g1 (cBs ((leafS ((List.getD l 0 zS))).1)) 23] := hH
      clear hx
      refine lf_nil ?_
      refine then_n ?_
      refine wp_gen (fun F' => F' 0 = v ∧ F' 2 = .pointer (some ⟨g1, 0, none⟩) ∧ F' 6 = .bool false ∧ F' 10 = .bool true) ⟨e0, e2, e6, e10⟩ ?_
      clear e0 e2 e6 e10
      clear F
      rintro F ⟨e0, e2, e6, e10⟩
      refine wp_ret ?_
      refine then_ret ?_
      exact bodyPost_ret (v := (.agg (cBs ((leafS ((List.getD l 0 zS))).1)).toArray)) (res1 rfl (ro_cell rfl e2 (hH.blk (i := 0) rfl) Try.underlying23 rfl (sz_len Try.sz23 (cBs_len (leafS ((List.getD l 0 zS))).2)))) rfl (⟨by rw [root_one (l := l) (by omega)], hH.done⟩)
    · refine lf_val (v := .bool false) (wantAll rfl) (rv_eql rfl (fr_eval rfl rfl) rfl (decide_eq_false (by omega))) ?_
      refine lf_nil ?_
      refine then_n ?_
      refine wp_gen (fun F' => F' 0 = v ∧ F' 2 = .pointer (some ⟨g1, 0, none⟩) ∧ F' 6 = .bool false ∧ F' 10 = .bool false) ⟨e0, e2, e6, rfl⟩ ?_
      clear e0 e2 e6
      clear F
      rintro F ⟨e0, e2, e6, e10⟩
      refine wp_cond_false (fr_eval rfl e10) ?_
      refine wp_skip ?_
      refine then_n ?_
      refine wp_seq ?_
      refine wp_regionF ?_
      refine lf_val (v := .int .i64 1) (wantAll rfl) (rv_assign rfl rfl) ?_
      refine lf_nil ?_
      refine then_n ?_
      refine wp_seq ?_
      refine wp_block ?_
      refine wp_gen (fun F' => F' 0 = v ∧ F' 2 = .pointer (some ⟨g1, 0, none⟩) ∧ F' 3 = .int .i64 1 ∧ F' 6 = .bool false ∧ F' 10 = .bool false) ⟨e0, e2, rfl, e6, e10⟩ ?_
      clear e0 e2 e6 e10
      clear F
      rintro F ⟨e0, e2, e3, e6, e10⟩
      refine wp_loopF (fun m F wr => ∃ hf : Nat, m = l.length - hf ∧ (∃ k, hf = 2 ^ k) ∧ 1 ≤ hf ∧ hf < l.length ∧ F 0 = v ∧ F 2 = .pointer (some ⟨g1, 0, none⟩) ∧ F 3 = .int .i64 ((hf : Nat) : Int) ∧ F 6 = .bool false ∧ F 10 = .bool false ∧ Heap (newN w) w wr [oBlk g1 (cBs (List.replicate 32 0)) 23]) ⟨1, rfl, ⟨0, rfl⟩, (Nat.le_refl _), (by omega), e0, e2, e3, e6, e10, hH⟩ ?_
      clear e0 e2 e3 e6 e10 hH
      clear F
      rintro m F w6 ⟨hf, rfl, phf0, phf1, phf2, e0, e2, e3, e6, e10, hH⟩
      refine wp_seq ?_
      refine wp_seq ?_
      refine wp_regionF ?_
      refine lf_val (v := .int .i64 ((hf : Nat) : Int)) (wantAll rfl) (rv_move rfl (fr_eval rfl e3)) ?_
      refine lf_val (v := .int .i64 ((hf * 2 : Nat) : Int)) (wantAll rfl) (rv_mul rfl (fr_eval rfl rfl) rfl (wrap_i64 (by omega) (by omega) (by omega))) ?_
      refine lf_val (v := v) (wantAll rfl) (rv_move rfl (fr_eval rfl e0)) ?_
      refine lf_val (v := .int .i64 ((l.length : Nat) : Int)) (wantAll rfl) (rv_len rfl (fr_eval rfl rfl) (hr.rd _ hH.chg) Try.underlying24) ?_
      by_cases hc3 : hf * 2 < l.length
      · refine lf_val (v := .bool true) (wantAll rfl) (rv_lss rfl (fr_eval rfl rfl) (fr_eval rfl rfl) (decide_eq_true (by omega))) ?_
        refine lf_nil ?_
        refine then_n ?_
        refine wp_gen (fun F' => F' 0 = v ∧ F' 2 = .pointer (some ⟨g1, 0, none⟩) ∧ F' 3 = .int .i64 ((hf : Nat) : Int) ∧ F' 6 = .bool false ∧ F' 10 = .bool false ∧ F' 19 = .bool true) ⟨e0, e2, e3, e6, e10, rfl⟩ ?_
        clear e0 e2 e3 e6 e10
        clear F
        rintro F ⟨e0, e2, e3, e6, e10, e19⟩
        refine wp_cond_true (fr_eval rfl e19) ?_
        refine wp_skip ?_
        refine then_n ?_
        refine wp_block ?_
        refine wp_regionF ?_
        refine lf_val (v := .int .i64 ((hf : Nat) : Int)) (wantAll rfl) (rv_move rfl (fr_eval rfl e3)) ?_
        refine lf_val (v := .int .i64 ((hf * 2 : Nat) : Int)) (wantAll rfl) (rv_mul rfl (fr_eval rfl rfl) rfl (wrap_i64 (by omega) (by omega) (by omega))) ?_
        refine lf_val (v := .int .i64 ((hf * 2 : Nat) : Int)) (wantAll rfl) (rv_assign rfl (fr_eval rfl rfl)) ?_
        refine lf_nil ?_
        refine blk_n ?_
        refine then_n ?_
        exact ⟨_, _, (by omega), rfl, hf * 2, rfl, (pow_next phf0), (by omega), (by omega), e0, e2, rfl, e6, e10, hH⟩
      · refine lf_val (v := .bool false) (wantAll rfl) (rv_lss rfl (fr_eval rfl rfl) (fr_eval rfl rfl) (decide_eq_false (by omega))) ?_
        refine lf_nil ?_
        refine then_n ?_
        refine wp_gen (fun F' => F' 0 = v ∧ F' 2 = .pointer (some ⟨g1, 0, none⟩) ∧ F' 3 = .int .i64 ((hf : Nat) : Int) ∧ F' 6 = .bool false ∧ F' 10 = .bool false ∧ F' 19 = .bool false) ⟨e0, e2, e3, e6, e10, rfl⟩ ?_
        clear e0 e2 e3 e6 e10
        clear F
        rintro F ⟨e0, e2, e3, e6, e10, e19⟩
        refine wp_cond_false (fr_eval rfl e19) ?_
        refine wp_exit ?_
        refine then_exit ?_
        refine then_exit ?_
        refine blk_exit ?_
        refine then_n ?_
        refine wp_seq ?_
        refine wp_regionX (fun _ => False) 7 (by kernel_rfl) (by kernel_rfl) ?_
        refine xl_take (i := 0) (v := v) rfl (by kernel_rfl) (by kernel_rfl) (by kernel_rfl) (by kernel_rfl) (yx_val (wantAll rfl) (fun w' hx' => rv_move rfl (fr_eval rfl e0))) ?_
        refine xl_take (i := 1) (v := .int .i64 ((hf : Nat) : Int)) rfl (by kernel_rfl) (by kernel_rfl) (by kernel_rfl) (by kernel_rfl) (yx_val (wantAll rfl) (fun w' hx' => rv_move rfl (fr_eval rfl e3))) ?_
        refine xl_take (i := 2) (v := slcV v 32 0 hf) rfl (by kernel_rfl) (by kernel_rfl) (by kernel_rfl) (by kernel_rfl) (yx_val (wantAll rfl) (fun w' hx' => rv_slcH (h := hf) Try.stSum rfl (fr_eval rfl rfl) (rdN (hr.rd _ (hH.chg.trans (Ext.any hx'))) rfl) (fr_eval rfl rfl) (by omega))) ?_
        refine xl_take (i := 3) (v := .agg (cBs ((rootS (List.take (hf - 0) (List.drop 0 l))).1)).toArray) rfl (by kernel_rfl) (by kernel_rfl) (by kernel_rfl) (by kernel_rfl) (yx_call (wantAll rfl) (fun w' => rv_call (args := [slcV v 32 0 hf]) rfl (evc (fr_eval rfl rfl) evn) Try.call20) (fun w' hx' => ih (List.take (hf - 0) (List.drop 0 l)) _ _ (by simp only [List.length_take, List.length_drop]; omega) (rdF_slc (l := 0) (h := hf) cS_len (hr.rd _ (hH.chg.trans (Ext.any hx'))) rfl (Nat.zero_le _) (by omega)))) ?_
        refine xl_take (i := 4) (v := v) rfl (by kernel_rfl) (by kernel_rfl) (by kernel_rfl) (by kernel_rfl) (yx_val (wantAll rfl) (fun w' hx' => rv_move rfl (fr_eval rfl e0))) ?_
        refine xl_take (i := 5) (v := .int .i64 ((hf : Nat) : Int)) rfl (by kernel_rfl) (by kernel_rfl) (by kernel_rfl) (by kernel_rfl) (yx_val (wantAll rfl) (fun w' hx' => rv_move rfl (fr_eval rfl e3))) ?_
        refine xl_take (i := 6) (v := slcV v 32 hf l.length) rfl (by kernel_rfl) (by kernel_rfl) (by kernel_rfl) (by kernel_rfl) (yx_val (wantAll rfl) (fun w' hx' => rv_slcL (l := hf) Try.stSum rfl (fr_eval rfl rfl) (rdN (hr.rd _ (hH.chg.trans (Ext.any hx'))) rfl) (fr_eval rfl rfl) (by omega))) ?_
        refine xl_tail (s := 7) rfl ?_
        intro w7 hx
        replace hH := hH.ext hx
        clear hx
        refine lf_call (wantAll rfl) (rv_call (args := [slcV v 32 hf l.length]) rfl (evc (fr_eval rfl rfl) evn) Try.call20) (ih (List.take (l.length - hf) (List.drop hf l)) _ _ (by simp only [List.length_take, List.length_drop]; omega) (rdF_slc (l := hf) (h := l.length) cS_len (hr.rd _ hH.chg) rfl (by omega) (Nat.le_refl _))) ?_
        rintro _ w8 ⟨rfl, hx⟩
        refine ⟨_, rfl, ?_⟩
        replace hH := hH.ext hx
        clear hx
        refine lf_call (wantAll rfl) (rv_call (args := [cB 2, .agg (cBs ((rootS (List.take (hf - 0) (List.drop 0 l))).1)).toArray, .agg (cBs ((rootS (List.take (l.length - hf) (List.drop hf l))).1)).toArray]) rfl (evc rfl (evc (fr_eval rfl rfl) (evc (fr_eval rfl rfl) evn))) Try.call59) (pair_calls 2 ((rootS (List.take (hf - 0) (List.drop 0 l))).1) ((rootS (List.take (l.length - hf) (List.drop hf l))).1) ((rootS (List.take (hf - 0) (List.drop 0 l))).2) ((rootS (List.take (l.length - hf) (List.drop hf l))).2) _) ?_
        rintro _ w9 ⟨rfl, hx⟩
        refine ⟨_, rfl, ?_⟩
        replace hH := hH.ext hx
        clear hx
        refine lf_sk (wantAll rfl) (hx_storeW hH (i := 0) (cs := cBs ((pairS (rootS (List.take (hf - 0) (List.drop 0 l))) (rootS (List.take (l.length - hf) (List.drop hf l)))).1)) rfl rfl rfl (fr_eval rfl e2) (fr_eval rfl rfl) (sz_len Try.sz23 (cBs_len (pairS (rootS (List.take (hf - 0) (List.drop 0 l))) (rootS (List.take (l.length - hf) (List.drop hf l)))).2)) (((cBs_len (List.length_replicate ..))).trans ((cBs_len (pairS (rootS (List.take (hf - 0) (List.drop 0 l))) (rootS (List.take (l.length - hf) (List.drop hf l)))).2)).symm) ((cBs_one _))) ?_
        clear hH
        rintro w10 ⟨hH, hx⟩
        replace hH : Heap (newN w) w w10 [oBlk g1 (cBs ((pairS (rootS (List.take (hf - 0) (List.drop 0 l))) (rootS (List.take (l.length - hf) (List.drop hf l)))).1)) 23] := hH
        clear hx
        refine lf_nil ?_
        refine then_n ?_
        refine wp_gen (fun F' => F' 0 = v ∧ F' 2 = .pointer (some ⟨g1, 0, none⟩) ∧ F' 3 = .int .i64 ((hf : Nat) : Int) ∧ F' 6 = .bool false ∧ F' 10 = .bool false ∧ F' 19 = .bool false) ⟨e0, e2, e3, e6, e10, e19⟩ ?_
        clear e0 e2 e3 e6 e10 e19
        clear F
        rintro F ⟨e0, e2, e3, e6, e10, e19⟩
        refine wp_ret ?_
        exact bodyPost_ret (v := (.agg (cBs ((pairS (rootS (List.take (hf - 0) (List.drop 0 l))) (rootS (List.take (l.length - hf) (List.drop hf l)))).1)).toArray)) (res1 rfl (ro_cell rfl e2 (hH.blk (i := 0) rfl) Try.underlying23 rfl (sz_len Try.sz23 (cBs_len (pairS (rootS (List.take (hf - 0) (List.drop 0 l))) (rootS (List.take (l.length - hf) (List.drop hf l)))).2)))) rfl (⟨by rw [← root_cut (l := l) (h := hf) (n := l.length) rfl phf0 (by omega) (by omega)], hH.done⟩)

theorem root03_calls (l : List S32) (hl : l.length ≤ 1000000) (v : Value) (w : World) (hr0 : Rd w 32 v l.length (l.flatMap cS)) : Calls Try.prog 20 #[v] w fun e'' w' => e'' = .returned (.agg (cBs (rootS l).1).toArray) ∧ Ext w w' :=
  root03_step l hl v w (fun q vq wq hq hrq => root03_calls q (by omega) vq wq hrq) hr0
termination_by l.length

theorem path_len (row : List S32) (a : Nat) : (pathT row a).length ≤ row.length := by
  by_cases h : row.length ≤ 1
  · rw [pathT_end h]; exact Nat.zero_le _
  · have hu := upL_len row
    have := path_len (upL row) (a / 2)
    rw [pathT_go h, List.length_append]
    split
    · rw [List.length_singleton]; omega
    · rw [List.length_nil]; omega
termination_by row.length
decreasing_by omega

set_option maxRecDepth 100000 in
set_option maxHeartbeats 4000000 in
theorem path03_step (l : List S32) (a0 : Nat) (hl : l.length ≤ 1000000) (ha : a0 < l.length) (v : Value) (w : World) (ih : ∀ (q : List S32) (b : Nat) (vq : Value) (wq : World), q.length < l.length → b < q.length → Rd wq 32 vq q.length (q.flatMap cS) → Calls Try.prog 24 #[vq, .int .i64 (b : Int)] wq fun e'' w' => (∃ v', e'' = .returned v' ∧ Own w' 23 32 v' (pathT (q.map leafS) b).length ((pathT (q.map leafS) b).flatMap cS) ∧ ∀ k, v'.ownBlock = some k → wq.heap.size ≤ k) ∧ Ext wq w') (hr0 : Rd w 32 v l.length (l.flatMap cS)) :
    Calls Try.prog 24 #[v, .int .i64 ((a0 : Nat) : Int)] w fun e'' w' => (∃ v', e'' = .returned v' ∧ Own w' 23 32 v' (pathT (l.map leafS) a0).length ((pathT (l.map leafS) a0).flatMap cS) ∧ ∀ k, v'.ownBlock = some k → w.heap.size ≤ k) ∧ Ext w w' := by
  refine calls_fr (args := [v, .int .i64 ((a0 : Nat) : Int)]) (n := 43) Try.func24 rfl rfl (show 2 ≤ 43 by decide) ?_
  have hr := Rd.stab hr0
  have hH : Heap (newN w) w w [] := Heap.fresh
  refine wp_seq ?_
  refine wp_gen (fun F' => F' 0 = v ∧ F' 1 = .int .i64 ((a0 : Nat) : Int)) ⟨rfl, rfl⟩ ?_
  rintro F ⟨e0, e1⟩
  refine wp_regionF ?_
  refine lf_val (v := .slice none 0 0) (wantAll rfl) (rv_assign rfl rfl) ?_
  refine lf_nil ?_
  refine then_n ?_
  refine wp_seq ?_
  refine wp_seq ?_
  refine wp_gen (fun F' => F' 0 = v ∧ F' 1 = .int .i64 ((a0 : Nat) : Int) ∧ F' 4 = .slice none 0 0) ⟨e0, e1, rfl⟩ ?_
  clear e0 e1
  clear F
  rintro F ⟨e0, e1, e4⟩
  refine wp_regionF ?_
  refine lf_val (v := v) (wantAll rfl) (rv_move rfl (fr_eval rfl e0)) ?_
  refine lf_val (v := .int .i64 ((l.length : Nat) : Int)) (wantAll rfl) (rv_len rfl (fr_eval rfl rfl) (hr.rd _ hH.chg) Try.underlying24) ?_
  by_cases hc1 : l.length < 2
  · refine lf_val (v := .bool true) (wantAll rfl) (rv_lss rfl (fr_eval rfl rfl) rfl (decide_eq_true (by omega))) ?_
    refine lf_nil ?_
    refine then_n ?_
    refine wp_gen (fun F' => F' 0 = v ∧ F' 1 = .int .i64 ((a0 : Nat) : Int) ∧ F' 4 = .slice none 0 0 ∧ F' 8 = .bool true) ⟨e0, e1, e4, rfl⟩ ?_
    clear e0 e1 e4
    clear F
    rintro F ⟨e0, e1, e4, e8⟩
    refine wp_cond_true (fr_eval rfl e8) ?_
    refine wp_seq ?_
    refine wp_regionF ?_
    refine lf_val (v := .slice none 0 0) (wantAll rfl) (rv_assign rfl rfl) ?_
    refine lf_nil ?_
    refine then_n ?_
    refine wp_gen (fun F' => F' 0 = v ∧ F' 1 = .int .i64 ((a0 : Nat) : Int) ∧ F' 4 = .slice none 0 0 ∧ F' 8 = .bool true) ⟨e0, e1, rfl, e8⟩ ?_
    clear e0 e1 e4 e8
    clear F
    rintro F ⟨e0, e1, e4, e8⟩
    refine wp_ret ?_
    refine then_ret ?_
    exact bodyPost_ret (v := (.slice none 0 0)) (res1 rfl (ro_tmp rfl e4)) rfl (⟨⟨_, rfl, by rw [← path_end' (l := l) (a := a0) (by omega)]; exact World.ownsRow_nil _ _ _ _, ownBlock_nil⟩, hH.done⟩)
  · refine lf_val (v := .bool false) (wantAll rfl) (rv_lss rfl (fr_eval rfl rfl) rfl (decide_eq_false (by omega))) ?_
    refine lf_nil ?_
    refine then_n ?_
    refine wp_gen (fun F' => F' 0 = v ∧ F' 1 = .int .i64 ((a0 : Nat) : Int) ∧ F' 4 = .slice none 0 0 ∧ F' 8 = .bool false) ⟨e0, e1, e4, rfl⟩ ?_
    clear e0 e1 e4
    clear F
    rintro F ⟨e0, e1, e4, e8⟩
    refine wp_cond_false (fr_eval rfl e8) ?_
    refine wp_skip ?_
    refine then_n ?_
    refine wp_seq ?_
    refine wp_regionF ?_
    refine lf_val (v := .int .i64 1) (wantAll rfl) (rv_assign rfl rfl) ?_
    refine lf_nil ?_
    refine then_n ?_
    refine wp_seq ?_
    refine wp_block ?_
    refine wp_gen (fun F' => F' 0 = v ∧ F' 1 = .int .i64 ((a0 : Nat) : Int) ∧ F' 4 = .slice none 0 0 ∧ F' 5 = .int .i64 1 ∧ F' 8 = .bool false) ⟨e0, e1, e4, rfl, e8⟩ ?_
    clear e0 e1 e4 e8
    clear F
    rintro F ⟨e0, e1, e4, e5, e8⟩
    refine wp_loopF (fun m F wr => ∃ hf : Nat, m = l.length - hf ∧ (∃ k, hf = 2 ^ k) ∧ 1 ≤ hf ∧ hf < l.length ∧ F 0 = v ∧ F 1 = .int .i64 ((a0 : Nat) : Int) ∧ F 4 = .slice none 0 0 ∧ F 5 = .int .i64 ((hf : Nat) : Int) ∧ F 8 = .bool false ∧ Heap (newN w) w wr []) ⟨1, rfl, ⟨0, rfl⟩, (Nat.le_refl _), (by omega), e0, e1, e4, e5, e8, hH⟩ ?_
    clear e0 e1 e4 e5 e8 hH
    clear F
    rintro m F w1 ⟨hf, rfl, phf0, phf1, phf2, e0, e1, e4, e5, e8, hH⟩
    refine wp_seq ?_
    refine wp_seq ?_
    refine wp_regionF ?_
    refine lf_val (v := .int .i64 ((hf : Nat) : Int)) (wantAll rfl) (rv_move rfl (fr_eval rfl e5)) ?_
    refine lf_val (v := .int .i64 ((hf * 2 : Nat) : Int)) (wantAll rfl) (rv_mul rfl (fr_eval rfl rfl) rfl (wrap_i64 (by omega) (by omega) (by omega))) ?_
    refine lf_val (v := v) (wantAll rfl) (rv_move rfl (fr_eval rfl e0)) ?_
    refine lf_val (v := .int .i64 ((l.length : Nat) : Int)) (wantAll rfl) (rv_len rfl (fr_eval rfl rfl) (hr.rd _ hH.chg) Try.underlying24) ?_
    by_cases hc2 : hf * 2 < l.length
    · refine lf_val (v := .bool true) (wantAll rfl) (rv_lss rfl (fr_eval rfl rfl) (fr_eval rfl rfl) (decide_eq_true (by omega))) ?_
      refine lf_nil ?_
      refine then_n ?_
      refine wp_gen (fun F' => F' 0 = v ∧ F' 1 = .int .i64 ((a0 : Nat) : Int) ∧ F' 4 = .slice none 0 0 ∧ F' 5 = .int .i64 ((hf : Nat) : Int) ∧ F' 8 = .bool false ∧ F' 13 = .bool true) ⟨e0, e1, e4, e5, e8, rfl⟩ ?_
      clear e0 e1 e4 e5 e8
      clear F
      rintro F ⟨e0, e1, e4, e5, e8, e13⟩
      refine wp_cond_true (fr_eval rfl e13) ?_
      refine wp_skip ?_
      refine then_n ?_
      refine wp_block ?_
      refine wp_regionF ?_
      refine lf_val (v := .int .i64 ((hf : Nat) : Int)) (wantAll rfl) (rv_move rfl (fr_eval rfl e5)) ?_
      refine lf_val (v := .int .i64 ((hf * 2 : Nat) : Int)) (wantAll rfl) (rv_mul rfl (fr_eval rfl rfl) rfl (wrap_i64 (by omega) (by omega) (by omega))) ?_
      refine lf_val (v := .int .i64 ((hf * 2 : Nat) : Int)) (wantAll rfl) (rv_assign rfl (fr_eval rfl rfl)) ?_
      refine lf_nil ?_
      refine blk_n ?_
      refine then_n ?_
      exact ⟨_, _, (by omega), rfl, hf * 2, rfl, (pow_next phf0), (by omega), (by omega), e0, e1, e4, rfl, e8, hH⟩
    · refine lf_val (v := .bool false) (wantAll rfl) (rv_lss rfl (fr_eval rfl rfl) (fr_eval rfl rfl) (decide_eq_false (by omega))) ?_
      refine lf_nil ?_
      refine then_n ?_
      refine wp_gen (fun F' => F' 0 = v ∧ F' 1 = .int .i64 ((a0 : Nat) : Int) ∧ F' 4 = .slice none 0 0 ∧ F' 5 = .int .i64 ((hf : Nat) : Int) ∧ F' 8 = .bool false ∧ F' 13 = .bool false) ⟨e0, e1, e4, e5, e8, rfl⟩ ?_
      clear e0 e1 e4 e5 e8
      clear F
      rintro F ⟨e0, e1, e4, e5, e8, e13⟩
      refine wp_cond_false (fr_eval rfl e13) ?_
      refine wp_exit ?_
      refine then_exit ?_
      refine then_exit ?_
      refine blk_exit ?_
      refine then_n ?_
      refine wp_seq ?_
      refine wp_seq ?_
      refine wp_regionF ?_
      refine lf_val (v := .int .i64 ((a0 : Nat) : Int)) (wantAll rfl) (rv_move rfl (fr_eval rfl e1)) ?_
      refine lf_val (v := .int .i64 ((hf : Nat) : Int)) (wantAll rfl) (rv_move rfl (fr_eval rfl e5)) ?_
      by_cases hc3 : a0 < hf
      · refine lf_val (v := .bool true) (wantAll rfl) (rv_lss rfl (fr_eval rfl rfl) (fr_eval rfl rfl) (decide_eq_true (by omega))) ?_
        refine lf_nil ?_
        refine then_n ?_
        refine wp_gen (fun F' => F' 0 = v ∧ F' 1 = .int .i64 ((a0 : Nat) : Int) ∧ F' 4 = .slice none 0 0 ∧ F' 5 = .int .i64 ((hf : Nat) : Int) ∧ F' 8 = .bool false ∧ F' 13 = .bool false ∧ F' 18 = .bool true) ⟨e0, e1, e4, e5, e8, e13, rfl⟩ ?_
        clear e0 e1 e4 e5 e8 e13
        clear F
        rintro F ⟨e0, e1, e4, e5, e8, e13, e18⟩
        refine wp_cond_true (fr_eval rfl e18) ?_
        refine wp_seq ?_
        refine wp_regionX (fun _ => False) 8 (by kernel_rfl) (by kernel_rfl) ?_
        refine xl_take (i := 0) (v := v) rfl (by kernel_rfl) (by kernel_rfl) (by kernel_rfl) (by kernel_rfl) (yx_val (wantAll rfl) (fun w' hx' => rv_move rfl (fr_eval rfl e0))) ?_
        refine xl_take (i := 1) (v := .int .i64 ((hf : Nat) : Int)) rfl (by kernel_rfl) (by kernel_rfl) (by kernel_rfl) (by kernel_rfl) (yx_val (wantAll rfl) (fun w' hx' => rv_move rfl (fr_eval rfl e5))) ?_
        refine xl_take (i := 2) (v := slcV v 32 0 hf) rfl (by kernel_rfl) (by kernel_rfl) (by kernel_rfl) (by kernel_rfl) (yx_val (wantAll rfl) (fun w' hx' => rv_slcH (h := hf) Try.stSum rfl (fr_eval rfl rfl) (rdN (hr.rd _ (hH.chg.trans (Ext.any hx'))) rfl) (fr_eval rfl rfl) (by omega))) ?_
        refine xl_take (i := 3) (v := .int .i64 ((a0 : Nat) : Int)) rfl (by kernel_rfl) (by kernel_rfl) (by kernel_rfl) (by kernel_rfl) (yx_val (wantAll rfl) (fun w' hx' => rv_move rfl (fr_eval rfl e1))) ?_
        refine xl_take (i := 5) (v := v) rfl (by kernel_rfl) (by kernel_rfl) (by kernel_rfl) (by kernel_rfl) (yx_val (wantAll rfl) (fun w' hx' => rv_move rfl (fr_eval rfl e0))) ?_
        refine xl_take (i := 6) (v := .int .i64 ((hf : Nat) : Int)) rfl (by kernel_rfl) (by kernel_rfl) (by kernel_rfl) (by kernel_rfl) (yx_val (wantAll rfl) (fun w' hx' => rv_move rfl (fr_eval rfl e5))) ?_
        refine xl_take (i := 7) (v := slcV v 32 hf l.length) rfl (by kernel_rfl) (by kernel_rfl) (by kernel_rfl) (by kernel_rfl) (yx_val (wantAll rfl) (fun w' hx' => rv_slcL (l := hf) Try.stSum rfl (fr_eval rfl rfl) (rdN (hr.rd _ (hH.chg.trans (Ext.any hx'))) rfl) (fr_eval rfl rfl) (by omega))) ?_
        refine anyX_ready (rs := [4]) (by kernel_rfl) ?_
        intro w2 hx
        replace hH := hH.ext hx
        clear hx
        refine (anyX_cons ?_ anyX_nil)
        refine xl_step (i := 4) rfl (wantAll rfl) ?_
        refine of_call (rv_call (args := [slcV v 32 0 hf, .int .i64 ((a0 : Nat) : Int)]) rfl (evc (fr_eval rfl rfl) (evc (fr_eval rfl rfl) evn)) Try.call24) (ih (List.take (hf - 0) (List.drop 0 l)) a0 _ _ (by simp only [List.length_take, List.length_drop]; omega) (by simp only [List.length_take, List.length_drop]; omega) (rdF_slc (l := 0) (h := hf) cS_len (hr.rd _ hH.chg) rfl (Nat.zero_le _) (by omega))) ?_
        rintro _ w3 ⟨⟨y1, rfl, ho, hg⟩, hx⟩
        refine ⟨_, rfl, ?_⟩
        replace hH : Heap (newN w) w w3 [oRow cS 23 32 y1 (pathT (List.map leafS (List.take (hf - 0) (List.drop 0 l))) a0)] := hH.addOwn hx hg ho
        clear ho hg
        refine ⟨hx, ?_⟩
        clear hx
        refine xl_tail (s := 8) rfl ?_
        intro w4 hx
        replace hH := hH.ext hx
        clear hx
        refine lf_call (wantAll rfl) (rv_call (args := [slcV v 32 hf l.length]) rfl (evc (fr_eval rfl rfl) evn) Try.call20) (root03_calls (List.take (l.length - hf) (List.drop hf l)) (by first | omega | (simp only [List.length_take, List.length_drop]; omega)) _ _ (rdF_slc (l := hf) (h := l.length) cS_len (hr.rd _ hH.chg) rfl (by omega) (Nat.le_refl _))) ?_
        rintro _ w5 ⟨rfl, hx⟩
        refine ⟨_, rfl, ?_⟩
        replace hH := hH.ext hx
        clear hx
        refine lf_ex (wantAll rfl) (hx_lit1 hH Try.stSum (cs := cS (⟨(rootS (List.take (l.length - hf) (List.drop hf l))).1, (rootS (List.take (l.length - hf) (List.drop hf l))).2⟩ : S32)) (xs := List.flatMap cS [(⟨(rootS (List.take (l.length - hf) (List.drop hf l))).1, (rootS (List.take (l.length - hf) (List.drop hf l))).2⟩ : S32)]) rfl (fr_eval rfl rfl) (cS_ln (⟨(rootS (List.take (l.length - hf) (List.drop hf l))).1, (rootS (List.take (l.length - hf) (List.drop hf l))).2⟩ : S32)) (by decide) (List.flatMap_singleton ..).symm) ?_
        clear hH
        rintro y2 w6 ⟨hH, hx⟩
        replace hH : Heap (newN w) w w6 [oRow cS 23 32 y1 (pathT (List.map leafS (List.take (hf - 0) (List.drop 0 l))) a0), oRow cS 23 32 y2 [(⟨(rootS (List.take (l.length - hf) (List.drop hf l))).1, (rootS (List.take (l.length - hf) (List.drop hf l))).2⟩ : S32)]] := hH
        clear hx
        refine lf_ex (wantAll rfl) (hx_append hH Try.stSum (i := 0) (xs' := ((pathT (List.map leafS (List.take (hf - 0) (List.drop 0 l))) a0) ++ [(⟨(rootS (List.take (l.length - hf) (List.drop hf l))).1, (rootS (List.take (l.length - hf) (List.drop hf l))).2⟩ : S32)]).flatMap cS) (nm := ((pathT (List.map leafS (List.take (hf - 0) (List.drop 0 l))) a0) ++ [(⟨(rootS (List.take (l.length - hf) (List.drop hf l))).1, (rootS (List.take (l.length - hf) (List.drop hf l))).2⟩ : S32)]).length) rfl rfl (fun _ => rfl) List.length_append.symm List.flatMap_append.symm (Own.rd (hH.own (i := 1) rfl) (row_one cS_one)) (fr_eval rfl rfl) (fr_eval rfl rfl) (by simp only [List.length_append, List.length_cons, List.length_nil]; have := path_len (List.map leafS (List.take (hf - 0) (List.drop 0 l))) a0; simp only [List.length_map, List.length_take, List.length_drop] at this; omega)) ?_
        clear hH
        rintro y3 w7 ⟨hH, hx⟩
        replace hH : Heap (newN w) w w7 [oRow cS 23 32 y3 ((pathT (List.map leafS (List.take (hf - 0) (List.drop 0 l))) a0) ++ [(⟨(rootS (List.take (l.length - hf) (List.drop hf l))).1, (rootS (List.take (l.length - hf) (List.drop hf l))).2⟩ : S32)]), oRow cS 23 32 y2 [(⟨(rootS (List.take (l.length - hf) (List.drop hf l))).1, (rootS (List.take (l.length - hf) (List.drop hf l))).2⟩ : S32)]] := hH
        replace hH : Heap (newN w) w w7 [oRow cS 23 32 y3 (pathT (l.map leafS) a0), oRow cS 23 32 y2 [(⟨(rootS (List.take (l.length - hf) (List.drop hf l))).1, (rootS (List.take (l.length - hf) (List.drop hf l))).2⟩ : S32)]] := by have e : (pathT (List.map leafS (List.take (hf - 0) (List.drop 0 l))) a0) ++ [(⟨(rootS (List.take (l.length - hf) (List.drop hf l))).1, (rootS (List.take (l.length - hf) (List.drop hf l))).2⟩ : S32)] = pathT (l.map leafS) a0 := path_cutL rfl phf0 (by omega) (by omega) (by omega); rw [e] at hH; exact hH
        clear hx
        refine lf_val (v := y3) (wantAll rfl) (rv_assign rfl (fr_eval rfl rfl)) ?_
        refine lf_nil ?_
        refine then_n ?_
        replace hH : Heap (newN w) w w7 [oRow cS 23 32 y3 (pathT (l.map leafS) a0)] := hH.drop (.cons_cons _ (.cons _ .slnil))
        refine wp_gen (fun F' => F' 0 = v ∧ F' 1 = .int .i64 ((a0 : Nat) : Int) ∧ F' 4 = y3 ∧ F' 5 = .int .i64 ((hf : Nat) : Int) ∧ F' 8 = .bool false ∧ F' 13 = .bool false ∧ F' 18 = .bool true) ⟨e0, e1, rfl, e5, e8, e13, e18⟩ ?_
        clear e0 e1 e4 e5 e8 e13 e18
        clear F
        rintro F ⟨e0, e1, e4, e5, e8, e13, e18⟩
        refine wp_ret ?_
        refine then_ret ?_
        exact bodyPost_ret (v := y3) (res1 rfl (ro_tmp rfl e4)) rfl (⟨⟨_, rfl, hH.own (i := 0) rfl, hH.ge (i := 0) rfl⟩, hH.done⟩)
      · refine lf_val (v := .bool false) (wantAll rfl) (rv_lss rfl (fr_eval rfl rfl) (fr_eval rfl rfl) (decide_eq_false (by omega))) ?_
        refine lf_nil ?_
        refine then_n ?_
        refine wp_gen (fun F' => F' 0 = v ∧ F' 1 = .int .i64 ((a0 : Nat) : Int) ∧ F' 4 = .slice none 0 0 ∧ F' 5 = .int .i64 ((hf : Nat) : Int) ∧ F' 8 = .bool false ∧ F' 13 = .bool false ∧ F' 18 = .bool false) ⟨e0, e1, e4, e5, e8, e13, rfl⟩ ?_
        clear e0 e1 e4 e5 e8 e13
        clear F
        rintro F ⟨e0, e1, e4, e5, e8, e13, e18⟩
        refine wp_cond_false (fr_eval rfl e18) ?_
        refine wp_skip ?_
        refine then_n ?_
        refine wp_seq ?_
        refine wp_regionX (fun _ => False) 10 (by kernel_rfl) (by kernel_rfl) ?_
        refine xl_take (i := 0) (v := v) rfl (by kernel_rfl) (by kernel_rfl) (by kernel_rfl) (by kernel_rfl) (yx_val (wantAll rfl) (fun w' hx' => rv_move rfl (fr_eval rfl e0))) ?_
        refine xl_take (i := 1) (v := .int .i64 ((hf : Nat) : Int)) rfl (by kernel_rfl) (by kernel_rfl) (by kernel_rfl) (by kernel_rfl) (yx_val (wantAll rfl) (fun w' hx' => rv_move rfl (fr_eval rfl e5))) ?_
        refine xl_take (i := 2) (v := slcV v 32 hf l.length) rfl (by kernel_rfl) (by kernel_rfl) (by kernel_rfl) (by kernel_rfl) (yx_val (wantAll rfl) (fun w' hx' => rv_slcL (l := hf) Try.stSum rfl (fr_eval rfl rfl) (rdN (hr.rd _ (hH.chg.trans (Ext.any hx'))) rfl) (fr_eval rfl rfl) (by omega))) ?_
        refine xl_take (i := 3) (v := .int .i64 ((a0 : Nat) : Int)) rfl (by kernel_rfl) (by kernel_rfl) (by kernel_rfl) (by kernel_rfl) (yx_val (wantAll rfl) (fun w' hx' => rv_move rfl (fr_eval rfl e1))) ?_
        refine xl_take (i := 4) (v := .int .i64 ((hf : Nat) : Int)) rfl (by kernel_rfl) (by kernel_rfl) (by kernel_rfl) (by kernel_rfl) (yx_val (wantAll rfl) (fun w' hx' => rv_move rfl (fr_eval rfl e5))) ?_
        refine xl_take (i := 5) (v := .int .i64 ((a0 - hf : Nat) : Int)) rfl (by kernel_rfl) (by kernel_rfl) (by kernel_rfl) (by kernel_rfl) (yx_val (wantAll rfl) (fun w' hx' => rv_sub rfl (fr_eval rfl rfl) (fr_eval rfl rfl) (wrap_i64 (by omega) (by omega) (by omega)))) ?_
        refine xl_take (i := 7) (v := v) rfl (by kernel_rfl) (by kernel_rfl) (by kernel_rfl) (by kernel_rfl) (yx_val (wantAll rfl) (fun w' hx' => rv_move rfl (fr_eval rfl e0))) ?_
        refine xl_take (i := 8) (v := .int .i64 ((hf : Nat) : Int)) rfl (by kernel_rfl) (by kernel_rfl) (by kernel_rfl) (by kernel_rfl) (yx_val (wantAll rfl) (fun w' hx' => rv_move rfl (fr_eval rfl e5))) ?_
        refine xl_take (i := 9) (v := slcV v 32 0 hf) rfl (by kernel_rfl) (by kernel_rfl) (by kernel_rfl) (by kernel_rfl) (yx_val (wantAll rfl) (fun w' hx' => rv_slcH (h := hf) Try.stSum rfl (fr_eval rfl rfl) (rdN (hr.rd _ (hH.chg.trans (Ext.any hx'))) rfl) (fr_eval rfl rfl) (by omega))) ?_
        refine anyX_ready (rs := [6]) (by kernel_rfl) ?_
        intro w8 hx
        replace hH := hH.ext hx
        clear hx
        refine (anyX_cons ?_ anyX_nil)
        refine xl_step (i := 6) rfl (wantAll rfl) ?_
        refine of_call (rv_call (args := [slcV v 32 hf l.length, .int .i64 ((a0 - hf : Nat) : Int)]) rfl (evc (fr_eval rfl rfl) (evc (fr_eval rfl rfl) evn)) Try.call24) (ih (List.take (l.length - hf) (List.drop hf l)) (a0 - hf) _ _ (by simp only [List.length_take, List.length_drop]; omega) (by simp only [List.length_take, List.length_drop]; omega) (rdF_slc (l := hf) (h := l.length) cS_len (hr.rd _ hH.chg) rfl (by omega) (Nat.le_refl _))) ?_
        rintro _ w9 ⟨⟨y4, rfl, ho, hg⟩, hx⟩
        refine ⟨_, rfl, ?_⟩
        replace hH : Heap (newN w) w w9 [oRow cS 23 32 y4 (pathT (List.map leafS (List.take (l.length - hf) (List.drop hf l))) (a0 - hf))] := hH.addOwn hx hg ho
        clear ho hg
        refine ⟨hx, ?_⟩
        clear hx
        refine xl_tail (s := 10) rfl ?_
        intro w10 hx
        replace hH := hH.ext hx
        clear hx
        refine lf_call (wantAll rfl) (rv_call (args := [slcV v 32 0 hf]) rfl (evc (fr_eval rfl rfl) evn) Try.call20) (root03_calls (List.take (hf - 0) (List.drop 0 l)) (by first | omega | (simp only [List.length_take, List.length_drop]; omega)) _ _ (rdF_slc (l := 0) (h := hf) cS_len (hr.rd _ hH.chg) rfl (Nat.zero_le _) (by omega))) ?_
        rintro _ w11 ⟨rfl, hx⟩
        refine ⟨_, rfl, ?_⟩
        replace hH := hH.ext hx
        clear hx
        refine lf_ex (wantAll rfl) (hx_lit1 hH Try.stSum (cs := cS (⟨(rootS (List.take (hf - 0) (List.drop 0 l))).1, (rootS (List.take (hf - 0) (List.drop 0 l))).2⟩ : S32)) (xs := List.flatMap cS [(⟨(rootS (List.take (hf - 0) (List.drop 0 l))).1, (rootS (List.take (hf - 0) (List.drop 0 l))).2⟩ : S32)]) rfl (fr_eval rfl rfl) (cS_ln (⟨(rootS (List.take (hf - 0) (List.drop 0 l))).1, (rootS (List.take (hf - 0) (List.drop 0 l))).2⟩ : S32)) (by decide) (List.flatMap_singleton ..).symm) ?_
        clear hH
        rintro y5 w12 ⟨hH, hx⟩
        replace hH : Heap (newN w) w w12 [oRow cS 23 32 y4 (pathT (List.map leafS (List.take (l.length - hf) (List.drop hf l))) (a0 - hf)), oRow cS 23 32 y5 [(⟨(rootS (List.take (hf - 0) (List.drop 0 l))).1, (rootS (List.take (hf - 0) (List.drop 0 l))).2⟩ : S32)]] := hH
        clear hx
        refine lf_ex (wantAll rfl) (hx_append hH Try.stSum (i := 0) (xs' := ((pathT (List.map leafS (List.take (l.length - hf) (List.drop hf l))) (a0 - hf)) ++ [(⟨(rootS (List.take (hf - 0) (List.drop 0 l))).1, (rootS (List.take (hf - 0) (List.drop 0 l))).2⟩ : S32)]).flatMap cS) (nm := ((pathT (List.map leafS (List.take (l.length - hf) (List.drop hf l))) (a0 - hf)) ++ [(⟨(rootS (List.take (hf - 0) (List.drop 0 l))).1, (rootS (List.take (hf - 0) (List.drop 0 l))).2⟩ : S32)]).length) rfl rfl (fun _ => rfl) List.length_append.symm List.flatMap_append.symm (Own.rd (hH.own (i := 1) rfl) (row_one cS_one)) (fr_eval rfl rfl) (fr_eval rfl rfl) (by simp only [List.length_append, List.length_cons, List.length_nil]; have := path_len (List.map leafS (List.take (l.length - hf) (List.drop hf l))) (a0 - hf); simp only [List.length_map, List.length_take, List.length_drop] at this; omega)) ?_
        clear hH
        rintro y6 w13 ⟨hH, hx⟩
        replace hH : Heap (newN w) w w13 [oRow cS 23 32 y6 ((pathT (List.map leafS (List.take (l.length - hf) (List.drop hf l))) (a0 - hf)) ++ [(⟨(rootS (List.take (hf - 0) (List.drop 0 l))).1, (rootS (List.take (hf - 0) (List.drop 0 l))).2⟩ : S32)]), oRow cS 23 32 y5 [(⟨(rootS (List.take (hf - 0) (List.drop 0 l))).1, (rootS (List.take (hf - 0) (List.drop 0 l))).2⟩ : S32)]] := hH
        replace hH : Heap (newN w) w w13 [oRow cS 23 32 y6 (pathT (l.map leafS) a0), oRow cS 23 32 y5 [(⟨(rootS (List.take (hf - 0) (List.drop 0 l))).1, (rootS (List.take (hf - 0) (List.drop 0 l))).2⟩ : S32)]] := by have e : (pathT (List.map leafS (List.take (l.length - hf) (List.drop hf l))) (a0 - hf)) ++ [(⟨(rootS (List.take (hf - 0) (List.drop 0 l))).1, (rootS (List.take (hf - 0) (List.drop 0 l))).2⟩ : S32)] = pathT (l.map leafS) a0 := path_cutR rfl phf0 (by omega) (by omega) (by omega) (by omega); rw [e] at hH; exact hH
        clear hx
        refine lf_val (v := y6) (wantAll rfl) (rv_assign rfl (fr_eval rfl rfl)) ?_
        refine lf_nil ?_
        refine then_n ?_
        replace hH : Heap (newN w) w w13 [oRow cS 23 32 y6 (pathT (l.map leafS) a0)] := hH.drop (.cons_cons _ (.cons _ .slnil))
        refine wp_gen (fun F' => F' 0 = v ∧ F' 1 = .int .i64 ((a0 : Nat) : Int) ∧ F' 4 = y6 ∧ F' 5 = .int .i64 ((hf : Nat) : Int) ∧ F' 8 = .bool false ∧ F' 13 = .bool false ∧ F' 18 = .bool false) ⟨e0, e1, rfl, e5, e8, e13, e18⟩ ?_
        clear e0 e1 e4 e5 e8 e13 e18
        clear F
        rintro F ⟨e0, e1, e4, e5, e8, e13, e18⟩
        refine wp_ret ?_
        exact bodyPost_ret (v := y6) (res1 rfl (ro_tmp rfl e4)) rfl (⟨⟨_, rfl, hH.own (i := 0) rfl, hH.ge (i := 0) rfl⟩, hH.done⟩)

theorem path03_calls (l : List S32) (a0 : Nat) (hl : l.length ≤ 1000000) (ha : a0 < l.length) (v : Value) (w : World) (hr0 : Rd w 32 v l.length (l.flatMap cS)) : Calls Try.prog 24 #[v, .int .i64 (a0 : Int)] w fun e'' w' => (∃ v', e'' = .returned v' ∧ Own w' 23 32 v' (pathT (l.map leafS) a0).length ((pathT (l.map leafS) a0).flatMap cS) ∧ ∀ k, v'.ownBlock = some k → w.heap.size ≤ k) ∧ Ext w w' :=
  path03_step l a0 hl ha v w (fun q b vq wq hq hb hrq => path03_calls q b (by omega) hb vq wq hrq) hr0
termination_by l.length

set_option maxRecDepth 100000 in
set_option maxHeartbeats 4000000 in
theorem same03_calls (p : List S32) (va vb : Value) (w : World) (hra0 : Rd w 32 va p.length (p.flatMap cS)) (hrb0 : Rd w 32 vb p.length (p.flatMap cS)) :
    Calls Try.prog 23 #[va, vb] w fun e'' w' => e'' = .returned (.bool true) ∧ Ext w w' := by
  refine calls_fr (args := [va, vb]) (n := 26) Try.func23 rfl rfl (show 2 ≤ 26 by decide) ?_
  have hpm := Rd.max hra0
  have hra := Rd.stab hra0
  have hrb := Rd.stab hrb0
  have hH : Heap (newN w) w w [] := Heap.fresh
  refine wp_seq ?_
  refine wp_gen (fun F' => F' 0 = va ∧ F' 1 = vb) ⟨rfl, rfl⟩ ?_
  rintro F ⟨e0, e1⟩
  refine wp_regionF ?_
  refine lf_val (v := .bool false) (wantAll rfl) (rv_assign rfl rfl) ?_
  refine lf_nil ?_
  refine then_n ?_
  refine wp_seq ?_
  refine wp_seq ?_
  refine wp_gen (fun F' => F' 0 = va ∧ F' 1 = vb ∧ F' 4 = .bool false) ⟨e0, e1, rfl⟩ ?_
  clear e0 e1
  clear F
  rintro F ⟨e0, e1, e4⟩
  refine wp_regionF ?_
  refine lf_val (v := va) (wantAll rfl) (rv_move rfl (fr_eval rfl e0)) ?_
  refine lf_val (v := .int .i64 ((p.length : Nat) : Int)) (wantAll rfl) (rv_len rfl (fr_eval rfl rfl) (hra.rd _ hH.chg) Try.underlying24) ?_
  refine lf_val (v := vb) (wantAll rfl) (rv_move rfl (fr_eval rfl e1)) ?_
  refine lf_val (v := .int .i64 ((p.length : Nat) : Int)) (wantAll rfl) (rv_len rfl (fr_eval rfl rfl) (hrb.rd _ hH.chg) Try.underlying24) ?_
  refine lf_val (v := .bool false) (wantAll rfl) (rv_neq rfl (fr_eval rfl rfl) (fr_eval rfl rfl) (decide_eq_true (by omega))) ?_
  refine lf_nil ?_
  refine then_n ?_
  refine wp_gen (fun F' => F' 0 = va ∧ F' 1 = vb ∧ F' 4 = .bool false ∧ F' 10 = .bool false) ⟨e0, e1, e4, rfl⟩ ?_
  clear e0 e1 e4
  clear F
  rintro F ⟨e0, e1, e4, e10⟩
  refine wp_cond_false (fr_eval rfl e10) ?_
  refine wp_skip ?_
  refine then_n ?_
  refine wp_seq ?_
  refine wp_seq ?_
  refine wp_regionF ?_
  refine lf_val (v := .int .i64 0) (wantAll rfl) (rv_assign rfl rfl) ?_
  refine lf_nil ?_
  refine then_n ?_
  refine wp_block ?_
  refine wp_gen (fun F' => F' 0 = va ∧ F' 1 = vb ∧ F' 4 = .bool false ∧ F' 5 = .int .i64 0 ∧ F' 10 = .bool false) ⟨e0, e1, e4, rfl, e10⟩ ?_
  clear e0 e1 e4 e10
  clear F
  rintro F ⟨e0, e1, e4, e5, e10⟩
  refine wp_loopF (fun m F wr => ∃ i : Nat, m = p.length - i ∧ i ≤ p.length ∧ F 0 = va ∧ F 1 = vb ∧ F 5 = .int .i64 ((i : Nat) : Int) ∧ F 10 = .bool false ∧ Heap (newN w) w wr []) ⟨0, rfl, Nat.zero_le _, e0, e1, e5, e10, hH⟩ ?_
  clear e0 e1 e4 e5 e10 hH
  clear F
  rintro m F w1 ⟨i, rfl, pi0, e0, e1, e5, e10, hH⟩
  refine wp_seq ?_
  refine wp_seq ?_
  refine wp_regionF ?_
  refine lf_val (v := .int .i64 ((i : Nat) : Int)) (wantAll rfl) (rv_move rfl (fr_eval rfl e5)) ?_
  refine lf_val (v := va) (wantAll rfl) (rv_move rfl (fr_eval rfl e0)) ?_
  refine lf_val (v := .int .i64 ((p.length : Nat) : Int)) (wantAll rfl) (rv_len rfl (fr_eval rfl rfl) (hra.rd _ hH.chg) Try.underlying24) ?_
  by_cases hc1 : i < p.length
  · refine lf_val (v := .bool true) (wantAll rfl) (rv_lss rfl (fr_eval rfl rfl) (fr_eval rfl rfl) (decide_eq_true (by omega))) ?_
    refine lf_nil ?_
    refine then_n ?_
    refine wp_gen (fun F' => F' 0 = va ∧ F' 1 = vb ∧ F' 5 = .int .i64 ((i : Nat) : Int) ∧ F' 10 = .bool false ∧ F' 14 = .bool true) ⟨e0, e1, e5, e10, rfl⟩ ?_
    clear e0 e1 e5 e10
    clear F
    rintro F ⟨e0, e1, e5, e10, e14⟩
    refine wp_cond_true (fr_eval rfl e14) ?_
    refine wp_skip ?_
    refine then_n ?_
    refine wp_seq ?_
    refine wp_block ?_
    refine wp_seq ?_
    refine wp_regionX (fun _ => False) 8 (by kernel_rfl) (by kernel_rfl) ?_
    refine xl_take (i := 0) (v := va) rfl (by kernel_rfl) (by kernel_rfl) (by kernel_rfl) (by kernel_rfl) (yx_val (wantAll rfl) (fun w' hx' => rv_move rfl (fr_eval rfl e0))) ?_
    refine xl_take (i := 1) (v := .int .i64 ((i : Nat) : Int)) rfl (by kernel_rfl) (by kernel_rfl) (by kernel_rfl) (by kernel_rfl) (yx_val (wantAll rfl) (fun w' hx' => rv_move rfl (fr_eval rfl e5))) ?_
    refine xl_take (i := 2) (v := .pointer (some (elemA va (i * 32)))) rfl (by kernel_rfl) (by kernel_rfl) (by kernel_rfl) (by kernel_rfl) (yx_val (wantAll rfl) (fun w' hx' => rv_index rfl (fr_eval rfl rfl) (fr_eval rfl rfl) (rdN (hra.rd _ (hH.chg.trans (Ext.any hx'))) rfl) (show i < p.length from (by omega)) Try.underlying24 Try.sz23 (by decide))) ?_
    refine xl_take (i := 3) (v := .agg (cBs (((List.getD p i zS)).1)).toArray) rfl (by kernel_rfl) (by kernel_rfl) (by kernel_rfl) (by kernel_rfl) (yx_val (wantAll rfl) (fun w' hx' => rv_loadElem rfl (fr_eval rfl rfl) (rdN (hra.rd _ (hH.chg.trans (Ext.any hx'))) rfl) (show i < p.length from (by omega)) (by decide) (flat_part zS cS_len (show i < p.length from (by omega))) Try.underlying23 rfl Try.sz23)) ?_
    refine xl_take (i := 4) (v := vb) rfl (by kernel_rfl) (by kernel_rfl) (by kernel_rfl) (by kernel_rfl) (yx_val (wantAll rfl) (fun w' hx' => rv_move rfl (fr_eval rfl e1))) ?_
    refine xl_take (i := 5) (v := .int .i64 ((i : Nat) : Int)) rfl (by kernel_rfl) (by kernel_rfl) (by kernel_rfl) (by kernel_rfl) (yx_val (wantAll rfl) (fun w' hx' => rv_move rfl (fr_eval rfl e5))) ?_
    refine xl_take (i := 6) (v := .pointer (some (elemA vb (i * 32)))) rfl (by kernel_rfl) (by kernel_rfl) (by kernel_rfl) (by kernel_rfl) (yx_val (wantAll rfl) (fun w' hx' => rv_index rfl (fr_eval rfl rfl) (fr_eval rfl rfl) (rdN (hrb.rd _ (hH.chg.trans (Ext.any hx'))) rfl) (show i < p.length from (by omega)) Try.underlying24 Try.sz23 (by decide))) ?_
    refine xl_take (i := 7) (v := .agg (cBs (((List.getD p i zS)).1)).toArray) rfl (by kernel_rfl) (by kernel_rfl) (by kernel_rfl) (by kernel_rfl) (yx_val (wantAll rfl) (fun w' hx' => rv_loadElem rfl (fr_eval rfl rfl) (rdN (hrb.rd _ (hH.chg.trans (Ext.any hx'))) rfl) (show i < p.length from (by omega)) (by decide) (flat_part zS cS_len (show i < p.length from (by omega))) Try.underlying23 rfl Try.sz23)) ?_
    refine xl_tail (s := 8) rfl ?_
    intro w2 hx
    replace hH := hH.ext hx
    clear hx
    refine lf_val (v := .bool false) (wantAll rfl) (neT rfl (fr_eval rfl rfl) (fr_eval rfl rfl) ((List.getD p i zS)).2 ((List.getD p i zS)).2 (b := true) (beq_self_eq_true _)) ?_
    refine lf_nil ?_
    refine then_n ?_
    refine wp_gen (fun F' => F' 0 = va ∧ F' 1 = vb ∧ F' 5 = .int .i64 ((i : Nat) : Int) ∧ F' 10 = .bool false ∧ F' 14 = .bool true ∧ F' 25 = .bool false) ⟨e0, e1, e5, e10, e14, rfl⟩ ?_
    clear e0 e1 e5 e10 e14
    clear F
    rintro F ⟨e0, e1, e5, e10, e14, e25⟩
    refine wp_cond_false (fr_eval rfl e25) ?_
    refine wp_skip ?_
    refine blk_n ?_
    refine then_n ?_
    refine wp_regionF ?_
    refine lf_val (v := .int .i64 ((i : Nat) : Int)) (wantAll rfl) (rv_move rfl (fr_eval rfl e5)) ?_
    refine lf_val (v := .int .i64 ((i + 1 : Nat) : Int)) (wantAll rfl) (rv_add rfl (fr_eval rfl rfl) rfl (wrap_i64 (by omega) (by omega) (by omega))) ?_
    refine lf_val (v := .int .i64 ((i + 1 : Nat) : Int)) (wantAll rfl) (rv_assign rfl (fr_eval rfl rfl)) ?_
    refine lf_nil ?_
    refine then_n ?_
    exact ⟨_, _, (by omega), rfl, i + 1, rfl, (by omega), e0, e1, rfl, e10, hH⟩
  · refine lf_val (v := .bool false) (wantAll rfl) (rv_lss rfl (fr_eval rfl rfl) (fr_eval rfl rfl) (decide_eq_false (by omega))) ?_
    refine lf_nil ?_
    refine then_n ?_
    refine wp_gen (fun F' => F' 0 = va ∧ F' 1 = vb ∧ F' 5 = .int .i64 ((i : Nat) : Int) ∧ F' 10 = .bool false ∧ F' 14 = .bool false) ⟨e0, e1, e5, e10, rfl⟩ ?_
    clear e0 e1 e5 e10
    clear F
    rintro F ⟨e0, e1, e5, e10, e14⟩
    refine wp_cond_false (fr_eval rfl e14) ?_
    refine wp_exit ?_
    refine then_exit ?_
    refine then_exit ?_
    refine blk_exit ?_
    refine then_n ?_
    refine wp_seq ?_
    refine wp_regionF ?_
    refine lf_val (v := .bool true) (wantAll rfl) (rv_assign rfl rfl) ?_
    refine lf_nil ?_
    refine then_n ?_
    refine wp_gen (fun F' => F' 0 = va ∧ F' 1 = vb ∧ F' 4 = .bool true ∧ F' 5 = .int .i64 ((i : Nat) : Int) ∧ F' 10 = .bool false ∧ F' 14 = .bool false) ⟨e0, e1, rfl, e5, e10, e14⟩ ?_
    clear e0 e1 e5 e10 e14
    clear F
    rintro F ⟨e0, e1, e4, e5, e10, e14⟩
    refine wp_ret ?_
    exact bodyPost_ret (v := (.bool true)) (res1 rfl (ro_tmp rfl e4)) rfl (⟨rfl, hH.done⟩)

set_option maxRecDepth 100000 in
set_option maxHeartbeats 4000000 in
theorem path_out (at' : Int) (hn : -9223372036854775808 ≤ at' ∧ at' ≤ 9223372036854775807) (l : List S32) (ho : ¬ (0 ≤ at' ∧ at' < (l.length : Int))) (v : Value) (w : World) (hr0 : Rd w 32 v l.length (l.flatMap cS)) :
    Calls Try.prog 18 #[.int .i64 at', v] w fun e'' w' => e'' = .returned (.tuple #[.slice none 0 0, .bool false]) ∧ Ext w w' := by
  refine calls_fr (args := [.int .i64 at', v]) (n := 40) Try.func18 rfl rfl (show 2 ≤ 40 by decide) ?_
  have hr := Rd.stab hr0
  have hH : Heap (newN w) w w [] := Heap.fresh
  refine wp_seq ?_
  refine wp_gen (fun F' => F' 0 = .int .i64 at' ∧ F' 1 = v) ⟨rfl, rfl⟩ ?_
  rintro F ⟨e0, e1⟩
  refine wp_regionF ?_
  refine lf_val (v := .slice none 0 0) (wantAll rfl) (rv_assign rfl rfl) ?_
  refine lf_val (v := .bool false) (wantAll rfl) (rv_assign rfl rfl) ?_
  refine lf_nil ?_
  refine then_n ?_
  refine wp_seq ?_
  refine wp_seq ?_
  refine wp_gen (fun F' => F' 0 = .int .i64 at' ∧ F' 1 = v ∧ F' 4 = .slice none 0 0 ∧ F' 5 = .bool false) ⟨e0, e1, rfl, rfl⟩ ?_
  clear e0 e1
  clear F
  rintro F ⟨e0, e1, e4, e5⟩
  refine wp_regionF ?_
  refine lf_val (v := .int .i64 at') (wantAll rfl) (rv_move rfl (fr_eval rfl e0)) ?_
  by_cases hc1 : at' < 0
  · refine lf_val (v := .bool true) (wantAll rfl) (rv_lss rfl (fr_eval rfl rfl) rfl (decide_eq_true (by omega))) ?_
    refine lf_val (v := .bool true) (wantAll rfl) (rv_move rfl (fr_eval rfl rfl)) ?_
    refine lf_not (wantNot (d := 11) rfl (by kernel_rfl) rfl rfl) ?_
    refine lf_not (wantNot (d := 11) rfl (by kernel_rfl) rfl rfl) ?_
    refine lf_not (wantNot (d := 11) rfl (by kernel_rfl) rfl rfl) ?_
    refine lf_not (wantNot (d := 11) rfl (by kernel_rfl) rfl rfl) ?_
    refine lf_val (v := .bool true) (wantAll rfl) (rv_pickT rfl (fr_eval rfl rfl) rfl) ?_
    refine lf_nil ?_
    refine then_n ?_
    refine wp_gen (fun F' => F' 0 = .int .i64 at' ∧ F' 1 = v ∧ F' 4 = .slice none 0 0 ∧ F' 5 = .bool false ∧ F' 16 = .bool true) ⟨e0, e1, e4, e5, rfl⟩ ?_
    clear e0 e1 e4 e5
    clear F
    rintro F ⟨e0, e1, e4, e5, e16⟩
    refine wp_cond_true (fr_eval rfl e16) ?_
    refine wp_seq ?_
    refine wp_regionF ?_
    refine lf_val (v := .slice none 0 0) (wantAll rfl) (rv_assign rfl rfl) ?_
    refine lf_val (v := .bool false) (wantAll rfl) (rv_assign rfl rfl) ?_
    refine lf_nil ?_
    refine then_n ?_
    refine wp_gen (fun F' => F' 0 = .int .i64 at' ∧ F' 1 = v ∧ F' 4 = .slice none 0 0 ∧ F' 5 = .bool false ∧ F' 16 = .bool true) ⟨e0, e1, rfl, rfl, e16⟩ ?_
    clear e0 e1 e4 e5 e16
    clear F
    rintro F ⟨e0, e1, e4, e5, e16⟩
    refine wp_ret ?_
    refine then_ret ?_
    exact bodyPost_ret (v := .tuple #[.slice none 0 0, .bool false]) (res2 rfl (ro_tmp rfl e4) (ro_tmp rfl e5)) rfl (⟨rfl, hH.done⟩)
  · refine lf_val (v := .bool false) (wantAll rfl) (rv_lss rfl (fr_eval rfl rfl) rfl (decide_eq_false (by omega))) ?_
    refine lf_val (v := .bool false) (wantAll rfl) (rv_move rfl (fr_eval rfl rfl)) ?_
    refine lf_val (v := .int .i64 at') (wantF (d := 11) rfl (by kernel_rfl) rfl rfl) (rv_move rfl (fr_eval rfl e0)) ?_
    refine lf_val (v := v) (wantF (d := 11) rfl (by kernel_rfl) rfl rfl) (rv_move rfl (fr_eval rfl e1)) ?_
    refine lf_val (v := .int .i64 ((l.length : Nat) : Int)) (wantF (d := 11) rfl (by kernel_rfl) rfl rfl) (rv_len rfl (fr_eval rfl rfl) (hr.rd _ hH.chg) Try.underlying24) ?_
    refine lf_val (v := .bool true) (wantF (d := 11) rfl (by kernel_rfl) rfl rfl) (rv_geq rfl (fr_eval rfl rfl) (fr_eval rfl rfl) (decide_eq_true (by omega))) ?_
    refine lf_val (v := .bool true) (wantAll rfl) (rv_pickF rfl (fr_eval rfl rfl) (fr_eval rfl rfl)) ?_
    refine lf_nil ?_
    refine then_n ?_
    refine wp_gen (fun F' => F' 0 = .int .i64 at' ∧ F' 1 = v ∧ F' 4 = .slice none 0 0 ∧ F' 5 = .bool false ∧ F' 16 = .bool true) ⟨e0, e1, e4, e5, rfl⟩ ?_
    clear e0 e1 e4 e5
    clear F
    rintro F ⟨e0, e1, e4, e5, e16⟩
    refine wp_cond_true (fr_eval rfl e16) ?_
    refine wp_seq ?_
    refine wp_regionF ?_
    refine lf_val (v := .slice none 0 0) (wantAll rfl) (rv_assign rfl rfl) ?_
    refine lf_val (v := .bool false) (wantAll rfl) (rv_assign rfl rfl) ?_
    refine lf_nil ?_
    refine then_n ?_
    refine wp_gen (fun F' => F' 0 = .int .i64 at' ∧ F' 1 = v ∧ F' 4 = .slice none 0 0 ∧ F' 5 = .bool false ∧ F' 16 = .bool true) ⟨e0, e1, rfl, rfl, e16⟩ ?_
    clear e0 e1 e4 e5 e16
    clear F
    rintro F ⟨e0, e1, e4, e5, e16⟩
    refine wp_ret ?_
    refine then_ret ?_
    exact bodyPost_ret (v := .tuple #[.slice none 0 0, .bool false]) (res2 rfl (ro_tmp rfl e4) (ro_tmp rfl e5)) rfl (⟨rfl, hH.done⟩)

set_option maxRecDepth 100000 in
set_option maxHeartbeats 4000000 in
theorem path_in (a0 : Nat) (l : List S32) (hl : l.length ≤ 1000000) (ha : a0 < l.length) (v : Value) (w : World) (hr0 : Rd w 32 v l.length (l.flatMap cS)) :
    Calls Try.prog 18 #[.int .i64 ((a0 : Nat) : Int), v] w fun e'' w' => (∃ v', e'' = .returned (.tuple #[v', .bool true]) ∧ Own w' 23 32 v' (pathT (l.map leafS) a0).length ((pathT (l.map leafS) a0).flatMap cS) ∧ ∀ k, v'.ownBlock = some k → w.heap.size ≤ k) ∧ Ext w w' := by
  refine calls_fr (args := [.int .i64 ((a0 : Nat) : Int), v]) (n := 40) Try.func18 rfl rfl (show 2 ≤ 40 by decide) ?_
  have hr := Rd.stab hr0
  have hH : Heap (newN w) w w [] := Heap.fresh
  refine wp_seq ?_
  refine wp_gen (fun F' => F' 0 = .int .i64 ((a0 : Nat) : Int) ∧ F' 1 = v) ⟨rfl, rfl⟩ ?_
  rintro F ⟨e0, e1⟩
  refine wp_regionF ?_
  refine lf_val (v := .slice none 0 0) (wantAll rfl) (rv_assign rfl rfl) ?_
  refine lf_val (v := .bool false) (wantAll rfl) (rv_assign rfl rfl) ?_
  refine lf_nil ?_
  refine then_n ?_
  refine wp_seq ?_
  refine wp_seq ?_
  refine wp_gen (fun F' => F' 0 = .int .i64 ((a0 : Nat) : Int) ∧ F' 1 = v ∧ F' 4 = .slice none 0 0 ∧ F' 5 = .bool false) ⟨e0, e1, rfl, rfl⟩ ?_
  clear e0 e1
  clear F
  rintro F ⟨e0, e1, e4, e5⟩
  refine wp_regionF ?_
  refine lf_val (v := .int .i64 ((a0 : Nat) : Int)) (wantAll rfl) (rv_move rfl (fr_eval rfl e0)) ?_
  refine lf_val (v := .bool false) (wantAll rfl) (rv_lss rfl (fr_eval rfl rfl) rfl (decide_eq_false (by omega))) ?_
  refine lf_val (v := .bool false) (wantAll rfl) (rv_move rfl (fr_eval rfl rfl)) ?_
  refine lf_val (v := .int .i64 ((a0 : Nat) : Int)) (wantF (d := 11) rfl (by kernel_rfl) rfl rfl) (rv_move rfl (fr_eval rfl e0)) ?_
  refine lf_val (v := v) (wantF (d := 11) rfl (by kernel_rfl) rfl rfl) (rv_move rfl (fr_eval rfl e1)) ?_
  refine lf_val (v := .int .i64 ((l.length : Nat) : Int)) (wantF (d := 11) rfl (by kernel_rfl) rfl rfl) (rv_len rfl (fr_eval rfl rfl) (hr.rd _ hH.chg) Try.underlying24) ?_
  refine lf_val (v := .bool false) (wantF (d := 11) rfl (by kernel_rfl) rfl rfl) (rv_geq rfl (fr_eval rfl rfl) (fr_eval rfl rfl) (decide_eq_false (by omega))) ?_
  refine lf_val (v := .bool false) (wantAll rfl) (rv_pickF rfl (fr_eval rfl rfl) (fr_eval rfl rfl)) ?_
  refine lf_nil ?_
  refine then_n ?_
  refine wp_gen (fun F' => F' 0 = .int .i64 ((a0 : Nat) : Int) ∧ F' 1 = v ∧ F' 4 = .slice none 0 0 ∧ F' 5 = .bool false ∧ F' 16 = .bool false) ⟨e0, e1, e4, e5, rfl⟩ ?_
  clear e0 e1 e4 e5
  clear F
  rintro F ⟨e0, e1, e4, e5, e16⟩
  refine wp_cond_false (fr_eval rfl e16) ?_
  refine wp_skip ?_
  refine then_n ?_
  refine wp_seq ?_
  refine wp_regionF ?_
  refine lf_val (v := .slice none 0 0) (wantAll rfl) (rv_assign rfl rfl) ?_
  refine lf_nil ?_
  refine then_n ?_
  refine wp_seq ?_
  refine wp_seq ?_
  refine wp_gen (fun F' => F' 0 = .int .i64 ((a0 : Nat) : Int) ∧ F' 1 = v ∧ F' 4 = .slice none 0 0 ∧ F' 5 = .bool false ∧ F' 6 = .slice none 0 0 ∧ F' 16 = .bool false) ⟨e0, e1, e4, e5, rfl, e16⟩ ?_
  clear e0 e1 e4 e5 e16
  clear F
  rintro F ⟨e0, e1, e4, e5, e6, e16⟩
  refine wp_regionF ?_
  refine lf_val (v := v) (wantAll rfl) (rv_move rfl (fr_eval rfl e1)) ?_
  refine lf_call (wantAll rfl) (rv_call (args := [v]) rfl (evc (fr_eval rfl rfl) evn) Try.call61) (leaves_calls l (by omega) _ _ (hr.rd _ hH.chg)) ?_
  rintro _ w1 ⟨⟨y1, rfl, ho, hg⟩, hx⟩
  refine ⟨_, rfl, ?_⟩
  replace hH : Heap (newN w) w w1 [oRow cS 23 32 y1 (l.map leafS)] := hH.addOwn hx hg ho
  clear ho hg
  clear hx
  refine lf_val (v := y1) (wantAll rfl) (rv_assign rfl (fr_eval rfl rfl)) ?_
  refine lf_nil ?_
  refine then_n ?_
  refine wp_block ?_
  replace hH : Heap (newN w) w w1 [oRow cS 23 32 y1 (l.map leafS), oRow cS 23 32 (.slice none 0 0) []] := hH.addNil 23 32
  refine wp_gen (fun F' => F' 0 = .int .i64 ((a0 : Nat) : Int) ∧ F' 1 = v ∧ F' 4 = .slice none 0 0 ∧ F' 5 = .bool false ∧ F' 6 = (.slice none 0 0) ∧ F' 7 = y1 ∧ F' 16 = .bool false) ⟨e0, e1, e4, e5, e6, rfl, e16⟩ ?_
  clear e0 e1 e4 e5 e6 e16
  clear F
  rintro F ⟨e0, e1, e4, e5, e6, e7, e16⟩
  refine wp_loopF (fun m F wr => ∃ a : Nat, ∃ row : List S32, ∃ yr : Value, ∃ q : List S32, ∃ yq : Value, m = row.length ∧ row.length ≤ 1000000 ∧ a < row.length ∧ q.length + row.length ≤ 1000001 ∧ pathT (l.map leafS) a0 = q ++ pathT row a ∧ F 0 = .int .i64 ((a : Nat) : Int) ∧ F 1 = v ∧ F 4 = .slice none 0 0 ∧ F 5 = .bool false ∧ F 6 = yq ∧ F 7 = yr ∧ F 16 = .bool false ∧ Heap (newN w) w wr [oRow cS 23 32 yr row, oRow cS 23 32 yq q]) ⟨a0, _, _, [], _, rfl, (by simpa using hl), (by simpa using ha), (by simp; omega), rfl, e0, e1, e4, e5, e6, e7, e16, hH⟩ ?_
  clear e0 e1 e4 e5 e6 e7 e16 hH
  clear F
  rintro m F w2 ⟨a, row, yr, q, yq, rfl, pa0, pa1, pa2, pa3, e0, e1, e4, e5, e6, e7, e16, hH⟩
  refine wp_seq ?_
  refine wp_seq ?_
  refine wp_regionF ?_
  refine lf_val (v := yr) (wantAll rfl) (rv_move rfl (fr_eval rfl e7)) ?_
  refine lf_val (v := .int .i64 ((row.length : Nat) : Int)) (wantAll rfl) (rv_len rfl (fr_eval rfl rfl) (Own.rd (hH.own (i := 0) rfl) (row_one cS_one)) Try.underlying24) ?_
  by_cases hc1 : row.length > 1
  · refine lf_val (v := .bool true) (wantAll rfl) (rv_gtr rfl (fr_eval rfl rfl) rfl (decide_eq_true (by omega))) ?_
    refine lf_nil ?_
    refine then_n ?_
    refine wp_gen (fun F' => F' 0 = .int .i64 ((a : Nat) : Int) ∧ F' 1 = v ∧ F' 4 = .slice none 0 0 ∧ F' 5 = .bool false ∧ F' 6 = yq ∧ F' 7 = yr ∧ F' 16 = .bool false ∧ F' 21 = .bool true) ⟨e0, e1, e4, e5, e6, e7, e16, rfl⟩ ?_
    clear e0 e1 e4 e5 e6 e7 e16
    clear F
    rintro F ⟨e0, e1, e4, e5, e6, e7, e16, e21⟩
    refine wp_cond_true (fr_eval rfl e21) ?_
    refine wp_skip ?_
    refine then_n ?_
    refine wp_seq ?_
    refine wp_block ?_
    refine wp_seq ?_
    refine wp_seq ?_
    refine wp_regionF ?_
    refine lf_val (v := .int .i64 ((a : Nat) : Int)) (wantAll rfl) (rv_move rfl (fr_eval rfl e0)) ?_
    refine lf_val (v := .int .i64 ((beside a : Nat) : Int)) (wantAll rfl) (rv_xor rfl (fr_eval rfl rfl) rfl (xor1_nat _ (by omega))) ?_
    refine lf_val (v := .int .i64 ((beside a : Nat) : Int)) (wantAll rfl) (rv_assign rfl (fr_eval rfl rfl)) ?_
    refine lf_nil ?_
    refine then_n ?_
    refine wp_seq ?_
    refine wp_gen (fun F' => F' 0 = .int .i64 ((a : Nat) : Int) ∧ F' 1 = v ∧ F' 4 = .slice none 0 0 ∧ F' 5 = .bool false ∧ F' 6 = yq ∧ F' 7 = yr ∧ F' 8 = .int .i64 ((beside a : Nat) : Int) ∧ F' 16 = .bool false ∧ F' 21 = .bool true) ⟨e0, e1, e4, e5, e6, e7, rfl, e16, e21⟩ ?_
    clear e0 e1 e4 e5 e6 e7 e16 e21
    clear F
    rintro F ⟨e0, e1, e4, e5, e6, e7, e8, e16, e21⟩
    refine wp_regionF ?_
    refine lf_val (v := .int .i64 ((beside a : Nat) : Int)) (wantAll rfl) (rv_move rfl (fr_eval rfl e8)) ?_
    refine lf_val (v := yr) (wantAll rfl) (rv_move rfl (fr_eval rfl e7)) ?_
    refine lf_val (v := .int .i64 ((row.length : Nat) : Int)) (wantAll rfl) (rv_len rfl (fr_eval rfl rfl) (Own.rd (hH.own (i := 0) rfl) (row_one cS_one)) Try.underlying24) ?_
    by_cases hc2 : beside a < row.length
    · refine lf_val (v := .bool true) (wantAll rfl) (rv_lss rfl (fr_eval rfl rfl) (fr_eval rfl rfl) (decide_eq_true (by omega))) ?_
      refine lf_nil ?_
      refine then_n ?_
      refine wp_gen (fun F' => F' 0 = .int .i64 ((a : Nat) : Int) ∧ F' 1 = v ∧ F' 4 = .slice none 0 0 ∧ F' 5 = .bool false ∧ F' 6 = yq ∧ F' 7 = yr ∧ F' 8 = .int .i64 ((beside a : Nat) : Int) ∧ F' 16 = .bool false ∧ F' 21 = .bool true ∧ F' 29 = .bool true) ⟨e0, e1, e4, e5, e6, e7, e8, e16, e21, rfl⟩ ?_
      clear e0 e1 e4 e5 e6 e7 e8 e16 e21
      clear F
      rintro F ⟨e0, e1, e4, e5, e6, e7, e8, e16, e21, e29⟩
      refine wp_cond_true (fr_eval rfl e29) ?_
      refine wp_regionF ?_
      refine lf_val (v := yq) (wantAll rfl) (rv_move rfl (fr_eval rfl e6)) ?_
      refine lf_val (v := yr) (wantAll rfl) (rv_move rfl (fr_eval rfl e7)) ?_
      refine lf_val (v := .int .i64 ((beside a : Nat) : Int)) (wantAll rfl) (rv_move rfl (fr_eval rfl e8)) ?_
      refine lf_val (v := .pointer (some (elemA yr ((beside a) * 32)))) (wantAll rfl) (rv_index rfl (fr_eval rfl rfl) (fr_eval rfl rfl) (rdN (Own.rd (hH.own (i := 0) rfl) (row_one cS_one)) rfl) (show beside a < row.length from (by omega)) Try.underlying24 Try.sz23 (by decide)) ?_
      refine lf_val (v := .agg (cBs (((List.getD row (beside a) zS)).1)).toArray) (wantAll rfl) (rv_loadElem rfl (fr_eval rfl rfl) (rdN (Own.rd (hH.own (i := 0) rfl) (row_one cS_one)) rfl) (show beside a < row.length from (by omega)) (by decide) (flat_part zS cS_len (show beside a < row.length from (by omega))) Try.underlying23 rfl Try.sz23) ?_
      refine lf_ex (wantAll rfl) (hx_lit1 hH Try.stSum (cs := cS (⟨((List.getD row (beside a) zS)).1, ((List.getD row (beside a) zS)).2⟩ : S32)) (xs := List.flatMap cS [(⟨((List.getD row (beside a) zS)).1, ((List.getD row (beside a) zS)).2⟩ : S32)]) rfl (fr_eval rfl rfl) (cS_ln (⟨((List.getD row (beside a) zS)).1, ((List.getD row (beside a) zS)).2⟩ : S32)) (by decide) (List.flatMap_singleton ..).symm) ?_
      clear hH
      rintro y2 w3 ⟨hH, hx⟩
      replace hH : Heap (newN w) w w3 [oRow cS 23 32 yr row, oRow cS 23 32 yq q, oRow cS 23 32 y2 [(⟨((List.getD row (beside a) zS)).1, ((List.getD row (beside a) zS)).2⟩ : S32)]] := hH
      clear hx
      refine lf_ex (wantAll rfl) (hx_append hH Try.stSum (i := 1) (xs' := (q ++ [(⟨((List.getD row (beside a) zS)).1, ((List.getD row (beside a) zS)).2⟩ : S32)]).flatMap cS) (nm := (q ++ [(⟨((List.getD row (beside a) zS)).1, ((List.getD row (beside a) zS)).2⟩ : S32)]).length) rfl rfl (fun _ => rfl) List.length_append.symm List.flatMap_append.symm (Own.rd (hH.own (i := 2) rfl) (row_one cS_one)) (fr_eval rfl rfl) (fr_eval rfl rfl) (by simp only [List.length_append, List.length_cons, List.length_nil]; omega)) ?_
      clear hH
      rintro y3 w4 ⟨hH, hx⟩
      replace hH : Heap (newN w) w w4 [oRow cS 23 32 yr row, oRow cS 23 32 y3 (q ++ [(⟨((List.getD row (beside a) zS)).1, ((List.getD row (beside a) zS)).2⟩ : S32)]), oRow cS 23 32 y2 [(⟨((List.getD row (beside a) zS)).1, ((List.getD row (beside a) zS)).2⟩ : S32)]] := hH
      clear hx
      refine lf_val (v := y3) (wantAll rfl) (rv_assign rfl (fr_eval rfl rfl)) ?_
      refine lf_nil ?_
      refine then_n ?_
      replace hH : Heap (newN w) w w4 [oRow cS 23 32 yr row, oRow cS 23 32 y3 (q ++ [(⟨((List.getD row (beside a) zS)).1, ((List.getD row (beside a) zS)).2⟩ : S32)])] := hH.drop (.cons_cons _ (.cons_cons _ (.cons _ .slnil)))
      refine wp_gen (fun F' => F' 0 = .int .i64 ((a : Nat) : Int) ∧ F' 1 = v ∧ F' 4 = .slice none 0 0 ∧ F' 5 = .bool false ∧ F' 6 = y3 ∧ F' 7 = yr ∧ F' 8 = .int .i64 ((beside a : Nat) : Int) ∧ F' 16 = .bool false ∧ F' 21 = .bool true ∧ F' 29 = .bool true) ⟨e0, e1, e4, e5, rfl, e7, e8, e16, e21, e29⟩ ?_
      clear e0 e1 e4 e5 e6 e7 e8 e16 e21 e29
      clear F
      rintro F ⟨e0, e1, e4, e5, e6, e7, e8, e16, e21, e29⟩
      refine wp_regionF ?_
      refine lf_val (v := .int .i64 ((a : Nat) : Int)) (wantAll rfl) (rv_move rfl (fr_eval rfl e0)) ?_
      refine lf_val (v := .int .i64 ((a / 2 : Nat) : Int)) (wantAll rfl) (rv_quo rfl (fr_eval rfl rfl) rfl (by decide) (quo_nat (n := 2) (by omega))) ?_
      refine lf_val (v := .int .i64 ((a / 2 : Nat) : Int)) (wantAll rfl) (rv_assign rfl (fr_eval rfl rfl)) ?_
      refine lf_nil ?_
      refine blk_n ?_
      refine then_n ?_
      refine wp_gen (fun F' => F' 0 = .int .i64 ((a / 2 : Nat) : Int) ∧ F' 1 = v ∧ F' 4 = .slice none 0 0 ∧ F' 5 = .bool false ∧ F' 6 = y3 ∧ F' 7 = yr ∧ F' 8 = .int .i64 ((beside a : Nat) : Int) ∧ F' 16 = .bool false ∧ F' 21 = .bool true ∧ F' 29 = .bool true) ⟨rfl, e1, e4, e5, e6, e7, e8, e16, e21, e29⟩ ?_
      clear e0 e1 e4 e5 e6 e7 e8 e16 e21 e29
      clear F
      rintro F ⟨e0, e1, e4, e5, e6, e7, e8, e16, e21, e29⟩
      refine wp_regionF ?_
      refine lf_val (v := yr) (wantAll rfl) (rv_move rfl (fr_eval rfl e7)) ?_
      refine lf_call (wantAll rfl) (rv_call (args := [yr]) rfl (evc (fr_eval rfl rfl) evn) Try.call62) (up_calls row (by omega) _ _ (Own.rd (hH.own (i := 0) rfl) (row_one cS_one))) ?_
      rintro _ w5 ⟨⟨y4, rfl, ho, hg⟩, hx⟩
      refine ⟨_, rfl, ?_⟩
      replace hH : Heap (newN w) w w5 [oRow cS 23 32 yr row, oRow cS 23 32 y3 (q ++ [(⟨((List.getD row (beside a) zS)).1, ((List.getD row (beside a) zS)).2⟩ : S32)]), oRow cS 23 32 y4 (upL row)] := hH.addOwn hx hg ho
      clear ho hg
      clear hx
      refine lf_val (v := y4) (wantAll rfl) (rv_assign rfl (fr_eval rfl rfl)) ?_
      refine lf_nil ?_
      refine then_n ?_
      replace hH : Heap (newN w) w w5 [oRow cS 23 32 y3 (q ++ [(⟨((List.getD row (beside a) zS)).1, ((List.getD row (beside a) zS)).2⟩ : S32)]), oRow cS 23 32 y4 (upL row)] := hH.drop (.cons _ (.cons_cons _ (.cons_cons _ .slnil)))
      replace hH : Heap (newN w) w w5 [oRow cS 23 32 y4 (upL row), oRow cS 23 32 y3 (q ++ [(⟨((List.getD row (beside a) zS)).1, ((List.getD row (beside a) zS)).2⟩ : S32)])] := hH.perm (.trans (.swap _ _ _) (.cons _ (.refl _)))
      exact ⟨_, _, (by rw [upL_len]; omega), rfl, _, _, _, _, _, rfl, (by rw [upL_len]; omega), (by rw [upL_len]; omega), (by rw [upL_len, List.length_append, List.length_singleton]; omega), (by rw [pa3, pathT_go (by omega), if_pos (by omega), List.append_assoc]), e0, e1, e4, e5, e6, rfl, e16, hH⟩
    · refine lf_val (v := .bool false) (wantAll rfl) (rv_lss rfl (fr_eval rfl rfl) (fr_eval rfl rfl) (decide_eq_false (by omega))) ?_
      refine lf_nil ?_
      refine then_n ?_
      refine wp_gen (fun F' => F' 0 = .int .i64 ((a : Nat) : Int) ∧ F' 1 = v ∧ F' 4 = .slice none 0 0 ∧ F' 5 = .bool false ∧ F' 6 = yq ∧ F' 7 = yr ∧ F' 8 = .int .i64 ((beside a : Nat) : Int) ∧ F' 16 = .bool false ∧ F' 21 = .bool true ∧ F' 29 = .bool false) ⟨e0, e1, e4, e5, e6, e7, e8, e16, e21, rfl⟩ ?_
      clear e0 e1 e4 e5 e6 e7 e8 e16 e21
      clear F
      rintro F ⟨e0, e1, e4, e5, e6, e7, e8, e16, e21, e29⟩
      refine wp_cond_false (fr_eval rfl e29) ?_
      refine wp_skip ?_
      refine then_n ?_
      refine wp_regionF ?_
      refine lf_val (v := .int .i64 ((a : Nat) : Int)) (wantAll rfl) (rv_move rfl (fr_eval rfl e0)) ?_
      refine lf_val (v := .int .i64 ((a / 2 : Nat) : Int)) (wantAll rfl) (rv_quo rfl (fr_eval rfl rfl) rfl (by decide) (quo_nat (n := 2) (by omega))) ?_
      refine lf_val (v := .int .i64 ((a / 2 : Nat) : Int)) (wantAll rfl) (rv_assign rfl (fr_eval rfl rfl)) ?_
      refine lf_nil ?_
      refine blk_n ?_
      refine then_n ?_
      refine wp_gen (fun F' => F' 0 = .int .i64 ((a / 2 : Nat) : Int) ∧ F' 1 = v ∧ F' 4 = .slice none 0 0 ∧ F' 5 = .bool false ∧ F' 6 = yq ∧ F' 7 = yr ∧ F' 8 = .int .i64 ((beside a : Nat) : Int) ∧ F' 16 = .bool false ∧ F' 21 = .bool true ∧ F' 29 = .bool false) ⟨rfl, e1, e4, e5, e6, e7, e8, e16, e21, e29⟩ ?_
      clear e0 e1 e4 e5 e6 e7 e8 e16 e21 e29
      clear F
      rintro F ⟨e0, e1, e4, e5, e6, e7, e8, e16, e21, e29⟩
      refine wp_regionF ?_
      refine lf_val (v := yr) (wantAll rfl) (rv_move rfl (fr_eval rfl e7)) ?_
      refine lf_call (wantAll rfl) (rv_call (args := [yr]) rfl (evc (fr_eval rfl rfl) evn) Try.call62) (up_calls row (by omega) _ _ (Own.rd (hH.own (i := 0) rfl) (row_one cS_one))) ?_
      rintro _ w6 ⟨⟨y5, rfl, ho, hg⟩, hx⟩
      refine ⟨_, rfl, ?_⟩
      replace hH : Heap (newN w) w w6 [oRow cS 23 32 yr row, oRow cS 23 32 yq q, oRow cS 23 32 y5 (upL row)] := hH.addOwn hx hg ho
      clear ho hg
      clear hx
      refine lf_val (v := y5) (wantAll rfl) (rv_assign rfl (fr_eval rfl rfl)) ?_
      refine lf_nil ?_
      refine then_n ?_
      replace hH : Heap (newN w) w w6 [oRow cS 23 32 yq q, oRow cS 23 32 y5 (upL row)] := hH.drop (.cons _ (.cons_cons _ (.cons_cons _ .slnil)))
      replace hH : Heap (newN w) w w6 [oRow cS 23 32 y5 (upL row), oRow cS 23 32 yq q] := hH.perm (.trans (.swap _ _ _) (.cons _ (.refl _)))
      exact ⟨_, _, (by rw [upL_len]; omega), rfl, _, _, _, _, _, rfl, (by rw [upL_len]; omega), (by rw [upL_len]; omega), (by rw [upL_len]; omega), (by rw [pa3, pathT_go (by omega), if_neg (by omega), List.nil_append]), e0, e1, e4, e5, e6, rfl, e16, hH⟩
  · refine lf_val (v := .bool false) (wantAll rfl) (rv_gtr rfl (fr_eval rfl rfl) rfl (decide_eq_false (by omega))) ?_
    refine lf_nil ?_
    refine then_n ?_
    refine wp_gen (fun F' => F' 0 = .int .i64 ((a : Nat) : Int) ∧ F' 1 = v ∧ F' 4 = .slice none 0 0 ∧ F' 5 = .bool false ∧ F' 6 = yq ∧ F' 7 = yr ∧ F' 16 = .bool false ∧ F' 21 = .bool false) ⟨e0, e1, e4, e5, e6, e7, e16, rfl⟩ ?_
    clear e0 e1 e4 e5 e6 e7 e16
    clear F
    rintro F ⟨e0, e1, e4, e5, e6, e7, e16, e21⟩
    refine wp_cond_false (fr_eval rfl e21) ?_
    refine wp_exit ?_
    refine then_exit ?_
    refine then_exit ?_
    refine blk_exit ?_
    refine then_n ?_
    refine wp_seq ?_
    replace hH : Heap (newN w) w w2 [oRow cS 23 32 yr row, oRow cS 23 32 yq (pathT (l.map leafS) a0)] := by have e : q = pathT (l.map leafS) a0 := (pa3.trans (by rw [pathT_end (by omega), List.append_nil])).symm; rw [← e]; exact hH
    refine wp_regionF ?_
    refine lf_val (v := yq) (wantAll rfl) (rv_move rfl (fr_eval rfl e6)) ?_
    refine lf_val (v := yq) (wantAll rfl) (rv_assign rfl (fr_eval rfl rfl)) ?_
    refine lf_val (v := .bool true) (wantAll rfl) (rv_assign rfl rfl) ?_
    refine lf_nil ?_
    refine then_n ?_
    refine wp_gen (fun F' => F' 0 = .int .i64 ((a : Nat) : Int) ∧ F' 1 = v ∧ F' 4 = yq ∧ F' 5 = .bool true ∧ F' 6 = yq ∧ F' 7 = yr ∧ F' 16 = .bool false ∧ F' 21 = .bool false) ⟨e0, e1, rfl, rfl, e6, e7, e16, e21⟩ ?_
    clear e0 e1 e4 e5 e6 e7 e16 e21
    clear F
    rintro F ⟨e0, e1, e4, e5, e6, e7, e16, e21⟩
    refine wp_ret ?_
    exact bodyPost_ret (v := .tuple #[yq, .bool true]) (res2 rfl (ro_tmp rfl e4) (ro_tmp rfl e5)) rfl (⟨⟨_, rfl, hH.own (i := 1) rfl, hH.ge (i := 1) rfl⟩, hH.done⟩)

set_option maxRecDepth 100000 in
set_option maxHeartbeats 4000000 in
theorem merkleRoots_in (l : List S32) (v : Value) (a0 : Nat) (ha : a0 < (l.take 40).length) (s : S32) (w : World) (hr0 : Rd w 32 v l.length (l.flatMap cS)) :
    Calls Try.prog 4 #[v, .int .i64 ((a0 : Nat) : Int), .agg (cBs s.1).toArray] w fun e'' w' => e'' = .returned (.bool true) ∧ Ext w w' := by
  refine calls_fr (args := [v, .int .i64 ((a0 : Nat) : Int), .agg (cBs s.1).toArray]) (n := 58) Try.func4 rfl rfl (show 3 ≤ 58 by decide) ?_
  have hL : (List.take 40 l).length ≤ 40 := by rw [List.length_take]; omega
  have hr := Rd.stab hr0
  have hH : Heap (newN w) w w [] := Heap.fresh
  refine wp_seq ?_
  refine wp_gen (fun F' => F' 0 = v ∧ F' 1 = .int .i64 ((a0 : Nat) : Int) ∧ F' 2 = .agg (cBs s.1).toArray) ⟨rfl, rfl, rfl⟩ ?_
  rintro F ⟨e0, e1, e2⟩
  refine wp_regionF ?_
  refine lf_ex (wantAll rfl) (hx_box hH 23 (cs := cBs s.1) rfl (fr_eval rfl e2) (by rfl)) ?_
  clear hH
  rintro _ w1 ⟨g1, rfl, hH, hx⟩
  replace hH : Heap (newN w) w w1 [oBlk g1 (cBs s.1) 23] := hH
  clear hx
  refine lf_val (v := .bool false) (wantAll rfl) (rv_assign rfl rfl) ?_
  refine lf_nil ?_
  refine then_n ?_
  refine wp_seq ?_
  refine wp_gen (fun F' => F' 0 = v ∧ F' 1 = .int .i64 ((a0 : Nat) : Int) ∧ F' 2 = .agg (cBs s.1).toArray ∧ F' 5 = .pointer (some ⟨g1, 0, none⟩) ∧ F' 6 = .bool false) ⟨e0, e1, e2, rfl, rfl⟩ ?_
  clear e0 e1 e2
  clear F
  rintro F ⟨e0, e1, e2, e5, e6⟩
  refine wp_regionF ?_
  refine lf_val (v := v) (wantAll rfl) (rv_move rfl (fr_eval rfl e0)) ?_
  have hf_t10 := Stab.cut (n := 40) cS_len hr
  refine lf_call (wantAll rfl) (rv_call (args := [v]) rfl (evc (fr_eval rfl rfl) evn) Try.call14) (few03_calls l _ _ (hr.rd _ hH.chg)) ?_
  rintro _ w2 ⟨rfl, hx⟩
  refine ⟨_, rfl, ?_⟩
  replace hH := hH.ext hx
  clear hx
  refine lf_val (v := cutR 32 v l.length 40) (wantAll rfl) (rv_assign rfl (fr_eval rfl rfl)) ?_
  refine lf_nil ?_
  refine then_n ?_
  refine wp_seq ?_
  refine wp_gen (fun F' => F' 0 = cutR 32 v l.length 40 ∧ F' 1 = .int .i64 ((a0 : Nat) : Int) ∧ F' 2 = .agg (cBs s.1).toArray ∧ F' 5 = .pointer (some ⟨g1, 0, none⟩) ∧ F' 6 = .bool false) ⟨rfl, e1, e2, e5, e6⟩ ?_
  clear e0 e1 e2 e5 e6
  clear F
  rintro F ⟨e0, e1, e2, e5, e6⟩
  refine wp_regionF ?_
  refine lf_val (v := .int .i64 ((a0 : Nat) : Int)) (wantAll rfl) (rv_move rfl (fr_eval rfl e1)) ?_
  refine lf_val (v := cutR 32 v l.length 40) (wantAll rfl) (rv_move rfl (fr_eval rfl e0)) ?_
  refine lf_call (wantAll rfl) (rv_call (args := [.int .i64 ((a0 : Nat) : Int), cutR 32 v l.length 40]) rfl (evc (fr_eval rfl rfl) (evc (fr_eval rfl rfl) evn)) Try.call18) (path_in a0 (List.take 40 l) (by omega) (by omega) _ _ (hf_t10.rd _ hH.chg)) ?_
  rintro _ w3 ⟨⟨y1, rfl, ho, hg⟩, hx⟩
  refine ⟨_, rfl, ?_⟩
  replace hH : Heap (newN w) w w3 [oBlk g1 (cBs s.1) 23, oRow cS 23 32 y1 (pathT (List.map leafS (List.take 40 l)) a0)] := hH.addOwn hx hg ho
  clear ho hg
  clear hx
  refine lf_val (v := .tuple #[y1, .bool true]) (wantAll rfl) (rv_move rfl (fr_eval rfl rfl)) ?_
  refine lf_val (v := y1) (wantAll rfl) (rv_extract rfl (fr_eval rfl rfl) rfl) ?_
  refine lf_val (v := .bool true) (wantAll rfl) (rv_extract rfl (fr_eval rfl rfl) rfl) ?_
  refine lf_val (v := y1) (wantAll rfl) (rv_assign rfl (fr_eval rfl rfl)) ?_
  refine lf_val (v := .bool true) (wantAll rfl) (rv_assign rfl (fr_eval rfl rfl)) ?_
  refine lf_nil ?_
  refine then_n ?_
  refine wp_seq ?_
  refine wp_seq ?_
  refine wp_gen (fun F' => F' 0 = cutR 32 v l.length 40 ∧ F' 1 = .int .i64 ((a0 : Nat) : Int) ∧ F' 2 = .agg (cBs s.1).toArray ∧ F' 5 = .pointer (some ⟨g1, 0, none⟩) ∧ F' 6 = .bool false ∧ F' 7 = y1 ∧ F' 8 = .bool true) ⟨e0, e1, e2, e5, e6, rfl, rfl⟩ ?_
  clear e0 e1 e2 e5 e6
  clear F
  rintro F ⟨e0, e1, e2, e5, e6, e7, e8⟩
  refine wp_regionX (fun _ => False) 9 (by kernel_rfl) (by kernel_rfl) ?_
  refine xl_take (i := 0) (v := cutR 32 v l.length 40) rfl (by kernel_rfl) (by kernel_rfl) (by kernel_rfl) (by kernel_rfl) (yx_val (wantAll rfl) (fun w' hx' => rv_move rfl (fr_eval rfl e0))) ?_
  refine xl_take (i := 1) (v := .agg (cBs ((rootS (List.take 40 l)).1)).toArray) rfl (by kernel_rfl) (by kernel_rfl) (by kernel_rfl) (by kernel_rfl) (yx_call (wantAll rfl) (fun w' => rv_call (args := [cutR 32 v l.length 40]) rfl (evc (fr_eval rfl rfl) evn) Try.call19) (fun w' hx' => root_calls (List.take 40 l) (by omega) _ _ (hf_t10.rd _ (hH.chg.trans (Ext.any hx'))))) ?_
  refine xl_take (i := 2) (v := cutR 32 v l.length 40) rfl (by kernel_rfl) (by kernel_rfl) (by kernel_rfl) (by kernel_rfl) (yx_val (wantAll rfl) (fun w' hx' => rv_move rfl (fr_eval rfl e0))) ?_
  refine xl_take (i := 3) (v := .agg (cBs ((rootS (List.take 40 l)).1)).toArray) rfl (by kernel_rfl) (by kernel_rfl) (by kernel_rfl) (by kernel_rfl) (yx_call (wantAll rfl) (fun w' => rv_call (args := [cutR 32 v l.length 40]) rfl (evc (fr_eval rfl rfl) evn) Try.call20) (fun w' hx' => root03_calls (List.take 40 l) (by first | omega | (simp only [List.length_take, List.length_drop]; omega)) _ _ (hf_t10.rd _ (hH.chg.trans (Ext.any hx'))))) ?_
  refine xl_take (i := 4) (v := .bool false) rfl (by kernel_rfl) (by kernel_rfl) (by kernel_rfl) (by kernel_rfl) (yx_val (wantAll rfl) (fun w' hx' => neT rfl (fr_eval rfl rfl) (fr_eval rfl rfl) (rootS (List.take 40 l)).2 (rootS (List.take 40 l)).2 (b := true) (beq_self_eq_true _))) ?_
  refine xl_take (i := 5) (v := .bool false) rfl (by kernel_rfl) (by kernel_rfl) (by kernel_rfl) (by kernel_rfl) (yx_val (wantAll rfl) (fun w' hx' => rv_move rfl (fr_eval rfl rfl))) ?_
  refine xl_take (i := 6) (v := .agg (cBs s.1).toArray) rfl (by kernel_rfl) (by kernel_rfl) (by kernel_rfl) (by kernel_rfl) (yx_val (wantF (d := 22) rfl (by kernel_rfl) rfl rfl) (fun w' hx' => rv_loadW rfl ((hH.ext hx').blk (i := 0) rfl) (fr_eval rfl e5) Try.underlying23 rfl (sz_len Try.sz23 (cBs_len s.2)))) ?_
  refine xl_take (i := 7) (v := .agg (cBs ((leafS s).1)).toArray) rfl (by kernel_rfl) (by kernel_rfl) (by kernel_rfl) (by kernel_rfl) (yx_call (wantF (d := 22) rfl (by kernel_rfl) rfl rfl) (fun w' => rv_call (args := [.agg (cBs s.1).toArray]) rfl (evc (fr_eval rfl rfl) evn) Try.call21) (fun w' hx' => leaf_calls s _)) ?_
  refine xl_take (i := 8) (v := .agg (cBs s.1).toArray) rfl (by kernel_rfl) (by kernel_rfl) (by kernel_rfl) (by kernel_rfl) (yx_val (wantF (d := 22) rfl (by kernel_rfl) rfl rfl) (fun w' hx' => rv_loadW rfl ((hH.ext hx').blk (i := 0) rfl) (fr_eval rfl e5) Try.underlying23 rfl (sz_len Try.sz23 (cBs_len s.2)))) ?_
  refine xl_tail (s := 9) rfl ?_
  intro w4 hx
  replace hH := hH.ext hx
  clear hx
  refine lf_call (wantF (d := 22) rfl (by kernel_rfl) rfl rfl) (rv_call (args := [.agg (cBs s.1).toArray]) rfl (evc (fr_eval rfl rfl) evn) Try.call22) (leaf03_calls s _) ?_
  rintro _ w5 ⟨rfl, hx⟩
  refine ⟨_, rfl, ?_⟩
  replace hH := hH.ext hx
  clear hx
  refine lf_val (v := .bool false) (wantF (d := 22) rfl (by kernel_rfl) rfl rfl) (neT rfl (fr_eval rfl rfl) (fr_eval rfl rfl) (leafS s).2 (leafS s).2 (b := true) (beq_self_eq_true _)) ?_
  refine lf_val (v := .bool false) (wantAll rfl) (rv_pickF rfl (fr_eval rfl rfl) (fr_eval rfl rfl)) ?_
  refine lf_nil ?_
  refine then_n ?_
  refine wp_gen (fun F' => F' 0 = cutR 32 v l.length 40 ∧ F' 1 = .int .i64 ((a0 : Nat) : Int) ∧ F' 2 = .agg (cBs s.1).toArray ∧ F' 5 = .pointer (some ⟨g1, 0, none⟩) ∧ F' 6 = .bool false ∧ F' 7 = y1 ∧ F' 8 = .bool true ∧ F' 28 = .bool false) ⟨e0, e1, e2, e5, e6, e7, e8, rfl⟩ ?_
  clear e0 e1 e2 e5 e6 e7 e8
  clear F
  rintro F ⟨e0, e1, e2, e5, e6, e7, e8, e28⟩
  refine wp_cond_false (fr_eval rfl e28) ?_
  refine wp_skip ?_
  refine then_n ?_
  refine wp_seq ?_
  refine wp_seq ?_
  refine wp_regionF ?_
  refine lf_val (v := .int .i64 ((a0 : Nat) : Int)) (wantAll rfl) (rv_move rfl (fr_eval rfl e1)) ?_
  refine lf_val (v := .bool false) (wantAll rfl) (rv_lss rfl (fr_eval rfl rfl) rfl (decide_eq_false (by omega))) ?_
  refine lf_val (v := .bool false) (wantAll rfl) (rv_move rfl (fr_eval rfl rfl)) ?_
  refine lf_val (v := .int .i64 ((a0 : Nat) : Int)) (wantF (d := 31) rfl (by kernel_rfl) rfl rfl) (rv_move rfl (fr_eval rfl e1)) ?_
  refine lf_val (v := cutR 32 v l.length 40) (wantF (d := 31) rfl (by kernel_rfl) rfl rfl) (rv_move rfl (fr_eval rfl e0)) ?_
  refine lf_val (v := .int .i64 (((List.take 40 l).length : Nat) : Int)) (wantF (d := 31) rfl (by kernel_rfl) rfl rfl) (rv_len rfl (fr_eval rfl rfl) (hf_t10.rd _ hH.chg) Try.underlying24) ?_
  refine lf_val (v := .bool false) (wantF (d := 31) rfl (by kernel_rfl) rfl rfl) (rv_geq rfl (fr_eval rfl rfl) (fr_eval rfl rfl) (decide_eq_false (by omega))) ?_
  refine lf_val (v := .bool false) (wantAll rfl) (rv_pickF rfl (fr_eval rfl rfl) (fr_eval rfl rfl)) ?_
  refine lf_nil ?_
  refine then_n ?_
  refine wp_gen (fun F' => F' 0 = cutR 32 v l.length 40 ∧ F' 1 = .int .i64 ((a0 : Nat) : Int) ∧ F' 2 = .agg (cBs s.1).toArray ∧ F' 5 = .pointer (some ⟨g1, 0, none⟩) ∧ F' 6 = .bool false ∧ F' 7 = y1 ∧ F' 8 = .bool true ∧ F' 28 = .bool false ∧ F' 36 = .bool false) ⟨e0, e1, e2, e5, e6, e7, e8, e28, rfl⟩ ?_
  clear e0 e1 e2 e5 e6 e7 e8 e28
  clear F
  rintro F ⟨e0, e1, e2, e5, e6, e7, e8, e28, e36⟩
  refine wp_cond_false (fr_eval rfl e36) ?_
  refine wp_skip ?_
  refine then_n ?_
  refine wp_seq ?_
  refine wp_regionF ?_
  refine lf_val (v := .bool true) (wantAll rfl) (rv_move rfl (fr_eval rfl e8)) ?_
  refine lf_val (v := .bool true) (wantAll rfl) (rv_move rfl (fr_eval rfl rfl)) ?_
  refine lf_val (v := y1) (wantF (d := 48) rfl (by kernel_rfl) rfl rfl) (rv_move rfl (fr_eval rfl e7)) ?_
  refine lf_val (v := cutR 32 v l.length 40) (wantF (d := 48) rfl (by kernel_rfl) rfl rfl) (rv_move rfl (fr_eval rfl e0)) ?_
  refine lf_val (v := .int .i64 ((a0 : Nat) : Int)) (wantF (d := 48) rfl (by kernel_rfl) rfl rfl) (rv_move rfl (fr_eval rfl e1)) ?_
  refine lf_call (wantF (d := 48) rfl (by kernel_rfl) rfl rfl) (rv_call (args := [cutR 32 v l.length 40, .int .i64 ((a0 : Nat) : Int)]) rfl (evc (fr_eval rfl rfl) (evc (fr_eval rfl rfl) evn)) Try.call24) (path03_calls (List.take 40 l) a0 (by omega) (by omega) _ _ (hf_t10.rd _ hH.chg)) ?_
  rintro _ w6 ⟨⟨y2, rfl, ho, hg⟩, hx⟩
  refine ⟨_, rfl, ?_⟩
  replace hH : Heap (newN w) w w6 [oBlk g1 (cBs s.1) 23, oRow cS 23 32 y1 (pathT (List.map leafS (List.take 40 l)) a0), oRow cS 23 32 y2 (pathT (List.map leafS (List.take 40 l)) a0)] := hH.addOwn hx hg ho
  clear ho hg
  clear hx
  refine lf_call (wantF (d := 48) rfl (by kernel_rfl) rfl rfl) (rv_call (args := [y1, y2]) rfl (evc (fr_eval rfl rfl) (evc (fr_eval rfl rfl) evn)) Try.call23) (same03_calls (pathT (List.map leafS (List.take 40 l)) a0) _ _ _ (Own.rd (hH.own (i := 1) rfl) (row_one cS_one)) (Own.rd (hH.own (i := 2) rfl) (row_one cS_one))) ?_
  rintro _ w7 ⟨rfl, hx⟩
  refine ⟨_, rfl, ?_⟩
  replace hH := hH.ext hx
  clear hx
  refine lf_val (v := .bool true) (wantAll rfl) (rv_pickT rfl (fr_eval rfl rfl) (fr_eval rfl rfl)) ?_
  refine lf_val (v := .bool true) (wantAll rfl) (rv_move rfl (fr_eval rfl rfl)) ?_
  refine lf_call (wantF (d := 55) rfl (by kernel_rfl) rfl rfl) (rv_call (args := []) rfl evn Try.call16) (awake03_calls _) ?_
  rintro _ w8 ⟨rfl, hx⟩
  refine ⟨_, rfl, ?_⟩
  replace hH := hH.ext hx
  clear hx
  refine lf_val (v := .bool true) (wantAll rfl) (rv_pickT rfl (fr_eval rfl rfl) (fr_eval rfl rfl)) ?_
  refine lf_val (v := .bool true) (wantAll rfl) (rv_assign rfl (fr_eval rfl rfl)) ?_
  refine lf_nil ?_
  refine then_n ?_
  replace hH : Heap (newN w) w w8 [oBlk g1 (cBs s.1) 23, oRow cS 23 32 y1 (pathT (List.map leafS (List.take 40 l)) a0)] := hH.drop (.cons_cons _ (.cons_cons _ (.cons _ .slnil)))
  refine wp_gen (fun F' => F' 0 = cutR 32 v l.length 40 ∧ F' 1 = .int .i64 ((a0 : Nat) : Int) ∧ F' 2 = .agg (cBs s.1).toArray ∧ F' 5 = .pointer (some ⟨g1, 0, none⟩) ∧ F' 6 = .bool true ∧ F' 7 = y1 ∧ F' 8 = .bool true ∧ F' 28 = .bool false ∧ F' 36 = .bool false) ⟨e0, e1, e2, e5, rfl, e7, e8, e28, e36⟩ ?_
  clear e0 e1 e2 e5 e6 e7 e8 e28 e36
  clear F
  rintro F ⟨e0, e1, e2, e5, e6, e7, e8, e28, e36⟩
  refine wp_ret ?_
  exact bodyPost_ret (v := (.bool true)) (res1 rfl (ro_tmp rfl e6)) rfl (⟨rfl, hH.done⟩)

set_option maxRecDepth 100000 in
set_option maxHeartbeats 4000000 in
theorem merkleRoots_out (l : List S32) (v : Value) (at' : Int) (hn : -9223372036854775808 ≤ at' ∧ at' ≤ 9223372036854775807) (ho : ¬ (0 ≤ at' ∧ at' < ((l.take 40).length : Int))) (s : S32) (w : World) (hr0 : Rd w 32 v l.length (l.flatMap cS)) :
    Calls Try.prog 4 #[v, .int .i64 at', .agg (cBs s.1).toArray] w fun e'' w' => e'' = .returned (.bool true) ∧ Ext w w' := by
  refine calls_fr (args := [v, .int .i64 at', .agg (cBs s.1).toArray]) (n := 58) Try.func4 rfl rfl (show 3 ≤ 58 by decide) ?_
  have hL : (List.take 40 l).length ≤ 40 := by rw [List.length_take]; omega
  have hr := Rd.stab hr0
  have hH : Heap (newN w) w w [] := Heap.fresh
  refine wp_seq ?_
  refine wp_gen (fun F' => F' 0 = v ∧ F' 1 = .int .i64 at' ∧ F' 2 = .agg (cBs s.1).toArray) ⟨rfl, rfl, rfl⟩ ?_
  rintro F ⟨e0, e1, e2⟩
  refine wp_regionF ?_
  refine lf_ex (wantAll rfl) (hx_box hH 23 (cs := cBs s.1) rfl (fr_eval rfl e2) (by rfl)) ?_
  clear hH
  rintro _ w1 ⟨g1, rfl, hH, hx⟩
  replace hH : Heap (newN w) w w1 [oBlk g1 (cBs s.1) 23] := hH
  clear hx
  refine lf_val (v := .bool false) (wantAll rfl) (rv_assign rfl rfl) ?_
  refine lf_nil ?_
  refine then_n ?_
  refine wp_seq ?_
  refine wp_gen (fun F' => F' 0 = v ∧ F' 1 = .int .i64 at' ∧ F' 2 = .agg (cBs s.1).toArray ∧ F' 5 = .pointer (some ⟨g1, 0, none⟩) ∧ F' 6 = .bool false) ⟨e0, e1, e2, rfl, rfl⟩ ?_
  clear e0 e1 e2
  clear F
  rintro F ⟨e0, e1, e2, e5, e6⟩
  refine wp_regionF ?_
  refine lf_val (v := v) (wantAll rfl) (rv_move rfl (fr_eval rfl e0)) ?_
  have hf_t10 := Stab.cut (n := 40) cS_len hr
  refine lf_call (wantAll rfl) (rv_call (args := [v]) rfl (evc (fr_eval rfl rfl) evn) Try.call14) (few03_calls l _ _ (hr.rd _ hH.chg)) ?_
  rintro _ w2 ⟨rfl, hx⟩
  refine ⟨_, rfl, ?_⟩
  replace hH := hH.ext hx
  clear hx
  refine lf_val (v := cutR 32 v l.length 40) (wantAll rfl) (rv_assign rfl (fr_eval rfl rfl)) ?_
  refine lf_nil ?_
  refine then_n ?_
  refine wp_seq ?_
  refine wp_gen (fun F' => F' 0 = cutR 32 v l.length 40 ∧ F' 1 = .int .i64 at' ∧ F' 2 = .agg (cBs s.1).toArray ∧ F' 5 = .pointer (some ⟨g1, 0, none⟩) ∧ F' 6 = .bool false) ⟨rfl, e1, e2, e5, e6⟩ ?_
  clear e0 e1 e2 e5 e6
  clear F
  rintro F ⟨e0, e1, e2, e5, e6⟩
  refine wp_regionF ?_
  refine lf_val (v := .int .i64 at') (wantAll rfl) (rv_move rfl (fr_eval rfl e1)) ?_
  refine lf_val (v := cutR 32 v l.length 40) (wantAll rfl) (rv_move rfl (fr_eval rfl e0)) ?_
  refine lf_call (wantAll rfl) (rv_call (args := [.int .i64 at', cutR 32 v l.length 40]) rfl (evc (fr_eval rfl rfl) (evc (fr_eval rfl rfl) evn)) Try.call18) (path_out at' (by omega) (List.take 40 l) ho _ _ (hf_t10.rd _ hH.chg)) ?_
  rintro _ w3 ⟨rfl, hx⟩
  refine ⟨_, rfl, ?_⟩
  replace hH := hH.ext hx
  clear hx
  refine lf_val (v := .tuple #[.slice none 0 0, .bool false]) (wantAll rfl) (rv_move rfl (fr_eval rfl rfl)) ?_
  refine lf_val (v := .slice none 0 0) (wantAll rfl) (rv_extract rfl (fr_eval rfl rfl) rfl) ?_
  refine lf_val (v := .bool false) (wantAll rfl) (rv_extract rfl (fr_eval rfl rfl) rfl) ?_
  refine lf_val (v := .slice none 0 0) (wantAll rfl) (rv_assign rfl (fr_eval rfl rfl)) ?_
  refine lf_val (v := .bool false) (wantAll rfl) (rv_assign rfl (fr_eval rfl rfl)) ?_
  refine lf_nil ?_
  refine then_n ?_
  refine wp_seq ?_
  refine wp_seq ?_
  refine wp_gen (fun F' => F' 0 = cutR 32 v l.length 40 ∧ F' 1 = .int .i64 at' ∧ F' 2 = .agg (cBs s.1).toArray ∧ F' 5 = .pointer (some ⟨g1, 0, none⟩) ∧ F' 6 = .bool false ∧ F' 7 = .slice none 0 0 ∧ F' 8 = .bool false) ⟨e0, e1, e2, e5, e6, rfl, rfl⟩ ?_
  clear e0 e1 e2 e5 e6
  clear F
  rintro F ⟨e0, e1, e2, e5, e6, e7, e8⟩
  refine wp_regionX (fun _ => False) 9 (by kernel_rfl) (by kernel_rfl) ?_
  refine xl_take (i := 0) (v := cutR 32 v l.length 40) rfl (by kernel_rfl) (by kernel_rfl) (by kernel_rfl) (by kernel_rfl) (yx_val (wantAll rfl) (fun w' hx' => rv_move rfl (fr_eval rfl e0))) ?_
  refine xl_take (i := 1) (v := .agg (cBs ((rootS (List.take 40 l)).1)).toArray) rfl (by kernel_rfl) (by kernel_rfl) (by kernel_rfl) (by kernel_rfl) (yx_call (wantAll rfl) (fun w' => rv_call (args := [cutR 32 v l.length 40]) rfl (evc (fr_eval rfl rfl) evn) Try.call19) (fun w' hx' => root_calls (List.take 40 l) (by omega) _ _ (hf_t10.rd _ (hH.chg.trans (Ext.any hx'))))) ?_
  refine xl_take (i := 2) (v := cutR 32 v l.length 40) rfl (by kernel_rfl) (by kernel_rfl) (by kernel_rfl) (by kernel_rfl) (yx_val (wantAll rfl) (fun w' hx' => rv_move rfl (fr_eval rfl e0))) ?_
  refine xl_take (i := 3) (v := .agg (cBs ((rootS (List.take 40 l)).1)).toArray) rfl (by kernel_rfl) (by kernel_rfl) (by kernel_rfl) (by kernel_rfl) (yx_call (wantAll rfl) (fun w' => rv_call (args := [cutR 32 v l.length 40]) rfl (evc (fr_eval rfl rfl) evn) Try.call20) (fun w' hx' => root03_calls (List.take 40 l) (by first | omega | (simp only [List.length_take, List.length_drop]; omega)) _ _ (hf_t10.rd _ (hH.chg.trans (Ext.any hx'))))) ?_
  refine xl_take (i := 4) (v := .bool false) rfl (by kernel_rfl) (by kernel_rfl) (by kernel_rfl) (by kernel_rfl) (yx_val (wantAll rfl) (fun w' hx' => neT rfl (fr_eval rfl rfl) (fr_eval rfl rfl) (rootS (List.take 40 l)).2 (rootS (List.take 40 l)).2 (b := true) (beq_self_eq_true _))) ?_
  refine xl_take (i := 5) (v := .bool false) rfl (by kernel_rfl) (by kernel_rfl) (by kernel_rfl) (by kernel_rfl) (yx_val (wantAll rfl) (fun w' hx' => rv_move rfl (fr_eval rfl rfl))) ?_
  refine xl_take (i := 6) (v := .agg (cBs s.1).toArray) rfl (by kernel_rfl) (by kernel_rfl) (by kernel_rfl) (by kernel_rfl) (yx_val (wantF (d := 22) rfl (by kernel_rfl) rfl rfl) (fun w' hx' => rv_loadW rfl ((hH.ext hx').blk (i := 0) rfl) (fr_eval rfl e5) Try.underlying23 rfl (sz_len Try.sz23 (cBs_len s.2)))) ?_
  refine xl_take (i := 7) (v := .agg (cBs ((leafS s).1)).toArray) rfl (by kernel_rfl) (by kernel_rfl) (by kernel_rfl) (by kernel_rfl) (yx_call (wantF (d := 22) rfl (by kernel_rfl) rfl rfl) (fun w' => rv_call (args := [.agg (cBs s.1).toArray]) rfl (evc (fr_eval rfl rfl) evn) Try.call21) (fun w' hx' => leaf_calls s _)) ?_
  refine xl_take (i := 8) (v := .agg (cBs s.1).toArray) rfl (by kernel_rfl) (by kernel_rfl) (by kernel_rfl) (by kernel_rfl) (yx_val (wantF (d := 22) rfl (by kernel_rfl) rfl rfl) (fun w' hx' => rv_loadW rfl ((hH.ext hx').blk (i := 0) rfl) (fr_eval rfl e5) Try.underlying23 rfl (sz_len Try.sz23 (cBs_len s.2)))) ?_
  refine xl_tail (s := 9) rfl ?_
  intro w4 hx
  replace hH := hH.ext hx
  clear hx
  refine lf_call (wantF (d := 22) rfl (by kernel_rfl) rfl rfl) (rv_call (args := [.agg (cBs s.1).toArray]) rfl (evc (fr_eval rfl rfl) evn) Try.call22) (leaf03_calls s _) ?_
  rintro _ w5 ⟨rfl, hx⟩
  refine ⟨_, rfl, ?_⟩
  replace hH := hH.ext hx
  clear hx
  refine lf_val (v := .bool false) (wantF (d := 22) rfl (by kernel_rfl) rfl rfl) (neT rfl (fr_eval rfl rfl) (fr_eval rfl rfl) (leafS s).2 (leafS s).2 (b := true) (beq_self_eq_true _)) ?_
  refine lf_val (v := .bool false) (wantAll rfl) (rv_pickF rfl (fr_eval rfl rfl) (fr_eval rfl rfl)) ?_
  refine lf_nil ?_
  refine then_n ?_
  refine wp_gen (fun F' => F' 0 = cutR 32 v l.length 40 ∧ F' 1 = .int .i64 at' ∧ F' 2 = .agg (cBs s.1).toArray ∧ F' 5 = .pointer (some ⟨g1, 0, none⟩) ∧ F' 6 = .bool false ∧ F' 7 = .slice none 0 0 ∧ F' 8 = .bool false ∧ F' 28 = .bool false) ⟨e0, e1, e2, e5, e6, e7, e8, rfl⟩ ?_
  clear e0 e1 e2 e5 e6 e7 e8
  clear F
  rintro F ⟨e0, e1, e2, e5, e6, e7, e8, e28⟩
  refine wp_cond_false (fr_eval rfl e28) ?_
  refine wp_skip ?_
  refine then_n ?_
  refine wp_seq ?_
  refine wp_seq ?_
  refine wp_regionF ?_
  refine lf_val (v := .int .i64 at') (wantAll rfl) (rv_move rfl (fr_eval rfl e1)) ?_
  by_cases hc1 : at' < 0
  · refine lf_val (v := .bool true) (wantAll rfl) (rv_lss rfl (fr_eval rfl rfl) rfl (decide_eq_true (by omega))) ?_
    refine lf_val (v := .bool true) (wantAll rfl) (rv_move rfl (fr_eval rfl rfl)) ?_
    refine lf_not (wantNot (d := 31) rfl (by kernel_rfl) rfl rfl) ?_
    refine lf_not (wantNot (d := 31) rfl (by kernel_rfl) rfl rfl) ?_
    refine lf_not (wantNot (d := 31) rfl (by kernel_rfl) rfl rfl) ?_
    refine lf_not (wantNot (d := 31) rfl (by kernel_rfl) rfl rfl) ?_
    refine lf_val (v := .bool true) (wantAll rfl) (rv_pickT rfl (fr_eval rfl rfl) rfl) ?_
    refine lf_nil ?_
    refine then_n ?_
    refine wp_gen (fun F' => F' 0 = cutR 32 v l.length 40 ∧ F' 1 = .int .i64 at' ∧ F' 2 = .agg (cBs s.1).toArray ∧ F' 5 = .pointer (some ⟨g1, 0, none⟩) ∧ F' 6 = .bool false ∧ F' 7 = .slice none 0 0 ∧ F' 8 = .bool false ∧ F' 28 = .bool false ∧ F' 36 = .bool true) ⟨e0, e1, e2, e5, e6, e7, e8, e28, rfl⟩ ?_
    clear e0 e1 e2 e5 e6 e7 e8 e28
    clear F
    rintro F ⟨e0, e1, e2, e5, e6, e7, e8, e28, e36⟩
    refine wp_cond_true (fr_eval rfl e36) ?_
    refine wp_seq ?_
    refine wp_regionF ?_
    refine lf_val (v := .slice none 0 0) (wantAll rfl) (rv_move rfl (fr_eval rfl e7)) ?_
    refine lf_val (v := .int .i64 0) (wantAll rfl) (rv_len rfl (fr_eval rfl rfl) (Rd.nil (size := 1)) Try.underlying24) ?_
    refine lf_val (v := .bool true) (wantAll rfl) (rv_eql rfl (fr_eval rfl rfl) rfl (by decide)) ?_
    refine lf_val (v := .bool true) (wantAll rfl) (rv_move rfl (fr_eval rfl rfl)) ?_
    refine lf_val (v := .bool false) (wantF (d := 40) rfl (by kernel_rfl) rfl rfl) (rv_move rfl (fr_eval rfl e8)) ?_
    refine lf_val (v := .bool true) (wantF (d := 40) rfl (by kernel_rfl) rfl rfl) (rv_not (b := false) rfl (fr_eval rfl rfl)) ?_
    refine lf_val (v := .bool true) (wantAll rfl) (rv_pickT rfl (fr_eval rfl rfl) (fr_eval rfl rfl)) ?_
    refine lf_val (v := .bool true) (wantAll rfl) (rv_move rfl (fr_eval rfl rfl)) ?_
    refine lf_call (wantF (d := 44) rfl (by kernel_rfl) rfl rfl) (rv_call (args := []) rfl evn Try.call16) (awake03_calls _) ?_
    rintro _ w6 ⟨rfl, hx⟩
    refine ⟨_, rfl, ?_⟩
    replace hH := hH.ext hx
    clear hx
    refine lf_val (v := .bool true) (wantAll rfl) (rv_pickT rfl (fr_eval rfl rfl) (fr_eval rfl rfl)) ?_
    refine lf_val (v := .bool true) (wantAll rfl) (rv_assign rfl (fr_eval rfl rfl)) ?_
    refine lf_nil ?_
    refine then_n ?_
    refine wp_gen (fun F' => F' 0 = cutR 32 v l.length 40 ∧ F' 1 = .int .i64 at' ∧ F' 2 = .agg (cBs s.1).toArray ∧ F' 5 = .pointer (some ⟨g1, 0, none⟩) ∧ F' 6 = .bool true ∧ F' 7 = .slice none 0 0 ∧ F' 8 = .bool false ∧ F' 28 = .bool false ∧ F' 36 = .bool true) ⟨e0, e1, e2, e5, rfl, e7, e8, e28, e36⟩ ?_
    clear e0 e1 e2 e5 e6 e7 e8 e28 e36
    clear F
    rintro F ⟨e0, e1, e2, e5, e6, e7, e8, e28, e36⟩
    refine wp_ret ?_
    refine then_ret ?_
    exact bodyPost_ret (v := (.bool true)) (res1 rfl (ro_tmp rfl e6)) rfl (⟨rfl, hH.done⟩)
  · refine lf_val (v := .bool false) (wantAll rfl) (rv_lss rfl (fr_eval rfl rfl) rfl (decide_eq_false (by omega))) ?_
    refine lf_val (v := .bool false) (wantAll rfl) (rv_move rfl (fr_eval rfl rfl)) ?_
    refine lf_val (v := .int .i64 at') (wantF (d := 31) rfl (by kernel_rfl) rfl rfl) (rv_move rfl (fr_eval rfl e1)) ?_
    refine lf_val (v := cutR 32 v l.length 40) (wantF (d := 31) rfl (by kernel_rfl) rfl rfl) (rv_move rfl (fr_eval rfl e0)) ?_
    refine lf_val (v := .int .i64 (((List.take 40 l).length : Nat) : Int)) (wantF (d := 31) rfl (by kernel_rfl) rfl rfl) (rv_len rfl (fr_eval rfl rfl) (hf_t10.rd _ hH.chg) Try.underlying24) ?_
    refine lf_val (v := .bool true) (wantF (d := 31) rfl (by kernel_rfl) rfl rfl) (rv_geq rfl (fr_eval rfl rfl) (fr_eval rfl rfl) (decide_eq_true (by omega))) ?_
    refine lf_val (v := .bool true) (wantAll rfl) (rv_pickF rfl (fr_eval rfl rfl) (fr_eval rfl rfl)) ?_
    refine lf_nil ?_
    refine then_n ?_
    refine wp_gen (fun F' => F' 0 = cutR 32 v l.length 40 ∧ F' 1 = .int .i64 at' ∧ F' 2 = .agg (cBs s.1).toArray ∧ F' 5 = .pointer (some ⟨g1, 0, none⟩) ∧ F' 6 = .bool false ∧ F' 7 = .slice none 0 0 ∧ F' 8 = .bool false ∧ F' 28 = .bool false ∧ F' 36 = .bool true) ⟨e0, e1, e2, e5, e6, e7, e8, e28, rfl⟩ ?_
    clear e0 e1 e2 e5 e6 e7 e8 e28
    clear F
    rintro F ⟨e0, e1, e2, e5, e6, e7, e8, e28, e36⟩
    refine wp_cond_true (fr_eval rfl e36) ?_
    refine wp_seq ?_
    refine wp_regionF ?_
    refine lf_val (v := .slice none 0 0) (wantAll rfl) (rv_move rfl (fr_eval rfl e7)) ?_
    refine lf_val (v := .int .i64 0) (wantAll rfl) (rv_len rfl (fr_eval rfl rfl) (Rd.nil (size := 1)) Try.underlying24) ?_
    refine lf_val (v := .bool true) (wantAll rfl) (rv_eql rfl (fr_eval rfl rfl) rfl (by decide)) ?_
    refine lf_val (v := .bool true) (wantAll rfl) (rv_move rfl (fr_eval rfl rfl)) ?_
    refine lf_val (v := .bool false) (wantF (d := 40) rfl (by kernel_rfl) rfl rfl) (rv_move rfl (fr_eval rfl e8)) ?_
    refine lf_val (v := .bool true) (wantF (d := 40) rfl (by kernel_rfl) rfl rfl) (rv_not (b := false) rfl (fr_eval rfl rfl)) ?_
    refine lf_val (v := .bool true) (wantAll rfl) (rv_pickT rfl (fr_eval rfl rfl) (fr_eval rfl rfl)) ?_
    refine lf_val (v := .bool true) (wantAll rfl) (rv_move rfl (fr_eval rfl rfl)) ?_
    refine lf_call (wantF (d := 44) rfl (by kernel_rfl) rfl rfl) (rv_call (args := []) rfl evn Try.call16) (awake03_calls _) ?_
    rintro _ w7 ⟨rfl, hx⟩
    refine ⟨_, rfl, ?_⟩
    replace hH := hH.ext hx
    clear hx
    refine lf_val (v := .bool true) (wantAll rfl) (rv_pickT rfl (fr_eval rfl rfl) (fr_eval rfl rfl)) ?_
    refine lf_val (v := .bool true) (wantAll rfl) (rv_assign rfl (fr_eval rfl rfl)) ?_
    refine lf_nil ?_
    refine then_n ?_
    refine wp_gen (fun F' => F' 0 = cutR 32 v l.length 40 ∧ F' 1 = .int .i64 at' ∧ F' 2 = .agg (cBs s.1).toArray ∧ F' 5 = .pointer (some ⟨g1, 0, none⟩) ∧ F' 6 = .bool true ∧ F' 7 = .slice none 0 0 ∧ F' 8 = .bool false ∧ F' 28 = .bool false ∧ F' 36 = .bool true) ⟨e0, e1, e2, e5, rfl, e7, e8, e28, e36⟩ ?_
    clear e0 e1 e2 e5 e6 e7 e8 e28 e36
    clear F
    rintro F ⟨e0, e1, e2, e5, e6, e7, e8, e28, e36⟩
    refine wp_ret ?_
    refine then_ret ?_
    exact bodyPost_ret (v := (.bool true)) (res1 rfl (ro_tmp rfl e6)) rfl (⟨rfl, hH.done⟩)

theorem merkleRoots_walk (l : List S32) (v : Value) (at' : Int) (hn : -9223372036854775808 ≤ at' ∧ at' ≤ 9223372036854775807) (s : S32) (w : World) (hr0 : Rd w 32 v l.length (l.flatMap cS)) : Calls Try.prog 4 #[v, .int .i64 at', .agg (cBs s.1).toArray] w fun e'' w' => e'' = .returned (.bool true) ∧ Ext w w' := by
  by_cases h : 0 ≤ at' ∧ at' < ((l.take 40).length : Int)
  · obtain ⟨a0, rfl⟩ := Int.eq_ofNat_of_zero_le h.1
    exact merkleRoots_in l v a0 (by omega) s w hr0
  · exact merkleRoots_out l v at' hn h s w hr0

set_option maxRecDepth 100000 in
set_option maxHeartbeats 4000000 in
theorem merkleChecks_walk (l : List S32) (v : Value) (w : World) (hr0 : Rd w 32 v l.length (l.flatMap cS)) :
    Calls Try.prog 5 #[v] w fun e'' w' => e'' = .returned (.bool true) ∧ Ext w w' := by
  refine calls_fr (args := [v]) (n := 75) Try.func5 rfl rfl (show 1 ≤ 75 by decide) ?_
  have hL : (List.take 40 l).length ≤ 40 := by rw [List.length_take]; omega
  have hr := Rd.stab hr0
  have hH : Heap (newN w) w w [] := Heap.fresh
  refine wp_seq ?_
  refine wp_gen (fun F' => F' 0 = v) rfl ?_
  rintro F e0
  refine wp_regionF ?_
  refine lf_val (v := .bool false) (wantAll rfl) (rv_assign rfl rfl) ?_
  refine lf_nil ?_
  refine then_n ?_
  refine wp_seq ?_
  refine wp_gen (fun F' => F' 0 = v ∧ F' 2 = .bool false) ⟨e0, rfl⟩ ?_
  clear e0
  clear F
  rintro F ⟨e0, e2⟩
  refine wp_regionF ?_
  refine lf_val (v := v) (wantAll rfl) (rv_move rfl (fr_eval rfl e0)) ?_
  have hf_t9 := Stab.cut (n := 40) cS_len hr
  refine lf_call (wantAll rfl) (rv_call (args := [v]) rfl (evc (fr_eval rfl rfl) evn) Try.call14) (few03_calls l _ _ (hr.rd _ hH.chg)) ?_
  rintro _ w1 ⟨rfl, hx⟩
  refine ⟨_, rfl, ?_⟩
  replace hH := hH.ext hx
  clear hx
  refine lf_val (v := cutR 32 v l.length 40) (wantAll rfl) (rv_assign rfl (fr_eval rfl rfl)) ?_
  refine lf_nil ?_
  refine then_n ?_
  refine wp_seq ?_
  refine wp_gen (fun F' => F' 0 = cutR 32 v l.length 40 ∧ F' 2 = .bool false) ⟨rfl, e2⟩ ?_
  clear e0 e2
  clear F
  rintro F ⟨e0, e2⟩
  refine wp_regionF ?_
  refine lf_val (v := cutR 32 v l.length 40) (wantAll rfl) (rv_move rfl (fr_eval rfl e0)) ?_
  refine lf_call (wantAll rfl) (rv_call (args := [cutR 32 v l.length 40]) rfl (evc (fr_eval rfl rfl) evn) Try.call19) (root_calls (List.take 40 l) (by omega) _ _ (hf_t9.rd _ hH.chg)) ?_
  rintro _ w2 ⟨rfl, hx⟩
  refine ⟨_, rfl, ?_⟩
  replace hH := hH.ext hx
  clear hx
  refine lf_ex (wantAll rfl) (hx_alloc hH 23 (z := .agg (cBs (List.replicate 32 0)).toArray) (n := 32) (cs := cBs (List.replicate 32 0)) rfl (by kernel_rfl) (by rfl)) ?_
  clear hH
  rintro _ w3 ⟨g1, rfl, hH, hx⟩
  replace hH : Heap (newN w) w w3 [oBlk g1 (cBs (List.replicate 32 0)) 23] := hH
  clear hx
  refine lf_sk (wantAll rfl) (hx_storeW hH (i := 0) (cs := cBs ((rootS (List.take 40 l)).1)) rfl rfl rfl (fr_eval rfl rfl) (fr_eval rfl rfl) (sz_len Try.sz23 (cBs_len (rootS (List.take 40 l)).2)) (((cBs_len (List.length_replicate ..))).trans ((cBs_len (rootS (List.take 40 l)).2)).symm) ((cBs_one _))) ?_
  clear hH
  rintro w4 ⟨hH, hx⟩
  replace hH : Heap (newN w) w w4 [oBlk g1 (cBs ((rootS (List.take 40 l)).1)) 23] := hH
  clear hx
  refine lf_nil ?_
  refine then_n ?_
  refine wp_seq ?_
  refine wp_seq ?_
  refine wp_gen (fun F' => F' 0 = cutR 32 v l.length 40 ∧ F' 2 = .bool false ∧ F' 3 = .pointer (some ⟨g1, 0, none⟩)) ⟨e0, e2, rfl⟩ ?_
  clear e0 e2
  clear F
  rintro F ⟨e0, e2, e3⟩
  refine wp_regionF ?_
  refine lf_val (v := .int .i64 0) (wantAll rfl) (rv_assign rfl rfl) ?_
  refine lf_nil ?_
  refine then_n ?_
  refine wp_block ?_
  refine wp_gen (fun F' => F' 0 = cutR 32 v l.length 40 ∧ F' 2 = .bool false ∧ F' 3 = .pointer (some ⟨g1, 0, none⟩) ∧ F' 4 = .int .i64 0) ⟨e0, e2, e3, rfl⟩ ?_
  clear e0 e2 e3
  clear F
  rintro F ⟨e0, e2, e3, e4⟩
  refine wp_loopF (fun m F wr => ∃ i : Nat, m = (List.take 40 l).length - i ∧ i ≤ (List.take 40 l).length ∧ F 0 = cutR 32 v l.length 40 ∧ F 3 = .pointer (some ⟨g1, 0, none⟩) ∧ F 4 = .int .i64 ((i : Nat) : Int) ∧ Heap (newN w) w wr [oBlk g1 (cBs ((rootS (List.take 40 l)).1)) 23]) ⟨0, rfl, Nat.zero_le _, e0, e3, e4, hH⟩ ?_
  clear e0 e2 e3 e4 hH
  clear F
  rintro m F w5 ⟨i, rfl, pi0, e0, e3, e4, hH⟩
  refine wp_seq ?_
  refine wp_seq ?_
  refine wp_regionF ?_
  refine lf_val (v := .int .i64 ((i : Nat) : Int)) (wantAll rfl) (rv_move rfl (fr_eval rfl e4)) ?_
  refine lf_val (v := cutR 32 v l.length 40) (wantAll rfl) (rv_move rfl (fr_eval rfl e0)) ?_
  refine lf_val (v := .int .i64 (((List.take 40 l).length : Nat) : Int)) (wantAll rfl) (rv_len rfl (fr_eval rfl rfl) (hf_t9.rd _ hH.chg) Try.underlying24) ?_
  by_cases hc1 : i < (List.take 40 l).length
  · refine lf_val (v := .bool true) (wantAll rfl) (rv_lss rfl (fr_eval rfl rfl) (fr_eval rfl rfl) (decide_eq_true (by omega))) ?_
    refine lf_nil ?_
    refine then_n ?_
    refine wp_gen (fun F' => F' 0 = cutR 32 v l.length 40 ∧ F' 3 = .pointer (some ⟨g1, 0, none⟩) ∧ F' 4 = .int .i64 ((i : Nat) : Int) ∧ F' 15 = .bool true) ⟨e0, e3, e4, rfl⟩ ?_
    clear e0 e3 e4
    clear F
    rintro F ⟨e0, e3, e4, e15⟩
    refine wp_cond_true (fr_eval rfl e15) ?_
    refine wp_skip ?_
    refine then_n ?_
    refine wp_seq ?_
    refine wp_block ?_
    refine wp_seq ?_
    refine wp_regionF ?_
    refine lf_val (v := .int .i64 ((i : Nat) : Int)) (wantAll rfl) (rv_move rfl (fr_eval rfl e4)) ?_
    refine lf_val (v := cutR 32 v l.length 40) (wantAll rfl) (rv_move rfl (fr_eval rfl e0)) ?_
    refine lf_call (wantAll rfl) (rv_call (args := [.int .i64 ((i : Nat) : Int), cutR 32 v l.length 40]) rfl (evc (fr_eval rfl rfl) (evc (fr_eval rfl rfl) evn)) Try.call18) (path_in i (List.take 40 l) (by omega) (by omega) _ _ (hf_t9.rd _ hH.chg)) ?_
    rintro _ w6 ⟨⟨y1, rfl, ho, hg⟩, hx⟩
    refine ⟨_, rfl, ?_⟩
    replace hH : Heap (newN w) w w6 [oBlk g1 (cBs ((rootS (List.take 40 l)).1)) 23, oRow cS 23 32 y1 (pathT (List.map leafS (List.take 40 l)) i)] := hH.addOwn hx hg ho
    clear ho hg
    clear hx
    refine lf_val (v := .tuple #[y1, .bool true]) (wantAll rfl) (rv_move rfl (fr_eval rfl rfl)) ?_
    refine lf_val (v := y1) (wantAll rfl) (rv_extract rfl (fr_eval rfl rfl) rfl) ?_
    refine lf_val (v := .bool true) (wantAll rfl) (rv_extract rfl (fr_eval rfl rfl) rfl) ?_
    refine lf_val (v := y1) (wantAll rfl) (rv_assign rfl (fr_eval rfl rfl)) ?_
    refine lf_val (v := .bool true) (wantAll rfl) (rv_assign rfl (fr_eval rfl rfl)) ?_
    refine lf_nil ?_
    refine then_n ?_
    refine wp_seq ?_
    refine wp_seq ?_
    refine wp_gen (fun F' => F' 0 = cutR 32 v l.length 40 ∧ F' 3 = .pointer (some ⟨g1, 0, none⟩) ∧ F' 4 = .int .i64 ((i : Nat) : Int) ∧ F' 5 = y1 ∧ F' 6 = .bool true ∧ F' 15 = .bool true) ⟨e0, e3, e4, rfl, rfl, e15⟩ ?_
    clear e0 e3 e4 e15
    clear F
    rintro F ⟨e0, e3, e4, e5, e6, e15⟩
    refine wp_regionX (fun _ => False) 12 (by kernel_rfl) (by kernel_rfl) ?_
    refine xl_take (i := 0) (v := .bool true) rfl (by kernel_rfl) (by kernel_rfl) (by kernel_rfl) (by kernel_rfl) (yx_val (wantAll rfl) (fun w' hx' => rv_move rfl (fr_eval rfl e6))) ?_
    refine xl_take (i := 1) (v := .bool false) rfl (by kernel_rfl) (by kernel_rfl) (by kernel_rfl) (by kernel_rfl) (yx_val (wantAll rfl) (fun w' hx' => rv_not (b := true) rfl (fr_eval rfl rfl))) ?_
    refine xl_take (i := 2) (v := .bool false) rfl (by kernel_rfl) (by kernel_rfl) (by kernel_rfl) (by kernel_rfl) (yx_val (wantAll rfl) (fun w' hx' => rv_move rfl (fr_eval rfl rfl))) ?_
    refine xl_take (i := 3) (v := .agg (cBs ((rootS (List.take 40 l)).1)).toArray) rfl (by kernel_rfl) (by kernel_rfl) (by kernel_rfl) (by kernel_rfl) (yx_val (wantF (d := 26) rfl (by kernel_rfl) rfl rfl) (fun w' hx' => rv_loadW rfl ((hH.ext hx').blk (i := 0) rfl) (fr_eval rfl e3) Try.underlying23 rfl (sz_len Try.sz23 (cBs_len (rootS (List.take 40 l)).2)))) ?_
    refine xl_take (i := 4) (v := cutR 32 v l.length 40) rfl (by kernel_rfl) (by kernel_rfl) (by kernel_rfl) (by kernel_rfl) (yx_val (wantF (d := 26) rfl (by kernel_rfl) rfl rfl) (fun w' hx' => rv_move rfl (fr_eval rfl e0))) ?_
    refine xl_take (i := 5) (v := .int .i64 ((i : Nat) : Int)) rfl (by kernel_rfl) (by kernel_rfl) (by kernel_rfl) (by kernel_rfl) (yx_val (wantF (d := 26) rfl (by kernel_rfl) rfl rfl) (fun w' hx' => rv_move rfl (fr_eval rfl e4))) ?_
    refine xl_take (i := 6) (v := .pointer (some (elemA (cutR 32 v l.length 40) (i * 32)))) rfl (by kernel_rfl) (by kernel_rfl) (by kernel_rfl) (by kernel_rfl) (yx_val (wantF (d := 26) rfl (by kernel_rfl) rfl rfl) (fun w' hx' => rv_index rfl (fr_eval rfl rfl) (fr_eval rfl rfl) (rdN (hf_t9.rd _ (hH.chg.trans (Ext.any hx'))) rfl) (show i < (List.take 40 l).length from (by omega)) Try.underlying24 Try.sz23 (by decide))) ?_
    refine xl_take (i := 7) (v := .agg (cBs (((List.getD (List.take 40 l) i zS)).1)).toArray) rfl (by kernel_rfl) (by kernel_rfl) (by kernel_rfl) (by kernel_rfl) (yx_val (wantF (d := 26) rfl (by kernel_rfl) rfl rfl) (fun w' hx' => rv_loadElem rfl (fr_eval rfl rfl) (rdN (hf_t9.rd _ (hH.chg.trans (Ext.any hx'))) rfl) (show i < (List.take 40 l).length from (by omega)) (by decide) (flat_part zS cS_len (show i < (List.take 40 l).length from (by omega))) Try.underlying23 rfl Try.sz23)) ?_
    refine xl_take (i := 8) (v := .int .i64 ((i : Nat) : Int)) rfl (by kernel_rfl) (by kernel_rfl) (by kernel_rfl) (by kernel_rfl) (yx_val (wantF (d := 26) rfl (by kernel_rfl) rfl rfl) (fun w' hx' => rv_move rfl (fr_eval rfl e4))) ?_
    refine xl_take (i := 9) (v := cutR 32 v l.length 40) rfl (by kernel_rfl) (by kernel_rfl) (by kernel_rfl) (by kernel_rfl) (yx_val (wantF (d := 26) rfl (by kernel_rfl) rfl rfl) (fun w' hx' => rv_move rfl (fr_eval rfl e0))) ?_
    refine xl_take (i := 10) (v := .int .i64 (((List.take 40 l).length : Nat) : Int)) rfl (by kernel_rfl) (by kernel_rfl) (by kernel_rfl) (by kernel_rfl) (yx_val (wantF (d := 26) rfl (by kernel_rfl) rfl rfl) (fun w' hx' => rv_len rfl (fr_eval rfl rfl) (hf_t9.rd _ (hH.chg.trans (Ext.any hx'))) Try.underlying24)) ?_
    refine xl_take (i := 11) (v := y1) rfl (by kernel_rfl) (by kernel_rfl) (by kernel_rfl) (by kernel_rfl) (yx_val (wantF (d := 26) rfl (by kernel_rfl) rfl rfl) (fun w' hx' => rv_move rfl (fr_eval rfl e5))) ?_
    refine xl_tail (s := 12) rfl ?_
    intro w7 hx
    replace hH := hH.ext hx
    clear hx
    refine lf_call (wantF (d := 26) rfl (by kernel_rfl) rfl rfl) (rv_call (args := [.agg (cBs ((rootS (List.take 40 l)).1)).toArray, .agg (cBs (((List.getD (List.take 40 l) i zS)).1)).toArray, .int .i64 ((i : Nat) : Int), .int .i64 (((List.take 40 l).length : Nat) : Int), y1]) rfl (evc (fr_eval rfl rfl) (evc (fr_eval rfl rfl) (evc (fr_eval rfl rfl) (evc (fr_eval rfl rfl) (evc (fr_eval rfl rfl) evn))))) Try.call15) (calls_known (b' := true) (check_calls (rootS (List.take 40 l)) ((List.getD (List.take 40 l) i zS)) ((i : Nat) : Int) (((List.take 40 l).length : Nat) : Int) (by omega) (by omega) (pathT (List.map leafS (List.take 40 l)) i) _ _ (Own.rd (hH.own (i := 1) rfl) (row_one cS_one))) (by rw [check_yes (now := rootS (List.take 40 l)) ⟨by omega, by omega⟩ ((congrArg (chk _ _ _) (List.append_nil _).symm).trans (path_ok (l := (List.take 40 l)) (i := i) (by omega) []))]; exact beq_self_eq_true _)) ?_
    rintro _ w8 ⟨rfl, hx⟩
    refine ⟨_, rfl, ?_⟩
    replace hH := hH.ext hx
    clear hx
    refine lf_val (v := .bool false) (wantF (d := 26) rfl (by kernel_rfl) rfl rfl) (rv_not (b := true) rfl (fr_eval rfl rfl)) ?_
    refine lf_val (v := .bool false) (wantAll rfl) (rv_pickF rfl (fr_eval rfl rfl) (fr_eval rfl rfl)) ?_
    refine lf_nil ?_
    refine then_n ?_
    refine wp_gen (fun F' => F' 0 = cutR 32 v l.length 40 ∧ F' 3 = .pointer (some ⟨g1, 0, none⟩) ∧ F' 4 = .int .i64 ((i : Nat) : Int) ∧ F' 5 = y1 ∧ F' 6 = .bool true ∧ F' 15 = .bool true ∧ F' 38 = .bool false) ⟨e0, e3, e4, e5, e6, e15, rfl⟩ ?_
    clear e0 e3 e4 e5 e6 e15
    clear F
    rintro F ⟨e0, e3, e4, e5, e6, e15, e38⟩
    refine wp_cond_false (fr_eval rfl e38) ?_
    refine wp_skip ?_
    refine then_n ?_
    refine wp_seq ?_
    refine wp_regionF ?_
    refine lf_ex (wantAll rfl) (hx_litM hH Try.stSum (n := 0) (nm := List.length ([] : List S32)) [] (vs := []) (css := []) (cs := List.flatMap cS ([] : List S32)) rfl evn .nil rfl (by decide) rfl rfl) ?_
    clear hH
    rintro y2 w9 ⟨hH, hx⟩
    replace hH : Heap (newN w) w w9 [oBlk g1 (cBs ((rootS (List.take 40 l)).1)) 23, oRow cS 23 32 y1 (pathT (List.map leafS (List.take 40 l)) i), oRow cS 23 32 y2 []] := hH
    clear hx
    refine lf_val (v := y1) (wantAll rfl) (rv_move rfl (fr_eval rfl e5)) ?_
    refine lf_ex (wantAll rfl) (hx_append hH Try.stSum (i := 2) (xs' := (pathT (List.map leafS (List.take 40 l)) i).flatMap cS) (nm := (pathT (List.map leafS (List.take 40 l)) i).length) rfl rfl (fun _ => rfl) (Nat.zero_add _) (List.nil_append _) (Own.rd (hH.own (i := 1) rfl) (row_one cS_one)) (fr_eval rfl rfl) (fr_eval rfl rfl) (by (try simp only [List.length_append, List.length_cons, List.length_nil]); have := path_len (List.map leafS (List.take 40 l)) i; simp only [List.length_map] at this; omega)) ?_
    clear hH
    rintro y3 w10 ⟨hH, hx⟩
    replace hH : Heap (newN w) w w10 [oBlk g1 (cBs ((rootS (List.take 40 l)).1)) 23, oRow cS 23 32 y1 (pathT (List.map leafS (List.take 40 l)) i), oRow cS 23 32 y3 (pathT (List.map leafS (List.take 40 l)) i)] := hH
    clear hx
    refine lf_val (v := y3) (wantAll rfl) (rv_assign rfl (fr_eval rfl rfl)) ?_
    refine lf_nil ?_
    refine then_n ?_
    refine wp_seq ?_
    refine wp_gen (fun F' => F' 0 = cutR 32 v l.length 40 ∧ F' 3 = .pointer (some ⟨g1, 0, none⟩) ∧ F' 4 = .int .i64 ((i : Nat) : Int) ∧ F' 5 = y1 ∧ F' 6 = .bool true ∧ F' 7 = y3 ∧ F' 15 = .bool true ∧ F' 38 = .bool false) ⟨e0, e3, e4, e5, e6, rfl, e15, e38⟩ ?_
    clear e0 e3 e4 e5 e6 e15 e38
    clear F
    rintro F ⟨e0, e3, e4, e5, e6, e7, e15, e38⟩
    refine wp_regionF ?_
    refine lf_val (v := y3) (wantAll rfl) (rv_move rfl (fr_eval rfl e7)) ?_
    refine lf_val (v := .agg (cBs ((rootS (List.take 40 l)).1)).toArray) (wantAll rfl) (rv_loadW rfl (hH.blk (i := 0) rfl) (fr_eval rfl e3) Try.underlying23 rfl (sz_len Try.sz23 (cBs_len (rootS (List.take 40 l)).2))) ?_
    refine lf_ex (wantAll rfl) (hx_lit1 hH Try.stSum (cs := cS (⟨(rootS (List.take 40 l)).1, (rootS (List.take 40 l)).2⟩ : S32)) (xs := List.flatMap cS [(⟨(rootS (List.take 40 l)).1, (rootS (List.take 40 l)).2⟩ : S32)]) rfl (fr_eval rfl rfl) (cS_ln (⟨(rootS (List.take 40 l)).1, (rootS (List.take 40 l)).2⟩ : S32)) (by decide) (List.flatMap_singleton ..).symm) ?_
    clear hH
    rintro y4 w11 ⟨hH, hx⟩
    replace hH : Heap (newN w) w w11 [oBlk g1 (cBs ((rootS (List.take 40 l)).1)) 23, oRow cS 23 32 y1 (pathT (List.map leafS (List.take 40 l)) i), oRow cS 23 32 y3 (pathT (List.map leafS (List.take 40 l)) i), oRow cS 23 32 y4 [(⟨(rootS (List.take 40 l)).1, (rootS (List.take 40 l)).2⟩ : S32)]] := hH
    clear hx
    refine lf_ex (wantAll rfl) (hx_append hH Try.stSum (i := 2) (xs' := ((pathT (List.map leafS (List.take 40 l)) i) ++ [(⟨(rootS (List.take 40 l)).1, (rootS (List.take 40 l)).2⟩ : S32)]).flatMap cS) (nm := ((pathT (List.map leafS (List.take 40 l)) i) ++ [(⟨(rootS (List.take 40 l)).1, (rootS (List.take 40 l)).2⟩ : S32)]).length) rfl rfl (fun _ => rfl) List.length_append.symm List.flatMap_append.symm (Own.rd (hH.own (i := 3) rfl) (row_one cS_one)) (fr_eval rfl rfl) (fr_eval rfl rfl) (by (try simp only [List.length_append, List.length_cons, List.length_nil]); have := path_len (List.map leafS (List.take 40 l)) i; simp only [List.length_map] at this; omega)) ?_
    clear hH
    rintro y5 w12 ⟨hH, hx⟩
    replace hH : Heap (newN w) w w12 [oBlk g1 (cBs ((rootS (List.take 40 l)).1)) 23, oRow cS 23 32 y1 (pathT (List.map leafS (List.take 40 l)) i), oRow cS 23 32 y5 ((pathT (List.map leafS (List.take 40 l)) i) ++ [(⟨(rootS (List.take 40 l)).1, (rootS (List.take 40 l)).2⟩ : S32)]), oRow cS 23 32 y4 [(⟨(rootS (List.take 40 l)).1, (rootS (List.take 40 l)).2⟩ : S32)]] := hH
    clear hx
    refine lf_val (v := y5) (wantAll rfl) (rv_assign rfl (fr_eval rfl rfl)) ?_
    refine lf_nil ?_
    refine then_n ?_
    refine wp_seq ?_
    replace hH : Heap (newN w) w w12 [oBlk g1 (cBs ((rootS (List.take 40 l)).1)) 23, oRow cS 23 32 y1 (pathT (List.map leafS (List.take 40 l)) i), oRow cS 23 32 y5 ((pathT (List.map leafS (List.take 40 l)) i) ++ [(⟨(rootS (List.take 40 l)).1, (rootS (List.take 40 l)).2⟩ : S32)])] := hH.drop (.cons_cons _ (.cons_cons _ (.cons_cons _ (.cons _ .slnil))))
    refine wp_gen (fun F' => F' 0 = cutR 32 v l.length 40 ∧ F' 3 = .pointer (some ⟨g1, 0, none⟩) ∧ F' 4 = .int .i64 ((i : Nat) : Int) ∧ F' 5 = y1 ∧ F' 6 = .bool true ∧ F' 7 = y5 ∧ F' 15 = .bool true ∧ F' 38 = .bool false) ⟨e0, e3, e4, e5, e6, rfl, e15, e38⟩ ?_
    clear e0 e3 e4 e5 e6 e7 e15 e38
    clear F
    rintro F ⟨e0, e3, e4, e5, e6, e7, e15, e38⟩
    refine wp_regionX (fun _ => False) 25 (by kernel_rfl) (by kernel_rfl) ?_
    refine xl_take (i := 0) (v := .agg (cBs ((rootS (List.take 40 l)).1)).toArray) rfl (by kernel_rfl) (by kernel_rfl) (by kernel_rfl) (by kernel_rfl) (yx_val (wantAll rfl) (fun w' hx' => rv_loadW rfl ((hH.ext hx').blk (i := 0) rfl) (fr_eval rfl e3) Try.underlying23 rfl (sz_len Try.sz23 (cBs_len (rootS (List.take 40 l)).2)))) ?_
    refine xl_take (i := 1) (v := cutR 32 v l.length 40) rfl (by kernel_rfl) (by kernel_rfl) (by kernel_rfl) (by kernel_rfl) (yx_val (wantAll rfl) (fun w' hx' => rv_move rfl (fr_eval rfl e0))) ?_
    refine xl_take (i := 2) (v := .int .i64 ((i : Nat) : Int)) rfl (by kernel_rfl) (by kernel_rfl) (by kernel_rfl) (by kernel_rfl) (yx_val (wantAll rfl) (fun w' hx' => rv_move rfl (fr_eval rfl e4))) ?_
    refine xl_take (i := 3) (v := .pointer (some (elemA (cutR 32 v l.length 40) (i * 32)))) rfl (by kernel_rfl) (by kernel_rfl) (by kernel_rfl) (by kernel_rfl) (yx_val (wantAll rfl) (fun w' hx' => rv_index rfl (fr_eval rfl rfl) (fr_eval rfl rfl) (rdN (hf_t9.rd _ (hH.chg.trans (Ext.any hx'))) rfl) (show i < (List.take 40 l).length from (by omega)) Try.underlying24 Try.sz23 (by decide))) ?_
    refine xl_take (i := 4) (v := .agg (cBs (((List.getD (List.take 40 l) i zS)).1)).toArray) rfl (by kernel_rfl) (by kernel_rfl) (by kernel_rfl) (by kernel_rfl) (yx_val (wantAll rfl) (fun w' hx' => rv_loadElem rfl (fr_eval rfl rfl) (rdN (hf_t9.rd _ (hH.chg.trans (Ext.any hx'))) rfl) (show i < (List.take 40 l).length from (by omega)) (by decide) (flat_part zS cS_len (show i < (List.take 40 l).length from (by omega))) Try.underlying23 rfl Try.sz23)) ?_
    refine xl_take (i := 5) (v := .int .i64 ((i : Nat) : Int)) rfl (by kernel_rfl) (by kernel_rfl) (by kernel_rfl) (by kernel_rfl) (yx_val (wantAll rfl) (fun w' hx' => rv_move rfl (fr_eval rfl e4))) ?_
    refine xl_take (i := 6) (v := cutR 32 v l.length 40) rfl (by kernel_rfl) (by kernel_rfl) (by kernel_rfl) (by kernel_rfl) (yx_val (wantAll rfl) (fun w' hx' => rv_move rfl (fr_eval rfl e0))) ?_
    refine xl_take (i := 7) (v := .int .i64 (((List.take 40 l).length : Nat) : Int)) rfl (by kernel_rfl) (by kernel_rfl) (by kernel_rfl) (by kernel_rfl) (yx_val (wantAll rfl) (fun w' hx' => rv_len rfl (fr_eval rfl rfl) (hf_t9.rd _ (hH.chg.trans (Ext.any hx'))) Try.underlying24)) ?_
    refine xl_take (i := 8) (v := y5) rfl (by kernel_rfl) (by kernel_rfl) (by kernel_rfl) (by kernel_rfl) (yx_val (wantAll rfl) (fun w' hx' => rv_move rfl (fr_eval rfl e7))) ?_
    refine xl_take (i := 9) (v := .bool false) rfl (by kernel_rfl) (by kernel_rfl) (by kernel_rfl) (by kernel_rfl) (yx_call (wantAll rfl) (fun w' => rv_call (args := [.agg (cBs ((rootS (List.take 40 l)).1)).toArray, .agg (cBs (((List.getD (List.take 40 l) i zS)).1)).toArray, .int .i64 ((i : Nat) : Int), .int .i64 (((List.take 40 l).length : Nat) : Int), y5]) rfl (evc (fr_eval rfl rfl) (evc (fr_eval rfl rfl) (evc (fr_eval rfl rfl) (evc (fr_eval rfl rfl) (evc (fr_eval rfl rfl) evn))))) Try.call15) (fun w' hx' => calls_known (b' := false) (check_calls (rootS (List.take 40 l)) ((List.getD (List.take 40 l) i zS)) ((i : Nat) : Int) (((List.take 40 l).length : Nat) : Int) (by omega) (by omega) ((pathT (List.map leafS (List.take 40 l)) i) ++ [(⟨(rootS (List.take 40 l)).1, (rootS (List.take 40 l)).2⟩ : S32)]) _ _ (Own.rd ((hH.ext hx').own (i := 2) rfl) (row_one cS_one))) (by rw [checkB_some ⟨by omega, by omega⟩ (path_ok (l := (List.take 40 l)) (i := i) (by omega) [rootS (List.take 40 l)])]; rfl))) ?_
    refine xl_take (i := 10) (v := .bool false) rfl (by kernel_rfl) (by kernel_rfl) (by kernel_rfl) (by kernel_rfl) (yx_val (wantAll rfl) (fun w' hx' => rv_move rfl (fr_eval rfl rfl))) ?_
    refine xl_take (i := 11) (v := y1) rfl (by kernel_rfl) (by kernel_rfl) (by kernel_rfl) (by kernel_rfl) (yx_val (wantF (d := 56) rfl (by kernel_rfl) rfl rfl) (fun w' hx' => rv_move rfl (fr_eval rfl e5))) ?_
    refine xl_take (i := 12) (v := .int .i64 (((pathT (List.map leafS (List.take 40 l)) i).length : Nat) : Int)) rfl (by kernel_rfl) (by kernel_rfl) (by kernel_rfl) (by kernel_rfl) (yx_val (wantF (d := 56) rfl (by kernel_rfl) rfl rfl) (fun w' hx' => rv_len rfl (fr_eval rfl rfl) (Own.rd ((hH.ext hx').own (i := 1) rfl) (row_one cS_one)) Try.underlying24)) ?_
    by_cases hc2 : (pathT (List.map leafS (List.take 40 l)) i).length > 0
    · refine xl_take (i := 13) (v := .bool true) rfl (by kernel_rfl) (by kernel_rfl) (by kernel_rfl) (by kernel_rfl) (yx_val (wantF (d := 56) rfl (by kernel_rfl) rfl rfl) (fun w' hx' => rv_gtr rfl (fr_eval rfl rfl) rfl (decide_eq_true (by omega)))) ?_
      refine xl_take (i := 14) (v := .bool true) rfl (by kernel_rfl) (by kernel_rfl) (by kernel_rfl) (by kernel_rfl) (yx_val (wantF (d := 56) rfl (by kernel_rfl) rfl rfl) (fun w' hx' => rv_move rfl (fr_eval rfl rfl))) ?_
      refine xl_take (i := 15) (v := .agg (cBs ((rootS (List.take 40 l)).1)).toArray) rfl (by kernel_rfl) (by kernel_rfl) (by kernel_rfl) (by kernel_rfl) (yx_val (wantF (d := 60) rfl (by kernel_rfl) rfl rfl) (fun w' hx' => rv_loadW rfl ((hH.ext hx').blk (i := 0) rfl) (fr_eval rfl e3) Try.underlying23 rfl (sz_len Try.sz23 (cBs_len (rootS (List.take 40 l)).2)))) ?_
      refine xl_take (i := 16) (v := cutR 32 v l.length 40) rfl (by kernel_rfl) (by kernel_rfl) (by kernel_rfl) (by kernel_rfl) (yx_val (wantF (d := 60) rfl (by kernel_rfl) rfl rfl) (fun w' hx' => rv_move rfl (fr_eval rfl e0))) ?_
      refine xl_take (i := 17) (v := .int .i64 ((i : Nat) : Int)) rfl (by kernel_rfl) (by kernel_rfl) (by kernel_rfl) (by kernel_rfl) (yx_val (wantF (d := 60) rfl (by kernel_rfl) rfl rfl) (fun w' hx' => rv_move rfl (fr_eval rfl e4))) ?_
      refine xl_take (i := 18) (v := .pointer (some (elemA (cutR 32 v l.length 40) (i * 32)))) rfl (by kernel_rfl) (by kernel_rfl) (by kernel_rfl) (by kernel_rfl) (yx_val (wantF (d := 60) rfl (by kernel_rfl) rfl rfl) (fun w' hx' => rv_index rfl (fr_eval rfl rfl) (fr_eval rfl rfl) (rdN (hf_t9.rd _ (hH.chg.trans (Ext.any hx'))) rfl) (show i < (List.take 40 l).length from (by omega)) Try.underlying24 Try.sz23 (by decide))) ?_
      refine xl_take (i := 19) (v := .agg (cBs (((List.getD (List.take 40 l) i zS)).1)).toArray) rfl (by kernel_rfl) (by kernel_rfl) (by kernel_rfl) (by kernel_rfl) (yx_val (wantF (d := 60) rfl (by kernel_rfl) rfl rfl) (fun w' hx' => rv_loadElem rfl (fr_eval rfl rfl) (rdN (hf_t9.rd _ (hH.chg.trans (Ext.any hx'))) rfl) (show i < (List.take 40 l).length from (by omega)) (by decide) (flat_part zS cS_len (show i < (List.take 40 l).length from (by omega))) Try.underlying23 rfl Try.sz23)) ?_
      refine xl_take (i := 20) (v := .int .i64 ((i : Nat) : Int)) rfl (by kernel_rfl) (by kernel_rfl) (by kernel_rfl) (by kernel_rfl) (yx_val (wantF (d := 60) rfl (by kernel_rfl) rfl rfl) (fun w' hx' => rv_move rfl (fr_eval rfl e4))) ?_
      refine xl_take (i := 21) (v := cutR 32 v l.length 40) rfl (by kernel_rfl) (by kernel_rfl) (by kernel_rfl) (by kernel_rfl) (yx_val (wantF (d := 60) rfl (by kernel_rfl) rfl rfl) (fun w' hx' => rv_move rfl (fr_eval rfl e0))) ?_
      refine xl_take (i := 22) (v := .int .i64 (((List.take 40 l).length : Nat) : Int)) rfl (by kernel_rfl) (by kernel_rfl) (by kernel_rfl) (by kernel_rfl) (yx_val (wantF (d := 60) rfl (by kernel_rfl) rfl rfl) (fun w' hx' => rv_len rfl (fr_eval rfl rfl) (hf_t9.rd _ (hH.chg.trans (Ext.any hx'))) Try.underlying24)) ?_
      refine xl_take (i := 23) (v := y1) rfl (by kernel_rfl) (by kernel_rfl) (by kernel_rfl) (by kernel_rfl) (yx_val (wantF (d := 60) rfl (by kernel_rfl) rfl rfl) (fun w' hx' => rv_move rfl (fr_eval rfl e5))) ?_
      refine xl_take (i := 24) (v := slcV y1 32 1 ((pathT (List.map leafS (List.take 40 l)) i).length)) rfl (by kernel_rfl) (by kernel_rfl) (by kernel_rfl) (by kernel_rfl) (yx_val (wantF (d := 60) rfl (by kernel_rfl) rfl rfl) (fun w' hx' => rv_slcL (l := 1) Try.stSum rfl (fr_eval rfl rfl) (rdN (Own.rd ((hH.ext hx').own (i := 1) rfl) (row_one cS_one)) rfl) (show _ = Value.int _ ((1 : Nat) : Int) from rfl) (by omega))) ?_
      refine xl_tail (s := 25) rfl ?_
      intro w13 hx
      replace hH := hH.ext hx
      clear hx
      refine lf_call (wantF (d := 60) rfl (by kernel_rfl) rfl rfl) (rv_call (args := [.agg (cBs ((rootS (List.take 40 l)).1)).toArray, .agg (cBs (((List.getD (List.take 40 l) i zS)).1)).toArray, .int .i64 ((i : Nat) : Int), .int .i64 (((List.take 40 l).length : Nat) : Int), slcV y1 32 1 ((pathT (List.map leafS (List.take 40 l)) i).length)]) rfl (evc (fr_eval rfl rfl) (evc (fr_eval rfl rfl) (evc (fr_eval rfl rfl) (evc (fr_eval rfl rfl) (evc (fr_eval rfl rfl) evn))))) Try.call15) (calls_known (b' := false) (check_calls (rootS (List.take 40 l)) ((List.getD (List.take 40 l) i zS)) ((i : Nat) : Int) (((List.take 40 l).length : Nat) : Int) (by omega) (by omega) (List.take ((pathT (List.map leafS (List.take 40 l)) i).length - 1) (List.drop 1 (pathT (List.map leafS (List.take 40 l)) i))) _ _ (rdF_slc (l := 1) (h := (pathT (List.map leafS (List.take 40 l)) i).length) cS_len (Own.rd (hH.own (i := 1) rfl) (row_one cS_one)) rfl (by omega) (Nat.le_refl _))) (by rw [take_drop1 rfl]; exact checkB_none (chk_short ((congrArg (chk _ _ _) (List.append_nil _).symm).trans (path_ok (l := (List.take 40 l)) (i := i) (by omega) [])) (by omega)))) ?_
      rintro _ w14 ⟨rfl, hx⟩
      refine ⟨_, rfl, ?_⟩
      replace hH := hH.ext hx
      clear hx
      refine lf_val (v := .bool false) (wantF (d := 56) rfl (by kernel_rfl) rfl rfl) (rv_pickT rfl (fr_eval rfl rfl) (fr_eval rfl rfl)) ?_
      refine lf_val (v := .bool false) (wantAll rfl) (rv_pickF rfl (fr_eval rfl rfl) (fr_eval rfl rfl)) ?_
      refine lf_nil ?_
      refine then_n ?_
      refine wp_gen (fun F' => F' 0 = cutR 32 v l.length 40 ∧ F' 3 = .pointer (some ⟨g1, 0, none⟩) ∧ F' 4 = .int .i64 ((i : Nat) : Int) ∧ F' 5 = y1 ∧ F' 6 = .bool true ∧ F' 7 = y5 ∧ F' 15 = .bool true ∧ F' 38 = .bool false ∧ F' 73 = .bool false) ⟨e0, e3, e4, e5, e6, e7, e15, e38, rfl⟩ ?_
      clear e0 e3 e4 e5 e6 e7 e15 e38
      clear F
      rintro F ⟨e0, e3, e4, e5, e6, e7, e15, e38, e73⟩
      refine wp_cond_false (fr_eval rfl e73) ?_
      refine wp_skip ?_
      refine blk_n ?_
      refine then_n ?_
      refine wp_regionF ?_
      refine lf_val (v := .int .i64 ((i : Nat) : Int)) (wantAll rfl) (rv_move rfl (fr_eval rfl e4)) ?_
      refine lf_val (v := .int .i64 ((i + 1 : Nat) : Int)) (wantAll rfl) (rv_add rfl (fr_eval rfl rfl) rfl (wrap_i64 (by omega) (by omega) (by omega))) ?_
      refine lf_val (v := .int .i64 ((i + 1 : Nat) : Int)) (wantAll rfl) (rv_assign rfl (fr_eval rfl rfl)) ?_
      refine lf_nil ?_
      refine then_n ?_
      replace hH : Heap (newN w) w w14 [oBlk g1 (cBs ((rootS (List.take 40 l)).1)) 23] := hH.drop (.cons_cons _ (.cons _ (.cons _ .slnil)))
      exact ⟨_, _, (by omega), rfl, i + 1, rfl, (by omega), e0, e3, rfl, hH⟩
    · refine xl_take (i := 13) (v := .bool false) rfl (by kernel_rfl) (by kernel_rfl) (by kernel_rfl) (by kernel_rfl) (yx_val (wantF (d := 56) rfl (by kernel_rfl) rfl rfl) (fun w' hx' => rv_gtr rfl (fr_eval rfl rfl) rfl (decide_eq_false (by omega)))) ?_
      refine xl_take (i := 14) (v := .bool false) rfl (by kernel_rfl) (by kernel_rfl) (by kernel_rfl) (by kernel_rfl) (yx_val (wantF (d := 56) rfl (by kernel_rfl) rfl rfl) (fun w' hx' => rv_move rfl (fr_eval rfl rfl))) ?_
      refine xl_take (i := 15) (v := undef) rfl (by kernel_rfl) (by kernel_rfl) (by kernel_rfl) (by kernel_rfl) (yx_not (wantNot (d := 60) rfl (by kernel_rfl) rfl rfl)) ?_
      refine xl_take (i := 16) (v := undef) rfl (by kernel_rfl) (by kernel_rfl) (by kernel_rfl) (by kernel_rfl) (yx_not (wantNot (d := 60) rfl (by kernel_rfl) rfl rfl)) ?_
      refine xl_take (i := 17) (v := undef) rfl (by kernel_rfl) (by kernel_rfl) (by kernel_rfl) (by kernel_rfl) (yx_not (wantNot (d := 60) rfl (by kernel_rfl) rfl rfl)) ?_
      refine xl_take (i := 18) (v := undef) rfl (by kernel_rfl) (by kernel_rfl) (by kernel_rfl) (by kernel_rfl) (yx_not (wantNot (d := 60) rfl (by kernel_rfl) rfl rfl)) ?_
      refine xl_take (i := 19) (v := undef) rfl (by kernel_rfl) (by kernel_rfl) (by kernel_rfl) (by kernel_rfl) (yx_not (wantNot (d := 60) rfl (by kernel_rfl) rfl rfl)) ?_
      refine xl_take (i := 20) (v := undef) rfl (by kernel_rfl) (by kernel_rfl) (by kernel_rfl) (by kernel_rfl) (yx_not (wantNot (d := 60) rfl (by kernel_rfl) rfl rfl)) ?_
      refine xl_take (i := 21) (v := undef) rfl (by kernel_rfl) (by kernel_rfl) (by kernel_rfl) (by kernel_rfl) (yx_not (wantNot (d := 60) rfl (by kernel_rfl) rfl rfl)) ?_
      refine xl_take (i := 22) (v := undef) rfl (by kernel_rfl) (by kernel_rfl) (by kernel_rfl) (by kernel_rfl) (yx_not (wantNot (d := 60) rfl (by kernel_rfl) rfl rfl)) ?_
      refine xl_take (i := 23) (v := undef) rfl (by kernel_rfl) (by kernel_rfl) (by kernel_rfl) (by kernel_rfl) (yx_not (wantNot (d := 60) rfl (by kernel_rfl) rfl rfl)) ?_
      refine xl_take (i := 24) (v := undef) rfl (by kernel_rfl) (by kernel_rfl) (by kernel_rfl) (by kernel_rfl) (yx_not (wantNot (d := 60) rfl (by kernel_rfl) rfl rfl)) ?_
      refine xl_tail (s := 25) rfl ?_
      intro w15 hx
      replace hH := hH.ext hx
      clear hx
      refine lf_not (wantNot (d := 60) rfl (by kernel_rfl) rfl rfl) ?_
      refine lf_val (v := .bool false) (wantF (d := 56) rfl (by kernel_rfl) rfl rfl) (rv_pickF rfl (fr_eval rfl rfl) rfl) ?_
      refine lf_val (v := .bool false) (wantAll rfl) (rv_pickF rfl (fr_eval rfl rfl) (fr_eval rfl rfl)) ?_
      refine lf_nil ?_
      refine then_n ?_
      refine wp_gen (fun F' => F' 0 = cutR 32 v l.length 40 ∧ F' 3 = .pointer (some ⟨g1, 0, none⟩) ∧ F' 4 = .int .i64 ((i : Nat) : Int) ∧ F' 5 = y1 ∧ F' 6 = .bool true ∧ F' 7 = y5 ∧ F' 15 = .bool true ∧ F' 38 = .bool false ∧ F' 73 = .bool false) ⟨e0, e3, e4, e5, e6, e7, e15, e38, rfl⟩ ?_
      clear e0 e3 e4 e5 e6 e7 e15 e38
      clear F
      rintro F ⟨e0, e3, e4, e5, e6, e7, e15, e38, e73⟩
      refine wp_cond_false (fr_eval rfl e73) ?_
      refine wp_skip ?_
      refine blk_n ?_
      refine then_n ?_
      refine wp_regionF ?_
      refine lf_val (v := .int .i64 ((i : Nat) : Int)) (wantAll rfl) (rv_move rfl (fr_eval rfl e4)) ?_
      refine lf_val (v := .int .i64 ((i + 1 : Nat) : Int)) (wantAll rfl) (rv_add rfl (fr_eval rfl rfl) rfl (wrap_i64 (by omega) (by omega) (by omega))) ?_
      refine lf_val (v := .int .i64 ((i + 1 : Nat) : Int)) (wantAll rfl) (rv_assign rfl (fr_eval rfl rfl)) ?_
      refine lf_nil ?_
      refine then_n ?_
      replace hH : Heap (newN w) w w15 [oBlk g1 (cBs ((rootS (List.take 40 l)).1)) 23] := hH.drop (.cons_cons _ (.cons _ (.cons _ .slnil)))
      exact ⟨_, _, (by omega), rfl, i + 1, rfl, (by omega), e0, e3, rfl, hH⟩
  · refine lf_val (v := .bool false) (wantAll rfl) (rv_lss rfl (fr_eval rfl rfl) (fr_eval rfl rfl) (decide_eq_false (by omega))) ?_
    refine lf_nil ?_
    refine then_n ?_
    refine wp_gen (fun F' => F' 0 = cutR 32 v l.length 40 ∧ F' 3 = .pointer (some ⟨g1, 0, none⟩) ∧ F' 4 = .int .i64 ((i : Nat) : Int) ∧ F' 15 = .bool false) ⟨e0, e3, e4, rfl⟩ ?_
    clear e0 e3 e4
    clear F
    rintro F ⟨e0, e3, e4, e15⟩
    refine wp_cond_false (fr_eval rfl e15) ?_
    refine wp_exit ?_
    refine then_exit ?_
    refine then_exit ?_
    refine blk_exit ?_
    refine then_n ?_
    refine wp_seq ?_
    refine wp_regionF ?_
    refine lf_call (wantAll rfl) (rv_call (args := []) rfl evn Try.call16) (awake03_calls _) ?_
    rintro _ w16 ⟨rfl, hx⟩
    refine ⟨_, rfl, ?_⟩
    replace hH := hH.ext hx
    clear hx
    refine lf_val (v := .bool true) (wantAll rfl) (rv_assign rfl (fr_eval rfl rfl)) ?_
    refine lf_nil ?_
    refine then_n ?_
    refine wp_gen (fun F' => F' 0 = cutR 32 v l.length 40 ∧ F' 2 = .bool true ∧ F' 3 = .pointer (some ⟨g1, 0, none⟩) ∧ F' 4 = .int .i64 ((i : Nat) : Int) ∧ F' 15 = .bool false) ⟨e0, rfl, e3, e4, e15⟩ ?_
    clear e0 e3 e4 e15
    clear F
    rintro F ⟨e0, e2, e3, e4, e15⟩
    refine wp_ret ?_
    exact bodyPost_ret (v := (.bool true)) (res1 rfl (ro_tmp rfl e2)) rfl (⟨rfl, hH.done⟩)

end Go.Proofs.Ytokddhidcjkadaa
