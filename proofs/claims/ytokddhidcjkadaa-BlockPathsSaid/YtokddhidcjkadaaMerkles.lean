/- Lists of sums under one sum: the walks. -/
import Derived.Test.YtokddhidcjkadaaMerkle
import Derived.Test.YtokddhidcjkadaaShaJoin
namespace Go.Proofs.Ytokddhidcjkadaa
open Go.RowKit Go.Bz Go.Bz.Sha Go.Bz.Merkle
attribute [local irreducible] wpList Code.wp wpAnyX
theorem flat1s {x : List UInt8} (hx : x.length = 32) : (flat [x]).length ≤ 1099511627000 := by simp [flat, hx]
theorem flat0s : (flat []).length ≤ 1099511627000 := by simp [flat]

set_option maxRecDepth 100000 in
set_option maxHeartbeats 4000000 in
theorem leaf_calls (s : S32) (w : World) :
    Calls Try.prog 21 #[.agg (cBs s.1).toArray] w fun e'' w' => e'' = .returned (.agg (cBs (leafS s).1).toArray) ∧ Ext w w' := by
  refine calls_fr (args := [.agg (cBs s.1).toArray]) (n := 6) Try.func21 rfl rfl (show 1 ≤ 6 by decide) ?_
  have hH : Heap (newN w) w w [] := Heap.fresh
  refine wp_seq ?_
  refine wp_gen (fun F' => F' 0 = .agg (cBs s.1).toArray) rfl ?_
  rintro F e0
  refine wp_regionF ?_
  refine lf_ex (wantAll rfl) (hx_box hH 23 (cs := cBs s.1) rfl (fr_eval rfl e0) (by rfl)) ?_
  clear hH
  rintro _ w1 ⟨g1, rfl, hH, hx⟩
  replace hH : Heap (newN w) w w1 [oBlk g1 (cBs s.1) 23] := hH
  clear hx
  refine lf_ex (wantAll rfl) (hx_alloc hH 23 (z := .agg (cBs (List.replicate 32 0)).toArray) (n := 32) (cs := cBs (List.replicate 32 0)) rfl (by kernel_rfl) (by rfl)) ?_
  clear hH
  rintro _ w2 ⟨g2, rfl, hH, hx⟩
  replace hH : Heap (newN w) w w2 [oBlk g1 (cBs s.1) 23, oBlk g2 (cBs (List.replicate 32 0)) 23] := hH
  clear hx
  refine lf_nil ?_
  refine then_n ?_
  refine wp_seq ?_
  refine wp_gen (fun F' => F' 0 = .agg (cBs s.1).toArray ∧ F' 1 = .pointer (some ⟨g1, 0, none⟩) ∧ F' 2 = .pointer (some ⟨g2, 0, none⟩)) ⟨e0, rfl, rfl⟩ ?_
  clear e0
  clear F
  rintro F ⟨e0, e1, e2⟩
  refine wp_regionF ?_
  refine lf_val (v := .slice (some ⟨g1, 0, none⟩) 32 32) (wantAll rfl) (rv_sliceArr rfl (fr_eval rfl e1) Try.underlying23 Try.sz5 (by decide)) ?_
  refine lf_ex (wantAll rfl) (hx_lits hH Try.stBB (n := 1) (nm := 1) [(.tmp 3)] (vs := [.slice (some ⟨g1, 0, none⟩) 32 32]) rfl (evc (fr_eval rfl rfl) evn) (ones_cons (Rd.oneV (rdB_blkn (hH.blk (i := 0) rfl) s.2 (by decide))) ones_nil) rfl (by decide) rfl rfl) ?_
  clear hH
  rintro y1 w3 ⟨hH, hx⟩
  replace hH : Heap (newN w) w w3 [oBlk g1 (cBs s.1) 23, oBlk g2 (cBs (List.replicate 32 0)) 23, oOwn 58 1 y1 1 [.slice (some ⟨g1, 0, none⟩) 32 32]] := hH
  clear hx
  refine lf_call (wantAll rfl) (rv_call (args := [cB 1, y1]) rfl (evc rfl (evc (fr_eval rfl rfl) evn)) Try.call45) (join_calls 1 [s.1] (flat1s s.2) _ _ (rdP_own (hH.own (i := 2) rfl) (.cons (rdB_blkn (hH.blk (i := 0) rfl) s.2 (by decide)) .nil) rfl)) ?_
  rintro _ w4 ⟨rfl, hx⟩
  refine ⟨_, rfl, ?_⟩
  replace hH := hH.ext hx
  clear hx
  refine lf_sk (wantAll rfl) (hx_storeW hH (i := 1) (cs := cBs (join 1 [s.1])) rfl rfl rfl (fr_eval rfl e2) (fr_eval rfl rfl) (sz_len Try.sz23 (cBs_len (join_length _ _))) (((cBs_len (List.length_replicate ..))).trans ((cBs_len (join_length _ _))).symm) ((cBs_one _))) ?_
  clear hH
  rintro w5 ⟨hH, hx⟩
  replace hH : Heap (newN w) w w5 [oBlk g1 (cBs s.1) 23, oBlk g2 (cBs (join 1 [s.1])) 23, oOwn 58 1 y1 1 [.slice (some ⟨g1, 0, none⟩) 32 32]] := hH
  clear hx
  refine lf_nil ?_
  refine then_n ?_
  replace hH : Heap (newN w) w w5 [oBlk g1 (cBs s.1) 23, oBlk g2 (cBs (join 1 [s.1])) 23] := hH.drop (.cons_cons _ (.cons_cons _ (.cons _ .slnil)))
  refine wp_gen (fun F' => F' 0 = .agg (cBs s.1).toArray ∧ F' 1 = .pointer (some ⟨g1, 0, none⟩) ∧ F' 2 = .pointer (some ⟨g2, 0, none⟩)) ⟨e0, e1, e2⟩ ?_
  clear e0 e1 e2
  clear F
  rintro F ⟨e0, e1, e2⟩
  refine wp_ret ?_
  exact bodyPost_ret (v := (.agg (cBs (join 1 [s.1])).toArray)) (res1 rfl (ro_cell rfl e2 (hH.blk (i := 1) rfl) Try.underlying23 rfl (sz_len Try.sz23 (cBs_len (join_length _ _))))) rfl (⟨rfl, hH.done⟩)

set_option maxRecDepth 100000 in
set_option maxHeartbeats 4000000 in
theorem leaf03_calls (s : S32) (w : World) :
    Calls Try.prog 22 #[.agg (cBs s.1).toArray] w fun e'' w' => e'' = .returned (.agg (cBs (leafS s).1).toArray) ∧ Ext w w' := by
  refine calls_fr (args := [.agg (cBs s.1).toArray]) (n := 6) Try.func22 rfl rfl (show 1 ≤ 6 by decide) ?_
  have hH : Heap (newN w) w w [] := Heap.fresh
  refine wp_seq ?_
  refine wp_gen (fun F' => F' 0 = .agg (cBs s.1).toArray) rfl ?_
  rintro F e0
  refine wp_regionF ?_
  refine lf_ex (wantAll rfl) (hx_box hH 23 (cs := cBs s.1) rfl (fr_eval rfl e0) (by rfl)) ?_
  clear hH
  rintro _ w1 ⟨g1, rfl, hH, hx⟩
  replace hH : Heap (newN w) w w1 [oBlk g1 (cBs s.1) 23] := hH
  clear hx
  refine lf_ex (wantAll rfl) (hx_alloc hH 23 (z := .agg (cBs (List.replicate 32 0)).toArray) (n := 32) (cs := cBs (List.replicate 32 0)) rfl (by kernel_rfl) (by rfl)) ?_
  clear hH
  rintro _ w2 ⟨g2, rfl, hH, hx⟩
  replace hH : Heap (newN w) w w2 [oBlk g1 (cBs s.1) 23, oBlk g2 (cBs (List.replicate 32 0)) 23] := hH
  clear hx
  refine lf_nil ?_
  refine then_n ?_
  refine wp_seq ?_
  refine wp_gen (fun F' => F' 0 = .agg (cBs s.1).toArray ∧ F' 1 = .pointer (some ⟨g1, 0, none⟩) ∧ F' 2 = .pointer (some ⟨g2, 0, none⟩)) ⟨e0, rfl, rfl⟩ ?_
  clear e0
  clear F
  rintro F ⟨e0, e1, e2⟩
  refine wp_regionF ?_
  refine lf_val (v := .slice (some ⟨g1, 0, none⟩) 32 32) (wantAll rfl) (rv_sliceArr rfl (fr_eval rfl e1) Try.underlying23 Try.sz5 (by decide)) ?_
  refine lf_ex (wantAll rfl) (hx_lits hH Try.stBB (n := 1) (nm := 1) [(.tmp 3)] (vs := [.slice (some ⟨g1, 0, none⟩) 32 32]) rfl (evc (fr_eval rfl rfl) evn) (ones_cons (Rd.oneV (rdB_blkn (hH.blk (i := 0) rfl) s.2 (by decide))) ones_nil) rfl (by decide) rfl rfl) ?_
  clear hH
  rintro y1 w3 ⟨hH, hx⟩
  replace hH : Heap (newN w) w w3 [oBlk g1 (cBs s.1) 23, oBlk g2 (cBs (List.replicate 32 0)) 23, oOwn 58 1 y1 1 [.slice (some ⟨g1, 0, none⟩) 32 32]] := hH
  clear hx
  refine lf_call (wantAll rfl) (rv_call (args := [cB 1, y1]) rfl (evc rfl (evc (fr_eval rfl rfl) evn)) Try.call45) (join_calls 1 [s.1] (flat1s s.2) _ _ (rdP_own (hH.own (i := 2) rfl) (.cons (rdB_blkn (hH.blk (i := 0) rfl) s.2 (by decide)) .nil) rfl)) ?_
  rintro _ w4 ⟨rfl, hx⟩
  refine ⟨_, rfl, ?_⟩
  replace hH := hH.ext hx
  clear hx
  refine lf_sk (wantAll rfl) (hx_storeW hH (i := 1) (cs := cBs (join 1 [s.1])) rfl rfl rfl (fr_eval rfl e2) (fr_eval rfl rfl) (sz_len Try.sz23 (cBs_len (join_length _ _))) (((cBs_len (List.length_replicate ..))).trans ((cBs_len (join_length _ _))).symm) ((cBs_one _))) ?_
  clear hH
  rintro w5 ⟨hH, hx⟩
  replace hH : Heap (newN w) w w5 [oBlk g1 (cBs s.1) 23, oBlk g2 (cBs (join 1 [s.1])) 23, oOwn 58 1 y1 1 [.slice (some ⟨g1, 0, none⟩) 32 32]] := hH
  clear hx
  refine lf_nil ?_
  refine then_n ?_
  replace hH : Heap (newN w) w w5 [oBlk g1 (cBs s.1) 23, oBlk g2 (cBs (join 1 [s.1])) 23] := hH.drop (.cons_cons _ (.cons_cons _ (.cons _ .slnil)))
  refine wp_gen (fun F' => F' 0 = .agg (cBs s.1).toArray ∧ F' 1 = .pointer (some ⟨g1, 0, none⟩) ∧ F' 2 = .pointer (some ⟨g2, 0, none⟩)) ⟨e0, e1, e2⟩ ?_
  clear e0 e1 e2
  clear F
  rintro F ⟨e0, e1, e2⟩
  refine wp_ret ?_
  exact bodyPost_ret (v := (.agg (cBs (join 1 [s.1])).toArray)) (res1 rfl (ro_cell rfl e2 (hH.blk (i := 1) rfl) Try.underlying23 rfl (sz_len Try.sz23 (cBs_len (join_length _ _))))) rfl (⟨rfl, hH.done⟩)

theorem leaves_len {l : List S32} {i : Nat} (h : i ≤ l.length) : ((l.map leafS).take i ++ List.replicate (l.length - i) zS).length = l.length := by simp; omega
theorem leaves_set {l : List S32} {i : Nat} (h : i < l.length) : ((l.map leafS).take i ++ List.replicate (l.length - i) zS).set i (leafS (l.getD i zS)) = (l.map leafS).take (i + 1) ++ List.replicate (l.length - (i + 1)) zS := by
  rw [show l.length - i = (l.length - (i + 1)) + 1 by omega, List.replicate_succ, List.set_append_right _ _ (by simp; omega)]
  have e : i - (List.take i (l.map leafS)).length = 0 := by simp; omega
  rw [e, List.set_cons_zero, List.take_succ_eq_append_getElem (by simpa using h), List.append_assoc]
  simp [List.getD_eq_getElem?_getD, h]
theorem leaves_end (l : List S32) : (l.map leafS).take l.length ++ List.replicate (l.length - l.length) zS = l.map leafS := by
  rw [List.take_of_length_le (by simp)]; simp

set_option maxRecDepth 100000 in
set_option maxHeartbeats 4000000 in
theorem leaves_calls (l : List S32) (hl : l.length ≤ 1000000) (v : Value) (w : World) (hr0 : Rd w 32 v l.length (l.flatMap cS)) :
    Calls Try.prog 61 #[v] w fun e'' w' => (∃ v', e'' = .returned v' ∧ Own w' 23 32 v' (l.map leafS).length ((l.map leafS).flatMap cS) ∧ ∀ k, v'.ownBlock = some k → w.heap.size ≤ k) ∧ Ext w w' := by
  refine calls_fr (args := [v]) (n := 23) Try.func61 rfl rfl (show 1 ≤ 23 by decide) ?_
  have hr := Rd.stab hr0
  have hH : Heap (newN w) w w [] := Heap.fresh
  refine wp_seq ?_
  refine wp_gen (fun F' => F' 0 = v) rfl ?_
  rintro F e0
  refine wp_regionF ?_
  refine lf_val (v := .slice none 0 0) (wantAll rfl) (rv_assign rfl rfl) ?_
  refine lf_nil ?_
  refine then_n ?_
  refine wp_seq ?_
  refine wp_gen (fun F' => F' 0 = v ∧ F' 2 = .slice none 0 0) ⟨e0, rfl⟩ ?_
  clear e0
  clear F
  rintro F ⟨e0, e2⟩
  refine wp_regionF ?_
  refine lf_val (v := v) (wantAll rfl) (rv_move rfl (fr_eval rfl e0)) ?_
  refine lf_val (v := .int .i64 ((l.length : Nat) : Int)) (wantAll rfl) (rv_len rfl (fr_eval rfl rfl) (hr.rd _ hH.chg) Try.underlying24) ?_
  refine lf_ex (wantAll rfl) (hx_make hH Try.stSum (n := l.length) (nm := List.length (List.replicate l.length zS)) (z1 := .int .u8 0) (xs := (List.replicate l.length zS).flatMap cS) rfl (fr_eval rfl rfl) (fr_eval rfl rfl) (by omega) rfl (zeros_f (f := cS) (d := zS) (sz := 32) rfl _) (List.length_replicate ..).symm) ?_
  clear hH
  rintro y1 w1 ⟨hH, hx⟩
  replace hH : Heap (newN w) w w1 [oRow cS 23 32 y1 (List.replicate l.length zS)] := hH
  clear hx
  refine lf_val (v := y1) (wantAll rfl) (rv_assign rfl (fr_eval rfl rfl)) ?_
  refine lf_nil ?_
  refine then_n ?_
  refine wp_seq ?_
  refine wp_seq ?_
  refine wp_gen (fun F' => F' 0 = v ∧ F' 2 = .slice none 0 0 ∧ F' 3 = y1) ⟨e0, e2, rfl⟩ ?_
  clear e0 e2
  clear F
  rintro F ⟨e0, e2, e3⟩
  refine wp_regionF ?_
  refine lf_val (v := v) (wantAll rfl) (rv_move rfl (fr_eval rfl e0)) ?_
  refine lf_val (v := .int .i64 ((l.length : Nat) : Int)) (wantAll rfl) (rv_len rfl (fr_eval rfl rfl) (hr.rd _ hH.chg) Try.underlying24) ?_
  refine lf_val (v := .int .i64 0) (wantAll rfl) (rv_move rfl rfl) ?_
  refine lf_nil ?_
  refine then_n ?_
  refine wp_block ?_
  replace hH : Heap (newN w) w w1 [oRow cS 23 32 y1 ((l.map leafS).take 0 ++ List.replicate (l.length - 0) zS)] := by have e : List.replicate l.length zS = (l.map leafS).take 0 ++ List.replicate (l.length - 0) zS := rfl; rw [← e]; exact hH
  refine wp_gen (fun F' => F' 0 = v ∧ F' 2 = .slice none 0 0 ∧ F' 3 = y1 ∧ F' 9 = v ∧ F' 10 = .int .i64 ((l.length : Nat) : Int) ∧ F' 11 = .int .i64 0) ⟨e0, e2, e3, rfl, rfl, rfl⟩ ?_
  clear e0 e2 e3
  clear F
  rintro F ⟨e0, e2, e3, e9, e10, e11⟩
  refine wp_loopF (fun m F wr => ∃ i : Nat, m = l.length - i ∧ i ≤ l.length ∧ F 0 = v ∧ F 2 = .slice none 0 0 ∧ F 3 = y1 ∧ F 9 = v ∧ F 10 = .int .i64 ((l.length : Nat) : Int) ∧ F 11 = .int .i64 ((i : Nat) : Int) ∧ Heap (newN w) w wr [oRow cS 23 32 y1 ((l.map leafS).take i ++ List.replicate (l.length - i) zS)]) ⟨0, rfl, Nat.zero_le _, e0, e2, e3, e9, e10, e11, hH⟩ ?_
  clear e0 e2 e3 e9 e10 e11 hH
  clear F
  rintro m F w2 ⟨i, rfl, pi0, e0, e2, e3, e9, e10, e11, hH⟩
  refine wp_seq ?_
  refine wp_regionF ?_
  by_cases hc1 : i < l.length
  · refine lf_val (v := .bool true) (wantAll rfl) (rv_lss rfl (fr_eval rfl e11) (fr_eval rfl e10) (decide_eq_true (by omega))) ?_
    refine lf_nil ?_
    refine then_n ?_
    refine wp_seq ?_
    refine wp_gen (fun F' => F' 0 = v ∧ F' 2 = .slice none 0 0 ∧ F' 3 = y1 ∧ F' 9 = v ∧ F' 10 = .int .i64 ((l.length : Nat) : Int) ∧ F' 11 = .int .i64 ((i : Nat) : Int) ∧ F' 12 = .bool true) ⟨e0, e2, e3, e9, e10, e11, rfl⟩ ?_
    clear e0 e2 e3 e9 e10 e11
    clear F
    rintro F ⟨e0, e2, e3, e9, e10, e11, e12⟩
    refine wp_cond_true (fr_eval rfl e12) ?_
    refine wp_skip ?_
    refine then_n ?_
    refine wp_seq ?_
    refine wp_block ?_
    refine wp_seq ?_
    refine wp_regionF ?_
    refine lf_val (v := .int .i64 ((i : Nat) : Int)) (wantAll rfl) (rv_move rfl (fr_eval rfl e11)) ?_
    refine lf_val (v := .pointer (some (elemA v (i * 32)))) (wantAll rfl) (rv_index rfl (fr_eval rfl e9) (fr_eval rfl e11) (rdN (hr.rd _ hH.chg) rfl) (show i < l.length from (by omega)) Try.underlying24 Try.sz23 (by decide)) ?_
    refine lf_val (v := .agg (cBs (((List.getD l i zS)).1)).toArray) (wantAll rfl) (rv_loadElem rfl (fr_eval rfl rfl) (rdN (hr.rd _ hH.chg) rfl) (show i < l.length from (by omega)) (by decide) (flat_part zS cS_len (show i < l.length from (by omega))) Try.underlying23 rfl Try.sz23) ?_
    refine lf_ex (wantAll rfl) (hx_alloc hH 23 (z := .agg (cBs (List.replicate 32 0)).toArray) (n := 32) (cs := cBs (List.replicate 32 0)) rfl (by kernel_rfl) (by rfl)) ?_
    clear hH
    rintro _ w3 ⟨g1, rfl, hH, hx⟩
    replace hH : Heap (newN w) w w3 [oRow cS 23 32 y1 ((l.map leafS).take i ++ List.replicate (l.length - i) zS), oBlk g1 (cBs (List.replicate 32 0)) 23] := hH
    clear hx
    refine lf_val (v := .int .i64 ((i : Nat) : Int)) (wantAll rfl) (rv_assign rfl (fr_eval rfl rfl)) ?_
    refine lf_sk (wantAll rfl) (hx_storeW hH (i := 1) (cs := cBs (((List.getD l i zS)).1)) rfl rfl rfl (fr_eval rfl rfl) (fr_eval rfl rfl) (sz_len Try.sz23 (cBs_len ((List.getD l i zS)).2)) (((cBs_len (List.length_replicate ..))).trans ((cBs_len ((List.getD l i zS)).2)).symm) ((cBs_one _))) ?_
    clear hH
    rintro w4 ⟨hH, hx⟩
    replace hH : Heap (newN w) w w4 [oRow cS 23 32 y1 ((l.map leafS).take i ++ List.replicate (l.length - i) zS), oBlk g1 (cBs (((List.getD l i zS)).1)) 23] := hH
    clear hx
    refine lf_nil ?_
    refine then_n ?_
    refine wp_gen (fun F' => F' 0 = v ∧ F' 2 = .slice none 0 0 ∧ F' 3 = y1 ∧ F' 4 = .int .i64 ((i : Nat) : Int) ∧ F' 5 = .pointer (some ⟨g1, 0, none⟩) ∧ F' 9 = v ∧ F' 10 = .int .i64 ((l.length : Nat) : Int) ∧ F' 11 = .int .i64 ((i : Nat) : Int) ∧ F' 12 = .bool true) ⟨e0, e2, e3, rfl, rfl, e9, e10, e11, e12⟩ ?_
    clear e0 e2 e3 e9 e10 e11 e12
    clear F
    rintro F ⟨e0, e2, e3, e4, e5, e9, e10, e11, e12⟩
    refine wp_regionF ?_
    refine lf_val (v := y1) (wantAll rfl) (rv_move rfl (fr_eval rfl e3)) ?_
    refine lf_val (v := .int .i64 ((i : Nat) : Int)) (wantAll rfl) (rv_move rfl (fr_eval rfl e4)) ?_
    refine lf_val (v := .agg (cBs (((List.getD l i zS)).1)).toArray) (wantAll rfl) (rv_loadW rfl (hH.blk (i := 1) rfl) (fr_eval rfl e5) Try.underlying23 rfl (sz_len Try.sz23 (cBs_len ((List.getD l i zS)).2))) ?_
    refine lf_call (wantAll rfl) (rv_call (args := [.agg (cBs (((List.getD l i zS)).1)).toArray]) rfl (evc (fr_eval rfl rfl) evn) Try.call21) (leaf_calls ((List.getD l i zS)) _) ?_
    rintro _ w5 ⟨rfl, hx⟩
    refine ⟨_, rfl, ?_⟩
    replace hH := hH.ext hx
    clear hx
    refine lf_val (v := .pointer (some (elemA y1 (i * 32)))) (wantAll rfl) (rv_index rfl (fr_eval rfl rfl) (fr_eval rfl rfl) (rdN (Own.rd (hH.own (i := 0) rfl) (row_one cS_one)) (leaves_len pi0)) (show i < l.length from (by omega)) Try.underlying24 Try.sz23 (by decide)) ?_
    refine lf_sk (wantAll rfl) (hx_setM hH (i := 0) (nm := List.length (List.set ((l.map leafS).take i ++ List.replicate (l.length - i) zS) i (⟨(leafS ((List.getD l i zS))).1, (leafS ((List.getD l i zS))).2⟩ : S32))) (j := i) (cs := cS (⟨(leafS ((List.getD l i zS))).1, (leafS ((List.getD l i zS))).2⟩ : S32)) (xs' := (List.set ((l.map leafS).take i ++ List.replicate (l.length - i) zS) i (⟨(leafS ((List.getD l i zS))).1, (leafS ((List.getD l i zS))).2⟩ : S32)).flatMap cS) rfl rfl rfl (List.length_set ..).symm (Nat.lt_of_lt_of_eq (by omega) ((leaves_len pi0)).symm) (cS_ln (⟨(leafS ((List.getD l i zS))).1, (leafS ((List.getD l i zS))).2⟩ : S32)) (flat_set cS_len (cS_ln (⟨(leafS ((List.getD l i zS))).1, (leafS ((List.getD l i zS))).2⟩ : S32)) (Nat.lt_of_lt_of_eq (by omega) ((leaves_len pi0)).symm)) (fr_eval rfl rfl) (fr_eval rfl rfl) Try.sz23 (cS_one (⟨(leafS ((List.getD l i zS))).1, (leafS ((List.getD l i zS))).2⟩ : S32))) ?_
    clear hH
    rintro w7 ⟨hH, hx⟩
    replace hH : Heap (newN w) w w7 [oRow cS 23 32 y1 (List.set ((l.map leafS).take i ++ List.replicate (l.length - i) zS) i (⟨(leafS ((List.getD l i zS))).1, (leafS ((List.getD l i zS))).2⟩ : S32)), oBlk g1 (cBs (((List.getD l i zS)).1)) 23] := hH
    replace hH : Heap (newN w) w w7 [oRow cS 23 32 y1 ((l.map leafS).take (i + 1) ++ List.replicate (l.length - (i + 1)) zS), oBlk g1 (cBs (((List.getD l i zS)).1)) 23] := by have e : List.set ((l.map leafS).take i ++ List.replicate (l.length - i) zS) i (⟨(leafS ((List.getD l i zS))).1, (leafS ((List.getD l i zS))).2⟩ : S32) = (l.map leafS).take (i + 1) ++ List.replicate (l.length - (i + 1)) zS := leaves_set (by omega); rw [e] at hH; exact hH
    clear hx
    refine lf_nil ?_
    refine blk_n ?_
    refine then_n ?_
    refine wp_gen (fun F' => F' 0 = v ∧ F' 2 = .slice none 0 0 ∧ F' 3 = y1 ∧ F' 4 = .int .i64 ((i : Nat) : Int) ∧ F' 5 = .pointer (some ⟨g1, 0, none⟩) ∧ F' 9 = v ∧ F' 10 = .int .i64 ((l.length : Nat) : Int) ∧ F' 11 = .int .i64 ((i : Nat) : Int) ∧ F' 12 = .bool true) ⟨e0, e2, e3, e4, e5, e9, e10, e11, e12⟩ ?_
    clear e0 e2 e3 e4 e5 e9 e10 e11 e12
    clear F
    rintro F ⟨e0, e2, e3, e4, e5, e9, e10, e11, e12⟩
    refine wp_regionF ?_
    refine lf_val (v := .int .i64 ((i + 1 : Nat) : Int)) (wantAll rfl) (rv_add rfl (fr_eval rfl e11) rfl (wrap_i64 (by omega) (by omega) (by omega))) ?_
    refine lf_val (v := .int .i64 ((i + 1 : Nat) : Int)) (wantAll rfl) (rv_move rfl (fr_eval rfl rfl)) ?_
    refine lf_nil ?_
    refine then_n ?_
    replace hH : Heap (newN w) w w7 [oRow cS 23 32 y1 ((l.map leafS).take (i + 1) ++ List.replicate (l.length - (i + 1)) zS)] := hH.drop (.cons_cons _ (.cons _ .slnil))
    exact ⟨_, _, (by omega), rfl, i + 1, rfl, (by omega), e0, e2, e3, e9, e10, rfl, hH⟩
  · refine lf_val (v := .bool false) (wantAll rfl) (rv_lss rfl (fr_eval rfl e11) (fr_eval rfl e10) (decide_eq_false (by omega))) ?_
    refine lf_nil ?_
    refine then_n ?_
    refine wp_seq ?_
    refine wp_gen (fun F' => F' 0 = v ∧ F' 2 = .slice none 0 0 ∧ F' 3 = y1 ∧ F' 9 = v ∧ F' 10 = .int .i64 ((l.length : Nat) : Int) ∧ F' 11 = .int .i64 ((i : Nat) : Int) ∧ F' 12 = .bool false) ⟨e0, e2, e3, e9, e10, e11, rfl⟩ ?_
    clear e0 e2 e3 e9 e10 e11
    clear F
    rintro F ⟨e0, e2, e3, e9, e10, e11, e12⟩
    refine wp_cond_false (fr_eval rfl e12) ?_
    refine wp_exit ?_
    refine then_exit ?_
    refine then_exit ?_
    refine blk_exit ?_
    refine then_n ?_
    refine wp_seq ?_
    obtain rfl : i = l.length := by omega
    replace hH : Heap (newN w) w w2 [oRow cS 23 32 y1 (l.map leafS)] := by have e : (l.map leafS).take l.length ++ List.replicate (l.length - l.length) zS = l.map leafS := leaves_end l; rw [← e]; exact hH
    refine wp_regionF ?_
    refine lf_val (v := y1) (wantAll rfl) (rv_move rfl (fr_eval rfl e3)) ?_
    refine lf_val (v := y1) (wantAll rfl) (rv_assign rfl (fr_eval rfl rfl)) ?_
    refine lf_nil ?_
    refine then_n ?_
    refine wp_gen (fun F' => F' 0 = v ∧ F' 2 = y1 ∧ F' 3 = y1 ∧ F' 9 = v ∧ F' 10 = .int .i64 ((l.length : Nat) : Int) ∧ F' 11 = .int .i64 ((l.length : Nat) : Int) ∧ F' 12 = .bool false) ⟨e0, rfl, e3, e9, e10, e11, e12⟩ ?_
    clear e0 e2 e3 e9 e10 e11 e12
    clear F
    rintro F ⟨e0, e2, e3, e9, e10, e11, e12⟩
    refine wp_ret ?_
    exact bodyPost_ret (v := y1) (res1 rfl (ro_tmp rfl e2)) rfl (⟨⟨_, rfl, hH.own (i := 0) rfl, hH.ge (i := 0) rfl⟩, hH.done⟩)

set_option maxRecDepth 100000 in
set_option maxHeartbeats 4000000 in
theorem up_calls (l : List S32) (hl : l.length ≤ 1000000) (v : Value) (w : World) (hr0 : Rd w 32 v l.length (l.flatMap cS)) :
    Calls Try.prog 62 #[v] w fun e'' w' => (∃ v', e'' = .returned v' ∧ Own w' 23 32 v' (upL l).length ((upL l).flatMap cS) ∧ ∀ k, v'.ownBlock = some k → w.heap.size ≤ k) ∧ Ext w w' := by
  refine calls_fr (args := [v]) (n := 39) Try.func62 rfl rfl (show 1 ≤ 39 by decide) ?_
  have hr := Rd.stab hr0
  have hH : Heap (newN w) w w [] := Heap.fresh
  refine wp_seq ?_
  refine wp_gen (fun F' => F' 0 = v) rfl ?_
  rintro F e0
  refine wp_regionF ?_
  refine lf_val (v := .slice none 0 0) (wantAll rfl) (rv_assign rfl rfl) ?_
  refine lf_nil ?_
  refine then_n ?_
  refine wp_seq ?_
  refine wp_gen (fun F' => F' 0 = v ∧ F' 2 = .slice none 0 0) ⟨e0, rfl⟩ ?_
  clear e0
  clear F
  rintro F ⟨e0, e2⟩
  refine wp_regionF ?_
  refine lf_val (v := .slice none 0 0) (wantAll rfl) (rv_assign rfl rfl) ?_
  refine lf_nil ?_
  refine then_n ?_
  refine wp_seq ?_
  refine wp_seq ?_
  refine wp_gen (fun F' => F' 0 = v ∧ F' 2 = .slice none 0 0 ∧ F' 3 = .slice none 0 0) ⟨e0, e2, rfl⟩ ?_
  clear e0 e2
  clear F
  rintro F ⟨e0, e2, e3⟩
  refine wp_regionF ?_
  refine lf_val (v := .int .i64 0) (wantAll rfl) (rv_assign rfl rfl) ?_
  refine lf_nil ?_
  refine then_n ?_
  refine wp_block ?_
  replace hH : Heap (newN w) w w [oRow cS 23 32 (.slice none 0 0) []] := hH.addNil 23 32
  replace hH : Heap (newN w) w w [oRow cS 23 32 (.slice none 0 0) ((upL l).take 0)] := by have e : [] = (upL l).take 0 := rfl; rw [← e]; exact hH
  refine wp_gen (fun F' => F' 0 = v ∧ F' 2 = .slice none 0 0 ∧ F' 3 = (.slice none 0 0) ∧ F' 4 = .int .i64 0) ⟨e0, e2, e3, rfl⟩ ?_
  clear e0 e2 e3
  clear F
  rintro F ⟨e0, e2, e3, e4⟩
  refine wp_loopF (fun m F wr => ∃ i : Nat, ∃ yo : Value, m = l.length - 2 * i ∧ 2 * i ≤ l.length ∧ F 0 = v ∧ F 2 = .slice none 0 0 ∧ F 3 = yo ∧ F 4 = .int .i64 ((2 * i : Nat) : Int) ∧ Heap (newN w) w wr [oRow cS 23 32 yo ((upL l).take i)]) ⟨0, _, rfl, Nat.zero_le _, e0, e2, e3, e4, hH⟩ ?_
  clear e0 e2 e3 e4 hH
  clear F
  rintro m F w1 ⟨i, yo, rfl, pi0, e0, e2, e3, e4, hH⟩
  refine wp_seq ?_
  refine wp_seq ?_
  refine wp_regionF ?_
  refine lf_val (v := .int .i64 ((2 * i : Nat) : Int)) (wantAll rfl) (rv_move rfl (fr_eval rfl e4)) ?_
  refine lf_val (v := .int .i64 (((2 * i) + 1 : Nat) : Int)) (wantAll rfl) (rv_add rfl (fr_eval rfl rfl) rfl (wrap_i64 (by omega) (by omega) (by omega))) ?_
  refine lf_val (v := v) (wantAll rfl) (rv_move rfl (fr_eval rfl e0)) ?_
  refine lf_val (v := .int .i64 ((l.length : Nat) : Int)) (wantAll rfl) (rv_len rfl (fr_eval rfl rfl) (hr.rd _ hH.chg) Try.underlying24) ?_
  by_cases hc1 : (2 * i) + 1 < l.length
  · refine lf_val (v := .bool true) (wantAll rfl) (rv_lss rfl (fr_eval rfl rfl) (fr_eval rfl rfl) (decide_eq_true (by omega))) ?_
    refine lf_nil ?_
    refine then_n ?_
    refine wp_gen (fun F' => F' 0 = v ∧ F' 2 = .slice none 0 0 ∧ F' 3 = yo ∧ F' 4 = .int .i64 ((2 * i : Nat) : Int) ∧ F' 9 = .bool true) ⟨e0, e2, e3, e4, rfl⟩ ?_
    clear e0 e2 e3 e4
    clear F
    rintro F ⟨e0, e2, e3, e4, e9⟩
    refine wp_cond_true (fr_eval rfl e9) ?_
    refine wp_skip ?_
    refine then_n ?_
    refine wp_seq ?_
    refine wp_block ?_
    refine wp_regionX (fun _ => False) 12 (by kernel_rfl) (by kernel_rfl) ?_
    refine xl_take (i := 0) (v := yo) rfl (by kernel_rfl) (by kernel_rfl) (by kernel_rfl) (by kernel_rfl) (yx_val (wantAll rfl) (fun w' hx' => rv_move rfl (fr_eval rfl e3))) ?_
    refine xl_take (i := 1) (v := v) rfl (by kernel_rfl) (by kernel_rfl) (by kernel_rfl) (by kernel_rfl) (yx_val (wantAll rfl) (fun w' hx' => rv_move rfl (fr_eval rfl e0))) ?_
    refine xl_take (i := 2) (v := .int .i64 ((2 * i : Nat) : Int)) rfl (by kernel_rfl) (by kernel_rfl) (by kernel_rfl) (by kernel_rfl) (yx_val (wantAll rfl) (fun w' hx' => rv_move rfl (fr_eval rfl e4))) ?_
    refine xl_take (i := 3) (v := .pointer (some (elemA v ((2 * i) * 32)))) rfl (by kernel_rfl) (by kernel_rfl) (by kernel_rfl) (by kernel_rfl) (yx_val (wantAll rfl) (fun w' hx' => rv_index rfl (fr_eval rfl rfl) (fr_eval rfl rfl) (rdN (hr.rd _ (hH.chg.trans (Ext.any hx'))) rfl) (show 2 * i < l.length from (by omega)) Try.underlying24 Try.sz23 (by decide))) ?_
    refine xl_take (i := 4) (v := .agg (cBs (((List.getD l (2 * i) zS)).1)).toArray) rfl (by kernel_rfl) (by kernel_rfl) (by kernel_rfl) (by kernel_rfl) (yx_val (wantAll rfl) (fun w' hx' => rv_loadElem rfl (fr_eval rfl rfl) (rdN (hr.rd _ (hH.chg.trans (Ext.any hx'))) rfl) (show 2 * i < l.length from (by omega)) (by decide) (flat_part zS cS_len (show 2 * i < l.length from (by omega))) Try.underlying23 rfl Try.sz23)) ?_
    refine xl_take (i := 5) (v := v) rfl (by kernel_rfl) (by kernel_rfl) (by kernel_rfl) (by kernel_rfl) (yx_val (wantAll rfl) (fun w' hx' => rv_move rfl (fr_eval rfl e0))) ?_
    refine xl_take (i := 6) (v := .int .i64 ((2 * i : Nat) : Int)) rfl (by kernel_rfl) (by kernel_rfl) (by kernel_rfl) (by kernel_rfl) (yx_val (wantAll rfl) (fun w' hx' => rv_move rfl (fr_eval rfl e4))) ?_
    refine xl_take (i := 7) (v := .int .i64 (((2 * i) + 1 : Nat) : Int)) rfl (by kernel_rfl) (by kernel_rfl) (by kernel_rfl) (by kernel_rfl) (yx_val (wantAll rfl) (fun w' hx' => rv_add rfl (fr_eval rfl rfl) rfl (wrap_i64 (by omega) (by omega) (by omega)))) ?_
    refine xl_take (i := 8) (v := .pointer (some (elemA v (((2 * i) + 1) * 32)))) rfl (by kernel_rfl) (by kernel_rfl) (by kernel_rfl) (by kernel_rfl) (yx_val (wantAll rfl) (fun w' hx' => rv_index rfl (fr_eval rfl rfl) (fr_eval rfl rfl) (rdN (hr.rd _ (hH.chg.trans (Ext.any hx'))) rfl) (show (2 * i) + 1 < l.length from (by omega)) Try.underlying24 Try.sz23 (by decide))) ?_
    refine xl_take (i := 9) (v := .agg (cBs (((List.getD l ((2 * i) + 1) zS)).1)).toArray) rfl (by kernel_rfl) (by kernel_rfl) (by kernel_rfl) (by kernel_rfl) (yx_val (wantAll rfl) (fun w' hx' => rv_loadElem rfl (fr_eval rfl rfl) (rdN (hr.rd _ (hH.chg.trans (Ext.any hx'))) rfl) (show (2 * i) + 1 < l.length from (by omega)) (by decide) (flat_part zS cS_len (show (2 * i) + 1 < l.length from (by omega))) Try.underlying23 rfl Try.sz23)) ?_
    refine xl_take (i := 10) (v := .agg (cBs ((pairS ((List.getD l (2 * i) zS)) ((List.getD l ((2 * i) + 1) zS))).1)).toArray) rfl (by kernel_rfl) (by kernel_rfl) (by kernel_rfl) (by kernel_rfl) (yx_call (wantAll rfl) (fun w' => rv_call (args := [cB 2, .agg (cBs (((List.getD l (2 * i) zS)).1)).toArray, .agg (cBs (((List.getD l ((2 * i) + 1) zS)).1)).toArray]) rfl (evc rfl (evc (fr_eval rfl rfl) (evc (fr_eval rfl rfl) evn))) Try.call59) (fun w' hx' => pair_calls 2 (((List.getD l (2 * i) zS)).1) (((List.getD l ((2 * i) + 1) zS)).1) (((List.getD l (2 * i) zS)).2) (((List.getD l ((2 * i) + 1) zS)).2) _)) ?_
    refine anyX_ready (rs := [11]) (by kernel_rfl) ?_
    intro w2 hx
    replace hH := hH.ext hx
    clear hx
    refine (anyX_cons ?_ anyX_nil)
    refine xl_step (i := 11) rfl (wantAll rfl) ?_
    refine of_ex (hx_lit1 hH Try.stSum (cs := cS (⟨(pairS ((List.getD l (2 * i) zS)) ((List.getD l ((2 * i) + 1) zS))).1, (pairS ((List.getD l (2 * i) zS)) ((List.getD l ((2 * i) + 1) zS))).2⟩ : S32)) (xs := List.flatMap cS [(⟨(pairS ((List.getD l (2 * i) zS)) ((List.getD l ((2 * i) + 1) zS))).1, (pairS ((List.getD l (2 * i) zS)) ((List.getD l ((2 * i) + 1) zS))).2⟩ : S32)]) rfl (fr_eval rfl rfl) (cS_ln (⟨(pairS ((List.getD l (2 * i) zS)) ((List.getD l ((2 * i) + 1) zS))).1, (pairS ((List.getD l (2 * i) zS)) ((List.getD l ((2 * i) + 1) zS))).2⟩ : S32)) (by decide) (List.flatMap_singleton ..).symm) ?_
    clear hH
    rintro y1 w3 ⟨hH, hx⟩
    replace hH : Heap (newN w) w w3 [oRow cS 23 32 yo ((upL l).take i), oRow cS 23 32 y1 [(⟨(pairS ((List.getD l (2 * i) zS)) ((List.getD l ((2 * i) + 1) zS))).1, (pairS ((List.getD l (2 * i) zS)) ((List.getD l ((2 * i) + 1) zS))).2⟩ : S32)]] := hH
    refine ⟨hx, ?_⟩
    clear hx
    refine xl_tail (s := 12) rfl ?_
    intro w4 hx
    replace hH := hH.ext hx
    clear hx
    refine lf_ex (wantAll rfl) (hx_append hH Try.stSum (i := 0) (xs' := (((upL l).take i) ++ [(⟨(pairS ((List.getD l (2 * i) zS)) ((List.getD l ((2 * i) + 1) zS))).1, (pairS ((List.getD l (2 * i) zS)) ((List.getD l ((2 * i) + 1) zS))).2⟩ : S32)]).flatMap cS) (nm := (((upL l).take i) ++ [(⟨(pairS ((List.getD l (2 * i) zS)) ((List.getD l ((2 * i) + 1) zS))).1, (pairS ((List.getD l (2 * i) zS)) ((List.getD l ((2 * i) + 1) zS))).2⟩ : S32)]).length) rfl rfl (fun _ => rfl) List.length_append.symm List.flatMap_append.symm (Own.rd (hH.own (i := 1) rfl) (row_one cS_one)) (fr_eval rfl rfl) (fr_eval rfl rfl) (by simp only [List.length_append, List.length_cons, List.length_nil, List.length_take, upL_len]; omega)) ?_
    clear hH
    rintro y2 w5 ⟨hH, hx⟩
    replace hH : Heap (newN w) w w5 [oRow cS 23 32 y2 (((upL l).take i) ++ [(⟨(pairS ((List.getD l (2 * i) zS)) ((List.getD l ((2 * i) + 1) zS))).1, (pairS ((List.getD l (2 * i) zS)) ((List.getD l ((2 * i) + 1) zS))).2⟩ : S32)]), oRow cS 23 32 y1 [(⟨(pairS ((List.getD l (2 * i) zS)) ((List.getD l ((2 * i) + 1) zS))).1, (pairS ((List.getD l (2 * i) zS)) ((List.getD l ((2 * i) + 1) zS))).2⟩ : S32)]] := hH
    replace hH : Heap (newN w) w w5 [oRow cS 23 32 y2 ((upL l).take (i + 1)), oRow cS 23 32 y1 [(⟨(pairS ((List.getD l (2 * i) zS)) ((List.getD l ((2 * i) + 1) zS))).1, (pairS ((List.getD l (2 * i) zS)) ((List.getD l ((2 * i) + 1) zS))).2⟩ : S32)]] := by have e : ((upL l).take i) ++ [(⟨(pairS ((List.getD l (2 * i) zS)) ((List.getD l ((2 * i) + 1) zS))).1, (pairS ((List.getD l (2 * i) zS)) ((List.getD l ((2 * i) + 1) zS))).2⟩ : S32)] = (upL l).take (i + 1) := (upL_take l i (by omega)).symm; rw [e] at hH; exact hH
    clear hx
    refine lf_val (v := y2) (wantAll rfl) (rv_assign rfl (fr_eval rfl rfl)) ?_
    refine lf_nil ?_
    refine blk_n ?_
    refine then_n ?_
    replace hH : Heap (newN w) w w5 [oRow cS 23 32 y2 ((upL l).take (i + 1))] := hH.drop (.cons_cons _ (.cons _ .slnil))
    refine wp_gen (fun F' => F' 0 = v ∧ F' 2 = .slice none 0 0 ∧ F' 3 = y2 ∧ F' 4 = .int .i64 ((2 * i : Nat) : Int) ∧ F' 9 = .bool true) ⟨e0, e2, rfl, e4, e9⟩ ?_
    clear e0 e2 e3 e4 e9
    clear F
    rintro F ⟨e0, e2, e3, e4, e9⟩
    refine wp_regionF ?_
    refine lf_val (v := .int .i64 ((2 * i : Nat) : Int)) (wantAll rfl) (rv_move rfl (fr_eval rfl e4)) ?_
    refine lf_val (v := .int .i64 ((2 * (i + 1) : Nat) : Int)) (wantAll rfl) (rv_add rfl (fr_eval rfl rfl) rfl (wrap_i64 (by omega) (by omega) (by omega))) ?_
    refine lf_val (v := .int .i64 ((2 * (i + 1) : Nat) : Int)) (wantAll rfl) (rv_assign rfl (fr_eval rfl rfl)) ?_
    refine lf_nil ?_
    refine then_n ?_
    exact ⟨_, _, (by omega), rfl, i + 1, _, rfl, (by omega), e0, e2, e3, rfl, hH⟩
  · refine lf_val (v := .bool false) (wantAll rfl) (rv_lss rfl (fr_eval rfl rfl) (fr_eval rfl rfl) (decide_eq_false (by omega))) ?_
    refine lf_nil ?_
    refine then_n ?_
    refine wp_gen (fun F' => F' 0 = v ∧ F' 2 = .slice none 0 0 ∧ F' 3 = yo ∧ F' 4 = .int .i64 ((2 * i : Nat) : Int) ∧ F' 9 = .bool false) ⟨e0, e2, e3, e4, rfl⟩ ?_
    clear e0 e2 e3 e4
    clear F
    rintro F ⟨e0, e2, e3, e4, e9⟩
    refine wp_cond_false (fr_eval rfl e9) ?_
    refine wp_exit ?_
    refine then_exit ?_
    refine then_exit ?_
    refine blk_exit ?_
    refine then_n ?_
    refine wp_seq ?_
    refine wp_seq ?_
    refine wp_regionF ?_
    refine lf_val (v := v) (wantAll rfl) (rv_move rfl (fr_eval rfl e0)) ?_
    refine lf_val (v := .int .i64 ((l.length : Nat) : Int)) (wantAll rfl) (rv_len rfl (fr_eval rfl rfl) (hr.rd _ hH.chg) Try.underlying24) ?_
    refine lf_val (v := .int .i64 ((l.length % 2 : Nat) : Int)) (wantAll rfl) (rv_rem rfl (fr_eval rfl rfl) rfl (by decide) (rem_nat _ 2)) ?_
    by_cases hc2 : l.length % 2 = 1
    · refine lf_val (v := .bool true) (wantAll rfl) (rv_eql rfl (fr_eval rfl rfl) rfl (decide_eq_true (by omega))) ?_
      refine lf_nil ?_
      refine then_n ?_
      refine wp_gen (fun F' => F' 0 = v ∧ F' 2 = .slice none 0 0 ∧ F' 3 = yo ∧ F' 4 = .int .i64 ((2 * i : Nat) : Int) ∧ F' 9 = .bool false ∧ F' 28 = .bool true) ⟨e0, e2, e3, e4, e9, rfl⟩ ?_
      clear e0 e2 e3 e4 e9
      clear F
      rintro F ⟨e0, e2, e3, e4, e9, e28⟩
      refine wp_cond_true (fr_eval rfl e28) ?_
      refine wp_regionF ?_
      refine lf_val (v := yo) (wantAll rfl) (rv_move rfl (fr_eval rfl e3)) ?_
      refine lf_val (v := v) (wantAll rfl) (rv_move rfl (fr_eval rfl e0)) ?_
      refine lf_val (v := v) (wantAll rfl) (rv_move rfl (fr_eval rfl e0)) ?_
      refine lf_val (v := .int .i64 ((l.length : Nat) : Int)) (wantAll rfl) (rv_len rfl (fr_eval rfl rfl) (hr.rd _ hH.chg) Try.underlying24) ?_
      refine lf_val (v := .int .i64 ((l.length - 1 : Nat) : Int)) (wantAll rfl) (rv_sub rfl (fr_eval rfl rfl) rfl (wrap_i64 (by omega) (by omega) (by omega))) ?_
      refine lf_val (v := .pointer (some (elemA v ((l.length - 1) * 32)))) (wantAll rfl) (rv_index rfl (fr_eval rfl rfl) (fr_eval rfl rfl) (rdN (hr.rd _ hH.chg) rfl) (show l.length - 1 < l.length from (by omega)) Try.underlying24 Try.sz23 (by decide)) ?_
      refine lf_val (v := .agg (cBs (((List.getD l (l.length - 1) zS)).1)).toArray) (wantAll rfl) (rv_loadElem rfl (fr_eval rfl rfl) (rdN (hr.rd _ hH.chg) rfl) (show l.length - 1 < l.length from (by omega)) (by decide) (flat_part zS cS_len (show l.length - 1 < l.length from (by omega))) Try.underlying23 rfl Try.sz23) ?_
      refine lf_ex (wantAll rfl) (hx_lit1 hH Try.stSum (cs := cS (⟨((List.getD l (l.length - 1) zS)).1, ((List.getD l (l.length - 1) zS)).2⟩ : S32)) (xs := List.flatMap cS [(⟨((List.getD l (l.length - 1) zS)).1, ((List.getD l (l.length - 1) zS)).2⟩ : S32)]) rfl (fr_eval rfl rfl) (cS_ln (⟨((List.getD l (l.length - 1) zS)).1, ((List.getD l (l.length - 1) zS)).2⟩ : S32)) (by decide) (List.flatMap_singleton ..).symm) ?_
      clear hH
      rintro y3 w6 ⟨hH, hx⟩
      replace hH : Heap (newN w) w w6 [oRow cS 23 32 yo ((upL l).take i), oRow cS 23 32 y3 [(⟨((List.getD l (l.length - 1) zS)).1, ((List.getD l (l.length - 1) zS)).2⟩ : S32)]] := hH
      clear hx
      refine lf_ex (wantAll rfl) (hx_append hH Try.stSum (i := 0) (xs' := (((upL l).take i) ++ [(⟨((List.getD l (l.length - 1) zS)).1, ((List.getD l (l.length - 1) zS)).2⟩ : S32)]).flatMap cS) (nm := (((upL l).take i) ++ [(⟨((List.getD l (l.length - 1) zS)).1, ((List.getD l (l.length - 1) zS)).2⟩ : S32)]).length) rfl rfl (fun _ => rfl) List.length_append.symm List.flatMap_append.symm (Own.rd (hH.own (i := 1) rfl) (row_one cS_one)) (fr_eval rfl rfl) (fr_eval rfl rfl) (by simp only [List.length_append, List.length_cons, List.length_nil, List.length_take, upL_len]; omega)) ?_
      clear hH
      rintro y4 w7 ⟨hH, hx⟩
      replace hH : Heap (newN w) w w7 [oRow cS 23 32 y4 (((upL l).take i) ++ [(⟨((List.getD l (l.length - 1) zS)).1, ((List.getD l (l.length - 1) zS)).2⟩ : S32)]), oRow cS 23 32 y3 [(⟨((List.getD l (l.length - 1) zS)).1, ((List.getD l (l.length - 1) zS)).2⟩ : S32)]] := hH
      replace hH : Heap (newN w) w w7 [oRow cS 23 32 y4 (upL l), oRow cS 23 32 y3 [(⟨((List.getD l (l.length - 1) zS)).1, ((List.getD l (l.length - 1) zS)).2⟩ : S32)]] := by have e : ((upL l).take i) ++ [(⟨((List.getD l (l.length - 1) zS)).1, ((List.getD l (l.length - 1) zS)).2⟩ : S32)] = upL l := upL_odd (by omega) (by omega); rw [e] at hH; exact hH
      clear hx
      refine lf_val (v := y4) (wantAll rfl) (rv_assign rfl (fr_eval rfl rfl)) ?_
      refine lf_nil ?_
      refine then_n ?_
      refine wp_seq ?_
      replace hH : Heap (newN w) w w7 [oRow cS 23 32 y4 (upL l)] := hH.drop (.cons_cons _ (.cons _ .slnil))
      refine wp_gen (fun F' => F' 0 = v ∧ F' 2 = .slice none 0 0 ∧ F' 3 = y4 ∧ F' 4 = .int .i64 ((2 * i : Nat) : Int) ∧ F' 9 = .bool false ∧ F' 28 = .bool true) ⟨e0, e2, rfl, e4, e9, e28⟩ ?_
      clear e0 e2 e3 e4 e9 e28
      clear F
      rintro F ⟨e0, e2, e3, e4, e9, e28⟩
      refine wp_regionF ?_
      refine lf_val (v := y4) (wantAll rfl) (rv_move rfl (fr_eval rfl e3)) ?_
      refine lf_val (v := y4) (wantAll rfl) (rv_assign rfl (fr_eval rfl rfl)) ?_
      refine lf_nil ?_
      refine then_n ?_
      refine wp_gen (fun F' => F' 0 = v ∧ F' 2 = y4 ∧ F' 3 = y4 ∧ F' 4 = .int .i64 ((2 * i : Nat) : Int) ∧ F' 9 = .bool false ∧ F' 28 = .bool true) ⟨e0, rfl, e3, e4, e9, e28⟩ ?_
      clear e0 e2 e3 e4 e9 e28
      clear F
      rintro F ⟨e0, e2, e3, e4, e9, e28⟩
      refine wp_ret ?_
      exact bodyPost_ret (v := y4) (res1 rfl (ro_tmp rfl e2)) rfl (⟨⟨_, rfl, hH.own (i := 0) rfl, hH.ge (i := 0) rfl⟩, hH.done⟩)
    · refine lf_val (v := .bool false) (wantAll rfl) (rv_eql rfl (fr_eval rfl rfl) rfl (decide_eq_false (by omega))) ?_
      refine lf_nil ?_
      refine then_n ?_
      refine wp_gen (fun F' => F' 0 = v ∧ F' 2 = .slice none 0 0 ∧ F' 3 = yo ∧ F' 4 = .int .i64 ((2 * i : Nat) : Int) ∧ F' 9 = .bool false ∧ F' 28 = .bool false) ⟨e0, e2, e3, e4, e9, rfl⟩ ?_
      clear e0 e2 e3 e4 e9
      clear F
      rintro F ⟨e0, e2, e3, e4, e9, e28⟩
      refine wp_cond_false (fr_eval rfl e28) ?_
      refine wp_skip ?_
      refine then_n ?_
      refine wp_seq ?_
      replace hH : Heap (newN w) w w1 [oRow cS 23 32 yo (upL l)] := by have e : (upL l).take i = upL l := upL_even (by omega) (by omega); rw [← e]; exact hH
      refine wp_regionF ?_
      refine lf_val (v := yo) (wantAll rfl) (rv_move rfl (fr_eval rfl e3)) ?_
      refine lf_val (v := yo) (wantAll rfl) (rv_assign rfl (fr_eval rfl rfl)) ?_
      refine lf_nil ?_
      refine then_n ?_
      refine wp_gen (fun F' => F' 0 = v ∧ F' 2 = yo ∧ F' 3 = yo ∧ F' 4 = .int .i64 ((2 * i : Nat) : Int) ∧ F' 9 = .bool false ∧ F' 28 = .bool false) ⟨e0, rfl, e3, e4, e9, e28⟩ ?_
      clear e0 e2 e3 e4 e9 e28
      clear F
      rintro F ⟨e0, e2, e3, e4, e9, e28⟩
      refine wp_ret ?_
      exact bodyPost_ret (v := yo) (res1 rfl (ro_tmp rfl e2)) rfl (⟨⟨_, rfl, hH.own (i := 0) rfl, hH.ge (i := 0) rfl⟩, hH.done⟩)

theorem root_end {l row : List S32} (hl : ¬ l.length = 0) (hr : row.length ≤ 1) (ht : top row = top (l.map leafS)) : rootS l = row.getD 0 zS := by
  unfold rootS
  rw [if_neg (fun h => hl (by rw [h]; rfl)), ← ht, top_one hr]
  cases row <;> rfl

set_option maxRecDepth 100000 in
set_option maxHeartbeats 4000000 in
theorem root_calls (l : List S32) (hl : l.length ≤ 1000000) (v : Value) (w : World) (hr0 : Rd w 32 v l.length (l.flatMap cS)) :
    Calls Try.prog 19 #[v] w fun e'' w' => e'' = .returned (.agg (cBs (rootS l).1).toArray) ∧ Ext w w' := by
  refine calls_fr (args := [v]) (n := 18) Try.func19 rfl rfl (show 1 ≤ 18 by decide) ?_
  have hr := Rd.stab hr0
  have hH : Heap (newN w) w w [] := Heap.fresh
  refine wp_seq ?_
  refine wp_gen (fun F' => F' 0 = v) rfl ?_
  rintro F e0
  refine wp_regionF ?_
  refine lf_ex (wantAll rfl) (hx_alloc hH 23 (z := .agg (cBs (List.replicate 32 0)).toArray) (n := 32) (cs := cBs (List.replicate 32 0)) rfl (by kernel_rfl) (by rfl)) ?_
  clear hH
  rintro _ w1 ⟨g1, rfl, hH, hx⟩
  replace hH : Heap (newN w) w w1 [oBlk g1 (cBs (List.replicate 32 0)) 23] := hH
  clear hx
  refine lf_nil ?_
  refine then_n ?_
  refine wp_seq ?_
  refine wp_seq ?_
  refine wp_gen (fun F' => F' 0 = v ∧ F' 2 = .pointer (some ⟨g1, 0, none⟩)) ⟨e0, rfl⟩ ?_
  clear e0
  clear F
  rintro F ⟨e0, e2⟩
  refine wp_regionF ?_
  refine lf_val (v := v) (wantAll rfl) (rv_move rfl (fr_eval rfl e0)) ?_
  refine lf_val (v := .int .i64 ((l.length : Nat) : Int)) (wantAll rfl) (rv_len rfl (fr_eval rfl rfl) (hr.rd _ hH.chg) Try.underlying24) ?_
  by_cases hc1 : l.length = 0
  · refine lf_val (v := .bool true) (wantAll rfl) (rv_eql rfl (fr_eval rfl rfl) rfl (decide_eq_true (by omega))) ?_
    refine lf_nil ?_
    refine then_n ?_
    refine wp_gen (fun F' => F' 0 = v ∧ F' 2 = .pointer (some ⟨g1, 0, none⟩) ∧ F' 6 = .bool true) ⟨e0, e2, rfl⟩ ?_
    clear e0 e2
    clear F
    rintro F ⟨e0, e2, e6⟩
    refine wp_cond_true (fr_eval rfl e6) ?_
    refine wp_seq ?_
    refine wp_regionF ?_
    refine lf_call (wantAll rfl) (rv_call (args := [cB 3, .slice none 0 0]) rfl (evc rfl (evc rfl evn)) Try.call45) (join_calls 3 [] (flat0s) _ _ (rdP_nil _)) ?_
    rintro _ w2 ⟨rfl, hx⟩
    refine ⟨_, rfl, ?_⟩
    replace hH := hH.ext hx
    clear hx
    refine lf_sk (wantAll rfl) (hx_storeW hH (i := 0) (cs := cBs (join 3 [])) rfl rfl rfl (fr_eval rfl e2) (fr_eval rfl rfl) (sz_len Try.sz23 (cBs_len (join_length _ _))) (((cBs_len (List.length_replicate ..))).trans ((cBs_len (join_length _ _))).symm) ((cBs_one _))) ?_
    clear hH
    rintro w3 ⟨hH, hx⟩
    replace hH : Heap (newN w) w w3 [oBlk g1 (cBs (join 3 [])) 23] := hH
    clear hx
    refine lf_nil ?_
    refine then_n ?_
    refine wp_gen (fun F' => F' 0 = v ∧ F' 2 = .pointer (some ⟨g1, 0, none⟩) ∧ F' 6 = .bool true) ⟨e0, e2, e6⟩ ?_
    clear e0 e2 e6
    clear F
    rintro F ⟨e0, e2, e6⟩
    refine wp_ret ?_
    refine then_ret ?_
    exact bodyPost_ret (v := (.agg (cBs (join 3 [])).toArray)) (res1 rfl (ro_cell rfl e2 (hH.blk (i := 0) rfl) Try.underlying23 rfl (sz_len Try.sz23 (cBs_len (join_length _ _))))) rfl (⟨by rw [show rootS l = voidS by unfold rootS; rw [if_pos (List.eq_nil_of_length_eq_zero (by omega))]]; rfl, hH.done⟩)
  · refine lf_val (v := .bool false) (wantAll rfl) (rv_eql rfl (fr_eval rfl rfl) rfl (decide_eq_false (by omega))) ?_
    refine lf_nil ?_
    refine then_n ?_
    refine wp_gen (fun F' => F' 0 = v ∧ F' 2 = .pointer (some ⟨g1, 0, none⟩) ∧ F' 6 = .bool false) ⟨e0, e2, rfl⟩ ?_
    clear e0 e2
    clear F
    rintro F ⟨e0, e2, e6⟩
    refine wp_cond_false (fr_eval rfl e6) ?_
    refine wp_skip ?_
    refine then_n ?_
    refine wp_seq ?_
    refine wp_regionF ?_
    refine lf_val (v := v) (wantAll rfl) (rv_move rfl (fr_eval rfl e0)) ?_
    refine lf_call (wantAll rfl) (rv_call (args := [v]) rfl (evc (fr_eval rfl rfl) evn) Try.call61) (leaves_calls l (by omega) _ _ (hr.rd _ hH.chg)) ?_
    rintro _ w4 ⟨⟨y1, rfl, ho, hg⟩, hx⟩
    refine ⟨_, rfl, ?_⟩
    replace hH : Heap (newN w) w w4 [oBlk g1 (cBs (List.replicate 32 0)) 23, oRow cS 23 32 y1 (l.map leafS)] := hH.addOwn hx hg ho
    clear ho hg
    clear hx
    refine lf_val (v := y1) (wantAll rfl) (rv_assign rfl (fr_eval rfl rfl)) ?_
    refine lf_nil ?_
    refine then_n ?_
    refine wp_seq ?_
    refine wp_block ?_
    refine wp_gen (fun F' => F' 0 = v ∧ F' 2 = .pointer (some ⟨g1, 0, none⟩) ∧ F' 3 = y1 ∧ F' 6 = .bool false) ⟨e0, e2, rfl, e6⟩ ?_
    clear e0 e2 e6
    clear F
    rintro F ⟨e0, e2, e3, e6⟩
    refine wp_loopF (fun m F wr => ∃ row : List S32, ∃ yr : Value, m = row.length ∧ row.length ≤ 1000000 ∧ 1 ≤ row.length ∧ top row = top (l.map leafS) ∧ F 0 = v ∧ F 2 = .pointer (some ⟨g1, 0, none⟩) ∧ F 3 = yr ∧ F 6 = .bool false ∧ Heap (newN w) w wr [oBlk g1 (cBs (List.replicate 32 0)) 23, oRow cS 23 32 yr row]) ⟨_, _, rfl, (by simpa using hl), (by simp; omega), rfl, e0, e2, e3, e6, hH⟩ ?_
    clear e0 e2 e3 e6 hH
    clear F
    rintro m F w5 ⟨row, yr, rfl, prow0, prow1, prow2, e0, e2, e3, e6, hH⟩
    refine wp_seq ?_
    refine wp_seq ?_
    refine wp_regionF ?_
    refine lf_val (v := yr) (wantAll rfl) (rv_move rfl (fr_eval rfl e3)) ?_
    refine lf_val (v := .int .i64 ((row.length : Nat) : Int)) (wantAll rfl) (rv_len rfl (fr_eval rfl rfl) (Own.rd (hH.own (i := 1) rfl) (row_one cS_one)) Try.underlying24) ?_
    by_cases hc2 : row.length > 1
    · refine lf_val (v := .bool true) (wantAll rfl) (rv_gtr rfl (fr_eval rfl rfl) rfl (decide_eq_true (by omega))) ?_
      refine lf_nil ?_
      refine then_n ?_
      refine wp_gen (fun F' => F' 0 = v ∧ F' 2 = .pointer (some ⟨g1, 0, none⟩) ∧ F' 3 = yr ∧ F' 6 = .bool false ∧ F' 12 = .bool true) ⟨e0, e2, e3, e6, rfl⟩ ?_
      clear e0 e2 e3 e6
      clear F
      rintro F ⟨e0, e2, e3, e6, e12⟩
      refine wp_cond_true (fr_eval rfl e12) ?_
      refine wp_skip ?_
      refine then_n ?_
      refine wp_block ?_
      refine wp_regionF ?_
      refine lf_val (v := yr) (wantAll rfl) (rv_move rfl (fr_eval rfl e3)) ?_
      refine lf_call (wantAll rfl) (rv_call (args := [yr]) rfl (evc (fr_eval rfl rfl) evn) Try.call62) (up_calls row (by omega) _ _ (Own.rd (hH.own (i := 1) rfl) (row_one cS_one))) ?_
      rintro _ w6 ⟨⟨y2, rfl, ho, hg⟩, hx⟩
      refine ⟨_, rfl, ?_⟩
      replace hH : Heap (newN w) w w6 [oBlk g1 (cBs (List.replicate 32 0)) 23, oRow cS 23 32 yr row, oRow cS 23 32 y2 (upL row)] := hH.addOwn hx hg ho
      clear ho hg
      clear hx
      refine lf_val (v := y2) (wantAll rfl) (rv_assign rfl (fr_eval rfl rfl)) ?_
      refine lf_nil ?_
      refine blk_n ?_
      refine then_n ?_
      replace hH : Heap (newN w) w w6 [oBlk g1 (cBs (List.replicate 32 0)) 23, oRow cS 23 32 y2 (upL row)] := hH.drop (.cons_cons _ (.cons _ (.cons_cons _ .slnil)))
      exact ⟨_, _, (by rw [upL_len]; omega), rfl, _, _, rfl, (by rw [upL_len]; omega), (by rw [upL_len]; omega), ((top_up (by omega)).symm.trans prow2), e0, e2, rfl, e6, hH⟩
    · refine lf_val (v := .bool false) (wantAll rfl) (rv_gtr rfl (fr_eval rfl rfl) rfl (decide_eq_false (by omega))) ?_
      refine lf_nil ?_
      refine then_n ?_
      refine wp_gen (fun F' => F' 0 = v ∧ F' 2 = .pointer (some ⟨g1, 0, none⟩) ∧ F' 3 = yr ∧ F' 6 = .bool false ∧ F' 12 = .bool false) ⟨e0, e2, e3, e6, rfl⟩ ?_
      clear e0 e2 e3 e6
      clear F
      rintro F ⟨e0, e2, e3, e6, e12⟩
      refine wp_cond_false (fr_eval rfl e12) ?_
      refine wp_exit ?_
      refine then_exit ?_
      refine then_exit ?_
      refine blk_exit ?_
      refine then_n ?_
      refine wp_seq ?_
      refine wp_regionF ?_
      refine lf_val (v := yr) (wantAll rfl) (rv_move rfl (fr_eval rfl e3)) ?_
      refine lf_val (v := .pointer (some (elemA yr (0 * 32)))) (wantAll rfl) (rv_index rfl (fr_eval rfl rfl) (show _ = Value.int _ ((0 : Nat) : Int) from rfl) (rdN (Own.rd (hH.own (i := 1) rfl) (row_one cS_one)) rfl) (show 0 < row.length from (by omega)) Try.underlying24 Try.sz23 (by decide)) ?_
      refine lf_val (v := .agg (cBs (((List.getD row 0 zS)).1)).toArray) (wantAll rfl) (rv_loadElem rfl (fr_eval rfl rfl) (rdN (Own.rd (hH.own (i := 1) rfl) (row_one cS_one)) rfl) (show 0 < row.length from (by omega)) (by decide) (flat_part zS cS_len (show 0 < row.length from (by omega))) Try.underlying23 rfl Try.sz23) ?_
      refine lf_sk (wantAll rfl) (hx_storeW hH (i := 0) (cs := cBs (((List.getD row 0 zS)).1)) rfl rfl rfl (fr_eval rfl e2) (fr_eval rfl rfl) (sz_len Try.sz23 (cBs_len ((List.getD row 0 zS)).2)) (((cBs_len (List.length_replicate ..))).trans ((cBs_len ((List.getD row 0 zS)).2)).symm) ((cBs_one _))) ?_
      clear hH
      rintro w7 ⟨hH, hx⟩
      replace hH : Heap (newN w) w w7 [oBlk g1 (cBs (((List.getD row 0 zS)).1)) 23, oRow cS 23 32 yr row] := hH
      clear hx
      refine lf_nil ?_
      refine then_n ?_
      refine wp_gen (fun F' => F' 0 = v ∧ F' 2 = .pointer (some ⟨g1, 0, none⟩) ∧ F' 3 = yr ∧ F' 6 = .bool false ∧ F' 12 = .bool false) ⟨e0, e2, e3, e6, e12⟩ ?_
      clear e0 e2 e3 e6 e12
      clear F
      rintro F ⟨e0, e2, e3, e6, e12⟩
      refine wp_ret ?_
      exact bodyPost_ret (v := (.agg (cBs (((List.getD row 0 zS)).1)).toArray)) (res1 rfl (ro_cell rfl e2 (hH.blk (i := 0) rfl) Try.underlying23 rfl (sz_len Try.sz23 (cBs_len ((List.getD row 0 zS)).2)))) rfl (⟨by rw [show rootS l = List.getD row 0 zS from root_end (by omega) (by omega) prow2], hH.done⟩)

theorem step_now {c : Bool} {x y : S32} : (if c = true then x else y).1 = (if c = true then x.1 else y.1) := by cases c <;> rfl

set_option maxRecDepth 100000 in
set_option maxHeartbeats 4000000 in
theorem check_calls (r s : S32) (at' m' : Int) (hn : -9223372036854775808 ≤ at' ∧ at' ≤ 9223372036854775807) (hm : -9223372036854775808 ≤ m' ∧ m' ≤ 9223372036854775807) (p : List S32) (v : Value) (w : World) (hr0 : Rd w 32 v p.length (p.flatMap cS)) :
    Calls Try.prog 15 #[.agg (cBs r.1).toArray, .agg (cBs s.1).toArray, .int .i64 at', .int .i64 m', v] w fun e'' w' => e'' = .returned (.bool (checkB r s at' m' p)) ∧ Ext w w' := by
  refine calls_fr (args := [.agg (cBs r.1).toArray, .agg (cBs s.1).toArray, .int .i64 at', .int .i64 m', v]) (n := 62) Try.func15 rfl rfl (show 5 ≤ 62 by decide) ?_
  have hpm := Rd.max hr0
  have hr := Rd.stab hr0
  have hH : Heap (newN w) w w [] := Heap.fresh
  refine wp_seq ?_
  refine wp_gen (fun F' => F' 0 = .agg (cBs r.1).toArray ∧ F' 1 = .agg (cBs s.1).toArray ∧ F' 2 = .int .i64 at' ∧ F' 3 = .int .i64 m' ∧ F' 4 = v) ⟨rfl, rfl, rfl, rfl, rfl⟩ ?_
  rintro F ⟨e0, e1, e2, e3, e4⟩
  refine wp_regionF ?_
  refine lf_ex (wantAll rfl) (hx_box hH 23 (cs := cBs r.1) rfl (fr_eval rfl e0) (by rfl)) ?_
  clear hH
  rintro _ w1 ⟨g1, rfl, hH, hx⟩
  replace hH : Heap (newN w) w w1 [oBlk g1 (cBs r.1) 23] := hH
  clear hx
  refine lf_ex (wantAll rfl) (hx_box hH 23 (cs := cBs s.1) rfl (fr_eval rfl e1) (by rfl)) ?_
  clear hH
  rintro _ w2 ⟨g2, rfl, hH, hx⟩
  replace hH : Heap (newN w) w w2 [oBlk g1 (cBs r.1) 23, oBlk g2 (cBs s.1) 23] := hH
  clear hx
  refine lf_val (v := .bool false) (wantAll rfl) (rv_assign rfl rfl) ?_
  refine lf_nil ?_
  refine then_n ?_
  refine wp_seq ?_
  refine wp_seq ?_
  refine wp_gen (fun F' => F' 0 = .agg (cBs r.1).toArray ∧ F' 1 = .agg (cBs s.1).toArray ∧ F' 2 = .int .i64 at' ∧ F' 3 = .int .i64 m' ∧ F' 4 = v ∧ F' 5 = .pointer (some ⟨g1, 0, none⟩) ∧ F' 6 = .pointer (some ⟨g2, 0, none⟩) ∧ F' 10 = .bool false) ⟨e0, e1, e2, e3, e4, rfl, rfl, rfl⟩ ?_
  clear e0 e1 e2 e3 e4
  clear F
  rintro F ⟨e0, e1, e2, e3, e4, e5, e6, e10⟩
  refine wp_regionF ?_
  refine lf_val (v := .int .i64 at') (wantAll rfl) (rv_move rfl (fr_eval rfl e2)) ?_
  by_cases hc1 : at' < 0
  · refine lf_val (v := .bool true) (wantAll rfl) (rv_lss rfl (fr_eval rfl rfl) rfl (decide_eq_true (by omega))) ?_
    refine lf_val (v := .bool true) (wantAll rfl) (rv_move rfl (fr_eval rfl rfl)) ?_
    refine lf_not (wantNot (d := 14) rfl (by kernel_rfl) rfl rfl) ?_
    refine lf_not (wantNot (d := 14) rfl (by kernel_rfl) rfl rfl) ?_
    refine lf_not (wantNot (d := 14) rfl (by kernel_rfl) rfl rfl) ?_
    refine lf_val (v := .bool true) (wantAll rfl) (rv_pickT rfl (fr_eval rfl rfl) rfl) ?_
    refine lf_val (v := .bool true) (wantAll rfl) (rv_move rfl (fr_eval rfl rfl)) ?_
    refine lf_not (wantNot (d := 19) rfl (by kernel_rfl) rfl rfl) ?_
    refine lf_not (wantNot (d := 19) rfl (by kernel_rfl) rfl rfl) ?_
    refine lf_val (v := .bool true) (wantAll rfl) (rv_pickT rfl (fr_eval rfl rfl) rfl) ?_
    refine lf_nil ?_
    refine then_n ?_
    refine wp_gen (fun F' => F' 0 = .agg (cBs r.1).toArray ∧ F' 1 = .agg (cBs s.1).toArray ∧ F' 2 = .int .i64 at' ∧ F' 3 = .int .i64 m' ∧ F' 4 = v ∧ F' 5 = .pointer (some ⟨g1, 0, none⟩) ∧ F' 6 = .pointer (some ⟨g2, 0, none⟩) ∧ F' 10 = .bool false ∧ F' 22 = .bool true) ⟨e0, e1, e2, e3, e4, e5, e6, e10, rfl⟩ ?_
    clear e0 e1 e2 e3 e4 e5 e6 e10
    clear F
    rintro F ⟨e0, e1, e2, e3, e4, e5, e6, e10, e22⟩
    refine wp_cond_true (fr_eval rfl e22) ?_
    refine wp_seq ?_
    refine wp_regionF ?_
    refine lf_val (v := .bool false) (wantAll rfl) (rv_assign rfl rfl) ?_
    refine lf_nil ?_
    refine then_n ?_
    refine wp_gen (fun F' => F' 0 = .agg (cBs r.1).toArray ∧ F' 1 = .agg (cBs s.1).toArray ∧ F' 2 = .int .i64 at' ∧ F' 3 = .int .i64 m' ∧ F' 4 = v ∧ F' 5 = .pointer (some ⟨g1, 0, none⟩) ∧ F' 6 = .pointer (some ⟨g2, 0, none⟩) ∧ F' 10 = .bool false ∧ F' 22 = .bool true) ⟨e0, e1, e2, e3, e4, e5, e6, rfl, e22⟩ ?_
    clear e0 e1 e2 e3 e4 e5 e6 e10 e22
    clear F
    rintro F ⟨e0, e1, e2, e3, e4, e5, e6, e10, e22⟩
    refine wp_ret ?_
    refine then_ret ?_
    exact bodyPost_ret (v := (.bool false)) (res1 rfl (ro_tmp rfl e10)) rfl (⟨congrArg (fun b => Ending.returned (.bool b)) (checkB_no (by omega)).symm, hH.done⟩)
  · refine lf_val (v := .bool false) (wantAll rfl) (rv_lss rfl (fr_eval rfl rfl) rfl (decide_eq_false (by omega))) ?_
    refine lf_val (v := .bool false) (wantAll rfl) (rv_move rfl (fr_eval rfl rfl)) ?_
    refine lf_val (v := .int .i64 at') (wantF (d := 14) rfl (by kernel_rfl) rfl rfl) (rv_move rfl (fr_eval rfl e2)) ?_
    refine lf_val (v := .int .i64 m') (wantF (d := 14) rfl (by kernel_rfl) rfl rfl) (rv_move rfl (fr_eval rfl e3)) ?_
    by_cases hc2 : at' ≥ m'
    · refine lf_val (v := .bool true) (wantF (d := 14) rfl (by kernel_rfl) rfl rfl) (rv_geq rfl (fr_eval rfl rfl) (fr_eval rfl rfl) (decide_eq_true (by omega))) ?_
      refine lf_val (v := .bool true) (wantAll rfl) (rv_pickF rfl (fr_eval rfl rfl) (fr_eval rfl rfl)) ?_
      refine lf_val (v := .bool true) (wantAll rfl) (rv_move rfl (fr_eval rfl rfl)) ?_
      refine lf_not (wantNot (d := 19) rfl (by kernel_rfl) rfl rfl) ?_
      refine lf_not (wantNot (d := 19) rfl (by kernel_rfl) rfl rfl) ?_
      refine lf_val (v := .bool true) (wantAll rfl) (rv_pickT rfl (fr_eval rfl rfl) rfl) ?_
      refine lf_nil ?_
      refine then_n ?_
      refine wp_gen (fun F' => F' 0 = .agg (cBs r.1).toArray ∧ F' 1 = .agg (cBs s.1).toArray ∧ F' 2 = .int .i64 at' ∧ F' 3 = .int .i64 m' ∧ F' 4 = v ∧ F' 5 = .pointer (some ⟨g1, 0, none⟩) ∧ F' 6 = .pointer (some ⟨g2, 0, none⟩) ∧ F' 10 = .bool false ∧ F' 22 = .bool true) ⟨e0, e1, e2, e3, e4, e5, e6, e10, rfl⟩ ?_
      clear e0 e1 e2 e3 e4 e5 e6 e10
      clear F
      rintro F ⟨e0, e1, e2, e3, e4, e5, e6, e10, e22⟩
      refine wp_cond_true (fr_eval rfl e22) ?_
      refine wp_seq ?_
      refine wp_regionF ?_
      refine lf_val (v := .bool false) (wantAll rfl) (rv_assign rfl rfl) ?_
      refine lf_nil ?_
      refine then_n ?_
      refine wp_gen (fun F' => F' 0 = .agg (cBs r.1).toArray ∧ F' 1 = .agg (cBs s.1).toArray ∧ F' 2 = .int .i64 at' ∧ F' 3 = .int .i64 m' ∧ F' 4 = v ∧ F' 5 = .pointer (some ⟨g1, 0, none⟩) ∧ F' 6 = .pointer (some ⟨g2, 0, none⟩) ∧ F' 10 = .bool false ∧ F' 22 = .bool true) ⟨e0, e1, e2, e3, e4, e5, e6, rfl, e22⟩ ?_
      clear e0 e1 e2 e3 e4 e5 e6 e10 e22
      clear F
      rintro F ⟨e0, e1, e2, e3, e4, e5, e6, e10, e22⟩
      refine wp_ret ?_
      refine then_ret ?_
      exact bodyPost_ret (v := (.bool false)) (res1 rfl (ro_tmp rfl e10)) rfl (⟨congrArg (fun b => Ending.returned (.bool b)) (checkB_no (by omega)).symm, hH.done⟩)
    · refine lf_val (v := .bool false) (wantF (d := 14) rfl (by kernel_rfl) rfl rfl) (rv_geq rfl (fr_eval rfl rfl) (fr_eval rfl rfl) (decide_eq_false (by omega))) ?_
      refine lf_val (v := .bool false) (wantAll rfl) (rv_pickF rfl (fr_eval rfl rfl) (fr_eval rfl rfl)) ?_
      refine lf_val (v := .bool false) (wantAll rfl) (rv_move rfl (fr_eval rfl rfl)) ?_
      refine lf_val (v := .int .i64 m') (wantF (d := 19) rfl (by kernel_rfl) rfl rfl) (rv_move rfl (fr_eval rfl e3)) ?_
      by_cases hc3 : m' > 4096
      · refine lf_val (v := .bool true) (wantF (d := 19) rfl (by kernel_rfl) rfl rfl) (rv_gtr rfl (fr_eval rfl rfl) rfl (decide_eq_true (by omega))) ?_
        refine lf_val (v := .bool true) (wantAll rfl) (rv_pickF rfl (fr_eval rfl rfl) (fr_eval rfl rfl)) ?_
        refine lf_nil ?_
        refine then_n ?_
        refine wp_gen (fun F' => F' 0 = .agg (cBs r.1).toArray ∧ F' 1 = .agg (cBs s.1).toArray ∧ F' 2 = .int .i64 at' ∧ F' 3 = .int .i64 m' ∧ F' 4 = v ∧ F' 5 = .pointer (some ⟨g1, 0, none⟩) ∧ F' 6 = .pointer (some ⟨g2, 0, none⟩) ∧ F' 10 = .bool false ∧ F' 22 = .bool true) ⟨e0, e1, e2, e3, e4, e5, e6, e10, rfl⟩ ?_
        clear e0 e1 e2 e3 e4 e5 e6 e10
        clear F
        rintro F ⟨e0, e1, e2, e3, e4, e5, e6, e10, e22⟩
        refine wp_cond_true (fr_eval rfl e22) ?_
        refine wp_seq ?_
        refine wp_regionF ?_
        refine lf_val (v := .bool false) (wantAll rfl) (rv_assign rfl rfl) ?_
        refine lf_nil ?_
        refine then_n ?_
        refine wp_gen (fun F' => F' 0 = .agg (cBs r.1).toArray ∧ F' 1 = .agg (cBs s.1).toArray ∧ F' 2 = .int .i64 at' ∧ F' 3 = .int .i64 m' ∧ F' 4 = v ∧ F' 5 = .pointer (some ⟨g1, 0, none⟩) ∧ F' 6 = .pointer (some ⟨g2, 0, none⟩) ∧ F' 10 = .bool false ∧ F' 22 = .bool true) ⟨e0, e1, e2, e3, e4, e5, e6, rfl, e22⟩ ?_
        clear e0 e1 e2 e3 e4 e5 e6 e10 e22
        clear F
        rintro F ⟨e0, e1, e2, e3, e4, e5, e6, e10, e22⟩
        refine wp_ret ?_
        refine then_ret ?_
        exact bodyPost_ret (v := (.bool false)) (res1 rfl (ro_tmp rfl e10)) rfl (⟨congrArg (fun b => Ending.returned (.bool b)) (checkB_no (by omega)).symm, hH.done⟩)
      · refine lf_val (v := .bool false) (wantF (d := 19) rfl (by kernel_rfl) rfl rfl) (rv_gtr rfl (fr_eval rfl rfl) rfl (decide_eq_false (by omega))) ?_
        refine lf_val (v := .bool false) (wantAll rfl) (rv_pickF rfl (fr_eval rfl rfl) (fr_eval rfl rfl)) ?_
        refine lf_nil ?_
        refine then_n ?_
        refine wp_gen (fun F' => F' 0 = .agg (cBs r.1).toArray ∧ F' 1 = .agg (cBs s.1).toArray ∧ F' 2 = .int .i64 at' ∧ F' 3 = .int .i64 m' ∧ F' 4 = v ∧ F' 5 = .pointer (some ⟨g1, 0, none⟩) ∧ F' 6 = .pointer (some ⟨g2, 0, none⟩) ∧ F' 10 = .bool false ∧ F' 22 = .bool false) ⟨e0, e1, e2, e3, e4, e5, e6, e10, rfl⟩ ?_
        clear e0 e1 e2 e3 e4 e5 e6 e10
        clear F
        rintro F ⟨e0, e1, e2, e3, e4, e5, e6, e10, e22⟩
        refine wp_cond_false (fr_eval rfl e22) ?_
        refine wp_skip ?_
        refine then_n ?_
        refine wp_seq ?_
        obtain ⟨a0, rfl⟩ : ∃ a0 : Nat, at' = (a0 : Int) := ⟨at'.toNat, by omega⟩
        obtain ⟨m0, rfl⟩ : ∃ m0 : Nat, m' = (m0 : Int) := ⟨m'.toNat, by omega⟩
        refine wp_regionF ?_
        refine lf_val (v := .agg (cBs s.1).toArray) (wantAll rfl) (rv_loadW rfl (hH.blk (i := 1) rfl) (fr_eval rfl e6) Try.underlying23 rfl (sz_len Try.sz23 (cBs_len s.2))) ?_
        refine lf_call (wantAll rfl) (rv_call (args := [.agg (cBs s.1).toArray]) rfl (evc (fr_eval rfl rfl) evn) Try.call21) (leaf_calls s _) ?_
        rintro _ w3 ⟨rfl, hx⟩
        refine ⟨_, rfl, ?_⟩
        replace hH := hH.ext hx
        clear hx
        refine lf_ex (wantAll rfl) (hx_alloc hH 23 (z := .agg (cBs (List.replicate 32 0)).toArray) (n := 32) (cs := cBs (List.replicate 32 0)) rfl (by kernel_rfl) (by rfl)) ?_
        clear hH
        rintro _ w4 ⟨g3, rfl, hH, hx⟩
        replace hH : Heap (newN w) w w4 [oBlk g1 (cBs r.1) 23, oBlk g2 (cBs s.1) 23, oBlk g3 (cBs (List.replicate 32 0)) 23] := hH
        clear hx
        refine lf_sk (wantAll rfl) (hx_storeW hH (i := 2) (cs := cBs ((leafS s).1)) rfl rfl rfl (fr_eval rfl rfl) (fr_eval rfl rfl) (sz_len Try.sz23 (cBs_len (leafS s).2)) (((cBs_len (List.length_replicate ..))).trans ((cBs_len (leafS s).2)).symm) ((cBs_one _))) ?_
        clear hH
        rintro w5 ⟨hH, hx⟩
        replace hH : Heap (newN w) w w5 [oBlk g1 (cBs r.1) 23, oBlk g2 (cBs s.1) 23, oBlk g3 (cBs ((leafS s).1)) 23] := hH
        clear hx
        refine lf_nil ?_
        refine then_n ?_
        refine wp_seq ?_
        refine wp_block ?_
        refine wp_gen (fun F' => F' 0 = .agg (cBs r.1).toArray ∧ F' 1 = .agg (cBs s.1).toArray ∧ F' 2 = .int .i64 ((a0 : Nat) : Int) ∧ F' 3 = .int .i64 ((m0 : Nat) : Int) ∧ F' 4 = v ∧ F' 5 = .pointer (some ⟨g1, 0, none⟩) ∧ F' 6 = .pointer (some ⟨g2, 0, none⟩) ∧ F' 10 = .bool false ∧ F' 11 = .pointer (some ⟨g3, 0, none⟩) ∧ F' 22 = .bool false) ⟨e0, e1, e2, e3, e4, e5, e6, e10, rfl, e22⟩ ?_
        clear e0 e1 e2 e3 e4 e5 e6 e10 e22
        clear F
        rintro F ⟨e0, e1, e2, e3, e4, e5, e6, e10, e11, e22⟩
        refine wp_loopF (fun m F wr => ∃ a : Nat, ∃ m2 : Nat, ∃ now : S32, ∃ q : List S32, ∃ vp : Value, m = m2 + 1 ∧ a < m2 ∧ m2 ≤ 4096 ∧ q.length ≤ 9223372036854775807 ∧ chk (leafS s) a0 m0 p = chk now a m2 q ∧ Stab (newN w) w 32 vp q.length (q.flatMap cS) ∧ F 0 = .agg (cBs r.1).toArray ∧ F 1 = .agg (cBs s.1).toArray ∧ F 2 = .int .i64 ((a : Nat) : Int) ∧ F 3 = .int .i64 ((m2 : Nat) : Int) ∧ F 4 = vp ∧ F 5 = .pointer (some ⟨g1, 0, none⟩) ∧ F 6 = .pointer (some ⟨g2, 0, none⟩) ∧ F 11 = .pointer (some ⟨g3, 0, none⟩) ∧ F 22 = .bool false ∧ Heap (newN w) w wr [oBlk g1 (cBs r.1) 23, oBlk g2 (cBs s.1) 23, oBlk g3 (cBs now.1) 23]) ⟨a0, m0, leafS s, p, v, rfl, (by omega), (by omega), (by omega), rfl, hr, e0, e1, e2, e3, e4, e5, e6, e11, e22, hH⟩ ?_
        clear e0 e1 e2 e3 e4 e5 e6 e10 e11 e22 hH
        clear F
        rintro m F w6 ⟨a, m2, now, q, vp, rfl, pa0, pa1, pa2, pa3, pa4, e0, e1, e2, e3, e4, e5, e6, e11, e22, hH⟩
        refine wp_seq ?_
        refine wp_seq ?_
        refine wp_regionF ?_
        refine lf_val (v := .int .i64 ((m2 : Nat) : Int)) (wantAll rfl) (rv_move rfl (fr_eval rfl e3)) ?_
        by_cases hc4 : m2 > 1
        · refine lf_val (v := .bool true) (wantAll rfl) (rv_gtr rfl (fr_eval rfl rfl) rfl (decide_eq_true (by omega))) ?_
          refine lf_nil ?_
          refine then_n ?_
          refine wp_gen (fun F' => F' 0 = .agg (cBs r.1).toArray ∧ F' 1 = .agg (cBs s.1).toArray ∧ F' 2 = .int .i64 ((a : Nat) : Int) ∧ F' 3 = .int .i64 ((m2 : Nat) : Int) ∧ F' 4 = vp ∧ F' 5 = .pointer (some ⟨g1, 0, none⟩) ∧ F' 6 = .pointer (some ⟨g2, 0, none⟩) ∧ F' 11 = .pointer (some ⟨g3, 0, none⟩) ∧ F' 22 = .bool false ∧ F' 26 = .bool true) ⟨e0, e1, e2, e3, e4, e5, e6, e11, e22, rfl⟩ ?_
          clear e0 e1 e2 e3 e4 e5 e6 e11 e22
          clear F
          rintro F ⟨e0, e1, e2, e3, e4, e5, e6, e11, e22, e26⟩
          refine wp_cond_true (fr_eval rfl e26) ?_
          refine wp_skip ?_
          refine then_n ?_
          refine wp_block ?_
          refine wp_seq ?_
          refine wp_seq ?_
          refine wp_regionF ?_
          refine lf_val (v := .int .i64 ((a : Nat) : Int)) (wantAll rfl) (rv_move rfl (fr_eval rfl e2)) ?_
          refine lf_val (v := .int .i64 ((beside a : Nat) : Int)) (wantAll rfl) (rv_xor rfl (fr_eval rfl rfl) rfl (xor1_nat _ (by omega))) ?_
          refine lf_val (v := .int .i64 ((m2 : Nat) : Int)) (wantAll rfl) (rv_move rfl (fr_eval rfl e3)) ?_
          by_cases hc5 : beside a < m2
          · refine lf_val (v := .bool true) (wantAll rfl) (rv_lss rfl (fr_eval rfl rfl) (fr_eval rfl rfl) (decide_eq_true (by omega))) ?_
            refine lf_nil ?_
            refine then_n ?_
            refine wp_gen (fun F' => F' 0 = .agg (cBs r.1).toArray ∧ F' 1 = .agg (cBs s.1).toArray ∧ F' 2 = .int .i64 ((a : Nat) : Int) ∧ F' 3 = .int .i64 ((m2 : Nat) : Int) ∧ F' 4 = vp ∧ F' 5 = .pointer (some ⟨g1, 0, none⟩) ∧ F' 6 = .pointer (some ⟨g2, 0, none⟩) ∧ F' 11 = .pointer (some ⟨g3, 0, none⟩) ∧ F' 22 = .bool false ∧ F' 26 = .bool true ∧ F' 30 = .bool true) ⟨e0, e1, e2, e3, e4, e5, e6, e11, e22, e26, rfl⟩ ?_
            clear e0 e1 e2 e3 e4 e5 e6 e11 e22 e26
            clear F
            rintro F ⟨e0, e1, e2, e3, e4, e5, e6, e11, e22, e26, e30⟩
            refine wp_cond_true (fr_eval rfl e30) ?_
            refine wp_seq ?_
            refine wp_seq ?_
            refine wp_regionF ?_
            refine lf_val (v := vp) (wantAll rfl) (rv_move rfl (fr_eval rfl e4)) ?_
            refine lf_val (v := .int .i64 ((q.length : Nat) : Int)) (wantAll rfl) (rv_len rfl (fr_eval rfl rfl) (pa4.rd _ hH.chg) Try.underlying24) ?_
            by_cases hc6 : q.length = 0
            · refine lf_val (v := .bool true) (wantAll rfl) (rv_eql rfl (fr_eval rfl rfl) rfl (decide_eq_true (by omega))) ?_
              refine lf_nil ?_
              refine then_n ?_
              refine wp_gen (fun F' => F' 0 = .agg (cBs r.1).toArray ∧ F' 1 = .agg (cBs s.1).toArray ∧ F' 2 = .int .i64 ((a : Nat) : Int) ∧ F' 3 = .int .i64 ((m2 : Nat) : Int) ∧ F' 4 = vp ∧ F' 5 = .pointer (some ⟨g1, 0, none⟩) ∧ F' 6 = .pointer (some ⟨g2, 0, none⟩) ∧ F' 11 = .pointer (some ⟨g3, 0, none⟩) ∧ F' 22 = .bool false ∧ F' 26 = .bool true ∧ F' 30 = .bool true ∧ F' 33 = .bool true) ⟨e0, e1, e2, e3, e4, e5, e6, e11, e22, e26, e30, rfl⟩ ?_
              clear e0 e1 e2 e3 e4 e5 e6 e11 e22 e26 e30
              clear F
              rintro F ⟨e0, e1, e2, e3, e4, e5, e6, e11, e22, e26, e30, e33⟩
              refine wp_cond_true (fr_eval rfl e33) ?_
              refine wp_seq ?_
              refine wp_regionF ?_
              refine lf_val (v := .bool false) (wantAll rfl) (rv_assign rfl rfl) ?_
              refine lf_nil ?_
              refine then_n ?_
              refine wp_gen (fun F' => F' 0 = .agg (cBs r.1).toArray ∧ F' 1 = .agg (cBs s.1).toArray ∧ F' 2 = .int .i64 ((a : Nat) : Int) ∧ F' 3 = .int .i64 ((m2 : Nat) : Int) ∧ F' 4 = vp ∧ F' 5 = .pointer (some ⟨g1, 0, none⟩) ∧ F' 6 = .pointer (some ⟨g2, 0, none⟩) ∧ F' 10 = .bool false ∧ F' 11 = .pointer (some ⟨g3, 0, none⟩) ∧ F' 22 = .bool false ∧ F' 26 = .bool true ∧ F' 30 = .bool true ∧ F' 33 = .bool true) ⟨e0, e1, e2, e3, e4, e5, e6, rfl, e11, e22, e26, e30, e33⟩ ?_
              clear e0 e1 e2 e3 e4 e5 e6 e11 e22 e26 e30 e33
              clear F
              rintro F ⟨e0, e1, e2, e3, e4, e5, e6, e10, e11, e22, e26, e30, e33⟩
              refine wp_ret ?_
              refine then_ret ?_
              refine then_ret ?_
              refine blk_ret ?_
              refine then_ret ?_
              refine blk_ret ?_
              refine then_ret ?_
              exact bodyPost_ret (v := (.bool false)) (res1 rfl (ro_tmp rfl e10)) rfl (⟨congrArg (fun b => Ending.returned (.bool b)) (checkB_none (pa3.trans (chk_none (by omega) (by omega) (by omega)))).symm, hH.done⟩)
            · refine lf_val (v := .bool false) (wantAll rfl) (rv_eql rfl (fr_eval rfl rfl) rfl (decide_eq_false (by omega))) ?_
              refine lf_nil ?_
              refine then_n ?_
              refine wp_gen (fun F' => F' 0 = .agg (cBs r.1).toArray ∧ F' 1 = .agg (cBs s.1).toArray ∧ F' 2 = .int .i64 ((a : Nat) : Int) ∧ F' 3 = .int .i64 ((m2 : Nat) : Int) ∧ F' 4 = vp ∧ F' 5 = .pointer (some ⟨g1, 0, none⟩) ∧ F' 6 = .pointer (some ⟨g2, 0, none⟩) ∧ F' 11 = .pointer (some ⟨g3, 0, none⟩) ∧ F' 22 = .bool false ∧ F' 26 = .bool true ∧ F' 30 = .bool true ∧ F' 33 = .bool false) ⟨e0, e1, e2, e3, e4, e5, e6, e11, e22, e26, e30, rfl⟩ ?_
              clear e0 e1 e2 e3 e4 e5 e6 e11 e22 e26 e30
              clear F
              rintro F ⟨e0, e1, e2, e3, e4, e5, e6, e11, e22, e26, e30, e33⟩
              refine wp_cond_false (fr_eval rfl e33) ?_
              refine wp_skip ?_
              refine then_n ?_
              refine wp_seq ?_
              refine wp_seq ?_
              refine wp_regionF ?_
              refine lf_val (v := .int .i64 ((a : Nat) : Int)) (wantAll rfl) (rv_move rfl (fr_eval rfl e2)) ?_
              refine lf_val (v := .int .i64 ((a % 2 : Nat) : Int)) (wantAll rfl) (rv_rem rfl (fr_eval rfl rfl) rfl (by decide) (rem_nat _ 2)) ?_
              by_cases hc7 : a % 2 = 0
              · refine lf_val (v := .bool true) (wantAll rfl) (rv_eql rfl (fr_eval rfl rfl) rfl (decide_eq_true (by omega))) ?_
                refine lf_nil ?_
                refine then_n ?_
                refine wp_gen (fun F' => F' 0 = .agg (cBs r.1).toArray ∧ F' 1 = .agg (cBs s.1).toArray ∧ F' 2 = .int .i64 ((a : Nat) : Int) ∧ F' 3 = .int .i64 ((m2 : Nat) : Int) ∧ F' 4 = vp ∧ F' 5 = .pointer (some ⟨g1, 0, none⟩) ∧ F' 6 = .pointer (some ⟨g2, 0, none⟩) ∧ F' 11 = .pointer (some ⟨g3, 0, none⟩) ∧ F' 22 = .bool false ∧ F' 26 = .bool true ∧ F' 30 = .bool true ∧ F' 33 = .bool false ∧ F' 36 = .bool true) ⟨e0, e1, e2, e3, e4, e5, e6, e11, e22, e26, e30, e33, rfl⟩ ?_
                clear e0 e1 e2 e3 e4 e5 e6 e11 e22 e26 e30 e33
                clear F
                rintro F ⟨e0, e1, e2, e3, e4, e5, e6, e11, e22, e26, e30, e33, e36⟩
                refine wp_cond_true (fr_eval rfl e36) ?_
                refine wp_regionX (fun _ => False) 4 (by kernel_rfl) (by kernel_rfl) ?_
                refine xl_take (i := 0) (v := .agg (cBs now.1).toArray) rfl (by kernel_rfl) (by kernel_rfl) (by kernel_rfl) (by kernel_rfl) (yx_val (wantAll rfl) (fun w' hx' => rv_loadW rfl ((hH.ext hx').blk (i := 2) rfl) (fr_eval rfl e11) Try.underlying23 rfl (sz_len Try.sz23 (cBs_len now.2)))) ?_
                refine xl_take (i := 1) (v := vp) rfl (by kernel_rfl) (by kernel_rfl) (by kernel_rfl) (by kernel_rfl) (yx_val (wantAll rfl) (fun w' hx' => rv_move rfl (fr_eval rfl e4))) ?_
                refine xl_take (i := 2) (v := .pointer (some (elemA vp (0 * 32)))) rfl (by kernel_rfl) (by kernel_rfl) (by kernel_rfl) (by kernel_rfl) (yx_val (wantAll rfl) (fun w' hx' => rv_index rfl (fr_eval rfl rfl) (show _ = Value.int _ ((0 : Nat) : Int) from rfl) (rdN (pa4.rd _ (hH.chg.trans (Ext.any hx'))) rfl) (show 0 < q.length from (by omega)) Try.underlying24 Try.sz23 (by decide))) ?_
                refine xl_take (i := 3) (v := .agg (cBs (((List.getD q 0 zS)).1)).toArray) rfl (by kernel_rfl) (by kernel_rfl) (by kernel_rfl) (by kernel_rfl) (yx_val (wantAll rfl) (fun w' hx' => rv_loadElem rfl (fr_eval rfl rfl) (rdN (pa4.rd _ (hH.chg.trans (Ext.any hx'))) rfl) (show 0 < q.length from (by omega)) (by decide) (flat_part zS cS_len (show 0 < q.length from (by omega))) Try.underlying23 rfl Try.sz23)) ?_
                refine xl_tail (s := 4) rfl ?_
                intro w7 hx
                replace hH := hH.ext hx
                clear hx
                refine lf_call (wantAll rfl) (rv_call (args := [cB 2, .agg (cBs now.1).toArray, .agg (cBs (((List.getD q 0 zS)).1)).toArray]) rfl (evc rfl (evc (fr_eval rfl rfl) (evc (fr_eval rfl rfl) evn))) Try.call59) (pair_calls 2 now.1 (((List.getD q 0 zS)).1) now.2 (((List.getD q 0 zS)).2) _) ?_
                rintro _ w8 ⟨rfl, hx⟩
                refine ⟨_, rfl, ?_⟩
                replace hH := hH.ext hx
                clear hx
                refine lf_sk (wantAll rfl) (hx_storeW hH (i := 2) (cs := cBs ((pairS now ((List.getD q 0 zS))).1)) rfl rfl rfl (fr_eval rfl e11) (fr_eval rfl rfl) (sz_len Try.sz23 (cBs_len (pairS now ((List.getD q 0 zS))).2)) (((cBs_len now.2)).trans ((cBs_len (pairS now ((List.getD q 0 zS))).2)).symm) ((cBs_one _))) ?_
                clear hH
                rintro w9 ⟨hH, hx⟩
                replace hH : Heap (newN w) w w9 [oBlk g1 (cBs r.1) 23, oBlk g2 (cBs s.1) 23, oBlk g3 (cBs ((pairS now ((List.getD q 0 zS))).1)) 23] := hH
                clear hx
                refine lf_nil ?_
                refine then_n ?_
                refine wp_gen (fun F' => F' 0 = .agg (cBs r.1).toArray ∧ F' 1 = .agg (cBs s.1).toArray ∧ F' 2 = .int .i64 ((a : Nat) : Int) ∧ F' 3 = .int .i64 ((m2 : Nat) : Int) ∧ F' 4 = vp ∧ F' 5 = .pointer (some ⟨g1, 0, none⟩) ∧ F' 6 = .pointer (some ⟨g2, 0, none⟩) ∧ F' 11 = .pointer (some ⟨g3, 0, none⟩) ∧ F' 22 = .bool false ∧ F' 26 = .bool true ∧ F' 30 = .bool true ∧ F' 33 = .bool false ∧ F' 36 = .bool true) ⟨e0, e1, e2, e3, e4, e5, e6, e11, e22, e26, e30, e33, e36⟩ ?_
                clear e0 e1 e2 e3 e4 e5 e6 e11 e22 e26 e30 e33 e36
                clear F
                rintro F ⟨e0, e1, e2, e3, e4, e5, e6, e11, e22, e26, e30, e33, e36⟩
                refine wp_regionF ?_
                refine lf_val (v := vp) (wantAll rfl) (rv_move rfl (fr_eval rfl e4)) ?_
                refine lf_val (v := slcV vp 32 1 q.length) (wantAll rfl) (rv_slcL (l := 1) Try.stSum rfl (fr_eval rfl rfl) (rdN (pa4.rd _ hH.chg) rfl) (show _ = Value.int _ ((1 : Nat) : Int) from rfl) (by omega)) ?_
                refine lf_val (v := slcV vp 32 1 q.length) (wantAll rfl) (rv_assign rfl (fr_eval rfl rfl)) ?_
                refine lf_nil ?_
                refine then_n ?_
                refine wp_gen (fun F' => F' 0 = .agg (cBs r.1).toArray ∧ F' 1 = .agg (cBs s.1).toArray ∧ F' 2 = .int .i64 ((a : Nat) : Int) ∧ F' 3 = .int .i64 ((m2 : Nat) : Int) ∧ F' 4 = slcV vp 32 1 q.length ∧ F' 5 = .pointer (some ⟨g1, 0, none⟩) ∧ F' 6 = .pointer (some ⟨g2, 0, none⟩) ∧ F' 11 = .pointer (some ⟨g3, 0, none⟩) ∧ F' 22 = .bool false ∧ F' 26 = .bool true ∧ F' 30 = .bool true ∧ F' 33 = .bool false ∧ F' 36 = .bool true) ⟨e0, e1, e2, e3, rfl, e5, e6, e11, e22, e26, e30, e33, e36⟩ ?_
                clear e0 e1 e2 e3 e4 e5 e6 e11 e22 e26 e30 e33 e36
                clear F
                rintro F ⟨e0, e1, e2, e3, e4, e5, e6, e11, e22, e26, e30, e33, e36⟩
                refine wp_regionF ?_
                refine lf_val (v := .int .i64 ((a : Nat) : Int)) (wantAll rfl) (rv_move rfl (fr_eval rfl e2)) ?_
                refine lf_val (v := .int .i64 ((a / 2 : Nat) : Int)) (wantAll rfl) (rv_quo rfl (fr_eval rfl rfl) rfl (by decide) (quo_nat (n := 2) (by omega))) ?_
                refine lf_val (v := .int .i64 ((m2 : Nat) : Int)) (wantAll rfl) (rv_move rfl (fr_eval rfl e3)) ?_
                refine lf_val (v := .int .i64 ((m2 + 1 : Nat) : Int)) (wantAll rfl) (rv_add rfl (fr_eval rfl rfl) rfl (wrap_i64 (by omega) (by omega) (by omega))) ?_
                refine lf_val (v := .int .i64 (((m2 + 1) / 2 : Nat) : Int)) (wantAll rfl) (rv_quo rfl (fr_eval rfl rfl) rfl (by decide) (quo_nat (n := 2) (by omega))) ?_
                refine lf_val (v := .int .i64 ((a / 2 : Nat) : Int)) (wantAll rfl) (rv_assign rfl (fr_eval rfl rfl)) ?_
                refine lf_val (v := .int .i64 (((m2 + 1) / 2 : Nat) : Int)) (wantAll rfl) (rv_assign rfl (fr_eval rfl rfl)) ?_
                refine lf_nil ?_
                refine blk_n ?_
                refine then_n ?_
                exact ⟨_, _, (by omega), rfl, _, _, (pairS now ((List.getD q 0 zS))), _, _, rfl, (by omega), (by omega), (by simp only [List.length_take, List.length_drop]; omega), (by rw [pa3, chk_go (by omega) (by omega) (by omega), take_drop1 rfl]; first | rw [if_pos (by omega)] | rw [if_neg (by omega)]), (Stab.slcF (l := 1) (h := List.length q) cS_len pa4 rfl (by omega) (Nat.le_refl _)), e0, e1, rfl, rfl, e4, e5, e6, e11, e22, hH⟩
              · refine lf_val (v := .bool false) (wantAll rfl) (rv_eql rfl (fr_eval rfl rfl) rfl (decide_eq_false (by omega))) ?_
                refine lf_nil ?_
                refine then_n ?_
                refine wp_gen (fun F' => F' 0 = .agg (cBs r.1).toArray ∧ F' 1 = .agg (cBs s.1).toArray ∧ F' 2 = .int .i64 ((a : Nat) : Int) ∧ F' 3 = .int .i64 ((m2 : Nat) : Int) ∧ F' 4 = vp ∧ F' 5 = .pointer (some ⟨g1, 0, none⟩) ∧ F' 6 = .pointer (some ⟨g2, 0, none⟩) ∧ F' 11 = .pointer (some ⟨g3, 0, none⟩) ∧ F' 22 = .bool false ∧ F' 26 = .bool true ∧ F' 30 = .bool true ∧ F' 33 = .bool false ∧ F' 36 = .bool false) ⟨e0, e1, e2, e3, e4, e5, e6, e11, e22, e26, e30, e33, rfl⟩ ?_
                clear e0 e1 e2 e3 e4 e5 e6 e11 e22 e26 e30 e33
                clear F
                rintro F ⟨e0, e1, e2, e3, e4, e5, e6, e11, e22, e26, e30, e33, e36⟩
                refine wp_cond_false (fr_eval rfl e36) ?_
                refine wp_regionX (fun _ => False) 4 (by kernel_rfl) (by kernel_rfl) ?_
                refine xl_take (i := 0) (v := vp) rfl (by kernel_rfl) (by kernel_rfl) (by kernel_rfl) (by kernel_rfl) (yx_val (wantAll rfl) (fun w' hx' => rv_move rfl (fr_eval rfl e4))) ?_
                refine xl_take (i := 1) (v := .pointer (some (elemA vp (0 * 32)))) rfl (by kernel_rfl) (by kernel_rfl) (by kernel_rfl) (by kernel_rfl) (yx_val (wantAll rfl) (fun w' hx' => rv_index rfl (fr_eval rfl rfl) (show _ = Value.int _ ((0 : Nat) : Int) from rfl) (rdN (pa4.rd _ (hH.chg.trans (Ext.any hx'))) rfl) (show 0 < q.length from (by omega)) Try.underlying24 Try.sz23 (by decide))) ?_
                refine xl_take (i := 2) (v := .agg (cBs (((List.getD q 0 zS)).1)).toArray) rfl (by kernel_rfl) (by kernel_rfl) (by kernel_rfl) (by kernel_rfl) (yx_val (wantAll rfl) (fun w' hx' => rv_loadElem rfl (fr_eval rfl rfl) (rdN (pa4.rd _ (hH.chg.trans (Ext.any hx'))) rfl) (show 0 < q.length from (by omega)) (by decide) (flat_part zS cS_len (show 0 < q.length from (by omega))) Try.underlying23 rfl Try.sz23)) ?_
                refine xl_take (i := 3) (v := .agg (cBs now.1).toArray) rfl (by kernel_rfl) (by kernel_rfl) (by kernel_rfl) (by kernel_rfl) (yx_val (wantAll rfl) (fun w' hx' => rv_loadW rfl ((hH.ext hx').blk (i := 2) rfl) (fr_eval rfl e11) Try.underlying23 rfl (sz_len Try.sz23 (cBs_len now.2)))) ?_
                refine xl_tail (s := 4) rfl ?_
                intro w10 hx
                replace hH := hH.ext hx
                clear hx
                refine lf_call (wantAll rfl) (rv_call (args := [cB 2, .agg (cBs (((List.getD q 0 zS)).1)).toArray, .agg (cBs now.1).toArray]) rfl (evc rfl (evc (fr_eval rfl rfl) (evc (fr_eval rfl rfl) evn))) Try.call59) (pair_calls 2 (((List.getD q 0 zS)).1) now.1 (((List.getD q 0 zS)).2) now.2 _) ?_
                rintro _ w11 ⟨rfl, hx⟩
                refine ⟨_, rfl, ?_⟩
                replace hH := hH.ext hx
                clear hx
                refine lf_sk (wantAll rfl) (hx_storeW hH (i := 2) (cs := cBs ((pairS ((List.getD q 0 zS)) now).1)) rfl rfl rfl (fr_eval rfl e11) (fr_eval rfl rfl) (sz_len Try.sz23 (cBs_len (pairS ((List.getD q 0 zS)) now).2)) (((cBs_len now.2)).trans ((cBs_len (pairS ((List.getD q 0 zS)) now).2)).symm) ((cBs_one _))) ?_
                clear hH
                rintro w12 ⟨hH, hx⟩
                replace hH : Heap (newN w) w w12 [oBlk g1 (cBs r.1) 23, oBlk g2 (cBs s.1) 23, oBlk g3 (cBs ((pairS ((List.getD q 0 zS)) now).1)) 23] := hH
                clear hx
                refine lf_nil ?_
                refine then_n ?_
                refine wp_gen (fun F' => F' 0 = .agg (cBs r.1).toArray ∧ F' 1 = .agg (cBs s.1).toArray ∧ F' 2 = .int .i64 ((a : Nat) : Int) ∧ F' 3 = .int .i64 ((m2 : Nat) : Int) ∧ F' 4 = vp ∧ F' 5 = .pointer (some ⟨g1, 0, none⟩) ∧ F' 6 = .pointer (some ⟨g2, 0, none⟩) ∧ F' 11 = .pointer (some ⟨g3, 0, none⟩) ∧ F' 22 = .bool false ∧ F' 26 = .bool true ∧ F' 30 = .bool true ∧ F' 33 = .bool false ∧ F' 36 = .bool false) ⟨e0, e1, e2, e3, e4, e5, e6, e11, e22, e26, e30, e33, e36⟩ ?_
                clear e0 e1 e2 e3 e4 e5 e6 e11 e22 e26 e30 e33 e36
                clear F
                rintro F ⟨e0, e1, e2, e3, e4, e5, e6, e11, e22, e26, e30, e33, e36⟩
                refine wp_regionF ?_
                refine lf_val (v := vp) (wantAll rfl) (rv_move rfl (fr_eval rfl e4)) ?_
                refine lf_val (v := slcV vp 32 1 q.length) (wantAll rfl) (rv_slcL (l := 1) Try.stSum rfl (fr_eval rfl rfl) (rdN (pa4.rd _ hH.chg) rfl) (show _ = Value.int _ ((1 : Nat) : Int) from rfl) (by omega)) ?_
                refine lf_val (v := slcV vp 32 1 q.length) (wantAll rfl) (rv_assign rfl (fr_eval rfl rfl)) ?_
                refine lf_nil ?_
                refine then_n ?_
                refine wp_gen (fun F' => F' 0 = .agg (cBs r.1).toArray ∧ F' 1 = .agg (cBs s.1).toArray ∧ F' 2 = .int .i64 ((a : Nat) : Int) ∧ F' 3 = .int .i64 ((m2 : Nat) : Int) ∧ F' 4 = slcV vp 32 1 q.length ∧ F' 5 = .pointer (some ⟨g1, 0, none⟩) ∧ F' 6 = .pointer (some ⟨g2, 0, none⟩) ∧ F' 11 = .pointer (some ⟨g3, 0, none⟩) ∧ F' 22 = .bool false ∧ F' 26 = .bool true ∧ F' 30 = .bool true ∧ F' 33 = .bool false ∧ F' 36 = .bool false) ⟨e0, e1, e2, e3, rfl, e5, e6, e11, e22, e26, e30, e33, e36⟩ ?_
                clear e0 e1 e2 e3 e4 e5 e6 e11 e22 e26 e30 e33 e36
                clear F
                rintro F ⟨e0, e1, e2, e3, e4, e5, e6, e11, e22, e26, e30, e33, e36⟩
                refine wp_regionF ?_
                refine lf_val (v := .int .i64 ((a : Nat) : Int)) (wantAll rfl) (rv_move rfl (fr_eval rfl e2)) ?_
                refine lf_val (v := .int .i64 ((a / 2 : Nat) : Int)) (wantAll rfl) (rv_quo rfl (fr_eval rfl rfl) rfl (by decide) (quo_nat (n := 2) (by omega))) ?_
                refine lf_val (v := .int .i64 ((m2 : Nat) : Int)) (wantAll rfl) (rv_move rfl (fr_eval rfl e3)) ?_
                refine lf_val (v := .int .i64 ((m2 + 1 : Nat) : Int)) (wantAll rfl) (rv_add rfl (fr_eval rfl rfl) rfl (wrap_i64 (by omega) (by omega) (by omega))) ?_
                refine lf_val (v := .int .i64 (((m2 + 1) / 2 : Nat) : Int)) (wantAll rfl) (rv_quo rfl (fr_eval rfl rfl) rfl (by decide) (quo_nat (n := 2) (by omega))) ?_
                refine lf_val (v := .int .i64 ((a / 2 : Nat) : Int)) (wantAll rfl) (rv_assign rfl (fr_eval rfl rfl)) ?_
                refine lf_val (v := .int .i64 (((m2 + 1) / 2 : Nat) : Int)) (wantAll rfl) (rv_assign rfl (fr_eval rfl rfl)) ?_
                refine lf_nil ?_
                refine blk_n ?_
                refine then_n ?_
                exact ⟨_, _, (by omega), rfl, _, _, (pairS ((List.getD q 0 zS)) now), _, _, rfl, (by omega), (by omega), (by simp only [List.length_take, List.length_drop]; omega), (by rw [pa3, chk_go (by omega) (by omega) (by omega), take_drop1 rfl]; first | rw [if_pos (by omega)] | rw [if_neg (by omega)]), (Stab.slcF (l := 1) (h := List.length q) cS_len pa4 rfl (by omega) (Nat.le_refl _)), e0, e1, rfl, rfl, e4, e5, e6, e11, e22, hH⟩
          · refine lf_val (v := .bool false) (wantAll rfl) (rv_lss rfl (fr_eval rfl rfl) (fr_eval rfl rfl) (decide_eq_false (by omega))) ?_
            refine lf_nil ?_
            refine then_n ?_
            refine wp_gen (fun F' => F' 0 = .agg (cBs r.1).toArray ∧ F' 1 = .agg (cBs s.1).toArray ∧ F' 2 = .int .i64 ((a : Nat) : Int) ∧ F' 3 = .int .i64 ((m2 : Nat) : Int) ∧ F' 4 = vp ∧ F' 5 = .pointer (some ⟨g1, 0, none⟩) ∧ F' 6 = .pointer (some ⟨g2, 0, none⟩) ∧ F' 11 = .pointer (some ⟨g3, 0, none⟩) ∧ F' 22 = .bool false ∧ F' 26 = .bool true ∧ F' 30 = .bool false) ⟨e0, e1, e2, e3, e4, e5, e6, e11, e22, e26, rfl⟩ ?_
            clear e0 e1 e2 e3 e4 e5 e6 e11 e22 e26
            clear F
            rintro F ⟨e0, e1, e2, e3, e4, e5, e6, e11, e22, e26, e30⟩
            refine wp_cond_false (fr_eval rfl e30) ?_
            refine wp_skip ?_
            refine then_n ?_
            refine wp_regionF ?_
            refine lf_val (v := .int .i64 ((a : Nat) : Int)) (wantAll rfl) (rv_move rfl (fr_eval rfl e2)) ?_
            refine lf_val (v := .int .i64 ((a / 2 : Nat) : Int)) (wantAll rfl) (rv_quo rfl (fr_eval rfl rfl) rfl (by decide) (quo_nat (n := 2) (by omega))) ?_
            refine lf_val (v := .int .i64 ((m2 : Nat) : Int)) (wantAll rfl) (rv_move rfl (fr_eval rfl e3)) ?_
            refine lf_val (v := .int .i64 ((m2 + 1 : Nat) : Int)) (wantAll rfl) (rv_add rfl (fr_eval rfl rfl) rfl (wrap_i64 (by omega) (by omega) (by omega))) ?_
            refine lf_val (v := .int .i64 (((m2 + 1) / 2 : Nat) : Int)) (wantAll rfl) (rv_quo rfl (fr_eval rfl rfl) rfl (by decide) (quo_nat (n := 2) (by omega))) ?_
            refine lf_val (v := .int .i64 ((a / 2 : Nat) : Int)) (wantAll rfl) (rv_assign rfl (fr_eval rfl rfl)) ?_
            refine lf_val (v := .int .i64 (((m2 + 1) / 2 : Nat) : Int)) (wantAll rfl) (rv_assign rfl (fr_eval rfl rfl)) ?_
            refine lf_nil ?_
            refine blk_n ?_
            refine then_n ?_
            exact ⟨_, _, (by omega), rfl, _, _, now, q, vp, rfl, (by omega), (by omega), (by omega), (by rw [← chk_skip (by omega) (by omega)]; exact pa3), pa4, e0, e1, rfl, rfl, e4, e5, e6, e11, e22, hH⟩
        · refine lf_val (v := .bool false) (wantAll rfl) (rv_gtr rfl (fr_eval rfl rfl) rfl (decide_eq_false (by omega))) ?_
          refine lf_nil ?_
          refine then_n ?_
          refine wp_gen (fun F' => F' 0 = .agg (cBs r.1).toArray ∧ F' 1 = .agg (cBs s.1).toArray ∧ F' 2 = .int .i64 ((a : Nat) : Int) ∧ F' 3 = .int .i64 ((m2 : Nat) : Int) ∧ F' 4 = vp ∧ F' 5 = .pointer (some ⟨g1, 0, none⟩) ∧ F' 6 = .pointer (some ⟨g2, 0, none⟩) ∧ F' 11 = .pointer (some ⟨g3, 0, none⟩) ∧ F' 22 = .bool false ∧ F' 26 = .bool false) ⟨e0, e1, e2, e3, e4, e5, e6, e11, e22, rfl⟩ ?_
          clear e0 e1 e2 e3 e4 e5 e6 e11 e22
          clear F
          rintro F ⟨e0, e1, e2, e3, e4, e5, e6, e11, e22, e26⟩
          refine wp_cond_false (fr_eval rfl e26) ?_
          refine wp_exit ?_
          refine then_exit ?_
          refine then_exit ?_
          refine blk_exit ?_
          refine then_n ?_
          refine wp_seq ?_
          refine wp_regionF ?_
          refine lf_val (v := vp) (wantAll rfl) (rv_move rfl (fr_eval rfl e4)) ?_
          refine lf_val (v := .int .i64 ((q.length : Nat) : Int)) (wantAll rfl) (rv_len rfl (fr_eval rfl rfl) (pa4.rd _ hH.chg) Try.underlying24) ?_
          by_cases hc8 : q.length = 0
          · refine lf_val (v := .bool true) (wantAll rfl) (rv_eql rfl (fr_eval rfl rfl) rfl (decide_eq_true (by omega))) ?_
            refine lf_val (v := .bool true) (wantAll rfl) (rv_move rfl (fr_eval rfl rfl)) ?_
            refine lf_val (v := .agg (cBs now.1).toArray) (wantF (d := 57) rfl (by kernel_rfl) rfl rfl) (rv_loadW rfl (hH.blk (i := 2) rfl) (fr_eval rfl e11) Try.underlying23 rfl (sz_len Try.sz23 (cBs_len now.2))) ?_
            refine lf_val (v := .agg (cBs r.1).toArray) (wantF (d := 57) rfl (by kernel_rfl) rfl rfl) (rv_loadW rfl (hH.blk (i := 0) rfl) (fr_eval rfl e5) Try.underlying23 rfl (sz_len Try.sz23 (cBs_len r.2))) ?_
            refine lf_val (v := .bool (now.1 == r.1)) (wantF (d := 57) rfl (by kernel_rfl) rfl rfl) (eqT rfl (fr_eval rfl rfl) (fr_eval rfl rfl) now.2 r.2 (b := (now.1 == r.1)) rfl) ?_
            refine lf_val (v := .bool (now.1 == r.1)) (wantAll rfl) (rv_pickT rfl (fr_eval rfl rfl) (fr_eval rfl rfl)) ?_
            refine lf_val (v := .bool (now.1 == r.1)) (wantAll rfl) (rv_assign rfl (fr_eval rfl rfl)) ?_
            refine lf_nil ?_
            refine then_n ?_
            refine wp_gen (fun F' => F' 0 = .agg (cBs r.1).toArray ∧ F' 1 = .agg (cBs s.1).toArray ∧ F' 2 = .int .i64 ((a : Nat) : Int) ∧ F' 3 = .int .i64 ((m2 : Nat) : Int) ∧ F' 4 = vp ∧ F' 5 = .pointer (some ⟨g1, 0, none⟩) ∧ F' 6 = .pointer (some ⟨g2, 0, none⟩) ∧ F' 10 = .bool (now.1 == r.1) ∧ F' 11 = .pointer (some ⟨g3, 0, none⟩) ∧ F' 22 = .bool false ∧ F' 26 = .bool false) ⟨e0, e1, e2, e3, e4, e5, e6, rfl, e11, e22, e26⟩ ?_
            clear e0 e1 e2 e3 e4 e5 e6 e11 e22 e26
            clear F
            rintro F ⟨e0, e1, e2, e3, e4, e5, e6, e10, e11, e22, e26⟩
            refine wp_ret ?_
            exact bodyPost_ret (v := (.bool (now.1 == r.1))) (res1 rfl (ro_tmp rfl e10)) rfl (⟨congrArg (fun b => Ending.returned (.bool b)) (by rw [checkB_some ⟨by omega, by omega⟩ (pa3.trans (chk_end (by omega))), decide_eq_true (by omega)]; simp only [Bool.true_and]), hH.done⟩)
          · refine lf_val (v := .bool false) (wantAll rfl) (rv_eql rfl (fr_eval rfl rfl) rfl (decide_eq_false (by omega))) ?_
            refine lf_val (v := .bool false) (wantAll rfl) (rv_move rfl (fr_eval rfl rfl)) ?_
            refine lf_not (wantNot (d := 57) rfl (by kernel_rfl) rfl rfl) ?_
            refine lf_not (wantNot (d := 57) rfl (by kernel_rfl) rfl rfl) ?_
            refine lf_not (wantNot (d := 57) rfl (by kernel_rfl) rfl rfl) ?_
            refine lf_val (v := .bool false) (wantAll rfl) (rv_pickF rfl (fr_eval rfl rfl) rfl) ?_
            refine lf_val (v := .bool false) (wantAll rfl) (rv_assign rfl (fr_eval rfl rfl)) ?_
            refine lf_nil ?_
            refine then_n ?_
            refine wp_gen (fun F' => F' 0 = .agg (cBs r.1).toArray ∧ F' 1 = .agg (cBs s.1).toArray ∧ F' 2 = .int .i64 ((a : Nat) : Int) ∧ F' 3 = .int .i64 ((m2 : Nat) : Int) ∧ F' 4 = vp ∧ F' 5 = .pointer (some ⟨g1, 0, none⟩) ∧ F' 6 = .pointer (some ⟨g2, 0, none⟩) ∧ F' 10 = .bool false ∧ F' 11 = .pointer (some ⟨g3, 0, none⟩) ∧ F' 22 = .bool false ∧ F' 26 = .bool false) ⟨e0, e1, e2, e3, e4, e5, e6, rfl, e11, e22, e26⟩ ?_
            clear e0 e1 e2 e3 e4 e5 e6 e11 e22 e26
            clear F
            rintro F ⟨e0, e1, e2, e3, e4, e5, e6, e10, e11, e22, e26⟩
            refine wp_ret ?_
            exact bodyPost_ret (v := (.bool false)) (res1 rfl (ro_tmp rfl e10)) rfl (⟨congrArg (fun b => Ending.returned (.bool b)) (by rw [checkB_some ⟨by omega, by omega⟩ (pa3.trans (chk_end (by omega))), decide_eq_false (by omega)]; rfl), hH.done⟩)

end Go.Proofs.Ytokddhidcjkadaa
