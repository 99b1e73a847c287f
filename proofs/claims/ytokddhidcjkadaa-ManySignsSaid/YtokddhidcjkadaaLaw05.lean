/- Chapter 5's laws: the walks of ManyNews, ManySigns, ManyNobody. -/
import Derived.Test.YtokddhidcjkadaaManys2
import Derived.Test.YtokddhidcjkadaaOpenP
namespace Go.Bz
open Go.RowKit
def cPt (p : V1 × List UInt8) : List Value := [p.1.1]
def zPt : V1 × List UInt8 := (zV1, [])
theorem cPt_len {l : List (V1 × List UInt8)} : ∀ x ∈ l, (cPt x).length = 1 := fun _ _ => rfl
theorem cPt_one : ∀ x, ∀ u ∈ cPt x, u.oneCell' = true := fun x u hu => by simp [cPt] at hu; subst hu; exact x.1.2
theorem getD_mem' {α : Type} {l : List α} {i : Nat} {d : α} (h : i < l.length) : l.getD i d ∈ l := by
  rw [List.getD_eq_getElem?_getD, List.getElem?_eq_getElem h]; exact List.getElem_mem _
end Go.Bz
namespace Go.Proofs.Ytokddhidcjkadaa
open Go.RowKit Go.Bz Go.Bz.Sha Go.Bz.Lamp Go.Bz.Merkle Go.Bz.Wire Go.Bz.Many
attribute [local irreducible] wpList Code.wp wpAnyX sigs backK

set_option maxRecDepth 100000 in
set_option maxHeartbeats 4000000 in
theorem cut05_calls (b : List UInt8) (v : Value) (w : World) (hr0 : RdB w v b) :
    Calls Try.prog 38 #[v] w fun e'' w' => e'' = .returned (cutV v b 200) ∧ Ext w w' := by
  refine calls_fr (args := [v]) (n := 9) Try.func38 rfl rfl (show 1 ≤ 9 by decide) ?_
  have hr := Rd.stab hr0
  have hH : Heap (newN w) w w [] := Heap.fresh
  refine wp_seq ?_
  refine wp_gen (fun F' => F' 0 = v) rfl ?_
  rintro F e0
  refine wp_regionF ?_
  refine lf_val (v := .slice none 0 0) (wantAll rfl) (rv_assign rfl rfl) ?_
  refine lf_nil ?_
  refine then_n ?_
  refine wp_seq ?_
  refine wp_seq ?_
  refine wp_gen (fun F' => F' 0 = v ∧ F' 2 = .slice none 0 0) ⟨e0, rfl⟩ ?_
  clear e0
  clear F
  rintro F ⟨e0, e2⟩
  refine wp_regionF ?_
  refine lf_val (v := v) (wantAll rfl) (rv_move rfl (fr_eval rfl e0)) ?_
  refine lf_val (v := .int .i64 ((b.length : Nat) : Int)) (wantAll rfl) (rv_len rfl (fr_eval rfl rfl) (RdB.rn (hr.rd _ hH.chg) rfl) Try.underlying58) ?_
  refine lf_val (v := .bool (decide (b.length > 200))) (wantAll rfl) (rv_gtrP (p := b.length > 200) rfl (fr_eval rfl rfl) rfl (by omega)) ?_
  refine lf_nil ?_
  refine then_n ?_
  refine wp_gen (fun F' => F' 0 = v ∧ F' 2 = .slice none 0 0 ∧ F' 5 = .bool (decide (b.length > 200))) ⟨e0, e2, rfl⟩ ?_
  clear e0 e2
  clear F
  rintro F ⟨e0, e2, e5⟩
  by_cases hc1 : b.length > 200
  · refine wp_cond_true (fr_eval rfl (e5.trans (congrArg Value.bool (decide_eq_true hc1)))) ?_
    refine wp_seq ?_
    refine wp_regionF ?_
    refine lf_val (v := v) (wantAll rfl) (rv_move rfl (fr_eval rfl e0)) ?_
    refine lf_val (v := slcV v 1 0 200) (wantAll rfl) (rv_slcH (h := 200) Try.stB rfl (fr_eval rfl rfl) (RdB.rn (hr.rd _ hH.chg) rfl) (show _ = Value.int _ ((200 : Nat) : Int) from rfl) (by omega)) ?_
    refine lf_val (v := slcV v 1 0 200) (wantAll rfl) (rv_assign rfl (fr_eval rfl rfl)) ?_
    refine lf_nil ?_
    refine then_n ?_
    refine wp_gen (fun F' => F' 0 = v ∧ F' 2 = slcV v 1 0 200 ∧ F' 5 = .bool true) ⟨e0, rfl, (e5.trans (congrArg Value.bool (decide_eq_true hc1)))⟩ ?_
    clear e0 e2 e5
    clear F
    rintro F ⟨e0, e2, e5⟩
    refine wp_ret ?_
    refine then_ret ?_
    exact bodyPost_ret (v := (slcV v 1 0 200)) (res1 rfl (ro_tmp rfl e2)) rfl (⟨(by unfold cutV; first | rw [if_pos (by omega)] | rw [if_neg (by omega)]), hH.done⟩)
  · refine wp_cond_false (fr_eval rfl (e5.trans (congrArg Value.bool (decide_eq_false hc1)))) ?_
    refine wp_skip ?_
    refine then_n ?_
    refine wp_seq ?_
    refine wp_regionF ?_
    refine lf_val (v := v) (wantAll rfl) (rv_move rfl (fr_eval rfl e0)) ?_
    refine lf_val (v := v) (wantAll rfl) (rv_assign rfl (fr_eval rfl rfl)) ?_
    refine lf_nil ?_
    refine then_n ?_
    refine wp_gen (fun F' => F' 0 = v ∧ F' 2 = v ∧ F' 5 = .bool false) ⟨e0, rfl, (e5.trans (congrArg Value.bool (decide_eq_false hc1)))⟩ ?_
    clear e0 e2 e5
    clear F
    rintro F ⟨e0, e2, e5⟩
    refine wp_ret ?_
    exact bodyPost_ret (v := v) (res1 rfl (ro_tmp rfl e2)) rfl (⟨(by unfold cutV; first | rw [if_pos (by omega)] | rw [if_neg (by omega)]), hH.done⟩)

set_option maxRecDepth 100000 in
set_option maxHeartbeats 4000000 in
theorem leaves05_calls (s : S32) (n : Nat) (hn : n ≤ 64) (w : World) :
    Calls Try.prog 37 #[.agg (cBs s.1).toArray, .int .i64 ((n : Nat) : Int)] w fun e'' w' => (∃ v', e'' = .returned v' ∧ Own w' 23 32 v' (keyL s n).length ((keyL s n).flatMap cS) ∧ ∀ k, v'.ownBlock = some k → w.heap.size ≤ k) ∧ Ext w w' := by
  refine calls_fr (args := [.agg (cBs s.1).toArray, .int .i64 ((n : Nat) : Int)]) (n := 23) Try.func37 rfl rfl (show 2 ≤ 23 by decide) ?_
  have hH : Heap (newN w) w w [] := Heap.fresh
  refine wp_seq ?_
  refine wp_gen (fun F' => F' 0 = .agg (cBs s.1).toArray ∧ F' 1 = .int .i64 ((n : Nat) : Int)) ⟨rfl, rfl⟩ ?_
  rintro F ⟨e0, e1⟩
  refine wp_regionF ?_
  refine lf_ex (wantAll rfl) (hx_box hH 23 (cs := cBs s.1) rfl (fr_eval rfl e0) (by rfl)) ?_
  clear hH
  rintro _ w1 ⟨g1, rfl, hH, hx⟩
  replace hH : Heap _ _ _ [_] := hH
  clear hx
  refine lf_val (v := .slice none 0 0) (wantAll rfl) (rv_assign rfl rfl) ?_
  refine lf_nil ?_
  refine then_n ?_
  refine wp_seq ?_
  refine wp_gen (fun F' => F' 0 = .agg (cBs s.1).toArray ∧ F' 1 = .int .i64 ((n : Nat) : Int) ∧ F' 2 = .pointer (some ⟨g1, 0, none⟩) ∧ F' 4 = .slice none 0 0) ⟨e0, e1, rfl, rfl⟩ ?_
  clear e0 e1
  clear F
  rintro F ⟨e0, e1, e2, e4⟩
  refine wp_regionF ?_
  refine lf_val (v := .slice none 0 0) (wantAll rfl) (rv_assign rfl rfl) ?_
  refine lf_nil ?_
  refine then_n ?_
  refine wp_seq ?_
  refine wp_seq ?_
  refine wp_gen (fun F' => F' 0 = .agg (cBs s.1).toArray ∧ F' 1 = .int .i64 ((n : Nat) : Int) ∧ F' 2 = .pointer (some ⟨g1, 0, none⟩) ∧ F' 4 = .slice none 0 0 ∧ F' 5 = .slice none 0 0) ⟨e0, e1, e2, e4, rfl⟩ ?_
  clear e0 e1 e2 e4
  clear F
  rintro F ⟨e0, e1, e2, e4, e5⟩
  refine wp_regionF ?_
  refine lf_val (v := .int .i64 0) (wantAll rfl) (rv_assign rfl rfl) ?_
  refine lf_nil ?_
  refine then_n ?_
  refine wp_block ?_
  replace hH : Heap _ _ _ [_, _] := hH.addNil 23 32
  replace hH : Heap (newN w) w w1 [oBlk g1 (cBs s.1) 23, oRow cS 23 32 (.slice none 0 0) (keyL s 0)] := hH
  refine wp_gen (fun F' => F' 0 = .agg (cBs s.1).toArray ∧ F' 1 = .int .i64 ((n : Nat) : Int) ∧ F' 2 = .pointer (some ⟨g1, 0, none⟩) ∧ F' 4 = .slice none 0 0 ∧ F' 5 = (.slice none 0 0) ∧ F' 6 = .int .i64 0) ⟨e0, e1, e2, e4, e5, rfl⟩ ?_
  clear e0 e1 e2 e4 e5
  clear F
  rintro F ⟨e0, e1, e2, e4, e5, e6⟩
  refine wp_loopF (fun m F wr => ∃ i : Nat, ∃ u : Value, m = n - i ∧ i ≤ n ∧ F 0 = .agg (cBs s.1).toArray ∧ F 1 = .int .i64 ((n : Nat) : Int) ∧ F 2 = .pointer (some ⟨g1, 0, none⟩) ∧ F 4 = .slice none 0 0 ∧ F 5 = u ∧ F 6 = .int .i64 ((i : Nat) : Int) ∧ Heap (newN w) w wr [oBlk g1 (cBs s.1) 23, oRow cS 23 32 u (keyL s i)]) ⟨0, _, rfl, Nat.zero_le _, e0, e1, e2, e4, e5, e6, hH⟩ ?_
  clear e0 e1 e2 e4 e5 e6 hH
  clear F
  rintro m F w2 ⟨i, u, rfl, pi0, e0, e1, e2, e4, e5, e6, hH⟩
  refine wp_seq ?_
  refine wp_seq ?_
  refine wp_regionF ?_
  refine lf_val (v := .int .i64 ((i : Nat) : Int)) (wantAll rfl) (rv_move rfl (fr_eval rfl e6)) ?_
  refine lf_val (v := .int .i64 ((n : Nat) : Int)) (wantAll rfl) (rv_move rfl (fr_eval rfl e1)) ?_
  refine lf_val (v := .bool (decide (i < n))) (wantAll rfl) (rv_lssP (p := i < n) rfl (fr_eval rfl rfl) (fr_eval rfl rfl) (by omega)) ?_
  refine lf_nil ?_
  refine then_n ?_
  refine wp_gen (fun F' => F' 0 = .agg (cBs s.1).toArray ∧ F' 1 = .int .i64 ((n : Nat) : Int) ∧ F' 2 = .pointer (some ⟨g1, 0, none⟩) ∧ F' 4 = .slice none 0 0 ∧ F' 5 = u ∧ F' 6 = .int .i64 ((i : Nat) : Int) ∧ F' 9 = .bool (decide (i < n))) ⟨e0, e1, e2, e4, e5, e6, rfl⟩ ?_
  clear e0 e1 e2 e4 e5 e6
  clear F
  rintro F ⟨e0, e1, e2, e4, e5, e6, e9⟩
  by_cases hc1 : i < n
  · refine wp_cond_true (fr_eval rfl (e9.trans (congrArg Value.bool (decide_eq_true hc1)))) ?_
    refine wp_skip ?_
    refine then_n ?_
    refine wp_seq ?_
    refine wp_block ?_
    refine wp_regionF ?_
    refine lf_val (v := u) (wantAll rfl) (rv_move rfl (fr_eval rfl e5)) ?_
    refine lf_val (v := .slice (some ⟨g1, 0, none⟩) 32 32) (wantAll rfl) (rv_sliceArr rfl (fr_eval rfl e2) Try.underlying23 Try.sz5 (by decide)) ?_
    refine lf_val (v := .int .i64 ((i : Nat) : Int)) (wantAll rfl) (rv_move rfl (fr_eval rfl e6)) ?_
    refine lf_val (v := cB (UInt8.ofNat i)) (wantAll rfl) (rv_conv rfl (fr_eval rfl rfl) Try.underlying3 Try.underlying5 (wrap_u8 (byte_nat _))) ?_
    refine lf_ex (wantAll rfl) (hx_lits hH Try.stB (n := 1) (nm := List.length [UInt8.ofNat i]) [(.tmp 15)] (vs := [(cB (UInt8.ofNat i))]) (cs := cBs [UInt8.ofNat i]) rfl (evc (fr_eval rfl rfl) evn) (cBs_one [UInt8.ofNat i]) rfl (by decide) rfl rfl) ?_
    clear hH
    rintro y1 w3 ⟨hH, hx⟩
    replace hH : Heap _ _ _ [_, _, _] := hH
    clear hx
    refine lf_ex (wantAll rfl) (hx_lits hH Try.stBB (n := 2) (nm := 2) [(.tmp 13), (.tmp 16)] (vs := [.slice (some ⟨g1, 0, none⟩) 32 32, y1]) rfl (evc (fr_eval rfl rfl) (evc (fr_eval rfl rfl) evn)) (ones_cons (Rd.oneV (rdB_blkn (hH.blk (i := 0) rfl) s.2 (by decide))) (ones_cons (Rd.oneV (OwnB.rd (hH.own (i := 2) rfl))) ones_nil)) rfl (by decide) rfl rfl) ?_
    clear hH
    rintro y2 w4 ⟨hH, hx⟩
    replace hH : Heap _ _ _ [_, _, _, _] := hH
    clear hx
    refine lf_call (wantAll rfl) (rv_call (args := [cB 21, y2]) rfl (evc rfl (evc (fr_eval rfl rfl) evn)) Try.call45) (join_calls 21 [s.1, [UInt8.ofNat i]] flat1b _ _ (rdP_own (hH.own (i := 3) rfl) (.cons (rdB_blkn (hH.blk (i := 0) rfl) s.2 (by decide)) (.cons (OwnB.rd (hH.own (i := 2) rfl)) .nil)) rfl)) ?_
    rintro _ w5 ⟨rfl, hx⟩
    refine ⟨_, rfl, ?_⟩
    replace hH := hH.ext hx
    clear hx
    refine lf_call (wantAll rfl) (rv_call (args := [.agg (cBs (join 21 [s.1, [UInt8.ofNat i]])).toArray]) rfl (evc (fr_eval rfl rfl) evn) Try.call67) (public_calls (join 21 [s.1, [UInt8.ofNat i]]) (join_length _ _) _) ?_
    rintro _ w6 ⟨rfl, hx⟩
    refine ⟨_, rfl, ?_⟩
    replace hH := hH.ext hx
    clear hx
    refine lf_ex (wantAll rfl) (hx_lit1 hH Try.stSum (cs := cS (pubS (⟨(join 21 [s.1, [UInt8.ofNat i]]), (join_length _ _)⟩ : S32))) (xs := List.flatMap cS [(pubS (⟨(join 21 [s.1, [UInt8.ofNat i]]), (join_length _ _)⟩ : S32))]) rfl (fr_eval rfl rfl) (cS_ln (pubS (⟨(join 21 [s.1, [UInt8.ofNat i]]), (join_length _ _)⟩ : S32))) (by decide) (List.flatMap_singleton ..).symm) ?_
    clear hH
    rintro y3 w7 ⟨hH, hx⟩
    replace hH : Heap _ _ _ [_, _, _, _, _] := hH
    clear hx
    refine lf_ex (wantAll rfl) (hx_append hH Try.stSum (i := 1) (xs' := ((keyL s i) ++ ([(pubS (⟨(join 21 [s.1, [UInt8.ofNat i]]), (join_length _ _)⟩ : S32))])).flatMap cS) (nm := ((keyL s i) ++ ([(pubS (⟨(join 21 [s.1, [UInt8.ofNat i]]), (join_length _ _)⟩ : S32))])).length) rfl rfl (fun _ => rfl) List.length_append.symm List.flatMap_append.symm (Own.rd (hH.own (i := 4) rfl) (row_one cS_one)) (fr_eval rfl rfl) (fr_eval rfl rfl) (by have := keyL_len s i; simp only [List.length_append, List.length_cons, List.length_nil]; omega)) ?_
    clear hH
    rintro y4 w8 ⟨hH, hx⟩
    replace hH : Heap _ _ _ [_, _, _, _, _] := hH
    rw [show (keyL s i) ++ ([(pubS (⟨(join 21 [s.1, [UInt8.ofNat i]]), (join_length _ _)⟩ : S32))]) = keyL s (i + 1) from keyL_next s i] at hH
    clear hx
    refine lf_val (v := y4) (wantAll rfl) (rv_assign rfl (fr_eval rfl rfl)) ?_
    refine lf_nil ?_
    refine blk_n ?_
    refine then_n ?_
    replace hH : Heap _ _ _ [_, _] := hH.drop (.cons_cons _ (.cons_cons _ (.cons _ (.cons _ (.cons _ .slnil)))))
    refine wp_gen (fun F' => F' 0 = .agg (cBs s.1).toArray ∧ F' 1 = .int .i64 ((n : Nat) : Int) ∧ F' 2 = .pointer (some ⟨g1, 0, none⟩) ∧ F' 4 = .slice none 0 0 ∧ F' 5 = y4 ∧ F' 6 = .int .i64 ((i : Nat) : Int) ∧ F' 9 = .bool true) ⟨e0, e1, e2, e4, rfl, e6, (e9.trans (congrArg Value.bool (decide_eq_true hc1)))⟩ ?_
    clear e0 e1 e2 e4 e5 e6 e9
    clear F
    rintro F ⟨e0, e1, e2, e4, e5, e6, e9⟩
    refine wp_regionF ?_
    refine lf_val (v := .int .i64 ((i : Nat) : Int)) (wantAll rfl) (rv_move rfl (fr_eval rfl e6)) ?_
    refine lf_val (v := .int .i64 ((i + 1 : Nat) : Int)) (wantAll rfl) (rv_add rfl (fr_eval rfl rfl) rfl (wrap_i64 (by omega) (by omega) (by omega))) ?_
    refine lf_val (v := .int .i64 ((i + 1 : Nat) : Int)) (wantAll rfl) (rv_assign rfl (fr_eval rfl rfl)) ?_
    refine lf_nil ?_
    refine then_n ?_
    exact ⟨_, _, (by omega), rfl, i + 1, _, rfl, (by omega), e0, e1, e2, e4, e5, rfl, hH⟩
  · refine wp_cond_false (fr_eval rfl (e9.trans (congrArg Value.bool (decide_eq_false hc1)))) ?_
    refine wp_exit ?_
    refine then_exit ?_
    refine then_exit ?_
    refine blk_exit ?_
    refine then_n ?_
    refine wp_seq ?_
    obtain rfl : n = i := by omega
    refine wp_regionF ?_
    refine lf_val (v := u) (wantAll rfl) (rv_move rfl (fr_eval rfl e5)) ?_
    refine lf_val (v := u) (wantAll rfl) (rv_assign rfl (fr_eval rfl rfl)) ?_
    refine lf_nil ?_
    refine then_n ?_
    refine wp_gen (fun F' => F' 0 = .agg (cBs s.1).toArray ∧ F' 1 = .int .i64 ((n : Nat) : Int) ∧ F' 2 = .pointer (some ⟨g1, 0, none⟩) ∧ F' 4 = u ∧ F' 5 = u ∧ F' 6 = .int .i64 ((n : Nat) : Int) ∧ F' 9 = .bool false) ⟨e0, e1, e2, rfl, e5, e6, (e9.trans (congrArg Value.bool (decide_eq_false hc1)))⟩ ?_
    clear e0 e1 e2 e4 e5 e6 e9
    clear F
    rintro F ⟨e0, e1, e2, e4, e5, e6, e9⟩
    refine wp_ret ?_
    exact bodyPost_ret (v := u) (res1 rfl (ro_tmp rfl e4)) rfl (⟨⟨_, rfl, hH.own (i := 1) rfl, hH.ge (i := 1) rfl⟩, hH.done⟩)

set_option maxRecDepth 100000 in
set_option maxHeartbeats 4000000 in
theorem awake05_calls (w : World) :
    Calls Try.prog 35 #[] w fun e'' w' => e'' = .returned (.bool true) ∧ Ext w w' := by
  refine calls_fr (args := []) (n := 51) Try.func35 rfl rfl (show 0 ≤ 51 by decide) ?_
  have hH : Heap (newN w) w w [] := Heap.fresh
  refine wp_seq ?_
  refine wp_gen (fun F' => True) trivial ?_
  rintro F _
  refine wp_regionF ?_
  refine lf_val (v := .bool false) (wantAll rfl) (rv_assign rfl rfl) ?_
  refine lf_nil ?_
  refine then_n ?_
  refine wp_seq ?_
  refine wp_gen (fun F' => F' 0 = .bool false) rfl ?_
  clear F
  rintro F e0
  refine wp_regionF ?_
  refine lf_val (v := .agg (cBs (List.replicate 32 0)).toArray) (wantAll rfl) (by kernel_rfl) ?_
  refine lf_call (wantAll rfl) (rv_call (args := [.agg (cBs (List.replicate 32 0)).toArray, .int .i64 1]) rfl (evc (fr_eval rfl rfl) (evc rfl evn)) Try.call36) (new_yes (⟨List.replicate 32 0, (List.length_replicate ..)⟩ : S32) 1 (by omega) (by omega) _) ?_
  rintro _ w1 ⟨g1, y1, rfl, hP⟩
  refine ⟨_, rfl, ?_⟩
  have hx := hP.done
  replace hH : Heap _ _ _ [_, _] := hH.joinN hP (Stays.blk (hP.blk (i := 0) rfl) (Stays.own (hP.own (i := 1) rfl) Stays.nil))
  clear hP
  clear hx
  refine lf_val (v := .tuple #[.pointer (some ⟨g1, 0, none⟩), .int .i64 0]) (wantAll rfl) (rv_move rfl (fr_eval rfl rfl)) ?_
  refine lf_val (v := .pointer (some ⟨g1, 0, none⟩)) (wantAll rfl) (rv_extract rfl (fr_eval rfl rfl) rfl) ?_
  refine lf_val (v := .int .i64 0) (wantAll rfl) (rv_extract rfl (fr_eval rfl rfl) rfl) ?_
  refine lf_val (v := .pointer (some ⟨g1, 0, none⟩)) (wantAll rfl) (rv_assign rfl (fr_eval rfl rfl)) ?_
  refine lf_val (v := .int .i64 0) (wantAll rfl) (rv_assign rfl (fr_eval rfl rfl)) ?_
  refine lf_nil ?_
  refine then_n ?_
  refine wp_seq ?_
  refine wp_seq ?_
  refine wp_gen (fun F' => F' 0 = .bool false ∧ F' 1 = .pointer (some ⟨g1, 0, none⟩) ∧ F' 2 = .int .i64 0) ⟨e0, rfl, rfl⟩ ?_
  clear e0
  clear F
  rintro F ⟨e0, e1, e2⟩
  refine wp_regionF ?_
  refine lf_val (v := .int .i64 0) (wantAll rfl) (rv_move rfl (fr_eval rfl e2)) ?_
  refine lf_val (v := .bool false) (wantAll rfl) (rv_neq rfl (fr_eval rfl rfl) rfl (show decide ((0 : Int) = 0) = true from by decide)) ?_
  refine lf_val (v := .bool false) (wantAll rfl) (rv_move rfl (fr_eval rfl rfl)) ?_
  refine lf_val (v := .pointer (some ⟨g1, 0, none⟩)) (wantF (d := 14) rfl (by kernel_rfl) rfl rfl) (rv_move rfl (fr_eval rfl e1)) ?_
  refine lf_val (v := .bool false) (wantF (d := 14) rfl (by kernel_rfl) rfl rfl) (rv_eqnil (p := (some ⟨g1, 0, none⟩)) rfl (fr_eval rfl rfl) rfl Try.underlying67) ?_
  refine lf_val (v := .bool false) (wantAll rfl) (rv_pickF rfl (fr_eval rfl rfl) (fr_eval rfl rfl)) ?_
  refine lf_nil ?_
  refine then_n ?_
  refine wp_gen (fun F' => F' 0 = .bool false ∧ F' 1 = .pointer (some ⟨g1, 0, none⟩) ∧ F' 2 = .int .i64 0 ∧ F' 17 = .bool false) ⟨e0, e1, e2, rfl⟩ ?_
  clear e0 e1 e2
  clear F
  rintro F ⟨e0, e1, e2, e17⟩
  refine wp_cond_false (fr_eval rfl e17) ?_
  refine wp_skip ?_
  refine then_n ?_
  refine wp_seq ?_
  have hkl := keyL_len (⟨List.replicate 32 0, (List.length_replicate ..)⟩ : S32) 1
  have hpl := pathM_len (s := (⟨List.replicate 32 0, (List.length_replicate ..)⟩ : S32)) (n := 1) (i := 0) (by decide)
  have hone := oneM_len (⟨List.replicate 32 0, (List.length_replicate ..)⟩ : S32) 0 [97]
  refine wp_regionF ?_
  refine lf_val (v := .pointer (some ⟨g1, 0, none⟩)) (wantAll rfl) (rv_move rfl (fr_eval rfl e1)) ?_
  refine lf_ex (wantAll rfl) (hx_lits hH Try.stB (n := 1) (nm := List.length [97]) [(.const (cB 97))] (vs := [(cB 97)]) (cs := cBs [97]) rfl (evc rfl evn) (cBs_one [97]) rfl (by decide) rfl rfl) ?_
  clear hH
  rintro y2 w2 ⟨hH, hx⟩
  replace hH : Heap _ _ _ [_, _, _] := hH
  clear hx
  refine lf_ex (wantAll rfl) (hx_mark hH (i := 2) (n := List.length [97]) (xs := cBs [97]) rfl rfl rfl (by decide) (cBs_one _) (fr_eval rfl rfl) Try.underlying58 Try.underlying5) ?_
  clear hH
  rintro _ w3 ⟨rfl, hH, hx⟩
  replace hH : Heap _ _ _ [_, _, _] := hH
  clear hx
  replace hH : Heap _ _ _ [_, _, _] := hH.perm (.trans (.swap _ _ _) (.cons _ (.trans (.swap _ _ _) (.cons _ (.refl _)))))
  refine lf_call (wantAll rfl) (rv_call (args := [.pointer (some ⟨g1, 0, none⟩), y2]) rfl (evc (fr_eval rfl rfl) (evc (fr_eval rfl rfl) evn)) Try.call39) (kSign_yes (⟨List.replicate 32 0, (List.length_replicate ..)⟩ : S32) (keyL (⟨List.replicate 32 0, (List.length_replicate ..)⟩ : S32) 1) (by have := keyL_len (⟨List.replicate 32 0, (List.length_replicate ..)⟩ : S32) 1; omega) 0 (by have := keyL_len (⟨List.replicate 32 0, (List.length_replicate ..)⟩ : S32) 1; omega) [97] (Nat.le_trans (Nat.le_of_eq rfl) (by decide)) _ _ (hH.blk (i := 1) rfl) (hH.own (i := 2) rfl) (hH.rd (i := 0) rfl) (fun k hk _ hK => hK.elim (fun e => apart_at hH.apart (i := 0) (j := 1) rfl rfl (by decide) k hk e) (fun e => apart_at hH.apart (i := 0) (j := 2) rfl rfl (by decide) k hk e))) ?_
  rintro _ w4 ⟨y3, rfl, hP⟩
  refine ⟨_, rfl, ?_⟩
  have hx := hH.callChg (L := [_]) (M := [_, _]) hold_in hP
  replace hH : Heap _ _ _ [_, _, _, _] := hH.call (L := [_]) (M := [_, _]) hold_in hP (Stays.blk (hP.blk (i := 0) rfl) (Stays.own (hP.own (i := 1) rfl) (Stays.own (hP.own (i := 2) rfl) Stays.nil)))
  clear hP
  clear hx
  refine lf_val (v := .tuple #[y3, .int .i64 0]) (wantAll rfl) (rv_move rfl (fr_eval rfl rfl)) ?_
  refine lf_val (v := y3) (wantAll rfl) (rv_extract rfl (fr_eval rfl rfl) rfl) ?_
  refine lf_val (v := .int .i64 0) (wantAll rfl) (rv_extract rfl (fr_eval rfl rfl) rfl) ?_
  refine lf_val (v := y3) (wantAll rfl) (rv_assign rfl (fr_eval rfl rfl)) ?_
  refine lf_val (v := .int .i64 0) (wantAll rfl) (rv_assign rfl (fr_eval rfl rfl)) ?_
  refine lf_nil ?_
  refine then_n ?_
  refine wp_seq ?_
  replace hH : Heap _ _ _ [_, _, _] := hH.drop (.cons _ (.cons_cons _ (.cons_cons _ (.cons_cons _ .slnil))))
  refine wp_gen (fun F' => F' 0 = .bool false ∧ F' 1 = .pointer (some ⟨g1, 0, none⟩) ∧ F' 2 = .int .i64 0 ∧ F' 3 = y3 ∧ F' 4 = .int .i64 0 ∧ F' 17 = .bool false) ⟨e0, e1, e2, rfl, rfl, e17⟩ ?_
  clear e0 e1 e2 e17
  clear F
  rintro F ⟨e0, e1, e2, e3, e4, e17⟩
  refine wp_regionF ?_
  refine lf_val (v := .pointer (some ⟨g1, 0, none⟩)) (wantAll rfl) (rv_move rfl (fr_eval rfl e1)) ?_
  refine lf_ex (wantAll rfl) (hx_lits hH Try.stB (n := 1) (nm := List.length [98]) [(.const (cB 98))] (vs := [(cB 98)]) (cs := cBs [98]) rfl (evc rfl evn) (cBs_one [98]) rfl (by decide) rfl rfl) ?_
  clear hH
  rintro y4 w5 ⟨hH, hx⟩
  replace hH : Heap _ _ _ [_, _, _, _] := hH
  clear hx
  refine lf_ex (wantAll rfl) (hx_mark hH (i := 3) (n := List.length [98]) (xs := cBs [98]) rfl rfl rfl (by decide) (cBs_one _) (fr_eval rfl rfl) Try.underlying58 Try.underlying5) ?_
  clear hH
  rintro _ w6 ⟨rfl, hH, hx⟩
  replace hH : Heap _ _ _ [_, _, _, _] := hH
  clear hx
  refine lf_call (wantAll rfl) (rv_call (args := [.pointer (some ⟨g1, 0, none⟩), y4]) rfl (evc (fr_eval rfl rfl) (evc (fr_eval rfl rfl) evn)) Try.call39) (kSign_no (⟨List.replicate 32 0, (List.length_replicate ..)⟩ : S32) (keyL (⟨List.replicate 32 0, (List.length_replicate ..)⟩ : S32) 1) (by have := keyL_len (⟨List.replicate 32 0, (List.length_replicate ..)⟩ : S32) 1; omega) _ _ (by have := (hH.blk (i := 0) rfl); rw [show ((0 + 1 : Nat) : Int) = (((keyL (⟨List.replicate 32 0, (List.length_replicate ..)⟩ : S32) 1).length : Nat) : Int) from by rw [keyL_len]] at this; exact this) (Own.rd (hH.own (i := 1) rfl) (row_one cS_one))) ?_
  rintro _ w7 ⟨rfl, hx⟩
  refine ⟨_, rfl, ?_⟩
  replace hH := hH.ext hx
  clear hx
  refine lf_val (v := .tuple #[.slice none 0 0, .int .i64 15]) (wantAll rfl) (rv_move rfl (fr_eval rfl rfl)) ?_
  refine lf_val (v := .slice none 0 0) (wantAll rfl) (rv_extract rfl (fr_eval rfl rfl) rfl) ?_
  refine lf_val (v := .int .i64 15) (wantAll rfl) (rv_extract rfl (fr_eval rfl rfl) rfl) ?_
  refine lf_val (v := .slice none 0 0) (wantAll rfl) (rv_assign rfl (fr_eval rfl rfl)) ?_
  refine lf_val (v := .int .i64 15) (wantAll rfl) (rv_assign rfl (fr_eval rfl rfl)) ?_
  refine lf_nil ?_
  refine then_n ?_
  refine wp_seq ?_
  replace hH : Heap _ _ _ [_, _, _] := hH.drop (.cons_cons _ (.cons_cons _ (.cons_cons _ (.cons _ .slnil))))
  refine wp_gen (fun F' => F' 0 = .bool false ∧ F' 1 = .pointer (some ⟨g1, 0, none⟩) ∧ F' 2 = .int .i64 0 ∧ F' 3 = y3 ∧ F' 4 = .int .i64 0 ∧ F' 6 = .int .i64 15 ∧ F' 17 = .bool false) ⟨e0, e1, e2, e3, e4, rfl, e17⟩ ?_
  clear e0 e1 e2 e3 e4 e17
  clear F
  rintro F ⟨e0, e1, e2, e3, e4, e6, e17⟩
  refine wp_regionF ?_
  refine lf_val (v := .int .i64 0) (wantAll rfl) (rv_move rfl (fr_eval rfl e4)) ?_
  refine lf_val (v := .bool true) (wantAll rfl) (rv_eql rfl (fr_eval rfl rfl) rfl (by decide)) ?_
  refine lf_val (v := .bool true) (wantAll rfl) (rv_move rfl (fr_eval rfl rfl)) ?_
  refine lf_val (v := .int .i64 15) (wantF (d := 34) rfl (by kernel_rfl) rfl rfl) (rv_move rfl (fr_eval rfl e6)) ?_
  refine lf_val (v := .bool true) (wantF (d := 34) rfl (by kernel_rfl) rfl rfl) (rv_eql rfl (fr_eval rfl rfl) rfl (by decide)) ?_
  refine lf_val (v := .bool true) (wantAll rfl) (rv_pickT rfl (fr_eval rfl rfl) (fr_eval rfl rfl)) ?_
  refine lf_val (v := .bool true) (wantAll rfl) (rv_move rfl (fr_eval rfl rfl)) ?_
  refine lf_val (v := .pointer (some ⟨g1, 0, none⟩)) (wantF (d := 38) rfl (by kernel_rfl) rfl rfl) (rv_move rfl (fr_eval rfl e1)) ?_
  refine lf_call (wantF (d := 38) rfl (by kernel_rfl) rfl rfl) (rv_call (args := [.pointer (some ⟨g1, 0, none⟩)]) rfl (evc (fr_eval rfl rfl) evn) Try.call51) (kRoot (⟨List.replicate 32 0, (List.length_replicate ..)⟩ : S32) (keyL (⟨List.replicate 32 0, (List.length_replicate ..)⟩ : S32) 1) (by have := keyL_len (⟨List.replicate 32 0, (List.length_replicate ..)⟩ : S32) 1; omega) (0 + 1) (by omega) _ (hH.blk (i := 0) rfl) (Own.rd (hH.own (i := 1) rfl) (row_one cS_one))) ?_
  rintro _ w8 ⟨rfl, hx⟩
  refine ⟨_, rfl, ?_⟩
  replace hH := hH.ext hx
  clear hx
  refine lf_ex (wantF (d := 38) rfl (by kernel_rfl) rfl rfl) (hx_lits hH Try.stB (n := 1) (nm := List.length [97]) [(.const (cB 97))] (vs := [(cB 97)]) (cs := cBs [97]) rfl (evc rfl evn) (cBs_one [97]) rfl (by decide) rfl rfl) ?_
  clear hH
  rintro y5 w9 ⟨hH, hx⟩
  replace hH : Heap _ _ _ [_, _, _, _] := hH
  clear hx
  refine lf_ex (wantF (d := 38) rfl (by kernel_rfl) rfl rfl) (hx_mark hH (i := 3) (n := List.length [97]) (xs := cBs [97]) rfl rfl rfl (by decide) (cBs_one _) (fr_eval rfl rfl) Try.underlying58 Try.underlying5) ?_
  clear hH
  rintro _ w10 ⟨rfl, hH, hx⟩
  replace hH : Heap _ _ _ [_, _, _, _] := hH
  clear hx
  refine lf_val (v := y3) (wantF (d := 38) rfl (by kernel_rfl) rfl rfl) (rv_move rfl (fr_eval rfl e3)) ?_
  refine lf_call (wantF (d := 38) rfl (by kernel_rfl) rfl rfl) (rv_call (args := [.agg (cBs ((rootS (keyL (⟨List.replicate 32 0, (List.length_replicate ..)⟩ : S32) 1)).1)).toArray, y5, y3]) rfl (evc (fr_eval rfl rfl) (evc (fr_eval rfl rfl) (evc (fr_eval rfl rfl) evn))) Try.call48) (calls_known (b' := true) (verify5_calls 0 (keyL (⟨List.replicate 32 0, (List.length_replicate ..)⟩ : S32) 1).length (pathT (List.map leafS (keyL (⟨List.replicate 32 0, (List.length_replicate ..)⟩ : S32) 1)) 0) (sigs (seedS (⟨List.replicate 32 0, (List.length_replicate ..)⟩ : S32) 0).1 (join 14 [[97]]) 64) (by omega) (by omega) (by omega) (by omega) (rootS (keyL (⟨List.replicate 32 0, (List.length_replicate ..)⟩ : S32) 1)) [97] (Nat.le_trans (Nat.le_of_eq rfl) (by decide)) _ _ _ (hH.rd (i := 3) rfl) (OwnB.rd (hH.own (i := 2) rfl))) (by have h := verM_ok (s := (⟨List.replicate 32 0, (List.length_replicate ..)⟩ : S32)) (n := 1) (i := 0) (t := [97]) (by decide) (by decide); rw [keyL_len]; exact h)) ?_
  rintro _ w11 ⟨rfl, hx⟩
  refine ⟨_, rfl, ?_⟩
  replace hH := hH.ext hx
  clear hx
  refine lf_val (v := .bool true) (wantAll rfl) (rv_pickT rfl (fr_eval rfl rfl) (fr_eval rfl rfl)) ?_
  refine lf_val (v := .bool true) (wantAll rfl) (rv_move rfl (fr_eval rfl rfl)) ?_
  refine lf_val (v := y3) (wantF (d := 46) rfl (by kernel_rfl) rfl rfl) (rv_move rfl (fr_eval rfl e3)) ?_
  refine lf_call (wantF (d := 46) rfl (by kernel_rfl) rfl rfl) (rv_call (args := [y3]) rfl (evc (fr_eval rfl rfl) evn) Try.call47) (leafM_calls 0 (keyL (⟨List.replicate 32 0, (List.length_replicate ..)⟩ : S32) 1).length (pathT (List.map leafS (keyL (⟨List.replicate 32 0, (List.length_replicate ..)⟩ : S32) 1)) 0) (sigs (seedS (⟨List.replicate 32 0, (List.length_replicate ..)⟩ : S32) 0).1 (join 14 [[97]]) 64) (by omega) (by omega) (by omega) (by omega) _ _ (OwnB.rd (hH.own (i := 2) rfl))) ?_
  rintro _ w12 ⟨rfl, hx⟩
  refine ⟨_, rfl, ?_⟩
  replace hH := hH.ext hx
  clear hx
  refine lf_val (v := .bool true) (wantF (d := 46) rfl (by kernel_rfl) rfl rfl) (rv_eql rfl (fr_eval rfl rfl) rfl (by decide)) ?_
  refine lf_val (v := .bool true) (wantAll rfl) (rv_pickT rfl (fr_eval rfl rfl) (fr_eval rfl rfl)) ?_
  refine lf_val (v := .bool true) (wantAll rfl) (rv_assign rfl (fr_eval rfl rfl)) ?_
  refine lf_nil ?_
  refine then_n ?_
  replace hH : Heap _ _ _ [_, _, _] := hH.drop (.cons_cons _ (.cons_cons _ (.cons_cons _ (.cons _ .slnil))))
  refine wp_gen (fun F' => F' 0 = .bool true ∧ F' 1 = .pointer (some ⟨g1, 0, none⟩) ∧ F' 2 = .int .i64 0 ∧ F' 3 = y3 ∧ F' 4 = .int .i64 0 ∧ F' 6 = .int .i64 15 ∧ F' 17 = .bool false) ⟨rfl, e1, e2, e3, e4, e6, e17⟩ ?_
  clear e0 e1 e2 e3 e4 e6 e17
  clear F
  rintro F ⟨e0, e1, e2, e3, e4, e6, e17⟩
  refine wp_ret ?_
  exact bodyPost_ret (v := (.bool true)) (res1 rfl (ro_tmp rfl e0)) rfl (⟨rfl, hH.done⟩)

set_option maxRecDepth 100000 in
set_option maxHeartbeats 4000000 in
theorem manyNobody_walk (b : List UInt8) (v : Value) (n : Int) (hn : (-9223372036854775808 ≤ n ∧ n ≤ 9223372036854775807)) (w : World) (hr0 : RdB w v b) :
    Calls Try.prog 12 #[v, .int .i64 n] w fun e'' w' => e'' = .returned (.bool true) ∧ Ext w w' := by
  refine calls_fr (args := [v, .int .i64 n]) (n := 45) Try.func12 rfl rfl (show 2 ≤ 45 by decide) ?_
  have hr := Rd.stab hr0
  have hH : Heap (newN w) w w [] := Heap.fresh
  refine wp_seq ?_
  refine wp_gen (fun F' => F' 0 = v ∧ F' 1 = .int .i64 n) ⟨rfl, rfl⟩ ?_
  rintro F ⟨e0, e1⟩
  refine wp_regionF ?_
  refine lf_val (v := .bool false) (wantAll rfl) (rv_assign rfl rfl) ?_
  refine lf_nil ?_
  refine then_n ?_
  refine wp_seq ?_
  refine wp_gen (fun F' => F' 0 = v ∧ F' 1 = .int .i64 n ∧ F' 4 = .bool false) ⟨e0, e1, rfl⟩ ?_
  clear e0 e1
  clear F
  rintro F ⟨e0, e1, e4⟩
  refine wp_regionF ?_
  refine lf_val (v := .pointer none) (wantAll rfl) (rv_assign rfl rfl) ?_
  refine lf_nil ?_
  refine then_n ?_
  refine wp_seq ?_
  refine wp_gen (fun F' => F' 0 = v ∧ F' 1 = .int .i64 n ∧ F' 4 = .bool false ∧ F' 5 = .pointer none) ⟨e0, e1, e4, rfl⟩ ?_
  clear e0 e1 e4
  clear F
  rintro F ⟨e0, e1, e4, e5⟩
  refine wp_regionF ?_
  refine lf_val (v := .pointer none) (wantAll rfl) (rv_move rfl (fr_eval rfl e5)) ?_
  refine lf_val (v := v) (wantAll rfl) (rv_move rfl (fr_eval rfl e0)) ?_
  refine lf_call (wantAll rfl) (rv_call (args := [v]) rfl (evc (fr_eval rfl rfl) evn) Try.call38) (cut05_calls b _ _ (hr.rd _ hH.chg)) ?_
  rintro _ w1 ⟨rfl, hx⟩
  refine ⟨_, rfl, ?_⟩
  replace hH := hH.ext hx
  clear hx
  refine lf_call (wantAll rfl) (rv_call (args := [.pointer none, cutV v b 200]) rfl (evc (fr_eval rfl rfl) (evc (fr_eval rfl rfl) evn)) Try.call39) (kSign_nil _ _) ?_
  rintro _ w2 ⟨rfl, hx⟩
  refine ⟨_, rfl, ?_⟩
  replace hH := hH.ext hx
  clear hx
  refine lf_val (v := .tuple #[.slice none 0 0, .int .i64 15]) (wantAll rfl) (rv_move rfl (fr_eval rfl rfl)) ?_
  refine lf_val (v := .slice none 0 0) (wantAll rfl) (rv_extract rfl (fr_eval rfl rfl) rfl) ?_
  refine lf_val (v := .int .i64 15) (wantAll rfl) (rv_extract rfl (fr_eval rfl rfl) rfl) ?_
  refine lf_val (v := .slice none 0 0) (wantAll rfl) (rv_assign rfl (fr_eval rfl rfl)) ?_
  refine lf_val (v := .int .i64 15) (wantAll rfl) (rv_assign rfl (fr_eval rfl rfl)) ?_
  refine lf_nil ?_
  refine then_n ?_
  refine wp_seq ?_
  refine wp_gen (fun F' => F' 0 = v ∧ F' 1 = .int .i64 n ∧ F' 4 = .bool false ∧ F' 5 = .pointer none ∧ F' 6 = .slice none 0 0 ∧ F' 7 = .int .i64 15) ⟨e0, e1, e4, e5, rfl, rfl⟩ ?_
  clear e0 e1 e4 e5
  clear F
  rintro F ⟨e0, e1, e4, e5, e6, e7⟩
  refine wp_regionF ?_
  refine lf_val (v := .slice none 0 0) (wantAll rfl) (rv_move rfl (fr_eval rfl e6)) ?_
  refine lf_val (v := .int .i64 0) (wantAll rfl) (rv_len rfl (fr_eval rfl rfl) (Rd.nil (size := 1)) Try.underlying58) ?_
  refine lf_val (v := .bool true) (wantAll rfl) (rv_eql rfl (fr_eval rfl rfl) rfl (by decide)) ?_
  refine lf_val (v := .bool true) (wantAll rfl) (rv_move rfl (fr_eval rfl rfl)) ?_
  refine lf_val (v := .int .i64 15) (wantF (d := 18) rfl (by kernel_rfl) rfl rfl) (rv_move rfl (fr_eval rfl e7)) ?_
  refine lf_val (v := .bool true) (wantF (d := 18) rfl (by kernel_rfl) rfl rfl) (rv_eql rfl (fr_eval rfl rfl) rfl (by decide)) ?_
  refine lf_val (v := .bool true) (wantAll rfl) (rv_pickT rfl (fr_eval rfl rfl) (fr_eval rfl rfl)) ?_
  refine lf_val (v := .bool true) (wantAll rfl) (rv_move rfl (fr_eval rfl rfl)) ?_
  refine lf_val (v := .pointer none) (wantF (d := 22) rfl (by kernel_rfl) rfl rfl) (rv_move rfl (fr_eval rfl e5)) ?_
  refine lf_call (wantF (d := 22) rfl (by kernel_rfl) rfl rfl) (rv_call (args := [.pointer none]) rfl (evc (fr_eval rfl rfl) evn) Try.call51) (kRoot_nil _) ?_
  rintro _ w3 ⟨rfl, hx⟩
  refine ⟨_, rfl, ?_⟩
  replace hH := hH.ext hx
  clear hx
  refine lf_val (v := .agg (cBs (List.replicate 32 0)).toArray) (wantF (d := 22) rfl (by kernel_rfl) rfl rfl) (by kernel_rfl) ?_
  refine lf_val (v := .bool true) (wantF (d := 22) rfl (by kernel_rfl) rfl rfl) (eqT (b := true) rfl (fr_eval rfl rfl) (fr_eval rfl rfl) (List.length_replicate ..) (List.length_replicate ..) (beq_self_eq_true _)) ?_
  refine lf_val (v := .bool true) (wantAll rfl) (rv_pickT rfl (fr_eval rfl rfl) (fr_eval rfl rfl)) ?_
  refine lf_val (v := .bool true) (wantAll rfl) (rv_move rfl (fr_eval rfl rfl)) ?_
  refine lf_val (v := .pointer none) (wantF (d := 28) rfl (by kernel_rfl) rfl rfl) (rv_move rfl (fr_eval rfl e5)) ?_
  refine lf_call (wantF (d := 28) rfl (by kernel_rfl) rfl rfl) (rv_call (args := [.pointer none]) rfl (evc (fr_eval rfl rfl) evn) Try.call40) (kLeft_nil _) ?_
  rintro _ w4 ⟨rfl, hx⟩
  refine ⟨_, rfl, ?_⟩
  replace hH := hH.ext hx
  clear hx
  refine lf_val (v := .pointer none) (wantF (d := 28) rfl (by kernel_rfl) rfl rfl) (rv_move rfl (fr_eval rfl e5)) ?_
  refine lf_call (wantF (d := 28) rfl (by kernel_rfl) rfl rfl) (rv_call (args := [.pointer none]) rfl (evc (fr_eval rfl rfl) evn) Try.call49) (kNext_nil _) ?_
  rintro _ w5 ⟨rfl, hx⟩
  refine ⟨_, rfl, ?_⟩
  replace hH := hH.ext hx
  clear hx
  refine lf_val (v := .int .i64 0) (wantF (d := 28) rfl (by kernel_rfl) rfl rfl) (rv_add rfl (fr_eval rfl rfl) (fr_eval rfl rfl) (wrap_i64 (by omega) (by omega) (by omega))) ?_
  refine lf_val (v := .bool true) (wantF (d := 28) rfl (by kernel_rfl) rfl rfl) (rv_eql rfl (fr_eval rfl rfl) rfl (by decide)) ?_
  refine lf_val (v := .bool true) (wantAll rfl) (rv_pickT rfl (fr_eval rfl rfl) (fr_eval rfl rfl)) ?_
  refine lf_val (v := .bool true) (wantAll rfl) (rv_move rfl (fr_eval rfl rfl)) ?_
  refine lf_val (v := .pointer none) (wantF (d := 36) rfl (by kernel_rfl) rfl rfl) (rv_move rfl (fr_eval rfl e5)) ?_
  refine lf_val (v := .int .i64 n) (wantF (d := 36) rfl (by kernel_rfl) rfl rfl) (rv_move rfl (fr_eval rfl e1)) ?_
  refine lf_call (wantF (d := 36) rfl (by kernel_rfl) rfl rfl) (rv_call (args := [.pointer none, .int .i64 n]) rfl (evc (fr_eval rfl rfl) (evc (fr_eval rfl rfl) evn)) Try.call52) (kSkip_nil _ _) ?_
  rintro _ w6 ⟨rfl, hx⟩
  refine ⟨_, rfl, ?_⟩
  replace hH := hH.ext hx
  clear hx
  refine lf_val (v := .bool true) (wantF (d := 36) rfl (by kernel_rfl) rfl rfl) (rv_eql rfl (fr_eval rfl rfl) rfl (by decide)) ?_
  refine lf_val (v := .bool true) (wantAll rfl) (rv_pickT rfl (fr_eval rfl rfl) (fr_eval rfl rfl)) ?_
  refine lf_val (v := .bool true) (wantAll rfl) (rv_move rfl (fr_eval rfl rfl)) ?_
  refine lf_call (wantF (d := 42) rfl (by kernel_rfl) rfl rfl) (rv_call (args := []) rfl evn Try.call35) (awake05_calls _) ?_
  rintro _ w7 ⟨rfl, hx⟩
  refine ⟨_, rfl, ?_⟩
  replace hH := hH.ext hx
  clear hx
  refine lf_val (v := .bool true) (wantAll rfl) (rv_pickT rfl (fr_eval rfl rfl) (fr_eval rfl rfl)) ?_
  refine lf_val (v := .bool true) (wantAll rfl) (rv_assign rfl (fr_eval rfl rfl)) ?_
  refine lf_nil ?_
  refine then_n ?_
  refine wp_gen (fun F' => F' 0 = v ∧ F' 1 = .int .i64 n ∧ F' 4 = .bool true ∧ F' 5 = .pointer none ∧ F' 6 = .slice none 0 0 ∧ F' 7 = .int .i64 15) ⟨e0, e1, rfl, e5, e6, e7⟩ ?_
  clear e0 e1 e4 e5 e6 e7
  clear F
  rintro F ⟨e0, e1, e4, e5, e6, e7⟩
  refine wp_ret ?_
  exact bodyPost_ret (v := (.bool true)) (res1 rfl (ro_tmp rfl e4)) rfl (⟨rfl, hH.done⟩)

set_option maxRecDepth 100000 in
set_option maxHeartbeats 4000000 in
theorem manyNews_walk (s : S32) (z : Int) (hz : (-9223372036854775808 ≤ z ∧ z ≤ 9223372036854775807)) (t : Int) (ht : (-9223372036854775808 ≤ t ∧ t ≤ 9223372036854775807)) (w : World) :
    Calls Try.prog 11 #[.agg (cBs s.1).toArray, .int .i64 z, .int .i64 t] w fun e'' w' => e'' = .returned (.bool true) ∧ Ext w w' := by
  refine calls_fr (args := [.agg (cBs s.1).toArray, .int .i64 z, .int .i64 t]) (n := 112) Try.func11 rfl rfl (show 3 ≤ 112 by decide) ?_
  have hH : Heap (newN w) w w [] := Heap.fresh
  refine wp_seq ?_
  refine wp_gen (fun F' => F' 0 = .agg (cBs s.1).toArray ∧ F' 1 = .int .i64 z ∧ F' 2 = .int .i64 t) ⟨rfl, rfl, rfl⟩ ?_
  rintro F ⟨e0, e1, e2⟩
  refine wp_regionF ?_
  refine lf_ex (wantAll rfl) (hx_box hH 23 (cs := cBs s.1) rfl (fr_eval rfl e0) (by rfl)) ?_
  clear hH
  rintro _ w1 ⟨g1, rfl, hH, hx⟩
  replace hH : Heap _ _ _ [_] := hH
  clear hx
  refine lf_val (v := .bool false) (wantAll rfl) (rv_assign rfl rfl) ?_
  refine lf_nil ?_
  refine then_n ?_
  refine wp_seq ?_
  refine wp_seq ?_
  refine wp_gen (fun F' => F' 0 = .agg (cBs s.1).toArray ∧ F' 1 = .int .i64 z ∧ F' 2 = .int .i64 t ∧ F' 3 = .pointer (some ⟨g1, 0, none⟩) ∧ F' 6 = .bool false) ⟨e0, e1, e2, rfl, rfl⟩ ?_
  clear e0 e1 e2
  clear F
  rintro F ⟨e0, e1, e2, e3, e6⟩
  refine wp_regionF ?_
  refine lf_val (v := .int .i64 z) (wantAll rfl) (rv_move rfl (fr_eval rfl e1)) ?_
  refine lf_val (v := .bool (decide (z > 8))) (wantAll rfl) (rv_gtrP (p := z > 8) rfl (fr_eval rfl rfl) rfl Iff.rfl) ?_
  refine lf_val (v := .bool (decide (z > 8))) (wantAll rfl) (rv_move rfl (fr_eval rfl rfl)) ?_
  refine lf_joinP (fun F' => F' 0 = .agg (cBs s.1).toArray ∧ F' 1 = .int .i64 z ∧ F' 2 = .int .i64 t ∧ F' 3 = .pointer (some ⟨g1, 0, none⟩) ∧ F' 6 = .bool false ∧ F' 15 = .bool (decide ((z > 8) ∧ (z ≤ 64)))) 3 (fun hk => ?_) ?_
  · by_cases hc1 : z > 8
    · refine lf_val (v := .int .i64 z) (wantF (d := 12) rfl (by kernel_rfl) rfl (congrArg Value.bool (decide_eq_true hc1))) (rv_move rfl (fr_eval rfl e1)) ?_
      refine lf_val (v := .bool (decide (z ≤ 64))) (wantF (d := 12) rfl (by kernel_rfl) rfl (congrArg Value.bool (decide_eq_true hc1))) (rv_leqP (p := z ≤ 64) rfl (fr_eval rfl rfl) rfl Iff.rfl) ?_
      refine lf_val (v := .bool (decide (z ≤ 64))) (wantAll rfl) (rv_pickT rfl (fr_eval rfl (congrArg Value.bool (decide_eq_true hc1))) (fr_eval rfl rfl)) ?_
      exact hk _ ⟨e0, e1, e2, e3, e6, (congrArg Value.bool (dec_and hc1))⟩
    · refine lf_not (wantNot (d := 12) rfl (by kernel_rfl) rfl (congrArg Value.bool (decide_eq_false hc1))) ?_
      refine lf_not (wantNot (d := 12) rfl (by kernel_rfl) rfl (congrArg Value.bool (decide_eq_false hc1))) ?_
      refine lf_val (v := .bool false) (wantAll rfl) (rv_pickF rfl (fr_eval rfl (congrArg Value.bool (decide_eq_false hc1))) rfl) ?_
      exact hk _ ⟨e0, e1, e2, e3, e6, (congrArg Value.bool (dec_andF hc1))⟩
  · clear e0 e1 e2 e3 e6
    clear F
    rintro F ⟨e0, e1, e2, e3, e6, e15⟩
    refine lf_nil ?_
    refine then_n ?_
    by_cases hc2 : (z > 8) ∧ (z ≤ 64)
    · refine wp_cond_true (fr_eval rfl (e15.trans (congrArg Value.bool (decide_eq_true hc2)))) ?_
      refine wp_seq ?_
      refine wp_regionF ?_
      refine lf_call (wantAll rfl) (rv_call (args := []) rfl evn Try.call35) (awake05_calls _) ?_
      rintro _ w2 ⟨rfl, hx⟩
      refine ⟨_, rfl, ?_⟩
      replace hH := hH.ext hx
      clear hx
      refine lf_val (v := .bool true) (wantAll rfl) (rv_assign rfl (fr_eval rfl rfl)) ?_
      refine lf_nil ?_
      refine then_n ?_
      refine wp_gen (fun F' => F' 0 = .agg (cBs s.1).toArray ∧ F' 1 = .int .i64 z ∧ F' 2 = .int .i64 t ∧ F' 3 = .pointer (some ⟨g1, 0, none⟩) ∧ F' 6 = .bool true ∧ F' 15 = .bool true) ⟨e0, e1, e2, e3, rfl, (e15.trans (congrArg Value.bool (decide_eq_true hc2)))⟩ ?_
      clear e0 e1 e2 e3 e6 e15
      clear F
      rintro F ⟨e0, e1, e2, e3, e6, e15⟩
      refine wp_ret ?_
      refine then_ret ?_
      exact bodyPost_ret (v := (.bool true)) (res1 rfl (ro_tmp rfl e6)) rfl (⟨rfl, hH.done⟩)
    · refine wp_cond_false (fr_eval rfl (e15.trans (congrArg Value.bool (decide_eq_false hc2)))) ?_
      refine wp_skip ?_
      refine then_n ?_
      refine wp_seq ?_
      by_cases hf1 : 1 ≤ z ∧ z ≤ 64
      · obtain ⟨n, rfl⟩ : ∃ n : Nat, z = (n : Int) := ⟨z.toNat, by omega⟩
        have hkl := keyL_len s n
        refine wp_regionF ?_
        refine lf_val (v := .agg (cBs s.1).toArray) (wantAll rfl) (rv_loadW rfl (hH.blk (i := 0) rfl) (fr_eval rfl e3) Try.underlying23 rfl (sz_len Try.sz23 (cBs_len s.2))) ?_
        refine lf_val (v := .int .i64 ((n : Nat) : Int)) (wantAll rfl) (rv_move rfl (fr_eval rfl e1)) ?_
        refine lf_call (wantAll rfl) (rv_call (args := [.agg (cBs s.1).toArray, .int .i64 ((n : Nat) : Int)]) rfl (evc (fr_eval rfl rfl) (evc (fr_eval rfl rfl) evn)) Try.call36) (new_yes s n (by omega) (by omega) _) ?_
        rintro _ w3 ⟨g2, y1, rfl, hP⟩
        refine ⟨_, rfl, ?_⟩
        have hx := hP.done
        replace hH : Heap _ _ _ [_, _, _] := hH.joinN hP (Stays.blk (hP.blk (i := 0) rfl) (Stays.own (hP.own (i := 1) rfl) Stays.nil))
        clear hP
        clear hx
        refine lf_val (v := .tuple #[.pointer (some ⟨g2, 0, none⟩), .int .i64 0]) (wantAll rfl) (rv_move rfl (fr_eval rfl rfl)) ?_
        refine lf_val (v := .pointer (some ⟨g2, 0, none⟩)) (wantAll rfl) (rv_extract rfl (fr_eval rfl rfl) rfl) ?_
        refine lf_val (v := .int .i64 0) (wantAll rfl) (rv_extract rfl (fr_eval rfl rfl) rfl) ?_
        refine lf_val (v := .pointer (some ⟨g2, 0, none⟩)) (wantAll rfl) (rv_assign rfl (fr_eval rfl rfl)) ?_
        refine lf_val (v := .int .i64 0) (wantAll rfl) (rv_assign rfl (fr_eval rfl rfl)) ?_
        refine lf_nil ?_
        refine then_n ?_
        refine wp_seq ?_
        refine wp_seq ?_
        refine wp_gen (fun F' => F' 0 = .agg (cBs s.1).toArray ∧ F' 1 = .int .i64 ((n : Nat) : Int) ∧ F' 2 = .int .i64 t ∧ F' 3 = .pointer (some ⟨g1, 0, none⟩) ∧ F' 6 = .bool false ∧ F' 7 = .pointer (some ⟨g2, 0, none⟩) ∧ F' 8 = .int .i64 0 ∧ F' 15 = .bool false) ⟨e0, e1, e2, e3, e6, rfl, rfl, (e15.trans (congrArg Value.bool (decide_eq_false hc2)))⟩ ?_
        clear e0 e1 e2 e3 e6 e15
        clear F
        rintro F ⟨e0, e1, e2, e3, e6, e7, e8, e15⟩
        refine wp_regionF ?_
        refine lf_val (v := .int .i64 ((n : Nat) : Int)) (wantAll rfl) (rv_move rfl (fr_eval rfl e1)) ?_
        refine lf_val (v := .bool (decide (n < 1))) (wantAll rfl) (rv_lssP (p := n < 1) rfl (fr_eval rfl rfl) rfl (by omega)) ?_
        refine lf_val (v := .bool (decide (n < 1))) (wantAll rfl) (rv_move rfl (fr_eval rfl rfl)) ?_
        refine lf_joinP (fun F' => F' 0 = .agg (cBs s.1).toArray ∧ F' 1 = .int .i64 ((n : Nat) : Int) ∧ F' 2 = .int .i64 t ∧ F' 3 = .pointer (some ⟨g1, 0, none⟩) ∧ F' 6 = .bool false ∧ F' 7 = .pointer (some ⟨g2, 0, none⟩) ∧ F' 8 = .int .i64 0 ∧ F' 15 = .bool false ∧ F' 28 = .bool (decide ((n < 1) ∨ (n > 64)))) 3 (fun hk => ?_) ?_
        · by_cases hc3 : n < 1
          · refine lf_not (wantNot (d := 25) rfl (by kernel_rfl) rfl (congrArg Value.bool (decide_eq_true hc3))) ?_
            refine lf_not (wantNot (d := 25) rfl (by kernel_rfl) rfl (congrArg Value.bool (decide_eq_true hc3))) ?_
            refine lf_val (v := .bool true) (wantAll rfl) (rv_pickT rfl (fr_eval rfl (congrArg Value.bool (decide_eq_true hc3))) rfl) ?_
            exact hk _ ⟨e0, e1, e2, e3, e6, e7, e8, e15, (congrArg Value.bool (dec_orT hc3))⟩
          · refine lf_val (v := .int .i64 ((n : Nat) : Int)) (wantF (d := 25) rfl (by kernel_rfl) rfl (congrArg Value.bool (decide_eq_false hc3))) (rv_move rfl (fr_eval rfl e1)) ?_
            refine lf_val (v := .bool (decide (n > 64))) (wantF (d := 25) rfl (by kernel_rfl) rfl (congrArg Value.bool (decide_eq_false hc3))) (rv_gtrP (p := n > 64) rfl (fr_eval rfl rfl) rfl (by omega)) ?_
            refine lf_val (v := .bool (decide (n > 64))) (wantAll rfl) (rv_pickF rfl (fr_eval rfl (congrArg Value.bool (decide_eq_false hc3))) (fr_eval rfl rfl)) ?_
            exact hk _ ⟨e0, e1, e2, e3, e6, e7, e8, e15, (congrArg Value.bool (dec_or hc3))⟩
        · clear e0 e1 e2 e3 e6 e7 e8 e15
          clear F
          rintro F ⟨e0, e1, e2, e3, e6, e7, e8, e15, e28⟩
          refine lf_nil ?_
          refine then_n ?_
          by_cases hc4 : (n < 1) ∨ (n > 64)
          · refine wp_cond_true (fr_eval rfl (e28.trans (congrArg Value.bool (decide_eq_true hc4)))) ?_
            refine wp_seq ?_
            refine wp_regionF ?_
            refine lf_val (v := .pointer (some ⟨g2, 0, none⟩)) (wantAll rfl) (rv_move rfl (fr_eval rfl e7)) ?_
            refine lf_val (v := .bool false) (wantAll rfl) (rv_eqnil (p := (some ⟨g2, 0, none⟩)) rfl (fr_eval rfl rfl) rfl Try.underlying67) ?_
            refine lf_val (v := .bool false) (wantAll rfl) (rv_move rfl (fr_eval rfl rfl)) ?_
            refine lf_not (wantNot (d := 31) rfl (by kernel_rfl) rfl rfl) ?_
            refine lf_not (wantNot (d := 31) rfl (by kernel_rfl) rfl rfl) ?_
            refine lf_val (v := .bool false) (wantAll rfl) (rv_pickF rfl (fr_eval rfl rfl) rfl) ?_
            refine lf_val (v := .bool false) (wantAll rfl) (rv_move rfl (fr_eval rfl rfl)) ?_
            refine lf_not (wantNot (d := 35) rfl (by kernel_rfl) rfl rfl) ?_
            refine lf_val (v := .bool false) (wantAll rfl) (rv_pickF rfl (fr_eval rfl rfl) rfl) ?_
            refine lf_val (v := .bool false) (wantAll rfl) (rv_assign rfl (fr_eval rfl rfl)) ?_
            refine lf_nil ?_
            refine then_n ?_
            refine wp_gen (fun F' => F' 0 = .agg (cBs s.1).toArray ∧ F' 1 = .int .i64 ((n : Nat) : Int) ∧ F' 2 = .int .i64 t ∧ F' 3 = .pointer (some ⟨g1, 0, none⟩) ∧ F' 6 = .bool false ∧ F' 7 = .pointer (some ⟨g2, 0, none⟩) ∧ F' 8 = .int .i64 0 ∧ F' 15 = .bool false ∧ F' 28 = .bool true) ⟨e0, e1, e2, e3, rfl, e7, e8, e15, (e28.trans (congrArg Value.bool (decide_eq_true hc4)))⟩ ?_
            clear e0 e1 e2 e3 e6 e7 e8 e15 e28
            clear F
            rintro F ⟨e0, e1, e2, e3, e6, e7, e8, e15, e28⟩
            refine wp_ret ?_
            refine then_ret ?_
            exact bodyPost_ret (v := (.bool false)) (res1 rfl (ro_tmp rfl e6)) rfl (by exfalso; omega)
          · refine wp_cond_false (fr_eval rfl (e28.trans (congrArg Value.bool (decide_eq_false hc4)))) ?_
            refine wp_skip ?_
            refine then_n ?_
            refine wp_seq ?_
            refine wp_seq ?_
            refine wp_regionX (fun _ => False) 19 (by kernel_rfl) (by kernel_rfl) ?_
            refine xl_take (i := 0) (v := .pointer (some ⟨g2, 0, none⟩)) rfl (by kernel_rfl) (by kernel_rfl) (by kernel_rfl) (by kernel_rfl) (yx_val (wantAll rfl) (fun w' hx' => rv_move rfl (fr_eval rfl e7))) ?_
            refine xl_take (i := 1) (v := .bool false) rfl (by kernel_rfl) (by kernel_rfl) (by kernel_rfl) (by kernel_rfl) (yx_val (wantAll rfl) (fun w' hx' => rv_eqnil (p := (some ⟨g2, 0, none⟩)) rfl (fr_eval rfl rfl) rfl Try.underlying67)) ?_
            refine xl_take (i := 2) (v := .bool false) rfl (by kernel_rfl) (by kernel_rfl) (by kernel_rfl) (by kernel_rfl) (yx_val (wantAll rfl) (fun w' hx' => rv_move rfl (fr_eval rfl rfl))) ?_
            refine xl_take (i := 3) (v := .int .i64 0) rfl (by kernel_rfl) (by kernel_rfl) (by kernel_rfl) (by kernel_rfl) (yx_val (wantF (d := 40) rfl (by kernel_rfl) rfl rfl) (fun w' hx' => rv_move rfl (fr_eval rfl e8))) ?_
            refine xl_take (i := 4) (v := .bool false) rfl (by kernel_rfl) (by kernel_rfl) (by kernel_rfl) (by kernel_rfl) (yx_val (wantF (d := 40) rfl (by kernel_rfl) rfl rfl) (fun w' hx' => rv_neq rfl (fr_eval rfl rfl) rfl (show decide ((0 : Int) = 0) = true from by decide))) ?_
            refine xl_take (i := 5) (v := .bool false) rfl (by kernel_rfl) (by kernel_rfl) (by kernel_rfl) (by kernel_rfl) (yx_val (wantAll rfl) (fun w' hx' => rv_pickF rfl (fr_eval rfl rfl) (fr_eval rfl rfl))) ?_
            refine xl_take (i := 6) (v := .bool false) rfl (by kernel_rfl) (by kernel_rfl) (by kernel_rfl) (by kernel_rfl) (yx_val (wantAll rfl) (fun w' hx' => rv_move rfl (fr_eval rfl rfl))) ?_
            refine xl_take (i := 7) (v := .pointer (some ⟨g2, 0, none⟩)) rfl (by kernel_rfl) (by kernel_rfl) (by kernel_rfl) (by kernel_rfl) (yx_val (wantF (d := 44) rfl (by kernel_rfl) rfl rfl) (fun w' hx' => rv_move rfl (fr_eval rfl e7))) ?_
            refine xl_take (i := 8) (v := .agg (cBs ((rootS (keyL s n)).1)).toArray) rfl (by kernel_rfl) (by kernel_rfl) (by kernel_rfl) (by kernel_rfl) (yx_call (wantF (d := 44) rfl (by kernel_rfl) rfl rfl) (fun w' => rv_call (args := [.pointer (some ⟨g2, 0, none⟩)]) rfl (evc (fr_eval rfl rfl) evn) Try.call51) (fun w' hx' => kRoot s (keyL s n) (by omega) 0 (by omega) _ ((hH.ext hx').blk (i := 1) rfl) (Own.rd ((hH.ext hx').own (i := 2) rfl) (row_one cS_one)))) ?_
            refine xl_take (i := 9) (v := .agg (cBs s.1).toArray) rfl (by kernel_rfl) (by kernel_rfl) (by kernel_rfl) (by kernel_rfl) (yx_val (wantF (d := 44) rfl (by kernel_rfl) rfl rfl) (fun w' hx' => rv_loadW rfl ((hH.ext hx').blk (i := 0) rfl) (fr_eval rfl e3) Try.underlying23 rfl (sz_len Try.sz23 (cBs_len s.2)))) ?_
            refine xl_take (i := 10) (v := .int .i64 ((n : Nat) : Int)) rfl (by kernel_rfl) (by kernel_rfl) (by kernel_rfl) (by kernel_rfl) (yx_val (wantF (d := 44) rfl (by kernel_rfl) rfl rfl) (fun w' hx' => rv_move rfl (fr_eval rfl e1))) ?_
            refine anyX_ready (rs := [11]) (by kernel_rfl) ?_
            intro w4 hx
            replace hH := hH.ext hx
            clear hx
            refine (anyX_cons ?_ anyX_nil)
            refine xl_step (i := 11) rfl (wantF (d := 44) rfl (by kernel_rfl) rfl rfl) ?_
            refine of_call (rv_call (args := [.agg (cBs s.1).toArray, .int .i64 ((n : Nat) : Int)]) rfl (evc (fr_eval rfl rfl) (evc (fr_eval rfl rfl) evn)) Try.call37) (leaves05_calls s n (by omega) _) ?_
            rintro _ w5 ⟨⟨y2, rfl, ho, hg⟩, hx⟩
            refine ⟨_, rfl, ?_⟩
            replace hH : Heap _ _ _ [_, _, _, _] := hH.addOwn hx hg ho
            clear ho hg
            refine ⟨hx, ?_⟩
            clear hx
            refine xl_take (i := 12) (v := .agg (cBs ((rootS (keyL s n)).1)).toArray) rfl (by kernel_rfl) (by kernel_rfl) (by kernel_rfl) (by kernel_rfl) (yx_call (wantF (d := 44) rfl (by kernel_rfl) rfl rfl) (fun w' => rv_call (args := [y2]) rfl (evc (fr_eval rfl rfl) evn) Try.call19) (fun w' hx' => root_calls (keyL s n) (by omega) _ _ (Own.rd ((hH.ext hx').own (i := 3) rfl) (row_one cS_one)))) ?_
            refine xl_take (i := 13) (v := .bool false) rfl (by kernel_rfl) (by kernel_rfl) (by kernel_rfl) (by kernel_rfl) (yx_val (wantF (d := 44) rfl (by kernel_rfl) rfl rfl) (fun w' hx' => neT (b := true) rfl (fr_eval rfl rfl) (fr_eval rfl rfl) (rootS (keyL s n)).2 (rootS (keyL s n)).2 (beq_self_eq_true _))) ?_
            refine xl_take (i := 14) (v := .bool false) rfl (by kernel_rfl) (by kernel_rfl) (by kernel_rfl) (by kernel_rfl) (yx_val (wantAll rfl) (fun w' hx' => rv_pickF rfl (fr_eval rfl rfl) (fr_eval rfl rfl))) ?_
            refine xl_take (i := 15) (v := .bool false) rfl (by kernel_rfl) (by kernel_rfl) (by kernel_rfl) (by kernel_rfl) (yx_val (wantAll rfl) (fun w' hx' => rv_move rfl (fr_eval rfl rfl))) ?_
            refine xl_take (i := 16) (v := .pointer (some ⟨g2, 0, none⟩)) rfl (by kernel_rfl) (by kernel_rfl) (by kernel_rfl) (by kernel_rfl) (yx_val (wantF (d := 53) rfl (by kernel_rfl) rfl rfl) (fun w' hx' => rv_move rfl (fr_eval rfl e7))) ?_
            refine xl_take (i := 17) (v := .int .i64 (((keyL s n).length - 0 : Nat) : Int)) rfl (by kernel_rfl) (by kernel_rfl) (by kernel_rfl) (by kernel_rfl) (yx_call (wantF (d := 53) rfl (by kernel_rfl) rfl rfl) (fun w' => rv_call (args := [.pointer (some ⟨g2, 0, none⟩)]) rfl (evc (fr_eval rfl rfl) evn) Try.call40) (fun w' hx' => kLeft s (keyL s n) (by omega) 0 (by omega) (by omega) _ ((hH.ext hx').blk (i := 1) rfl) (Own.rd ((hH.ext hx').own (i := 2) rfl) (row_one cS_one)))) ?_
            refine xl_take (i := 18) (v := .int .i64 ((n : Nat) : Int)) rfl (by kernel_rfl) (by kernel_rfl) (by kernel_rfl) (by kernel_rfl) (yx_val (wantF (d := 53) rfl (by kernel_rfl) rfl rfl) (fun w' hx' => rv_move rfl (fr_eval rfl e1))) ?_
            refine xl_tail (s := 19) rfl ?_
            intro w6 hx
            replace hH := hH.ext hx
            clear hx
            refine lf_val (v := .bool (decide (¬ (keyL s n).length - 0 = n))) (wantF (d := 53) rfl (by kernel_rfl) rfl rfl) (rv_neqP (p := ¬ (keyL s n).length - 0 = n) rfl (fr_eval rfl rfl) (fr_eval rfl rfl) (by omega)) ?_
            refine lf_val (v := .bool (decide (¬ (keyL s n).length - 0 = n))) (wantAll rfl) (rv_pickF rfl (fr_eval rfl rfl) (fr_eval rfl rfl)) ?_
            refine lf_val (v := .bool (decide (¬ (keyL s n).length - 0 = n))) (wantAll rfl) (rv_move rfl (fr_eval rfl rfl)) ?_
            refine lf_join (fun F' w' => F' 0 = .agg (cBs s.1).toArray ∧ F' 1 = .int .i64 ((n : Nat) : Int) ∧ F' 2 = .int .i64 t ∧ F' 3 = .pointer (some ⟨g1, 0, none⟩) ∧ F' 6 = .bool false ∧ F' 7 = .pointer (some ⟨g2, 0, none⟩) ∧ F' 8 = .int .i64 0 ∧ F' 15 = .bool false ∧ F' 28 = .bool false ∧ F' 63 = .bool (decide (¬ (keyL s n).length - 0 = n)) ∧ Heap (newN w) w w' [oBlk g1 (cBs s.1) 23, oBlk g2 (cBs s.1 ++ ([y1, .int .i64 0] : List Value)) 108, oRow cS 23 32 y1 (keyL s n), oRow cS 23 32 y2 (keyL s n)]) 4 (fun hk => ?_) ?_
            · by_cases hc5 : (keyL s n).length - 0 = n
              · refine lf_val (v := .pointer (some ⟨g2, 0, none⟩)) (wantF (d := 59) rfl (by kernel_rfl) rfl (congrArg Value.bool (decide_eq_false (not_not_intro hc5)))) (rv_move rfl (fr_eval rfl e7)) ?_
                refine lf_call (wantF (d := 59) rfl (by kernel_rfl) rfl (congrArg Value.bool (decide_eq_false (not_not_intro hc5)))) (rv_call (args := [.pointer (some ⟨g2, 0, none⟩)]) rfl (evc (fr_eval rfl rfl) evn) Try.call49) (kNext s (keyL s n) (by omega) 0 (by omega) _ (hH.blk (i := 1) rfl) (Own.rd (hH.own (i := 2) rfl) (row_one cS_one))) ?_
                rintro _ w7 ⟨rfl, hx⟩
                refine ⟨_, rfl, ?_⟩
                replace hH := hH.ext hx
                clear hx
                refine lf_val (v := .bool false) (wantF (d := 59) rfl (by kernel_rfl) rfl (congrArg Value.bool (decide_eq_false (not_not_intro hc5)))) (rv_neq rfl (fr_eval rfl rfl) rfl (show decide ((0 : Int) = 0) = true from by decide)) ?_
                refine lf_val (v := .bool false) (wantAll rfl) (rv_pickF rfl (fr_eval rfl (congrArg Value.bool (decide_eq_false (not_not_intro hc5)))) (fr_eval rfl rfl)) ?_
                exact hk _ _ ⟨e0, e1, e2, e3, e6, e7, e8, e15, (e28.trans (congrArg Value.bool (decide_eq_false hc4))), (congrArg Value.bool (dec_f (not_not_intro hc5))), hH⟩
              · refine lf_not (wantNot (d := 59) rfl (by kernel_rfl) rfl (congrArg Value.bool (decide_eq_true hc5))) ?_
                refine lf_not (wantNot (d := 59) rfl (by kernel_rfl) rfl (congrArg Value.bool (decide_eq_true hc5))) ?_
                refine lf_not (wantNot (d := 59) rfl (by kernel_rfl) rfl (congrArg Value.bool (decide_eq_true hc5))) ?_
                refine lf_val (v := .bool true) (wantAll rfl) (rv_pickT rfl (fr_eval rfl (congrArg Value.bool (decide_eq_true hc5))) rfl) ?_
                exact hk _ _ ⟨e0, e1, e2, e3, e6, e7, e8, e15, (e28.trans (congrArg Value.bool (decide_eq_false hc4))), (congrArg Value.bool (dec_t hc5)), hH⟩
            · clear e0 e1 e2 e3 e6 e7 e8 e15 e28 hH
              clear F
              rintro F w8 ⟨e0, e1, e2, e3, e6, e7, e8, e15, e28, e63, hH⟩
              refine lf_nil ?_
              refine then_n ?_
              by_cases hc6 : (keyL s n).length - 0 = n
              · refine wp_cond_false (fr_eval rfl (e63.trans (congrArg Value.bool (decide_eq_false (not_not_intro hc6))))) ?_
                refine wp_skip ?_
                refine then_n ?_
                refine wp_seq ?_
                by_cases hf2 : 0 ≤ t ∧ t ≤ ((n : Nat) : Int)
                · obtain ⟨tn, rfl⟩ : ∃ tn : Nat, t = (tn : Int) := ⟨t.toNat, by omega⟩
                  refine wp_regionF ?_
                  refine lf_val (v := .pointer (some ⟨g2, 0, none⟩)) (wantAll rfl) (rv_move rfl (fr_eval rfl e7)) ?_
                  refine lf_val (v := .int .i64 ((tn : Nat) : Int)) (wantAll rfl) (rv_move rfl (fr_eval rfl e2)) ?_
                  replace hH : Heap _ _ _ [_, _, _, _] := hH.perm (.cons _ (.trans (.swap _ _ _) (.cons _ (.trans (.swap _ _ _) (.cons _ (.refl _))))))
                  refine lf_call (wantAll rfl) (rv_call (args := [.pointer (some ⟨g2, 0, none⟩), .int .i64 ((tn : Nat) : Int)]) rfl (evc (fr_eval rfl rfl) (evc (fr_eval rfl rfl) evn)) Try.call52) (kSkip_yes s (keyL s n) (by omega) 0 tn (by omega) (by omega) _ (hH.blk (i := 2) rfl) (hH.own (i := 3) rfl)) ?_
                  rintro _ w9 ⟨rfl, hP⟩
                  refine ⟨_, rfl, ?_⟩
                  have hx := hH.callChg (L := [_, _]) (M := [_, _]) hold_in hP
                  replace hH : Heap _ _ _ [_, _, _, _] := hH.call (L := [_, _]) (M := [_, _]) hold_in hP (Stays.blk (hP.blk (i := 0) rfl) (Stays.own (hP.own (i := 1) rfl) Stays.nil))
                  clear hP
                  clear hx
                  refine lf_val (v := .int .i64 0) (wantAll rfl) (rv_assign rfl (fr_eval rfl rfl)) ?_
                  refine lf_nil ?_
                  refine then_n ?_
                  refine wp_seq ?_
                  refine wp_seq ?_
                  replace hH : Heap _ _ _ [_, _, _] := hH.drop (.cons_cons _ (.cons _ (.cons_cons _ (.cons_cons _ .slnil))))
                  refine wp_gen (fun F' => F' 0 = .agg (cBs s.1).toArray ∧ F' 1 = .int .i64 ((n : Nat) : Int) ∧ F' 2 = .int .i64 ((tn : Nat) : Int) ∧ F' 3 = .pointer (some ⟨g1, 0, none⟩) ∧ F' 6 = .bool false ∧ F' 7 = .pointer (some ⟨g2, 0, none⟩) ∧ F' 8 = .int .i64 0 ∧ F' 9 = .int .i64 0 ∧ F' 15 = .bool false ∧ F' 28 = .bool false ∧ F' 63 = .bool false) ⟨e0, e1, e2, e3, e6, e7, e8, rfl, e15, e28, (e63.trans (congrArg Value.bool (decide_eq_false (not_not_intro hc6))))⟩ ?_
                  clear e0 e1 e2 e3 e6 e7 e8 e15 e28 e63
                  clear F
                  rintro F ⟨e0, e1, e2, e3, e6, e7, e8, e9, e15, e28, e63⟩
                  refine wp_regionF ?_
                  refine lf_val (v := .int .i64 ((tn : Nat) : Int)) (wantAll rfl) (rv_move rfl (fr_eval rfl e2)) ?_
                  refine lf_val (v := .bool (decide (tn < 0))) (wantAll rfl) (rv_lssP (p := tn < 0) rfl (fr_eval rfl rfl) rfl (by omega)) ?_
                  refine lf_val (v := .bool (decide (tn < 0))) (wantAll rfl) (rv_move rfl (fr_eval rfl rfl)) ?_
                  refine lf_joinP (fun F' => F' 0 = .agg (cBs s.1).toArray ∧ F' 1 = .int .i64 ((n : Nat) : Int) ∧ F' 2 = .int .i64 ((tn : Nat) : Int) ∧ F' 3 = .pointer (some ⟨g1, 0, none⟩) ∧ F' 6 = .bool false ∧ F' 7 = .pointer (some ⟨g2, 0, none⟩) ∧ F' 8 = .int .i64 0 ∧ F' 9 = .int .i64 0 ∧ F' 15 = .bool false ∧ F' 28 = .bool false ∧ F' 63 = .bool false ∧ F' 73 = .bool (decide ((tn < 0) ∨ (tn > n)))) 4 (fun hk => ?_) ?_
                  · by_cases hc7 : tn < 0
                    · refine lf_not (wantNot (d := 69) rfl (by kernel_rfl) rfl (congrArg Value.bool (decide_eq_true hc7))) ?_
                      refine lf_not (wantNot (d := 69) rfl (by kernel_rfl) rfl (congrArg Value.bool (decide_eq_true hc7))) ?_
                      refine lf_not (wantNot (d := 69) rfl (by kernel_rfl) rfl (congrArg Value.bool (decide_eq_true hc7))) ?_
                      refine lf_val (v := .bool true) (wantAll rfl) (rv_pickT rfl (fr_eval rfl (congrArg Value.bool (decide_eq_true hc7))) rfl) ?_
                      exact hk _ ⟨e0, e1, e2, e3, e6, e7, e8, e9, e15, e28, e63, (congrArg Value.bool (dec_orT hc7))⟩
                    · refine lf_val (v := .int .i64 ((tn : Nat) : Int)) (wantF (d := 69) rfl (by kernel_rfl) rfl (congrArg Value.bool (decide_eq_false hc7))) (rv_move rfl (fr_eval rfl e2)) ?_
                      refine lf_val (v := .int .i64 ((n : Nat) : Int)) (wantF (d := 69) rfl (by kernel_rfl) rfl (congrArg Value.bool (decide_eq_false hc7))) (rv_move rfl (fr_eval rfl e1)) ?_
                      refine lf_val (v := .bool (decide (tn > n))) (wantF (d := 69) rfl (by kernel_rfl) rfl (congrArg Value.bool (decide_eq_false hc7))) (rv_gtrP (p := tn > n) rfl (fr_eval rfl rfl) (fr_eval rfl rfl) (by omega)) ?_
                      refine lf_val (v := .bool (decide (tn > n))) (wantAll rfl) (rv_pickF rfl (fr_eval rfl (congrArg Value.bool (decide_eq_false hc7))) (fr_eval rfl rfl)) ?_
                      exact hk _ ⟨e0, e1, e2, e3, e6, e7, e8, e9, e15, e28, e63, (congrArg Value.bool (dec_or hc7))⟩
                  · clear e0 e1 e2 e3 e6 e7 e8 e9 e15 e28 e63
                    clear F
                    rintro F ⟨e0, e1, e2, e3, e6, e7, e8, e9, e15, e28, e63, e73⟩
                    refine lf_nil ?_
                    refine then_n ?_
                    by_cases hc8 : (tn < 0) ∨ (tn > n)
                    · refine wp_cond_true (fr_eval rfl (e73.trans (congrArg Value.bool (decide_eq_true hc8)))) ?_
                      refine wp_seq ?_
                      refine wp_regionF ?_
                      refine lf_val (v := .int .i64 0) (wantAll rfl) (rv_move rfl (fr_eval rfl e9)) ?_
                      refine lf_val (v := .bool false) (wantAll rfl) (rv_eql rfl (fr_eval rfl rfl) rfl (by decide)) ?_
                      refine lf_val (v := .bool false) (wantAll rfl) (rv_move rfl (fr_eval rfl rfl)) ?_
                      refine lf_not (wantNot (d := 76) rfl (by kernel_rfl) rfl rfl) ?_
                      refine lf_not (wantNot (d := 76) rfl (by kernel_rfl) rfl rfl) ?_
                      refine lf_not (wantNot (d := 76) rfl (by kernel_rfl) rfl rfl) ?_
                      refine lf_val (v := .bool false) (wantAll rfl) (rv_pickF rfl (fr_eval rfl rfl) rfl) ?_
                      refine lf_val (v := .bool false) (wantAll rfl) (rv_move rfl (fr_eval rfl rfl)) ?_
                      refine lf_not (wantNot (d := 81) rfl (by kernel_rfl) rfl rfl) ?_
                      refine lf_val (v := .bool false) (wantAll rfl) (rv_pickF rfl (fr_eval rfl rfl) rfl) ?_
                      refine lf_val (v := .bool false) (wantAll rfl) (rv_assign rfl (fr_eval rfl rfl)) ?_
                      refine lf_nil ?_
                      refine then_n ?_
                      refine wp_gen (fun F' => F' 0 = .agg (cBs s.1).toArray ∧ F' 1 = .int .i64 ((n : Nat) : Int) ∧ F' 2 = .int .i64 ((tn : Nat) : Int) ∧ F' 3 = .pointer (some ⟨g1, 0, none⟩) ∧ F' 6 = .bool false ∧ F' 7 = .pointer (some ⟨g2, 0, none⟩) ∧ F' 8 = .int .i64 0 ∧ F' 9 = .int .i64 0 ∧ F' 15 = .bool false ∧ F' 28 = .bool false ∧ F' 63 = .bool false ∧ F' 73 = .bool true) ⟨e0, e1, e2, e3, rfl, e7, e8, e9, e15, e28, e63, (e73.trans (congrArg Value.bool (decide_eq_true hc8)))⟩ ?_
                      clear e0 e1 e2 e3 e6 e7 e8 e9 e15 e28 e63 e73
                      clear F
                      rintro F ⟨e0, e1, e2, e3, e6, e7, e8, e9, e15, e28, e63, e73⟩
                      refine wp_ret ?_
                      refine then_ret ?_
                      exact bodyPost_ret (v := (.bool false)) (res1 rfl (ro_tmp rfl e6)) rfl (by exfalso; omega)
                    · refine wp_cond_false (fr_eval rfl (e73.trans (congrArg Value.bool (decide_eq_false hc8)))) ?_
                      refine wp_skip ?_
                      refine then_n ?_
                      refine wp_seq ?_
                      refine wp_regionF ?_
                      refine lf_val (v := .int .i64 0) (wantAll rfl) (rv_move rfl (fr_eval rfl e9)) ?_
                      refine lf_val (v := .bool true) (wantAll rfl) (rv_eql rfl (fr_eval rfl rfl) rfl (by decide)) ?_
                      refine lf_val (v := .bool true) (wantAll rfl) (rv_move rfl (fr_eval rfl rfl)) ?_
                      refine lf_val (v := .pointer (some ⟨g2, 0, none⟩)) (wantF (d := 86) rfl (by kernel_rfl) rfl rfl) (rv_move rfl (fr_eval rfl e7)) ?_
                      refine lf_call (wantF (d := 86) rfl (by kernel_rfl) rfl rfl) (rv_call (args := [.pointer (some ⟨g2, 0, none⟩)]) rfl (evc (fr_eval rfl rfl) evn) Try.call49) (kNext s (keyL s n) (by omega) tn (by omega) _ (hH.blk (i := 1) rfl) (Own.rd (hH.own (i := 2) rfl) (row_one cS_one))) ?_
                      rintro _ w10 ⟨rfl, hx⟩
                      refine ⟨_, rfl, ?_⟩
                      replace hH := hH.ext hx
                      clear hx
                      refine lf_val (v := .int .i64 ((tn : Nat) : Int)) (wantF (d := 86) rfl (by kernel_rfl) rfl rfl) (rv_move rfl (fr_eval rfl e2)) ?_
                      refine lf_val (v := .bool true) (wantF (d := 86) rfl (by kernel_rfl) rfl rfl) (rv_known (rv_eqlP (p := True) rfl (fr_eval rfl rfl) (fr_eval rfl rfl) (by simp)) (decide_eq_true trivial)) ?_
                      refine lf_val (v := .bool true) (wantAll rfl) (rv_pickT rfl (fr_eval rfl rfl) (fr_eval rfl rfl)) ?_
                      refine lf_val (v := .bool true) (wantAll rfl) (rv_move rfl (fr_eval rfl rfl)) ?_
                      refine lf_val (v := .pointer (some ⟨g2, 0, none⟩)) (wantF (d := 92) rfl (by kernel_rfl) rfl rfl) (rv_move rfl (fr_eval rfl e7)) ?_
                      refine lf_call (wantF (d := 92) rfl (by kernel_rfl) rfl rfl) (rv_call (args := [.pointer (some ⟨g2, 0, none⟩)]) rfl (evc (fr_eval rfl rfl) evn) Try.call40) (kLeft s (keyL s n) (by omega) tn (by omega) (by omega) _ (hH.blk (i := 1) rfl) (Own.rd (hH.own (i := 2) rfl) (row_one cS_one))) ?_
                      rintro _ w11 ⟨rfl, hx⟩
                      refine ⟨_, rfl, ?_⟩
                      replace hH := hH.ext hx
                      clear hx
                      refine lf_val (v := .int .i64 ((n : Nat) : Int)) (wantF (d := 92) rfl (by kernel_rfl) rfl rfl) (rv_move rfl (fr_eval rfl e1)) ?_
                      refine lf_val (v := .int .i64 ((tn : Nat) : Int)) (wantF (d := 92) rfl (by kernel_rfl) rfl rfl) (rv_move rfl (fr_eval rfl e2)) ?_
                      refine lf_val (v := .int .i64 ((n - tn : Nat) : Int)) (wantF (d := 92) rfl (by kernel_rfl) rfl rfl) (rv_sub rfl (fr_eval rfl rfl) (fr_eval rfl rfl) (wrap_i64 (by omega) (by omega) (by omega))) ?_
                      refine lf_val (v := .bool (decide ((keyL s n).length - tn = n - tn))) (wantF (d := 92) rfl (by kernel_rfl) rfl rfl) (rv_eqlP (p := (keyL s n).length - tn = n - tn) rfl (fr_eval rfl rfl) (fr_eval rfl rfl) (by omega)) ?_
                      refine lf_val (v := .bool (decide ((keyL s n).length - tn = n - tn))) (wantAll rfl) (rv_pickT rfl (fr_eval rfl rfl) (fr_eval rfl rfl)) ?_
                      refine lf_val (v := .bool (decide ((keyL s n).length - tn = n - tn))) (wantAll rfl) (rv_move rfl (fr_eval rfl rfl)) ?_
                      refine lf_join (fun F' w' => F' 0 = .agg (cBs s.1).toArray ∧ F' 1 = .int .i64 ((n : Nat) : Int) ∧ F' 2 = .int .i64 ((tn : Nat) : Int) ∧ F' 3 = .pointer (some ⟨g1, 0, none⟩) ∧ F' 6 = .bool false ∧ F' 7 = .pointer (some ⟨g2, 0, none⟩) ∧ F' 8 = .int .i64 0 ∧ F' 9 = .int .i64 0 ∧ F' 15 = .bool false ∧ F' 28 = .bool false ∧ F' 63 = .bool false ∧ F' 73 = .bool false ∧ F' 106 = .bool (decide ((keyL s n).length - tn = n - tn)) ∧ Heap (newN w) w w' [oBlk g1 (cBs s.1) 23, oBlk g2 (cBs s.1 ++ ([y1, .int .i64 ((tn : Nat) : Int)] : List Value)) 108, oRow cS 23 32 y1 (keyL s n)]) 6 (fun hk => ?_) ?_
                      · by_cases hc9 : (keyL s n).length - tn = n - tn
                        · refine lf_val (v := .pointer (some ⟨g2, 0, none⟩)) (wantF (d := 100) rfl (by kernel_rfl) rfl (congrArg Value.bool (decide_eq_true hc9))) (rv_move rfl (fr_eval rfl e7)) ?_
                          refine lf_val (v := .int .i64 ((tn : Nat) : Int)) (wantF (d := 100) rfl (by kernel_rfl) rfl (congrArg Value.bool (decide_eq_true hc9))) (rv_move rfl (fr_eval rfl e2)) ?_
                          refine lf_val (v := .int .i64 (((tn : Nat) : Int) - 1)) (wantF (d := 100) rfl (by kernel_rfl) rfl (congrArg Value.bool (decide_eq_true hc9))) (rv_sub rfl (fr_eval rfl rfl) rfl (wrap_i64 (by omega) (by omega) (by omega))) ?_
                          refine lf_call (wantF (d := 100) rfl (by kernel_rfl) rfl (congrArg Value.bool (decide_eq_true hc9))) (rv_call (args := [.pointer (some ⟨g2, 0, none⟩), .int .i64 (((tn : Nat) : Int) - 1)]) rfl (evc (fr_eval rfl rfl) (evc (fr_eval rfl rfl) evn)) Try.call52) (kSkip_no s (keyL s n) (by omega) tn (by omega) (((tn : Nat) : Int) - 1) (by omega) (by omega) _ (hH.blk (i := 1) rfl) (Own.rd (hH.own (i := 2) rfl) (row_one cS_one))) ?_
                          rintro _ w12 ⟨rfl, hx⟩
                          refine ⟨_, rfl, ?_⟩
                          replace hH := hH.ext hx
                          clear hx
                          refine lf_val (v := .bool true) (wantF (d := 100) rfl (by kernel_rfl) rfl (congrArg Value.bool (decide_eq_true hc9))) (rv_eql rfl (fr_eval rfl rfl) rfl (by decide)) ?_
                          refine lf_val (v := .bool true) (wantAll rfl) (rv_pickT rfl (fr_eval rfl (congrArg Value.bool (decide_eq_true hc9))) (fr_eval rfl rfl)) ?_
                          exact hk _ _ ⟨e0, e1, e2, e3, e6, e7, e8, e9, e15, e28, e63, (e73.trans (congrArg Value.bool (decide_eq_false hc8))), (congrArg Value.bool (dec_t hc9)), hH⟩
                        · refine lf_not (wantNot (d := 100) rfl (by kernel_rfl) rfl (congrArg Value.bool (decide_eq_false hc9))) ?_
                          refine lf_not (wantNot (d := 100) rfl (by kernel_rfl) rfl (congrArg Value.bool (decide_eq_false hc9))) ?_
                          refine lf_not (wantNot (d := 100) rfl (by kernel_rfl) rfl (congrArg Value.bool (decide_eq_false hc9))) ?_
                          refine lf_not (wantNot (d := 100) rfl (by kernel_rfl) rfl (congrArg Value.bool (decide_eq_false hc9))) ?_
                          refine lf_not (wantNot (d := 100) rfl (by kernel_rfl) rfl (congrArg Value.bool (decide_eq_false hc9))) ?_
                          refine lf_val (v := .bool false) (wantAll rfl) (rv_pickF rfl (fr_eval rfl (congrArg Value.bool (decide_eq_false hc9))) rfl) ?_
                          exact hk _ _ ⟨e0, e1, e2, e3, e6, e7, e8, e9, e15, e28, e63, (e73.trans (congrArg Value.bool (decide_eq_false hc8))), (congrArg Value.bool (dec_f hc9)), hH⟩
                      · clear e0 e1 e2 e3 e6 e7 e8 e9 e15 e28 e63 e73 hH
                        clear F
                        rintro F w13 ⟨e0, e1, e2, e3, e6, e7, e8, e9, e15, e28, e63, e73, e106, hH⟩
                        refine lf_val (wantAll rfl) (rv_move rfl (fr_eval rfl e106)) ?_
                        refine lf_val (v := .bool (decide ((keyL s n).length - tn = n - tn))) (wantAll rfl) (rv_pickB rfl (fr_eval rfl rfl) rfl rfl) ?_
                        refine lf_val (v := .bool (decide ((keyL s n).length - tn = n - tn))) (wantAll rfl) (rv_move rfl (fr_eval rfl rfl)) ?_
                        refine lf_join (fun F' w' => F' 0 = .agg (cBs s.1).toArray ∧ F' 1 = .int .i64 ((n : Nat) : Int) ∧ F' 2 = .int .i64 ((tn : Nat) : Int) ∧ F' 3 = .pointer (some ⟨g1, 0, none⟩) ∧ F' 6 = .bool false ∧ F' 7 = .pointer (some ⟨g2, 0, none⟩) ∧ F' 8 = .int .i64 0 ∧ F' 9 = .int .i64 0 ∧ F' 15 = .bool false ∧ F' 28 = .bool false ∧ F' 63 = .bool false ∧ F' 73 = .bool false ∧ F' 111 = .bool (decide ((keyL s n).length - tn = n - tn)) ∧ Heap (newN w) w w' [oBlk g1 (cBs s.1) 23, oBlk g2 (cBs s.1 ++ ([y1, .int .i64 ((tn : Nat) : Int)] : List Value)) 108, oRow cS 23 32 y1 (keyL s n)]) 2 (fun hk => ?_) ?_
                        · by_cases hc10 : (keyL s n).length - tn = n - tn
                          · refine lf_call (wantF (d := 109) rfl (by kernel_rfl) rfl (congrArg Value.bool (decide_eq_true hc10))) (rv_call (args := []) rfl evn Try.call35) (awake05_calls _) ?_
                            rintro _ w14 ⟨rfl, hx⟩
                            refine ⟨_, rfl, ?_⟩
                            replace hH := hH.ext hx
                            clear hx
                            refine lf_val (v := .bool true) (wantAll rfl) (rv_pickT rfl (fr_eval rfl (congrArg Value.bool (decide_eq_true hc10))) (fr_eval rfl rfl)) ?_
                            exact hk _ _ ⟨e0, e1, e2, e3, e6, e7, e8, e9, e15, e28, e63, e73, (congrArg Value.bool (dec_t hc10)), hH⟩
                          · refine lf_not (wantNot (d := 109) rfl (by kernel_rfl) rfl (congrArg Value.bool (decide_eq_false hc10))) ?_
                            refine lf_val (v := .bool false) (wantAll rfl) (rv_pickF rfl (fr_eval rfl (congrArg Value.bool (decide_eq_false hc10))) rfl) ?_
                            exact hk _ _ ⟨e0, e1, e2, e3, e6, e7, e8, e9, e15, e28, e63, e73, (congrArg Value.bool (dec_f hc10)), hH⟩
                        · clear e0 e1 e2 e3 e6 e7 e8 e9 e15 e28 e63 e73 e106 hH
                          clear F
                          rintro F w15 ⟨e0, e1, e2, e3, e6, e7, e8, e9, e15, e28, e63, e73, e111, hH⟩
                          refine lf_val (wantAll rfl) (rv_assign rfl (fr_eval rfl e111)) ?_
                          refine lf_nil ?_
                          refine then_n ?_
                          refine wp_gen (fun F' => F' 0 = .agg (cBs s.1).toArray ∧ F' 1 = .int .i64 ((n : Nat) : Int) ∧ F' 2 = .int .i64 ((tn : Nat) : Int) ∧ F' 3 = .pointer (some ⟨g1, 0, none⟩) ∧ F' 6 = .bool (decide ((keyL s n).length - tn = n - tn)) ∧ F' 7 = .pointer (some ⟨g2, 0, none⟩) ∧ F' 8 = .int .i64 0 ∧ F' 9 = .int .i64 0 ∧ F' 15 = .bool false ∧ F' 28 = .bool false ∧ F' 63 = .bool false ∧ F' 73 = .bool false) ⟨e0, e1, e2, e3, rfl, e7, e8, e9, e15, e28, e63, e73⟩ ?_
                          clear e0 e1 e2 e3 e6 e7 e8 e9 e15 e28 e63 e73 e111
                          clear F
                          rintro F ⟨e0, e1, e2, e3, e6, e7, e8, e9, e15, e28, e63, e73⟩
                          refine wp_ret ?_
                          exact bodyPost_ret (v := (.bool (decide ((keyL s n).length - tn = n - tn)))) (res1 rfl (ro_tmp rfl e6)) rfl (⟨congrArg (fun b => Ending.returned (.bool b)) (decide_eq_true (by omega)), hH.done⟩)
                · refine wp_regionF ?_
                  refine lf_val (v := .pointer (some ⟨g2, 0, none⟩)) (wantAll rfl) (rv_move rfl (fr_eval rfl e7)) ?_
                  refine lf_val (v := .int .i64 t) (wantAll rfl) (rv_move rfl (fr_eval rfl e2)) ?_
                  refine lf_call (wantAll rfl) (rv_call (args := [.pointer (some ⟨g2, 0, none⟩), .int .i64 t]) rfl (evc (fr_eval rfl rfl) (evc (fr_eval rfl rfl) evn)) Try.call52) (kSkip_no s (keyL s n) (by omega) 0 (by omega) t (by omega) (by omega) _ (hH.blk (i := 1) rfl) (Own.rd (hH.own (i := 2) rfl) (row_one cS_one))) ?_
                  rintro _ w16 ⟨rfl, hx⟩
                  refine ⟨_, rfl, ?_⟩
                  replace hH := hH.ext hx
                  clear hx
                  refine lf_val (v := .int .i64 5) (wantAll rfl) (rv_assign rfl (fr_eval rfl rfl)) ?_
                  refine lf_nil ?_
                  refine then_n ?_
                  refine wp_seq ?_
                  refine wp_seq ?_
                  replace hH : Heap _ _ _ [_, _, _] := hH.drop (.cons_cons _ (.cons_cons _ (.cons_cons _ (.cons _ .slnil))))
                  refine wp_gen (fun F' => F' 0 = .agg (cBs s.1).toArray ∧ F' 1 = .int .i64 ((n : Nat) : Int) ∧ F' 2 = .int .i64 t ∧ F' 3 = .pointer (some ⟨g1, 0, none⟩) ∧ F' 6 = .bool false ∧ F' 7 = .pointer (some ⟨g2, 0, none⟩) ∧ F' 8 = .int .i64 0 ∧ F' 9 = .int .i64 5 ∧ F' 15 = .bool false ∧ F' 28 = .bool false ∧ F' 63 = .bool false) ⟨e0, e1, e2, e3, e6, e7, e8, rfl, e15, e28, (e63.trans (congrArg Value.bool (decide_eq_false (not_not_intro hc6))))⟩ ?_
                  clear e0 e1 e2 e3 e6 e7 e8 e15 e28 e63
                  clear F
                  rintro F ⟨e0, e1, e2, e3, e6, e7, e8, e9, e15, e28, e63⟩
                  refine wp_regionF ?_
                  refine lf_val (v := .int .i64 t) (wantAll rfl) (rv_move rfl (fr_eval rfl e2)) ?_
                  refine lf_val (v := .bool (decide (t < 0))) (wantAll rfl) (rv_lssP (p := t < 0) rfl (fr_eval rfl rfl) rfl Iff.rfl) ?_
                  refine lf_val (v := .bool (decide (t < 0))) (wantAll rfl) (rv_move rfl (fr_eval rfl rfl)) ?_
                  refine lf_joinP (fun F' => F' 0 = .agg (cBs s.1).toArray ∧ F' 1 = .int .i64 ((n : Nat) : Int) ∧ F' 2 = .int .i64 t ∧ F' 3 = .pointer (some ⟨g1, 0, none⟩) ∧ F' 6 = .bool false ∧ F' 7 = .pointer (some ⟨g2, 0, none⟩) ∧ F' 8 = .int .i64 0 ∧ F' 9 = .int .i64 5 ∧ F' 15 = .bool false ∧ F' 28 = .bool false ∧ F' 63 = .bool false ∧ F' 73 = .bool (decide ((t < 0) ∨ (t > ((n : Nat) : Int))))) 4 (fun hk => ?_) ?_
                  · by_cases hc11 : t < 0
                    · refine lf_not (wantNot (d := 69) rfl (by kernel_rfl) rfl (congrArg Value.bool (decide_eq_true hc11))) ?_
                      refine lf_not (wantNot (d := 69) rfl (by kernel_rfl) rfl (congrArg Value.bool (decide_eq_true hc11))) ?_
                      refine lf_not (wantNot (d := 69) rfl (by kernel_rfl) rfl (congrArg Value.bool (decide_eq_true hc11))) ?_
                      refine lf_val (v := .bool true) (wantAll rfl) (rv_pickT rfl (fr_eval rfl (congrArg Value.bool (decide_eq_true hc11))) rfl) ?_
                      exact hk _ ⟨e0, e1, e2, e3, e6, e7, e8, e9, e15, e28, e63, (congrArg Value.bool (dec_orT hc11))⟩
                    · refine lf_val (v := .int .i64 t) (wantF (d := 69) rfl (by kernel_rfl) rfl (congrArg Value.bool (decide_eq_false hc11))) (rv_move rfl (fr_eval rfl e2)) ?_
                      refine lf_val (v := .int .i64 ((n : Nat) : Int)) (wantF (d := 69) rfl (by kernel_rfl) rfl (congrArg Value.bool (decide_eq_false hc11))) (rv_move rfl (fr_eval rfl e1)) ?_
                      refine lf_val (v := .bool (decide (t > ((n : Nat) : Int)))) (wantF (d := 69) rfl (by kernel_rfl) rfl (congrArg Value.bool (decide_eq_false hc11))) (rv_gtrP (p := t > ((n : Nat) : Int)) rfl (fr_eval rfl rfl) (fr_eval rfl rfl) Iff.rfl) ?_
                      refine lf_val (v := .bool (decide (t > ((n : Nat) : Int)))) (wantAll rfl) (rv_pickF rfl (fr_eval rfl (congrArg Value.bool (decide_eq_false hc11))) (fr_eval rfl rfl)) ?_
                      exact hk _ ⟨e0, e1, e2, e3, e6, e7, e8, e9, e15, e28, e63, (congrArg Value.bool (dec_or hc11))⟩
                  · clear e0 e1 e2 e3 e6 e7 e8 e9 e15 e28 e63
                    clear F
                    rintro F ⟨e0, e1, e2, e3, e6, e7, e8, e9, e15, e28, e63, e73⟩
                    refine lf_nil ?_
                    refine then_n ?_
                    by_cases hc12 : (t < 0) ∨ (t > ((n : Nat) : Int))
                    · refine wp_cond_true (fr_eval rfl (e73.trans (congrArg Value.bool (decide_eq_true hc12)))) ?_
                      refine wp_seq ?_
                      refine wp_regionF ?_
                      refine lf_val (v := .int .i64 5) (wantAll rfl) (rv_move rfl (fr_eval rfl e9)) ?_
                      refine lf_val (v := .bool true) (wantAll rfl) (rv_eql rfl (fr_eval rfl rfl) rfl (by decide)) ?_
                      refine lf_val (v := .bool true) (wantAll rfl) (rv_move rfl (fr_eval rfl rfl)) ?_
                      refine lf_val (v := .pointer (some ⟨g2, 0, none⟩)) (wantF (d := 76) rfl (by kernel_rfl) rfl rfl) (rv_move rfl (fr_eval rfl e7)) ?_
                      refine lf_call (wantF (d := 76) rfl (by kernel_rfl) rfl rfl) (rv_call (args := [.pointer (some ⟨g2, 0, none⟩)]) rfl (evc (fr_eval rfl rfl) evn) Try.call49) (kNext s (keyL s n) (by omega) 0 (by omega) _ (hH.blk (i := 1) rfl) (Own.rd (hH.own (i := 2) rfl) (row_one cS_one))) ?_
                      rintro _ w17 ⟨rfl, hx⟩
                      refine ⟨_, rfl, ?_⟩
                      replace hH := hH.ext hx
                      clear hx
                      refine lf_val (v := .bool true) (wantF (d := 76) rfl (by kernel_rfl) rfl rfl) (rv_eql rfl (fr_eval rfl rfl) rfl (by decide)) ?_
                      refine lf_val (v := .bool true) (wantAll rfl) (rv_pickT rfl (fr_eval rfl rfl) (fr_eval rfl rfl)) ?_
                      refine lf_val (v := .bool true) (wantAll rfl) (rv_move rfl (fr_eval rfl rfl)) ?_
                      refine lf_call (wantF (d := 81) rfl (by kernel_rfl) rfl rfl) (rv_call (args := []) rfl evn Try.call35) (awake05_calls _) ?_
                      rintro _ w18 ⟨rfl, hx⟩
                      refine ⟨_, rfl, ?_⟩
                      replace hH := hH.ext hx
                      clear hx
                      refine lf_val (v := .bool true) (wantAll rfl) (rv_pickT rfl (fr_eval rfl rfl) (fr_eval rfl rfl)) ?_
                      refine lf_val (v := .bool true) (wantAll rfl) (rv_assign rfl (fr_eval rfl rfl)) ?_
                      refine lf_nil ?_
                      refine then_n ?_
                      refine wp_gen (fun F' => F' 0 = .agg (cBs s.1).toArray ∧ F' 1 = .int .i64 ((n : Nat) : Int) ∧ F' 2 = .int .i64 t ∧ F' 3 = .pointer (some ⟨g1, 0, none⟩) ∧ F' 6 = .bool true ∧ F' 7 = .pointer (some ⟨g2, 0, none⟩) ∧ F' 8 = .int .i64 0 ∧ F' 9 = .int .i64 5 ∧ F' 15 = .bool false ∧ F' 28 = .bool false ∧ F' 63 = .bool false ∧ F' 73 = .bool true) ⟨e0, e1, e2, e3, rfl, e7, e8, e9, e15, e28, e63, (e73.trans (congrArg Value.bool (decide_eq_true hc12)))⟩ ?_
                      clear e0 e1 e2 e3 e6 e7 e8 e9 e15 e28 e63 e73
                      clear F
                      rintro F ⟨e0, e1, e2, e3, e6, e7, e8, e9, e15, e28, e63, e73⟩
                      refine wp_ret ?_
                      refine then_ret ?_
                      exact bodyPost_ret (v := (.bool true)) (res1 rfl (ro_tmp rfl e6)) rfl (⟨rfl, hH.done⟩)
                    · refine wp_cond_false (fr_eval rfl (e73.trans (congrArg Value.bool (decide_eq_false hc12)))) ?_
                      refine wp_skip ?_
                      refine then_n ?_
                      refine wp_seq ?_
                      refine wp_regionF ?_
                      refine lf_val (v := .int .i64 5) (wantAll rfl) (rv_move rfl (fr_eval rfl e9)) ?_
                      refine lf_val (v := .bool false) (wantAll rfl) (rv_eql rfl (fr_eval rfl rfl) rfl (by decide)) ?_
                      refine lf_val (v := .bool false) (wantAll rfl) (rv_move rfl (fr_eval rfl rfl)) ?_
                      refine lf_not (wantNot (d := 86) rfl (by kernel_rfl) rfl rfl) ?_
                      refine lf_not (wantNot (d := 86) rfl (by kernel_rfl) rfl rfl) ?_
                      refine lf_not (wantNot (d := 86) rfl (by kernel_rfl) rfl rfl) ?_
                      refine lf_not (wantNot (d := 86) rfl (by kernel_rfl) rfl rfl) ?_
                      refine lf_val (v := .bool false) (wantAll rfl) (rv_pickF rfl (fr_eval rfl rfl) rfl) ?_
                      refine lf_val (v := .bool false) (wantAll rfl) (rv_move rfl (fr_eval rfl rfl)) ?_
                      refine lf_not (wantNot (d := 92) rfl (by kernel_rfl) rfl rfl) ?_
                      refine lf_not (wantNot (d := 92) rfl (by kernel_rfl) rfl rfl) ?_
                      refine lf_not (wantNot (d := 92) rfl (by kernel_rfl) rfl rfl) ?_
                      refine lf_not (wantNot (d := 92) rfl (by kernel_rfl) rfl rfl) ?_
                      refine lf_not (wantNot (d := 92) rfl (by kernel_rfl) rfl rfl) ?_
                      refine lf_not (wantNot (d := 92) rfl (by kernel_rfl) rfl rfl) ?_
                      refine lf_val (v := .bool false) (wantAll rfl) (rv_pickF rfl (fr_eval rfl rfl) rfl) ?_
                      refine lf_val (v := .bool false) (wantAll rfl) (rv_move rfl (fr_eval rfl rfl)) ?_
                      refine lf_not (wantNot (d := 100) rfl (by kernel_rfl) rfl rfl) ?_
                      refine lf_not (wantNot (d := 100) rfl (by kernel_rfl) rfl rfl) ?_
                      refine lf_not (wantNot (d := 100) rfl (by kernel_rfl) rfl rfl) ?_
                      refine lf_not (wantNot (d := 100) rfl (by kernel_rfl) rfl rfl) ?_
                      refine lf_not (wantNot (d := 100) rfl (by kernel_rfl) rfl rfl) ?_
                      refine lf_val (v := .bool false) (wantAll rfl) (rv_pickF rfl (fr_eval rfl rfl) rfl) ?_
                      refine lf_val (v := .bool false) (wantAll rfl) (rv_move rfl (fr_eval rfl rfl)) ?_
                      refine lf_val (v := .bool false) (wantAll rfl) (rv_pickF rfl (fr_eval rfl rfl) rfl) ?_
                      refine lf_val (v := .bool false) (wantAll rfl) (rv_move rfl (fr_eval rfl rfl)) ?_
                      refine lf_not (wantNot (d := 109) rfl (by kernel_rfl) rfl rfl) ?_
                      refine lf_val (v := .bool false) (wantAll rfl) (rv_pickF rfl (fr_eval rfl rfl) rfl) ?_
                      refine lf_val (v := .bool false) (wantAll rfl) (rv_assign rfl (fr_eval rfl rfl)) ?_
                      refine lf_nil ?_
                      refine then_n ?_
                      refine wp_gen (fun F' => F' 0 = .agg (cBs s.1).toArray ∧ F' 1 = .int .i64 ((n : Nat) : Int) ∧ F' 2 = .int .i64 t ∧ F' 3 = .pointer (some ⟨g1, 0, none⟩) ∧ F' 6 = .bool false ∧ F' 7 = .pointer (some ⟨g2, 0, none⟩) ∧ F' 8 = .int .i64 0 ∧ F' 9 = .int .i64 5 ∧ F' 15 = .bool false ∧ F' 28 = .bool false ∧ F' 63 = .bool false ∧ F' 73 = .bool false) ⟨e0, e1, e2, e3, rfl, e7, e8, e9, e15, e28, e63, (e73.trans (congrArg Value.bool (decide_eq_false hc12)))⟩ ?_
                      clear e0 e1 e2 e3 e6 e7 e8 e9 e15 e28 e63 e73
                      clear F
                      rintro F ⟨e0, e1, e2, e3, e6, e7, e8, e9, e15, e28, e63, e73⟩
                      refine wp_ret ?_
                      exact bodyPost_ret (v := (.bool false)) (res1 rfl (ro_tmp rfl e6)) rfl (by exfalso; omega)
              · refine wp_cond_true (fr_eval rfl (e63.trans (congrArg Value.bool (decide_eq_true hc6)))) ?_
                refine wp_seq ?_
                refine wp_regionF ?_
                refine lf_val (v := .bool false) (wantAll rfl) (rv_assign rfl rfl) ?_
                refine lf_nil ?_
                refine then_n ?_
                replace hH : Heap _ _ _ [_, _, _] := hH.drop (.cons_cons _ (.cons_cons _ (.cons_cons _ (.cons _ .slnil))))
                refine wp_gen (fun F' => F' 0 = .agg (cBs s.1).toArray ∧ F' 1 = .int .i64 ((n : Nat) : Int) ∧ F' 2 = .int .i64 t ∧ F' 3 = .pointer (some ⟨g1, 0, none⟩) ∧ F' 6 = .bool false ∧ F' 7 = .pointer (some ⟨g2, 0, none⟩) ∧ F' 8 = .int .i64 0 ∧ F' 15 = .bool false ∧ F' 28 = .bool false ∧ F' 63 = .bool true) ⟨e0, e1, e2, e3, rfl, e7, e8, e15, e28, (e63.trans (congrArg Value.bool (decide_eq_true hc6)))⟩ ?_
                clear e0 e1 e2 e3 e6 e7 e8 e15 e28 e63
                clear F
                rintro F ⟨e0, e1, e2, e3, e6, e7, e8, e15, e28, e63⟩
                refine wp_ret ?_
                refine then_ret ?_
                exact bodyPost_ret (v := (.bool false)) (res1 rfl (ro_tmp rfl e6)) rfl (by exfalso; omega)
      · refine wp_regionF ?_
        refine lf_val (v := .agg (cBs s.1).toArray) (wantAll rfl) (rv_loadW rfl (hH.blk (i := 0) rfl) (fr_eval rfl e3) Try.underlying23 rfl (sz_len Try.sz23 (cBs_len s.2))) ?_
        refine lf_val (v := .int .i64 z) (wantAll rfl) (rv_move rfl (fr_eval rfl e1)) ?_
        refine lf_call (wantAll rfl) (rv_call (args := [.agg (cBs s.1).toArray, .int .i64 z]) rfl (evc (fr_eval rfl rfl) (evc (fr_eval rfl rfl) evn)) Try.call36) (new_no s z (by omega) hf1 _) ?_
        rintro _ w19 ⟨rfl, hx⟩
        refine ⟨_, rfl, ?_⟩
        replace hH := hH.ext hx
        clear hx
        refine lf_val (v := .tuple #[.pointer none, .int .i64 1]) (wantAll rfl) (rv_move rfl (fr_eval rfl rfl)) ?_
        refine lf_val (v := .pointer none) (wantAll rfl) (rv_extract rfl (fr_eval rfl rfl) rfl) ?_
        refine lf_val (v := .int .i64 1) (wantAll rfl) (rv_extract rfl (fr_eval rfl rfl) rfl) ?_
        refine lf_val (v := .pointer none) (wantAll rfl) (rv_assign rfl (fr_eval rfl rfl)) ?_
        refine lf_val (v := .int .i64 1) (wantAll rfl) (rv_assign rfl (fr_eval rfl rfl)) ?_
        refine lf_nil ?_
        refine then_n ?_
        refine wp_seq ?_
        refine wp_seq ?_
        refine wp_gen (fun F' => F' 0 = .agg (cBs s.1).toArray ∧ F' 1 = .int .i64 z ∧ F' 2 = .int .i64 t ∧ F' 3 = .pointer (some ⟨g1, 0, none⟩) ∧ F' 6 = .bool false ∧ F' 7 = .pointer none ∧ F' 8 = .int .i64 1 ∧ F' 15 = .bool false) ⟨e0, e1, e2, e3, e6, rfl, rfl, (e15.trans (congrArg Value.bool (decide_eq_false hc2)))⟩ ?_
        clear e0 e1 e2 e3 e6 e15
        clear F
        rintro F ⟨e0, e1, e2, e3, e6, e7, e8, e15⟩
        refine wp_regionF ?_
        refine lf_val (v := .int .i64 z) (wantAll rfl) (rv_move rfl (fr_eval rfl e1)) ?_
        refine lf_val (v := .bool (decide (z < 1))) (wantAll rfl) (rv_lssP (p := z < 1) rfl (fr_eval rfl rfl) rfl Iff.rfl) ?_
        refine lf_val (v := .bool (decide (z < 1))) (wantAll rfl) (rv_move rfl (fr_eval rfl rfl)) ?_
        refine lf_joinP (fun F' => F' 0 = .agg (cBs s.1).toArray ∧ F' 1 = .int .i64 z ∧ F' 2 = .int .i64 t ∧ F' 3 = .pointer (some ⟨g1, 0, none⟩) ∧ F' 6 = .bool false ∧ F' 7 = .pointer none ∧ F' 8 = .int .i64 1 ∧ F' 15 = .bool false ∧ F' 28 = .bool (decide ((z < 1) ∨ (z > 64)))) 3 (fun hk => ?_) ?_
        · by_cases hc13 : z < 1
          · refine lf_not (wantNot (d := 25) rfl (by kernel_rfl) rfl (congrArg Value.bool (decide_eq_true hc13))) ?_
            refine lf_not (wantNot (d := 25) rfl (by kernel_rfl) rfl (congrArg Value.bool (decide_eq_true hc13))) ?_
            refine lf_val (v := .bool true) (wantAll rfl) (rv_pickT rfl (fr_eval rfl (congrArg Value.bool (decide_eq_true hc13))) rfl) ?_
            exact hk _ ⟨e0, e1, e2, e3, e6, e7, e8, e15, (congrArg Value.bool (dec_orT hc13))⟩
          · refine lf_val (v := .int .i64 z) (wantF (d := 25) rfl (by kernel_rfl) rfl (congrArg Value.bool (decide_eq_false hc13))) (rv_move rfl (fr_eval rfl e1)) ?_
            refine lf_val (v := .bool (decide (z > 64))) (wantF (d := 25) rfl (by kernel_rfl) rfl (congrArg Value.bool (decide_eq_false hc13))) (rv_gtrP (p := z > 64) rfl (fr_eval rfl rfl) rfl Iff.rfl) ?_
            refine lf_val (v := .bool (decide (z > 64))) (wantAll rfl) (rv_pickF rfl (fr_eval rfl (congrArg Value.bool (decide_eq_false hc13))) (fr_eval rfl rfl)) ?_
            exact hk _ ⟨e0, e1, e2, e3, e6, e7, e8, e15, (congrArg Value.bool (dec_or hc13))⟩
        · clear e0 e1 e2 e3 e6 e7 e8 e15
          clear F
          rintro F ⟨e0, e1, e2, e3, e6, e7, e8, e15, e28⟩
          refine lf_nil ?_
          refine then_n ?_
          by_cases hc14 : (z < 1) ∨ (z > 64)
          · refine wp_cond_true (fr_eval rfl (e28.trans (congrArg Value.bool (decide_eq_true hc14)))) ?_
            refine wp_seq ?_
            refine wp_regionF ?_
            refine lf_val (v := .pointer none) (wantAll rfl) (rv_move rfl (fr_eval rfl e7)) ?_
            refine lf_val (v := .bool true) (wantAll rfl) (rv_eqnil (p := none) rfl (fr_eval rfl rfl) rfl Try.underlying67) ?_
            refine lf_val (v := .bool true) (wantAll rfl) (rv_move rfl (fr_eval rfl rfl)) ?_
            refine lf_val (v := .int .i64 1) (wantF (d := 31) rfl (by kernel_rfl) rfl rfl) (rv_move rfl (fr_eval rfl e8)) ?_
            refine lf_val (v := .bool true) (wantF (d := 31) rfl (by kernel_rfl) rfl rfl) (rv_eql rfl (fr_eval rfl rfl) rfl (by decide)) ?_
            refine lf_val (v := .bool true) (wantAll rfl) (rv_pickT rfl (fr_eval rfl rfl) (fr_eval rfl rfl)) ?_
            refine lf_val (v := .bool true) (wantAll rfl) (rv_move rfl (fr_eval rfl rfl)) ?_
            refine lf_call (wantF (d := 35) rfl (by kernel_rfl) rfl rfl) (rv_call (args := []) rfl evn Try.call35) (awake05_calls _) ?_
            rintro _ w20 ⟨rfl, hx⟩
            refine ⟨_, rfl, ?_⟩
            replace hH := hH.ext hx
            clear hx
            refine lf_val (v := .bool true) (wantAll rfl) (rv_pickT rfl (fr_eval rfl rfl) (fr_eval rfl rfl)) ?_
            refine lf_val (v := .bool true) (wantAll rfl) (rv_assign rfl (fr_eval rfl rfl)) ?_
            refine lf_nil ?_
            refine then_n ?_
            refine wp_gen (fun F' => F' 0 = .agg (cBs s.1).toArray ∧ F' 1 = .int .i64 z ∧ F' 2 = .int .i64 t ∧ F' 3 = .pointer (some ⟨g1, 0, none⟩) ∧ F' 6 = .bool true ∧ F' 7 = .pointer none ∧ F' 8 = .int .i64 1 ∧ F' 15 = .bool false ∧ F' 28 = .bool true) ⟨e0, e1, e2, e3, rfl, e7, e8, e15, (e28.trans (congrArg Value.bool (decide_eq_true hc14)))⟩ ?_
            clear e0 e1 e2 e3 e6 e7 e8 e15 e28
            clear F
            rintro F ⟨e0, e1, e2, e3, e6, e7, e8, e15, e28⟩
            refine wp_ret ?_
            refine then_ret ?_
            exact bodyPost_ret (v := (.bool true)) (res1 rfl (ro_tmp rfl e6)) rfl (⟨rfl, hH.done⟩)
          · refine wp_cond_false (fr_eval rfl (e28.trans (congrArg Value.bool (decide_eq_false hc14)))) ?_
            refine wp_skip ?_
            refine then_n ?_
            refine wp_seq ?_
            refine wp_seq ?_
            refine wp_regionX (fun _ => False) 19 (by kernel_rfl) (by kernel_rfl) ?_
            refine xl_take (i := 0) (v := .pointer none) rfl (by kernel_rfl) (by kernel_rfl) (by kernel_rfl) (by kernel_rfl) (yx_val (wantAll rfl) (fun w' hx' => rv_move rfl (fr_eval rfl e7))) ?_
            refine xl_take (i := 1) (v := .bool true) rfl (by kernel_rfl) (by kernel_rfl) (by kernel_rfl) (by kernel_rfl) (yx_val (wantAll rfl) (fun w' hx' => rv_eqnil (p := none) rfl (fr_eval rfl rfl) rfl Try.underlying67)) ?_
            refine xl_take (i := 2) (v := .bool true) rfl (by kernel_rfl) (by kernel_rfl) (by kernel_rfl) (by kernel_rfl) (yx_val (wantAll rfl) (fun w' hx' => rv_move rfl (fr_eval rfl rfl))) ?_
            refine xl_take (i := 3) (v := undef) rfl (by kernel_rfl) (by kernel_rfl) (by kernel_rfl) (by kernel_rfl) (yx_not (wantNot (d := 40) rfl (by kernel_rfl) rfl rfl)) ?_
            refine xl_take (i := 4) (v := undef) rfl (by kernel_rfl) (by kernel_rfl) (by kernel_rfl) (by kernel_rfl) (yx_not (wantNot (d := 40) rfl (by kernel_rfl) rfl rfl)) ?_
            refine xl_take (i := 5) (v := .bool true) rfl (by kernel_rfl) (by kernel_rfl) (by kernel_rfl) (by kernel_rfl) (yx_val (wantAll rfl) (fun w' hx' => rv_pickT rfl (fr_eval rfl rfl) rfl)) ?_
            refine xl_take (i := 6) (v := .bool true) rfl (by kernel_rfl) (by kernel_rfl) (by kernel_rfl) (by kernel_rfl) (yx_val (wantAll rfl) (fun w' hx' => rv_move rfl (fr_eval rfl rfl))) ?_
            refine xl_take (i := 7) (v := undef) rfl (by kernel_rfl) (by kernel_rfl) (by kernel_rfl) (by kernel_rfl) (yx_not (wantNot (d := 44) rfl (by kernel_rfl) rfl rfl)) ?_
            refine xl_take (i := 8) (v := undef) rfl (by kernel_rfl) (by kernel_rfl) (by kernel_rfl) (by kernel_rfl) (yx_not (wantNot (d := 44) rfl (by kernel_rfl) rfl rfl)) ?_
            refine xl_take (i := 9) (v := undef) rfl (by kernel_rfl) (by kernel_rfl) (by kernel_rfl) (by kernel_rfl) (yx_not (wantNot (d := 44) rfl (by kernel_rfl) rfl rfl)) ?_
            refine xl_take (i := 10) (v := undef) rfl (by kernel_rfl) (by kernel_rfl) (by kernel_rfl) (by kernel_rfl) (yx_not (wantNot (d := 44) rfl (by kernel_rfl) rfl rfl)) ?_
            refine xl_take (i := 11) (v := undef) rfl (by kernel_rfl) (by kernel_rfl) (by kernel_rfl) (by kernel_rfl) (yx_not (wantNot (d := 44) rfl (by kernel_rfl) rfl rfl)) ?_
            refine xl_take (i := 12) (v := undef) rfl (by kernel_rfl) (by kernel_rfl) (by kernel_rfl) (by kernel_rfl) (yx_not (wantNot (d := 44) rfl (by kernel_rfl) rfl rfl)) ?_
            refine xl_take (i := 13) (v := undef) rfl (by kernel_rfl) (by kernel_rfl) (by kernel_rfl) (by kernel_rfl) (yx_not (wantNot (d := 44) rfl (by kernel_rfl) rfl rfl)) ?_
            refine xl_take (i := 14) (v := .bool true) rfl (by kernel_rfl) (by kernel_rfl) (by kernel_rfl) (by kernel_rfl) (yx_val (wantAll rfl) (fun w' hx' => rv_pickT rfl (fr_eval rfl rfl) rfl)) ?_
            refine xl_take (i := 15) (v := .bool true) rfl (by kernel_rfl) (by kernel_rfl) (by kernel_rfl) (by kernel_rfl) (yx_val (wantAll rfl) (fun w' hx' => rv_move rfl (fr_eval rfl rfl))) ?_
            refine xl_take (i := 16) (v := undef) rfl (by kernel_rfl) (by kernel_rfl) (by kernel_rfl) (by kernel_rfl) (yx_not (wantNot (d := 53) rfl (by kernel_rfl) rfl rfl)) ?_
            refine xl_take (i := 17) (v := undef) rfl (by kernel_rfl) (by kernel_rfl) (by kernel_rfl) (by kernel_rfl) (yx_not (wantNot (d := 53) rfl (by kernel_rfl) rfl rfl)) ?_
            refine xl_take (i := 18) (v := undef) rfl (by kernel_rfl) (by kernel_rfl) (by kernel_rfl) (by kernel_rfl) (yx_not (wantNot (d := 53) rfl (by kernel_rfl) rfl rfl)) ?_
            refine xl_tail (s := 19) rfl ?_
            intro w21 hx
            replace hH := hH.ext hx
            clear hx
            refine lf_not (wantNot (d := 53) rfl (by kernel_rfl) rfl rfl) ?_
            refine lf_val (v := .bool true) (wantAll rfl) (rv_pickT rfl (fr_eval rfl rfl) rfl) ?_
            refine lf_val (v := .bool true) (wantAll rfl) (rv_move rfl (fr_eval rfl rfl)) ?_
            refine lf_not (wantNot (d := 59) rfl (by kernel_rfl) rfl rfl) ?_
            refine lf_not (wantNot (d := 59) rfl (by kernel_rfl) rfl rfl) ?_
            refine lf_not (wantNot (d := 59) rfl (by kernel_rfl) rfl rfl) ?_
            refine lf_val (v := .bool true) (wantAll rfl) (rv_pickT rfl (fr_eval rfl rfl) rfl) ?_
            refine lf_nil ?_
            refine then_n ?_
            refine wp_gen (fun F' => F' 0 = .agg (cBs s.1).toArray ∧ F' 1 = .int .i64 z ∧ F' 2 = .int .i64 t ∧ F' 3 = .pointer (some ⟨g1, 0, none⟩) ∧ F' 6 = .bool false ∧ F' 7 = .pointer none ∧ F' 8 = .int .i64 1 ∧ F' 15 = .bool false ∧ F' 28 = .bool false ∧ F' 63 = .bool true) ⟨e0, e1, e2, e3, e6, e7, e8, e15, (e28.trans (congrArg Value.bool (decide_eq_false hc14))), rfl⟩ ?_
            clear e0 e1 e2 e3 e6 e7 e8 e15 e28
            clear F
            rintro F ⟨e0, e1, e2, e3, e6, e7, e8, e15, e28, e63⟩
            refine wp_cond_true (fr_eval rfl e63) ?_
            refine wp_seq ?_
            refine wp_regionF ?_
            refine lf_val (v := .bool false) (wantAll rfl) (rv_assign rfl rfl) ?_
            refine lf_nil ?_
            refine then_n ?_
            refine wp_gen (fun F' => F' 0 = .agg (cBs s.1).toArray ∧ F' 1 = .int .i64 z ∧ F' 2 = .int .i64 t ∧ F' 3 = .pointer (some ⟨g1, 0, none⟩) ∧ F' 6 = .bool false ∧ F' 7 = .pointer none ∧ F' 8 = .int .i64 1 ∧ F' 15 = .bool false ∧ F' 28 = .bool false ∧ F' 63 = .bool true) ⟨e0, e1, e2, e3, rfl, e7, e8, e15, e28, e63⟩ ?_
            clear e0 e1 e2 e3 e6 e7 e8 e15 e28 e63
            clear F
            rintro F ⟨e0, e1, e2, e3, e6, e7, e8, e15, e28, e63⟩
            refine wp_ret ?_
            refine then_ret ?_
            exact bodyPost_ret (v := (.bool false)) (res1 rfl (ro_tmp rfl e6)) rfl (by exfalso; omega)

set_option maxRecDepth 100000 in
set_option maxHeartbeats 4000000 in
theorem manySigns_walk (s : S32) (z : Int) (hz : (-9223372036854775808 ≤ z ∧ z ≤ 9223372036854775807)) (ts : List (V1 × List UInt8)) (vt : Value) (w : World) (htr0 : Rd w 1 vt ts.length (ts.flatMap cPt)) (hpt0 : ∀ x ∈ ts, RdB w x.1.1 x.2) :
    Calls Try.prog 10 #[.agg (cBs s.1).toArray, .int .i64 z, vt] w fun e'' w' => e'' = .returned (.bool true) ∧ Ext w w' := by
  refine calls_fr (args := [.agg (cBs s.1).toArray, .int .i64 z, vt]) (n := 153) Try.func10 rfl rfl (show 3 ≤ 153 by decide) ?_
  have hpt : ∀ x ∈ ts, StabB (newN w) w x.1.1 x.2 := fun x hx => Rd.stab (hpt0 x hx)
  have htr := Rd.stab htr0
  have hH : Heap (newN w) w w [] := Heap.fresh
  refine wp_seq ?_
  refine wp_gen (fun F' => F' 0 = .agg (cBs s.1).toArray ∧ F' 1 = .int .i64 z ∧ F' 2 = vt) ⟨rfl, rfl, rfl⟩ ?_
  rintro F ⟨e0, e1, e2⟩
  refine wp_regionF ?_
  refine lf_ex (wantAll rfl) (hx_box hH 23 (cs := cBs s.1) rfl (fr_eval rfl e0) (by rfl)) ?_
  clear hH
  rintro _ w1 ⟨g1, rfl, hH, hx⟩
  replace hH : Heap _ _ _ [_] := hH
  clear hx
  refine lf_val (v := .bool false) (wantAll rfl) (rv_assign rfl rfl) ?_
  refine lf_nil ?_
  refine then_n ?_
  refine wp_seq ?_
  refine wp_seq ?_
  refine wp_gen (fun F' => F' 0 = .agg (cBs s.1).toArray ∧ F' 1 = .int .i64 z ∧ F' 2 = vt ∧ F' 3 = .pointer (some ⟨g1, 0, none⟩) ∧ F' 6 = .bool false) ⟨e0, e1, e2, rfl, rfl⟩ ?_
  clear e0 e1 e2
  clear F
  rintro F ⟨e0, e1, e2, e3, e6⟩
  refine wp_regionF ?_
  refine lf_val (v := .int .i64 z) (wantAll rfl) (rv_move rfl (fr_eval rfl e1)) ?_
  refine lf_val (v := .bool (decide (z > 4))) (wantAll rfl) (rv_gtrP (p := z > 4) rfl (fr_eval rfl rfl) rfl Iff.rfl) ?_
  refine lf_val (v := .bool (decide (z > 4))) (wantAll rfl) (rv_move rfl (fr_eval rfl rfl)) ?_
  refine lf_joinP (fun F' => F' 0 = .agg (cBs s.1).toArray ∧ F' 1 = .int .i64 z ∧ F' 2 = vt ∧ F' 3 = .pointer (some ⟨g1, 0, none⟩) ∧ F' 6 = .bool false ∧ F' 24 = .bool (decide ((z > 4) ∨ (z < 1)))) 3 (fun hk => ?_) ?_
  · by_cases hc1 : z > 4
    · refine lf_not (wantNot (d := 21) rfl (by kernel_rfl) rfl (congrArg Value.bool (decide_eq_true hc1))) ?_
      refine lf_not (wantNot (d := 21) rfl (by kernel_rfl) rfl (congrArg Value.bool (decide_eq_true hc1))) ?_
      refine lf_val (v := .bool true) (wantAll rfl) (rv_pickT rfl (fr_eval rfl (congrArg Value.bool (decide_eq_true hc1))) rfl) ?_
      exact hk _ ⟨e0, e1, e2, e3, e6, (congrArg Value.bool (dec_orT hc1))⟩
    · refine lf_val (v := .int .i64 z) (wantF (d := 21) rfl (by kernel_rfl) rfl (congrArg Value.bool (decide_eq_false hc1))) (rv_move rfl (fr_eval rfl e1)) ?_
      refine lf_val (v := .bool (decide (z < 1))) (wantF (d := 21) rfl (by kernel_rfl) rfl (congrArg Value.bool (decide_eq_false hc1))) (rv_lssP (p := z < 1) rfl (fr_eval rfl rfl) rfl Iff.rfl) ?_
      refine lf_val (v := .bool (decide (z < 1))) (wantAll rfl) (rv_pickF rfl (fr_eval rfl (congrArg Value.bool (decide_eq_false hc1))) (fr_eval rfl rfl)) ?_
      exact hk _ ⟨e0, e1, e2, e3, e6, (congrArg Value.bool (dec_or hc1))⟩
  · clear e0 e1 e2 e3 e6
    clear F
    rintro F ⟨e0, e1, e2, e3, e6, e24⟩
    refine lf_nil ?_
    refine then_n ?_
    by_cases hc2 : (z > 4) ∨ (z < 1)
    · refine wp_cond_true (fr_eval rfl (e24.trans (congrArg Value.bool (decide_eq_true hc2)))) ?_
      refine wp_seq ?_
      refine wp_regionF ?_
      refine lf_call (wantAll rfl) (rv_call (args := []) rfl evn Try.call35) (awake05_calls _) ?_
      rintro _ w2 ⟨rfl, hx⟩
      refine ⟨_, rfl, ?_⟩
      replace hH := hH.ext hx
      clear hx
      refine lf_val (v := .bool true) (wantAll rfl) (rv_assign rfl (fr_eval rfl rfl)) ?_
      refine lf_nil ?_
      refine then_n ?_
      refine wp_gen (fun F' => F' 0 = .agg (cBs s.1).toArray ∧ F' 1 = .int .i64 z ∧ F' 2 = vt ∧ F' 3 = .pointer (some ⟨g1, 0, none⟩) ∧ F' 6 = .bool true ∧ F' 24 = .bool true) ⟨e0, e1, e2, e3, rfl, (e24.trans (congrArg Value.bool (decide_eq_true hc2)))⟩ ?_
      clear e0 e1 e2 e3 e6 e24
      clear F
      rintro F ⟨e0, e1, e2, e3, e6, e24⟩
      refine wp_ret ?_
      refine then_ret ?_
      exact bodyPost_ret (v := (.bool true)) (res1 rfl (ro_tmp rfl e6)) rfl (⟨rfl, hH.done⟩)
    · refine wp_cond_false (fr_eval rfl (e24.trans (congrArg Value.bool (decide_eq_false hc2)))) ?_
      refine wp_skip ?_
      refine then_n ?_
      refine wp_seq ?_
      obtain ⟨n, rfl⟩ : ∃ n : Nat, z = (n : Int) := ⟨z.toNat, by omega⟩
      have hkl := keyL_len s n
      refine wp_regionF ?_
      refine lf_val (v := .agg (cBs s.1).toArray) (wantAll rfl) (rv_loadW rfl (hH.blk (i := 0) rfl) (fr_eval rfl e3) Try.underlying23 rfl (sz_len Try.sz23 (cBs_len s.2))) ?_
      refine lf_val (v := .int .i64 ((n : Nat) : Int)) (wantAll rfl) (rv_move rfl (fr_eval rfl e1)) ?_
      refine lf_call (wantAll rfl) (rv_call (args := [.agg (cBs s.1).toArray, .int .i64 ((n : Nat) : Int)]) rfl (evc (fr_eval rfl rfl) (evc (fr_eval rfl rfl) evn)) Try.call36) (new_yes s n (by omega) (by omega) _) ?_
      rintro _ w3 ⟨g2, y1, rfl, hP⟩
      refine ⟨_, rfl, ?_⟩
      have hx := hP.done
      replace hH : Heap _ _ _ [_, _, _] := hH.joinN hP (Stays.blk (hP.blk (i := 0) rfl) (Stays.own (hP.own (i := 1) rfl) Stays.nil))
      clear hP
      clear hx
      refine lf_val (v := .tuple #[.pointer (some ⟨g2, 0, none⟩), .int .i64 0]) (wantAll rfl) (rv_move rfl (fr_eval rfl rfl)) ?_
      refine lf_val (v := .pointer (some ⟨g2, 0, none⟩)) (wantAll rfl) (rv_extract rfl (fr_eval rfl rfl) rfl) ?_
      refine lf_val (v := .int .i64 0) (wantAll rfl) (rv_extract rfl (fr_eval rfl rfl) rfl) ?_
      refine lf_val (v := .pointer (some ⟨g2, 0, none⟩)) (wantAll rfl) (rv_assign rfl (fr_eval rfl rfl)) ?_
      refine lf_val (v := .int .i64 0) (wantAll rfl) (rv_assign rfl (fr_eval rfl rfl)) ?_
      refine lf_nil ?_
      refine then_n ?_
      refine wp_seq ?_
      refine wp_seq ?_
      refine wp_gen (fun F' => F' 0 = .agg (cBs s.1).toArray ∧ F' 1 = .int .i64 ((n : Nat) : Int) ∧ F' 2 = vt ∧ F' 3 = .pointer (some ⟨g1, 0, none⟩) ∧ F' 6 = .bool false ∧ F' 7 = .pointer (some ⟨g2, 0, none⟩) ∧ F' 8 = .int .i64 0 ∧ F' 24 = .bool false) ⟨e0, e1, e2, e3, e6, rfl, rfl, (e24.trans (congrArg Value.bool (decide_eq_false hc2)))⟩ ?_
      clear e0 e1 e2 e3 e6 e24
      clear F
      rintro F ⟨e0, e1, e2, e3, e6, e7, e8, e24⟩
      refine wp_regionF ?_
      refine lf_val (v := .pointer (some ⟨g2, 0, none⟩)) (wantAll rfl) (rv_move rfl (fr_eval rfl e7)) ?_
      refine lf_val (v := .bool false) (wantAll rfl) (rv_eqnil (p := (some ⟨g2, 0, none⟩)) rfl (fr_eval rfl rfl) rfl Try.underlying67) ?_
      refine lf_val (v := .bool false) (wantAll rfl) (rv_move rfl (fr_eval rfl rfl)) ?_
      refine lf_val (v := .int .i64 0) (wantF (d := 34) rfl (by kernel_rfl) rfl rfl) (rv_move rfl (fr_eval rfl e8)) ?_
      refine lf_val (v := .bool false) (wantF (d := 34) rfl (by kernel_rfl) rfl rfl) (rv_neq rfl (fr_eval rfl rfl) rfl (show decide ((0 : Int) = 0) = true from by decide)) ?_
      refine lf_val (v := .bool false) (wantAll rfl) (rv_pickF rfl (fr_eval rfl rfl) (fr_eval rfl rfl)) ?_
      refine lf_nil ?_
      refine then_n ?_
      refine wp_gen (fun F' => F' 0 = .agg (cBs s.1).toArray ∧ F' 1 = .int .i64 ((n : Nat) : Int) ∧ F' 2 = vt ∧ F' 3 = .pointer (some ⟨g1, 0, none⟩) ∧ F' 6 = .bool false ∧ F' 7 = .pointer (some ⟨g2, 0, none⟩) ∧ F' 8 = .int .i64 0 ∧ F' 24 = .bool false ∧ F' 37 = .bool false) ⟨e0, e1, e2, e3, e6, e7, e8, e24, rfl⟩ ?_
      clear e0 e1 e2 e3 e6 e7 e8 e24
      clear F
      rintro F ⟨e0, e1, e2, e3, e6, e7, e8, e24, e37⟩
      refine wp_cond_false (fr_eval rfl e37) ?_
      refine wp_skip ?_
      refine then_n ?_
      refine wp_seq ?_
      refine wp_regionF ?_
      refine lf_val (v := .agg (cBs s.1).toArray) (wantAll rfl) (rv_loadW rfl (hH.blk (i := 0) rfl) (fr_eval rfl e3) Try.underlying23 rfl (sz_len Try.sz23 (cBs_len s.2))) ?_
      refine lf_val (v := .int .i64 ((n : Nat) : Int)) (wantAll rfl) (rv_move rfl (fr_eval rfl e1)) ?_
      refine lf_call (wantAll rfl) (rv_call (args := [.agg (cBs s.1).toArray, .int .i64 ((n : Nat) : Int)]) rfl (evc (fr_eval rfl rfl) (evc (fr_eval rfl rfl) evn)) Try.call37) (leaves05_calls s n (by omega) _) ?_
      rintro _ w4 ⟨⟨y2, rfl, ho, hg⟩, hx⟩
      refine ⟨_, rfl, ?_⟩
      replace hH : Heap _ _ _ [_, _, _, _] := hH.addOwn hx hg ho
      clear ho hg
      clear hx
      refine lf_val (v := y2) (wantAll rfl) (rv_assign rfl (fr_eval rfl rfl)) ?_
      refine lf_nil ?_
      refine then_n ?_
      refine wp_seq ?_
      refine wp_gen (fun F' => F' 0 = .agg (cBs s.1).toArray ∧ F' 1 = .int .i64 ((n : Nat) : Int) ∧ F' 2 = vt ∧ F' 3 = .pointer (some ⟨g1, 0, none⟩) ∧ F' 6 = .bool false ∧ F' 7 = .pointer (some ⟨g2, 0, none⟩) ∧ F' 8 = .int .i64 0 ∧ F' 9 = y2 ∧ F' 24 = .bool false ∧ F' 37 = .bool false) ⟨e0, e1, e2, e3, e6, e7, e8, rfl, e24, e37⟩ ?_
      clear e0 e1 e2 e3 e6 e7 e8 e24 e37
      clear F
      rintro F ⟨e0, e1, e2, e3, e6, e7, e8, e9, e24, e37⟩
      refine wp_regionF ?_
      refine lf_val (v := y2) (wantAll rfl) (rv_move rfl (fr_eval rfl e9)) ?_
      refine lf_call (wantAll rfl) (rv_call (args := [y2]) rfl (evc (fr_eval rfl rfl) evn) Try.call19) (root_calls (keyL s n) (by omega) _ _ (Own.rd (hH.own (i := 3) rfl) (row_one cS_one))) ?_
      rintro _ w5 ⟨rfl, hx⟩
      refine ⟨_, rfl, ?_⟩
      replace hH := hH.ext hx
      clear hx
      refine lf_ex (wantAll rfl) (hx_alloc hH 23 (z := .agg (cBs (List.replicate 32 0)).toArray) (n := 32) (cs := cBs (List.replicate 32 0)) rfl (by kernel_rfl) (by rfl)) ?_
      clear hH
      rintro _ w6 ⟨g3, rfl, hH, hx⟩
      replace hH : Heap _ _ _ [_, _, _, _, _] := hH
      clear hx
      refine lf_sk (wantAll rfl) (hx_storeW hH (i := 4) (cs := cBs ((rootS (keyL s n)).1)) rfl rfl rfl (fr_eval rfl rfl) (fr_eval rfl rfl) (sz_len Try.sz23 (cBs_len (rootS (keyL s n)).2)) (((cBs_len (List.length_replicate ..))).trans ((cBs_len (rootS (keyL s n)).2)).symm) ((cBs_one _))) ?_
      clear hH
      rintro w7 ⟨hH, hx⟩
      replace hH : Heap _ _ _ [_, _, _, _, _] := hH
      clear hx
      refine lf_nil ?_
      refine then_n ?_
      refine wp_seq ?_
      refine wp_seq ?_
      refine wp_gen (fun F' => F' 0 = .agg (cBs s.1).toArray ∧ F' 1 = .int .i64 ((n : Nat) : Int) ∧ F' 2 = vt ∧ F' 3 = .pointer (some ⟨g1, 0, none⟩) ∧ F' 6 = .bool false ∧ F' 7 = .pointer (some ⟨g2, 0, none⟩) ∧ F' 8 = .int .i64 0 ∧ F' 9 = y2 ∧ F' 10 = .pointer (some ⟨g3, 0, none⟩) ∧ F' 24 = .bool false ∧ F' 37 = .bool false) ⟨e0, e1, e2, e3, e6, e7, e8, e9, rfl, e24, e37⟩ ?_
      clear e0 e1 e2 e3 e6 e7 e8 e9 e24 e37
      clear F
      rintro F ⟨e0, e1, e2, e3, e6, e7, e8, e9, e10, e24, e37⟩
      refine wp_regionF ?_
      refine lf_val (v := .int .i64 0) (wantAll rfl) (rv_assign rfl rfl) ?_
      refine lf_nil ?_
      refine then_n ?_
      refine wp_block ?_
      refine wp_gen (fun F' => F' 0 = .agg (cBs s.1).toArray ∧ F' 1 = .int .i64 ((n : Nat) : Int) ∧ F' 2 = vt ∧ F' 3 = .pointer (some ⟨g1, 0, none⟩) ∧ F' 6 = .bool false ∧ F' 7 = .pointer (some ⟨g2, 0, none⟩) ∧ F' 8 = .int .i64 0 ∧ F' 9 = y2 ∧ F' 10 = .pointer (some ⟨g3, 0, none⟩) ∧ F' 11 = .int .i64 0 ∧ F' 24 = .bool false ∧ F' 37 = .bool false) ⟨e0, e1, e2, e3, e6, e7, e8, e9, e10, rfl, e24, e37⟩ ?_
      clear e0 e1 e2 e3 e6 e7 e8 e9 e10 e24 e37
      clear F
      rintro F ⟨e0, e1, e2, e3, e6, e7, e8, e9, e10, e11, e24, e37⟩
      refine wp_loopF (fun m F wr => ∃ i : Nat, ∃ nx : Nat, m = ts.length - i ∧ i ≤ ts.length ∧ nx ≤ n ∧ (i < n → nx = i) ∧ (n ≤ i → nx = n) ∧ F 0 = .agg (cBs s.1).toArray ∧ F 1 = .int .i64 ((n : Nat) : Int) ∧ F 2 = vt ∧ F 3 = .pointer (some ⟨g1, 0, none⟩) ∧ F 7 = .pointer (some ⟨g2, 0, none⟩) ∧ F 8 = .int .i64 0 ∧ F 9 = y2 ∧ F 10 = .pointer (some ⟨g3, 0, none⟩) ∧ F 11 = .int .i64 ((i : Nat) : Int) ∧ F 24 = .bool false ∧ F 37 = .bool false ∧ Heap (newN w) w wr [oBlk g1 (cBs s.1) 23, oBlk g2 (cBs s.1 ++ ([y1, .int .i64 ((nx : Nat) : Int)] : List Value)) 108, oRow cS 23 32 y1 (keyL s n), oRow cS 23 32 y2 (keyL s n), oBlk g3 (cBs ((rootS (keyL s n)).1)) 23]) ⟨0, 0, rfl, Nat.zero_le _, Nat.zero_le _, fun _ => rfl, (by omega), e0, e1, e2, e3, e7, e8, e9, e10, e11, e24, e37, hH⟩ ?_
      clear e0 e1 e2 e3 e6 e7 e8 e9 e10 e11 e24 e37 hH
      clear F
      rintro m F w8 ⟨i, nx, rfl, pi0, pi1, pi2, pi3, e0, e1, e2, e3, e7, e8, e9, e10, e11, e24, e37, hH⟩
      refine wp_seq ?_
      refine wp_seq ?_
      refine wp_regionF ?_
      refine lf_val (v := .int .i64 ((i : Nat) : Int)) (wantAll rfl) (rv_move rfl (fr_eval rfl e11)) ?_
      refine lf_val (v := vt) (wantAll rfl) (rv_move rfl (fr_eval rfl e2)) ?_
      refine lf_val (v := .int .i64 ((ts.length : Nat) : Int)) (wantAll rfl) (rv_len rfl (fr_eval rfl rfl) (htr.rd _ hH.chg) Try.underlying66) ?_
      refine lf_val (v := .bool (decide (i < ts.length))) (wantAll rfl) (rv_lssP (p := i < ts.length) rfl (fr_eval rfl rfl) (fr_eval rfl rfl) (by omega)) ?_
      refine lf_val (v := .bool (decide (i < ts.length))) (wantAll rfl) (rv_move rfl (fr_eval rfl rfl)) ?_
      refine lf_joinP (fun F' => F' 0 = .agg (cBs s.1).toArray ∧ F' 1 = .int .i64 ((n : Nat) : Int) ∧ F' 2 = vt ∧ F' 3 = .pointer (some ⟨g1, 0, none⟩) ∧ F' 7 = .pointer (some ⟨g2, 0, none⟩) ∧ F' 8 = .int .i64 0 ∧ F' 9 = y2 ∧ F' 10 = .pointer (some ⟨g3, 0, none⟩) ∧ F' 11 = .int .i64 ((i : Nat) : Int) ∧ F' 24 = .bool false ∧ F' 37 = .bool false ∧ F' 50 = .bool (decide ((i < ts.length) ∧ (i < 6)))) 3 (fun hk => ?_) ?_
      · by_cases hc3 : i < ts.length
        · refine lf_val (v := .int .i64 ((i : Nat) : Int)) (wantF (d := 47) rfl (by kernel_rfl) rfl (congrArg Value.bool (decide_eq_true hc3))) (rv_move rfl (fr_eval rfl e11)) ?_
          refine lf_val (v := .bool (decide (i < 6))) (wantF (d := 47) rfl (by kernel_rfl) rfl (congrArg Value.bool (decide_eq_true hc3))) (rv_lssP (p := i < 6) rfl (fr_eval rfl rfl) rfl (by omega)) ?_
          refine lf_val (v := .bool (decide (i < 6))) (wantAll rfl) (rv_pickT rfl (fr_eval rfl (congrArg Value.bool (decide_eq_true hc3))) (fr_eval rfl rfl)) ?_
          exact hk _ ⟨e0, e1, e2, e3, e7, e8, e9, e10, e11, e24, e37, (congrArg Value.bool (dec_and hc3))⟩
        · refine lf_not (wantNot (d := 47) rfl (by kernel_rfl) rfl (congrArg Value.bool (decide_eq_false hc3))) ?_
          refine lf_not (wantNot (d := 47) rfl (by kernel_rfl) rfl (congrArg Value.bool (decide_eq_false hc3))) ?_
          refine lf_val (v := .bool false) (wantAll rfl) (rv_pickF rfl (fr_eval rfl (congrArg Value.bool (decide_eq_false hc3))) rfl) ?_
          exact hk _ ⟨e0, e1, e2, e3, e7, e8, e9, e10, e11, e24, e37, (congrArg Value.bool (dec_andF hc3))⟩
      · clear e0 e1 e2 e3 e7 e8 e9 e10 e11 e24 e37
        clear F
        rintro F ⟨e0, e1, e2, e3, e7, e8, e9, e10, e11, e24, e37, e50⟩
        refine lf_nil ?_
        refine then_n ?_
        by_cases hc4 : (i < ts.length) ∧ (i < 6)
        · refine wp_cond_true (fr_eval rfl (e50.trans (congrArg Value.bool (decide_eq_true hc4)))) ?_
          refine wp_skip ?_
          refine then_n ?_
          refine wp_seq ?_
          refine wp_block ?_
          refine wp_seq ?_
          refine wp_regionF ?_
          refine lf_val (v := vt) (wantAll rfl) (rv_move rfl (fr_eval rfl e2)) ?_
          refine lf_val (v := .int .i64 ((i : Nat) : Int)) (wantAll rfl) (rv_move rfl (fr_eval rfl e11)) ?_
          refine lf_val (v := .pointer (some (elemA vt (i * 1)))) (wantAll rfl) (rv_index rfl (fr_eval rfl rfl) (fr_eval rfl rfl) (rdN (htr.rd _ hH.chg) rfl) (show i < ts.length from (by omega)) Try.underlying66 Try.sz58 (by decide)) ?_
          refine lf_val (v := (List.getD ts i zPt).1.1) (wantAll rfl) (rv_loadCell rfl (fr_eval rfl rfl) (Nat.mul_one _) (htr.rd _ hH.chg) (flat_get1 zPt cPt_len (show i < ts.length from (by omega)) rfl) Try.underlying58 rfl Try.sz58) ?_
          refine lf_call (wantAll rfl) (rv_call (args := [(List.getD ts i zPt).1.1]) rfl (evc (fr_eval rfl rfl) evn) Try.call38) (cut05_calls ((List.getD ts i zPt).2) _ _ ((hpt _ (getD_mem' (by omega : i < ts.length))).rd _ hH.chg)) ?_
          rintro _ w9 ⟨rfl, hx⟩
          refine ⟨_, rfl, ?_⟩
          replace hH := hH.ext hx
          clear hx
          refine lf_val (v := cutV ((List.getD ts i zPt).1.1) ((List.getD ts i zPt).2) 200) (wantAll rfl) (rv_assign rfl (fr_eval rfl rfl)) ?_
          refine lf_nil ?_
          refine then_n ?_
          refine wp_seq ?_
          refine wp_gen (fun F' => F' 0 = .agg (cBs s.1).toArray ∧ F' 1 = .int .i64 ((n : Nat) : Int) ∧ F' 2 = vt ∧ F' 3 = .pointer (some ⟨g1, 0, none⟩) ∧ F' 7 = .pointer (some ⟨g2, 0, none⟩) ∧ F' 8 = .int .i64 0 ∧ F' 9 = y2 ∧ F' 10 = .pointer (some ⟨g3, 0, none⟩) ∧ F' 11 = .int .i64 ((i : Nat) : Int) ∧ F' 12 = cutV ((List.getD ts i zPt).1.1) ((List.getD ts i zPt).2) 200 ∧ F' 24 = .bool false ∧ F' 37 = .bool false ∧ F' 50 = .bool true) ⟨e0, e1, e2, e3, e7, e8, e9, e10, e11, rfl, e24, e37, (e50.trans (congrArg Value.bool (decide_eq_true hc4)))⟩ ?_
          clear e0 e1 e2 e3 e7 e8 e9 e10 e11 e24 e37 e50
          clear F
          rintro F ⟨e0, e1, e2, e3, e7, e8, e9, e10, e11, e12, e24, e37, e50⟩
          by_cases hf1 : i ≥ n
          · obtain rfl : n = nx := (pi3 (by omega)).symm
            refine wp_regionF ?_
            refine lf_val (v := .pointer (some ⟨g2, 0, none⟩)) (wantAll rfl) (rv_move rfl (fr_eval rfl e7)) ?_
            refine lf_val (wantAll rfl) (rv_move rfl (fr_eval rfl e12)) ?_
            refine lf_call (wantAll rfl) (rv_call (args := [.pointer (some ⟨g2, 0, none⟩), cutV ((List.getD ts i zPt).1.1) ((List.getD ts i zPt).2) 200]) rfl (evc (fr_eval rfl rfl) (evc (fr_eval rfl rfl) evn)) Try.call39) (kSign_no s (keyL s n) (by omega) _ _ (by have := (hH.blk (i := 1) rfl); rw [show ((n : Nat) : Int) = (((keyL s n).length : Nat) : Int) from by rw [hkl]] at this; exact this) (Own.rd (hH.own (i := 2) rfl) (row_one cS_one))) ?_
            rintro _ w10 ⟨rfl, hx⟩
            refine ⟨_, rfl, ?_⟩
            replace hH := hH.ext hx
            clear hx
            refine lf_val (v := .tuple #[.slice none 0 0, .int .i64 15]) (wantAll rfl) (rv_move rfl (fr_eval rfl rfl)) ?_
            refine lf_val (v := .slice none 0 0) (wantAll rfl) (rv_extract rfl (fr_eval rfl rfl) rfl) ?_
            refine lf_val (v := .int .i64 15) (wantAll rfl) (rv_extract rfl (fr_eval rfl rfl) rfl) ?_
            refine lf_val (v := .slice none 0 0) (wantAll rfl) (rv_assign rfl (fr_eval rfl rfl)) ?_
            refine lf_val (v := .int .i64 15) (wantAll rfl) (rv_assign rfl (fr_eval rfl rfl)) ?_
            refine lf_nil ?_
            refine then_n ?_
            refine wp_seq ?_
            refine wp_seq ?_
            refine wp_gen (fun F' => F' 0 = .agg (cBs s.1).toArray ∧ F' 1 = .int .i64 ((n : Nat) : Int) ∧ F' 2 = vt ∧ F' 3 = .pointer (some ⟨g1, 0, none⟩) ∧ F' 7 = .pointer (some ⟨g2, 0, none⟩) ∧ F' 8 = .int .i64 0 ∧ F' 9 = y2 ∧ F' 10 = .pointer (some ⟨g3, 0, none⟩) ∧ F' 11 = .int .i64 ((i : Nat) : Int) ∧ F' 12 = cutV ((List.getD ts i zPt).1.1) ((List.getD ts i zPt).2) 200 ∧ F' 13 = .slice none 0 0 ∧ F' 14 = .int .i64 15 ∧ F' 24 = .bool false ∧ F' 37 = .bool false ∧ F' 50 = .bool true) ⟨e0, e1, e2, e3, e7, e8, e9, e10, e11, e12, rfl, rfl, e24, e37, e50⟩ ?_
            clear e0 e1 e2 e3 e7 e8 e9 e10 e11 e12 e24 e37 e50
            clear F
            rintro F ⟨e0, e1, e2, e3, e7, e8, e9, e10, e11, e12, e13, e14, e24, e37, e50⟩
            refine wp_regionF ?_
            refine lf_val (v := .int .i64 ((i : Nat) : Int)) (wantAll rfl) (rv_move rfl (fr_eval rfl e11)) ?_
            refine lf_val (v := .int .i64 ((n : Nat) : Int)) (wantAll rfl) (rv_move rfl (fr_eval rfl e1)) ?_
            refine lf_val (v := .bool true) (wantAll rfl) (rv_known (rv_geqP (p := i ≥ n) rfl (fr_eval rfl rfl) (fr_eval rfl rfl) (by omega)) (decide_eq_true hf1)) ?_
            refine lf_nil ?_
            refine then_n ?_
            refine wp_gen (fun F' => F' 0 = .agg (cBs s.1).toArray ∧ F' 1 = .int .i64 ((n : Nat) : Int) ∧ F' 2 = vt ∧ F' 3 = .pointer (some ⟨g1, 0, none⟩) ∧ F' 7 = .pointer (some ⟨g2, 0, none⟩) ∧ F' 8 = .int .i64 0 ∧ F' 9 = y2 ∧ F' 10 = .pointer (some ⟨g3, 0, none⟩) ∧ F' 11 = .int .i64 ((i : Nat) : Int) ∧ F' 12 = cutV ((List.getD ts i zPt).1.1) ((List.getD ts i zPt).2) 200 ∧ F' 13 = .slice none 0 0 ∧ F' 14 = .int .i64 15 ∧ F' 24 = .bool false ∧ F' 37 = .bool false ∧ F' 50 = .bool true ∧ F' 66 = .bool true) ⟨e0, e1, e2, e3, e7, e8, e9, e10, e11, e12, e13, e14, e24, e37, e50, rfl⟩ ?_
            clear e0 e1 e2 e3 e7 e8 e9 e10 e11 e12 e13 e14 e24 e37 e50
            clear F
            rintro F ⟨e0, e1, e2, e3, e7, e8, e9, e10, e11, e12, e13, e14, e24, e37, e50, e66⟩
            refine wp_cond_true (fr_eval rfl e66) ?_
            refine wp_seq ?_
            refine wp_seq ?_
            refine wp_regionF ?_
            refine lf_val (v := .slice none 0 0) (wantAll rfl) (rv_move rfl (fr_eval rfl e13)) ?_
            refine lf_val (v := .int .i64 0) (wantAll rfl) (rv_len rfl (fr_eval rfl rfl) (Rd.nil (size := 1)) Try.underlying58) ?_
            refine lf_val (v := .bool false) (wantAll rfl) (rv_neq rfl (fr_eval rfl rfl) rfl (show decide ((0 : Int) = 0) = true from by decide)) ?_
            refine lf_val (v := .bool false) (wantAll rfl) (rv_move rfl (fr_eval rfl rfl)) ?_
            refine lf_val (v := .int .i64 15) (wantF (d := 70) rfl (by kernel_rfl) rfl rfl) (rv_move rfl (fr_eval rfl e14)) ?_
            refine lf_val (v := .bool false) (wantF (d := 70) rfl (by kernel_rfl) rfl rfl) (rv_neq rfl (fr_eval rfl rfl) rfl (show decide ((15 : Int) = 15) = true from by decide)) ?_
            refine lf_val (v := .bool false) (wantAll rfl) (rv_pickF rfl (fr_eval rfl rfl) (fr_eval rfl rfl)) ?_
            refine lf_val (v := .bool false) (wantAll rfl) (rv_move rfl (fr_eval rfl rfl)) ?_
            refine lf_val (v := .pointer (some ⟨g2, 0, none⟩)) (wantF (d := 74) rfl (by kernel_rfl) rfl rfl) (rv_move rfl (fr_eval rfl e7)) ?_
            refine lf_call (wantF (d := 74) rfl (by kernel_rfl) rfl rfl) (rv_call (args := [.pointer (some ⟨g2, 0, none⟩)]) rfl (evc (fr_eval rfl rfl) evn) Try.call40) (kLeft s (keyL s n) (by omega) n (by omega) (by omega) _ (hH.blk (i := 1) rfl) (Own.rd (hH.own (i := 2) rfl) (row_one cS_one))) ?_
            rintro _ w11 ⟨rfl, hx⟩
            refine ⟨_, rfl, ?_⟩
            replace hH := hH.ext hx
            clear hx
            refine lf_val (v := .bool (decide (¬ (keyL s n).length - n = 0))) (wantF (d := 74) rfl (by kernel_rfl) rfl rfl) (rv_neqP (p := ¬ (keyL s n).length - n = 0) rfl (fr_eval rfl rfl) rfl (by omega)) ?_
            refine lf_val (v := .bool (decide (¬ (keyL s n).length - n = 0))) (wantAll rfl) (rv_pickF rfl (fr_eval rfl rfl) (fr_eval rfl rfl)) ?_
            refine lf_nil ?_
            refine then_n ?_
            refine wp_gen (fun F' => F' 0 = .agg (cBs s.1).toArray ∧ F' 1 = .int .i64 ((n : Nat) : Int) ∧ F' 2 = vt ∧ F' 3 = .pointer (some ⟨g1, 0, none⟩) ∧ F' 7 = .pointer (some ⟨g2, 0, none⟩) ∧ F' 8 = .int .i64 0 ∧ F' 9 = y2 ∧ F' 10 = .pointer (some ⟨g3, 0, none⟩) ∧ F' 11 = .int .i64 ((i : Nat) : Int) ∧ F' 12 = cutV ((List.getD ts i zPt).1.1) ((List.getD ts i zPt).2) 200 ∧ F' 13 = .slice none 0 0 ∧ F' 14 = .int .i64 15 ∧ F' 24 = .bool false ∧ F' 37 = .bool false ∧ F' 50 = .bool true ∧ F' 66 = .bool true ∧ F' 78 = .bool (decide (¬ (keyL s n).length - n = 0))) ⟨e0, e1, e2, e3, e7, e8, e9, e10, e11, e12, e13, e14, e24, e37, e50, e66, rfl⟩ ?_
            clear e0 e1 e2 e3 e7 e8 e9 e10 e11 e12 e13 e14 e24 e37 e50 e66
            clear F
            rintro F ⟨e0, e1, e2, e3, e7, e8, e9, e10, e11, e12, e13, e14, e24, e37, e50, e66, e78⟩
            by_cases hc5 : (keyL s n).length - n = 0
            · refine wp_cond_false (fr_eval rfl (e78.trans (congrArg Value.bool (decide_eq_false (not_not_intro hc5))))) ?_
              refine wp_skip ?_
              refine then_n ?_
              refine wp_exit ?_
              refine then_exit ?_
              refine blk_exit ?_
              refine then_n ?_
              refine wp_regionF ?_
              refine lf_val (v := .int .i64 ((i : Nat) : Int)) (wantAll rfl) (rv_move rfl (fr_eval rfl e11)) ?_
              refine lf_val (v := .int .i64 ((i + 1 : Nat) : Int)) (wantAll rfl) (rv_add rfl (fr_eval rfl rfl) rfl (wrap_i64 (by omega) (by omega) (by omega))) ?_
              refine lf_val (v := .int .i64 ((i + 1 : Nat) : Int)) (wantAll rfl) (rv_assign rfl (fr_eval rfl rfl)) ?_
              refine lf_nil ?_
              refine then_n ?_
              exact ⟨_, _, (by omega), rfl, i + 1, n, rfl, (by omega), (by omega), (by omega), (by omega), e0, e1, e2, e3, e7, e8, e9, e10, rfl, e24, e37, hH⟩
            · refine wp_cond_true (fr_eval rfl (e78.trans (congrArg Value.bool (decide_eq_true hc5)))) ?_
              refine wp_seq ?_
              refine wp_regionF ?_
              refine lf_val (v := .bool false) (wantAll rfl) (rv_assign rfl rfl) ?_
              refine lf_nil ?_
              refine then_n ?_
              refine wp_gen (fun F' => F' 0 = .agg (cBs s.1).toArray ∧ F' 1 = .int .i64 ((n : Nat) : Int) ∧ F' 2 = vt ∧ F' 3 = .pointer (some ⟨g1, 0, none⟩) ∧ F' 6 = .bool false ∧ F' 7 = .pointer (some ⟨g2, 0, none⟩) ∧ F' 8 = .int .i64 0 ∧ F' 9 = y2 ∧ F' 10 = .pointer (some ⟨g3, 0, none⟩) ∧ F' 11 = .int .i64 ((i : Nat) : Int) ∧ F' 12 = cutV ((List.getD ts i zPt).1.1) ((List.getD ts i zPt).2) 200 ∧ F' 13 = .slice none 0 0 ∧ F' 14 = .int .i64 15 ∧ F' 24 = .bool false ∧ F' 37 = .bool false ∧ F' 50 = .bool true ∧ F' 66 = .bool true ∧ F' 78 = .bool true) ⟨e0, e1, e2, e3, rfl, e7, e8, e9, e10, e11, e12, e13, e14, e24, e37, e50, e66, (e78.trans (congrArg Value.bool (decide_eq_true hc5)))⟩ ?_
              clear e0 e1 e2 e3 e7 e8 e9 e10 e11 e12 e13 e14 e24 e37 e50 e66 e78
              clear F
              rintro F ⟨e0, e1, e2, e3, e6, e7, e8, e9, e10, e11, e12, e13, e14, e24, e37, e50, e66, e78⟩
              refine wp_ret ?_
              refine then_ret ?_
              refine then_ret ?_
              refine blk_ret ?_
              refine then_ret ?_
              refine then_ret ?_
              refine blk_ret ?_
              refine then_ret ?_
              exact bodyPost_ret (v := (.bool false)) (res1 rfl (ro_tmp rfl e6)) rfl (by exfalso; omega)
          · obtain rfl : i = nx := (pi2 (by omega)).symm
            have hpl : (pathT (List.map leafS (keyL s n)) i).length ≤ 8 := pathM_len (s := s) (n := n) (i := i) (by omega)
            have hone := oneM_len s i (List.take 200 (List.getD ts i zPt).2)
            refine wp_regionF ?_
            refine lf_val (v := .pointer (some ⟨g2, 0, none⟩)) (wantAll rfl) (rv_move rfl (fr_eval rfl e7)) ?_
            refine lf_val (wantAll rfl) (rv_move rfl (fr_eval rfl e12)) ?_
            replace hH : Heap _ _ _ [_, _, _, _, _] := hH.perm (.cons _ (.trans (.swap _ _ _) (.cons _ (.trans (.swap _ _ _) (.cons _ (.refl _))))))
            replace hH : Heap _ _ _ [_, _, _, _, _] := hH.perm (.cons _ (.cons _ (.trans (.swap _ _ _) (.cons _ (.trans (.swap _ _ _) (.cons _ (.refl _)))))))
            refine lf_call (wantAll rfl) (rv_call (args := [.pointer (some ⟨g2, 0, none⟩), cutV ((List.getD ts i zPt).1.1) ((List.getD ts i zPt).2) 200]) rfl (evc (fr_eval rfl rfl) (evc (fr_eval rfl rfl) evn)) Try.call39) (kSign_yes s (keyL s n) (by omega) i (by omega) (List.take 200 ((List.getD ts i zPt).2)) (Nat.le_trans (List.length_take_le 200 ((List.getD ts i zPt).2)) (by decide)) _ _ (hH.blk (i := 3) rfl) (hH.own (i := 4) rfl) ((stab_cut (n := 200) (hpt _ (getD_mem' (by omega : i < ts.length)))).rd _ hH.chg) (fun k hk h0 hK => hK.elim (fun e => (stab_cut (n := 200) (hpt _ (getD_mem' (by omega : i < ts.length)))).out _ hk h0 ((hH.one (i := 3) rfl).sub k e)) (fun e => (stab_cut (n := 200) (hpt _ (getD_mem' (by omega : i < ts.length)))).out _ hk h0 ((hH.one (i := 4) rfl).sub k e)))) ?_
            rintro _ w12 ⟨y3, rfl, hP⟩
            refine ⟨_, rfl, ?_⟩
            have hx := hH.callChg (L := [_, _, _]) (M := [_, _]) hold_in hP
            replace hH : Heap _ _ _ [_, _, _, _, _, _] := hH.call (L := [_, _, _]) (M := [_, _]) hold_in hP (Stays.blk (hP.blk (i := 0) rfl) (Stays.own (hP.own (i := 1) rfl) (Stays.own (hP.own (i := 2) rfl) Stays.nil)))
            clear hP
            clear hx
            refine lf_val (v := .tuple #[y3, .int .i64 0]) (wantAll rfl) (rv_move rfl (fr_eval rfl rfl)) ?_
            refine lf_val (v := y3) (wantAll rfl) (rv_extract rfl (fr_eval rfl rfl) rfl) ?_
            refine lf_val (v := .int .i64 0) (wantAll rfl) (rv_extract rfl (fr_eval rfl rfl) rfl) ?_
            refine lf_val (v := y3) (wantAll rfl) (rv_assign rfl (fr_eval rfl rfl)) ?_
            refine lf_val (v := .int .i64 0) (wantAll rfl) (rv_assign rfl (fr_eval rfl rfl)) ?_
            refine lf_nil ?_
            refine then_n ?_
            refine wp_seq ?_
            refine wp_seq ?_
            refine wp_gen (fun F' => F' 0 = .agg (cBs s.1).toArray ∧ F' 1 = .int .i64 ((n : Nat) : Int) ∧ F' 2 = vt ∧ F' 3 = .pointer (some ⟨g1, 0, none⟩) ∧ F' 7 = .pointer (some ⟨g2, 0, none⟩) ∧ F' 8 = .int .i64 0 ∧ F' 9 = y2 ∧ F' 10 = .pointer (some ⟨g3, 0, none⟩) ∧ F' 11 = .int .i64 ((i : Nat) : Int) ∧ F' 12 = cutV ((List.getD ts i zPt).1.1) ((List.getD ts i zPt).2) 200 ∧ F' 13 = y3 ∧ F' 14 = .int .i64 0 ∧ F' 24 = .bool false ∧ F' 37 = .bool false ∧ F' 50 = .bool true) ⟨e0, e1, e2, e3, e7, e8, e9, e10, e11, e12, rfl, rfl, e24, e37, e50⟩ ?_
            clear e0 e1 e2 e3 e7 e8 e9 e10 e11 e12 e24 e37 e50
            clear F
            rintro F ⟨e0, e1, e2, e3, e7, e8, e9, e10, e11, e12, e13, e14, e24, e37, e50⟩
            refine wp_regionF ?_
            refine lf_val (v := .int .i64 ((i : Nat) : Int)) (wantAll rfl) (rv_move rfl (fr_eval rfl e11)) ?_
            refine lf_val (v := .int .i64 ((n : Nat) : Int)) (wantAll rfl) (rv_move rfl (fr_eval rfl e1)) ?_
            refine lf_val (v := .bool false) (wantAll rfl) (rv_known (rv_geqP (p := i ≥ n) rfl (fr_eval rfl rfl) (fr_eval rfl rfl) (by omega)) (decide_eq_false hf1)) ?_
            refine lf_nil ?_
            refine then_n ?_
            refine wp_gen (fun F' => F' 0 = .agg (cBs s.1).toArray ∧ F' 1 = .int .i64 ((n : Nat) : Int) ∧ F' 2 = vt ∧ F' 3 = .pointer (some ⟨g1, 0, none⟩) ∧ F' 7 = .pointer (some ⟨g2, 0, none⟩) ∧ F' 8 = .int .i64 0 ∧ F' 9 = y2 ∧ F' 10 = .pointer (some ⟨g3, 0, none⟩) ∧ F' 11 = .int .i64 ((i : Nat) : Int) ∧ F' 12 = cutV ((List.getD ts i zPt).1.1) ((List.getD ts i zPt).2) 200 ∧ F' 13 = y3 ∧ F' 14 = .int .i64 0 ∧ F' 24 = .bool false ∧ F' 37 = .bool false ∧ F' 50 = .bool true ∧ F' 66 = .bool false) ⟨e0, e1, e2, e3, e7, e8, e9, e10, e11, e12, e13, e14, e24, e37, e50, rfl⟩ ?_
            clear e0 e1 e2 e3 e7 e8 e9 e10 e11 e12 e13 e14 e24 e37 e50
            clear F
            rintro F ⟨e0, e1, e2, e3, e7, e8, e9, e10, e11, e12, e13, e14, e24, e37, e50, e66⟩
            refine wp_cond_false (fr_eval rfl e66) ?_
            refine wp_skip ?_
            refine then_n ?_
            refine wp_seq ?_
            refine wp_regionF ?_
            refine lf_val (v := .int .i64 ((i : Nat) : Int)) (wantAll rfl) (rv_move rfl (fr_eval rfl e11)) ?_
            refine lf_val (v := y2) (wantAll rfl) (rv_move rfl (fr_eval rfl e9)) ?_
            refine lf_call (wantAll rfl) (rv_call (args := [.int .i64 ((i : Nat) : Int), y2]) rfl (evc (fr_eval rfl rfl) (evc (fr_eval rfl rfl) evn)) Try.call18) (path_in i (keyL s n) (by omega) (by omega) _ _ (Own.rd (hH.own (i := 1) rfl) (row_one cS_one))) ?_
            rintro _ w13 ⟨⟨y4, rfl, ho, hg⟩, hx⟩
            refine ⟨_, rfl, ?_⟩
            replace hH : Heap (newN w) w w13 [oBlk g1 (cBs s.1) 23, oRow cS 23 32 y2 (keyL s n), oBlk g3 (cBs ((rootS (keyL s n)).1)) 23, oBlk g2 (cBs s.1 ++ ([y1, .int .i64 ((i + 1 : Nat) : Int)] : List Value)) 108, oRow cS 23 32 y1 (keyL s n), oB y3 (sigM i (keyL s n).length (pathT (List.map leafS (keyL s n)) i) (sigs (seedS s i).1 (join 14 [(List.take 200 ((List.getD ts i zPt).2))]) 64)), oRow cS 23 32 y4 (pathT (List.map leafS (keyL s n)) i)] := hH.addOwn hx hg ho
            clear ho hg
            clear hx
            refine lf_val (v := .tuple #[y4, .bool true]) (wantAll rfl) (rv_move rfl (fr_eval rfl rfl)) ?_
            refine lf_val (v := y4) (wantAll rfl) (rv_extract rfl (fr_eval rfl rfl) rfl) ?_
            refine lf_val (v := .bool true) (wantAll rfl) (rv_extract rfl (fr_eval rfl rfl) rfl) ?_
            refine lf_val (v := y4) (wantAll rfl) (rv_assign rfl (fr_eval rfl rfl)) ?_
            refine lf_val (v := .bool true) (wantAll rfl) (rv_assign rfl (fr_eval rfl rfl)) ?_
            refine lf_nil ?_
            refine then_n ?_
            refine wp_seq ?_
            refine wp_gen (fun F' => F' 0 = .agg (cBs s.1).toArray ∧ F' 1 = .int .i64 ((n : Nat) : Int) ∧ F' 2 = vt ∧ F' 3 = .pointer (some ⟨g1, 0, none⟩) ∧ F' 7 = .pointer (some ⟨g2, 0, none⟩) ∧ F' 8 = .int .i64 0 ∧ F' 9 = y2 ∧ F' 10 = .pointer (some ⟨g3, 0, none⟩) ∧ F' 11 = .int .i64 ((i : Nat) : Int) ∧ F' 12 = cutV ((List.getD ts i zPt).1.1) ((List.getD ts i zPt).2) 200 ∧ F' 13 = y3 ∧ F' 14 = .int .i64 0 ∧ F' 15 = y4 ∧ F' 24 = .bool false ∧ F' 37 = .bool false ∧ F' 50 = .bool true ∧ F' 66 = .bool false) ⟨e0, e1, e2, e3, e7, e8, e9, e10, e11, e12, e13, e14, rfl, e24, e37, e50, e66⟩ ?_
            clear e0 e1 e2 e3 e7 e8 e9 e10 e11 e12 e13 e14 e24 e37 e50 e66
            clear F
            rintro F ⟨e0, e1, e2, e3, e7, e8, e9, e10, e11, e12, e13, e14, e15, e24, e37, e50, e66⟩
            refine wp_regionF ?_
            refine lf_ex (wantAll rfl) (hx_alloc hH 76 (z := .agg ([.slice none 0 0]).toArray) (n := 1) (cs := [.slice none 0 0]) rfl (by kernel_rfl) (by rfl)) ?_
            clear hH
            rintro _ w14 ⟨g4, rfl, hH, hx⟩
            replace hH : Heap _ _ _ [_, _, _, _, _, _, _, _] := hH
            clear hx
            refine lf_nil ?_
            refine then_n ?_
            refine wp_seq ?_
            refine wp_gen (fun F' => F' 0 = .agg (cBs s.1).toArray ∧ F' 1 = .int .i64 ((n : Nat) : Int) ∧ F' 2 = vt ∧ F' 3 = .pointer (some ⟨g1, 0, none⟩) ∧ F' 7 = .pointer (some ⟨g2, 0, none⟩) ∧ F' 8 = .int .i64 0 ∧ F' 9 = y2 ∧ F' 10 = .pointer (some ⟨g3, 0, none⟩) ∧ F' 11 = .int .i64 ((i : Nat) : Int) ∧ F' 12 = cutV ((List.getD ts i zPt).1.1) ((List.getD ts i zPt).2) 200 ∧ F' 13 = y3 ∧ F' 14 = .int .i64 0 ∧ F' 15 = y4 ∧ F' 17 = .pointer (some ⟨g4, 0, none⟩) ∧ F' 24 = .bool false ∧ F' 37 = .bool false ∧ F' 50 = .bool true ∧ F' 66 = .bool false) ⟨e0, e1, e2, e3, e7, e8, e9, e10, e11, e12, e13, e14, e15, rfl, e24, e37, e50, e66⟩ ?_
            clear e0 e1 e2 e3 e7 e8 e9 e10 e11 e12 e13 e14 e15 e24 e37 e50 e66
            clear F
            rintro F ⟨e0, e1, e2, e3, e7, e8, e9, e10, e11, e12, e13, e14, e15, e17, e24, e37, e50, e66⟩
            refine wp_regionF ?_
            refine lf_val (v := .int .i64 ((i : Nat) : Int)) (wantAll rfl) (rv_move rfl (fr_eval rfl e11)) ?_
            refine lf_val (v := .int .i64 ((n : Nat) : Int)) (wantAll rfl) (rv_move rfl (fr_eval rfl e1)) ?_
            refine lf_val (v := y4) (wantAll rfl) (rv_move rfl (fr_eval rfl e15)) ?_
            refine lf_val (v := .int .i64 (((pathT (List.map leafS (keyL s n)) i).length : Nat) : Int)) (wantAll rfl) (rv_len rfl (fr_eval rfl rfl) (Own.rd (hH.own (i := 6) rfl) (row_one cS_one)) Try.underlying24) ?_
            refine lf_ex (wantAll rfl) (hx_lits hH Try.stInt (n := 3) (nm := List.length [((i : Nat) : Int), ((n : Nat) : Int), (((pathT (List.map leafS (keyL s n)) i).length : Nat) : Int)]) [(.tmp 85), (.tmp 86), (.tmp 88)] (vs := [(.int .i64 ((i : Nat) : Int)), (.int .i64 ((n : Nat) : Int)), (.int .i64 (((pathT (List.map leafS (keyL s n)) i).length : Nat) : Int))]) (cs := List.flatMap cI [((i : Nat) : Int), ((n : Nat) : Int), (((pathT (List.map leafS (keyL s n)) i).length : Nat) : Int)]) rfl (evc (fr_eval rfl rfl) (evc (fr_eval rfl rfl) (evc (fr_eval rfl rfl) evn))) (row_one (l := [((i : Nat) : Int), ((n : Nat) : Int), (((pathT (List.map leafS (keyL s n)) i).length : Nat) : Int)]) cI_one) rfl (by decide) rfl rfl) ?_
            clear hH
            rintro y5 w15 ⟨hH, hx⟩
            replace hH : Heap _ _ _ [_, _, _, _, _, _, _, _, _] := hH
            clear hx
            replace hH : Heap _ _ _ [_, _, _, _, _, _, _, _, _] := hH.toPen (i := 7) rfl rfl
            refine lf_call (wantAll rfl) (rv_call (args := [.pointer (some ⟨g4, 0, none⟩), y5]) rfl (evc (fr_eval rfl e17) (evc (fr_eval rfl rfl) evn)) Try.call41) (penNums_calls (nums3 (by omega) (by omega) (by omega)) _ (Own.rd (hH.own (i := 8) rfl) (row_one cI_one)) (fun k hk h0 e => apart_at hH.apart (i := 8) (j := 7) rfl rfl (by decide) k hk (Or.inl e)) (fun k hk h0 h => apart_at hH.apart (i := 8) (j := 7) rfl rfl (by decide) k hk (Or.inr h)) (hH.pen (i := 7) rfl) (by first | omega | (simp only [List.length_append]; omega) | (simp only [List.length_append, List.length_cons, List.length_nil]; omega))) ?_
            rintro _ w16 ⟨rfl, hp⟩
            refine ⟨_, rfl, ?_⟩
            obtain ⟨y6, hH', hx, hxf, hgr⟩ := hH.penPost (i := 7) (l2 := puts [((i : Nat) : Int), ((n : Nat) : Int), (((pathT (List.map leafS (keyL s n)) i).length : Nat) : Int)]) rfl (fun _ => rfl) hp
            clear hH hp
            have hH : Heap _ _ _ [_, _, _, _, _, _, _, _, _] := hH'
            clear hH'
            clear hxf hgr hx
            refine lf_nil ?_
            refine then_n ?_
            refine wp_seq ?_
            refine wp_seq ?_
            replace hH : Heap _ _ _ [_, _, _, _, _, _, _, _] := hH.drop (.cons_cons _ (.cons_cons _ (.cons_cons _ (.cons_cons _ (.cons_cons _ (.cons_cons _ (.cons_cons _ (.cons_cons _ (.cons _ .slnil)))))))))
            refine wp_gen (fun F' => F' 0 = .agg (cBs s.1).toArray ∧ F' 1 = .int .i64 ((n : Nat) : Int) ∧ F' 2 = vt ∧ F' 3 = .pointer (some ⟨g1, 0, none⟩) ∧ F' 7 = .pointer (some ⟨g2, 0, none⟩) ∧ F' 8 = .int .i64 0 ∧ F' 9 = y2 ∧ F' 10 = .pointer (some ⟨g3, 0, none⟩) ∧ F' 11 = .int .i64 ((i : Nat) : Int) ∧ F' 12 = cutV ((List.getD ts i zPt).1.1) ((List.getD ts i zPt).2) 200 ∧ F' 13 = y3 ∧ F' 14 = .int .i64 0 ∧ F' 15 = y4 ∧ F' 17 = .pointer (some ⟨g4, 0, none⟩) ∧ F' 24 = .bool false ∧ F' 37 = .bool false ∧ F' 50 = .bool true ∧ F' 66 = .bool false) ⟨e0, e1, e2, e3, e7, e8, e9, e10, e11, e12, e13, e14, e15, e17, e24, e37, e50, e66⟩ ?_
            clear e0 e1 e2 e3 e7 e8 e9 e10 e11 e12 e13 e14 e15 e17 e24 e37 e50 e66
            clear F
            rintro F ⟨e0, e1, e2, e3, e7, e8, e9, e10, e11, e12, e13, e14, e15, e17, e24, e37, e50, e66⟩
            refine wp_regionF ?_
            refine lf_val (v := .int .i64 0) (wantAll rfl) (rv_assign rfl rfl) ?_
            refine lf_nil ?_
            refine then_n ?_
            refine wp_block ?_
            rw [show puts [((i : Nat) : Int), ((n : Nat) : Int), (((pathT (List.map leafS (keyL s n)) i).length : Nat) : Int)] = puts [((i : Nat) : Int), ((n : Nat) : Int), (((pathT (List.map leafS (keyL s n)) i).length : Nat) : Int)] ++ sumsB (List.take 0 (pathT (List.map leafS (keyL s n)) i)) from (by simp [sumsB])] at hH
            refine wp_gen (fun F' => F' 0 = .agg (cBs s.1).toArray ∧ F' 1 = .int .i64 ((n : Nat) : Int) ∧ F' 2 = vt ∧ F' 3 = .pointer (some ⟨g1, 0, none⟩) ∧ F' 7 = .pointer (some ⟨g2, 0, none⟩) ∧ F' 8 = .int .i64 0 ∧ F' 9 = y2 ∧ F' 10 = .pointer (some ⟨g3, 0, none⟩) ∧ F' 11 = .int .i64 ((i : Nat) : Int) ∧ F' 12 = cutV ((List.getD ts i zPt).1.1) ((List.getD ts i zPt).2) 200 ∧ F' 13 = y3 ∧ F' 14 = .int .i64 0 ∧ F' 15 = y4 ∧ F' 17 = .pointer (some ⟨g4, 0, none⟩) ∧ F' 18 = .int .i64 0 ∧ F' 24 = .bool false ∧ F' 37 = .bool false ∧ F' 50 = .bool true ∧ F' 66 = .bool false) ⟨e0, e1, e2, e3, e7, e8, e9, e10, e11, e12, e13, e14, e15, e17, rfl, e24, e37, e50, e66⟩ ?_
            clear e0 e1 e2 e3 e7 e8 e9 e10 e11 e12 e13 e14 e15 e17 e24 e37 e50 e66
            clear F
            rintro F ⟨e0, e1, e2, e3, e7, e8, e9, e10, e11, e12, e13, e14, e15, e17, e18, e24, e37, e50, e66⟩
            refine wp_loopF (fun m F wr => ∃ j : Nat, ∃ yp : Value, m = (pathT (List.map leafS (keyL s n)) i).length - j ∧ j ≤ (pathT (List.map leafS (keyL s n)) i).length ∧ F 0 = .agg (cBs s.1).toArray ∧ F 1 = .int .i64 ((n : Nat) : Int) ∧ F 2 = vt ∧ F 3 = .pointer (some ⟨g1, 0, none⟩) ∧ F 7 = .pointer (some ⟨g2, 0, none⟩) ∧ F 8 = .int .i64 0 ∧ F 9 = y2 ∧ F 10 = .pointer (some ⟨g3, 0, none⟩) ∧ F 11 = .int .i64 ((i : Nat) : Int) ∧ F 12 = cutV ((List.getD ts i zPt).1.1) ((List.getD ts i zPt).2) 200 ∧ F 13 = y3 ∧ F 14 = .int .i64 0 ∧ F 15 = y4 ∧ F 17 = .pointer (some ⟨g4, 0, none⟩) ∧ F 18 = .int .i64 ((j : Nat) : Int) ∧ F 24 = .bool false ∧ F 37 = .bool false ∧ F 50 = .bool true ∧ F 66 = .bool false ∧ Heap (newN w) w wr [oBlk g1 (cBs s.1) 23, oRow cS 23 32 y2 (keyL s n), oBlk g3 (cBs ((rootS (keyL s n)).1)) 23, oBlk g2 (cBs s.1 ++ ([y1, .int .i64 ((i + 1 : Nat) : Int)] : List Value)) 108, oRow cS 23 32 y1 (keyL s n), oB y3 (sigM i (keyL s n).length (pathT (List.map leafS (keyL s n)) i) (sigs (seedS s i).1 (join 14 [(List.take 200 ((List.getD ts i zPt).2))]) 64)), oRow cS 23 32 y4 (pathT (List.map leafS (keyL s n)) i), oPen g4 yp (puts [((i : Nat) : Int), ((n : Nat) : Int), (((pathT (List.map leafS (keyL s n)) i).length : Nat) : Int)] ++ sumsB (List.take j (pathT (List.map leafS (keyL s n)) i)))]) ⟨0, _, rfl, Nat.zero_le _, e0, e1, e2, e3, e7, e8, e9, e10, e11, e12, e13, e14, e15, e17, e18, e24, e37, e50, e66, hH⟩ ?_
            clear e0 e1 e2 e3 e7 e8 e9 e10 e11 e12 e13 e14 e15 e17 e18 e24 e37 e50 e66 hH
            clear F
            rintro m F w17 ⟨j, yp, rfl, pj0, e0, e1, e2, e3, e7, e8, e9, e10, e11, e12, e13, e14, e15, e17, e18, e24, e37, e50, e66, hH⟩
            refine wp_seq ?_
            refine wp_seq ?_
            refine wp_regionF ?_
            refine lf_val (v := .int .i64 ((j : Nat) : Int)) (wantAll rfl) (rv_move rfl (fr_eval rfl e18)) ?_
            refine lf_val (v := y4) (wantAll rfl) (rv_move rfl (fr_eval rfl e15)) ?_
            refine lf_val (v := .int .i64 (((pathT (List.map leafS (keyL s n)) i).length : Nat) : Int)) (wantAll rfl) (rv_len rfl (fr_eval rfl rfl) (Own.rd (hH.own (i := 6) rfl) (row_one cS_one)) Try.underlying24) ?_
            refine lf_val (v := .bool (decide (j < (pathT (List.map leafS (keyL s n)) i).length))) (wantAll rfl) (rv_lssP (p := j < (pathT (List.map leafS (keyL s n)) i).length) rfl (fr_eval rfl rfl) (fr_eval rfl rfl) (by omega)) ?_
            refine lf_nil ?_
            refine then_n ?_
            refine wp_gen (fun F' => F' 0 = .agg (cBs s.1).toArray ∧ F' 1 = .int .i64 ((n : Nat) : Int) ∧ F' 2 = vt ∧ F' 3 = .pointer (some ⟨g1, 0, none⟩) ∧ F' 7 = .pointer (some ⟨g2, 0, none⟩) ∧ F' 8 = .int .i64 0 ∧ F' 9 = y2 ∧ F' 10 = .pointer (some ⟨g3, 0, none⟩) ∧ F' 11 = .int .i64 ((i : Nat) : Int) ∧ F' 12 = cutV ((List.getD ts i zPt).1.1) ((List.getD ts i zPt).2) 200 ∧ F' 13 = y3 ∧ F' 14 = .int .i64 0 ∧ F' 15 = y4 ∧ F' 17 = .pointer (some ⟨g4, 0, none⟩) ∧ F' 18 = .int .i64 ((j : Nat) : Int) ∧ F' 24 = .bool false ∧ F' 37 = .bool false ∧ F' 50 = .bool true ∧ F' 66 = .bool false ∧ F' 94 = .bool (decide (j < (pathT (List.map leafS (keyL s n)) i).length))) ⟨e0, e1, e2, e3, e7, e8, e9, e10, e11, e12, e13, e14, e15, e17, e18, e24, e37, e50, e66, rfl⟩ ?_
            clear e0 e1 e2 e3 e7 e8 e9 e10 e11 e12 e13 e14 e15 e17 e18 e24 e37 e50 e66
            clear F
            rintro F ⟨e0, e1, e2, e3, e7, e8, e9, e10, e11, e12, e13, e14, e15, e17, e18, e24, e37, e50, e66, e94⟩
            by_cases hc6 : j < (pathT (List.map leafS (keyL s n)) i).length
            · refine wp_cond_true (fr_eval rfl (e94.trans (congrArg Value.bool (decide_eq_true hc6)))) ?_
              refine wp_skip ?_
              refine then_n ?_
              refine wp_seq ?_
              refine wp_block ?_
              refine wp_regionF ?_
              refine lf_val (v := y4) (wantAll rfl) (rv_move rfl (fr_eval rfl e15)) ?_
              refine lf_val (v := .int .i64 ((j : Nat) : Int)) (wantAll rfl) (rv_move rfl (fr_eval rfl e18)) ?_
              refine lf_val (v := .pointer (some (elemA y4 (j * 32)))) (wantAll rfl) (rv_index rfl (fr_eval rfl rfl) (fr_eval rfl rfl) (rdN (Own.rd (hH.own (i := 6) rfl) (row_one cS_one)) rfl) (show j < (pathT (List.map leafS (keyL s n)) i).length from (by omega)) Try.underlying24 Try.sz23 (by decide)) ?_
              refine lf_val (wantAll rfl) (rv_loadElem rfl (fr_eval rfl rfl) (rdN (Own.rd (hH.own (i := 6) rfl) (row_one cS_one)) rfl) (show j < (pathT (List.map leafS (keyL s n)) i).length from (by omega)) (by decide) (flat_part zS cS_len (show j < (pathT (List.map leafS (keyL s n)) i).length from (by omega))) Try.underlying23 rfl Try.sz23) ?_
              refine lf_call (wantAll rfl) (rv_call (args := [.pointer (some ⟨g4, 0, none⟩), .agg (cBs (((List.getD (pathT (List.map leafS (keyL s n)) i) j zS)).1)).toArray]) rfl (evc (fr_eval rfl e17) (evc (fr_eval rfl rfl) evn)) Try.call42) (penSum_calls (((List.getD (pathT (List.map leafS (keyL s n)) i) j zS)).1) (((List.getD (pathT (List.map leafS (keyL s n)) i) j zS)).2) _ (hH.pen (i := 7) rfl) (by have q1 := puts_len [(i : Int), (n : Int), ((pathT (List.map leafS (keyL s n)) i).length : Int)]; have q2 := sumsB_len (List.take j (pathT (List.map leafS (keyL s n)) i)); have q3 := List.length_take_le j (pathT (List.map leafS (keyL s n)) i); simp only [List.length_append, List.length_cons, List.length_nil] at *; omega)) ?_
              rintro _ w18 ⟨rfl, hp⟩
              refine ⟨_, rfl, ?_⟩
              obtain ⟨y7, hH', hx, hxf, hgr⟩ := hH.penPost (i := 7) (l2 := puts [((i : Nat) : Int), ((n : Nat) : Int), (((pathT (List.map leafS (keyL s n)) i).length : Nat) : Int)] ++ sumsB (List.take j (pathT (List.map leafS (keyL s n)) i)) ++ (((List.getD (pathT (List.map leafS (keyL s n)) i) j zS)).1)) rfl (fun _ => rfl) hp
              clear hH hp
              have hH : Heap _ _ _ [_, _, _, _, _, _, _, _] := hH'
              clear hH'
              clear hxf hgr hx
              refine lf_nil ?_
              refine blk_n ?_
              refine then_n ?_
              refine wp_gen (fun F' => F' 0 = .agg (cBs s.1).toArray ∧ F' 1 = .int .i64 ((n : Nat) : Int) ∧ F' 2 = vt ∧ F' 3 = .pointer (some ⟨g1, 0, none⟩) ∧ F' 7 = .pointer (some ⟨g2, 0, none⟩) ∧ F' 8 = .int .i64 0 ∧ F' 9 = y2 ∧ F' 10 = .pointer (some ⟨g3, 0, none⟩) ∧ F' 11 = .int .i64 ((i : Nat) : Int) ∧ F' 12 = cutV ((List.getD ts i zPt).1.1) ((List.getD ts i zPt).2) 200 ∧ F' 13 = y3 ∧ F' 14 = .int .i64 0 ∧ F' 15 = y4 ∧ F' 17 = .pointer (some ⟨g4, 0, none⟩) ∧ F' 18 = .int .i64 ((j : Nat) : Int) ∧ F' 24 = .bool false ∧ F' 37 = .bool false ∧ F' 50 = .bool true ∧ F' 66 = .bool false ∧ F' 94 = .bool true) ⟨e0, e1, e2, e3, e7, e8, e9, e10, e11, e12, e13, e14, e15, e17, e18, e24, e37, e50, e66, (e94.trans (congrArg Value.bool (decide_eq_true hc6)))⟩ ?_
              clear e0 e1 e2 e3 e7 e8 e9 e10 e11 e12 e13 e14 e15 e17 e18 e24 e37 e50 e66 e94
              clear F
              rintro F ⟨e0, e1, e2, e3, e7, e8, e9, e10, e11, e12, e13, e14, e15, e17, e18, e24, e37, e50, e66, e94⟩
              refine wp_regionF ?_
              refine lf_val (v := .int .i64 ((j : Nat) : Int)) (wantAll rfl) (rv_move rfl (fr_eval rfl e18)) ?_
              refine lf_val (v := .int .i64 ((j + 1 : Nat) : Int)) (wantAll rfl) (rv_add rfl (fr_eval rfl rfl) rfl (wrap_i64 (by omega) (by omega) (by omega))) ?_
              refine lf_val (v := .int .i64 ((j + 1 : Nat) : Int)) (wantAll rfl) (rv_assign rfl (fr_eval rfl rfl)) ?_
              refine lf_nil ?_
              refine then_n ?_
              rw [show puts [((i : Nat) : Int), ((n : Nat) : Int), (((pathT (List.map leafS (keyL s n)) i).length : Nat) : Int)] ++ sumsB (List.take j (pathT (List.map leafS (keyL s n)) i)) ++ (((List.getD (pathT (List.map leafS (keyL s n)) i) j zS)).1) = puts [((i : Nat) : Int), ((n : Nat) : Int), (((pathT (List.map leafS (keyL s n)) i).length : Nat) : Int)] ++ sumsB (List.take (j + 1) (pathT (List.map leafS (keyL s n)) i)) from (by rw [List.append_assoc, sumsB_next (by omega)])] at hH
              exact ⟨_, _, (by omega), rfl, j + 1, _, rfl, (by omega), e0, e1, e2, e3, e7, e8, e9, e10, e11, e12, e13, e14, e15, e17, rfl, e24, e37, e50, e66, hH⟩
            · refine wp_cond_false (fr_eval rfl (e94.trans (congrArg Value.bool (decide_eq_false hc6)))) ?_
              refine wp_exit ?_
              refine then_exit ?_
              refine then_exit ?_
              refine blk_exit ?_
              refine then_n ?_
              refine wp_seq ?_
              rw [show puts [((i : Nat) : Int), ((n : Nat) : Int), (((pathT (List.map leafS (keyL s n)) i).length : Nat) : Int)] ++ sumsB (List.take j (pathT (List.map leafS (keyL s n)) i)) = puts [((i : Nat) : Int), ((n : Nat) : Int), (((pathT (List.map leafS (keyL s n)) i).length : Nat) : Int)] ++ sumsB (pathT (List.map leafS (keyL s n)) i) from (by rw [List.take_of_length_le (by omega)])] at hH
              refine wp_regionF ?_
              refine lf_val (v := .slice (some ⟨g1, 0, none⟩) 32 32) (wantAll rfl) (rv_sliceArr rfl (fr_eval rfl e3) Try.underlying23 Try.sz5 (by decide)) ?_
              refine lf_val (v := .int .i64 ((i : Nat) : Int)) (wantAll rfl) (rv_move rfl (fr_eval rfl e11)) ?_
              refine lf_val (v := cB (UInt8.ofNat i)) (wantAll rfl) (rv_conv rfl (fr_eval rfl rfl) Try.underlying3 Try.underlying5 (wrap_u8 (byte_nat _))) ?_
              refine lf_ex (wantAll rfl) (hx_lits hH Try.stB (n := 1) (nm := List.length [UInt8.ofNat i]) [(.tmp 104)] (vs := [(cB (UInt8.ofNat i))]) (cs := cBs [UInt8.ofNat i]) rfl (evc (fr_eval rfl rfl) evn) (cBs_one [UInt8.ofNat i]) rfl (by decide) rfl rfl) ?_
              clear hH
              rintro y8 w19 ⟨hH, hx⟩
              replace hH : Heap _ _ _ [_, _, _, _, _, _, _, _, _] := hH
              clear hx
              refine lf_ex (wantAll rfl) (hx_lits hH Try.stBB (n := 2) (nm := 2) [(.tmp 102), (.tmp 105)] (vs := [.slice (some ⟨g1, 0, none⟩) 32 32, y8]) rfl (evc (fr_eval rfl rfl) (evc (fr_eval rfl rfl) evn)) (ones_cons (Rd.oneV (rdB_blkn (hH.blk (i := 0) rfl) s.2 (by decide))) (ones_cons (Rd.oneV (OwnB.rd (hH.own (i := 8) rfl))) ones_nil)) rfl (by decide) rfl rfl) ?_
              clear hH
              rintro y9 w20 ⟨hH, hx⟩
              replace hH : Heap _ _ _ [_, _, _, _, _, _, _, _, _, _] := hH
              clear hx
              refine lf_call (wantAll rfl) (rv_call (args := [cB 21, y9]) rfl (evc rfl (evc (fr_eval rfl rfl) evn)) Try.call45) (join_calls 21 [s.1, [UInt8.ofNat i]] flat1b _ _ (rdP_own (hH.own (i := 9) rfl) (.cons (rdB_blkn (hH.blk (i := 0) rfl) s.2 (by decide)) (.cons (OwnB.rd (hH.own (i := 8) rfl)) .nil)) rfl)) ?_
              rintro _ w21 ⟨rfl, hx⟩
              refine ⟨_, rfl, ?_⟩
              replace hH := hH.ext hx
              clear hx
              refine lf_val (wantAll rfl) (rv_move rfl (fr_eval rfl e12)) ?_
              have hone2 : (sigs (join 21 [s.1, [UInt8.ofNat i]]) (join 14 [(List.take 200 (List.getD ts i zPt).2)]) 64).length = 4096 := hone
              refine lf_call (wantAll rfl) (rv_call (args := [.agg (cBs (join 21 [s.1, [UInt8.ofNat i]])).toArray, cutV ((List.getD ts i zPt).1.1) ((List.getD ts i zPt).2) 200]) rfl (evc (fr_eval rfl rfl) (evc (fr_eval rfl rfl) evn)) Try.call44) (sign_calls (join 21 [s.1, [UInt8.ofNat i]]) (join_length _ _) (List.take 200 ((List.getD ts i zPt).2)) (Nat.le_trans (List.length_take_le 200 ((List.getD ts i zPt).2)) (by decide)) _ _ ((stab_cut (n := 200) (hpt _ (getD_mem' (by omega : i < ts.length)))).rd _ hH.chg)) ?_
              rintro _ w22 ⟨⟨y10, rfl, ho, hg⟩, hx⟩
              refine ⟨_, rfl, ?_⟩
              replace hH : Heap _ _ _ [_, _, _, _, _, _, _, _, _, _, _] := hH.addOwn hx hg ho
              clear ho hg
              clear hx
              refine lf_call (wantAll rfl) (rv_call (args := [.pointer (some ⟨g4, 0, none⟩), y10]) rfl (evc (fr_eval rfl e17) (evc (fr_eval rfl rfl) evn)) Try.call43) (penText_calls (by omega) _ (OwnB.rd (hH.own (i := 10) rfl)) (fun k hk h0 e => apart_at hH.apart (i := 10) (j := 7) rfl rfl (by decide) k hk (Or.inl e)) (fun k hk h0 h => apart_at hH.apart (i := 10) (j := 7) rfl rfl (by decide) k hk (Or.inr h)) (hH.pen (i := 7) rfl) (by have q1 := puts_len [(i : Int), (n : Int), ((pathT (List.map leafS (keyL s n)) i).length : Int)]; have q2 := sumsB_len (pathT (List.map leafS (keyL s n)) i); have q3 := put_len (((sigs (join 21 [s.1, [UInt8.ofNat i]]) (join 14 [(List.take 200 (List.getD ts i zPt).2)]) 64).length : Nat) : Int); have q4 : (sigs (join 21 [s.1, [UInt8.ofNat i]]) (join 14 [(List.take 200 (List.getD ts i zPt).2)]) 64).length = 4096 := hone; simp only [List.length_append, List.length_cons, List.length_nil] at *; omega)) ?_
              rintro _ w23 ⟨rfl, hp⟩
              refine ⟨_, rfl, ?_⟩
              obtain ⟨y11, hH', hx, hxf, hgr⟩ := hH.penPost (i := 7) (l2 := puts [((i : Nat) : Int), ((n : Nat) : Int), (((pathT (List.map leafS (keyL s n)) i).length : Nat) : Int)] ++ sumsB (pathT (List.map leafS (keyL s n)) i) ++ put (((sigs (join 21 [s.1, [UInt8.ofNat i]]) (join 14 [(List.take 200 ((List.getD ts i zPt).2))]) 64).length : Nat) : Int) ++ (sigs (join 21 [s.1, [UInt8.ofNat i]]) (join 14 [(List.take 200 ((List.getD ts i zPt).2))]) 64)) rfl (fun _ => rfl) hp
              clear hH hp
              have hH : Heap _ _ _ [_, _, _, _, _, _, _, _, _, _, _] := hH'
              clear hH'
              clear hxf hgr hx
              refine lf_nil ?_
              refine then_n ?_
              refine wp_seq ?_
              replace hH : Heap _ _ _ [_, _, _, _, _, _, _, _] := hH.drop (.cons_cons _ (.cons_cons _ (.cons_cons _ (.cons_cons _ (.cons_cons _ (.cons_cons _ (.cons_cons _ (.cons_cons _ (.cons _ (.cons _ (.cons _ .slnil)))))))))))
              refine wp_gen (fun F' => F' 0 = .agg (cBs s.1).toArray ∧ F' 1 = .int .i64 ((n : Nat) : Int) ∧ F' 2 = vt ∧ F' 3 = .pointer (some ⟨g1, 0, none⟩) ∧ F' 7 = .pointer (some ⟨g2, 0, none⟩) ∧ F' 8 = .int .i64 0 ∧ F' 9 = y2 ∧ F' 10 = .pointer (some ⟨g3, 0, none⟩) ∧ F' 11 = .int .i64 ((i : Nat) : Int) ∧ F' 12 = cutV ((List.getD ts i zPt).1.1) ((List.getD ts i zPt).2) 200 ∧ F' 13 = y3 ∧ F' 14 = .int .i64 0 ∧ F' 15 = y4 ∧ F' 17 = .pointer (some ⟨g4, 0, none⟩) ∧ F' 18 = .int .i64 ((j : Nat) : Int) ∧ F' 24 = .bool false ∧ F' 37 = .bool false ∧ F' 50 = .bool true ∧ F' 66 = .bool false ∧ F' 94 = .bool false) ⟨e0, e1, e2, e3, e7, e8, e9, e10, e11, e12, e13, e14, e15, e17, e18, e24, e37, e50, e66, (e94.trans (congrArg Value.bool (decide_eq_false hc6)))⟩ ?_
              clear e0 e1 e2 e3 e7 e8 e9 e10 e11 e12 e13 e14 e15 e17 e18 e24 e37 e50 e66 e94
              clear F
              rintro F ⟨e0, e1, e2, e3, e7, e8, e9, e10, e11, e12, e13, e14, e15, e17, e18, e24, e37, e50, e66, e94⟩
              refine wp_regionX (fun _ => False) 38 (by kernel_rfl) (by kernel_rfl) ?_
              refine xl_take (i := 0) (v := .int .i64 0) rfl (by kernel_rfl) (by kernel_rfl) (by kernel_rfl) (by kernel_rfl) (yx_val (wantAll rfl) (fun w' hx' => rv_move rfl (fr_eval rfl e14))) ?_
              refine xl_take (i := 1) (v := .bool false) rfl (by kernel_rfl) (by kernel_rfl) (by kernel_rfl) (by kernel_rfl) (yx_val (wantAll rfl) (fun w' hx' => rv_neq rfl (fr_eval rfl rfl) rfl (show decide ((0 : Int) = 0) = true from by decide))) ?_
              refine xl_take (i := 2) (v := .bool false) rfl (by kernel_rfl) (by kernel_rfl) (by kernel_rfl) (by kernel_rfl) (yx_val (wantAll rfl) (fun w' hx' => rv_move rfl (fr_eval rfl rfl))) ?_
              refine xl_take (i := 3) (v := y3) rfl (by kernel_rfl) (by kernel_rfl) (by kernel_rfl) (by kernel_rfl) (yx_val (wantF (d := 113) rfl (by kernel_rfl) rfl rfl) (fun w' hx' => rv_move rfl (fr_eval rfl e13))) ?_
              refine xl_take (i := 4) (v := .string ⟨(sigM i (keyL s n).length (pathT (List.map leafS (keyL s n)) i) (sigs (seedS s i).1 (join 14 [(List.take 200 ((List.getD ts i zPt).2))]) 64)).toArray⟩) rfl (by kernel_rfl) (by kernel_rfl) (by kernel_rfl) (by kernel_rfl) (yx_val (wantF (d := 113) rfl (by kernel_rfl) rfl rfl) (fun w' hx' => rv_str rfl (fr_eval rfl rfl) (OwnB.rd ((hH.ext hx').own (i := 5) rfl)) Try.underlying58 Try.underlying5 Try.underlying9)) ?_
              refine anyX_ready (rs := [5]) (by kernel_rfl) ?_
              intro w24 hx
              replace hH := hH.ext hx
              clear hx
              refine (anyX_cons ?_ anyX_nil)
              refine xl_step (i := 5) rfl (wantF (d := 113) rfl (by kernel_rfl) rfl rfl) ?_
              refine of_call (rv_call (args := [.pointer (some ⟨g4, 0, none⟩)]) rfl (evc (fr_eval rfl e17) evn) Try.call46) (penBytes_calls _ (hH.pen (i := 7) rfl) (by have q1 := puts_len [(i : Int), (n : Int), ((pathT (List.map leafS (keyL s n)) i).length : Int)]; have q2 := sumsB_len (pathT (List.map leafS (keyL s n)) i); have q3 := put_len (((sigs (join 21 [s.1, [UInt8.ofNat i]]) (join 14 [(List.take 200 (List.getD ts i zPt).2)]) 64).length : Nat) : Int); have q4 : (sigs (join 21 [s.1, [UInt8.ofNat i]]) (join 14 [(List.take 200 (List.getD ts i zPt).2)]) 64).length = 4096 := hone; simp only [List.length_append, List.length_cons, List.length_nil] at *; omega)) ?_
              rintro _ w25 ⟨⟨y12, rfl, ho, hg⟩, hx⟩
              refine ⟨_, rfl, ?_⟩
              replace hH : Heap _ _ _ [_, _, _, _, _, _, _, _, _] := hH.addOwn hx hg ho
              clear ho hg
              refine ⟨hx, ?_⟩
              clear hx
              refine xl_take (i := 6) (v := .string ⟨(puts [((i : Nat) : Int), ((n : Nat) : Int), (((pathT (List.map leafS (keyL s n)) i).length : Nat) : Int)] ++ sumsB (pathT (List.map leafS (keyL s n)) i) ++ put (((sigs (join 21 [s.1, [UInt8.ofNat i]]) (join 14 [(List.take 200 ((List.getD ts i zPt).2))]) 64).length : Nat) : Int) ++ (sigs (join 21 [s.1, [UInt8.ofNat i]]) (join 14 [(List.take 200 ((List.getD ts i zPt).2))]) 64)).toArray⟩) rfl (by kernel_rfl) (by kernel_rfl) (by kernel_rfl) (by kernel_rfl) (yx_val (wantF (d := 113) rfl (by kernel_rfl) rfl rfl) (fun w' hx' => rv_str rfl (fr_eval rfl rfl) (OwnB.rd ((hH.ext hx').own (i := 8) rfl)) Try.underlying58 Try.underlying5 Try.underlying9)) ?_
              refine xl_take (i := 7) (v := .bool false) rfl (by kernel_rfl) (by kernel_rfl) (by kernel_rfl) (by kernel_rfl) (yx_val (wantF (d := 113) rfl (by kernel_rfl) rfl rfl) (fun w' hx' => rv_nes (b := true) rfl (fr_eval rfl rfl) (fr_eval rfl rfl) (by exact decide_eq_true (by unfold sigM; rw [hkl]; rfl)))) ?_
              refine xl_take (i := 8) (v := .bool false) rfl (by kernel_rfl) (by kernel_rfl) (by kernel_rfl) (by kernel_rfl) (yx_val (wantAll rfl) (fun w' hx' => rv_pickF rfl (fr_eval rfl rfl) (fr_eval rfl rfl))) ?_
              refine xl_take (i := 9) (v := .bool false) rfl (by kernel_rfl) (by kernel_rfl) (by kernel_rfl) (by kernel_rfl) (yx_val (wantAll rfl) (fun w' hx' => rv_move rfl (fr_eval rfl rfl))) ?_
              refine xl_take (i := 10) (v := y3) rfl (by kernel_rfl) (by kernel_rfl) (by kernel_rfl) (by kernel_rfl) (yx_val (wantF (d := 120) rfl (by kernel_rfl) rfl rfl) (fun w' hx' => rv_move rfl (fr_eval rfl e13))) ?_
              refine xl_take (i := 11) (v := .int .i64 ((i : Nat) : Int)) rfl (by kernel_rfl) (by kernel_rfl) (by kernel_rfl) (by kernel_rfl) (yx_call (wantF (d := 120) rfl (by kernel_rfl) rfl rfl) (fun w' => rv_call (args := [y3]) rfl (evc (fr_eval rfl rfl) evn) Try.call47) (fun w' hx' => leafM_calls i (keyL s n).length (pathT (List.map leafS (keyL s n)) i) (sigs (seedS s i).1 (join 14 [(List.take 200 ((List.getD ts i zPt).2))]) 64) (by omega) (by omega) (by omega) (by omega) _ _ (OwnB.rd ((hH.ext hx').own (i := 5) rfl)))) ?_
              refine xl_take (i := 12) (v := .int .i64 ((i : Nat) : Int)) rfl (by kernel_rfl) (by kernel_rfl) (by kernel_rfl) (by kernel_rfl) (yx_val (wantF (d := 120) rfl (by kernel_rfl) rfl rfl) (fun w' hx' => rv_move rfl (fr_eval rfl e11))) ?_
              refine xl_take (i := 13) (v := .bool false) rfl (by kernel_rfl) (by kernel_rfl) (by kernel_rfl) (by kernel_rfl) (yx_val (wantF (d := 120) rfl (by kernel_rfl) rfl rfl) (fun w' hx' => rv_known (rv_neqP (p := False) rfl (fr_eval rfl rfl) (fr_eval rfl rfl) (by simp)) (decide_eq_false id))) ?_
              refine xl_take (i := 14) (v := .bool false) rfl (by kernel_rfl) (by kernel_rfl) (by kernel_rfl) (by kernel_rfl) (yx_val (wantAll rfl) (fun w' hx' => rv_pickF rfl (fr_eval rfl rfl) (fr_eval rfl rfl))) ?_
              refine xl_take (i := 15) (v := .bool false) rfl (by kernel_rfl) (by kernel_rfl) (by kernel_rfl) (by kernel_rfl) (yx_val (wantAll rfl) (fun w' hx' => rv_move rfl (fr_eval rfl rfl))) ?_
              refine xl_take (i := 16) (v := .agg (cBs ((rootS (keyL s n)).1)).toArray) rfl (by kernel_rfl) (by kernel_rfl) (by kernel_rfl) (by kernel_rfl) (yx_val (wantF (d := 126) rfl (by kernel_rfl) rfl rfl) (fun w' hx' => rv_loadW rfl ((hH.ext hx').blk (i := 2) rfl) (fr_eval rfl e10) Try.underlying23 rfl (sz_len Try.sz23 (cBs_len (rootS (keyL s n)).2)))) ?_
              refine xl_take (i := 17) (v := cutV ((List.getD ts i zPt).1.1) ((List.getD ts i zPt).2) 200) rfl (by kernel_rfl) (by kernel_rfl) (by kernel_rfl) (by kernel_rfl) (yx_val (wantF (d := 126) rfl (by kernel_rfl) rfl rfl) (fun w' hx' => rv_move rfl (fr_eval rfl e12))) ?_
              refine xl_take (i := 18) (v := y3) rfl (by kernel_rfl) (by kernel_rfl) (by kernel_rfl) (by kernel_rfl) (yx_val (wantF (d := 126) rfl (by kernel_rfl) rfl rfl) (fun w' hx' => rv_move rfl (fr_eval rfl e13))) ?_
              refine xl_take (i := 19) (v := .bool true) rfl (by kernel_rfl) (by kernel_rfl) (by kernel_rfl) (by kernel_rfl) (yx_call (wantF (d := 126) rfl (by kernel_rfl) rfl rfl) (fun w' => rv_call (args := [.agg (cBs ((rootS (keyL s n)).1)).toArray, cutV ((List.getD ts i zPt).1.1) ((List.getD ts i zPt).2) 200, y3]) rfl (evc (fr_eval rfl rfl) (evc (fr_eval rfl rfl) (evc (fr_eval rfl rfl) evn))) Try.call48) (fun w' hx' => calls_known (b' := true) (verify5_calls i (keyL s n).length (pathT (List.map leafS (keyL s n)) i) (sigs (seedS s i).1 (join 14 [(List.take 200 ((List.getD ts i zPt).2))]) 64) (by omega) (by omega) (by omega) (by omega) (rootS (keyL s n)) (List.take 200 ((List.getD ts i zPt).2)) (Nat.le_trans (List.length_take_le 200 ((List.getD ts i zPt).2)) (by decide)) _ _ _ ((stab_cut (n := 200) (hpt _ (getD_mem' (by omega : i < ts.length)))).rd _ (hH.chg.trans (Ext.any hx'))) (OwnB.rd ((hH.ext hx').own (i := 5) rfl))) (by rw [hkl]; exact verM_ok (by omega) (by omega)))) ?_
              refine xl_take (i := 20) (v := .bool false) rfl (by kernel_rfl) (by kernel_rfl) (by kernel_rfl) (by kernel_rfl) (yx_val (wantF (d := 126) rfl (by kernel_rfl) rfl rfl) (fun w' hx' => rv_not (b := true) rfl (fr_eval rfl rfl))) ?_
              refine xl_take (i := 21) (v := .bool false) rfl (by kernel_rfl) (by kernel_rfl) (by kernel_rfl) (by kernel_rfl) (yx_val (wantAll rfl) (fun w' hx' => rv_pickF rfl (fr_eval rfl rfl) (fr_eval rfl rfl))) ?_
              refine xl_take (i := 22) (v := .bool false) rfl (by kernel_rfl) (by kernel_rfl) (by kernel_rfl) (by kernel_rfl) (yx_val (wantAll rfl) (fun w' hx' => rv_move rfl (fr_eval rfl rfl))) ?_
              refine xl_take (i := 23) (v := .pointer (some ⟨g2, 0, none⟩)) rfl (by kernel_rfl) (by kernel_rfl) (by kernel_rfl) (by kernel_rfl) (yx_val (wantF (d := 133) rfl (by kernel_rfl) rfl rfl) (fun w' hx' => rv_move rfl (fr_eval rfl e7))) ?_
              refine xl_take (i := 24) (v := .int .i64 ((i + 1 : Nat) : Int)) rfl (by kernel_rfl) (by kernel_rfl) (by kernel_rfl) (by kernel_rfl) (yx_call (wantF (d := 133) rfl (by kernel_rfl) rfl rfl) (fun w' => rv_call (args := [.pointer (some ⟨g2, 0, none⟩)]) rfl (evc (fr_eval rfl rfl) evn) Try.call49) (fun w' hx' => kNext s (keyL s n) (by omega) (i + 1) (by omega) _ ((hH.ext hx').blk (i := 3) rfl) (Own.rd ((hH.ext hx').own (i := 4) rfl) (row_one cS_one)))) ?_
              refine xl_take (i := 25) (v := .int .i64 ((i : Nat) : Int)) rfl (by kernel_rfl) (by kernel_rfl) (by kernel_rfl) (by kernel_rfl) (yx_val (wantF (d := 133) rfl (by kernel_rfl) rfl rfl) (fun w' hx' => rv_move rfl (fr_eval rfl e11))) ?_
              refine xl_take (i := 26) (v := .int .i64 ((i + 1 : Nat) : Int)) rfl (by kernel_rfl) (by kernel_rfl) (by kernel_rfl) (by kernel_rfl) (yx_val (wantF (d := 133) rfl (by kernel_rfl) rfl rfl) (fun w' hx' => rv_add rfl (fr_eval rfl rfl) rfl (wrap_i64 (by omega) (by omega) (by omega)))) ?_
              refine xl_take (i := 27) (v := .bool false) rfl (by kernel_rfl) (by kernel_rfl) (by kernel_rfl) (by kernel_rfl) (yx_val (wantF (d := 133) rfl (by kernel_rfl) rfl rfl) (fun w' hx' => rv_known (rv_neqP (p := False) rfl (fr_eval rfl rfl) (fr_eval rfl rfl) (by simp)) (decide_eq_false id))) ?_
              refine xl_take (i := 28) (v := .bool false) rfl (by kernel_rfl) (by kernel_rfl) (by kernel_rfl) (by kernel_rfl) (yx_val (wantAll rfl) (fun w' hx' => rv_pickF rfl (fr_eval rfl rfl) (fr_eval rfl rfl))) ?_
              refine xl_take (i := 29) (v := .bool false) rfl (by kernel_rfl) (by kernel_rfl) (by kernel_rfl) (by kernel_rfl) (yx_val (wantAll rfl) (fun w' hx' => rv_move rfl (fr_eval rfl rfl))) ?_
              refine xl_take (i := 30) (v := .agg (cBs s.1).toArray) rfl (by kernel_rfl) (by kernel_rfl) (by kernel_rfl) (by kernel_rfl) (yx_val (wantF (d := 140) rfl (by kernel_rfl) rfl rfl) (fun w' hx' => rv_loadW rfl ((hH.ext hx').blk (i := 0) rfl) (fr_eval rfl e3) Try.underlying23 rfl (sz_len Try.sz23 (cBs_len s.2)))) ?_
              refine xl_take (i := 31) (v := .int .i64 ((i : Nat) : Int)) rfl (by kernel_rfl) (by kernel_rfl) (by kernel_rfl) (by kernel_rfl) (yx_val (wantF (d := 140) rfl (by kernel_rfl) rfl rfl) (fun w' hx' => rv_move rfl (fr_eval rfl e11))) ?_
              refine xl_take (i := 32) (v := .agg (cBs ((seedS s i).1)).toArray) rfl (by kernel_rfl) (by kernel_rfl) (by kernel_rfl) (by kernel_rfl) (yx_call (wantF (d := 140) rfl (by kernel_rfl) rfl rfl) (fun w' => rv_call (args := [.agg (cBs s.1).toArray, .int .i64 ((i : Nat) : Int)]) rfl (evc (fr_eval rfl rfl) (evc (fr_eval rfl rfl) evn)) Try.call50) (fun w' hx' => seed_calls s i (by omega) _)) ?_
              refine xl_take (i := 33) (v := .slice (some ⟨g1, 0, none⟩) 32 32) rfl (by kernel_rfl) (by kernel_rfl) (by kernel_rfl) (by kernel_rfl) (yx_val (wantF (d := 140) rfl (by kernel_rfl) rfl rfl) (fun w' hx' => rv_sliceArr rfl (fr_eval rfl e3) Try.underlying23 Try.sz5 (by decide))) ?_
              refine xl_take (i := 34) (v := .int .i64 ((i : Nat) : Int)) rfl (by kernel_rfl) (by kernel_rfl) (by kernel_rfl) (by kernel_rfl) (yx_val (wantF (d := 140) rfl (by kernel_rfl) rfl rfl) (fun w' hx' => rv_move rfl (fr_eval rfl e11))) ?_
              refine xl_take (i := 35) (v := cB (UInt8.ofNat i)) rfl (by kernel_rfl) (by kernel_rfl) (by kernel_rfl) (by kernel_rfl) (yx_val (wantF (d := 140) rfl (by kernel_rfl) rfl rfl) (fun w' hx' => rv_conv rfl (fr_eval rfl rfl) Try.underlying3 Try.underlying5 (wrap_u8 (byte_nat _)))) ?_
              refine anyX_ready (rs := [36]) (by kernel_rfl) ?_
              intro w26 hx
              replace hH := hH.ext hx
              clear hx
              refine (anyX_cons ?_ anyX_nil)
              refine xl_step (i := 36) rfl (wantF (d := 140) rfl (by kernel_rfl) rfl rfl) ?_
              refine of_ex (hx_lits hH Try.stB (n := 1) (nm := List.length [UInt8.ofNat i]) [(.tmp 146)] (vs := [(cB (UInt8.ofNat i))]) (cs := cBs [UInt8.ofNat i]) rfl (evc (fr_eval rfl rfl) evn) (cBs_one [UInt8.ofNat i]) rfl (by decide) rfl rfl) ?_
              clear hH
              rintro y13 w27 ⟨hH, hx⟩
              replace hH : Heap _ _ _ [_, _, _, _, _, _, _, _, _, _] := hH
              refine ⟨hx, ?_⟩
              clear hx
              refine anyX_ready (rs := [37]) (by kernel_rfl) ?_
              intro w28 hx
              replace hH := hH.ext hx
              clear hx
              refine (anyX_cons ?_ anyX_nil)
              refine xl_step (i := 37) rfl (wantF (d := 140) rfl (by kernel_rfl) rfl rfl) ?_
              refine of_ex (hx_lits hH Try.stBB (n := 2) (nm := 2) [(.tmp 144), (.tmp 147)] (vs := [.slice (some ⟨g1, 0, none⟩) 32 32, y13]) rfl (evc (fr_eval rfl rfl) (evc (fr_eval rfl rfl) evn)) (ones_cons (Rd.oneV (rdB_blkn (hH.blk (i := 0) rfl) s.2 (by decide))) (ones_cons (Rd.oneV (OwnB.rd (hH.own (i := 9) rfl))) ones_nil)) rfl (by decide) rfl rfl) ?_
              clear hH
              rintro y14 w29 ⟨hH, hx⟩
              replace hH : Heap _ _ _ [_, _, _, _, _, _, _, _, _, _, _] := hH
              refine ⟨hx, ?_⟩
              clear hx
              refine xl_tail (s := 38) rfl ?_
              intro w30 hx
              replace hH := hH.ext hx
              clear hx
              refine lf_call (wantF (d := 140) rfl (by kernel_rfl) rfl rfl) (rv_call (args := [cB 21, y14]) rfl (evc rfl (evc (fr_eval rfl rfl) evn)) Try.call45) (join_calls 21 [s.1, [UInt8.ofNat i]] flat1b _ _ (rdP_own (hH.own (i := 10) rfl) (.cons (rdB_blkn (hH.blk (i := 0) rfl) s.2 (by decide)) (.cons (OwnB.rd (hH.own (i := 9) rfl)) .nil)) rfl)) ?_
              rintro _ w31 ⟨rfl, hx⟩
              refine ⟨_, rfl, ?_⟩
              replace hH := hH.ext hx
              clear hx
              refine lf_val (v := .bool false) (wantF (d := 140) rfl (by kernel_rfl) rfl rfl) (neT rfl (fr_eval rfl rfl) (fr_eval rfl rfl) (seedS s i).2 (join_length _ _) (b := true) (beq_self_eq_true (seedS s i).1)) ?_
              refine lf_val (v := .bool false) (wantAll rfl) (rv_pickF rfl (fr_eval rfl rfl) (fr_eval rfl rfl)) ?_
              refine lf_nil ?_
              refine then_n ?_
              replace hH : Heap _ _ _ [_, _, _, _, _, _, _, _] := hH.drop (.cons_cons _ (.cons_cons _ (.cons_cons _ (.cons_cons _ (.cons_cons _ (.cons_cons _ (.cons_cons _ (.cons_cons _ (.cons _ (.cons _ (.cons _ .slnil)))))))))))
              refine wp_gen (fun F' => F' 0 = .agg (cBs s.1).toArray ∧ F' 1 = .int .i64 ((n : Nat) : Int) ∧ F' 2 = vt ∧ F' 3 = .pointer (some ⟨g1, 0, none⟩) ∧ F' 7 = .pointer (some ⟨g2, 0, none⟩) ∧ F' 8 = .int .i64 0 ∧ F' 9 = y2 ∧ F' 10 = .pointer (some ⟨g3, 0, none⟩) ∧ F' 11 = .int .i64 ((i : Nat) : Int) ∧ F' 12 = cutV ((List.getD ts i zPt).1.1) ((List.getD ts i zPt).2) 200 ∧ F' 13 = y3 ∧ F' 14 = .int .i64 0 ∧ F' 15 = y4 ∧ F' 17 = .pointer (some ⟨g4, 0, none⟩) ∧ F' 18 = .int .i64 ((j : Nat) : Int) ∧ F' 24 = .bool false ∧ F' 37 = .bool false ∧ F' 50 = .bool true ∧ F' 66 = .bool false ∧ F' 94 = .bool false ∧ F' 151 = .bool false) ⟨e0, e1, e2, e3, e7, e8, e9, e10, e11, e12, e13, e14, e15, e17, e18, e24, e37, e50, e66, e94, rfl⟩ ?_
              clear e0 e1 e2 e3 e7 e8 e9 e10 e11 e12 e13 e14 e15 e17 e18 e24 e37 e50 e66 e94
              clear F
              rintro F ⟨e0, e1, e2, e3, e7, e8, e9, e10, e11, e12, e13, e14, e15, e17, e18, e24, e37, e50, e66, e94, e151⟩
              refine wp_cond_false (fr_eval rfl e151) ?_
              refine wp_skip ?_
              refine blk_n ?_
              refine then_n ?_
              refine wp_regionF ?_
              refine lf_val (v := .int .i64 ((i : Nat) : Int)) (wantAll rfl) (rv_move rfl (fr_eval rfl e11)) ?_
              refine lf_val (v := .int .i64 ((i + 1 : Nat) : Int)) (wantAll rfl) (rv_add rfl (fr_eval rfl rfl) rfl (wrap_i64 (by omega) (by omega) (by omega))) ?_
              refine lf_val (v := .int .i64 ((i + 1 : Nat) : Int)) (wantAll rfl) (rv_assign rfl (fr_eval rfl rfl)) ?_
              refine lf_nil ?_
              refine then_n ?_
              replace hH : Heap _ _ _ [_, _, _, _, _] := hH.drop (.cons_cons _ (.cons_cons _ (.cons_cons _ (.cons_cons _ (.cons_cons _ (.cons _ (.cons _ (.cons _ .slnil))))))))
              replace hH : Heap _ _ _ [_, _, _, _, _] := hH.perm (.cons _ (.trans (.swap _ _ _) (.cons _ (.trans (.swap _ _ _) (.cons _ (.refl _))))))
              replace hH : Heap _ _ _ [_, _, _, _, _] := hH.perm (.cons _ (.cons _ (.trans (.swap _ _ _) (.cons _ (.trans (.swap _ _ _) (.cons _ (.refl _)))))))
              exact ⟨_, _, (by omega), rfl, i + 1, (i + 1), rfl, (by omega), (by omega), (by omega), (by omega), e0, e1, e2, e3, e7, e8, e9, e10, rfl, e24, e37, hH⟩
        · refine wp_cond_false (fr_eval rfl (e50.trans (congrArg Value.bool (decide_eq_false hc4)))) ?_
          refine wp_exit ?_
          refine then_exit ?_
          refine then_exit ?_
          refine blk_exit ?_
          refine then_n ?_
          refine wp_seq ?_
          refine wp_regionF ?_
          refine lf_call (wantAll rfl) (rv_call (args := []) rfl evn Try.call35) (awake05_calls _) ?_
          rintro _ w32 ⟨rfl, hx⟩
          refine ⟨_, rfl, ?_⟩
          replace hH := hH.ext hx
          clear hx
          refine lf_val (v := .bool true) (wantAll rfl) (rv_assign rfl (fr_eval rfl rfl)) ?_
          refine lf_nil ?_
          refine then_n ?_
          refine wp_gen (fun F' => F' 0 = .agg (cBs s.1).toArray ∧ F' 1 = .int .i64 ((n : Nat) : Int) ∧ F' 2 = vt ∧ F' 3 = .pointer (some ⟨g1, 0, none⟩) ∧ F' 6 = .bool true ∧ F' 7 = .pointer (some ⟨g2, 0, none⟩) ∧ F' 8 = .int .i64 0 ∧ F' 9 = y2 ∧ F' 10 = .pointer (some ⟨g3, 0, none⟩) ∧ F' 11 = .int .i64 ((i : Nat) : Int) ∧ F' 24 = .bool false ∧ F' 37 = .bool false ∧ F' 50 = .bool false) ⟨e0, e1, e2, e3, rfl, e7, e8, e9, e10, e11, e24, e37, (e50.trans (congrArg Value.bool (decide_eq_false hc4)))⟩ ?_
          clear e0 e1 e2 e3 e7 e8 e9 e10 e11 e24 e37 e50
          clear F
          rintro F ⟨e0, e1, e2, e3, e6, e7, e8, e9, e10, e11, e24, e37, e50⟩
          refine wp_ret ?_
          exact bodyPost_ret (v := (.bool true)) (res1 rfl (ro_tmp rfl e6)) rfl (⟨rfl, hH.done⟩)

end Go.Proofs.Ytokddhidcjkadaa
