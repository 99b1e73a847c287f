/- Chapter 11's laws: the walks of VeilCloses, VeilOpens, VeilLong. -/
import Derived.Test.YticaefnpapppoaaVeils
namespace Go.Bz.Veil
theorem closeE_0 {t : List UInt8} (h : t.length ≤ 65536) : closeE t = 0 := by unfold closeE; rw [if_neg (by omega)]
theorem closeV_len {key t : List UInt8} (h : t.length ≤ 65536) : (closeV key t).length = t.length + 16 := by
  unfold closeV; rw [if_neg (by omega), List.length_append, vmark_len, cov_len]; omega
theorem openV_no {key b : List UInt8} (h : ¬ openE key b = 0) : (openV key b).length = 0 := by unfold openV; rw [if_neg h]; rfl
theorem long_c0 {key t : List UInt8} (h : 65536 < t.length) : (closeV key t).length = 0 ∧ closeE t = 3 := by
  unfold closeV closeE; rw [if_pos h, if_pos h]; exact ⟨rfl, rfl⟩
theorem long_c1 {key t : List UInt8} (h : ¬ 65536 < t.length) : (closeV key t).length = t.length + 16 ∧ closeE t = 0 := ⟨closeV_len (by omega), closeE_0 (by omega)⟩
theorem long_o0 {key b : List UInt8} (h : 65552 < b.length) : (openV key b).length = 0 ∧ openE key b = 3 := by
  have e : openE key b = 3 := by unfold openE; rw [if_neg (by omega), if_pos h]
  exact ⟨openV_no (by rw [e]; decide), e⟩
theorem long_o1 {key b : List UInt8} (h : ¬ 65552 < b.length) (h2 : ¬ b.length < 16) : ¬ openE key b = 3 ∧ ¬ openE key b = 2 := by
  unfold openE; rw [if_neg h2, if_neg h]
  split <;> exact ⟨by decide, by decide⟩
end Go.Bz.Veil
namespace Go.Proofs.Yticaefnpapppoaa
open Go.RowKit Go.Bz Go.Bz.Sha Go.Bz.Veil
attribute [local irreducible] wpList Code.wp wpAnyX

set_option maxRecDepth 100000 in
set_option maxHeartbeats 1000000 in
theorem cut11_calls (b : List UInt8) (v : Value) (w : World) (hr0 : RdB w v b) :
    Calls Try.prog 32 #[v] w fun e w' => e = .returned (cutV v b 200) ∧ Ext w w' := by
  refine calls_fr (args := [v]) (n := 9) Try.func32 rfl rfl (show 1 ≤ 9 by decide) ?_
  have hC : Ext w w := Chg.refl _ _
  have hr := hr0
  refine wp_seq ?_
  refine wp_gen (fun F' => F' 0 = v) rfl ?_
  rintro F e0
  refine wp_regionF ?_
  refine lf_val (v := .slice none 0 0) (wantAll rfl) (rv_assign rfl rfl) ?_
  refine lf_nil ?_
  refine then_n ?_
  refine wp_seq ?_
  refine wp_seq ?_
  refine wp_gen (fun F' => F' 0 = v ∧ F' 2 = .slice none 0 0) ⟨e0, rfl⟩ ?_
  clear e0
  clear F
  rintro F ⟨e0, e2⟩
  refine wp_regionF ?_
  refine lf_val (v := v) (wantAll rfl) (rv_move rfl (fr_eval rfl e0)) ?_
  refine lf_val (v := .int .i64 ((b.length : Nat) : Int)) (wantAll rfl) (rv_len rfl (fr_eval rfl rfl) (RdB.rn hr rfl) Try.underlying22) ?_
  by_cases hc1 : b.length > 200
  · refine lf_val (v := .bool true) (wantAll rfl) (rv_gtr rfl (fr_eval rfl rfl) rfl (decide_eq_true (by omega))) ?_
    refine lf_nil ?_
    refine then_n ?_
    refine wp_gen (fun F' => F' 0 = v ∧ F' 2 = .slice none 0 0 ∧ F' 5 = .bool true) ⟨e0, e2, rfl⟩ ?_
    clear e0 e2
    clear F
    rintro F ⟨e0, e2, e5⟩
    refine wp_cond_true (fr_eval rfl e5) ?_
    refine wp_seq ?_
    refine wp_regionF ?_
    refine lf_val (v := v) (wantAll rfl) (rv_move rfl (fr_eval rfl e0)) ?_
    refine lf_val (v := slcV v 1 0 200) (wantAll rfl) (rv_slcH (h := 200) Try.stB rfl (fr_eval rfl rfl) (RdB.rn hr rfl) (show _ = Value.int _ ((200 : Nat) : Int) from rfl) (by omega)) ?_
    refine lf_val (v := slcV v 1 0 200) (wantAll rfl) (rv_assign rfl (fr_eval rfl rfl)) ?_
    refine lf_nil ?_
    refine then_n ?_
    refine wp_gen (fun F' => F' 0 = v ∧ F' 2 = slcV v 1 0 200 ∧ F' 5 = .bool true) ⟨e0, rfl, e5⟩ ?_
    clear e0 e2 e5
    clear F
    rintro F ⟨e0, e2, e5⟩
    refine wp_ret ?_
    refine then_ret ?_
    exact bodyPost_ret (v := (slcV v 1 0 200)) (res1 rfl (ro_tmp rfl e2)) rfl (⟨(by unfold cutV; first | rw [if_pos (by omega)] | rw [if_neg (by omega)]), hC⟩)
  · refine lf_val (v := .bool false) (wantAll rfl) (rv_gtr rfl (fr_eval rfl rfl) rfl (decide_eq_false (by omega))) ?_
    refine lf_nil ?_
    refine then_n ?_
    refine wp_gen (fun F' => F' 0 = v ∧ F' 2 = .slice none 0 0 ∧ F' 5 = .bool false) ⟨e0, e2, rfl⟩ ?_
    clear e0 e2
    clear F
    rintro F ⟨e0, e2, e5⟩
    refine wp_cond_false (fr_eval rfl e5) ?_
    refine wp_skip ?_
    refine then_n ?_
    refine wp_seq ?_
    refine wp_regionF ?_
    refine lf_val (v := v) (wantAll rfl) (rv_move rfl (fr_eval rfl e0)) ?_
    refine lf_val (v := v) (wantAll rfl) (rv_assign rfl (fr_eval rfl rfl)) ?_
    refine lf_nil ?_
    refine then_n ?_
    refine wp_gen (fun F' => F' 0 = v ∧ F' 2 = v ∧ F' 5 = .bool false) ⟨e0, rfl, e5⟩ ?_
    clear e0 e2 e5
    clear F
    rintro F ⟨e0, e2, e5⟩
    refine wp_ret ?_
    exact bodyPost_ret (v := v) (res1 rfl (ro_tmp rfl e2)) rfl (⟨(by unfold cutV; first | rw [if_pos (by omega)] | rw [if_neg (by omega)]), hC⟩)

set_option maxRecDepth 100000 in
set_option maxHeartbeats 1000000 in
theorem cover11_calls (key : List UInt8) (hk : key.length = 32) (b : List UInt8) (hb : b.length ≤ 200) (v : Value) (w : World) (hr0 : RdB w v b) :
    Calls Try.prog 33 #[.agg (cBs key).toArray, v] w fun e'' w' => (∃ v', e'' = .returned v' ∧ OwnB w' v' (cov key b) ∧ ∀ k, v'.ownBlock = some k → w.heap.size ≤ k) ∧ Ext w w' := by
  refine calls_fr (args := [.agg (cBs key).toArray, v]) (n := 34) Try.func33 rfl rfl (show 2 ≤ 34 by decide) ?_
  have hr := Rd.stab hr0
  have hH : Heap (newN w) w w [] := Heap.fresh
  refine wp_seq ?_
  refine wp_gen (fun F' => F' 0 = .agg (cBs key).toArray ∧ F' 1 = v) ⟨rfl, rfl⟩ ?_
  rintro F ⟨e0, e1⟩
  refine wp_regionF ?_
  refine lf_ex (wantAll rfl) (hx_box hH 26 (cs := cBs key) rfl (fr_eval rfl e0) (by rfl)) ?_
  clear hH
  rintro _ w1 ⟨g1, rfl, hH, hx⟩
  replace hH : Heap (newN w) w w1 [oBlk g1 (cBs key) 26] := hH
  clear hx
  refine lf_val (v := .slice none 0 0) (wantAll rfl) (rv_assign rfl rfl) ?_
  refine lf_nil ?_
  refine then_n ?_
  refine wp_seq ?_
  refine wp_gen (fun F' => F' 0 = .agg (cBs key).toArray ∧ F' 1 = v ∧ F' 2 = .pointer (some ⟨g1, 0, none⟩) ∧ F' 4 = .slice none 0 0) ⟨e0, e1, rfl, rfl⟩ ?_
  clear e0 e1
  clear F
  rintro F ⟨e0, e1, e2, e4⟩
  refine wp_regionF ?_
  refine lf_val (v := .slice none 0 0) (wantAll rfl) (rv_assign rfl rfl) ?_
  refine lf_nil ?_
  refine then_n ?_
  refine wp_seq ?_
  refine wp_seq ?_
  refine wp_gen (fun F' => F' 0 = .agg (cBs key).toArray ∧ F' 1 = v ∧ F' 2 = .pointer (some ⟨g1, 0, none⟩) ∧ F' 4 = .slice none 0 0 ∧ F' 5 = .slice none 0 0) ⟨e0, e1, e2, e4, rfl⟩ ?_
  clear e0 e1 e2 e4
  clear F
  rintro F ⟨e0, e1, e2, e4, e5⟩
  refine wp_regionF ?_
  refine lf_val (v := .int .i64 0) (wantAll rfl) (rv_assign rfl rfl) ?_
  refine lf_nil ?_
  refine then_n ?_
  refine wp_block ?_
  replace hH : Heap (newN w) w w1 [oBlk g1 (cBs key) 26, oB (.slice none 0 0) []] := hH.addNil 5 1
  replace hH : Heap (newN w) w w1 [oBlk g1 (cBs key) 26, oB (.slice none 0 0) ((cov key b).take 0)] := by have e : [] = (cov key b).take 0 := rfl; rw [← e]; exact hH
  refine wp_gen (fun F' => F' 0 = .agg (cBs key).toArray ∧ F' 1 = v ∧ F' 2 = .pointer (some ⟨g1, 0, none⟩) ∧ F' 4 = .slice none 0 0 ∧ F' 5 = (.slice none 0 0) ∧ F' 6 = .int .i64 0) ⟨e0, e1, e2, e4, e5, rfl⟩ ?_
  clear e0 e1 e2 e4 e5
  clear F
  rintro F ⟨e0, e1, e2, e4, e5, e6⟩
  refine wp_loopF (fun m F wr => ∃ i : Nat, ∃ yo : Value, m = b.length - i ∧ i ≤ b.length ∧ F 0 = .agg (cBs key).toArray ∧ F 1 = v ∧ F 2 = .pointer (some ⟨g1, 0, none⟩) ∧ F 4 = .slice none 0 0 ∧ F 5 = yo ∧ F 6 = .int .i64 ((i : Nat) : Int) ∧ Heap (newN w) w wr [oBlk g1 (cBs key) 26, oB yo ((cov key b).take i)]) ⟨0, _, rfl, Nat.zero_le _, e0, e1, e2, e4, e5, e6, hH⟩ ?_
  clear e0 e1 e2 e4 e5 e6 hH
  clear F
  rintro m F w2 ⟨i, yo, rfl, pi0, e0, e1, e2, e4, e5, e6, hH⟩
  refine wp_seq ?_
  refine wp_seq ?_
  refine wp_regionF ?_
  refine lf_val (v := .int .i64 ((i : Nat) : Int)) (wantAll rfl) (rv_move rfl (fr_eval rfl e6)) ?_
  refine lf_val (v := v) (wantAll rfl) (rv_move rfl (fr_eval rfl e1)) ?_
  refine lf_val (v := .int .i64 ((b.length : Nat) : Int)) (wantAll rfl) (rv_len rfl (fr_eval rfl rfl) (RdB.rn (hr.rd _ hH.chg) rfl) Try.underlying22) ?_
  by_cases hc1 : i < b.length
  · refine lf_val (v := .bool true) (wantAll rfl) (rv_lss rfl (fr_eval rfl rfl) (fr_eval rfl rfl) (decide_eq_true (by omega))) ?_
    refine lf_nil ?_
    refine then_n ?_
    refine wp_gen (fun F' => F' 0 = .agg (cBs key).toArray ∧ F' 1 = v ∧ F' 2 = .pointer (some ⟨g1, 0, none⟩) ∧ F' 4 = .slice none 0 0 ∧ F' 5 = yo ∧ F' 6 = .int .i64 ((i : Nat) : Int) ∧ F' 11 = .bool true) ⟨e0, e1, e2, e4, e5, e6, rfl⟩ ?_
    clear e0 e1 e2 e4 e5 e6
    clear F
    rintro F ⟨e0, e1, e2, e4, e5, e6, e11⟩
    refine wp_cond_true (fr_eval rfl e11) ?_
    refine wp_skip ?_
    refine then_n ?_
    refine wp_seq ?_
    refine wp_block ?_
    refine wp_seq ?_
    refine wp_regionF ?_
    refine lf_val (v := .slice (some ⟨g1, 0, none⟩) 32 32) (wantAll rfl) (rv_sliceArr rfl (fr_eval rfl e2) Try.underlying26 Try.sz5 (by decide)) ?_
    refine lf_val (v := .int .i64 ((i : Nat) : Int)) (wantAll rfl) (rv_move rfl (fr_eval rfl e6)) ?_
    refine lf_val (v := .int .i64 ((i / 32 : Nat) : Int)) (wantAll rfl) (rv_quo rfl (fr_eval rfl rfl) rfl (by decide) (quo_nat (n := 32) (by omega))) ?_
    refine lf_val (v := cB (UInt8.ofNat (i / 32))) (wantAll rfl) (rv_conv rfl (fr_eval rfl rfl) Try.underlying3 Try.underlying5 (wrap_u8 (byte_nat _))) ?_
    refine lf_ex (wantAll rfl) (hx_lits hH Try.stB (n := 3) (nm := List.length [0, 0, UInt8.ofNat (i / 32)]) [(.const (cB 0)), (.const (cB 0)), (.tmp 17)] (vs := [(cB 0), (cB 0), (cB (UInt8.ofNat (i / 32)))]) (cs := cBs [0, 0, UInt8.ofNat (i / 32)]) rfl (evc rfl (evc rfl (evc (fr_eval rfl rfl) evn))) (cBs_one [0, 0, UInt8.ofNat (i / 32)]) rfl (by decide) rfl rfl) ?_
    clear hH
    rintro y1 w3 ⟨hH, hx⟩
    replace hH : Heap (newN w) w w3 [oBlk g1 (cBs key) 26, oB yo ((cov key b).take i), oB y1 [0, 0, UInt8.ofNat (i / 32)]] := hH
    clear hx
    refine lf_ex (wantAll rfl) (hx_lits hH Try.stBB (n := 2) (nm := 2) [(.tmp 14), (.tmp 18)] (vs := [.slice (some ⟨g1, 0, none⟩) 32 32, y1]) rfl (evc (fr_eval rfl rfl) (evc (fr_eval rfl rfl) evn)) (ones_cons (Rd.oneV (rdB_blkn (hH.blk (i := 0) rfl) hk (by decide))) (ones_cons (Rd.oneV (OwnB.rd (hH.own (i := 2) rfl))) ones_nil)) rfl (by decide) rfl rfl) ?_
    clear hH
    rintro y2 w4 ⟨hH, hx⟩
    replace hH : Heap (newN w) w w4 [oBlk g1 (cBs key) 26, oB yo ((cov key b).take i), oB y1 [0, 0, UInt8.ofNat (i / 32)], oOwn 22 1 y2 2 [.slice (some ⟨g1, 0, none⟩) 32 32, y1]] := hH
    clear hx
    refine lf_call (wantAll rfl) (rv_call (args := [cB 51, y2]) rfl (evc rfl (evc (fr_eval rfl rfl) evn)) Try.call20) (join_as (tag := 51) (ls := [key, [0, 0, UInt8.ofNat (i / 32)]]) (flat3 hk _ (by simp)) (rdP_own (hH.own (i := 3) rfl) (.cons (rdB_blkn (hH.blk (i := 0) rfl) hk (by decide)) (.cons (OwnB.rd (hH.own (i := 2) rfl)) .nil)) rfl) (pad_law (by omega))) ?_
    rintro _ w5 ⟨rfl, hx⟩
    refine ⟨_, rfl, ?_⟩
    replace hH := hH.ext hx
    clear hx
    refine lf_ex (wantAll rfl) (hx_alloc hH 26 (z := .agg (cBs (List.replicate 32 0)).toArray) (n := 32) (cs := cBs (List.replicate 32 0)) rfl (by kernel_rfl) (by rfl)) ?_
    clear hH
    rintro _ w6 ⟨g2, rfl, hH, hx⟩
    replace hH : Heap (newN w) w w6 [oBlk g1 (cBs key) 26, oB yo ((cov key b).take i), oB y1 [0, 0, UInt8.ofNat (i / 32)], oOwn 22 1 y2 2 [.slice (some ⟨g1, 0, none⟩) 32 32, y1], oBlk g2 (cBs (List.replicate 32 0)) 26] := hH
    clear hx
    refine lf_sk (wantAll rfl) (hx_storeW hH (i := 4) (cs := cBs (pad key (i / 32))) rfl rfl rfl (fr_eval rfl rfl) (fr_eval rfl rfl) (sz_len Try.sz26 (cBs_len (pad_len _ _))) (((cBs_len (List.length_replicate ..))).trans ((cBs_len (pad_len _ _))).symm) ((cBs_one _))) ?_
    clear hH
    rintro w7 ⟨hH, hx⟩
    replace hH : Heap (newN w) w w7 [oBlk g1 (cBs key) 26, oB yo ((cov key b).take i), oB y1 [0, 0, UInt8.ofNat (i / 32)], oOwn 22 1 y2 2 [.slice (some ⟨g1, 0, none⟩) 32 32, y1], oBlk g2 (cBs (pad key (i / 32))) 26] := hH
    clear hx
    refine lf_nil ?_
    refine then_n ?_
    replace hH : Heap (newN w) w w7 [oBlk g1 (cBs key) 26, oB yo ((cov key b).take i), oBlk g2 (cBs (pad key (i / 32))) 26] := hH.drop (.cons_cons _ (.cons_cons _ (.cons _ (.cons _ (.cons_cons _ .slnil)))))
    refine wp_gen (fun F' => F' 0 = .agg (cBs key).toArray ∧ F' 1 = v ∧ F' 2 = .pointer (some ⟨g1, 0, none⟩) ∧ F' 4 = .slice none 0 0 ∧ F' 5 = yo ∧ F' 6 = .int .i64 ((i : Nat) : Int) ∧ F' 7 = .pointer (some ⟨g2, 0, none⟩) ∧ F' 11 = .bool true) ⟨e0, e1, e2, e4, e5, e6, rfl, e11⟩ ?_
    clear e0 e1 e2 e4 e5 e6 e11
    clear F
    rintro F ⟨e0, e1, e2, e4, e5, e6, e7, e11⟩
    refine wp_regionX (fun _ => False) 11 (by kernel_rfl) (by kernel_rfl) ?_
    refine xl_take (i := 0) (v := yo) rfl (by kernel_rfl) (by kernel_rfl) (by kernel_rfl) (by kernel_rfl) (yx_val (wantAll rfl) (fun w' hx' => rv_move rfl (fr_eval rfl e5))) ?_
    refine xl_take (i := 1) (v := v) rfl (by kernel_rfl) (by kernel_rfl) (by kernel_rfl) (by kernel_rfl) (yx_val (wantAll rfl) (fun w' hx' => rv_move rfl (fr_eval rfl e1))) ?_
    refine xl_take (i := 2) (v := .int .i64 ((i : Nat) : Int)) rfl (by kernel_rfl) (by kernel_rfl) (by kernel_rfl) (by kernel_rfl) (yx_val (wantAll rfl) (fun w' hx' => rv_move rfl (fr_eval rfl e6))) ?_
    refine xl_take (i := 3) (v := .pointer (some (elemA v (i * 1)))) rfl (by kernel_rfl) (by kernel_rfl) (by kernel_rfl) (by kernel_rfl) (yx_val (wantAll rfl) (fun w' hx' => rv_index rfl (fr_eval rfl rfl) (fr_eval rfl rfl) (RdB.rn (hr.rd _ (hH.chg.trans (Ext.any hx'))) rfl) (show i < b.length from (by omega)) Try.underlying22 Try.sz5 (by decide))) ?_
    refine xl_take (i := 4) (v := cB (List.getD b i (0 : UInt8))) rfl (by kernel_rfl) (by kernel_rfl) (by kernel_rfl) (by kernel_rfl) (yx_val (wantAll rfl) (fun w' hx' => rv_loadCell rfl (fr_eval rfl rfl) (Nat.mul_one _) (hr.rd _ (hH.chg.trans (Ext.any hx'))) (cell_b rfl (show i < b.length from (by omega))) Try.underlying5 rfl Try.sz5)) ?_
    refine xl_take (i := 5) (v := .int .i64 ((i : Nat) : Int)) rfl (by kernel_rfl) (by kernel_rfl) (by kernel_rfl) (by kernel_rfl) (yx_val (wantAll rfl) (fun w' hx' => rv_move rfl (fr_eval rfl e6))) ?_
    refine xl_take (i := 6) (v := .int .i64 ((i % 32 : Nat) : Int)) rfl (by kernel_rfl) (by kernel_rfl) (by kernel_rfl) (by kernel_rfl) (yx_val (wantAll rfl) (fun w' hx' => rv_rem rfl (fr_eval rfl rfl) rfl (by decide) (rem_nat _ 32))) ?_
    refine xl_take (i := 7) (v := .pointer (some ⟨g2, 0 + (i % 32) * 1, none⟩)) rfl (by kernel_rfl) (by kernel_rfl) (by kernel_rfl) (by kernel_rfl) (yx_val (wantAll rfl) (fun w' hx' => rv_indexArr rfl (fr_eval rfl e7) (fr_eval rfl rfl) (by omega) Try.underlying26 Try.sz5)) ?_
    refine xl_take (i := 8) (v := cB (List.getD (pad key (i / 32)) (i % 32) 0)) rfl (by kernel_rfl) (by kernel_rfl) (by kernel_rfl) (by kernel_rfl) (yx_val (wantAll rfl) (fun w' hx' => rv_load1 rfl ((hH.ext hx').blk (i := 2) rfl) (cell_b (k := i % 32) (by omega) (by rw [pad_len]; omega)) (fr_eval rfl rfl) Try.underlying5 rfl Try.sz5)) ?_
    refine xl_take (i := 9) (v := cB ((List.getD b i (0 : UInt8)) ^^^ (List.getD (pad key (i / 32)) (i % 32) 0))) rfl (by kernel_rfl) (by kernel_rfl) (by kernel_rfl) (by kernel_rfl) (yx_val (wantAll rfl) (fun w' hx' => rv_xor rfl (fr_eval rfl rfl) (fr_eval rfl rfl) (xor_u8 _ _))) ?_
    refine anyX_ready (rs := [10]) (by kernel_rfl) ?_
    intro w8 hx
    replace hH := hH.ext hx
    clear hx
    refine (anyX_cons ?_ anyX_nil)
    refine xl_step (i := 10) rfl (wantAll rfl) ?_
    refine of_ex (hx_lits hH Try.stB (n := 1) (nm := List.length [(List.getD b i (0 : UInt8)) ^^^ (List.getD (pad key (i / 32)) (i % 32) 0)]) [(.tmp 30)] (vs := [(cB ((List.getD b i (0 : UInt8)) ^^^ (List.getD (pad key (i / 32)) (i % 32) 0)))]) (cs := cBs [(List.getD b i (0 : UInt8)) ^^^ (List.getD (pad key (i / 32)) (i % 32) 0)]) rfl (evc (fr_eval rfl rfl) evn) (cBs_one [(List.getD b i (0 : UInt8)) ^^^ (List.getD (pad key (i / 32)) (i % 32) 0)]) rfl (by decide) rfl rfl) ?_
    clear hH
    rintro y3 w9 ⟨hH, hx⟩
    replace hH : Heap (newN w) w w9 [oBlk g1 (cBs key) 26, oB yo ((cov key b).take i), oBlk g2 (cBs (pad key (i / 32))) 26, oB y3 [(List.getD b i (0 : UInt8)) ^^^ (List.getD (pad key (i / 32)) (i % 32) 0)]] := hH
    refine ⟨hx, ?_⟩
    clear hx
    refine xl_tail (s := 11) rfl ?_
    intro w10 hx
    replace hH := hH.ext hx
    clear hx
    refine lf_ex (wantAll rfl) (hx_append hH Try.stB (i := 1) (xs' := cBs (((cov key b).take i) ++ [(List.getD b i (0 : UInt8)) ^^^ (List.getD (pad key (i / 32)) (i % 32) 0)])) (nm := (((cov key b).take i) ++ [(List.getD b i (0 : UInt8)) ^^^ (List.getD (pad key (i / 32)) (i % 32) 0)]).length) rfl rfl (fun _ => rfl) List.length_append.symm (cBs_append _ _).symm (OwnB.rd (hH.own (i := 3) rfl)) (fr_eval rfl rfl) (fr_eval rfl rfl) (by simp only [List.length_append, List.length_cons, List.length_nil, List.length_take, cov_len]; omega)) ?_
    clear hH
    rintro y4 w11 ⟨hH, hx⟩
    replace hH : Heap (newN w) w w11 [oBlk g1 (cBs key) 26, oB y4 (((cov key b).take i) ++ [(List.getD b i (0 : UInt8)) ^^^ (List.getD (pad key (i / 32)) (i % 32) 0)]), oBlk g2 (cBs (pad key (i / 32))) 26, oB y3 [(List.getD b i (0 : UInt8)) ^^^ (List.getD (pad key (i / 32)) (i % 32) 0)]] := hH
    replace hH : Heap (newN w) w w11 [oBlk g1 (cBs key) 26, oB y4 ((cov key b).take (i + 1)), oBlk g2 (cBs (pad key (i / 32))) 26, oB y3 [(List.getD b i (0 : UInt8)) ^^^ (List.getD (pad key (i / 32)) (i % 32) 0)]] := by have e : ((cov key b).take i) ++ [(List.getD b i (0 : UInt8)) ^^^ (List.getD (pad key (i / 32)) (i % 32) 0)] = (cov key b).take (i + 1) := cov_step (by omega); rw [e] at hH; exact hH
    clear hx
    refine lf_val (v := y4) (wantAll rfl) (rv_assign rfl (fr_eval rfl rfl)) ?_
    refine lf_nil ?_
    refine blk_n ?_
    refine then_n ?_
    replace hH : Heap (newN w) w w11 [oBlk g1 (cBs key) 26, oB y4 ((cov key b).take (i + 1)), oBlk g2 (cBs (pad key (i / 32))) 26] := hH.drop (.cons_cons _ (.cons_cons _ (.cons_cons _ (.cons _ .slnil))))
    refine wp_gen (fun F' => F' 0 = .agg (cBs key).toArray ∧ F' 1 = v ∧ F' 2 = .pointer (some ⟨g1, 0, none⟩) ∧ F' 4 = .slice none 0 0 ∧ F' 5 = y4 ∧ F' 6 = .int .i64 ((i : Nat) : Int) ∧ F' 7 = .pointer (some ⟨g2, 0, none⟩) ∧ F' 11 = .bool true) ⟨e0, e1, e2, e4, rfl, e6, e7, e11⟩ ?_
    clear e0 e1 e2 e4 e5 e6 e7 e11
    clear F
    rintro F ⟨e0, e1, e2, e4, e5, e6, e7, e11⟩
    refine wp_regionF ?_
    refine lf_val (v := .int .i64 ((i : Nat) : Int)) (wantAll rfl) (rv_move rfl (fr_eval rfl e6)) ?_
    refine lf_val (v := .int .i64 ((i + 1 : Nat) : Int)) (wantAll rfl) (rv_add rfl (fr_eval rfl rfl) rfl (wrap_i64 (by omega) (by omega) (by omega))) ?_
    refine lf_val (v := .int .i64 ((i + 1 : Nat) : Int)) (wantAll rfl) (rv_assign rfl (fr_eval rfl rfl)) ?_
    refine lf_nil ?_
    refine then_n ?_
    replace hH : Heap (newN w) w w11 [oBlk g1 (cBs key) 26, oB y4 ((cov key b).take (i + 1))] := hH.drop (.cons_cons _ (.cons_cons _ (.cons _ .slnil)))
    exact ⟨_, _, (by omega), rfl, i + 1, _, rfl, (by omega), e0, e1, e2, e4, e5, rfl, hH⟩
  · refine lf_val (v := .bool false) (wantAll rfl) (rv_lss rfl (fr_eval rfl rfl) (fr_eval rfl rfl) (decide_eq_false (by omega))) ?_
    refine lf_nil ?_
    refine then_n ?_
    refine wp_gen (fun F' => F' 0 = .agg (cBs key).toArray ∧ F' 1 = v ∧ F' 2 = .pointer (some ⟨g1, 0, none⟩) ∧ F' 4 = .slice none 0 0 ∧ F' 5 = yo ∧ F' 6 = .int .i64 ((i : Nat) : Int) ∧ F' 11 = .bool false) ⟨e0, e1, e2, e4, e5, e6, rfl⟩ ?_
    clear e0 e1 e2 e4 e5 e6
    clear F
    rintro F ⟨e0, e1, e2, e4, e5, e6, e11⟩
    refine wp_cond_false (fr_eval rfl e11) ?_
    refine wp_exit ?_
    refine then_exit ?_
    refine then_exit ?_
    refine blk_exit ?_
    refine then_n ?_
    refine wp_seq ?_
    obtain rfl : i = b.length := by omega
    replace hH : Heap (newN w) w w2 [oBlk g1 (cBs key) 26, oB yo (cov key b)] := by have e : (cov key b).take b.length = cov key b := (by rw [← cov_len key b, List.take_length]); rw [← e]; exact hH
    refine wp_regionF ?_
    refine lf_val (v := yo) (wantAll rfl) (rv_move rfl (fr_eval rfl e5)) ?_
    refine lf_val (v := yo) (wantAll rfl) (rv_assign rfl (fr_eval rfl rfl)) ?_
    refine lf_nil ?_
    refine then_n ?_
    refine wp_gen (fun F' => F' 0 = .agg (cBs key).toArray ∧ F' 1 = v ∧ F' 2 = .pointer (some ⟨g1, 0, none⟩) ∧ F' 4 = yo ∧ F' 5 = yo ∧ F' 6 = .int .i64 ((b.length : Nat) : Int) ∧ F' 11 = .bool false) ⟨e0, e1, e2, rfl, e5, e6, e11⟩ ?_
    clear e0 e1 e2 e4 e5 e6 e11
    clear F
    rintro F ⟨e0, e1, e2, e4, e5, e6, e11⟩
    refine wp_ret ?_
    exact bodyPost_ret (v := yo) (res1 rfl (ro_tmp rfl e4)) rfl (⟨⟨_, rfl, hH.own (i := 1) rfl, hH.ge (i := 1) rfl⟩, hH.done⟩)

set_option maxRecDepth 100000 in
set_option maxHeartbeats 1000000 in
theorem awake11_calls (w : World) :
    Calls Try.prog 36 #[] w fun e'' w' => e'' = .returned (.bool true) ∧ Ext w w' := by
  refine calls_fr (args := []) (n := 30) Try.func36 rfl rfl (show 0 ≤ 30 by decide) ?_
  have hH : Heap (newN w) w w [] := Heap.fresh
  refine wp_seq ?_
  refine wp_gen (fun F' => True) trivial ?_
  rintro F _
  refine wp_regionF ?_
  refine lf_val (v := .bool false) (wantAll rfl) (rv_assign rfl rfl) ?_
  refine lf_nil ?_
  refine then_n ?_
  refine wp_seq ?_
  refine wp_gen (fun F' => F' 0 = .bool false) rfl ?_
  clear F
  rintro F e0
  refine wp_regionF ?_
  refine lf_val (v := .agg (cBs (List.replicate 32 0)).toArray) (wantAll rfl) (by kernel_rfl) ?_
  refine lf_call (wantAll rfl) (rv_call (args := [.agg (cBs (List.replicate 32 0)).toArray, .slice none 0 0]) rfl (evc (fr_eval rfl rfl) (evc rfl evn)) Try.call34) (close_calls (List.replicate 32 0) (List.length_replicate ..) [] (by decide) _ _ RdB.nil) ?_
  rintro _ w1 ⟨⟨y1, rfl, ho, hg⟩, hx⟩
  refine ⟨_, rfl, ?_⟩
  replace hH : Heap (newN w) w w1 [oB y1 (closeV (List.replicate 32 0) [])] := hH.addOwn hx hg ho
  clear ho hg
  clear hx
  refine lf_val (v := .tuple #[y1, .int .i64 (closeE [])]) (wantAll rfl) (rv_move rfl (fr_eval rfl rfl)) ?_
  refine lf_val (v := y1) (wantAll rfl) (rv_extract rfl (fr_eval rfl rfl) rfl) ?_
  refine lf_val (v := .int .i64 (closeE [])) (wantAll rfl) (rv_extract rfl (fr_eval rfl rfl) rfl) ?_
  refine lf_val (v := y1) (wantAll rfl) (rv_assign rfl (fr_eval rfl rfl)) ?_
  refine lf_val (v := .int .i64 (closeE [])) (wantAll rfl) (rv_assign rfl (fr_eval rfl rfl)) ?_
  refine lf_nil ?_
  refine then_n ?_
  refine wp_seq ?_
  refine wp_gen (fun F' => F' 0 = .bool false ∧ F' 1 = y1 ∧ F' 2 = .int .i64 (closeE [])) ⟨e0, rfl, rfl⟩ ?_
  clear e0
  clear F
  rintro F ⟨e0, e1, e2⟩
  refine wp_regionF ?_
  refine lf_val (v := .agg (cBs (List.replicate 32 0)).toArray) (wantAll rfl) (by kernel_rfl) ?_
  refine lf_ex (wantAll rfl) (hx_lits hH Try.stB (n := 5) (nm := List.length [115, 104, 111, 114, 116]) [(.const (cB 115)), (.const (cB 104)), (.const (cB 111)), (.const (cB 114)), (.const (cB 116))] (vs := [(cB 115), (cB 104), (cB 111), (cB 114), (cB 116)]) (cs := cBs [115, 104, 111, 114, 116]) rfl (evc rfl (evc rfl (evc rfl (evc rfl (evc rfl evn))))) (cBs_one [115, 104, 111, 114, 116]) rfl (by decide) rfl rfl) ?_
  clear hH
  rintro y2 w2 ⟨hH, hx⟩
  replace hH : Heap (newN w) w w2 [oB y1 (closeV (List.replicate 32 0) []), oB y2 [115, 104, 111, 114, 116]] := hH
  clear hx
  refine lf_ex (wantAll rfl) (hx_mark hH (i := 1) (n := List.length [115, 104, 111, 114, 116]) (xs := cBs [115, 104, 111, 114, 116]) rfl rfl rfl (by decide) (cBs_one _) (fr_eval rfl rfl) Try.underlying22 Try.underlying5) ?_
  clear hH
  rintro _ w3 ⟨rfl, hH, hx⟩
  replace hH : Heap (newN w) w w3 [oB y1 (closeV (List.replicate 32 0) []), oRB y2 [115, 104, 111, 114, 116]] := hH
  clear hx
  refine lf_call (wantAll rfl) (rv_call (args := [.agg (cBs (List.replicate 32 0)).toArray, y2]) rfl (evc (fr_eval rfl rfl) (evc (fr_eval rfl rfl) evn)) Try.call35) (open_calls (List.replicate 32 0) (List.length_replicate ..) [115, 104, 111, 114, 116] (by decide) _ _ (hH.rd (i := 1) rfl)) ?_
  rintro _ w4 ⟨⟨y3, rfl, ho, hg⟩, hx⟩
  refine ⟨_, rfl, ?_⟩
  replace hH : Heap (newN w) w w4 [oB y1 (closeV (List.replicate 32 0) []), oRB y2 [115, 104, 111, 114, 116], oB y3 (openV (List.replicate 32 0) [115, 104, 111, 114, 116])] := hH.addOwn hx hg ho
  clear ho hg
  clear hx
  refine lf_val (v := .tuple #[y3, .int .i64 (openE (List.replicate 32 0) [115, 104, 111, 114, 116])]) (wantAll rfl) (rv_move rfl (fr_eval rfl rfl)) ?_
  refine lf_val (v := y3) (wantAll rfl) (rv_extract rfl (fr_eval rfl rfl) rfl) ?_
  refine lf_val (v := .int .i64 (openE (List.replicate 32 0) [115, 104, 111, 114, 116])) (wantAll rfl) (rv_extract rfl (fr_eval rfl rfl) rfl) ?_
  refine lf_val (v := y3) (wantAll rfl) (rv_assign rfl (fr_eval rfl rfl)) ?_
  refine lf_val (v := .int .i64 (openE (List.replicate 32 0) [115, 104, 111, 114, 116])) (wantAll rfl) (rv_assign rfl (fr_eval rfl rfl)) ?_
  refine lf_nil ?_
  refine then_n ?_
  refine wp_seq ?_
  replace hH : Heap (newN w) w w4 [oB y1 (closeV (List.replicate 32 0) [])] := hH.drop (.cons_cons _ (.cons _ (.cons _ .slnil)))
  refine wp_gen (fun F' => F' 0 = .bool false ∧ F' 1 = y1 ∧ F' 2 = .int .i64 (closeE []) ∧ F' 4 = .int .i64 (openE (List.replicate 32 0) [115, 104, 111, 114, 116])) ⟨e0, e1, e2, rfl⟩ ?_
  clear e0 e1 e2
  clear F
  rintro F ⟨e0, e1, e2, e4⟩
  have f1 : List.length (closeV (List.replicate 32 0) []) = 16 := closeV_len (by decide)
  have f2 : closeE [] = 0 := closeE_0 (by decide)
  have f3 : openE (List.replicate 32 0) [115, 104, 111, 114, 116] = 2 := by unfold openE; rw [if_pos (by decide)]
  refine wp_regionF ?_
  refine lf_val (v := y1) (wantAll rfl) (rv_move rfl (fr_eval rfl e1)) ?_
  refine lf_val (v := .int .i64 (((closeV (List.replicate 32 0) []).length : Nat) : Int)) (wantAll rfl) (rv_len rfl (fr_eval rfl rfl) (RdB.rn (OwnB.rd (hH.own (i := 0) rfl)) rfl) Try.underlying22) ?_
  refine lf_val (v := .bool true) (wantAll rfl) (rv_eql rfl (fr_eval rfl rfl) rfl (decide_eq_true (by omega))) ?_
  refine lf_val (v := .bool true) (wantAll rfl) (rv_move rfl (fr_eval rfl rfl)) ?_
  refine lf_val (v := .int .i64 (closeE [])) (wantF (d := 20) rfl (by kernel_rfl) rfl rfl) (rv_move rfl (fr_eval rfl e2)) ?_
  refine lf_val (v := .bool true) (wantF (d := 20) rfl (by kernel_rfl) rfl rfl) (rv_eql rfl (fr_eval rfl rfl) rfl (decide_eq_true (by omega))) ?_
  refine lf_val (v := .bool true) (wantAll rfl) (rv_pickT rfl (fr_eval rfl rfl) (fr_eval rfl rfl)) ?_
  refine lf_val (v := .bool true) (wantAll rfl) (rv_move rfl (fr_eval rfl rfl)) ?_
  refine lf_val (v := .int .i64 (openE (List.replicate 32 0) [115, 104, 111, 114, 116])) (wantF (d := 24) rfl (by kernel_rfl) rfl rfl) (rv_move rfl (fr_eval rfl e4)) ?_
  refine lf_val (v := .bool true) (wantF (d := 24) rfl (by kernel_rfl) rfl rfl) (rv_eql rfl (fr_eval rfl rfl) rfl (decide_eq_true (by omega))) ?_
  refine lf_val (v := .bool true) (wantAll rfl) (rv_pickT rfl (fr_eval rfl rfl) (fr_eval rfl rfl)) ?_
  refine lf_val (v := .bool true) (wantAll rfl) (rv_move rfl (fr_eval rfl rfl)) ?_
  refine lf_val (v := .bool true) (wantAll rfl) (rv_pickT rfl (fr_eval rfl rfl) rfl) ?_
  refine lf_val (v := .bool true) (wantAll rfl) (rv_assign rfl (fr_eval rfl rfl)) ?_
  refine lf_nil ?_
  refine then_n ?_
  refine wp_gen (fun F' => F' 0 = .bool true ∧ F' 1 = y1 ∧ F' 2 = .int .i64 (closeE []) ∧ F' 4 = .int .i64 (openE (List.replicate 32 0) [115, 104, 111, 114, 116])) ⟨rfl, e1, e2, e4⟩ ?_
  clear e0 e1 e2 e4
  clear F
  rintro F ⟨e0, e1, e2, e4⟩
  refine wp_ret ?_
  exact bodyPost_ret (v := (.bool true)) (res1 rfl (ro_tmp rfl e0)) rfl (⟨rfl, hH.done⟩)

set_option maxRecDepth 100000 in
set_option maxHeartbeats 1000000 in
theorem veilCloses_walk (key : List UInt8) (hk : key.length = 32) (text : List UInt8) (v : Value) (w : World) (hr0 : RdB w v text) :
    Calls Try.prog 9 #[.agg (cBs key).toArray, v] w fun e'' w' => e'' = .returned (.bool true) ∧ Ext w w' := by
  refine calls_fr (args := [.agg (cBs key).toArray, v]) (n := 60) Try.func9 rfl rfl (show 2 ≤ 60 by decide) ?_
  have hl := List.length_take_le 200 text
  have f0 : closeE (List.take 200 text) = 0 := closeE_0 (by omega)
  obtain ⟨f1, f2⟩ := open_close (key := key) (t := (List.take 200 text)) (by omega)
  have f3 : List.length (closeV key (List.take 200 text)) = List.length (List.take 200 text) + 16 := closeV_len (by omega)
  have hr := Rd.stab hr0
  have hH : Heap (newN w) w w [] := Heap.fresh
  refine wp_seq ?_
  refine wp_gen (fun F' => F' 0 = .agg (cBs key).toArray ∧ F' 1 = v) ⟨rfl, rfl⟩ ?_
  rintro F ⟨e0, e1⟩
  refine wp_regionF ?_
  refine lf_ex (wantAll rfl) (hx_box hH 26 (cs := cBs key) rfl (fr_eval rfl e0) (by rfl)) ?_
  clear hH
  rintro _ w1 ⟨g1, rfl, hH, hx⟩
  replace hH : Heap (newN w) w w1 [oBlk g1 (cBs key) 26] := hH
  clear hx
  refine lf_val (v := .bool false) (wantAll rfl) (rv_assign rfl rfl) ?_
  refine lf_nil ?_
  refine then_n ?_
  refine wp_seq ?_
  refine wp_gen (fun F' => F' 0 = .agg (cBs key).toArray ∧ F' 1 = v ∧ F' 2 = .pointer (some ⟨g1, 0, none⟩) ∧ F' 4 = .bool false) ⟨e0, e1, rfl, rfl⟩ ?_
  clear e0 e1
  clear F
  rintro F ⟨e0, e1, e2, e4⟩
  refine wp_regionF ?_
  refine lf_val (v := v) (wantAll rfl) (rv_move rfl (fr_eval rfl e1)) ?_
  refine lf_call (wantAll rfl) (rv_call (args := [v]) rfl (evc (fr_eval rfl rfl) evn) Try.call32) (cut11_calls text _ _ (hr.rd _ hH.chg)) ?_
  rintro _ w2 ⟨rfl, hx⟩
  refine ⟨_, rfl, ?_⟩
  replace hH := hH.ext hx
  clear hx
  refine lf_val (v := cutV v text 200) (wantAll rfl) (rv_assign rfl (fr_eval rfl rfl)) ?_
  refine lf_nil ?_
  refine then_n ?_
  refine wp_seq ?_
  refine wp_gen (fun F' => F' 0 = .agg (cBs key).toArray ∧ F' 1 = cutV v text 200 ∧ F' 2 = .pointer (some ⟨g1, 0, none⟩) ∧ F' 4 = .bool false) ⟨e0, rfl, e2, e4⟩ ?_
  clear e0 e1 e2 e4
  clear F
  rintro F ⟨e0, e1, e2, e4⟩
  refine wp_regionF ?_
  refine lf_val (v := .slice (some ⟨g1, 0, none⟩) 32 32) (wantAll rfl) (rv_sliceArr rfl (fr_eval rfl e2) Try.underlying26 Try.sz5 (by decide)) ?_
  refine lf_val (v := cutV v text 200) (wantAll rfl) (rv_move rfl (fr_eval rfl e1)) ?_
  refine lf_ex (wantAll rfl) (hx_lits hH Try.stBB (n := 2) (nm := 2) [(.tmp 13), (.tmp 14)] (vs := [.slice (some ⟨g1, 0, none⟩) 32 32, cutV v text 200]) rfl (evc (fr_eval rfl rfl) (evc (fr_eval rfl rfl) evn)) (ones_cons (Rd.oneV (rdB_blkn (hH.blk (i := 0) rfl) hk (by decide))) (ones_cons (Rd.oneV (rdB_cut (hr.rd _ hH.chg))) ones_nil)) rfl (by decide) rfl rfl) ?_
  clear hH
  rintro y1 w3 ⟨hH, hx⟩
  replace hH : Heap (newN w) w w3 [oBlk g1 (cBs key) 26, oOwn 22 1 y1 2 [.slice (some ⟨g1, 0, none⟩) 32 32, cutV v text 200]] := hH
  clear hx
  refine lf_call (wantAll rfl) (rv_call (args := [cB 52, y1]) rfl (evc rfl (evc (fr_eval rfl rfl) evn)) Try.call20) (join_calls 52 [key, List.take 200 text] (flat3 hk _ (by omega)) _ _ (rdP_own (hH.own (i := 1) rfl) (.cons (rdB_blkn (hH.blk (i := 0) rfl) hk (by decide)) (.cons (rdB_cut (hr.rd _ hH.chg)) .nil)) rfl)) ?_
  rintro _ w4 ⟨rfl, hx⟩
  refine ⟨_, rfl, ?_⟩
  replace hH := hH.ext hx
  clear hx
  refine lf_ex (wantAll rfl) (hx_alloc hH 26 (z := .agg (cBs (List.replicate 32 0)).toArray) (n := 32) (cs := cBs (List.replicate 32 0)) rfl (by kernel_rfl) (by rfl)) ?_
  clear hH
  rintro _ w5 ⟨g2, rfl, hH, hx⟩
  replace hH : Heap (newN w) w w5 [oBlk g1 (cBs key) 26, oOwn 22 1 y1 2 [.slice (some ⟨g1, 0, none⟩) 32 32, cutV v text 200], oBlk g2 (cBs (List.replicate 32 0)) 26] := hH
  clear hx
  refine lf_sk (wantAll rfl) (hx_storeW hH (i := 2) (cs := cBs (join 52 [key, List.take 200 text])) rfl rfl rfl (fr_eval rfl rfl) (fr_eval rfl rfl) (sz_len Try.sz26 (cBs_len (join_length _ _))) (((cBs_len (List.length_replicate ..))).trans ((cBs_len (join_length _ _))).symm) ((cBs_one _))) ?_
  clear hH
  rintro w6 ⟨hH, hx⟩
  replace hH : Heap (newN w) w w6 [oBlk g1 (cBs key) 26, oOwn 22 1 y1 2 [.slice (some ⟨g1, 0, none⟩) 32 32, cutV v text 200], oBlk g2 (cBs (join 52 [key, List.take 200 text])) 26] := hH
  clear hx
  refine lf_nil ?_
  refine then_n ?_
  refine wp_seq ?_
  replace hH : Heap (newN w) w w6 [oBlk g1 (cBs key) 26, oBlk g2 (cBs (join 52 [key, List.take 200 text])) 26] := hH.drop (.cons_cons _ (.cons _ (.cons_cons _ .slnil)))
  refine wp_gen (fun F' => F' 0 = .agg (cBs key).toArray ∧ F' 1 = cutV v text 200 ∧ F' 2 = .pointer (some ⟨g1, 0, none⟩) ∧ F' 4 = .bool false ∧ F' 5 = .pointer (some ⟨g2, 0, none⟩)) ⟨e0, e1, e2, e4, rfl⟩ ?_
  clear e0 e1 e2 e4
  clear F
  rintro F ⟨e0, e1, e2, e4, e5⟩
  refine wp_regionF ?_
  refine lf_ex (wantAll rfl) (hx_lits hH Try.stB (n := 0) (nm := List.length ([] : List UInt8)) [] (vs := []) (cs := cBs []) rfl evn (cBs_one []) rfl (by decide) rfl rfl) ?_
  clear hH
  rintro y2 w7 ⟨hH, hx⟩
  replace hH : Heap (newN w) w w7 [oBlk g1 (cBs key) 26, oBlk g2 (cBs (join 52 [key, List.take 200 text])) 26, oB y2 []] := hH
  clear hx
  refine lf_val (v := .slice (some ⟨g2, 0, none⟩) 16 32) (wantAll rfl) (rv_sliceArrH (h := 16) rfl (fr_eval rfl e5) (show _ = Value.int _ ((16 : Nat) : Int) from rfl) Try.underlying26 Try.sz5 (by decide) (by decide)) ?_
  refine lf_ex (wantAll rfl) (hx_append hH Try.stB (i := 2) (xs' := cBs (List.take 16 (join 52 [key, List.take 200 text]))) (nm := (List.take 16 (join 52 [key, List.take 200 text])).length) rfl rfl (fun _ => rfl) (Nat.zero_add _) (List.nil_append _) (rdB_blkH (hH.blk (i := 1) rfl) (join_length _ _) (by decide)) (fr_eval rfl rfl) (fr_eval rfl rfl) (by simp only [List.length_take, join_length]; omega)) ?_
  clear hH
  rintro y3 w8 ⟨hH, hx⟩
  replace hH : Heap (newN w) w w8 [oBlk g1 (cBs key) 26, oBlk g2 (cBs (join 52 [key, List.take 200 text])) 26, oB y3 (List.take 16 (join 52 [key, List.take 200 text]))] := hH
  clear hx
  refine lf_val (v := y3) (wantAll rfl) (rv_assign rfl (fr_eval rfl rfl)) ?_
  refine lf_nil ?_
  refine then_n ?_
  refine wp_seq ?_
  refine wp_gen (fun F' => F' 0 = .agg (cBs key).toArray ∧ F' 1 = cutV v text 200 ∧ F' 2 = .pointer (some ⟨g1, 0, none⟩) ∧ F' 4 = .bool false ∧ F' 5 = .pointer (some ⟨g2, 0, none⟩) ∧ F' 6 = y3) ⟨e0, e1, e2, e4, e5, rfl⟩ ?_
  clear e0 e1 e2 e4 e5
  clear F
  rintro F ⟨e0, e1, e2, e4, e5, e6⟩
  refine wp_regionF ?_
  refine lf_val (v := y3) (wantAll rfl) (rv_move rfl (fr_eval rfl e6)) ?_
  refine lf_val (v := .agg (cBs key).toArray) (wantAll rfl) (rv_loadW rfl (hH.blk (i := 0) rfl) (fr_eval rfl e2) Try.underlying26 rfl (sz_len Try.sz26 (cBs_len hk))) ?_
  refine lf_val (v := cutV v text 200) (wantAll rfl) (rv_move rfl (fr_eval rfl e1)) ?_
  refine lf_call (wantAll rfl) (rv_call (args := [.agg (cBs key).toArray, cutV v text 200]) rfl (evc (fr_eval rfl rfl) (evc (fr_eval rfl rfl) evn)) Try.call33) (cover11_calls key hk (List.take 200 text) (by simp only [List.length_take, List.length_drop]; omega) _ _ (rdB_cut (hr.rd _ hH.chg))) ?_
  rintro _ w9 ⟨⟨y4, rfl, ho, hg⟩, hx⟩
  refine ⟨_, rfl, ?_⟩
  replace hH : Heap (newN w) w w9 [oBlk g1 (cBs key) 26, oBlk g2 (cBs (join 52 [key, List.take 200 text])) 26, oB y3 (List.take 16 (join 52 [key, List.take 200 text])), oB y4 (cov key (List.take 200 text))] := hH.addOwn hx hg ho
  clear ho hg
  clear hx
  refine lf_ex (wantAll rfl) (hx_append hH Try.stB (i := 2) (xs' := cBs ((List.take 16 (join 52 [key, List.take 200 text])) ++ (cov key (List.take 200 text)))) (nm := ((List.take 16 (join 52 [key, List.take 200 text])) ++ (cov key (List.take 200 text))).length) rfl rfl (fun _ => rfl) List.length_append.symm (cBs_append _ _).symm (OwnB.rd (hH.own (i := 3) rfl)) (fr_eval rfl rfl) (fr_eval rfl rfl) (by simp only [List.length_append, List.length_take, join_length, cov_len]; omega)) ?_
  clear hH
  rintro y5 w10 ⟨hH, hx⟩
  replace hH : Heap (newN w) w w10 [oBlk g1 (cBs key) 26, oBlk g2 (cBs (join 52 [key, List.take 200 text])) 26, oB y5 ((List.take 16 (join 52 [key, List.take 200 text])) ++ (cov key (List.take 200 text))), oB y4 (cov key (List.take 200 text))] := hH
  clear hx
  refine lf_val (v := y5) (wantAll rfl) (rv_assign rfl (fr_eval rfl rfl)) ?_
  refine lf_nil ?_
  refine then_n ?_
  refine wp_seq ?_
  replace hH : Heap (newN w) w w10 [oBlk g1 (cBs key) 26, oBlk g2 (cBs (join 52 [key, List.take 200 text])) 26, oB y5 ((List.take 16 (join 52 [key, List.take 200 text])) ++ (cov key (List.take 200 text)))] := hH.drop (.cons_cons _ (.cons_cons _ (.cons_cons _ (.cons _ .slnil))))
  refine wp_gen (fun F' => F' 0 = .agg (cBs key).toArray ∧ F' 1 = cutV v text 200 ∧ F' 2 = .pointer (some ⟨g1, 0, none⟩) ∧ F' 4 = .bool false ∧ F' 5 = .pointer (some ⟨g2, 0, none⟩) ∧ F' 6 = y5) ⟨e0, e1, e2, e4, e5, rfl⟩ ?_
  clear e0 e1 e2 e4 e5 e6
  clear F
  rintro F ⟨e0, e1, e2, e4, e5, e6⟩
  refine wp_regionF ?_
  refine lf_val (v := .agg (cBs key).toArray) (wantAll rfl) (rv_loadW rfl (hH.blk (i := 0) rfl) (fr_eval rfl e2) Try.underlying26 rfl (sz_len Try.sz26 (cBs_len hk))) ?_
  refine lf_val (v := cutV v text 200) (wantAll rfl) (rv_move rfl (fr_eval rfl e1)) ?_
  refine lf_call (wantAll rfl) (rv_call (args := [.agg (cBs key).toArray, cutV v text 200]) rfl (evc (fr_eval rfl rfl) (evc (fr_eval rfl rfl) evn)) Try.call34) (close_calls key hk (List.take 200 text) (by simp only [List.length_take]; omega) _ _ (rdB_cut (hr.rd _ hH.chg))) ?_
  rintro _ w11 ⟨⟨y6, rfl, ho, hg⟩, hx⟩
  refine ⟨_, rfl, ?_⟩
  replace hH : Heap (newN w) w w11 [oBlk g1 (cBs key) 26, oBlk g2 (cBs (join 52 [key, List.take 200 text])) 26, oB y5 ((List.take 16 (join 52 [key, List.take 200 text])) ++ (cov key (List.take 200 text))), oB y6 (closeV key (List.take 200 text))] := hH.addOwn hx hg ho
  clear ho hg
  clear hx
  refine lf_val (v := .tuple #[y6, .int .i64 (closeE (List.take 200 text))]) (wantAll rfl) (rv_move rfl (fr_eval rfl rfl)) ?_
  refine lf_val (v := y6) (wantAll rfl) (rv_extract rfl (fr_eval rfl rfl) rfl) ?_
  refine lf_val (v := .int .i64 (closeE (List.take 200 text))) (wantAll rfl) (rv_extract rfl (fr_eval rfl rfl) rfl) ?_
  refine lf_val (v := y6) (wantAll rfl) (rv_assign rfl (fr_eval rfl rfl)) ?_
  refine lf_val (v := .int .i64 (closeE (List.take 200 text))) (wantAll rfl) (rv_assign rfl (fr_eval rfl rfl)) ?_
  refine lf_nil ?_
  refine then_n ?_
  refine wp_seq ?_
  refine wp_gen (fun F' => F' 0 = .agg (cBs key).toArray ∧ F' 1 = cutV v text 200 ∧ F' 2 = .pointer (some ⟨g1, 0, none⟩) ∧ F' 4 = .bool false ∧ F' 5 = .pointer (some ⟨g2, 0, none⟩) ∧ F' 6 = y5 ∧ F' 7 = y6 ∧ F' 8 = .int .i64 (closeE (List.take 200 text))) ⟨e0, e1, e2, e4, e5, e6, rfl, rfl⟩ ?_
  clear e0 e1 e2 e4 e5 e6
  clear F
  rintro F ⟨e0, e1, e2, e4, e5, e6, e7, e8⟩
  refine wp_regionF ?_
  refine lf_val (v := .agg (cBs key).toArray) (wantAll rfl) (rv_loadW rfl (hH.blk (i := 0) rfl) (fr_eval rfl e2) Try.underlying26 rfl (sz_len Try.sz26 (cBs_len hk))) ?_
  refine lf_val (v := y6) (wantAll rfl) (rv_move rfl (fr_eval rfl e7)) ?_
  refine lf_call (wantAll rfl) (rv_call (args := [.agg (cBs key).toArray, y6]) rfl (evc (fr_eval rfl rfl) (evc (fr_eval rfl rfl) evn)) Try.call35) (open_calls key hk (closeV key (List.take 200 text)) (by omega) _ _ (OwnB.rd (hH.own (i := 3) rfl))) ?_
  rintro _ w12 ⟨⟨y7, rfl, ho, hg⟩, hx⟩
  refine ⟨_, rfl, ?_⟩
  replace hH : Heap (newN w) w w12 [oBlk g1 (cBs key) 26, oBlk g2 (cBs (join 52 [key, List.take 200 text])) 26, oB y5 ((List.take 16 (join 52 [key, List.take 200 text])) ++ (cov key (List.take 200 text))), oB y6 (closeV key (List.take 200 text)), oB y7 (openV key (closeV key (List.take 200 text)))] := hH.addOwn hx hg ho
  clear ho hg
  clear hx
  refine lf_val (v := .tuple #[y7, .int .i64 (openE key (closeV key (List.take 200 text)))]) (wantAll rfl) (rv_move rfl (fr_eval rfl rfl)) ?_
  refine lf_val (v := y7) (wantAll rfl) (rv_extract rfl (fr_eval rfl rfl) rfl) ?_
  refine lf_val (v := .int .i64 (openE key (closeV key (List.take 200 text)))) (wantAll rfl) (rv_extract rfl (fr_eval rfl rfl) rfl) ?_
  refine lf_val (v := y7) (wantAll rfl) (rv_assign rfl (fr_eval rfl rfl)) ?_
  refine lf_val (v := .int .i64 (openE key (closeV key (List.take 200 text)))) (wantAll rfl) (rv_assign rfl (fr_eval rfl rfl)) ?_
  refine lf_nil ?_
  refine then_n ?_
  refine wp_seq ?_
  refine wp_gen (fun F' => F' 0 = .agg (cBs key).toArray ∧ F' 1 = cutV v text 200 ∧ F' 2 = .pointer (some ⟨g1, 0, none⟩) ∧ F' 4 = .bool false ∧ F' 5 = .pointer (some ⟨g2, 0, none⟩) ∧ F' 6 = y5 ∧ F' 7 = y6 ∧ F' 8 = .int .i64 (closeE (List.take 200 text)) ∧ F' 9 = y7 ∧ F' 10 = .int .i64 (openE key (closeV key (List.take 200 text)))) ⟨e0, e1, e2, e4, e5, e6, e7, e8, rfl, rfl⟩ ?_
  clear e0 e1 e2 e4 e5 e6 e7 e8
  clear F
  rintro F ⟨e0, e1, e2, e4, e5, e6, e7, e8, e9, e10⟩
  refine wp_regionF ?_
  refine lf_val (v := y6) (wantAll rfl) (rv_move rfl (fr_eval rfl e7)) ?_
  refine lf_val (v := .string ⟨(closeV key (List.take 200 text)).toArray⟩) (wantAll rfl) (rv_str rfl (fr_eval rfl rfl) (OwnB.rd (hH.own (i := 3) rfl)) Try.underlying22 Try.underlying5 Try.underlying9) ?_
  refine lf_val (v := y5) (wantAll rfl) (rv_move rfl (fr_eval rfl e6)) ?_
  refine lf_val (v := .string ⟨((List.take 16 (join 52 [key, List.take 200 text])) ++ (cov key (List.take 200 text))).toArray⟩) (wantAll rfl) (rv_str rfl (fr_eval rfl rfl) (OwnB.rd (hH.own (i := 2) rfl)) Try.underlying22 Try.underlying5 Try.underlying9) ?_
  refine lf_val (v := .bool true) (wantAll rfl) (rv_eqs (b := true) rfl (fr_eval rfl rfl) (fr_eval rfl rfl) (by exact decide_eq_true (close_v0 (by omega)).symm)) ?_
  refine lf_val (v := .bool true) (wantAll rfl) (rv_move rfl (fr_eval rfl rfl)) ?_
  refine lf_val (v := .int .i64 (closeE (List.take 200 text))) (wantF (d := 42) rfl (by kernel_rfl) rfl rfl) (rv_move rfl (fr_eval rfl e8)) ?_
  refine lf_val (v := .bool true) (wantF (d := 42) rfl (by kernel_rfl) rfl rfl) (rv_eql rfl (fr_eval rfl rfl) rfl (decide_eq_true (by omega))) ?_
  refine lf_val (v := .bool true) (wantAll rfl) (rv_pickT rfl (fr_eval rfl rfl) (fr_eval rfl rfl)) ?_
  refine lf_val (v := .bool true) (wantAll rfl) (rv_move rfl (fr_eval rfl rfl)) ?_
  refine lf_val (v := y7) (wantF (d := 46) rfl (by kernel_rfl) rfl rfl) (rv_move rfl (fr_eval rfl e9)) ?_
  refine lf_val (v := .string ⟨(openV key (closeV key (List.take 200 text))).toArray⟩) (wantF (d := 46) rfl (by kernel_rfl) rfl rfl) (rv_str rfl (fr_eval rfl rfl) (OwnB.rd (hH.own (i := 4) rfl)) Try.underlying22 Try.underlying5 Try.underlying9) ?_
  refine lf_val (v := cutV v text 200) (wantF (d := 46) rfl (by kernel_rfl) rfl rfl) (rv_move rfl (fr_eval rfl e1)) ?_
  refine lf_val (v := .string ⟨(List.take 200 text).toArray⟩) (wantF (d := 46) rfl (by kernel_rfl) rfl rfl) (rv_str rfl (fr_eval rfl rfl) (rdB_cut (hr.rd _ hH.chg)) Try.underlying22 Try.underlying5 Try.underlying9) ?_
  refine lf_val (v := .bool true) (wantF (d := 46) rfl (by kernel_rfl) rfl rfl) (rv_eqs (b := true) rfl (fr_eval rfl rfl) (fr_eval rfl rfl) (by exact decide_eq_true f2)) ?_
  refine lf_val (v := .bool true) (wantAll rfl) (rv_pickT rfl (fr_eval rfl rfl) (fr_eval rfl rfl)) ?_
  refine lf_val (v := .bool true) (wantAll rfl) (rv_move rfl (fr_eval rfl rfl)) ?_
  refine lf_val (v := .int .i64 (openE key (closeV key (List.take 200 text)))) (wantF (d := 53) rfl (by kernel_rfl) rfl rfl) (rv_move rfl (fr_eval rfl e10)) ?_
  refine lf_val (v := .bool true) (wantF (d := 53) rfl (by kernel_rfl) rfl rfl) (rv_eql rfl (fr_eval rfl rfl) rfl (decide_eq_true (by omega))) ?_
  refine lf_val (v := .bool true) (wantAll rfl) (rv_pickT rfl (fr_eval rfl rfl) (fr_eval rfl rfl)) ?_
  refine lf_val (v := .bool true) (wantAll rfl) (rv_move rfl (fr_eval rfl rfl)) ?_
  refine lf_call (wantF (d := 57) rfl (by kernel_rfl) rfl rfl) (rv_call (args := []) rfl evn Try.call36) (awake11_calls _) ?_
  rintro _ w13 ⟨rfl, hx⟩
  refine ⟨_, rfl, ?_⟩
  replace hH := hH.ext hx
  clear hx
  refine lf_val (v := .bool true) (wantAll rfl) (rv_pickT rfl (fr_eval rfl rfl) (fr_eval rfl rfl)) ?_
  refine lf_val (v := .bool true) (wantAll rfl) (rv_assign rfl (fr_eval rfl rfl)) ?_
  refine lf_nil ?_
  refine then_n ?_
  refine wp_gen (fun F' => F' 0 = .agg (cBs key).toArray ∧ F' 1 = cutV v text 200 ∧ F' 2 = .pointer (some ⟨g1, 0, none⟩) ∧ F' 4 = .bool true ∧ F' 5 = .pointer (some ⟨g2, 0, none⟩) ∧ F' 6 = y5 ∧ F' 7 = y6 ∧ F' 8 = .int .i64 (closeE (List.take 200 text)) ∧ F' 9 = y7 ∧ F' 10 = .int .i64 (openE key (closeV key (List.take 200 text)))) ⟨e0, e1, e2, rfl, e5, e6, e7, e8, e9, e10⟩ ?_
  clear e0 e1 e2 e4 e5 e6 e7 e8 e9 e10
  clear F
  rintro F ⟨e0, e1, e2, e4, e5, e6, e7, e8, e9, e10⟩
  refine wp_ret ?_
  exact bodyPost_ret (v := (.bool true)) (res1 rfl (ro_tmp rfl e4)) rfl (⟨rfl, hH.done⟩)

set_option maxRecDepth 100000 in
set_option maxHeartbeats 1000000 in
theorem veilOpens_walk (key : List UInt8) (hk : key.length = 32) (b : List UInt8) (v : Value) (w : World) (hr0 : RdB w v b) :
    Calls Try.prog 10 #[.agg (cBs key).toArray, v] w fun e'' w' => e'' = .returned (.bool true) ∧ Ext w w' := by
  refine calls_fr (args := [.agg (cBs key).toArray, v]) (n := 66) Try.func10 rfl rfl (show 2 ≤ 66 by decide) ?_
  have hl := List.length_take_le 200 b
  have hr := Rd.stab hr0
  have hH : Heap (newN w) w w [] := Heap.fresh
  refine wp_seq ?_
  refine wp_gen (fun F' => F' 0 = .agg (cBs key).toArray ∧ F' 1 = v) ⟨rfl, rfl⟩ ?_
  rintro F ⟨e0, e1⟩
  refine wp_regionF ?_
  refine lf_ex (wantAll rfl) (hx_box hH 26 (cs := cBs key) rfl (fr_eval rfl e0) (by rfl)) ?_
  clear hH
  rintro _ w1 ⟨g1, rfl, hH, hx⟩
  replace hH : Heap (newN w) w w1 [oBlk g1 (cBs key) 26] := hH
  clear hx
  refine lf_val (v := .bool false) (wantAll rfl) (rv_assign rfl rfl) ?_
  refine lf_nil ?_
  refine then_n ?_
  refine wp_seq ?_
  refine wp_gen (fun F' => F' 0 = .agg (cBs key).toArray ∧ F' 1 = v ∧ F' 2 = .pointer (some ⟨g1, 0, none⟩) ∧ F' 4 = .bool false) ⟨e0, e1, rfl, rfl⟩ ?_
  clear e0 e1
  clear F
  rintro F ⟨e0, e1, e2, e4⟩
  refine wp_regionF ?_
  refine lf_val (v := v) (wantAll rfl) (rv_move rfl (fr_eval rfl e1)) ?_
  refine lf_call (wantAll rfl) (rv_call (args := [v]) rfl (evc (fr_eval rfl rfl) evn) Try.call32) (cut11_calls b _ _ (hr.rd _ hH.chg)) ?_
  rintro _ w2 ⟨rfl, hx⟩
  refine ⟨_, rfl, ?_⟩
  replace hH := hH.ext hx
  clear hx
  refine lf_val (v := cutV v b 200) (wantAll rfl) (rv_assign rfl (fr_eval rfl rfl)) ?_
  refine lf_nil ?_
  refine then_n ?_
  refine wp_seq ?_
  refine wp_gen (fun F' => F' 0 = .agg (cBs key).toArray ∧ F' 1 = cutV v b 200 ∧ F' 2 = .pointer (some ⟨g1, 0, none⟩) ∧ F' 4 = .bool false) ⟨e0, rfl, e2, e4⟩ ?_
  clear e0 e1 e2 e4
  clear F
  rintro F ⟨e0, e1, e2, e4⟩
  refine wp_regionF ?_
  refine lf_val (v := .agg (cBs key).toArray) (wantAll rfl) (rv_loadW rfl (hH.blk (i := 0) rfl) (fr_eval rfl e2) Try.underlying26 rfl (sz_len Try.sz26 (cBs_len hk))) ?_
  refine lf_val (v := cutV v b 200) (wantAll rfl) (rv_move rfl (fr_eval rfl e1)) ?_
  refine lf_call (wantAll rfl) (rv_call (args := [.agg (cBs key).toArray, cutV v b 200]) rfl (evc (fr_eval rfl rfl) (evc (fr_eval rfl rfl) evn)) Try.call35) (open_calls key hk (List.take 200 b) (by simp only [List.length_take]; omega) _ _ (rdB_cut (hr.rd _ hH.chg))) ?_
  rintro _ w3 ⟨⟨y1, rfl, ho, hg⟩, hx⟩
  refine ⟨_, rfl, ?_⟩
  replace hH : Heap (newN w) w w3 [oBlk g1 (cBs key) 26, oB y1 (openV key (List.take 200 b))] := hH.addOwn hx hg ho
  clear ho hg
  clear hx
  refine lf_val (v := .tuple #[y1, .int .i64 (openE key (List.take 200 b))]) (wantAll rfl) (rv_move rfl (fr_eval rfl rfl)) ?_
  refine lf_val (v := y1) (wantAll rfl) (rv_extract rfl (fr_eval rfl rfl) rfl) ?_
  refine lf_val (v := .int .i64 (openE key (List.take 200 b))) (wantAll rfl) (rv_extract rfl (fr_eval rfl rfl) rfl) ?_
  refine lf_val (v := y1) (wantAll rfl) (rv_assign rfl (fr_eval rfl rfl)) ?_
  refine lf_val (v := .int .i64 (openE key (List.take 200 b))) (wantAll rfl) (rv_assign rfl (fr_eval rfl rfl)) ?_
  refine lf_nil ?_
  refine then_n ?_
  refine wp_seq ?_
  refine wp_seq ?_
  refine wp_gen (fun F' => F' 0 = .agg (cBs key).toArray ∧ F' 1 = cutV v b 200 ∧ F' 2 = .pointer (some ⟨g1, 0, none⟩) ∧ F' 4 = .bool false ∧ F' 5 = y1 ∧ F' 6 = .int .i64 (openE key (List.take 200 b))) ⟨e0, e1, e2, e4, rfl, rfl⟩ ?_
  clear e0 e1 e2 e4
  clear F
  rintro F ⟨e0, e1, e2, e4, e5, e6⟩
  refine wp_regionF ?_
  refine lf_val (v := cutV v b 200) (wantAll rfl) (rv_move rfl (fr_eval rfl e1)) ?_
  refine lf_val (v := .int .i64 (((List.take 200 b).length : Nat) : Int)) (wantAll rfl) (rv_len rfl (fr_eval rfl rfl) (RdB.rn (rdB_cut (hr.rd _ hH.chg)) rfl) Try.underlying22) ?_
  by_cases hc1 : (List.take 200 b).length < 16
  · refine lf_val (v := .bool true) (wantAll rfl) (rv_lss rfl (fr_eval rfl rfl) rfl (decide_eq_true (by omega))) ?_
    refine lf_nil ?_
    refine then_n ?_
    refine wp_gen (fun F' => F' 0 = .agg (cBs key).toArray ∧ F' 1 = cutV v b 200 ∧ F' 2 = .pointer (some ⟨g1, 0, none⟩) ∧ F' 4 = .bool false ∧ F' 5 = y1 ∧ F' 6 = .int .i64 (openE key (List.take 200 b)) ∧ F' 19 = .bool true) ⟨e0, e1, e2, e4, e5, e6, rfl⟩ ?_
    clear e0 e1 e2 e4 e5 e6
    clear F
    rintro F ⟨e0, e1, e2, e4, e5, e6, e19⟩
    refine wp_cond_true (fr_eval rfl e19) ?_
    refine wp_seq ?_
    have f1 : openE key (List.take 200 b) = 2 := by unfold openE; rw [if_pos (by omega)]
    have f2 : List.length (openV key (List.take 200 b)) = 0 := openV_no (by rw [f1]; decide)
    refine wp_regionF ?_
    refine lf_val (v := y1) (wantAll rfl) (rv_move rfl (fr_eval rfl e5)) ?_
    refine lf_val (v := .int .i64 (((openV key (List.take 200 b)).length : Nat) : Int)) (wantAll rfl) (rv_len rfl (fr_eval rfl rfl) (RdB.rn (OwnB.rd (hH.own (i := 1) rfl)) rfl) Try.underlying22) ?_
    refine lf_val (v := .bool true) (wantAll rfl) (rv_eql rfl (fr_eval rfl rfl) rfl (decide_eq_true (by omega))) ?_
    refine lf_val (v := .bool true) (wantAll rfl) (rv_move rfl (fr_eval rfl rfl)) ?_
    refine lf_val (v := .int .i64 (openE key (List.take 200 b))) (wantF (d := 23) rfl (by kernel_rfl) rfl rfl) (rv_move rfl (fr_eval rfl e6)) ?_
    refine lf_val (v := .bool true) (wantF (d := 23) rfl (by kernel_rfl) rfl rfl) (rv_eql rfl (fr_eval rfl rfl) rfl (decide_eq_true (by omega))) ?_
    refine lf_val (v := .bool true) (wantAll rfl) (rv_pickT rfl (fr_eval rfl rfl) (fr_eval rfl rfl)) ?_
    refine lf_val (v := .bool true) (wantAll rfl) (rv_move rfl (fr_eval rfl rfl)) ?_
    refine lf_call (wantF (d := 27) rfl (by kernel_rfl) rfl rfl) (rv_call (args := []) rfl evn Try.call36) (awake11_calls _) ?_
    rintro _ w4 ⟨rfl, hx⟩
    refine ⟨_, rfl, ?_⟩
    replace hH := hH.ext hx
    clear hx
    refine lf_val (v := .bool true) (wantAll rfl) (rv_pickT rfl (fr_eval rfl rfl) (fr_eval rfl rfl)) ?_
    refine lf_val (v := .bool true) (wantAll rfl) (rv_assign rfl (fr_eval rfl rfl)) ?_
    refine lf_nil ?_
    refine then_n ?_
    refine wp_gen (fun F' => F' 0 = .agg (cBs key).toArray ∧ F' 1 = cutV v b 200 ∧ F' 2 = .pointer (some ⟨g1, 0, none⟩) ∧ F' 4 = .bool true ∧ F' 5 = y1 ∧ F' 6 = .int .i64 (openE key (List.take 200 b)) ∧ F' 19 = .bool true) ⟨e0, e1, e2, rfl, e5, e6, e19⟩ ?_
    clear e0 e1 e2 e4 e5 e6 e19
    clear F
    rintro F ⟨e0, e1, e2, e4, e5, e6, e19⟩
    refine wp_ret ?_
    refine then_ret ?_
    exact bodyPost_ret (v := (.bool true)) (res1 rfl (ro_tmp rfl e4)) rfl (⟨rfl, hH.done⟩)
  · refine lf_val (v := .bool false) (wantAll rfl) (rv_lss rfl (fr_eval rfl rfl) rfl (decide_eq_false (by omega))) ?_
    refine lf_nil ?_
    refine then_n ?_
    refine wp_gen (fun F' => F' 0 = .agg (cBs key).toArray ∧ F' 1 = cutV v b 200 ∧ F' 2 = .pointer (some ⟨g1, 0, none⟩) ∧ F' 4 = .bool false ∧ F' 5 = y1 ∧ F' 6 = .int .i64 (openE key (List.take 200 b)) ∧ F' 19 = .bool false) ⟨e0, e1, e2, e4, e5, e6, rfl⟩ ?_
    clear e0 e1 e2 e4 e5 e6
    clear F
    rintro F ⟨e0, e1, e2, e4, e5, e6, e19⟩
    refine wp_cond_false (fr_eval rfl e19) ?_
    refine wp_skip ?_
    refine then_n ?_
    refine wp_seq ?_
    refine wp_regionX (fun _ => False) 3 (by kernel_rfl) (by kernel_rfl) ?_
    refine xl_take (i := 0) (v := .agg (cBs key).toArray) rfl (by kernel_rfl) (by kernel_rfl) (by kernel_rfl) (by kernel_rfl) (yx_val (wantAll rfl) (fun w' hx' => rv_loadW rfl ((hH.ext hx').blk (i := 0) rfl) (fr_eval rfl e2) Try.underlying26 rfl (sz_len Try.sz26 (cBs_len hk)))) ?_
    refine xl_take (i := 1) (v := cutV v b 200) rfl (by kernel_rfl) (by kernel_rfl) (by kernel_rfl) (by kernel_rfl) (yx_val (wantAll rfl) (fun w' hx' => rv_move rfl (fr_eval rfl e1))) ?_
    refine xl_take (i := 2) (v := slcV (cutV v b 200) 1 16 ((List.take 200 b).length)) rfl (by kernel_rfl) (by kernel_rfl) (by kernel_rfl) (by kernel_rfl) (yx_val (wantAll rfl) (fun w' hx' => rv_slcL (l := 16) Try.stB rfl (fr_eval rfl rfl) (RdB.rn (rdB_cut (hr.rd _ (hH.chg.trans (Ext.any hx')))) rfl) (show _ = Value.int _ ((16 : Nat) : Int) from rfl) (by omega))) ?_
    refine xl_tail (s := 3) rfl ?_
    intro w5 hx
    replace hH := hH.ext hx
    clear hx
    refine lf_call (wantAll rfl) (rv_call (args := [.agg (cBs key).toArray, slcV (cutV v b 200) 1 16 ((List.take 200 b).length)]) rfl (evc (fr_eval rfl rfl) (evc (fr_eval rfl rfl) evn)) Try.call33) (cover11_calls key hk (List.drop 16 (List.take 200 b)) (by simp only [List.length_take, List.length_drop]; omega) _ _ (rdB_slcL (l := 16) (RdB.rn (rdB_cut (hr.rd _ hH.chg)) rfl) (by omega))) ?_
    rintro _ w6 ⟨⟨y2, rfl, ho, hg⟩, hx⟩
    refine ⟨_, rfl, ?_⟩
    replace hH : Heap (newN w) w w6 [oBlk g1 (cBs key) 26, oB y1 (openV key (List.take 200 b)), oB y2 (cov key (List.drop 16 (List.take 200 b)))] := hH.addOwn hx hg ho
    clear ho hg
    clear hx
    refine lf_val (v := y2) (wantAll rfl) (rv_assign rfl (fr_eval rfl rfl)) ?_
    refine lf_nil ?_
    refine then_n ?_
    refine wp_seq ?_
    refine wp_gen (fun F' => F' 0 = .agg (cBs key).toArray ∧ F' 1 = cutV v b 200 ∧ F' 2 = .pointer (some ⟨g1, 0, none⟩) ∧ F' 4 = .bool false ∧ F' 5 = y1 ∧ F' 6 = .int .i64 (openE key (List.take 200 b)) ∧ F' 7 = y2 ∧ F' 19 = .bool false) ⟨e0, e1, e2, e4, e5, e6, rfl, e19⟩ ?_
    clear e0 e1 e2 e4 e5 e6 e19
    clear F
    rintro F ⟨e0, e1, e2, e4, e5, e6, e7, e19⟩
    refine wp_regionF ?_
    refine lf_val (v := .slice (some ⟨g1, 0, none⟩) 32 32) (wantAll rfl) (rv_sliceArr rfl (fr_eval rfl e2) Try.underlying26 Try.sz5 (by decide)) ?_
    refine lf_val (v := y2) (wantAll rfl) (rv_move rfl (fr_eval rfl e7)) ?_
    refine lf_ex (wantAll rfl) (hx_lits hH Try.stBB (n := 2) (nm := 2) [(.tmp 34), (.tmp 35)] (vs := [.slice (some ⟨g1, 0, none⟩) 32 32, y2]) rfl (evc (fr_eval rfl rfl) (evc (fr_eval rfl rfl) evn)) (ones_cons (Rd.oneV (rdB_blkn (hH.blk (i := 0) rfl) hk (by decide))) (ones_cons (Rd.oneV (OwnB.rd (hH.own (i := 2) rfl))) ones_nil)) rfl (by decide) rfl rfl) ?_
    clear hH
    rintro y3 w7 ⟨hH, hx⟩
    replace hH : Heap (newN w) w w7 [oBlk g1 (cBs key) 26, oB y1 (openV key (List.take 200 b)), oB y2 (cov key (List.drop 16 (List.take 200 b))), oOwn 22 1 y3 2 [.slice (some ⟨g1, 0, none⟩) 32 32, y2]] := hH
    clear hx
    refine lf_call (wantAll rfl) (rv_call (args := [cB 52, y3]) rfl (evc rfl (evc (fr_eval rfl rfl) evn)) Try.call20) (join_calls 52 [key, cov key (List.drop 16 (List.take 200 b))] (flat3 hk _ (by simp only [cov_len, List.length_drop]; omega)) _ _ (rdP_own (hH.own (i := 3) rfl) (.cons (rdB_blkn (hH.blk (i := 0) rfl) hk (by decide)) (.cons (OwnB.rd (hH.own (i := 2) rfl)) .nil)) rfl)) ?_
    rintro _ w8 ⟨rfl, hx⟩
    refine ⟨_, rfl, ?_⟩
    replace hH := hH.ext hx
    clear hx
    refine lf_ex (wantAll rfl) (hx_alloc hH 26 (z := .agg (cBs (List.replicate 32 0)).toArray) (n := 32) (cs := cBs (List.replicate 32 0)) rfl (by kernel_rfl) (by rfl)) ?_
    clear hH
    rintro _ w9 ⟨g2, rfl, hH, hx⟩
    replace hH : Heap (newN w) w w9 [oBlk g1 (cBs key) 26, oB y1 (openV key (List.take 200 b)), oB y2 (cov key (List.drop 16 (List.take 200 b))), oOwn 22 1 y3 2 [.slice (some ⟨g1, 0, none⟩) 32 32, y2], oBlk g2 (cBs (List.replicate 32 0)) 26] := hH
    clear hx
    refine lf_sk (wantAll rfl) (hx_storeW hH (i := 4) (cs := cBs (join 52 [key, cov key (List.drop 16 (List.take 200 b))])) rfl rfl rfl (fr_eval rfl rfl) (fr_eval rfl rfl) (sz_len Try.sz26 (cBs_len (join_length _ _))) (((cBs_len (List.length_replicate ..))).trans ((cBs_len (join_length _ _))).symm) ((cBs_one _))) ?_
    clear hH
    rintro w10 ⟨hH, hx⟩
    replace hH : Heap (newN w) w w10 [oBlk g1 (cBs key) 26, oB y1 (openV key (List.take 200 b)), oB y2 (cov key (List.drop 16 (List.take 200 b))), oOwn 22 1 y3 2 [.slice (some ⟨g1, 0, none⟩) 32 32, y2], oBlk g2 (cBs (join 52 [key, cov key (List.drop 16 (List.take 200 b))])) 26] := hH
    clear hx
    refine lf_nil ?_
    refine then_n ?_
    refine wp_seq ?_
    refine wp_seq ?_
    replace hH : Heap (newN w) w w10 [oBlk g1 (cBs key) 26, oB y1 (openV key (List.take 200 b)), oB y2 (cov key (List.drop 16 (List.take 200 b))), oBlk g2 (cBs (join 52 [key, cov key (List.drop 16 (List.take 200 b))])) 26] := hH.drop (.cons_cons _ (.cons_cons _ (.cons_cons _ (.cons _ (.cons_cons _ .slnil)))))
    refine wp_gen (fun F' => F' 0 = .agg (cBs key).toArray ∧ F' 1 = cutV v b 200 ∧ F' 2 = .pointer (some ⟨g1, 0, none⟩) ∧ F' 4 = .bool false ∧ F' 5 = y1 ∧ F' 6 = .int .i64 (openE key (List.take 200 b)) ∧ F' 7 = y2 ∧ F' 8 = .pointer (some ⟨g2, 0, none⟩) ∧ F' 19 = .bool false) ⟨e0, e1, e2, e4, e5, e6, e7, rfl, e19⟩ ?_
    clear e0 e1 e2 e4 e5 e6 e7 e19
    clear F
    rintro F ⟨e0, e1, e2, e4, e5, e6, e7, e8, e19⟩
    refine wp_regionX (fun _ => False) 5 (by kernel_rfl) (by kernel_rfl) ?_
    refine xl_take (i := 0) (v := .slice (some ⟨g2, 0, none⟩) 16 32) rfl (by kernel_rfl) (by kernel_rfl) (by kernel_rfl) (by kernel_rfl) (yx_val (wantAll rfl) (fun w' hx' => rv_sliceArrH (h := 16) rfl (fr_eval rfl e8) (show _ = Value.int _ ((16 : Nat) : Int) from rfl) Try.underlying26 Try.sz5 (by decide) (by decide))) ?_
    refine xl_take (i := 1) (v := .string ⟨(List.take 16 (join 52 [key, cov key (List.drop 16 (List.take 200 b))])).toArray⟩) rfl (by kernel_rfl) (by kernel_rfl) (by kernel_rfl) (by kernel_rfl) (yx_val (wantAll rfl) (fun w' hx' => rv_str rfl (fr_eval rfl rfl) (rdB_blkH ((hH.ext hx').blk (i := 3) rfl) (join_length _ _) (by decide)) Try.underlying22 Try.underlying5 Try.underlying9)) ?_
    refine xl_take (i := 2) (v := cutV v b 200) rfl (by kernel_rfl) (by kernel_rfl) (by kernel_rfl) (by kernel_rfl) (yx_val (wantAll rfl) (fun w' hx' => rv_move rfl (fr_eval rfl e1))) ?_
    refine xl_take (i := 3) (v := slcV (cutV v b 200) 1 0 16) rfl (by kernel_rfl) (by kernel_rfl) (by kernel_rfl) (by kernel_rfl) (yx_val (wantAll rfl) (fun w' hx' => rv_slcH (h := 16) Try.stB rfl (fr_eval rfl rfl) (RdB.rn (rdB_cut (hr.rd _ (hH.chg.trans (Ext.any hx')))) rfl) (show _ = Value.int _ ((16 : Nat) : Int) from rfl) (by omega))) ?_
    refine xl_take (i := 4) (v := .string ⟨(List.take 16 (List.take 200 b)).toArray⟩) rfl (by kernel_rfl) (by kernel_rfl) (by kernel_rfl) (by kernel_rfl) (yx_val (wantAll rfl) (fun w' hx' => rv_str rfl (fr_eval rfl rfl) (rdB_slcH (h := 16) (RdB.rn (rdB_cut (hr.rd _ (hH.chg.trans (Ext.any hx')))) rfl) (by omega)) Try.underlying22 Try.underlying5 Try.underlying9)) ?_
    refine xl_tail (s := 5) rfl ?_
    intro w11 hx
    replace hH := hH.ext hx
    clear hx
    refine lf_val (v := .bool (!(decide (vmark key (cov key (List.drop 16 (List.take 200 b))) = List.take 16 (List.take 200 b))))) (wantAll rfl) (rv_nes (b := (decide (vmark key (cov key (List.drop 16 (List.take 200 b))) = List.take 16 (List.take 200 b)))) rfl (fr_eval rfl rfl) (fr_eval rfl rfl) rfl) ?_
    refine lf_nil ?_
    refine then_n ?_
    refine wp_gen (fun F' => F' 0 = .agg (cBs key).toArray ∧ F' 1 = cutV v b 200 ∧ F' 2 = .pointer (some ⟨g1, 0, none⟩) ∧ F' 4 = .bool false ∧ F' 5 = y1 ∧ F' 6 = .int .i64 (openE key (List.take 200 b)) ∧ F' 7 = y2 ∧ F' 8 = .pointer (some ⟨g2, 0, none⟩) ∧ F' 19 = .bool false ∧ F' 43 = .bool (!(decide (vmark key (cov key (List.drop 16 (List.take 200 b))) = List.take 16 (List.take 200 b))))) ⟨e0, e1, e2, e4, e5, e6, e7, e8, e19, rfl⟩ ?_
    clear e0 e1 e2 e4 e5 e6 e7 e8 e19
    clear F
    rintro F ⟨e0, e1, e2, e4, e5, e6, e7, e8, e19, e43⟩
    cases hb1 : !(decide (vmark key (cov key (List.drop 16 (List.take 200 b))) = List.take 16 (List.take 200 b)))
    · refine wp_cond_false (fr_eval rfl (e43.trans (by rw [hb1]))) ?_
      refine wp_skip ?_
      refine then_n ?_
      refine wp_seq ?_
      have f1 : openE key (List.take 200 b) = 0 := by
        unfold openE; rw [if_neg (by omega), if_neg (by omega), if_pos (by simpa using hb1)]
      refine wp_regionF ?_
      refine lf_val (v := y1) (wantAll rfl) (rv_move rfl (fr_eval rfl e5)) ?_
      refine lf_val (v := .string ⟨(openV key (List.take 200 b)).toArray⟩) (wantAll rfl) (rv_str rfl (fr_eval rfl rfl) (OwnB.rd (hH.own (i := 1) rfl)) Try.underlying22 Try.underlying5 Try.underlying9) ?_
      refine lf_val (v := y2) (wantAll rfl) (rv_move rfl (fr_eval rfl e7)) ?_
      refine lf_val (v := .string ⟨(cov key (List.drop 16 (List.take 200 b))).toArray⟩) (wantAll rfl) (rv_str rfl (fr_eval rfl rfl) (OwnB.rd (hH.own (i := 2) rfl)) Try.underlying22 Try.underlying5 Try.underlying9) ?_
      refine lf_val (v := .bool true) (wantAll rfl) (rv_eqs (b := true) rfl (fr_eval rfl rfl) (fr_eval rfl rfl) (by exact decide_eq_true (open_v0 f1).symm)) ?_
      refine lf_val (v := .bool true) (wantAll rfl) (rv_move rfl (fr_eval rfl rfl)) ?_
      refine lf_val (v := .int .i64 (openE key (List.take 200 b))) (wantF (d := 59) rfl (by kernel_rfl) rfl rfl) (rv_move rfl (fr_eval rfl e6)) ?_
      refine lf_val (v := .bool true) (wantF (d := 59) rfl (by kernel_rfl) rfl rfl) (rv_eql rfl (fr_eval rfl rfl) rfl (decide_eq_true (by omega))) ?_
      refine lf_val (v := .bool true) (wantAll rfl) (rv_pickT rfl (fr_eval rfl rfl) (fr_eval rfl rfl)) ?_
      refine lf_val (v := .bool true) (wantAll rfl) (rv_move rfl (fr_eval rfl rfl)) ?_
      refine lf_call (wantF (d := 63) rfl (by kernel_rfl) rfl rfl) (rv_call (args := []) rfl evn Try.call36) (awake11_calls _) ?_
      rintro _ w12 ⟨rfl, hx⟩
      refine ⟨_, rfl, ?_⟩
      replace hH := hH.ext hx
      clear hx
      refine lf_val (v := .bool true) (wantAll rfl) (rv_pickT rfl (fr_eval rfl rfl) (fr_eval rfl rfl)) ?_
      refine lf_val (v := .bool true) (wantAll rfl) (rv_assign rfl (fr_eval rfl rfl)) ?_
      refine lf_nil ?_
      refine then_n ?_
      refine wp_gen (fun F' => F' 0 = .agg (cBs key).toArray ∧ F' 1 = cutV v b 200 ∧ F' 2 = .pointer (some ⟨g1, 0, none⟩) ∧ F' 4 = .bool true ∧ F' 5 = y1 ∧ F' 6 = .int .i64 (openE key (List.take 200 b)) ∧ F' 7 = y2 ∧ F' 8 = .pointer (some ⟨g2, 0, none⟩) ∧ F' 19 = .bool false ∧ F' 43 = .bool false) ⟨e0, e1, e2, rfl, e5, e6, e7, e8, e19, (e43.trans (by rw [hb1]))⟩ ?_
      clear e0 e1 e2 e4 e5 e6 e7 e8 e19 e43
      clear F
      rintro F ⟨e0, e1, e2, e4, e5, e6, e7, e8, e19, e43⟩
      refine wp_ret ?_
      exact bodyPost_ret (v := (.bool true)) (res1 rfl (ro_tmp rfl e4)) rfl (⟨rfl, hH.done⟩)
    · refine wp_cond_true (fr_eval rfl (e43.trans (by rw [hb1]))) ?_
      refine wp_seq ?_
      have f1 : openE key (List.take 200 b) = 4 := by
        unfold openE; rw [if_neg (by omega), if_neg (by omega), if_neg (fun h => by rw [decide_eq_true h] at hb1; cases hb1)]
      have f2 : List.length (openV key (List.take 200 b)) = 0 := openV_no (by rw [f1]; decide)
      refine wp_regionF ?_
      refine lf_val (v := y1) (wantAll rfl) (rv_move rfl (fr_eval rfl e5)) ?_
      refine lf_val (v := .int .i64 (((openV key (List.take 200 b)).length : Nat) : Int)) (wantAll rfl) (rv_len rfl (fr_eval rfl rfl) (RdB.rn (OwnB.rd (hH.own (i := 1) rfl)) rfl) Try.underlying22) ?_
      refine lf_val (v := .bool true) (wantAll rfl) (rv_eql rfl (fr_eval rfl rfl) rfl (decide_eq_true (by omega))) ?_
      refine lf_val (v := .bool true) (wantAll rfl) (rv_move rfl (fr_eval rfl rfl)) ?_
      refine lf_val (v := .int .i64 (openE key (List.take 200 b))) (wantF (d := 47) rfl (by kernel_rfl) rfl rfl) (rv_move rfl (fr_eval rfl e6)) ?_
      refine lf_val (v := .bool true) (wantF (d := 47) rfl (by kernel_rfl) rfl rfl) (rv_eql rfl (fr_eval rfl rfl) rfl (decide_eq_true (by omega))) ?_
      refine lf_val (v := .bool true) (wantAll rfl) (rv_pickT rfl (fr_eval rfl rfl) (fr_eval rfl rfl)) ?_
      refine lf_val (v := .bool true) (wantAll rfl) (rv_move rfl (fr_eval rfl rfl)) ?_
      refine lf_call (wantF (d := 51) rfl (by kernel_rfl) rfl rfl) (rv_call (args := []) rfl evn Try.call36) (awake11_calls _) ?_
      rintro _ w13 ⟨rfl, hx⟩
      refine ⟨_, rfl, ?_⟩
      replace hH := hH.ext hx
      clear hx
      refine lf_val (v := .bool true) (wantAll rfl) (rv_pickT rfl (fr_eval rfl rfl) (fr_eval rfl rfl)) ?_
      refine lf_val (v := .bool true) (wantAll rfl) (rv_assign rfl (fr_eval rfl rfl)) ?_
      refine lf_nil ?_
      refine then_n ?_
      refine wp_gen (fun F' => F' 0 = .agg (cBs key).toArray ∧ F' 1 = cutV v b 200 ∧ F' 2 = .pointer (some ⟨g1, 0, none⟩) ∧ F' 4 = .bool true ∧ F' 5 = y1 ∧ F' 6 = .int .i64 (openE key (List.take 200 b)) ∧ F' 7 = y2 ∧ F' 8 = .pointer (some ⟨g2, 0, none⟩) ∧ F' 19 = .bool false ∧ F' 43 = .bool true) ⟨e0, e1, e2, rfl, e5, e6, e7, e8, e19, (e43.trans (by rw [hb1]))⟩ ?_
      clear e0 e1 e2 e4 e5 e6 e7 e8 e19 e43
      clear F
      rintro F ⟨e0, e1, e2, e4, e5, e6, e7, e8, e19, e43⟩
      refine wp_ret ?_
      refine then_ret ?_
      exact bodyPost_ret (v := (.bool true)) (res1 rfl (ro_tmp rfl e4)) rfl (⟨rfl, hH.done⟩)

set_option maxRecDepth 100000 in
set_option maxHeartbeats 1000000 in
theorem veilLong_walk (size : Int) (hn : -9223372036854775808 ≤ size ∧ size ≤ 9223372036854775807) (w : World) :
    Calls Try.prog 11 #[.int .i64 size] w fun e'' w' => e'' = .returned (.bool true) ∧ Ext w w' := by
  refine calls_fr (args := [.int .i64 size]) (n := 76) Try.func11 rfl rfl (show 1 ≤ 76 by decide) ?_
  have hH : Heap (newN w) w w [] := Heap.fresh
  refine wp_seq ?_
  refine wp_gen (fun F' => F' 0 = .int .i64 size) rfl ?_
  rintro F e0
  refine wp_regionF ?_
  refine lf_val (v := .bool false) (wantAll rfl) (rv_assign rfl rfl) ?_
  refine lf_nil ?_
  refine then_n ?_
  refine wp_seq ?_
  refine wp_seq ?_
  refine wp_gen (fun F' => F' 0 = .int .i64 size ∧ F' 2 = .bool false) ⟨e0, rfl⟩ ?_
  clear e0
  clear F
  rintro F ⟨e0, e2⟩
  refine wp_regionF ?_
  refine lf_val (v := .int .i64 size) (wantAll rfl) (rv_move rfl (fr_eval rfl e0)) ?_
  by_cases hc1 : size < 65530
  · refine lf_val (v := .bool true) (wantAll rfl) (rv_lss rfl (fr_eval rfl rfl) rfl (decide_eq_true (by omega))) ?_
    refine lf_val (v := .bool true) (wantAll rfl) (rv_move rfl (fr_eval rfl rfl)) ?_
    refine lf_not (wantNot (d := 10) rfl (by kernel_rfl) rfl rfl) ?_
    refine lf_not (wantNot (d := 10) rfl (by kernel_rfl) rfl rfl) ?_
    refine lf_val (v := .bool true) (wantAll rfl) (rv_pickT rfl (fr_eval rfl rfl) rfl) ?_
    refine lf_nil ?_
    refine then_n ?_
    refine wp_gen (fun F' => F' 0 = .int .i64 size ∧ F' 2 = .bool false ∧ F' 13 = .bool true) ⟨e0, e2, rfl⟩ ?_
    clear e0 e2
    clear F
    rintro F ⟨e0, e2, e13⟩
    refine wp_cond_true (fr_eval rfl e13) ?_
    refine wp_seq ?_
    refine wp_regionF ?_
    refine lf_call (wantAll rfl) (rv_call (args := []) rfl evn Try.call36) (awake11_calls _) ?_
    rintro _ w1 ⟨rfl, hx⟩
    refine ⟨_, rfl, ?_⟩
    replace hH := hH.ext hx
    clear hx
    refine lf_val (v := .bool true) (wantAll rfl) (rv_assign rfl (fr_eval rfl rfl)) ?_
    refine lf_nil ?_
    refine then_n ?_
    refine wp_gen (fun F' => F' 0 = .int .i64 size ∧ F' 2 = .bool true ∧ F' 13 = .bool true) ⟨e0, rfl, e13⟩ ?_
    clear e0 e2 e13
    clear F
    rintro F ⟨e0, e2, e13⟩
    refine wp_ret ?_
    refine then_ret ?_
    exact bodyPost_ret (v := (.bool true)) (res1 rfl (ro_tmp rfl e2)) rfl (⟨rfl, hH.done⟩)
  · refine lf_val (v := .bool false) (wantAll rfl) (rv_lss rfl (fr_eval rfl rfl) rfl (decide_eq_false (by omega))) ?_
    refine lf_val (v := .bool false) (wantAll rfl) (rv_move rfl (fr_eval rfl rfl)) ?_
    refine lf_val (v := .int .i64 size) (wantF (d := 10) rfl (by kernel_rfl) rfl rfl) (rv_move rfl (fr_eval rfl e0)) ?_
    by_cases hc2 : size > 65560
    · refine lf_val (v := .bool true) (wantF (d := 10) rfl (by kernel_rfl) rfl rfl) (rv_gtr rfl (fr_eval rfl rfl) rfl (decide_eq_true (by omega))) ?_
      refine lf_val (v := .bool true) (wantAll rfl) (rv_pickF rfl (fr_eval rfl rfl) (fr_eval rfl rfl)) ?_
      refine lf_nil ?_
      refine then_n ?_
      refine wp_gen (fun F' => F' 0 = .int .i64 size ∧ F' 2 = .bool false ∧ F' 13 = .bool true) ⟨e0, e2, rfl⟩ ?_
      clear e0 e2
      clear F
      rintro F ⟨e0, e2, e13⟩
      refine wp_cond_true (fr_eval rfl e13) ?_
      refine wp_seq ?_
      refine wp_regionF ?_
      refine lf_call (wantAll rfl) (rv_call (args := []) rfl evn Try.call36) (awake11_calls _) ?_
      rintro _ w2 ⟨rfl, hx⟩
      refine ⟨_, rfl, ?_⟩
      replace hH := hH.ext hx
      clear hx
      refine lf_val (v := .bool true) (wantAll rfl) (rv_assign rfl (fr_eval rfl rfl)) ?_
      refine lf_nil ?_
      refine then_n ?_
      refine wp_gen (fun F' => F' 0 = .int .i64 size ∧ F' 2 = .bool true ∧ F' 13 = .bool true) ⟨e0, rfl, e13⟩ ?_
      clear e0 e2 e13
      clear F
      rintro F ⟨e0, e2, e13⟩
      refine wp_ret ?_
      refine then_ret ?_
      exact bodyPost_ret (v := (.bool true)) (res1 rfl (ro_tmp rfl e2)) rfl (⟨rfl, hH.done⟩)
    · refine lf_val (v := .bool false) (wantF (d := 10) rfl (by kernel_rfl) rfl rfl) (rv_gtr rfl (fr_eval rfl rfl) rfl (decide_eq_false (by omega))) ?_
      refine lf_val (v := .bool false) (wantAll rfl) (rv_pickF rfl (fr_eval rfl rfl) (fr_eval rfl rfl)) ?_
      refine lf_nil ?_
      refine then_n ?_
      refine wp_gen (fun F' => F' 0 = .int .i64 size ∧ F' 2 = .bool false ∧ F' 13 = .bool false) ⟨e0, e2, rfl⟩ ?_
      clear e0 e2
      clear F
      rintro F ⟨e0, e2, e13⟩
      refine wp_cond_false (fr_eval rfl e13) ?_
      refine wp_skip ?_
      refine then_n ?_
      refine wp_seq ?_
      obtain ⟨k, rfl⟩ : ∃ k : Nat, size = (k : Int) := ⟨size.toNat, by omega⟩
      have hB : List.length (List.replicate k (0 : UInt8)) = k := List.length_replicate ..
      refine wp_regionF ?_
      refine lf_val (v := .int .i64 ((k : Nat) : Int)) (wantAll rfl) (rv_move rfl (fr_eval rfl e0)) ?_
      refine lf_ex (wantAll rfl) (hx_make hH Try.stB (n := k) (nm := List.length (List.replicate k (0 : UInt8))) (z1 := .int .u8 0) (xs := cBs (List.replicate k (0 : UInt8))) rfl (fr_eval rfl rfl) (fr_eval rfl rfl) (by omega) rfl (zeros_b _) (List.length_replicate ..).symm) ?_
      clear hH
      rintro y1 w3 ⟨hH, hx⟩
      replace hH : Heap (newN w) w w3 [oB y1 (List.replicate k (0 : UInt8))] := hH
      clear hx
      refine lf_val (v := y1) (wantAll rfl) (rv_assign rfl (fr_eval rfl rfl)) ?_
      refine lf_nil ?_
      refine then_n ?_
      refine wp_seq ?_
      refine wp_gen (fun F' => F' 0 = .int .i64 ((k : Nat) : Int) ∧ F' 2 = .bool false ∧ F' 3 = y1 ∧ F' 13 = .bool false) ⟨e0, e2, rfl, e13⟩ ?_
      clear e0 e2 e13
      clear F
      rintro F ⟨e0, e2, e3, e13⟩
      refine wp_regionF ?_
      refine lf_val (v := .agg (cBs (List.replicate 32 0)).toArray) (wantAll rfl) (by kernel_rfl) ?_
      refine lf_val (v := y1) (wantAll rfl) (rv_move rfl (fr_eval rfl e3)) ?_
      refine lf_call (wantAll rfl) (rv_call (args := [.agg (cBs (List.replicate 32 0)).toArray, y1]) rfl (evc (fr_eval rfl rfl) (evc (fr_eval rfl rfl) evn)) Try.call34) (close_calls (List.replicate 32 0) (List.length_replicate ..) (List.replicate k (0 : UInt8)) (by rw [hB]; omega) _ _ (OwnB.rd (hH.own (i := 0) rfl))) ?_
      rintro _ w4 ⟨⟨y2, rfl, ho, hg⟩, hx⟩
      refine ⟨_, rfl, ?_⟩
      replace hH : Heap (newN w) w w4 [oB y1 (List.replicate k (0 : UInt8)), oB y2 (closeV (List.replicate 32 0) (List.replicate k (0 : UInt8)))] := hH.addOwn hx hg ho
      clear ho hg
      clear hx
      refine lf_val (v := .tuple #[y2, .int .i64 (closeE (List.replicate k (0 : UInt8)))]) (wantAll rfl) (rv_move rfl (fr_eval rfl rfl)) ?_
      refine lf_val (v := y2) (wantAll rfl) (rv_extract rfl (fr_eval rfl rfl) rfl) ?_
      refine lf_val (v := .int .i64 (closeE (List.replicate k (0 : UInt8)))) (wantAll rfl) (rv_extract rfl (fr_eval rfl rfl) rfl) ?_
      refine lf_val (v := y2) (wantAll rfl) (rv_assign rfl (fr_eval rfl rfl)) ?_
      refine lf_val (v := .int .i64 (closeE (List.replicate k (0 : UInt8)))) (wantAll rfl) (rv_assign rfl (fr_eval rfl rfl)) ?_
      refine lf_nil ?_
      refine then_n ?_
      refine wp_seq ?_
      refine wp_gen (fun F' => F' 0 = .int .i64 ((k : Nat) : Int) ∧ F' 2 = .bool false ∧ F' 3 = y1 ∧ F' 4 = y2 ∧ F' 5 = .int .i64 (closeE (List.replicate k (0 : UInt8))) ∧ F' 13 = .bool false) ⟨e0, e2, e3, rfl, rfl, e13⟩ ?_
      clear e0 e2 e3 e13
      clear F
      rintro F ⟨e0, e2, e3, e4, e5, e13⟩
      refine wp_regionF ?_
      refine lf_val (v := .agg (cBs (List.replicate 32 0)).toArray) (wantAll rfl) (by kernel_rfl) ?_
      refine lf_val (v := y1) (wantAll rfl) (rv_move rfl (fr_eval rfl e3)) ?_
      refine lf_call (wantAll rfl) (rv_call (args := [.agg (cBs (List.replicate 32 0)).toArray, y1]) rfl (evc (fr_eval rfl rfl) (evc (fr_eval rfl rfl) evn)) Try.call35) (open_calls (List.replicate 32 0) (List.length_replicate ..) (List.replicate k (0 : UInt8)) (by rw [hB]; omega) _ _ (OwnB.rd (hH.own (i := 0) rfl))) ?_
      rintro _ w5 ⟨⟨y3, rfl, ho, hg⟩, hx⟩
      refine ⟨_, rfl, ?_⟩
      replace hH : Heap (newN w) w w5 [oB y1 (List.replicate k (0 : UInt8)), oB y2 (closeV (List.replicate 32 0) (List.replicate k (0 : UInt8))), oB y3 (openV (List.replicate 32 0) (List.replicate k (0 : UInt8)))] := hH.addOwn hx hg ho
      clear ho hg
      clear hx
      refine lf_val (v := .tuple #[y3, .int .i64 (openE (List.replicate 32 0) (List.replicate k (0 : UInt8)))]) (wantAll rfl) (rv_move rfl (fr_eval rfl rfl)) ?_
      refine lf_val (v := y3) (wantAll rfl) (rv_extract rfl (fr_eval rfl rfl) rfl) ?_
      refine lf_val (v := .int .i64 (openE (List.replicate 32 0) (List.replicate k (0 : UInt8)))) (wantAll rfl) (rv_extract rfl (fr_eval rfl rfl) rfl) ?_
      refine lf_val (v := y3) (wantAll rfl) (rv_assign rfl (fr_eval rfl rfl)) ?_
      refine lf_val (v := .int .i64 (openE (List.replicate 32 0) (List.replicate k (0 : UInt8)))) (wantAll rfl) (rv_assign rfl (fr_eval rfl rfl)) ?_
      refine lf_nil ?_
      refine then_n ?_
      refine wp_seq ?_
      refine wp_seq ?_
      refine wp_gen (fun F' => F' 0 = .int .i64 ((k : Nat) : Int) ∧ F' 2 = .bool false ∧ F' 3 = y1 ∧ F' 4 = y2 ∧ F' 5 = .int .i64 (closeE (List.replicate k (0 : UInt8))) ∧ F' 6 = y3 ∧ F' 7 = .int .i64 (openE (List.replicate 32 0) (List.replicate k (0 : UInt8))) ∧ F' 13 = .bool false) ⟨e0, e2, e3, e4, e5, rfl, rfl, e13⟩ ?_
      clear e0 e2 e3 e4 e5 e13
      clear F
      rintro F ⟨e0, e2, e3, e4, e5, e6, e7, e13⟩
      refine wp_regionF ?_
      refine lf_val (v := .int .i64 ((k : Nat) : Int)) (wantAll rfl) (rv_move rfl (fr_eval rfl e0)) ?_
      by_cases hc3 : k > 65536
      · refine lf_val (v := .bool true) (wantAll rfl) (rv_gtr rfl (fr_eval rfl rfl) rfl (decide_eq_true (by omega))) ?_
        refine lf_val (v := .bool true) (wantAll rfl) (rv_move rfl (fr_eval rfl rfl)) ?_
        refine lf_val (v := y2) (wantF (d := 31) rfl (by kernel_rfl) rfl rfl) (rv_move rfl (fr_eval rfl e4)) ?_
        obtain ⟨f1, f2⟩ := long_c0 (key := (List.replicate 32 0)) (t := (List.replicate k (0 : UInt8))) (by rw [hB]; omega)
        refine lf_val (v := .int .i64 (((closeV (List.replicate 32 0) (List.replicate k (0 : UInt8))).length : Nat) : Int)) (wantF (d := 31) rfl (by kernel_rfl) rfl rfl) (rv_len rfl (fr_eval rfl rfl) (RdB.rn (OwnB.rd (hH.own (i := 1) rfl)) rfl) Try.underlying22) ?_
        refine lf_val (v := .bool false) (wantF (d := 31) rfl (by kernel_rfl) rfl rfl) (rv_neq rfl (fr_eval rfl rfl) rfl (decide_eq_true (by omega))) ?_
        refine lf_val (v := .bool false) (wantF (d := 31) rfl (by kernel_rfl) rfl rfl) (rv_move rfl (fr_eval rfl rfl)) ?_
        refine lf_val (v := .int .i64 (closeE (List.replicate k (0 : UInt8)))) (wantF (d := 35) rfl (by kernel_rfl) rfl rfl) (rv_move rfl (fr_eval rfl e5)) ?_
        refine lf_val (v := .bool false) (wantF (d := 35) rfl (by kernel_rfl) rfl rfl) (rv_neq rfl (fr_eval rfl rfl) rfl (decide_eq_true (by omega))) ?_
        refine lf_val (v := .bool false) (wantF (d := 31) rfl (by kernel_rfl) rfl rfl) (rv_pickF rfl (fr_eval rfl rfl) (fr_eval rfl rfl)) ?_
        refine lf_val (v := .bool false) (wantAll rfl) (rv_pickT rfl (fr_eval rfl rfl) (fr_eval rfl rfl)) ?_
        refine lf_val (v := .bool false) (wantAll rfl) (rv_move rfl (fr_eval rfl rfl)) ?_
        refine lf_val (v := .int .i64 ((k : Nat) : Int)) (wantF (d := 40) rfl (by kernel_rfl) rfl rfl) (rv_move rfl (fr_eval rfl e0)) ?_
        by_cases hc4 : k ≤ 65536
        · refine lf_val (v := .bool true) (wantF (d := 40) rfl (by kernel_rfl) rfl rfl) (rv_leq rfl (fr_eval rfl rfl) rfl (decide_eq_true (by omega))) ?_
          refine lf_val (v := .bool true) (wantF (d := 40) rfl (by kernel_rfl) rfl rfl) (rv_move rfl (fr_eval rfl rfl)) ?_
          refine lf_val (v := y2) (wantF (d := 43) rfl (by kernel_rfl) rfl rfl) (rv_move rfl (fr_eval rfl e4)) ?_
          obtain ⟨f1, f2⟩ := long_c1 (key := (List.replicate 32 0)) (t := (List.replicate k (0 : UInt8))) (by rw [hB]; omega)
          refine lf_val (v := .int .i64 (((closeV (List.replicate 32 0) (List.replicate k (0 : UInt8))).length : Nat) : Int)) (wantF (d := 43) rfl (by kernel_rfl) rfl rfl) (rv_len rfl (fr_eval rfl rfl) (RdB.rn (OwnB.rd (hH.own (i := 1) rfl)) rfl) Try.underlying22) ?_
          refine lf_val (v := .int .i64 ((k : Nat) : Int)) (wantF (d := 43) rfl (by kernel_rfl) rfl rfl) (rv_move rfl (fr_eval rfl e0)) ?_
          refine lf_val (v := .int .i64 ((k + 16 : Nat) : Int)) (wantF (d := 43) rfl (by kernel_rfl) rfl rfl) (rv_add rfl (fr_eval rfl rfl) rfl (wrap_i64 (by omega) (by omega) (by omega))) ?_
          refine lf_val (v := .bool false) (wantF (d := 43) rfl (by kernel_rfl) rfl rfl) (rv_neq rfl (fr_eval rfl rfl) (fr_eval rfl rfl) (decide_eq_true (by omega))) ?_
          refine lf_val (v := .bool false) (wantF (d := 43) rfl (by kernel_rfl) rfl rfl) (rv_move rfl (fr_eval rfl rfl)) ?_
          refine lf_val (v := .int .i64 (closeE (List.replicate k (0 : UInt8)))) (wantF (d := 49) rfl (by kernel_rfl) rfl rfl) (rv_move rfl (fr_eval rfl e5)) ?_
          refine lf_val (v := .bool false) (wantF (d := 49) rfl (by kernel_rfl) rfl rfl) (rv_neq rfl (fr_eval rfl rfl) rfl (decide_eq_true (by omega))) ?_
          refine lf_val (v := .bool false) (wantF (d := 43) rfl (by kernel_rfl) rfl rfl) (rv_pickF rfl (fr_eval rfl rfl) (fr_eval rfl rfl)) ?_
          refine lf_val (v := .bool false) (wantF (d := 40) rfl (by kernel_rfl) rfl rfl) (rv_pickT rfl (fr_eval rfl rfl) (fr_eval rfl rfl)) ?_
          refine lf_val (v := .bool false) (wantAll rfl) (rv_pickF rfl (fr_eval rfl rfl) (fr_eval rfl rfl)) ?_
          refine lf_nil ?_
          refine then_n ?_
          refine wp_gen (fun F' => F' 0 = .int .i64 ((k : Nat) : Int) ∧ F' 2 = .bool false ∧ F' 3 = y1 ∧ F' 4 = y2 ∧ F' 5 = .int .i64 (closeE (List.replicate k (0 : UInt8))) ∧ F' 6 = y3 ∧ F' 7 = .int .i64 (openE (List.replicate 32 0) (List.replicate k (0 : UInt8))) ∧ F' 13 = .bool false ∧ F' 54 = .bool false) ⟨e0, e2, e3, e4, e5, e6, e7, e13, rfl⟩ ?_
          clear e0 e2 e3 e4 e5 e6 e7 e13
          clear F
          rintro F ⟨e0, e2, e3, e4, e5, e6, e7, e13, e54⟩
          refine wp_cond_false (fr_eval rfl e54) ?_
          refine wp_skip ?_
          refine then_n ?_
          refine wp_seq ?_
          refine wp_seq ?_
          refine wp_regionF ?_
          refine lf_val (v := .int .i64 ((k : Nat) : Int)) (wantAll rfl) (rv_move rfl (fr_eval rfl e0)) ?_
          by_cases hc5 : k > 65552
          · refine lf_val (v := .bool true) (wantAll rfl) (rv_gtr rfl (fr_eval rfl rfl) rfl (decide_eq_true (by omega))) ?_
            refine lf_nil ?_
            refine then_n ?_
            refine wp_gen (fun F' => F' 0 = .int .i64 ((k : Nat) : Int) ∧ F' 2 = .bool false ∧ F' 3 = y1 ∧ F' 4 = y2 ∧ F' 5 = .int .i64 (closeE (List.replicate k (0 : UInt8))) ∧ F' 6 = y3 ∧ F' 7 = .int .i64 (openE (List.replicate 32 0) (List.replicate k (0 : UInt8))) ∧ F' 13 = .bool false ∧ F' 54 = .bool false ∧ F' 56 = .bool true) ⟨e0, e2, e3, e4, e5, e6, e7, e13, e54, rfl⟩ ?_
            clear e0 e2 e3 e4 e5 e6 e7 e13 e54
            clear F
            rintro F ⟨e0, e2, e3, e4, e5, e6, e7, e13, e54, e56⟩
            refine wp_cond_true (fr_eval rfl e56) ?_
            refine wp_seq ?_
            obtain ⟨f3, f4⟩ := long_o0 (key := (List.replicate 32 0)) (b := (List.replicate k (0 : UInt8))) (by rw [hB]; omega)
            refine wp_regionF ?_
            refine lf_val (v := y3) (wantAll rfl) (rv_move rfl (fr_eval rfl e6)) ?_
            refine lf_val (v := .int .i64 (((openV (List.replicate 32 0) (List.replicate k (0 : UInt8))).length : Nat) : Int)) (wantAll rfl) (rv_len rfl (fr_eval rfl rfl) (RdB.rn (OwnB.rd (hH.own (i := 2) rfl)) rfl) Try.underlying22) ?_
            refine lf_val (v := .bool true) (wantAll rfl) (rv_eql rfl (fr_eval rfl rfl) rfl (decide_eq_true (by omega))) ?_
            refine lf_val (v := .bool true) (wantAll rfl) (rv_move rfl (fr_eval rfl rfl)) ?_
            refine lf_val (v := .int .i64 (openE (List.replicate 32 0) (List.replicate k (0 : UInt8)))) (wantF (d := 60) rfl (by kernel_rfl) rfl rfl) (rv_move rfl (fr_eval rfl e7)) ?_
            refine lf_val (v := .bool true) (wantF (d := 60) rfl (by kernel_rfl) rfl rfl) (rv_eql rfl (fr_eval rfl rfl) rfl (decide_eq_true (by omega))) ?_
            refine lf_val (v := .bool true) (wantAll rfl) (rv_pickT rfl (fr_eval rfl rfl) (fr_eval rfl rfl)) ?_
            refine lf_val (v := .bool true) (wantAll rfl) (rv_move rfl (fr_eval rfl rfl)) ?_
            refine lf_call (wantF (d := 64) rfl (by kernel_rfl) rfl rfl) (rv_call (args := []) rfl evn Try.call36) (awake11_calls _) ?_
            rintro _ w6 ⟨rfl, hx⟩
            refine ⟨_, rfl, ?_⟩
            replace hH := hH.ext hx
            clear hx
            refine lf_val (v := .bool true) (wantAll rfl) (rv_pickT rfl (fr_eval rfl rfl) (fr_eval rfl rfl)) ?_
            refine lf_val (v := .bool true) (wantAll rfl) (rv_assign rfl (fr_eval rfl rfl)) ?_
            refine lf_nil ?_
            refine then_n ?_
            refine wp_gen (fun F' => F' 0 = .int .i64 ((k : Nat) : Int) ∧ F' 2 = .bool true ∧ F' 3 = y1 ∧ F' 4 = y2 ∧ F' 5 = .int .i64 (closeE (List.replicate k (0 : UInt8))) ∧ F' 6 = y3 ∧ F' 7 = .int .i64 (openE (List.replicate 32 0) (List.replicate k (0 : UInt8))) ∧ F' 13 = .bool false ∧ F' 54 = .bool false ∧ F' 56 = .bool true) ⟨e0, rfl, e3, e4, e5, e6, e7, e13, e54, e56⟩ ?_
            clear e0 e2 e3 e4 e5 e6 e7 e13 e54 e56
            clear F
            rintro F ⟨e0, e2, e3, e4, e5, e6, e7, e13, e54, e56⟩
            refine wp_ret ?_
            refine then_ret ?_
            exact bodyPost_ret (v := (.bool true)) (res1 rfl (ro_tmp rfl e2)) rfl (⟨rfl, hH.done⟩)
          · refine lf_val (v := .bool false) (wantAll rfl) (rv_gtr rfl (fr_eval rfl rfl) rfl (decide_eq_false (by omega))) ?_
            refine lf_nil ?_
            refine then_n ?_
            refine wp_gen (fun F' => F' 0 = .int .i64 ((k : Nat) : Int) ∧ F' 2 = .bool false ∧ F' 3 = y1 ∧ F' 4 = y2 ∧ F' 5 = .int .i64 (closeE (List.replicate k (0 : UInt8))) ∧ F' 6 = y3 ∧ F' 7 = .int .i64 (openE (List.replicate 32 0) (List.replicate k (0 : UInt8))) ∧ F' 13 = .bool false ∧ F' 54 = .bool false ∧ F' 56 = .bool false) ⟨e0, e2, e3, e4, e5, e6, e7, e13, e54, rfl⟩ ?_
            clear e0 e2 e3 e4 e5 e6 e7 e13 e54
            clear F
            rintro F ⟨e0, e2, e3, e4, e5, e6, e7, e13, e54, e56⟩
            refine wp_cond_false (fr_eval rfl e56) ?_
            refine wp_skip ?_
            refine then_n ?_
            refine wp_seq ?_
            obtain ⟨f3, f4⟩ := long_o1 (key := (List.replicate 32 0)) (b := (List.replicate k (0 : UInt8))) (by rw [hB]; omega) (by rw [hB]; omega)
            refine wp_regionF ?_
            refine lf_val (v := .int .i64 (openE (List.replicate 32 0) (List.replicate k (0 : UInt8)))) (wantAll rfl) (rv_move rfl (fr_eval rfl e7)) ?_
            refine lf_val (v := .bool true) (wantAll rfl) (rv_neq rfl (fr_eval rfl rfl) rfl (decide_eq_false (by omega))) ?_
            refine lf_val (v := .bool true) (wantAll rfl) (rv_move rfl (fr_eval rfl rfl)) ?_
            refine lf_val (v := .int .i64 (openE (List.replicate 32 0) (List.replicate k (0 : UInt8)))) (wantF (d := 69) rfl (by kernel_rfl) rfl rfl) (rv_move rfl (fr_eval rfl e7)) ?_
            refine lf_val (v := .bool true) (wantF (d := 69) rfl (by kernel_rfl) rfl rfl) (rv_neq rfl (fr_eval rfl rfl) rfl (decide_eq_false (by omega))) ?_
            refine lf_val (v := .bool true) (wantAll rfl) (rv_pickT rfl (fr_eval rfl rfl) (fr_eval rfl rfl)) ?_
            refine lf_val (v := .bool true) (wantAll rfl) (rv_move rfl (fr_eval rfl rfl)) ?_
            refine lf_call (wantF (d := 73) rfl (by kernel_rfl) rfl rfl) (rv_call (args := []) rfl evn Try.call36) (awake11_calls _) ?_
            rintro _ w7 ⟨rfl, hx⟩
            refine ⟨_, rfl, ?_⟩
            replace hH := hH.ext hx
            clear hx
            refine lf_val (v := .bool true) (wantAll rfl) (rv_pickT rfl (fr_eval rfl rfl) (fr_eval rfl rfl)) ?_
            refine lf_val (v := .bool true) (wantAll rfl) (rv_assign rfl (fr_eval rfl rfl)) ?_
            refine lf_nil ?_
            refine then_n ?_
            refine wp_gen (fun F' => F' 0 = .int .i64 ((k : Nat) : Int) ∧ F' 2 = .bool true ∧ F' 3 = y1 ∧ F' 4 = y2 ∧ F' 5 = .int .i64 (closeE (List.replicate k (0 : UInt8))) ∧ F' 6 = y3 ∧ F' 7 = .int .i64 (openE (List.replicate 32 0) (List.replicate k (0 : UInt8))) ∧ F' 13 = .bool false ∧ F' 54 = .bool false ∧ F' 56 = .bool false) ⟨e0, rfl, e3, e4, e5, e6, e7, e13, e54, e56⟩ ?_
            clear e0 e2 e3 e4 e5 e6 e7 e13 e54 e56
            clear F
            rintro F ⟨e0, e2, e3, e4, e5, e6, e7, e13, e54, e56⟩
            refine wp_ret ?_
            exact bodyPost_ret (v := (.bool true)) (res1 rfl (ro_tmp rfl e2)) rfl (⟨rfl, hH.done⟩)
        · refine lf_val (v := .bool false) (wantF (d := 40) rfl (by kernel_rfl) rfl rfl) (rv_leq rfl (fr_eval rfl rfl) rfl (decide_eq_false (by omega))) ?_
          refine lf_val (v := .bool false) (wantF (d := 40) rfl (by kernel_rfl) rfl rfl) (rv_move rfl (fr_eval rfl rfl)) ?_
          refine lf_not (wantNot (d := 43) rfl (by kernel_rfl) rfl rfl) ?_
          refine lf_not (wantNot (d := 43) rfl (by kernel_rfl) rfl rfl) ?_
          refine lf_not (wantNot (d := 43) rfl (by kernel_rfl) rfl rfl) ?_
          refine lf_not (wantNot (d := 43) rfl (by kernel_rfl) rfl rfl) ?_
          refine lf_not (wantNot (d := 43) rfl (by kernel_rfl) rfl rfl) ?_
          refine lf_not (wantNot (d := 43) rfl (by kernel_rfl) rfl rfl) ?_
          refine lf_not (wantU (d := 49) rfl (by kernel_rfl) rfl rfl) ?_
          refine lf_not (wantU (d := 49) rfl (by kernel_rfl) rfl rfl) ?_
          refine lf_not (wantNot (d := 43) rfl (by kernel_rfl) rfl rfl) ?_
          refine lf_val (v := .bool false) (wantF (d := 40) rfl (by kernel_rfl) rfl rfl) (rv_pickF rfl (fr_eval rfl rfl) rfl) ?_
          refine lf_val (v := .bool false) (wantAll rfl) (rv_pickF rfl (fr_eval rfl rfl) (fr_eval rfl rfl)) ?_
          refine lf_nil ?_
          refine then_n ?_
          refine wp_gen (fun F' => F' 0 = .int .i64 ((k : Nat) : Int) ∧ F' 2 = .bool false ∧ F' 3 = y1 ∧ F' 4 = y2 ∧ F' 5 = .int .i64 (closeE (List.replicate k (0 : UInt8))) ∧ F' 6 = y3 ∧ F' 7 = .int .i64 (openE (List.replicate 32 0) (List.replicate k (0 : UInt8))) ∧ F' 13 = .bool false ∧ F' 54 = .bool false) ⟨e0, e2, e3, e4, e5, e6, e7, e13, rfl⟩ ?_
          clear e0 e2 e3 e4 e5 e6 e7 e13
          clear F
          rintro F ⟨e0, e2, e3, e4, e5, e6, e7, e13, e54⟩
          refine wp_cond_false (fr_eval rfl e54) ?_
          refine wp_skip ?_
          refine then_n ?_
          refine wp_seq ?_
          refine wp_seq ?_
          refine wp_regionF ?_
          refine lf_val (v := .int .i64 ((k : Nat) : Int)) (wantAll rfl) (rv_move rfl (fr_eval rfl e0)) ?_
          by_cases hc6 : k > 65552
          · refine lf_val (v := .bool true) (wantAll rfl) (rv_gtr rfl (fr_eval rfl rfl) rfl (decide_eq_true (by omega))) ?_
            refine lf_nil ?_
            refine then_n ?_
            refine wp_gen (fun F' => F' 0 = .int .i64 ((k : Nat) : Int) ∧ F' 2 = .bool false ∧ F' 3 = y1 ∧ F' 4 = y2 ∧ F' 5 = .int .i64 (closeE (List.replicate k (0 : UInt8))) ∧ F' 6 = y3 ∧ F' 7 = .int .i64 (openE (List.replicate 32 0) (List.replicate k (0 : UInt8))) ∧ F' 13 = .bool false ∧ F' 54 = .bool false ∧ F' 56 = .bool true) ⟨e0, e2, e3, e4, e5, e6, e7, e13, e54, rfl⟩ ?_
            clear e0 e2 e3 e4 e5 e6 e7 e13 e54
            clear F
            rintro F ⟨e0, e2, e3, e4, e5, e6, e7, e13, e54, e56⟩
            refine wp_cond_true (fr_eval rfl e56) ?_
            refine wp_seq ?_
            obtain ⟨f3, f4⟩ := long_o0 (key := (List.replicate 32 0)) (b := (List.replicate k (0 : UInt8))) (by rw [hB]; omega)
            refine wp_regionF ?_
            refine lf_val (v := y3) (wantAll rfl) (rv_move rfl (fr_eval rfl e6)) ?_
            refine lf_val (v := .int .i64 (((openV (List.replicate 32 0) (List.replicate k (0 : UInt8))).length : Nat) : Int)) (wantAll rfl) (rv_len rfl (fr_eval rfl rfl) (RdB.rn (OwnB.rd (hH.own (i := 2) rfl)) rfl) Try.underlying22) ?_
            refine lf_val (v := .bool true) (wantAll rfl) (rv_eql rfl (fr_eval rfl rfl) rfl (decide_eq_true (by omega))) ?_
            refine lf_val (v := .bool true) (wantAll rfl) (rv_move rfl (fr_eval rfl rfl)) ?_
            refine lf_val (v := .int .i64 (openE (List.replicate 32 0) (List.replicate k (0 : UInt8)))) (wantF (d := 60) rfl (by kernel_rfl) rfl rfl) (rv_move rfl (fr_eval rfl e7)) ?_
            refine lf_val (v := .bool true) (wantF (d := 60) rfl (by kernel_rfl) rfl rfl) (rv_eql rfl (fr_eval rfl rfl) rfl (decide_eq_true (by omega))) ?_
            refine lf_val (v := .bool true) (wantAll rfl) (rv_pickT rfl (fr_eval rfl rfl) (fr_eval rfl rfl)) ?_
            refine lf_val (v := .bool true) (wantAll rfl) (rv_move rfl (fr_eval rfl rfl)) ?_
            refine lf_call (wantF (d := 64) rfl (by kernel_rfl) rfl rfl) (rv_call (args := []) rfl evn Try.call36) (awake11_calls _) ?_
            rintro _ w8 ⟨rfl, hx⟩
            refine ⟨_, rfl, ?_⟩
            replace hH := hH.ext hx
            clear hx
            refine lf_val (v := .bool true) (wantAll rfl) (rv_pickT rfl (fr_eval rfl rfl) (fr_eval rfl rfl)) ?_
            refine lf_val (v := .bool true) (wantAll rfl) (rv_assign rfl (fr_eval rfl rfl)) ?_
            refine lf_nil ?_
            refine then_n ?_
            refine wp_gen (fun F' => F' 0 = .int .i64 ((k : Nat) : Int) ∧ F' 2 = .bool true ∧ F' 3 = y1 ∧ F' 4 = y2 ∧ F' 5 = .int .i64 (closeE (List.replicate k (0 : UInt8))) ∧ F' 6 = y3 ∧ F' 7 = .int .i64 (openE (List.replicate 32 0) (List.replicate k (0 : UInt8))) ∧ F' 13 = .bool false ∧ F' 54 = .bool false ∧ F' 56 = .bool true) ⟨e0, rfl, e3, e4, e5, e6, e7, e13, e54, e56⟩ ?_
            clear e0 e2 e3 e4 e5 e6 e7 e13 e54 e56
            clear F
            rintro F ⟨e0, e2, e3, e4, e5, e6, e7, e13, e54, e56⟩
            refine wp_ret ?_
            refine then_ret ?_
            exact bodyPost_ret (v := (.bool true)) (res1 rfl (ro_tmp rfl e2)) rfl (⟨rfl, hH.done⟩)
          · refine lf_val (v := .bool false) (wantAll rfl) (rv_gtr rfl (fr_eval rfl rfl) rfl (decide_eq_false (by omega))) ?_
            refine lf_nil ?_
            refine then_n ?_
            refine wp_gen (fun F' => F' 0 = .int .i64 ((k : Nat) : Int) ∧ F' 2 = .bool false ∧ F' 3 = y1 ∧ F' 4 = y2 ∧ F' 5 = .int .i64 (closeE (List.replicate k (0 : UInt8))) ∧ F' 6 = y3 ∧ F' 7 = .int .i64 (openE (List.replicate 32 0) (List.replicate k (0 : UInt8))) ∧ F' 13 = .bool false ∧ F' 54 = .bool false ∧ F' 56 = .bool false) ⟨e0, e2, e3, e4, e5, e6, e7, e13, e54, rfl⟩ ?_
            clear e0 e2 e3 e4 e5 e6 e7 e13 e54
            clear F
            rintro F ⟨e0, e2, e3, e4, e5, e6, e7, e13, e54, e56⟩
            refine wp_cond_false (fr_eval rfl e56) ?_
            refine wp_skip ?_
            refine then_n ?_
            refine wp_seq ?_
            obtain ⟨f3, f4⟩ := long_o1 (key := (List.replicate 32 0)) (b := (List.replicate k (0 : UInt8))) (by rw [hB]; omega) (by rw [hB]; omega)
            refine wp_regionF ?_
            refine lf_val (v := .int .i64 (openE (List.replicate 32 0) (List.replicate k (0 : UInt8)))) (wantAll rfl) (rv_move rfl (fr_eval rfl e7)) ?_
            refine lf_val (v := .bool true) (wantAll rfl) (rv_neq rfl (fr_eval rfl rfl) rfl (decide_eq_false (by omega))) ?_
            refine lf_val (v := .bool true) (wantAll rfl) (rv_move rfl (fr_eval rfl rfl)) ?_
            refine lf_val (v := .int .i64 (openE (List.replicate 32 0) (List.replicate k (0 : UInt8)))) (wantF (d := 69) rfl (by kernel_rfl) rfl rfl) (rv_move rfl (fr_eval rfl e7)) ?_
            refine lf_val (v := .bool true) (wantF (d := 69) rfl (by kernel_rfl) rfl rfl) (rv_neq rfl (fr_eval rfl rfl) rfl (decide_eq_false (by omega))) ?_
            refine lf_val (v := .bool true) (wantAll rfl) (rv_pickT rfl (fr_eval rfl rfl) (fr_eval rfl rfl)) ?_
            refine lf_val (v := .bool true) (wantAll rfl) (rv_move rfl (fr_eval rfl rfl)) ?_
            refine lf_call (wantF (d := 73) rfl (by kernel_rfl) rfl rfl) (rv_call (args := []) rfl evn Try.call36) (awake11_calls _) ?_
            rintro _ w9 ⟨rfl, hx⟩
            refine ⟨_, rfl, ?_⟩
            replace hH := hH.ext hx
            clear hx
            refine lf_val (v := .bool true) (wantAll rfl) (rv_pickT rfl (fr_eval rfl rfl) (fr_eval rfl rfl)) ?_
            refine lf_val (v := .bool true) (wantAll rfl) (rv_assign rfl (fr_eval rfl rfl)) ?_
            refine lf_nil ?_
            refine then_n ?_
            refine wp_gen (fun F' => F' 0 = .int .i64 ((k : Nat) : Int) ∧ F' 2 = .bool true ∧ F' 3 = y1 ∧ F' 4 = y2 ∧ F' 5 = .int .i64 (closeE (List.replicate k (0 : UInt8))) ∧ F' 6 = y3 ∧ F' 7 = .int .i64 (openE (List.replicate 32 0) (List.replicate k (0 : UInt8))) ∧ F' 13 = .bool false ∧ F' 54 = .bool false ∧ F' 56 = .bool false) ⟨e0, rfl, e3, e4, e5, e6, e7, e13, e54, e56⟩ ?_
            clear e0 e2 e3 e4 e5 e6 e7 e13 e54 e56
            clear F
            rintro F ⟨e0, e2, e3, e4, e5, e6, e7, e13, e54, e56⟩
            refine wp_ret ?_
            exact bodyPost_ret (v := (.bool true)) (res1 rfl (ro_tmp rfl e2)) rfl (⟨rfl, hH.done⟩)
      · refine lf_val (v := .bool false) (wantAll rfl) (rv_gtr rfl (fr_eval rfl rfl) rfl (decide_eq_false (by omega))) ?_
        refine lf_val (v := .bool false) (wantAll rfl) (rv_move rfl (fr_eval rfl rfl)) ?_
        refine lf_not (wantNot (d := 31) rfl (by kernel_rfl) rfl rfl) ?_
        refine lf_not (wantNot (d := 31) rfl (by kernel_rfl) rfl rfl) ?_
        refine lf_not (wantNot (d := 31) rfl (by kernel_rfl) rfl rfl) ?_
        refine lf_not (wantNot (d := 31) rfl (by kernel_rfl) rfl rfl) ?_
        refine lf_not (wantU (d := 35) rfl (by kernel_rfl) rfl rfl) ?_
        refine lf_not (wantU (d := 35) rfl (by kernel_rfl) rfl rfl) ?_
        refine lf_not (wantNot (d := 31) rfl (by kernel_rfl) rfl rfl) ?_
        refine lf_val (v := .bool false) (wantAll rfl) (rv_pickF rfl (fr_eval rfl rfl) rfl) ?_
        refine lf_val (v := .bool false) (wantAll rfl) (rv_move rfl (fr_eval rfl rfl)) ?_
        refine lf_val (v := .int .i64 ((k : Nat) : Int)) (wantF (d := 40) rfl (by kernel_rfl) rfl rfl) (rv_move rfl (fr_eval rfl e0)) ?_
        by_cases hc7 : k ≤ 65536
        · refine lf_val (v := .bool true) (wantF (d := 40) rfl (by kernel_rfl) rfl rfl) (rv_leq rfl (fr_eval rfl rfl) rfl (decide_eq_true (by omega))) ?_
          refine lf_val (v := .bool true) (wantF (d := 40) rfl (by kernel_rfl) rfl rfl) (rv_move rfl (fr_eval rfl rfl)) ?_
          refine lf_val (v := y2) (wantF (d := 43) rfl (by kernel_rfl) rfl rfl) (rv_move rfl (fr_eval rfl e4)) ?_
          obtain ⟨f1, f2⟩ := long_c1 (key := (List.replicate 32 0)) (t := (List.replicate k (0 : UInt8))) (by rw [hB]; omega)
          refine lf_val (v := .int .i64 (((closeV (List.replicate 32 0) (List.replicate k (0 : UInt8))).length : Nat) : Int)) (wantF (d := 43) rfl (by kernel_rfl) rfl rfl) (rv_len rfl (fr_eval rfl rfl) (RdB.rn (OwnB.rd (hH.own (i := 1) rfl)) rfl) Try.underlying22) ?_
          refine lf_val (v := .int .i64 ((k : Nat) : Int)) (wantF (d := 43) rfl (by kernel_rfl) rfl rfl) (rv_move rfl (fr_eval rfl e0)) ?_
          refine lf_val (v := .int .i64 ((k + 16 : Nat) : Int)) (wantF (d := 43) rfl (by kernel_rfl) rfl rfl) (rv_add rfl (fr_eval rfl rfl) rfl (wrap_i64 (by omega) (by omega) (by omega))) ?_
          refine lf_val (v := .bool false) (wantF (d := 43) rfl (by kernel_rfl) rfl rfl) (rv_neq rfl (fr_eval rfl rfl) (fr_eval rfl rfl) (decide_eq_true (by omega))) ?_
          refine lf_val (v := .bool false) (wantF (d := 43) rfl (by kernel_rfl) rfl rfl) (rv_move rfl (fr_eval rfl rfl)) ?_
          refine lf_val (v := .int .i64 (closeE (List.replicate k (0 : UInt8)))) (wantF (d := 49) rfl (by kernel_rfl) rfl rfl) (rv_move rfl (fr_eval rfl e5)) ?_
          refine lf_val (v := .bool false) (wantF (d := 49) rfl (by kernel_rfl) rfl rfl) (rv_neq rfl (fr_eval rfl rfl) rfl (decide_eq_true (by omega))) ?_
          refine lf_val (v := .bool false) (wantF (d := 43) rfl (by kernel_rfl) rfl rfl) (rv_pickF rfl (fr_eval rfl rfl) (fr_eval rfl rfl)) ?_
          refine lf_val (v := .bool false) (wantF (d := 40) rfl (by kernel_rfl) rfl rfl) (rv_pickT rfl (fr_eval rfl rfl) (fr_eval rfl rfl)) ?_
          refine lf_val (v := .bool false) (wantAll rfl) (rv_pickF rfl (fr_eval rfl rfl) (fr_eval rfl rfl)) ?_
          refine lf_nil ?_
          refine then_n ?_
          refine wp_gen (fun F' => F' 0 = .int .i64 ((k : Nat) : Int) ∧ F' 2 = .bool false ∧ F' 3 = y1 ∧ F' 4 = y2 ∧ F' 5 = .int .i64 (closeE (List.replicate k (0 : UInt8))) ∧ F' 6 = y3 ∧ F' 7 = .int .i64 (openE (List.replicate 32 0) (List.replicate k (0 : UInt8))) ∧ F' 13 = .bool false ∧ F' 54 = .bool false) ⟨e0, e2, e3, e4, e5, e6, e7, e13, rfl⟩ ?_
          clear e0 e2 e3 e4 e5 e6 e7 e13
          clear F
          rintro F ⟨e0, e2, e3, e4, e5, e6, e7, e13, e54⟩
          refine wp_cond_false (fr_eval rfl e54) ?_
          refine wp_skip ?_
          refine then_n ?_
          refine wp_seq ?_
          refine wp_seq ?_
          refine wp_regionF ?_
          refine lf_val (v := .int .i64 ((k : Nat) : Int)) (wantAll rfl) (rv_move rfl (fr_eval rfl e0)) ?_
          by_cases hc8 : k > 65552
          · refine lf_val (v := .bool true) (wantAll rfl) (rv_gtr rfl (fr_eval rfl rfl) rfl (decide_eq_true (by omega))) ?_
            refine lf_nil ?_
            refine then_n ?_
            refine wp_gen (fun F' => F' 0 = .int .i64 ((k : Nat) : Int) ∧ F' 2 = .bool false ∧ F' 3 = y1 ∧ F' 4 = y2 ∧ F' 5 = .int .i64 (closeE (List.replicate k (0 : UInt8))) ∧ F' 6 = y3 ∧ F' 7 = .int .i64 (openE (List.replicate 32 0) (List.replicate k (0 : UInt8))) ∧ F' 13 = .bool false ∧ F' 54 = .bool false ∧ F' 56 = .bool true) ⟨e0, e2, e3, e4, e5, e6, e7, e13, e54, rfl⟩ ?_
            clear e0 e2 e3 e4 e5 e6 e7 e13 e54
            clear F
            rintro F ⟨e0, e2, e3, e4, e5, e6, e7, e13, e54, e56⟩
            refine wp_cond_true (fr_eval rfl e56) ?_
            refine wp_seq ?_
            obtain ⟨f3, f4⟩ := long_o0 (key := (List.replicate 32 0)) (b := (List.replicate k (0 : UInt8))) (by rw [hB]; omega)
            refine wp_regionF ?_
            refine lf_val (v := y3) (wantAll rfl) (rv_move rfl (fr_eval rfl e6)) ?_
            refine lf_val (v := .int .i64 (((openV (List.replicate 32 0) (List.replicate k (0 : UInt8))).length : Nat) : Int)) (wantAll rfl) (rv_len rfl (fr_eval rfl rfl) (RdB.rn (OwnB.rd (hH.own (i := 2) rfl)) rfl) Try.underlying22) ?_
            refine lf_val (v := .bool true) (wantAll rfl) (rv_eql rfl (fr_eval rfl rfl) rfl (decide_eq_true (by omega))) ?_
            refine lf_val (v := .bool true) (wantAll rfl) (rv_move rfl (fr_eval rfl rfl)) ?_
            refine lf_val (v := .int .i64 (openE (List.replicate 32 0) (List.replicate k (0 : UInt8)))) (wantF (d := 60) rfl (by kernel_rfl) rfl rfl) (rv_move rfl (fr_eval rfl e7)) ?_
            refine lf_val (v := .bool true) (wantF (d := 60) rfl (by kernel_rfl) rfl rfl) (rv_eql rfl (fr_eval rfl rfl) rfl (decide_eq_true (by omega))) ?_
            refine lf_val (v := .bool true) (wantAll rfl) (rv_pickT rfl (fr_eval rfl rfl) (fr_eval rfl rfl)) ?_
            refine lf_val (v := .bool true) (wantAll rfl) (rv_move rfl (fr_eval rfl rfl)) ?_
            refine lf_call (wantF (d := 64) rfl (by kernel_rfl) rfl rfl) (rv_call (args := []) rfl evn Try.call36) (awake11_calls _) ?_
            rintro _ w10 ⟨rfl, hx⟩
            refine ⟨_, rfl, ?_⟩
            replace hH := hH.ext hx
            clear hx
            refine lf_val (v := .bool true) (wantAll rfl) (rv_pickT rfl (fr_eval rfl rfl) (fr_eval rfl rfl)) ?_
            refine lf_val (v := .bool true) (wantAll rfl) (rv_assign rfl (fr_eval rfl rfl)) ?_
            refine lf_nil ?_
            refine then_n ?_
            refine wp_gen (fun F' => F' 0 = .int .i64 ((k : Nat) : Int) ∧ F' 2 = .bool true ∧ F' 3 = y1 ∧ F' 4 = y2 ∧ F' 5 = .int .i64 (closeE (List.replicate k (0 : UInt8))) ∧ F' 6 = y3 ∧ F' 7 = .int .i64 (openE (List.replicate 32 0) (List.replicate k (0 : UInt8))) ∧ F' 13 = .bool false ∧ F' 54 = .bool false ∧ F' 56 = .bool true) ⟨e0, rfl, e3, e4, e5, e6, e7, e13, e54, e56⟩ ?_
            clear e0 e2 e3 e4 e5 e6 e7 e13 e54 e56
            clear F
            rintro F ⟨e0, e2, e3, e4, e5, e6, e7, e13, e54, e56⟩
            refine wp_ret ?_
            refine then_ret ?_
            exact bodyPost_ret (v := (.bool true)) (res1 rfl (ro_tmp rfl e2)) rfl (⟨rfl, hH.done⟩)
          · refine lf_val (v := .bool false) (wantAll rfl) (rv_gtr rfl (fr_eval rfl rfl) rfl (decide_eq_false (by omega))) ?_
            refine lf_nil ?_
            refine then_n ?_
            refine wp_gen (fun F' => F' 0 = .int .i64 ((k : Nat) : Int) ∧ F' 2 = .bool false ∧ F' 3 = y1 ∧ F' 4 = y2 ∧ F' 5 = .int .i64 (closeE (List.replicate k (0 : UInt8))) ∧ F' 6 = y3 ∧ F' 7 = .int .i64 (openE (List.replicate 32 0) (List.replicate k (0 : UInt8))) ∧ F' 13 = .bool false ∧ F' 54 = .bool false ∧ F' 56 = .bool false) ⟨e0, e2, e3, e4, e5, e6, e7, e13, e54, rfl⟩ ?_
            clear e0 e2 e3 e4 e5 e6 e7 e13 e54
            clear F
            rintro F ⟨e0, e2, e3, e4, e5, e6, e7, e13, e54, e56⟩
            refine wp_cond_false (fr_eval rfl e56) ?_
            refine wp_skip ?_
            refine then_n ?_
            refine wp_seq ?_
            obtain ⟨f3, f4⟩ := long_o1 (key := (List.replicate 32 0)) (b := (List.replicate k (0 : UInt8))) (by rw [hB]; omega) (by rw [hB]; omega)
            refine wp_regionF ?_
            refine lf_val (v := .int .i64 (openE (List.replicate 32 0) (List.replicate k (0 : UInt8)))) (wantAll rfl) (rv_move rfl (fr_eval rfl e7)) ?_
            refine lf_val (v := .bool true) (wantAll rfl) (rv_neq rfl (fr_eval rfl rfl) rfl (decide_eq_false (by omega))) ?_
            refine lf_val (v := .bool true) (wantAll rfl) (rv_move rfl (fr_eval rfl rfl)) ?_
            refine lf_val (v := .int .i64 (openE (List.replicate 32 0) (List.replicate k (0 : UInt8)))) (wantF (d := 69) rfl (by kernel_rfl) rfl rfl) (rv_move rfl (fr_eval rfl e7)) ?_
            refine lf_val (v := .bool true) (wantF (d := 69) rfl (by kernel_rfl) rfl rfl) (rv_neq rfl (fr_eval rfl rfl) rfl (decide_eq_false (by omega))) ?_
            refine lf_val (v := .bool true) (wantAll rfl) (rv_pickT rfl (fr_eval rfl rfl) (fr_eval rfl rfl)) ?_
            refine lf_val (v := .bool true) (wantAll rfl) (rv_move rfl (fr_eval rfl rfl)) ?_
            refine lf_call (wantF (d := 73) rfl (by kernel_rfl) rfl rfl) (rv_call (args := []) rfl evn Try.call36) (awake11_calls _) ?_
            rintro _ w11 ⟨rfl, hx⟩
            refine ⟨_, rfl, ?_⟩
            replace hH := hH.ext hx
            clear hx
            refine lf_val (v := .bool true) (wantAll rfl) (rv_pickT rfl (fr_eval rfl rfl) (fr_eval rfl rfl)) ?_
            refine lf_val (v := .bool true) (wantAll rfl) (rv_assign rfl (fr_eval rfl rfl)) ?_
            refine lf_nil ?_
            refine then_n ?_
            refine wp_gen (fun F' => F' 0 = .int .i64 ((k : Nat) : Int) ∧ F' 2 = .bool true ∧ F' 3 = y1 ∧ F' 4 = y2 ∧ F' 5 = .int .i64 (closeE (List.replicate k (0 : UInt8))) ∧ F' 6 = y3 ∧ F' 7 = .int .i64 (openE (List.replicate 32 0) (List.replicate k (0 : UInt8))) ∧ F' 13 = .bool false ∧ F' 54 = .bool false ∧ F' 56 = .bool false) ⟨e0, rfl, e3, e4, e5, e6, e7, e13, e54, e56⟩ ?_
            clear e0 e2 e3 e4 e5 e6 e7 e13 e54 e56
            clear F
            rintro F ⟨e0, e2, e3, e4, e5, e6, e7, e13, e54, e56⟩
            refine wp_ret ?_
            exact bodyPost_ret (v := (.bool true)) (res1 rfl (ro_tmp rfl e2)) rfl (⟨rfl, hH.done⟩)
        · refine lf_val (v := .bool false) (wantF (d := 40) rfl (by kernel_rfl) rfl rfl) (rv_leq rfl (fr_eval rfl rfl) rfl (decide_eq_false (by omega))) ?_
          refine lf_val (v := .bool false) (wantF (d := 40) rfl (by kernel_rfl) rfl rfl) (rv_move rfl (fr_eval rfl rfl)) ?_
          refine lf_not (wantNot (d := 43) rfl (by kernel_rfl) rfl rfl) ?_
          refine lf_not (wantNot (d := 43) rfl (by kernel_rfl) rfl rfl) ?_
          refine lf_not (wantNot (d := 43) rfl (by kernel_rfl) rfl rfl) ?_
          refine lf_not (wantNot (d := 43) rfl (by kernel_rfl) rfl rfl) ?_
          refine lf_not (wantNot (d := 43) rfl (by kernel_rfl) rfl rfl) ?_
          refine lf_not (wantNot (d := 43) rfl (by kernel_rfl) rfl rfl) ?_
          refine lf_not (wantU (d := 49) rfl (by kernel_rfl) rfl rfl) ?_
          refine lf_not (wantU (d := 49) rfl (by kernel_rfl) rfl rfl) ?_
          refine lf_not (wantNot (d := 43) rfl (by kernel_rfl) rfl rfl) ?_
          refine lf_val (v := .bool false) (wantF (d := 40) rfl (by kernel_rfl) rfl rfl) (rv_pickF rfl (fr_eval rfl rfl) rfl) ?_
          refine lf_val (v := .bool false) (wantAll rfl) (rv_pickF rfl (fr_eval rfl rfl) (fr_eval rfl rfl)) ?_
          refine lf_nil ?_
          refine then_n ?_
          refine wp_gen (fun F' => F' 0 = .int .i64 ((k : Nat) : Int) ∧ F' 2 = .bool false ∧ F' 3 = y1 ∧ F' 4 = y2 ∧ F' 5 = .int .i64 (closeE (List.replicate k (0 : UInt8))) ∧ F' 6 = y3 ∧ F' 7 = .int .i64 (openE (List.replicate 32 0) (List.replicate k (0 : UInt8))) ∧ F' 13 = .bool false ∧ F' 54 = .bool false) ⟨e0, e2, e3, e4, e5, e6, e7, e13, rfl⟩ ?_
          clear e0 e2 e3 e4 e5 e6 e7 e13
          clear F
          rintro F ⟨e0, e2, e3, e4, e5, e6, e7, e13, e54⟩
          refine wp_cond_false (fr_eval rfl e54) ?_
          refine wp_skip ?_
          refine then_n ?_
          refine wp_seq ?_
          refine wp_seq ?_
          refine wp_regionF ?_
          refine lf_val (v := .int .i64 ((k : Nat) : Int)) (wantAll rfl) (rv_move rfl (fr_eval rfl e0)) ?_
          by_cases hc9 : k > 65552
          · refine lf_val (v := .bool true) (wantAll rfl) (rv_gtr rfl (fr_eval rfl rfl) rfl (decide_eq_true (by omega))) ?_
            refine lf_nil ?_
            refine then_n ?_
            refine wp_gen (fun F' => F' 0 = .int .i64 ((k : Nat) : Int) ∧ F' 2 = .bool false ∧ F' 3 = y1 ∧ F' 4 = y2 ∧ F' 5 = .int .i64 (closeE (List.replicate k (0 : UInt8))) ∧ F' 6 = y3 ∧ F' 7 = .int .i64 (openE (List.replicate 32 0) (List.replicate k (0 : UInt8))) ∧ F' 13 = .bool false ∧ F' 54 = .bool false ∧ F' 56 = .bool true) ⟨e0, e2, e3, e4, e5, e6, e7, e13, e54, rfl⟩ ?_
            clear e0 e2 e3 e4 e5 e6 e7 e13 e54
            clear F
            rintro F ⟨e0, e2, e3, e4, e5, e6, e7, e13, e54, e56⟩
            refine wp_cond_true (fr_eval rfl e56) ?_
            refine wp_seq ?_
            obtain ⟨f3, f4⟩ := long_o0 (key := (List.replicate 32 0)) (b := (List.replicate k (0 : UInt8))) (by rw [hB]; omega)
            refine wp_regionF ?_
            refine lf_val (v := y3) (wantAll rfl) (rv_move rfl (fr_eval rfl e6)) ?_
            refine lf_val (v := .int .i64 (((openV (List.replicate 32 0) (List.replicate k (0 : UInt8))).length : Nat) : Int)) (wantAll rfl) (rv_len rfl (fr_eval rfl rfl) (RdB.rn (OwnB.rd (hH.own (i := 2) rfl)) rfl) Try.underlying22) ?_
            refine lf_val (v := .bool true) (wantAll rfl) (rv_eql rfl (fr_eval rfl rfl) rfl (decide_eq_true (by omega))) ?_
            refine lf_val (v := .bool true) (wantAll rfl) (rv_move rfl (fr_eval rfl rfl)) ?_
            refine lf_val (v := .int .i64 (openE (List.replicate 32 0) (List.replicate k (0 : UInt8)))) (wantF (d := 60) rfl (by kernel_rfl) rfl rfl) (rv_move rfl (fr_eval rfl e7)) ?_
            refine lf_val (v := .bool true) (wantF (d := 60) rfl (by kernel_rfl) rfl rfl) (rv_eql rfl (fr_eval rfl rfl) rfl (decide_eq_true (by omega))) ?_
            refine lf_val (v := .bool true) (wantAll rfl) (rv_pickT rfl (fr_eval rfl rfl) (fr_eval rfl rfl)) ?_
            refine lf_val (v := .bool true) (wantAll rfl) (rv_move rfl (fr_eval rfl rfl)) ?_
            refine lf_call (wantF (d := 64) rfl (by kernel_rfl) rfl rfl) (rv_call (args := []) rfl evn Try.call36) (awake11_calls _) ?_
            rintro _ w12 ⟨rfl, hx⟩
            refine ⟨_, rfl, ?_⟩
            replace hH := hH.ext hx
            clear hx
            refine lf_val (v := .bool true) (wantAll rfl) (rv_pickT rfl (fr_eval rfl rfl) (fr_eval rfl rfl)) ?_
            refine lf_val (v := .bool true) (wantAll rfl) (rv_assign rfl (fr_eval rfl rfl)) ?_
            refine lf_nil ?_
            refine then_n ?_
            refine wp_gen (fun F' => F' 0 = .int .i64 ((k : Nat) : Int) ∧ F' 2 = .bool true ∧ F' 3 = y1 ∧ F' 4 = y2 ∧ F' 5 = .int .i64 (closeE (List.replicate k (0 : UInt8))) ∧ F' 6 = y3 ∧ F' 7 = .int .i64 (openE (List.replicate 32 0) (List.replicate k (0 : UInt8))) ∧ F' 13 = .bool false ∧ F' 54 = .bool false ∧ F' 56 = .bool true) ⟨e0, rfl, e3, e4, e5, e6, e7, e13, e54, e56⟩ ?_
            clear e0 e2 e3 e4 e5 e6 e7 e13 e54 e56
            clear F
            rintro F ⟨e0, e2, e3, e4, e5, e6, e7, e13, e54, e56⟩
            refine wp_ret ?_
            refine then_ret ?_
            exact bodyPost_ret (v := (.bool true)) (res1 rfl (ro_tmp rfl e2)) rfl (⟨rfl, hH.done⟩)
          · refine lf_val (v := .bool false) (wantAll rfl) (rv_gtr rfl (fr_eval rfl rfl) rfl (decide_eq_false (by omega))) ?_
            refine lf_nil ?_
            refine then_n ?_
            refine wp_gen (fun F' => F' 0 = .int .i64 ((k : Nat) : Int) ∧ F' 2 = .bool false ∧ F' 3 = y1 ∧ F' 4 = y2 ∧ F' 5 = .int .i64 (closeE (List.replicate k (0 : UInt8))) ∧ F' 6 = y3 ∧ F' 7 = .int .i64 (openE (List.replicate 32 0) (List.replicate k (0 : UInt8))) ∧ F' 13 = .bool false ∧ F' 54 = .bool false ∧ F' 56 = .bool false) ⟨e0, e2, e3, e4, e5, e6, e7, e13, e54, rfl⟩ ?_
            clear e0 e2 e3 e4 e5 e6 e7 e13 e54
            clear F
            rintro F ⟨e0, e2, e3, e4, e5, e6, e7, e13, e54, e56⟩
            refine wp_cond_false (fr_eval rfl e56) ?_
            refine wp_skip ?_
            refine then_n ?_
            refine wp_seq ?_
            obtain ⟨f3, f4⟩ := long_o1 (key := (List.replicate 32 0)) (b := (List.replicate k (0 : UInt8))) (by rw [hB]; omega) (by rw [hB]; omega)
            refine wp_regionF ?_
            refine lf_val (v := .int .i64 (openE (List.replicate 32 0) (List.replicate k (0 : UInt8)))) (wantAll rfl) (rv_move rfl (fr_eval rfl e7)) ?_
            refine lf_val (v := .bool true) (wantAll rfl) (rv_neq rfl (fr_eval rfl rfl) rfl (decide_eq_false (by omega))) ?_
            refine lf_val (v := .bool true) (wantAll rfl) (rv_move rfl (fr_eval rfl rfl)) ?_
            refine lf_val (v := .int .i64 (openE (List.replicate 32 0) (List.replicate k (0 : UInt8)))) (wantF (d := 69) rfl (by kernel_rfl) rfl rfl) (rv_move rfl (fr_eval rfl e7)) ?_
            refine lf_val (v := .bool true) (wantF (d := 69) rfl (by kernel_rfl) rfl rfl) (rv_neq rfl (fr_eval rfl rfl) rfl (decide_eq_false (by omega))) ?_
            refine lf_val (v := .bool true) (wantAll rfl) (rv_pickT rfl (fr_eval rfl rfl) (fr_eval rfl rfl)) ?_
            refine lf_val (v := .bool true) (wantAll rfl) (rv_move rfl (fr_eval rfl rfl)) ?_
            refine lf_call (wantF (d := 73) rfl (by kernel_rfl) rfl rfl) (rv_call (args := []) rfl evn Try.call36) (awake11_calls _) ?_
            rintro _ w13 ⟨rfl, hx⟩
            refine ⟨_, rfl, ?_⟩
            replace hH := hH.ext hx
            clear hx
            refine lf_val (v := .bool true) (wantAll rfl) (rv_pickT rfl (fr_eval rfl rfl) (fr_eval rfl rfl)) ?_
            refine lf_val (v := .bool true) (wantAll rfl) (rv_assign rfl (fr_eval rfl rfl)) ?_
            refine lf_nil ?_
            refine then_n ?_
            refine wp_gen (fun F' => F' 0 = .int .i64 ((k : Nat) : Int) ∧ F' 2 = .bool true ∧ F' 3 = y1 ∧ F' 4 = y2 ∧ F' 5 = .int .i64 (closeE (List.replicate k (0 : UInt8))) ∧ F' 6 = y3 ∧ F' 7 = .int .i64 (openE (List.replicate 32 0) (List.replicate k (0 : UInt8))) ∧ F' 13 = .bool false ∧ F' 54 = .bool false ∧ F' 56 = .bool false) ⟨e0, rfl, e3, e4, e5, e6, e7, e13, e54, e56⟩ ?_
            clear e0 e2 e3 e4 e5 e6 e7 e13 e54 e56
            clear F
            rintro F ⟨e0, e2, e3, e4, e5, e6, e7, e13, e54, e56⟩
            refine wp_ret ?_
            exact bodyPost_ret (v := (.bool true)) (res1 rfl (ro_tmp rfl e2)) rfl (⟨rfl, hH.done⟩)

end Go.Proofs.Yticaefnpapppoaa
