/- Chapter 12's laws: the walks of ReceiptTexts and ReceiptBytes. -/
import Derived.Test.YtjgcjddaladgfaaGets12
namespace Go.Proofs.Ytjgcjddaladgfaa
open Go.RowKit Go.Bz Go.Bz.Wire Go.Bz.Rcpt
attribute [local irreducible] wpList Code.wp wpAnyX

set_option maxRecDepth 100000 in
set_option maxHeartbeats 1000000 in
theorem receiptTexts_walk (r : Rc) (hin_r : inRc r) (b : List UInt8) (v : Value) (w : World) (hr0 : RdB w v b) :
    Calls Try.prog 7 #[.agg (([.int .i64 r.t, .int .i64 r.c, .int .i64 r.s] : List Value) ++ (cBs r.h.1 ++ cBs r.b.1)).toArray, v] w fun e'' w' => e'' = .returned (.bool true) ∧ Ext w w' := by
  refine calls_fr (args := [.agg (([.int .i64 r.t, .int .i64 r.c, .int .i64 r.s] : List Value) ++ (cBs r.h.1 ++ cBs r.b.1)).toArray, v]) (n := 84) Try.func7 rfl rfl (show 2 ≤ 84 by decide) ?_
  have hr := Rd.stab hr0
  have hH : Heap (newN w) w w [] := Heap.fresh
  refine wp_seq ?_
  refine wp_gen (fun F' => F' 0 = .agg (([.int .i64 r.t, .int .i64 r.c, .int .i64 r.s] : List Value) ++ (cBs r.h.1 ++ cBs r.b.1)).toArray ∧ F' 1 = v) ⟨rfl, rfl⟩ ?_
  rintro F ⟨e0, e1⟩
  refine wp_regionF ?_
  refine lf_ex (wantAll rfl) (hx_box hH 54 (cs := ([.int .i64 r.t, .int .i64 r.c, .int .i64 r.s] : List Value) ++ (cBs r.h.1 ++ cBs r.b.1)) rfl (fr_eval rfl e0) (by rfl)) ?_
  clear hH
  rintro _ w1 ⟨g1, rfl, hH, hx⟩
  replace hH : Heap (newN w) w w1 [oBlk g1 (([.int .i64 r.t, .int .i64 r.c, .int .i64 r.s] : List Value) ++ (cBs r.h.1 ++ cBs r.b.1)) 54] := hH
  clear hx
  refine lf_val (v := .bool false) (wantAll rfl) (rv_assign rfl rfl) ?_
  refine lf_nil ?_
  refine then_n ?_
  refine wp_seq ?_
  refine wp_seq ?_
  refine wp_gen (fun F' => F' 0 = .agg (([.int .i64 r.t, .int .i64 r.c, .int .i64 r.s] : List Value) ++ (cBs r.h.1 ++ cBs r.b.1)).toArray ∧ F' 1 = v ∧ F' 2 = .pointer (some ⟨g1, 0, none⟩) ∧ F' 4 = .bool false) ⟨e0, e1, rfl, rfl⟩ ?_
  clear e0 e1
  clear F
  rintro F ⟨e0, e1, e2, e4⟩
  refine wp_regionF ?_
  refine lf_val (v := v) (wantAll rfl) (rv_move rfl (fr_eval rfl e1)) ?_
  refine lf_val (v := .int .i64 ((b.length : Nat) : Int)) (wantAll rfl) (rv_len rfl (fr_eval rfl rfl) (RdB.rn (hr.rd _ hH.chg) rfl) Try.underlying22) ?_
  by_cases hc1 : b.length > 300
  · refine lf_val (v := .bool true) (wantAll rfl) (rv_gtr rfl (fr_eval rfl rfl) rfl (decide_eq_true (by omega))) ?_
    refine lf_nil ?_
    refine then_n ?_
    refine wp_gen (fun F' => F' 0 = .agg (([.int .i64 r.t, .int .i64 r.c, .int .i64 r.s] : List Value) ++ (cBs r.h.1 ++ cBs r.b.1)).toArray ∧ F' 1 = v ∧ F' 2 = .pointer (some ⟨g1, 0, none⟩) ∧ F' 4 = .bool false ∧ F' 11 = .bool true) ⟨e0, e1, e2, e4, rfl⟩ ?_
    clear e0 e1 e2 e4
    clear F
    rintro F ⟨e0, e1, e2, e4, e11⟩
    refine wp_cond_true (fr_eval rfl e11) ?_
    refine wp_regionF ?_
    refine lf_val (v := v) (wantAll rfl) (rv_move rfl (fr_eval rfl e1)) ?_
    refine lf_val (v := slcV v 1 0 300) (wantAll rfl) (rv_slcH (h := 300) Try.stB rfl (fr_eval rfl rfl) (RdB.rn (hr.rd _ hH.chg) rfl) (show _ = Value.int _ ((300 : Nat) : Int) from rfl) (by omega)) ?_
    refine lf_val (v := slcV v 1 0 300) (wantAll rfl) (rv_assign rfl (fr_eval rfl rfl)) ?_
    refine lf_nil ?_
    refine then_n ?_
    refine wp_seq ?_
    refine wp_gen (fun F' => F' 0 = .agg (([.int .i64 r.t, .int .i64 r.c, .int .i64 r.s] : List Value) ++ (cBs r.h.1 ++ cBs r.b.1)).toArray ∧ F' 1 = slcV v 1 0 300 ∧ F' 2 = .pointer (some ⟨g1, 0, none⟩) ∧ F' 4 = .bool false ∧ F' 11 = .bool true) ⟨e0, rfl, e2, e4, e11⟩ ?_
    clear e0 e1 e2 e4 e11
    clear F
    rintro F ⟨e0, e1, e2, e4, e11⟩
    refine wp_regionF ?_
    refine lf_val (v := .agg (([.int .i64 r.t, .int .i64 r.c, .int .i64 r.s] : List Value) ++ (cBs r.h.1 ++ cBs r.b.1)).toArray) (wantAll rfl) (rv_loadW rfl (hH.blk (i := 0) rfl) (fr_eval rfl e2) Try.underlying54 rfl (sz_len Try.sz54 (len_app (m := 3) (n := 64) (k := 67) rfl (len_app (m := 32) (n := 32) (k := 64) (cBs_len r.h.2) (cBs_len r.b.2) rfl) rfl))) ?_
    refine lf_call (wantAll rfl) (rv_call (args := [.agg (([.int .i64 r.t, .int .i64 r.c, .int .i64 r.s] : List Value) ++ (cBs r.h.1 ++ cBs r.b.1)).toArray]) rfl (evc (fr_eval rfl rfl) evn) Try.call32) (rcText12_calls r hin_r _) ?_
    rintro _ w2 ⟨⟨y1, rfl, ho, hg⟩, hx⟩
    refine ⟨_, rfl, ?_⟩
    replace hH : Heap (newN w) w w2 [oBlk g1 (([.int .i64 r.t, .int .i64 r.c, .int .i64 r.s] : List Value) ++ (cBs r.h.1 ++ cBs r.b.1)) 54, oB y1 (textR r)] := hH.addOwn hx hg ho
    clear ho hg
    clear hx
    refine lf_call (wantAll rfl) (rv_call (args := [y1]) rfl (evc (fr_eval rfl rfl) evn) Try.call31) (rcRead_calls (textR r) (Nat.le_trans (textR_len r) (by decide)) _ _ (OwnB.rd (hH.own (i := 1) rfl))) ?_
    rintro _ w3 ⟨⟨rr_t17, re_t17, rfl, hR_rr_t17⟩, hx⟩
    refine ⟨_, rfl, ?_⟩
    replace hH := hH.ext hx
    clear hx
    refine lf_val (v := .tuple #[.agg (([.int .i64 rr_t17.t, .int .i64 rr_t17.c, .int .i64 rr_t17.s] : List Value) ++ (cBs rr_t17.h.1 ++ cBs rr_t17.b.1)).toArray, .int .i64 re_t17]) (wantAll rfl) (rv_move rfl (fr_eval rfl rfl)) ?_
    refine lf_val (v := .agg (([.int .i64 rr_t17.t, .int .i64 rr_t17.c, .int .i64 rr_t17.s] : List Value) ++ (cBs rr_t17.h.1 ++ cBs rr_t17.b.1)).toArray) (wantAll rfl) (rv_extract rfl (fr_eval rfl rfl) rfl) ?_
    refine lf_val (v := .int .i64 re_t17) (wantAll rfl) (rv_extract rfl (fr_eval rfl rfl) rfl) ?_
    refine lf_ex (wantAll rfl) (hx_alloc hH 54 (z := .agg (([.int .i64 0, .int .i64 0, .int .i64 0] : List Value) ++ (cBs (List.replicate 32 0) ++ cBs (List.replicate 32 0))).toArray) (n := 67) (cs := ([.int .i64 0, .int .i64 0, .int .i64 0] : List Value) ++ (cBs (List.replicate 32 0) ++ cBs (List.replicate 32 0))) rfl (by kernel_rfl) (by rfl)) ?_
    clear hH
    rintro _ w4 ⟨g2, rfl, hH, hx⟩
    replace hH : Heap (newN w) w w4 [oBlk g1 (([.int .i64 r.t, .int .i64 r.c, .int .i64 r.s] : List Value) ++ (cBs r.h.1 ++ cBs r.b.1)) 54, oB y1 (textR r), oBlk g2 (([.int .i64 0, .int .i64 0, .int .i64 0] : List Value) ++ (cBs (List.replicate 32 0) ++ cBs (List.replicate 32 0))) 54] := hH
    clear hx
    refine lf_sk (wantAll rfl) (hx_storeW hH (i := 2) (cs := ([.int .i64 rr_t17.t, .int .i64 rr_t17.c, .int .i64 rr_t17.s] : List Value) ++ (cBs rr_t17.h.1 ++ cBs rr_t17.b.1)) rfl rfl rfl (fr_eval rfl rfl) (fr_eval rfl rfl) (sz_len Try.sz54 (len_app (m := 3) (n := 64) (k := 67) rfl (len_app (m := 32) (n := 32) (k := 64) (cBs_len rr_t17.h.2) (cBs_len rr_t17.b.2) rfl) rfl)) (((len_app (m := 3) (n := 64) (k := 67) rfl (len_app (m := 32) (n := 32) (k := 64) (cBs_len (List.length_replicate ..)) (cBs_len (List.length_replicate ..)) rfl) rfl)).trans ((len_app (m := 3) (n := 64) (k := 67) rfl (len_app (m := 32) (n := 32) (k := 64) (cBs_len rr_t17.h.2) (cBs_len rr_t17.b.2) rfl) rfl)).symm) ((ones_app (ones_cons rfl (ones_cons rfl (ones_cons rfl ones_nil))) (ones_app (cBs_one _) (cBs_one _))))) ?_
    clear hH
    rintro w5 ⟨hH, hx⟩
    replace hH : Heap (newN w) w w5 [oBlk g1 (([.int .i64 r.t, .int .i64 r.c, .int .i64 r.s] : List Value) ++ (cBs r.h.1 ++ cBs r.b.1)) 54, oB y1 (textR r), oBlk g2 (([.int .i64 rr_t17.t, .int .i64 rr_t17.c, .int .i64 rr_t17.s] : List Value) ++ (cBs rr_t17.h.1 ++ cBs rr_t17.b.1)) 54] := hH
    clear hx
    refine lf_val (v := .int .i64 re_t17) (wantAll rfl) (rv_assign rfl (fr_eval rfl rfl)) ?_
    refine lf_nil ?_
    refine then_n ?_
    refine wp_seq ?_
    refine wp_seq ?_
    replace hH : Heap (newN w) w w5 [oBlk g1 (([.int .i64 r.t, .int .i64 r.c, .int .i64 r.s] : List Value) ++ (cBs r.h.1 ++ cBs r.b.1)) 54, oBlk g2 (([.int .i64 rr_t17.t, .int .i64 rr_t17.c, .int .i64 rr_t17.s] : List Value) ++ (cBs rr_t17.h.1 ++ cBs rr_t17.b.1)) 54] := hH.drop (.cons_cons _ (.cons _ (.cons_cons _ .slnil)))
    refine wp_gen (fun F' => F' 0 = .agg (([.int .i64 r.t, .int .i64 r.c, .int .i64 r.s] : List Value) ++ (cBs r.h.1 ++ cBs r.b.1)).toArray ∧ F' 1 = slcV v 1 0 300 ∧ F' 2 = .pointer (some ⟨g1, 0, none⟩) ∧ F' 4 = .bool false ∧ F' 5 = .pointer (some ⟨g2, 0, none⟩) ∧ F' 6 = .int .i64 re_t17 ∧ F' 11 = .bool true) ⟨e0, e1, e2, e4, rfl, rfl, e11⟩ ?_
    clear e0 e1 e2 e4 e11
    clear F
    rintro F ⟨e0, e1, e2, e4, e5, e6, e11⟩
    refine wp_regionX (fun _ => False) 11 (by kernel_rfl) (by kernel_rfl) ?_
    refine xl_take (i := 0) (v := .agg (([.int .i64 r.t, .int .i64 r.c, .int .i64 r.s] : List Value) ++ (cBs r.h.1 ++ cBs r.b.1)).toArray) rfl (by kernel_rfl) (by kernel_rfl) (by kernel_rfl) (by kernel_rfl) (yx_val (wantAll rfl) (fun w' hx' => rv_loadW rfl ((hH.ext hx').blk (i := 0) rfl) (fr_eval rfl e2) Try.underlying54 rfl (sz_len Try.sz54 (len_app (m := 3) (n := 64) (k := 67) rfl (len_app (m := 32) (n := 32) (k := 64) (cBs_len r.h.2) (cBs_len r.b.2) rfl) rfl)))) ?_
    refine xl_take (i := 3) (v := .agg (([.int .i64 r.t, .int .i64 r.c, .int .i64 r.s] : List Value) ++ (cBs r.h.1 ++ cBs r.b.1)).toArray) rfl (by kernel_rfl) (by kernel_rfl) (by kernel_rfl) (by kernel_rfl) (yx_val (wantAll rfl) (fun w' hx' => rv_loadW rfl ((hH.ext hx').blk (i := 0) rfl) (fr_eval rfl e2) Try.underlying54 rfl (sz_len Try.sz54 (len_app (m := 3) (n := 64) (k := 67) rfl (len_app (m := 32) (n := 32) (k := 64) (cBs_len r.h.2) (cBs_len r.b.2) rfl) rfl)))) ?_
    refine anyX_ready (rs := [1]) (by kernel_rfl) ?_
    intro w6 hx
    replace hH := hH.ext hx
    clear hx
    refine (anyX_cons ?_ anyX_nil)
    refine xl_step (i := 1) rfl (wantAll rfl) ?_
    refine of_call (rv_call (args := [.agg (([.int .i64 r.t, .int .i64 r.c, .int .i64 r.s] : List Value) ++ (cBs r.h.1 ++ cBs r.b.1)).toArray]) rfl (evc (fr_eval rfl rfl) evn) Try.call33) (rcText_calls r hin_r _) ?_
    rintro _ w7 ⟨⟨y2, rfl, ho, hg⟩, hx⟩
    refine ⟨_, rfl, ?_⟩
    replace hH : Heap (newN w) w w7 [oBlk g1 (([.int .i64 r.t, .int .i64 r.c, .int .i64 r.s] : List Value) ++ (cBs r.h.1 ++ cBs r.b.1)) 54, oBlk g2 (([.int .i64 rr_t17.t, .int .i64 rr_t17.c, .int .i64 rr_t17.s] : List Value) ++ (cBs rr_t17.h.1 ++ cBs rr_t17.b.1)) 54, oB y2 (textR r)] := hH.addOwn hx hg ho
    clear ho hg
    refine ⟨hx, ?_⟩
    clear hx
    refine xl_take (i := 2) (v := .string ⟨(textR r).toArray⟩) rfl (by kernel_rfl) (by kernel_rfl) (by kernel_rfl) (by kernel_rfl) (yx_val (wantAll rfl) (fun w' hx' => rv_str rfl (fr_eval rfl rfl) (OwnB.rd ((hH.ext hx').own (i := 2) rfl)) Try.underlying22 Try.underlying5 Try.underlying9)) ?_
    refine anyX_ready (rs := [4]) (by kernel_rfl) ?_
    intro w8 hx
    replace hH := hH.ext hx
    clear hx
    refine (anyX_cons ?_ anyX_nil)
    refine xl_step (i := 4) rfl (wantAll rfl) ?_
    refine of_call (rv_call (args := [.agg (([.int .i64 r.t, .int .i64 r.c, .int .i64 r.s] : List Value) ++ (cBs r.h.1 ++ cBs r.b.1)).toArray]) rfl (evc (fr_eval rfl rfl) evn) Try.call32) (rcText12_calls r hin_r _) ?_
    rintro _ w9 ⟨⟨y3, rfl, ho, hg⟩, hx⟩
    refine ⟨_, rfl, ?_⟩
    replace hH : Heap (newN w) w w9 [oBlk g1 (([.int .i64 r.t, .int .i64 r.c, .int .i64 r.s] : List Value) ++ (cBs r.h.1 ++ cBs r.b.1)) 54, oBlk g2 (([.int .i64 rr_t17.t, .int .i64 rr_t17.c, .int .i64 rr_t17.s] : List Value) ++ (cBs rr_t17.h.1 ++ cBs rr_t17.b.1)) 54, oB y2 (textR r), oB y3 (textR r)] := hH.addOwn hx hg ho
    clear ho hg
    refine ⟨hx, ?_⟩
    clear hx
    refine xl_take (i := 5) (v := .string ⟨(textR r).toArray⟩) rfl (by kernel_rfl) (by kernel_rfl) (by kernel_rfl) (by kernel_rfl) (yx_val (wantAll rfl) (fun w' hx' => rv_str rfl (fr_eval rfl rfl) (OwnB.rd ((hH.ext hx').own (i := 3) rfl)) Try.underlying22 Try.underlying5 Try.underlying9)) ?_
    refine xl_take (i := 6) (v := .bool false) rfl (by kernel_rfl) (by kernel_rfl) (by kernel_rfl) (by kernel_rfl) (yx_val (wantAll rfl) (fun w' hx' => rv_nes (b := true) rfl (fr_eval rfl rfl) (fr_eval rfl rfl) (by exact decide_eq_true rfl))) ?_
    refine xl_take (i := 7) (v := .bool false) rfl (by kernel_rfl) (by kernel_rfl) (by kernel_rfl) (by kernel_rfl) (yx_val (wantAll rfl) (fun w' hx' => rv_move rfl (fr_eval rfl rfl))) ?_
    refine xl_take (i := 8) (v := .agg (([.int .i64 r.t, .int .i64 r.c, .int .i64 r.s] : List Value) ++ (cBs r.h.1 ++ cBs r.b.1)).toArray) rfl (by kernel_rfl) (by kernel_rfl) (by kernel_rfl) (by kernel_rfl) (yx_val (wantF (d := 27) rfl (by kernel_rfl) rfl rfl) (fun w' hx' => rv_loadW rfl ((hH.ext hx').blk (i := 0) rfl) (fr_eval rfl e2) Try.underlying54 rfl (sz_len Try.sz54 (len_app (m := 3) (n := 64) (k := 67) rfl (len_app (m := 32) (n := 32) (k := 64) (cBs_len r.h.2) (cBs_len r.b.2) rfl) rfl)))) ?_
    refine xl_take (i := 9) (v := .bool (decide (inR r))) rfl (by kernel_rfl) (by kernel_rfl) (by kernel_rfl) (by kernel_rfl) (yx_call (wantF (d := 27) rfl (by kernel_rfl) rfl rfl) (fun w' => rv_call (args := [.agg (([.int .i64 r.t, .int .i64 r.c, .int .i64 r.s] : List Value) ++ (cBs r.h.1 ++ cBs r.b.1)).toArray]) rfl (evc (fr_eval rfl rfl) evn) Try.call34) (fun w' hx' => rcRight_calls r _)) ?_
    refine xl_take (i := 10) (v := .agg (([.int .i64 r.t, .int .i64 r.c, .int .i64 r.s] : List Value) ++ (cBs r.h.1 ++ cBs r.b.1)).toArray) rfl (by kernel_rfl) (by kernel_rfl) (by kernel_rfl) (by kernel_rfl) (yx_val (wantF (d := 27) rfl (by kernel_rfl) rfl rfl) (fun w' hx' => rv_loadW rfl ((hH.ext hx').blk (i := 0) rfl) (fr_eval rfl e2) Try.underlying54 rfl (sz_len Try.sz54 (len_app (m := 3) (n := 64) (k := 67) rfl (len_app (m := 32) (n := 32) (k := 64) (cBs_len r.h.2) (cBs_len r.b.2) rfl) rfl)))) ?_
    refine xl_tail (s := 11) rfl ?_
    intro w10 hx
    replace hH := hH.ext hx
    clear hx
    refine lf_call (wantF (d := 27) rfl (by kernel_rfl) rfl rfl) (rv_call (args := [.agg (([.int .i64 r.t, .int .i64 r.c, .int .i64 r.s] : List Value) ++ (cBs r.h.1 ++ cBs r.b.1)).toArray]) rfl (evc (fr_eval rfl rfl) evn) Try.call35) (rcRight12_calls r _) ?_
    rintro _ w11 ⟨rfl, hx⟩
    refine ⟨_, rfl, ?_⟩
    replace hH := hH.ext hx
    clear hx
    refine lf_val (v := .bool false) (wantF (d := 27) rfl (by kernel_rfl) rfl rfl) (rv_neb (d := true) rfl (fr_eval rfl rfl) (fr_eval rfl rfl) Try.underlying4 (beq_self_eq_true _)) ?_
    refine lf_val (v := .bool false) (wantAll rfl) (rv_pickF rfl (fr_eval rfl rfl) (fr_eval rfl rfl)) ?_
    refine lf_nil ?_
    refine then_n ?_
    replace hH : Heap (newN w) w w11 [oBlk g1 (([.int .i64 r.t, .int .i64 r.c, .int .i64 r.s] : List Value) ++ (cBs r.h.1 ++ cBs r.b.1)) 54, oBlk g2 (([.int .i64 rr_t17.t, .int .i64 rr_t17.c, .int .i64 rr_t17.s] : List Value) ++ (cBs rr_t17.h.1 ++ cBs rr_t17.b.1)) 54] := hH.drop (.cons_cons _ (.cons_cons _ (.cons _ (.cons _ .slnil))))
    refine wp_gen (fun F' => F' 0 = .agg (([.int .i64 r.t, .int .i64 r.c, .int .i64 r.s] : List Value) ++ (cBs r.h.1 ++ cBs r.b.1)).toArray ∧ F' 1 = slcV v 1 0 300 ∧ F' 2 = .pointer (some ⟨g1, 0, none⟩) ∧ F' 4 = .bool false ∧ F' 5 = .pointer (some ⟨g2, 0, none⟩) ∧ F' 6 = .int .i64 re_t17 ∧ F' 11 = .bool true ∧ F' 33 = .bool false) ⟨e0, e1, e2, e4, e5, e6, e11, rfl⟩ ?_
    clear e0 e1 e2 e4 e5 e6 e11
    clear F
    rintro F ⟨e0, e1, e2, e4, e5, e6, e11, e33⟩
    refine wp_cond_false (fr_eval rfl e33) ?_
    refine wp_skip ?_
    refine then_n ?_
    refine wp_seq ?_
    refine wp_seq ?_
    refine wp_regionF ?_
    refine lf_val (v := .agg (([.int .i64 r.t, .int .i64 r.c, .int .i64 r.s] : List Value) ++ (cBs r.h.1 ++ cBs r.b.1)).toArray) (wantAll rfl) (rv_loadW rfl (hH.blk (i := 0) rfl) (fr_eval rfl e2) Try.underlying54 rfl (sz_len Try.sz54 (len_app (m := 3) (n := 64) (k := 67) rfl (len_app (m := 32) (n := 32) (k := 64) (cBs_len r.h.2) (cBs_len r.b.2) rfl) rfl))) ?_
    refine lf_call (wantAll rfl) (rv_call (args := [.agg (([.int .i64 r.t, .int .i64 r.c, .int .i64 r.s] : List Value) ++ (cBs r.h.1 ++ cBs r.b.1)).toArray]) rfl (evc (fr_eval rfl rfl) evn) Try.call35) (rcRight12_calls r _) ?_
    rintro _ w12 ⟨rfl, hx⟩
    refine ⟨_, rfl, ?_⟩
    replace hH := hH.ext hx
    clear hx
    refine lf_val (v := .bool (decide (inR r))) (wantAll rfl) (rv_move rfl (fr_eval rfl rfl)) ?_
    cases hb1 : decide (inR r)
    · refine lf_not (wantNot (d := 36) rfl (by kernel_rfl) rfl rfl) ?_
      refine lf_not (wantNot (d := 36) rfl (by kernel_rfl) rfl rfl) ?_
      refine lf_not (wantNot (d := 36) rfl (by kernel_rfl) rfl rfl) ?_
      refine lf_not (wantNot (d := 36) rfl (by kernel_rfl) rfl rfl) ?_
      refine lf_not (wantU (d := 40) rfl (by kernel_rfl) rfl rfl) ?_
      refine lf_not (wantU (d := 40) rfl (by kernel_rfl) rfl rfl) ?_
      refine lf_not (wantNot (d := 36) rfl (by kernel_rfl) rfl rfl) ?_
      refine lf_val (v := .bool false) (wantAll rfl) (rv_pickF rfl (fr_eval rfl rfl) rfl) ?_
      refine lf_nil ?_
      refine then_n ?_
      refine wp_gen (fun F' => F' 0 = .agg (([.int .i64 r.t, .int .i64 r.c, .int .i64 r.s] : List Value) ++ (cBs r.h.1 ++ cBs r.b.1)).toArray ∧ F' 1 = slcV v 1 0 300 ∧ F' 2 = .pointer (some ⟨g1, 0, none⟩) ∧ F' 4 = .bool false ∧ F' 5 = .pointer (some ⟨g2, 0, none⟩) ∧ F' 6 = .int .i64 re_t17 ∧ F' 11 = .bool true ∧ F' 33 = .bool false ∧ F' 44 = .bool false) ⟨e0, e1, e2, e4, e5, e6, e11, e33, rfl⟩ ?_
      clear e0 e1 e2 e4 e5 e6 e11 e33
      clear F
      rintro F ⟨e0, e1, e2, e4, e5, e6, e11, e33, e44⟩
      refine wp_cond_false (fr_eval rfl e44) ?_
      refine wp_skip ?_
      refine then_n ?_
      refine wp_seq ?_
      refine wp_regionF ?_
      refine lf_val (v := slcV v 1 0 300) (wantAll rfl) (rv_move rfl (fr_eval rfl e1)) ?_
      refine lf_call (wantAll rfl) (rv_call (args := [slcV v 1 0 300]) rfl (evc (fr_eval rfl rfl) evn) Try.call31) (rcRead_calls (List.take 300 b) (by first | omega | (simp only [List.length_take]; omega)) _ _ (rdB_slcH (h := 300) (RdB.rn (hr.rd _ hH.chg) rfl) (by omega))) ?_
      rintro _ w13 ⟨⟨rr_t47, re_t47, rfl, hR_rr_t47⟩, hx⟩
      refine ⟨_, rfl, ?_⟩
      replace hH := hH.ext hx
      clear hx
      refine lf_val (v := .tuple #[.agg (([.int .i64 rr_t47.t, .int .i64 rr_t47.c, .int .i64 rr_t47.s] : List Value) ++ (cBs rr_t47.h.1 ++ cBs rr_t47.b.1)).toArray, .int .i64 re_t47]) (wantAll rfl) (rv_move rfl (fr_eval rfl rfl)) ?_
      refine lf_val (v := .agg (([.int .i64 rr_t47.t, .int .i64 rr_t47.c, .int .i64 rr_t47.s] : List Value) ++ (cBs rr_t47.h.1 ++ cBs rr_t47.b.1)).toArray) (wantAll rfl) (rv_extract rfl (fr_eval rfl rfl) rfl) ?_
      refine lf_val (v := .int .i64 re_t47) (wantAll rfl) (rv_extract rfl (fr_eval rfl rfl) rfl) ?_
      refine lf_ex (wantAll rfl) (hx_alloc hH 54 (z := .agg (([.int .i64 0, .int .i64 0, .int .i64 0] : List Value) ++ (cBs (List.replicate 32 0) ++ cBs (List.replicate 32 0))).toArray) (n := 67) (cs := ([.int .i64 0, .int .i64 0, .int .i64 0] : List Value) ++ (cBs (List.replicate 32 0) ++ cBs (List.replicate 32 0))) rfl (by kernel_rfl) (by rfl)) ?_
      clear hH
      rintro _ w14 ⟨g3, rfl, hH, hx⟩
      replace hH : Heap (newN w) w w14 [oBlk g1 (([.int .i64 r.t, .int .i64 r.c, .int .i64 r.s] : List Value) ++ (cBs r.h.1 ++ cBs r.b.1)) 54, oBlk g2 (([.int .i64 rr_t17.t, .int .i64 rr_t17.c, .int .i64 rr_t17.s] : List Value) ++ (cBs rr_t17.h.1 ++ cBs rr_t17.b.1)) 54, oBlk g3 (([.int .i64 0, .int .i64 0, .int .i64 0] : List Value) ++ (cBs (List.replicate 32 0) ++ cBs (List.replicate 32 0))) 54] := hH
      clear hx
      refine lf_sk (wantAll rfl) (hx_storeW hH (i := 2) (cs := ([.int .i64 rr_t47.t, .int .i64 rr_t47.c, .int .i64 rr_t47.s] : List Value) ++ (cBs rr_t47.h.1 ++ cBs rr_t47.b.1)) rfl rfl rfl (fr_eval rfl rfl) (fr_eval rfl rfl) (sz_len Try.sz54 (len_app (m := 3) (n := 64) (k := 67) rfl (len_app (m := 32) (n := 32) (k := 64) (cBs_len rr_t47.h.2) (cBs_len rr_t47.b.2) rfl) rfl)) (((len_app (m := 3) (n := 64) (k := 67) rfl (len_app (m := 32) (n := 32) (k := 64) (cBs_len (List.length_replicate ..)) (cBs_len (List.length_replicate ..)) rfl) rfl)).trans ((len_app (m := 3) (n := 64) (k := 67) rfl (len_app (m := 32) (n := 32) (k := 64) (cBs_len rr_t47.h.2) (cBs_len rr_t47.b.2) rfl) rfl)).symm) ((ones_app (ones_cons rfl (ones_cons rfl (ones_cons rfl ones_nil))) (ones_app (cBs_one _) (cBs_one _))))) ?_
      clear hH
      rintro w15 ⟨hH, hx⟩
      replace hH : Heap (newN w) w w15 [oBlk g1 (([.int .i64 r.t, .int .i64 r.c, .int .i64 r.s] : List Value) ++ (cBs r.h.1 ++ cBs r.b.1)) 54, oBlk g2 (([.int .i64 rr_t17.t, .int .i64 rr_t17.c, .int .i64 rr_t17.s] : List Value) ++ (cBs rr_t17.h.1 ++ cBs rr_t17.b.1)) 54, oBlk g3 (([.int .i64 rr_t47.t, .int .i64 rr_t47.c, .int .i64 rr_t47.s] : List Value) ++ (cBs rr_t47.h.1 ++ cBs rr_t47.b.1)) 54] := hH
      clear hx
      refine lf_val (v := .int .i64 re_t47) (wantAll rfl) (rv_assign rfl (fr_eval rfl rfl)) ?_
      refine lf_nil ?_
      refine then_n ?_
      refine wp_seq ?_
      refine wp_seq ?_
      refine wp_gen (fun F' => F' 0 = .agg (([.int .i64 r.t, .int .i64 r.c, .int .i64 r.s] : List Value) ++ (cBs r.h.1 ++ cBs r.b.1)).toArray ∧ F' 1 = slcV v 1 0 300 ∧ F' 2 = .pointer (some ⟨g1, 0, none⟩) ∧ F' 4 = .bool false ∧ F' 5 = .pointer (some ⟨g2, 0, none⟩) ∧ F' 6 = .int .i64 re_t17 ∧ F' 7 = .pointer (some ⟨g3, 0, none⟩) ∧ F' 8 = .int .i64 re_t47 ∧ F' 11 = .bool true ∧ F' 33 = .bool false ∧ F' 44 = .bool false) ⟨e0, e1, e2, e4, e5, e6, rfl, rfl, e11, e33, e44⟩ ?_
      clear e0 e1 e2 e4 e5 e6 e11 e33 e44
      clear F
      rintro F ⟨e0, e1, e2, e4, e5, e6, e7, e8, e11, e33, e44⟩
      refine wp_regionF ?_
      refine lf_val (v := .int .i64 re_t47) (wantAll rfl) (rv_move rfl (fr_eval rfl e8)) ?_
      by_cases hc2 : re_t47 = 0
      · refine lf_val (v := .bool false) (wantAll rfl) (rv_neq rfl (fr_eval rfl rfl) rfl (decide_eq_true (by omega))) ?_
        refine lf_nil ?_
        refine then_n ?_
        refine wp_gen (fun F' => F' 0 = .agg (([.int .i64 r.t, .int .i64 r.c, .int .i64 r.s] : List Value) ++ (cBs r.h.1 ++ cBs r.b.1)).toArray ∧ F' 1 = slcV v 1 0 300 ∧ F' 2 = .pointer (some ⟨g1, 0, none⟩) ∧ F' 4 = .bool false ∧ F' 5 = .pointer (some ⟨g2, 0, none⟩) ∧ F' 6 = .int .i64 re_t17 ∧ F' 7 = .pointer (some ⟨g3, 0, none⟩) ∧ F' 8 = .int .i64 re_t47 ∧ F' 11 = .bool true ∧ F' 33 = .bool false ∧ F' 44 = .bool false ∧ F' 51 = .bool false) ⟨e0, e1, e2, e4, e5, e6, e7, e8, e11, e33, e44, rfl⟩ ?_
        clear e0 e1 e2 e4 e5 e6 e7 e8 e11 e33 e44
        clear F
        rintro F ⟨e0, e1, e2, e4, e5, e6, e7, e8, e11, e33, e44, e51⟩
        refine wp_cond_false (fr_eval rfl e51) ?_
        refine wp_skip ?_
        refine then_n ?_
        refine wp_seq ?_
        refine wp_regionX (fun _ => False) 8 (by kernel_rfl) (by kernel_rfl) ?_
        refine xl_take (i := 0) (v := .agg (([.int .i64 rr_t47.t, .int .i64 rr_t47.c, .int .i64 rr_t47.s] : List Value) ++ (cBs rr_t47.h.1 ++ cBs rr_t47.b.1)).toArray) rfl (by kernel_rfl) (by kernel_rfl) (by kernel_rfl) (by kernel_rfl) (yx_val (wantAll rfl) (fun w' hx' => rv_loadW rfl ((hH.ext hx').blk (i := 2) rfl) (fr_eval rfl e7) Try.underlying54 rfl (sz_len Try.sz54 (len_app (m := 3) (n := 64) (k := 67) rfl (len_app (m := 32) (n := 32) (k := 64) (cBs_len rr_t47.h.2) (cBs_len rr_t47.b.2) rfl) rfl)))) ?_
        refine xl_take (i := 1) (v := .bool true) rfl (by kernel_rfl) (by kernel_rfl) (by kernel_rfl) (by kernel_rfl) (yx_call (wantAll rfl) (fun w' => rv_call (args := [.agg (([.int .i64 rr_t47.t, .int .i64 rr_t47.c, .int .i64 rr_t47.s] : List Value) ++ (cBs rr_t47.h.1 ++ cBs rr_t47.b.1)).toArray]) rfl (evc (fr_eval rfl rfl) evn) Try.call35) (fun w' hx' => calls_known (rcRight12_calls rr_t47 _) (decide_eq_true (hR_rr_t47.good (by assumption)).1))) ?_
        refine xl_take (i := 2) (v := .bool true) rfl (by kernel_rfl) (by kernel_rfl) (by kernel_rfl) (by kernel_rfl) (yx_val (wantAll rfl) (fun w' hx' => rv_move rfl (fr_eval rfl rfl))) ?_
        refine xl_take (i := 3) (v := .agg (([.int .i64 rr_t47.t, .int .i64 rr_t47.c, .int .i64 rr_t47.s] : List Value) ++ (cBs rr_t47.h.1 ++ cBs rr_t47.b.1)).toArray) rfl (by kernel_rfl) (by kernel_rfl) (by kernel_rfl) (by kernel_rfl) (yx_val (wantF (d := 73) rfl (by kernel_rfl) rfl rfl) (fun w' hx' => rv_loadW rfl ((hH.ext hx').blk (i := 2) rfl) (fr_eval rfl e7) Try.underlying54 rfl (sz_len Try.sz54 (len_app (m := 3) (n := 64) (k := 67) rfl (len_app (m := 32) (n := 32) (k := 64) (cBs_len rr_t47.h.2) (cBs_len rr_t47.b.2) rfl) rfl)))) ?_
        refine xl_take (i := 6) (v := slcV v 1 0 300) rfl (by kernel_rfl) (by kernel_rfl) (by kernel_rfl) (by kernel_rfl) (yx_val (wantF (d := 73) rfl (by kernel_rfl) rfl rfl) (fun w' hx' => rv_move rfl (fr_eval rfl e1))) ?_
        refine xl_take (i := 7) (v := .string ⟨(List.take 300 b).toArray⟩) rfl (by kernel_rfl) (by kernel_rfl) (by kernel_rfl) (by kernel_rfl) (yx_val (wantF (d := 73) rfl (by kernel_rfl) rfl rfl) (fun w' hx' => rv_str rfl (fr_eval rfl rfl) (rdB_slcH (h := 300) (RdB.rn (hr.rd _ (hH.chg.trans (Ext.any hx'))) rfl) (by omega)) Try.underlying22 Try.underlying5 Try.underlying9)) ?_
        refine anyX_ready (rs := [4]) (by kernel_rfl) ?_
        intro w16 hx
        replace hH := hH.ext hx
        clear hx
        refine (anyX_cons ?_ anyX_nil)
        refine xl_step (i := 4) rfl (wantF (d := 73) rfl (by kernel_rfl) rfl rfl) ?_
        refine of_call (rv_call (args := [.agg (([.int .i64 rr_t47.t, .int .i64 rr_t47.c, .int .i64 rr_t47.s] : List Value) ++ (cBs rr_t47.h.1 ++ cBs rr_t47.b.1)).toArray]) rfl (evc (fr_eval rfl rfl) evn) Try.call32) (rcText12_calls rr_t47 (inR_in (hR_rr_t47.good (by assumption)).1) _) ?_
        rintro _ w17 ⟨⟨y4, rfl, ho, hg⟩, hx⟩
        refine ⟨_, rfl, ?_⟩
        replace hH : Heap (newN w) w w17 [oBlk g1 (([.int .i64 r.t, .int .i64 r.c, .int .i64 r.s] : List Value) ++ (cBs r.h.1 ++ cBs r.b.1)) 54, oBlk g2 (([.int .i64 rr_t17.t, .int .i64 rr_t17.c, .int .i64 rr_t17.s] : List Value) ++ (cBs rr_t17.h.1 ++ cBs rr_t17.b.1)) 54, oBlk g3 (([.int .i64 rr_t47.t, .int .i64 rr_t47.c, .int .i64 rr_t47.s] : List Value) ++ (cBs rr_t47.h.1 ++ cBs rr_t47.b.1)) 54, oB y4 (textR rr_t47)] := hH.addOwn hx hg ho
        clear ho hg
        refine ⟨hx, ?_⟩
        clear hx
        refine xl_take (i := 5) (v := .string ⟨(textR rr_t47).toArray⟩) rfl (by kernel_rfl) (by kernel_rfl) (by kernel_rfl) (by kernel_rfl) (yx_val (wantF (d := 73) rfl (by kernel_rfl) rfl rfl) (fun w' hx' => rv_str rfl (fr_eval rfl rfl) (OwnB.rd ((hH.ext hx').own (i := 3) rfl)) Try.underlying22 Try.underlying5 Try.underlying9)) ?_
        refine xl_tail (s := 8) rfl ?_
        intro w18 hx
        replace hH := hH.ext hx
        clear hx
        refine lf_val (v := .bool true) (wantF (d := 73) rfl (by kernel_rfl) rfl rfl) (rv_eqs (b := true) rfl (fr_eval rfl rfl) (fr_eval rfl rfl) (by exact decide_eq_true (hR_rr_t47.good (by assumption)).2.symm)) ?_
        refine lf_val (v := .bool true) (wantAll rfl) (rv_pickT rfl (fr_eval rfl rfl) (fr_eval rfl rfl)) ?_
        refine lf_val (v := .bool true) (wantAll rfl) (rv_move rfl (fr_eval rfl rfl)) ?_
        refine lf_call (wantF (d := 81) rfl (by kernel_rfl) rfl rfl) (rv_call (args := []) rfl evn Try.call36) (awake12_calls _) ?_
        rintro _ w19 ⟨rfl, hx⟩
        refine ⟨_, rfl, ?_⟩
        replace hH := hH.ext hx
        clear hx
        refine lf_val (v := .bool true) (wantAll rfl) (rv_pickT rfl (fr_eval rfl rfl) (fr_eval rfl rfl)) ?_
        refine lf_val (v := .bool true) (wantAll rfl) (rv_assign rfl (fr_eval rfl rfl)) ?_
        refine lf_nil ?_
        refine then_n ?_
        replace hH : Heap (newN w) w w19 [oBlk g1 (([.int .i64 r.t, .int .i64 r.c, .int .i64 r.s] : List Value) ++ (cBs r.h.1 ++ cBs r.b.1)) 54, oBlk g2 (([.int .i64 rr_t17.t, .int .i64 rr_t17.c, .int .i64 rr_t17.s] : List Value) ++ (cBs rr_t17.h.1 ++ cBs rr_t17.b.1)) 54, oBlk g3 (([.int .i64 rr_t47.t, .int .i64 rr_t47.c, .int .i64 rr_t47.s] : List Value) ++ (cBs rr_t47.h.1 ++ cBs rr_t47.b.1)) 54] := hH.drop (.cons_cons _ (.cons_cons _ (.cons_cons _ (.cons _ .slnil))))
        refine wp_gen (fun F' => F' 0 = .agg (([.int .i64 r.t, .int .i64 r.c, .int .i64 r.s] : List Value) ++ (cBs r.h.1 ++ cBs r.b.1)).toArray ∧ F' 1 = slcV v 1 0 300 ∧ F' 2 = .pointer (some ⟨g1, 0, none⟩) ∧ F' 4 = .bool true ∧ F' 5 = .pointer (some ⟨g2, 0, none⟩) ∧ F' 6 = .int .i64 re_t17 ∧ F' 7 = .pointer (some ⟨g3, 0, none⟩) ∧ F' 8 = .int .i64 re_t47 ∧ F' 11 = .bool true ∧ F' 33 = .bool false ∧ F' 44 = .bool false ∧ F' 51 = .bool false) ⟨e0, e1, e2, rfl, e5, e6, e7, e8, e11, e33, e44, e51⟩ ?_
        clear e0 e1 e2 e4 e5 e6 e7 e8 e11 e33 e44 e51
        clear F
        rintro F ⟨e0, e1, e2, e4, e5, e6, e7, e8, e11, e33, e44, e51⟩
        refine wp_ret ?_
        exact bodyPost_ret (v := (.bool true)) (res1 rfl (ro_tmp rfl e4)) rfl (⟨rfl, hH.done⟩)
      · refine lf_val (v := .bool true) (wantAll rfl) (rv_neq rfl (fr_eval rfl rfl) rfl (decide_eq_false (by omega))) ?_
        refine lf_nil ?_
        refine then_n ?_
        refine wp_gen (fun F' => F' 0 = .agg (([.int .i64 r.t, .int .i64 r.c, .int .i64 r.s] : List Value) ++ (cBs r.h.1 ++ cBs r.b.1)).toArray ∧ F' 1 = slcV v 1 0 300 ∧ F' 2 = .pointer (some ⟨g1, 0, none⟩) ∧ F' 4 = .bool false ∧ F' 5 = .pointer (some ⟨g2, 0, none⟩) ∧ F' 6 = .int .i64 re_t17 ∧ F' 7 = .pointer (some ⟨g3, 0, none⟩) ∧ F' 8 = .int .i64 re_t47 ∧ F' 11 = .bool true ∧ F' 33 = .bool false ∧ F' 44 = .bool false ∧ F' 51 = .bool true) ⟨e0, e1, e2, e4, e5, e6, e7, e8, e11, e33, e44, rfl⟩ ?_
        clear e0 e1 e2 e4 e5 e6 e7 e8 e11 e33 e44
        clear F
        rintro F ⟨e0, e1, e2, e4, e5, e6, e7, e8, e11, e33, e44, e51⟩
        refine wp_cond_true (fr_eval rfl e51) ?_
        refine wp_seq ?_
        have hz := hR_rr_t47.bad (by assumption)
        refine wp_regionX (fun _ => False) 13 (by kernel_rfl) (by kernel_rfl) ?_
        refine xl_take (i := 0) (v := .agg (([.int .i64 rr_t47.t, .int .i64 rr_t47.c, .int .i64 rr_t47.s] : List Value) ++ (cBs rr_t47.h.1 ++ cBs rr_t47.b.1)).toArray) rfl (by kernel_rfl) (by kernel_rfl) (by kernel_rfl) (by kernel_rfl) (yx_val (wantAll rfl) (fun w' hx' => rv_loadW rfl ((hH.ext hx').blk (i := 2) rfl) (fr_eval rfl e7) Try.underlying54 rfl (sz_len Try.sz54 (len_app (m := 3) (n := 64) (k := 67) rfl (len_app (m := 32) (n := 32) (k := 64) (cBs_len rr_t47.h.2) (cBs_len rr_t47.b.2) rfl) rfl)))) ?_
        refine xl_take (i := 1) (v := .agg (([.int .i64 0, .int .i64 0, .int .i64 0] : List Value) ++ (cBs (List.replicate 32 0) ++ cBs (List.replicate 32 0))).toArray) rfl (by kernel_rfl) (by kernel_rfl) (by kernel_rfl) (by kernel_rfl) (yx_val (wantAll rfl) (fun w' hx' => rv_buildS (ps := []) (places := #[(0, 1), (1, 1), (2, 1), (3, 32), (35, 32)]) (z := .agg (([.int .i64 0, .int .i64 0, .int .i64 0] : List Value) ++ (cBs (List.replicate 32 0) ++ cBs (List.replicate 32 0))).toArray) (zc := ([.int .i64 0, .int .i64 0, .int .i64 0] : List Value) ++ (cBs (List.replicate 32 0) ++ cBs (List.replicate 32 0))) (cs := ([.int .i64 0, .int .i64 0, .int .i64 0] : List Value) ++ (cBs (List.replicate 32 0) ++ cBs (List.replicate 32 0))) rfl evpn (by kernel_rfl) rfl Try.underlying54 (fun _ => by kernel_rfl) fill0)) ?_
        refine xl_take (i := 2) (v := .bool true) rfl (by kernel_rfl) (by kernel_rfl) (by kernel_rfl) (by kernel_rfl) (yx_val (wantAll rfl) (fun w' hx' => rv_eqR (r := rr_t47) (q := (⟨0, 0, 0, ⟨List.replicate 32 0, (List.length_replicate ..)⟩, ⟨List.replicate 32 0, (List.length_replicate ..)⟩⟩ : Rc)) (b := true) rfl (fr_eval rfl rfl) (fr_eval rfl rfl) (by rw [hz]; exact rcBeq_self _))) ?_
        refine xl_take (i := 3) (v := .bool true) rfl (by kernel_rfl) (by kernel_rfl) (by kernel_rfl) (by kernel_rfl) (yx_val (wantAll rfl) (fun w' hx' => rv_move rfl (fr_eval rfl rfl))) ?_
        refine xl_take (i := 4) (v := .agg (([.int .i64 r.t, .int .i64 r.c, .int .i64 r.s] : List Value) ++ (cBs r.h.1 ++ cBs r.b.1)).toArray) rfl (by kernel_rfl) (by kernel_rfl) (by kernel_rfl) (by kernel_rfl) (yx_val (wantF (d := 55) rfl (by kernel_rfl) rfl rfl) (fun w' hx' => rv_loadW rfl ((hH.ext hx').blk (i := 0) rfl) (fr_eval rfl e2) Try.underlying54 rfl (sz_len Try.sz54 (len_app (m := 3) (n := 64) (k := 67) rfl (len_app (m := 32) (n := 32) (k := 64) (cBs_len r.h.2) (cBs_len r.b.2) rfl) rfl)))) ?_
        refine xl_take (i := 5) (v := .bool false) rfl (by kernel_rfl) (by kernel_rfl) (by kernel_rfl) (by kernel_rfl) (yx_call (wantF (d := 55) rfl (by kernel_rfl) rfl rfl) (fun w' => rv_call (args := [.agg (([.int .i64 r.t, .int .i64 r.c, .int .i64 r.s] : List Value) ++ (cBs r.h.1 ++ cBs r.b.1)).toArray]) rfl (evc (fr_eval rfl rfl) evn) Try.call35) (fun w' hx' => calls_known (rcRight12_calls r _) (hb1))) ?_
        refine xl_take (i := 6) (v := .bool true) rfl (by kernel_rfl) (by kernel_rfl) (by kernel_rfl) (by kernel_rfl) (yx_val (wantF (d := 55) rfl (by kernel_rfl) rfl rfl) (fun w' hx' => rv_not (b := false) rfl (fr_eval rfl rfl))) ?_
        refine xl_take (i := 7) (v := .bool true) rfl (by kernel_rfl) (by kernel_rfl) (by kernel_rfl) (by kernel_rfl) (yx_val (wantF (d := 55) rfl (by kernel_rfl) rfl rfl) (fun w' hx' => rv_move rfl (fr_eval rfl rfl))) ?_
        refine xl_take (i := 8) (v := undef) rfl (by kernel_rfl) (by kernel_rfl) (by kernel_rfl) (by kernel_rfl) (yx_not (wantNot (d := 59) rfl (by kernel_rfl) rfl rfl)) ?_
        refine xl_take (i := 9) (v := undef) rfl (by kernel_rfl) (by kernel_rfl) (by kernel_rfl) (by kernel_rfl) (yx_not (wantNot (d := 59) rfl (by kernel_rfl) rfl rfl)) ?_
        refine xl_take (i := 10) (v := undef) rfl (by kernel_rfl) (by kernel_rfl) (by kernel_rfl) (by kernel_rfl) (yx_not (wantNot (d := 59) rfl (by kernel_rfl) rfl rfl)) ?_
        refine xl_take (i := 11) (v := undef) rfl (by kernel_rfl) (by kernel_rfl) (by kernel_rfl) (by kernel_rfl) (yx_not (wantNot (d := 59) rfl (by kernel_rfl) rfl rfl)) ?_
        refine xl_take (i := 12) (v := undef) rfl (by kernel_rfl) (by kernel_rfl) (by kernel_rfl) (by kernel_rfl) (yx_not (wantNot (d := 59) rfl (by kernel_rfl) rfl rfl)) ?_
        refine xl_tail (s := 13) rfl ?_
        intro w20 hx
        replace hH := hH.ext hx
        clear hx
        refine lf_not (wantNot (d := 59) rfl (by kernel_rfl) rfl rfl) ?_
        refine lf_val (v := .bool true) (wantF (d := 55) rfl (by kernel_rfl) rfl rfl) (rv_pickT rfl (fr_eval rfl rfl) rfl) ?_
        refine lf_val (v := .bool true) (wantAll rfl) (rv_pickT rfl (fr_eval rfl rfl) (fr_eval rfl rfl)) ?_
        refine lf_val (v := .bool true) (wantAll rfl) (rv_move rfl (fr_eval rfl rfl)) ?_
        refine lf_call (wantF (d := 68) rfl (by kernel_rfl) rfl rfl) (rv_call (args := []) rfl evn Try.call36) (awake12_calls _) ?_
        rintro _ w21 ⟨rfl, hx⟩
        refine ⟨_, rfl, ?_⟩
        replace hH := hH.ext hx
        clear hx
        refine lf_val (v := .bool true) (wantAll rfl) (rv_pickT rfl (fr_eval rfl rfl) (fr_eval rfl rfl)) ?_
        refine lf_val (v := .bool true) (wantAll rfl) (rv_assign rfl (fr_eval rfl rfl)) ?_
        refine lf_nil ?_
        refine then_n ?_
        refine wp_gen (fun F' => F' 0 = .agg (([.int .i64 r.t, .int .i64 r.c, .int .i64 r.s] : List Value) ++ (cBs r.h.1 ++ cBs r.b.1)).toArray ∧ F' 1 = slcV v 1 0 300 ∧ F' 2 = .pointer (some ⟨g1, 0, none⟩) ∧ F' 4 = .bool true ∧ F' 5 = .pointer (some ⟨g2, 0, none⟩) ∧ F' 6 = .int .i64 re_t17 ∧ F' 7 = .pointer (some ⟨g3, 0, none⟩) ∧ F' 8 = .int .i64 re_t47 ∧ F' 11 = .bool true ∧ F' 33 = .bool false ∧ F' 44 = .bool false ∧ F' 51 = .bool true) ⟨e0, e1, e2, rfl, e5, e6, e7, e8, e11, e33, e44, e51⟩ ?_
        clear e0 e1 e2 e4 e5 e6 e7 e8 e11 e33 e44 e51
        clear F
        rintro F ⟨e0, e1, e2, e4, e5, e6, e7, e8, e11, e33, e44, e51⟩
        refine wp_ret ?_
        refine then_ret ?_
        exact bodyPost_ret (v := (.bool true)) (res1 rfl (ro_tmp rfl e4)) rfl (⟨rfl, hH.done⟩)
    · refine lf_val (v := .agg (([.int .i64 rr_t17.t, .int .i64 rr_t17.c, .int .i64 rr_t17.s] : List Value) ++ (cBs rr_t17.h.1 ++ cBs rr_t17.b.1)).toArray) (wantF (d := 36) rfl (by kernel_rfl) rfl rfl) (rv_loadW rfl (hH.blk (i := 1) rfl) (fr_eval rfl e5) Try.underlying54 rfl (sz_len Try.sz54 (len_app (m := 3) (n := 64) (k := 67) rfl (len_app (m := 32) (n := 32) (k := 64) (cBs_len rr_t17.h.2) (cBs_len rr_t17.b.2) rfl) rfl))) ?_
      refine lf_val (v := .agg (([.int .i64 r.t, .int .i64 r.c, .int .i64 r.s] : List Value) ++ (cBs r.h.1 ++ cBs r.b.1)).toArray) (wantF (d := 36) rfl (by kernel_rfl) rfl rfl) (rv_loadW rfl (hH.blk (i := 0) rfl) (fr_eval rfl e2) Try.underlying54 rfl (sz_len Try.sz54 (len_app (m := 3) (n := 64) (k := 67) rfl (len_app (m := 32) (n := 32) (k := 64) (cBs_len r.h.2) (cBs_len r.b.2) rfl) rfl))) ?_
      obtain ⟨he1, hr1⟩ := hR_rr_t17.one r (of_decide_eq_true (by assumption)) rfl
      refine lf_val (v := .bool false) (wantF (d := 36) rfl (by kernel_rfl) rfl rfl) (rv_neR (r := rr_t17) (q := r) (b := true) rfl (fr_eval rfl rfl) (fr_eval rfl rfl) (by rw [hr1]; exact rcBeq_self _)) ?_
      refine lf_val (v := .bool false) (wantF (d := 36) rfl (by kernel_rfl) rfl rfl) (rv_move rfl (fr_eval rfl rfl)) ?_
      refine lf_val (v := .int .i64 re_t17) (wantF (d := 40) rfl (by kernel_rfl) rfl rfl) (rv_move rfl (fr_eval rfl e6)) ?_
      refine lf_val (v := .bool false) (wantF (d := 40) rfl (by kernel_rfl) rfl rfl) (rv_neq rfl (fr_eval rfl rfl) rfl (decide_eq_true (by omega))) ?_
      refine lf_val (v := .bool false) (wantF (d := 36) rfl (by kernel_rfl) rfl rfl) (rv_pickF rfl (fr_eval rfl rfl) (fr_eval rfl rfl)) ?_
      refine lf_val (v := .bool false) (wantAll rfl) (rv_pickT rfl (fr_eval rfl rfl) (fr_eval rfl rfl)) ?_
      refine lf_nil ?_
      refine then_n ?_
      refine wp_gen (fun F' => F' 0 = .agg (([.int .i64 r.t, .int .i64 r.c, .int .i64 r.s] : List Value) ++ (cBs r.h.1 ++ cBs r.b.1)).toArray ∧ F' 1 = slcV v 1 0 300 ∧ F' 2 = .pointer (some ⟨g1, 0, none⟩) ∧ F' 4 = .bool false ∧ F' 5 = .pointer (some ⟨g2, 0, none⟩) ∧ F' 6 = .int .i64 re_t17 ∧ F' 11 = .bool true ∧ F' 33 = .bool false ∧ F' 44 = .bool false) ⟨e0, e1, e2, e4, e5, e6, e11, e33, rfl⟩ ?_
      clear e0 e1 e2 e4 e5 e6 e11 e33
      clear F
      rintro F ⟨e0, e1, e2, e4, e5, e6, e11, e33, e44⟩
      refine wp_cond_false (fr_eval rfl e44) ?_
      refine wp_skip ?_
      refine then_n ?_
      refine wp_seq ?_
      refine wp_regionF ?_
      refine lf_val (v := slcV v 1 0 300) (wantAll rfl) (rv_move rfl (fr_eval rfl e1)) ?_
      refine lf_call (wantAll rfl) (rv_call (args := [slcV v 1 0 300]) rfl (evc (fr_eval rfl rfl) evn) Try.call31) (rcRead_calls (List.take 300 b) (by first | omega | (simp only [List.length_take]; omega)) _ _ (rdB_slcH (h := 300) (RdB.rn (hr.rd _ hH.chg) rfl) (by omega))) ?_
      rintro _ w22 ⟨⟨rr_t47, re_t47, rfl, hR_rr_t47⟩, hx⟩
      refine ⟨_, rfl, ?_⟩
      replace hH := hH.ext hx
      clear hx
      refine lf_val (v := .tuple #[.agg (([.int .i64 rr_t47.t, .int .i64 rr_t47.c, .int .i64 rr_t47.s] : List Value) ++ (cBs rr_t47.h.1 ++ cBs rr_t47.b.1)).toArray, .int .i64 re_t47]) (wantAll rfl) (rv_move rfl (fr_eval rfl rfl)) ?_
      refine lf_val (v := .agg (([.int .i64 rr_t47.t, .int .i64 rr_t47.c, .int .i64 rr_t47.s] : List Value) ++ (cBs rr_t47.h.1 ++ cBs rr_t47.b.1)).toArray) (wantAll rfl) (rv_extract rfl (fr_eval rfl rfl) rfl) ?_
      refine lf_val (v := .int .i64 re_t47) (wantAll rfl) (rv_extract rfl (fr_eval rfl rfl) rfl) ?_
      refine lf_ex (wantAll rfl) (hx_alloc hH 54 (z := .agg (([.int .i64 0, .int .i64 0, .int .i64 0] : List Value) ++ (cBs (List.replicate 32 0) ++ cBs (List.replicate 32 0))).toArray) (n := 67) (cs := ([.int .i64 0, .int .i64 0, .int .i64 0] : List Value) ++ (cBs (List.replicate 32 0) ++ cBs (List.replicate 32 0))) rfl (by kernel_rfl) (by rfl)) ?_
      clear hH
      rintro _ w23 ⟨g4, rfl, hH, hx⟩
      replace hH : Heap (newN w) w w23 [oBlk g1 (([.int .i64 r.t, .int .i64 r.c, .int .i64 r.s] : List Value) ++ (cBs r.h.1 ++ cBs r.b.1)) 54, oBlk g2 (([.int .i64 rr_t17.t, .int .i64 rr_t17.c, .int .i64 rr_t17.s] : List Value) ++ (cBs rr_t17.h.1 ++ cBs rr_t17.b.1)) 54, oBlk g4 (([.int .i64 0, .int .i64 0, .int .i64 0] : List Value) ++ (cBs (List.replicate 32 0) ++ cBs (List.replicate 32 0))) 54] := hH
      clear hx
      refine lf_sk (wantAll rfl) (hx_storeW hH (i := 2) (cs := ([.int .i64 rr_t47.t, .int .i64 rr_t47.c, .int .i64 rr_t47.s] : List Value) ++ (cBs rr_t47.h.1 ++ cBs rr_t47.b.1)) rfl rfl rfl (fr_eval rfl rfl) (fr_eval rfl rfl) (sz_len Try.sz54 (len_app (m := 3) (n := 64) (k := 67) rfl (len_app (m := 32) (n := 32) (k := 64) (cBs_len rr_t47.h.2) (cBs_len rr_t47.b.2) rfl) rfl)) (((len_app (m := 3) (n := 64) (k := 67) rfl (len_app (m := 32) (n := 32) (k := 64) (cBs_len (List.length_replicate ..)) (cBs_len (List.length_replicate ..)) rfl) rfl)).trans ((len_app (m := 3) (n := 64) (k := 67) rfl (len_app (m := 32) (n := 32) (k := 64) (cBs_len rr_t47.h.2) (cBs_len rr_t47.b.2) rfl) rfl)).symm) ((ones_app (ones_cons rfl (ones_cons rfl (ones_cons rfl ones_nil))) (ones_app (cBs_one _) (cBs_one _))))) ?_
      clear hH
      rintro w24 ⟨hH, hx⟩
      replace hH : Heap (newN w) w w24 [oBlk g1 (([.int .i64 r.t, .int .i64 r.c, .int .i64 r.s] : List Value) ++ (cBs r.h.1 ++ cBs r.b.1)) 54, oBlk g2 (([.int .i64 rr_t17.t, .int .i64 rr_t17.c, .int .i64 rr_t17.s] : List Value) ++ (cBs rr_t17.h.1 ++ cBs rr_t17.b.1)) 54, oBlk g4 (([.int .i64 rr_t47.t, .int .i64 rr_t47.c, .int .i64 rr_t47.s] : List Value) ++ (cBs rr_t47.h.1 ++ cBs rr_t47.b.1)) 54] := hH
      clear hx
      refine lf_val (v := .int .i64 re_t47) (wantAll rfl) (rv_assign rfl (fr_eval rfl rfl)) ?_
      refine lf_nil ?_
      refine then_n ?_
      refine wp_seq ?_
      refine wp_seq ?_
      refine wp_gen (fun F' => F' 0 = .agg (([.int .i64 r.t, .int .i64 r.c, .int .i64 r.s] : List Value) ++ (cBs r.h.1 ++ cBs r.b.1)).toArray ∧ F' 1 = slcV v 1 0 300 ∧ F' 2 = .pointer (some ⟨g1, 0, none⟩) ∧ F' 4 = .bool false ∧ F' 5 = .pointer (some ⟨g2, 0, none⟩) ∧ F' 6 = .int .i64 re_t17 ∧ F' 7 = .pointer (some ⟨g4, 0, none⟩) ∧ F' 8 = .int .i64 re_t47 ∧ F' 11 = .bool true ∧ F' 33 = .bool false ∧ F' 44 = .bool false) ⟨e0, e1, e2, e4, e5, e6, rfl, rfl, e11, e33, e44⟩ ?_
      clear e0 e1 e2 e4 e5 e6 e11 e33 e44
      clear F
      rintro F ⟨e0, e1, e2, e4, e5, e6, e7, e8, e11, e33, e44⟩
      refine wp_regionF ?_
      refine lf_val (v := .int .i64 re_t47) (wantAll rfl) (rv_move rfl (fr_eval rfl e8)) ?_
      by_cases hc3 : re_t47 = 0
      · refine lf_val (v := .bool false) (wantAll rfl) (rv_neq rfl (fr_eval rfl rfl) rfl (decide_eq_true (by omega))) ?_
        refine lf_nil ?_
        refine then_n ?_
        refine wp_gen (fun F' => F' 0 = .agg (([.int .i64 r.t, .int .i64 r.c, .int .i64 r.s] : List Value) ++ (cBs r.h.1 ++ cBs r.b.1)).toArray ∧ F' 1 = slcV v 1 0 300 ∧ F' 2 = .pointer (some ⟨g1, 0, none⟩) ∧ F' 4 = .bool false ∧ F' 5 = .pointer (some ⟨g2, 0, none⟩) ∧ F' 6 = .int .i64 re_t17 ∧ F' 7 = .pointer (some ⟨g4, 0, none⟩) ∧ F' 8 = .int .i64 re_t47 ∧ F' 11 = .bool true ∧ F' 33 = .bool false ∧ F' 44 = .bool false ∧ F' 51 = .bool false) ⟨e0, e1, e2, e4, e5, e6, e7, e8, e11, e33, e44, rfl⟩ ?_
        clear e0 e1 e2 e4 e5 e6 e7 e8 e11 e33 e44
        clear F
        rintro F ⟨e0, e1, e2, e4, e5, e6, e7, e8, e11, e33, e44, e51⟩
        refine wp_cond_false (fr_eval rfl e51) ?_
        refine wp_skip ?_
        refine then_n ?_
        refine wp_seq ?_
        refine wp_regionX (fun _ => False) 8 (by kernel_rfl) (by kernel_rfl) ?_
        refine xl_take (i := 0) (v := .agg (([.int .i64 rr_t47.t, .int .i64 rr_t47.c, .int .i64 rr_t47.s] : List Value) ++ (cBs rr_t47.h.1 ++ cBs rr_t47.b.1)).toArray) rfl (by kernel_rfl) (by kernel_rfl) (by kernel_rfl) (by kernel_rfl) (yx_val (wantAll rfl) (fun w' hx' => rv_loadW rfl ((hH.ext hx').blk (i := 2) rfl) (fr_eval rfl e7) Try.underlying54 rfl (sz_len Try.sz54 (len_app (m := 3) (n := 64) (k := 67) rfl (len_app (m := 32) (n := 32) (k := 64) (cBs_len rr_t47.h.2) (cBs_len rr_t47.b.2) rfl) rfl)))) ?_
        refine xl_take (i := 1) (v := .bool true) rfl (by kernel_rfl) (by kernel_rfl) (by kernel_rfl) (by kernel_rfl) (yx_call (wantAll rfl) (fun w' => rv_call (args := [.agg (([.int .i64 rr_t47.t, .int .i64 rr_t47.c, .int .i64 rr_t47.s] : List Value) ++ (cBs rr_t47.h.1 ++ cBs rr_t47.b.1)).toArray]) rfl (evc (fr_eval rfl rfl) evn) Try.call35) (fun w' hx' => calls_known (rcRight12_calls rr_t47 _) (decide_eq_true (hR_rr_t47.good (by assumption)).1))) ?_
        refine xl_take (i := 2) (v := .bool true) rfl (by kernel_rfl) (by kernel_rfl) (by kernel_rfl) (by kernel_rfl) (yx_val (wantAll rfl) (fun w' hx' => rv_move rfl (fr_eval rfl rfl))) ?_
        refine xl_take (i := 3) (v := .agg (([.int .i64 rr_t47.t, .int .i64 rr_t47.c, .int .i64 rr_t47.s] : List Value) ++ (cBs rr_t47.h.1 ++ cBs rr_t47.b.1)).toArray) rfl (by kernel_rfl) (by kernel_rfl) (by kernel_rfl) (by kernel_rfl) (yx_val (wantF (d := 73) rfl (by kernel_rfl) rfl rfl) (fun w' hx' => rv_loadW rfl ((hH.ext hx').blk (i := 2) rfl) (fr_eval rfl e7) Try.underlying54 rfl (sz_len Try.sz54 (len_app (m := 3) (n := 64) (k := 67) rfl (len_app (m := 32) (n := 32) (k := 64) (cBs_len rr_t47.h.2) (cBs_len rr_t47.b.2) rfl) rfl)))) ?_
        refine xl_take (i := 6) (v := slcV v 1 0 300) rfl (by kernel_rfl) (by kernel_rfl) (by kernel_rfl) (by kernel_rfl) (yx_val (wantF (d := 73) rfl (by kernel_rfl) rfl rfl) (fun w' hx' => rv_move rfl (fr_eval rfl e1))) ?_
        refine xl_take (i := 7) (v := .string ⟨(List.take 300 b).toArray⟩) rfl (by kernel_rfl) (by kernel_rfl) (by kernel_rfl) (by kernel_rfl) (yx_val (wantF (d := 73) rfl (by kernel_rfl) rfl rfl) (fun w' hx' => rv_str rfl (fr_eval rfl rfl) (rdB_slcH (h := 300) (RdB.rn (hr.rd _ (hH.chg.trans (Ext.any hx'))) rfl) (by omega)) Try.underlying22 Try.underlying5 Try.underlying9)) ?_
        refine anyX_ready (rs := [4]) (by kernel_rfl) ?_
        intro w25 hx
        replace hH := hH.ext hx
        clear hx
        refine (anyX_cons ?_ anyX_nil)
        refine xl_step (i := 4) rfl (wantF (d := 73) rfl (by kernel_rfl) rfl rfl) ?_
        refine of_call (rv_call (args := [.agg (([.int .i64 rr_t47.t, .int .i64 rr_t47.c, .int .i64 rr_t47.s] : List Value) ++ (cBs rr_t47.h.1 ++ cBs rr_t47.b.1)).toArray]) rfl (evc (fr_eval rfl rfl) evn) Try.call32) (rcText12_calls rr_t47 (inR_in (hR_rr_t47.good (by assumption)).1) _) ?_
        rintro _ w26 ⟨⟨y5, rfl, ho, hg⟩, hx⟩
        refine ⟨_, rfl, ?_⟩
        replace hH : Heap (newN w) w w26 [oBlk g1 (([.int .i64 r.t, .int .i64 r.c, .int .i64 r.s] : List Value) ++ (cBs r.h.1 ++ cBs r.b.1)) 54, oBlk g2 (([.int .i64 rr_t17.t, .int .i64 rr_t17.c, .int .i64 rr_t17.s] : List Value) ++ (cBs rr_t17.h.1 ++ cBs rr_t17.b.1)) 54, oBlk g4 (([.int .i64 rr_t47.t, .int .i64 rr_t47.c, .int .i64 rr_t47.s] : List Value) ++ (cBs rr_t47.h.1 ++ cBs rr_t47.b.1)) 54, oB y5 (textR rr_t47)] := hH.addOwn hx hg ho
        clear ho hg
        refine ⟨hx, ?_⟩
        clear hx
        refine xl_take (i := 5) (v := .string ⟨(textR rr_t47).toArray⟩) rfl (by kernel_rfl) (by kernel_rfl) (by kernel_rfl) (by kernel_rfl) (yx_val (wantF (d := 73) rfl (by kernel_rfl) rfl rfl) (fun w' hx' => rv_str rfl (fr_eval rfl rfl) (OwnB.rd ((hH.ext hx').own (i := 3) rfl)) Try.underlying22 Try.underlying5 Try.underlying9)) ?_
        refine xl_tail (s := 8) rfl ?_
        intro w27 hx
        replace hH := hH.ext hx
        clear hx
        refine lf_val (v := .bool true) (wantF (d := 73) rfl (by kernel_rfl) rfl rfl) (rv_eqs (b := true) rfl (fr_eval rfl rfl) (fr_eval rfl rfl) (by exact decide_eq_true (hR_rr_t47.good (by assumption)).2.symm)) ?_
        refine lf_val (v := .bool true) (wantAll rfl) (rv_pickT rfl (fr_eval rfl rfl) (fr_eval rfl rfl)) ?_
        refine lf_val (v := .bool true) (wantAll rfl) (rv_move rfl (fr_eval rfl rfl)) ?_
        refine lf_call (wantF (d := 81) rfl (by kernel_rfl) rfl rfl) (rv_call (args := []) rfl evn Try.call36) (awake12_calls _) ?_
        rintro _ w28 ⟨rfl, hx⟩
        refine ⟨_, rfl, ?_⟩
        replace hH := hH.ext hx
        clear hx
        refine lf_val (v := .bool true) (wantAll rfl) (rv_pickT rfl (fr_eval rfl rfl) (fr_eval rfl rfl)) ?_
        refine lf_val (v := .bool true) (wantAll rfl) (rv_assign rfl (fr_eval rfl rfl)) ?_
        refine lf_nil ?_
        refine then_n ?_
        replace hH : Heap (newN w) w w28 [oBlk g1 (([.int .i64 r.t, .int .i64 r.c, .int .i64 r.s] : List Value) ++ (cBs r.h.1 ++ cBs r.b.1)) 54, oBlk g2 (([.int .i64 rr_t17.t, .int .i64 rr_t17.c, .int .i64 rr_t17.s] : List Value) ++ (cBs rr_t17.h.1 ++ cBs rr_t17.b.1)) 54, oBlk g4 (([.int .i64 rr_t47.t, .int .i64 rr_t47.c, .int .i64 rr_t47.s] : List Value) ++ (cBs rr_t47.h.1 ++ cBs rr_t47.b.1)) 54] := hH.drop (.cons_cons _ (.cons_cons _ (.cons_cons _ (.cons _ .slnil))))
        refine wp_gen (fun F' => F' 0 = .agg (([.int .i64 r.t, .int .i64 r.c, .int .i64 r.s] : List Value) ++ (cBs r.h.1 ++ cBs r.b.1)).toArray ∧ F' 1 = slcV v 1 0 300 ∧ F' 2 = .pointer (some ⟨g1, 0, none⟩) ∧ F' 4 = .bool true ∧ F' 5 = .pointer (some ⟨g2, 0, none⟩) ∧ F' 6 = .int .i64 re_t17 ∧ F' 7 = .pointer (some ⟨g4, 0, none⟩) ∧ F' 8 = .int .i64 re_t47 ∧ F' 11 = .bool true ∧ F' 33 = .bool false ∧ F' 44 = .bool false ∧ F' 51 = .bool false) ⟨e0, e1, e2, rfl, e5, e6, e7, e8, e11, e33, e44, e51⟩ ?_
        clear e0 e1 e2 e4 e5 e6 e7 e8 e11 e33 e44 e51
        clear F
        rintro F ⟨e0, e1, e2, e4, e5, e6, e7, e8, e11, e33, e44, e51⟩
        refine wp_ret ?_
        exact bodyPost_ret (v := (.bool true)) (res1 rfl (ro_tmp rfl e4)) rfl (⟨rfl, hH.done⟩)
      · refine lf_val (v := .bool true) (wantAll rfl) (rv_neq rfl (fr_eval rfl rfl) rfl (decide_eq_false (by omega))) ?_
        refine lf_nil ?_
        refine then_n ?_
        refine wp_gen (fun F' => F' 0 = .agg (([.int .i64 r.t, .int .i64 r.c, .int .i64 r.s] : List Value) ++ (cBs r.h.1 ++ cBs r.b.1)).toArray ∧ F' 1 = slcV v 1 0 300 ∧ F' 2 = .pointer (some ⟨g1, 0, none⟩) ∧ F' 4 = .bool false ∧ F' 5 = .pointer (some ⟨g2, 0, none⟩) ∧ F' 6 = .int .i64 re_t17 ∧ F' 7 = .pointer (some ⟨g4, 0, none⟩) ∧ F' 8 = .int .i64 re_t47 ∧ F' 11 = .bool true ∧ F' 33 = .bool false ∧ F' 44 = .bool false ∧ F' 51 = .bool true) ⟨e0, e1, e2, e4, e5, e6, e7, e8, e11, e33, e44, rfl⟩ ?_
        clear e0 e1 e2 e4 e5 e6 e7 e8 e11 e33 e44
        clear F
        rintro F ⟨e0, e1, e2, e4, e5, e6, e7, e8, e11, e33, e44, e51⟩
        refine wp_cond_true (fr_eval rfl e51) ?_
        refine wp_seq ?_
        have hz := hR_rr_t47.bad (by assumption)
        refine wp_regionX (fun _ => False) 13 (by kernel_rfl) (by kernel_rfl) ?_
        refine xl_take (i := 0) (v := .agg (([.int .i64 rr_t47.t, .int .i64 rr_t47.c, .int .i64 rr_t47.s] : List Value) ++ (cBs rr_t47.h.1 ++ cBs rr_t47.b.1)).toArray) rfl (by kernel_rfl) (by kernel_rfl) (by kernel_rfl) (by kernel_rfl) (yx_val (wantAll rfl) (fun w' hx' => rv_loadW rfl ((hH.ext hx').blk (i := 2) rfl) (fr_eval rfl e7) Try.underlying54 rfl (sz_len Try.sz54 (len_app (m := 3) (n := 64) (k := 67) rfl (len_app (m := 32) (n := 32) (k := 64) (cBs_len rr_t47.h.2) (cBs_len rr_t47.b.2) rfl) rfl)))) ?_
        refine xl_take (i := 1) (v := .agg (([.int .i64 0, .int .i64 0, .int .i64 0] : List Value) ++ (cBs (List.replicate 32 0) ++ cBs (List.replicate 32 0))).toArray) rfl (by kernel_rfl) (by kernel_rfl) (by kernel_rfl) (by kernel_rfl) (yx_val (wantAll rfl) (fun w' hx' => rv_buildS (ps := []) (places := #[(0, 1), (1, 1), (2, 1), (3, 32), (35, 32)]) (z := .agg (([.int .i64 0, .int .i64 0, .int .i64 0] : List Value) ++ (cBs (List.replicate 32 0) ++ cBs (List.replicate 32 0))).toArray) (zc := ([.int .i64 0, .int .i64 0, .int .i64 0] : List Value) ++ (cBs (List.replicate 32 0) ++ cBs (List.replicate 32 0))) (cs := ([.int .i64 0, .int .i64 0, .int .i64 0] : List Value) ++ (cBs (List.replicate 32 0) ++ cBs (List.replicate 32 0))) rfl evpn (by kernel_rfl) rfl Try.underlying54 (fun _ => by kernel_rfl) fill0)) ?_
        refine xl_take (i := 2) (v := .bool true) rfl (by kernel_rfl) (by kernel_rfl) (by kernel_rfl) (by kernel_rfl) (yx_val (wantAll rfl) (fun w' hx' => rv_eqR (r := rr_t47) (q := (⟨0, 0, 0, ⟨List.replicate 32 0, (List.length_replicate ..)⟩, ⟨List.replicate 32 0, (List.length_replicate ..)⟩⟩ : Rc)) (b := true) rfl (fr_eval rfl rfl) (fr_eval rfl rfl) (by rw [hz]; exact rcBeq_self _))) ?_
        refine xl_take (i := 3) (v := .bool true) rfl (by kernel_rfl) (by kernel_rfl) (by kernel_rfl) (by kernel_rfl) (yx_val (wantAll rfl) (fun w' hx' => rv_move rfl (fr_eval rfl rfl))) ?_
        refine xl_take (i := 4) (v := .agg (([.int .i64 r.t, .int .i64 r.c, .int .i64 r.s] : List Value) ++ (cBs r.h.1 ++ cBs r.b.1)).toArray) rfl (by kernel_rfl) (by kernel_rfl) (by kernel_rfl) (by kernel_rfl) (yx_val (wantF (d := 55) rfl (by kernel_rfl) rfl rfl) (fun w' hx' => rv_loadW rfl ((hH.ext hx').blk (i := 0) rfl) (fr_eval rfl e2) Try.underlying54 rfl (sz_len Try.sz54 (len_app (m := 3) (n := 64) (k := 67) rfl (len_app (m := 32) (n := 32) (k := 64) (cBs_len r.h.2) (cBs_len r.b.2) rfl) rfl)))) ?_
        refine xl_take (i := 5) (v := .bool true) rfl (by kernel_rfl) (by kernel_rfl) (by kernel_rfl) (by kernel_rfl) (yx_call (wantF (d := 55) rfl (by kernel_rfl) rfl rfl) (fun w' => rv_call (args := [.agg (([.int .i64 r.t, .int .i64 r.c, .int .i64 r.s] : List Value) ++ (cBs r.h.1 ++ cBs r.b.1)).toArray]) rfl (evc (fr_eval rfl rfl) evn) Try.call35) (fun w' hx' => calls_known (rcRight12_calls r _) (hb1))) ?_
        refine xl_take (i := 6) (v := .bool false) rfl (by kernel_rfl) (by kernel_rfl) (by kernel_rfl) (by kernel_rfl) (yx_val (wantF (d := 55) rfl (by kernel_rfl) rfl rfl) (fun w' hx' => rv_not (b := true) rfl (fr_eval rfl rfl))) ?_
        refine xl_take (i := 7) (v := .bool false) rfl (by kernel_rfl) (by kernel_rfl) (by kernel_rfl) (by kernel_rfl) (yx_val (wantF (d := 55) rfl (by kernel_rfl) rfl rfl) (fun w' hx' => rv_move rfl (fr_eval rfl rfl))) ?_
        refine xl_take (i := 8) (v := slcV v 1 0 300) rfl (by kernel_rfl) (by kernel_rfl) (by kernel_rfl) (by kernel_rfl) (yx_val (wantF (d := 59) rfl (by kernel_rfl) rfl rfl) (fun w' hx' => rv_move rfl (fr_eval rfl e1))) ?_
        refine xl_take (i := 9) (v := .string ⟨(List.take 300 b).toArray⟩) rfl (by kernel_rfl) (by kernel_rfl) (by kernel_rfl) (by kernel_rfl) (yx_val (wantF (d := 59) rfl (by kernel_rfl) rfl rfl) (fun w' hx' => rv_str rfl (fr_eval rfl rfl) (rdB_slcH (h := 300) (RdB.rn (hr.rd _ (hH.chg.trans (Ext.any hx'))) rfl) (by omega)) Try.underlying22 Try.underlying5 Try.underlying9)) ?_
        refine xl_take (i := 10) (v := .agg (([.int .i64 r.t, .int .i64 r.c, .int .i64 r.s] : List Value) ++ (cBs r.h.1 ++ cBs r.b.1)).toArray) rfl (by kernel_rfl) (by kernel_rfl) (by kernel_rfl) (by kernel_rfl) (yx_val (wantF (d := 59) rfl (by kernel_rfl) rfl rfl) (fun w' hx' => rv_loadW rfl ((hH.ext hx').blk (i := 0) rfl) (fr_eval rfl e2) Try.underlying54 rfl (sz_len Try.sz54 (len_app (m := 3) (n := 64) (k := 67) rfl (len_app (m := 32) (n := 32) (k := 64) (cBs_len r.h.2) (cBs_len r.b.2) rfl) rfl)))) ?_
        refine anyX_ready (rs := [11]) (by kernel_rfl) ?_
        intro w29 hx
        replace hH := hH.ext hx
        clear hx
        refine (anyX_cons ?_ anyX_nil)
        refine xl_step (i := 11) rfl (wantF (d := 59) rfl (by kernel_rfl) rfl rfl) ?_
        refine of_call (rv_call (args := [.agg (([.int .i64 r.t, .int .i64 r.c, .int .i64 r.s] : List Value) ++ (cBs r.h.1 ++ cBs r.b.1)).toArray]) rfl (evc (fr_eval rfl rfl) evn) Try.call32) (rcText12_calls r hin_r _) ?_
        rintro _ w30 ⟨⟨y6, rfl, ho, hg⟩, hx⟩
        refine ⟨_, rfl, ?_⟩
        replace hH : Heap (newN w) w w30 [oBlk g1 (([.int .i64 r.t, .int .i64 r.c, .int .i64 r.s] : List Value) ++ (cBs r.h.1 ++ cBs r.b.1)) 54, oBlk g2 (([.int .i64 rr_t17.t, .int .i64 rr_t17.c, .int .i64 rr_t17.s] : List Value) ++ (cBs rr_t17.h.1 ++ cBs rr_t17.b.1)) 54, oBlk g4 (([.int .i64 rr_t47.t, .int .i64 rr_t47.c, .int .i64 rr_t47.s] : List Value) ++ (cBs rr_t47.h.1 ++ cBs rr_t47.b.1)) 54, oB y6 (textR r)] := hH.addOwn hx hg ho
        clear ho hg
        refine ⟨hx, ?_⟩
        clear hx
        refine xl_take (i := 12) (v := .string ⟨(textR r).toArray⟩) rfl (by kernel_rfl) (by kernel_rfl) (by kernel_rfl) (by kernel_rfl) (yx_val (wantF (d := 59) rfl (by kernel_rfl) rfl rfl) (fun w' hx' => rv_str rfl (fr_eval rfl rfl) (OwnB.rd ((hH.ext hx').own (i := 3) rfl)) Try.underlying22 Try.underlying5 Try.underlying9)) ?_
        refine xl_tail (s := 13) rfl ?_
        intro w31 hx
        replace hH := hH.ext hx
        clear hx
        refine lf_val (v := .bool true) (wantF (d := 59) rfl (by kernel_rfl) rfl rfl) (rv_nes (b := false) rfl (fr_eval rfl rfl) (fr_eval rfl rfl) (by exact decide_eq_false (fun h => absurd (hR_rr_t47.one r (of_decide_eq_true (by assumption)) h).1 (by assumption)))) ?_
        refine lf_val (v := .bool true) (wantF (d := 55) rfl (by kernel_rfl) rfl rfl) (rv_pickF rfl (fr_eval rfl rfl) (fr_eval rfl rfl)) ?_
        refine lf_val (v := .bool true) (wantAll rfl) (rv_pickT rfl (fr_eval rfl rfl) (fr_eval rfl rfl)) ?_
        refine lf_val (v := .bool true) (wantAll rfl) (rv_move rfl (fr_eval rfl rfl)) ?_
        refine lf_call (wantF (d := 68) rfl (by kernel_rfl) rfl rfl) (rv_call (args := []) rfl evn Try.call36) (awake12_calls _) ?_
        rintro _ w32 ⟨rfl, hx⟩
        refine ⟨_, rfl, ?_⟩
        replace hH := hH.ext hx
        clear hx
        refine lf_val (v := .bool true) (wantAll rfl) (rv_pickT rfl (fr_eval rfl rfl) (fr_eval rfl rfl)) ?_
        refine lf_val (v := .bool true) (wantAll rfl) (rv_assign rfl (fr_eval rfl rfl)) ?_
        refine lf_nil ?_
        refine then_n ?_
        replace hH : Heap (newN w) w w32 [oBlk g1 (([.int .i64 r.t, .int .i64 r.c, .int .i64 r.s] : List Value) ++ (cBs r.h.1 ++ cBs r.b.1)) 54, oBlk g2 (([.int .i64 rr_t17.t, .int .i64 rr_t17.c, .int .i64 rr_t17.s] : List Value) ++ (cBs rr_t17.h.1 ++ cBs rr_t17.b.1)) 54, oBlk g4 (([.int .i64 rr_t47.t, .int .i64 rr_t47.c, .int .i64 rr_t47.s] : List Value) ++ (cBs rr_t47.h.1 ++ cBs rr_t47.b.1)) 54] := hH.drop (.cons_cons _ (.cons_cons _ (.cons_cons _ (.cons _ .slnil))))
        refine wp_gen (fun F' => F' 0 = .agg (([.int .i64 r.t, .int .i64 r.c, .int .i64 r.s] : List Value) ++ (cBs r.h.1 ++ cBs r.b.1)).toArray ∧ F' 1 = slcV v 1 0 300 ∧ F' 2 = .pointer (some ⟨g1, 0, none⟩) ∧ F' 4 = .bool true ∧ F' 5 = .pointer (some ⟨g2, 0, none⟩) ∧ F' 6 = .int .i64 re_t17 ∧ F' 7 = .pointer (some ⟨g4, 0, none⟩) ∧ F' 8 = .int .i64 re_t47 ∧ F' 11 = .bool true ∧ F' 33 = .bool false ∧ F' 44 = .bool false ∧ F' 51 = .bool true) ⟨e0, e1, e2, rfl, e5, e6, e7, e8, e11, e33, e44, e51⟩ ?_
        clear e0 e1 e2 e4 e5 e6 e7 e8 e11 e33 e44 e51
        clear F
        rintro F ⟨e0, e1, e2, e4, e5, e6, e7, e8, e11, e33, e44, e51⟩
        refine wp_ret ?_
        refine then_ret ?_
        exact bodyPost_ret (v := (.bool true)) (res1 rfl (ro_tmp rfl e4)) rfl (⟨rfl, hH.done⟩)
  · refine lf_val (v := .bool false) (wantAll rfl) (rv_gtr rfl (fr_eval rfl rfl) rfl (decide_eq_false (by omega))) ?_
    refine lf_nil ?_
    refine then_n ?_
    refine wp_gen (fun F' => F' 0 = .agg (([.int .i64 r.t, .int .i64 r.c, .int .i64 r.s] : List Value) ++ (cBs r.h.1 ++ cBs r.b.1)).toArray ∧ F' 1 = v ∧ F' 2 = .pointer (some ⟨g1, 0, none⟩) ∧ F' 4 = .bool false ∧ F' 11 = .bool false) ⟨e0, e1, e2, e4, rfl⟩ ?_
    clear e0 e1 e2 e4
    clear F
    rintro F ⟨e0, e1, e2, e4, e11⟩
    refine wp_cond_false (fr_eval rfl e11) ?_
    refine wp_skip ?_
    refine then_n ?_
    refine wp_seq ?_
    refine wp_regionF ?_
    refine lf_val (v := .agg (([.int .i64 r.t, .int .i64 r.c, .int .i64 r.s] : List Value) ++ (cBs r.h.1 ++ cBs r.b.1)).toArray) (wantAll rfl) (rv_loadW rfl (hH.blk (i := 0) rfl) (fr_eval rfl e2) Try.underlying54 rfl (sz_len Try.sz54 (len_app (m := 3) (n := 64) (k := 67) rfl (len_app (m := 32) (n := 32) (k := 64) (cBs_len r.h.2) (cBs_len r.b.2) rfl) rfl))) ?_
    refine lf_call (wantAll rfl) (rv_call (args := [.agg (([.int .i64 r.t, .int .i64 r.c, .int .i64 r.s] : List Value) ++ (cBs r.h.1 ++ cBs r.b.1)).toArray]) rfl (evc (fr_eval rfl rfl) evn) Try.call32) (rcText12_calls r hin_r _) ?_
    rintro _ w33 ⟨⟨y7, rfl, ho, hg⟩, hx⟩
    refine ⟨_, rfl, ?_⟩
    replace hH : Heap (newN w) w w33 [oBlk g1 (([.int .i64 r.t, .int .i64 r.c, .int .i64 r.s] : List Value) ++ (cBs r.h.1 ++ cBs r.b.1)) 54, oB y7 (textR r)] := hH.addOwn hx hg ho
    clear ho hg
    clear hx
    refine lf_call (wantAll rfl) (rv_call (args := [y7]) rfl (evc (fr_eval rfl rfl) evn) Try.call31) (rcRead_calls (textR r) (Nat.le_trans (textR_len r) (by decide)) _ _ (OwnB.rd (hH.own (i := 1) rfl))) ?_
    rintro _ w34 ⟨⟨rr_t17, re_t17, rfl, hR_rr_t17⟩, hx⟩
    refine ⟨_, rfl, ?_⟩
    replace hH := hH.ext hx
    clear hx
    refine lf_val (v := .tuple #[.agg (([.int .i64 rr_t17.t, .int .i64 rr_t17.c, .int .i64 rr_t17.s] : List Value) ++ (cBs rr_t17.h.1 ++ cBs rr_t17.b.1)).toArray, .int .i64 re_t17]) (wantAll rfl) (rv_move rfl (fr_eval rfl rfl)) ?_
    refine lf_val (v := .agg (([.int .i64 rr_t17.t, .int .i64 rr_t17.c, .int .i64 rr_t17.s] : List Value) ++ (cBs rr_t17.h.1 ++ cBs rr_t17.b.1)).toArray) (wantAll rfl) (rv_extract rfl (fr_eval rfl rfl) rfl) ?_
    refine lf_val (v := .int .i64 re_t17) (wantAll rfl) (rv_extract rfl (fr_eval rfl rfl) rfl) ?_
    refine lf_ex (wantAll rfl) (hx_alloc hH 54 (z := .agg (([.int .i64 0, .int .i64 0, .int .i64 0] : List Value) ++ (cBs (List.replicate 32 0) ++ cBs (List.replicate 32 0))).toArray) (n := 67) (cs := ([.int .i64 0, .int .i64 0, .int .i64 0] : List Value) ++ (cBs (List.replicate 32 0) ++ cBs (List.replicate 32 0))) rfl (by kernel_rfl) (by rfl)) ?_
    clear hH
    rintro _ w35 ⟨g5, rfl, hH, hx⟩
    replace hH : Heap (newN w) w w35 [oBlk g1 (([.int .i64 r.t, .int .i64 r.c, .int .i64 r.s] : List Value) ++ (cBs r.h.1 ++ cBs r.b.1)) 54, oB y7 (textR r), oBlk g5 (([.int .i64 0, .int .i64 0, .int .i64 0] : List Value) ++ (cBs (List.replicate 32 0) ++ cBs (List.replicate 32 0))) 54] := hH
    clear hx
    refine lf_sk (wantAll rfl) (hx_storeW hH (i := 2) (cs := ([.int .i64 rr_t17.t, .int .i64 rr_t17.c, .int .i64 rr_t17.s] : List Value) ++ (cBs rr_t17.h.1 ++ cBs rr_t17.b.1)) rfl rfl rfl (fr_eval rfl rfl) (fr_eval rfl rfl) (sz_len Try.sz54 (len_app (m := 3) (n := 64) (k := 67) rfl (len_app (m := 32) (n := 32) (k := 64) (cBs_len rr_t17.h.2) (cBs_len rr_t17.b.2) rfl) rfl)) (((len_app (m := 3) (n := 64) (k := 67) rfl (len_app (m := 32) (n := 32) (k := 64) (cBs_len (List.length_replicate ..)) (cBs_len (List.length_replicate ..)) rfl) rfl)).trans ((len_app (m := 3) (n := 64) (k := 67) rfl (len_app (m := 32) (n := 32) (k := 64) (cBs_len rr_t17.h.2) (cBs_len rr_t17.b.2) rfl) rfl)).symm) ((ones_app (ones_cons rfl (ones_cons rfl (ones_cons rfl ones_nil))) (ones_app (cBs_one _) (cBs_one _))))) ?_
    clear hH
    rintro w36 ⟨hH, hx⟩
    replace hH : Heap (newN w) w w36 [oBlk g1 (([.int .i64 r.t, .int .i64 r.c, .int .i64 r.s] : List Value) ++ (cBs r.h.1 ++ cBs r.b.1)) 54, oB y7 (textR r), oBlk g5 (([.int .i64 rr_t17.t, .int .i64 rr_t17.c, .int .i64 rr_t17.s] : List Value) ++ (cBs rr_t17.h.1 ++ cBs rr_t17.b.1)) 54] := hH
    clear hx
    refine lf_val (v := .int .i64 re_t17) (wantAll rfl) (rv_assign rfl (fr_eval rfl rfl)) ?_
    refine lf_nil ?_
    refine then_n ?_
    refine wp_seq ?_
    refine wp_seq ?_
    replace hH : Heap (newN w) w w36 [oBlk g1 (([.int .i64 r.t, .int .i64 r.c, .int .i64 r.s] : List Value) ++ (cBs r.h.1 ++ cBs r.b.1)) 54, oBlk g5 (([.int .i64 rr_t17.t, .int .i64 rr_t17.c, .int .i64 rr_t17.s] : List Value) ++ (cBs rr_t17.h.1 ++ cBs rr_t17.b.1)) 54] := hH.drop (.cons_cons _ (.cons _ (.cons_cons _ .slnil)))
    refine wp_gen (fun F' => F' 0 = .agg (([.int .i64 r.t, .int .i64 r.c, .int .i64 r.s] : List Value) ++ (cBs r.h.1 ++ cBs r.b.1)).toArray ∧ F' 1 = v ∧ F' 2 = .pointer (some ⟨g1, 0, none⟩) ∧ F' 4 = .bool false ∧ F' 5 = .pointer (some ⟨g5, 0, none⟩) ∧ F' 6 = .int .i64 re_t17 ∧ F' 11 = .bool false) ⟨e0, e1, e2, e4, rfl, rfl, e11⟩ ?_
    clear e0 e1 e2 e4 e11
    clear F
    rintro F ⟨e0, e1, e2, e4, e5, e6, e11⟩
    refine wp_regionX (fun _ => False) 11 (by kernel_rfl) (by kernel_rfl) ?_
    refine xl_take (i := 0) (v := .agg (([.int .i64 r.t, .int .i64 r.c, .int .i64 r.s] : List Value) ++ (cBs r.h.1 ++ cBs r.b.1)).toArray) rfl (by kernel_rfl) (by kernel_rfl) (by kernel_rfl) (by kernel_rfl) (yx_val (wantAll rfl) (fun w' hx' => rv_loadW rfl ((hH.ext hx').blk (i := 0) rfl) (fr_eval rfl e2) Try.underlying54 rfl (sz_len Try.sz54 (len_app (m := 3) (n := 64) (k := 67) rfl (len_app (m := 32) (n := 32) (k := 64) (cBs_len r.h.2) (cBs_len r.b.2) rfl) rfl)))) ?_
    refine xl_take (i := 3) (v := .agg (([.int .i64 r.t, .int .i64 r.c, .int .i64 r.s] : List Value) ++ (cBs r.h.1 ++ cBs r.b.1)).toArray) rfl (by kernel_rfl) (by kernel_rfl) (by kernel_rfl) (by kernel_rfl) (yx_val (wantAll rfl) (fun w' hx' => rv_loadW rfl ((hH.ext hx').blk (i := 0) rfl) (fr_eval rfl e2) Try.underlying54 rfl (sz_len Try.sz54 (len_app (m := 3) (n := 64) (k := 67) rfl (len_app (m := 32) (n := 32) (k := 64) (cBs_len r.h.2) (cBs_len r.b.2) rfl) rfl)))) ?_
    refine anyX_ready (rs := [1]) (by kernel_rfl) ?_
    intro w37 hx
    replace hH := hH.ext hx
    clear hx
    refine (anyX_cons ?_ anyX_nil)
    refine xl_step (i := 1) rfl (wantAll rfl) ?_
    refine of_call (rv_call (args := [.agg (([.int .i64 r.t, .int .i64 r.c, .int .i64 r.s] : List Value) ++ (cBs r.h.1 ++ cBs r.b.1)).toArray]) rfl (evc (fr_eval rfl rfl) evn) Try.call33) (rcText_calls r hin_r _) ?_
    rintro _ w38 ⟨⟨y8, rfl, ho, hg⟩, hx⟩
    refine ⟨_, rfl, ?_⟩
    replace hH : Heap (newN w) w w38 [oBlk g1 (([.int .i64 r.t, .int .i64 r.c, .int .i64 r.s] : List Value) ++ (cBs r.h.1 ++ cBs r.b.1)) 54, oBlk g5 (([.int .i64 rr_t17.t, .int .i64 rr_t17.c, .int .i64 rr_t17.s] : List Value) ++ (cBs rr_t17.h.1 ++ cBs rr_t17.b.1)) 54, oB y8 (textR r)] := hH.addOwn hx hg ho
    clear ho hg
    refine ⟨hx, ?_⟩
    clear hx
    refine xl_take (i := 2) (v := .string ⟨(textR r).toArray⟩) rfl (by kernel_rfl) (by kernel_rfl) (by kernel_rfl) (by kernel_rfl) (yx_val (wantAll rfl) (fun w' hx' => rv_str rfl (fr_eval rfl rfl) (OwnB.rd ((hH.ext hx').own (i := 2) rfl)) Try.underlying22 Try.underlying5 Try.underlying9)) ?_
    refine anyX_ready (rs := [4]) (by kernel_rfl) ?_
    intro w39 hx
    replace hH := hH.ext hx
    clear hx
    refine (anyX_cons ?_ anyX_nil)
    refine xl_step (i := 4) rfl (wantAll rfl) ?_
    refine of_call (rv_call (args := [.agg (([.int .i64 r.t, .int .i64 r.c, .int .i64 r.s] : List Value) ++ (cBs r.h.1 ++ cBs r.b.1)).toArray]) rfl (evc (fr_eval rfl rfl) evn) Try.call32) (rcText12_calls r hin_r _) ?_
    rintro _ w40 ⟨⟨y9, rfl, ho, hg⟩, hx⟩
    refine ⟨_, rfl, ?_⟩
    replace hH : Heap (newN w) w w40 [oBlk g1 (([.int .i64 r.t, .int .i64 r.c, .int .i64 r.s] : List Value) ++ (cBs r.h.1 ++ cBs r.b.1)) 54, oBlk g5 (([.int .i64 rr_t17.t, .int .i64 rr_t17.c, .int .i64 rr_t17.s] : List Value) ++ (cBs rr_t17.h.1 ++ cBs rr_t17.b.1)) 54, oB y8 (textR r), oB y9 (textR r)] := hH.addOwn hx hg ho
    clear ho hg
    refine ⟨hx, ?_⟩
    clear hx
    refine xl_take (i := 5) (v := .string ⟨(textR r).toArray⟩) rfl (by kernel_rfl) (by kernel_rfl) (by kernel_rfl) (by kernel_rfl) (yx_val (wantAll rfl) (fun w' hx' => rv_str rfl (fr_eval rfl rfl) (OwnB.rd ((hH.ext hx').own (i := 3) rfl)) Try.underlying22 Try.underlying5 Try.underlying9)) ?_
    refine xl_take (i := 6) (v := .bool false) rfl (by kernel_rfl) (by kernel_rfl) (by kernel_rfl) (by kernel_rfl) (yx_val (wantAll rfl) (fun w' hx' => rv_nes (b := true) rfl (fr_eval rfl rfl) (fr_eval rfl rfl) (by exact decide_eq_true rfl))) ?_
    refine xl_take (i := 7) (v := .bool false) rfl (by kernel_rfl) (by kernel_rfl) (by kernel_rfl) (by kernel_rfl) (yx_val (wantAll rfl) (fun w' hx' => rv_move rfl (fr_eval rfl rfl))) ?_
    refine xl_take (i := 8) (v := .agg (([.int .i64 r.t, .int .i64 r.c, .int .i64 r.s] : List Value) ++ (cBs r.h.1 ++ cBs r.b.1)).toArray) rfl (by kernel_rfl) (by kernel_rfl) (by kernel_rfl) (by kernel_rfl) (yx_val (wantF (d := 27) rfl (by kernel_rfl) rfl rfl) (fun w' hx' => rv_loadW rfl ((hH.ext hx').blk (i := 0) rfl) (fr_eval rfl e2) Try.underlying54 rfl (sz_len Try.sz54 (len_app (m := 3) (n := 64) (k := 67) rfl (len_app (m := 32) (n := 32) (k := 64) (cBs_len r.h.2) (cBs_len r.b.2) rfl) rfl)))) ?_
    refine xl_take (i := 9) (v := .bool (decide (inR r))) rfl (by kernel_rfl) (by kernel_rfl) (by kernel_rfl) (by kernel_rfl) (yx_call (wantF (d := 27) rfl (by kernel_rfl) rfl rfl) (fun w' => rv_call (args := [.agg (([.int .i64 r.t, .int .i64 r.c, .int .i64 r.s] : List Value) ++ (cBs r.h.1 ++ cBs r.b.1)).toArray]) rfl (evc (fr_eval rfl rfl) evn) Try.call34) (fun w' hx' => rcRight_calls r _)) ?_
    refine xl_take (i := 10) (v := .agg (([.int .i64 r.t, .int .i64 r.c, .int .i64 r.s] : List Value) ++ (cBs r.h.1 ++ cBs r.b.1)).toArray) rfl (by kernel_rfl) (by kernel_rfl) (by kernel_rfl) (by kernel_rfl) (yx_val (wantF (d := 27) rfl (by kernel_rfl) rfl rfl) (fun w' hx' => rv_loadW rfl ((hH.ext hx').blk (i := 0) rfl) (fr_eval rfl e2) Try.underlying54 rfl (sz_len Try.sz54 (len_app (m := 3) (n := 64) (k := 67) rfl (len_app (m := 32) (n := 32) (k := 64) (cBs_len r.h.2) (cBs_len r.b.2) rfl) rfl)))) ?_
    refine xl_tail (s := 11) rfl ?_
    intro w41 hx
    replace hH := hH.ext hx
    clear hx
    refine lf_call (wantF (d := 27) rfl (by kernel_rfl) rfl rfl) (rv_call (args := [.agg (([.int .i64 r.t, .int .i64 r.c, .int .i64 r.s] : List Value) ++ (cBs r.h.1 ++ cBs r.b.1)).toArray]) rfl (evc (fr_eval rfl rfl) evn) Try.call35) (rcRight12_calls r _) ?_
    rintro _ w42 ⟨rfl, hx⟩
    refine ⟨_, rfl, ?_⟩
    replace hH := hH.ext hx
    clear hx
    refine lf_val (v := .bool false) (wantF (d := 27) rfl (by kernel_rfl) rfl rfl) (rv_neb (d := true) rfl (fr_eval rfl rfl) (fr_eval rfl rfl) Try.underlying4 (beq_self_eq_true _)) ?_
    refine lf_val (v := .bool false) (wantAll rfl) (rv_pickF rfl (fr_eval rfl rfl) (fr_eval rfl rfl)) ?_
    refine lf_nil ?_
    refine then_n ?_
    replace hH : Heap (newN w) w w42 [oBlk g1 (([.int .i64 r.t, .int .i64 r.c, .int .i64 r.s] : List Value) ++ (cBs r.h.1 ++ cBs r.b.1)) 54, oBlk g5 (([.int .i64 rr_t17.t, .int .i64 rr_t17.c, .int .i64 rr_t17.s] : List Value) ++ (cBs rr_t17.h.1 ++ cBs rr_t17.b.1)) 54] := hH.drop (.cons_cons _ (.cons_cons _ (.cons _ (.cons _ .slnil))))
    refine wp_gen (fun F' => F' 0 = .agg (([.int .i64 r.t, .int .i64 r.c, .int .i64 r.s] : List Value) ++ (cBs r.h.1 ++ cBs r.b.1)).toArray ∧ F' 1 = v ∧ F' 2 = .pointer (some ⟨g1, 0, none⟩) ∧ F' 4 = .bool false ∧ F' 5 = .pointer (some ⟨g5, 0, none⟩) ∧ F' 6 = .int .i64 re_t17 ∧ F' 11 = .bool false ∧ F' 33 = .bool false) ⟨e0, e1, e2, e4, e5, e6, e11, rfl⟩ ?_
    clear e0 e1 e2 e4 e5 e6 e11
    clear F
    rintro F ⟨e0, e1, e2, e4, e5, e6, e11, e33⟩
    refine wp_cond_false (fr_eval rfl e33) ?_
    refine wp_skip ?_
    refine then_n ?_
    refine wp_seq ?_
    refine wp_seq ?_
    refine wp_regionF ?_
    refine lf_val (v := .agg (([.int .i64 r.t, .int .i64 r.c, .int .i64 r.s] : List Value) ++ (cBs r.h.1 ++ cBs r.b.1)).toArray) (wantAll rfl) (rv_loadW rfl (hH.blk (i := 0) rfl) (fr_eval rfl e2) Try.underlying54 rfl (sz_len Try.sz54 (len_app (m := 3) (n := 64) (k := 67) rfl (len_app (m := 32) (n := 32) (k := 64) (cBs_len r.h.2) (cBs_len r.b.2) rfl) rfl))) ?_
    refine lf_call (wantAll rfl) (rv_call (args := [.agg (([.int .i64 r.t, .int .i64 r.c, .int .i64 r.s] : List Value) ++ (cBs r.h.1 ++ cBs r.b.1)).toArray]) rfl (evc (fr_eval rfl rfl) evn) Try.call35) (rcRight12_calls r _) ?_
    rintro _ w43 ⟨rfl, hx⟩
    refine ⟨_, rfl, ?_⟩
    replace hH := hH.ext hx
    clear hx
    refine lf_val (v := .bool (decide (inR r))) (wantAll rfl) (rv_move rfl (fr_eval rfl rfl)) ?_
    cases hb2 : decide (inR r)
    · refine lf_not (wantNot (d := 36) rfl (by kernel_rfl) rfl rfl) ?_
      refine lf_not (wantNot (d := 36) rfl (by kernel_rfl) rfl rfl) ?_
      refine lf_not (wantNot (d := 36) rfl (by kernel_rfl) rfl rfl) ?_
      refine lf_not (wantNot (d := 36) rfl (by kernel_rfl) rfl rfl) ?_
      refine lf_not (wantU (d := 40) rfl (by kernel_rfl) rfl rfl) ?_
      refine lf_not (wantU (d := 40) rfl (by kernel_rfl) rfl rfl) ?_
      refine lf_not (wantNot (d := 36) rfl (by kernel_rfl) rfl rfl) ?_
      refine lf_val (v := .bool false) (wantAll rfl) (rv_pickF rfl (fr_eval rfl rfl) rfl) ?_
      refine lf_nil ?_
      refine then_n ?_
      refine wp_gen (fun F' => F' 0 = .agg (([.int .i64 r.t, .int .i64 r.c, .int .i64 r.s] : List Value) ++ (cBs r.h.1 ++ cBs r.b.1)).toArray ∧ F' 1 = v ∧ F' 2 = .pointer (some ⟨g1, 0, none⟩) ∧ F' 4 = .bool false ∧ F' 5 = .pointer (some ⟨g5, 0, none⟩) ∧ F' 6 = .int .i64 re_t17 ∧ F' 11 = .bool false ∧ F' 33 = .bool false ∧ F' 44 = .bool false) ⟨e0, e1, e2, e4, e5, e6, e11, e33, rfl⟩ ?_
      clear e0 e1 e2 e4 e5 e6 e11 e33
      clear F
      rintro F ⟨e0, e1, e2, e4, e5, e6, e11, e33, e44⟩
      refine wp_cond_false (fr_eval rfl e44) ?_
      refine wp_skip ?_
      refine then_n ?_
      refine wp_seq ?_
      refine wp_regionF ?_
      refine lf_val (v := v) (wantAll rfl) (rv_move rfl (fr_eval rfl e1)) ?_
      refine lf_call (wantAll rfl) (rv_call (args := [v]) rfl (evc (fr_eval rfl rfl) evn) Try.call31) (rcRead_calls b (by first | omega | (simp only [List.length_take]; omega)) _ _ (hr.rd _ hH.chg)) ?_
      rintro _ w44 ⟨⟨rr_t47, re_t47, rfl, hR_rr_t47⟩, hx⟩
      refine ⟨_, rfl, ?_⟩
      replace hH := hH.ext hx
      clear hx
      refine lf_val (v := .tuple #[.agg (([.int .i64 rr_t47.t, .int .i64 rr_t47.c, .int .i64 rr_t47.s] : List Value) ++ (cBs rr_t47.h.1 ++ cBs rr_t47.b.1)).toArray, .int .i64 re_t47]) (wantAll rfl) (rv_move rfl (fr_eval rfl rfl)) ?_
      refine lf_val (v := .agg (([.int .i64 rr_t47.t, .int .i64 rr_t47.c, .int .i64 rr_t47.s] : List Value) ++ (cBs rr_t47.h.1 ++ cBs rr_t47.b.1)).toArray) (wantAll rfl) (rv_extract rfl (fr_eval rfl rfl) rfl) ?_
      refine lf_val (v := .int .i64 re_t47) (wantAll rfl) (rv_extract rfl (fr_eval rfl rfl) rfl) ?_
      refine lf_ex (wantAll rfl) (hx_alloc hH 54 (z := .agg (([.int .i64 0, .int .i64 0, .int .i64 0] : List Value) ++ (cBs (List.replicate 32 0) ++ cBs (List.replicate 32 0))).toArray) (n := 67) (cs := ([.int .i64 0, .int .i64 0, .int .i64 0] : List Value) ++ (cBs (List.replicate 32 0) ++ cBs (List.replicate 32 0))) rfl (by kernel_rfl) (by rfl)) ?_
      clear hH
      rintro _ w45 ⟨g6, rfl, hH, hx⟩
      replace hH : Heap (newN w) w w45 [oBlk g1 (([.int .i64 r.t, .int .i64 r.c, .int .i64 r.s] : List Value) ++ (cBs r.h.1 ++ cBs r.b.1)) 54, oBlk g5 (([.int .i64 rr_t17.t, .int .i64 rr_t17.c, .int .i64 rr_t17.s] : List Value) ++ (cBs rr_t17.h.1 ++ cBs rr_t17.b.1)) 54, oBlk g6 (([.int .i64 0, .int .i64 0, .int .i64 0] : List Value) ++ (cBs (List.replicate 32 0) ++ cBs (List.replicate 32 0))) 54] := hH
      clear hx
      refine lf_sk (wantAll rfl) (hx_storeW hH (i := 2) (cs := ([.int .i64 rr_t47.t, .int .i64 rr_t47.c, .int .i64 rr_t47.s] : List Value) ++ (cBs rr_t47.h.1 ++ cBs rr_t47.b.1)) rfl rfl rfl (fr_eval rfl rfl) (fr_eval rfl rfl) (sz_len Try.sz54 (len_app (m := 3) (n := 64) (k := 67) rfl (len_app (m := 32) (n := 32) (k := 64) (cBs_len rr_t47.h.2) (cBs_len rr_t47.b.2) rfl) rfl)) (((len_app (m := 3) (n := 64) (k := 67) rfl (len_app (m := 32) (n := 32) (k := 64) (cBs_len (List.length_replicate ..)) (cBs_len (List.length_replicate ..)) rfl) rfl)).trans ((len_app (m := 3) (n := 64) (k := 67) rfl (len_app (m := 32) (n := 32) (k := 64) (cBs_len rr_t47.h.2) (cBs_len rr_t47.b.2) rfl) rfl)).symm) ((ones_app (ones_cons rfl (ones_cons rfl (ones_cons rfl ones_nil))) (ones_app (cBs_one _) (cBs_one _))))) ?_
      clear hH
      rintro w46 ⟨hH, hx⟩
      replace hH : Heap (newN w) w w46 [oBlk g1 (([.int .i64 r.t, .int .i64 r.c, .int .i64 r.s] : List Value) ++ (cBs r.h.1 ++ cBs r.b.1)) 54, oBlk g5 (([.int .i64 rr_t17.t, .int .i64 rr_t17.c, .int .i64 rr_t17.s] : List Value) ++ (cBs rr_t17.h.1 ++ cBs rr_t17.b.1)) 54, oBlk g6 (([.int .i64 rr_t47.t, .int .i64 rr_t47.c, .int .i64 rr_t47.s] : List Value) ++ (cBs rr_t47.h.1 ++ cBs rr_t47.b.1)) 54] := hH
      clear hx
      refine lf_val (v := .int .i64 re_t47) (wantAll rfl) (rv_assign rfl (fr_eval rfl rfl)) ?_
      refine lf_nil ?_
      refine then_n ?_
      refine wp_seq ?_
      refine wp_seq ?_
      refine wp_gen (fun F' => F' 0 = .agg (([.int .i64 r.t, .int .i64 r.c, .int .i64 r.s] : List Value) ++ (cBs r.h.1 ++ cBs r.b.1)).toArray ∧ F' 1 = v ∧ F' 2 = .pointer (some ⟨g1, 0, none⟩) ∧ F' 4 = .bool false ∧ F' 5 = .pointer (some ⟨g5, 0, none⟩) ∧ F' 6 = .int .i64 re_t17 ∧ F' 7 = .pointer (some ⟨g6, 0, none⟩) ∧ F' 8 = .int .i64 re_t47 ∧ F' 11 = .bool false ∧ F' 33 = .bool false ∧ F' 44 = .bool false) ⟨e0, e1, e2, e4, e5, e6, rfl, rfl, e11, e33, e44⟩ ?_
      clear e0 e1 e2 e4 e5 e6 e11 e33 e44
      clear F
      rintro F ⟨e0, e1, e2, e4, e5, e6, e7, e8, e11, e33, e44⟩
      refine wp_regionF ?_
      refine lf_val (v := .int .i64 re_t47) (wantAll rfl) (rv_move rfl (fr_eval rfl e8)) ?_
      by_cases hc4 : re_t47 = 0
      · refine lf_val (v := .bool false) (wantAll rfl) (rv_neq rfl (fr_eval rfl rfl) rfl (decide_eq_true (by omega))) ?_
        refine lf_nil ?_
        refine then_n ?_
        refine wp_gen (fun F' => F' 0 = .agg (([.int .i64 r.t, .int .i64 r.c, .int .i64 r.s] : List Value) ++ (cBs r.h.1 ++ cBs r.b.1)).toArray ∧ F' 1 = v ∧ F' 2 = .pointer (some ⟨g1, 0, none⟩) ∧ F' 4 = .bool false ∧ F' 5 = .pointer (some ⟨g5, 0, none⟩) ∧ F' 6 = .int .i64 re_t17 ∧ F' 7 = .pointer (some ⟨g6, 0, none⟩) ∧ F' 8 = .int .i64 re_t47 ∧ F' 11 = .bool false ∧ F' 33 = .bool false ∧ F' 44 = .bool false ∧ F' 51 = .bool false) ⟨e0, e1, e2, e4, e5, e6, e7, e8, e11, e33, e44, rfl⟩ ?_
        clear e0 e1 e2 e4 e5 e6 e7 e8 e11 e33 e44
        clear F
        rintro F ⟨e0, e1, e2, e4, e5, e6, e7, e8, e11, e33, e44, e51⟩
        refine wp_cond_false (fr_eval rfl e51) ?_
        refine wp_skip ?_
        refine then_n ?_
        refine wp_seq ?_
        refine wp_regionX (fun _ => False) 8 (by kernel_rfl) (by kernel_rfl) ?_
        refine xl_take (i := 0) (v := .agg (([.int .i64 rr_t47.t, .int .i64 rr_t47.c, .int .i64 rr_t47.s] : List Value) ++ (cBs rr_t47.h.1 ++ cBs rr_t47.b.1)).toArray) rfl (by kernel_rfl) (by kernel_rfl) (by kernel_rfl) (by kernel_rfl) (yx_val (wantAll rfl) (fun w' hx' => rv_loadW rfl ((hH.ext hx').blk (i := 2) rfl) (fr_eval rfl e7) Try.underlying54 rfl (sz_len Try.sz54 (len_app (m := 3) (n := 64) (k := 67) rfl (len_app (m := 32) (n := 32) (k := 64) (cBs_len rr_t47.h.2) (cBs_len rr_t47.b.2) rfl) rfl)))) ?_
        refine xl_take (i := 1) (v := .bool true) rfl (by kernel_rfl) (by kernel_rfl) (by kernel_rfl) (by kernel_rfl) (yx_call (wantAll rfl) (fun w' => rv_call (args := [.agg (([.int .i64 rr_t47.t, .int .i64 rr_t47.c, .int .i64 rr_t47.s] : List Value) ++ (cBs rr_t47.h.1 ++ cBs rr_t47.b.1)).toArray]) rfl (evc (fr_eval rfl rfl) evn) Try.call35) (fun w' hx' => calls_known (rcRight12_calls rr_t47 _) (decide_eq_true (hR_rr_t47.good (by assumption)).1))) ?_
        refine xl_take (i := 2) (v := .bool true) rfl (by kernel_rfl) (by kernel_rfl) (by kernel_rfl) (by kernel_rfl) (yx_val (wantAll rfl) (fun w' hx' => rv_move rfl (fr_eval rfl rfl))) ?_
        refine xl_take (i := 3) (v := .agg (([.int .i64 rr_t47.t, .int .i64 rr_t47.c, .int .i64 rr_t47.s] : List Value) ++ (cBs rr_t47.h.1 ++ cBs rr_t47.b.1)).toArray) rfl (by kernel_rfl) (by kernel_rfl) (by kernel_rfl) (by kernel_rfl) (yx_val (wantF (d := 73) rfl (by kernel_rfl) rfl rfl) (fun w' hx' => rv_loadW rfl ((hH.ext hx').blk (i := 2) rfl) (fr_eval rfl e7) Try.underlying54 rfl (sz_len Try.sz54 (len_app (m := 3) (n := 64) (k := 67) rfl (len_app (m := 32) (n := 32) (k := 64) (cBs_len rr_t47.h.2) (cBs_len rr_t47.b.2) rfl) rfl)))) ?_
        refine xl_take (i := 6) (v := v) rfl (by kernel_rfl) (by kernel_rfl) (by kernel_rfl) (by kernel_rfl) (yx_val (wantF (d := 73) rfl (by kernel_rfl) rfl rfl) (fun w' hx' => rv_move rfl (fr_eval rfl e1))) ?_
        refine xl_take (i := 7) (v := .string ⟨(b).toArray⟩) rfl (by kernel_rfl) (by kernel_rfl) (by kernel_rfl) (by kernel_rfl) (yx_val (wantF (d := 73) rfl (by kernel_rfl) rfl rfl) (fun w' hx' => rv_str rfl (fr_eval rfl rfl) (hr.rd _ (hH.chg.trans (Ext.any hx'))) Try.underlying22 Try.underlying5 Try.underlying9)) ?_
        refine anyX_ready (rs := [4]) (by kernel_rfl) ?_
        intro w47 hx
        replace hH := hH.ext hx
        clear hx
        refine (anyX_cons ?_ anyX_nil)
        refine xl_step (i := 4) rfl (wantF (d := 73) rfl (by kernel_rfl) rfl rfl) ?_
        refine of_call (rv_call (args := [.agg (([.int .i64 rr_t47.t, .int .i64 rr_t47.c, .int .i64 rr_t47.s] : List Value) ++ (cBs rr_t47.h.1 ++ cBs rr_t47.b.1)).toArray]) rfl (evc (fr_eval rfl rfl) evn) Try.call32) (rcText12_calls rr_t47 (inR_in (hR_rr_t47.good (by assumption)).1) _) ?_
        rintro _ w48 ⟨⟨y10, rfl, ho, hg⟩, hx⟩
        refine ⟨_, rfl, ?_⟩
        replace hH : Heap (newN w) w w48 [oBlk g1 (([.int .i64 r.t, .int .i64 r.c, .int .i64 r.s] : List Value) ++ (cBs r.h.1 ++ cBs r.b.1)) 54, oBlk g5 (([.int .i64 rr_t17.t, .int .i64 rr_t17.c, .int .i64 rr_t17.s] : List Value) ++ (cBs rr_t17.h.1 ++ cBs rr_t17.b.1)) 54, oBlk g6 (([.int .i64 rr_t47.t, .int .i64 rr_t47.c, .int .i64 rr_t47.s] : List Value) ++ (cBs rr_t47.h.1 ++ cBs rr_t47.b.1)) 54, oB y10 (textR rr_t47)] := hH.addOwn hx hg ho
        clear ho hg
        refine ⟨hx, ?_⟩
        clear hx
        refine xl_take (i := 5) (v := .string ⟨(textR rr_t47).toArray⟩) rfl (by kernel_rfl) (by kernel_rfl) (by kernel_rfl) (by kernel_rfl) (yx_val (wantF (d := 73) rfl (by kernel_rfl) rfl rfl) (fun w' hx' => rv_str rfl (fr_eval rfl rfl) (OwnB.rd ((hH.ext hx').own (i := 3) rfl)) Try.underlying22 Try.underlying5 Try.underlying9)) ?_
        refine xl_tail (s := 8) rfl ?_
        intro w49 hx
        replace hH := hH.ext hx
        clear hx
        refine lf_val (v := .bool true) (wantF (d := 73) rfl (by kernel_rfl) rfl rfl) (rv_eqs (b := true) rfl (fr_eval rfl rfl) (fr_eval rfl rfl) (by exact decide_eq_true (hR_rr_t47.good (by assumption)).2.symm)) ?_
        refine lf_val (v := .bool true) (wantAll rfl) (rv_pickT rfl (fr_eval rfl rfl) (fr_eval rfl rfl)) ?_
        refine lf_val (v := .bool true) (wantAll rfl) (rv_move rfl (fr_eval rfl rfl)) ?_
        refine lf_call (wantF (d := 81) rfl (by kernel_rfl) rfl rfl) (rv_call (args := []) rfl evn Try.call36) (awake12_calls _) ?_
        rintro _ w50 ⟨rfl, hx⟩
        refine ⟨_, rfl, ?_⟩
        replace hH := hH.ext hx
        clear hx
        refine lf_val (v := .bool true) (wantAll rfl) (rv_pickT rfl (fr_eval rfl rfl) (fr_eval rfl rfl)) ?_
        refine lf_val (v := .bool true) (wantAll rfl) (rv_assign rfl (fr_eval rfl rfl)) ?_
        refine lf_nil ?_
        refine then_n ?_
        replace hH : Heap (newN w) w w50 [oBlk g1 (([.int .i64 r.t, .int .i64 r.c, .int .i64 r.s] : List Value) ++ (cBs r.h.1 ++ cBs r.b.1)) 54, oBlk g5 (([.int .i64 rr_t17.t, .int .i64 rr_t17.c, .int .i64 rr_t17.s] : List Value) ++ (cBs rr_t17.h.1 ++ cBs rr_t17.b.1)) 54, oBlk g6 (([.int .i64 rr_t47.t, .int .i64 rr_t47.c, .int .i64 rr_t47.s] : List Value) ++ (cBs rr_t47.h.1 ++ cBs rr_t47.b.1)) 54] := hH.drop (.cons_cons _ (.cons_cons _ (.cons_cons _ (.cons _ .slnil))))
        refine wp_gen (fun F' => F' 0 = .agg (([.int .i64 r.t, .int .i64 r.c, .int .i64 r.s] : List Value) ++ (cBs r.h.1 ++ cBs r.b.1)).toArray ∧ F' 1 = v ∧ F' 2 = .pointer (some ⟨g1, 0, none⟩) ∧ F' 4 = .bool true ∧ F' 5 = .pointer (some ⟨g5, 0, none⟩) ∧ F' 6 = .int .i64 re_t17 ∧ F' 7 = .pointer (some ⟨g6, 0, none⟩) ∧ F' 8 = .int .i64 re_t47 ∧ F' 11 = .bool false ∧ F' 33 = .bool false ∧ F' 44 = .bool false ∧ F' 51 = .bool false) ⟨e0, e1, e2, rfl, e5, e6, e7, e8, e11, e33, e44, e51⟩ ?_
        clear e0 e1 e2 e4 e5 e6 e7 e8 e11 e33 e44 e51
        clear F
        rintro F ⟨e0, e1, e2, e4, e5, e6, e7, e8, e11, e33, e44, e51⟩
        refine wp_ret ?_
        exact bodyPost_ret (v := (.bool true)) (res1 rfl (ro_tmp rfl e4)) rfl (⟨rfl, hH.done⟩)
      · refine lf_val (v := .bool true) (wantAll rfl) (rv_neq rfl (fr_eval rfl rfl) rfl (decide_eq_false (by omega))) ?_
        refine lf_nil ?_
        refine then_n ?_
        refine wp_gen (fun F' => F' 0 = .agg (([.int .i64 r.t, .int .i64 r.c, .int .i64 r.s] : List Value) ++ (cBs r.h.1 ++ cBs r.b.1)).toArray ∧ F' 1 = v ∧ F' 2 = .pointer (some ⟨g1, 0, none⟩) ∧ F' 4 = .bool false ∧ F' 5 = .pointer (some ⟨g5, 0, none⟩) ∧ F' 6 = .int .i64 re_t17 ∧ F' 7 = .pointer (some ⟨g6, 0, none⟩) ∧ F' 8 = .int .i64 re_t47 ∧ F' 11 = .bool false ∧ F' 33 = .bool false ∧ F' 44 = .bool false ∧ F' 51 = .bool true) ⟨e0, e1, e2, e4, e5, e6, e7, e8, e11, e33, e44, rfl⟩ ?_
        clear e0 e1 e2 e4 e5 e6 e7 e8 e11 e33 e44
        clear F
        rintro F ⟨e0, e1, e2, e4, e5, e6, e7, e8, e11, e33, e44, e51⟩
        refine wp_cond_true (fr_eval rfl e51) ?_
        refine wp_seq ?_
        have hz := hR_rr_t47.bad (by assumption)
        refine wp_regionX (fun _ => False) 13 (by kernel_rfl) (by kernel_rfl) ?_
        refine xl_take (i := 0) (v := .agg (([.int .i64 rr_t47.t, .int .i64 rr_t47.c, .int .i64 rr_t47.s] : List Value) ++ (cBs rr_t47.h.1 ++ cBs rr_t47.b.1)).toArray) rfl (by kernel_rfl) (by kernel_rfl) (by kernel_rfl) (by kernel_rfl) (yx_val (wantAll rfl) (fun w' hx' => rv_loadW rfl ((hH.ext hx').blk (i := 2) rfl) (fr_eval rfl e7) Try.underlying54 rfl (sz_len Try.sz54 (len_app (m := 3) (n := 64) (k := 67) rfl (len_app (m := 32) (n := 32) (k := 64) (cBs_len rr_t47.h.2) (cBs_len rr_t47.b.2) rfl) rfl)))) ?_
        refine xl_take (i := 1) (v := .agg (([.int .i64 0, .int .i64 0, .int .i64 0] : List Value) ++ (cBs (List.replicate 32 0) ++ cBs (List.replicate 32 0))).toArray) rfl (by kernel_rfl) (by kernel_rfl) (by kernel_rfl) (by kernel_rfl) (yx_val (wantAll rfl) (fun w' hx' => rv_buildS (ps := []) (places := #[(0, 1), (1, 1), (2, 1), (3, 32), (35, 32)]) (z := .agg (([.int .i64 0, .int .i64 0, .int .i64 0] : List Value) ++ (cBs (List.replicate 32 0) ++ cBs (List.replicate 32 0))).toArray) (zc := ([.int .i64 0, .int .i64 0, .int .i64 0] : List Value) ++ (cBs (List.replicate 32 0) ++ cBs (List.replicate 32 0))) (cs := ([.int .i64 0, .int .i64 0, .int .i64 0] : List Value) ++ (cBs (List.replicate 32 0) ++ cBs (List.replicate 32 0))) rfl evpn (by kernel_rfl) rfl Try.underlying54 (fun _ => by kernel_rfl) fill0)) ?_
        refine xl_take (i := 2) (v := .bool true) rfl (by kernel_rfl) (by kernel_rfl) (by kernel_rfl) (by kernel_rfl) (yx_val (wantAll rfl) (fun w' hx' => rv_eqR (r := rr_t47) (q := (⟨0, 0, 0, ⟨List.replicate 32 0, (List.length_replicate ..)⟩, ⟨List.replicate 32 0, (List.length_replicate ..)⟩⟩ : Rc)) (b := true) rfl (fr_eval rfl rfl) (fr_eval rfl rfl) (by rw [hz]; exact rcBeq_self _))) ?_
        refine xl_take (i := 3) (v := .bool true) rfl (by kernel_rfl) (by kernel_rfl) (by kernel_rfl) (by kernel_rfl) (yx_val (wantAll rfl) (fun w' hx' => rv_move rfl (fr_eval rfl rfl))) ?_
        refine xl_take (i := 4) (v := .agg (([.int .i64 r.t, .int .i64 r.c, .int .i64 r.s] : List Value) ++ (cBs r.h.1 ++ cBs r.b.1)).toArray) rfl (by kernel_rfl) (by kernel_rfl) (by kernel_rfl) (by kernel_rfl) (yx_val (wantF (d := 55) rfl (by kernel_rfl) rfl rfl) (fun w' hx' => rv_loadW rfl ((hH.ext hx').blk (i := 0) rfl) (fr_eval rfl e2) Try.underlying54 rfl (sz_len Try.sz54 (len_app (m := 3) (n := 64) (k := 67) rfl (len_app (m := 32) (n := 32) (k := 64) (cBs_len r.h.2) (cBs_len r.b.2) rfl) rfl)))) ?_
        refine xl_take (i := 5) (v := .bool false) rfl (by kernel_rfl) (by kernel_rfl) (by kernel_rfl) (by kernel_rfl) (yx_call (wantF (d := 55) rfl (by kernel_rfl) rfl rfl) (fun w' => rv_call (args := [.agg (([.int .i64 r.t, .int .i64 r.c, .int .i64 r.s] : List Value) ++ (cBs r.h.1 ++ cBs r.b.1)).toArray]) rfl (evc (fr_eval rfl rfl) evn) Try.call35) (fun w' hx' => calls_known (rcRight12_calls r _) (hb2))) ?_
        refine xl_take (i := 6) (v := .bool true) rfl (by kernel_rfl) (by kernel_rfl) (by kernel_rfl) (by kernel_rfl) (yx_val (wantF (d := 55) rfl (by kernel_rfl) rfl rfl) (fun w' hx' => rv_not (b := false) rfl (fr_eval rfl rfl))) ?_
        refine xl_take (i := 7) (v := .bool true) rfl (by kernel_rfl) (by kernel_rfl) (by kernel_rfl) (by kernel_rfl) (yx_val (wantF (d := 55) rfl (by kernel_rfl) rfl rfl) (fun w' hx' => rv_move rfl (fr_eval rfl rfl))) ?_
        refine xl_take (i := 8) (v := undef) rfl (by kernel_rfl) (by kernel_rfl) (by kernel_rfl) (by kernel_rfl) (yx_not (wantNot (d := 59) rfl (by kernel_rfl) rfl rfl)) ?_
        refine xl_take (i := 9) (v := undef) rfl (by kernel_rfl) (by kernel_rfl) (by kernel_rfl) (by kernel_rfl) (yx_not (wantNot (d := 59) rfl (by kernel_rfl) rfl rfl)) ?_
        refine xl_take (i := 10) (v := undef) rfl (by kernel_rfl) (by kernel_rfl) (by kernel_rfl) (by kernel_rfl) (yx_not (wantNot (d := 59) rfl (by kernel_rfl) rfl rfl)) ?_
        refine xl_take (i := 11) (v := undef) rfl (by kernel_rfl) (by kernel_rfl) (by kernel_rfl) (by kernel_rfl) (yx_not (wantNot (d := 59) rfl (by kernel_rfl) rfl rfl)) ?_
        refine xl_take (i := 12) (v := undef) rfl (by kernel_rfl) (by kernel_rfl) (by kernel_rfl) (by kernel_rfl) (yx_not (wantNot (d := 59) rfl (by kernel_rfl) rfl rfl)) ?_
        refine xl_tail (s := 13) rfl ?_
        intro w51 hx
        replace hH := hH.ext hx
        clear hx
        refine lf_not (wantNot (d := 59) rfl (by kernel_rfl) rfl rfl) ?_
        refine lf_val (v := .bool true) (wantF (d := 55) rfl (by kernel_rfl) rfl rfl) (rv_pickT rfl (fr_eval rfl rfl) rfl) ?_
        refine lf_val (v := .bool true) (wantAll rfl) (rv_pickT rfl (fr_eval rfl rfl) (fr_eval rfl rfl)) ?_
        refine lf_val (v := .bool true) (wantAll rfl) (rv_move rfl (fr_eval rfl rfl)) ?_
        refine lf_call (wantF (d := 68) rfl (by kernel_rfl) rfl rfl) (rv_call (args := []) rfl evn Try.call36) (awake12_calls _) ?_
        rintro _ w52 ⟨rfl, hx⟩
        refine ⟨_, rfl, ?_⟩
        replace hH := hH.ext hx
        clear hx
        refine lf_val (v := .bool true) (wantAll rfl) (rv_pickT rfl (fr_eval rfl rfl) (fr_eval rfl rfl)) ?_
        refine lf_val (v := .bool true) (wantAll rfl) (rv_assign rfl (fr_eval rfl rfl)) ?_
        refine lf_nil ?_
        refine then_n ?_
        refine wp_gen (fun F' => F' 0 = .agg (([.int .i64 r.t, .int .i64 r.c, .int .i64 r.s] : List Value) ++ (cBs r.h.1 ++ cBs r.b.1)).toArray ∧ F' 1 = v ∧ F' 2 = .pointer (some ⟨g1, 0, none⟩) ∧ F' 4 = .bool true ∧ F' 5 = .pointer (some ⟨g5, 0, none⟩) ∧ F' 6 = .int .i64 re_t17 ∧ F' 7 = .pointer (some ⟨g6, 0, none⟩) ∧ F' 8 = .int .i64 re_t47 ∧ F' 11 = .bool false ∧ F' 33 = .bool false ∧ F' 44 = .bool false ∧ F' 51 = .bool true) ⟨e0, e1, e2, rfl, e5, e6, e7, e8, e11, e33, e44, e51⟩ ?_
        clear e0 e1 e2 e4 e5 e6 e7 e8 e11 e33 e44 e51
        clear F
        rintro F ⟨e0, e1, e2, e4, e5, e6, e7, e8, e11, e33, e44, e51⟩
        refine wp_ret ?_
        refine then_ret ?_
        exact bodyPost_ret (v := (.bool true)) (res1 rfl (ro_tmp rfl e4)) rfl (⟨rfl, hH.done⟩)
    · refine lf_val (v := .agg (([.int .i64 rr_t17.t, .int .i64 rr_t17.c, .int .i64 rr_t17.s] : List Value) ++ (cBs rr_t17.h.1 ++ cBs rr_t17.b.1)).toArray) (wantF (d := 36) rfl (by kernel_rfl) rfl rfl) (rv_loadW rfl (hH.blk (i := 1) rfl) (fr_eval rfl e5) Try.underlying54 rfl (sz_len Try.sz54 (len_app (m := 3) (n := 64) (k := 67) rfl (len_app (m := 32) (n := 32) (k := 64) (cBs_len rr_t17.h.2) (cBs_len rr_t17.b.2) rfl) rfl))) ?_
      refine lf_val (v := .agg (([.int .i64 r.t, .int .i64 r.c, .int .i64 r.s] : List Value) ++ (cBs r.h.1 ++ cBs r.b.1)).toArray) (wantF (d := 36) rfl (by kernel_rfl) rfl rfl) (rv_loadW rfl (hH.blk (i := 0) rfl) (fr_eval rfl e2) Try.underlying54 rfl (sz_len Try.sz54 (len_app (m := 3) (n := 64) (k := 67) rfl (len_app (m := 32) (n := 32) (k := 64) (cBs_len r.h.2) (cBs_len r.b.2) rfl) rfl))) ?_
      obtain ⟨he1, hr1⟩ := hR_rr_t17.one r (of_decide_eq_true (by assumption)) rfl
      refine lf_val (v := .bool false) (wantF (d := 36) rfl (by kernel_rfl) rfl rfl) (rv_neR (r := rr_t17) (q := r) (b := true) rfl (fr_eval rfl rfl) (fr_eval rfl rfl) (by rw [hr1]; exact rcBeq_self _)) ?_
      refine lf_val (v := .bool false) (wantF (d := 36) rfl (by kernel_rfl) rfl rfl) (rv_move rfl (fr_eval rfl rfl)) ?_
      refine lf_val (v := .int .i64 re_t17) (wantF (d := 40) rfl (by kernel_rfl) rfl rfl) (rv_move rfl (fr_eval rfl e6)) ?_
      refine lf_val (v := .bool false) (wantF (d := 40) rfl (by kernel_rfl) rfl rfl) (rv_neq rfl (fr_eval rfl rfl) rfl (decide_eq_true (by omega))) ?_
      refine lf_val (v := .bool false) (wantF (d := 36) rfl (by kernel_rfl) rfl rfl) (rv_pickF rfl (fr_eval rfl rfl) (fr_eval rfl rfl)) ?_
      refine lf_val (v := .bool false) (wantAll rfl) (rv_pickT rfl (fr_eval rfl rfl) (fr_eval rfl rfl)) ?_
      refine lf_nil ?_
      refine then_n ?_
      refine wp_gen (fun F' => F' 0 = .agg (([.int .i64 r.t, .int .i64 r.c, .int .i64 r.s] : List Value) ++ (cBs r.h.1 ++ cBs r.b.1)).toArray ∧ F' 1 = v ∧ F' 2 = .pointer (some ⟨g1, 0, none⟩) ∧ F' 4 = .bool false ∧ F' 5 = .pointer (some ⟨g5, 0, none⟩) ∧ F' 6 = .int .i64 re_t17 ∧ F' 11 = .bool false ∧ F' 33 = .bool false ∧ F' 44 = .bool false) ⟨e0, e1, e2, e4, e5, e6, e11, e33, rfl⟩ ?_
      clear e0 e1 e2 e4 e5 e6 e11 e33
      clear F
      rintro F ⟨e0, e1, e2, e4, e5, e6, e11, e33, e44⟩
      refine wp_cond_false (fr_eval rfl e44) ?_
      refine wp_skip ?_
      refine then_n ?_
      refine wp_seq ?_
      refine wp_regionF ?_
      refine lf_val (v := v) (wantAll rfl) (rv_move rfl (fr_eval rfl e1)) ?_
      refine lf_call (wantAll rfl) (rv_call (args := [v]) rfl (evc (fr_eval rfl rfl) evn) Try.call31) (rcRead_calls b (by first | omega | (simp only [List.length_take]; omega)) _ _ (hr.rd _ hH.chg)) ?_
      rintro _ w53 ⟨⟨rr_t47, re_t47, rfl, hR_rr_t47⟩, hx⟩
      refine ⟨_, rfl, ?_⟩
      replace hH := hH.ext hx
      clear hx
      refine lf_val (v := .tuple #[.agg (([.int .i64 rr_t47.t, .int .i64 rr_t47.c, .int .i64 rr_t47.s] : List Value) ++ (cBs rr_t47.h.1 ++ cBs rr_t47.b.1)).toArray, .int .i64 re_t47]) (wantAll rfl) (rv_move rfl (fr_eval rfl rfl)) ?_
      refine lf_val (v := .agg (([.int .i64 rr_t47.t, .int .i64 rr_t47.c, .int .i64 rr_t47.s] : List Value) ++ (cBs rr_t47.h.1 ++ cBs rr_t47.b.1)).toArray) (wantAll rfl) (rv_extract rfl (fr_eval rfl rfl) rfl) ?_
      refine lf_val (v := .int .i64 re_t47) (wantAll rfl) (rv_extract rfl (fr_eval rfl rfl) rfl) ?_
      refine lf_ex (wantAll rfl) (hx_alloc hH 54 (z := .agg (([.int .i64 0, .int .i64 0, .int .i64 0] : List Value) ++ (cBs (List.replicate 32 0) ++ cBs (List.replicate 32 0))).toArray) (n := 67) (cs := ([.int .i64 0, .int .i64 0, .int .i64 0] : List Value) ++ (cBs (List.replicate 32 0) ++ cBs (List.replicate 32 0))) rfl (by kernel_rfl) (by rfl)) ?_
      clear hH
      rintro _ w54 ⟨g7, rfl, hH, hx⟩
      replace hH : Heap (newN w) w w54 [oBlk g1 (([.int .i64 r.t, .int .i64 r.c, .int .i64 r.s] : List Value) ++ (cBs r.h.1 ++ cBs r.b.1)) 54, oBlk g5 (([.int .i64 rr_t17.t, .int .i64 rr_t17.c, .int .i64 rr_t17.s] : List Value) ++ (cBs rr_t17.h.1 ++ cBs rr_t17.b.1)) 54, oBlk g7 (([.int .i64 0, .int .i64 0, .int .i64 0] : List Value) ++ (cBs (List.replicate 32 0) ++ cBs (List.replicate 32 0))) 54] := hH
      clear hx
      refine lf_sk (wantAll rfl) (hx_storeW hH (i := 2) (cs := ([.int .i64 rr_t47.t, .int .i64 rr_t47.c, .int .i64 rr_t47.s] : List Value) ++ (cBs rr_t47.h.1 ++ cBs rr_t47.b.1)) rfl rfl rfl (fr_eval rfl rfl) (fr_eval rfl rfl) (sz_len Try.sz54 (len_app (m := 3) (n := 64) (k := 67) rfl (len_app (m := 32) (n := 32) (k := 64) (cBs_len rr_t47.h.2) (cBs_len rr_t47.b.2) rfl) rfl)) (((len_app (m := 3) (n := 64) (k := 67) rfl (len_app (m := 32) (n := 32) (k := 64) (cBs_len (List.length_replicate ..)) (cBs_len (List.length_replicate ..)) rfl) rfl)).trans ((len_app (m := 3) (n := 64) (k := 67) rfl (len_app (m := 32) (n := 32) (k := 64) (cBs_len rr_t47.h.2) (cBs_len rr_t47.b.2) rfl) rfl)).symm) ((ones_app (ones_cons rfl (ones_cons rfl (ones_cons rfl ones_nil))) (ones_app (cBs_one _) (cBs_one _))))) ?_
      clear hH
      rintro w55 ⟨hH, hx⟩
      replace hH : Heap (newN w) w w55 [oBlk g1 (([.int .i64 r.t, .int .i64 r.c, .int .i64 r.s] : List Value) ++ (cBs r.h.1 ++ cBs r.b.1)) 54, oBlk g5 (([.int .i64 rr_t17.t, .int .i64 rr_t17.c, .int .i64 rr_t17.s] : List Value) ++ (cBs rr_t17.h.1 ++ cBs rr_t17.b.1)) 54, oBlk g7 (([.int .i64 rr_t47.t, .int .i64 rr_t47.c, .int .i64 rr_t47.s] : List Value) ++ (cBs rr_t47.h.1 ++ cBs rr_t47.b.1)) 54] := hH
      clear hx
      refine lf_val (v := .int .i64 re_t47) (wantAll rfl) (rv_assign rfl (fr_eval rfl rfl)) ?_
      refine lf_nil ?_
      refine then_n ?_
      refine wp_seq ?_
      refine wp_seq ?_
      refine wp_gen (fun F' => F' 0 = .agg (([.int .i64 r.t, .int .i64 r.c, .int .i64 r.s] : List Value) ++ (cBs r.h.1 ++ cBs r.b.1)).toArray ∧ F' 1 = v ∧ F' 2 = .pointer (some ⟨g1, 0, none⟩) ∧ F' 4 = .bool false ∧ F' 5 = .pointer (some ⟨g5, 0, none⟩) ∧ F' 6 = .int .i64 re_t17 ∧ F' 7 = .pointer (some ⟨g7, 0, none⟩) ∧ F' 8 = .int .i64 re_t47 ∧ F' 11 = .bool false ∧ F' 33 = .bool false ∧ F' 44 = .bool false) ⟨e0, e1, e2, e4, e5, e6, rfl, rfl, e11, e33, e44⟩ ?_
      clear e0 e1 e2 e4 e5 e6 e11 e33 e44
      clear F
      rintro F ⟨e0, e1, e2, e4, e5, e6, e7, e8, e11, e33, e44⟩
      refine wp_regionF ?_
      refine lf_val (v := .int .i64 re_t47) (wantAll rfl) (rv_move rfl (fr_eval rfl e8)) ?_
      by_cases hc5 : re_t47 = 0
      · refine lf_val (v := .bool false) (wantAll rfl) (rv_neq rfl (fr_eval rfl rfl) rfl (decide_eq_true (by omega))) ?_
        refine lf_nil ?_
        refine then_n ?_
        refine wp_gen (fun F' => F' 0 = .agg (([.int .i64 r.t, .int .i64 r.c, .int .i64 r.s] : List Value) ++ (cBs r.h.1 ++ cBs r.b.1)).toArray ∧ F' 1 = v ∧ F' 2 = .pointer (some ⟨g1, 0, none⟩) ∧ F' 4 = .bool false ∧ F' 5 = .pointer (some ⟨g5, 0, none⟩) ∧ F' 6 = .int .i64 re_t17 ∧ F' 7 = .pointer (some ⟨g7, 0, none⟩) ∧ F' 8 = .int .i64 re_t47 ∧ F' 11 = .bool false ∧ F' 33 = .bool false ∧ F' 44 = .bool false ∧ F' 51 = .bool false) ⟨e0, e1, e2, e4, e5, e6, e7, e8, e11, e33, e44, rfl⟩ ?_
        clear e0 e1 e2 e4 e5 e6 e7 e8 e11 e33 e44
        clear F
        rintro F ⟨e0, e1, e2, e4, e5, e6, e7, e8, e11, e33, e44, e51⟩
        refine wp_cond_false (fr_eval rfl e51) ?_
        refine wp_skip ?_
        refine then_n ?_
        refine wp_seq ?_
        refine wp_regionX (fun _ => False) 8 (by kernel_rfl) (by kernel_rfl) ?_
        refine xl_take (i := 0) (v := .agg (([.int .i64 rr_t47.t, .int .i64 rr_t47.c, .int .i64 rr_t47.s] : List Value) ++ (cBs rr_t47.h.1 ++ cBs rr_t47.b.1)).toArray) rfl (by kernel_rfl) (by kernel_rfl) (by kernel_rfl) (by kernel_rfl) (yx_val (wantAll rfl) (fun w' hx' => rv_loadW rfl ((hH.ext hx').blk (i := 2) rfl) (fr_eval rfl e7) Try.underlying54 rfl (sz_len Try.sz54 (len_app (m := 3) (n := 64) (k := 67) rfl (len_app (m := 32) (n := 32) (k := 64) (cBs_len rr_t47.h.2) (cBs_len rr_t47.b.2) rfl) rfl)))) ?_
        refine xl_take (i := 1) (v := .bool true) rfl (by kernel_rfl) (by kernel_rfl) (by kernel_rfl) (by kernel_rfl) (yx_call (wantAll rfl) (fun w' => rv_call (args := [.agg (([.int .i64 rr_t47.t, .int .i64 rr_t47.c, .int .i64 rr_t47.s] : List Value) ++ (cBs rr_t47.h.1 ++ cBs rr_t47.b.1)).toArray]) rfl (evc (fr_eval rfl rfl) evn) Try.call35) (fun w' hx' => calls_known (rcRight12_calls rr_t47 _) (decide_eq_true (hR_rr_t47.good (by assumption)).1))) ?_
        refine xl_take (i := 2) (v := .bool true) rfl (by kernel_rfl) (by kernel_rfl) (by kernel_rfl) (by kernel_rfl) (yx_val (wantAll rfl) (fun w' hx' => rv_move rfl (fr_eval rfl rfl))) ?_
        refine xl_take (i := 3) (v := .agg (([.int .i64 rr_t47.t, .int .i64 rr_t47.c, .int .i64 rr_t47.s] : List Value) ++ (cBs rr_t47.h.1 ++ cBs rr_t47.b.1)).toArray) rfl (by kernel_rfl) (by kernel_rfl) (by kernel_rfl) (by kernel_rfl) (yx_val (wantF (d := 73) rfl (by kernel_rfl) rfl rfl) (fun w' hx' => rv_loadW rfl ((hH.ext hx').blk (i := 2) rfl) (fr_eval rfl e7) Try.underlying54 rfl (sz_len Try.sz54 (len_app (m := 3) (n := 64) (k := 67) rfl (len_app (m := 32) (n := 32) (k := 64) (cBs_len rr_t47.h.2) (cBs_len rr_t47.b.2) rfl) rfl)))) ?_
        refine xl_take (i := 6) (v := v) rfl (by kernel_rfl) (by kernel_rfl) (by kernel_rfl) (by kernel_rfl) (yx_val (wantF (d := 73) rfl (by kernel_rfl) rfl rfl) (fun w' hx' => rv_move rfl (fr_eval rfl e1))) ?_
        refine xl_take (i := 7) (v := .string ⟨(b).toArray⟩) rfl (by kernel_rfl) (by kernel_rfl) (by kernel_rfl) (by kernel_rfl) (yx_val (wantF (d := 73) rfl (by kernel_rfl) rfl rfl) (fun w' hx' => rv_str rfl (fr_eval rfl rfl) (hr.rd _ (hH.chg.trans (Ext.any hx'))) Try.underlying22 Try.underlying5 Try.underlying9)) ?_
        refine anyX_ready (rs := [4]) (by kernel_rfl) ?_
        intro w56 hx
        replace hH := hH.ext hx
        clear hx
        refine (anyX_cons ?_ anyX_nil)
        refine xl_step (i := 4) rfl (wantF (d := 73) rfl (by kernel_rfl) rfl rfl) ?_
        refine of_call (rv_call (args := [.agg (([.int .i64 rr_t47.t, .int .i64 rr_t47.c, .int .i64 rr_t47.s] : List Value) ++ (cBs rr_t47.h.1 ++ cBs rr_t47.b.1)).toArray]) rfl (evc (fr_eval rfl rfl) evn) Try.call32) (rcText12_calls rr_t47 (inR_in (hR_rr_t47.good (by assumption)).1) _) ?_
        rintro _ w57 ⟨⟨y11, rfl, ho, hg⟩, hx⟩
        refine ⟨_, rfl, ?_⟩
        replace hH : Heap (newN w) w w57 [oBlk g1 (([.int .i64 r.t, .int .i64 r.c, .int .i64 r.s] : List Value) ++ (cBs r.h.1 ++ cBs r.b.1)) 54, oBlk g5 (([.int .i64 rr_t17.t, .int .i64 rr_t17.c, .int .i64 rr_t17.s] : List Value) ++ (cBs rr_t17.h.1 ++ cBs rr_t17.b.1)) 54, oBlk g7 (([.int .i64 rr_t47.t, .int .i64 rr_t47.c, .int .i64 rr_t47.s] : List Value) ++ (cBs rr_t47.h.1 ++ cBs rr_t47.b.1)) 54, oB y11 (textR rr_t47)] := hH.addOwn hx hg ho
        clear ho hg
        refine ⟨hx, ?_⟩
        clear hx
        refine xl_take (i := 5) (v := .string ⟨(textR rr_t47).toArray⟩) rfl (by kernel_rfl) (by kernel_rfl) (by kernel_rfl) (by kernel_rfl) (yx_val (wantF (d := 73) rfl (by kernel_rfl) rfl rfl) (fun w' hx' => rv_str rfl (fr_eval rfl rfl) (OwnB.rd ((hH.ext hx').own (i := 3) rfl)) Try.underlying22 Try.underlying5 Try.underlying9)) ?_
        refine xl_tail (s := 8) rfl ?_
        intro w58 hx
        replace hH := hH.ext hx
        clear hx
        refine lf_val (v := .bool true) (wantF (d := 73) rfl (by kernel_rfl) rfl rfl) (rv_eqs (b := true) rfl (fr_eval rfl rfl) (fr_eval rfl rfl) (by exact decide_eq_true (hR_rr_t47.good (by assumption)).2.symm)) ?_
        refine lf_val (v := .bool true) (wantAll rfl) (rv_pickT rfl (fr_eval rfl rfl) (fr_eval rfl rfl)) ?_
        refine lf_val (v := .bool true) (wantAll rfl) (rv_move rfl (fr_eval rfl rfl)) ?_
        refine lf_call (wantF (d := 81) rfl (by kernel_rfl) rfl rfl) (rv_call (args := []) rfl evn Try.call36) (awake12_calls _) ?_
        rintro _ w59 ⟨rfl, hx⟩
        refine ⟨_, rfl, ?_⟩
        replace hH := hH.ext hx
        clear hx
        refine lf_val (v := .bool true) (wantAll rfl) (rv_pickT rfl (fr_eval rfl rfl) (fr_eval rfl rfl)) ?_
        refine lf_val (v := .bool true) (wantAll rfl) (rv_assign rfl (fr_eval rfl rfl)) ?_
        refine lf_nil ?_
        refine then_n ?_
        replace hH : Heap (newN w) w w59 [oBlk g1 (([.int .i64 r.t, .int .i64 r.c, .int .i64 r.s] : List Value) ++ (cBs r.h.1 ++ cBs r.b.1)) 54, oBlk g5 (([.int .i64 rr_t17.t, .int .i64 rr_t17.c, .int .i64 rr_t17.s] : List Value) ++ (cBs rr_t17.h.1 ++ cBs rr_t17.b.1)) 54, oBlk g7 (([.int .i64 rr_t47.t, .int .i64 rr_t47.c, .int .i64 rr_t47.s] : List Value) ++ (cBs rr_t47.h.1 ++ cBs rr_t47.b.1)) 54] := hH.drop (.cons_cons _ (.cons_cons _ (.cons_cons _ (.cons _ .slnil))))
        refine wp_gen (fun F' => F' 0 = .agg (([.int .i64 r.t, .int .i64 r.c, .int .i64 r.s] : List Value) ++ (cBs r.h.1 ++ cBs r.b.1)).toArray ∧ F' 1 = v ∧ F' 2 = .pointer (some ⟨g1, 0, none⟩) ∧ F' 4 = .bool true ∧ F' 5 = .pointer (some ⟨g5, 0, none⟩) ∧ F' 6 = .int .i64 re_t17 ∧ F' 7 = .pointer (some ⟨g7, 0, none⟩) ∧ F' 8 = .int .i64 re_t47 ∧ F' 11 = .bool false ∧ F' 33 = .bool false ∧ F' 44 = .bool false ∧ F' 51 = .bool false) ⟨e0, e1, e2, rfl, e5, e6, e7, e8, e11, e33, e44, e51⟩ ?_
        clear e0 e1 e2 e4 e5 e6 e7 e8 e11 e33 e44 e51
        clear F
        rintro F ⟨e0, e1, e2, e4, e5, e6, e7, e8, e11, e33, e44, e51⟩
        refine wp_ret ?_
        exact bodyPost_ret (v := (.bool true)) (res1 rfl (ro_tmp rfl e4)) rfl (⟨rfl, hH.done⟩)
      · refine lf_val (v := .bool true) (wantAll rfl) (rv_neq rfl (fr_eval rfl rfl) rfl (decide_eq_false (by omega))) ?_
        refine lf_nil ?_
        refine then_n ?_
        refine wp_gen (fun F' => F' 0 = .agg (([.int .i64 r.t, .int .i64 r.c, .int .i64 r.s] : List Value) ++ (cBs r.h.1 ++ cBs r.b.1)).toArray ∧ F' 1 = v ∧ F' 2 = .pointer (some ⟨g1, 0, none⟩) ∧ F' 4 = .bool false ∧ F' 5 = .pointer (some ⟨g5, 0, none⟩) ∧ F' 6 = .int .i64 re_t17 ∧ F' 7 = .pointer (some ⟨g7, 0, none⟩) ∧ F' 8 = .int .i64 re_t47 ∧ F' 11 = .bool false ∧ F' 33 = .bool false ∧ F' 44 = .bool false ∧ F' 51 = .bool true) ⟨e0, e1, e2, e4, e5, e6, e7, e8, e11, e33, e44, rfl⟩ ?_
        clear e0 e1 e2 e4 e5 e6 e7 e8 e11 e33 e44
        clear F
        rintro F ⟨e0, e1, e2, e4, e5, e6, e7, e8, e11, e33, e44, e51⟩
        refine wp_cond_true (fr_eval rfl e51) ?_
        refine wp_seq ?_
        have hz := hR_rr_t47.bad (by assumption)
        refine wp_regionX (fun _ => False) 13 (by kernel_rfl) (by kernel_rfl) ?_
        refine xl_take (i := 0) (v := .agg (([.int .i64 rr_t47.t, .int .i64 rr_t47.c, .int .i64 rr_t47.s] : List Value) ++ (cBs rr_t47.h.1 ++ cBs rr_t47.b.1)).toArray) rfl (by kernel_rfl) (by kernel_rfl) (by kernel_rfl) (by kernel_rfl) (yx_val (wantAll rfl) (fun w' hx' => rv_loadW rfl ((hH.ext hx').blk (i := 2) rfl) (fr_eval rfl e7) Try.underlying54 rfl (sz_len Try.sz54 (len_app (m := 3) (n := 64) (k := 67) rfl (len_app (m := 32) (n := 32) (k := 64) (cBs_len rr_t47.h.2) (cBs_len rr_t47.b.2) rfl) rfl)))) ?_
        refine xl_take (i := 1) (v := .agg (([.int .i64 0, .int .i64 0, .int .i64 0] : List Value) ++ (cBs (List.replicate 32 0) ++ cBs (List.replicate 32 0))).toArray) rfl (by kernel_rfl) (by kernel_rfl) (by kernel_rfl) (by kernel_rfl) (yx_val (wantAll rfl) (fun w' hx' => rv_buildS (ps := []) (places := #[(0, 1), (1, 1), (2, 1), (3, 32), (35, 32)]) (z := .agg (([.int .i64 0, .int .i64 0, .int .i64 0] : List Value) ++ (cBs (List.replicate 32 0) ++ cBs (List.replicate 32 0))).toArray) (zc := ([.int .i64 0, .int .i64 0, .int .i64 0] : List Value) ++ (cBs (List.replicate 32 0) ++ cBs (List.replicate 32 0))) (cs := ([.int .i64 0, .int .i64 0, .int .i64 0] : List Value) ++ (cBs (List.replicate 32 0) ++ cBs (List.replicate 32 0))) rfl evpn (by kernel_rfl) rfl Try.underlying54 (fun _ => by kernel_rfl) fill0)) ?_
        refine xl_take (i := 2) (v := .bool true) rfl (by kernel_rfl) (by kernel_rfl) (by kernel_rfl) (by kernel_rfl) (yx_val (wantAll rfl) (fun w' hx' => rv_eqR (r := rr_t47) (q := (⟨0, 0, 0, ⟨List.replicate 32 0, (List.length_replicate ..)⟩, ⟨List.replicate 32 0, (List.length_replicate ..)⟩⟩ : Rc)) (b := true) rfl (fr_eval rfl rfl) (fr_eval rfl rfl) (by rw [hz]; exact rcBeq_self _))) ?_
        refine xl_take (i := 3) (v := .bool true) rfl (by kernel_rfl) (by kernel_rfl) (by kernel_rfl) (by kernel_rfl) (yx_val (wantAll rfl) (fun w' hx' => rv_move rfl (fr_eval rfl rfl))) ?_
        refine xl_take (i := 4) (v := .agg (([.int .i64 r.t, .int .i64 r.c, .int .i64 r.s] : List Value) ++ (cBs r.h.1 ++ cBs r.b.1)).toArray) rfl (by kernel_rfl) (by kernel_rfl) (by kernel_rfl) (by kernel_rfl) (yx_val (wantF (d := 55) rfl (by kernel_rfl) rfl rfl) (fun w' hx' => rv_loadW rfl ((hH.ext hx').blk (i := 0) rfl) (fr_eval rfl e2) Try.underlying54 rfl (sz_len Try.sz54 (len_app (m := 3) (n := 64) (k := 67) rfl (len_app (m := 32) (n := 32) (k := 64) (cBs_len r.h.2) (cBs_len r.b.2) rfl) rfl)))) ?_
        refine xl_take (i := 5) (v := .bool true) rfl (by kernel_rfl) (by kernel_rfl) (by kernel_rfl) (by kernel_rfl) (yx_call (wantF (d := 55) rfl (by kernel_rfl) rfl rfl) (fun w' => rv_call (args := [.agg (([.int .i64 r.t, .int .i64 r.c, .int .i64 r.s] : List Value) ++ (cBs r.h.1 ++ cBs r.b.1)).toArray]) rfl (evc (fr_eval rfl rfl) evn) Try.call35) (fun w' hx' => calls_known (rcRight12_calls r _) (hb2))) ?_
        refine xl_take (i := 6) (v := .bool false) rfl (by kernel_rfl) (by kernel_rfl) (by kernel_rfl) (by kernel_rfl) (yx_val (wantF (d := 55) rfl (by kernel_rfl) rfl rfl) (fun w' hx' => rv_not (b := true) rfl (fr_eval rfl rfl))) ?_
        refine xl_take (i := 7) (v := .bool false) rfl (by kernel_rfl) (by kernel_rfl) (by kernel_rfl) (by kernel_rfl) (yx_val (wantF (d := 55) rfl (by kernel_rfl) rfl rfl) (fun w' hx' => rv_move rfl (fr_eval rfl rfl))) ?_
        refine xl_take (i := 8) (v := v) rfl (by kernel_rfl) (by kernel_rfl) (by kernel_rfl) (by kernel_rfl) (yx_val (wantF (d := 59) rfl (by kernel_rfl) rfl rfl) (fun w' hx' => rv_move rfl (fr_eval rfl e1))) ?_
        refine xl_take (i := 9) (v := .string ⟨(b).toArray⟩) rfl (by kernel_rfl) (by kernel_rfl) (by kernel_rfl) (by kernel_rfl) (yx_val (wantF (d := 59) rfl (by kernel_rfl) rfl rfl) (fun w' hx' => rv_str rfl (fr_eval rfl rfl) (hr.rd _ (hH.chg.trans (Ext.any hx'))) Try.underlying22 Try.underlying5 Try.underlying9)) ?_
        refine xl_take (i := 10) (v := .agg (([.int .i64 r.t, .int .i64 r.c, .int .i64 r.s] : List Value) ++ (cBs r.h.1 ++ cBs r.b.1)).toArray) rfl (by kernel_rfl) (by kernel_rfl) (by kernel_rfl) (by kernel_rfl) (yx_val (wantF (d := 59) rfl (by kernel_rfl) rfl rfl) (fun w' hx' => rv_loadW rfl ((hH.ext hx').blk (i := 0) rfl) (fr_eval rfl e2) Try.underlying54 rfl (sz_len Try.sz54 (len_app (m := 3) (n := 64) (k := 67) rfl (len_app (m := 32) (n := 32) (k := 64) (cBs_len r.h.2) (cBs_len r.b.2) rfl) rfl)))) ?_
        refine anyX_ready (rs := [11]) (by kernel_rfl) ?_
        intro w60 hx
        replace hH := hH.ext hx
        clear hx
        refine (anyX_cons ?_ anyX_nil)
        refine xl_step (i := 11) rfl (wantF (d := 59) rfl (by kernel_rfl) rfl rfl) ?_
        refine of_call (rv_call (args := [.agg (([.int .i64 r.t, .int .i64 r.c, .int .i64 r.s] : List Value) ++ (cBs r.h.1 ++ cBs r.b.1)).toArray]) rfl (evc (fr_eval rfl rfl) evn) Try.call32) (rcText12_calls r hin_r _) ?_
        rintro _ w61 ⟨⟨y12, rfl, ho, hg⟩, hx⟩
        refine ⟨_, rfl, ?_⟩
        replace hH : Heap (newN w) w w61 [oBlk g1 (([.int .i64 r.t, .int .i64 r.c, .int .i64 r.s] : List Value) ++ (cBs r.h.1 ++ cBs r.b.1)) 54, oBlk g5 (([.int .i64 rr_t17.t, .int .i64 rr_t17.c, .int .i64 rr_t17.s] : List Value) ++ (cBs rr_t17.h.1 ++ cBs rr_t17.b.1)) 54, oBlk g7 (([.int .i64 rr_t47.t, .int .i64 rr_t47.c, .int .i64 rr_t47.s] : List Value) ++ (cBs rr_t47.h.1 ++ cBs rr_t47.b.1)) 54, oB y12 (textR r)] := hH.addOwn hx hg ho
        clear ho hg
        refine ⟨hx, ?_⟩
        clear hx
        refine xl_take (i := 12) (v := .string ⟨(textR r).toArray⟩) rfl (by kernel_rfl) (by kernel_rfl) (by kernel_rfl) (by kernel_rfl) (yx_val (wantF (d := 59) rfl (by kernel_rfl) rfl rfl) (fun w' hx' => rv_str rfl (fr_eval rfl rfl) (OwnB.rd ((hH.ext hx').own (i := 3) rfl)) Try.underlying22 Try.underlying5 Try.underlying9)) ?_
        refine xl_tail (s := 13) rfl ?_
        intro w62 hx
        replace hH := hH.ext hx
        clear hx
        refine lf_val (v := .bool true) (wantF (d := 59) rfl (by kernel_rfl) rfl rfl) (rv_nes (b := false) rfl (fr_eval rfl rfl) (fr_eval rfl rfl) (by exact decide_eq_false (fun h => absurd (hR_rr_t47.one r (of_decide_eq_true (by assumption)) h).1 (by assumption)))) ?_
        refine lf_val (v := .bool true) (wantF (d := 55) rfl (by kernel_rfl) rfl rfl) (rv_pickF rfl (fr_eval rfl rfl) (fr_eval rfl rfl)) ?_
        refine lf_val (v := .bool true) (wantAll rfl) (rv_pickT rfl (fr_eval rfl rfl) (fr_eval rfl rfl)) ?_
        refine lf_val (v := .bool true) (wantAll rfl) (rv_move rfl (fr_eval rfl rfl)) ?_
        refine lf_call (wantF (d := 68) rfl (by kernel_rfl) rfl rfl) (rv_call (args := []) rfl evn Try.call36) (awake12_calls _) ?_
        rintro _ w63 ⟨rfl, hx⟩
        refine ⟨_, rfl, ?_⟩
        replace hH := hH.ext hx
        clear hx
        refine lf_val (v := .bool true) (wantAll rfl) (rv_pickT rfl (fr_eval rfl rfl) (fr_eval rfl rfl)) ?_
        refine lf_val (v := .bool true) (wantAll rfl) (rv_assign rfl (fr_eval rfl rfl)) ?_
        refine lf_nil ?_
        refine then_n ?_
        replace hH : Heap (newN w) w w63 [oBlk g1 (([.int .i64 r.t, .int .i64 r.c, .int .i64 r.s] : List Value) ++ (cBs r.h.1 ++ cBs r.b.1)) 54, oBlk g5 (([.int .i64 rr_t17.t, .int .i64 rr_t17.c, .int .i64 rr_t17.s] : List Value) ++ (cBs rr_t17.h.1 ++ cBs rr_t17.b.1)) 54, oBlk g7 (([.int .i64 rr_t47.t, .int .i64 rr_t47.c, .int .i64 rr_t47.s] : List Value) ++ (cBs rr_t47.h.1 ++ cBs rr_t47.b.1)) 54] := hH.drop (.cons_cons _ (.cons_cons _ (.cons_cons _ (.cons _ .slnil))))
        refine wp_gen (fun F' => F' 0 = .agg (([.int .i64 r.t, .int .i64 r.c, .int .i64 r.s] : List Value) ++ (cBs r.h.1 ++ cBs r.b.1)).toArray ∧ F' 1 = v ∧ F' 2 = .pointer (some ⟨g1, 0, none⟩) ∧ F' 4 = .bool true ∧ F' 5 = .pointer (some ⟨g5, 0, none⟩) ∧ F' 6 = .int .i64 re_t17 ∧ F' 7 = .pointer (some ⟨g7, 0, none⟩) ∧ F' 8 = .int .i64 re_t47 ∧ F' 11 = .bool false ∧ F' 33 = .bool false ∧ F' 44 = .bool false ∧ F' 51 = .bool true) ⟨e0, e1, e2, rfl, e5, e6, e7, e8, e11, e33, e44, e51⟩ ?_
        clear e0 e1 e2 e4 e5 e6 e7 e8 e11 e33 e44 e51
        clear F
        rintro F ⟨e0, e1, e2, e4, e5, e6, e7, e8, e11, e33, e44, e51⟩
        refine wp_ret ?_
        refine then_ret ?_
        exact bodyPost_ret (v := (.bool true)) (res1 rfl (ro_tmp rfl e4)) rfl (⟨rfl, hH.done⟩)

set_option maxRecDepth 100000 in
set_option maxHeartbeats 1000000 in
theorem receiptBytes_walk (r : Rc) (hin_r : inRc r) (sig : List UInt8) (vs : Value) (b : List UInt8) (v : Value) (w : World) (hsg0 : RdB w vs sig) (hr0 : RdB w v b) :
    Calls Try.prog 8 #[.agg (([.int .i64 r.t, .int .i64 r.c, .int .i64 r.s] : List Value) ++ (cBs r.h.1 ++ (cBs r.b.1 ++ ([vs] : List Value)))).toArray, v] w fun e'' w' => e'' = .returned (.bool true) ∧ Ext w w' := by
  refine calls_fr (args := [.agg (([.int .i64 r.t, .int .i64 r.c, .int .i64 r.s] : List Value) ++ (cBs r.h.1 ++ (cBs r.b.1 ++ ([vs] : List Value)))).toArray, v]) (n := 97) Try.func8 rfl rfl (show 2 ≤ 97 by decide) ?_
  have l3 := textR_len r
  have l1 := put_len ((textR r).length : Int)
  have l2 := put_len (sig.length : Int)
  have hsg := Rd.stab hsg0
  have hr := Rd.stab hr0
  have hH : Heap (newN w) w w [] := Heap.fresh
  refine wp_seq ?_
  refine wp_gen (fun F' => F' 0 = .agg (([.int .i64 r.t, .int .i64 r.c, .int .i64 r.s] : List Value) ++ (cBs r.h.1 ++ (cBs r.b.1 ++ ([vs] : List Value)))).toArray ∧ F' 1 = v) ⟨rfl, rfl⟩ ?_
  rintro F ⟨e0, e1⟩
  refine wp_regionF ?_
  refine lf_ex (wantAll rfl) (hx_box hH 61 (cs := ([.int .i64 r.t, .int .i64 r.c, .int .i64 r.s] : List Value) ++ (cBs r.h.1 ++ (cBs r.b.1 ++ ([vs] : List Value)))) rfl (fr_eval rfl e0) (by rfl)) ?_
  clear hH
  rintro _ w1 ⟨g1, rfl, hH, hx⟩
  replace hH : Heap (newN w) w w1 [oBlk g1 (([.int .i64 r.t, .int .i64 r.c, .int .i64 r.s] : List Value) ++ (cBs r.h.1 ++ (cBs r.b.1 ++ ([vs] : List Value)))) 61] := hH
  clear hx
  refine lf_val (v := .bool false) (wantAll rfl) (rv_assign rfl rfl) ?_
  refine lf_nil ?_
  refine then_n ?_
  refine wp_seq ?_
  refine wp_seq ?_
  refine wp_gen (fun F' => F' 0 = .agg (([.int .i64 r.t, .int .i64 r.c, .int .i64 r.s] : List Value) ++ (cBs r.h.1 ++ (cBs r.b.1 ++ ([vs] : List Value)))).toArray ∧ F' 1 = v ∧ F' 2 = .pointer (some ⟨g1, 0, none⟩) ∧ F' 4 = .bool false) ⟨e0, e1, rfl, rfl⟩ ?_
  clear e0 e1
  clear F
  rintro F ⟨e0, e1, e2, e4⟩
  refine wp_regionF ?_
  refine lf_val (v := .pointer (some ⟨g1, 67, none⟩)) (wantAll rfl) (rv_fieldAddr (n := 0) rfl (fr_eval rfl e2) Try.underlying61 rfl rfl (by kernel_rfl)) ?_
  refine lf_val (v := vs) (wantAll rfl) (rv_load1 rfl (hH.blk (i := 0) rfl) (get_of (cs := ([.int .i64 r.t, .int .i64 r.c, .int .i64 r.s] : List Value) ++ (cBs r.h.1 ++ (cBs r.b.1 ++ ([vs] : List Value)))) (A := (([.int .i64 r.t, .int .i64 r.c, .int .i64 r.s] : List Value) ++ (cBs r.h.1 ++ cBs r.b.1) : List Value)) (D := ([vs] : List Value)) (C := ([] : List Value)) (o := 67) (j := 0) (by simp only [List.append_assoc, List.cons_append, List.nil_append, List.append_nil]) (len_app (m := 3) (n := 64) (k := 67) rfl (len_app (m := 32) (n := 32) (k := 64) (cBs_len r.h.2) (cBs_len r.b.2) rfl) rfl) rfl (show ([vs] : List Value)[0]? = some (vs) from rfl)) (fr_eval rfl rfl) Try.underlying22 rfl Try.sz22) ?_
  refine lf_val (v := .int .i64 ((sig.length : Nat) : Int)) (wantAll rfl) (rv_len rfl (fr_eval rfl rfl) (RdB.rn (hsg.rd _ hH.chg) rfl) Try.underlying22) ?_
  by_cases hc1 : sig.length > 300
  · refine lf_val (v := .bool true) (wantAll rfl) (rv_gtr rfl (fr_eval rfl rfl) rfl (decide_eq_true (by omega))) ?_
    refine lf_val (v := .bool true) (wantAll rfl) (rv_move rfl (fr_eval rfl rfl)) ?_
    refine lf_not (wantNot (d := 15) rfl (by kernel_rfl) rfl rfl) ?_
    refine lf_not (wantNot (d := 15) rfl (by kernel_rfl) rfl rfl) ?_
    refine lf_not (wantNot (d := 15) rfl (by kernel_rfl) rfl rfl) ?_
    refine lf_val (v := .bool true) (wantAll rfl) (rv_pickT rfl (fr_eval rfl rfl) rfl) ?_
    refine lf_nil ?_
    refine then_n ?_
    refine wp_gen (fun F' => F' 0 = .agg (([.int .i64 r.t, .int .i64 r.c, .int .i64 r.s] : List Value) ++ (cBs r.h.1 ++ (cBs r.b.1 ++ ([vs] : List Value)))).toArray ∧ F' 1 = v ∧ F' 2 = .pointer (some ⟨g1, 0, none⟩) ∧ F' 4 = .bool false ∧ F' 19 = .bool true) ⟨e0, e1, e2, e4, rfl⟩ ?_
    clear e0 e1 e2 e4
    clear F
    rintro F ⟨e0, e1, e2, e4, e19⟩
    refine wp_cond_true (fr_eval rfl e19) ?_
    refine wp_seq ?_
    refine wp_regionF ?_
    refine lf_call (wantAll rfl) (rv_call (args := []) rfl evn Try.call36) (awake12_calls _) ?_
    rintro _ w2 ⟨rfl, hx⟩
    refine ⟨_, rfl, ?_⟩
    replace hH := hH.ext hx
    clear hx
    refine lf_val (v := .bool true) (wantAll rfl) (rv_assign rfl (fr_eval rfl rfl)) ?_
    refine lf_nil ?_
    refine then_n ?_
    refine wp_gen (fun F' => F' 0 = .agg (([.int .i64 r.t, .int .i64 r.c, .int .i64 r.s] : List Value) ++ (cBs r.h.1 ++ (cBs r.b.1 ++ ([vs] : List Value)))).toArray ∧ F' 1 = v ∧ F' 2 = .pointer (some ⟨g1, 0, none⟩) ∧ F' 4 = .bool true ∧ F' 19 = .bool true) ⟨e0, e1, e2, rfl, e19⟩ ?_
    clear e0 e1 e2 e4 e19
    clear F
    rintro F ⟨e0, e1, e2, e4, e19⟩
    refine wp_ret ?_
    refine then_ret ?_
    exact bodyPost_ret (v := (.bool true)) (res1 rfl (ro_tmp rfl e4)) rfl (⟨rfl, hH.done⟩)
  · refine lf_val (v := .bool false) (wantAll rfl) (rv_gtr rfl (fr_eval rfl rfl) rfl (decide_eq_false (by omega))) ?_
    refine lf_val (v := .bool false) (wantAll rfl) (rv_move rfl (fr_eval rfl rfl)) ?_
    refine lf_val (v := v) (wantF (d := 15) rfl (by kernel_rfl) rfl rfl) (rv_move rfl (fr_eval rfl e1)) ?_
    refine lf_val (v := .int .i64 ((b.length : Nat) : Int)) (wantF (d := 15) rfl (by kernel_rfl) rfl rfl) (rv_len rfl (fr_eval rfl rfl) (RdB.rn (hr.rd _ hH.chg) rfl) Try.underlying22) ?_
    by_cases hc2 : b.length > 300
    · refine lf_val (v := .bool true) (wantF (d := 15) rfl (by kernel_rfl) rfl rfl) (rv_gtr rfl (fr_eval rfl rfl) rfl (decide_eq_true (by omega))) ?_
      refine lf_val (v := .bool true) (wantAll rfl) (rv_pickF rfl (fr_eval rfl rfl) (fr_eval rfl rfl)) ?_
      refine lf_nil ?_
      refine then_n ?_
      refine wp_gen (fun F' => F' 0 = .agg (([.int .i64 r.t, .int .i64 r.c, .int .i64 r.s] : List Value) ++ (cBs r.h.1 ++ (cBs r.b.1 ++ ([vs] : List Value)))).toArray ∧ F' 1 = v ∧ F' 2 = .pointer (some ⟨g1, 0, none⟩) ∧ F' 4 = .bool false ∧ F' 19 = .bool true) ⟨e0, e1, e2, e4, rfl⟩ ?_
      clear e0 e1 e2 e4
      clear F
      rintro F ⟨e0, e1, e2, e4, e19⟩
      refine wp_cond_true (fr_eval rfl e19) ?_
      refine wp_seq ?_
      refine wp_regionF ?_
      refine lf_call (wantAll rfl) (rv_call (args := []) rfl evn Try.call36) (awake12_calls _) ?_
      rintro _ w3 ⟨rfl, hx⟩
      refine ⟨_, rfl, ?_⟩
      replace hH := hH.ext hx
      clear hx
      refine lf_val (v := .bool true) (wantAll rfl) (rv_assign rfl (fr_eval rfl rfl)) ?_
      refine lf_nil ?_
      refine then_n ?_
      refine wp_gen (fun F' => F' 0 = .agg (([.int .i64 r.t, .int .i64 r.c, .int .i64 r.s] : List Value) ++ (cBs r.h.1 ++ (cBs r.b.1 ++ ([vs] : List Value)))).toArray ∧ F' 1 = v ∧ F' 2 = .pointer (some ⟨g1, 0, none⟩) ∧ F' 4 = .bool true ∧ F' 19 = .bool true) ⟨e0, e1, e2, rfl, e19⟩ ?_
      clear e0 e1 e2 e4 e19
      clear F
      rintro F ⟨e0, e1, e2, e4, e19⟩
      refine wp_ret ?_
      refine then_ret ?_
      exact bodyPost_ret (v := (.bool true)) (res1 rfl (ro_tmp rfl e4)) rfl (⟨rfl, hH.done⟩)
    · refine lf_val (v := .bool false) (wantF (d := 15) rfl (by kernel_rfl) rfl rfl) (rv_gtr rfl (fr_eval rfl rfl) rfl (decide_eq_false (by omega))) ?_
      refine lf_val (v := .bool false) (wantAll rfl) (rv_pickF rfl (fr_eval rfl rfl) (fr_eval rfl rfl)) ?_
      refine lf_nil ?_
      refine then_n ?_
      refine wp_gen (fun F' => F' 0 = .agg (([.int .i64 r.t, .int .i64 r.c, .int .i64 r.s] : List Value) ++ (cBs r.h.1 ++ (cBs r.b.1 ++ ([vs] : List Value)))).toArray ∧ F' 1 = v ∧ F' 2 = .pointer (some ⟨g1, 0, none⟩) ∧ F' 4 = .bool false ∧ F' 19 = .bool false) ⟨e0, e1, e2, e4, rfl⟩ ?_
      clear e0 e1 e2 e4
      clear F
      rintro F ⟨e0, e1, e2, e4, e19⟩
      refine wp_cond_false (fr_eval rfl e19) ?_
      refine wp_skip ?_
      refine then_n ?_
      refine wp_seq ?_
      refine wp_regionF ?_
      refine lf_ex (wantAll rfl) (hx_alloc hH 50 (z := .agg ([.slice none 0 0]).toArray) (n := 1) (cs := [.slice none 0 0]) rfl (by kernel_rfl) (by rfl)) ?_
      clear hH
      rintro _ w4 ⟨g2, rfl, hH, hx⟩
      replace hH : Heap (newN w) w w4 [oBlk g1 (([.int .i64 r.t, .int .i64 r.c, .int .i64 r.s] : List Value) ++ (cBs r.h.1 ++ (cBs r.b.1 ++ ([vs] : List Value)))) 61, oBlk g2 ([.slice none 0 0]) 50] := hH
      clear hx
      refine lf_nil ?_
      refine then_n ?_
      refine wp_seq ?_
      refine wp_gen (fun F' => F' 0 = .agg (([.int .i64 r.t, .int .i64 r.c, .int .i64 r.s] : List Value) ++ (cBs r.h.1 ++ (cBs r.b.1 ++ ([vs] : List Value)))).toArray ∧ F' 1 = v ∧ F' 2 = .pointer (some ⟨g1, 0, none⟩) ∧ F' 4 = .bool false ∧ F' 5 = .pointer (some ⟨g2, 0, none⟩) ∧ F' 19 = .bool false) ⟨e0, e1, e2, e4, rfl, e19⟩ ?_
      clear e0 e1 e2 e4 e19
      clear F
      rintro F ⟨e0, e1, e2, e4, e5, e19⟩
      replace hH : Heap (newN w) w w4 [oBlk g1 (([.int .i64 r.t, .int .i64 r.c, .int .i64 r.s] : List Value) ++ (cBs r.h.1 ++ (cBs r.b.1 ++ ([vs] : List Value)))) 61, oPen g2 (.slice none 0 0) []] := hH.toPen (i := 1) rfl rfl
      have hs_1 := hH.fixed1 (j := 0) (i := 1) rfl rfl (by decide)
      have hKN := hH.sub1 (i := 1) rfl
      have hcK : Chg (newK w4 (oPen g2 (.slice none 0 0) []).fp) w4 w4 := Chg.refl _ _
      have hfM : ∀ k, (oPen g2 (.slice none 0 0) []).fp k → (newK w4 (oPen g2 (.slice none 0 0) []).fp) k := fun k h => Or.inr h
      refine wp_regionX (newK w4 (oPen g2 (.slice none 0 0) []).fp) 6 (by kernel_rfl) (by kernel_rfl) ?_
      refine xl_take (i := 0) (v := .pointer (some ⟨g1, 0, none⟩)) rfl (by kernel_rfl) (by kernel_rfl) (by kernel_rfl) (by kernel_rfl) (yx_val (wantAll rfl) (fun w' hx' => rv_fieldAddr (n := 66) rfl (fr_eval rfl e2) Try.underlying61 rfl rfl (by kernel_rfl))) ?_
      refine xl_take (i := 1) (v := .agg (([.int .i64 r.t, .int .i64 r.c, .int .i64 r.s] : List Value) ++ (cBs r.h.1 ++ cBs r.b.1)).toArray) rfl (by kernel_rfl) (by kernel_rfl) (by kernel_rfl) (by kernel_rfl) (yx_val (wantAll rfl) (fun w' hx' => rv_loadP rfl (hs_1 _ (hcK.trans hx')) (part_of (cs := ([.int .i64 r.t, .int .i64 r.c, .int .i64 r.s] : List Value) ++ (cBs r.h.1 ++ (cBs r.b.1 ++ ([vs] : List Value)))) (A := ([] : List Value)) (D := (([.int .i64 r.t, .int .i64 r.c, .int .i64 r.s] : List Value) ++ (cBs r.h.1 ++ cBs r.b.1) : List Value)) (C := ([vs] : List Value)) (by simp only [List.append_assoc, List.cons_append, List.nil_append, List.append_nil]) (show List.length ([] : List Value) = 0 from rfl) (len_app (m := 3) (n := 64) (k := 67) rfl (len_app (m := 32) (n := 32) (k := 64) (cBs_len r.h.2) (cBs_len r.b.2) rfl) rfl)) (len_app (m := 3) (n := 64) (k := 67) rfl (len_app (m := 32) (n := 32) (k := 64) (cBs_len r.h.2) (cBs_len r.b.2) rfl) rfl) (fr_eval rfl rfl) Try.underlying54 rfl Try.sz54)) ?_
      refine xl_take (i := 4) (v := .pointer (some ⟨g1, 67, none⟩)) rfl (by kernel_rfl) (by kernel_rfl) (by kernel_rfl) (by kernel_rfl) (yx_val (wantAll rfl) (fun w' hx' => rv_fieldAddr (n := 0) rfl (fr_eval rfl e2) Try.underlying61 rfl rfl (by kernel_rfl))) ?_
      refine xl_take (i := 5) (v := vs) rfl (by kernel_rfl) (by kernel_rfl) (by kernel_rfl) (by kernel_rfl) (yx_val (wantAll rfl) (fun w' hx' => rv_load1 rfl (hs_1 _ (hcK.trans hx')) (get_of (cs := ([.int .i64 r.t, .int .i64 r.c, .int .i64 r.s] : List Value) ++ (cBs r.h.1 ++ (cBs r.b.1 ++ ([vs] : List Value)))) (A := (([.int .i64 r.t, .int .i64 r.c, .int .i64 r.s] : List Value) ++ (cBs r.h.1 ++ cBs r.b.1) : List Value)) (D := ([vs] : List Value)) (C := ([] : List Value)) (o := 67) (j := 0) (by simp only [List.append_assoc, List.cons_append, List.nil_append, List.append_nil]) (len_app (m := 3) (n := 64) (k := 67) rfl (len_app (m := 32) (n := 32) (k := 64) (cBs_len r.h.2) (cBs_len r.b.2) rfl) rfl) rfl (show ([vs] : List Value)[0]? = some (vs) from rfl)) (fr_eval rfl rfl) Try.underlying22 rfl Try.sz22)) ?_
      refine anyX_ready (rs := [2]) (by kernel_rfl) ?_
      intro w5 hx
      replace hH := hH.ext hx
      replace hcK := hcK.trans (Ext.any hx)
      clear hx
      refine (anyX_cons ?_ anyX_nil)
      refine xl_step (i := 2) rfl (wantAll rfl) ?_
      refine of_call (rv_call (args := [.agg (([.int .i64 r.t, .int .i64 r.c, .int .i64 r.s] : List Value) ++ (cBs r.h.1 ++ cBs r.b.1)).toArray]) rfl (evc (fr_eval rfl rfl) evn) Try.call32) (rcText12_calls r hin_r _) ?_
      rintro _ w6 ⟨⟨y1, rfl, ho, hg⟩, hx⟩
      refine ⟨_, rfl, ?_⟩
      replace hH : Heap (newN w) w w6 [oBlk g1 (([.int .i64 r.t, .int .i64 r.c, .int .i64 r.s] : List Value) ++ (cBs r.h.1 ++ (cBs r.b.1 ++ ([vs] : List Value)))) 61, oPen g2 (.slice none 0 0) [], oB y1 (textR r)] := hH.addOwn hx hg ho
      clear ho hg
      replace hcK := hcK.trans (Ext.any hx)
      refine ⟨(Ext.any hx), ?_⟩
      clear hx
      refine anyX_ready (rs := [3]) (by kernel_rfl) ?_
      intro w7 hx
      replace hH := hH.ext hx
      replace hcK := hcK.trans (Ext.any hx)
      clear hx
      refine (anyX_cons ?_ anyX_nil)
      refine xl_step (i := 3) rfl (wantAll rfl) ?_
      refine of_call (rv_call (args := [.pointer (some ⟨g2, 0, none⟩), y1]) rfl (evc (fr_eval rfl e5) (evc (fr_eval rfl rfl) evn)) Try.call25) (penText_calls (Nat.le_trans (textR_len r) (by decide)) _ (OwnB.rd (hH.own (i := 2) rfl)) (fun k hk h0 e => apart_at hH.apart (i := 2) (j := 1) rfl rfl (by decide) k hk (Or.inl e)) (fun k hk h0 h => apart_at hH.apart (i := 2) (j := 1) rfl rfl (by decide) k hk (Or.inr h)) (hH.pen (i := 1) rfl) (by simp only [List.length_append, List.length_nil]; omega)) ?_
      rintro _ w8 ⟨rfl, hp⟩
      refine ⟨_, rfl, ?_⟩
      obtain ⟨y2, hH', hx, hxf, hgr⟩ := hH.penPost (i := 1) (l2 := put (((textR r).length : Nat) : Int) ++ (textR r)) rfl (fun _ => rfl) hp
      clear hH hp
      have hH : Heap (newN w) w w8 [oBlk g1 (([.int .i64 r.t, .int .i64 r.c, .int .i64 r.s] : List Value) ++ (cBs r.h.1 ++ (cBs r.b.1 ++ ([vs] : List Value)))) 61, oPen g2 y2 (put (((textR r).length : Nat) : Int) ++ (textR r)), oB y1 (textR r)] := hH'
      clear hH'
      have hcx := hxf.mono (fun k _ hk => hfM k hk)
      replace hfM := grow1 (fun k h => Or.inl h) hcK.size hfM hgr
      replace hcK := hcK.trans hcx
      refine ⟨hcx, ?_⟩
      clear hcx hxf hgr hx
      refine xl_tail (s := 6) rfl ?_
      intro w9 hx
      replace hH := hH.ext hx
      clear hx
      clear hs_1 hKN hcK hfM
      refine lf_call (wantAll rfl) (rv_call (args := [.pointer (some ⟨g2, 0, none⟩), vs]) rfl (evc (fr_eval rfl rfl) (evc (fr_eval rfl rfl) evn)) Try.call25) (penText_calls (by omega) _ (hsg.rd _ hH.chg) (fun k hk h0 e => hsg.out _ hk (by simpa using h0) ((hH.one (i := 1) rfl).sub k (Or.inl e))) (fun k hk h0 h => hsg.out _ hk (by simpa using h0) ((hH.one (i := 1) rfl).sub k (Or.inr h))) (hH.pen (i := 1) rfl) (by simp only [List.length_append, List.length_nil]; omega)) ?_
      rintro _ w10 ⟨rfl, hp⟩
      refine ⟨_, rfl, ?_⟩
      obtain ⟨y3, hH', hx, hxf, hgr⟩ := hH.penPost (i := 1) (l2 := put (((textR r).length : Nat) : Int) ++ (textR r) ++ put ((sig.length : Nat) : Int) ++ sig) rfl (fun _ => rfl) hp
      clear hH hp
      have hH : Heap (newN w) w w10 [oBlk g1 (([.int .i64 r.t, .int .i64 r.c, .int .i64 r.s] : List Value) ++ (cBs r.h.1 ++ (cBs r.b.1 ++ ([vs] : List Value)))) 61, oPen g2 y3 (put (((textR r).length : Nat) : Int) ++ (textR r) ++ put ((sig.length : Nat) : Int) ++ sig), oB y1 (textR r)] := hH'
      clear hH'
      clear hxf hgr hx
      refine lf_call (wantAll rfl) (rv_call (args := [.pointer (some ⟨g2, 0, none⟩)]) rfl (evc (fr_eval rfl rfl) evn) Try.call28) (penBytes_calls _ (hH.pen (i := 1) rfl) (by simp only [List.length_append, List.length_nil]; omega)) ?_
      rintro _ w11 ⟨⟨y4, rfl, ho, hg⟩, hx⟩
      refine ⟨_, rfl, ?_⟩
      replace hH : Heap (newN w) w w11 [oBlk g1 (([.int .i64 r.t, .int .i64 r.c, .int .i64 r.s] : List Value) ++ (cBs r.h.1 ++ (cBs r.b.1 ++ ([vs] : List Value)))) 61, oPen g2 y3 (put (((textR r).length : Nat) : Int) ++ (textR r) ++ put ((sig.length : Nat) : Int) ++ sig), oB y1 (textR r), oB y4 (put (((textR r).length : Nat) : Int) ++ (textR r) ++ put ((sig.length : Nat) : Int) ++ sig)] := hH.addOwn hx hg ho
      clear ho hg
      clear hx
      refine lf_val (v := y4) (wantAll rfl) (rv_assign rfl (fr_eval rfl rfl)) ?_
      refine lf_nil ?_
      refine then_n ?_
      refine wp_seq ?_
      replace hH : Heap (newN w) w w11 [oBlk g1 (([.int .i64 r.t, .int .i64 r.c, .int .i64 r.s] : List Value) ++ (cBs r.h.1 ++ (cBs r.b.1 ++ ([vs] : List Value)))) 61, oPen g2 y3 (put (((textR r).length : Nat) : Int) ++ (textR r) ++ put ((sig.length : Nat) : Int) ++ sig), oB y4 (put (((textR r).length : Nat) : Int) ++ (textR r) ++ put ((sig.length : Nat) : Int) ++ sig)] := hH.drop (.cons_cons _ (.cons_cons _ (.cons _ (.cons_cons _ .slnil))))
      refine wp_gen (fun F' => F' 0 = .agg (([.int .i64 r.t, .int .i64 r.c, .int .i64 r.s] : List Value) ++ (cBs r.h.1 ++ (cBs r.b.1 ++ ([vs] : List Value)))).toArray ∧ F' 1 = v ∧ F' 2 = .pointer (some ⟨g1, 0, none⟩) ∧ F' 4 = .bool false ∧ F' 5 = .pointer (some ⟨g2, 0, none⟩) ∧ F' 6 = y4 ∧ F' 19 = .bool false) ⟨e0, e1, e2, e4, e5, rfl, e19⟩ ?_
      clear e0 e1 e2 e4 e5 e19
      clear F
      rintro F ⟨e0, e1, e2, e4, e5, e6, e19⟩
      refine wp_regionF ?_
      refine lf_val (v := y4) (wantAll rfl) (rv_move rfl (fr_eval rfl e6)) ?_
      refine lf_call (wantAll rfl) (rv_call (args := [y4]) rfl (evc (fr_eval rfl rfl) evn) Try.call37) (rcGet_calls (put (((textR r).length : Nat) : Int) ++ (textR r) ++ put ((sig.length : Nat) : Int) ++ sig) (by have := textS_len r sig; show (textS r sig).length ≤ _; omega) _ _ (OwnB.rd (hH.own (i := 2) rfl))) ?_
      rintro _ w12 ⟨⟨gr_t31, gs_t31, y5, ge_t31, rfl, hG_gr_t31, ho, hg⟩, hx⟩
      refine ⟨_, rfl, ?_⟩
      replace hH : Heap (newN w) w w12 [oBlk g1 (([.int .i64 r.t, .int .i64 r.c, .int .i64 r.s] : List Value) ++ (cBs r.h.1 ++ (cBs r.b.1 ++ ([vs] : List Value)))) 61, oPen g2 y3 (put (((textR r).length : Nat) : Int) ++ (textR r) ++ put ((sig.length : Nat) : Int) ++ sig), oB y4 (put (((textR r).length : Nat) : Int) ++ (textR r) ++ put ((sig.length : Nat) : Int) ++ sig), oB y5 gs_t31] := hH.addOwn hx hg ho
      clear ho hg
      clear hx
      refine lf_val (v := .tuple #[.agg (([.int .i64 gr_t31.t, .int .i64 gr_t31.c, .int .i64 gr_t31.s] : List Value) ++ (cBs gr_t31.h.1 ++ (cBs gr_t31.b.1 ++ ([y5] : List Value)))).toArray, .int .i64 ge_t31]) (wantAll rfl) (rv_move rfl (fr_eval rfl rfl)) ?_
      refine lf_val (v := .agg (([.int .i64 gr_t31.t, .int .i64 gr_t31.c, .int .i64 gr_t31.s] : List Value) ++ (cBs gr_t31.h.1 ++ (cBs gr_t31.b.1 ++ ([y5] : List Value)))).toArray) (wantAll rfl) (rv_extract rfl (fr_eval rfl rfl) rfl) ?_
      refine lf_val (v := .int .i64 ge_t31) (wantAll rfl) (rv_extract rfl (fr_eval rfl rfl) rfl) ?_
      refine lf_ex (wantAll rfl) (hx_alloc hH 61 (z := .agg (([.int .i64 0, .int .i64 0, .int .i64 0] : List Value) ++ (cBs (List.replicate 32 0) ++ (cBs (List.replicate 32 0) ++ ([.slice none 0 0] : List Value)))).toArray) (n := 68) (cs := ([.int .i64 0, .int .i64 0, .int .i64 0] : List Value) ++ (cBs (List.replicate 32 0) ++ (cBs (List.replicate 32 0) ++ ([.slice none 0 0] : List Value)))) rfl (by kernel_rfl) (by rfl)) ?_
      clear hH
      rintro _ w13 ⟨g3, rfl, hH, hx⟩
      replace hH : Heap (newN w) w w13 [oBlk g1 (([.int .i64 r.t, .int .i64 r.c, .int .i64 r.s] : List Value) ++ (cBs r.h.1 ++ (cBs r.b.1 ++ ([vs] : List Value)))) 61, oPen g2 y3 (put (((textR r).length : Nat) : Int) ++ (textR r) ++ put ((sig.length : Nat) : Int) ++ sig), oB y4 (put (((textR r).length : Nat) : Int) ++ (textR r) ++ put ((sig.length : Nat) : Int) ++ sig), oB y5 gs_t31, oBlk g3 (([.int .i64 0, .int .i64 0, .int .i64 0] : List Value) ++ (cBs (List.replicate 32 0) ++ (cBs (List.replicate 32 0) ++ ([.slice none 0 0] : List Value)))) 61] := hH
      clear hx
      refine lf_sk (wantAll rfl) (hx_storeW hH (i := 4) (cs := ([.int .i64 gr_t31.t, .int .i64 gr_t31.c, .int .i64 gr_t31.s] : List Value) ++ (cBs gr_t31.h.1 ++ (cBs gr_t31.b.1 ++ ([y5] : List Value)))) rfl rfl rfl (fr_eval rfl rfl) (fr_eval rfl rfl) (sz_len Try.sz61 (len_app (m := 3) (n := 65) (k := 68) rfl (len_app (m := 32) (n := 33) (k := 65) (cBs_len gr_t31.h.2) (len_app (m := 32) (n := 1) (k := 33) (cBs_len gr_t31.b.2) rfl rfl) rfl) rfl)) (((len_app (m := 3) (n := 65) (k := 68) rfl (len_app (m := 32) (n := 33) (k := 65) (cBs_len (List.length_replicate ..)) (len_app (m := 32) (n := 1) (k := 33) (cBs_len (List.length_replicate ..)) rfl rfl) rfl) rfl)).trans ((len_app (m := 3) (n := 65) (k := 68) rfl (len_app (m := 32) (n := 33) (k := 65) (cBs_len gr_t31.h.2) (len_app (m := 32) (n := 1) (k := 33) (cBs_len gr_t31.b.2) rfl rfl) rfl) rfl)).symm) ((ones_app (ones_cons rfl (ones_cons rfl (ones_cons rfl ones_nil))) (ones_app (cBs_one _) (ones_app (cBs_one _) (ones_cons (Rd.oneV (OwnB.rd (hH.own (i := 3) rfl))) ones_nil)))))) ?_
      clear hH
      rintro w14 ⟨hH, hx⟩
      replace hH : Heap (newN w) w w14 [oBlk g1 (([.int .i64 r.t, .int .i64 r.c, .int .i64 r.s] : List Value) ++ (cBs r.h.1 ++ (cBs r.b.1 ++ ([vs] : List Value)))) 61, oPen g2 y3 (put (((textR r).length : Nat) : Int) ++ (textR r) ++ put ((sig.length : Nat) : Int) ++ sig), oB y4 (put (((textR r).length : Nat) : Int) ++ (textR r) ++ put ((sig.length : Nat) : Int) ++ sig), oB y5 gs_t31, oBlk g3 (([.int .i64 gr_t31.t, .int .i64 gr_t31.c, .int .i64 gr_t31.s] : List Value) ++ (cBs gr_t31.h.1 ++ (cBs gr_t31.b.1 ++ ([y5] : List Value)))) 61] := hH
      clear hx
      refine lf_val (v := .int .i64 ge_t31) (wantAll rfl) (rv_assign rfl (fr_eval rfl rfl)) ?_
      refine lf_nil ?_
      refine then_n ?_
      refine wp_seq ?_
      refine wp_seq ?_
      refine wp_gen (fun F' => F' 0 = .agg (([.int .i64 r.t, .int .i64 r.c, .int .i64 r.s] : List Value) ++ (cBs r.h.1 ++ (cBs r.b.1 ++ ([vs] : List Value)))).toArray ∧ F' 1 = v ∧ F' 2 = .pointer (some ⟨g1, 0, none⟩) ∧ F' 4 = .bool false ∧ F' 5 = .pointer (some ⟨g2, 0, none⟩) ∧ F' 6 = y4 ∧ F' 7 = .pointer (some ⟨g3, 0, none⟩) ∧ F' 8 = .int .i64 ge_t31 ∧ F' 19 = .bool false) ⟨e0, e1, e2, e4, e5, e6, rfl, rfl, e19⟩ ?_
      clear e0 e1 e2 e4 e5 e6 e19
      clear F
      rintro F ⟨e0, e1, e2, e4, e5, e6, e7, e8, e19⟩
      refine wp_regionX (fun _ => False) 5 (by kernel_rfl) (by kernel_rfl) ?_
      refine xl_take (i := 0) (v := .agg (([.int .i64 r.t, .int .i64 r.c, .int .i64 r.s] : List Value) ++ (cBs r.h.1 ++ (cBs r.b.1 ++ ([vs] : List Value)))).toArray) rfl (by kernel_rfl) (by kernel_rfl) (by kernel_rfl) (by kernel_rfl) (yx_val (wantAll rfl) (fun w' hx' => rv_loadW rfl ((hH.ext hx').blk (i := 0) rfl) (fr_eval rfl e2) Try.underlying61 rfl (sz_len Try.sz61 (len_app (m := 3) (n := 65) (k := 68) rfl (len_app (m := 32) (n := 33) (k := 65) (cBs_len r.h.2) (len_app (m := 32) (n := 1) (k := 33) (cBs_len r.b.2) rfl rfl) rfl) rfl)))) ?_
      refine xl_take (i := 3) (v := y4) rfl (by kernel_rfl) (by kernel_rfl) (by kernel_rfl) (by kernel_rfl) (yx_val (wantAll rfl) (fun w' hx' => rv_move rfl (fr_eval rfl e6))) ?_
      refine xl_take (i := 4) (v := .string ⟨(put (((textR r).length : Nat) : Int) ++ (textR r) ++ put ((sig.length : Nat) : Int) ++ sig).toArray⟩) rfl (by kernel_rfl) (by kernel_rfl) (by kernel_rfl) (by kernel_rfl) (yx_val (wantAll rfl) (fun w' hx' => rv_str rfl (fr_eval rfl rfl) (OwnB.rd ((hH.ext hx').own (i := 2) rfl)) Try.underlying22 Try.underlying5 Try.underlying9)) ?_
      refine anyX_ready (rs := [1]) (by kernel_rfl) ?_
      intro w15 hx
      replace hH := hH.ext hx
      clear hx
      refine (anyX_cons ?_ anyX_nil)
      refine xl_step (i := 1) rfl (wantAll rfl) ?_
      refine of_call (rv_call (args := [.agg (([.int .i64 r.t, .int .i64 r.c, .int .i64 r.s] : List Value) ++ (cBs r.h.1 ++ (cBs r.b.1 ++ ([vs] : List Value)))).toArray]) rfl (evc (fr_eval rfl rfl) evn) Try.call38) (put12_calls r hin_r sig (by omega) _ _ (hsg.rd _ hH.chg)) ?_
      rintro _ w16 ⟨⟨y6, rfl, ho, hg⟩, hx⟩
      refine ⟨_, rfl, ?_⟩
      replace hH : Heap (newN w) w w16 [oBlk g1 (([.int .i64 r.t, .int .i64 r.c, .int .i64 r.s] : List Value) ++ (cBs r.h.1 ++ (cBs r.b.1 ++ ([vs] : List Value)))) 61, oPen g2 y3 (put (((textR r).length : Nat) : Int) ++ (textR r) ++ put ((sig.length : Nat) : Int) ++ sig), oB y4 (put (((textR r).length : Nat) : Int) ++ (textR r) ++ put ((sig.length : Nat) : Int) ++ sig), oB y5 gs_t31, oBlk g3 (([.int .i64 gr_t31.t, .int .i64 gr_t31.c, .int .i64 gr_t31.s] : List Value) ++ (cBs gr_t31.h.1 ++ (cBs gr_t31.b.1 ++ ([y5] : List Value)))) 61, oB y6 (textS r sig)] := hH.addOwn hx hg ho
      clear ho hg
      refine ⟨hx, ?_⟩
      clear hx
      refine xl_take (i := 2) (v := .string ⟨(textS r sig).toArray⟩) rfl (by kernel_rfl) (by kernel_rfl) (by kernel_rfl) (by kernel_rfl) (yx_val (wantAll rfl) (fun w' hx' => rv_str rfl (fr_eval rfl rfl) (OwnB.rd ((hH.ext hx').own (i := 5) rfl)) Try.underlying22 Try.underlying5 Try.underlying9)) ?_
      refine xl_tail (s := 5) rfl ?_
      intro w17 hx
      replace hH := hH.ext hx
      clear hx
      refine lf_val (v := .bool false) (wantAll rfl) (rv_nes (b := true) rfl (fr_eval rfl rfl) (fr_eval rfl rfl) (by exact decide_eq_true rfl)) ?_
      refine lf_nil ?_
      refine then_n ?_
      replace hH : Heap (newN w) w w17 [oBlk g1 (([.int .i64 r.t, .int .i64 r.c, .int .i64 r.s] : List Value) ++ (cBs r.h.1 ++ (cBs r.b.1 ++ ([vs] : List Value)))) 61, oPen g2 y3 (put (((textR r).length : Nat) : Int) ++ (textR r) ++ put ((sig.length : Nat) : Int) ++ sig), oB y4 (put (((textR r).length : Nat) : Int) ++ (textR r) ++ put ((sig.length : Nat) : Int) ++ sig), oB y5 gs_t31, oBlk g3 (([.int .i64 gr_t31.t, .int .i64 gr_t31.c, .int .i64 gr_t31.s] : List Value) ++ (cBs gr_t31.h.1 ++ (cBs gr_t31.b.1 ++ ([y5] : List Value)))) 61] := hH.drop (.cons_cons _ (.cons_cons _ (.cons_cons _ (.cons_cons _ (.cons_cons _ (.cons _ .slnil))))))
      refine wp_gen (fun F' => F' 0 = .agg (([.int .i64 r.t, .int .i64 r.c, .int .i64 r.s] : List Value) ++ (cBs r.h.1 ++ (cBs r.b.1 ++ ([vs] : List Value)))).toArray ∧ F' 1 = v ∧ F' 2 = .pointer (some ⟨g1, 0, none⟩) ∧ F' 4 = .bool false ∧ F' 5 = .pointer (some ⟨g2, 0, none⟩) ∧ F' 6 = y4 ∧ F' 7 = .pointer (some ⟨g3, 0, none⟩) ∧ F' 8 = .int .i64 ge_t31 ∧ F' 19 = .bool false ∧ F' 39 = .bool false) ⟨e0, e1, e2, e4, e5, e6, e7, e8, e19, rfl⟩ ?_
      clear e0 e1 e2 e4 e5 e6 e7 e8 e19
      clear F
      rintro F ⟨e0, e1, e2, e4, e5, e6, e7, e8, e19, e39⟩
      refine wp_cond_false (fr_eval rfl e39) ?_
      refine wp_skip ?_
      refine then_n ?_
      refine wp_seq ?_
      refine wp_seq ?_
      refine wp_regionF ?_
      refine lf_val (v := .pointer (some ⟨g1, 0, none⟩)) (wantAll rfl) (rv_fieldAddr (n := 66) rfl (fr_eval rfl e2) Try.underlying61 rfl rfl (by kernel_rfl)) ?_
      refine lf_val (v := .agg (([.int .i64 r.t, .int .i64 r.c, .int .i64 r.s] : List Value) ++ (cBs r.h.1 ++ cBs r.b.1)).toArray) (wantAll rfl) (rv_loadP rfl (hH.blk (i := 0) rfl) (part_of (cs := ([.int .i64 r.t, .int .i64 r.c, .int .i64 r.s] : List Value) ++ (cBs r.h.1 ++ (cBs r.b.1 ++ ([vs] : List Value)))) (A := ([] : List Value)) (D := (([.int .i64 r.t, .int .i64 r.c, .int .i64 r.s] : List Value) ++ (cBs r.h.1 ++ cBs r.b.1) : List Value)) (C := ([vs] : List Value)) (by simp only [List.append_assoc, List.cons_append, List.nil_append, List.append_nil]) (show List.length ([] : List Value) = 0 from rfl) (len_app (m := 3) (n := 64) (k := 67) rfl (len_app (m := 32) (n := 32) (k := 64) (cBs_len r.h.2) (cBs_len r.b.2) rfl) rfl)) (len_app (m := 3) (n := 64) (k := 67) rfl (len_app (m := 32) (n := 32) (k := 64) (cBs_len r.h.2) (cBs_len r.b.2) rfl) rfl) (fr_eval rfl rfl) Try.underlying54 rfl Try.sz54) ?_
      refine lf_call (wantAll rfl) (rv_call (args := [.agg (([.int .i64 r.t, .int .i64 r.c, .int .i64 r.s] : List Value) ++ (cBs r.h.1 ++ cBs r.b.1)).toArray]) rfl (evc (fr_eval rfl rfl) evn) Try.call35) (rcRight12_calls r _) ?_
      rintro _ w18 ⟨rfl, hx⟩
      refine ⟨_, rfl, ?_⟩
      replace hH := hH.ext hx
      clear hx
      refine lf_val (v := .bool (decide (inR r))) (wantAll rfl) (rv_move rfl (fr_eval rfl rfl)) ?_
      cases hb1 : decide (inR r)
      · refine lf_not (wantNot (d := 43) rfl (by kernel_rfl) rfl rfl) ?_
        refine lf_not (wantNot (d := 43) rfl (by kernel_rfl) rfl rfl) ?_
        refine lf_not (wantNot (d := 43) rfl (by kernel_rfl) rfl rfl) ?_
        refine lf_not (wantU (d := 46) rfl (by kernel_rfl) rfl rfl) ?_
        refine lf_not (wantU (d := 46) rfl (by kernel_rfl) rfl rfl) ?_
        refine lf_not (wantU (d := 46) rfl (by kernel_rfl) rfl rfl) ?_
        refine lf_not (wantU (d := 46) rfl (by kernel_rfl) rfl rfl) ?_
        refine lf_not (wantU (d := 46) rfl (by kernel_rfl) rfl rfl) ?_
        refine lf_not (wantNot (d := 43) rfl (by kernel_rfl) rfl rfl) ?_
        refine lf_not (wantNot (d := 43) rfl (by kernel_rfl) rfl rfl) ?_
        refine lf_not (wantU (d := 53) rfl (by kernel_rfl) rfl rfl) ?_
        refine lf_not (wantU (d := 53) rfl (by kernel_rfl) rfl rfl) ?_
        refine lf_not (wantU (d := 53) rfl (by kernel_rfl) rfl rfl) ?_
        refine lf_not (wantU (d := 53) rfl (by kernel_rfl) rfl rfl) ?_
        refine lf_not (wantU (d := 53) rfl (by kernel_rfl) rfl rfl) ?_
        refine lf_not (wantU (d := 53) rfl (by kernel_rfl) rfl rfl) ?_
        refine lf_not (wantU (d := 53) rfl (by kernel_rfl) rfl rfl) ?_
        refine lf_not (wantNot (d := 43) rfl (by kernel_rfl) rfl rfl) ?_
        refine lf_val (v := .bool false) (wantAll rfl) (rv_pickF rfl (fr_eval rfl rfl) rfl) ?_
        refine lf_nil ?_
        refine then_n ?_
        refine wp_gen (fun F' => F' 0 = .agg (([.int .i64 r.t, .int .i64 r.c, .int .i64 r.s] : List Value) ++ (cBs r.h.1 ++ (cBs r.b.1 ++ ([vs] : List Value)))).toArray ∧ F' 1 = v ∧ F' 2 = .pointer (some ⟨g1, 0, none⟩) ∧ F' 4 = .bool false ∧ F' 5 = .pointer (some ⟨g2, 0, none⟩) ∧ F' 6 = y4 ∧ F' 7 = .pointer (some ⟨g3, 0, none⟩) ∧ F' 8 = .int .i64 ge_t31 ∧ F' 19 = .bool false ∧ F' 39 = .bool false ∧ F' 62 = .bool false) ⟨e0, e1, e2, e4, e5, e6, e7, e8, e19, e39, rfl⟩ ?_
        clear e0 e1 e2 e4 e5 e6 e7 e8 e19 e39
        clear F
        rintro F ⟨e0, e1, e2, e4, e5, e6, e7, e8, e19, e39, e62⟩
        refine wp_cond_false (fr_eval rfl e62) ?_
        refine wp_skip ?_
        refine then_n ?_
        refine wp_seq ?_
        refine wp_regionF ?_
        refine lf_val (v := v) (wantAll rfl) (rv_move rfl (fr_eval rfl e1)) ?_
        refine lf_call (wantAll rfl) (rv_call (args := [v]) rfl (evc (fr_eval rfl rfl) evn) Try.call37) (rcGet_calls b (by omega) _ _ (hr.rd _ hH.chg)) ?_
        rintro _ w19 ⟨⟨gr_t65, gs_t65, y7, ge_t65, rfl, hG_gr_t65, ho, hg⟩, hx⟩
        refine ⟨_, rfl, ?_⟩
        replace hH : Heap (newN w) w w19 [oBlk g1 (([.int .i64 r.t, .int .i64 r.c, .int .i64 r.s] : List Value) ++ (cBs r.h.1 ++ (cBs r.b.1 ++ ([vs] : List Value)))) 61, oPen g2 y3 (put (((textR r).length : Nat) : Int) ++ (textR r) ++ put ((sig.length : Nat) : Int) ++ sig), oB y4 (put (((textR r).length : Nat) : Int) ++ (textR r) ++ put ((sig.length : Nat) : Int) ++ sig), oB y5 gs_t31, oBlk g3 (([.int .i64 gr_t31.t, .int .i64 gr_t31.c, .int .i64 gr_t31.s] : List Value) ++ (cBs gr_t31.h.1 ++ (cBs gr_t31.b.1 ++ ([y5] : List Value)))) 61, oB y7 gs_t65] := hH.addOwn hx hg ho
        clear ho hg
        clear hx
        refine lf_val (v := .tuple #[.agg (([.int .i64 gr_t65.t, .int .i64 gr_t65.c, .int .i64 gr_t65.s] : List Value) ++ (cBs gr_t65.h.1 ++ (cBs gr_t65.b.1 ++ ([y7] : List Value)))).toArray, .int .i64 ge_t65]) (wantAll rfl) (rv_move rfl (fr_eval rfl rfl)) ?_
        refine lf_val (v := .agg (([.int .i64 gr_t65.t, .int .i64 gr_t65.c, .int .i64 gr_t65.s] : List Value) ++ (cBs gr_t65.h.1 ++ (cBs gr_t65.b.1 ++ ([y7] : List Value)))).toArray) (wantAll rfl) (rv_extract rfl (fr_eval rfl rfl) rfl) ?_
        refine lf_val (v := .int .i64 ge_t65) (wantAll rfl) (rv_extract rfl (fr_eval rfl rfl) rfl) ?_
        refine lf_ex (wantAll rfl) (hx_alloc hH 61 (z := .agg (([.int .i64 0, .int .i64 0, .int .i64 0] : List Value) ++ (cBs (List.replicate 32 0) ++ (cBs (List.replicate 32 0) ++ ([.slice none 0 0] : List Value)))).toArray) (n := 68) (cs := ([.int .i64 0, .int .i64 0, .int .i64 0] : List Value) ++ (cBs (List.replicate 32 0) ++ (cBs (List.replicate 32 0) ++ ([.slice none 0 0] : List Value)))) rfl (by kernel_rfl) (by rfl)) ?_
        clear hH
        rintro _ w20 ⟨g4, rfl, hH, hx⟩
        replace hH : Heap (newN w) w w20 [oBlk g1 (([.int .i64 r.t, .int .i64 r.c, .int .i64 r.s] : List Value) ++ (cBs r.h.1 ++ (cBs r.b.1 ++ ([vs] : List Value)))) 61, oPen g2 y3 (put (((textR r).length : Nat) : Int) ++ (textR r) ++ put ((sig.length : Nat) : Int) ++ sig), oB y4 (put (((textR r).length : Nat) : Int) ++ (textR r) ++ put ((sig.length : Nat) : Int) ++ sig), oB y5 gs_t31, oBlk g3 (([.int .i64 gr_t31.t, .int .i64 gr_t31.c, .int .i64 gr_t31.s] : List Value) ++ (cBs gr_t31.h.1 ++ (cBs gr_t31.b.1 ++ ([y5] : List Value)))) 61, oB y7 gs_t65, oBlk g4 (([.int .i64 0, .int .i64 0, .int .i64 0] : List Value) ++ (cBs (List.replicate 32 0) ++ (cBs (List.replicate 32 0) ++ ([.slice none 0 0] : List Value)))) 61] := hH
        clear hx
        refine lf_sk (wantAll rfl) (hx_storeW hH (i := 6) (cs := ([.int .i64 gr_t65.t, .int .i64 gr_t65.c, .int .i64 gr_t65.s] : List Value) ++ (cBs gr_t65.h.1 ++ (cBs gr_t65.b.1 ++ ([y7] : List Value)))) rfl rfl rfl (fr_eval rfl rfl) (fr_eval rfl rfl) (sz_len Try.sz61 (len_app (m := 3) (n := 65) (k := 68) rfl (len_app (m := 32) (n := 33) (k := 65) (cBs_len gr_t65.h.2) (len_app (m := 32) (n := 1) (k := 33) (cBs_len gr_t65.b.2) rfl rfl) rfl) rfl)) (((len_app (m := 3) (n := 65) (k := 68) rfl (len_app (m := 32) (n := 33) (k := 65) (cBs_len (List.length_replicate ..)) (len_app (m := 32) (n := 1) (k := 33) (cBs_len (List.length_replicate ..)) rfl rfl) rfl) rfl)).trans ((len_app (m := 3) (n := 65) (k := 68) rfl (len_app (m := 32) (n := 33) (k := 65) (cBs_len gr_t65.h.2) (len_app (m := 32) (n := 1) (k := 33) (cBs_len gr_t65.b.2) rfl rfl) rfl) rfl)).symm) ((ones_app (ones_cons rfl (ones_cons rfl (ones_cons rfl ones_nil))) (ones_app (cBs_one _) (ones_app (cBs_one _) (ones_cons (Rd.oneV (OwnB.rd (hH.own (i := 5) rfl))) ones_nil)))))) ?_
        clear hH
        rintro w21 ⟨hH, hx⟩
        replace hH : Heap (newN w) w w21 [oBlk g1 (([.int .i64 r.t, .int .i64 r.c, .int .i64 r.s] : List Value) ++ (cBs r.h.1 ++ (cBs r.b.1 ++ ([vs] : List Value)))) 61, oPen g2 y3 (put (((textR r).length : Nat) : Int) ++ (textR r) ++ put ((sig.length : Nat) : Int) ++ sig), oB y4 (put (((textR r).length : Nat) : Int) ++ (textR r) ++ put ((sig.length : Nat) : Int) ++ sig), oB y5 gs_t31, oBlk g3 (([.int .i64 gr_t31.t, .int .i64 gr_t31.c, .int .i64 gr_t31.s] : List Value) ++ (cBs gr_t31.h.1 ++ (cBs gr_t31.b.1 ++ ([y5] : List Value)))) 61, oB y7 gs_t65, oBlk g4 (([.int .i64 gr_t65.t, .int .i64 gr_t65.c, .int .i64 gr_t65.s] : List Value) ++ (cBs gr_t65.h.1 ++ (cBs gr_t65.b.1 ++ ([y7] : List Value)))) 61] := hH
        clear hx
        refine lf_val (v := .int .i64 ge_t65) (wantAll rfl) (rv_assign rfl (fr_eval rfl rfl)) ?_
        refine lf_nil ?_
        refine then_n ?_
        refine wp_seq ?_
        refine wp_seq ?_
        refine wp_gen (fun F' => F' 0 = .agg (([.int .i64 r.t, .int .i64 r.c, .int .i64 r.s] : List Value) ++ (cBs r.h.1 ++ (cBs r.b.1 ++ ([vs] : List Value)))).toArray ∧ F' 1 = v ∧ F' 2 = .pointer (some ⟨g1, 0, none⟩) ∧ F' 4 = .bool false ∧ F' 5 = .pointer (some ⟨g2, 0, none⟩) ∧ F' 6 = y4 ∧ F' 7 = .pointer (some ⟨g3, 0, none⟩) ∧ F' 8 = .int .i64 ge_t31 ∧ F' 9 = .pointer (some ⟨g4, 0, none⟩) ∧ F' 10 = .int .i64 ge_t65 ∧ F' 19 = .bool false ∧ F' 39 = .bool false ∧ F' 62 = .bool false) ⟨e0, e1, e2, e4, e5, e6, e7, e8, rfl, rfl, e19, e39, e62⟩ ?_
        clear e0 e1 e2 e4 e5 e6 e7 e8 e19 e39 e62
        clear F
        rintro F ⟨e0, e1, e2, e4, e5, e6, e7, e8, e9, e10, e19, e39, e62⟩
        refine wp_regionF ?_
        refine lf_val (v := .int .i64 ge_t65) (wantAll rfl) (rv_move rfl (fr_eval rfl e10)) ?_
        by_cases hc3 : ge_t65 = 0
        · refine lf_val (v := .bool false) (wantAll rfl) (rv_neq rfl (fr_eval rfl rfl) rfl (decide_eq_true (by omega))) ?_
          refine lf_nil ?_
          refine then_n ?_
          refine wp_gen (fun F' => F' 0 = .agg (([.int .i64 r.t, .int .i64 r.c, .int .i64 r.s] : List Value) ++ (cBs r.h.1 ++ (cBs r.b.1 ++ ([vs] : List Value)))).toArray ∧ F' 1 = v ∧ F' 2 = .pointer (some ⟨g1, 0, none⟩) ∧ F' 4 = .bool false ∧ F' 5 = .pointer (some ⟨g2, 0, none⟩) ∧ F' 6 = y4 ∧ F' 7 = .pointer (some ⟨g3, 0, none⟩) ∧ F' 8 = .int .i64 ge_t31 ∧ F' 9 = .pointer (some ⟨g4, 0, none⟩) ∧ F' 10 = .int .i64 ge_t65 ∧ F' 19 = .bool false ∧ F' 39 = .bool false ∧ F' 62 = .bool false ∧ F' 69 = .bool false) ⟨e0, e1, e2, e4, e5, e6, e7, e8, e9, e10, e19, e39, e62, rfl⟩ ?_
          clear e0 e1 e2 e4 e5 e6 e7 e8 e9 e10 e19 e39 e62
          clear F
          rintro F ⟨e0, e1, e2, e4, e5, e6, e7, e8, e9, e10, e19, e39, e62, e69⟩
          refine wp_cond_false (fr_eval rfl e69) ?_
          refine wp_skip ?_
          refine then_n ?_
          refine wp_seq ?_
          refine wp_regionX (fun _ => False) 9 (by kernel_rfl) (by kernel_rfl) ?_
          refine xl_take (i := 0) (v := .pointer (some ⟨g4, 0, none⟩)) rfl (by kernel_rfl) (by kernel_rfl) (by kernel_rfl) (by kernel_rfl) (yx_val (wantAll rfl) (fun w' hx' => rv_fieldAddr (n := 66) rfl (fr_eval rfl e9) Try.underlying61 rfl rfl (by kernel_rfl))) ?_
          refine xl_take (i := 1) (v := .agg (([.int .i64 gr_t65.t, .int .i64 gr_t65.c, .int .i64 gr_t65.s] : List Value) ++ (cBs gr_t65.h.1 ++ cBs gr_t65.b.1)).toArray) rfl (by kernel_rfl) (by kernel_rfl) (by kernel_rfl) (by kernel_rfl) (yx_val (wantAll rfl) (fun w' hx' => rv_loadP rfl ((hH.ext hx').blk (i := 6) rfl) (part_of (cs := ([.int .i64 gr_t65.t, .int .i64 gr_t65.c, .int .i64 gr_t65.s] : List Value) ++ (cBs gr_t65.h.1 ++ (cBs gr_t65.b.1 ++ ([y7] : List Value)))) (A := ([] : List Value)) (D := (([.int .i64 gr_t65.t, .int .i64 gr_t65.c, .int .i64 gr_t65.s] : List Value) ++ (cBs gr_t65.h.1 ++ cBs gr_t65.b.1) : List Value)) (C := ([y7] : List Value)) (by simp only [List.append_assoc, List.cons_append, List.nil_append, List.append_nil]) (show List.length ([] : List Value) = 0 from rfl) (len_app (m := 3) (n := 64) (k := 67) rfl (len_app (m := 32) (n := 32) (k := 64) (cBs_len gr_t65.h.2) (cBs_len gr_t65.b.2) rfl) rfl)) (len_app (m := 3) (n := 64) (k := 67) rfl (len_app (m := 32) (n := 32) (k := 64) (cBs_len gr_t65.h.2) (cBs_len gr_t65.b.2) rfl) rfl) (fr_eval rfl rfl) Try.underlying54 rfl Try.sz54)) ?_
          refine xl_take (i := 2) (v := .bool true) rfl (by kernel_rfl) (by kernel_rfl) (by kernel_rfl) (by kernel_rfl) (yx_call (wantAll rfl) (fun w' => rv_call (args := [.agg (([.int .i64 gr_t65.t, .int .i64 gr_t65.c, .int .i64 gr_t65.s] : List Value) ++ (cBs gr_t65.h.1 ++ cBs gr_t65.b.1)).toArray]) rfl (evc (fr_eval rfl rfl) evn) Try.call35) (fun w' hx' => calls_known (rcRight12_calls gr_t65 _) (decide_eq_true (hG_gr_t65.good (by assumption)).1))) ?_
          refine xl_take (i := 3) (v := .bool true) rfl (by kernel_rfl) (by kernel_rfl) (by kernel_rfl) (by kernel_rfl) (yx_val (wantAll rfl) (fun w' hx' => rv_move rfl (fr_eval rfl rfl))) ?_
          refine xl_take (i := 4) (v := .agg (([.int .i64 gr_t65.t, .int .i64 gr_t65.c, .int .i64 gr_t65.s] : List Value) ++ (cBs gr_t65.h.1 ++ (cBs gr_t65.b.1 ++ ([y7] : List Value)))).toArray) rfl (by kernel_rfl) (by kernel_rfl) (by kernel_rfl) (by kernel_rfl) (yx_val (wantF (d := 86) rfl (by kernel_rfl) rfl rfl) (fun w' hx' => rv_loadW rfl ((hH.ext hx').blk (i := 6) rfl) (fr_eval rfl e9) Try.underlying61 rfl (sz_len Try.sz61 (len_app (m := 3) (n := 65) (k := 68) rfl (len_app (m := 32) (n := 33) (k := 65) (cBs_len gr_t65.h.2) (len_app (m := 32) (n := 1) (k := 33) (cBs_len gr_t65.b.2) rfl rfl) rfl) rfl)))) ?_
          refine xl_take (i := 7) (v := v) rfl (by kernel_rfl) (by kernel_rfl) (by kernel_rfl) (by kernel_rfl) (yx_val (wantF (d := 86) rfl (by kernel_rfl) rfl rfl) (fun w' hx' => rv_move rfl (fr_eval rfl e1))) ?_
          refine xl_take (i := 8) (v := .string ⟨(b).toArray⟩) rfl (by kernel_rfl) (by kernel_rfl) (by kernel_rfl) (by kernel_rfl) (yx_val (wantF (d := 86) rfl (by kernel_rfl) rfl rfl) (fun w' hx' => rv_str rfl (fr_eval rfl rfl) (hr.rd _ (hH.chg.trans (Ext.any hx'))) Try.underlying22 Try.underlying5 Try.underlying9)) ?_
          refine anyX_ready (rs := [5]) (by kernel_rfl) ?_
          intro w22 hx
          replace hH := hH.ext hx
          clear hx
          refine (anyX_cons ?_ anyX_nil)
          refine xl_step (i := 5) rfl (wantF (d := 86) rfl (by kernel_rfl) rfl rfl) ?_
          refine of_call (rv_call (args := [.agg (([.int .i64 gr_t65.t, .int .i64 gr_t65.c, .int .i64 gr_t65.s] : List Value) ++ (cBs gr_t65.h.1 ++ (cBs gr_t65.b.1 ++ ([y7] : List Value)))).toArray]) rfl (evc (fr_eval rfl rfl) evn) Try.call38) (put12_calls gr_t65 (inR_in (hG_gr_t65.good (by assumption)).1) gs_t65 (Nat.le_trans (hG_gr_t65.good (by assumption)).2.2 (by decide)) _ _ (OwnB.rd (hH.own (i := 5) rfl))) ?_
          rintro _ w23 ⟨⟨y8, rfl, ho, hg⟩, hx⟩
          refine ⟨_, rfl, ?_⟩
          replace hH : Heap (newN w) w w23 [oBlk g1 (([.int .i64 r.t, .int .i64 r.c, .int .i64 r.s] : List Value) ++ (cBs r.h.1 ++ (cBs r.b.1 ++ ([vs] : List Value)))) 61, oPen g2 y3 (put (((textR r).length : Nat) : Int) ++ (textR r) ++ put ((sig.length : Nat) : Int) ++ sig), oB y4 (put (((textR r).length : Nat) : Int) ++ (textR r) ++ put ((sig.length : Nat) : Int) ++ sig), oB y5 gs_t31, oBlk g3 (([.int .i64 gr_t31.t, .int .i64 gr_t31.c, .int .i64 gr_t31.s] : List Value) ++ (cBs gr_t31.h.1 ++ (cBs gr_t31.b.1 ++ ([y5] : List Value)))) 61, oB y7 gs_t65, oBlk g4 (([.int .i64 gr_t65.t, .int .i64 gr_t65.c, .int .i64 gr_t65.s] : List Value) ++ (cBs gr_t65.h.1 ++ (cBs gr_t65.b.1 ++ ([y7] : List Value)))) 61, oB y8 (textS gr_t65 gs_t65)] := hH.addOwn hx hg ho
          clear ho hg
          refine ⟨hx, ?_⟩
          clear hx
          refine xl_take (i := 6) (v := .string ⟨(textS gr_t65 gs_t65).toArray⟩) rfl (by kernel_rfl) (by kernel_rfl) (by kernel_rfl) (by kernel_rfl) (yx_val (wantF (d := 86) rfl (by kernel_rfl) rfl rfl) (fun w' hx' => rv_str rfl (fr_eval rfl rfl) (OwnB.rd ((hH.ext hx').own (i := 7) rfl)) Try.underlying22 Try.underlying5 Try.underlying9)) ?_
          refine xl_tail (s := 9) rfl ?_
          intro w24 hx
          replace hH := hH.ext hx
          clear hx
          refine lf_val (v := .bool true) (wantF (d := 86) rfl (by kernel_rfl) rfl rfl) (rv_eqs (b := true) rfl (fr_eval rfl rfl) (fr_eval rfl rfl) (by exact decide_eq_true (hG_gr_t65.good (by assumption)).2.1.symm)) ?_
          refine lf_val (v := .bool true) (wantAll rfl) (rv_pickT rfl (fr_eval rfl rfl) (fr_eval rfl rfl)) ?_
          refine lf_val (v := .bool true) (wantAll rfl) (rv_move rfl (fr_eval rfl rfl)) ?_
          refine lf_call (wantF (d := 94) rfl (by kernel_rfl) rfl rfl) (rv_call (args := []) rfl evn Try.call36) (awake12_calls _) ?_
          rintro _ w25 ⟨rfl, hx⟩
          refine ⟨_, rfl, ?_⟩
          replace hH := hH.ext hx
          clear hx
          refine lf_val (v := .bool true) (wantAll rfl) (rv_pickT rfl (fr_eval rfl rfl) (fr_eval rfl rfl)) ?_
          refine lf_val (v := .bool true) (wantAll rfl) (rv_assign rfl (fr_eval rfl rfl)) ?_
          refine lf_nil ?_
          refine then_n ?_
          replace hH : Heap (newN w) w w25 [oBlk g1 (([.int .i64 r.t, .int .i64 r.c, .int .i64 r.s] : List Value) ++ (cBs r.h.1 ++ (cBs r.b.1 ++ ([vs] : List Value)))) 61, oPen g2 y3 (put (((textR r).length : Nat) : Int) ++ (textR r) ++ put ((sig.length : Nat) : Int) ++ sig), oB y4 (put (((textR r).length : Nat) : Int) ++ (textR r) ++ put ((sig.length : Nat) : Int) ++ sig), oB y5 gs_t31, oBlk g3 (([.int .i64 gr_t31.t, .int .i64 gr_t31.c, .int .i64 gr_t31.s] : List Value) ++ (cBs gr_t31.h.1 ++ (cBs gr_t31.b.1 ++ ([y5] : List Value)))) 61, oB y7 gs_t65, oBlk g4 (([.int .i64 gr_t65.t, .int .i64 gr_t65.c, .int .i64 gr_t65.s] : List Value) ++ (cBs gr_t65.h.1 ++ (cBs gr_t65.b.1 ++ ([y7] : List Value)))) 61] := hH.drop (.cons_cons _ (.cons_cons _ (.cons_cons _ (.cons_cons _ (.cons_cons _ (.cons_cons _ (.cons_cons _ (.cons _ .slnil))))))))
          refine wp_gen (fun F' => F' 0 = .agg (([.int .i64 r.t, .int .i64 r.c, .int .i64 r.s] : List Value) ++ (cBs r.h.1 ++ (cBs r.b.1 ++ ([vs] : List Value)))).toArray ∧ F' 1 = v ∧ F' 2 = .pointer (some ⟨g1, 0, none⟩) ∧ F' 4 = .bool true ∧ F' 5 = .pointer (some ⟨g2, 0, none⟩) ∧ F' 6 = y4 ∧ F' 7 = .pointer (some ⟨g3, 0, none⟩) ∧ F' 8 = .int .i64 ge_t31 ∧ F' 9 = .pointer (some ⟨g4, 0, none⟩) ∧ F' 10 = .int .i64 ge_t65 ∧ F' 19 = .bool false ∧ F' 39 = .bool false ∧ F' 62 = .bool false ∧ F' 69 = .bool false) ⟨e0, e1, e2, rfl, e5, e6, e7, e8, e9, e10, e19, e39, e62, e69⟩ ?_
          clear e0 e1 e2 e4 e5 e6 e7 e8 e9 e10 e19 e39 e62 e69
          clear F
          rintro F ⟨e0, e1, e2, e4, e5, e6, e7, e8, e9, e10, e19, e39, e62, e69⟩
          refine wp_ret ?_
          exact bodyPost_ret (v := (.bool true)) (res1 rfl (ro_tmp rfl e4)) rfl (⟨rfl, hH.done⟩)
        · refine lf_val (v := .bool true) (wantAll rfl) (rv_neq rfl (fr_eval rfl rfl) rfl (decide_eq_false (by omega))) ?_
          refine lf_nil ?_
          refine then_n ?_
          refine wp_gen (fun F' => F' 0 = .agg (([.int .i64 r.t, .int .i64 r.c, .int .i64 r.s] : List Value) ++ (cBs r.h.1 ++ (cBs r.b.1 ++ ([vs] : List Value)))).toArray ∧ F' 1 = v ∧ F' 2 = .pointer (some ⟨g1, 0, none⟩) ∧ F' 4 = .bool false ∧ F' 5 = .pointer (some ⟨g2, 0, none⟩) ∧ F' 6 = y4 ∧ F' 7 = .pointer (some ⟨g3, 0, none⟩) ∧ F' 8 = .int .i64 ge_t31 ∧ F' 9 = .pointer (some ⟨g4, 0, none⟩) ∧ F' 10 = .int .i64 ge_t65 ∧ F' 19 = .bool false ∧ F' 39 = .bool false ∧ F' 62 = .bool false ∧ F' 69 = .bool true) ⟨e0, e1, e2, e4, e5, e6, e7, e8, e9, e10, e19, e39, e62, rfl⟩ ?_
          clear e0 e1 e2 e4 e5 e6 e7 e8 e9 e10 e19 e39 e62
          clear F
          rintro F ⟨e0, e1, e2, e4, e5, e6, e7, e8, e9, e10, e19, e39, e62, e69⟩
          refine wp_cond_true (fr_eval rfl e69) ?_
          refine wp_seq ?_
          obtain ⟨hz, hs2⟩ := hG_gr_t65.bad (by assumption)
          have hs3 : gs_t65.length = 0 := by rw [hs2]; rfl
          refine wp_regionF ?_
          refine lf_val (v := .pointer (some ⟨g4, 0, none⟩)) (wantAll rfl) (rv_fieldAddr (n := 66) rfl (fr_eval rfl e9) Try.underlying61 rfl rfl (by kernel_rfl)) ?_
          refine lf_val (v := .agg (([.int .i64 gr_t65.t, .int .i64 gr_t65.c, .int .i64 gr_t65.s] : List Value) ++ (cBs gr_t65.h.1 ++ cBs gr_t65.b.1)).toArray) (wantAll rfl) (rv_loadP rfl (hH.blk (i := 6) rfl) (part_of (cs := ([.int .i64 gr_t65.t, .int .i64 gr_t65.c, .int .i64 gr_t65.s] : List Value) ++ (cBs gr_t65.h.1 ++ (cBs gr_t65.b.1 ++ ([y7] : List Value)))) (A := ([] : List Value)) (D := (([.int .i64 gr_t65.t, .int .i64 gr_t65.c, .int .i64 gr_t65.s] : List Value) ++ (cBs gr_t65.h.1 ++ cBs gr_t65.b.1) : List Value)) (C := ([y7] : List Value)) (by simp only [List.append_assoc, List.cons_append, List.nil_append, List.append_nil]) (show List.length ([] : List Value) = 0 from rfl) (len_app (m := 3) (n := 64) (k := 67) rfl (len_app (m := 32) (n := 32) (k := 64) (cBs_len gr_t65.h.2) (cBs_len gr_t65.b.2) rfl) rfl)) (len_app (m := 3) (n := 64) (k := 67) rfl (len_app (m := 32) (n := 32) (k := 64) (cBs_len gr_t65.h.2) (cBs_len gr_t65.b.2) rfl) rfl) (fr_eval rfl rfl) Try.underlying54 rfl Try.sz54) ?_
          refine lf_val (v := .agg (([.int .i64 0, .int .i64 0, .int .i64 0] : List Value) ++ (cBs (List.replicate 32 0) ++ cBs (List.replicate 32 0))).toArray) (wantAll rfl) (rv_buildS (ps := []) (places := #[(0, 1), (1, 1), (2, 1), (3, 32), (35, 32)]) (z := .agg (([.int .i64 0, .int .i64 0, .int .i64 0] : List Value) ++ (cBs (List.replicate 32 0) ++ cBs (List.replicate 32 0))).toArray) (zc := ([.int .i64 0, .int .i64 0, .int .i64 0] : List Value) ++ (cBs (List.replicate 32 0) ++ cBs (List.replicate 32 0))) (cs := ([.int .i64 0, .int .i64 0, .int .i64 0] : List Value) ++ (cBs (List.replicate 32 0) ++ cBs (List.replicate 32 0))) rfl evpn (by kernel_rfl) rfl Try.underlying54 (fun _ => by kernel_rfl) fill0) ?_
          refine lf_val (v := .bool true) (wantAll rfl) (rv_eqR (r := gr_t65) (q := (⟨0, 0, 0, ⟨List.replicate 32 0, (List.length_replicate ..)⟩, ⟨List.replicate 32 0, (List.length_replicate ..)⟩⟩ : Rc)) (b := true) rfl (fr_eval rfl rfl) (fr_eval rfl rfl) (by rw [hz]; exact rcBeq_self _)) ?_
          refine lf_val (v := .bool true) (wantAll rfl) (rv_move rfl (fr_eval rfl rfl)) ?_
          refine lf_val (v := .pointer (some ⟨g4, 67, none⟩)) (wantF (d := 74) rfl (by kernel_rfl) rfl rfl) (rv_fieldAddr (n := 0) rfl (fr_eval rfl e9) Try.underlying61 rfl rfl (by kernel_rfl)) ?_
          refine lf_val (v := y7) (wantF (d := 74) rfl (by kernel_rfl) rfl rfl) (rv_load1 rfl (hH.blk (i := 6) rfl) (get_of (cs := ([.int .i64 gr_t65.t, .int .i64 gr_t65.c, .int .i64 gr_t65.s] : List Value) ++ (cBs gr_t65.h.1 ++ (cBs gr_t65.b.1 ++ ([y7] : List Value)))) (A := (([.int .i64 gr_t65.t, .int .i64 gr_t65.c, .int .i64 gr_t65.s] : List Value) ++ (cBs gr_t65.h.1 ++ cBs gr_t65.b.1) : List Value)) (D := ([y7] : List Value)) (C := ([] : List Value)) (o := 67) (j := 0) (by simp only [List.append_assoc, List.cons_append, List.nil_append, List.append_nil]) (len_app (m := 3) (n := 64) (k := 67) rfl (len_app (m := 32) (n := 32) (k := 64) (cBs_len gr_t65.h.2) (cBs_len gr_t65.b.2) rfl) rfl) rfl (show ([y7] : List Value)[0]? = some (y7) from rfl)) (fr_eval rfl rfl) Try.underlying22 rfl Try.sz22) ?_
          refine lf_val (v := .int .i64 ((gs_t65.length : Nat) : Int)) (wantF (d := 74) rfl (by kernel_rfl) rfl rfl) (rv_len rfl (fr_eval rfl rfl) (RdB.rn (OwnB.rd (hH.own (i := 5) rfl)) rfl) Try.underlying22) ?_
          refine lf_val (v := .bool true) (wantF (d := 74) rfl (by kernel_rfl) rfl rfl) (rv_eql rfl (fr_eval rfl rfl) rfl (decide_eq_true (by omega))) ?_
          refine lf_val (v := .bool true) (wantAll rfl) (rv_pickT rfl (fr_eval rfl rfl) (fr_eval rfl rfl)) ?_
          refine lf_val (v := .bool true) (wantAll rfl) (rv_move rfl (fr_eval rfl rfl)) ?_
          refine lf_call (wantF (d := 80) rfl (by kernel_rfl) rfl rfl) (rv_call (args := []) rfl evn Try.call36) (awake12_calls _) ?_
          rintro _ w26 ⟨rfl, hx⟩
          refine ⟨_, rfl, ?_⟩
          replace hH := hH.ext hx
          clear hx
          refine lf_val (v := .bool true) (wantAll rfl) (rv_pickT rfl (fr_eval rfl rfl) (fr_eval rfl rfl)) ?_
          refine lf_val (v := .bool true) (wantAll rfl) (rv_assign rfl (fr_eval rfl rfl)) ?_
          refine lf_nil ?_
          refine then_n ?_
          refine wp_gen (fun F' => F' 0 = .agg (([.int .i64 r.t, .int .i64 r.c, .int .i64 r.s] : List Value) ++ (cBs r.h.1 ++ (cBs r.b.1 ++ ([vs] : List Value)))).toArray ∧ F' 1 = v ∧ F' 2 = .pointer (some ⟨g1, 0, none⟩) ∧ F' 4 = .bool true ∧ F' 5 = .pointer (some ⟨g2, 0, none⟩) ∧ F' 6 = y4 ∧ F' 7 = .pointer (some ⟨g3, 0, none⟩) ∧ F' 8 = .int .i64 ge_t31 ∧ F' 9 = .pointer (some ⟨g4, 0, none⟩) ∧ F' 10 = .int .i64 ge_t65 ∧ F' 19 = .bool false ∧ F' 39 = .bool false ∧ F' 62 = .bool false ∧ F' 69 = .bool true) ⟨e0, e1, e2, rfl, e5, e6, e7, e8, e9, e10, e19, e39, e62, e69⟩ ?_
          clear e0 e1 e2 e4 e5 e6 e7 e8 e9 e10 e19 e39 e62 e69
          clear F
          rintro F ⟨e0, e1, e2, e4, e5, e6, e7, e8, e9, e10, e19, e39, e62, e69⟩
          refine wp_ret ?_
          refine then_ret ?_
          exact bodyPost_ret (v := (.bool true)) (res1 rfl (ro_tmp rfl e4)) rfl (⟨rfl, hH.done⟩)
      · refine lf_val (v := .int .i64 ge_t31) (wantF (d := 43) rfl (by kernel_rfl) rfl rfl) (rv_move rfl (fr_eval rfl e8)) ?_
        obtain ⟨he1, hr1, hs1⟩ := hG_gr_t31.one r sig (of_decide_eq_true (by assumption)) (by omega) rfl
        refine lf_val (v := .bool false) (wantF (d := 43) rfl (by kernel_rfl) rfl rfl) (rv_neq rfl (fr_eval rfl rfl) rfl (decide_eq_true (by omega))) ?_
        refine lf_val (v := .bool false) (wantF (d := 43) rfl (by kernel_rfl) rfl rfl) (rv_move rfl (fr_eval rfl rfl)) ?_
        refine lf_val (v := .pointer (some ⟨g3, 0, none⟩)) (wantF (d := 46) rfl (by kernel_rfl) rfl rfl) (rv_fieldAddr (n := 66) rfl (fr_eval rfl e7) Try.underlying61 rfl rfl (by kernel_rfl)) ?_
        refine lf_val (v := .agg (([.int .i64 gr_t31.t, .int .i64 gr_t31.c, .int .i64 gr_t31.s] : List Value) ++ (cBs gr_t31.h.1 ++ cBs gr_t31.b.1)).toArray) (wantF (d := 46) rfl (by kernel_rfl) rfl rfl) (rv_loadP rfl (hH.blk (i := 4) rfl) (part_of (cs := ([.int .i64 gr_t31.t, .int .i64 gr_t31.c, .int .i64 gr_t31.s] : List Value) ++ (cBs gr_t31.h.1 ++ (cBs gr_t31.b.1 ++ ([y5] : List Value)))) (A := ([] : List Value)) (D := (([.int .i64 gr_t31.t, .int .i64 gr_t31.c, .int .i64 gr_t31.s] : List Value) ++ (cBs gr_t31.h.1 ++ cBs gr_t31.b.1) : List Value)) (C := ([y5] : List Value)) (by simp only [List.append_assoc, List.cons_append, List.nil_append, List.append_nil]) (show List.length ([] : List Value) = 0 from rfl) (len_app (m := 3) (n := 64) (k := 67) rfl (len_app (m := 32) (n := 32) (k := 64) (cBs_len gr_t31.h.2) (cBs_len gr_t31.b.2) rfl) rfl)) (len_app (m := 3) (n := 64) (k := 67) rfl (len_app (m := 32) (n := 32) (k := 64) (cBs_len gr_t31.h.2) (cBs_len gr_t31.b.2) rfl) rfl) (fr_eval rfl rfl) Try.underlying54 rfl Try.sz54) ?_
        refine lf_val (v := .pointer (some ⟨g1, 0, none⟩)) (wantF (d := 46) rfl (by kernel_rfl) rfl rfl) (rv_fieldAddr (n := 66) rfl (fr_eval rfl e2) Try.underlying61 rfl rfl (by kernel_rfl)) ?_
        refine lf_val (v := .agg (([.int .i64 r.t, .int .i64 r.c, .int .i64 r.s] : List Value) ++ (cBs r.h.1 ++ cBs r.b.1)).toArray) (wantF (d := 46) rfl (by kernel_rfl) rfl rfl) (rv_loadP rfl (hH.blk (i := 0) rfl) (part_of (cs := ([.int .i64 r.t, .int .i64 r.c, .int .i64 r.s] : List Value) ++ (cBs r.h.1 ++ (cBs r.b.1 ++ ([vs] : List Value)))) (A := ([] : List Value)) (D := (([.int .i64 r.t, .int .i64 r.c, .int .i64 r.s] : List Value) ++ (cBs r.h.1 ++ cBs r.b.1) : List Value)) (C := ([vs] : List Value)) (by simp only [List.append_assoc, List.cons_append, List.nil_append, List.append_nil]) (show List.length ([] : List Value) = 0 from rfl) (len_app (m := 3) (n := 64) (k := 67) rfl (len_app (m := 32) (n := 32) (k := 64) (cBs_len r.h.2) (cBs_len r.b.2) rfl) rfl)) (len_app (m := 3) (n := 64) (k := 67) rfl (len_app (m := 32) (n := 32) (k := 64) (cBs_len r.h.2) (cBs_len r.b.2) rfl) rfl) (fr_eval rfl rfl) Try.underlying54 rfl Try.sz54) ?_
        refine lf_val (v := .bool false) (wantF (d := 46) rfl (by kernel_rfl) rfl rfl) (rv_neR (r := gr_t31) (q := r) (b := true) rfl (fr_eval rfl rfl) (fr_eval rfl rfl) (by rw [hr1]; exact rcBeq_self _)) ?_
        refine lf_val (v := .bool false) (wantF (d := 43) rfl (by kernel_rfl) rfl rfl) (rv_pickF rfl (fr_eval rfl rfl) (fr_eval rfl rfl)) ?_
        refine lf_val (v := .bool false) (wantF (d := 43) rfl (by kernel_rfl) rfl rfl) (rv_move rfl (fr_eval rfl rfl)) ?_
        refine lf_val (v := .pointer (some ⟨g3, 67, none⟩)) (wantF (d := 53) rfl (by kernel_rfl) rfl rfl) (rv_fieldAddr (n := 0) rfl (fr_eval rfl e7) Try.underlying61 rfl rfl (by kernel_rfl)) ?_
        refine lf_val (v := y5) (wantF (d := 53) rfl (by kernel_rfl) rfl rfl) (rv_load1 rfl (hH.blk (i := 4) rfl) (get_of (cs := ([.int .i64 gr_t31.t, .int .i64 gr_t31.c, .int .i64 gr_t31.s] : List Value) ++ (cBs gr_t31.h.1 ++ (cBs gr_t31.b.1 ++ ([y5] : List Value)))) (A := (([.int .i64 gr_t31.t, .int .i64 gr_t31.c, .int .i64 gr_t31.s] : List Value) ++ (cBs gr_t31.h.1 ++ cBs gr_t31.b.1) : List Value)) (D := ([y5] : List Value)) (C := ([] : List Value)) (o := 67) (j := 0) (by simp only [List.append_assoc, List.cons_append, List.nil_append, List.append_nil]) (len_app (m := 3) (n := 64) (k := 67) rfl (len_app (m := 32) (n := 32) (k := 64) (cBs_len gr_t31.h.2) (cBs_len gr_t31.b.2) rfl) rfl) rfl (show ([y5] : List Value)[0]? = some (y5) from rfl)) (fr_eval rfl rfl) Try.underlying22 rfl Try.sz22) ?_
        refine lf_val (v := .string ⟨(gs_t31).toArray⟩) (wantF (d := 53) rfl (by kernel_rfl) rfl rfl) (rv_str rfl (fr_eval rfl rfl) (OwnB.rd (hH.own (i := 3) rfl)) Try.underlying22 Try.underlying5 Try.underlying9) ?_
        refine lf_val (v := .pointer (some ⟨g1, 67, none⟩)) (wantF (d := 53) rfl (by kernel_rfl) rfl rfl) (rv_fieldAddr (n := 0) rfl (fr_eval rfl e2) Try.underlying61 rfl rfl (by kernel_rfl)) ?_
        refine lf_val (v := vs) (wantF (d := 53) rfl (by kernel_rfl) rfl rfl) (rv_load1 rfl (hH.blk (i := 0) rfl) (get_of (cs := ([.int .i64 r.t, .int .i64 r.c, .int .i64 r.s] : List Value) ++ (cBs r.h.1 ++ (cBs r.b.1 ++ ([vs] : List Value)))) (A := (([.int .i64 r.t, .int .i64 r.c, .int .i64 r.s] : List Value) ++ (cBs r.h.1 ++ cBs r.b.1) : List Value)) (D := ([vs] : List Value)) (C := ([] : List Value)) (o := 67) (j := 0) (by simp only [List.append_assoc, List.cons_append, List.nil_append, List.append_nil]) (len_app (m := 3) (n := 64) (k := 67) rfl (len_app (m := 32) (n := 32) (k := 64) (cBs_len r.h.2) (cBs_len r.b.2) rfl) rfl) rfl (show ([vs] : List Value)[0]? = some (vs) from rfl)) (fr_eval rfl rfl) Try.underlying22 rfl Try.sz22) ?_
        refine lf_val (v := .string ⟨(sig).toArray⟩) (wantF (d := 53) rfl (by kernel_rfl) rfl rfl) (rv_str rfl (fr_eval rfl rfl) (hsg.rd _ hH.chg) Try.underlying22 Try.underlying5 Try.underlying9) ?_
        refine lf_val (v := .bool false) (wantF (d := 53) rfl (by kernel_rfl) rfl rfl) (rv_nes (b := true) rfl (fr_eval rfl rfl) (fr_eval rfl rfl) (by exact decide_eq_true hs1)) ?_
        refine lf_val (v := .bool false) (wantF (d := 43) rfl (by kernel_rfl) rfl rfl) (rv_pickF rfl (fr_eval rfl rfl) (fr_eval rfl rfl)) ?_
        refine lf_val (v := .bool false) (wantAll rfl) (rv_pickT rfl (fr_eval rfl rfl) (fr_eval rfl rfl)) ?_
        refine lf_nil ?_
        refine then_n ?_
        refine wp_gen (fun F' => F' 0 = .agg (([.int .i64 r.t, .int .i64 r.c, .int .i64 r.s] : List Value) ++ (cBs r.h.1 ++ (cBs r.b.1 ++ ([vs] : List Value)))).toArray ∧ F' 1 = v ∧ F' 2 = .pointer (some ⟨g1, 0, none⟩) ∧ F' 4 = .bool false ∧ F' 5 = .pointer (some ⟨g2, 0, none⟩) ∧ F' 6 = y4 ∧ F' 7 = .pointer (some ⟨g3, 0, none⟩) ∧ F' 8 = .int .i64 ge_t31 ∧ F' 19 = .bool false ∧ F' 39 = .bool false ∧ F' 62 = .bool false) ⟨e0, e1, e2, e4, e5, e6, e7, e8, e19, e39, rfl⟩ ?_
        clear e0 e1 e2 e4 e5 e6 e7 e8 e19 e39
        clear F
        rintro F ⟨e0, e1, e2, e4, e5, e6, e7, e8, e19, e39, e62⟩
        refine wp_cond_false (fr_eval rfl e62) ?_
        refine wp_skip ?_
        refine then_n ?_
        refine wp_seq ?_
        refine wp_regionF ?_
        refine lf_val (v := v) (wantAll rfl) (rv_move rfl (fr_eval rfl e1)) ?_
        refine lf_call (wantAll rfl) (rv_call (args := [v]) rfl (evc (fr_eval rfl rfl) evn) Try.call37) (rcGet_calls b (by omega) _ _ (hr.rd _ hH.chg)) ?_
        rintro _ w27 ⟨⟨gr_t65, gs_t65, y9, ge_t65, rfl, hG_gr_t65, ho, hg⟩, hx⟩
        refine ⟨_, rfl, ?_⟩
        replace hH : Heap (newN w) w w27 [oBlk g1 (([.int .i64 r.t, .int .i64 r.c, .int .i64 r.s] : List Value) ++ (cBs r.h.1 ++ (cBs r.b.1 ++ ([vs] : List Value)))) 61, oPen g2 y3 (put (((textR r).length : Nat) : Int) ++ (textR r) ++ put ((sig.length : Nat) : Int) ++ sig), oB y4 (put (((textR r).length : Nat) : Int) ++ (textR r) ++ put ((sig.length : Nat) : Int) ++ sig), oB y5 gs_t31, oBlk g3 (([.int .i64 gr_t31.t, .int .i64 gr_t31.c, .int .i64 gr_t31.s] : List Value) ++ (cBs gr_t31.h.1 ++ (cBs gr_t31.b.1 ++ ([y5] : List Value)))) 61, oB y9 gs_t65] := hH.addOwn hx hg ho
        clear ho hg
        clear hx
        refine lf_val (v := .tuple #[.agg (([.int .i64 gr_t65.t, .int .i64 gr_t65.c, .int .i64 gr_t65.s] : List Value) ++ (cBs gr_t65.h.1 ++ (cBs gr_t65.b.1 ++ ([y9] : List Value)))).toArray, .int .i64 ge_t65]) (wantAll rfl) (rv_move rfl (fr_eval rfl rfl)) ?_
        refine lf_val (v := .agg (([.int .i64 gr_t65.t, .int .i64 gr_t65.c, .int .i64 gr_t65.s] : List Value) ++ (cBs gr_t65.h.1 ++ (cBs gr_t65.b.1 ++ ([y9] : List Value)))).toArray) (wantAll rfl) (rv_extract rfl (fr_eval rfl rfl) rfl) ?_
        refine lf_val (v := .int .i64 ge_t65) (wantAll rfl) (rv_extract rfl (fr_eval rfl rfl) rfl) ?_
        refine lf_ex (wantAll rfl) (hx_alloc hH 61 (z := .agg (([.int .i64 0, .int .i64 0, .int .i64 0] : List Value) ++ (cBs (List.replicate 32 0) ++ (cBs (List.replicate 32 0) ++ ([.slice none 0 0] : List Value)))).toArray) (n := 68) (cs := ([.int .i64 0, .int .i64 0, .int .i64 0] : List Value) ++ (cBs (List.replicate 32 0) ++ (cBs (List.replicate 32 0) ++ ([.slice none 0 0] : List Value)))) rfl (by kernel_rfl) (by rfl)) ?_
        clear hH
        rintro _ w28 ⟨g5, rfl, hH, hx⟩
        replace hH : Heap (newN w) w w28 [oBlk g1 (([.int .i64 r.t, .int .i64 r.c, .int .i64 r.s] : List Value) ++ (cBs r.h.1 ++ (cBs r.b.1 ++ ([vs] : List Value)))) 61, oPen g2 y3 (put (((textR r).length : Nat) : Int) ++ (textR r) ++ put ((sig.length : Nat) : Int) ++ sig), oB y4 (put (((textR r).length : Nat) : Int) ++ (textR r) ++ put ((sig.length : Nat) : Int) ++ sig), oB y5 gs_t31, oBlk g3 (([.int .i64 gr_t31.t, .int .i64 gr_t31.c, .int .i64 gr_t31.s] : List Value) ++ (cBs gr_t31.h.1 ++ (cBs gr_t31.b.1 ++ ([y5] : List Value)))) 61, oB y9 gs_t65, oBlk g5 (([.int .i64 0, .int .i64 0, .int .i64 0] : List Value) ++ (cBs (List.replicate 32 0) ++ (cBs (List.replicate 32 0) ++ ([.slice none 0 0] : List Value)))) 61] := hH
        clear hx
        refine lf_sk (wantAll rfl) (hx_storeW hH (i := 6) (cs := ([.int .i64 gr_t65.t, .int .i64 gr_t65.c, .int .i64 gr_t65.s] : List Value) ++ (cBs gr_t65.h.1 ++ (cBs gr_t65.b.1 ++ ([y9] : List Value)))) rfl rfl rfl (fr_eval rfl rfl) (fr_eval rfl rfl) (sz_len Try.sz61 (len_app (m := 3) (n := 65) (k := 68) rfl (len_app (m := 32) (n := 33) (k := 65) (cBs_len gr_t65.h.2) (len_app (m := 32) (n := 1) (k := 33) (cBs_len gr_t65.b.2) rfl rfl) rfl) rfl)) (((len_app (m := 3) (n := 65) (k := 68) rfl (len_app (m := 32) (n := 33) (k := 65) (cBs_len (List.length_replicate ..)) (len_app (m := 32) (n := 1) (k := 33) (cBs_len (List.length_replicate ..)) rfl rfl) rfl) rfl)).trans ((len_app (m := 3) (n := 65) (k := 68) rfl (len_app (m := 32) (n := 33) (k := 65) (cBs_len gr_t65.h.2) (len_app (m := 32) (n := 1) (k := 33) (cBs_len gr_t65.b.2) rfl rfl) rfl) rfl)).symm) ((ones_app (ones_cons rfl (ones_cons rfl (ones_cons rfl ones_nil))) (ones_app (cBs_one _) (ones_app (cBs_one _) (ones_cons (Rd.oneV (OwnB.rd (hH.own (i := 5) rfl))) ones_nil)))))) ?_
        clear hH
        rintro w29 ⟨hH, hx⟩
        replace hH : Heap (newN w) w w29 [oBlk g1 (([.int .i64 r.t, .int .i64 r.c, .int .i64 r.s] : List Value) ++ (cBs r.h.1 ++ (cBs r.b.1 ++ ([vs] : List Value)))) 61, oPen g2 y3 (put (((textR r).length : Nat) : Int) ++ (textR r) ++ put ((sig.length : Nat) : Int) ++ sig), oB y4 (put (((textR r).length : Nat) : Int) ++ (textR r) ++ put ((sig.length : Nat) : Int) ++ sig), oB y5 gs_t31, oBlk g3 (([.int .i64 gr_t31.t, .int .i64 gr_t31.c, .int .i64 gr_t31.s] : List Value) ++ (cBs gr_t31.h.1 ++ (cBs gr_t31.b.1 ++ ([y5] : List Value)))) 61, oB y9 gs_t65, oBlk g5 (([.int .i64 gr_t65.t, .int .i64 gr_t65.c, .int .i64 gr_t65.s] : List Value) ++ (cBs gr_t65.h.1 ++ (cBs gr_t65.b.1 ++ ([y9] : List Value)))) 61] := hH
        clear hx
        refine lf_val (v := .int .i64 ge_t65) (wantAll rfl) (rv_assign rfl (fr_eval rfl rfl)) ?_
        refine lf_nil ?_
        refine then_n ?_
        refine wp_seq ?_
        refine wp_seq ?_
        refine wp_gen (fun F' => F' 0 = .agg (([.int .i64 r.t, .int .i64 r.c, .int .i64 r.s] : List Value) ++ (cBs r.h.1 ++ (cBs r.b.1 ++ ([vs] : List Value)))).toArray ∧ F' 1 = v ∧ F' 2 = .pointer (some ⟨g1, 0, none⟩) ∧ F' 4 = .bool false ∧ F' 5 = .pointer (some ⟨g2, 0, none⟩) ∧ F' 6 = y4 ∧ F' 7 = .pointer (some ⟨g3, 0, none⟩) ∧ F' 8 = .int .i64 ge_t31 ∧ F' 9 = .pointer (some ⟨g5, 0, none⟩) ∧ F' 10 = .int .i64 ge_t65 ∧ F' 19 = .bool false ∧ F' 39 = .bool false ∧ F' 62 = .bool false) ⟨e0, e1, e2, e4, e5, e6, e7, e8, rfl, rfl, e19, e39, e62⟩ ?_
        clear e0 e1 e2 e4 e5 e6 e7 e8 e19 e39 e62
        clear F
        rintro F ⟨e0, e1, e2, e4, e5, e6, e7, e8, e9, e10, e19, e39, e62⟩
        refine wp_regionF ?_
        refine lf_val (v := .int .i64 ge_t65) (wantAll rfl) (rv_move rfl (fr_eval rfl e10)) ?_
        by_cases hc4 : ge_t65 = 0
        · refine lf_val (v := .bool false) (wantAll rfl) (rv_neq rfl (fr_eval rfl rfl) rfl (decide_eq_true (by omega))) ?_
          refine lf_nil ?_
          refine then_n ?_
          refine wp_gen (fun F' => F' 0 = .agg (([.int .i64 r.t, .int .i64 r.c, .int .i64 r.s] : List Value) ++ (cBs r.h.1 ++ (cBs r.b.1 ++ ([vs] : List Value)))).toArray ∧ F' 1 = v ∧ F' 2 = .pointer (some ⟨g1, 0, none⟩) ∧ F' 4 = .bool false ∧ F' 5 = .pointer (some ⟨g2, 0, none⟩) ∧ F' 6 = y4 ∧ F' 7 = .pointer (some ⟨g3, 0, none⟩) ∧ F' 8 = .int .i64 ge_t31 ∧ F' 9 = .pointer (some ⟨g5, 0, none⟩) ∧ F' 10 = .int .i64 ge_t65 ∧ F' 19 = .bool false ∧ F' 39 = .bool false ∧ F' 62 = .bool false ∧ F' 69 = .bool false) ⟨e0, e1, e2, e4, e5, e6, e7, e8, e9, e10, e19, e39, e62, rfl⟩ ?_
          clear e0 e1 e2 e4 e5 e6 e7 e8 e9 e10 e19 e39 e62
          clear F
          rintro F ⟨e0, e1, e2, e4, e5, e6, e7, e8, e9, e10, e19, e39, e62, e69⟩
          refine wp_cond_false (fr_eval rfl e69) ?_
          refine wp_skip ?_
          refine then_n ?_
          refine wp_seq ?_
          refine wp_regionX (fun _ => False) 9 (by kernel_rfl) (by kernel_rfl) ?_
          refine xl_take (i := 0) (v := .pointer (some ⟨g5, 0, none⟩)) rfl (by kernel_rfl) (by kernel_rfl) (by kernel_rfl) (by kernel_rfl) (yx_val (wantAll rfl) (fun w' hx' => rv_fieldAddr (n := 66) rfl (fr_eval rfl e9) Try.underlying61 rfl rfl (by kernel_rfl))) ?_
          refine xl_take (i := 1) (v := .agg (([.int .i64 gr_t65.t, .int .i64 gr_t65.c, .int .i64 gr_t65.s] : List Value) ++ (cBs gr_t65.h.1 ++ cBs gr_t65.b.1)).toArray) rfl (by kernel_rfl) (by kernel_rfl) (by kernel_rfl) (by kernel_rfl) (yx_val (wantAll rfl) (fun w' hx' => rv_loadP rfl ((hH.ext hx').blk (i := 6) rfl) (part_of (cs := ([.int .i64 gr_t65.t, .int .i64 gr_t65.c, .int .i64 gr_t65.s] : List Value) ++ (cBs gr_t65.h.1 ++ (cBs gr_t65.b.1 ++ ([y9] : List Value)))) (A := ([] : List Value)) (D := (([.int .i64 gr_t65.t, .int .i64 gr_t65.c, .int .i64 gr_t65.s] : List Value) ++ (cBs gr_t65.h.1 ++ cBs gr_t65.b.1) : List Value)) (C := ([y9] : List Value)) (by simp only [List.append_assoc, List.cons_append, List.nil_append, List.append_nil]) (show List.length ([] : List Value) = 0 from rfl) (len_app (m := 3) (n := 64) (k := 67) rfl (len_app (m := 32) (n := 32) (k := 64) (cBs_len gr_t65.h.2) (cBs_len gr_t65.b.2) rfl) rfl)) (len_app (m := 3) (n := 64) (k := 67) rfl (len_app (m := 32) (n := 32) (k := 64) (cBs_len gr_t65.h.2) (cBs_len gr_t65.b.2) rfl) rfl) (fr_eval rfl rfl) Try.underlying54 rfl Try.sz54)) ?_
          refine xl_take (i := 2) (v := .bool true) rfl (by kernel_rfl) (by kernel_rfl) (by kernel_rfl) (by kernel_rfl) (yx_call (wantAll rfl) (fun w' => rv_call (args := [.agg (([.int .i64 gr_t65.t, .int .i64 gr_t65.c, .int .i64 gr_t65.s] : List Value) ++ (cBs gr_t65.h.1 ++ cBs gr_t65.b.1)).toArray]) rfl (evc (fr_eval rfl rfl) evn) Try.call35) (fun w' hx' => calls_known (rcRight12_calls gr_t65 _) (decide_eq_true (hG_gr_t65.good (by assumption)).1))) ?_
          refine xl_take (i := 3) (v := .bool true) rfl (by kernel_rfl) (by kernel_rfl) (by kernel_rfl) (by kernel_rfl) (yx_val (wantAll rfl) (fun w' hx' => rv_move rfl (fr_eval rfl rfl))) ?_
          refine xl_take (i := 4) (v := .agg (([.int .i64 gr_t65.t, .int .i64 gr_t65.c, .int .i64 gr_t65.s] : List Value) ++ (cBs gr_t65.h.1 ++ (cBs gr_t65.b.1 ++ ([y9] : List Value)))).toArray) rfl (by kernel_rfl) (by kernel_rfl) (by kernel_rfl) (by kernel_rfl) (yx_val (wantF (d := 86) rfl (by kernel_rfl) rfl rfl) (fun w' hx' => rv_loadW rfl ((hH.ext hx').blk (i := 6) rfl) (fr_eval rfl e9) Try.underlying61 rfl (sz_len Try.sz61 (len_app (m := 3) (n := 65) (k := 68) rfl (len_app (m := 32) (n := 33) (k := 65) (cBs_len gr_t65.h.2) (len_app (m := 32) (n := 1) (k := 33) (cBs_len gr_t65.b.2) rfl rfl) rfl) rfl)))) ?_
          refine xl_take (i := 7) (v := v) rfl (by kernel_rfl) (by kernel_rfl) (by kernel_rfl) (by kernel_rfl) (yx_val (wantF (d := 86) rfl (by kernel_rfl) rfl rfl) (fun w' hx' => rv_move rfl (fr_eval rfl e1))) ?_
          refine xl_take (i := 8) (v := .string ⟨(b).toArray⟩) rfl (by kernel_rfl) (by kernel_rfl) (by kernel_rfl) (by kernel_rfl) (yx_val (wantF (d := 86) rfl (by kernel_rfl) rfl rfl) (fun w' hx' => rv_str rfl (fr_eval rfl rfl) (hr.rd _ (hH.chg.trans (Ext.any hx'))) Try.underlying22 Try.underlying5 Try.underlying9)) ?_
          refine anyX_ready (rs := [5]) (by kernel_rfl) ?_
          intro w30 hx
          replace hH := hH.ext hx
          clear hx
          refine (anyX_cons ?_ anyX_nil)
          refine xl_step (i := 5) rfl (wantF (d := 86) rfl (by kernel_rfl) rfl rfl) ?_
          refine of_call (rv_call (args := [.agg (([.int .i64 gr_t65.t, .int .i64 gr_t65.c, .int .i64 gr_t65.s] : List Value) ++ (cBs gr_t65.h.1 ++ (cBs gr_t65.b.1 ++ ([y9] : List Value)))).toArray]) rfl (evc (fr_eval rfl rfl) evn) Try.call38) (put12_calls gr_t65 (inR_in (hG_gr_t65.good (by assumption)).1) gs_t65 (Nat.le_trans (hG_gr_t65.good (by assumption)).2.2 (by decide)) _ _ (OwnB.rd (hH.own (i := 5) rfl))) ?_
          rintro _ w31 ⟨⟨y10, rfl, ho, hg⟩, hx⟩
          refine ⟨_, rfl, ?_⟩
          replace hH : Heap (newN w) w w31 [oBlk g1 (([.int .i64 r.t, .int .i64 r.c, .int .i64 r.s] : List Value) ++ (cBs r.h.1 ++ (cBs r.b.1 ++ ([vs] : List Value)))) 61, oPen g2 y3 (put (((textR r).length : Nat) : Int) ++ (textR r) ++ put ((sig.length : Nat) : Int) ++ sig), oB y4 (put (((textR r).length : Nat) : Int) ++ (textR r) ++ put ((sig.length : Nat) : Int) ++ sig), oB y5 gs_t31, oBlk g3 (([.int .i64 gr_t31.t, .int .i64 gr_t31.c, .int .i64 gr_t31.s] : List Value) ++ (cBs gr_t31.h.1 ++ (cBs gr_t31.b.1 ++ ([y5] : List Value)))) 61, oB y9 gs_t65, oBlk g5 (([.int .i64 gr_t65.t, .int .i64 gr_t65.c, .int .i64 gr_t65.s] : List Value) ++ (cBs gr_t65.h.1 ++ (cBs gr_t65.b.1 ++ ([y9] : List Value)))) 61, oB y10 (textS gr_t65 gs_t65)] := hH.addOwn hx hg ho
          clear ho hg
          refine ⟨hx, ?_⟩
          clear hx
          refine xl_take (i := 6) (v := .string ⟨(textS gr_t65 gs_t65).toArray⟩) rfl (by kernel_rfl) (by kernel_rfl) (by kernel_rfl) (by kernel_rfl) (yx_val (wantF (d := 86) rfl (by kernel_rfl) rfl rfl) (fun w' hx' => rv_str rfl (fr_eval rfl rfl) (OwnB.rd ((hH.ext hx').own (i := 7) rfl)) Try.underlying22 Try.underlying5 Try.underlying9)) ?_
          refine xl_tail (s := 9) rfl ?_
          intro w32 hx
          replace hH := hH.ext hx
          clear hx
          refine lf_val (v := .bool true) (wantF (d := 86) rfl (by kernel_rfl) rfl rfl) (rv_eqs (b := true) rfl (fr_eval rfl rfl) (fr_eval rfl rfl) (by exact decide_eq_true (hG_gr_t65.good (by assumption)).2.1.symm)) ?_
          refine lf_val (v := .bool true) (wantAll rfl) (rv_pickT rfl (fr_eval rfl rfl) (fr_eval rfl rfl)) ?_
          refine lf_val (v := .bool true) (wantAll rfl) (rv_move rfl (fr_eval rfl rfl)) ?_
          refine lf_call (wantF (d := 94) rfl (by kernel_rfl) rfl rfl) (rv_call (args := []) rfl evn Try.call36) (awake12_calls _) ?_
          rintro _ w33 ⟨rfl, hx⟩
          refine ⟨_, rfl, ?_⟩
          replace hH := hH.ext hx
          clear hx
          refine lf_val (v := .bool true) (wantAll rfl) (rv_pickT rfl (fr_eval rfl rfl) (fr_eval rfl rfl)) ?_
          refine lf_val (v := .bool true) (wantAll rfl) (rv_assign rfl (fr_eval rfl rfl)) ?_
          refine lf_nil ?_
          refine then_n ?_
          replace hH : Heap (newN w) w w33 [oBlk g1 (([.int .i64 r.t, .int .i64 r.c, .int .i64 r.s] : List Value) ++ (cBs r.h.1 ++ (cBs r.b.1 ++ ([vs] : List Value)))) 61, oPen g2 y3 (put (((textR r).length : Nat) : Int) ++ (textR r) ++ put ((sig.length : Nat) : Int) ++ sig), oB y4 (put (((textR r).length : Nat) : Int) ++ (textR r) ++ put ((sig.length : Nat) : Int) ++ sig), oB y5 gs_t31, oBlk g3 (([.int .i64 gr_t31.t, .int .i64 gr_t31.c, .int .i64 gr_t31.s] : List Value) ++ (cBs gr_t31.h.1 ++ (cBs gr_t31.b.1 ++ ([y5] : List Value)))) 61, oB y9 gs_t65, oBlk g5 (([.int .i64 gr_t65.t, .int .i64 gr_t65.c, .int .i64 gr_t65.s] : List Value) ++ (cBs gr_t65.h.1 ++ (cBs gr_t65.b.1 ++ ([y9] : List Value)))) 61] := hH.drop (.cons_cons _ (.cons_cons _ (.cons_cons _ (.cons_cons _ (.cons_cons _ (.cons_cons _ (.cons_cons _ (.cons _ .slnil))))))))
          refine wp_gen (fun F' => F' 0 = .agg (([.int .i64 r.t, .int .i64 r.c, .int .i64 r.s] : List Value) ++ (cBs r.h.1 ++ (cBs r.b.1 ++ ([vs] : List Value)))).toArray ∧ F' 1 = v ∧ F' 2 = .pointer (some ⟨g1, 0, none⟩) ∧ F' 4 = .bool true ∧ F' 5 = .pointer (some ⟨g2, 0, none⟩) ∧ F' 6 = y4 ∧ F' 7 = .pointer (some ⟨g3, 0, none⟩) ∧ F' 8 = .int .i64 ge_t31 ∧ F' 9 = .pointer (some ⟨g5, 0, none⟩) ∧ F' 10 = .int .i64 ge_t65 ∧ F' 19 = .bool false ∧ F' 39 = .bool false ∧ F' 62 = .bool false ∧ F' 69 = .bool false) ⟨e0, e1, e2, rfl, e5, e6, e7, e8, e9, e10, e19, e39, e62, e69⟩ ?_
          clear e0 e1 e2 e4 e5 e6 e7 e8 e9 e10 e19 e39 e62 e69
          clear F
          rintro F ⟨e0, e1, e2, e4, e5, e6, e7, e8, e9, e10, e19, e39, e62, e69⟩
          refine wp_ret ?_
          exact bodyPost_ret (v := (.bool true)) (res1 rfl (ro_tmp rfl e4)) rfl (⟨rfl, hH.done⟩)
        · refine lf_val (v := .bool true) (wantAll rfl) (rv_neq rfl (fr_eval rfl rfl) rfl (decide_eq_false (by omega))) ?_
          refine lf_nil ?_
          refine then_n ?_
          refine wp_gen (fun F' => F' 0 = .agg (([.int .i64 r.t, .int .i64 r.c, .int .i64 r.s] : List Value) ++ (cBs r.h.1 ++ (cBs r.b.1 ++ ([vs] : List Value)))).toArray ∧ F' 1 = v ∧ F' 2 = .pointer (some ⟨g1, 0, none⟩) ∧ F' 4 = .bool false ∧ F' 5 = .pointer (some ⟨g2, 0, none⟩) ∧ F' 6 = y4 ∧ F' 7 = .pointer (some ⟨g3, 0, none⟩) ∧ F' 8 = .int .i64 ge_t31 ∧ F' 9 = .pointer (some ⟨g5, 0, none⟩) ∧ F' 10 = .int .i64 ge_t65 ∧ F' 19 = .bool false ∧ F' 39 = .bool false ∧ F' 62 = .bool false ∧ F' 69 = .bool true) ⟨e0, e1, e2, e4, e5, e6, e7, e8, e9, e10, e19, e39, e62, rfl⟩ ?_
          clear e0 e1 e2 e4 e5 e6 e7 e8 e9 e10 e19 e39 e62
          clear F
          rintro F ⟨e0, e1, e2, e4, e5, e6, e7, e8, e9, e10, e19, e39, e62, e69⟩
          refine wp_cond_true (fr_eval rfl e69) ?_
          refine wp_seq ?_
          obtain ⟨hz, hs2⟩ := hG_gr_t65.bad (by assumption)
          have hs3 : gs_t65.length = 0 := by rw [hs2]; rfl
          refine wp_regionF ?_
          refine lf_val (v := .pointer (some ⟨g5, 0, none⟩)) (wantAll rfl) (rv_fieldAddr (n := 66) rfl (fr_eval rfl e9) Try.underlying61 rfl rfl (by kernel_rfl)) ?_
          refine lf_val (v := .agg (([.int .i64 gr_t65.t, .int .i64 gr_t65.c, .int .i64 gr_t65.s] : List Value) ++ (cBs gr_t65.h.1 ++ cBs gr_t65.b.1)).toArray) (wantAll rfl) (rv_loadP rfl (hH.blk (i := 6) rfl) (part_of (cs := ([.int .i64 gr_t65.t, .int .i64 gr_t65.c, .int .i64 gr_t65.s] : List Value) ++ (cBs gr_t65.h.1 ++ (cBs gr_t65.b.1 ++ ([y9] : List Value)))) (A := ([] : List Value)) (D := (([.int .i64 gr_t65.t, .int .i64 gr_t65.c, .int .i64 gr_t65.s] : List Value) ++ (cBs gr_t65.h.1 ++ cBs gr_t65.b.1) : List Value)) (C := ([y9] : List Value)) (by simp only [List.append_assoc, List.cons_append, List.nil_append, List.append_nil]) (show List.length ([] : List Value) = 0 from rfl) (len_app (m := 3) (n := 64) (k := 67) rfl (len_app (m := 32) (n := 32) (k := 64) (cBs_len gr_t65.h.2) (cBs_len gr_t65.b.2) rfl) rfl)) (len_app (m := 3) (n := 64) (k := 67) rfl (len_app (m := 32) (n := 32) (k := 64) (cBs_len gr_t65.h.2) (cBs_len gr_t65.b.2) rfl) rfl) (fr_eval rfl rfl) Try.underlying54 rfl Try.sz54) ?_
          refine lf_val (v := .agg (([.int .i64 0, .int .i64 0, .int .i64 0] : List Value) ++ (cBs (List.replicate 32 0) ++ cBs (List.replicate 32 0))).toArray) (wantAll rfl) (rv_buildS (ps := []) (places := #[(0, 1), (1, 1), (2, 1), (3, 32), (35, 32)]) (z := .agg (([.int .i64 0, .int .i64 0, .int .i64 0] : List Value) ++ (cBs (List.replicate 32 0) ++ cBs (List.replicate 32 0))).toArray) (zc := ([.int .i64 0, .int .i64 0, .int .i64 0] : List Value) ++ (cBs (List.replicate 32 0) ++ cBs (List.replicate 32 0))) (cs := ([.int .i64 0, .int .i64 0, .int .i64 0] : List Value) ++ (cBs (List.replicate 32 0) ++ cBs (List.replicate 32 0))) rfl evpn (by kernel_rfl) rfl Try.underlying54 (fun _ => by kernel_rfl) fill0) ?_
          refine lf_val (v := .bool true) (wantAll rfl) (rv_eqR (r := gr_t65) (q := (⟨0, 0, 0, ⟨List.replicate 32 0, (List.length_replicate ..)⟩, ⟨List.replicate 32 0, (List.length_replicate ..)⟩⟩ : Rc)) (b := true) rfl (fr_eval rfl rfl) (fr_eval rfl rfl) (by rw [hz]; exact rcBeq_self _)) ?_
          refine lf_val (v := .bool true) (wantAll rfl) (rv_move rfl (fr_eval rfl rfl)) ?_
          refine lf_val (v := .pointer (some ⟨g5, 67, none⟩)) (wantF (d := 74) rfl (by kernel_rfl) rfl rfl) (rv_fieldAddr (n := 0) rfl (fr_eval rfl e9) Try.underlying61 rfl rfl (by kernel_rfl)) ?_
          refine lf_val (v := y9) (wantF (d := 74) rfl (by kernel_rfl) rfl rfl) (rv_load1 rfl (hH.blk (i := 6) rfl) (get_of (cs := ([.int .i64 gr_t65.t, .int .i64 gr_t65.c, .int .i64 gr_t65.s] : List Value) ++ (cBs gr_t65.h.1 ++ (cBs gr_t65.b.1 ++ ([y9] : List Value)))) (A := (([.int .i64 gr_t65.t, .int .i64 gr_t65.c, .int .i64 gr_t65.s] : List Value) ++ (cBs gr_t65.h.1 ++ cBs gr_t65.b.1) : List Value)) (D := ([y9] : List Value)) (C := ([] : List Value)) (o := 67) (j := 0) (by simp only [List.append_assoc, List.cons_append, List.nil_append, List.append_nil]) (len_app (m := 3) (n := 64) (k := 67) rfl (len_app (m := 32) (n := 32) (k := 64) (cBs_len gr_t65.h.2) (cBs_len gr_t65.b.2) rfl) rfl) rfl (show ([y9] : List Value)[0]? = some (y9) from rfl)) (fr_eval rfl rfl) Try.underlying22 rfl Try.sz22) ?_
          refine lf_val (v := .int .i64 ((gs_t65.length : Nat) : Int)) (wantF (d := 74) rfl (by kernel_rfl) rfl rfl) (rv_len rfl (fr_eval rfl rfl) (RdB.rn (OwnB.rd (hH.own (i := 5) rfl)) rfl) Try.underlying22) ?_
          refine lf_val (v := .bool true) (wantF (d := 74) rfl (by kernel_rfl) rfl rfl) (rv_eql rfl (fr_eval rfl rfl) rfl (decide_eq_true (by omega))) ?_
          refine lf_val (v := .bool true) (wantAll rfl) (rv_pickT rfl (fr_eval rfl rfl) (fr_eval rfl rfl)) ?_
          refine lf_val (v := .bool true) (wantAll rfl) (rv_move rfl (fr_eval rfl rfl)) ?_
          refine lf_call (wantF (d := 80) rfl (by kernel_rfl) rfl rfl) (rv_call (args := []) rfl evn Try.call36) (awake12_calls _) ?_
          rintro _ w34 ⟨rfl, hx⟩
          refine ⟨_, rfl, ?_⟩
          replace hH := hH.ext hx
          clear hx
          refine lf_val (v := .bool true) (wantAll rfl) (rv_pickT rfl (fr_eval rfl rfl) (fr_eval rfl rfl)) ?_
          refine lf_val (v := .bool true) (wantAll rfl) (rv_assign rfl (fr_eval rfl rfl)) ?_
          refine lf_nil ?_
          refine then_n ?_
          refine wp_gen (fun F' => F' 0 = .agg (([.int .i64 r.t, .int .i64 r.c, .int .i64 r.s] : List Value) ++ (cBs r.h.1 ++ (cBs r.b.1 ++ ([vs] : List Value)))).toArray ∧ F' 1 = v ∧ F' 2 = .pointer (some ⟨g1, 0, none⟩) ∧ F' 4 = .bool true ∧ F' 5 = .pointer (some ⟨g2, 0, none⟩) ∧ F' 6 = y4 ∧ F' 7 = .pointer (some ⟨g3, 0, none⟩) ∧ F' 8 = .int .i64 ge_t31 ∧ F' 9 = .pointer (some ⟨g5, 0, none⟩) ∧ F' 10 = .int .i64 ge_t65 ∧ F' 19 = .bool false ∧ F' 39 = .bool false ∧ F' 62 = .bool false ∧ F' 69 = .bool true) ⟨e0, e1, e2, rfl, e5, e6, e7, e8, e9, e10, e19, e39, e62, e69⟩ ?_
          clear e0 e1 e2 e4 e5 e6 e7 e8 e9 e10 e19 e39 e62 e69
          clear F
          rintro F ⟨e0, e1, e2, e4, e5, e6, e7, e8, e9, e10, e19, e39, e62, e69⟩
          refine wp_ret ?_
          refine then_ret ?_
          exact bodyPost_ret (v := (.bool true)) (res1 rfl (ro_tmp rfl e4)) rfl (⟨rfl, hH.done⟩)

end Go.Proofs.Ytjgcjddaladgfaa
