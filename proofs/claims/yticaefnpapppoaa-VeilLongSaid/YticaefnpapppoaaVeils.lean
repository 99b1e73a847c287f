/- Texts that are covered: the walks of chapter 11's functions. -/
import Derived.Test.YticaefnpapppoaaVeil
import Derived.Test.YticaefnpapppoaaShaJoin
namespace Go.Proofs.Yticaefnpapppoaa
open Go.RowKit Go.Bz Go.Bz.Sha Go.Bz.Veil
attribute [local irreducible] wpList Code.wp wpAnyX
theorem flat3 {key : List UInt8} (hk : key.length = 32) (x : List UInt8) (hx : x.length ≤ 1000000) : (flat [key, x]).length ≤ 1099511627000 := by simp [flat, hk]; omega
theorem join_as {tag : UInt8} {ls : List (List UInt8)} {l' : List UInt8} (hb : (flat ls).length ≤ 1099511627000) {v : Value} {w : World} (h : RdP w v ls) (e : join tag ls = l') : Calls Try.prog 20 #[cB tag, v] w fun e w' => e = .returned (.agg (cBs l').toArray) ∧ Ext w w' := e ▸ join_calls tag ls hb v w h
theorem cons_app {w' : World} {v' : Value} {l l' : List UInt8} (h : OwnB w' v' l) (e : l = l') : OwnB w' v' l' := e ▸ h

set_option maxRecDepth 100000 in
set_option maxHeartbeats 1000000 in
theorem cover_calls (key : List UInt8) (hk : key.length = 32) (b : List UInt8) (hb : b.length ≤ 1000000) (v : Value) (w : World) (hr0 : RdB w v b) :
    Calls Try.prog 57 #[.agg (cBs key).toArray, v] w fun e'' w' => (∃ v', e'' = .returned v' ∧ OwnB w' v' (cov key b) ∧ ∀ k, v'.ownBlock = some k → w.heap.size ≤ k) ∧ Ext w w' := by
  refine calls_fr (args := [.agg (cBs key).toArray, v]) (n := 49) Try.func57 rfl rfl (show 2 ≤ 49 by decide) ?_
  have hr := Rd.stab hr0
  have hH : Heap (newN w) w w [] := Heap.fresh
  refine wp_seq ?_
  refine wp_gen (fun F' => F' 0 = .agg (cBs key).toArray ∧ F' 1 = v) ⟨rfl, rfl⟩ ?_
  rintro F ⟨e0, e1⟩
  refine wp_regionF ?_
  refine lf_ex (wantAll rfl) (hx_box hH 26 (cs := cBs key) rfl (fr_eval rfl e0) (by rfl)) ?_
  clear hH
  rintro _ w1 ⟨g1, rfl, hH, hx⟩
  replace hH : Heap (newN w) w w1 [oBlk g1 (cBs key) 26] := hH
  clear hx
  refine lf_val (v := .slice none 0 0) (wantAll rfl) (rv_assign rfl rfl) ?_
  refine lf_nil ?_
  refine then_n ?_
  refine wp_seq ?_
  refine wp_gen (fun F' => F' 0 = .agg (cBs key).toArray ∧ F' 1 = v ∧ F' 2 = .pointer (some ⟨g1, 0, none⟩) ∧ F' 4 = .slice none 0 0) ⟨e0, e1, rfl, rfl⟩ ?_
  clear e0 e1
  clear F
  rintro F ⟨e0, e1, e2, e4⟩
  refine wp_regionF ?_
  refine lf_val (v := v) (wantAll rfl) (rv_move rfl (fr_eval rfl e1)) ?_
  refine lf_val (v := .int .i64 ((b.length : Nat) : Int)) (wantAll rfl) (rv_len rfl (fr_eval rfl rfl) (RdB.rn (hr.rd _ hH.chg) rfl) Try.underlying22) ?_
  refine lf_ex (wantAll rfl) (hx_make hH Try.stB (n := b.length) (nm := List.length (List.replicate b.length (0 : UInt8))) (z1 := .int .u8 0) (xs := cBs (List.replicate b.length (0 : UInt8))) rfl (fr_eval rfl rfl) (fr_eval rfl rfl) (by omega) rfl (zeros_b _) (List.length_replicate ..).symm) ?_
  clear hH
  rintro y1 w2 ⟨hH, hx⟩
  replace hH : Heap (newN w) w w2 [oBlk g1 (cBs key) 26, oB y1 (List.replicate b.length (0 : UInt8))] := hH
  clear hx
  refine lf_val (v := y1) (wantAll rfl) (rv_assign rfl (fr_eval rfl rfl)) ?_
  refine lf_nil ?_
  refine then_n ?_
  refine wp_seq ?_
  refine wp_seq ?_
  refine wp_gen (fun F' => F' 0 = .agg (cBs key).toArray ∧ F' 1 = v ∧ F' 2 = .pointer (some ⟨g1, 0, none⟩) ∧ F' 4 = .slice none 0 0 ∧ F' 5 = y1) ⟨e0, e1, e2, e4, rfl⟩ ?_
  clear e0 e1 e2 e4
  clear F
  rintro F ⟨e0, e1, e2, e4, e5⟩
  refine wp_regionF ?_
  refine lf_val (v := v) (wantAll rfl) (rv_move rfl (fr_eval rfl e1)) ?_
  refine lf_val (v := .int .i64 ((b.length : Nat) : Int)) (wantAll rfl) (rv_len rfl (fr_eval rfl rfl) (RdB.rn (hr.rd _ hH.chg) rfl) Try.underlying22) ?_
  refine lf_val (v := .int .i64 0) (wantAll rfl) (rv_move rfl rfl) ?_
  refine lf_nil ?_
  refine then_n ?_
  refine wp_block ?_
  replace hH : Heap (newN w) w w2 [oBlk g1 (cBs key) 26, oB y1 (st key b 0 (32 * ((0 + 31) / 32)))] := by have e : List.replicate b.length (0 : UInt8) = st key b 0 (32 * ((0 + 31) / 32)) := st_0 key b; rw [← e]; exact hH
  refine wp_gen (fun F' => F' 0 = .agg (cBs key).toArray ∧ F' 1 = v ∧ F' 2 = .pointer (some ⟨g1, 0, none⟩) ∧ F' 4 = .slice none 0 0 ∧ F' 5 = y1 ∧ F' 12 = .int .i64 ((b.length : Nat) : Int) ∧ F' 13 = .int .i64 0) ⟨e0, e1, e2, e4, e5, rfl, rfl⟩ ?_
  clear e0 e1 e2 e4 e5
  clear F
  rintro F ⟨e0, e1, e2, e4, e5, e12, e13⟩
  refine wp_loopF (fun m F wr => ∃ i : Nat, m = b.length - i ∧ i ≤ b.length ∧ F 0 = .agg (cBs key).toArray ∧ F 1 = v ∧ F 2 = .pointer (some ⟨g1, 0, none⟩) ∧ F 4 = .slice none 0 0 ∧ F 5 = y1 ∧ F 12 = .int .i64 ((b.length : Nat) : Int) ∧ F 13 = .int .i64 ((i : Nat) : Int) ∧ Heap (newN w) w wr [oBlk g1 (cBs key) 26, oB y1 (st key b i (32 * ((i + 31) / 32)))]) ⟨0, rfl, Nat.zero_le _, e0, e1, e2, e4, e5, e12, e13, hH⟩ ?_
  clear e0 e1 e2 e4 e5 e12 e13 hH
  clear F
  rintro m F w3 ⟨i, rfl, pi0, e0, e1, e2, e4, e5, e12, e13, hH⟩
  refine wp_seq ?_
  refine wp_regionF ?_
  by_cases hc1 : i < b.length
  · refine lf_val (v := .bool true) (wantAll rfl) (rv_lss rfl (fr_eval rfl e13) (fr_eval rfl e12) (decide_eq_true (by omega))) ?_
    refine lf_nil ?_
    refine then_n ?_
    refine wp_seq ?_
    refine wp_gen (fun F' => F' 0 = .agg (cBs key).toArray ∧ F' 1 = v ∧ F' 2 = .pointer (some ⟨g1, 0, none⟩) ∧ F' 4 = .slice none 0 0 ∧ F' 5 = y1 ∧ F' 12 = .int .i64 ((b.length : Nat) : Int) ∧ F' 13 = .int .i64 ((i : Nat) : Int) ∧ F' 14 = .bool true) ⟨e0, e1, e2, e4, e5, e12, e13, rfl⟩ ?_
    clear e0 e1 e2 e4 e5 e12 e13
    clear F
    rintro F ⟨e0, e1, e2, e4, e5, e12, e13, e14⟩
    refine wp_cond_true (fr_eval rfl e14) ?_
    refine wp_skip ?_
    refine then_n ?_
    refine wp_seq ?_
    refine wp_block ?_
    refine wp_seq ?_
    refine wp_regionF ?_
    refine lf_val (v := .int .i64 ((i : Nat) : Int)) (wantAll rfl) (rv_move rfl (fr_eval rfl e13)) ?_
    refine lf_val (v := .int .i64 ((i : Nat) : Int)) (wantAll rfl) (rv_assign rfl (fr_eval rfl rfl)) ?_
    refine lf_nil ?_
    refine then_n ?_
    refine wp_seq ?_
    refine wp_seq ?_
    refine wp_gen (fun F' => F' 0 = .agg (cBs key).toArray ∧ F' 1 = v ∧ F' 2 = .pointer (some ⟨g1, 0, none⟩) ∧ F' 4 = .slice none 0 0 ∧ F' 5 = y1 ∧ F' 6 = .int .i64 ((i : Nat) : Int) ∧ F' 12 = .int .i64 ((b.length : Nat) : Int) ∧ F' 13 = .int .i64 ((i : Nat) : Int) ∧ F' 14 = .bool true) ⟨e0, e1, e2, e4, e5, rfl, e12, e13, e14⟩ ?_
    clear e0 e1 e2 e4 e5 e12 e13 e14
    clear F
    rintro F ⟨e0, e1, e2, e4, e5, e6, e12, e13, e14⟩
    refine wp_regionF ?_
    refine lf_val (v := .int .i64 ((i : Nat) : Int)) (wantAll rfl) (rv_move rfl (fr_eval rfl e6)) ?_
    refine lf_val (v := .int .i64 ((i % 32 : Nat) : Int)) (wantAll rfl) (rv_rem rfl (fr_eval rfl rfl) rfl (by decide) (rem_nat _ 32)) ?_
    by_cases hc2 : i % 32 = 0
    · refine lf_val (v := .bool true) (wantAll rfl) (rv_eql rfl (fr_eval rfl rfl) rfl (decide_eq_true (by omega))) ?_
      refine lf_nil ?_
      refine then_n ?_
      refine wp_gen (fun F' => F' 0 = .agg (cBs key).toArray ∧ F' 1 = v ∧ F' 2 = .pointer (some ⟨g1, 0, none⟩) ∧ F' 4 = .slice none 0 0 ∧ F' 5 = y1 ∧ F' 6 = .int .i64 ((i : Nat) : Int) ∧ F' 12 = .int .i64 ((b.length : Nat) : Int) ∧ F' 13 = .int .i64 ((i : Nat) : Int) ∧ F' 14 = .bool true ∧ F' 18 = .bool true) ⟨e0, e1, e2, e4, e5, e6, e12, e13, e14, rfl⟩ ?_
      clear e0 e1 e2 e4 e5 e6 e12 e13 e14
      clear F
      rintro F ⟨e0, e1, e2, e4, e5, e6, e12, e13, e14, e18⟩
      refine wp_cut (fun F wr => F 0 = .agg (cBs key).toArray ∧ F 1 = v ∧ F 2 = .pointer (some ⟨g1, 0, none⟩) ∧ F 4 = .slice none 0 0 ∧ F 5 = y1 ∧ F 6 = .int .i64 ((i : Nat) : Int) ∧ F 12 = .int .i64 ((b.length : Nat) : Int) ∧ F 13 = .int .i64 ((i : Nat) : Int) ∧ F 14 = .bool true ∧ F 18 = .bool true ∧ Heap (newN w) w wr [oBlk g1 (cBs key) 26, oB y1 (st key b i (32 * ((i + 1 + 31) / 32)))]) ?_ ?_
      · refine wp_cond_true (fr_eval rfl e18) ?_
        refine wp_seq ?_
        refine wp_regionF ?_
        refine lf_val (v := .slice (some ⟨g1, 0, none⟩) 32 32) (wantAll rfl) (rv_sliceArr rfl (fr_eval rfl e2) Try.underlying26 Try.sz5 (by decide)) ?_
        refine lf_val (v := .int .i64 ((i : Nat) : Int)) (wantAll rfl) (rv_move rfl (fr_eval rfl e6)) ?_
        refine lf_val (v := .int .i64 ((i / 2097152 : Nat) : Int)) (wantAll rfl) (rv_shr rfl (fr_eval rfl rfl) (show _ = Value.int _ ((21 : Nat) : Int) from rfl) (shr_nat 21 (by decide))) ?_
        refine lf_val (v := cB (UInt8.ofNat (i / 2097152))) (wantAll rfl) (rv_conv rfl (fr_eval rfl rfl) Try.underlying3 Try.underlying5 (wrap_u8 (byte_nat _))) ?_
        refine lf_val (v := .int .i64 ((i : Nat) : Int)) (wantAll rfl) (rv_move rfl (fr_eval rfl e6)) ?_
        refine lf_val (v := .int .i64 ((i / 8192 : Nat) : Int)) (wantAll rfl) (rv_shr rfl (fr_eval rfl rfl) (show _ = Value.int _ ((13 : Nat) : Int) from rfl) (shr_nat 13 (by decide))) ?_
        refine lf_val (v := cB (UInt8.ofNat (i / 8192))) (wantAll rfl) (rv_conv rfl (fr_eval rfl rfl) Try.underlying3 Try.underlying5 (wrap_u8 (byte_nat _))) ?_
        refine lf_val (v := .int .i64 ((i : Nat) : Int)) (wantAll rfl) (rv_move rfl (fr_eval rfl e6)) ?_
        refine lf_val (v := .int .i64 ((i / 32 : Nat) : Int)) (wantAll rfl) (rv_shr rfl (fr_eval rfl rfl) (show _ = Value.int _ ((5 : Nat) : Int) from rfl) (shr_nat 5 (by decide))) ?_
        refine lf_val (v := cB (UInt8.ofNat (i / 32))) (wantAll rfl) (rv_conv rfl (fr_eval rfl rfl) Try.underlying3 Try.underlying5 (wrap_u8 (byte_nat _))) ?_
        refine lf_ex (wantAll rfl) (hx_lits hH Try.stB (n := 3) (nm := List.length [UInt8.ofNat (i / 2097152), UInt8.ofNat (i / 8192), UInt8.ofNat (i / 32)]) [(.tmp 22), (.tmp 25), (.tmp 28)] (vs := [(cB (UInt8.ofNat (i / 2097152))), (cB (UInt8.ofNat (i / 8192))), (cB (UInt8.ofNat (i / 32)))]) (cs := cBs [UInt8.ofNat (i / 2097152), UInt8.ofNat (i / 8192), UInt8.ofNat (i / 32)]) rfl (evc (fr_eval rfl rfl) (evc (fr_eval rfl rfl) (evc (fr_eval rfl rfl) evn))) (cBs_one [UInt8.ofNat (i / 2097152), UInt8.ofNat (i / 8192), UInt8.ofNat (i / 32)]) rfl (by decide) rfl rfl) ?_
        clear hH
        rintro y2 w4 ⟨hH, hx⟩
        replace hH : Heap (newN w) w w4 [oBlk g1 (cBs key) 26, oB y1 (st key b i (32 * ((i + 31) / 32))), oB y2 [UInt8.ofNat (i / 2097152), UInt8.ofNat (i / 8192), UInt8.ofNat (i / 32)]] := hH
        clear hx
        refine lf_ex (wantAll rfl) (hx_lits hH Try.stBB (n := 2) (nm := 2) [(.tmp 19), (.tmp 29)] (vs := [.slice (some ⟨g1, 0, none⟩) 32 32, y2]) rfl (evc (fr_eval rfl rfl) (evc (fr_eval rfl rfl) evn)) (ones_cons (Rd.oneV (rdB_blkn (hH.blk (i := 0) rfl) hk (by decide))) (ones_cons (Rd.oneV (OwnB.rd (hH.own (i := 2) rfl))) ones_nil)) rfl (by decide) rfl rfl) ?_
        clear hH
        rintro y3 w5 ⟨hH, hx⟩
        replace hH : Heap (newN w) w w5 [oBlk g1 (cBs key) 26, oB y1 (st key b i (32 * ((i + 31) / 32))), oB y2 [UInt8.ofNat (i / 2097152), UInt8.ofNat (i / 8192), UInt8.ofNat (i / 32)], oOwn 22 1 y3 2 [.slice (some ⟨g1, 0, none⟩) 32 32, y2]] := hH
        clear hx
        refine lf_call (wantAll rfl) (rv_call (args := [cB 51, y3]) rfl (evc rfl (evc (fr_eval rfl rfl) evn)) Try.call20) (join_as (tag := 51) (ls := [key, [UInt8.ofNat (i / 2097152), UInt8.ofNat (i / 8192), UInt8.ofNat (i / 32)]]) (flat3 hk _ (by simp)) (rdP_own (hH.own (i := 3) rfl) (.cons (rdB_blkn (hH.blk (i := 0) rfl) hk (by decide)) (.cons (OwnB.rd (hH.own (i := 2) rfl)) .nil)) rfl) pad_prog) ?_
        rintro _ w6 ⟨rfl, hx⟩
        refine ⟨_, rfl, ?_⟩
        replace hH := hH.ext hx
        clear hx
        refine lf_ex (wantAll rfl) (hx_alloc hH 26 (z := .agg (cBs (List.replicate 32 0)).toArray) (n := 32) (cs := cBs (List.replicate 32 0)) rfl (by kernel_rfl) (by rfl)) ?_
        clear hH
        rintro _ w7 ⟨g2, rfl, hH, hx⟩
        replace hH : Heap (newN w) w w7 [oBlk g1 (cBs key) 26, oB y1 (st key b i (32 * ((i + 31) / 32))), oB y2 [UInt8.ofNat (i / 2097152), UInt8.ofNat (i / 8192), UInt8.ofNat (i / 32)], oOwn 22 1 y3 2 [.slice (some ⟨g1, 0, none⟩) 32 32, y2], oBlk g2 (cBs (List.replicate 32 0)) 26] := hH
        clear hx
        refine lf_sk (wantAll rfl) (hx_storeW hH (i := 4) (cs := cBs (pad key (i / 32))) rfl rfl rfl (fr_eval rfl rfl) (fr_eval rfl rfl) (sz_len Try.sz26 (cBs_len (pad_len _ _))) (((cBs_len (List.length_replicate ..))).trans ((cBs_len (pad_len _ _))).symm) ((cBs_one _))) ?_
        clear hH
        rintro w8 ⟨hH, hx⟩
        replace hH : Heap (newN w) w w8 [oBlk g1 (cBs key) 26, oB y1 (st key b i (32 * ((i + 31) / 32))), oB y2 [UInt8.ofNat (i / 2097152), UInt8.ofNat (i / 8192), UInt8.ofNat (i / 32)], oOwn 22 1 y3 2 [.slice (some ⟨g1, 0, none⟩) 32 32, y2], oBlk g2 (cBs (pad key (i / 32))) 26] := hH
        clear hx
        refine lf_nil ?_
        refine then_n ?_
        replace hH : Heap (newN w) w w8 [oBlk g1 (cBs key) 26, oB y1 (st key b i (32 * ((i + 31) / 32))), oBlk g2 (cBs (pad key (i / 32))) 26] := hH.drop (.cons_cons _ (.cons_cons _ (.cons _ (.cons _ (.cons_cons _ .slnil)))))
        refine wp_gen (fun F' => F' 0 = .agg (cBs key).toArray ∧ F' 1 = v ∧ F' 2 = .pointer (some ⟨g1, 0, none⟩) ∧ F' 4 = .slice none 0 0 ∧ F' 5 = y1 ∧ F' 6 = .int .i64 ((i : Nat) : Int) ∧ F' 7 = .pointer (some ⟨g2, 0, none⟩) ∧ F' 12 = .int .i64 ((b.length : Nat) : Int) ∧ F' 13 = .int .i64 ((i : Nat) : Int) ∧ F' 14 = .bool true ∧ F' 18 = .bool true) ⟨e0, e1, e2, e4, e5, e6, rfl, e12, e13, e14, e18⟩ ?_
        clear e0 e1 e2 e4 e5 e6 e12 e13 e14 e18
        clear F
        rintro F ⟨e0, e1, e2, e4, e5, e6, e7, e12, e13, e14, e18⟩
        refine wp_regionX (fun _ => False) 4 (by kernel_rfl) (by kernel_rfl) ?_
        refine xl_take (i := 0) (v := y1) rfl (by kernel_rfl) (by kernel_rfl) (by kernel_rfl) (by kernel_rfl) (yx_val (wantAll rfl) (fun w' hx' => rv_move rfl (fr_eval rfl e5))) ?_
        refine xl_take (i := 1) (v := .int .i64 ((i : Nat) : Int)) rfl (by kernel_rfl) (by kernel_rfl) (by kernel_rfl) (by kernel_rfl) (yx_val (wantAll rfl) (fun w' hx' => rv_move rfl (fr_eval rfl e6))) ?_
        refine xl_take (i := 2) (v := slcV y1 1 i b.length) rfl (by kernel_rfl) (by kernel_rfl) (by kernel_rfl) (by kernel_rfl) (yx_val (wantAll rfl) (fun w' hx' => rv_slcL (l := i) Try.stB rfl (fr_eval rfl rfl) (RdB.rn (OwnB.rd ((hH.ext hx').own (i := 1) rfl)) (st_len _ _ _ _)) (fr_eval rfl rfl) (by omega))) ?_
        refine xl_take (i := 3) (v := .slice (some ⟨g2, 0, none⟩) 32 32) rfl (by kernel_rfl) (by kernel_rfl) (by kernel_rfl) (by kernel_rfl) (yx_val (wantAll rfl) (fun w' hx' => rv_sliceArr rfl (fr_eval rfl e7) Try.underlying26 Try.sz5 (by decide))) ?_
        refine xl_tail (s := 4) rfl ?_
        intro w9 hx
        replace hH := hH.ext hx
        clear hx
        refine lf_ex (wantAll rfl) (hx_copyB hH (i := 1) (m := min 32 (b.length - i)) (l := i) (nd := b.length) (nm := List.length (st key b i (i + 32))) (sn := 32) (xs' := cBs (st key b i (i + 32))) rfl rfl rfl (st_len _ _ _ _) ((st_len _ _ _ _).trans (st_len _ _ _ _).symm) (fr_eval rfl rfl) (fr_eval rfl rfl) (RdB.rn (rdB_blkn (hH.blk (i := 2) rfl) (pad_len _ _) (by decide)) (pad_len _ _)) (by omega) (by decide) rfl (by rw [show 32 * ((i + 31) / 32) = i by omega, ← cBs_take, ← cBs_take, ← cBs_drop, ← cBs_append, ← cBs_append, st_copy (by omega) (by omega) rfl]) Try.underlying22 Try.sz5) ?_
        clear hH
        rintro _ w10 ⟨rfl, hH, hx⟩
        replace hH : Heap (newN w) w w10 [oBlk g1 (cBs key) 26, oB y1 (st key b i (i + 32)), oBlk g2 (cBs (pad key (i / 32))) 26] := hH
        clear hx
        refine lf_nil ?_
        replace hH : Heap (newN w) w w10 [oBlk g1 (cBs key) 26, oB y1 (st key b i (32 * ((i + 1 + 31) / 32))), oBlk g2 (cBs (pad key (i / 32))) 26] := by have e : st key b i (i + 32) = st key b i (32 * ((i + 1 + 31) / 32)) := st_same (fun k _ _ => by omega); rw [← e]; exact hH
        replace hH : Heap (newN w) w w10 [oBlk g1 (cBs key) 26, oB y1 (st key b i (32 * ((i + 1 + 31) / 32)))] := hH.drop (.cons_cons _ (.cons_cons _ (.cons _ .slnil)))
        exact ⟨_, rfl, e0, e1, e2, e4, e5, e6, e12, e13, e14, e18, hH⟩
      clear e0 e1 e2 e4 e5 e6 e12 e13 e14 e18 hH
      clear F
      rintro F w11 ⟨e0, e1, e2, e4, e5, e6, e12, e13, e14, e18, hH⟩
      refine then_n ?_
      refine wp_regionX (fun _ => False) 8 (by kernel_rfl) (by kernel_rfl) ?_
      refine xl_take (i := 0) (v := y1) rfl (by kernel_rfl) (by kernel_rfl) (by kernel_rfl) (by kernel_rfl) (yx_val (wantAll rfl) (fun w' hx' => rv_move rfl (fr_eval rfl e5))) ?_
      refine xl_take (i := 1) (v := .int .i64 ((i : Nat) : Int)) rfl (by kernel_rfl) (by kernel_rfl) (by kernel_rfl) (by kernel_rfl) (yx_val (wantAll rfl) (fun w' hx' => rv_move rfl (fr_eval rfl e6))) ?_
      refine xl_take (i := 2) (v := .pointer (some (elemA y1 (i * 1)))) rfl (by kernel_rfl) (by kernel_rfl) (by kernel_rfl) (by kernel_rfl) (yx_val (wantAll rfl) (fun w' hx' => rv_index rfl (fr_eval rfl rfl) (fr_eval rfl rfl) (RdB.rn (OwnB.rd ((hH.ext hx').own (i := 1) rfl)) (st_len _ _ _ _)) (show i < b.length from (by omega)) Try.underlying22 Try.sz5 (by decide))) ?_
      refine xl_take (i := 3) (v := cB (List.getD (st key b i (32 * ((i + 1 + 31) / 32))) i (0 : UInt8))) rfl (by kernel_rfl) (by kernel_rfl) (by kernel_rfl) (by kernel_rfl) (yx_val (wantAll rfl) (fun w' hx' => rv_loadCell rfl (fr_eval rfl rfl) (Nat.mul_one _) (OwnB.rd ((hH.ext hx').own (i := 1) rfl)) (cell_b rfl (Nat.lt_of_lt_of_eq (show i < b.length from (by omega)) ((st_len _ _ _ _)).symm)) Try.underlying5 rfl Try.sz5)) ?_
      refine xl_take (i := 4) (v := v) rfl (by kernel_rfl) (by kernel_rfl) (by kernel_rfl) (by kernel_rfl) (yx_val (wantAll rfl) (fun w' hx' => rv_move rfl (fr_eval rfl e1))) ?_
      refine xl_take (i := 5) (v := .int .i64 ((i : Nat) : Int)) rfl (by kernel_rfl) (by kernel_rfl) (by kernel_rfl) (by kernel_rfl) (yx_val (wantAll rfl) (fun w' hx' => rv_move rfl (fr_eval rfl e6))) ?_
      refine xl_take (i := 6) (v := .pointer (some (elemA v (i * 1)))) rfl (by kernel_rfl) (by kernel_rfl) (by kernel_rfl) (by kernel_rfl) (yx_val (wantAll rfl) (fun w' hx' => rv_index rfl (fr_eval rfl rfl) (fr_eval rfl rfl) (RdB.rn (hr.rd _ (hH.chg.trans (Ext.any hx'))) rfl) (show i < b.length from (by omega)) Try.underlying22 Try.sz5 (by decide))) ?_
      refine xl_take (i := 7) (v := cB (List.getD b i (0 : UInt8))) rfl (by kernel_rfl) (by kernel_rfl) (by kernel_rfl) (by kernel_rfl) (yx_val (wantAll rfl) (fun w' hx' => rv_loadCell rfl (fr_eval rfl rfl) (Nat.mul_one _) (hr.rd _ (hH.chg.trans (Ext.any hx'))) (cell_b rfl (show i < b.length from (by omega))) Try.underlying5 rfl Try.sz5)) ?_
      refine xl_tail (s := 8) rfl ?_
      intro w12 hx
      replace hH := hH.ext hx
      clear hx
      refine lf_val (v := cB ((List.getD (st key b i (32 * ((i + 1 + 31) / 32))) i (0 : UInt8)) ^^^ (List.getD b i (0 : UInt8)))) (wantAll rfl) (rv_xor rfl (fr_eval rfl rfl) (fr_eval rfl rfl) (xor_u8 _ _)) ?_
      refine lf_val (v := .pointer (some (elemA y1 (i * 1)))) (wantAll rfl) (rv_index rfl (fr_eval rfl rfl) (fr_eval rfl rfl) (RdB.rn (OwnB.rd (hH.own (i := 1) rfl)) (st_len _ _ _ _)) (show i < b.length from (by omega)) Try.underlying22 Try.sz5 (by decide)) ?_
      refine lf_sk (wantAll rfl) (hx_setC hH (i := 1) (nm := List.length (List.set (st key b i (32 * ((i + 1 + 31) / 32))) i ((List.getD (st key b i (32 * ((i + 1 + 31) / 32))) i (0 : UInt8)) ^^^ (List.getD b i (0 : UInt8))))) (j := i) (xs' := cBs (List.set (st key b i (32 * ((i + 1 + 31) / 32))) i ((List.getD (st key b i (32 * ((i + 1 + 31) / 32))) i (0 : UInt8)) ^^^ (List.getD b i (0 : UInt8))))) rfl rfl rfl (List.length_set ..).symm (Nat.lt_of_lt_of_eq (by omega) ((st_len _ _ _ _)).symm) (cBs_set _ _ _) (fr_eval rfl rfl) (fr_eval rfl rfl) Try.sz5 rfl) ?_
      clear hH
      rintro w14 ⟨hH, hx⟩
      replace hH : Heap (newN w) w w14 [oBlk g1 (cBs key) 26, oB y1 (List.set (st key b i (32 * ((i + 1 + 31) / 32))) i ((List.getD (st key b i (32 * ((i + 1 + 31) / 32))) i (0 : UInt8)) ^^^ (List.getD b i (0 : UInt8))))] := hH
      replace hH : Heap (newN w) w w14 [oBlk g1 (cBs key) 26, oB y1 (st key b (i + 1) (32 * ((i + 1 + 31) / 32)))] := by have e : List.set (st key b i (32 * ((i + 1 + 31) / 32))) i ((List.getD (st key b i (32 * ((i + 1 + 31) / 32))) i (0 : UInt8)) ^^^ (List.getD b i (0 : UInt8))) = st key b (i + 1) (32 * ((i + 1 + 31) / 32)) := st_set (by omega) (by omega); rw [e] at hH; exact hH
      clear hx
      refine lf_nil ?_
      refine blk_n ?_
      refine then_n ?_
      refine wp_gen (fun F' => F' 0 = .agg (cBs key).toArray ∧ F' 1 = v ∧ F' 2 = .pointer (some ⟨g1, 0, none⟩) ∧ F' 4 = .slice none 0 0 ∧ F' 5 = y1 ∧ F' 6 = .int .i64 ((i : Nat) : Int) ∧ F' 12 = .int .i64 ((b.length : Nat) : Int) ∧ F' 13 = .int .i64 ((i : Nat) : Int) ∧ F' 14 = .bool true ∧ F' 18 = .bool true) ⟨e0, e1, e2, e4, e5, e6, e12, e13, e14, e18⟩ ?_
      clear e0 e1 e2 e4 e5 e6 e12 e13 e14 e18
      clear F
      rintro F ⟨e0, e1, e2, e4, e5, e6, e12, e13, e14, e18⟩
      refine wp_regionF ?_
      refine lf_val (v := .int .i64 ((i + 1 : Nat) : Int)) (wantAll rfl) (rv_add rfl (fr_eval rfl e13) rfl (wrap_i64 (by omega) (by omega) (by omega))) ?_
      refine lf_val (v := .int .i64 ((i + 1 : Nat) : Int)) (wantAll rfl) (rv_move rfl (fr_eval rfl rfl)) ?_
      refine lf_nil ?_
      refine then_n ?_
      exact ⟨_, _, (by omega), rfl, i + 1, rfl, (by omega), e0, e1, e2, e4, e5, e12, rfl, hH⟩
    · refine lf_val (v := .bool false) (wantAll rfl) (rv_eql rfl (fr_eval rfl rfl) rfl (decide_eq_false (by omega))) ?_
      refine lf_nil ?_
      refine then_n ?_
      refine wp_gen (fun F' => F' 0 = .agg (cBs key).toArray ∧ F' 1 = v ∧ F' 2 = .pointer (some ⟨g1, 0, none⟩) ∧ F' 4 = .slice none 0 0 ∧ F' 5 = y1 ∧ F' 6 = .int .i64 ((i : Nat) : Int) ∧ F' 12 = .int .i64 ((b.length : Nat) : Int) ∧ F' 13 = .int .i64 ((i : Nat) : Int) ∧ F' 14 = .bool true ∧ F' 18 = .bool false) ⟨e0, e1, e2, e4, e5, e6, e12, e13, e14, rfl⟩ ?_
      clear e0 e1 e2 e4 e5 e6 e12 e13 e14
      clear F
      rintro F ⟨e0, e1, e2, e4, e5, e6, e12, e13, e14, e18⟩
      refine wp_cut (fun F wr => F 0 = .agg (cBs key).toArray ∧ F 1 = v ∧ F 2 = .pointer (some ⟨g1, 0, none⟩) ∧ F 4 = .slice none 0 0 ∧ F 5 = y1 ∧ F 6 = .int .i64 ((i : Nat) : Int) ∧ F 12 = .int .i64 ((b.length : Nat) : Int) ∧ F 13 = .int .i64 ((i : Nat) : Int) ∧ F 14 = .bool true ∧ F 18 = .bool false ∧ Heap (newN w) w wr [oBlk g1 (cBs key) 26, oB y1 (st key b i (32 * ((i + 1 + 31) / 32)))]) ?_ ?_
      · refine wp_cond_false (fr_eval rfl e18) ?_
        refine wp_skip ?_
        replace hH : Heap (newN w) w w3 [oBlk g1 (cBs key) 26, oB y1 (st key b i (32 * ((i + 1 + 31) / 32)))] := by have e : st key b i (32 * ((i + 31) / 32)) = st key b i (32 * ((i + 1 + 31) / 32)) := st_same (fun k _ _ => by omega); rw [← e]; exact hH
        exact ⟨_, rfl, e0, e1, e2, e4, e5, e6, e12, e13, e14, e18, hH⟩
      clear e0 e1 e2 e4 e5 e6 e12 e13 e14 e18 hH
      clear F
      rintro F w15 ⟨e0, e1, e2, e4, e5, e6, e12, e13, e14, e18, hH⟩
      refine then_n ?_
      refine wp_regionX (fun _ => False) 8 (by kernel_rfl) (by kernel_rfl) ?_
      refine xl_take (i := 0) (v := y1) rfl (by kernel_rfl) (by kernel_rfl) (by kernel_rfl) (by kernel_rfl) (yx_val (wantAll rfl) (fun w' hx' => rv_move rfl (fr_eval rfl e5))) ?_
      refine xl_take (i := 1) (v := .int .i64 ((i : Nat) : Int)) rfl (by kernel_rfl) (by kernel_rfl) (by kernel_rfl) (by kernel_rfl) (yx_val (wantAll rfl) (fun w' hx' => rv_move rfl (fr_eval rfl e6))) ?_
      refine xl_take (i := 2) (v := .pointer (some (elemA y1 (i * 1)))) rfl (by kernel_rfl) (by kernel_rfl) (by kernel_rfl) (by kernel_rfl) (yx_val (wantAll rfl) (fun w' hx' => rv_index rfl (fr_eval rfl rfl) (fr_eval rfl rfl) (RdB.rn (OwnB.rd ((hH.ext hx').own (i := 1) rfl)) (st_len _ _ _ _)) (show i < b.length from (by omega)) Try.underlying22 Try.sz5 (by decide))) ?_
      refine xl_take (i := 3) (v := cB (List.getD (st key b i (32 * ((i + 1 + 31) / 32))) i (0 : UInt8))) rfl (by kernel_rfl) (by kernel_rfl) (by kernel_rfl) (by kernel_rfl) (yx_val (wantAll rfl) (fun w' hx' => rv_loadCell rfl (fr_eval rfl rfl) (Nat.mul_one _) (OwnB.rd ((hH.ext hx').own (i := 1) rfl)) (cell_b rfl (Nat.lt_of_lt_of_eq (show i < b.length from (by omega)) ((st_len _ _ _ _)).symm)) Try.underlying5 rfl Try.sz5)) ?_
      refine xl_take (i := 4) (v := v) rfl (by kernel_rfl) (by kernel_rfl) (by kernel_rfl) (by kernel_rfl) (yx_val (wantAll rfl) (fun w' hx' => rv_move rfl (fr_eval rfl e1))) ?_
      refine xl_take (i := 5) (v := .int .i64 ((i : Nat) : Int)) rfl (by kernel_rfl) (by kernel_rfl) (by kernel_rfl) (by kernel_rfl) (yx_val (wantAll rfl) (fun w' hx' => rv_move rfl (fr_eval rfl e6))) ?_
      refine xl_take (i := 6) (v := .pointer (some (elemA v (i * 1)))) rfl (by kernel_rfl) (by kernel_rfl) (by kernel_rfl) (by kernel_rfl) (yx_val (wantAll rfl) (fun w' hx' => rv_index rfl (fr_eval rfl rfl) (fr_eval rfl rfl) (RdB.rn (hr.rd _ (hH.chg.trans (Ext.any hx'))) rfl) (show i < b.length from (by omega)) Try.underlying22 Try.sz5 (by decide))) ?_
      refine xl_take (i := 7) (v := cB (List.getD b i (0 : UInt8))) rfl (by kernel_rfl) (by kernel_rfl) (by kernel_rfl) (by kernel_rfl) (yx_val (wantAll rfl) (fun w' hx' => rv_loadCell rfl (fr_eval rfl rfl) (Nat.mul_one _) (hr.rd _ (hH.chg.trans (Ext.any hx'))) (cell_b rfl (show i < b.length from (by omega))) Try.underlying5 rfl Try.sz5)) ?_
      refine xl_tail (s := 8) rfl ?_
      intro w16 hx
      replace hH := hH.ext hx
      clear hx
      refine lf_val (v := cB ((List.getD (st key b i (32 * ((i + 1 + 31) / 32))) i (0 : UInt8)) ^^^ (List.getD b i (0 : UInt8)))) (wantAll rfl) (rv_xor rfl (fr_eval rfl rfl) (fr_eval rfl rfl) (xor_u8 _ _)) ?_
      refine lf_val (v := .pointer (some (elemA y1 (i * 1)))) (wantAll rfl) (rv_index rfl (fr_eval rfl rfl) (fr_eval rfl rfl) (RdB.rn (OwnB.rd (hH.own (i := 1) rfl)) (st_len _ _ _ _)) (show i < b.length from (by omega)) Try.underlying22 Try.sz5 (by decide)) ?_
      refine lf_sk (wantAll rfl) (hx_setC hH (i := 1) (nm := List.length (List.set (st key b i (32 * ((i + 1 + 31) / 32))) i ((List.getD (st key b i (32 * ((i + 1 + 31) / 32))) i (0 : UInt8)) ^^^ (List.getD b i (0 : UInt8))))) (j := i) (xs' := cBs (List.set (st key b i (32 * ((i + 1 + 31) / 32))) i ((List.getD (st key b i (32 * ((i + 1 + 31) / 32))) i (0 : UInt8)) ^^^ (List.getD b i (0 : UInt8))))) rfl rfl rfl (List.length_set ..).symm (Nat.lt_of_lt_of_eq (by omega) ((st_len _ _ _ _)).symm) (cBs_set _ _ _) (fr_eval rfl rfl) (fr_eval rfl rfl) Try.sz5 rfl) ?_
      clear hH
      rintro w18 ⟨hH, hx⟩
      replace hH : Heap (newN w) w w18 [oBlk g1 (cBs key) 26, oB y1 (List.set (st key b i (32 * ((i + 1 + 31) / 32))) i ((List.getD (st key b i (32 * ((i + 1 + 31) / 32))) i (0 : UInt8)) ^^^ (List.getD b i (0 : UInt8))))] := hH
      replace hH : Heap (newN w) w w18 [oBlk g1 (cBs key) 26, oB y1 (st key b (i + 1) (32 * ((i + 1 + 31) / 32)))] := by have e : List.set (st key b i (32 * ((i + 1 + 31) / 32))) i ((List.getD (st key b i (32 * ((i + 1 + 31) / 32))) i (0 : UInt8)) ^^^ (List.getD b i (0 : UInt8))) = st key b (i + 1) (32 * ((i + 1 + 31) / 32)) := st_set (by omega) (by omega); rw [e] at hH; exact hH
      clear hx
      refine lf_nil ?_
      refine blk_n ?_
      refine then_n ?_
      refine wp_gen (fun F' => F' 0 = .agg (cBs key).toArray ∧ F' 1 = v ∧ F' 2 = .pointer (some ⟨g1, 0, none⟩) ∧ F' 4 = .slice none 0 0 ∧ F' 5 = y1 ∧ F' 6 = .int .i64 ((i : Nat) : Int) ∧ F' 12 = .int .i64 ((b.length : Nat) : Int) ∧ F' 13 = .int .i64 ((i : Nat) : Int) ∧ F' 14 = .bool true ∧ F' 18 = .bool false) ⟨e0, e1, e2, e4, e5, e6, e12, e13, e14, e18⟩ ?_
      clear e0 e1 e2 e4 e5 e6 e12 e13 e14 e18
      clear F
      rintro F ⟨e0, e1, e2, e4, e5, e6, e12, e13, e14, e18⟩
      refine wp_regionF ?_
      refine lf_val (v := .int .i64 ((i + 1 : Nat) : Int)) (wantAll rfl) (rv_add rfl (fr_eval rfl e13) rfl (wrap_i64 (by omega) (by omega) (by omega))) ?_
      refine lf_val (v := .int .i64 ((i + 1 : Nat) : Int)) (wantAll rfl) (rv_move rfl (fr_eval rfl rfl)) ?_
      refine lf_nil ?_
      refine then_n ?_
      exact ⟨_, _, (by omega), rfl, i + 1, rfl, (by omega), e0, e1, e2, e4, e5, e12, rfl, hH⟩
  · refine lf_val (v := .bool false) (wantAll rfl) (rv_lss rfl (fr_eval rfl e13) (fr_eval rfl e12) (decide_eq_false (by omega))) ?_
    refine lf_nil ?_
    refine then_n ?_
    refine wp_seq ?_
    refine wp_gen (fun F' => F' 0 = .agg (cBs key).toArray ∧ F' 1 = v ∧ F' 2 = .pointer (some ⟨g1, 0, none⟩) ∧ F' 4 = .slice none 0 0 ∧ F' 5 = y1 ∧ F' 12 = .int .i64 ((b.length : Nat) : Int) ∧ F' 13 = .int .i64 ((i : Nat) : Int) ∧ F' 14 = .bool false) ⟨e0, e1, e2, e4, e5, e12, e13, rfl⟩ ?_
    clear e0 e1 e2 e4 e5 e12 e13
    clear F
    rintro F ⟨e0, e1, e2, e4, e5, e12, e13, e14⟩
    refine wp_cond_false (fr_eval rfl e14) ?_
    refine wp_exit ?_
    refine then_exit ?_
    refine then_exit ?_
    refine blk_exit ?_
    refine then_n ?_
    refine wp_seq ?_
    obtain rfl : i = b.length := by omega
    replace hH : Heap (newN w) w w3 [oBlk g1 (cBs key) 26, oB y1 (cov key b)] := by have e : st key b b.length (32 * ((b.length + 31) / 32)) = cov key b := st_end key b _; rw [← e]; exact hH
    refine wp_regionF ?_
    refine lf_val (v := y1) (wantAll rfl) (rv_move rfl (fr_eval rfl e5)) ?_
    refine lf_val (v := y1) (wantAll rfl) (rv_assign rfl (fr_eval rfl rfl)) ?_
    refine lf_nil ?_
    refine then_n ?_
    refine wp_gen (fun F' => F' 0 = .agg (cBs key).toArray ∧ F' 1 = v ∧ F' 2 = .pointer (some ⟨g1, 0, none⟩) ∧ F' 4 = y1 ∧ F' 5 = y1 ∧ F' 12 = .int .i64 ((b.length : Nat) : Int) ∧ F' 13 = .int .i64 ((b.length : Nat) : Int) ∧ F' 14 = .bool false) ⟨e0, e1, e2, rfl, e5, e12, e13, e14⟩ ?_
    clear e0 e1 e2 e4 e5 e12 e13 e14
    clear F
    rintro F ⟨e0, e1, e2, e4, e5, e12, e13, e14⟩
    refine wp_ret ?_
    exact bodyPost_ret (v := y1) (res1 rfl (ro_tmp rfl e4)) rfl (⟨⟨_, rfl, hH.own (i := 1) rfl, hH.ge (i := 1) rfl⟩, hH.done⟩)

set_option maxRecDepth 100000 in
set_option maxHeartbeats 1000000 in
theorem mark_calls (key : List UInt8) (hk : key.length = 32) (t : List UInt8) (ht : t.length ≤ 1000000) (v : Value) (w : World) (hr0 : RdB w v t) :
    Calls Try.prog 56 #[.agg (cBs key).toArray, v] w fun e'' w' => (∃ v', e'' = .returned v' ∧ RdB w' v' (vmark key t) ∧ ∀ k, v'.ownBlock = some k → w.heap.size ≤ k) ∧ Ext w w' := by
  refine calls_fr (args := [.agg (cBs key).toArray, v]) (n := 11) Try.func56 rfl rfl (show 2 ≤ 11 by decide) ?_
  have hr := Rd.stab hr0
  have hH : Heap (newN w) w w [] := Heap.fresh
  refine wp_seq ?_
  refine wp_gen (fun F' => F' 0 = .agg (cBs key).toArray ∧ F' 1 = v) ⟨rfl, rfl⟩ ?_
  rintro F ⟨e0, e1⟩
  refine wp_regionF ?_
  refine lf_ex (wantAll rfl) (hx_box hH 26 (cs := cBs key) rfl (fr_eval rfl e0) (by rfl)) ?_
  clear hH
  rintro _ w1 ⟨g1, rfl, hH, hx⟩
  replace hH : Heap (newN w) w w1 [oBlk g1 (cBs key) 26] := hH
  clear hx
  refine lf_val (v := .slice none 0 0) (wantAll rfl) (rv_assign rfl rfl) ?_
  refine lf_nil ?_
  refine then_n ?_
  refine wp_seq ?_
  refine wp_gen (fun F' => F' 0 = .agg (cBs key).toArray ∧ F' 1 = v ∧ F' 2 = .pointer (some ⟨g1, 0, none⟩) ∧ F' 4 = .slice none 0 0) ⟨e0, e1, rfl, rfl⟩ ?_
  clear e0 e1
  clear F
  rintro F ⟨e0, e1, e2, e4⟩
  refine wp_regionF ?_
  refine lf_val (v := .slice (some ⟨g1, 0, none⟩) 32 32) (wantAll rfl) (rv_sliceArr rfl (fr_eval rfl e2) Try.underlying26 Try.sz5 (by decide)) ?_
  refine lf_val (v := v) (wantAll rfl) (rv_move rfl (fr_eval rfl e1)) ?_
  refine lf_ex (wantAll rfl) (hx_lits hH Try.stBB (n := 2) (nm := 2) [(.tmp 6), (.tmp 7)] (vs := [.slice (some ⟨g1, 0, none⟩) 32 32, v]) rfl (evc (fr_eval rfl rfl) (evc (fr_eval rfl rfl) evn)) (ones_cons (Rd.oneV (rdB_blkn (hH.blk (i := 0) rfl) hk (by decide))) (ones_cons (Rd.oneV (hr.rd _ hH.chg)) ones_nil)) rfl (by decide) rfl rfl) ?_
  clear hH
  rintro y1 w2 ⟨hH, hx⟩
  replace hH : Heap (newN w) w w2 [oBlk g1 (cBs key) 26, oOwn 22 1 y1 2 [.slice (some ⟨g1, 0, none⟩) 32 32, v]] := hH
  clear hx
  refine lf_call (wantAll rfl) (rv_call (args := [cB 52, y1]) rfl (evc rfl (evc (fr_eval rfl rfl) evn)) Try.call20) (join_calls 52 [key, t] (flat3 hk _ ht) _ _ (rdP_own (hH.own (i := 1) rfl) (.cons (rdB_blkn (hH.blk (i := 0) rfl) hk (by decide)) (.cons (hr.rd _ hH.chg) .nil)) rfl)) ?_
  rintro _ w3 ⟨rfl, hx⟩
  refine ⟨_, rfl, ?_⟩
  replace hH := hH.ext hx
  clear hx
  refine lf_ex (wantAll rfl) (hx_alloc hH 26 (z := .agg (cBs (List.replicate 32 0)).toArray) (n := 32) (cs := cBs (List.replicate 32 0)) rfl (by kernel_rfl) (by rfl)) ?_
  clear hH
  rintro _ w4 ⟨g2, rfl, hH, hx⟩
  replace hH : Heap (newN w) w w4 [oBlk g1 (cBs key) 26, oOwn 22 1 y1 2 [.slice (some ⟨g1, 0, none⟩) 32 32, v], oBlk g2 (cBs (List.replicate 32 0)) 26] := hH
  clear hx
  refine lf_sk (wantAll rfl) (hx_storeW hH (i := 2) (cs := cBs (join 52 [key, t])) rfl rfl rfl (fr_eval rfl rfl) (fr_eval rfl rfl) (sz_len Try.sz26 (cBs_len (join_length _ _))) (((cBs_len (List.length_replicate ..))).trans ((cBs_len (join_length _ _))).symm) ((cBs_one _))) ?_
  clear hH
  rintro w5 ⟨hH, hx⟩
  replace hH : Heap (newN w) w w5 [oBlk g1 (cBs key) 26, oOwn 22 1 y1 2 [.slice (some ⟨g1, 0, none⟩) 32 32, v], oBlk g2 (cBs (join 52 [key, t])) 26] := hH
  clear hx
  refine lf_nil ?_
  refine then_n ?_
  refine wp_seq ?_
  replace hH : Heap (newN w) w w5 [oBlk g1 (cBs key) 26, oBlk g2 (cBs (join 52 [key, t])) 26] := hH.drop (.cons_cons _ (.cons _ (.cons_cons _ .slnil)))
  refine wp_gen (fun F' => F' 0 = .agg (cBs key).toArray ∧ F' 1 = v ∧ F' 2 = .pointer (some ⟨g1, 0, none⟩) ∧ F' 4 = .slice none 0 0 ∧ F' 5 = .pointer (some ⟨g2, 0, none⟩)) ⟨e0, e1, e2, e4, rfl⟩ ?_
  clear e0 e1 e2 e4
  clear F
  rintro F ⟨e0, e1, e2, e4, e5⟩
  refine wp_regionF ?_
  refine lf_val (v := .slice (some ⟨g2, 0, none⟩) 16 32) (wantAll rfl) (rv_sliceArrH (h := 16) rfl (fr_eval rfl e5) (show _ = Value.int _ ((16 : Nat) : Int) from rfl) Try.underlying26 Try.sz5 (by decide) (by decide)) ?_
  refine lf_val (v := .slice (some ⟨g2, 0, none⟩) 16 32) (wantAll rfl) (rv_assign rfl (fr_eval rfl rfl)) ?_
  refine lf_nil ?_
  refine then_n ?_
  refine wp_gen (fun F' => F' 0 = .agg (cBs key).toArray ∧ F' 1 = v ∧ F' 2 = .pointer (some ⟨g1, 0, none⟩) ∧ F' 4 = .slice (some ⟨g2, 0, none⟩) 16 32 ∧ F' 5 = .pointer (some ⟨g2, 0, none⟩)) ⟨e0, e1, e2, rfl, e5⟩ ?_
  clear e0 e1 e2 e4 e5
  clear F
  rintro F ⟨e0, e1, e2, e4, e5⟩
  refine wp_ret ?_
  exact bodyPost_ret (v := (.slice (some ⟨g2, 0, none⟩) 16 32)) (res1 rfl (ro_tmp rfl e4)) rfl (⟨⟨_, rfl, (rdB_blkH (hH.blk (i := 1) rfl) (join_length _ _) (by decide)), fun k hk => by obtain rfl : g2 = k := Option.some.inj hk; exact hH.geB (i := 1) rfl⟩, hH.done⟩)

theorem close_v3 {key t : List UInt8} (h : 65536 < t.length) : [] = closeV key t := by unfold closeV; rw [if_pos h]
theorem close_v0 {key t : List UInt8} (h : ¬ 65536 < t.length) : vmark key t ++ cov key t = closeV key t := by unfold closeV; rw [if_neg h]
theorem close_e3 {t : List UInt8} {v : Value} (h : 65536 < t.length) : Ending.returned (.tuple #[v, .int .i64 3]) = .returned (.tuple #[v, .int .i64 (closeE t)]) := by unfold closeE; rw [if_pos h]
theorem close_e0 {t : List UInt8} {v : Value} (h : ¬ 65536 < t.length) : Ending.returned (.tuple #[v, .int .i64 0]) = .returned (.tuple #[v, .int .i64 (closeE t)]) := by unfold closeE; rw [if_neg h]
theorem open_e {key b : List UInt8} {v : Value} {e : Int} (h : openE key b = e) : Ending.returned (.tuple #[v, .int .i64 e]) = .returned (.tuple #[v, .int .i64 (openE key b)]) := by rw [h]
theorem open_v {key b : List UInt8} (h : ¬ openE key b = 0) : [] = openV key b := by unfold openV; rw [if_neg h]
theorem open_v0 {key b : List UInt8} (h : openE key b = 0) : cov key (b.drop 16) = openV key b := by unfold openV; rw [if_pos h]

set_option maxRecDepth 100000 in
set_option maxHeartbeats 1000000 in
theorem close_calls (key : List UInt8) (hk : key.length = 32) (t : List UInt8) (ht : t.length ≤ 100000) (v : Value) (w : World) (hr0 : RdB w v t) :
    Calls Try.prog 34 #[.agg (cBs key).toArray, v] w fun e'' w' => (∃ v', e'' = .returned (.tuple #[v', .int .i64 (closeE t)]) ∧ OwnB w' v' (closeV key t) ∧ ∀ k, v'.ownBlock = some k → w.heap.size ≤ k) ∧ Ext w w' := by
  refine calls_fr (args := [.agg (cBs key).toArray, v]) (n := 17) Try.func34 rfl rfl (show 2 ≤ 17 by decide) ?_
  have hr := Rd.stab hr0
  have hH : Heap (newN w) w w [] := Heap.fresh
  refine wp_seq ?_
  refine wp_gen (fun F' => F' 0 = .agg (cBs key).toArray ∧ F' 1 = v) ⟨rfl, rfl⟩ ?_
  rintro F ⟨e0, e1⟩
  refine wp_regionF ?_
  refine lf_ex (wantAll rfl) (hx_box hH 26 (cs := cBs key) rfl (fr_eval rfl e0) (by rfl)) ?_
  clear hH
  rintro _ w1 ⟨g1, rfl, hH, hx⟩
  replace hH : Heap (newN w) w w1 [oBlk g1 (cBs key) 26] := hH
  clear hx
  refine lf_val (v := .slice none 0 0) (wantAll rfl) (rv_assign rfl rfl) ?_
  refine lf_val (v := .int .i64 0) (wantAll rfl) (rv_assign rfl rfl) ?_
  refine lf_nil ?_
  refine then_n ?_
  refine wp_seq ?_
  refine wp_seq ?_
  refine wp_gen (fun F' => F' 0 = .agg (cBs key).toArray ∧ F' 1 = v ∧ F' 2 = .pointer (some ⟨g1, 0, none⟩) ∧ F' 4 = .slice none 0 0 ∧ F' 5 = .int .i64 0) ⟨e0, e1, rfl, rfl, rfl⟩ ?_
  clear e0 e1
  clear F
  rintro F ⟨e0, e1, e2, e4, e5⟩
  refine wp_regionF ?_
  refine lf_val (v := v) (wantAll rfl) (rv_move rfl (fr_eval rfl e1)) ?_
  refine lf_val (v := .int .i64 ((t.length : Nat) : Int)) (wantAll rfl) (rv_len rfl (fr_eval rfl rfl) (RdB.rn (hr.rd _ hH.chg) rfl) Try.underlying22) ?_
  by_cases hc1 : t.length > 65536
  · refine lf_val (v := .bool true) (wantAll rfl) (rv_gtr rfl (fr_eval rfl rfl) rfl (decide_eq_true (by omega))) ?_
    refine lf_nil ?_
    refine then_n ?_
    refine wp_gen (fun F' => F' 0 = .agg (cBs key).toArray ∧ F' 1 = v ∧ F' 2 = .pointer (some ⟨g1, 0, none⟩) ∧ F' 4 = .slice none 0 0 ∧ F' 5 = .int .i64 0 ∧ F' 8 = .bool true) ⟨e0, e1, e2, e4, e5, rfl⟩ ?_
    clear e0 e1 e2 e4 e5
    clear F
    rintro F ⟨e0, e1, e2, e4, e5, e8⟩
    refine wp_cond_true (fr_eval rfl e8) ?_
    refine wp_seq ?_
    refine wp_regionF ?_
    refine lf_val (v := .slice none 0 0) (wantAll rfl) (rv_assign rfl rfl) ?_
    refine lf_val (v := .int .i64 3) (wantAll rfl) (rv_assign rfl rfl) ?_
    refine lf_nil ?_
    refine then_n ?_
    refine wp_gen (fun F' => F' 0 = .agg (cBs key).toArray ∧ F' 1 = v ∧ F' 2 = .pointer (some ⟨g1, 0, none⟩) ∧ F' 4 = .slice none 0 0 ∧ F' 5 = .int .i64 3 ∧ F' 8 = .bool true) ⟨e0, e1, e2, rfl, rfl, e8⟩ ?_
    clear e0 e1 e2 e4 e5 e8
    clear F
    rintro F ⟨e0, e1, e2, e4, e5, e8⟩
    refine wp_ret ?_
    refine then_ret ?_
    exact bodyPost_ret (v := .tuple #[.slice none 0 0, .int .i64 3]) (res2 rfl (ro_tmp rfl e4) (ro_tmp rfl e5)) rfl (⟨⟨_, close_e3 (by omega), cons_app OwnB.nil (close_v3 (by omega)), ownBlock_nil⟩, hH.done⟩)
  · refine lf_val (v := .bool false) (wantAll rfl) (rv_gtr rfl (fr_eval rfl rfl) rfl (decide_eq_false (by omega))) ?_
    refine lf_nil ?_
    refine then_n ?_
    refine wp_gen (fun F' => F' 0 = .agg (cBs key).toArray ∧ F' 1 = v ∧ F' 2 = .pointer (some ⟨g1, 0, none⟩) ∧ F' 4 = .slice none 0 0 ∧ F' 5 = .int .i64 0 ∧ F' 8 = .bool false) ⟨e0, e1, e2, e4, e5, rfl⟩ ?_
    clear e0 e1 e2 e4 e5
    clear F
    rintro F ⟨e0, e1, e2, e4, e5, e8⟩
    refine wp_cond_false (fr_eval rfl e8) ?_
    refine wp_skip ?_
    refine then_n ?_
    refine wp_seq ?_
    refine wp_regionX (fun _ => False) 6 (by kernel_rfl) (by kernel_rfl) ?_
    refine xl_take (i := 0) (v := .agg (cBs key).toArray) rfl (by kernel_rfl) (by kernel_rfl) (by kernel_rfl) (by kernel_rfl) (yx_val (wantAll rfl) (fun w' hx' => rv_loadW rfl ((hH.ext hx').blk (i := 0) rfl) (fr_eval rfl e2) Try.underlying26 rfl (sz_len Try.sz26 (cBs_len hk)))) ?_
    refine xl_take (i := 1) (v := v) rfl (by kernel_rfl) (by kernel_rfl) (by kernel_rfl) (by kernel_rfl) (yx_val (wantAll rfl) (fun w' hx' => rv_move rfl (fr_eval rfl e1))) ?_
    refine xl_take (i := 4) (v := .agg (cBs key).toArray) rfl (by kernel_rfl) (by kernel_rfl) (by kernel_rfl) (by kernel_rfl) (yx_val (wantAll rfl) (fun w' hx' => rv_loadW rfl ((hH.ext hx').blk (i := 0) rfl) (fr_eval rfl e2) Try.underlying26 rfl (sz_len Try.sz26 (cBs_len hk)))) ?_
    refine xl_take (i := 5) (v := v) rfl (by kernel_rfl) (by kernel_rfl) (by kernel_rfl) (by kernel_rfl) (yx_val (wantAll rfl) (fun w' hx' => rv_move rfl (fr_eval rfl e1))) ?_
    refine anyX_ready (rs := [2]) (by kernel_rfl) ?_
    intro w2 hx
    replace hH := hH.ext hx
    clear hx
    refine (anyX_cons ?_ anyX_nil)
    refine xl_step (i := 2) rfl (wantAll rfl) ?_
    refine of_call (rv_call (args := [.agg (cBs key).toArray, v]) rfl (evc (fr_eval rfl rfl) (evc (fr_eval rfl rfl) evn)) Try.call56) (mark_calls key hk t (by omega) _ _ (hr.rd _ hH.chg)) ?_
    rintro _ w3 ⟨⟨y1, rfl, ho, hg⟩, hx⟩
    refine ⟨_, rfl, ?_⟩
    replace hH : Heap (newN w) w w3 [oBlk g1 (cBs key) 26, oRB y1 (vmark key t)] := hH.addRd hx hg (by simp [cBs_length, vmark_len]) ho
    clear ho hg
    refine ⟨hx, ?_⟩
    clear hx
    refine anyX_ready (rs := [3]) (by kernel_rfl) ?_
    intro w4 hx
    replace hH := hH.ext hx
    clear hx
    refine (anyX_cons ?_ anyX_nil)
    refine xl_step (i := 3) rfl (wantAll rfl) ?_
    refine of_ex (hx_appendN hH Try.stB (nm := (vmark key t).length) (xs' := cBs (vmark key t)) rfl rfl rfl (hH.rd (i := 1) rfl) rfl (fr_eval rfl rfl) (by rw [vmark_len]; decide)) ?_
    clear hH
    rintro y2 w5 ⟨hH, hx⟩
    replace hH : Heap (newN w) w w5 [oBlk g1 (cBs key) 26, oRB y1 (vmark key t), oB y2 (vmark key t)] := hH
    refine ⟨hx, ?_⟩
    clear hx
    refine xl_tail (s := 6) rfl ?_
    intro w6 hx
    replace hH := hH.ext hx
    clear hx
    refine lf_call (wantAll rfl) (rv_call (args := [.agg (cBs key).toArray, v]) rfl (evc (fr_eval rfl rfl) (evc (fr_eval rfl rfl) evn)) Try.call57) (cover_calls key hk t (by omega) _ _ (hr.rd _ hH.chg)) ?_
    rintro _ w7 ⟨⟨y3, rfl, ho, hg⟩, hx⟩
    refine ⟨_, rfl, ?_⟩
    replace hH : Heap (newN w) w w7 [oBlk g1 (cBs key) 26, oRB y1 (vmark key t), oB y2 (vmark key t), oB y3 (cov key t)] := hH.addOwn hx hg ho
    clear ho hg
    clear hx
    refine lf_ex (wantAll rfl) (hx_append hH Try.stB (i := 2) (xs' := cBs ((vmark key t) ++ (cov key t))) (nm := ((vmark key t) ++ (cov key t)).length) rfl rfl (fun _ => rfl) List.length_append.symm (cBs_append _ _).symm (OwnB.rd (hH.own (i := 3) rfl)) (fr_eval rfl rfl) (fr_eval rfl rfl) (by simp only [List.length_append, vmark_len, cov_len]; omega)) ?_
    clear hH
    rintro y4 w8 ⟨hH, hx⟩
    replace hH : Heap (newN w) w w8 [oBlk g1 (cBs key) 26, oRB y1 (vmark key t), oB y4 ((vmark key t) ++ (cov key t)), oB y3 (cov key t)] := hH
    clear hx
    refine lf_val (v := y4) (wantAll rfl) (rv_assign rfl (fr_eval rfl rfl)) ?_
    refine lf_val (v := .int .i64 0) (wantAll rfl) (rv_assign rfl rfl) ?_
    refine lf_nil ?_
    refine then_n ?_
    replace hH : Heap (newN w) w w8 [oBlk g1 (cBs key) 26, oB y4 ((vmark key t) ++ (cov key t))] := hH.drop (.cons_cons _ (.cons _ (.cons_cons _ (.cons _ .slnil))))
    refine wp_gen (fun F' => F' 0 = .agg (cBs key).toArray ∧ F' 1 = v ∧ F' 2 = .pointer (some ⟨g1, 0, none⟩) ∧ F' 4 = y4 ∧ F' 5 = .int .i64 0 ∧ F' 8 = .bool false) ⟨e0, e1, e2, rfl, rfl, e8⟩ ?_
    clear e0 e1 e2 e4 e5 e8
    clear F
    rintro F ⟨e0, e1, e2, e4, e5, e8⟩
    refine wp_ret ?_
    exact bodyPost_ret (v := .tuple #[y4, .int .i64 0]) (res2 rfl (ro_tmp rfl e4) (ro_tmp rfl e5)) rfl (⟨⟨_, close_e0 (by omega), cons_app (hH.own (i := 1) rfl) (close_v0 (by omega)), hH.ge (i := 1) rfl⟩, hH.done⟩)

set_option maxRecDepth 100000 in
set_option maxHeartbeats 1000000 in
theorem open_calls (key : List UInt8) (hk : key.length = 32) (b : List UInt8) (hb : b.length ≤ 1000000) (v : Value) (w : World) (hr0 : RdB w v b) :
    Calls Try.prog 35 #[.agg (cBs key).toArray, v] w fun e'' w' => (∃ v', e'' = .returned (.tuple #[v', .int .i64 (openE key b)]) ∧ OwnB w' v' (openV key b) ∧ ∀ k, v'.ownBlock = some k → w.heap.size ≤ k) ∧ Ext w w' := by
  refine calls_fr (args := [.agg (cBs key).toArray, v]) (n := 28) Try.func35 rfl rfl (show 2 ≤ 28 by decide) ?_
  have hr := Rd.stab hr0
  have hH : Heap (newN w) w w [] := Heap.fresh
  refine wp_seq ?_
  refine wp_gen (fun F' => F' 0 = .agg (cBs key).toArray ∧ F' 1 = v) ⟨rfl, rfl⟩ ?_
  rintro F ⟨e0, e1⟩
  refine wp_regionF ?_
  refine lf_ex (wantAll rfl) (hx_box hH 26 (cs := cBs key) rfl (fr_eval rfl e0) (by rfl)) ?_
  clear hH
  rintro _ w1 ⟨g1, rfl, hH, hx⟩
  replace hH : Heap (newN w) w w1 [oBlk g1 (cBs key) 26] := hH
  clear hx
  refine lf_val (v := .slice none 0 0) (wantAll rfl) (rv_assign rfl rfl) ?_
  refine lf_val (v := .int .i64 0) (wantAll rfl) (rv_assign rfl rfl) ?_
  refine lf_nil ?_
  refine then_n ?_
  refine wp_seq ?_
  refine wp_block ?_
  refine wp_seq ?_
  refine wp_gen (fun F' => F' 0 = .agg (cBs key).toArray ∧ F' 1 = v ∧ F' 2 = .pointer (some ⟨g1, 0, none⟩) ∧ F' 4 = .slice none 0 0 ∧ F' 5 = .int .i64 0) ⟨e0, e1, rfl, rfl, rfl⟩ ?_
  clear e0 e1
  clear F
  rintro F ⟨e0, e1, e2, e4, e5⟩
  refine wp_regionF ?_
  refine lf_val (v := v) (wantAll rfl) (rv_move rfl (fr_eval rfl e1)) ?_
  refine lf_val (v := .int .i64 ((b.length : Nat) : Int)) (wantAll rfl) (rv_len rfl (fr_eval rfl rfl) (RdB.rn (hr.rd _ hH.chg) rfl) Try.underlying22) ?_
  by_cases hc1 : b.length < 16
  · refine lf_val (v := .bool true) (wantAll rfl) (rv_lss rfl (fr_eval rfl rfl) rfl (decide_eq_true (by omega))) ?_
    refine lf_val (v := .bool true) (wantAll rfl) (rv_assign rfl (fr_eval rfl rfl)) ?_
    refine lf_nil ?_
    refine then_n ?_
    refine wp_gen (fun F' => F' 0 = .agg (cBs key).toArray ∧ F' 1 = v ∧ F' 2 = .pointer (some ⟨g1, 0, none⟩) ∧ F' 4 = .slice none 0 0 ∧ F' 5 = .int .i64 0 ∧ F' 7 = .bool true) ⟨e0, e1, e2, e4, e5, rfl⟩ ?_
    clear e0 e1 e2 e4 e5
    clear F
    rintro F ⟨e0, e1, e2, e4, e5, e7⟩
    refine wp_cond_true (fr_eval rfl e7) ?_
    refine wp_seq ?_
    have hE : openE key b = 2 := by unfold openE; rw [if_pos (by omega)]
    refine wp_regionF ?_
    refine lf_val (v := .slice none 0 0) (wantAll rfl) (rv_assign rfl rfl) ?_
    refine lf_val (v := .int .i64 2) (wantAll rfl) (rv_assign rfl rfl) ?_
    refine lf_nil ?_
    refine then_n ?_
    refine wp_gen (fun F' => F' 0 = .agg (cBs key).toArray ∧ F' 1 = v ∧ F' 2 = .pointer (some ⟨g1, 0, none⟩) ∧ F' 4 = .slice none 0 0 ∧ F' 5 = .int .i64 2 ∧ F' 7 = .bool true) ⟨e0, e1, e2, rfl, rfl, e7⟩ ?_
    clear e0 e1 e2 e4 e5 e7
    clear F
    rintro F ⟨e0, e1, e2, e4, e5, e7⟩
    refine wp_ret ?_
    refine blk_ret ?_
    refine then_ret ?_
    exact bodyPost_ret (v := .tuple #[.slice none 0 0, .int .i64 2]) (res2 rfl (ro_tmp rfl e4) (ro_tmp rfl e5)) rfl (⟨⟨_, open_e hE, cons_app OwnB.nil (open_v (by rw [hE]; decide)), ownBlock_nil⟩, hH.done⟩)
  · refine lf_val (v := .bool false) (wantAll rfl) (rv_lss rfl (fr_eval rfl rfl) rfl (decide_eq_false (by omega))) ?_
    refine lf_val (v := .bool false) (wantAll rfl) (rv_assign rfl (fr_eval rfl rfl)) ?_
    refine lf_nil ?_
    refine then_n ?_
    refine wp_gen (fun F' => F' 0 = .agg (cBs key).toArray ∧ F' 1 = v ∧ F' 2 = .pointer (some ⟨g1, 0, none⟩) ∧ F' 4 = .slice none 0 0 ∧ F' 5 = .int .i64 0 ∧ F' 7 = .bool false) ⟨e0, e1, e2, e4, e5, rfl⟩ ?_
    clear e0 e1 e2 e4 e5
    clear F
    rintro F ⟨e0, e1, e2, e4, e5, e7⟩
    refine wp_cond_false (fr_eval rfl e7) ?_
    refine wp_seq ?_
    refine wp_regionF ?_
    refine lf_val (v := v) (wantAll rfl) (rv_move rfl (fr_eval rfl e1)) ?_
    refine lf_val (v := .int .i64 ((b.length : Nat) : Int)) (wantAll rfl) (rv_len rfl (fr_eval rfl rfl) (RdB.rn (hr.rd _ hH.chg) rfl) Try.underlying22) ?_
    by_cases hc2 : b.length > 65552
    · refine lf_val (v := .bool true) (wantAll rfl) (rv_gtr rfl (fr_eval rfl rfl) rfl (decide_eq_true (by omega))) ?_
      refine lf_val (v := .bool true) (wantAll rfl) (rv_assign rfl (fr_eval rfl rfl)) ?_
      refine lf_nil ?_
      refine then_n ?_
      refine wp_gen (fun F' => F' 0 = .agg (cBs key).toArray ∧ F' 1 = v ∧ F' 2 = .pointer (some ⟨g1, 0, none⟩) ∧ F' 4 = .slice none 0 0 ∧ F' 5 = .int .i64 0 ∧ F' 7 = .bool false ∧ F' 11 = .bool true) ⟨e0, e1, e2, e4, e5, e7, rfl⟩ ?_
      clear e0 e1 e2 e4 e5 e7
      clear F
      rintro F ⟨e0, e1, e2, e4, e5, e7, e11⟩
      refine wp_cond_true (fr_eval rfl e11) ?_
      refine wp_seq ?_
      have hE : openE key b = 3 := by unfold openE; rw [if_neg (by omega), if_pos (by omega)]
      refine wp_regionF ?_
      refine lf_val (v := .slice none 0 0) (wantAll rfl) (rv_assign rfl rfl) ?_
      refine lf_val (v := .int .i64 3) (wantAll rfl) (rv_assign rfl rfl) ?_
      refine lf_nil ?_
      refine then_n ?_
      refine wp_gen (fun F' => F' 0 = .agg (cBs key).toArray ∧ F' 1 = v ∧ F' 2 = .pointer (some ⟨g1, 0, none⟩) ∧ F' 4 = .slice none 0 0 ∧ F' 5 = .int .i64 3 ∧ F' 7 = .bool false ∧ F' 11 = .bool true) ⟨e0, e1, e2, rfl, rfl, e7, e11⟩ ?_
      clear e0 e1 e2 e4 e5 e7 e11
      clear F
      rintro F ⟨e0, e1, e2, e4, e5, e7, e11⟩
      refine wp_ret ?_
      refine blk_ret ?_
      refine then_ret ?_
      exact bodyPost_ret (v := .tuple #[.slice none 0 0, .int .i64 3]) (res2 rfl (ro_tmp rfl e4) (ro_tmp rfl e5)) rfl (⟨⟨_, open_e hE, cons_app OwnB.nil (open_v (by rw [hE]; decide)), ownBlock_nil⟩, hH.done⟩)
    · refine lf_val (v := .bool false) (wantAll rfl) (rv_gtr rfl (fr_eval rfl rfl) rfl (decide_eq_false (by omega))) ?_
      refine lf_val (v := .bool false) (wantAll rfl) (rv_assign rfl (fr_eval rfl rfl)) ?_
      refine lf_nil ?_
      refine then_n ?_
      refine wp_gen (fun F' => F' 0 = .agg (cBs key).toArray ∧ F' 1 = v ∧ F' 2 = .pointer (some ⟨g1, 0, none⟩) ∧ F' 4 = .slice none 0 0 ∧ F' 5 = .int .i64 0 ∧ F' 7 = .bool false ∧ F' 11 = .bool false) ⟨e0, e1, e2, e4, e5, e7, rfl⟩ ?_
      clear e0 e1 e2 e4 e5 e7
      clear F
      rintro F ⟨e0, e1, e2, e4, e5, e7, e11⟩
      refine wp_cond_false (fr_eval rfl e11) ?_
      refine wp_skip ?_
      refine blk_n ?_
      refine then_n ?_
      refine wp_seq ?_
      refine wp_regionX (fun _ => False) 3 (by kernel_rfl) (by kernel_rfl) ?_
      refine xl_take (i := 0) (v := .agg (cBs key).toArray) rfl (by kernel_rfl) (by kernel_rfl) (by kernel_rfl) (by kernel_rfl) (yx_val (wantAll rfl) (fun w' hx' => rv_loadW rfl ((hH.ext hx').blk (i := 0) rfl) (fr_eval rfl e2) Try.underlying26 rfl (sz_len Try.sz26 (cBs_len hk)))) ?_
      refine xl_take (i := 1) (v := v) rfl (by kernel_rfl) (by kernel_rfl) (by kernel_rfl) (by kernel_rfl) (yx_val (wantAll rfl) (fun w' hx' => rv_move rfl (fr_eval rfl e1))) ?_
      refine xl_take (i := 2) (v := slcV v 1 16 b.length) rfl (by kernel_rfl) (by kernel_rfl) (by kernel_rfl) (by kernel_rfl) (yx_val (wantAll rfl) (fun w' hx' => rv_slcL (l := 16) Try.stB rfl (fr_eval rfl rfl) (RdB.rn (hr.rd _ (hH.chg.trans (Ext.any hx'))) rfl) (show _ = Value.int _ ((16 : Nat) : Int) from rfl) (by omega))) ?_
      refine xl_tail (s := 3) rfl ?_
      intro w2 hx
      replace hH := hH.ext hx
      clear hx
      refine lf_call (wantAll rfl) (rv_call (args := [.agg (cBs key).toArray, slcV v 1 16 b.length]) rfl (evc (fr_eval rfl rfl) (evc (fr_eval rfl rfl) evn)) Try.call57) (cover_calls key hk (List.drop 16 b) (by simp only [cov_len, List.length_drop]; omega) _ _ (rdB_slcL (l := 16) (RdB.rn (hr.rd _ hH.chg) rfl) (by omega))) ?_
      rintro _ w3 ⟨⟨y1, rfl, ho, hg⟩, hx⟩
      refine ⟨_, rfl, ?_⟩
      replace hH : Heap (newN w) w w3 [oBlk g1 (cBs key) 26, oB y1 (cov key (List.drop 16 b))] := hH.addOwn hx hg ho
      clear ho hg
      clear hx
      refine lf_val (v := y1) (wantAll rfl) (rv_assign rfl (fr_eval rfl rfl)) ?_
      refine lf_nil ?_
      refine then_n ?_
      refine wp_seq ?_
      refine wp_seq ?_
      refine wp_gen (fun F' => F' 0 = .agg (cBs key).toArray ∧ F' 1 = v ∧ F' 2 = .pointer (some ⟨g1, 0, none⟩) ∧ F' 4 = .slice none 0 0 ∧ F' 5 = .int .i64 0 ∧ F' 6 = y1 ∧ F' 7 = .bool false ∧ F' 11 = .bool false) ⟨e0, e1, e2, e4, e5, rfl, e7, e11⟩ ?_
      clear e0 e1 e2 e4 e5 e7 e11
      clear F
      rintro F ⟨e0, e1, e2, e4, e5, e6, e7, e11⟩
      refine wp_regionX (fun _ => False) 7 (by kernel_rfl) (by kernel_rfl) ?_
      refine xl_take (i := 0) (v := .agg (cBs key).toArray) rfl (by kernel_rfl) (by kernel_rfl) (by kernel_rfl) (by kernel_rfl) (yx_val (wantAll rfl) (fun w' hx' => rv_loadW rfl ((hH.ext hx').blk (i := 0) rfl) (fr_eval rfl e2) Try.underlying26 rfl (sz_len Try.sz26 (cBs_len hk)))) ?_
      refine xl_take (i := 1) (v := y1) rfl (by kernel_rfl) (by kernel_rfl) (by kernel_rfl) (by kernel_rfl) (yx_val (wantAll rfl) (fun w' hx' => rv_move rfl (fr_eval rfl e6))) ?_
      refine xl_take (i := 4) (v := v) rfl (by kernel_rfl) (by kernel_rfl) (by kernel_rfl) (by kernel_rfl) (yx_val (wantAll rfl) (fun w' hx' => rv_move rfl (fr_eval rfl e1))) ?_
      refine xl_take (i := 5) (v := slcV v 1 0 16) rfl (by kernel_rfl) (by kernel_rfl) (by kernel_rfl) (by kernel_rfl) (yx_val (wantAll rfl) (fun w' hx' => rv_slcH (h := 16) Try.stB rfl (fr_eval rfl rfl) (RdB.rn (hr.rd _ (hH.chg.trans (Ext.any hx'))) rfl) (show _ = Value.int _ ((16 : Nat) : Int) from rfl) (by omega))) ?_
      refine xl_take (i := 6) (v := .string ⟨(List.take 16 b).toArray⟩) rfl (by kernel_rfl) (by kernel_rfl) (by kernel_rfl) (by kernel_rfl) (yx_val (wantAll rfl) (fun w' hx' => rv_str rfl (fr_eval rfl rfl) (rdB_slcH (h := 16) (RdB.rn (hr.rd _ (hH.chg.trans (Ext.any hx'))) rfl) (by omega)) Try.underlying22 Try.underlying5 Try.underlying9)) ?_
      refine anyX_ready (rs := [2]) (by kernel_rfl) ?_
      intro w4 hx
      replace hH := hH.ext hx
      clear hx
      refine (anyX_cons ?_ anyX_nil)
      refine xl_step (i := 2) rfl (wantAll rfl) ?_
      refine of_call (rv_call (args := [.agg (cBs key).toArray, y1]) rfl (evc (fr_eval rfl rfl) (evc (fr_eval rfl rfl) evn)) Try.call56) (mark_calls key hk (cov key (List.drop 16 b)) (by simp only [cov_len, List.length_drop]; omega) _ _ (OwnB.rd (hH.own (i := 1) rfl))) ?_
      rintro _ w5 ⟨⟨y2, rfl, ho, hg⟩, hx⟩
      refine ⟨_, rfl, ?_⟩
      replace hH : Heap (newN w) w w5 [oBlk g1 (cBs key) 26, oB y1 (cov key (List.drop 16 b)), oRB y2 (vmark key (cov key (List.drop 16 b)))] := hH.addRd hx hg (by simp [cBs_length, vmark_len]) ho
      clear ho hg
      refine ⟨hx, ?_⟩
      clear hx
      refine xl_take (i := 3) (v := .string ⟨(vmark key (cov key (List.drop 16 b))).toArray⟩) rfl (by kernel_rfl) (by kernel_rfl) (by kernel_rfl) (by kernel_rfl) (yx_val (wantAll rfl) (fun w' hx' => rv_str rfl (fr_eval rfl rfl) ((hH.ext hx').rd (i := 2) rfl) Try.underlying22 Try.underlying5 Try.underlying9)) ?_
      refine xl_tail (s := 7) rfl ?_
      intro w6 hx
      replace hH := hH.ext hx
      clear hx
      refine lf_val (v := .bool (!(decide (vmark key (cov key (List.drop 16 b)) = List.take 16 b)))) (wantAll rfl) (rv_nes (b := (decide (vmark key (cov key (List.drop 16 b)) = List.take 16 b))) rfl (fr_eval rfl rfl) (fr_eval rfl rfl) rfl) ?_
      refine lf_nil ?_
      refine then_n ?_
      replace hH : Heap (newN w) w w6 [oBlk g1 (cBs key) 26, oB y1 (cov key (List.drop 16 b))] := hH.drop (.cons_cons _ (.cons_cons _ (.cons _ .slnil)))
      refine wp_gen (fun F' => F' 0 = .agg (cBs key).toArray ∧ F' 1 = v ∧ F' 2 = .pointer (some ⟨g1, 0, none⟩) ∧ F' 4 = .slice none 0 0 ∧ F' 5 = .int .i64 0 ∧ F' 6 = y1 ∧ F' 7 = .bool false ∧ F' 11 = .bool false ∧ F' 26 = .bool (!(decide (vmark key (cov key (List.drop 16 b)) = List.take 16 b)))) ⟨e0, e1, e2, e4, e5, e6, e7, e11, rfl⟩ ?_
      clear e0 e1 e2 e4 e5 e6 e7 e11
      clear F
      rintro F ⟨e0, e1, e2, e4, e5, e6, e7, e11, e26⟩
      cases hb1 : !(decide (vmark key (cov key (List.drop 16 b)) = List.take 16 b))
      · refine wp_cond_false (fr_eval rfl (e26.trans (by rw [hb1]))) ?_
        refine wp_skip ?_
        refine then_n ?_
        refine wp_seq ?_
        have hE : openE key b = 0 := by
          unfold openE; rw [if_neg (by omega), if_neg (by omega), if_pos (by simpa using hb1)]
        refine wp_regionF ?_
        refine lf_val (v := y1) (wantAll rfl) (rv_move rfl (fr_eval rfl e6)) ?_
        refine lf_val (v := y1) (wantAll rfl) (rv_assign rfl (fr_eval rfl rfl)) ?_
        refine lf_val (v := .int .i64 0) (wantAll rfl) (rv_assign rfl rfl) ?_
        refine lf_nil ?_
        refine then_n ?_
        refine wp_gen (fun F' => F' 0 = .agg (cBs key).toArray ∧ F' 1 = v ∧ F' 2 = .pointer (some ⟨g1, 0, none⟩) ∧ F' 4 = y1 ∧ F' 5 = .int .i64 0 ∧ F' 6 = y1 ∧ F' 7 = .bool false ∧ F' 11 = .bool false ∧ F' 26 = .bool false) ⟨e0, e1, e2, rfl, rfl, e6, e7, e11, (e26.trans (by rw [hb1]))⟩ ?_
        clear e0 e1 e2 e4 e5 e6 e7 e11 e26
        clear F
        rintro F ⟨e0, e1, e2, e4, e5, e6, e7, e11, e26⟩
        refine wp_ret ?_
        exact bodyPost_ret (v := .tuple #[y1, .int .i64 0]) (res2 rfl (ro_tmp rfl e4) (ro_tmp rfl e5)) rfl (⟨⟨_, open_e hE, cons_app (hH.own (i := 1) rfl) (open_v0 hE), hH.ge (i := 1) rfl⟩, hH.done⟩)
      · refine wp_cond_true (fr_eval rfl (e26.trans (by rw [hb1]))) ?_
        refine wp_seq ?_
        have hE : openE key b = 4 := by
          unfold openE; rw [if_neg (by omega), if_neg (by omega), if_neg (fun h => by rw [decide_eq_true h] at hb1; cases hb1)]
        refine wp_regionF ?_
        refine lf_val (v := .slice none 0 0) (wantAll rfl) (rv_assign rfl rfl) ?_
        refine lf_val (v := .int .i64 4) (wantAll rfl) (rv_assign rfl rfl) ?_
        refine lf_nil ?_
        refine then_n ?_
        refine wp_gen (fun F' => F' 0 = .agg (cBs key).toArray ∧ F' 1 = v ∧ F' 2 = .pointer (some ⟨g1, 0, none⟩) ∧ F' 4 = .slice none 0 0 ∧ F' 5 = .int .i64 4 ∧ F' 6 = y1 ∧ F' 7 = .bool false ∧ F' 11 = .bool false ∧ F' 26 = .bool true) ⟨e0, e1, e2, rfl, rfl, e6, e7, e11, (e26.trans (by rw [hb1]))⟩ ?_
        clear e0 e1 e2 e4 e5 e6 e7 e11 e26
        clear F
        rintro F ⟨e0, e1, e2, e4, e5, e6, e7, e11, e26⟩
        refine wp_ret ?_
        refine then_ret ?_
        exact bodyPost_ret (v := .tuple #[.slice none 0 0, .int .i64 4]) (res2 rfl (ro_tmp rfl e4) (ro_tmp rfl e5)) rfl (⟨⟨_, open_e hE, cons_app OwnB.nil (open_v (by rw [hE]; decide)), ownBlock_nil⟩, hH.done⟩)

end Go.Proofs.Yticaefnpapppoaa
