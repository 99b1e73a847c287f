/- Chapter 2's laws: the walks of ShaSums and ShaJoins. -/
import Derived.Test.YticaefnpapppoaaRef02b
import Derived.Test.YticaefnpapppoaaHeap2
import Derived.Test.YticaefnpapppoaaShaJoin
namespace Go.Proofs.Yticaefnpapppoaa
open Go.RowKit Go.Bz Go.Bz.Sha
attribute [local irreducible] wpList Code.wp wpAnyX
theorem join02P {tag : UInt8} {ls : List (List UInt8)} (hb : (flat ls).length ≤ 900000) {v : Value} {w : World} (h : RdP w v ls) : Calls Try.prog 21 #[cB tag, v] w fun e'' w' => (∃ v', e'' = .returned v' ∧ OwnB w' v' (join tag ls) ∧ ∀ k, v'.ownBlock = some k → w.heap.size ≤ k) ∧ Ext w w' := by
  obtain ⟨vs, h1, h2⟩ := h
  exact join02_calls tag ls hb vs v w h1 h2
theorem all2_at {N : Nat → Prop} {w0 w : World} {l : List V1} {ms : List (List UInt8)} (h : All2 (fun (x : V1) b => StabB N w0 x.1 b) l ms) (hc : Chg N w0 w) : All2 (RdB w) (l.map (·.1)) ms := by
  induction h with
  | nil => exact .nil
  | cons h _ ih => exact .cons (h.rd _ hc) ih
theorem all2_next {α β γ : Type} {R : α → γ → Prop} {g : β → γ} {l : List α} {ls : List β} {i : Nat} {x : α} (hi : i < ls.length) (h : All2 R l ((ls.take i).map g)) (hx : R x (g ls[i])) : All2 R (l ++ [x]) ((ls.take (i + 1)).map g) := by
  rw [List.take_succ_eq_append_getElem hi, List.map_append]
  exact All2.snoc h hx
theorem stab_cut {N : Nat → Prop} {w0 : World} {v : Value} {b : List UInt8} {n : Nat} (h : StabB N w0 v b) : StabB N w0 (cutV v b n) (b.take n) :=
  ⟨fun _ hc => rdB_cut (h.rd _ hc), fun k hk h0 => h.out k (cutV_own ▸ hk) (by simp at h0 ⊢; omega)⟩
theorem _root_.Go.Bz.Stab.one {N : Nat → Prop} {w0 : World} {sz : Nat} {v : Value} {n : Nat} {xs : List Value} (h : Stab N w0 sz v n xs) : v.oneCell' = true := Rd.oneV (h.rd w0 (Chg.refl _ _))
theorem flat_cut (ls : List (List UInt8)) : (flat (ls.map (List.take 200))).length ≤ 204 * ls.length := by
  induction ls with
  | nil => simp [flat]
  | cons b ls ih =>
    simp only [List.map_cons, flat, List.length_append, be4_length, List.length_cons]
    have := List.length_take_le 200 b
    omega

set_option maxRecDepth 100000 in
set_option maxHeartbeats 4000000 in
theorem cutH02_calls (b : List UInt8) (v : Value) (w : World) (hr0 : RdB w v b) :
    Calls Try.prog 15 #[v] w fun e w' => e = .returned (cutV v b 200) ∧ Ext w w' := by
  refine calls_fr (args := [v]) (n := 9) Try.func15 rfl rfl (show 1 ≤ 9 by decide) ?_
  have hC : Ext w w := Chg.refl _ _
  have hr := hr0
  refine wp_seq ?_
  refine wp_gen (fun F' => F' 0 = v) rfl ?_
  rintro F e0
  refine wp_regionF ?_
  refine lf_val (v := .slice none 0 0) (wantAll rfl) (rv_assign rfl rfl) ?_
  refine lf_nil ?_
  refine then_n ?_
  refine wp_seq ?_
  refine wp_seq ?_
  refine wp_gen (fun F' => F' 0 = v ∧ F' 2 = .slice none 0 0) ⟨e0, rfl⟩ ?_
  clear e0
  clear F
  rintro F ⟨e0, e2⟩
  refine wp_regionF ?_
  refine lf_val (v := v) (wantAll rfl) (rv_move rfl (fr_eval rfl e0)) ?_
  refine lf_val (v := .int .i64 ((b.length : Nat) : Int)) (wantAll rfl) (rv_len rfl (fr_eval rfl rfl) (RdB.rn hr rfl) Try.underlying22) ?_
  by_cases hc1 : b.length > 200
  · refine lf_val (v := .bool true) (wantAll rfl) (rv_gtr rfl (fr_eval rfl rfl) rfl (decide_eq_true (by omega))) ?_
    refine lf_nil ?_
    refine then_n ?_
    refine wp_gen (fun F' => F' 0 = v ∧ F' 2 = .slice none 0 0 ∧ F' 5 = .bool true) ⟨e0, e2, rfl⟩ ?_
    clear e0 e2
    clear F
    rintro F ⟨e0, e2, e5⟩
    refine wp_cond_true (fr_eval rfl e5) ?_
    refine wp_seq ?_
    refine wp_regionF ?_
    refine lf_val (v := v) (wantAll rfl) (rv_move rfl (fr_eval rfl e0)) ?_
    refine lf_val (v := slcV v 1 0 200) (wantAll rfl) (rv_slcH (h := 200) Try.stB rfl (fr_eval rfl rfl) (RdB.rn hr rfl) (show _ = Value.int _ ((200 : Nat) : Int) from rfl) (by omega)) ?_
    refine lf_val (v := slcV v 1 0 200) (wantAll rfl) (rv_assign rfl (fr_eval rfl rfl)) ?_
    refine lf_nil ?_
    refine then_n ?_
    refine wp_gen (fun F' => F' 0 = v ∧ F' 2 = slcV v 1 0 200 ∧ F' 5 = .bool true) ⟨e0, rfl, e5⟩ ?_
    clear e0 e2 e5
    clear F
    rintro F ⟨e0, e2, e5⟩
    refine wp_ret ?_
    refine then_ret ?_
    exact bodyPost_ret (v := (slcV v 1 0 200)) (res1 rfl (ro_tmp rfl e2)) rfl (⟨(by unfold cutV; first | rw [if_pos (by omega)] | rw [if_neg (by omega)]), hC⟩)
  · refine lf_val (v := .bool false) (wantAll rfl) (rv_gtr rfl (fr_eval rfl rfl) rfl (decide_eq_false (by omega))) ?_
    refine lf_nil ?_
    refine then_n ?_
    refine wp_gen (fun F' => F' 0 = v ∧ F' 2 = .slice none 0 0 ∧ F' 5 = .bool false) ⟨e0, e2, rfl⟩ ?_
    clear e0 e2
    clear F
    rintro F ⟨e0, e2, e5⟩
    refine wp_cond_false (fr_eval rfl e5) ?_
    refine wp_skip ?_
    refine then_n ?_
    refine wp_seq ?_
    refine wp_regionF ?_
    refine lf_val (v := v) (wantAll rfl) (rv_move rfl (fr_eval rfl e0)) ?_
    refine lf_val (v := v) (wantAll rfl) (rv_assign rfl (fr_eval rfl rfl)) ?_
    refine lf_nil ?_
    refine then_n ?_
    refine wp_gen (fun F' => F' 0 = v ∧ F' 2 = v ∧ F' 5 = .bool false) ⟨e0, rfl, e5⟩ ?_
    clear e0 e2 e5
    clear F
    rintro F ⟨e0, e2, e5⟩
    refine wp_ret ?_
    exact bodyPost_ret (v := v) (res1 rfl (ro_tmp rfl e2)) rfl (⟨(by unfold cutV; first | rw [if_pos (by omega)] | rw [if_neg (by omega)]), hC⟩)

set_option maxRecDepth 100000 in
set_option maxHeartbeats 4000000 in
theorem same02_calls (s : List UInt8) (hs : s.length = 32) (b : List UInt8) (v : Value) (w : World) (hr0 : RdB w v b) :
    Calls Try.prog 16 #[.agg (cBs s).toArray, v] w fun e'' w' => e'' = .returned (.bool (decide (s = b))) ∧ Ext w w' := by
  refine calls_fr (args := [.agg (cBs s).toArray, v]) (n := 10) Try.func16 rfl rfl (show 2 ≤ 10 by decide) ?_
  have hr := Rd.stab hr0
  have hH : Heap (newN w) w w [] := Heap.fresh
  refine wp_seq ?_
  refine wp_gen (fun F' => F' 0 = .agg (cBs s).toArray ∧ F' 1 = v) ⟨rfl, rfl⟩ ?_
  rintro F ⟨e0, e1⟩
  refine wp_regionF ?_
  refine lf_ex (wantAll rfl) (hx_box hH 26 (cs := cBs s) rfl (fr_eval rfl e0) (by rfl)) ?_
  clear hH
  rintro _ w1 ⟨g1, rfl, hH, hx⟩
  replace hH : Heap (newN w) w w1 [oBlk g1 (cBs s) 26] := hH
  clear hx
  refine lf_val (v := .bool false) (wantAll rfl) (rv_assign rfl rfl) ?_
  refine lf_nil ?_
  refine then_n ?_
  refine wp_seq ?_
  refine wp_gen (fun F' => F' 0 = .agg (cBs s).toArray ∧ F' 1 = v ∧ F' 2 = .pointer (some ⟨g1, 0, none⟩) ∧ F' 4 = .bool false) ⟨e0, e1, rfl, rfl⟩ ?_
  clear e0 e1
  clear F
  rintro F ⟨e0, e1, e2, e4⟩
  refine wp_regionX (fun _ => False) 4 (by kernel_rfl) (by kernel_rfl) ?_
  refine xl_take (i := 0) (v := .slice (some ⟨g1, 0, none⟩) 32 32) rfl (by kernel_rfl) (by kernel_rfl) (by kernel_rfl) (by kernel_rfl) (yx_val (wantAll rfl) (fun w' hx' => rv_sliceArr rfl (fr_eval rfl e2) Try.underlying26 Try.sz5 (by decide))) ?_
  refine xl_take (i := 1) (v := .string ⟨(s).toArray⟩) rfl (by kernel_rfl) (by kernel_rfl) (by kernel_rfl) (by kernel_rfl) (yx_val (wantAll rfl) (fun w' hx' => rv_str rfl (fr_eval rfl rfl) (rdB_blkn ((hH.ext hx').blk (i := 0) rfl) hs (by decide)) Try.underlying22 Try.underlying5 Try.underlying9)) ?_
  refine xl_take (i := 2) (v := v) rfl (by kernel_rfl) (by kernel_rfl) (by kernel_rfl) (by kernel_rfl) (yx_val (wantAll rfl) (fun w' hx' => rv_move rfl (fr_eval rfl e1))) ?_
  refine xl_take (i := 3) (v := .string ⟨(b).toArray⟩) rfl (by kernel_rfl) (by kernel_rfl) (by kernel_rfl) (by kernel_rfl) (yx_val (wantAll rfl) (fun w' hx' => rv_str rfl (fr_eval rfl rfl) (hr.rd _ (hH.chg.trans (Ext.any hx'))) Try.underlying22 Try.underlying5 Try.underlying9)) ?_
  refine xl_tail (s := 4) rfl ?_
  intro w2 hx
  replace hH := hH.ext hx
  clear hx
  refine lf_val (v := .bool (decide (s = b))) (wantAll rfl) (rv_eqs (b := decide (s = b)) rfl (fr_eval rfl rfl) (fr_eval rfl rfl) rfl) ?_
  refine lf_val (v := .bool (decide (s = b))) (wantAll rfl) (rv_assign rfl (fr_eval rfl rfl)) ?_
  refine lf_nil ?_
  refine then_n ?_
  refine wp_gen (fun F' => F' 0 = .agg (cBs s).toArray ∧ F' 1 = v ∧ F' 2 = .pointer (some ⟨g1, 0, none⟩) ∧ F' 4 = .bool (decide (s = b))) ⟨e0, e1, e2, rfl⟩ ?_
  clear e0 e1 e2 e4
  clear F
  rintro F ⟨e0, e1, e2, e4⟩
  refine wp_ret ?_
  exact bodyPost_ret (v := (.bool (decide (s = b)))) (res1 rfl (ro_tmp rfl e4)) rfl (⟨rfl, hH.done⟩)

set_option maxRecDepth 100000 in
set_option maxHeartbeats 4000000 in
theorem awakeH02_calls (w : World) :
    Calls Try.prog 19 #[] w fun e'' w' => e'' = .returned (.bool true) ∧ Ext w w' := by
  refine calls_fr (args := []) (n := 28) Try.func19 rfl rfl (show 0 ≤ 28 by decide) ?_
  have hH : Heap (newN w) w w [] := Heap.fresh
  refine wp_seq ?_
  refine wp_gen (fun F' => True) trivial ?_
  rintro F _
  refine wp_regionF ?_
  refine lf_val (v := .bool false) (wantAll rfl) (rv_assign rfl rfl) ?_
  refine lf_nil ?_
  refine then_n ?_
  refine wp_seq ?_
  refine wp_gen (fun F' => F' 0 = .bool false) rfl ?_
  clear F
  rintro F e0
  refine wp_regionF ?_
  refine lf_ex (wantAll rfl) (hx_lits hH Try.stB (n := 3) (nm := List.length [97, 98, 99]) [(.const (cB 97)), (.const (cB 98)), (.const (cB 99))] (vs := [(cB 97), (cB 98), (cB 99)]) (cs := cBs [97, 98, 99]) rfl (evc rfl (evc rfl (evc rfl evn))) (cBs_one [97, 98, 99]) rfl (by decide) rfl rfl) ?_
  clear hH
  rintro y1 w1 ⟨hH, hx⟩
  replace hH : Heap (newN w) w w1 [oB y1 [97, 98, 99]] := hH
  clear hx
  refine lf_ex (wantAll rfl) (hx_mark hH (i := 0) (n := List.length [97, 98, 99]) (xs := cBs [97, 98, 99]) rfl rfl rfl (by decide) (cBs_one _) (fr_eval rfl rfl) Try.underlying22 Try.underlying5) ?_
  clear hH
  rintro _ w2 ⟨rfl, hH, hx⟩
  replace hH : Heap (newN w) w w2 [oRB y1 [97, 98, 99]] := hH
  clear hx
  refine lf_call (wantAll rfl) (rv_call (args := [y1]) rfl (evc (fr_eval rfl rfl) evn) Try.call17) (of_calls [97, 98, 99] (Nat.le_trans (show List.length [97, 98, 99] ≤ 3 from (Nat.le_of_eq rfl)) (by decide)) _ _ (hH.rd (i := 0) rfl)) ?_
  rintro _ w3 ⟨rfl, hx⟩
  refine ⟨_, rfl, ?_⟩
  replace hH := hH.ext hx
  clear hx
  refine lf_ex (wantAll rfl) (hx_alloc hH 26 (z := .agg (cBs (List.replicate 32 0)).toArray) (n := 32) (cs := cBs (List.replicate 32 0)) rfl (by kernel_rfl) (by rfl)) ?_
  clear hH
  rintro _ w4 ⟨g1, rfl, hH, hx⟩
  replace hH : Heap (newN w) w w4 [oRB y1 [97, 98, 99], oBlk g1 (cBs (List.replicate 32 0)) 26] := hH
  clear hx
  refine lf_sk (wantAll rfl) (hx_storeW hH (i := 1) (cs := cBs (sum [97, 98, 99])) rfl rfl rfl (fr_eval rfl rfl) (fr_eval rfl rfl) (sz_len Try.sz26 (cBs_len (sum_length _))) (((cBs_len (List.length_replicate ..))).trans ((cBs_len (sum_length _))).symm) (cBs_one _)) ?_
  clear hH
  rintro w5 ⟨hH, hx⟩
  replace hH : Heap (newN w) w w5 [oRB y1 [97, 98, 99], oBlk g1 (cBs (sum [97, 98, 99])) 26] := hH
  clear hx
  refine lf_nil ?_
  refine then_n ?_
  refine wp_seq ?_
  replace hH : Heap (newN w) w w5 [oBlk g1 (cBs (sum [97, 98, 99])) 26] := hH.drop (.cons _ (.cons_cons _ .slnil))
  refine wp_gen (fun F' => F' 0 = .bool false ∧ F' 1 = .pointer (some ⟨g1, 0, none⟩)) ⟨e0, rfl⟩ ?_
  clear e0
  clear F
  rintro F ⟨e0, e1⟩
  refine wp_regionF ?_
  refine lf_val (v := .pointer (some ⟨g1, 0, none⟩)) (wantAll rfl) ((show (execOp _ _).run _ _ = .ok (.value (.pointer (some ⟨g1, 0, none⟩))) _ from rv_indexArr (size := 1) (off := 0) (i := 0) rfl (fr_eval rfl e1) (show _ = Value.int _ ((0 : Nat) : Int) from rfl) (by decide) Try.underlying26 Try.sz5)) ?_
  refine lf_val (v := cB (List.getD (sum [97, 98, 99]) 0 0)) (wantAll rfl) (rv_load1 rfl (hH.blk (i := 0) rfl) (cell_b (k := 0) rfl (Nat.lt_of_lt_of_eq (show 0 < 32 by decide) ((sum_length _)).symm)) (fr_eval rfl rfl) Try.underlying5 rfl Try.sz5) ?_
  by_cases hc1 : (List.getD (sum [97, 98, 99]) 0 0).toNat = 186
  · refine lf_val (v := .bool true) (wantAll rfl) (rv_eql rfl (fr_eval rfl rfl) rfl (by decide +kernel : decide (((List.getD (sum [97, 98, 99]) 0 0).toNat : Int) = 186) = true)) ?_
    refine lf_val (v := .bool true) (wantAll rfl) (rv_move rfl (fr_eval rfl rfl)) ?_
    refine lf_val (v := .pointer (some ⟨g1, 1, none⟩)) (wantF (d := 8) rfl (by kernel_rfl) rfl rfl) ((show (execOp _ _).run _ _ = .ok (.value (.pointer (some ⟨g1, 1, none⟩))) _ from rv_indexArr (size := 1) (off := 0) (i := 1) rfl (fr_eval rfl e1) (show _ = Value.int _ ((1 : Nat) : Int) from rfl) (by decide) Try.underlying26 Try.sz5)) ?_
    refine lf_val (v := cB (List.getD (sum [97, 98, 99]) 1 0)) (wantF (d := 8) rfl (by kernel_rfl) rfl rfl) (rv_load1 rfl (hH.blk (i := 0) rfl) (cell_b (k := 1) rfl (Nat.lt_of_lt_of_eq (show 1 < 32 by decide) ((sum_length _)).symm)) (fr_eval rfl rfl) Try.underlying5 rfl Try.sz5) ?_
    by_cases hc2 : (List.getD (sum [97, 98, 99]) 1 0).toNat = 120
    · refine lf_val (v := .bool true) (wantF (d := 8) rfl (by kernel_rfl) rfl rfl) (rv_eql rfl (fr_eval rfl rfl) rfl (by decide +kernel : decide (((List.getD (sum [97, 98, 99]) 1 0).toNat : Int) = 120) = true)) ?_
      refine lf_val (v := .bool true) (wantAll rfl) (rv_pickT rfl (fr_eval rfl rfl) (fr_eval rfl rfl)) ?_
      refine lf_val (v := .bool true) (wantAll rfl) (rv_move rfl (fr_eval rfl rfl)) ?_
      refine lf_val (v := .pointer (some ⟨g1, 2, none⟩)) (wantF (d := 13) rfl (by kernel_rfl) rfl rfl) ((show (execOp _ _).run _ _ = .ok (.value (.pointer (some ⟨g1, 2, none⟩))) _ from rv_indexArr (size := 1) (off := 0) (i := 2) rfl (fr_eval rfl e1) (show _ = Value.int _ ((2 : Nat) : Int) from rfl) (by decide) Try.underlying26 Try.sz5)) ?_
      refine lf_val (v := cB (List.getD (sum [97, 98, 99]) 2 0)) (wantF (d := 13) rfl (by kernel_rfl) rfl rfl) (rv_load1 rfl (hH.blk (i := 0) rfl) (cell_b (k := 2) rfl (Nat.lt_of_lt_of_eq (show 2 < 32 by decide) ((sum_length _)).symm)) (fr_eval rfl rfl) Try.underlying5 rfl Try.sz5) ?_
      by_cases hc3 : (List.getD (sum [97, 98, 99]) 2 0).toNat = 22
      · refine lf_val (v := .bool true) (wantF (d := 13) rfl (by kernel_rfl) rfl rfl) (rv_eql rfl (fr_eval rfl rfl) rfl (by decide +kernel : decide (((List.getD (sum [97, 98, 99]) 2 0).toNat : Int) = 22) = true)) ?_
        refine lf_val (v := .bool true) (wantAll rfl) (rv_pickT rfl (fr_eval rfl rfl) (fr_eval rfl rfl)) ?_
        refine lf_val (v := .bool true) (wantAll rfl) (rv_move rfl (fr_eval rfl rfl)) ?_
        refine lf_val (v := .pointer (some ⟨g1, 3, none⟩)) (wantF (d := 18) rfl (by kernel_rfl) rfl rfl) ((show (execOp _ _).run _ _ = .ok (.value (.pointer (some ⟨g1, 3, none⟩))) _ from rv_indexArr (size := 1) (off := 0) (i := 3) rfl (fr_eval rfl e1) (show _ = Value.int _ ((3 : Nat) : Int) from rfl) (by decide) Try.underlying26 Try.sz5)) ?_
        refine lf_val (v := cB (List.getD (sum [97, 98, 99]) 3 0)) (wantF (d := 18) rfl (by kernel_rfl) rfl rfl) (rv_load1 rfl (hH.blk (i := 0) rfl) (cell_b (k := 3) rfl (Nat.lt_of_lt_of_eq (show 3 < 32 by decide) ((sum_length _)).symm)) (fr_eval rfl rfl) Try.underlying5 rfl Try.sz5) ?_
        by_cases hc4 : (List.getD (sum [97, 98, 99]) 3 0).toNat = 191
        · refine lf_val (v := .bool true) (wantF (d := 18) rfl (by kernel_rfl) rfl rfl) (rv_eql rfl (fr_eval rfl rfl) rfl (by decide +kernel : decide (((List.getD (sum [97, 98, 99]) 3 0).toNat : Int) = 191) = true)) ?_
          refine lf_val (v := .bool true) (wantAll rfl) (rv_pickT rfl (fr_eval rfl rfl) (fr_eval rfl rfl)) ?_
          refine lf_val (v := .bool true) (wantAll rfl) (rv_move rfl (fr_eval rfl rfl)) ?_
          refine lf_val (v := .pointer (some ⟨g1, 31, none⟩)) (wantF (d := 23) rfl (by kernel_rfl) rfl rfl) ((show (execOp _ _).run _ _ = .ok (.value (.pointer (some ⟨g1, 31, none⟩))) _ from rv_indexArr (size := 1) (off := 0) (i := 31) rfl (fr_eval rfl e1) (show _ = Value.int _ ((31 : Nat) : Int) from rfl) (by decide) Try.underlying26 Try.sz5)) ?_
          refine lf_val (v := cB (List.getD (sum [97, 98, 99]) 31 0)) (wantF (d := 23) rfl (by kernel_rfl) rfl rfl) (rv_load1 rfl (hH.blk (i := 0) rfl) (cell_b (k := 31) rfl (Nat.lt_of_lt_of_eq (show 31 < 32 by decide) ((sum_length _)).symm)) (fr_eval rfl rfl) Try.underlying5 rfl Try.sz5) ?_
          by_cases hc5 : (List.getD (sum [97, 98, 99]) 31 0).toNat = 173
          · refine lf_val (v := .bool true) (wantF (d := 23) rfl (by kernel_rfl) rfl rfl) (rv_eql rfl (fr_eval rfl rfl) rfl (by decide +kernel : decide (((List.getD (sum [97, 98, 99]) 31 0).toNat : Int) = 173) = true)) ?_
            refine lf_val (v := .bool true) (wantAll rfl) (rv_pickT rfl (fr_eval rfl rfl) (fr_eval rfl rfl)) ?_
            refine lf_val (v := .bool true) (wantAll rfl) (rv_assign rfl (fr_eval rfl rfl)) ?_
            refine lf_nil ?_
            refine then_n ?_
            refine wp_gen (fun F' => F' 0 = .bool true ∧ F' 1 = .pointer (some ⟨g1, 0, none⟩)) ⟨rfl, e1⟩ ?_
            clear e0 e1
            clear F
            rintro F ⟨e0, e1⟩
            refine wp_ret ?_
            exact bodyPost_ret (v := (.bool true)) (res1 rfl (ro_tmp rfl e0)) rfl (⟨rfl, hH.done⟩)
          · refine lf_val (v := .bool true) (wantF (d := 23) rfl (by kernel_rfl) rfl rfl) (rv_eql rfl (fr_eval rfl rfl) rfl (by decide +kernel : decide (((List.getD (sum [97, 98, 99]) 31 0).toNat : Int) = 173) = true)) ?_
            refine lf_val (v := .bool true) (wantAll rfl) (rv_pickT rfl (fr_eval rfl rfl) (fr_eval rfl rfl)) ?_
            refine lf_val (v := .bool true) (wantAll rfl) (rv_assign rfl (fr_eval rfl rfl)) ?_
            refine lf_nil ?_
            refine then_n ?_
            refine wp_gen (fun F' => F' 0 = .bool true ∧ F' 1 = .pointer (some ⟨g1, 0, none⟩)) ⟨rfl, e1⟩ ?_
            clear e0 e1
            clear F
            rintro F ⟨e0, e1⟩
            refine wp_ret ?_
            exact bodyPost_ret (v := (.bool true)) (res1 rfl (ro_tmp rfl e0)) rfl (⟨rfl, hH.done⟩)
        · refine lf_val (v := .bool true) (wantF (d := 18) rfl (by kernel_rfl) rfl rfl) (rv_eql rfl (fr_eval rfl rfl) rfl (by decide +kernel : decide (((List.getD (sum [97, 98, 99]) 3 0).toNat : Int) = 191) = true)) ?_
          refine lf_val (v := .bool true) (wantAll rfl) (rv_pickT rfl (fr_eval rfl rfl) (fr_eval rfl rfl)) ?_
          refine lf_val (v := .bool true) (wantAll rfl) (rv_move rfl (fr_eval rfl rfl)) ?_
          refine lf_val (v := .pointer (some ⟨g1, 31, none⟩)) (wantF (d := 23) rfl (by kernel_rfl) rfl rfl) ((show (execOp _ _).run _ _ = .ok (.value (.pointer (some ⟨g1, 31, none⟩))) _ from rv_indexArr (size := 1) (off := 0) (i := 31) rfl (fr_eval rfl e1) (show _ = Value.int _ ((31 : Nat) : Int) from rfl) (by decide) Try.underlying26 Try.sz5)) ?_
          refine lf_val (v := cB (List.getD (sum [97, 98, 99]) 31 0)) (wantF (d := 23) rfl (by kernel_rfl) rfl rfl) (rv_load1 rfl (hH.blk (i := 0) rfl) (cell_b (k := 31) rfl (Nat.lt_of_lt_of_eq (show 31 < 32 by decide) ((sum_length _)).symm)) (fr_eval rfl rfl) Try.underlying5 rfl Try.sz5) ?_
          by_cases hc6 : (List.getD (sum [97, 98, 99]) 31 0).toNat = 173
          · refine lf_val (v := .bool true) (wantF (d := 23) rfl (by kernel_rfl) rfl rfl) (rv_eql rfl (fr_eval rfl rfl) rfl (by decide +kernel : decide (((List.getD (sum [97, 98, 99]) 31 0).toNat : Int) = 173) = true)) ?_
            refine lf_val (v := .bool true) (wantAll rfl) (rv_pickT rfl (fr_eval rfl rfl) (fr_eval rfl rfl)) ?_
            refine lf_val (v := .bool true) (wantAll rfl) (rv_assign rfl (fr_eval rfl rfl)) ?_
            refine lf_nil ?_
            refine then_n ?_
            refine wp_gen (fun F' => F' 0 = .bool true ∧ F' 1 = .pointer (some ⟨g1, 0, none⟩)) ⟨rfl, e1⟩ ?_
            clear e0 e1
            clear F
            rintro F ⟨e0, e1⟩
            refine wp_ret ?_
            exact bodyPost_ret (v := (.bool true)) (res1 rfl (ro_tmp rfl e0)) rfl (⟨rfl, hH.done⟩)
          · refine lf_val (v := .bool true) (wantF (d := 23) rfl (by kernel_rfl) rfl rfl) (rv_eql rfl (fr_eval rfl rfl) rfl (by decide +kernel : decide (((List.getD (sum [97, 98, 99]) 31 0).toNat : Int) = 173) = true)) ?_
            refine lf_val (v := .bool true) (wantAll rfl) (rv_pickT rfl (fr_eval rfl rfl) (fr_eval rfl rfl)) ?_
            refine lf_val (v := .bool true) (wantAll rfl) (rv_assign rfl (fr_eval rfl rfl)) ?_
            refine lf_nil ?_
            refine then_n ?_
            refine wp_gen (fun F' => F' 0 = .bool true ∧ F' 1 = .pointer (some ⟨g1, 0, none⟩)) ⟨rfl, e1⟩ ?_
            clear e0 e1
            clear F
            rintro F ⟨e0, e1⟩
            refine wp_ret ?_
            exact bodyPost_ret (v := (.bool true)) (res1 rfl (ro_tmp rfl e0)) rfl (⟨rfl, hH.done⟩)
      · refine lf_val (v := .bool true) (wantF (d := 13) rfl (by kernel_rfl) rfl rfl) (rv_eql rfl (fr_eval rfl rfl) rfl (by decide +kernel : decide (((List.getD (sum [97, 98, 99]) 2 0).toNat : Int) = 22) = true)) ?_
        refine lf_val (v := .bool true) (wantAll rfl) (rv_pickT rfl (fr_eval rfl rfl) (fr_eval rfl rfl)) ?_
        refine lf_val (v := .bool true) (wantAll rfl) (rv_move rfl (fr_eval rfl rfl)) ?_
        refine lf_val (v := .pointer (some ⟨g1, 3, none⟩)) (wantF (d := 18) rfl (by kernel_rfl) rfl rfl) ((show (execOp _ _).run _ _ = .ok (.value (.pointer (some ⟨g1, 3, none⟩))) _ from rv_indexArr (size := 1) (off := 0) (i := 3) rfl (fr_eval rfl e1) (show _ = Value.int _ ((3 : Nat) : Int) from rfl) (by decide) Try.underlying26 Try.sz5)) ?_
        refine lf_val (v := cB (List.getD (sum [97, 98, 99]) 3 0)) (wantF (d := 18) rfl (by kernel_rfl) rfl rfl) (rv_load1 rfl (hH.blk (i := 0) rfl) (cell_b (k := 3) rfl (Nat.lt_of_lt_of_eq (show 3 < 32 by decide) ((sum_length _)).symm)) (fr_eval rfl rfl) Try.underlying5 rfl Try.sz5) ?_
        by_cases hc7 : (List.getD (sum [97, 98, 99]) 3 0).toNat = 191
        · refine lf_val (v := .bool true) (wantF (d := 18) rfl (by kernel_rfl) rfl rfl) (rv_eql rfl (fr_eval rfl rfl) rfl (by decide +kernel : decide (((List.getD (sum [97, 98, 99]) 3 0).toNat : Int) = 191) = true)) ?_
          refine lf_val (v := .bool true) (wantAll rfl) (rv_pickT rfl (fr_eval rfl rfl) (fr_eval rfl rfl)) ?_
          refine lf_val (v := .bool true) (wantAll rfl) (rv_move rfl (fr_eval rfl rfl)) ?_
          refine lf_val (v := .pointer (some ⟨g1, 31, none⟩)) (wantF (d := 23) rfl (by kernel_rfl) rfl rfl) ((show (execOp _ _).run _ _ = .ok (.value (.pointer (some ⟨g1, 31, none⟩))) _ from rv_indexArr (size := 1) (off := 0) (i := 31) rfl (fr_eval rfl e1) (show _ = Value.int _ ((31 : Nat) : Int) from rfl) (by decide) Try.underlying26 Try.sz5)) ?_
          refine lf_val (v := cB (List.getD (sum [97, 98, 99]) 31 0)) (wantF (d := 23) rfl (by kernel_rfl) rfl rfl) (rv_load1 rfl (hH.blk (i := 0) rfl) (cell_b (k := 31) rfl (Nat.lt_of_lt_of_eq (show 31 < 32 by decide) ((sum_length _)).symm)) (fr_eval rfl rfl) Try.underlying5 rfl Try.sz5) ?_
          by_cases hc8 : (List.getD (sum [97, 98, 99]) 31 0).toNat = 173
          · refine lf_val (v := .bool true) (wantF (d := 23) rfl (by kernel_rfl) rfl rfl) (rv_eql rfl (fr_eval rfl rfl) rfl (by decide +kernel : decide (((List.getD (sum [97, 98, 99]) 31 0).toNat : Int) = 173) = true)) ?_
            refine lf_val (v := .bool true) (wantAll rfl) (rv_pickT rfl (fr_eval rfl rfl) (fr_eval rfl rfl)) ?_
            refine lf_val (v := .bool true) (wantAll rfl) (rv_assign rfl (fr_eval rfl rfl)) ?_
            refine lf_nil ?_
            refine then_n ?_
            refine wp_gen (fun F' => F' 0 = .bool true ∧ F' 1 = .pointer (some ⟨g1, 0, none⟩)) ⟨rfl, e1⟩ ?_
            clear e0 e1
            clear F
            rintro F ⟨e0, e1⟩
            refine wp_ret ?_
            exact bodyPost_ret (v := (.bool true)) (res1 rfl (ro_tmp rfl e0)) rfl (⟨rfl, hH.done⟩)
          · refine lf_val (v := .bool true) (wantF (d := 23) rfl (by kernel_rfl) rfl rfl) (rv_eql rfl (fr_eval rfl rfl) rfl (by decide +kernel : decide (((List.getD (sum [97, 98, 99]) 31 0).toNat : Int) = 173) = true)) ?_
            refine lf_val (v := .bool true) (wantAll rfl) (rv_pickT rfl (fr_eval rfl rfl) (fr_eval rfl rfl)) ?_
            refine lf_val (v := .bool true) (wantAll rfl) (rv_assign rfl (fr_eval rfl rfl)) ?_
            refine lf_nil ?_
            refine then_n ?_
            refine wp_gen (fun F' => F' 0 = .bool true ∧ F' 1 = .pointer (some ⟨g1, 0, none⟩)) ⟨rfl, e1⟩ ?_
            clear e0 e1
            clear F
            rintro F ⟨e0, e1⟩
            refine wp_ret ?_
            exact bodyPost_ret (v := (.bool true)) (res1 rfl (ro_tmp rfl e0)) rfl (⟨rfl, hH.done⟩)
        · refine lf_val (v := .bool true) (wantF (d := 18) rfl (by kernel_rfl) rfl rfl) (rv_eql rfl (fr_eval rfl rfl) rfl (by decide +kernel : decide (((List.getD (sum [97, 98, 99]) 3 0).toNat : Int) = 191) = true)) ?_
          refine lf_val (v := .bool true) (wantAll rfl) (rv_pickT rfl (fr_eval rfl rfl) (fr_eval rfl rfl)) ?_
          refine lf_val (v := .bool true) (wantAll rfl) (rv_move rfl (fr_eval rfl rfl)) ?_
          refine lf_val (v := .pointer (some ⟨g1, 31, none⟩)) (wantF (d := 23) rfl (by kernel_rfl) rfl rfl) ((show (execOp _ _).run _ _ = .ok (.value (.pointer (some ⟨g1, 31, none⟩))) _ from rv_indexArr (size := 1) (off := 0) (i := 31) rfl (fr_eval rfl e1) (show _ = Value.int _ ((31 : Nat) : Int) from rfl) (by decide) Try.underlying26 Try.sz5)) ?_
          refine lf_val (v := cB (List.getD (sum [97, 98, 99]) 31 0)) (wantF (d := 23) rfl (by kernel_rfl) rfl rfl) (rv_load1 rfl (hH.blk (i := 0) rfl) (cell_b (k := 31) rfl (Nat.lt_of_lt_of_eq (show 31 < 32 by decide) ((sum_length _)).symm)) (fr_eval rfl rfl) Try.underlying5 rfl Try.sz5) ?_
          by_cases hc9 : (List.getD (sum [97, 98, 99]) 31 0).toNat = 173
          · refine lf_val (v := .bool true) (wantF (d := 23) rfl (by kernel_rfl) rfl rfl) (rv_eql rfl (fr_eval rfl rfl) rfl (by decide +kernel : decide (((List.getD (sum [97, 98, 99]) 31 0).toNat : Int) = 173) = true)) ?_
            refine lf_val (v := .bool true) (wantAll rfl) (rv_pickT rfl (fr_eval rfl rfl) (fr_eval rfl rfl)) ?_
            refine lf_val (v := .bool true) (wantAll rfl) (rv_assign rfl (fr_eval rfl rfl)) ?_
            refine lf_nil ?_
            refine then_n ?_
            refine wp_gen (fun F' => F' 0 = .bool true ∧ F' 1 = .pointer (some ⟨g1, 0, none⟩)) ⟨rfl, e1⟩ ?_
            clear e0 e1
            clear F
            rintro F ⟨e0, e1⟩
            refine wp_ret ?_
            exact bodyPost_ret (v := (.bool true)) (res1 rfl (ro_tmp rfl e0)) rfl (⟨rfl, hH.done⟩)
          · refine lf_val (v := .bool true) (wantF (d := 23) rfl (by kernel_rfl) rfl rfl) (rv_eql rfl (fr_eval rfl rfl) rfl (by decide +kernel : decide (((List.getD (sum [97, 98, 99]) 31 0).toNat : Int) = 173) = true)) ?_
            refine lf_val (v := .bool true) (wantAll rfl) (rv_pickT rfl (fr_eval rfl rfl) (fr_eval rfl rfl)) ?_
            refine lf_val (v := .bool true) (wantAll rfl) (rv_assign rfl (fr_eval rfl rfl)) ?_
            refine lf_nil ?_
            refine then_n ?_
            refine wp_gen (fun F' => F' 0 = .bool true ∧ F' 1 = .pointer (some ⟨g1, 0, none⟩)) ⟨rfl, e1⟩ ?_
            clear e0 e1
            clear F
            rintro F ⟨e0, e1⟩
            refine wp_ret ?_
            exact bodyPost_ret (v := (.bool true)) (res1 rfl (ro_tmp rfl e0)) rfl (⟨rfl, hH.done⟩)
    · refine lf_val (v := .bool true) (wantF (d := 8) rfl (by kernel_rfl) rfl rfl) (rv_eql rfl (fr_eval rfl rfl) rfl (by decide +kernel : decide (((List.getD (sum [97, 98, 99]) 1 0).toNat : Int) = 120) = true)) ?_
      refine lf_val (v := .bool true) (wantAll rfl) (rv_pickT rfl (fr_eval rfl rfl) (fr_eval rfl rfl)) ?_
      refine lf_val (v := .bool true) (wantAll rfl) (rv_move rfl (fr_eval rfl rfl)) ?_
      refine lf_val (v := .pointer (some ⟨g1, 2, none⟩)) (wantF (d := 13) rfl (by kernel_rfl) rfl rfl) ((show (execOp _ _).run _ _ = .ok (.value (.pointer (some ⟨g1, 2, none⟩))) _ from rv_indexArr (size := 1) (off := 0) (i := 2) rfl (fr_eval rfl e1) (show _ = Value.int _ ((2 : Nat) : Int) from rfl) (by decide) Try.underlying26 Try.sz5)) ?_
      refine lf_val (v := cB (List.getD (sum [97, 98, 99]) 2 0)) (wantF (d := 13) rfl (by kernel_rfl) rfl rfl) (rv_load1 rfl (hH.blk (i := 0) rfl) (cell_b (k := 2) rfl (Nat.lt_of_lt_of_eq (show 2 < 32 by decide) ((sum_length _)).symm)) (fr_eval rfl rfl) Try.underlying5 rfl Try.sz5) ?_
      by_cases hc10 : (List.getD (sum [97, 98, 99]) 2 0).toNat = 22
      · refine lf_val (v := .bool true) (wantF (d := 13) rfl (by kernel_rfl) rfl rfl) (rv_eql rfl (fr_eval rfl rfl) rfl (by decide +kernel : decide (((List.getD (sum [97, 98, 99]) 2 0).toNat : Int) = 22) = true)) ?_
        refine lf_val (v := .bool true) (wantAll rfl) (rv_pickT rfl (fr_eval rfl rfl) (fr_eval rfl rfl)) ?_
        refine lf_val (v := .bool true) (wantAll rfl) (rv_move rfl (fr_eval rfl rfl)) ?_
        refine lf_val (v := .pointer (some ⟨g1, 3, none⟩)) (wantF (d := 18) rfl (by kernel_rfl) rfl rfl) ((show (execOp _ _).run _ _ = .ok (.value (.pointer (some ⟨g1, 3, none⟩))) _ from rv_indexArr (size := 1) (off := 0) (i := 3) rfl (fr_eval rfl e1) (show _ = Value.int _ ((3 : Nat) : Int) from rfl) (by decide) Try.underlying26 Try.sz5)) ?_
        refine lf_val (v := cB (List.getD (sum [97, 98, 99]) 3 0)) (wantF (d := 18) rfl (by kernel_rfl) rfl rfl) (rv_load1 rfl (hH.blk (i := 0) rfl) (cell_b (k := 3) rfl (Nat.lt_of_lt_of_eq (show 3 < 32 by decide) ((sum_length _)).symm)) (fr_eval rfl rfl) Try.underlying5 rfl Try.sz5) ?_
        by_cases hc11 : (List.getD (sum [97, 98, 99]) 3 0).toNat = 191
        · refine lf_val (v := .bool true) (wantF (d := 18) rfl (by kernel_rfl) rfl rfl) (rv_eql rfl (fr_eval rfl rfl) rfl (by decide +kernel : decide (((List.getD (sum [97, 98, 99]) 3 0).toNat : Int) = 191) = true)) ?_
          refine lf_val (v := .bool true) (wantAll rfl) (rv_pickT rfl (fr_eval rfl rfl) (fr_eval rfl rfl)) ?_
          refine lf_val (v := .bool true) (wantAll rfl) (rv_move rfl (fr_eval rfl rfl)) ?_
          refine lf_val (v := .pointer (some ⟨g1, 31, none⟩)) (wantF (d := 23) rfl (by kernel_rfl) rfl rfl) ((show (execOp _ _).run _ _ = .ok (.value (.pointer (some ⟨g1, 31, none⟩))) _ from rv_indexArr (size := 1) (off := 0) (i := 31) rfl (fr_eval rfl e1) (show _ = Value.int _ ((31 : Nat) : Int) from rfl) (by decide) Try.underlying26 Try.sz5)) ?_
          refine lf_val (v := cB (List.getD (sum [97, 98, 99]) 31 0)) (wantF (d := 23) rfl (by kernel_rfl) rfl rfl) (rv_load1 rfl (hH.blk (i := 0) rfl) (cell_b (k := 31) rfl (Nat.lt_of_lt_of_eq (show 31 < 32 by decide) ((sum_length _)).symm)) (fr_eval rfl rfl) Try.underlying5 rfl Try.sz5) ?_
          by_cases hc12 : (List.getD (sum [97, 98, 99]) 31 0).toNat = 173
          · refine lf_val (v := .bool true) (wantF (d := 23) rfl (by kernel_rfl) rfl rfl) (rv_eql rfl (fr_eval rfl rfl) rfl (by decide +kernel : decide (((List.getD (sum [97, 98, 99]) 31 0).toNat : Int) = 173) = true)) ?_
            refine lf_val (v := .bool true) (wantAll rfl) (rv_pickT rfl (fr_eval rfl rfl) (fr_eval rfl rfl)) ?_
            refine lf_val (v := .bool true) (wantAll rfl) (rv_assign rfl (fr_eval rfl rfl)) ?_
            refine lf_nil ?_
            refine then_n ?_
            refine wp_gen (fun F' => F' 0 = .bool true ∧ F' 1 = .pointer (some ⟨g1, 0, none⟩)) ⟨rfl, e1⟩ ?_
            clear e0 e1
            clear F
            rintro F ⟨e0, e1⟩
            refine wp_ret ?_
            exact bodyPost_ret (v := (.bool true)) (res1 rfl (ro_tmp rfl e0)) rfl (⟨rfl, hH.done⟩)
          · refine lf_val (v := .bool true) (wantF (d := 23) rfl (by kernel_rfl) rfl rfl) (rv_eql rfl (fr_eval rfl rfl) rfl (by decide +kernel : decide (((List.getD (sum [97, 98, 99]) 31 0).toNat : Int) = 173) = true)) ?_
            refine lf_val (v := .bool true) (wantAll rfl) (rv_pickT rfl (fr_eval rfl rfl) (fr_eval rfl rfl)) ?_
            refine lf_val (v := .bool true) (wantAll rfl) (rv_assign rfl (fr_eval rfl rfl)) ?_
            refine lf_nil ?_
            refine then_n ?_
            refine wp_gen (fun F' => F' 0 = .bool true ∧ F' 1 = .pointer (some ⟨g1, 0, none⟩)) ⟨rfl, e1⟩ ?_
            clear e0 e1
            clear F
            rintro F ⟨e0, e1⟩
            refine wp_ret ?_
            exact bodyPost_ret (v := (.bool true)) (res1 rfl (ro_tmp rfl e0)) rfl (⟨rfl, hH.done⟩)
        · refine lf_val (v := .bool true) (wantF (d := 18) rfl (by kernel_rfl) rfl rfl) (rv_eql rfl (fr_eval rfl rfl) rfl (by decide +kernel : decide (((List.getD (sum [97, 98, 99]) 3 0).toNat : Int) = 191) = true)) ?_
          refine lf_val (v := .bool true) (wantAll rfl) (rv_pickT rfl (fr_eval rfl rfl) (fr_eval rfl rfl)) ?_
          refine lf_val (v := .bool true) (wantAll rfl) (rv_move rfl (fr_eval rfl rfl)) ?_
          refine lf_val (v := .pointer (some ⟨g1, 31, none⟩)) (wantF (d := 23) rfl (by kernel_rfl) rfl rfl) ((show (execOp _ _).run _ _ = .ok (.value (.pointer (some ⟨g1, 31, none⟩))) _ from rv_indexArr (size := 1) (off := 0) (i := 31) rfl (fr_eval rfl e1) (show _ = Value.int _ ((31 : Nat) : Int) from rfl) (by decide) Try.underlying26 Try.sz5)) ?_
          refine lf_val (v := cB (List.getD (sum [97, 98, 99]) 31 0)) (wantF (d := 23) rfl (by kernel_rfl) rfl rfl) (rv_load1 rfl (hH.blk (i := 0) rfl) (cell_b (k := 31) rfl (Nat.lt_of_lt_of_eq (show 31 < 32 by decide) ((sum_length _)).symm)) (fr_eval rfl rfl) Try.underlying5 rfl Try.sz5) ?_
          by_cases hc13 : (List.getD (sum [97, 98, 99]) 31 0).toNat = 173
          · refine lf_val (v := .bool true) (wantF (d := 23) rfl (by kernel_rfl) rfl rfl) (rv_eql rfl (fr_eval rfl rfl) rfl (by decide +kernel : decide (((List.getD (sum [97, 98, 99]) 31 0).toNat : Int) = 173) = true)) ?_
            refine lf_val (v := .bool true) (wantAll rfl) (rv_pickT rfl (fr_eval rfl rfl) (fr_eval rfl rfl)) ?_
            refine lf_val (v := .bool true) (wantAll rfl) (rv_assign rfl (fr_eval rfl rfl)) ?_
            refine lf_nil ?_
            refine then_n ?_
            refine wp_gen (fun F' => F' 0 = .bool true ∧ F' 1 = .pointer (some ⟨g1, 0, none⟩)) ⟨rfl, e1⟩ ?_
            clear e0 e1
            clear F
            rintro F ⟨e0, e1⟩
            refine wp_ret ?_
            exact bodyPost_ret (v := (.bool true)) (res1 rfl (ro_tmp rfl e0)) rfl (⟨rfl, hH.done⟩)
          · refine lf_val (v := .bool true) (wantF (d := 23) rfl (by kernel_rfl) rfl rfl) (rv_eql rfl (fr_eval rfl rfl) rfl (by decide +kernel : decide (((List.getD (sum [97, 98, 99]) 31 0).toNat : Int) = 173) = true)) ?_
            refine lf_val (v := .bool true) (wantAll rfl) (rv_pickT rfl (fr_eval rfl rfl) (fr_eval rfl rfl)) ?_
            refine lf_val (v := .bool true) (wantAll rfl) (rv_assign rfl (fr_eval rfl rfl)) ?_
            refine lf_nil ?_
            refine then_n ?_
            refine wp_gen (fun F' => F' 0 = .bool true ∧ F' 1 = .pointer (some ⟨g1, 0, none⟩)) ⟨rfl, e1⟩ ?_
            clear e0 e1
            clear F
            rintro F ⟨e0, e1⟩
            refine wp_ret ?_
            exact bodyPost_ret (v := (.bool true)) (res1 rfl (ro_tmp rfl e0)) rfl (⟨rfl, hH.done⟩)
      · refine lf_val (v := .bool true) (wantF (d := 13) rfl (by kernel_rfl) rfl rfl) (rv_eql rfl (fr_eval rfl rfl) rfl (by decide +kernel : decide (((List.getD (sum [97, 98, 99]) 2 0).toNat : Int) = 22) = true)) ?_
        refine lf_val (v := .bool true) (wantAll rfl) (rv_pickT rfl (fr_eval rfl rfl) (fr_eval rfl rfl)) ?_
        refine lf_val (v := .bool true) (wantAll rfl) (rv_move rfl (fr_eval rfl rfl)) ?_
        refine lf_val (v := .pointer (some ⟨g1, 3, none⟩)) (wantF (d := 18) rfl (by kernel_rfl) rfl rfl) ((show (execOp _ _).run _ _ = .ok (.value (.pointer (some ⟨g1, 3, none⟩))) _ from rv_indexArr (size := 1) (off := 0) (i := 3) rfl (fr_eval rfl e1) (show _ = Value.int _ ((3 : Nat) : Int) from rfl) (by decide) Try.underlying26 Try.sz5)) ?_
        refine lf_val (v := cB (List.getD (sum [97, 98, 99]) 3 0)) (wantF (d := 18) rfl (by kernel_rfl) rfl rfl) (rv_load1 rfl (hH.blk (i := 0) rfl) (cell_b (k := 3) rfl (Nat.lt_of_lt_of_eq (show 3 < 32 by decide) ((sum_length _)).symm)) (fr_eval rfl rfl) Try.underlying5 rfl Try.sz5) ?_
        by_cases hc14 : (List.getD (sum [97, 98, 99]) 3 0).toNat = 191
        · refine lf_val (v := .bool true) (wantF (d := 18) rfl (by kernel_rfl) rfl rfl) (rv_eql rfl (fr_eval rfl rfl) rfl (by decide +kernel : decide (((List.getD (sum [97, 98, 99]) 3 0).toNat : Int) = 191) = true)) ?_
          refine lf_val (v := .bool true) (wantAll rfl) (rv_pickT rfl (fr_eval rfl rfl) (fr_eval rfl rfl)) ?_
          refine lf_val (v := .bool true) (wantAll rfl) (rv_move rfl (fr_eval rfl rfl)) ?_
          refine lf_val (v := .pointer (some ⟨g1, 31, none⟩)) (wantF (d := 23) rfl (by kernel_rfl) rfl rfl) ((show (execOp _ _).run _ _ = .ok (.value (.pointer (some ⟨g1, 31, none⟩))) _ from rv_indexArr (size := 1) (off := 0) (i := 31) rfl (fr_eval rfl e1) (show _ = Value.int _ ((31 : Nat) : Int) from rfl) (by decide) Try.underlying26 Try.sz5)) ?_
          refine lf_val (v := cB (List.getD (sum [97, 98, 99]) 31 0)) (wantF (d := 23) rfl (by kernel_rfl) rfl rfl) (rv_load1 rfl (hH.blk (i := 0) rfl) (cell_b (k := 31) rfl (Nat.lt_of_lt_of_eq (show 31 < 32 by decide) ((sum_length _)).symm)) (fr_eval rfl rfl) Try.underlying5 rfl Try.sz5) ?_
          by_cases hc15 : (List.getD (sum [97, 98, 99]) 31 0).toNat = 173
          · refine lf_val (v := .bool true) (wantF (d := 23) rfl (by kernel_rfl) rfl rfl) (rv_eql rfl (fr_eval rfl rfl) rfl (by decide +kernel : decide (((List.getD (sum [97, 98, 99]) 31 0).toNat : Int) = 173) = true)) ?_
            refine lf_val (v := .bool true) (wantAll rfl) (rv_pickT rfl (fr_eval rfl rfl) (fr_eval rfl rfl)) ?_
            refine lf_val (v := .bool true) (wantAll rfl) (rv_assign rfl (fr_eval rfl rfl)) ?_
            refine lf_nil ?_
            refine then_n ?_
            refine wp_gen (fun F' => F' 0 = .bool true ∧ F' 1 = .pointer (some ⟨g1, 0, none⟩)) ⟨rfl, e1⟩ ?_
            clear e0 e1
            clear F
            rintro F ⟨e0, e1⟩
            refine wp_ret ?_
            exact bodyPost_ret (v := (.bool true)) (res1 rfl (ro_tmp rfl e0)) rfl (⟨rfl, hH.done⟩)
          · refine lf_val (v := .bool true) (wantF (d := 23) rfl (by kernel_rfl) rfl rfl) (rv_eql rfl (fr_eval rfl rfl) rfl (by decide +kernel : decide (((List.getD (sum [97, 98, 99]) 31 0).toNat : Int) = 173) = true)) ?_
            refine lf_val (v := .bool true) (wantAll rfl) (rv_pickT rfl (fr_eval rfl rfl) (fr_eval rfl rfl)) ?_
            refine lf_val (v := .bool true) (wantAll rfl) (rv_assign rfl (fr_eval rfl rfl)) ?_
            refine lf_nil ?_
            refine then_n ?_
            refine wp_gen (fun F' => F' 0 = .bool true ∧ F' 1 = .pointer (some ⟨g1, 0, none⟩)) ⟨rfl, e1⟩ ?_
            clear e0 e1
            clear F
            rintro F ⟨e0, e1⟩
            refine wp_ret ?_
            exact bodyPost_ret (v := (.bool true)) (res1 rfl (ro_tmp rfl e0)) rfl (⟨rfl, hH.done⟩)
        · refine lf_val (v := .bool true) (wantF (d := 18) rfl (by kernel_rfl) rfl rfl) (rv_eql rfl (fr_eval rfl rfl) rfl (by decide +kernel : decide (((List.getD (sum [97, 98, 99]) 3 0).toNat : Int) = 191) = true)) ?_
          refine lf_val (v := .bool true) (wantAll rfl) (rv_pickT rfl (fr_eval rfl rfl) (fr_eval rfl rfl)) ?_
          refine lf_val (v := .bool true) (wantAll rfl) (rv_move rfl (fr_eval rfl rfl)) ?_
          refine lf_val (v := .pointer (some ⟨g1, 31, none⟩)) (wantF (d := 23) rfl (by kernel_rfl) rfl rfl) ((show (execOp _ _).run _ _ = .ok (.value (.pointer (some ⟨g1, 31, none⟩))) _ from rv_indexArr (size := 1) (off := 0) (i := 31) rfl (fr_eval rfl e1) (show _ = Value.int _ ((31 : Nat) : Int) from rfl) (by decide) Try.underlying26 Try.sz5)) ?_
          refine lf_val (v := cB (List.getD (sum [97, 98, 99]) 31 0)) (wantF (d := 23) rfl (by kernel_rfl) rfl rfl) (rv_load1 rfl (hH.blk (i := 0) rfl) (cell_b (k := 31) rfl (Nat.lt_of_lt_of_eq (show 31 < 32 by decide) ((sum_length _)).symm)) (fr_eval rfl rfl) Try.underlying5 rfl Try.sz5) ?_
          by_cases hc16 : (List.getD (sum [97, 98, 99]) 31 0).toNat = 173
          · refine lf_val (v := .bool true) (wantF (d := 23) rfl (by kernel_rfl) rfl rfl) (rv_eql rfl (fr_eval rfl rfl) rfl (by decide +kernel : decide (((List.getD (sum [97, 98, 99]) 31 0).toNat : Int) = 173) = true)) ?_
            refine lf_val (v := .bool true) (wantAll rfl) (rv_pickT rfl (fr_eval rfl rfl) (fr_eval rfl rfl)) ?_
            refine lf_val (v := .bool true) (wantAll rfl) (rv_assign rfl (fr_eval rfl rfl)) ?_
            refine lf_nil ?_
            refine then_n ?_
            refine wp_gen (fun F' => F' 0 = .bool true ∧ F' 1 = .pointer (some ⟨g1, 0, none⟩)) ⟨rfl, e1⟩ ?_
            clear e0 e1
            clear F
            rintro F ⟨e0, e1⟩
            refine wp_ret ?_
            exact bodyPost_ret (v := (.bool true)) (res1 rfl (ro_tmp rfl e0)) rfl (⟨rfl, hH.done⟩)
          · refine lf_val (v := .bool true) (wantF (d := 23) rfl (by kernel_rfl) rfl rfl) (rv_eql rfl (fr_eval rfl rfl) rfl (by decide +kernel : decide (((List.getD (sum [97, 98, 99]) 31 0).toNat : Int) = 173) = true)) ?_
            refine lf_val (v := .bool true) (wantAll rfl) (rv_pickT rfl (fr_eval rfl rfl) (fr_eval rfl rfl)) ?_
            refine lf_val (v := .bool true) (wantAll rfl) (rv_assign rfl (fr_eval rfl rfl)) ?_
            refine lf_nil ?_
            refine then_n ?_
            refine wp_gen (fun F' => F' 0 = .bool true ∧ F' 1 = .pointer (some ⟨g1, 0, none⟩)) ⟨rfl, e1⟩ ?_
            clear e0 e1
            clear F
            rintro F ⟨e0, e1⟩
            refine wp_ret ?_
            exact bodyPost_ret (v := (.bool true)) (res1 rfl (ro_tmp rfl e0)) rfl (⟨rfl, hH.done⟩)
  · refine lf_val (v := .bool true) (wantAll rfl) (rv_eql rfl (fr_eval rfl rfl) rfl (by decide +kernel : decide (((List.getD (sum [97, 98, 99]) 0 0).toNat : Int) = 186) = true)) ?_
    refine lf_val (v := .bool true) (wantAll rfl) (rv_move rfl (fr_eval rfl rfl)) ?_
    refine lf_val (v := .pointer (some ⟨g1, 1, none⟩)) (wantF (d := 8) rfl (by kernel_rfl) rfl rfl) ((show (execOp _ _).run _ _ = .ok (.value (.pointer (some ⟨g1, 1, none⟩))) _ from rv_indexArr (size := 1) (off := 0) (i := 1) rfl (fr_eval rfl e1) (show _ = Value.int _ ((1 : Nat) : Int) from rfl) (by decide) Try.underlying26 Try.sz5)) ?_
    refine lf_val (v := cB (List.getD (sum [97, 98, 99]) 1 0)) (wantF (d := 8) rfl (by kernel_rfl) rfl rfl) (rv_load1 rfl (hH.blk (i := 0) rfl) (cell_b (k := 1) rfl (Nat.lt_of_lt_of_eq (show 1 < 32 by decide) ((sum_length _)).symm)) (fr_eval rfl rfl) Try.underlying5 rfl Try.sz5) ?_
    by_cases hc17 : (List.getD (sum [97, 98, 99]) 1 0).toNat = 120
    · refine lf_val (v := .bool true) (wantF (d := 8) rfl (by kernel_rfl) rfl rfl) (rv_eql rfl (fr_eval rfl rfl) rfl (by decide +kernel : decide (((List.getD (sum [97, 98, 99]) 1 0).toNat : Int) = 120) = true)) ?_
      refine lf_val (v := .bool true) (wantAll rfl) (rv_pickT rfl (fr_eval rfl rfl) (fr_eval rfl rfl)) ?_
      refine lf_val (v := .bool true) (wantAll rfl) (rv_move rfl (fr_eval rfl rfl)) ?_
      refine lf_val (v := .pointer (some ⟨g1, 2, none⟩)) (wantF (d := 13) rfl (by kernel_rfl) rfl rfl) ((show (execOp _ _).run _ _ = .ok (.value (.pointer (some ⟨g1, 2, none⟩))) _ from rv_indexArr (size := 1) (off := 0) (i := 2) rfl (fr_eval rfl e1) (show _ = Value.int _ ((2 : Nat) : Int) from rfl) (by decide) Try.underlying26 Try.sz5)) ?_
      refine lf_val (v := cB (List.getD (sum [97, 98, 99]) 2 0)) (wantF (d := 13) rfl (by kernel_rfl) rfl rfl) (rv_load1 rfl (hH.blk (i := 0) rfl) (cell_b (k := 2) rfl (Nat.lt_of_lt_of_eq (show 2 < 32 by decide) ((sum_length _)).symm)) (fr_eval rfl rfl) Try.underlying5 rfl Try.sz5) ?_
      by_cases hc18 : (List.getD (sum [97, 98, 99]) 2 0).toNat = 22
      · refine lf_val (v := .bool true) (wantF (d := 13) rfl (by kernel_rfl) rfl rfl) (rv_eql rfl (fr_eval rfl rfl) rfl (by decide +kernel : decide (((List.getD (sum [97, 98, 99]) 2 0).toNat : Int) = 22) = true)) ?_
        refine lf_val (v := .bool true) (wantAll rfl) (rv_pickT rfl (fr_eval rfl rfl) (fr_eval rfl rfl)) ?_
        refine lf_val (v := .bool true) (wantAll rfl) (rv_move rfl (fr_eval rfl rfl)) ?_
        refine lf_val (v := .pointer (some ⟨g1, 3, none⟩)) (wantF (d := 18) rfl (by kernel_rfl) rfl rfl) ((show (execOp _ _).run _ _ = .ok (.value (.pointer (some ⟨g1, 3, none⟩))) _ from rv_indexArr (size := 1) (off := 0) (i := 3) rfl (fr_eval rfl e1) (show _ = Value.int _ ((3 : Nat) : Int) from rfl) (by decide) Try.underlying26 Try.sz5)) ?_
        refine lf_val (v := cB (List.getD (sum [97, 98, 99]) 3 0)) (wantF (d := 18) rfl (by kernel_rfl) rfl rfl) (rv_load1 rfl (hH.blk (i := 0) rfl) (cell_b (k := 3) rfl (Nat.lt_of_lt_of_eq (show 3 < 32 by decide) ((sum_length _)).symm)) (fr_eval rfl rfl) Try.underlying5 rfl Try.sz5) ?_
        by_cases hc19 : (List.getD (sum [97, 98, 99]) 3 0).toNat = 191
        · refine lf_val (v := .bool true) (wantF (d := 18) rfl (by kernel_rfl) rfl rfl) (rv_eql rfl (fr_eval rfl rfl) rfl (by decide +kernel : decide (((List.getD (sum [97, 98, 99]) 3 0).toNat : Int) = 191) = true)) ?_
          refine lf_val (v := .bool true) (wantAll rfl) (rv_pickT rfl (fr_eval rfl rfl) (fr_eval rfl rfl)) ?_
          refine lf_val (v := .bool true) (wantAll rfl) (rv_move rfl (fr_eval rfl rfl)) ?_
          refine lf_val (v := .pointer (some ⟨g1, 31, none⟩)) (wantF (d := 23) rfl (by kernel_rfl) rfl rfl) ((show (execOp _ _).run _ _ = .ok (.value (.pointer (some ⟨g1, 31, none⟩))) _ from rv_indexArr (size := 1) (off := 0) (i := 31) rfl (fr_eval rfl e1) (show _ = Value.int _ ((31 : Nat) : Int) from rfl) (by decide) Try.underlying26 Try.sz5)) ?_
          refine lf_val (v := cB (List.getD (sum [97, 98, 99]) 31 0)) (wantF (d := 23) rfl (by kernel_rfl) rfl rfl) (rv_load1 rfl (hH.blk (i := 0) rfl) (cell_b (k := 31) rfl (Nat.lt_of_lt_of_eq (show 31 < 32 by decide) ((sum_length _)).symm)) (fr_eval rfl rfl) Try.underlying5 rfl Try.sz5) ?_
          by_cases hc20 : (List.getD (sum [97, 98, 99]) 31 0).toNat = 173
          · refine lf_val (v := .bool true) (wantF (d := 23) rfl (by kernel_rfl) rfl rfl) (rv_eql rfl (fr_eval rfl rfl) rfl (by decide +kernel : decide (((List.getD (sum [97, 98, 99]) 31 0).toNat : Int) = 173) = true)) ?_
            refine lf_val (v := .bool true) (wantAll rfl) (rv_pickT rfl (fr_eval rfl rfl) (fr_eval rfl rfl)) ?_
            refine lf_val (v := .bool true) (wantAll rfl) (rv_assign rfl (fr_eval rfl rfl)) ?_
            refine lf_nil ?_
            refine then_n ?_
            refine wp_gen (fun F' => F' 0 = .bool true ∧ F' 1 = .pointer (some ⟨g1, 0, none⟩)) ⟨rfl, e1⟩ ?_
            clear e0 e1
            clear F
            rintro F ⟨e0, e1⟩
            refine wp_ret ?_
            exact bodyPost_ret (v := (.bool true)) (res1 rfl (ro_tmp rfl e0)) rfl (⟨rfl, hH.done⟩)
          · refine lf_val (v := .bool true) (wantF (d := 23) rfl (by kernel_rfl) rfl rfl) (rv_eql rfl (fr_eval rfl rfl) rfl (by decide +kernel : decide (((List.getD (sum [97, 98, 99]) 31 0).toNat : Int) = 173) = true)) ?_
            refine lf_val (v := .bool true) (wantAll rfl) (rv_pickT rfl (fr_eval rfl rfl) (fr_eval rfl rfl)) ?_
            refine lf_val (v := .bool true) (wantAll rfl) (rv_assign rfl (fr_eval rfl rfl)) ?_
            refine lf_nil ?_
            refine then_n ?_
            refine wp_gen (fun F' => F' 0 = .bool true ∧ F' 1 = .pointer (some ⟨g1, 0, none⟩)) ⟨rfl, e1⟩ ?_
            clear e0 e1
            clear F
            rintro F ⟨e0, e1⟩
            refine wp_ret ?_
            exact bodyPost_ret (v := (.bool true)) (res1 rfl (ro_tmp rfl e0)) rfl (⟨rfl, hH.done⟩)
        · refine lf_val (v := .bool true) (wantF (d := 18) rfl (by kernel_rfl) rfl rfl) (rv_eql rfl (fr_eval rfl rfl) rfl (by decide +kernel : decide (((List.getD (sum [97, 98, 99]) 3 0).toNat : Int) = 191) = true)) ?_
          refine lf_val (v := .bool true) (wantAll rfl) (rv_pickT rfl (fr_eval rfl rfl) (fr_eval rfl rfl)) ?_
          refine lf_val (v := .bool true) (wantAll rfl) (rv_move rfl (fr_eval rfl rfl)) ?_
          refine lf_val (v := .pointer (some ⟨g1, 31, none⟩)) (wantF (d := 23) rfl (by kernel_rfl) rfl rfl) ((show (execOp _ _).run _ _ = .ok (.value (.pointer (some ⟨g1, 31, none⟩))) _ from rv_indexArr (size := 1) (off := 0) (i := 31) rfl (fr_eval rfl e1) (show _ = Value.int _ ((31 : Nat) : Int) from rfl) (by decide) Try.underlying26 Try.sz5)) ?_
          refine lf_val (v := cB (List.getD (sum [97, 98, 99]) 31 0)) (wantF (d := 23) rfl (by kernel_rfl) rfl rfl) (rv_load1 rfl (hH.blk (i := 0) rfl) (cell_b (k := 31) rfl (Nat.lt_of_lt_of_eq (show 31 < 32 by decide) ((sum_length _)).symm)) (fr_eval rfl rfl) Try.underlying5 rfl Try.sz5) ?_
          by_cases hc21 : (List.getD (sum [97, 98, 99]) 31 0).toNat = 173
          · refine lf_val (v := .bool true) (wantF (d := 23) rfl (by kernel_rfl) rfl rfl) (rv_eql rfl (fr_eval rfl rfl) rfl (by decide +kernel : decide (((List.getD (sum [97, 98, 99]) 31 0).toNat : Int) = 173) = true)) ?_
            refine lf_val (v := .bool true) (wantAll rfl) (rv_pickT rfl (fr_eval rfl rfl) (fr_eval rfl rfl)) ?_
            refine lf_val (v := .bool true) (wantAll rfl) (rv_assign rfl (fr_eval rfl rfl)) ?_
            refine lf_nil ?_
            refine then_n ?_
            refine wp_gen (fun F' => F' 0 = .bool true ∧ F' 1 = .pointer (some ⟨g1, 0, none⟩)) ⟨rfl, e1⟩ ?_
            clear e0 e1
            clear F
            rintro F ⟨e0, e1⟩
            refine wp_ret ?_
            exact bodyPost_ret (v := (.bool true)) (res1 rfl (ro_tmp rfl e0)) rfl (⟨rfl, hH.done⟩)
          · refine lf_val (v := .bool true) (wantF (d := 23) rfl (by kernel_rfl) rfl rfl) (rv_eql rfl (fr_eval rfl rfl) rfl (by decide +kernel : decide (((List.getD (sum [97, 98, 99]) 31 0).toNat : Int) = 173) = true)) ?_
            refine lf_val (v := .bool true) (wantAll rfl) (rv_pickT rfl (fr_eval rfl rfl) (fr_eval rfl rfl)) ?_
            refine lf_val (v := .bool true) (wantAll rfl) (rv_assign rfl (fr_eval rfl rfl)) ?_
            refine lf_nil ?_
            refine then_n ?_
            refine wp_gen (fun F' => F' 0 = .bool true ∧ F' 1 = .pointer (some ⟨g1, 0, none⟩)) ⟨rfl, e1⟩ ?_
            clear e0 e1
            clear F
            rintro F ⟨e0, e1⟩
            refine wp_ret ?_
            exact bodyPost_ret (v := (.bool true)) (res1 rfl (ro_tmp rfl e0)) rfl (⟨rfl, hH.done⟩)
      · refine lf_val (v := .bool true) (wantF (d := 13) rfl (by kernel_rfl) rfl rfl) (rv_eql rfl (fr_eval rfl rfl) rfl (by decide +kernel : decide (((List.getD (sum [97, 98, 99]) 2 0).toNat : Int) = 22) = true)) ?_
        refine lf_val (v := .bool true) (wantAll rfl) (rv_pickT rfl (fr_eval rfl rfl) (fr_eval rfl rfl)) ?_
        refine lf_val (v := .bool true) (wantAll rfl) (rv_move rfl (fr_eval rfl rfl)) ?_
        refine lf_val (v := .pointer (some ⟨g1, 3, none⟩)) (wantF (d := 18) rfl (by kernel_rfl) rfl rfl) ((show (execOp _ _).run _ _ = .ok (.value (.pointer (some ⟨g1, 3, none⟩))) _ from rv_indexArr (size := 1) (off := 0) (i := 3) rfl (fr_eval rfl e1) (show _ = Value.int _ ((3 : Nat) : Int) from rfl) (by decide) Try.underlying26 Try.sz5)) ?_
        refine lf_val (v := cB (List.getD (sum [97, 98, 99]) 3 0)) (wantF (d := 18) rfl (by kernel_rfl) rfl rfl) (rv_load1 rfl (hH.blk (i := 0) rfl) (cell_b (k := 3) rfl (Nat.lt_of_lt_of_eq (show 3 < 32 by decide) ((sum_length _)).symm)) (fr_eval rfl rfl) Try.underlying5 rfl Try.sz5) ?_
        by_cases hc22 : (List.getD (sum [97, 98, 99]) 3 0).toNat = 191
        · refine lf_val (v := .bool true) (wantF (d := 18) rfl (by kernel_rfl) rfl rfl) (rv_eql rfl (fr_eval rfl rfl) rfl (by decide +kernel : decide (((List.getD (sum [97, 98, 99]) 3 0).toNat : Int) = 191) = true)) ?_
          refine lf_val (v := .bool true) (wantAll rfl) (rv_pickT rfl (fr_eval rfl rfl) (fr_eval rfl rfl)) ?_
          refine lf_val (v := .bool true) (wantAll rfl) (rv_move rfl (fr_eval rfl rfl)) ?_
          refine lf_val (v := .pointer (some ⟨g1, 31, none⟩)) (wantF (d := 23) rfl (by kernel_rfl) rfl rfl) ((show (execOp _ _).run _ _ = .ok (.value (.pointer (some ⟨g1, 31, none⟩))) _ from rv_indexArr (size := 1) (off := 0) (i := 31) rfl (fr_eval rfl e1) (show _ = Value.int _ ((31 : Nat) : Int) from rfl) (by decide) Try.underlying26 Try.sz5)) ?_
          refine lf_val (v := cB (List.getD (sum [97, 98, 99]) 31 0)) (wantF (d := 23) rfl (by kernel_rfl) rfl rfl) (rv_load1 rfl (hH.blk (i := 0) rfl) (cell_b (k := 31) rfl (Nat.lt_of_lt_of_eq (show 31 < 32 by decide) ((sum_length _)).symm)) (fr_eval rfl rfl) Try.underlying5 rfl Try.sz5) ?_
          by_cases hc23 : (List.getD (sum [97, 98, 99]) 31 0).toNat = 173
          · refine lf_val (v := .bool true) (wantF (d := 23) rfl (by kernel_rfl) rfl rfl) (rv_eql rfl (fr_eval rfl rfl) rfl (by decide +kernel : decide (((List.getD (sum [97, 98, 99]) 31 0).toNat : Int) = 173) = true)) ?_
            refine lf_val (v := .bool true) (wantAll rfl) (rv_pickT rfl (fr_eval rfl rfl) (fr_eval rfl rfl)) ?_
            refine lf_val (v := .bool true) (wantAll rfl) (rv_assign rfl (fr_eval rfl rfl)) ?_
            refine lf_nil ?_
            refine then_n ?_
            refine wp_gen (fun F' => F' 0 = .bool true ∧ F' 1 = .pointer (some ⟨g1, 0, none⟩)) ⟨rfl, e1⟩ ?_
            clear e0 e1
            clear F
            rintro F ⟨e0, e1⟩
            refine wp_ret ?_
            exact bodyPost_ret (v := (.bool true)) (res1 rfl (ro_tmp rfl e0)) rfl (⟨rfl, hH.done⟩)
          · refine lf_val (v := .bool true) (wantF (d := 23) rfl (by kernel_rfl) rfl rfl) (rv_eql rfl (fr_eval rfl rfl) rfl (by decide +kernel : decide (((List.getD (sum [97, 98, 99]) 31 0).toNat : Int) = 173) = true)) ?_
            refine lf_val (v := .bool true) (wantAll rfl) (rv_pickT rfl (fr_eval rfl rfl) (fr_eval rfl rfl)) ?_
            refine lf_val (v := .bool true) (wantAll rfl) (rv_assign rfl (fr_eval rfl rfl)) ?_
            refine lf_nil ?_
            refine then_n ?_
            refine wp_gen (fun F' => F' 0 = .bool true ∧ F' 1 = .pointer (some ⟨g1, 0, none⟩)) ⟨rfl, e1⟩ ?_
            clear e0 e1
            clear F
            rintro F ⟨e0, e1⟩
            refine wp_ret ?_
            exact bodyPost_ret (v := (.bool true)) (res1 rfl (ro_tmp rfl e0)) rfl (⟨rfl, hH.done⟩)
        · refine lf_val (v := .bool true) (wantF (d := 18) rfl (by kernel_rfl) rfl rfl) (rv_eql rfl (fr_eval rfl rfl) rfl (by decide +kernel : decide (((List.getD (sum [97, 98, 99]) 3 0).toNat : Int) = 191) = true)) ?_
          refine lf_val (v := .bool true) (wantAll rfl) (rv_pickT rfl (fr_eval rfl rfl) (fr_eval rfl rfl)) ?_
          refine lf_val (v := .bool true) (wantAll rfl) (rv_move rfl (fr_eval rfl rfl)) ?_
          refine lf_val (v := .pointer (some ⟨g1, 31, none⟩)) (wantF (d := 23) rfl (by kernel_rfl) rfl rfl) ((show (execOp _ _).run _ _ = .ok (.value (.pointer (some ⟨g1, 31, none⟩))) _ from rv_indexArr (size := 1) (off := 0) (i := 31) rfl (fr_eval rfl e1) (show _ = Value.int _ ((31 : Nat) : Int) from rfl) (by decide) Try.underlying26 Try.sz5)) ?_
          refine lf_val (v := cB (List.getD (sum [97, 98, 99]) 31 0)) (wantF (d := 23) rfl (by kernel_rfl) rfl rfl) (rv_load1 rfl (hH.blk (i := 0) rfl) (cell_b (k := 31) rfl (Nat.lt_of_lt_of_eq (show 31 < 32 by decide) ((sum_length _)).symm)) (fr_eval rfl rfl) Try.underlying5 rfl Try.sz5) ?_
          by_cases hc24 : (List.getD (sum [97, 98, 99]) 31 0).toNat = 173
          · refine lf_val (v := .bool true) (wantF (d := 23) rfl (by kernel_rfl) rfl rfl) (rv_eql rfl (fr_eval rfl rfl) rfl (by decide +kernel : decide (((List.getD (sum [97, 98, 99]) 31 0).toNat : Int) = 173) = true)) ?_
            refine lf_val (v := .bool true) (wantAll rfl) (rv_pickT rfl (fr_eval rfl rfl) (fr_eval rfl rfl)) ?_
            refine lf_val (v := .bool true) (wantAll rfl) (rv_assign rfl (fr_eval rfl rfl)) ?_
            refine lf_nil ?_
            refine then_n ?_
            refine wp_gen (fun F' => F' 0 = .bool true ∧ F' 1 = .pointer (some ⟨g1, 0, none⟩)) ⟨rfl, e1⟩ ?_
            clear e0 e1
            clear F
            rintro F ⟨e0, e1⟩
            refine wp_ret ?_
            exact bodyPost_ret (v := (.bool true)) (res1 rfl (ro_tmp rfl e0)) rfl (⟨rfl, hH.done⟩)
          · refine lf_val (v := .bool true) (wantF (d := 23) rfl (by kernel_rfl) rfl rfl) (rv_eql rfl (fr_eval rfl rfl) rfl (by decide +kernel : decide (((List.getD (sum [97, 98, 99]) 31 0).toNat : Int) = 173) = true)) ?_
            refine lf_val (v := .bool true) (wantAll rfl) (rv_pickT rfl (fr_eval rfl rfl) (fr_eval rfl rfl)) ?_
            refine lf_val (v := .bool true) (wantAll rfl) (rv_assign rfl (fr_eval rfl rfl)) ?_
            refine lf_nil ?_
            refine then_n ?_
            refine wp_gen (fun F' => F' 0 = .bool true ∧ F' 1 = .pointer (some ⟨g1, 0, none⟩)) ⟨rfl, e1⟩ ?_
            clear e0 e1
            clear F
            rintro F ⟨e0, e1⟩
            refine wp_ret ?_
            exact bodyPost_ret (v := (.bool true)) (res1 rfl (ro_tmp rfl e0)) rfl (⟨rfl, hH.done⟩)
    · refine lf_val (v := .bool true) (wantF (d := 8) rfl (by kernel_rfl) rfl rfl) (rv_eql rfl (fr_eval rfl rfl) rfl (by decide +kernel : decide (((List.getD (sum [97, 98, 99]) 1 0).toNat : Int) = 120) = true)) ?_
      refine lf_val (v := .bool true) (wantAll rfl) (rv_pickT rfl (fr_eval rfl rfl) (fr_eval rfl rfl)) ?_
      refine lf_val (v := .bool true) (wantAll rfl) (rv_move rfl (fr_eval rfl rfl)) ?_
      refine lf_val (v := .pointer (some ⟨g1, 2, none⟩)) (wantF (d := 13) rfl (by kernel_rfl) rfl rfl) ((show (execOp _ _).run _ _ = .ok (.value (.pointer (some ⟨g1, 2, none⟩))) _ from rv_indexArr (size := 1) (off := 0) (i := 2) rfl (fr_eval rfl e1) (show _ = Value.int _ ((2 : Nat) : Int) from rfl) (by decide) Try.underlying26 Try.sz5)) ?_
      refine lf_val (v := cB (List.getD (sum [97, 98, 99]) 2 0)) (wantF (d := 13) rfl (by kernel_rfl) rfl rfl) (rv_load1 rfl (hH.blk (i := 0) rfl) (cell_b (k := 2) rfl (Nat.lt_of_lt_of_eq (show 2 < 32 by decide) ((sum_length _)).symm)) (fr_eval rfl rfl) Try.underlying5 rfl Try.sz5) ?_
      by_cases hc25 : (List.getD (sum [97, 98, 99]) 2 0).toNat = 22
      · refine lf_val (v := .bool true) (wantF (d := 13) rfl (by kernel_rfl) rfl rfl) (rv_eql rfl (fr_eval rfl rfl) rfl (by decide +kernel : decide (((List.getD (sum [97, 98, 99]) 2 0).toNat : Int) = 22) = true)) ?_
        refine lf_val (v := .bool true) (wantAll rfl) (rv_pickT rfl (fr_eval rfl rfl) (fr_eval rfl rfl)) ?_
        refine lf_val (v := .bool true) (wantAll rfl) (rv_move rfl (fr_eval rfl rfl)) ?_
        refine lf_val (v := .pointer (some ⟨g1, 3, none⟩)) (wantF (d := 18) rfl (by kernel_rfl) rfl rfl) ((show (execOp _ _).run _ _ = .ok (.value (.pointer (some ⟨g1, 3, none⟩))) _ from rv_indexArr (size := 1) (off := 0) (i := 3) rfl (fr_eval rfl e1) (show _ = Value.int _ ((3 : Nat) : Int) from rfl) (by decide) Try.underlying26 Try.sz5)) ?_
        refine lf_val (v := cB (List.getD (sum [97, 98, 99]) 3 0)) (wantF (d := 18) rfl (by kernel_rfl) rfl rfl) (rv_load1 rfl (hH.blk (i := 0) rfl) (cell_b (k := 3) rfl (Nat.lt_of_lt_of_eq (show 3 < 32 by decide) ((sum_length _)).symm)) (fr_eval rfl rfl) Try.underlying5 rfl Try.sz5) ?_
        by_cases hc26 : (List.getD (sum [97, 98, 99]) 3 0).toNat = 191
        · refine lf_val (v := .bool true) (wantF (d := 18) rfl (by kernel_rfl) rfl rfl) (rv_eql rfl (fr_eval rfl rfl) rfl (by decide +kernel : decide (((List.getD (sum [97, 98, 99]) 3 0).toNat : Int) = 191) = true)) ?_
          refine lf_val (v := .bool true) (wantAll rfl) (rv_pickT rfl (fr_eval rfl rfl) (fr_eval rfl rfl)) ?_
          refine lf_val (v := .bool true) (wantAll rfl) (rv_move rfl (fr_eval rfl rfl)) ?_
          refine lf_val (v := .pointer (some ⟨g1, 31, none⟩)) (wantF (d := 23) rfl (by kernel_rfl) rfl rfl) ((show (execOp _ _).run _ _ = .ok (.value (.pointer (some ⟨g1, 31, none⟩))) _ from rv_indexArr (size := 1) (off := 0) (i := 31) rfl (fr_eval rfl e1) (show _ = Value.int _ ((31 : Nat) : Int) from rfl) (by decide) Try.underlying26 Try.sz5)) ?_
          refine lf_val (v := cB (List.getD (sum [97, 98, 99]) 31 0)) (wantF (d := 23) rfl (by kernel_rfl) rfl rfl) (rv_load1 rfl (hH.blk (i := 0) rfl) (cell_b (k := 31) rfl (Nat.lt_of_lt_of_eq (show 31 < 32 by decide) ((sum_length _)).symm)) (fr_eval rfl rfl) Try.underlying5 rfl Try.sz5) ?_
          by_cases hc27 : (List.getD (sum [97, 98, 99]) 31 0).toNat = 173
          · refine lf_val (v := .bool true) (wantF (d := 23) rfl (by kernel_rfl) rfl rfl) (rv_eql rfl (fr_eval rfl rfl) rfl (by decide +kernel : decide (((List.getD (sum [97, 98, 99]) 31 0).toNat : Int) = 173) = true)) ?_
            refine lf_val (v := .bool true) (wantAll rfl) (rv_pickT rfl (fr_eval rfl rfl) (fr_eval rfl rfl)) ?_
            refine lf_val (v := .bool true) (wantAll rfl) (rv_assign rfl (fr_eval rfl rfl)) ?_
            refine lf_nil ?_
            refine then_n ?_
            refine wp_gen (fun F' => F' 0 = .bool true ∧ F' 1 = .pointer (some ⟨g1, 0, none⟩)) ⟨rfl, e1⟩ ?_
            clear e0 e1
            clear F
            rintro F ⟨e0, e1⟩
            refine wp_ret ?_
            exact bodyPost_ret (v := (.bool true)) (res1 rfl (ro_tmp rfl e0)) rfl (⟨rfl, hH.done⟩)
          · refine lf_val (v := .bool true) (wantF (d := 23) rfl (by kernel_rfl) rfl rfl) (rv_eql rfl (fr_eval rfl rfl) rfl (by decide +kernel : decide (((List.getD (sum [97, 98, 99]) 31 0).toNat : Int) = 173) = true)) ?_
            refine lf_val (v := .bool true) (wantAll rfl) (rv_pickT rfl (fr_eval rfl rfl) (fr_eval rfl rfl)) ?_
            refine lf_val (v := .bool true) (wantAll rfl) (rv_assign rfl (fr_eval rfl rfl)) ?_
            refine lf_nil ?_
            refine then_n ?_
            refine wp_gen (fun F' => F' 0 = .bool true ∧ F' 1 = .pointer (some ⟨g1, 0, none⟩)) ⟨rfl, e1⟩ ?_
            clear e0 e1
            clear F
            rintro F ⟨e0, e1⟩
            refine wp_ret ?_
            exact bodyPost_ret (v := (.bool true)) (res1 rfl (ro_tmp rfl e0)) rfl (⟨rfl, hH.done⟩)
        · refine lf_val (v := .bool true) (wantF (d := 18) rfl (by kernel_rfl) rfl rfl) (rv_eql rfl (fr_eval rfl rfl) rfl (by decide +kernel : decide (((List.getD (sum [97, 98, 99]) 3 0).toNat : Int) = 191) = true)) ?_
          refine lf_val (v := .bool true) (wantAll rfl) (rv_pickT rfl (fr_eval rfl rfl) (fr_eval rfl rfl)) ?_
          refine lf_val (v := .bool true) (wantAll rfl) (rv_move rfl (fr_eval rfl rfl)) ?_
          refine lf_val (v := .pointer (some ⟨g1, 31, none⟩)) (wantF (d := 23) rfl (by kernel_rfl) rfl rfl) ((show (execOp _ _).run _ _ = .ok (.value (.pointer (some ⟨g1, 31, none⟩))) _ from rv_indexArr (size := 1) (off := 0) (i := 31) rfl (fr_eval rfl e1) (show _ = Value.int _ ((31 : Nat) : Int) from rfl) (by decide) Try.underlying26 Try.sz5)) ?_
          refine lf_val (v := cB (List.getD (sum [97, 98, 99]) 31 0)) (wantF (d := 23) rfl (by kernel_rfl) rfl rfl) (rv_load1 rfl (hH.blk (i := 0) rfl) (cell_b (k := 31) rfl (Nat.lt_of_lt_of_eq (show 31 < 32 by decide) ((sum_length _)).symm)) (fr_eval rfl rfl) Try.underlying5 rfl Try.sz5) ?_
          by_cases hc28 : (List.getD (sum [97, 98, 99]) 31 0).toNat = 173
          · refine lf_val (v := .bool true) (wantF (d := 23) rfl (by kernel_rfl) rfl rfl) (rv_eql rfl (fr_eval rfl rfl) rfl (by decide +kernel : decide (((List.getD (sum [97, 98, 99]) 31 0).toNat : Int) = 173) = true)) ?_
            refine lf_val (v := .bool true) (wantAll rfl) (rv_pickT rfl (fr_eval rfl rfl) (fr_eval rfl rfl)) ?_
            refine lf_val (v := .bool true) (wantAll rfl) (rv_assign rfl (fr_eval rfl rfl)) ?_
            refine lf_nil ?_
            refine then_n ?_
            refine wp_gen (fun F' => F' 0 = .bool true ∧ F' 1 = .pointer (some ⟨g1, 0, none⟩)) ⟨rfl, e1⟩ ?_
            clear e0 e1
            clear F
            rintro F ⟨e0, e1⟩
            refine wp_ret ?_
            exact bodyPost_ret (v := (.bool true)) (res1 rfl (ro_tmp rfl e0)) rfl (⟨rfl, hH.done⟩)
          · refine lf_val (v := .bool true) (wantF (d := 23) rfl (by kernel_rfl) rfl rfl) (rv_eql rfl (fr_eval rfl rfl) rfl (by decide +kernel : decide (((List.getD (sum [97, 98, 99]) 31 0).toNat : Int) = 173) = true)) ?_
            refine lf_val (v := .bool true) (wantAll rfl) (rv_pickT rfl (fr_eval rfl rfl) (fr_eval rfl rfl)) ?_
            refine lf_val (v := .bool true) (wantAll rfl) (rv_assign rfl (fr_eval rfl rfl)) ?_
            refine lf_nil ?_
            refine then_n ?_
            refine wp_gen (fun F' => F' 0 = .bool true ∧ F' 1 = .pointer (some ⟨g1, 0, none⟩)) ⟨rfl, e1⟩ ?_
            clear e0 e1
            clear F
            rintro F ⟨e0, e1⟩
            refine wp_ret ?_
            exact bodyPost_ret (v := (.bool true)) (res1 rfl (ro_tmp rfl e0)) rfl (⟨rfl, hH.done⟩)
      · refine lf_val (v := .bool true) (wantF (d := 13) rfl (by kernel_rfl) rfl rfl) (rv_eql rfl (fr_eval rfl rfl) rfl (by decide +kernel : decide (((List.getD (sum [97, 98, 99]) 2 0).toNat : Int) = 22) = true)) ?_
        refine lf_val (v := .bool true) (wantAll rfl) (rv_pickT rfl (fr_eval rfl rfl) (fr_eval rfl rfl)) ?_
        refine lf_val (v := .bool true) (wantAll rfl) (rv_move rfl (fr_eval rfl rfl)) ?_
        refine lf_val (v := .pointer (some ⟨g1, 3, none⟩)) (wantF (d := 18) rfl (by kernel_rfl) rfl rfl) ((show (execOp _ _).run _ _ = .ok (.value (.pointer (some ⟨g1, 3, none⟩))) _ from rv_indexArr (size := 1) (off := 0) (i := 3) rfl (fr_eval rfl e1) (show _ = Value.int _ ((3 : Nat) : Int) from rfl) (by decide) Try.underlying26 Try.sz5)) ?_
        refine lf_val (v := cB (List.getD (sum [97, 98, 99]) 3 0)) (wantF (d := 18) rfl (by kernel_rfl) rfl rfl) (rv_load1 rfl (hH.blk (i := 0) rfl) (cell_b (k := 3) rfl (Nat.lt_of_lt_of_eq (show 3 < 32 by decide) ((sum_length _)).symm)) (fr_eval rfl rfl) Try.underlying5 rfl Try.sz5) ?_
        by_cases hc29 : (List.getD (sum [97, 98, 99]) 3 0).toNat = 191
        · refine lf_val (v := .bool true) (wantF (d := 18) rfl (by kernel_rfl) rfl rfl) (rv_eql rfl (fr_eval rfl rfl) rfl (by decide +kernel : decide (((List.getD (sum [97, 98, 99]) 3 0).toNat : Int) = 191) = true)) ?_
          refine lf_val (v := .bool true) (wantAll rfl) (rv_pickT rfl (fr_eval rfl rfl) (fr_eval rfl rfl)) ?_
          refine lf_val (v := .bool true) (wantAll rfl) (rv_move rfl (fr_eval rfl rfl)) ?_
          refine lf_val (v := .pointer (some ⟨g1, 31, none⟩)) (wantF (d := 23) rfl (by kernel_rfl) rfl rfl) ((show (execOp _ _).run _ _ = .ok (.value (.pointer (some ⟨g1, 31, none⟩))) _ from rv_indexArr (size := 1) (off := 0) (i := 31) rfl (fr_eval rfl e1) (show _ = Value.int _ ((31 : Nat) : Int) from rfl) (by decide) Try.underlying26 Try.sz5)) ?_
          refine lf_val (v := cB (List.getD (sum [97, 98, 99]) 31 0)) (wantF (d := 23) rfl (by kernel_rfl) rfl rfl) (rv_load1 rfl (hH.blk (i := 0) rfl) (cell_b (k := 31) rfl (Nat.lt_of_lt_of_eq (show 31 < 32 by decide) ((sum_length _)).symm)) (fr_eval rfl rfl) Try.underlying5 rfl Try.sz5) ?_
          by_cases hc30 : (List.getD (sum [97, 98, 99]) 31 0).toNat = 173
          · refine lf_val (v := .bool true) (wantF (d := 23) rfl (by kernel_rfl) rfl rfl) (rv_eql rfl (fr_eval rfl rfl) rfl (by decide +kernel : decide (((List.getD (sum [97, 98, 99]) 31 0).toNat : Int) = 173) = true)) ?_
            refine lf_val (v := .bool true) (wantAll rfl) (rv_pickT rfl (fr_eval rfl rfl) (fr_eval rfl rfl)) ?_
            refine lf_val (v := .bool true) (wantAll rfl) (rv_assign rfl (fr_eval rfl rfl)) ?_
            refine lf_nil ?_
            refine then_n ?_
            refine wp_gen (fun F' => F' 0 = .bool true ∧ F' 1 = .pointer (some ⟨g1, 0, none⟩)) ⟨rfl, e1⟩ ?_
            clear e0 e1
            clear F
            rintro F ⟨e0, e1⟩
            refine wp_ret ?_
            exact bodyPost_ret (v := (.bool true)) (res1 rfl (ro_tmp rfl e0)) rfl (⟨rfl, hH.done⟩)
          · refine lf_val (v := .bool true) (wantF (d := 23) rfl (by kernel_rfl) rfl rfl) (rv_eql rfl (fr_eval rfl rfl) rfl (by decide +kernel : decide (((List.getD (sum [97, 98, 99]) 31 0).toNat : Int) = 173) = true)) ?_
            refine lf_val (v := .bool true) (wantAll rfl) (rv_pickT rfl (fr_eval rfl rfl) (fr_eval rfl rfl)) ?_
            refine lf_val (v := .bool true) (wantAll rfl) (rv_assign rfl (fr_eval rfl rfl)) ?_
            refine lf_nil ?_
            refine then_n ?_
            refine wp_gen (fun F' => F' 0 = .bool true ∧ F' 1 = .pointer (some ⟨g1, 0, none⟩)) ⟨rfl, e1⟩ ?_
            clear e0 e1
            clear F
            rintro F ⟨e0, e1⟩
            refine wp_ret ?_
            exact bodyPost_ret (v := (.bool true)) (res1 rfl (ro_tmp rfl e0)) rfl (⟨rfl, hH.done⟩)
        · refine lf_val (v := .bool true) (wantF (d := 18) rfl (by kernel_rfl) rfl rfl) (rv_eql rfl (fr_eval rfl rfl) rfl (by decide +kernel : decide (((List.getD (sum [97, 98, 99]) 3 0).toNat : Int) = 191) = true)) ?_
          refine lf_val (v := .bool true) (wantAll rfl) (rv_pickT rfl (fr_eval rfl rfl) (fr_eval rfl rfl)) ?_
          refine lf_val (v := .bool true) (wantAll rfl) (rv_move rfl (fr_eval rfl rfl)) ?_
          refine lf_val (v := .pointer (some ⟨g1, 31, none⟩)) (wantF (d := 23) rfl (by kernel_rfl) rfl rfl) ((show (execOp _ _).run _ _ = .ok (.value (.pointer (some ⟨g1, 31, none⟩))) _ from rv_indexArr (size := 1) (off := 0) (i := 31) rfl (fr_eval rfl e1) (show _ = Value.int _ ((31 : Nat) : Int) from rfl) (by decide) Try.underlying26 Try.sz5)) ?_
          refine lf_val (v := cB (List.getD (sum [97, 98, 99]) 31 0)) (wantF (d := 23) rfl (by kernel_rfl) rfl rfl) (rv_load1 rfl (hH.blk (i := 0) rfl) (cell_b (k := 31) rfl (Nat.lt_of_lt_of_eq (show 31 < 32 by decide) ((sum_length _)).symm)) (fr_eval rfl rfl) Try.underlying5 rfl Try.sz5) ?_
          by_cases hc31 : (List.getD (sum [97, 98, 99]) 31 0).toNat = 173
          · refine lf_val (v := .bool true) (wantF (d := 23) rfl (by kernel_rfl) rfl rfl) (rv_eql rfl (fr_eval rfl rfl) rfl (by decide +kernel : decide (((List.getD (sum [97, 98, 99]) 31 0).toNat : Int) = 173) = true)) ?_
            refine lf_val (v := .bool true) (wantAll rfl) (rv_pickT rfl (fr_eval rfl rfl) (fr_eval rfl rfl)) ?_
            refine lf_val (v := .bool true) (wantAll rfl) (rv_assign rfl (fr_eval rfl rfl)) ?_
            refine lf_nil ?_
            refine then_n ?_
            refine wp_gen (fun F' => F' 0 = .bool true ∧ F' 1 = .pointer (some ⟨g1, 0, none⟩)) ⟨rfl, e1⟩ ?_
            clear e0 e1
            clear F
            rintro F ⟨e0, e1⟩
            refine wp_ret ?_
            exact bodyPost_ret (v := (.bool true)) (res1 rfl (ro_tmp rfl e0)) rfl (⟨rfl, hH.done⟩)
          · refine lf_val (v := .bool true) (wantF (d := 23) rfl (by kernel_rfl) rfl rfl) (rv_eql rfl (fr_eval rfl rfl) rfl (by decide +kernel : decide (((List.getD (sum [97, 98, 99]) 31 0).toNat : Int) = 173) = true)) ?_
            refine lf_val (v := .bool true) (wantAll rfl) (rv_pickT rfl (fr_eval rfl rfl) (fr_eval rfl rfl)) ?_
            refine lf_val (v := .bool true) (wantAll rfl) (rv_assign rfl (fr_eval rfl rfl)) ?_
            refine lf_nil ?_
            refine then_n ?_
            refine wp_gen (fun F' => F' 0 = .bool true ∧ F' 1 = .pointer (some ⟨g1, 0, none⟩)) ⟨rfl, e1⟩ ?_
            clear e0 e1
            clear F
            rintro F ⟨e0, e1⟩
            refine wp_ret ?_
            exact bodyPost_ret (v := (.bool true)) (res1 rfl (ro_tmp rfl e0)) rfl (⟨rfl, hH.done⟩)

set_option maxRecDepth 100000 in
set_option maxHeartbeats 4000000 in
theorem shaSums_walk (b : List UInt8) (v : Value) (w : World) (hr0 : RdB w v b) :
    Calls Try.prog 3 #[v] w fun e'' w' => e'' = .returned (.bool true) ∧ Ext w w' := by
  refine calls_fr (args := [v]) (n := 13) Try.func3 rfl rfl (show 1 ≤ 13 by decide) ?_
  have h200 := List.length_take_le 200 b
  have hr := Rd.stab hr0
  have hH : Heap (newN w) w w [] := Heap.fresh
  refine wp_seq ?_
  refine wp_gen (fun F' => F' 0 = v) rfl ?_
  rintro F e0
  refine wp_regionF ?_
  refine lf_val (v := .bool false) (wantAll rfl) (rv_assign rfl rfl) ?_
  refine lf_nil ?_
  refine then_n ?_
  refine wp_seq ?_
  refine wp_gen (fun F' => F' 0 = v ∧ F' 2 = .bool false) ⟨e0, rfl⟩ ?_
  clear e0
  clear F
  rintro F ⟨e0, e2⟩
  refine wp_regionF ?_
  refine lf_val (v := v) (wantAll rfl) (rv_move rfl (fr_eval rfl e0)) ?_
  refine lf_call (wantAll rfl) (rv_call (args := [v]) rfl (evc (fr_eval rfl rfl) evn) Try.call15) (cutH02_calls b _ _ (hr.rd _ hH.chg)) ?_
  rintro _ w1 ⟨rfl, hx⟩
  refine ⟨_, rfl, ?_⟩
  replace hH := hH.ext hx
  clear hx
  refine lf_val (v := cutV v b 200) (wantAll rfl) (rv_assign rfl (fr_eval rfl rfl)) ?_
  refine lf_nil ?_
  refine then_n ?_
  refine wp_seq ?_
  refine wp_gen (fun F' => F' 0 = cutV v b 200 ∧ F' 2 = .bool false) ⟨rfl, e2⟩ ?_
  clear e0 e2
  clear F
  rintro F ⟨e0, e2⟩
  refine wp_regionF ?_
  refine lf_val (v := cutV v b 200) (wantAll rfl) (rv_move rfl (fr_eval rfl e0)) ?_
  refine lf_call (wantAll rfl) (rv_call (args := [cutV v b 200]) rfl (evc (fr_eval rfl rfl) evn) Try.call17) (of_calls (List.take 200 b) (Nat.le_trans (show List.length (List.take 200 b) ≤ 200 from (List.length_take_le 200 b)) (by decide)) _ _ (rdB_cut (hr.rd _ hH.chg))) ?_
  rintro _ w2 ⟨rfl, hx⟩
  refine ⟨_, rfl, ?_⟩
  replace hH := hH.ext hx
  clear hx
  refine lf_val (v := cutV v b 200) (wantAll rfl) (rv_move rfl (fr_eval rfl e0)) ?_
  refine lf_call (wantAll rfl) (rv_call (args := [cutV v b 200]) rfl (evc (fr_eval rfl rfl) evn) Try.call18) (of02_calls (List.take 200 b) (by omega) _ _ (rdB_cut (hr.rd _ hH.chg))) ?_
  rintro _ w3 ⟨⟨y1, rfl, ho, hg⟩, hx⟩
  refine ⟨_, rfl, ?_⟩
  replace hH : Heap (newN w) w w3 [oB y1 (sum (List.take 200 b))] := hH.addOwn hx hg ho
  clear ho hg
  clear hx
  refine lf_call (wantAll rfl) (rv_call (args := [.agg (cBs (sum (List.take 200 b))).toArray, y1]) rfl (evc (fr_eval rfl rfl) (evc (fr_eval rfl rfl) evn)) Try.call16) (by have h := same02_calls (sum (List.take 200 b)) (sum_length _) (sum (List.take 200 b)) _ _ (OwnB.rd (hH.own (i := 0) rfl)); rw [decide_eq_true rfl] at h; exact h) ?_
  rintro _ w4 ⟨rfl, hx⟩
  refine ⟨_, rfl, ?_⟩
  replace hH := hH.ext hx
  clear hx
  refine lf_val (v := .bool true) (wantAll rfl) (rv_move rfl (fr_eval rfl rfl)) ?_
  refine lf_call (wantF (d := 10) rfl (by kernel_rfl) rfl rfl) (rv_call (args := []) rfl evn Try.call19) (awakeH02_calls _) ?_
  rintro _ w5 ⟨rfl, hx⟩
  refine ⟨_, rfl, ?_⟩
  replace hH := hH.ext hx
  clear hx
  refine lf_val (v := .bool true) (wantAll rfl) (rv_pickT rfl (fr_eval rfl rfl) (fr_eval rfl rfl)) ?_
  refine lf_val (v := .bool true) (wantAll rfl) (rv_assign rfl (fr_eval rfl rfl)) ?_
  refine lf_nil ?_
  refine then_n ?_
  replace hH : Heap (newN w) w w5 [] := hH.drop (.cons _ .slnil)
  refine wp_gen (fun F' => F' 0 = cutV v b 200 ∧ F' 2 = .bool true) ⟨e0, rfl⟩ ?_
  clear e0 e2
  clear F
  rintro F ⟨e0, e2⟩
  refine wp_ret ?_
  exact bodyPost_ret (v := (.bool true)) (res1 rfl (ro_tmp rfl e2)) rfl (⟨rfl, hH.done⟩)

set_option maxRecDepth 100000 in
set_option maxHeartbeats 4000000 in
theorem shaJoins_walk (tag : UInt8) (ls : List (List UInt8)) (vs : List Value) (v : Value) (sa sb : List UInt8) (ha : sa.length = 32) (hb : sb.length = 32) (w : World) (hp0 : Rd w 1 v ls.length vs) (ha0 : All2 (RdB w) vs ls) :
    Calls Try.prog 5 #[cB tag, v, .agg (cBs sa).toArray, .agg (cBs sb).toArray] w fun e'' w' => e'' = .returned (.bool true) ∧ Ext w w' := by
  refine calls_fr (args := [cB tag, v, .agg (cBs sa).toArray, .agg (cBs sb).toArray]) (n := 51) Try.func5 rfl rfl (show 4 ≤ 51 by decide) ?_
  have hp := StabP.of hp0 ha0
  have hlm := Rd.max hp0
  have hH : Heap (newN w) w w [] := Heap.fresh
  refine wp_seq ?_
  refine wp_gen (fun F' => F' 0 = cB tag ∧ F' 1 = v ∧ F' 2 = .agg (cBs sa).toArray ∧ F' 3 = .agg (cBs sb).toArray) ⟨rfl, rfl, rfl, rfl⟩ ?_
  rintro F ⟨e0, e1, e2, e3⟩
  refine wp_regionF ?_
  refine lf_ex (wantAll rfl) (hx_box hH 26 (cs := cBs sa) rfl (fr_eval rfl e2) (by rfl)) ?_
  clear hH
  rintro _ w1 ⟨g1, rfl, hH, hx⟩
  replace hH : Heap (newN w) w w1 [oBlk g1 (cBs sa) 26] := hH
  clear hx
  refine lf_ex (wantAll rfl) (hx_box hH 26 (cs := cBs sb) rfl (fr_eval rfl e3) (by rfl)) ?_
  clear hH
  rintro _ w2 ⟨g2, rfl, hH, hx⟩
  replace hH : Heap (newN w) w w2 [oBlk g1 (cBs sa) 26, oBlk g2 (cBs sb) 26] := hH
  clear hx
  refine lf_val (v := .bool false) (wantAll rfl) (rv_assign rfl rfl) ?_
  refine lf_nil ?_
  refine then_n ?_
  refine wp_seq ?_
  refine wp_gen (fun F' => F' 0 = cB tag ∧ F' 1 = v ∧ F' 2 = .agg (cBs sa).toArray ∧ F' 3 = .agg (cBs sb).toArray ∧ F' 6 = .pointer (some ⟨g1, 0, none⟩) ∧ F' 7 = .pointer (some ⟨g2, 0, none⟩) ∧ F' 8 = .bool false) ⟨e0, e1, e2, e3, rfl, rfl, rfl⟩ ?_
  clear e0 e1 e2 e3
  clear F
  rintro F ⟨e0, e1, e2, e3, e6, e7, e8⟩
  refine wp_regionF ?_
  refine lf_val (v := .slice none 0 0) (wantAll rfl) (rv_assign rfl rfl) ?_
  refine lf_nil ?_
  refine then_n ?_
  refine wp_seq ?_
  refine wp_seq ?_
  refine wp_gen (fun F' => F' 0 = cB tag ∧ F' 1 = v ∧ F' 2 = .agg (cBs sa).toArray ∧ F' 3 = .agg (cBs sb).toArray ∧ F' 6 = .pointer (some ⟨g1, 0, none⟩) ∧ F' 7 = .pointer (some ⟨g2, 0, none⟩) ∧ F' 8 = .bool false ∧ F' 9 = .slice none 0 0) ⟨e0, e1, e2, e3, e6, e7, e8, rfl⟩ ?_
  clear e0 e1 e2 e3 e6 e7 e8
  clear F
  rintro F ⟨e0, e1, e2, e3, e6, e7, e8, e9⟩
  refine wp_regionF ?_
  refine lf_val (v := .int .i64 0) (wantAll rfl) (rv_assign rfl rfl) ?_
  refine lf_nil ?_
  refine then_n ?_
  refine wp_block ?_
  replace hH : Heap (newN w) w w2 [oBlk g1 (cBs sa) 26, oBlk g2 (cBs sb) 26, oRow cV1 22 1 (.slice none 0 0) []] := hH.addNil 22 1
  refine wp_gen (fun F' => F' 0 = cB tag ∧ F' 1 = v ∧ F' 2 = .agg (cBs sa).toArray ∧ F' 3 = .agg (cBs sb).toArray ∧ F' 6 = .pointer (some ⟨g1, 0, none⟩) ∧ F' 7 = .pointer (some ⟨g2, 0, none⟩) ∧ F' 8 = .bool false ∧ F' 9 = (.slice none 0 0) ∧ F' 10 = .int .i64 0) ⟨e0, e1, e2, e3, e6, e7, e8, e9, rfl⟩ ?_
  clear e0 e1 e2 e3 e6 e7 e8 e9
  clear F
  rintro F ⟨e0, e1, e2, e3, e6, e7, e8, e9, e10⟩
  refine wp_loopF (fun m F wr => ∃ i : Nat, ∃ l : List V1, ∃ yl : Value, m = 6 - i ∧ i ≤ ls.length ∧ i ≤ 6 ∧ All2 (fun (x : V1) b => StabB (newN w) w x.1 b) l ((ls.take i).map (List.take 200)) ∧ F 0 = cB tag ∧ F 1 = v ∧ F 2 = .agg (cBs sa).toArray ∧ F 3 = .agg (cBs sb).toArray ∧ F 6 = .pointer (some ⟨g1, 0, none⟩) ∧ F 7 = .pointer (some ⟨g2, 0, none⟩) ∧ F 8 = .bool false ∧ F 9 = yl ∧ F 10 = .int .i64 ((i : Nat) : Int) ∧ Heap (newN w) w wr [oBlk g1 (cBs sa) 26, oBlk g2 (cBs sb) 26, oRow cV1 22 1 yl l]) ⟨0, _, _, rfl, Nat.zero_le _, Nat.zero_le _, .nil, e0, e1, e2, e3, e6, e7, e8, e9, e10, hH⟩ ?_
  clear e0 e1 e2 e3 e6 e7 e8 e9 e10 hH
  clear F
  rintro m F w3 ⟨i, l, yl, rfl, pi0, pi1, pi2, e0, e1, e2, e3, e6, e7, e8, e9, e10, hH⟩
  refine wp_seq ?_
  refine wp_seq ?_
  refine wp_regionF ?_
  refine lf_val (v := .int .i64 ((i : Nat) : Int)) (wantAll rfl) (rv_move rfl (fr_eval rfl e10)) ?_
  refine lf_val (v := v) (wantAll rfl) (rv_move rfl (fr_eval rfl e1)) ?_
  refine lf_val (v := .int .i64 ((ls.length : Nat) : Int)) (wantAll rfl) (rv_len rfl (fr_eval rfl rfl) (hp.row.rd _ hH.chg) Try.underlying32) ?_
  by_cases hc1 : i < ls.length
  · refine lf_val (v := .bool true) (wantAll rfl) (rv_lss rfl (fr_eval rfl rfl) (fr_eval rfl rfl) (decide_eq_true (by omega))) ?_
    refine lf_val (v := .bool true) (wantAll rfl) (rv_move rfl (fr_eval rfl rfl)) ?_
    refine lf_val (v := .int .i64 ((i : Nat) : Int)) (wantF (d := 15) rfl (by kernel_rfl) rfl rfl) (rv_move rfl (fr_eval rfl e10)) ?_
    by_cases hc2 : i < 6
    · refine lf_val (v := .bool true) (wantF (d := 15) rfl (by kernel_rfl) rfl rfl) (rv_lss rfl (fr_eval rfl rfl) rfl (decide_eq_true (by omega))) ?_
      refine lf_val (v := .bool true) (wantAll rfl) (rv_pickT rfl (fr_eval rfl rfl) (fr_eval rfl rfl)) ?_
      refine lf_nil ?_
      refine then_n ?_
      refine wp_gen (fun F' => F' 0 = cB tag ∧ F' 1 = v ∧ F' 2 = .agg (cBs sa).toArray ∧ F' 3 = .agg (cBs sb).toArray ∧ F' 6 = .pointer (some ⟨g1, 0, none⟩) ∧ F' 7 = .pointer (some ⟨g2, 0, none⟩) ∧ F' 8 = .bool false ∧ F' 9 = yl ∧ F' 10 = .int .i64 ((i : Nat) : Int) ∧ F' 18 = .bool true) ⟨e0, e1, e2, e3, e6, e7, e8, e9, e10, rfl⟩ ?_
      clear e0 e1 e2 e3 e6 e7 e8 e9 e10
      clear F
      rintro F ⟨e0, e1, e2, e3, e6, e7, e8, e9, e10, e18⟩
      refine wp_cond_true (fr_eval rfl e18) ?_
      refine wp_skip ?_
      refine then_n ?_
      refine wp_seq ?_
      refine wp_block ?_
      have hcut : StabB (newN w) w (cutV (List.getD vs i (.slice none 0 0)) (List.getD ls i []) 200) (List.take 200 ls[i]) := by
        have e : List.getD ls i [] = ls[i] := by simp [List.getD_eq_getElem?_getD, (show i < ls.length by omega)]
        rw [← e]; exact stab_cut (hp.each i (by omega)).2
      have hll : l.length ≤ 6 := by have := All2.length pi2; simp at this; omega
      refine wp_regionF ?_
      refine lf_val (v := yl) (wantAll rfl) (rv_move rfl (fr_eval rfl e9)) ?_
      refine lf_val (v := v) (wantAll rfl) (rv_move rfl (fr_eval rfl e1)) ?_
      refine lf_val (v := .int .i64 ((i : Nat) : Int)) (wantAll rfl) (rv_move rfl (fr_eval rfl e10)) ?_
      refine lf_val (v := .pointer (some (elemA v (i * 1)))) (wantAll rfl) (rv_index rfl (fr_eval rfl rfl) (fr_eval rfl rfl) (hp.row.rd _ hH.chg) (by omega) Try.underlying32 Try.sz22 (by decide)) ?_
      refine lf_val (v := List.getD vs i (.slice none 0 0)) (wantAll rfl) (rv_loadCell rfl (fr_eval rfl rfl) (Nat.mul_one _) (hp.row.rd _ hH.chg) (hp.each i (by omega)).1 Try.underlying22 rfl Try.sz22) ?_
      refine lf_call (wantAll rfl) (rv_call (args := [List.getD vs i (.slice none 0 0)]) rfl (evc (fr_eval rfl rfl) evn) Try.call15) (cutH02_calls (List.getD ls i []) _ _ ((hp.each i (by omega)).2.rd _ hH.chg)) ?_
      rintro _ w4 ⟨rfl, hx⟩
      refine ⟨_, rfl, ?_⟩
      replace hH := hH.ext hx
      clear hx
      refine lf_ex (wantAll rfl) (hx_lits hH Try.stBB (n := 1) (nm := List.length [(⟨cutV (List.getD vs i (.slice none 0 0)) (List.getD ls i []) 200, hcut.one⟩ : V1)]) [(.tmp 26)] (vs := [(cutV (List.getD vs i (.slice none 0 0)) (List.getD ls i []) 200)]) (cs := List.flatMap cV1 [(⟨cutV (List.getD vs i (.slice none 0 0)) (List.getD ls i []) 200, hcut.one⟩ : V1)]) rfl (evc (fr_eval rfl rfl) evn) (row_one (l := [(⟨cutV (List.getD vs i (.slice none 0 0)) (List.getD ls i []) 200, hcut.one⟩ : V1)]) cV1_one) rfl (by decide) rfl rfl) ?_
      clear hH
      rintro y1 w5 ⟨hH, hx⟩
      replace hH : Heap (newN w) w w5 [oBlk g1 (cBs sa) 26, oBlk g2 (cBs sb) 26, oRow cV1 22 1 yl l, oRow cV1 22 1 y1 ([(⟨cutV (List.getD vs i (.slice none 0 0)) (List.getD ls i []) 200, hcut.one⟩ : V1)])] := hH
      clear hx
      refine lf_ex (wantAll rfl) (hx_append hH Try.stBB (i := 2) (xs' := (l ++ ([(⟨cutV (List.getD vs i (.slice none 0 0)) (List.getD ls i []) 200, hcut.one⟩ : V1)])).flatMap cV1) (nm := (l ++ ([(⟨cutV (List.getD vs i (.slice none 0 0)) (List.getD ls i []) 200, hcut.one⟩ : V1)])).length) rfl rfl (fun _ => rfl) List.length_append.symm List.flatMap_append.symm (Own.rd (hH.own (i := 3) rfl) (row_one cV1_one)) (fr_eval rfl rfl) (fr_eval rfl rfl) (by simp only [List.length_append, List.length_cons, List.length_nil]; omega)) ?_
      clear hH
      rintro y2 w6 ⟨hH, hx⟩
      replace hH : Heap (newN w) w w6 [oBlk g1 (cBs sa) 26, oBlk g2 (cBs sb) 26, oRow cV1 22 1 y2 (l ++ ([(⟨cutV (List.getD vs i (.slice none 0 0)) (List.getD ls i []) 200, hcut.one⟩ : V1)])), oRow cV1 22 1 y1 ([(⟨cutV (List.getD vs i (.slice none 0 0)) (List.getD ls i []) 200, hcut.one⟩ : V1)])] := hH
      clear hx
      refine lf_val (v := y2) (wantAll rfl) (rv_assign rfl (fr_eval rfl rfl)) ?_
      refine lf_nil ?_
      refine blk_n ?_
      refine then_n ?_
      replace hH : Heap (newN w) w w6 [oBlk g1 (cBs sa) 26, oBlk g2 (cBs sb) 26, oRow cV1 22 1 y2 (l ++ ([(⟨cutV (List.getD vs i (.slice none 0 0)) (List.getD ls i []) 200, hcut.one⟩ : V1)]))] := hH.drop (.cons_cons _ (.cons_cons _ (.cons_cons _ (.cons _ .slnil))))
      refine wp_gen (fun F' => F' 0 = cB tag ∧ F' 1 = v ∧ F' 2 = .agg (cBs sa).toArray ∧ F' 3 = .agg (cBs sb).toArray ∧ F' 6 = .pointer (some ⟨g1, 0, none⟩) ∧ F' 7 = .pointer (some ⟨g2, 0, none⟩) ∧ F' 8 = .bool false ∧ F' 9 = y2 ∧ F' 10 = .int .i64 ((i : Nat) : Int) ∧ F' 18 = .bool true) ⟨e0, e1, e2, e3, e6, e7, e8, rfl, e10, e18⟩ ?_
      clear e0 e1 e2 e3 e6 e7 e8 e9 e10 e18
      clear F
      rintro F ⟨e0, e1, e2, e3, e6, e7, e8, e9, e10, e18⟩
      refine wp_regionF ?_
      refine lf_val (v := .int .i64 ((i : Nat) : Int)) (wantAll rfl) (rv_move rfl (fr_eval rfl e10)) ?_
      refine lf_val (v := .int .i64 ((i + 1 : Nat) : Int)) (wantAll rfl) (rv_add rfl (fr_eval rfl rfl) rfl (wrap_i64 (by omega) (by omega) (by omega))) ?_
      refine lf_val (v := .int .i64 ((i + 1 : Nat) : Int)) (wantAll rfl) (rv_assign rfl (fr_eval rfl rfl)) ?_
      refine lf_nil ?_
      refine then_n ?_
      exact ⟨_, _, (by omega), rfl, i + 1, _, _, rfl, (by omega), (by omega), all2_next (by omega) pi2 hcut, e0, e1, e2, e3, e6, e7, e8, e9, rfl, hH⟩
    · refine lf_val (v := .bool false) (wantF (d := 15) rfl (by kernel_rfl) rfl rfl) (rv_lss rfl (fr_eval rfl rfl) rfl (decide_eq_false (by omega))) ?_
      refine lf_val (v := .bool false) (wantAll rfl) (rv_pickT rfl (fr_eval rfl rfl) (fr_eval rfl rfl)) ?_
      refine lf_nil ?_
      refine then_n ?_
      refine wp_gen (fun F' => F' 0 = cB tag ∧ F' 1 = v ∧ F' 2 = .agg (cBs sa).toArray ∧ F' 3 = .agg (cBs sb).toArray ∧ F' 6 = .pointer (some ⟨g1, 0, none⟩) ∧ F' 7 = .pointer (some ⟨g2, 0, none⟩) ∧ F' 8 = .bool false ∧ F' 9 = yl ∧ F' 10 = .int .i64 ((i : Nat) : Int) ∧ F' 18 = .bool false) ⟨e0, e1, e2, e3, e6, e7, e8, e9, e10, rfl⟩ ?_
      clear e0 e1 e2 e3 e6 e7 e8 e9 e10
      clear F
      rintro F ⟨e0, e1, e2, e3, e6, e7, e8, e9, e10, e18⟩
      refine wp_cond_false (fr_eval rfl e18) ?_
      refine wp_exit ?_
      refine then_exit ?_
      refine then_exit ?_
      refine blk_exit ?_
      refine then_n ?_
      refine wp_seq ?_
      have hfc : (flat ((ls.take i).map (List.take 200))).length ≤ 204 * 6 := by have := flat_cut (ls.take i); have := List.length_take_le i ls; omega
      refine wp_regionX (fun _ => False) 16 (by kernel_rfl) (by kernel_rfl) ?_
      refine xl_take (i := 0) (v := cB tag) rfl (by kernel_rfl) (by kernel_rfl) (by kernel_rfl) (by kernel_rfl) (yx_val (wantAll rfl) (fun w' hx' => rv_move rfl (fr_eval rfl e0))) ?_
      refine xl_take (i := 1) (v := yl) rfl (by kernel_rfl) (by kernel_rfl) (by kernel_rfl) (by kernel_rfl) (yx_val (wantAll rfl) (fun w' hx' => rv_move rfl (fr_eval rfl e9))) ?_
      refine xl_take (i := 2) (v := .agg (cBs (Sha.join tag ((ls.take i).map (List.take 200)))).toArray) rfl (by kernel_rfl) (by kernel_rfl) (by kernel_rfl) (by kernel_rfl) (yx_call (wantAll rfl) (fun w' => rv_call (args := [cB tag, yl]) rfl (evc (fr_eval rfl rfl) (evc (fr_eval rfl rfl) evn)) Try.call20) (fun w' hx' => join_calls tag ((ls.take i).map (List.take 200)) (by omega) _ _ (rdP_row ((hH.ext hx').own (i := 2) rfl) (all2_at pi2 (hH.chg.trans (Ext.any hx')))))) ?_
      refine xl_take (i := 3) (v := cB tag) rfl (by kernel_rfl) (by kernel_rfl) (by kernel_rfl) (by kernel_rfl) (yx_val (wantAll rfl) (fun w' hx' => rv_move rfl (fr_eval rfl e0))) ?_
      refine xl_take (i := 4) (v := yl) rfl (by kernel_rfl) (by kernel_rfl) (by kernel_rfl) (by kernel_rfl) (yx_val (wantAll rfl) (fun w' hx' => rv_move rfl (fr_eval rfl e9))) ?_
      refine anyX_ready (rs := [5]) (by kernel_rfl) ?_
      intro w7 hx
      replace hH := hH.ext hx
      clear hx
      refine (anyX_cons ?_ anyX_nil)
      refine xl_step (i := 5) rfl (wantAll rfl) ?_
      refine of_call (rv_call (args := [cB tag, yl]) rfl (evc (fr_eval rfl rfl) (evc (fr_eval rfl rfl) evn)) Try.call21) (join02P (tag := tag) (ls := (ls.take i).map (List.take 200)) (by omega) (rdP_row (hH.own (i := 2) rfl) (all2_at pi2 hH.chg))) ?_
      rintro _ w8 ⟨⟨y3, rfl, ho, hg⟩, hx⟩
      refine ⟨_, rfl, ?_⟩
      replace hH : Heap (newN w) w w8 [oBlk g1 (cBs sa) 26, oBlk g2 (cBs sb) 26, oRow cV1 22 1 yl l, oB y3 (join tag ((ls.take i).map (List.take 200)))] := hH.addOwn hx hg ho
      clear ho hg
      refine ⟨hx, ?_⟩
      clear hx
      refine xl_take (i := 6) (v := .bool true) rfl (by kernel_rfl) (by kernel_rfl) (by kernel_rfl) (by kernel_rfl) (yx_call (wantAll rfl) (fun w' => rv_call (args := [.agg (cBs (Sha.join tag ((ls.take i).map (List.take 200)))).toArray, y3]) rfl (evc (fr_eval rfl rfl) (evc (fr_eval rfl rfl) evn)) Try.call16) (fun w' hx' => by have h := same02_calls (Sha.join tag ((ls.take i).map (List.take 200))) (Sha.join_length _ _) (join tag ((ls.take i).map (List.take 200))) _ _ (OwnB.rd ((hH.ext hx').own (i := 3) rfl)); rw [decide_eq_true rfl] at h; exact h)) ?_
      refine xl_take (i := 7) (v := .bool true) rfl (by kernel_rfl) (by kernel_rfl) (by kernel_rfl) (by kernel_rfl) (yx_val (wantAll rfl) (fun w' hx' => rv_move rfl (fr_eval rfl rfl))) ?_
      refine xl_take (i := 8) (v := cB tag) rfl (by kernel_rfl) (by kernel_rfl) (by kernel_rfl) (by kernel_rfl) (yx_val (wantF (d := 36) rfl (by kernel_rfl) rfl rfl) (fun w' hx' => rv_move rfl (fr_eval rfl e0))) ?_
      refine xl_take (i := 9) (v := .agg (cBs sa).toArray) rfl (by kernel_rfl) (by kernel_rfl) (by kernel_rfl) (by kernel_rfl) (yx_val (wantF (d := 36) rfl (by kernel_rfl) rfl rfl) (fun w' hx' => rv_loadW rfl ((hH.ext hx').blk (i := 0) rfl) (fr_eval rfl e6) Try.underlying26 rfl (sz_len Try.sz26 (cBs_len ha)))) ?_
      refine xl_take (i := 10) (v := .agg (cBs sb).toArray) rfl (by kernel_rfl) (by kernel_rfl) (by kernel_rfl) (by kernel_rfl) (yx_val (wantF (d := 36) rfl (by kernel_rfl) rfl rfl) (fun w' hx' => rv_loadW rfl ((hH.ext hx').blk (i := 1) rfl) (fr_eval rfl e7) Try.underlying26 rfl (sz_len Try.sz26 (cBs_len hb)))) ?_
      refine xl_take (i := 11) (v := .agg (cBs (join tag [sa, sb])).toArray) rfl (by kernel_rfl) (by kernel_rfl) (by kernel_rfl) (by kernel_rfl) (yx_call (wantF (d := 36) rfl (by kernel_rfl) rfl rfl) (fun w' => rv_call (args := [cB tag, .agg (cBs sa).toArray, .agg (cBs sb).toArray]) rfl (evc (fr_eval rfl rfl) (evc (fr_eval rfl rfl) (evc (fr_eval rfl rfl) evn))) Try.call22) (fun w' hx' => pair_calls tag sa sb ha hb _)) ?_
      refine xl_take (i := 12) (v := cB tag) rfl (by kernel_rfl) (by kernel_rfl) (by kernel_rfl) (by kernel_rfl) (yx_val (wantF (d := 36) rfl (by kernel_rfl) rfl rfl) (fun w' hx' => rv_move rfl (fr_eval rfl e0))) ?_
      refine xl_take (i := 13) (v := .slice (some ⟨g1, 0, none⟩) 32 32) rfl (by kernel_rfl) (by kernel_rfl) (by kernel_rfl) (by kernel_rfl) (yx_val (wantF (d := 36) rfl (by kernel_rfl) rfl rfl) (fun w' hx' => rv_sliceArr rfl (fr_eval rfl e6) Try.underlying26 Try.sz5 (by decide))) ?_
      refine xl_take (i := 14) (v := .slice (some ⟨g2, 0, none⟩) 32 32) rfl (by kernel_rfl) (by kernel_rfl) (by kernel_rfl) (by kernel_rfl) (yx_val (wantF (d := 36) rfl (by kernel_rfl) rfl rfl) (fun w' hx' => rv_sliceArr rfl (fr_eval rfl e7) Try.underlying26 Try.sz5 (by decide))) ?_
      refine anyX_ready (rs := [15]) (by kernel_rfl) ?_
      intro w9 hx
      replace hH := hH.ext hx
      clear hx
      refine (anyX_cons ?_ anyX_nil)
      refine xl_step (i := 15) rfl (wantF (d := 36) rfl (by kernel_rfl) rfl rfl) ?_
      refine of_ex (hx_lits hH Try.stBB (n := 2) (nm := 2) [(.tmp 42), (.tmp 43)] (vs := [.slice (some ⟨g1, 0, none⟩) 32 32, .slice (some ⟨g2, 0, none⟩) 32 32]) rfl (evc (fr_eval rfl rfl) (evc (fr_eval rfl rfl) evn)) (ones_cons (Rd.oneV (rdB_blkn (hH.blk (i := 0) rfl) ha (by decide))) (ones_cons (Rd.oneV (rdB_blkn (hH.blk (i := 1) rfl) hb (by decide))) ones_nil)) rfl (by decide) rfl rfl) ?_
      clear hH
      rintro y4 w10 ⟨hH, hx⟩
      replace hH : Heap (newN w) w w10 [oBlk g1 (cBs sa) 26, oBlk g2 (cBs sb) 26, oRow cV1 22 1 yl l, oB y3 (join tag ((ls.take i).map (List.take 200))), oOwn 22 1 y4 2 [.slice (some ⟨g1, 0, none⟩) 32 32, .slice (some ⟨g2, 0, none⟩) 32 32]] := hH
      refine ⟨hx, ?_⟩
      clear hx
      refine xl_tail (s := 16) rfl ?_
      intro w11 hx
      replace hH := hH.ext hx
      clear hx
      refine lf_call (wantF (d := 36) rfl (by kernel_rfl) rfl rfl) (rv_call (args := [cB tag, y4]) rfl (evc (fr_eval rfl rfl) (evc (fr_eval rfl rfl) evn)) Try.call21) (join02P (tag := tag) (ls := [sa, sb]) (by simp [flat, ha, hb]) (rdP_own (hH.own (i := 4) rfl) (.cons (rdB_blkn (hH.blk (i := 0) rfl) ha (by decide)) (.cons (rdB_blkn (hH.blk (i := 1) rfl) hb (by decide)) .nil)) rfl)) ?_
      rintro _ w12 ⟨⟨y5, rfl, ho, hg⟩, hx⟩
      refine ⟨_, rfl, ?_⟩
      replace hH : Heap (newN w) w w12 [oBlk g1 (cBs sa) 26, oBlk g2 (cBs sb) 26, oRow cV1 22 1 yl l, oB y3 (join tag ((ls.take i).map (List.take 200))), oOwn 22 1 y4 2 [.slice (some ⟨g1, 0, none⟩) 32 32, .slice (some ⟨g2, 0, none⟩) 32 32], oB y5 (join tag [sa, sb])] := hH.addOwn hx hg ho
      clear ho hg
      clear hx
      refine lf_call (wantF (d := 36) rfl (by kernel_rfl) rfl rfl) (rv_call (args := [.agg (cBs (join tag [sa, sb])).toArray, y5]) rfl (evc (fr_eval rfl rfl) (evc (fr_eval rfl rfl) evn)) Try.call16) (by have h := same02_calls (join tag [sa, sb]) (join_length _ _) (join tag [sa, sb]) _ _ (OwnB.rd (hH.own (i := 5) rfl)); rw [decide_eq_true rfl] at h; exact h) ?_
      rintro _ w13 ⟨rfl, hx⟩
      refine ⟨_, rfl, ?_⟩
      replace hH := hH.ext hx
      clear hx
      refine lf_val (v := .bool true) (wantAll rfl) (rv_pickT rfl (fr_eval rfl rfl) (fr_eval rfl rfl)) ?_
      refine lf_val (v := .bool true) (wantAll rfl) (rv_move rfl (fr_eval rfl rfl)) ?_
      refine lf_call (wantF (d := 48) rfl (by kernel_rfl) rfl rfl) (rv_call (args := []) rfl evn Try.call19) (awakeH02_calls _) ?_
      rintro _ w14 ⟨rfl, hx⟩
      refine ⟨_, rfl, ?_⟩
      replace hH := hH.ext hx
      clear hx
      refine lf_val (v := .bool true) (wantAll rfl) (rv_pickT rfl (fr_eval rfl rfl) (fr_eval rfl rfl)) ?_
      refine lf_val (v := .bool true) (wantAll rfl) (rv_assign rfl (fr_eval rfl rfl)) ?_
      refine lf_nil ?_
      refine then_n ?_
      replace hH : Heap (newN w) w w14 [oBlk g1 (cBs sa) 26, oBlk g2 (cBs sb) 26, oRow cV1 22 1 yl l] := hH.drop (.cons_cons _ (.cons_cons _ (.cons_cons _ (.cons _ (.cons _ (.cons _ .slnil))))))
      refine wp_gen (fun F' => F' 0 = cB tag ∧ F' 1 = v ∧ F' 2 = .agg (cBs sa).toArray ∧ F' 3 = .agg (cBs sb).toArray ∧ F' 6 = .pointer (some ⟨g1, 0, none⟩) ∧ F' 7 = .pointer (some ⟨g2, 0, none⟩) ∧ F' 8 = .bool true ∧ F' 9 = yl ∧ F' 10 = .int .i64 ((i : Nat) : Int) ∧ F' 18 = .bool false) ⟨e0, e1, e2, e3, e6, e7, rfl, e9, e10, e18⟩ ?_
      clear e0 e1 e2 e3 e6 e7 e8 e9 e10 e18
      clear F
      rintro F ⟨e0, e1, e2, e3, e6, e7, e8, e9, e10, e18⟩
      refine wp_ret ?_
      exact bodyPost_ret (v := (.bool true)) (res1 rfl (ro_tmp rfl e8)) rfl (⟨rfl, hH.done⟩)
  · refine lf_val (v := .bool false) (wantAll rfl) (rv_lss rfl (fr_eval rfl rfl) (fr_eval rfl rfl) (decide_eq_false (by omega))) ?_
    refine lf_val (v := .bool false) (wantAll rfl) (rv_move rfl (fr_eval rfl rfl)) ?_
    refine lf_not (wantNot (d := 15) rfl (by kernel_rfl) rfl rfl) ?_
    refine lf_not (wantNot (d := 15) rfl (by kernel_rfl) rfl rfl) ?_
    refine lf_val (v := .bool false) (wantAll rfl) (rv_pickF rfl (fr_eval rfl rfl) rfl) ?_
    refine lf_nil ?_
    refine then_n ?_
    refine wp_gen (fun F' => F' 0 = cB tag ∧ F' 1 = v ∧ F' 2 = .agg (cBs sa).toArray ∧ F' 3 = .agg (cBs sb).toArray ∧ F' 6 = .pointer (some ⟨g1, 0, none⟩) ∧ F' 7 = .pointer (some ⟨g2, 0, none⟩) ∧ F' 8 = .bool false ∧ F' 9 = yl ∧ F' 10 = .int .i64 ((i : Nat) : Int) ∧ F' 18 = .bool false) ⟨e0, e1, e2, e3, e6, e7, e8, e9, e10, rfl⟩ ?_
    clear e0 e1 e2 e3 e6 e7 e8 e9 e10
    clear F
    rintro F ⟨e0, e1, e2, e3, e6, e7, e8, e9, e10, e18⟩
    refine wp_cond_false (fr_eval rfl e18) ?_
    refine wp_exit ?_
    refine then_exit ?_
    refine then_exit ?_
    refine blk_exit ?_
    refine then_n ?_
    refine wp_seq ?_
    have hfc : (flat ((ls.take i).map (List.take 200))).length ≤ 204 * 6 := by have := flat_cut (ls.take i); have := List.length_take_le i ls; omega
    refine wp_regionX (fun _ => False) 16 (by kernel_rfl) (by kernel_rfl) ?_
    refine xl_take (i := 0) (v := cB tag) rfl (by kernel_rfl) (by kernel_rfl) (by kernel_rfl) (by kernel_rfl) (yx_val (wantAll rfl) (fun w' hx' => rv_move rfl (fr_eval rfl e0))) ?_
    refine xl_take (i := 1) (v := yl) rfl (by kernel_rfl) (by kernel_rfl) (by kernel_rfl) (by kernel_rfl) (yx_val (wantAll rfl) (fun w' hx' => rv_move rfl (fr_eval rfl e9))) ?_
    refine xl_take (i := 2) (v := .agg (cBs (Sha.join tag ((ls.take i).map (List.take 200)))).toArray) rfl (by kernel_rfl) (by kernel_rfl) (by kernel_rfl) (by kernel_rfl) (yx_call (wantAll rfl) (fun w' => rv_call (args := [cB tag, yl]) rfl (evc (fr_eval rfl rfl) (evc (fr_eval rfl rfl) evn)) Try.call20) (fun w' hx' => join_calls tag ((ls.take i).map (List.take 200)) (by omega) _ _ (rdP_row ((hH.ext hx').own (i := 2) rfl) (all2_at pi2 (hH.chg.trans (Ext.any hx')))))) ?_
    refine xl_take (i := 3) (v := cB tag) rfl (by kernel_rfl) (by kernel_rfl) (by kernel_rfl) (by kernel_rfl) (yx_val (wantAll rfl) (fun w' hx' => rv_move rfl (fr_eval rfl e0))) ?_
    refine xl_take (i := 4) (v := yl) rfl (by kernel_rfl) (by kernel_rfl) (by kernel_rfl) (by kernel_rfl) (yx_val (wantAll rfl) (fun w' hx' => rv_move rfl (fr_eval rfl e9))) ?_
    refine anyX_ready (rs := [5]) (by kernel_rfl) ?_
    intro w15 hx
    replace hH := hH.ext hx
    clear hx
    refine (anyX_cons ?_ anyX_nil)
    refine xl_step (i := 5) rfl (wantAll rfl) ?_
    refine of_call (rv_call (args := [cB tag, yl]) rfl (evc (fr_eval rfl rfl) (evc (fr_eval rfl rfl) evn)) Try.call21) (join02P (tag := tag) (ls := (ls.take i).map (List.take 200)) (by omega) (rdP_row (hH.own (i := 2) rfl) (all2_at pi2 hH.chg))) ?_
    rintro _ w16 ⟨⟨y6, rfl, ho, hg⟩, hx⟩
    refine ⟨_, rfl, ?_⟩
    replace hH : Heap (newN w) w w16 [oBlk g1 (cBs sa) 26, oBlk g2 (cBs sb) 26, oRow cV1 22 1 yl l, oB y6 (join tag ((ls.take i).map (List.take 200)))] := hH.addOwn hx hg ho
    clear ho hg
    refine ⟨hx, ?_⟩
    clear hx
    refine xl_take (i := 6) (v := .bool true) rfl (by kernel_rfl) (by kernel_rfl) (by kernel_rfl) (by kernel_rfl) (yx_call (wantAll rfl) (fun w' => rv_call (args := [.agg (cBs (Sha.join tag ((ls.take i).map (List.take 200)))).toArray, y6]) rfl (evc (fr_eval rfl rfl) (evc (fr_eval rfl rfl) evn)) Try.call16) (fun w' hx' => by have h := same02_calls (Sha.join tag ((ls.take i).map (List.take 200))) (Sha.join_length _ _) (join tag ((ls.take i).map (List.take 200))) _ _ (OwnB.rd ((hH.ext hx').own (i := 3) rfl)); rw [decide_eq_true rfl] at h; exact h)) ?_
    refine xl_take (i := 7) (v := .bool true) rfl (by kernel_rfl) (by kernel_rfl) (by kernel_rfl) (by kernel_rfl) (yx_val (wantAll rfl) (fun w' hx' => rv_move rfl (fr_eval rfl rfl))) ?_
    refine xl_take (i := 8) (v := cB tag) rfl (by kernel_rfl) (by kernel_rfl) (by kernel_rfl) (by kernel_rfl) (yx_val (wantF (d := 36) rfl (by kernel_rfl) rfl rfl) (fun w' hx' => rv_move rfl (fr_eval rfl e0))) ?_
    refine xl_take (i := 9) (v := .agg (cBs sa).toArray) rfl (by kernel_rfl) (by kernel_rfl) (by kernel_rfl) (by kernel_rfl) (yx_val (wantF (d := 36) rfl (by kernel_rfl) rfl rfl) (fun w' hx' => rv_loadW rfl ((hH.ext hx').blk (i := 0) rfl) (fr_eval rfl e6) Try.underlying26 rfl (sz_len Try.sz26 (cBs_len ha)))) ?_
    refine xl_take (i := 10) (v := .agg (cBs sb).toArray) rfl (by kernel_rfl) (by kernel_rfl) (by kernel_rfl) (by kernel_rfl) (yx_val (wantF (d := 36) rfl (by kernel_rfl) rfl rfl) (fun w' hx' => rv_loadW rfl ((hH.ext hx').blk (i := 1) rfl) (fr_eval rfl e7) Try.underlying26 rfl (sz_len Try.sz26 (cBs_len hb)))) ?_
    refine xl_take (i := 11) (v := .agg (cBs (join tag [sa, sb])).toArray) rfl (by kernel_rfl) (by kernel_rfl) (by kernel_rfl) (by kernel_rfl) (yx_call (wantF (d := 36) rfl (by kernel_rfl) rfl rfl) (fun w' => rv_call (args := [cB tag, .agg (cBs sa).toArray, .agg (cBs sb).toArray]) rfl (evc (fr_eval rfl rfl) (evc (fr_eval rfl rfl) (evc (fr_eval rfl rfl) evn))) Try.call22) (fun w' hx' => pair_calls tag sa sb ha hb _)) ?_
    refine xl_take (i := 12) (v := cB tag) rfl (by kernel_rfl) (by kernel_rfl) (by kernel_rfl) (by kernel_rfl) (yx_val (wantF (d := 36) rfl (by kernel_rfl) rfl rfl) (fun w' hx' => rv_move rfl (fr_eval rfl e0))) ?_
    refine xl_take (i := 13) (v := .slice (some ⟨g1, 0, none⟩) 32 32) rfl (by kernel_rfl) (by kernel_rfl) (by kernel_rfl) (by kernel_rfl) (yx_val (wantF (d := 36) rfl (by kernel_rfl) rfl rfl) (fun w' hx' => rv_sliceArr rfl (fr_eval rfl e6) Try.underlying26 Try.sz5 (by decide))) ?_
    refine xl_take (i := 14) (v := .slice (some ⟨g2, 0, none⟩) 32 32) rfl (by kernel_rfl) (by kernel_rfl) (by kernel_rfl) (by kernel_rfl) (yx_val (wantF (d := 36) rfl (by kernel_rfl) rfl rfl) (fun w' hx' => rv_sliceArr rfl (fr_eval rfl e7) Try.underlying26 Try.sz5 (by decide))) ?_
    refine anyX_ready (rs := [15]) (by kernel_rfl) ?_
    intro w17 hx
    replace hH := hH.ext hx
    clear hx
    refine (anyX_cons ?_ anyX_nil)
    refine xl_step (i := 15) rfl (wantF (d := 36) rfl (by kernel_rfl) rfl rfl) ?_
    refine of_ex (hx_lits hH Try.stBB (n := 2) (nm := 2) [(.tmp 42), (.tmp 43)] (vs := [.slice (some ⟨g1, 0, none⟩) 32 32, .slice (some ⟨g2, 0, none⟩) 32 32]) rfl (evc (fr_eval rfl rfl) (evc (fr_eval rfl rfl) evn)) (ones_cons (Rd.oneV (rdB_blkn (hH.blk (i := 0) rfl) ha (by decide))) (ones_cons (Rd.oneV (rdB_blkn (hH.blk (i := 1) rfl) hb (by decide))) ones_nil)) rfl (by decide) rfl rfl) ?_
    clear hH
    rintro y7 w18 ⟨hH, hx⟩
    replace hH : Heap (newN w) w w18 [oBlk g1 (cBs sa) 26, oBlk g2 (cBs sb) 26, oRow cV1 22 1 yl l, oB y6 (join tag ((ls.take i).map (List.take 200))), oOwn 22 1 y7 2 [.slice (some ⟨g1, 0, none⟩) 32 32, .slice (some ⟨g2, 0, none⟩) 32 32]] := hH
    refine ⟨hx, ?_⟩
    clear hx
    refine xl_tail (s := 16) rfl ?_
    intro w19 hx
    replace hH := hH.ext hx
    clear hx
    refine lf_call (wantF (d := 36) rfl (by kernel_rfl) rfl rfl) (rv_call (args := [cB tag, y7]) rfl (evc (fr_eval rfl rfl) (evc (fr_eval rfl rfl) evn)) Try.call21) (join02P (tag := tag) (ls := [sa, sb]) (by simp [flat, ha, hb]) (rdP_own (hH.own (i := 4) rfl) (.cons (rdB_blkn (hH.blk (i := 0) rfl) ha (by decide)) (.cons (rdB_blkn (hH.blk (i := 1) rfl) hb (by decide)) .nil)) rfl)) ?_
    rintro _ w20 ⟨⟨y8, rfl, ho, hg⟩, hx⟩
    refine ⟨_, rfl, ?_⟩
    replace hH : Heap (newN w) w w20 [oBlk g1 (cBs sa) 26, oBlk g2 (cBs sb) 26, oRow cV1 22 1 yl l, oB y6 (join tag ((ls.take i).map (List.take 200))), oOwn 22 1 y7 2 [.slice (some ⟨g1, 0, none⟩) 32 32, .slice (some ⟨g2, 0, none⟩) 32 32], oB y8 (join tag [sa, sb])] := hH.addOwn hx hg ho
    clear ho hg
    clear hx
    refine lf_call (wantF (d := 36) rfl (by kernel_rfl) rfl rfl) (rv_call (args := [.agg (cBs (join tag [sa, sb])).toArray, y8]) rfl (evc (fr_eval rfl rfl) (evc (fr_eval rfl rfl) evn)) Try.call16) (by have h := same02_calls (join tag [sa, sb]) (join_length _ _) (join tag [sa, sb]) _ _ (OwnB.rd (hH.own (i := 5) rfl)); rw [decide_eq_true rfl] at h; exact h) ?_
    rintro _ w21 ⟨rfl, hx⟩
    refine ⟨_, rfl, ?_⟩
    replace hH := hH.ext hx
    clear hx
    refine lf_val (v := .bool true) (wantAll rfl) (rv_pickT rfl (fr_eval rfl rfl) (fr_eval rfl rfl)) ?_
    refine lf_val (v := .bool true) (wantAll rfl) (rv_move rfl (fr_eval rfl rfl)) ?_
    refine lf_call (wantF (d := 48) rfl (by kernel_rfl) rfl rfl) (rv_call (args := []) rfl evn Try.call19) (awakeH02_calls _) ?_
    rintro _ w22 ⟨rfl, hx⟩
    refine ⟨_, rfl, ?_⟩
    replace hH := hH.ext hx
    clear hx
    refine lf_val (v := .bool true) (wantAll rfl) (rv_pickT rfl (fr_eval rfl rfl) (fr_eval rfl rfl)) ?_
    refine lf_val (v := .bool true) (wantAll rfl) (rv_assign rfl (fr_eval rfl rfl)) ?_
    refine lf_nil ?_
    refine then_n ?_
    replace hH : Heap (newN w) w w22 [oBlk g1 (cBs sa) 26, oBlk g2 (cBs sb) 26, oRow cV1 22 1 yl l] := hH.drop (.cons_cons _ (.cons_cons _ (.cons_cons _ (.cons _ (.cons _ (.cons _ .slnil))))))
    refine wp_gen (fun F' => F' 0 = cB tag ∧ F' 1 = v ∧ F' 2 = .agg (cBs sa).toArray ∧ F' 3 = .agg (cBs sb).toArray ∧ F' 6 = .pointer (some ⟨g1, 0, none⟩) ∧ F' 7 = .pointer (some ⟨g2, 0, none⟩) ∧ F' 8 = .bool true ∧ F' 9 = yl ∧ F' 10 = .int .i64 ((i : Nat) : Int) ∧ F' 18 = .bool false) ⟨e0, e1, e2, e3, e6, e7, rfl, e9, e10, e18⟩ ?_
    clear e0 e1 e2 e3 e6 e7 e8 e9 e10 e18
    clear F
    rintro F ⟨e0, e1, e2, e3, e6, e7, e8, e9, e10, e18⟩
    refine wp_ret ?_
    exact bodyPost_ret (v := (.bool true)) (res1 rfl (ro_tmp rfl e8)) rfl (⟨rfl, hH.done⟩)

end Go.Proofs.Yticaefnpapppoaa
