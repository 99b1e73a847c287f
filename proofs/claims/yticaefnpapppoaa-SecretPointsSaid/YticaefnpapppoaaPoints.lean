/- SecretPoints: the walk. -/
import Derived.Test.YticaefnpapppoaaSecret2
namespace Go.Proofs.Yticaefnpapppoaa
open Go.RowKit Go.Bz Go.Bz.Sha

set_option maxRecDepth 100000 in
set_option maxHeartbeats 4000000 in
theorem secretPoints_walk (s : List UInt8) (hs : s.length = 32) (n : Int) (hn : -9223372036854775808 ≤ n ∧ n ≤ 9223372036854775807) (w : World) :
    Calls Try.prog 6 #[.agg (cBs s).toArray, .int .i64 n] w fun e w' => e = .returned (.bool true) ∧ Below w.heap.size w w' := by
  have HS := Lib.hid hs
  have HN := Lib.hid hn
  clear hs
  by_cases hbig : 2147483648 < n
  · go_enter Try.func6, Try.ntmps6
    go_wp2_with (first | (with_reducible refine stop_box ?_) | (with_reducible refine stop_alloc ?_))
    refine wpl_ex (ex_box 26 (.tmp 0) (v := .agg (cBs (s)).toArray) rfl rfl) rfl ?_
    rintro _ w1 ⟨rfl, h1, hx_w1, hs_w1⟩
    obtain ⟨sg, hg_sg⟩ : ∃ g, w.heap.size = g := ⟨_, rfl⟩
    rw [hg_sg] at h1 hs_w1 ⊢
    replace h1 : Blk w1 sg (cBs (s)) 26 := h1
    go_wp2_with fail
    refine (awake13_calls _).mono ?_
    rintro e w2 ⟨rfl, hx_w2⟩
    go_wp2
    go_ret
    exact ⟨rfl, Ext.below (hx_w1.trans hx_w2)⟩
  obtain ⟨m, hm⟩ : ∃ m : Nat, (max n 0).toNat = m := ⟨_, rfl⟩
  have HM : Hid (st4 n = be4 m) := by show st4 n = _; unfold st4; rw [hm]
  by_cases hneg : n < 0
  · obtain rfl : m = 0 := by omega
    clear hm
    go_enter Try.func6, Try.ntmps6
    go_wp2_with (first | (with_reducible refine stop_box ?_) | (with_reducible refine stop_alloc ?_))
    refine wpl_ex (ex_box 26 (.tmp 0) (v := .agg (cBs (s)).toArray) rfl rfl) rfl ?_
    rintro _ w1 ⟨rfl, h1, hx_w1, hs_w1⟩
    obtain ⟨sg, hg_sg⟩ : ∃ g, w.heap.size = g := ⟨_, rfl⟩
    rw [hg_sg] at h1 hs_w1 ⊢
    replace h1 : Blk w1 sg (cBs (s)) 26 := h1
    go_wp2_with fail
    obtain ⟨A_hl, hA_hl⟩ : ∃ A : Array Value, #[.int .u8 0, .int .u8 0, .int .u8 0, .int .u8 0] = A := ⟨_, rfl⟩
    rw [hA_hl]
    have hl := rdB_lit (w := w1) (e := 5) (cs := A_hl) (l := be4 0) (by rw [← hA_hl]; rfl) (by simp)
    rw [hs_w1] at hl
    have hx_w3 := Ext.alloc w1 (.cells A_hl 5)
    have hs_w3 := World.size_alloc w1 (.cells A_hl 5)
    rw [hs_w1] at hs_w3
    generalize w1.alloc (.cells A_hl 5) = w3 at hl hx_w3 hs_w3 ⊢
    clear hA_hl A_hl
    have hp := rdP_lit (w := w3) (e := 22) (cs := #[.slice (some ⟨sg, 0, none⟩) 32 32, .slice (some ⟨sg + 1, 0, none⟩) 4 4]) (ls := [s, be4 0]) rfl (.cons (rdB_blkn (h1.ext hx_w3) HS.out (by decide)) (.cons (hl) (.nil))) (by simp)
    rw [hs_w3] at hp
    have hx_w4 := Ext.alloc w3 (.cells #[.slice (some ⟨sg, 0, none⟩) 32 32, .slice (some ⟨sg + 1, 0, none⟩) 4 4] 22)
    generalize w3.alloc (.cells #[.slice (some ⟨sg, 0, none⟩) 32 32, .slice (some ⟨sg + 1, 0, none⟩) 4 4] 22) = w4 at hp hx_w4 ⊢
    have hJ := join_calls 61 [s, be4 0] (by have := HS.out; simp [flat]; omega) _ _ hp
    rw [show cB 61 = Value.int .u8 61 from rfl] at hJ
    with_reducible_and_instances refine Calls.mono hJ ?_
    clear hJ hp
    rintro e w5 ⟨rfl, hx_w5⟩
    have hC : Ext w w5 := ((hx_w1.trans hx_w3).trans hx_w4).trans hx_w5
    replace h1 := ((h1.ext hx_w3).ext hx_w4).ext hx_w5
    have hws : w.heap.size < w5.heap.size := by have := hx_w3.size; have := hx_w4.size; have := hx_w5.size; omega
    clear hx_w1 hx_w3 hx_w4 hx_w5 hl hs_w1 hs_w3 hg_sg
    go_wp2_with (first | (with_reducible refine stop_alloc ?_) | (with_reducible refine stop_store ?_))
    refine wpl_ex (ex_alloc 26 Try.arrS rfl) rfl ?_
    rintro _ w6 ⟨rfl, h6, hx_w6, hs_w6⟩
    obtain ⟨ag, hg_ag⟩ : ∃ g, w5.heap.size = g := ⟨_, rfl⟩
    rw [hg_ag] at h6 hs_w6 ⊢
    replace h6 : Blk w6 ag (cBs (List.replicate 32 0)) 26 := h6
    go_wp2_with (first | (with_reducible refine stop_alloc ?_) | (with_reducible refine stop_store ?_))
    refine wpl_sk (ex_store 26 (.tmp 6) (.tmp 28) (cs := cBs (join 61 [s, be4 0])) h6 rfl rfl rfl (Try.szS.trans (by simp)) (by simp) (cBs_one _)) rfl ?_
    rintro w7 ⟨hA, hx_w7, hs_w7⟩
    replace hC : Ext w w7 := Chg.then (hC.trans hx_w6) hx_w7 (fun i hi h => by omega)
    replace h1 := (h1.ext hx_w6).keep hx_w7 (fun h => by have := h1.lt; omega)
    clear hx_w6 h6 hx_w7
    rw [hs_w6] at hs_w7
    have hwa : w.heap.size ≤ ag := by omega
    clear hs_w6 hg_ag hws
    go_wp2_with fail
    have hp := rdP_lit (w := w7) (e := 22) (cs := #[.slice (some ⟨ag, 0, none⟩) 32 32]) (ls := [join 61 [s, be4 0]]) rfl (.cons (rdB_blkn hA (join_length _ _) (by decide)) (.nil)) (by simp)
    rw [hs_w7] at hp
    have hx_w8 := Ext.alloc w7 (.cells #[.slice (some ⟨ag, 0, none⟩) 32 32] 22)
    generalize w7.alloc (.cells #[.slice (some ⟨ag, 0, none⟩) 32 32] 22) = w8 at hp hx_w8 ⊢
    have hJ := join_calls 31 [join 61 [s, be4 0]] (by simp [flat]) _ _ hp
    rw [show cB 31 = Value.int .u8 31 from rfl] at hJ
    with_reducible_and_instances refine Calls.mono hJ ?_
    clear hJ hp
    rintro e w9 ⟨rfl, hx_w9⟩
    replace hC := (hC.trans hx_w8).trans hx_w9
    replace h1 := (h1.ext hx_w8).ext hx_w9
    replace hA := (hA.ext hx_w8).ext hx_w9
    have hws : ag < w9.heap.size := by have := hx_w8.size; have := hx_w9.size; omega
    clear hx_w8 hx_w9 hs_w7
    go_wp2_with (first | (with_reducible refine stop_alloc ?_) | (with_reducible refine stop_store ?_))
    refine wpl_ex (ex_alloc 26 Try.arrS rfl) rfl ?_
    rintro _ wa ⟨rfl, ha, hx_wa, hs_wa⟩
    obtain ⟨bg, hg_bg⟩ : ∃ g, w9.heap.size = g := ⟨_, rfl⟩
    rw [hg_bg] at ha hs_wa ⊢
    replace ha : Blk wa bg (cBs (List.replicate 32 0)) 26 := ha
    go_wp2_with (first | (with_reducible refine stop_alloc ?_) | (with_reducible refine stop_store ?_))
    refine wpl_sk (ex_store 26 (.tmp 7) (.tmp 31) (cs := cBs (join 31 [join 61 [s, be4 0]])) ha rfl rfl rfl (Try.szS.trans (by simp)) (by simp) (cBs_one _)) rfl ?_
    rintro wb ⟨hB, hx_wb, hs_wb⟩
    have h1l := h1.lt
    have hAl := hA.lt
    replace hC : Ext w wb := Chg.then (hC.trans hx_wa) hx_wb (fun i hi h => by omega)
    replace h1 := (h1.ext hx_wa).keep hx_wb (fun h => by omega)
    replace hA := (hA.ext hx_wa).keep hx_wb (fun h => by omega)
    clear hx_wa ha hx_wb hs_wb hs_wa hg_bg hws h1l hAl hwa
    go_wp2_with fail
    refine wp_region_noPanic ?_
    refine wp_region_held_drew (S := fun w => Blk w sg (cBs s) 26 ∧ Blk w ag (cBs (join 61 [s, be4 0])) 26 ∧ Blk w bg (cBs (join 31 [join 61 [s, be4 0]])) 26) (by kernel_rfl) ?_ (fun hS => ?_)
    · exact ⟨h1.ext (Ext.drew _), hA.ext (Ext.drew _), hB.ext (Ext.drew _)⟩
    replace hC := hC.trans (Ext.drew _)
    clear h1 hA hB
    generalize World.drew _ = w10 at hS hC ⊢
    try simp only [List.size_toArray, List.length_cons, List.length_nil, Nat.reduceAdd, ← List.toArray_replicate, List.reduceReplicate]
    refine wpAnyH_take (i := 0) (oi := _) (v := .agg (cBs s).toArray) rfl (by kernel_rfl) (by kernel_rfl) (by kernel_rfl) (fun _ _ _ h => h) (Or.inl ⟨by rfl, ?_⟩) hS ?_
    · intro w hSw; exact ldS hSw.1 HS.out (.tmp 2) rfl rfl
    try simp only [List.getElem_toArray, List.getElem_cons_succ, List.getElem_cons_zero, Act.put, List.setIfInBounds_toArray, List.set_cons_zero, List.set_cons_succ]
    refine wpAnyH_take (i := 1) (oi := _) (v := ?_) rfl (by kernel_rfl) (by kernel_rfl) (by kernel_rfl) (fun _ _ _ h => h) (Or.inl ⟨by rfl, ?_⟩) hS ?_
    rotate_left
    · (intro w hSw; (try dsimp only at hSw); go_simp <;> with_reducible rfl)
    try simp only [List.getElem_toArray, List.getElem_cons_succ, List.getElem_cons_zero, Act.put, List.setIfInBounds_toArray, List.set_cons_zero, List.set_cons_succ]
    refine wpAnyH_take (i := 3) (oi := _) (v := .agg (cBs (join 61 [s, be4 0])).toArray) rfl (by kernel_rfl) (by kernel_rfl) (by kernel_rfl) (fun _ _ _ h => h) (Or.inl ⟨by rfl, ?_⟩) hS ?_
    · intro w hSw; exact ldS hSw.2.1 (join_length _ _) (.tmp 6) rfl rfl
    try simp only [List.getElem_toArray, List.getElem_cons_succ, List.getElem_cons_zero, Act.put, List.setIfInBounds_toArray, List.set_cons_zero, List.set_cons_succ]
    refine wpAnyH_ready (rs := [2]) (by kernel_rfl) (by simp) ?_
    refine AllReadyH.cons (o := _) rfl (fun K hK => ?_) (AllReadyH.nil)
    rw [if_pos (by rfl)]
    try simp only [List.getElem_toArray, List.getElem_cons_succ, List.getElem_cons_zero, Act.put, List.setIfInBounds_toArray, List.set_cons_zero, List.set_cons_succ]
    go_simp
    refine (secretOf_calls s HS.out n HN.out _).mono ?_
    rintro e w11 ⟨rfl, hx_w11⟩
    rw [HM.out]
    replace hC := hC.trans hx_w11
    refine hK.out _ _ ⟨hS.1.ext hx_w11, hS.2.1.ext hx_w11, hS.2.2.ext hx_w11⟩ (fun hS => ?_)
    clear hK K hx_w11
    try simp only [List.getElem_toArray, List.getElem_cons_succ, List.getElem_cons_zero, Act.put, List.setIfInBounds_toArray, List.set_cons_zero, List.set_cons_succ]
    refine wpAnyH_take (i := 4) (oi := _) (v := .bool true) rfl (by kernel_rfl) (by kernel_rfl) (by kernel_rfl) (fun _ _ _ h => h) (Or.inl ⟨by rfl, ?_⟩) hS ?_
    · intro w hSw; exact eqT rfl rfl rfl (join_length _ _) (join_length _ _) (by simp)
    try simp only [List.getElem_toArray, List.getElem_cons_succ, List.getElem_cons_zero, Act.put, List.setIfInBounds_toArray, List.set_cons_zero, List.set_cons_succ]
    refine wpAnyH_take (i := 5) (oi := _) (v := ?_) rfl (by kernel_rfl) (by kernel_rfl) (by kernel_rfl) (fun _ _ _ h => h) (Or.inl ⟨by rfl, ?_⟩) hS ?_
    rotate_left
    · (intro w hSw; (try dsimp only at hSw); go_simp <;> with_reducible rfl)
    try simp only [List.getElem_toArray, List.getElem_cons_succ, List.getElem_cons_zero, Act.put, List.setIfInBounds_toArray, List.set_cons_zero, List.set_cons_succ]
    refine wpAnyH_take (i := 6) (oi := _) (v := .agg (cBs (join 61 [s, be4 0])).toArray) rfl (by kernel_rfl) (by kernel_rfl) (by kernel_rfl) (fun _ _ _ h => h) (Or.inl ⟨by rfl, ?_⟩) hS ?_
    · intro w hSw; exact ldS hSw.2.1 (join_length _ _) (.tmp 6) rfl rfl
    try simp only [List.getElem_toArray, List.getElem_cons_succ, List.getElem_cons_zero, Act.put, List.setIfInBounds_toArray, List.set_cons_zero, List.set_cons_succ]
    refine wpAnyH_take (i := 8) (oi := _) (v := .agg (cBs (join 31 [join 61 [s, be4 0]])).toArray) rfl (by kernel_rfl) (by kernel_rfl) (by kernel_rfl) (fun _ _ _ h => h) (Or.inl ⟨by rfl, ?_⟩) hS ?_
    · intro w hSw; exact ldS hSw.2.2 (join_length _ _) (.tmp 7) rfl rfl
    try simp only [List.getElem_toArray, List.getElem_cons_succ, List.getElem_cons_zero, Act.put, List.setIfInBounds_toArray, List.set_cons_zero, List.set_cons_succ]
    refine wpAnyH_ready (rs := [7]) (by kernel_rfl) (by simp) ?_
    refine AllReadyH.cons (o := _) rfl (fun K hK => ?_) (AllReadyH.nil)
    rw [if_pos (by rfl)]
    try simp only [List.getElem_toArray, List.getElem_cons_succ, List.getElem_cons_zero, Act.put, List.setIfInBounds_toArray, List.set_cons_zero, List.set_cons_succ]
    go_simp
    refine (secretHash_calls (join 61 [s, be4 0]) (join_length _ _) _).mono ?_
    rintro e w12 ⟨rfl, hx_w12⟩
    replace hC := hC.trans hx_w12
    refine hK.out _ _ ⟨hS.1.ext hx_w12, hS.2.1.ext hx_w12, hS.2.2.ext hx_w12⟩ (fun hS => ?_)
    clear hK K hx_w12
    try simp only [List.getElem_toArray, List.getElem_cons_succ, List.getElem_cons_zero, Act.put, List.setIfInBounds_toArray, List.set_cons_zero, List.set_cons_succ]
    refine wpAnyH_take (i := 9) (oi := _) (v := .bool true) rfl (by kernel_rfl) (by kernel_rfl) (by kernel_rfl) (fun _ _ _ h => h) (Or.inl ⟨by rfl, ?_⟩) hS ?_
    · intro w hSw; exact eqT rfl rfl rfl (join_length _ _) (join_length _ _) (by simp)
    try simp only [List.getElem_toArray, List.getElem_cons_succ, List.getElem_cons_zero, Act.put, List.setIfInBounds_toArray, List.set_cons_zero, List.set_cons_succ]
    refine wpAnyH_take (i := 10) (oi := _) (v := ?_) rfl (by kernel_rfl) (by kernel_rfl) (by kernel_rfl) (fun _ _ _ h => h) (Or.inl ⟨by rfl, ?_⟩) hS ?_
    rotate_left
    · (intro w hSw; (try dsimp only at hSw); go_simp <;> with_reducible rfl)
    try simp only [List.getElem_toArray, List.getElem_cons_succ, List.getElem_cons_zero, Act.put, List.setIfInBounds_toArray, List.set_cons_zero, List.set_cons_succ]
    refine wpAnyH_take (i := 11) (oi := _) (v := ?_) rfl (by kernel_rfl) (by kernel_rfl) (by kernel_rfl) (fun _ _ _ h => h) (Or.inl ⟨by rfl, ?_⟩) hS ?_
    rotate_left
    · (intro w hSw; (try dsimp only at hSw); go_simp <;> with_reducible rfl)
    try simp only [List.getElem_toArray, List.getElem_cons_succ, List.getElem_cons_zero, Act.put, List.setIfInBounds_toArray, List.set_cons_zero, List.set_cons_succ]
    refine wpAnyH_take (i := 12) (oi := _) (v := .agg (cBs s).toArray) rfl (by kernel_rfl) (by kernel_rfl) (by kernel_rfl) (fun _ _ _ h => h) (Or.inl ⟨by rfl, ?_⟩) hS ?_
    · intro w hSw; exact ldS hSw.1 HS.out (.tmp 2) rfl rfl
    try simp only [List.getElem_toArray, List.getElem_cons_succ, List.getElem_cons_zero, Act.put, List.setIfInBounds_toArray, List.set_cons_zero, List.set_cons_succ]
    refine wpAnyH_take (i := 13) (oi := _) (v := ?_) rfl (by kernel_rfl) (by kernel_rfl) (by kernel_rfl) (fun _ _ _ h => h) (Or.inl ⟨by rfl, ?_⟩) hS ?_
    rotate_left
    · (intro w hSw; (try dsimp only at hSw); go_simp <;> with_reducible rfl)
    try simp only [List.getElem_toArray, List.getElem_cons_succ, List.getElem_cons_zero, Act.put, List.setIfInBounds_toArray, List.set_cons_zero, List.set_cons_succ]
    refine wpAnyH_take (i := 15) (oi := _) (v := .agg (cBs (join 31 [join 61 [s, be4 0]])).toArray) rfl (by kernel_rfl) (by kernel_rfl) (by kernel_rfl) (fun _ _ _ h => h) (Or.inl ⟨by rfl, ?_⟩) hS ?_
    · intro w hSw; exact ldS hSw.2.2 (join_length _ _) (.tmp 7) rfl rfl
    try simp only [List.getElem_toArray, List.getElem_cons_succ, List.getElem_cons_zero, Act.put, List.setIfInBounds_toArray, List.set_cons_zero, List.set_cons_succ]
    refine wpAnyH_ready (rs := [14]) (by kernel_rfl) (by simp) ?_
    refine AllReadyH.cons (o := _) rfl (fun K hK => ?_) (AllReadyH.nil)
    rw [if_pos (by rfl)]
    try simp only [List.getElem_toArray, List.getElem_cons_succ, List.getElem_cons_zero, Act.put, List.setIfInBounds_toArray, List.set_cons_zero, List.set_cons_succ]
    go_simp
    refine (secretPoint_calls s HS.out n HN.out _).mono ?_
    rintro e w13 ⟨rfl, hx_w13⟩
    rw [HM.out]
    replace hC := hC.trans hx_w13
    refine hK.out _ _ ⟨hS.1.ext hx_w13, hS.2.1.ext hx_w13, hS.2.2.ext hx_w13⟩ (fun hS => ?_)
    clear hK K hx_w13
    try simp only [List.getElem_toArray, List.getElem_cons_succ, List.getElem_cons_zero, Act.put, List.setIfInBounds_toArray, List.set_cons_zero, List.set_cons_succ]
    refine wpAnyH_take (i := 16) (oi := _) (v := .bool true) rfl (by kernel_rfl) (by kernel_rfl) (by kernel_rfl) (fun _ _ _ h => h) (Or.inl ⟨by rfl, ?_⟩) hS ?_
    · intro w hSw; exact eqT rfl rfl rfl (join_length _ _) (join_length _ _) (by simp)
    try simp only [List.getElem_toArray, List.getElem_cons_succ, List.getElem_cons_zero, Act.put, List.setIfInBounds_toArray, List.set_cons_zero, List.set_cons_succ]
    refine wpAnyH_take (i := 17) (oi := _) (v := ?_) rfl (by kernel_rfl) (by kernel_rfl) (by kernel_rfl) (fun _ _ _ h => h) (Or.inl ⟨by rfl, ?_⟩) hS ?_
    rotate_left
    · (intro w hSw; (try dsimp only at hSw); go_simp <;> with_reducible rfl)
    try simp only [List.getElem_toArray, List.getElem_cons_succ, List.getElem_cons_zero, Act.put, List.setIfInBounds_toArray, List.set_cons_zero, List.set_cons_succ]
    refine wpAnyH_take (i := 18) (oi := _) (v := ?_) rfl (by kernel_rfl) (by kernel_rfl) (by kernel_rfl) (fun _ _ _ h => h) (Or.inl ⟨by rfl, ?_⟩) hS ?_
    rotate_left
    · (intro w hSw; (try dsimp only at hSw); go_simp <;> with_reducible rfl)
    try simp only [List.getElem_toArray, List.getElem_cons_succ, List.getElem_cons_zero, Act.put, List.setIfInBounds_toArray, List.set_cons_zero, List.set_cons_succ]
    refine wpAnyH_ready (rs := [19]) (by kernel_rfl) (by simp) ?_
    refine AllReadyH.cons (o := _) rfl (fun K hK => ?_) (AllReadyH.nil)
    rw [if_pos (by rfl)]
    try simp only [List.getElem_toArray, List.getElem_cons_succ, List.getElem_cons_zero, Act.put, List.setIfInBounds_toArray, List.set_cons_zero, List.set_cons_succ]
    go_simp
    refine (awake13_calls _).mono ?_
    rintro e w14 ⟨rfl, hx_w14⟩
    replace hC := hC.trans hx_w14
    refine hK.out _ _ ⟨hS.1.ext hx_w14, hS.2.1.ext hx_w14, hS.2.2.ext hx_w14⟩ (fun hS => ?_)
    clear hK K hx_w14
    try simp only [List.getElem_toArray, List.getElem_cons_succ, List.getElem_cons_zero, Act.put, List.setIfInBounds_toArray, List.set_cons_zero, List.set_cons_succ]
    refine wpAnyH_take (i := 20) (oi := _) (v := ?_) rfl (by kernel_rfl) (by kernel_rfl) (by kernel_rfl) (fun _ _ _ h => h) (Or.inl ⟨by rfl, ?_⟩) hS ?_
    rotate_left
    · (intro w hSw; (try dsimp only at hSw); go_simp <;> with_reducible rfl)
    try simp only [List.getElem_toArray, List.getElem_cons_succ, List.getElem_cons_zero, Act.put, List.setIfInBounds_toArray, List.set_cons_zero, List.set_cons_succ]
    refine wpAnyH_take (i := 21) (oi := _) (v := ?_) rfl (by kernel_rfl) (by kernel_rfl) (by kernel_rfl) (fun _ _ _ h => h) (Or.inl ⟨by rfl, ?_⟩) hS ?_
    rotate_left
    · (intro w hSw; (try dsimp only at hSw); go_simp <;> with_reducible rfl)
    try simp only [List.getElem_toArray, List.getElem_cons_succ, List.getElem_cons_zero, Act.put, List.setIfInBounds_toArray, List.set_cons_zero, List.set_cons_succ]
    refine wpAnyH_done (by kernel_rfl) ?_ _
    refine NoPanic.normal ?_
    go_wp2
    go_ret
    exact ⟨rfl, Ext.below hC⟩
  · obtain ⟨k, rfl⟩ : ∃ k : Nat, n = k := ⟨n.toNat, by omega⟩
    obtain rfl : m = k := by omega
    clear hm
    go_enter Try.func6, Try.ntmps6
    go_wp2_with (first | (with_reducible refine stop_box ?_) | (with_reducible refine stop_alloc ?_))
    refine wpl_ex (ex_box 26 (.tmp 0) (v := .agg (cBs (s)).toArray) rfl rfl) rfl ?_
    rintro _ w1 ⟨rfl, h1, hx_w1, hs_w1⟩
    obtain ⟨sg, hg_sg⟩ : ∃ g, w.heap.size = g := ⟨_, rfl⟩
    rw [hg_sg] at h1 hs_w1 ⊢
    replace h1 : Blk w1 sg (cBs (s)) 26 := h1
    go_wp2_with fail
    obtain ⟨A_hl, hA_hl⟩ : ∃ A : Array Value, #[.int .u8 ((m : Int) / 16777216), .int .u8 ((m : Int) / 65536 % 256), .int .u8 ((m : Int) / 256 % 256), .int .u8 ((m : Int) % 256)] = A := ⟨_, rfl⟩
    rw [hA_hl]
    have hl := rdB_lit (w := w1) (e := 5) (cs := A_hl) (l := be4 m) (by rw [← hA_hl]; exact be4_cells m (by omega) (by omega) (by omega) (by omega)) (by simp)
    rw [hs_w1] at hl
    have hx_w3 := Ext.alloc w1 (.cells A_hl 5)
    have hs_w3 := World.size_alloc w1 (.cells A_hl 5)
    rw [hs_w1] at hs_w3
    generalize w1.alloc (.cells A_hl 5) = w3 at hl hx_w3 hs_w3 ⊢
    clear hA_hl A_hl
    have hp := rdP_lit (w := w3) (e := 22) (cs := #[.slice (some ⟨sg, 0, none⟩) 32 32, .slice (some ⟨sg + 1, 0, none⟩) 4 4]) (ls := [s, be4 m]) rfl (.cons (rdB_blkn (h1.ext hx_w3) HS.out (by decide)) (.cons (hl) (.nil))) (by simp)
    rw [hs_w3] at hp
    have hx_w4 := Ext.alloc w3 (.cells #[.slice (some ⟨sg, 0, none⟩) 32 32, .slice (some ⟨sg + 1, 0, none⟩) 4 4] 22)
    generalize w3.alloc (.cells #[.slice (some ⟨sg, 0, none⟩) 32 32, .slice (some ⟨sg + 1, 0, none⟩) 4 4] 22) = w4 at hp hx_w4 ⊢
    have hJ := join_calls 61 [s, be4 m] (by have := HS.out; simp [flat]; omega) _ _ hp
    rw [show cB 61 = Value.int .u8 61 from rfl] at hJ
    with_reducible_and_instances refine Calls.mono hJ ?_
    clear hJ hp
    rintro e w5 ⟨rfl, hx_w5⟩
    have hC : Ext w w5 := ((hx_w1.trans hx_w3).trans hx_w4).trans hx_w5
    replace h1 := ((h1.ext hx_w3).ext hx_w4).ext hx_w5
    have hws : w.heap.size < w5.heap.size := by have := hx_w3.size; have := hx_w4.size; have := hx_w5.size; omega
    clear hx_w1 hx_w3 hx_w4 hx_w5 hl hs_w1 hs_w3 hg_sg
    go_wp2_with (first | (with_reducible refine stop_alloc ?_) | (with_reducible refine stop_store ?_))
    refine wpl_ex (ex_alloc 26 Try.arrS rfl) rfl ?_
    rintro _ w6 ⟨rfl, h6, hx_w6, hs_w6⟩
    obtain ⟨ag, hg_ag⟩ : ∃ g, w5.heap.size = g := ⟨_, rfl⟩
    rw [hg_ag] at h6 hs_w6 ⊢
    replace h6 : Blk w6 ag (cBs (List.replicate 32 0)) 26 := h6
    go_wp2_with (first | (with_reducible refine stop_alloc ?_) | (with_reducible refine stop_store ?_))
    refine wpl_sk (ex_store 26 (.tmp 6) (.tmp 28) (cs := cBs (join 61 [s, be4 m])) h6 rfl rfl rfl (Try.szS.trans (by simp)) (by simp) (cBs_one _)) rfl ?_
    rintro w7 ⟨hA, hx_w7, hs_w7⟩
    replace hC : Ext w w7 := Chg.then (hC.trans hx_w6) hx_w7 (fun i hi h => by omega)
    replace h1 := (h1.ext hx_w6).keep hx_w7 (fun h => by have := h1.lt; omega)
    clear hx_w6 h6 hx_w7
    rw [hs_w6] at hs_w7
    have hwa : w.heap.size ≤ ag := by omega
    clear hs_w6 hg_ag hws
    go_wp2_with fail
    have hp := rdP_lit (w := w7) (e := 22) (cs := #[.slice (some ⟨ag, 0, none⟩) 32 32]) (ls := [join 61 [s, be4 m]]) rfl (.cons (rdB_blkn hA (join_length _ _) (by decide)) (.nil)) (by simp)
    rw [hs_w7] at hp
    have hx_w8 := Ext.alloc w7 (.cells #[.slice (some ⟨ag, 0, none⟩) 32 32] 22)
    generalize w7.alloc (.cells #[.slice (some ⟨ag, 0, none⟩) 32 32] 22) = w8 at hp hx_w8 ⊢
    have hJ := join_calls 31 [join 61 [s, be4 m]] (by simp [flat]) _ _ hp
    rw [show cB 31 = Value.int .u8 31 from rfl] at hJ
    with_reducible_and_instances refine Calls.mono hJ ?_
    clear hJ hp
    rintro e w9 ⟨rfl, hx_w9⟩
    replace hC := (hC.trans hx_w8).trans hx_w9
    replace h1 := (h1.ext hx_w8).ext hx_w9
    replace hA := (hA.ext hx_w8).ext hx_w9
    have hws : ag < w9.heap.size := by have := hx_w8.size; have := hx_w9.size; omega
    clear hx_w8 hx_w9 hs_w7
    go_wp2_with (first | (with_reducible refine stop_alloc ?_) | (with_reducible refine stop_store ?_))
    refine wpl_ex (ex_alloc 26 Try.arrS rfl) rfl ?_
    rintro _ wa ⟨rfl, ha, hx_wa, hs_wa⟩
    obtain ⟨bg, hg_bg⟩ : ∃ g, w9.heap.size = g := ⟨_, rfl⟩
    rw [hg_bg] at ha hs_wa ⊢
    replace ha : Blk wa bg (cBs (List.replicate 32 0)) 26 := ha
    go_wp2_with (first | (with_reducible refine stop_alloc ?_) | (with_reducible refine stop_store ?_))
    refine wpl_sk (ex_store 26 (.tmp 7) (.tmp 31) (cs := cBs (join 31 [join 61 [s, be4 m]])) ha rfl rfl rfl (Try.szS.trans (by simp)) (by simp) (cBs_one _)) rfl ?_
    rintro wb ⟨hB, hx_wb, hs_wb⟩
    have h1l := h1.lt
    have hAl := hA.lt
    replace hC : Ext w wb := Chg.then (hC.trans hx_wa) hx_wb (fun i hi h => by omega)
    replace h1 := (h1.ext hx_wa).keep hx_wb (fun h => by omega)
    replace hA := (hA.ext hx_wa).keep hx_wb (fun h => by omega)
    clear hx_wa ha hx_wb hs_wb hs_wa hg_bg hws h1l hAl hwa
    go_wp2_with fail
    refine wp_region_noPanic ?_
    refine wp_region_held_drew (S := fun w => Blk w sg (cBs s) 26 ∧ Blk w ag (cBs (join 61 [s, be4 m])) 26 ∧ Blk w bg (cBs (join 31 [join 61 [s, be4 m]])) 26) (by kernel_rfl) ?_ (fun hS => ?_)
    · exact ⟨h1.ext (Ext.drew _), hA.ext (Ext.drew _), hB.ext (Ext.drew _)⟩
    replace hC := hC.trans (Ext.drew _)
    clear h1 hA hB
    generalize World.drew _ = w10 at hS hC ⊢
    try simp only [List.size_toArray, List.length_cons, List.length_nil, Nat.reduceAdd, ← List.toArray_replicate, List.reduceReplicate]
    refine wpAnyH_take (i := 0) (oi := _) (v := .agg (cBs s).toArray) rfl (by kernel_rfl) (by kernel_rfl) (by kernel_rfl) (fun _ _ _ h => h) (Or.inl ⟨by rfl, ?_⟩) hS ?_
    · intro w hSw; exact ldS hSw.1 HS.out (.tmp 2) rfl rfl
    try simp only [List.getElem_toArray, List.getElem_cons_succ, List.getElem_cons_zero, Act.put, List.setIfInBounds_toArray, List.set_cons_zero, List.set_cons_succ]
    refine wpAnyH_take (i := 1) (oi := _) (v := ?_) rfl (by kernel_rfl) (by kernel_rfl) (by kernel_rfl) (fun _ _ _ h => h) (Or.inl ⟨by rfl, ?_⟩) hS ?_
    rotate_left
    · (intro w hSw; (try dsimp only at hSw); go_simp <;> with_reducible rfl)
    try simp only [List.getElem_toArray, List.getElem_cons_succ, List.getElem_cons_zero, Act.put, List.setIfInBounds_toArray, List.set_cons_zero, List.set_cons_succ]
    refine wpAnyH_take (i := 3) (oi := _) (v := .agg (cBs (join 61 [s, be4 m])).toArray) rfl (by kernel_rfl) (by kernel_rfl) (by kernel_rfl) (fun _ _ _ h => h) (Or.inl ⟨by rfl, ?_⟩) hS ?_
    · intro w hSw; exact ldS hSw.2.1 (join_length _ _) (.tmp 6) rfl rfl
    try simp only [List.getElem_toArray, List.getElem_cons_succ, List.getElem_cons_zero, Act.put, List.setIfInBounds_toArray, List.set_cons_zero, List.set_cons_succ]
    refine wpAnyH_ready (rs := [2]) (by kernel_rfl) (by simp) ?_
    refine AllReadyH.cons (o := _) rfl (fun K hK => ?_) (AllReadyH.nil)
    rw [if_pos (by rfl)]
    try simp only [List.getElem_toArray, List.getElem_cons_succ, List.getElem_cons_zero, Act.put, List.setIfInBounds_toArray, List.set_cons_zero, List.set_cons_succ]
    go_simp
    refine (secretOf_calls s HS.out m HN.out _).mono ?_
    rintro e w11 ⟨rfl, hx_w11⟩
    rw [HM.out]
    replace hC := hC.trans hx_w11
    refine hK.out _ _ ⟨hS.1.ext hx_w11, hS.2.1.ext hx_w11, hS.2.2.ext hx_w11⟩ (fun hS => ?_)
    clear hK K hx_w11
    try simp only [List.getElem_toArray, List.getElem_cons_succ, List.getElem_cons_zero, Act.put, List.setIfInBounds_toArray, List.set_cons_zero, List.set_cons_succ]
    refine wpAnyH_take (i := 4) (oi := _) (v := .bool true) rfl (by kernel_rfl) (by kernel_rfl) (by kernel_rfl) (fun _ _ _ h => h) (Or.inl ⟨by rfl, ?_⟩) hS ?_
    · intro w hSw; exact eqT rfl rfl rfl (join_length _ _) (join_length _ _) (by simp)
    try simp only [List.getElem_toArray, List.getElem_cons_succ, List.getElem_cons_zero, Act.put, List.setIfInBounds_toArray, List.set_cons_zero, List.set_cons_succ]
    refine wpAnyH_take (i := 5) (oi := _) (v := ?_) rfl (by kernel_rfl) (by kernel_rfl) (by kernel_rfl) (fun _ _ _ h => h) (Or.inl ⟨by rfl, ?_⟩) hS ?_
    rotate_left
    · (intro w hSw; (try dsimp only at hSw); go_simp <;> with_reducible rfl)
    try simp only [List.getElem_toArray, List.getElem_cons_succ, List.getElem_cons_zero, Act.put, List.setIfInBounds_toArray, List.set_cons_zero, List.set_cons_succ]
    refine wpAnyH_take (i := 6) (oi := _) (v := .agg (cBs (join 61 [s, be4 m])).toArray) rfl (by kernel_rfl) (by kernel_rfl) (by kernel_rfl) (fun _ _ _ h => h) (Or.inl ⟨by rfl, ?_⟩) hS ?_
    · intro w hSw; exact ldS hSw.2.1 (join_length _ _) (.tmp 6) rfl rfl
    try simp only [List.getElem_toArray, List.getElem_cons_succ, List.getElem_cons_zero, Act.put, List.setIfInBounds_toArray, List.set_cons_zero, List.set_cons_succ]
    refine wpAnyH_take (i := 8) (oi := _) (v := .agg (cBs (join 31 [join 61 [s, be4 m]])).toArray) rfl (by kernel_rfl) (by kernel_rfl) (by kernel_rfl) (fun _ _ _ h => h) (Or.inl ⟨by rfl, ?_⟩) hS ?_
    · intro w hSw; exact ldS hSw.2.2 (join_length _ _) (.tmp 7) rfl rfl
    try simp only [List.getElem_toArray, List.getElem_cons_succ, List.getElem_cons_zero, Act.put, List.setIfInBounds_toArray, List.set_cons_zero, List.set_cons_succ]
    refine wpAnyH_ready (rs := [7]) (by kernel_rfl) (by simp) ?_
    refine AllReadyH.cons (o := _) rfl (fun K hK => ?_) (AllReadyH.nil)
    rw [if_pos (by rfl)]
    try simp only [List.getElem_toArray, List.getElem_cons_succ, List.getElem_cons_zero, Act.put, List.setIfInBounds_toArray, List.set_cons_zero, List.set_cons_succ]
    go_simp
    refine (secretHash_calls (join 61 [s, be4 m]) (join_length _ _) _).mono ?_
    rintro e w12 ⟨rfl, hx_w12⟩
    replace hC := hC.trans hx_w12
    refine hK.out _ _ ⟨hS.1.ext hx_w12, hS.2.1.ext hx_w12, hS.2.2.ext hx_w12⟩ (fun hS => ?_)
    clear hK K hx_w12
    try simp only [List.getElem_toArray, List.getElem_cons_succ, List.getElem_cons_zero, Act.put, List.setIfInBounds_toArray, List.set_cons_zero, List.set_cons_succ]
    refine wpAnyH_take (i := 9) (oi := _) (v := .bool true) rfl (by kernel_rfl) (by kernel_rfl) (by kernel_rfl) (fun _ _ _ h => h) (Or.inl ⟨by rfl, ?_⟩) hS ?_
    · intro w hSw; exact eqT rfl rfl rfl (join_length _ _) (join_length _ _) (by simp)
    try simp only [List.getElem_toArray, List.getElem_cons_succ, List.getElem_cons_zero, Act.put, List.setIfInBounds_toArray, List.set_cons_zero, List.set_cons_succ]
    refine wpAnyH_take (i := 10) (oi := _) (v := ?_) rfl (by kernel_rfl) (by kernel_rfl) (by kernel_rfl) (fun _ _ _ h => h) (Or.inl ⟨by rfl, ?_⟩) hS ?_
    rotate_left
    · (intro w hSw; (try dsimp only at hSw); go_simp <;> with_reducible rfl)
    try simp only [List.getElem_toArray, List.getElem_cons_succ, List.getElem_cons_zero, Act.put, List.setIfInBounds_toArray, List.set_cons_zero, List.set_cons_succ]
    refine wpAnyH_take (i := 11) (oi := _) (v := ?_) rfl (by kernel_rfl) (by kernel_rfl) (by kernel_rfl) (fun _ _ _ h => h) (Or.inl ⟨by rfl, ?_⟩) hS ?_
    rotate_left
    · (intro w hSw; (try dsimp only at hSw); go_simp <;> with_reducible rfl)
    try simp only [List.getElem_toArray, List.getElem_cons_succ, List.getElem_cons_zero, Act.put, List.setIfInBounds_toArray, List.set_cons_zero, List.set_cons_succ]
    refine wpAnyH_take (i := 12) (oi := _) (v := .agg (cBs s).toArray) rfl (by kernel_rfl) (by kernel_rfl) (by kernel_rfl) (fun _ _ _ h => h) (Or.inl ⟨by rfl, ?_⟩) hS ?_
    · intro w hSw; exact ldS hSw.1 HS.out (.tmp 2) rfl rfl
    try simp only [List.getElem_toArray, List.getElem_cons_succ, List.getElem_cons_zero, Act.put, List.setIfInBounds_toArray, List.set_cons_zero, List.set_cons_succ]
    refine wpAnyH_take (i := 13) (oi := _) (v := ?_) rfl (by kernel_rfl) (by kernel_rfl) (by kernel_rfl) (fun _ _ _ h => h) (Or.inl ⟨by rfl, ?_⟩) hS ?_
    rotate_left
    · (intro w hSw; (try dsimp only at hSw); go_simp <;> with_reducible rfl)
    try simp only [List.getElem_toArray, List.getElem_cons_succ, List.getElem_cons_zero, Act.put, List.setIfInBounds_toArray, List.set_cons_zero, List.set_cons_succ]
    refine wpAnyH_take (i := 15) (oi := _) (v := .agg (cBs (join 31 [join 61 [s, be4 m]])).toArray) rfl (by kernel_rfl) (by kernel_rfl) (by kernel_rfl) (fun _ _ _ h => h) (Or.inl ⟨by rfl, ?_⟩) hS ?_
    · intro w hSw; exact ldS hSw.2.2 (join_length _ _) (.tmp 7) rfl rfl
    try simp only [List.getElem_toArray, List.getElem_cons_succ, List.getElem_cons_zero, Act.put, List.setIfInBounds_toArray, List.set_cons_zero, List.set_cons_succ]
    refine wpAnyH_ready (rs := [14]) (by kernel_rfl) (by simp) ?_
    refine AllReadyH.cons (o := _) rfl (fun K hK => ?_) (AllReadyH.nil)
    rw [if_pos (by rfl)]
    try simp only [List.getElem_toArray, List.getElem_cons_succ, List.getElem_cons_zero, Act.put, List.setIfInBounds_toArray, List.set_cons_zero, List.set_cons_succ]
    go_simp
    refine (secretPoint_calls s HS.out m HN.out _).mono ?_
    rintro e w13 ⟨rfl, hx_w13⟩
    rw [HM.out]
    replace hC := hC.trans hx_w13
    refine hK.out _ _ ⟨hS.1.ext hx_w13, hS.2.1.ext hx_w13, hS.2.2.ext hx_w13⟩ (fun hS => ?_)
    clear hK K hx_w13
    try simp only [List.getElem_toArray, List.getElem_cons_succ, List.getElem_cons_zero, Act.put, List.setIfInBounds_toArray, List.set_cons_zero, List.set_cons_succ]
    refine wpAnyH_take (i := 16) (oi := _) (v := .bool true) rfl (by kernel_rfl) (by kernel_rfl) (by kernel_rfl) (fun _ _ _ h => h) (Or.inl ⟨by rfl, ?_⟩) hS ?_
    · intro w hSw; exact eqT rfl rfl rfl (join_length _ _) (join_length _ _) (by simp)
    try simp only [List.getElem_toArray, List.getElem_cons_succ, List.getElem_cons_zero, Act.put, List.setIfInBounds_toArray, List.set_cons_zero, List.set_cons_succ]
    refine wpAnyH_take (i := 17) (oi := _) (v := ?_) rfl (by kernel_rfl) (by kernel_rfl) (by kernel_rfl) (fun _ _ _ h => h) (Or.inl ⟨by rfl, ?_⟩) hS ?_
    rotate_left
    · (intro w hSw; (try dsimp only at hSw); go_simp <;> with_reducible rfl)
    try simp only [List.getElem_toArray, List.getElem_cons_succ, List.getElem_cons_zero, Act.put, List.setIfInBounds_toArray, List.set_cons_zero, List.set_cons_succ]
    refine wpAnyH_take (i := 18) (oi := _) (v := ?_) rfl (by kernel_rfl) (by kernel_rfl) (by kernel_rfl) (fun _ _ _ h => h) (Or.inl ⟨by rfl, ?_⟩) hS ?_
    rotate_left
    · (intro w hSw; (try dsimp only at hSw); go_simp <;> with_reducible rfl)
    try simp only [List.getElem_toArray, List.getElem_cons_succ, List.getElem_cons_zero, Act.put, List.setIfInBounds_toArray, List.set_cons_zero, List.set_cons_succ]
    refine wpAnyH_ready (rs := [19]) (by kernel_rfl) (by simp) ?_
    refine AllReadyH.cons (o := _) rfl (fun K hK => ?_) (AllReadyH.nil)
    rw [if_pos (by rfl)]
    try simp only [List.getElem_toArray, List.getElem_cons_succ, List.getElem_cons_zero, Act.put, List.setIfInBounds_toArray, List.set_cons_zero, List.set_cons_succ]
    go_simp
    refine (awake13_calls _).mono ?_
    rintro e w14 ⟨rfl, hx_w14⟩
    replace hC := hC.trans hx_w14
    refine hK.out _ _ ⟨hS.1.ext hx_w14, hS.2.1.ext hx_w14, hS.2.2.ext hx_w14⟩ (fun hS => ?_)
    clear hK K hx_w14
    try simp only [List.getElem_toArray, List.getElem_cons_succ, List.getElem_cons_zero, Act.put, List.setIfInBounds_toArray, List.set_cons_zero, List.set_cons_succ]
    refine wpAnyH_take (i := 20) (oi := _) (v := ?_) rfl (by kernel_rfl) (by kernel_rfl) (by kernel_rfl) (fun _ _ _ h => h) (Or.inl ⟨by rfl, ?_⟩) hS ?_
    rotate_left
    · (intro w hSw; (try dsimp only at hSw); go_simp <;> with_reducible rfl)
    try simp only [List.getElem_toArray, List.getElem_cons_succ, List.getElem_cons_zero, Act.put, List.setIfInBounds_toArray, List.set_cons_zero, List.set_cons_succ]
    refine wpAnyH_take (i := 21) (oi := _) (v := ?_) rfl (by kernel_rfl) (by kernel_rfl) (by kernel_rfl) (fun _ _ _ h => h) (Or.inl ⟨by rfl, ?_⟩) hS ?_
    rotate_left
    · (intro w hSw; (try dsimp only at hSw); go_simp <;> with_reducible rfl)
    try simp only [List.getElem_toArray, List.getElem_cons_succ, List.getElem_cons_zero, Act.put, List.setIfInBounds_toArray, List.set_cons_zero, List.set_cons_succ]
    refine wpAnyH_done (by kernel_rfl) ?_ _
    refine NoPanic.normal ?_
    go_wp2
    go_ret
    exact ⟨rfl, Ext.below hC⟩

end Go.Proofs.Yticaefnpapppoaa
