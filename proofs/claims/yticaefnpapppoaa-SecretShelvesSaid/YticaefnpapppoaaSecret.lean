/- Contracts: lock.Hash, secret.Of, secret.Hash, secret.Point. -/
import Derived.Test.YticaefnpapppoaaShaJoin
import Derived.Test.YticaefnpapppoaaOpen
namespace Go.Proofs.Yticaefnpapppoaa
open Go.RowKit Go.Bz Go.Bz.Sha

set_option maxRecDepth 100000 in
set_option maxHeartbeats 4000000 in
theorem lockHash_calls (b : List UInt8) (hb : b.length ≤ 1000000) (v : Value) (w : World) (hr : RdB w v b) :
    Calls Try.prog 55 #[v] w fun e w' => e = .returned (.agg (cBs (join 31 [b])).toArray) ∧ Ext w w' := by
  obtain ⟨ao, n, cap, rfl, hn, hnc⟩ := hr.form2
  have HN := Lib.hid hn
  clear hn
  go_enter Try.func55, Try.ntmps55
  go_wp2_with (first | (with_reducible refine stop_alloc ?_))
  refine wpl_ex (ex_alloc 26 Try.arrS rfl) rfl ?_
  rintro _ w1 ⟨rfl, h1, hx_w1, hs_w1⟩
  obtain ⟨rg, hg_rg⟩ : ∃ g, w.heap.size = g := ⟨_, rfl⟩
  rw [hg_rg] at h1 hs_w1 ⊢
  replace h1 : Blk w1 rg (cBs (List.replicate 32 0)) 26 := h1
  go_wp2_with fail
  have hp := rdP_lit (w := w1) (e := 22) (cs := #[.slice ao n cap]) (ls := [b]) rfl (.cons (hr.ext hx_w1) .nil) (by simp)
  have hJ := join_calls 31 [b] (by simp [flat]; omega) _ _ hp
  rw [hs_w1, show cB 31 = Value.int .u8 31 from rfl] at hJ
  with_reducible_and_instances refine Calls.mono hJ ?_
  rintro e w2 ⟨rfl, hx2⟩
  have hC := (hx_w1.trans (Ext.alloc w1 (.cells #[.slice ao n cap] 22))).trans hx2
  have h2 := (h1.ext (Ext.alloc w1 (.cells #[.slice ao n cap] 22))).ext hx2
  clear hp hx2 hx_w1 h1 hs_w1
  go_wp2_with (first | (with_reducible refine stop_store ?_))
  refine wpl_sk (ex_store 26 (.tmp 2) (.tmp 5) (cs := cBs (join 31 [b])) h2 rfl rfl rfl (Try.szS.trans (by simp)) (by simp) (cBs_one _)) rfl ?_
  rintro w3 ⟨h3, hx_w3, hs_w3⟩
  have hC3 : Ext w w3 := Chg.then hC hx_w3 (fun i hi h => by omega)
  clear hx_w3 hs_w3
  go_wp2
  exact bodyPost_ret (results_cell_row rfl _ _ rg 26 _ (0, 0) _ rfl h3 Try.underlying26 rfl (Try.szS.trans (by simp))) rfl ⟨rfl, hC3⟩

set_option maxRecDepth 100000 in
set_option maxHeartbeats 4000000 in
theorem secretHash_calls (s : List UInt8) (hs : s.length = 32) (w : World) :
    Calls Try.prog 25 #[.agg (cBs s).toArray] w fun e w' => e = .returned (.agg (cBs (join 31 [s])).toArray) ∧ Ext w w' := by
  have HS := Lib.hid hs
  clear hs
  go_enter Try.func25, Try.ntmps25
  go_wp2_with (first | (with_reducible refine stop_box ?_) | (with_reducible refine stop_alloc ?_))
  refine wpl_ex (ex_box 26 (.tmp 0) (v := .agg (cBs (s)).toArray) rfl rfl) rfl ?_
  rintro _ w1 ⟨rfl, h1, hx_w1, hs_w1⟩
  obtain ⟨sg, hg_sg⟩ : ∃ g, w.heap.size = g := ⟨_, rfl⟩
  rw [hg_sg] at h1 hs_w1 ⊢
  replace h1 : Blk w1 sg (cBs (s)) 26 := h1
  go_wp2_with (first | (with_reducible refine stop_box ?_) | (with_reducible refine stop_alloc ?_))
  refine wpl_ex (ex_alloc 26 Try.arrS rfl) rfl ?_
  rintro _ w2 ⟨rfl, h2, hx_w2, hs_w2⟩
  obtain ⟨rg, hg_rg⟩ : ∃ g, w1.heap.size = g := ⟨_, rfl⟩
  rw [hg_rg] at h2 hs_w2 ⊢
  replace h2 : Blk w2 rg (cBs (List.replicate 32 0)) 26 := h2
  go_wp2_with fail
  refine (lockHash_calls s (by have := HS.out; omega) _ _ (rdB_blkn (h1.ext hx_w2) HS.out (by decide))).mono ?_
  rintro e w3 ⟨rfl, hx3⟩
  have hC := (hx_w1.trans hx_w2).trans hx3
  have hwg : w.heap.size ≤ rg := by have := hx_w1.size; omega
  have h3 := h2.ext hx3
  clear hx_w1 hx_w2 hx3 h1 h2 hs_w1 hs_w2 hg_sg hg_rg
  go_wp2_with (first | (with_reducible refine stop_store ?_))
  refine wpl_sk (ex_store 26 (.tmp 2) (.tmp 4) (cs := cBs (join 31 [s])) h3 rfl rfl rfl (Try.szS.trans (by simp)) (by simp) (cBs_one _)) rfl ?_
  rintro w4 ⟨h4, hx_w4, hs_w4⟩
  have hC4 : Ext w w4 := Chg.then hC hx_w4 (fun i hi h => by omega)
  clear hx_w4 hs_w4
  go_wp2
  exact bodyPost_ret (results_cell_row rfl _ _ rg 26 _ (0, 0) _ rfl h4 Try.underlying26 rfl (Try.szS.trans (by simp))) rfl ⟨rfl, hC4⟩

theorem be4_mod (m : Nat) : ([.int .u8 ((m : Int) / 16777216 % 256), .int .u8 ((m : Int) / 65536 % 256), .int .u8 ((m : Int) / 256 % 256), .int .u8 ((m : Int) % 256)] : List Value) = cBs (be4 m) := by
  simp [cBs, be4, cB]
/-- The number of a state, in four bytes. -/
def st4 (n : Int) : List UInt8 := be4 (max n 0).toNat

set_option maxRecDepth 100000 in
set_option maxHeartbeats 4000000 in
theorem secretOf_calls (s : List UInt8) (hs : s.length = 32) (n : Int) (hn : -9223372036854775808 ≤ n ∧ n ≤ 9223372036854775807) (w : World) :
    Calls Try.prog 24 #[.agg (cBs s).toArray, .int .i64 n] w fun e w' => e = .returned (.agg (cBs (join 61 [s, st4 n])).toArray) ∧ Ext w w' := by
  have HS := Lib.hid hs
  clear hs
  obtain ⟨m, hm⟩ : ∃ m : Nat, (max n 0).toNat = m := ⟨_, rfl⟩
  have hmx : (if 0 > n then 0 else n) = (m : Int) := by split <;> omega
  have hmb : m ≤ 9223372036854775807 := by omega
  have HM : Hid (st4 n = be4 m) := by show st4 n = _; unfold st4; rw [hm]
  clear hm hn
  go_enter Try.func24, Try.ntmps24
  go_wp2_with (first | (with_reducible refine stop_box ?_) | (with_reducible refine stop_alloc ?_))
  refine wpl_ex (ex_box 26 (.tmp 0) (v := .agg (cBs (s)).toArray) rfl rfl) rfl ?_
  rintro _ w1 ⟨rfl, h1, hx_w1, hs_w1⟩
  obtain ⟨sg, hg_sg⟩ : ∃ g, w.heap.size = g := ⟨_, rfl⟩
  rw [hg_sg] at h1 hs_w1 ⊢
  replace h1 : Blk w1 sg (cBs (s)) 26 := h1
  go_wp2_with (first | (with_reducible refine stop_box ?_) | (with_reducible refine stop_alloc ?_))
  refine wpl_ex (ex_alloc 26 Try.arrS rfl) rfl ?_
  rintro _ w2 ⟨rfl, h2, hx_w2, hs_w2⟩
  obtain ⟨rg, hg_rg⟩ : ∃ g, w1.heap.size = g := ⟨_, rfl⟩
  rw [hg_rg] at h2 hs_w2 ⊢
  replace h2 : Blk w2 rg (cBs (List.replicate 32 0)) 26 := h2
  go_wp2_with fail
  obtain ⟨A_hl, hA_hl⟩ : ∃ A : Array Value, #[.int .u8 ((m : Int) / 16777216 % 256), .int .u8 ((m : Int) / 65536 % 256), .int .u8 ((m : Int) / 256 % 256), .int .u8 ((m : Int) % 256)] = A := ⟨_, rfl⟩
  rw [hA_hl]
  have hl := rdB_lit (w := w2) (e := 5) (cs := A_hl) (l := be4 m) (by rw [← hA_hl]; exact be4_mod m) (by simp)
  rw [hs_w2] at hl
  have hx_w3 := Ext.alloc w2 (.cells A_hl 5)
  have hs_w3 := World.size_alloc w2 (.cells A_hl 5)
  rw [hs_w2] at hs_w3
  generalize w2.alloc (.cells A_hl 5) = w3 at hl hx_w3 hs_w3 ⊢
  clear hA_hl A_hl
  have hp := rdP_lit (w := w3) (e := 22) (cs := #[.slice (some ⟨sg, 0, none⟩) 32 32, .slice (some ⟨rg + 1, 0, none⟩) 4 4]) (ls := [s, be4 m]) rfl (.cons (rdB_blkn ((h1.ext hx_w2).ext hx_w3) HS.out (by decide)) (.cons (hl) (.nil))) (by simp)
  rw [hs_w3] at hp
  have hx_w4 := Ext.alloc w3 (.cells #[.slice (some ⟨sg, 0, none⟩) 32 32, .slice (some ⟨rg + 1, 0, none⟩) 4 4] 22)
  generalize w3.alloc (.cells #[.slice (some ⟨sg, 0, none⟩) 32 32, .slice (some ⟨rg + 1, 0, none⟩) 4 4] 22) = w4 at hp hx_w4 ⊢
  have hJ := join_calls 61 [s, be4 m] (by have := HS.out; simp [flat]; omega) _ _ hp
  rw [show cB 61 = Value.int .u8 61 from rfl] at hJ
  with_reducible_and_instances refine Calls.mono hJ ?_
  clear hJ hp
  rintro e w5 ⟨rfl, hx_w5⟩
  rw [← HM.out]
  have hC : Ext w w5 := (((hx_w1.trans hx_w2).trans hx_w3).trans hx_w4).trans hx_w5
  have h5 := ((h2.ext hx_w3).ext hx_w4).ext hx_w5
  have hwg : w.heap.size ≤ rg := by have := hx_w1.size; omega
  clear hx_w1 hx_w2 hx_w3 hx_w4 hx_w5 h1 h2 hl hs_w1 hs_w2 hs_w3 hg_sg hg_rg hmx hmb HM
  go_wp2_with (first | (with_reducible refine stop_store ?_))
  refine wpl_sk (ex_store 26 (.tmp 4) (.tmp 22) (cs := cBs (join 61 [s, st4 n])) h5 rfl rfl rfl (Try.szS.trans (by simp)) (by simp) (cBs_one _)) rfl ?_
  rintro w6 ⟨h6, hx_w6, hs_w6⟩
  have hC6 : Ext w w6 := Chg.then hC hx_w6 (fun i hi h => by omega)
  clear hx_w6 hs_w6
  go_wp2
  exact bodyPost_ret (results_cell_row rfl _ _ rg 26 _ (0, 0) _ rfl h6 Try.underlying26 rfl (Try.szS.trans (by simp))) rfl ⟨rfl, hC6⟩

set_option maxRecDepth 100000 in
set_option maxHeartbeats 4000000 in
theorem secretPoint_calls (s : List UInt8) (hs : s.length = 32) (n : Int) (hn : -9223372036854775808 ≤ n ∧ n ≤ 9223372036854775807) (w : World) :
    Calls Try.prog 26 #[.agg (cBs s).toArray, .int .i64 n] w fun e w' => e = .returned (.agg (cBs (join 31 [join 61 [s, st4 n]])).toArray) ∧ Ext w w' := by
  have HS := Lib.hid hs
  have HN := Lib.hid hn
  clear hs hn
  go_enter Try.func26, Try.ntmps26
  go_wp2_with (first | (with_reducible refine stop_box ?_) | (with_reducible refine stop_alloc ?_))
  refine wpl_ex (ex_box 26 (.tmp 0) (v := .agg (cBs (s)).toArray) rfl rfl) rfl ?_
  rintro _ w1 ⟨rfl, h1, hx_w1, hs_w1⟩
  obtain ⟨sg, hg_sg⟩ : ∃ g, w.heap.size = g := ⟨_, rfl⟩
  rw [hg_sg] at h1 hs_w1 ⊢
  replace h1 : Blk w1 sg (cBs (s)) 26 := h1
  go_wp2_with (first | (with_reducible refine stop_box ?_) | (with_reducible refine stop_alloc ?_))
  refine wpl_ex (ex_alloc 26 Try.arrS rfl) rfl ?_
  rintro _ w2 ⟨rfl, h2, hx_w2, hs_w2⟩
  obtain ⟨rg, hg_rg⟩ : ∃ g, w1.heap.size = g := ⟨_, rfl⟩
  rw [hg_rg] at h2 hs_w2 ⊢
  replace h2 : Blk w2 rg (cBs (List.replicate 32 0)) 26 := h2
  go_wp2_with (first | (with_reducible refine stop_load ?_))
  replace h1 := h1.ext hx_w2
  refine wpl_ex (ex_load 26 (.tmp 2) h1 rfl rfl Try.underlying26 rfl (Try.szS.trans (by simp [HS.out]))) rfl ?_
  rintro _ _ ⟨rfl, rfl⟩
  go_wp2_with fail
  refine (secretOf_calls s HS.out n HN.out _).mono ?_
  rintro e w3 ⟨rfl, hx_w3⟩
  go_wp2_with fail
  refine (secretHash_calls _ (join_length _ _) _).mono ?_
  rintro e w4 ⟨rfl, hx_w4⟩
  have hC : Ext w w4 := ((hx_w1.trans hx_w2).trans hx_w3).trans hx_w4
  have h5 := (h2.ext hx_w3).ext hx_w4
  have hwg : w.heap.size ≤ rg := by have := hx_w1.size; omega
  clear hx_w1 hx_w2 hx_w3 hx_w4 h1 h2 hs_w1 hs_w2 hg_sg hg_rg
  go_wp2_with (first | (with_reducible refine stop_store ?_))
  refine wpl_sk (ex_store 26 (.tmp 4) (.tmp 8) (cs := cBs (join 31 [join 61 [s, st4 n]])) h5 rfl rfl rfl (Try.szS.trans (by simp)) (by simp) (cBs_one _)) rfl ?_
  rintro w6 ⟨h6, hx_w6, hs_w6⟩
  have hC6 : Ext w w6 := Chg.then hC hx_w6 (fun i hi h => by omega)
  clear hx_w6 hs_w6
  go_wp2
  exact bodyPost_ret (results_cell_row rfl _ _ rg 26 _ (0, 0) _ rfl h6 Try.underlying26 rfl (Try.szS.trans (by simp))) rfl ⟨rfl, hC6⟩

end Go.Proofs.Yticaefnpapppoaa
