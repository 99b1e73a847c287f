/- Contract: sha.Of. -/
import Derived.Test.YtokddhidcjkadaaShaTabs
namespace Go.Proofs.Ytokddhidcjkadaa
open Go.RowKit Go.Bz Go.Bz.Sha

theorem Try.arrS : (Try.prog.info? 23).map (fun i => (i.zero, i.size)) = some (some (.agg (cBs (List.replicate 32 0)).toArray), 32) := by kernel_rfl
theorem Try.szS : (Try.prog.info? 23).map (·.size) = some 32 := by kernel_rfl
theorem Try.sz8b : (Try.prog.info? 5).map (·.size) = some 1 := by kernel_rfl
/-- The sum's bytes after k words. -/
def outs (s : St) (k : Nat) : List UInt8 := (out s).take (4 * k) ++ List.replicate (32 - 4 * k) 0
theorem outs_len (s : St) (k : Nat) (h : k ≤ 8) : (outs s k).length = 32 := by simp [outs]; omega
theorem outs_set (s : St) (k : Nat) (h : k < 8) : ((((cBs (outs s k)).set (4 * k) (cB (UInt8.ofNat (s.list.getD k 0 / 16777216)))).set (4 * k + 1) (cB (UInt8.ofNat (s.list.getD k 0 / 65536)))).set (4 * k + 2) (cB (UInt8.ofNat (s.list.getD k 0 / 256)))).set (4 * k + 3) (cB (UInt8.ofNat (s.list.getD k 0))) = cBs (outs s (k + 1)) := by
  rcases k8 h with rfl | rfl | rfl | rfl | rfl | rfl | rfl | rfl <;> rfl

set_option maxRecDepth 100000 in
set_option maxHeartbeats 4000000 in
theorem of_calls (b : List UInt8) (hb : b.length ≤ 1099511627776) (v : Value) (w : World) (hr : RdB w v b) :
    Calls Try.prog 60 #[v] w fun e w' => e = .returned (.agg (cBs (sum b)).toArray) ∧ Ext w w' := by
  go_enter Try.func60, Try.ntmps60
  go_wp2_with (first | (with_reducible refine stop_alloc ?_) | (with_reducible refine stop_store ?_))
  refine wpl_ex (ex_alloc 23 Try.arrS rfl) rfl ?_
  rintro _ w1 ⟨rfl, h1, hx1, hs1⟩
  obtain ⟨rg, hrg⟩ : ∃ g, w.heap.size = g := ⟨_, rfl⟩
  rw [hrg] at h1 hs1 ⊢
  go_wp2_with fail
  refine (first_calls _).mono ?_
  rintro e w2 ⟨rfl, hx2⟩
  go_wp2_with fail
  refine (rounds_calls _).mono ?_
  rintro e w3 ⟨rfl, hx3⟩
  go_wp2_with (first | (with_reducible refine stop_alloc ?_) | (with_reducible refine stop_store ?_))
  refine wpl_ex (ex_alloc 121 Try.arr8 rfl) rfl ?_
  rintro _ w4 ⟨rfl, h4, hx4, hs4⟩
  obtain ⟨hg, hhg⟩ : ∃ g, w3.heap.size = g := ⟨_, rfl⟩
  rw [hhg] at h4 hs4 ⊢
  go_wp2_with (first | (with_reducible refine stop_alloc ?_) | (with_reducible refine stop_store ?_))
  refine wpl_ex (ex_alloc 123 Try.arr123 rfl) rfl ?_
  rintro _ w5 ⟨rfl, h5, hx5, hs5⟩
  obtain ⟨kg, hkg⟩ : ∃ g, w4.heap.size = g := ⟨_, rfl⟩
  rw [hkg] at h5 hs4 ⊢
  have hgk : hg < kg := by omega
  clear hs4 hs5
  go_wp2_with (first | (with_reducible refine stop_alloc ?_) | (with_reducible refine stop_store ?_))
  refine wpl_sk (ex_store 121 (.tmp 3) (.tmp 9) (cs := cWs st0.list) (h4.ext hx5) rfl rfl rfl (Try.sz8.trans rfl) rfl (cWs_one _)) rfl ?_
  rintro w6 ⟨h6, hx6, hs6⟩
  go_wp2_with (first | (with_reducible refine stop_alloc ?_) | (with_reducible refine stop_store ?_))
  refine wpl_sk (ex_store 123 (.tmp 4) (.tmp 10) (cs := cWs ks) (h5.keep hx6 (by omega)) rfl rfl rfl (Try.sz123.trans rfl) rfl (cWs_one _)) rfl ?_
  rintro w7 ⟨hK, hx7, hs7⟩
  have hH : Blk w7 hg (cWs st0.list) 121 := h6.keep hx7 (by omega)
  have hrh : rg < hg := by have := hx2.size; have := hx3.size; omega
  have hC3 : Ext w w3 := (hx1.trans hx2).trans hx3
  have hR : Blk w7 rg (cBs (List.replicate 32 0)) 23 := ((((((h1.ext hx2).ext hx3).ext hx4).ext hx5).keep hx6 (by omega)).keep hx7 (by omega))
  have hsz : w3.heap.size = hg := hhg
  have hC : Ext w w7 := by
    have a5 : Ext w w5 := (hC3.trans hx4).trans hx5
    exact (Chg.then a5 hx6 (fun i hi h => by have := hC3.size; omega)).then hx7 (fun i hi h => by have := hC3.size; omega)
  have hr7 : RdB w7 v b := hr.ext hC
  have HRG := Lib.hid hrg
  clear hrg
  clear hx1 hx2 hx3 hx4 hx5 hx6 hx7 h1 h4 h5 h6 hC3 hs1 hs6 hs7 hsz hhg hkg hr
  go_wp2_with fail
  refine (padded_calls b hb v _ hr7).mono ?_
  rintro e w8 ⟨p0, rfl, hop, hx8⟩
  have hp0 := hop.rd
  have hne0 : ∀ k, p0.ownBlock = some k → ¬ k = hg := fun k hk h => Own.neType hop (hH.ext hx8) (by decide) (h ▸ hk)
  replace hK := hK.ext hx8
  replace hH := hH.ext hx8
  replace hR := hR.ext hx8
  replace hC := hC.trans hx8
  have HP := Lib.hid (padded_length b).1
  clear hr7 hop hx8
  go_wp2
  go_loopw [5] (fun p wr => ∃ (l : List UInt8) (s : St), s.Ok ∧ Hid (l.length % 64 = 0) ∧ Hid (blocks s l (l.length / 64) = blocks st0 (padded b) ((padded b).length / 64)) ∧ RdB wr p l ∧ (∀ k, p.ownBlock = some k → ¬ k = hg) ∧ Blk wr hg (cWs s.list) 121 ∧ Blk wr kg (cWs ks) 123 ∧
     Blk wr rg (cBs (List.replicate 32 0)) 23 ∧ Ext w wr) (fun p _ => lenOf p)
  case atStart => exact ⟨padded b, st0, st0_ok, HP, rfl, hp0, hne0, hH, hK, hR, hC⟩
  case round =>
    clear hH hK hR hC hp0 HP hne0
    obtain ⟨l, s, hok, HM, HE, hp, hne, hH, hK, hR, hC⟩ := hrel
    obtain ⟨ao, n, cap, rfl, hn, hnc⟩ := hp.form2
    have hnm : n % 64 = 0 := by rw [← hn]; exact HM.out
    have HN := Lib.hid hn
    clear hn
    by_cases h0 : n = 0
    · subst h0
      have hs0 : s = blocks st0 (padded b) ((padded b).length / 64) := by rw [← HE.out, HN.out]; rfl
      have HS0 := Lib.hid hs0
      clear hs0
      clear hp hK hne
      go_wp2_with (first | (with_reducible refine stop_alloc ?_) | (with_reducible refine stop_load ?_))
      try rw [show (((0 : Nat) : Int)) = 0 from rfl]
      refine wpl_ex (ex_alloc 23 Try.arrS rfl) rfl ?_
      rintro _ w9 ⟨rfl, h9, hx9, hs9⟩
      obtain ⟨og, hog⟩ : ∃ g, wr.heap.size = g := ⟨_, rfl⟩
      rw [hog] at h9 ⊢
      have hH9 := hH.ext hx9
      have hR9 := hR.ext hx9
      have hC9 := hC.trans hx9
      have hro : rg < og := by have := hR.lt; omega
      have hwo : w.heap.size ≤ og := by have := hC.size; omega
      clear hH hR hC hx9 hs9 hog
      go_wp2_with (first | (with_reducible refine stop_alloc ?_) | (with_reducible refine stop_load ?_))
      refine wpl_ex (ex_load 121 (.tmp 3) hH9 rfl rfl Try.underlying121 rfl (Try.sz8.trans rfl)) rfl ?_
      rintro _ _ ⟨rfl, rfl⟩
      go_wp2
      go_loopw [22] (fun i wr => ∃ k : Nat, k ≤ 8 ∧ i = .int .i64 k ∧ Blk wr og (cBs (outs s k)) 23 ∧ Blk wr rg (cBs (List.replicate 32 0)) 23 ∧ Ext w wr) (fun i _ => 8 - (intOf i).toNat)
      case atStart => exact ⟨0, by omega, rfl, h9, hR9, hC9⟩
      case round =>
        clear h9 hR9 hC9 hH9
        obtain ⟨k, hk, rfl, h9, hR9, hC9⟩ := hrel
        by_cases hlt : k < 8
        · obtain ⟨y, hy, ly⟩ : ∃ y : Nat, s.list.getD k 0 = y ∧ y < 4294967296 := ⟨_, rfl, list_lt hok k⟩
          have hcell := list_cell s k hlt
          have hset := Lib.hid (outs_set s k hlt)
          rw [hy] at hcell hset
          have e0 : IntKind.i64.wrap (4 * (k : Int)) = 4 * (k : Int) := IntWalk.i64_in _ (by omega)
          go_wp2_with (with_reducible refine stop_elem ?_)
          refine wpl_ex (ex_elem 121 (.tmp 21) (.tmp 22) rfl rfl rfl Try.underlying121 hlt Try.sz119 Try.underlying119 rfl hcell) rfl ?_
          rintro _ _ ⟨rfl, rfl⟩
          clear hcell hy
          have q0 : (0 : Int) ≤ 4 * (k : Int) := by omega
          have q1 : 4 * (k : Int) + 3 < 32 := by omega
          have n0 : (4 * (k : Int)).toNat = 4 * k := by omega
          have n1 : (4 * (k : Int) + 1).toNat = 4 * k + 1 := by omega
          have n2 : (4 * (k : Int) + 2).toNat = 4 * k + 2 := by omega
          have n3 : (4 * (k : Int) + 3).toNat = 4 * k + 3 := by omega
          go_wp2_with (with_reducible refine stop_store ?_)
          refine wpl_sk (ex_store1 5 (.tmp 48) (.tmp 39) (v := cB (UInt8.ofNat (y / 16777216))) h9 (j := 4 * k) (by simp only [cBs_length, outs_len s k (by omega)]; omega) rfl (by show Value.int .u8 _ = cB _; simp [cB] <;> omega) rfl Try.sz8b rfl) rfl ?_
          rintro w10 ⟨h10, hx10, hs10⟩
          go_wp2_with (with_reducible refine stop_store ?_)
          refine wpl_sk (ex_store1 5 (.tmp 49) (.tmp 42) (v := cB (UInt8.ofNat (y / 65536))) h10 (j := 4 * k + 1) (by simp only [List.length_set, cBs_length, outs_len s k (by omega)]; omega) rfl (by show Value.int .u8 _ = cB _; simp [cB] <;> omega) rfl Try.sz8b rfl) rfl ?_
          rintro w11 ⟨h11, hx11, hs11⟩
          go_wp2_with (with_reducible refine stop_store ?_)
          refine wpl_sk (ex_store1 5 (.tmp 50) (.tmp 45) (v := cB (UInt8.ofNat (y / 256))) h11 (j := 4 * k + 2) (by simp only [List.length_set, cBs_length, outs_len s k (by omega)]; omega) rfl (by show Value.int .u8 _ = cB _; simp [cB] <;> omega) rfl Try.sz8b rfl) rfl ?_
          rintro w12 ⟨h12, hx12, hs12⟩
          go_wp2_with (with_reducible refine stop_store ?_)
          refine wpl_sk (ex_store1 5 (.tmp 51) (.tmp 47) (v := cB (UInt8.ofNat (y))) h12 (j := 4 * k + 3) (by simp only [List.length_set, cBs_length, outs_len s k (by omega)]; omega) rfl (by show Value.int .u8 _ = cB _; simp [cB] <;> omega) rfl Try.sz8b rfl) rfl ?_
          rintro w13 ⟨h13, hx13, hs13⟩
          rw [hset.out] at h13
          have hX : Chg (· = og) wr w13 := ((hx10.trans hx11).trans hx12).trans hx13
          have hR13 := hR9.keep hX (by omega)
          have hC13 : Ext w w13 := Chg.then hC9 hX (fun i hi h => by omega)
          clear hX hx10 hx11 hx12 hx13 hs10 hs11 hs12 hs13 h9 h10 h11 h12 hR9 hC9
          go_wp2
          go_roundw
          case rel => exact ⟨k + 1, by omega, by go_num, h13, hR13, hC13⟩
          case measure => simp [intOf]; omega
        · obtain rfl : k = 8 := by omega
          have e8 : outs s 8 = out s := rfl
          rw [e8] at h9
          clear e8
          go_wp2_with (first | (with_reducible refine stop_load ?_) | (with_reducible refine stop_store ?_))
          refine wpl_ex (ex_load 23 (.tmp 6) h9 rfl rfl Try.underlying23 rfl (Try.szS.trans (by simp))) rfl ?_
          rintro _ _ ⟨rfl, rfl⟩
          go_wp2_with (first | (with_reducible refine stop_load ?_) | (with_reducible refine stop_store ?_))
          refine wpl_sk (ex_store 23 (.tmp 2) (.tmp 53) (cs := cBs (out s)) hR9 rfl rfl rfl (Try.szS.trans (by simp)) (by simp) (cBs_one _)) rfl ?_
          rintro w14 ⟨h14, hx14, hs14⟩
          have hC14 : Ext w w14 := Chg.then hC9 hx14 (fun i hi h => by have := HRG.out; omega)
          clear hx14 hs14 hC9 hR9
          go_wp2
          refine bodyPost_ret (results_cell_row rfl _ _ rg 23 _ (0, 0) _ rfl h14 Try.underlying23 rfl (Try.szS.trans (by simp))) rfl ⟨?_, hC14⟩
          rw [HS0.out]; rfl
    · have hn64 : 64 ≤ n := by omega
      go_wp2_with (with_reducible refine stop_slice ?_)
      refine wpl_ex (ex_slB (.tmp 18) none (some (.const (.int .i64 64))) hp 0 64 rfl (.inl ⟨rfl, rfl⟩) (.inr ⟨_, rfl⟩) rfl (by omega) (by rw [HN.out]; omega)) rfl ?_
      rintro v9 _ ⟨hr9, hob9, rfl⟩
      rw [List.drop_zero, Nat.sub_zero] at hr9
      go_wp2_with fail
      refine (block_calls s hok (l.take 64) (by have := HN.out; simp; omega) v9 hg kg _ hr9 hH hK).mono ?_
      rintro e w9 ⟨rfl, hH9, hx9⟩
      have hp9 := hp.keep hx9 (fun k hk _ => hne k hk)
      have hK9 := hK.keep hx9 (by omega)
      have hR9 := hR.keep hx9 (by omega)
      have hC9 : Ext w w9 := Chg.then hC hx9 (fun i hi h => by have := HRG.out; omega)
      clear hx9 hr9 hob9 hp hH hK hR hC
      go_wp2_with (with_reducible refine stop_slice ?_)
      refine wpl_ex (ex_slB (.tmp 16) (some (.const (.int .i64 64))) none hp9 64 n rfl (.inr ⟨_, rfl⟩) (.inl ⟨rfl, HN.out.symm⟩) rfl (by omega) (by rw [HN.out]; omega)) rfl ?_
      rintro v10 _ ⟨hr10, hob10, rfl⟩
      obtain ⟨ao2, n2, cap2, rfl, hn2, _⟩ := hr10.form2
      have hl2 : (l.drop 64).take (n - 64) = l.drop 64 := List.take_of_length_le (by have := HN.out; simp; omega)
      rw [hl2] at hr10 hn2
      have hn3 : n2 = n - 64 := by rw [← hn2]; have := HN.out; simp; omega
      have HN3 := Lib.hid hn3
      clear hn2 hl2 hp9 hn3
      go_wp2
      go_roundw
      case rel =>
        refine ⟨l.drop 64, comp s (l.take 64), comp_ok _ _, ?_, ?_, hr10, fun k hk => hne k (hob10 ▸ hk), hH9, hK9, hR9, hC9⟩
        · show (l.drop 64).length % 64 = 0
          have := HN.out
          simp; omega
        · show blocks _ _ _ = _
          have e1 : l.length / 64 = (l.drop 64).length / 64 + 1 := by have := HN.out; simp; omega
          rw [← HE.out, e1]; rfl
      case measure => have := HN3.out; simp [lenOf]; omega
end Go.Proofs.Ytokddhidcjkadaa
