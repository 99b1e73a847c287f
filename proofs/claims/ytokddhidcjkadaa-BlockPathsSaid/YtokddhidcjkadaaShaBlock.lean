/- Contract: (*sha.state).block takes a block of 64 bytes in. -/
import Derived.Test.YtokddhidcjkadaaShaSpread
namespace Go.Proofs.Ytokddhidcjkadaa
open Go.RowKit Go.Bz Go.Bz.Sha

theorem Try.arr8 : (Try.prog.info? 121).map (fun i => (i.zero, i.size)) = some (some (.agg (zz 8).toArray), 8) := by kernel_rfl
theorem Try.sz8 : (Try.prog.info? 121).map (·.size) = some 8 := by kernel_rfl
theorem cWs_one (l : List Nat) : ∀ u ∈ cWs l, u.oneCell' = true := by
  intro u hu
  simp only [cWs, List.mem_map] at hu
  obtain ⟨x, _, rfl⟩ := hu; rfl
@[simp] theorem cWs_length (l : List Nat) : (cWs l).length = l.length := by simp [cWs]
theorem zz_length (n : Nat) : (zz n).length = n := by simp [zz]

theorem src7 (A B C D E F G H j : Nat) (u : Value) (hu : (cWs [A, B, C, D, E, F, G])[j]? = some u) : (cWs [A, B, C, D, E, F, G, H])[j]? = some u := by
  have hj : j < 7 := by have := (List.getElem?_eq_some_iff.1 hu).1; simpa using this
  rw [show cWs [A, B, C, D, E, F, G, H] = cWs [A, B, C, D, E, F, G] ++ cWs [H] from rfl, List.getElem?_append_left (by simpa using hj)]
  exact hu
theorem k8 {k : Nat} (h : k < 8) : k = 0 ∨ k = 1 ∨ k = 2 ∨ k = 3 ∨ k = 4 ∨ k = 5 ∨ k = 6 ∨ k = 7 := by omega
theorem list_lt {s : St} (h : s.Ok) (k : Nat) : s.list.getD k 0 < 4294967296 := getD_lt (by
  obtain ⟨h1, h2, h3, h4, h5, h6, h7, h8⟩ := h
  intro x hx
  simp only [St.list, List.mem_cons, List.not_mem_nil, or_false] at hx
  rcases hx with rfl | rfl | rfl | rfl | rfl | rfl | rfl | rfl <;> assumption) k
theorem list_cell (t : St) (k : Nat) (h : k < 8) : (cWs t.list)[k]? = some (.int .u32 ((t.list.getD k 0 : Nat) : Int)) := by
  rcases k8 h with rfl | rfl | rfl | rfl | rfl | rfl | rfl | rfl <;> rfl
theorem mix_len (s t : St) (k : Nat) : ((add s t).list.take k ++ s.list.drop k).length = 8 := by
  simp [St.list]; omega
theorem mix_cell (s t : St) (k : Nat) (h : k < 8) : (cWs ((add s t).list.take k ++ s.list.drop k))[k]? = some (.int .u32 ((s.list.getD k 0 : Nat) : Int)) := by
  rcases k8 h with rfl | rfl | rfl | rfl | rfl | rfl | rfl | rfl <;> rfl
theorem mix_set (s t : St) (k : Nat) (h : k < 8) : (cWs ((add s t).list.take k ++ s.list.drop k)).set k (cW ((add s t).list.getD k 0)) = cWs ((add s t).list.take (k + 1) ++ s.list.drop (k + 1)) := by
  rcases k8 h with rfl | rfl | rfl | rfl | rfl | rfl | rfl | rfl <;> rfl
theorem add_getD (s t : St) (k : Nat) (h : k < 8) : (add s t).list.getD k 0 = (s.list.getD k 0 + t.list.getD k 0) % M := by
  rcases k8 h with rfl | rfl | rfl | rfl | rfl | rfl | rfl | rfl <;> rfl
set_option maxRecDepth 100000 in
set_option maxHeartbeats 4000000 in
theorem block_calls (s : St) (hs : s.Ok) (b : List UInt8) (hb : b.length = 64) (v : Value) (hg kg : Nat) (w : World) (hr : RdB w v b)
    (hH : Blk w hg (cWs s.list) 121) (hK : Blk w kg (cWs ks) 123) :
    Calls Try.prog 81 #[.pointer (some ⟨hg, 0, none⟩), v, .pointer (some ⟨kg, 0, none⟩)] w fun e w' =>
      e = .returned (.tuple #[]) ∧ Blk w' hg (cWs (comp s b).list) 121 ∧ Chg (· = hg) w w' := by
  have HB := Lib.hid hb
  clear hb
  go_enter Try.func81, Try.ntmps81
  go_wp2_with fail
  refine (spread_calls b HB.out v w hr).mono ?_
  rintro e w1 ⟨rfl, hx1⟩
  go_wp2_with (first | (with_reducible refine stop_alloc ?_) | (with_reducible refine stop_store ?_) | (with_reducible refine stop_load ?_))
  refine wpl_ex (ex_alloc 123 Try.arr123 rfl) rfl ?_
  rintro _ w2 ⟨rfl, h2, hx2, hs2⟩
  obtain ⟨wg, hwg⟩ : ∃ g, w1.heap.size = g := ⟨_, rfl⟩
  rw [hwg] at h2 ⊢
  go_wp2_with (first | (with_reducible refine stop_alloc ?_) | (with_reducible refine stop_store ?_) | (with_reducible refine stop_load ?_))
  refine wpl_sk (ex_store 123 (.tmp 6) (.tmp 16) (cs := cWs (words b 64)) h2 rfl rfl rfl (Try.sz123.trans (by simp)) (by simp [Value.cells, zz]) (cWs_one _)) rfl ?_
  rintro w3 ⟨h3, hx3, hs3⟩
  have hH3 := (((hH.ext hx1).ext hx2).keep hx3 (by have := hH.lt; have := hx1.size; omega))
  have hK3 := (((hK.ext hx1).ext hx2).keep hx3 (by have := hK.lt; have := hx1.size; omega))
  go_wp2_with (first | (with_reducible refine stop_alloc ?_) | (with_reducible refine stop_store ?_) | (with_reducible refine stop_load ?_))
  refine wpl_ex (ex_load 121 (.tmp 18) hH3 rfl rfl Try.underlying121 rfl (Try.sz8.trans rfl)) rfl ?_
  rintro _ _ ⟨rfl, rfl⟩
  go_wp2_with (first | (with_reducible refine stop_alloc ?_) | (with_reducible refine stop_store ?_) | (with_reducible refine stop_load ?_))
  refine wpl_ex (ex_alloc 121 Try.arr8 rfl) rfl ?_
  rintro _ w4 ⟨rfl, h4, hx4, hs4⟩
  obtain ⟨vg, hvg⟩ : ∃ g, w3.heap.size = g := ⟨_, rfl⟩
  rw [hvg] at h4 ⊢
  go_wp2_with (first | (with_reducible refine stop_alloc ?_) | (with_reducible refine stop_store ?_) | (with_reducible refine stop_load ?_))
  refine wpl_sk (ex_store 121 (.tmp 7) (.tmp 19) (cs := cWs s.list) h4 rfl rfl rfl (Try.sz8.trans rfl) (by simp [Value.cells, zz, St.list]) (cWs_one _)) rfl ?_
  rintro w5 ⟨h5, hx5, hs5⟩
  have hlt3 := hH3.lt
  have hlk3 := hK3.lt
  have hlw3 := h3.lt
  have hvh : ¬ hg = vg := by omega
  have hvk : ¬ kg = vg := by omega
  have hvw : ¬ wg = vg := by omega
  have hvn : w.heap.size ≤ vg := by have := hx1.size; have := hx2.size; have := hx3.size; omega
  have hH5 := (hH3.ext hx4).keep hx5 (by omega)
  have hK5 := (hK3.ext hx4).keep hx5 (by omega)
  have hW5 := (h3.ext hx4).keep hx5 (by omega)
  have hC5 : Chg (· = hg) w w5 := by
    have hw1 := hx1.size
    have hw2 := hx2.size
    exact ((((hx1.any (K := (· = hg))).trans hx2.any).then hx3 (fun i hi h => by omega)).trans hx4.any).then hx5 (fun i hi h => by have := hx3.size; omega)
  clear hx1 hx2 hx3 hx4 hx5 h2 h3 h4 hH3 hK3 hs2 hs3 hs4 hs5
  go_wp2
  go_loopw [20] (fun i wr => ∃ k : Nat, k ≤ 64 ∧ i = .int .i64 k ∧ Blk wr hg (cWs s.list) 121 ∧ Blk wr kg (cWs ks) 123 ∧ Blk wr wg (cWs (words b 64)) 123 ∧
      Blk wr vg (cWs (rounds (words b 64) s k).list) 121 ∧ Chg (· = hg) w wr) (fun i _ => 64 - (intOf i).toNat)
  case atStart => exact ⟨0, by omega, rfl, hH5, hK5, hW5, h5, hC5⟩
  case round =>
    obtain ⟨k, hk, rfl, hHr, hKr, hWr, hVr, hCr⟩ := hrel
    have hok := rounds_ok (words b 64) hs k
    have hstep : rounds (words b 64) s (k + 1) = Go.Bz.Sha.step (rounds (words b 64) s k) (ks.getD k 0) ((words b 64).getD k 0) := rfl
    by_cases hlt : k < 64
    · generalize rounds (words b 64) s k = t at *
      obtain ⟨A, B, C, D, E, F, G, H⟩ := t
      obtain ⟨hA, hB', hC', hD, hE, hF, hG, hH'⟩ := hok
      dsimp only at hA hB' hC' hD hE hF hG hH'
      have HS := Lib.hid hstep
      clear hstep
      have c0 : wr.cell? ⟨vg, 0, none⟩ = some (.int .u32 (A : Int)) := hVr.cell 0
      have c1 : wr.cell? ⟨vg, 1, none⟩ = some (.int .u32 (B : Int)) := hVr.cell 1
      have c2 : wr.cell? ⟨vg, 2, none⟩ = some (.int .u32 (C : Int)) := hVr.cell 2
      have c4 : wr.cell? ⟨vg, 4, none⟩ = some (.int .u32 (E : Int)) := hVr.cell 4
      have c5 : wr.cell? ⟨vg, 5, none⟩ = some (.int .u32 (F : Int)) := hVr.cell 5
      have c6 : wr.cell? ⟨vg, 6, none⟩ = some (.int .u32 (G : Int)) := hVr.cell 6
      have c7 : wr.cell? ⟨vg, 7, none⟩ = some (.int .u32 (H : Int)) := hVr.cell 7
      obtain ⟨kk, hkk, lkk⟩ : ∃ y : Nat, ks.getD k 0 = y ∧ y < 4294967296 := ⟨_, rfl, getD_lt (by decide) _⟩
      obtain ⟨ww, hww, lww⟩ : ∃ y : Nat, (words b 64).getD k 0 = y ∧ y < 4294967296 := ⟨_, rfl, getD_lt (words_lt b 64) _⟩
      have ck : wr.cell? ⟨kg, k, none⟩ = some (.int .u32 (kk : Int)) := by
        rw [hKr.cell k, ← hkk]; simp [cWs, cW, List.getD_eq_getElem?_getD, show k < ks.length from hlt]
      have cw : wr.cell? ⟨wg, k, none⟩ = some (.int .u32 (ww : Int)) := by
        rw [hWr.cell k, ← hww]; simp [cWs, cW, List.getD_eq_getElem?_getD, hlt]
      have HK2 := Lib.hid hkk
      have HW2 := Lib.hid hww
      clear hkk hww
      have q0 : (0 : Int) ≤ (k : Int) := by omega
      have q1 : (k : Int) < 64 := by omega
      have q2 : (k : Int).toNat = k := by omega
      have hsg : IntKind.u32.signed = false := rfl
      have hmx : IntKind.u32.max = 4294967295 := by decide
      obtain ⟨z1, e1, d1, l1⟩ := name_nat (u32_xor_nat _ _ (rr_lt (n := 6) hE) (rr_lt (n := 11) hE)) (xor_lt (rr_lt hE) (rr_lt hE))
      obtain ⟨z2, e2, d2, l2⟩ := name_nat (u32_xor_nat z1 _ l1 (rr_lt (n := 25) hE)) (xor_lt l1 (rr_lt hE))
      obtain ⟨p1, e3, d3, l3⟩ := name_nat (mod_nat H z2) (mod_lt' _)
      obtain ⟨a1, e4, d4, l4⟩ := name_nat (u32_and_nat E F hE hF) (and_lt hE)
      obtain ⟨n1, e5, d5, l5⟩ := name_nat (x := bits .xor .u32 4294967295 (E : Int)) (u32_xor_nat 4294967295 E (by decide) hE) (xor_lt (by decide) hE)
      obtain ⟨a2, e6, d6, l6⟩ := name_nat (u32_and_nat n1 G l5 hG) (and_lt l5)
      obtain ⟨x1, e7, d7, l7⟩ := name_nat (u32_xor_nat a1 a2 l4 l6) (xor_lt l4 l6)
      obtain ⟨p2, e8, d8, l8⟩ := name_nat (mod_nat p1 x1) (mod_lt' _)
      obtain ⟨p3, e9, d9, l9⟩ := name_nat (mod_nat p2 kk) (mod_lt' _)
      obtain ⟨p4, e10, d10, l10⟩ := name_nat (mod_nat p3 ww) (mod_lt' _)
      obtain ⟨z3, e11, d11, l11⟩ := name_nat (u32_xor_nat _ _ (rr_lt (n := 2) hA) (rr_lt (n := 13) hA)) (xor_lt (rr_lt hA) (rr_lt hA))
      obtain ⟨z4, e12, d12, l12⟩ := name_nat (u32_xor_nat z3 _ l11 (rr_lt (n := 22) hA)) (xor_lt l11 (rr_lt hA))
      obtain ⟨m1, e13, d13, l13⟩ := name_nat (u32_and_nat A B hA hB') (and_lt hA)
      obtain ⟨m2, e14, d14, l14⟩ := name_nat (u32_and_nat A C hA hC') (and_lt hA)
      obtain ⟨m3, e15, d15, l15⟩ := name_nat (u32_xor_nat m1 m2 l13 l14) (xor_lt l13 l14)
      obtain ⟨m4, e16, d16, l16⟩ := name_nat (u32_and_nat B C hB' hC') (and_lt hB')
      obtain ⟨m5, e17, d17, l17⟩ := name_nat (u32_xor_nat m3 m4 l15 l16) (xor_lt l15 l16)
      obtain ⟨uv, e18, d18, l18⟩ := name_nat (mod_nat z4 m5) (mod_lt' _)
      obtain ⟨r4, e19, d19, l19⟩ := name_nat (mod_nat D p4) (mod_lt' _)
      obtain ⟨r0, e20, d20, l20⟩ := name_nat (mod_nat p4 uv) (mod_lt' _)
      have HT : Hid (p4 = tt ⟨A, B, C, D, E, F, G, H⟩ kk ww) := by
        show p4 = _
        have hc : x1 = ch E F G := by rw [d7, d4, d6, d5, Nat.xor_comm 4294967295 E, ch_xor hE]; rfl
        have hb1 : z2 = bs1 E := by rw [d2, d1]; rfl
        rw [d10, d9, d8, d3, hc, hb1]
        unfold tt M
        dsimp only
        omega
      have HU : Hid (uv = uu ⟨A, B, C, D, E, F, G, H⟩) := by
        show uv = _
        rw [d18, d12, d11, d17, d15, d13, d14, d16]; rfl
      have HR4 : Hid (r4 = (D + p4) % M) := d19
      have HR0 : Hid (r0 = (p4 + uv) % M) := d20
      clear d1 d2 d3 d4 d5 d6 d7 d8 d9 d10 d11 d12 d13 d14 d15 d16 d17 d18 d19 d20
      go_wp2_with fail
      refine (rot_6 E hE _).mono ?_
      rintro e w' ⟨rfl, rfl⟩
      go_wp2_with fail
      refine (rot_11 E hE _).mono ?_
      rintro e w' ⟨rfl, rfl⟩
      go_wp2_with fail
      refine (rot_25 E hE _).mono ?_
      rintro e w' ⟨rfl, rfl⟩
      go_wp2_with fail
      go_quiet (fail)
      have hd : Ext wr (wr.drewN nq) := Ext.drewN _ _
      generalize wr.drewN nq = w6 at hd ⊢
      replace c0 := hd.cell c0
      replace c1 := hd.cell c1
      replace c2 := hd.cell c2
      replace hHr := hHr.ext hd
      replace hKr := hKr.ext hd
      replace hWr := hWr.ext hd
      replace hVr := hVr.ext hd
      replace hCr := hCr.trans hd.any
      clear c4 c5 c6 c7 ck cw hd
      go_wp2_with fail
      refine (rot_2 A hA _).mono ?_
      rintro e w' ⟨rfl, rfl⟩
      go_wp2_with fail
      refine (rot_13 A hA _).mono ?_
      rintro e w' ⟨rfl, rfl⟩
      go_wp2_with fail
      refine (rot_22 A hA _).mono ?_
      rintro e w' ⟨rfl, rfl⟩
      go_wp2_with fail
      go_still_tail 2, (by kernel_rfl)
      change wpList _ _ _ _ _ w6.drew
      have hVd : Blk w6.drew vg (cWs [A, B, C, D, E, F, G, H]) 121 := hVr
      refine wpl_ex (ex_copy (.tmp 85) (.tmp 86) (cs := cWs [A, B, C, D, E, F, G]) hVd rfl rfl rfl Try.underlying148 Try.sz119 (by rfl) (fun j u hu => by rw [Addr.add_mid, Nat.zero_add, hVd.cell]; exact src7 A B C D E F G H j u hu) (by simp) (cWs_one _)) rfl ?_
      rintro _ w7 ⟨rfl, hV7, hx7, hs7⟩
      replace hV7 : Blk w7 vg (cWs [A, A, B, C, D, E, F, G]) 121 := hV7
      have c4 : w7.cell? ⟨vg, 4, none⟩ = some (.int .u32 (D : Int)) := hV7.cell 4
      go_wp2_with (with_reducible refine stop_store ?_)
      refine wpl_sk (ex_store1 119 (.tmp 92) (.tmp 91) (v := cW r4) hV7 (j := 4) (by simp) rfl (congrArg (Value.int .u32) e19) rfl Try.sz119 rfl) rfl ?_
      rintro w8 ⟨hV8, hx8, hs8⟩
      clear c4
      go_wp2_with (with_reducible refine stop_store ?_)
      refine wpl_sk (ex_store1 119 (.tmp 96) (.tmp 95) (v := cW r0) hV8 (j := 0) (by simp) rfl (congrArg (Value.int .u32) e20) rfl Try.sz119 rfl) rfl ?_
      rintro w9 ⟨hV9, hx9, hs9⟩
      have hX : Chg (· = vg) w6.drew w9 := (hx7.trans hx8).trans hx9
      have hH9 : Blk w9 hg (cWs s.list) 121 := Blk.keep (w := w6.drew) hHr hX (by omega)
      have hK9 : Blk w9 kg (cWs ks) 123 := Blk.keep (w := w6.drew) hKr hX (by omega)
      have hW9 : Blk w9 wg (cWs (words b 64)) 123 := Blk.keep (w := w6.drew) hWr hX (by omega)
      have hC9 : Chg (· = hg) w w9 := Chg.then (hCr.trans (Ext.drew w6).any) hX (fun i hi h => by omega)
      clear hX hx7 hx8 hx9 hs7 hs8 hs9 hV7 hV8 hVr hVd hHr hKr hWr hCr
      clear e1 e2 e3 e4 e5 e6 e7 e8 e9 e10 e11 e12 e13 e14 e15 e16 e17 e18 e19 e20
      go_wp2
      go_roundw
      case rel =>
        refine ⟨k + 1, by omega, by go_num, hH9, hK9, hW9, ?_, hC9⟩
        rw [HS.out, HK2.out, HW2.out]
        have hst : Go.Bz.Sha.step ⟨A, B, C, D, E, F, G, H⟩ kk ww = ⟨r0, A, B, C, r4, E, F, G⟩ := by
          unfold Go.Bz.Sha.step
          rw [← HT.out, ← HU.out, HR4.out, HR0.out]
        rw [hst]; exact hV9
      case measure => simp [intOf]; omega
    · obtain rfl : k = 64 := by omega
      rw [show (((64 : Nat) : Int)) = 64 from rfl]
      clear hstep hk hlt
      have HCc : Hid (comp s b = add s (rounds (words b 64) s 64)) := rfl
      clear HB hr h5 hH5 hK5 hW5 hC5 hKr hWr hH hK
      generalize rounds (words b 64) s 64 = t at *
      go_wp2
      go_loopw [98] (fun i wr => ∃ k : Nat, k ≤ 8 ∧ i = .int .i64 k ∧ Blk wr hg (cWs ((add s t).list.take k ++ s.list.drop k)) 121 ∧ Blk wr vg (cWs t.list) 121 ∧ Chg (· = hg) w wr) (fun i _ => 8 - (intOf i).toNat)
      case atStart => exact ⟨0, by omega, rfl, hHr, hVr, hCr⟩
      case round =>
        clear hHr hVr hCr
        obtain ⟨k, hk, rfl, hHr, hVr, hCr⟩ := hrel
        by_cases hlt : k < 8
        · obtain ⟨x, hx, lx⟩ : ∃ y : Nat, s.list.getD k 0 = y ∧ y < 4294967296 := ⟨_, rfl, list_lt hs k⟩
          obtain ⟨y, hy, ly⟩ : ∃ y : Nat, t.list.getD k 0 = y ∧ y < 4294967296 := ⟨_, rfl, list_lt hok k⟩
          have ch : wr.cell? ⟨hg, k, none⟩ = some (.int .u32 (x : Int)) := by rw [hHr.cell k, ← hx]; exact mix_cell s t k hlt
          have cv : wr.cell? ⟨vg, k, none⟩ = some (.int .u32 (y : Int)) := by rw [hVr.cell k, ← hy]; exact list_cell t k hlt
          obtain ⟨z, e1, d1, l1⟩ := name_nat (mod_nat x y) (mod_lt' _)
          have HZ : Hid (z = ((add s t).list.getD k 0)) := by show z = _; rw [d1, ← hx, ← hy]; exact (add_getD s t k hlt).symm
          clear hx hy d1
          have q0 : (0 : Int) ≤ (k : Int) := by omega
          have q1 : (k : Int) < 8 := by omega
          have q2 : (k : Int).toNat = k := by omega
          go_wp2_with fail
          go_still_tail 11, (by kernel_rfl)
          change wpList _ _ _ _ _ wr.drew
          have hHd : Blk wr.drew hg (cWs ((add s t).list.take k ++ s.list.drop k)) 121 := hHr
          refine wpl_sk (ex_store1 119 (.tmp 111) (.tmp 109) (v := cW z) hHd (j := k) (by rw [cWs_length, mix_len]; exact hlt) rfl (congrArg (Value.int .u32) e1) rfl Try.sz119 rfl) rfl ?_
          rintro w8 ⟨hH8, hx8, hs8⟩
          rw [HZ.out, mix_set s t k hlt] at hH8
          have hV8 : Blk w8 vg (cWs t.list) 121 := Blk.keep (w := wr.drew) hVr hx8 (fun h => hvh h.symm)
          have hC8 : Chg (· = hg) w w8 := (hCr.trans (Ext.drew wr).any).trans hx8
          clear hx8 hs8 hHd hHr hVr hCr ch cv e1
          go_wp2
          go_roundw
          case rel => exact ⟨k + 1, by omega, by go_num, hH8, hV8, hC8⟩
          case measure => simp [intOf]; omega
        · obtain rfl : k = 8 := by omega
          rw [show (((8 : Nat) : Int)) = 8 from rfl]
          go_wp2
          go_end0
          refine ⟨rfl, ?_, hCr⟩
          rw [HCc.out]; exact hHr
end Go.Proofs.Ytokddhidcjkadaa
