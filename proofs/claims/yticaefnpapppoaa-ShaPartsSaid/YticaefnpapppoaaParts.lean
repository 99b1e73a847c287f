/- Chapter 2's example, and the walk of ShaParts. -/
import Derived.Test.YticaefnpapppoaaSlice
namespace Go.Proofs.Yticaefnpapppoaa
open Go.RowKit Go.Bz Go.Bz.Sha

theorem abc0 : (sum [97, 98, 99])[0]? = some 186 := by decide +kernel
theorem abc1 : (sum [97, 98, 99])[1]? = some 120 := by decide +kernel
theorem abc2 : (sum [97, 98, 99])[2]? = some 22 := by decide +kernel
theorem abc3 : (sum [97, 98, 99])[3]? = some 191 := by decide +kernel
theorem abc31 : (sum [97, 98, 99])[31]? = some 173 := by decide +kernel
theorem cell_of {w : World} {g j : Nat} {l : List UInt8} {T : TypeId} {u : UInt8} (h : Blk w g (cBs l) T) (hu : l[j]? = some u) : w.cell? ⟨g, j, none⟩ = some (cB u) := by
  rw [h.cell]; simp [cBs, hu]

set_option maxRecDepth 100000 in
set_option maxHeartbeats 4000000 in
theorem awake02_calls (w : World) :
    Calls Try.prog 19 #[] w fun e w' => e = .returned (.bool true) ∧ Ext w w' := by
  go_enter Try.func19, Try.ntmps19
  go_wp2_with (first | (with_reducible refine stop_convert ?_))
  refine wpl_ex (ex_mark (.tmp 2) rfl rfl) rfl ?_
  rintro _ _ ⟨rfl, rfl⟩
  go_wp2_with fail
  have hl := rdB_lit_fr (w := w) (e := 5) (cs := #[.int .u8 97, .int .u8 98, .int .u8 99]) (fr := (3, 4)) (l := [97, 98, 99]) rfl (by simp)
  have hx_w1 := Ext.alloc w (.cells #[.int .u8 97, .int .u8 98, .int .u8 99] 5 (3, 4))
  generalize w.alloc (.cells #[.int .u8 97, .int .u8 98, .int .u8 99] 5 (3, 4)) = w1 at hl hx_w1 ⊢
  refine (of_calls [97, 98, 99] (by decide) _ _ hl).mono ?_
  rintro e w2 ⟨rfl, hx_w2⟩
  clear hl
  go_wp2_with (first | (with_reducible refine stop_alloc ?_) | (with_reducible refine stop_store ?_))
  refine wpl_ex (ex_alloc 26 Try.arrS rfl) rfl ?_
  rintro _ w3 ⟨rfl, h3, hx_w3, hs_w3⟩
  obtain ⟨ag, hg_ag⟩ : ∃ g, w2.heap.size = g := ⟨_, rfl⟩
  rw [hg_ag] at h3 hs_w3 ⊢
  replace h3 : Blk w3 ag (cBs (List.replicate 32 0)) 26 := h3
  go_wp2_with (first | (with_reducible refine stop_alloc ?_) | (with_reducible refine stop_store ?_))
  refine wpl_sk (ex_store 26 (.tmp 1) (.tmp 4) (cs := cBs (sum [97, 98, 99])) h3 rfl rfl rfl (Try.szS.trans (by simp)) (by simp) (cBs_one _)) rfl ?_
  rintro w4 ⟨h4, hx_w4, hs_w4⟩
  have hC3 := (hx_w1.trans hx_w2).trans hx_w3
  have hC : Ext w w4 := Chg.then hC3 hx_w4 (fun i hi h => by have := hx_w1.size; have := hx_w2.size; omega)
  have c0 := cell_of h4 abc0
  have c1 := cell_of h4 abc1
  have c2 := cell_of h4 abc2
  have c3 := cell_of h4 abc3
  have c31 := cell_of h4 abc31
  simp only [cB] at c0 c1 c2 c3 c31
  clear hC3 hx_w1 hx_w2 hx_w3 hx_w4 h3 h4 hs_w3 hs_w4 hg_ag
  go_wp2
  go_ret
  exact ⟨rfl, hC⟩

theorem lit5 {t : UInt8} {tn : Int} {k : Nat} (h : cB t = .int .u8 tn) (hk : k ≤ 200) : (#[.int .u8 tn, .int .u8 0, .int .u8 0, .int .u8 0, .int .u8 (k : Int)] : Array Value).toList = cBs (t :: [0, 0, 0, UInt8.ofNat k]) := by
  rw [← h]; simp [cBs, cB]; omega
theorem lit4 {m k : Nat} (hk : k ≤ m) (hm : m ≤ 200) : (#[.int .u8 0, .int .u8 0, .int .u8 0, .int .u8 ((m : Int) - k)] : Array Value).toList = cBs [0, 0, 0, UInt8.ofNat (m - k)] := by
  simp [cBs, cB]; omega
theorem be4_small {n : Nat} (h : n ≤ 200) : be4 n = [0, 0, 0, UInt8.ofNat n] := by
  unfold be4
  rw [show n / 16777216 = 0 by omega, show n / 65536 = 0 by omega, show n / 256 = 0 by omega]
  rfl
theorem parts_eq (t : UInt8) (c : List UInt8) (k m : Nat) (hm : c.length = m) (hk : k ≤ m) (h2 : m ≤ 200) : (t :: [0, 0, 0, UInt8.ofNat k]) ++ c.take k ++ [0, 0, 0, UInt8.ofNat (m - k)] ++ c.drop k = t :: flat [c.take k, c.drop k] := by
  have e1 : (c.take k).length = k := by simp; omega
  have e2 : (c.drop k).length = m - k := by simp; omega
  simp [flat, e1, e2, be4_small (show k ≤ 200 by omega), be4_small (show m - k ≤ 200 by omega)]

set_option maxRecDepth 100000 in
set_option maxHeartbeats 4000000 in
theorem shaParts_walk (t : UInt8) {a1 : Option Addr} {len1 cap1 : Nat} (b : List UInt8) (hl : b.length = len1) {w : World} (hr : RdB w (.slice a1 len1 cap1) b) (n : Int) (hn : -9223372036854775808 ≤ n ∧ n ≤ 9223372036854775807) :
    Calls Try.prog 4 #[cB t, .slice a1 len1 cap1, .int .i64 n] w fun e w' => e = .returned (.bool true) ∧ Below w.heap.size w w' := by
  obtain ⟨tn, hV⟩ : ∃ tn : Int, cB t = .int .u8 tn := ⟨_, rfl⟩
  rw [hV]
  have HV := Lib.hid hV
  clear hV hl
  go_enter Try.func4, Try.ntmps4
  go_wp2_with fail
  refine (cut02_calls b _ w hr).mono ?_
  rintro e _ ⟨⟨v1, rfl, hr1, ho1⟩, rfl⟩
  obtain ⟨c, hc⟩ : ∃ c, b.take 200 = c := ⟨_, rfl⟩
  have hcl : c.length ≤ 200 := by rw [← hc]; simp; omega
  rw [hc] at hr1
  obtain ⟨ao, m, cap, rfl, hm, hmc⟩ := hr1.form2
  have HM := Lib.hid hm
  rw [hm] at hcl
  clear hm hc hr ho1
  by_cases hbad : n < 0 ∨ (m : Int) < n
  · have hd : n < 0 ∨ (0 ≤ n ∧ (m : Int) < n) := by omega
    clear hbad
    rcases hd with hd | ⟨hd1, hd2⟩
    all_goals
      go_wp2_with fail
      refine (awake02_calls _).mono ?_
      rintro e w2 ⟨rfl, hx2⟩
      go_wp2
      go_ret
      exact ⟨rfl, Ext.below hx2⟩
  obtain ⟨k, rfl⟩ : ∃ k : Nat, n = k := ⟨n.toNat, by omega⟩
  have hk : k ≤ m := by omega
  have hki : (k : Int) ≤ m := by omega
  have hkj : ¬ (m : Int) < k := by omega
  clear hbad hn
  obtain ⟨g0, hs_w⟩ : ∃ g, w.heap.size = g := ⟨_, rfl⟩
  have hlt_hr1 := Rd.lt hr1
  go_wp2_with (with_reducible refine stop_slice ?_)
  obtain ⟨A_h1, hA_h1⟩ : ∃ A : Array Value, #[.int .u8 tn, .int .u8 0, .int .u8 0, .int .u8 0, .int .u8 (k : Int)] = A := ⟨_, rfl⟩
  rw [hA_h1]
  have h1 := ownB_lit (w := w) (cs := A_h1) (l := t :: [0, 0, 0, UInt8.ofNat k]) (by rw [← hA_h1]; exact lit5 HV.out (by omega)) (by simp)
  rw [hs_w] at h1
  have hx_w1 := Ext.alloc w (.cells A_h1 5)
  have hs_w1 := World.size_alloc w (.cells A_h1 5)
  rw [hs_w] at hs_w1
  generalize w.alloc (.cells A_h1 5) = w1 at h1 hx_w1 hs_w1 ⊢
  clear hA_h1 A_h1
  have hC : Ext w w1 := hx_w1
  replace hr1 := Rd.ext hr1 hx_w1
  have hv : ∀ j, (Value.slice (some ⟨g0, 0, none⟩) 5 5).ownBlock = some j → w.heap.size ≤ j := fun j hj => by simp [Value.ownBlock] at hj; omega
  clear hx_w1 hs_w1
  refine wpl_ex (ex_slB (.tmp 24) none (some (.tmp 25)) hr1 0 k rfl (.inl ⟨rfl, rfl⟩) (.inr ⟨.i64, rfl⟩) rfl (by omega) (by have := HM.out; omega)) rfl ?_
  rintro v2 _ ⟨hr2, ho2, rfl⟩
  simp only [Nat.sub_zero, List.drop_zero] at hr2
  clear ho2
  go_wp2_with (with_reducible refine stop_append ?_)
  refine wpl_ex (ex_apB (xs := t :: [0, 0, 0, UInt8.ofNat k]) (news := c.take k) (.tmp 23) (.tmp 26) (h1) (hr2) (by simp; omega) rfl rfl rfl) rfl ?_
  rintro v3 w2 ⟨h2, hg⟩
  obtain ⟨_, hv'⟩ := hg.next (B := w.heap.size) (Below.refl _ _) (by have := hC.size; omega) hv
  replace hC : Ext w w2 := Chg.then hC hg.chg (fun i hi h => by have := hv _ h; omega)
  replace hr1 := Rd.keep hr1 hg.chg (fun b hb h0 h => by have := hlt_hr1 h0 b hb; have := hv b h; omega)
  replace hv := hv'
  clear hg hv'
  clear hr2 h1
  obtain ⟨g2, hs_w2⟩ : ∃ g, w2.heap.size = g := ⟨_, rfl⟩
  go_wp2_with (with_reducible refine stop_append ?_)
  obtain ⟨A_h3, hA_h3⟩ : ∃ A : Array Value, #[.int .u8 0, .int .u8 0, .int .u8 0, .int .u8 ((m : Int) - k)] = A := ⟨_, rfl⟩
  rw [hA_h3]
  have h3 := rdB_lit (w := w2) (e := 5) (cs := A_h3) (l := [0, 0, 0, UInt8.ofNat (m - k)]) (by rw [← hA_h3]; exact lit4 (by omega) (by omega)) (by simp)
  rw [hs_w2] at h3
  have hx_w3 := Ext.alloc w2 (.cells A_h3 5)
  have hs_w3 := World.size_alloc w2 (.cells A_h3 5)
  rw [hs_w2] at hs_w3
  generalize w2.alloc (.cells A_h3 5) = w3 at h3 hx_w3 hs_w3 ⊢
  clear hA_h3 A_h3
  replace hr1 := Rd.ext hr1 hx_w3
  replace hC := hC.trans hx_w3
  refine wpl_ex (ex_apB (xs := (t :: [0, 0, 0, UInt8.ofNat k]) ++ c.take k) (news := [0, 0, 0, UInt8.ofNat (m - k)]) (.tmp 28) (.tmp 34) (Own.ext h2 hx_w3) (h3) (by simp; omega) rfl rfl rfl) rfl ?_
  rintro v4 w4 ⟨h4, hg⟩
  obtain ⟨_, hv'⟩ := hg.next (B := w.heap.size) (Below.refl _ _) (by have := hC.size; omega) hv
  replace hC : Ext w w4 := Chg.then hC hg.chg (fun i hi h => by have := hv _ h; omega)
  replace hr1 := Rd.keep hr1 hg.chg (fun b hb h0 h => by have := hlt_hr1 h0 b hb; have := hv b h; omega)
  replace hv := hv'
  clear hg hv'
  clear h2 h3 hx_w3 hs_w3 hs_w2
  go_wp2_with (with_reducible refine stop_slice ?_)
  refine wpl_ex (ex_slB (.tmp 37) (some (.tmp 38)) none hr1 k m rfl (.inr ⟨.i64, rfl⟩) (.inl ⟨rfl, HM.out.symm⟩) rfl (by omega) (by have := HM.out; omega)) rfl ?_
  rintro v5 _ ⟨hr5, ho5, rfl⟩
  rw [List.take_of_length_le (by have := HM.out; simp; omega)] at hr5
  clear ho5
  go_wp2_with (with_reducible refine stop_append ?_)
  refine wpl_ex (ex_apB (xs := (t :: [0, 0, 0, UInt8.ofNat k]) ++ c.take k ++ [0, 0, 0, UInt8.ofNat (m - k)]) (news := c.drop k) (.tmp 36) (.tmp 39) (h4) (hr5) (by have := HM.out; simp; omega) rfl rfl rfl) rfl ?_
  rintro v6 w5 ⟨h5, hg⟩
  obtain ⟨_, hv'⟩ := hg.next (B := w.heap.size) (Below.refl _ _) (by have := hC.size; omega) hv
  replace hC : Ext w w5 := Chg.then hC hg.chg (fun i hi h => by have := hv _ h; omega)
  replace hr1 := Rd.keep hr1 hg.chg (fun b hb h0 h => by have := hlt_hr1 h0 b hb; have := hv b h; omega)
  replace hv := hv'
  clear hg hv'
  clear hr5 h4
  obtain ⟨all, hall⟩ : ∃ all, (t :: [0, 0, 0, UInt8.ofNat k]) ++ c.take k ++ [0, 0, 0, UInt8.ofNat (m - k)] ++ c.drop k = all := ⟨_, rfl⟩
  rw [hall] at h5
  have HA : Hid (all = t :: flat [c.take k, c.drop k]) := by
    have e := parts_eq t c k m HM.out hk hcl
    show all = _
    rw [← hall, e]
  have HAl : Hid (all.length ≤ 1000) := by show all.length ≤ 1000; rw [← hall]; have := HM.out; simp; omega
  clear hall
  obtain ⟨p1, q1, hs1⟩ : ∃ p q, slV ao cap 1 0 k = .slice p k q := ⟨_, _, by unfold slV; rw [Nat.sub_zero]⟩
  obtain ⟨p2, q2, hs2⟩ : ∃ p q, slV ao cap 1 k m = .slice p (m - k) q := ⟨_, _, rfl⟩
  have HS1 := Lib.hid hs1
  have HS2 := Lib.hid hs2
  clear hs1 hs2 hs_w hlt_hr1 hv
  go_wp2_with fail
  refine wp_region_noPanic ?_
  refine wp_region_held_drew (S := fun w => RdB w (.slice ao m cap) c ∧ RdB w v6 all) (by kernel_rfl) ?_ (fun hS => ?_)
  · exact ⟨Rd.ext hr1 (Ext.drew _), Rd.ext (OwnB.rd h5) (Ext.drew _)⟩
  replace hC := hC.trans (Ext.drew _)
  clear hr1 h5
  generalize w5.drew = w10 at hS hC ⊢
  try simp only [List.size_toArray, List.length_cons, List.length_nil, Nat.reduceAdd, ← List.toArray_replicate, List.reduceReplicate]
  refine wpAnyH_take (i := 0) (oi := _) (v := ?_) rfl (by kernel_rfl) (by kernel_rfl) (by kernel_rfl) (fun _ _ _ h => h) (Or.inl ⟨by rfl, ?_⟩) hS ?_
  rotate_left
  · (intro w hSw; (try dsimp only at hSw); go_simp <;> with_reducible rfl)
  try simp only [List.getElem_toArray, List.getElem_cons_succ, List.getElem_cons_zero, Act.put, List.setIfInBounds_toArray, List.set_cons_zero, List.set_cons_succ]
  refine wpAnyH_take (i := 1) (oi := _) (v := ?_) rfl (by kernel_rfl) (by kernel_rfl) (by kernel_rfl) (fun _ _ _ h => h) (Or.inl ⟨by rfl, ?_⟩) hS ?_
  rotate_left
  · (intro w hSw; (try dsimp only at hSw); go_simp <;> with_reducible rfl)
  try simp only [List.getElem_toArray, List.getElem_cons_succ, List.getElem_cons_zero, Act.put, List.setIfInBounds_toArray, List.set_cons_zero, List.set_cons_succ]
  refine wpAnyH_take (i := 2) (oi := _) (v := ?_) rfl (by kernel_rfl) (by kernel_rfl) (by kernel_rfl) (fun _ _ _ h => h) (Or.inl ⟨by rfl, ?_⟩) hS ?_
  rotate_left
  · (intro w hSw; (try dsimp only at hSw); go_simp <;> with_reducible rfl)
  try simp only [List.getElem_toArray, List.getElem_cons_succ, List.getElem_cons_zero, Act.put, List.setIfInBounds_toArray, List.set_cons_zero, List.set_cons_succ]
  refine wpAnyH_take (i := 3) (oi := _) (v := .slice p1 k q1) rfl (by kernel_rfl) (by kernel_rfl) (by kernel_rfl) (fun _ _ _ h => h) (Or.inl ⟨by rfl, ?_⟩) hS ?_
  · intro w hSw; exact slT' HS1.out (.tmp 42) none (some (.tmp 43)) rfl (.inl ⟨rfl, rfl⟩) (.inr ⟨.i64, rfl⟩) rfl (Nat.zero_le _) hk hmc
  try simp only [List.getElem_toArray, List.getElem_cons_succ, List.getElem_cons_zero, Act.put, List.setIfInBounds_toArray, List.set_cons_zero, List.set_cons_succ]
  refine wpAnyH_take (i := 4) (oi := _) (v := ?_) rfl (by kernel_rfl) (by kernel_rfl) (by kernel_rfl) (fun _ _ _ h => h) (Or.inl ⟨by rfl, ?_⟩) hS ?_
  rotate_left
  · (intro w hSw; (try dsimp only at hSw); go_simp <;> with_reducible rfl)
  try simp only [List.getElem_toArray, List.getElem_cons_succ, List.getElem_cons_zero, Act.put, List.setIfInBounds_toArray, List.set_cons_zero, List.set_cons_succ]
  refine wpAnyH_take (i := 5) (oi := _) (v := ?_) rfl (by kernel_rfl) (by kernel_rfl) (by kernel_rfl) (fun _ _ _ h => h) (Or.inl ⟨by rfl, ?_⟩) hS ?_
  rotate_left
  · (intro w hSw; (try dsimp only at hSw); go_simp <;> with_reducible rfl)
  try simp only [List.getElem_toArray, List.getElem_cons_succ, List.getElem_cons_zero, Act.put, List.setIfInBounds_toArray, List.set_cons_zero, List.set_cons_succ]
  refine wpAnyH_take (i := 6) (oi := _) (v := .slice p2 (m - k) q2) rfl (by kernel_rfl) (by kernel_rfl) (by kernel_rfl) (fun _ _ _ h => h) (Or.inl ⟨by rfl, ?_⟩) hS ?_
  · intro w hSw; exact slT' HS2.out (.tmp 45) (some (.tmp 46)) none rfl (.inr ⟨.i64, rfl⟩) (.inl ⟨rfl, rfl⟩) rfl hk (Nat.le_refl _) hmc
  try simp only [List.getElem_toArray, List.getElem_cons_succ, List.getElem_cons_zero, Act.put, List.setIfInBounds_toArray, List.set_cons_zero, List.set_cons_succ]
  refine wpAnyH_take (i := 9) (oi := _) (v := ?_) rfl (by kernel_rfl) (by kernel_rfl) (by kernel_rfl) (fun _ _ _ h => h) (Or.inl ⟨by rfl, ?_⟩) hS ?_
  rotate_left
  · (intro w hSw; (try dsimp only at hSw); go_simp <;> with_reducible rfl)
  try simp only [List.getElem_toArray, List.getElem_cons_succ, List.getElem_cons_zero, Act.put, List.setIfInBounds_toArray, List.set_cons_zero, List.set_cons_succ]
  refine wpAnyH_ready (rs := [7]) (by kernel_rfl) (by simp) ?_
  refine AllReadyH.cons (o := _) rfl (fun K hK => ?_) (AllReadyH.nil)
  rw [if_pos (by rfl)]
  try simp only [List.getElem_toArray, List.getElem_cons_succ, List.getElem_cons_zero, Act.put, List.setIfInBounds_toArray, List.set_cons_zero, List.set_cons_succ]
  go_simp
  have r1 : RdB w10 (.slice p1 k q1) (c.take k) := by have h := rdB_slV hS.1 HM.out hmc 0 k (Nat.zero_le _) hk; rw [HS1.out] at h; simpa using h
  have r2 : RdB w10 (.slice p2 (m - k) q2) (c.drop k) := by have h := rdB_slV hS.1 HM.out hmc k m hk (Nat.le_refl _); rw [HS2.out] at h; rw [List.take_of_length_le (by have := HM.out; simp; omega)] at h; exact h
  have hp := rdP_lit (w := w10) (e := 22) (cs := #[.slice p1 k q1, .slice p2 (m - k) q2]) (ls := [c.take k, c.drop k]) rfl (.cons r1 (.cons r2 .nil)) (by simp)
  have hx11 := Ext.alloc w10 (.cells #[.slice p1 k q1, .slice p2 (m - k) q2] 22)
  generalize w10.alloc (.cells #[.slice p1 k q1, .slice p2 (m - k) q2] 22) = w11 at hp hx11 ⊢
  replace hC := hC.trans hx11
  refine hK.out _ _ ⟨Rd.ext hS.1 hx11, Rd.ext hS.2 hx11⟩ (fun hS => ?_)
  clear hK K hx11 r1 r2
  try simp only [List.getElem_toArray, List.getElem_cons_succ, List.getElem_cons_zero, Act.put, List.setIfInBounds_toArray, List.set_cons_zero, List.set_cons_succ]
  refine wpAnyH_ready (rs := [8]) (by kernel_rfl) (by simp) ?_
  refine AllReadyH.cons (o := _) rfl (fun K hK => ?_) (AllReadyH.nil)
  rw [if_pos (by rfl)]
  try simp only [List.getElem_toArray, List.getElem_cons_succ, List.getElem_cons_zero, Act.put, List.setIfInBounds_toArray, List.set_cons_zero, List.set_cons_succ]
  go_simp
  have hJ := join_calls t [c.take k, c.drop k] (by have := HM.out; simp [flat]; omega) _ _ hp
  rw [HV.out] at hJ
  with_reducible_and_instances refine Calls.mono hJ ?_
  clear hJ hp
  rintro e w12 ⟨rfl, hx12⟩
  replace hC := hC.trans hx12
  refine hK.out _ _ ⟨Rd.ext hS.1 hx12, Rd.ext hS.2 hx12⟩ (fun hS => ?_)
  clear hK K hx12
  try simp only [List.getElem_toArray, List.getElem_cons_succ, List.getElem_cons_zero, Act.put, List.setIfInBounds_toArray, List.set_cons_zero, List.set_cons_succ]
  refine wpAnyH_ready (rs := [10]) (by kernel_rfl) (by simp) ?_
  refine AllReadyH.cons (o := _) rfl (fun K hK => ?_) (AllReadyH.nil)
  rw [if_pos (by rfl)]
  try simp only [List.getElem_toArray, List.getElem_cons_succ, List.getElem_cons_zero, Act.put, List.setIfInBounds_toArray, List.set_cons_zero, List.set_cons_succ]
  go_simp
  refine (of_calls all (by have := HAl.out; omega) _ _ hS.2).mono ?_
  rintro e w13 ⟨rfl, hx_w13⟩
  replace hC := hC.trans hx_w13
  refine hK.out _ _ ⟨Rd.ext hS.1 hx_w13, Rd.ext hS.2 hx_w13⟩ (fun hS => ?_)
  clear hK K hx_w13
  try simp only [List.getElem_toArray, List.getElem_cons_succ, List.getElem_cons_zero, Act.put, List.setIfInBounds_toArray, List.set_cons_zero, List.set_cons_succ]
  refine wpAnyH_take (i := 11) (oi := _) (v := .bool true) rfl (by kernel_rfl) (by kernel_rfl) (by kernel_rfl) (fun _ _ _ h => h) (Or.inl ⟨by rfl, ?_⟩) hS ?_
  · intro w hSw; exact eqT rfl rfl rfl (join_length _ _) (sum_length _) (by rw [HA.out]; simp [join])
  try simp only [List.getElem_toArray, List.getElem_cons_succ, List.getElem_cons_zero, Act.put, List.setIfInBounds_toArray, List.set_cons_zero, List.set_cons_succ]
  refine wpAnyH_take (i := 12) (oi := _) (v := ?_) rfl (by kernel_rfl) (by kernel_rfl) (by kernel_rfl) (fun _ _ _ h => h) (Or.inl ⟨by rfl, ?_⟩) hS ?_
  rotate_left
  · (intro w hSw; (try dsimp only at hSw); go_simp <;> with_reducible rfl)
  try simp only [List.getElem_toArray, List.getElem_cons_succ, List.getElem_cons_zero, Act.put, List.setIfInBounds_toArray, List.set_cons_zero, List.set_cons_succ]
  refine wpAnyH_take (i := 13) (oi := _) (v := ?_) rfl (by kernel_rfl) (by kernel_rfl) (by kernel_rfl) (fun _ _ _ h => h) (Or.inl ⟨by rfl, ?_⟩) hS ?_
  rotate_left
  · (intro w hSw; (try dsimp only at hSw); go_simp <;> with_reducible rfl)
  try simp only [List.getElem_toArray, List.getElem_cons_succ, List.getElem_cons_zero, Act.put, List.setIfInBounds_toArray, List.set_cons_zero, List.set_cons_succ]
  refine wpAnyH_take (i := 15) (oi := _) (v := ?_) rfl (by kernel_rfl) (by kernel_rfl) (by kernel_rfl) (fun _ _ _ h => h) (Or.inl ⟨by rfl, ?_⟩) hS ?_
  rotate_left
  · (intro w hSw; (try dsimp only at hSw); go_simp <;> with_reducible rfl)
  try simp only [List.getElem_toArray, List.getElem_cons_succ, List.getElem_cons_zero, Act.put, List.setIfInBounds_toArray, List.set_cons_zero, List.set_cons_succ]
  refine wpAnyH_ready (rs := [14, 16]) (by kernel_rfl) (by simp) ?_
  refine AllReadyH.cons (o := _) rfl (fun K hK => ?_) (AllReadyH.cons (o := _) rfl (fun K hK => ?_) (AllReadyH.nil))
  · rw [if_pos (by rfl)]
    try simp only [List.getElem_toArray, List.getElem_cons_succ, List.getElem_cons_zero, Act.put, List.setIfInBounds_toArray, List.set_cons_zero, List.set_cons_succ]
    go_simp
    have hp := nil_at hS.1
    have hJ := join_calls t [] (by simp [flat]) _ _ hp
    rw [HV.out] at hJ
    with_reducible_and_instances refine Calls.mono hJ ?_
    clear hJ hp
    rintro e w14 ⟨rfl, hx14⟩
    replace hC := hC.trans hx14
    try replace hl1 := Rd.ext hl1 hx14
    refine hK.out _ _ ⟨Rd.ext hS.1 hx14, Rd.ext hS.2 hx14⟩ (fun hS => ?_)
    clear hK K hx14
    try simp only [List.getElem_toArray, List.getElem_cons_succ, List.getElem_cons_zero, Act.put, List.setIfInBounds_toArray, List.set_cons_zero, List.set_cons_succ]
    refine wpAnyH_ready (rs := [16]) (by kernel_rfl) (by simp) ?_
    refine AllReadyH.cons (o := _) rfl (fun K hK => ?_) (AllReadyH.nil)
    rw [if_pos (by rfl)]
    try simp only [List.getElem_toArray, List.getElem_cons_succ, List.getElem_cons_zero, Act.put, List.setIfInBounds_toArray, List.set_cons_zero, List.set_cons_succ]
    go_simp
    obtain ⟨hl1, hx15⟩ := lit_at hS.1 (e := 5) (cs := #[.int .u8 tn]) (l := [t]) (by rw [← HV.out]; rfl) (by simp)
    generalize World.alloc _ (.cells #[.int .u8 tn] 5) = w15 at hl1 hx15 ⊢
    replace hC := hC.trans hx15
    refine hK.out _ _ ⟨Rd.ext hS.1 hx15, Rd.ext hS.2 hx15⟩ (fun hS => ?_)
    clear hK K hx15
    try simp only [List.getElem_toArray, List.getElem_cons_succ, List.getElem_cons_zero, Act.put, List.setIfInBounds_toArray, List.set_cons_zero, List.set_cons_succ]
    refine wpAnyH_ready (rs := [17]) (by kernel_rfl) (by simp) ?_
    refine AllReadyH.cons (o := _) rfl (fun K hK => ?_) (AllReadyH.nil)
    rw [if_pos (by rfl)]
    try simp only [List.getElem_toArray, List.getElem_cons_succ, List.getElem_cons_zero, Act.put, List.setIfInBounds_toArray, List.set_cons_zero, List.set_cons_succ]
    go_simp
    refine (of_calls [t] (by simp) _ _ hl1).mono ?_
    rintro e w16 ⟨rfl, hx_w16⟩
    replace hC := hC.trans hx_w16
    refine hK.out _ _ ⟨Rd.ext hS.1 hx_w16, Rd.ext hS.2 hx_w16⟩ (fun hS => ?_)
    clear hK K hx_w16
    try simp only [List.getElem_toArray, List.getElem_cons_succ, List.getElem_cons_zero, Act.put, List.setIfInBounds_toArray, List.set_cons_zero, List.set_cons_succ]
    refine wpAnyH_take (i := 18) (oi := _) (v := .bool true) rfl (by kernel_rfl) (by kernel_rfl) (by kernel_rfl) (fun _ _ _ h => h) (Or.inl ⟨by rfl, ?_⟩) hS ?_
    · intro w hSw; exact eqT rfl rfl rfl (join_length _ _) (sum_length _) (by simp [join, flat])
    try simp only [List.getElem_toArray, List.getElem_cons_succ, List.getElem_cons_zero, Act.put, List.setIfInBounds_toArray, List.set_cons_zero, List.set_cons_succ]
    refine wpAnyH_take (i := 19) (oi := _) (v := ?_) rfl (by kernel_rfl) (by kernel_rfl) (by kernel_rfl) (fun _ _ _ h => h) (Or.inl ⟨by rfl, ?_⟩) hS ?_
    rotate_left
    · (intro w hSw; (try dsimp only at hSw); go_simp <;> with_reducible rfl)
    try simp only [List.getElem_toArray, List.getElem_cons_succ, List.getElem_cons_zero, Act.put, List.setIfInBounds_toArray, List.set_cons_zero, List.set_cons_succ]
    refine wpAnyH_take (i := 20) (oi := _) (v := ?_) rfl (by kernel_rfl) (by kernel_rfl) (by kernel_rfl) (fun _ _ _ h => h) (Or.inl ⟨by rfl, ?_⟩) hS ?_
    rotate_left
    · (intro w hSw; (try dsimp only at hSw); go_simp <;> with_reducible rfl)
    try simp only [List.getElem_toArray, List.getElem_cons_succ, List.getElem_cons_zero, Act.put, List.setIfInBounds_toArray, List.set_cons_zero, List.set_cons_succ]
    refine wpAnyH_ready (rs := [21]) (by kernel_rfl) (by simp) ?_
    refine AllReadyH.cons (o := _) rfl (fun K hK => ?_) (AllReadyH.nil)
    rw [if_pos (by rfl)]
    try simp only [List.getElem_toArray, List.getElem_cons_succ, List.getElem_cons_zero, Act.put, List.setIfInBounds_toArray, List.set_cons_zero, List.set_cons_succ]
    go_simp
    refine (awake02_calls _).mono ?_
    rintro e w17 ⟨rfl, hx_w17⟩
    replace hC := hC.trans hx_w17
    refine hK.out _ _ ⟨Rd.ext hS.1 hx_w17, Rd.ext hS.2 hx_w17⟩ (fun hS => ?_)
    clear hK K hx_w17
    try simp only [List.getElem_toArray, List.getElem_cons_succ, List.getElem_cons_zero, Act.put, List.setIfInBounds_toArray, List.set_cons_zero, List.set_cons_succ]
    refine wpAnyH_take (i := 22) (oi := _) (v := ?_) rfl (by kernel_rfl) (by kernel_rfl) (by kernel_rfl) (fun _ _ _ h => h) (Or.inl ⟨by rfl, ?_⟩) hS ?_
    rotate_left
    · (intro w hSw; (try dsimp only at hSw); go_simp <;> with_reducible rfl)
    try simp only [List.getElem_toArray, List.getElem_cons_succ, List.getElem_cons_zero, Act.put, List.setIfInBounds_toArray, List.set_cons_zero, List.set_cons_succ]
    refine wpAnyH_take (i := 23) (oi := _) (v := ?_) rfl (by kernel_rfl) (by kernel_rfl) (by kernel_rfl) (fun _ _ _ h => h) (Or.inl ⟨by rfl, ?_⟩) hS ?_
    rotate_left
    · (intro w hSw; (try dsimp only at hSw); go_simp <;> with_reducible rfl)
    try simp only [List.getElem_toArray, List.getElem_cons_succ, List.getElem_cons_zero, Act.put, List.setIfInBounds_toArray, List.set_cons_zero, List.set_cons_succ]
    refine wpAnyH_done (by kernel_rfl) ?_ _
    refine NoPanic.normal ?_
    go_wp2
    go_ret
    exact ⟨rfl, Ext.below hC⟩
  · rw [if_pos (by rfl)]
    try simp only [List.getElem_toArray, List.getElem_cons_succ, List.getElem_cons_zero, Act.put, List.setIfInBounds_toArray, List.set_cons_zero, List.set_cons_succ]
    go_simp
    obtain ⟨hl1, hx15⟩ := lit_at hS.1 (e := 5) (cs := #[.int .u8 tn]) (l := [t]) (by rw [← HV.out]; rfl) (by simp)
    generalize World.alloc _ (.cells #[.int .u8 tn] 5) = w15 at hl1 hx15 ⊢
    replace hC := hC.trans hx15
    refine hK.out _ _ ⟨Rd.ext hS.1 hx15, Rd.ext hS.2 hx15⟩ (fun hS => ?_)
    clear hK K hx15
    try simp only [List.getElem_toArray, List.getElem_cons_succ, List.getElem_cons_zero, Act.put, List.setIfInBounds_toArray, List.set_cons_zero, List.set_cons_succ]
    refine wpAnyH_ready (rs := [14]) (by kernel_rfl) (by simp) ?_
    refine AllReadyH.cons (o := _) rfl (fun K hK => ?_) (AllReadyH.nil)
    rw [if_pos (by rfl)]
    try simp only [List.getElem_toArray, List.getElem_cons_succ, List.getElem_cons_zero, Act.put, List.setIfInBounds_toArray, List.set_cons_zero, List.set_cons_succ]
    go_simp
    have hp := nil_at hS.1
    have hJ := join_calls t [] (by simp [flat]) _ _ hp
    rw [HV.out] at hJ
    with_reducible_and_instances refine Calls.mono hJ ?_
    clear hJ hp
    rintro e w14 ⟨rfl, hx14⟩
    replace hC := hC.trans hx14
    try replace hl1 := Rd.ext hl1 hx14
    refine hK.out _ _ ⟨Rd.ext hS.1 hx14, Rd.ext hS.2 hx14⟩ (fun hS => ?_)
    clear hK K hx14
    try simp only [List.getElem_toArray, List.getElem_cons_succ, List.getElem_cons_zero, Act.put, List.setIfInBounds_toArray, List.set_cons_zero, List.set_cons_succ]
    refine wpAnyH_ready (rs := [17]) (by kernel_rfl) (by simp) ?_
    refine AllReadyH.cons (o := _) rfl (fun K hK => ?_) (AllReadyH.nil)
    rw [if_pos (by rfl)]
    try simp only [List.getElem_toArray, List.getElem_cons_succ, List.getElem_cons_zero, Act.put, List.setIfInBounds_toArray, List.set_cons_zero, List.set_cons_succ]
    go_simp
    refine (of_calls [t] (by simp) _ _ hl1).mono ?_
    rintro e w16 ⟨rfl, hx_w16⟩
    replace hC := hC.trans hx_w16
    refine hK.out _ _ ⟨Rd.ext hS.1 hx_w16, Rd.ext hS.2 hx_w16⟩ (fun hS => ?_)
    clear hK K hx_w16
    try simp only [List.getElem_toArray, List.getElem_cons_succ, List.getElem_cons_zero, Act.put, List.setIfInBounds_toArray, List.set_cons_zero, List.set_cons_succ]
    refine wpAnyH_take (i := 18) (oi := _) (v := .bool true) rfl (by kernel_rfl) (by kernel_rfl) (by kernel_rfl) (fun _ _ _ h => h) (Or.inl ⟨by rfl, ?_⟩) hS ?_
    · intro w hSw; exact eqT rfl rfl rfl (join_length _ _) (sum_length _) (by simp [join, flat])
    try simp only [List.getElem_toArray, List.getElem_cons_succ, List.getElem_cons_zero, Act.put, List.setIfInBounds_toArray, List.set_cons_zero, List.set_cons_succ]
    refine wpAnyH_take (i := 19) (oi := _) (v := ?_) rfl (by kernel_rfl) (by kernel_rfl) (by kernel_rfl) (fun _ _ _ h => h) (Or.inl ⟨by rfl, ?_⟩) hS ?_
    rotate_left
    · (intro w hSw; (try dsimp only at hSw); go_simp <;> with_reducible rfl)
    try simp only [List.getElem_toArray, List.getElem_cons_succ, List.getElem_cons_zero, Act.put, List.setIfInBounds_toArray, List.set_cons_zero, List.set_cons_succ]
    refine wpAnyH_take (i := 20) (oi := _) (v := ?_) rfl (by kernel_rfl) (by kernel_rfl) (by kernel_rfl) (fun _ _ _ h => h) (Or.inl ⟨by rfl, ?_⟩) hS ?_
    rotate_left
    · (intro w hSw; (try dsimp only at hSw); go_simp <;> with_reducible rfl)
    try simp only [List.getElem_toArray, List.getElem_cons_succ, List.getElem_cons_zero, Act.put, List.setIfInBounds_toArray, List.set_cons_zero, List.set_cons_succ]
    refine wpAnyH_ready (rs := [21]) (by kernel_rfl) (by simp) ?_
    refine AllReadyH.cons (o := _) rfl (fun K hK => ?_) (AllReadyH.nil)
    rw [if_pos (by rfl)]
    try simp only [List.getElem_toArray, List.getElem_cons_succ, List.getElem_cons_zero, Act.put, List.setIfInBounds_toArray, List.set_cons_zero, List.set_cons_succ]
    go_simp
    refine (awake02_calls _).mono ?_
    rintro e w17 ⟨rfl, hx_w17⟩
    replace hC := hC.trans hx_w17
    refine hK.out _ _ ⟨Rd.ext hS.1 hx_w17, Rd.ext hS.2 hx_w17⟩ (fun hS => ?_)
    clear hK K hx_w17
    try simp only [List.getElem_toArray, List.getElem_cons_succ, List.getElem_cons_zero, Act.put, List.setIfInBounds_toArray, List.set_cons_zero, List.set_cons_succ]
    refine wpAnyH_take (i := 22) (oi := _) (v := ?_) rfl (by kernel_rfl) (by kernel_rfl) (by kernel_rfl) (fun _ _ _ h => h) (Or.inl ⟨by rfl, ?_⟩) hS ?_
    rotate_left
    · (intro w hSw; (try dsimp only at hSw); go_simp <;> with_reducible rfl)
    try simp only [List.getElem_toArray, List.getElem_cons_succ, List.getElem_cons_zero, Act.put, List.setIfInBounds_toArray, List.set_cons_zero, List.set_cons_succ]
    refine wpAnyH_take (i := 23) (oi := _) (v := ?_) rfl (by kernel_rfl) (by kernel_rfl) (by kernel_rfl) (fun _ _ _ h => h) (Or.inl ⟨by rfl, ?_⟩) hS ?_
    rotate_left
    · (intro w hSw; (try dsimp only at hSw); go_simp <;> with_reducible rfl)
    try simp only [List.getElem_toArray, List.getElem_cons_succ, List.getElem_cons_zero, Act.put, List.setIfInBounds_toArray, List.set_cons_zero, List.set_cons_succ]
    refine wpAnyH_done (by kernel_rfl) ?_ _
    refine NoPanic.normal ?_
    go_wp2
    go_ret
    exact ⟨rfl, Ext.below hC⟩

end Go.Proofs.Yticaefnpapppoaa
