/- Contracts: sha.Join, sha.Pair. -/
import Derived.Test.YtokddhidcjkadaaShaOf
import Derived.Test.YtokddhidcjkadaaBytes2
namespace Go.Proofs.Ytokddhidcjkadaa
open Go.RowKit Go.Bz Go.Bz.Sha

theorem there_ext {w w' : World} {g o n : Nat} (h : w.there g o n) (hx : Ext w w') : w'.there g o n := fun j hj => by
  obtain ⟨h1, h2⟩ := h j hj
  obtain ⟨u, hu⟩ := Option.isSome_iff_exists.1 h1
  have hb := World.block_lt_of_cell? w _ hu
  rw [hx.cell hu, World.frozen?_of_block (w := w) (hx.block _ hb id)]
  exact ⟨rfl, h2⟩
theorem be4_cells (n : Nat) {x0 x1 x2 x3 : Int} (h0 : x0 = ((n / 16777216 : Nat) : Int) % 256) (h1 : x1 = ((n / 65536 : Nat) : Int) % 256) (h2 : x2 = ((n / 256 : Nat) : Int) % 256) (h3 : x3 = (n : Int) % 256) :
    (#[Value.int .u8 x0, .int .u8 x1, .int .u8 x2, .int .u8 x3] : Array Value).toList = cBs (be4 n) := by
  subst h0 h1 h2 h3
  simp [be4, cBs, cB]

theorem flat_ge (l : List (List UInt8)) : 4 * l.length ≤ (flat l).length := by
  induction l with
  | nil => simp
  | cons q l ih => simp only [flat, List.length_append, be4_length, List.length_cons]; omega
set_option maxRecDepth 100000 in
set_option maxHeartbeats 4000000 in
theorem join_calls (tag : UInt8) (ls : List (List UInt8)) (hb : (flat ls).length ≤ 1099511627000) (v : Value) (w : World) (hr : RdP w v ls) :
    Calls Try.prog 45 #[cB tag, v] w fun e w' => e = .returned (.agg (cBs (join tag ls)).toArray) ∧ Ext w w' := by
  obtain ⟨vs, hv, hall⟩ := hr
  obtain ⟨t, ht⟩ : ∃ t : Nat, tag.toNat = t := ⟨_, rfl⟩
  have hcT : cB tag = .int .u8 (t : Int) := by rw [← ht]; rfl
  rw [hcT]
  have HT := Lib.hid hcT
  clear hcT ht
  have HV := Lib.hid hv
  obtain ⟨_, _, ao, cap, rfl, hcap, _⟩ := hv
  obtain ⟨n, hn⟩ : ∃ n, ls.length = n := ⟨_, rfl⟩
  rw [hn] at hcap HV ⊢
  have hnb : n ≤ 274877906944 := by have := flat_ge ls; omega
  have HN := Lib.hid hn
  clear hn
  go_enter Try.func45, Try.ntmps45
  go_wp2_with (first | (with_reducible refine stop_alloc ?_) | (with_reducible refine stop_buildSlice ?_))
  refine wpl_ex (ex_alloc 23 Try.arrS rfl) rfl ?_
  rintro _ w1 ⟨rfl, h1, hx1, hs1⟩
  obtain ⟨rg, hrg⟩ : ∃ g, w.heap.size = g := ⟨_, rfl⟩
  rw [hrg] at h1 hs1 ⊢
  go_wp2
  have hO : OwnB (w1.alloc (.cells #[Value.int .u8 (t : Int)] 5)) (.slice (some ⟨rg + 1, 0, none⟩) 1 1) (tag :: flat (ls.take 0)) := by
    have h := ownB_lit (w := w1) (cs := #[Value.int .u8 (t : Int)]) (l := [tag]) (by rw [← HT.out]; rfl) (by simp)
    rw [hs1] at h; exact h
  have hR : Blk (w1.alloc (.cells #[Value.int .u8 (t : Int)] 5)) rg (cBs (List.replicate 32 0)) 23 := h1.ext (Ext.alloc _ _)
  have hC : Ext w (w1.alloc (.cells #[Value.int .u8 (t : Int)] 5)) := hx1.trans (Ext.alloc _ _)
  have hO1 : ∀ k, (Value.slice (some ⟨rg + 1, 0, none⟩) 1 1).ownBlock = some k → w.heap.size + 1 ≤ k := fun k hk => by simp only [Value.ownBlock, Option.some.injEq] at hk; omega
  have HRG := Lib.hid hrg
  clear hrg hs1 hx1 h1
  go_loopw [5, 13] (fun x i wr => ∃ k : Nat, k ≤ n ∧ i = .int .i64 k ∧ OwnB wr x (tag :: flat (ls.take k)) ∧ (∀ k, x.ownBlock = some k → w.heap.size + 1 ≤ k) ∧ Blk wr rg (cBs (List.replicate 32 0)) 23 ∧ Ext w wr) (fun _ i _ => n - (intOf i).toNat)
  case atStart => exact ⟨0, Nat.zero_le _, rfl, hO, hO1, hR, hC⟩
  case round =>
    clear hO hR hC hO1
    obtain ⟨k, hk, rfl, ho, hv, hR, hC⟩ := hrel
    by_cases hlt : k < n
    · have hkl : k < ls.length := by rw [HN.out]; exact hlt
      obtain ⟨pv, hpv, hrp⟩ := hall.get k ls[k] (List.getElem?_eq_getElem hkl)
      obtain ⟨pb, off, cap', e, _, _, hpb, hcell⟩ := HV.out.cells (by have := HV.out.len; omega)
      injection e with e1 _ e3
      subst e1 e3
      have hck : wr.cell? ⟨pb, off + k, none⟩ = some pv := hC.cell (hcell k pv hpv)
      have hlt0 := Rd.lt hrp
      replace hrp := Rd.ext hrp hC
      obtain ⟨pa, m, pc, rfl, hm, _⟩ := RdB.form2 hrp
      have hfl := flat_take ls k hkl
      have hle := flat_le ls k
      have hle2 := flat_le ls (k + 1)
      have hm2 : m ≤ 1099511627000 := by rw [hfl] at hle2; simp at hle2; omega
      rw [hm] at hfl
      have HF := Lib.hid hfl
      have HM := Lib.hid hm
      have hq : (tag :: flat (ls.take k)).length ≤ 1099511627001 := by simp; omega
      clear hfl hm hcell hpv hle hle2
      go_wp2_with (with_reducible refine stop_append ?_)
      refine wpl_ex (ex_apB (xs := tag :: flat (ls.take k)) (news := be4 m) (.tmp 19) (.tmp 31) (ho.ext (Ext.alloc _ _)) (rdB_lit (be4_cells m (by omega) (by omega) (by omega) (by omega)) (by simp)) (by simp only [be4_length]; omega) rfl rfl rfl) rfl ?_
      rintro v2 w2 ⟨ho2, hg2⟩
      have hR2 : Blk w2 rg (cBs (List.replicate 32 0)) 23 := (hR.ext (Ext.alloc _ _)).keep hg2.chg (fun h => by have := hv _ h; have := HRG.out; omega)
      obtain ⟨hb2, hv2⟩ := hg2.next (B := w.heap.size + 1) (Below.refl _ _) (by have := hC.size; have := hR.lt; have := HRG.out; simp; omega) hv
      have hC2 : Ext w w2 := Chg.then (hC.trans (Ext.alloc _ _)) hg2.chg (fun i hi h => by have := hv _ h; omega)
      replace hrp := Rd.keep (Rd.ext hrp (Ext.alloc _ _)) hg2.chg (fun b hb h0 h => by have := hlt0 h0 b hb; have := hv b h; omega)
      clear hg2 ho hR hC hb2
      go_wp2_with (with_reducible refine stop_append ?_)
      refine wpl_ex (ex_apB (xs := tag :: flat (ls.take k) ++ be4 m) (news := ls[k]) (.tmp 33) (.tmp 34) ho2 hrp (by have := HM.out; rw [List.length_append, be4_length]; omega) rfl rfl rfl) rfl ?_
      rintro v3 w3 ⟨ho3, hg3⟩
      have hR3 : Blk w3 rg (cBs (List.replicate 32 0)) 23 := hR2.keep hg3.chg (fun h => by have := hv2 _ h; have := HRG.out; omega)
      obtain ⟨_, hv3⟩ := hg3.next (B := w.heap.size + 1) (Below.refl _ _) (by have := hC2.size; have := hR2.lt; have := HRG.out; omega) hv2
      have hC3 : Ext w w3 := Chg.then hC2 hg3.chg (fun i hi h => by have := hv2 _ h; omega)
      have ho3' : OwnB w3 v3 (tag :: flat (ls.take (k + 1))) := by
        have e : tag :: flat (ls.take k) ++ be4 m ++ ls[k] = tag :: flat (ls.take (k + 1)) := by rw [HF.out]; simp
        rw [← e]; exact ho3
      clear hg3 ho2 hR2 hC2 hv2 hv ho3 hrp hck
      go_wp2
      go_roundw
      case rel => exact ⟨k + 1, by omega, by go_num, ho3', hv3, hR3, hC3⟩
      case measure => simp [intOf]; omega
    · obtain rfl : k = n := by omega
      have ek : ls.take k = ls := List.take_of_length_le (by rw [HN.out]; exact Nat.le_refl _)
      rw [ek] at ho
      clear ek
      go_wp2_with fail
      refine (of_calls (tag :: flat ls) (by simp; omega) u5 _ ho.rd).mono ?_
      rintro e w2 ⟨rfl, hx2⟩
      have hR2 := hR.ext hx2
      have hC2 := hC.trans hx2
      clear hR hC hx2 ho hv
      go_wp2_with (with_reducible refine stop_store ?_)
      refine wpl_sk (ex_store 23 (.tmp 4) (.tmp 38) (cs := cBs (sum (tag :: flat ls))) hR2 rfl rfl rfl (Try.szS.trans (by simp)) (by simp) (cBs_one _)) rfl ?_
      rintro w3 ⟨h3, hx3, hs3⟩
      have hC3 : Ext w w3 := Chg.then hC2 hx3 (fun i hi h => by have := HRG.out; omega)
      clear hx3 hs3 hC2 hR2
      go_wp2
      exact bodyPost_ret (results_cell_row rfl _ _ rg 23 _ (0, 0) _ rfl h3 Try.underlying23 rfl (Try.szS.trans (by simp))) rfl ⟨rfl, hC3⟩

set_option maxRecDepth 100000 in
set_option maxHeartbeats 4000000 in
theorem pair_calls (tag : UInt8) (a b : List UInt8) (ha : a.length = 32) (hb : b.length = 32) (w : World) :
    Calls Try.prog 59 #[cB tag, .agg (cBs a).toArray, .agg (cBs b).toArray] w fun e w' => e = .returned (.agg (cBs (join tag [a, b])).toArray) ∧ Ext w w' := by
  have HA := Lib.hid ha
  have HB := Lib.hid hb
  clear ha hb
  go_enter Try.func59, Try.ntmps59
  go_wp2_with (first | (with_reducible refine stop_alloc ?_) | (with_reducible refine stop_box ?_))
  refine wpl_ex (ex_box 23 (.tmp 1) (v := .agg (cBs a).toArray) rfl rfl) rfl ?_
  rintro _ w1 ⟨rfl, h1, hx1, hs1⟩
  obtain ⟨ag, hag⟩ : ∃ g, w.heap.size = g := ⟨_, rfl⟩
  rw [hag] at h1 hs1 ⊢
  go_wp2_with (first | (with_reducible refine stop_alloc ?_) | (with_reducible refine stop_box ?_))
  refine wpl_ex (ex_box 23 (.tmp 2) (v := .agg (cBs b).toArray) rfl rfl) rfl ?_
  rintro _ w2 ⟨rfl, h2, hx2, hs2⟩
  obtain ⟨bg, hbg⟩ : ∃ g, w1.heap.size = g := ⟨_, rfl⟩
  rw [hbg] at h2 hs2 ⊢
  go_wp2_with (first | (with_reducible refine stop_alloc ?_) | (with_reducible refine stop_box ?_))
  refine wpl_ex (ex_alloc 23 Try.arrS rfl) rfl ?_
  rintro _ w3 ⟨rfl, h3, hx3, hs3⟩
  obtain ⟨rg, hrg⟩ : ∃ g, w2.heap.size = g := ⟨_, rfl⟩
  rw [hrg] at h3 hs3 ⊢
  have hA : Blk w3 ag (cBs a) 23 := by have h := (h1.ext hx2).ext hx3; simpa [Value.cells] using h
  have hB : Blk w3 bg (cBs b) 23 := by have h := h2.ext hx3; simpa [Value.cells] using h
  have hC : Ext w w3 := (hx1.trans hx2).trans hx3
  have hag' : w.heap.size ≤ rg := by omega
  clear h1 h2 hx1 hx2 hx3 hs1 hs2 hs3 hag hbg hrg
  go_wp2_with fail
  refine wp_region_noPanic ?_
  refine wp_region_held_drew (S := fun _ => True) (by kernel_rfl) ?_ (fun hS => ?_)
  · trivial
  have hd := Ext.drew w3
  generalize w3.drew = w4 at hd ⊢
  replace hA := hA.ext hd
  replace hB := hB.ext hd
  replace h3 : Blk w4 rg (cBs (List.replicate 32 0)) 23 := h3.ext hd
  replace hC := hC.trans hd
  clear hd
  refine wpAnyH_take (i := 0) (oi := _) (v := ?_) rfl (by kernel_rfl) (by kernel_rfl) (by kernel_rfl) (fun _ _ _ h => h) (Or.inl ⟨by rfl, ?_⟩) hS ?_
  rotate_left
  · (intro w hSw; (try dsimp only at hSw); go_simp <;> with_reducible rfl)
  try simp only [Act.put, List.setIfInBounds_toArray, List.set_cons_zero, List.set_cons_succ]
  refine wpAnyH_take (i := 1) (oi := _) (v := ?_) rfl (by kernel_rfl) (by kernel_rfl) (by kernel_rfl) (fun _ _ _ h => h) (Or.inl ⟨by rfl, ?_⟩) hS ?_
  rotate_left
  · (intro w hSw; (try dsimp only at hSw); go_simp <;> with_reducible rfl)
  try simp only [Act.put, List.setIfInBounds_toArray, List.set_cons_zero, List.set_cons_succ]
  refine wpAnyH_take (i := 2) (oi := _) (v := ?_) rfl (by kernel_rfl) (by kernel_rfl) (by kernel_rfl) (fun _ _ _ h => h) (Or.inl ⟨by rfl, ?_⟩) hS ?_
  rotate_left
  · (intro w hSw; (try dsimp only at hSw); go_simp <;> with_reducible rfl)
  try simp only [Act.put, List.setIfInBounds_toArray, List.set_cons_zero, List.set_cons_succ]
  refine wpAnyH_ready (rs := [3]) (by kernel_rfl) (by simp) ?_
  refine AllReadyH.cons (o := _) rfl (fun K hK => ?_) AllReadyH.nil
  rw [if_pos (by rfl)]
  go_simp
  have hp5 := rdP_lit (w := w4) (e := 58) (cs := #[.slice (some ⟨ag, 0, none⟩) 32 32, .slice (some ⟨bg, 0, none⟩) 32 32]) (ls := [a, b]) rfl (.cons (rdB_blkn hA HA.out (by decide)) (.cons (rdB_blkn hB HB.out (by decide)) .nil)) (by simp)
  have hx5 := Ext.alloc w4 (.cells #[.slice (some ⟨ag, 0, none⟩) 32 32, .slice (some ⟨bg, 0, none⟩) 32 32] 58)
  generalize w4.alloc (.cells #[.slice (some ⟨ag, 0, none⟩) 32 32, .slice (some ⟨bg, 0, none⟩) 32 32] 58) = w5 at hp5 hx5 ⊢
  replace h3 := h3.ext hx5
  replace hC := hC.trans hx5
  clear hx5
  refine hK.out _ _ trivial (fun _ => ?_)
  clear hK K
  try simp only [Act.put, List.setIfInBounds_toArray, List.set_cons_zero, List.set_cons_succ]
  refine wpAnyH_ready (rs := [4]) (by kernel_rfl) (by simp) ?_
  refine AllReadyH.cons (o := _) rfl (fun K hK => ?_) AllReadyH.nil
  rw [if_pos (by rfl)]
  go_simp
  refine (join_calls tag [a, b] (by simp [flat, HA.out, HB.out]) _ _ hp5).mono ?_
  rintro e w6 ⟨rfl, hx6⟩
  replace h3 := h3.ext hx6
  replace hC := hC.trans hx6
  clear hx6 hp5
  refine hK.out _ _ trivial (fun _ => ?_)
  clear hK K
  try simp only [Act.put, List.setIfInBounds_toArray, List.set_cons_zero, List.set_cons_succ]
  refine wpAnyH_ready (rs := [5]) (by kernel_rfl) (by simp) ?_
  refine AllReadyH.cons (o := _) rfl (fun K hK => ?_) AllReadyH.nil
  rw [if_pos (by rfl)]
  refine wpk_sk (ex_store 23 (.tmp 6) (.tmp 11) (cs := cBs (join tag [a, b])) h3 rfl rfl rfl (Try.szS.trans (by simp)) (by simp) (cBs_one _)) ?_
  rintro w7 ⟨h7, hx7, hs7⟩
  have hC7 : Ext w w7 := Chg.then hC hx7 (fun i hi h => by omega)
  clear hx7 hs7
  refine hK.out _ _ trivial (fun _ => ?_)
  clear hK K
  try simp only [Act.put, List.setIfInBounds_toArray, List.set_cons_zero, List.set_cons_succ]
  refine wpAnyH_done (by kernel_rfl) ?_ _
  refine NoPanic.normal ?_
  go_wp2
  exact bodyPost_ret (results_cell_row rfl _ _ rg 23 _ (0, 0) _ rfl h7 Try.underlying23 rfl (Try.szS.trans (by simp))) rfl ⟨rfl, hC7⟩
end Go.Proofs.Ytokddhidcjkadaa
