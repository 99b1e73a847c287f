/- A shelf's Len, and the example of chapter 13. -/
import Derived.Test.YticaefnpapppoaaShelf
namespace Go.Proofs.Yticaefnpapppoaa
open Go.RowKit Go.Bz Go.Bz.Sha

set_option maxRecDepth 100000 in
set_option maxHeartbeats 4000000 in
theorem shelfLen_calls (p : Nat) (sv : Value) (L : List (List UInt8)) (w : World) (hsh : Shelf w p sv L) :
    Calls Try.prog 30 #[.pointer (some ⟨p, 0, none⟩)] w fun e w' => e = .returned (.int .i64 (L.length : Int)) ∧ Ext w w' := by
  obtain ⟨ao, cap, rfl, hcap⟩ := own_form hsh.2.1
  go_enter Try.func30, Try.ntmps30
  go_wp2_with (with_reducible refine stop_load ?_)
  refine wpl_ex (ex_load1 hsh.1 rfl (.tmp 7) rfl rfl Try.underlying41 rfl Try.sz1P) rfl ?_
  rintro _ _ ⟨rfl, rfl⟩
  go_wp2
  go_ret
  exact ⟨rfl, Chg.refl _ _⟩

def awakeX : List UInt8 := join 61 [List.replicate 32 0, st4 0]
theorem awakeX_len : awakeX.length = 32 := join_length _ _
theorem awakeX_ne : join 31 [awakeX] ≠ awakeX := by decide +kernel

set_option maxRecDepth 100000 in
set_option maxHeartbeats 4000000 in
theorem awake13_calls (w : World) :
    Calls Try.prog 23 #[] w fun e w' => e = .returned (.bool true) ∧ Ext w w' := by
  have hne := awakeX_ne
  have hxl := awakeX_len
  have hpt : join 31 [join 61 [List.replicate 32 0, st4 0]] = join 31 [awakeX] := rfl
  go_enter Try.func23, Try.ntmps23
  go_wp2_with (first | (with_reducible refine stop_box ?_) | (with_reducible refine stop_alloc ?_))
  refine wpl_ex (ex_box 43 (.tmp 3) (v := .agg #[.slice none 0 0]) rfl rfl) rfl ?_
  rintro _ w1 ⟨rfl, h1, hx_w1, hs_w1⟩
  obtain ⟨p, hg_p⟩ : ∃ g, w.heap.size = g := ⟨_, rfl⟩
  rw [hg_p] at h1 hs_w1 ⊢
  replace h1 : Blk w1 p ([.slice none 0 0]) 43 := h1
  go_wp2_with fail
  refine (secretOf_calls (List.replicate 32 0) rfl 0 (by decide) _).mono ?_
  rintro e w2 ⟨rfl, hx_w2⟩
  rw [show join 61 [List.replicate 32 0, st4 0] = awakeX from rfl]
  generalize awakeX = x at hne hxl hpt ⊢
  go_wp2_with (first | (with_reducible refine stop_box ?_) | (with_reducible refine stop_alloc ?_))
  refine wpl_ex (ex_alloc 26 Try.arrS rfl) rfl ?_
  rintro _ w3 ⟨rfl, h3, hx_w3, hs_w3⟩
  obtain ⟨xg, hg_xg⟩ : ∃ g, w2.heap.size = g := ⟨_, rfl⟩
  rw [hg_xg] at h3 hs_w3 ⊢
  replace h3 : Blk w3 xg (cBs (List.replicate 32 0)) 26 := h3
  go_wp2_with (first | (with_reducible refine stop_store ?_))
  refine wpl_sk (ex_store 26 (.tmp 2) (.tmp 6) (cs := cBs (x)) h3 rfl rfl rfl (Try.szS.trans (by simp [hxl])) (by simp [hxl]) (cBs_one _)) rfl ?_
  rintro w4 ⟨h4, hx_w4, hs_w4⟩
  have hC3 : Ext w w3 := (hx_w1.trans hx_w2).trans hx_w3
  have hpx : p < xg := by have := hx_w2.size; omega
  have hC : Ext w w4 := Chg.then hC3 hx_w4 (fun i hi h => by omega)
  have hB4 : Blk w4 p [.slice none 0 0] 43 := ((h1.ext hx_w2).ext hx_w3).keep hx_w4 (fun h => by omega)
  have hSh : Shelf w4 p (.slice none 0 0) [] := ⟨hB4, World.ownsRow_nil _ _ _ _, fun l hl => by cases hl⟩
  have hpw : w.heap.size ≤ p := by omega
  clear hC3 hB4 h1 h3 hx_w1 hx_w2 hx_w3 hx_w4 hs_w1 hs_w3 hs_w4 hg_p hg_xg
  go_wp2_with fail
  refine wp_region_noPanic ?_
  refine wp_region_held_drew (S := fun w => Blk w xg (cBs x) 26) (by kernel_rfl) ?_ (fun hS => ?_)
  · exact h4.ext (Ext.drew _)
  replace hC := hC.trans (Ext.drew _)
  replace hSh : Shelf w4.drew p (.slice none 0 0) [] := ⟨hSh.1.ext (Ext.drew _), hSh.2.1.ext (Ext.drew _), hSh.2.2⟩
  clear h4
  generalize w4.drew = w4' at hS hC hSh ⊢
  try simp only [List.size_toArray, List.length_cons, List.length_nil, Nat.reduceAdd, ← List.toArray_replicate, List.reduceReplicate]
  refine wpAnyH_take (i := 0) (oi := _) (v := ?_) rfl (by kernel_rfl) (by kernel_rfl) (by kernel_rfl) (fun _ _ _ h => h) (Or.inl ⟨by rfl, ?_⟩) hS ?_
  rotate_left
  · (intro w hSw; (try dsimp only at hSw); go_simp <;> with_reducible rfl)
  try simp only [List.getElem_toArray, List.getElem_cons_succ, List.getElem_cons_zero, Act.put, List.setIfInBounds_toArray, List.set_cons_zero, List.set_cons_succ]
  refine wpAnyH_take (i := 1) (oi := _) (v := .agg (cBs x).toArray) rfl (by kernel_rfl) (by kernel_rfl) (by kernel_rfl) (fun _ _ _ h => h) (Or.inl ⟨by rfl, ?_⟩) hS ?_
  · intro w hSw; exact ldS hSw hxl (.tmp 2) rfl rfl
  try simp only [List.getElem_toArray, List.getElem_cons_succ, List.getElem_cons_zero, Act.put, List.setIfInBounds_toArray, List.set_cons_zero, List.set_cons_succ]
  refine wpAnyH_take (i := 2) (oi := _) (v := .agg (cBs x).toArray) rfl (by kernel_rfl) (by kernel_rfl) (by kernel_rfl) (fun _ _ _ h => h) (Or.inl ⟨by rfl, ?_⟩) hS ?_
  · intro w hSw; exact ldS hSw hxl (.tmp 2) rfl rfl
  try simp only [List.getElem_toArray, List.getElem_cons_succ, List.getElem_cons_zero, Act.put, List.setIfInBounds_toArray, List.set_cons_zero, List.set_cons_succ]
  refine wpAnyH_ready (rs := [3]) (by kernel_rfl) (by simp) ?_
  refine AllReadyH.cons (o := _) rfl (fun K hK => ?_) (AllReadyH.nil)
  rw [if_pos (by rfl)]
  try simp only [List.getElem_toArray, List.getElem_cons_succ, List.getElem_cons_zero, Act.put, List.setIfInBounds_toArray, List.set_cons_zero, List.set_cons_succ]
  go_simp
  refine (shelfPut_calls x x hxl hxl p _ [] (by decide) _ hSh).mono ?_
  rintro e w5 (⟨h, _⟩ | ⟨_, rfl, hx5⟩)
  · exact absurd h hne
  replace hSh : Shelf w5 p (.slice none 0 0) [] := ⟨hSh.1.ext hx5, hSh.2.1.ext hx5, hSh.2.2⟩
  replace hC := hC.trans hx5
  refine hK.out _ _ (Blk.ext hS hx5) (fun hS => ?_)
  clear hK K hx5
  try simp only [List.getElem_toArray, List.getElem_cons_succ, List.getElem_cons_zero, Act.put, List.setIfInBounds_toArray, List.set_cons_zero, List.set_cons_succ]
  refine wpAnyH_take (i := 4) (oi := _) (v := ?_) rfl (by kernel_rfl) (by kernel_rfl) (by kernel_rfl) (fun _ _ _ h => h) (Or.inl ⟨by rfl, ?_⟩) hS ?_
  rotate_left
  · (intro w hSw; (try dsimp only at hSw); go_simp <;> with_reducible rfl)
  try simp only [List.getElem_toArray, List.getElem_cons_succ, List.getElem_cons_zero, Act.put, List.setIfInBounds_toArray, List.set_cons_zero, List.set_cons_succ]
  refine wpAnyH_take (i := 5) (oi := _) (v := ?_) rfl (by kernel_rfl) (by kernel_rfl) (by kernel_rfl) (fun _ _ _ h => h) (Or.inl ⟨by rfl, ?_⟩) hS ?_
  rotate_left
  · (intro w hSw; (try dsimp only at hSw); go_simp <;> with_reducible rfl)
  try simp only [List.getElem_toArray, List.getElem_cons_succ, List.getElem_cons_zero, Act.put, List.setIfInBounds_toArray, List.set_cons_zero, List.set_cons_succ]
  refine wpAnyH_take (i := 6) (oi := _) (v := ?_) rfl (by kernel_rfl) (by kernel_rfl) (by kernel_rfl) (fun _ _ _ h => h) (Or.inl ⟨by rfl, ?_⟩) hS ?_
  rotate_left
  · (intro w hSw; (try dsimp only at hSw); go_simp <;> with_reducible rfl)
  try simp only [List.getElem_toArray, List.getElem_cons_succ, List.getElem_cons_zero, Act.put, List.setIfInBounds_toArray, List.set_cons_zero, List.set_cons_succ]
  refine wpAnyH_take (i := 7) (oi := _) (v := .agg (cBs x).toArray) rfl (by kernel_rfl) (by kernel_rfl) (by kernel_rfl) (fun _ _ _ h => h) (Or.inl ⟨by rfl, ?_⟩) hS ?_
  · intro w hSw; exact ldS hSw hxl (.tmp 2) rfl rfl
  try simp only [List.getElem_toArray, List.getElem_cons_succ, List.getElem_cons_zero, Act.put, List.setIfInBounds_toArray, List.set_cons_zero, List.set_cons_succ]
  refine wpAnyH_take (i := 8) (oi := _) (v := .agg (cBs (List.replicate 32 0)).toArray) rfl (by kernel_rfl) (by kernel_rfl) (by kernel_rfl) (fun _ _ _ h => h) (Or.inl ⟨by rfl, ?_⟩) hS ?_
  · intro w hSw; exact bldZ rfl
  try simp only [List.getElem_toArray, List.getElem_cons_succ, List.getElem_cons_zero, Act.put, List.setIfInBounds_toArray, List.set_cons_zero, List.set_cons_succ]
  refine wpAnyH_ready (rs := [9]) (by kernel_rfl) (by simp) ?_
  refine AllReadyH.cons (o := _) rfl (fun K hK => ?_) (AllReadyH.nil)
  rw [if_pos (by rfl)]
  try simp only [List.getElem_toArray, List.getElem_cons_succ, List.getElem_cons_zero, Act.put, List.setIfInBounds_toArray, List.set_cons_zero, List.set_cons_succ]
  go_simp
  refine (secretPoint_calls (List.replicate 32 0) rfl 0 (by decide) _).mono ?_
  rintro e w6 ⟨rfl, hx6⟩
  rw [hpt]
  replace hSh : Shelf w6 p (.slice none 0 0) [] := ⟨hSh.1.ext hx6, hSh.2.1.ext hx6, hSh.2.2⟩
  replace hC := hC.trans hx6
  refine hK.out _ _ (Blk.ext hS hx6) (fun hS => ?_)
  clear hK K hx6
  try simp only [List.getElem_toArray, List.getElem_cons_succ, List.getElem_cons_zero, Act.put, List.setIfInBounds_toArray, List.set_cons_zero, List.set_cons_succ]
  refine wpAnyH_ready (rs := [10]) (by kernel_rfl) (by simp) ?_
  refine AllReadyH.cons (o := _) rfl (fun K hK => ?_) (AllReadyH.nil)
  rw [if_pos (by rfl)]
  try simp only [List.getElem_toArray, List.getElem_cons_succ, List.getElem_cons_zero, Act.put, List.setIfInBounds_toArray, List.set_cons_zero, List.set_cons_succ]
  go_simp
  refine (shelfPut_calls x (join 31 [x]) hxl (join_length _ _) p _ [] (by decide) _ hSh).mono ?_
  rintro e w7 (⟨_, rfl, sv', hSh7, hx7, _⟩ | ⟨h, _⟩)
  rotate_left
  · exact absurd rfl h
  replace hC : Ext w w7 := Chg.then hC hx7 (fun i hi h => h.elim (fun h => by omega) (fun h => by simp [Value.ownBlock] at h))
  refine hK.out _ _ (Blk.keep hS hx7 (fun h => h.elim (fun h => by omega) (fun h => by simp [Value.ownBlock] at h))) (fun hS => ?_)
  clear hK K hx7 hSh
  try simp only [List.getElem_toArray, List.getElem_cons_succ, List.getElem_cons_zero, Act.put, List.setIfInBounds_toArray, List.set_cons_zero, List.set_cons_succ]
  refine wpAnyH_take (i := 11) (oi := _) (v := ?_) rfl (by kernel_rfl) (by kernel_rfl) (by kernel_rfl) (fun _ _ _ h => h) (Or.inl ⟨by rfl, ?_⟩) hS ?_
  rotate_left
  · (intro w hSw; (try dsimp only at hSw); go_simp <;> with_reducible rfl)
  try simp only [List.getElem_toArray, List.getElem_cons_succ, List.getElem_cons_zero, Act.put, List.setIfInBounds_toArray, List.set_cons_zero, List.set_cons_succ]
  refine wpAnyH_take (i := 12) (oi := _) (v := ?_) rfl (by kernel_rfl) (by kernel_rfl) (by kernel_rfl) (fun _ _ _ h => h) (Or.inl ⟨by rfl, ?_⟩) hS ?_
  rotate_left
  · (intro w hSw; (try dsimp only at hSw); go_simp <;> with_reducible rfl)
  try simp only [List.getElem_toArray, List.getElem_cons_succ, List.getElem_cons_zero, Act.put, List.setIfInBounds_toArray, List.set_cons_zero, List.set_cons_succ]
  refine wpAnyH_take (i := 13) (oi := _) (v := ?_) rfl (by kernel_rfl) (by kernel_rfl) (by kernel_rfl) (fun _ _ _ h => h) (Or.inl ⟨by rfl, ?_⟩) hS ?_
  rotate_left
  · (intro w hSw; (try dsimp only at hSw); go_simp <;> with_reducible rfl)
  try simp only [List.getElem_toArray, List.getElem_cons_succ, List.getElem_cons_zero, Act.put, List.setIfInBounds_toArray, List.set_cons_zero, List.set_cons_succ]
  refine wpAnyH_take (i := 14) (oi := _) (v := ?_) rfl (by kernel_rfl) (by kernel_rfl) (by kernel_rfl) (fun _ _ _ h => h) (Or.inl ⟨by rfl, ?_⟩) hS ?_
  rotate_left
  · (intro w hSw; (try dsimp only at hSw); go_simp <;> with_reducible rfl)
  try simp only [List.getElem_toArray, List.getElem_cons_succ, List.getElem_cons_zero, Act.put, List.setIfInBounds_toArray, List.set_cons_zero, List.set_cons_succ]
  refine wpAnyH_ready (rs := [15]) (by kernel_rfl) (by simp) ?_
  refine AllReadyH.cons (o := _) rfl (fun K hK => ?_) (AllReadyH.nil)
  rw [if_pos (by rfl)]
  try simp only [List.getElem_toArray, List.getElem_cons_succ, List.getElem_cons_zero, Act.put, List.setIfInBounds_toArray, List.set_cons_zero, List.set_cons_succ]
  go_simp
  refine (shelfLen_calls p _ _ _ hSh7).mono ?_
  rintro e w8 ⟨rfl, hx8⟩
  replace hC := hC.trans hx8
  refine hK.out _ _ (Blk.ext hS hx8) (fun hS => ?_)
  clear hK K hx8
  try simp only [List.getElem_toArray, List.getElem_cons_succ, List.getElem_cons_zero, Act.put, List.setIfInBounds_toArray, List.set_cons_zero, List.set_cons_succ]
  refine wpAnyH_take (i := 16) (oi := _) (v := ?_) rfl (by kernel_rfl) (by kernel_rfl) (by kernel_rfl) (fun _ _ _ h => h) (Or.inl ⟨by rfl, ?_⟩) hS ?_
  rotate_left
  · (intro w hSw; (try dsimp only at hSw); go_simp <;> with_reducible rfl)
  try simp only [List.getElem_toArray, List.getElem_cons_succ, List.getElem_cons_zero, Act.put, List.setIfInBounds_toArray, List.set_cons_zero, List.set_cons_succ]
  refine wpAnyH_take (i := 17) (oi := _) (v := ?_) rfl (by kernel_rfl) (by kernel_rfl) (by kernel_rfl) (fun _ _ _ h => h) (Or.inl ⟨by rfl, ?_⟩) hS ?_
  rotate_left
  · (intro w hSw; (try dsimp only at hSw); go_simp <;> with_reducible rfl)
  try simp only [List.getElem_toArray, List.getElem_cons_succ, List.getElem_cons_zero, Act.put, List.setIfInBounds_toArray, List.set_cons_zero, List.set_cons_succ]
  refine wpAnyH_take (i := 18) (oi := _) (v := ?_) rfl (by kernel_rfl) (by kernel_rfl) (by kernel_rfl) (fun _ _ _ h => h) (Or.inl ⟨by rfl, ?_⟩) hS ?_
  rotate_left
  · (intro w hSw; (try dsimp only at hSw); go_simp <;> with_reducible rfl)
  try simp only [List.getElem_toArray, List.getElem_cons_succ, List.getElem_cons_zero, Act.put, List.setIfInBounds_toArray, List.set_cons_zero, List.set_cons_succ]
  refine wpAnyH_done (by kernel_rfl) ?_ _
  refine NoPanic.normal ?_
  go_wp2
  go_ret
  exact ⟨rfl, hC⟩

end Go.Proofs.Yticaefnpapppoaa
