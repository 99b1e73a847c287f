/- A nil shelf, and the walk of SecretNobody. -/
import Derived.Test.YticaefnpapppoaaSecret2
import Derived.Laws.ResultCell
namespace Go.Proofs.Yticaefnpapppoaa
open Go.RowKit Go.Bz Go.Bz.Sha

theorem results_row_tmp {P : Program} {fn : Func} {p u : Tmp} {ty : TypeId} (h : fn.results = #[.cell p ty, .tmp u]) (tmps : Array Value) (w : World) (g : Nat) (t : TypeId) (cs : Array Value) (fr : Nat × Nat) (d : TypeDesc)
    (hp : tmps.getD p undef = .pointer (some ⟨g, 0, none⟩)) (hg : w.heap[g]? = some (.cells cs t fr))
    (hu : P.underlying ty = some d) (hd : (match d with | .struct _ | .array _ _ => true | _ => false) = true) (hi : (P.info? ty).map (·.size) = some cs.size) :
    (results fn tmps).run P w = .ok (.tuple #[.agg cs, tmps.getD u undef]) w := by
  rw [results_cell_tmp h, hp]
  simp [asAddr, run_loadVar_row w g t ty cs fr d hg hu hd hi, Result.andThen]
theorem Try.arrH : (Try.prog.info? 43).map (fun i => (i.zero, i.size)) = some (some (.agg #[.slice none 0 0]), 1) := by kernel_rfl
theorem Try.szH : (Try.prog.info? 43).map (·.size) = some 1 := by kernel_rfl

set_option maxRecDepth 100000 in
set_option maxHeartbeats 4000000 in
theorem lenNil_calls (w : World) :
    Calls Try.prog 30 #[.pointer none] w fun e w' => e = .returned (.int .i64 0) ∧ Ext w w' := by
  go_enter Try.func30, Try.ntmps30
  go_wp2
  go_ret
  exact ⟨rfl, Chg.refl _ _⟩

set_option maxRecDepth 100000 in
set_option maxHeartbeats 4000000 in
theorem allNil_calls (w : World) :
    Calls Try.prog 29 #[.pointer none] w fun e w' => e = .returned (.slice none 0 0) ∧ Ext w w' := by
  go_enter Try.func29, Try.ntmps29
  go_wp2
  go_ret
  exact ⟨rfl, Chg.refl _ _⟩

set_option maxRecDepth 100000 in
set_option maxHeartbeats 4000000 in
theorem putNil_calls (x y : Value) (w : World) :
    Calls Try.prog 28 #[.pointer none, x, y] w fun e w' => e = .returned (.int .i64 1) ∧ Ext w w' := by
  go_enter Try.func28, Try.ntmps28
  go_wp2_with (first | (with_reducible refine stop_box ?_))
  refine wpl_ex (ex_box 26 (.tmp 1) rfl rfl) rfl ?_
  rintro _ w1 ⟨rfl, _, hx1, _⟩
  go_wp2_with (first | (with_reducible refine stop_box ?_))
  refine wpl_ex (ex_box 26 (.tmp 2) rfl rfl) rfl ?_
  rintro _ w2 ⟨rfl, _, hx2, _⟩
  go_wp2
  go_ret
  exact ⟨rfl, hx1.trans hx2⟩

set_option maxRecDepth 100000 in
set_option maxHeartbeats 4000000 in
theorem getNil_calls (n : Int) (w : World) :
    Calls Try.prog 31 #[.pointer none, .int .i64 n] w fun e w' => e = .returned (.tuple #[.agg (cBs (List.replicate 32 0)).toArray, .bool false]) ∧ Ext w w' := by
  by_cases hn : n < 0
  · go_enter Try.func31, Try.ntmps31
    go_wp2_with (first | (with_reducible refine stop_alloc ?_))
    refine wpl_ex (ex_alloc 26 Try.arrS rfl) rfl ?_
    rintro _ w1 ⟨rfl, h1, hx_w1, hs_w1⟩
    obtain ⟨rg, hg_rg⟩ : ∃ g, w.heap.size = g := ⟨_, rfl⟩
    rw [hg_rg] at h1 hs_w1 ⊢
    replace h1 : Blk w1 rg (cBs (List.replicate 32 0)) 26 := h1
    have hC := hx_w1
    go_wp2_with (first | (with_reducible refine stop_alloc ?_) | (with_reducible refine stop_store ?_))
    refine wpl_sk (ex_store 26 (.tmp 4) (.tmp 14) (cs := cBs (List.replicate 32 0)) h1 rfl rfl rfl (Try.szS.trans (by simp)) (by simp) (cBs_one _)) rfl ?_
    rintro w2 ⟨h2, hx_w2, hs_w2⟩
    have hC2 : Ext w w2 := Chg.then hC hx_w2 (fun i hi h => by omega)
    clear hx_w2 hs_w2
    go_wp2
    exact bodyPost_ret (results_row_tmp rfl _ _ rg 26 _ (0, 0) _ rfl h2 Try.underlying26 rfl (Try.szS.trans (by simp))) rfl ⟨rfl, hC2⟩
  · have hn0 : 0 ≤ n := by omega
    go_enter Try.func31, Try.ntmps31
    go_wp2_with (first | (with_reducible refine stop_alloc ?_))
    refine wpl_ex (ex_alloc 26 Try.arrS rfl) rfl ?_
    rintro _ w1 ⟨rfl, h1, hx_w1, hs_w1⟩
    obtain ⟨rg, hg_rg⟩ : ∃ g, w.heap.size = g := ⟨_, rfl⟩
    rw [hg_rg] at h1 hs_w1 ⊢
    replace h1 : Blk w1 rg (cBs (List.replicate 32 0)) 26 := h1
    go_wp2_with fail
    refine (lenNil_calls _).mono ?_
    rintro e w1' ⟨rfl, hx1⟩
    have hC : Ext w w1' := hx_w1.trans hx1
    replace h1 := h1.ext hx1
    go_wp2_with (first | (with_reducible refine stop_alloc ?_) | (with_reducible refine stop_store ?_))
    refine wpl_sk (ex_store 26 (.tmp 4) (.tmp 14) (cs := cBs (List.replicate 32 0)) h1 rfl rfl rfl (Try.szS.trans (by simp)) (by simp) (cBs_one _)) rfl ?_
    rintro w2 ⟨h2, hx_w2, hs_w2⟩
    have hC2 : Ext w w2 := Chg.then hC hx_w2 (fun i hi h => by omega)
    clear hx_w2 hs_w2
    go_wp2
    exact bodyPost_ret (results_row_tmp rfl _ _ rg 26 _ (0, 0) _ rfl h2 Try.underlying26 rfl (Try.szS.trans (by simp))) rfl ⟨rfl, hC2⟩

set_option maxRecDepth 100000 in
set_option maxHeartbeats 4000000 in
theorem cloneNil_calls (w : World) :
    Calls Try.prog 27 #[.pointer none] w fun e w' => e = .returned (.agg #[.slice none 0 0]) ∧ Ext w w' := by
  go_enter Try.func27, Try.ntmps27
  go_wp2_with (first | (with_reducible refine stop_alloc ?_))
  refine wpl_ex (ex_alloc 43 Try.arrH rfl) rfl ?_
  rintro _ w1 ⟨rfl, h1, hx_w1, hs_w1⟩
  obtain ⟨rg, hg_rg⟩ : ∃ g, w.heap.size = g := ⟨_, rfl⟩
  rw [hg_rg] at h1 hs_w1 ⊢
  replace h1 : Blk w1 rg ([.slice none 0 0]) 43 := h1
  go_wp2_with fail
  refine (allNil_calls _).mono ?_
  rintro e w2 ⟨rfl, hx2⟩
  replace h1 := h1.ext hx2
  have hC : Ext w w2 := hx_w1.trans hx2
  go_wp2_with (first | (with_reducible refine stop_store ?_))
  refine wpl_sk (ex_store 43 (.tmp 2) (.tmp 5) (cs := [.slice none 0 0]) h1 rfl rfl rfl Try.szH rfl (by simp [Value.oneCell'])) rfl ?_
  rintro w3 ⟨h3, hx3, _⟩
  have hC3 : Ext w w3 := Chg.then hC hx3 (fun i hi h => by omega)
  clear hx3
  go_wp2
  exact bodyPost_ret (results_cell_row rfl _ _ rg 43 _ (0, 0) _ rfl h3 Try.underlying43 rfl Try.szH) rfl ⟨rfl, hC3⟩

theorem Shelf.ext {w w' : World} {p : Nat} {sv : Value} {L : List (List UInt8)} (h : Shelf w p sv L) (hx : Ext w w') : Shelf w' p sv L := ⟨h.1.ext hx, h.2.1.ext hx, h.2.2⟩

set_option maxRecDepth 100000 in
set_option maxHeartbeats 4000000 in
theorem secretNobody_walk (s : List UInt8) (hs : s.length = 32) (n : Int) (hn : -9223372036854775808 ≤ n ∧ n ≤ 9223372036854775807) (w : World) :
    Calls Try.prog 8 #[.agg (cBs s).toArray, .int .i64 n] w fun e w' => e = .returned (.bool true) ∧ Below w.heap.size w w' := by
  have HS := Lib.hid hs
  clear hs hn
  go_enter Try.func8, Try.ntmps8
  go_wp2_with (first | (with_reducible refine stop_box ?_) | (with_reducible refine stop_alloc ?_))
  refine wpl_ex (ex_box 26 (.tmp 0) (v := .agg (cBs (s)).toArray) rfl rfl) rfl ?_
  rintro _ w1 ⟨rfl, h1, hx_w1, hs_w1⟩
  obtain ⟨sg, hg_sg⟩ : ∃ g, w.heap.size = g := ⟨_, rfl⟩
  rw [hg_sg] at h1 hs_w1 ⊢
  replace h1 : Blk w1 sg (cBs (s)) 26 := h1
  go_wp2_with fail
  refine (getNil_calls n _).mono ?_
  rintro e w2 ⟨rfl, hx_w2⟩
  go_wp2_with (first | (with_reducible refine stop_alloc ?_) | (with_reducible refine stop_store ?_))
  refine wpl_ex (ex_alloc 26 Try.arrS rfl) rfl ?_
  rintro _ w3 ⟨rfl, h3, hx_w3, hs_w3⟩
  obtain ⟨ag, hg_ag⟩ : ∃ g, w2.heap.size = g := ⟨_, rfl⟩
  rw [hg_ag] at h3 hs_w3 ⊢
  replace h3 : Blk w3 ag (cBs (List.replicate 32 0)) 26 := h3
  go_wp2_with (first | (with_reducible refine stop_alloc ?_) | (with_reducible refine stop_store ?_))
  refine wpl_sk (ex_store 26 (.tmp 6) (.tmp 13) (cs := cBs (List.replicate 32 0)) h3 rfl rfl rfl (Try.szS.trans (by simp)) (by simp) (cBs_one _)) rfl ?_
  rintro w4 ⟨h4, hx_w4, hs_w4⟩
  replace h1 := ((h1.ext hx_w2).ext hx_w3).keep hx_w4 (fun h => by have := hx_w2.size; omega)
  have hC : Ext w w4 := Chg.then ((hx_w1.trans hx_w2).trans hx_w3) hx_w4 (fun i hi h => by have := hx_w2.size; omega)
  have hsw : w.heap.size ≤ ag := by have := hx_w2.size; omega
  have hsa : sg < ag := by have := hx_w2.size; omega
  rw [hs_w3] at hs_w4
  clear h3 h4 hx_w1 hx_w2 hx_w3 hx_w4 hs_w1 hs_w3 hg_sg hg_ag
  go_wp2_with fail
  refine (cloneNil_calls _).mono ?_
  rintro e w5 ⟨rfl, hx5⟩
  replace h1 := h1.ext hx5
  replace hC := hC.trans hx5
  have hss : ag < w5.heap.size := by have := hx5.size; omega
  clear hx5 hs_w4
  go_wp2_with (first | (with_reducible refine stop_alloc ?_) | (with_reducible refine stop_store ?_))
  refine wpl_ex (ex_alloc 43 Try.arrH rfl) rfl ?_
  rintro _ w6 ⟨rfl, h6, hx_w6, hs_w6⟩
  obtain ⟨p, hg_p⟩ : ∃ g, w5.heap.size = g := ⟨_, rfl⟩
  rw [hg_p] at h6 hs_w6 ⊢
  replace h6 : Blk w6 p ([.slice none 0 0]) 43 := h6
  go_wp2_with (first | (with_reducible refine stop_alloc ?_) | (with_reducible refine stop_store ?_))
  refine wpl_sk (ex_store 43 (.tmp 8) (.tmp 16) (cs := [.slice none 0 0]) h6 rfl rfl rfl Try.szH rfl (by simp [Value.oneCell'])) rfl ?_
  rintro w7 ⟨h7, hx7, _⟩
  replace h1 := (h1.ext hx_w6).keep hx7 (fun h => by omega)
  replace hC : Ext w w7 := Chg.then (hC.trans hx_w6) hx7 (fun i hi h => by omega)
  have hSh : Shelf w7 p (.slice none 0 0) [] := ⟨h7, World.ownsRow_nil _ _ _ _, fun l hl => by cases hl⟩
  clear h6 h7 hx7 hx_w6 hs_w6 hg_p hss
  go_wp2_with fail
  refine wp_region_noPanic ?_
  refine wp_region_held_drew (S := fun w => Blk w sg (cBs s) 26) (by kernel_rfl) ?_ (fun hS => ?_)
  · exact h1.ext (Ext.drew _)
  replace hC := hC.trans (Ext.drew _)
  replace hSh := Shelf.ext hSh (Ext.drew _)
  clear h1
  generalize World.drew _ = w10 at hS hC hSh ⊢
  try simp only [List.size_toArray, List.length_cons, List.length_nil, Nat.reduceAdd, ← List.toArray_replicate, List.reduceReplicate]
  refine wpAnyH_take (i := 0) (oi := _) (v := ?_) rfl (by kernel_rfl) (by kernel_rfl) (by kernel_rfl) (fun _ _ _ h => h) (Or.inl ⟨by rfl, ?_⟩) hS ?_
  rotate_left
  · (intro w hSw; (try dsimp only at hSw); go_simp <;> with_reducible rfl)
  try simp only [List.getElem_toArray, List.getElem_cons_succ, List.getElem_cons_zero, Act.put, List.setIfInBounds_toArray, List.set_cons_zero, List.set_cons_succ]
  refine wpAnyH_take (i := 1) (oi := _) (v := .agg (cBs s).toArray) rfl (by kernel_rfl) (by kernel_rfl) (by kernel_rfl) (fun _ _ _ h => h) (Or.inl ⟨by rfl, ?_⟩) hS ?_
  · intro w hSw; exact ldS hSw HS.out (.tmp 2) rfl rfl
  try simp only [List.getElem_toArray, List.getElem_cons_succ, List.getElem_cons_zero, Act.put, List.setIfInBounds_toArray, List.set_cons_zero, List.set_cons_succ]
  refine wpAnyH_take (i := 2) (oi := _) (v := .agg (cBs s).toArray) rfl (by kernel_rfl) (by kernel_rfl) (by kernel_rfl) (fun _ _ _ h => h) (Or.inl ⟨by rfl, ?_⟩) hS ?_
  · intro w hSw; exact ldS hSw HS.out (.tmp 2) rfl rfl
  try simp only [List.getElem_toArray, List.getElem_cons_succ, List.getElem_cons_zero, Act.put, List.setIfInBounds_toArray, List.set_cons_zero, List.set_cons_succ]
  refine wpAnyH_ready (rs := [3]) (by kernel_rfl) (by simp) ?_
  refine AllReadyH.cons (o := _) rfl (fun K hK => ?_) (AllReadyH.nil)
  rw [if_pos (by rfl)]
  try simp only [List.getElem_toArray, List.getElem_cons_succ, List.getElem_cons_zero, Act.put, List.setIfInBounds_toArray, List.set_cons_zero, List.set_cons_succ]
  go_simp
  refine (secretHash_calls s HS.out _).mono ?_
  rintro e w11 ⟨rfl, hx_w11⟩
  replace hC := hC.trans hx_w11
  replace hSh := Shelf.ext hSh hx_w11
  refine hK.out _ _ (Blk.ext hS hx_w11) (fun hS => ?_)
  clear hK K hx_w11
  try simp only [List.getElem_toArray, List.getElem_cons_succ, List.getElem_cons_zero, Act.put, List.setIfInBounds_toArray, List.set_cons_zero, List.set_cons_succ]
  refine wpAnyH_ready (rs := [4]) (by kernel_rfl) (by simp) ?_
  refine AllReadyH.cons (o := _) rfl (fun K hK => ?_) (AllReadyH.nil)
  rw [if_pos (by rfl)]
  try simp only [List.getElem_toArray, List.getElem_cons_succ, List.getElem_cons_zero, Act.put, List.setIfInBounds_toArray, List.set_cons_zero, List.set_cons_succ]
  go_simp
  refine (putNil_calls _ _ _).mono ?_
  rintro e w12 ⟨rfl, hx_w12⟩
  replace hC := hC.trans hx_w12
  replace hSh := Shelf.ext hSh hx_w12
  refine hK.out _ _ (Blk.ext hS hx_w12) (fun hS => ?_)
  clear hK K hx_w12
  try simp only [List.getElem_toArray, List.getElem_cons_succ, List.getElem_cons_zero, Act.put, List.setIfInBounds_toArray, List.set_cons_zero, List.set_cons_succ]
  refine wpAnyH_take (i := 5) (oi := _) (v := ?_) rfl (by kernel_rfl) (by kernel_rfl) (by kernel_rfl) (fun _ _ _ h => h) (Or.inl ⟨by rfl, ?_⟩) hS ?_
  rotate_left
  · (intro w hSw; (try dsimp only at hSw); go_simp <;> with_reducible rfl)
  try simp only [List.getElem_toArray, List.getElem_cons_succ, List.getElem_cons_zero, Act.put, List.setIfInBounds_toArray, List.set_cons_zero, List.set_cons_succ]
  refine wpAnyH_take (i := 6) (oi := _) (v := ?_) rfl (by kernel_rfl) (by kernel_rfl) (by kernel_rfl) (fun _ _ _ h => h) (Or.inl ⟨by rfl, ?_⟩) hS ?_
  rotate_left
  · (intro w hSw; (try dsimp only at hSw); go_simp <;> with_reducible rfl)
  try simp only [List.getElem_toArray, List.getElem_cons_succ, List.getElem_cons_zero, Act.put, List.setIfInBounds_toArray, List.set_cons_zero, List.set_cons_succ]
  refine wpAnyH_take (i := 7) (oi := _) (v := ?_) rfl (by kernel_rfl) (by kernel_rfl) (by kernel_rfl) (fun _ _ _ h => h) (Or.inl ⟨by rfl, ?_⟩) hS ?_
  rotate_left
  · (intro w hSw; (try dsimp only at hSw); go_simp <;> with_reducible rfl)
  try simp only [List.getElem_toArray, List.getElem_cons_succ, List.getElem_cons_zero, Act.put, List.setIfInBounds_toArray, List.set_cons_zero, List.set_cons_succ]
  refine wpAnyH_take (i := 8) (oi := _) (v := ?_) rfl (by kernel_rfl) (by kernel_rfl) (by kernel_rfl) (fun _ _ _ h => h) (Or.inl ⟨by rfl, ?_⟩) hS ?_
  rotate_left
  · (intro w hSw; (try dsimp only at hSw); go_simp <;> with_reducible rfl)
  try simp only [List.getElem_toArray, List.getElem_cons_succ, List.getElem_cons_zero, Act.put, List.setIfInBounds_toArray, List.set_cons_zero, List.set_cons_succ]
  refine wpAnyH_take (i := 9) (oi := _) (v := ?_) rfl (by kernel_rfl) (by kernel_rfl) (by kernel_rfl) (fun _ _ _ h => h) (Or.inl ⟨by rfl, ?_⟩) hS ?_
  rotate_left
  · (intro w hSw; (try dsimp only at hSw); go_simp <;> with_reducible rfl)
  try simp only [List.getElem_toArray, List.getElem_cons_succ, List.getElem_cons_zero, Act.put, List.setIfInBounds_toArray, List.set_cons_zero, List.set_cons_succ]
  refine wpAnyH_take (i := 10) (oi := _) (v := ?_) rfl (by kernel_rfl) (by kernel_rfl) (by kernel_rfl) (fun _ _ _ h => h) (Or.inl ⟨by rfl, ?_⟩) hS ?_
  rotate_left
  · (intro w hSw; (try dsimp only at hSw); go_simp <;> with_reducible rfl)
  try simp only [List.getElem_toArray, List.getElem_cons_succ, List.getElem_cons_zero, Act.put, List.setIfInBounds_toArray, List.set_cons_zero, List.set_cons_succ]
  refine wpAnyH_take (i := 11) (oi := _) (v := ?_) rfl (by kernel_rfl) (by kernel_rfl) (by kernel_rfl) (fun _ _ _ h => h) (Or.inl ⟨by rfl, ?_⟩) hS ?_
  rotate_left
  · (intro w hSw; (try dsimp only at hSw); go_simp <;> with_reducible rfl)
  try simp only [List.getElem_toArray, List.getElem_cons_succ, List.getElem_cons_zero, Act.put, List.setIfInBounds_toArray, List.set_cons_zero, List.set_cons_succ]
  refine wpAnyH_take (i := 13) (oi := _) (v := ?_) rfl (by kernel_rfl) (by kernel_rfl) (by kernel_rfl) (fun _ _ _ h => h) (Or.inl ⟨by rfl, ?_⟩) hS ?_
  rotate_left
  · (intro w hSw; (try dsimp only at hSw); go_simp <;> with_reducible rfl)
  try simp only [List.getElem_toArray, List.getElem_cons_succ, List.getElem_cons_zero, Act.put, List.setIfInBounds_toArray, List.set_cons_zero, List.set_cons_succ]
  refine wpAnyH_ready (rs := [12]) (by kernel_rfl) (by simp) ?_
  refine AllReadyH.cons (o := _) rfl (fun K hK => ?_) (AllReadyH.nil)
  rw [if_pos (by rfl)]
  try simp only [List.getElem_toArray, List.getElem_cons_succ, List.getElem_cons_zero, Act.put, List.setIfInBounds_toArray, List.set_cons_zero, List.set_cons_succ]
  go_simp
  refine (lenNil_calls _).mono ?_
  rintro e w13 ⟨rfl, hx_w13⟩
  replace hC := hC.trans hx_w13
  replace hSh := Shelf.ext hSh hx_w13
  refine hK.out _ _ (Blk.ext hS hx_w13) (fun hS => ?_)
  clear hK K hx_w13
  try simp only [List.getElem_toArray, List.getElem_cons_succ, List.getElem_cons_zero, Act.put, List.setIfInBounds_toArray, List.set_cons_zero, List.set_cons_succ]
  refine wpAnyH_ready (rs := [14]) (by kernel_rfl) (by simp) ?_
  refine AllReadyH.cons (o := _) rfl (fun K hK => ?_) (AllReadyH.nil)
  rw [if_pos (by rfl)]
  try simp only [List.getElem_toArray, List.getElem_cons_succ, List.getElem_cons_zero, Act.put, List.setIfInBounds_toArray, List.set_cons_zero, List.set_cons_succ]
  go_simp
  refine (allNil_calls _).mono ?_
  rintro e w14 ⟨rfl, hx_w14⟩
  replace hC := hC.trans hx_w14
  replace hSh := Shelf.ext hSh hx_w14
  refine hK.out _ _ (Blk.ext hS hx_w14) (fun hS => ?_)
  clear hK K hx_w14
  try simp only [List.getElem_toArray, List.getElem_cons_succ, List.getElem_cons_zero, Act.put, List.setIfInBounds_toArray, List.set_cons_zero, List.set_cons_succ]
  refine wpAnyH_take (i := 15) (oi := _) (v := ?_) rfl (by kernel_rfl) (by kernel_rfl) (by kernel_rfl) (fun _ _ _ h => h) (Or.inl ⟨by rfl, ?_⟩) hS ?_
  rotate_left
  · (intro w hSw; (try dsimp only at hSw); go_simp <;> with_reducible rfl)
  try simp only [List.getElem_toArray, List.getElem_cons_succ, List.getElem_cons_zero, Act.put, List.setIfInBounds_toArray, List.set_cons_zero, List.set_cons_succ]
  refine wpAnyH_take (i := 16) (oi := _) (v := ?_) rfl (by kernel_rfl) (by kernel_rfl) (by kernel_rfl) (fun _ _ _ h => h) (Or.inl ⟨by rfl, ?_⟩) hS ?_
  rotate_left
  · (intro w hSw; (try dsimp only at hSw); go_simp <;> with_reducible rfl)
  try simp only [List.getElem_toArray, List.getElem_cons_succ, List.getElem_cons_zero, Act.put, List.setIfInBounds_toArray, List.set_cons_zero, List.set_cons_succ]
  refine wpAnyH_ready (rs := [17]) (by kernel_rfl) (by simp) ?_
  refine AllReadyH.cons (o := _) rfl (fun K hK => ?_) (AllReadyH.nil)
  rw [if_pos (by rfl)]
  try simp only [List.getElem_toArray, List.getElem_cons_succ, List.getElem_cons_zero, Act.put, List.setIfInBounds_toArray, List.set_cons_zero, List.set_cons_succ]
  go_simp
  refine (shelfLen_calls p _ _ _ hSh).mono ?_
  rintro e w15 ⟨rfl, hx_w15⟩
  replace hC := hC.trans hx_w15
  replace hSh := Shelf.ext hSh hx_w15
  refine hK.out _ _ (Blk.ext hS hx_w15) (fun hS => ?_)
  clear hK K hx_w15
  try simp only [List.getElem_toArray, List.getElem_cons_succ, List.getElem_cons_zero, Act.put, List.setIfInBounds_toArray, List.set_cons_zero, List.set_cons_succ]
  refine wpAnyH_take (i := 18) (oi := _) (v := ?_) rfl (by kernel_rfl) (by kernel_rfl) (by kernel_rfl) (fun _ _ _ h => h) (Or.inl ⟨by rfl, ?_⟩) hS ?_
  rotate_left
  · (intro w hSw; (try dsimp only at hSw); go_simp <;> with_reducible rfl)
  try simp only [List.getElem_toArray, List.getElem_cons_succ, List.getElem_cons_zero, Act.put, List.setIfInBounds_toArray, List.set_cons_zero, List.set_cons_succ]
  refine wpAnyH_take (i := 19) (oi := _) (v := ?_) rfl (by kernel_rfl) (by kernel_rfl) (by kernel_rfl) (fun _ _ _ h => h) (Or.inl ⟨by rfl, ?_⟩) hS ?_
  rotate_left
  · (intro w hSw; (try dsimp only at hSw); go_simp <;> with_reducible rfl)
  try simp only [List.getElem_toArray, List.getElem_cons_succ, List.getElem_cons_zero, Act.put, List.setIfInBounds_toArray, List.set_cons_zero, List.set_cons_succ]
  refine wpAnyH_take (i := 20) (oi := _) (v := ?_) rfl (by kernel_rfl) (by kernel_rfl) (by kernel_rfl) (fun _ _ _ h => h) (Or.inl ⟨by rfl, ?_⟩) hS ?_
  rotate_left
  · (intro w hSw; (try dsimp only at hSw); go_simp <;> with_reducible rfl)
  try simp only [List.getElem_toArray, List.getElem_cons_succ, List.getElem_cons_zero, Act.put, List.setIfInBounds_toArray, List.set_cons_zero, List.set_cons_succ]
  refine wpAnyH_take (i := 21) (oi := _) (v := ?_) rfl (by kernel_rfl) (by kernel_rfl) (by kernel_rfl) (fun _ _ _ h => h) (Or.inl ⟨by rfl, ?_⟩) hS ?_
  rotate_left
  · (intro w hSw; (try dsimp only at hSw); go_simp <;> with_reducible rfl)
  try simp only [List.getElem_toArray, List.getElem_cons_succ, List.getElem_cons_zero, Act.put, List.setIfInBounds_toArray, List.set_cons_zero, List.set_cons_succ]
  refine wpAnyH_ready (rs := [22]) (by kernel_rfl) (by simp) ?_
  refine AllReadyH.cons (o := _) rfl (fun K hK => ?_) (AllReadyH.nil)
  rw [if_pos (by rfl)]
  try simp only [List.getElem_toArray, List.getElem_cons_succ, List.getElem_cons_zero, Act.put, List.setIfInBounds_toArray, List.set_cons_zero, List.set_cons_succ]
  go_simp
  refine (awake13_calls _).mono ?_
  rintro e w16 ⟨rfl, hx_w16⟩
  replace hC := hC.trans hx_w16
  replace hSh := Shelf.ext hSh hx_w16
  refine hK.out _ _ (Blk.ext hS hx_w16) (fun hS => ?_)
  clear hK K hx_w16
  try simp only [List.getElem_toArray, List.getElem_cons_succ, List.getElem_cons_zero, Act.put, List.setIfInBounds_toArray, List.set_cons_zero, List.set_cons_succ]
  refine wpAnyH_take (i := 23) (oi := _) (v := ?_) rfl (by kernel_rfl) (by kernel_rfl) (by kernel_rfl) (fun _ _ _ h => h) (Or.inl ⟨by rfl, ?_⟩) hS ?_
  rotate_left
  · (intro w hSw; (try dsimp only at hSw); go_simp <;> with_reducible rfl)
  try simp only [List.getElem_toArray, List.getElem_cons_succ, List.getElem_cons_zero, Act.put, List.setIfInBounds_toArray, List.set_cons_zero, List.set_cons_succ]
  refine wpAnyH_take (i := 24) (oi := _) (v := ?_) rfl (by kernel_rfl) (by kernel_rfl) (by kernel_rfl) (fun _ _ _ h => h) (Or.inl ⟨by rfl, ?_⟩) hS ?_
  rotate_left
  · (intro w hSw; (try dsimp only at hSw); go_simp <;> with_reducible rfl)
  try simp only [List.getElem_toArray, List.getElem_cons_succ, List.getElem_cons_zero, Act.put, List.setIfInBounds_toArray, List.set_cons_zero, List.set_cons_succ]
  refine wpAnyH_done (by kernel_rfl) ?_ _
  refine NoPanic.normal ?_
  go_wp2
  go_ret
  exact ⟨rfl, Ext.below hC⟩

end Go.Proofs.Yticaefnpapppoaa
