/- Contracts: a shelf's Put, Len, All, Clone, Get. -/
import Derived.Test.YticaefnpapppoaaTake
namespace Go.Proofs.Yticaefnpapppoaa
open Go.RowKit Go.Bz Go.Bz.Sha

theorem Try.stS : ST Try.prog 41 26 (.agg (cBs (List.replicate 32 0)).toArray) 32 32 := ⟨Try.underlying41, by kernel_rfl, rfl, by decide, by decide⟩
theorem Try.sz1P : (Try.prog.info? 41).map (·.size) = some 1 := by kernel_rfl
/-- A row of sums of its own. -/
abbrev OwnS (w : World) (v : Value) (L : List (List UInt8)) : Prop := Own w 26 32 v L.length (cBs L.flatten)
/-- A shelf at a block. -/
def Shelf (w : World) (p : Nat) (sv : Value) (L : List (List UInt8)) : Prop := Blk w p [sv] 43 ∧ OwnS w sv L ∧ (∀ l ∈ L, l.length = 32)
theorem own_ltB {w : World} {e : TypeId} {size : Nat} {v : Value} {n : Nat} {xs : List Value} (h : Own w e size v n xs) : ∀ k, v.ownBlock = some k → k < w.heap.size := by
  intro k hk
  rcases h.2 with ⟨rfl, _⟩ | ⟨g, cap, cur, rfl, _, hgg, _⟩
  · simp [Value.ownBlock] at hk
  · simp only [Value.ownBlock, Option.some.injEq] at hk
    subst hk
    exact (Array.getElem?_eq_some_iff.1 hgg).1
theorem own_form {w : World} {e : TypeId} {size : Nat} {v : Value} {n : Nat} {xs : List Value} (h : Own w e size v n xs) : ∃ ao cap, v = .slice ao n cap ∧ n ≤ cap := by
  rcases h.2 with ⟨rfl, rfl⟩ | ⟨g, cap, cur, rfl, _, _, hc, _⟩
  · exact ⟨none, 0, rfl, Nat.le_refl _⟩
  · exact ⟨_, cap, rfl, hc⟩

set_option maxRecDepth 100000 in
set_option maxHeartbeats 4000000 in
theorem shelfPut_calls (x u : List UInt8) (hx : x.length = 32) (hh : u.length = 32) (p : Nat) (sv : Value) (L : List (List UInt8)) (hL : L.length ≤ 1000) (w : World) (hsh : Shelf w p sv L) :
    Calls Try.prog 28 #[.pointer (some ⟨p, 0, none⟩), .agg (cBs x).toArray, .agg (cBs u).toArray] w fun e w' =>
      join 31 [x] = u ∧ e = .returned (.int .i64 0) ∧ (∃ sv', Shelf w' p sv' (L ++ [x]) ∧ Chg (fun i => i = p ∨ sv.ownBlock = some i) w w' ∧ (sv'.ownBlock = sv.ownBlock ∨ ∃ g, w.heap.size ≤ g ∧ sv'.ownBlock = some g)) ∨
      join 31 [x] ≠ u ∧ e = .returned (.int .i64 16) ∧ Ext w w' := by
  have HX := Lib.hid hx
  have HH := Lib.hid hh
  clear hx hh
  obtain ⟨b, hb⟩ : ∃ b : Bool, (join 31 [x] == u) = b := ⟨_, rfl⟩
  go_enter Try.func28, Try.ntmps28
  go_wp2_with (first | (with_reducible refine stop_box ?_) | (with_reducible refine stop_alloc ?_))
  refine wpl_ex (ex_box 26 (.tmp 1) (v := .agg (cBs (x)).toArray) rfl rfl) rfl ?_
  rintro _ w1 ⟨rfl, h1, hx_w1, hs_w1⟩
  obtain ⟨xg, hg_xg⟩ : ∃ g, w.heap.size = g := ⟨_, rfl⟩
  rw [hg_xg] at h1 hs_w1 ⊢
  replace h1 : Blk w1 xg (cBs (x)) 26 := h1
  go_wp2_with (first | (with_reducible refine stop_box ?_) | (with_reducible refine stop_alloc ?_))
  refine wpl_ex (ex_box 26 (.tmp 2) (v := .agg (cBs (u)).toArray) rfl rfl) rfl ?_
  rintro _ w2 ⟨rfl, h2, hx_w2, hs_w2⟩
  obtain ⟨hg, hg_hg⟩ : ∃ g, w1.heap.size = g := ⟨_, rfl⟩
  rw [hg_hg] at h2 hs_w2 ⊢
  replace h2 : Blk w2 hg (cBs (u)) 26 := h2
  go_wp2_with fail
  refine wp_region_noPanic ?_
  refine wp_region_held_drew (S := fun w => Blk w xg (cBs x) 26 ∧ Blk w hg (cBs u) 26) (by kernel_rfl) ?_ (fun hS => ?_)
  · exact ⟨(h1.ext hx_w2).ext (Ext.drew _), h2.ext (Ext.drew _)⟩
  have hC : Ext w w2.drew := (hx_w1.trans hx_w2).trans (Ext.drew _)
  generalize w2.drew = w3 at hC hS ⊢
  try simp only [List.size_toArray, List.length_cons, List.length_nil, Nat.reduceAdd, ← List.toArray_replicate, List.reduceReplicate]
  refine wpAnyH_take (i := 0) (oi := _) (v := .agg (cBs x).toArray) rfl (by kernel_rfl) (by kernel_rfl) (by kernel_rfl) (fun _ _ _ h => h) (Or.inl ⟨by rfl, ?_⟩) hS ?_
  · intro w hSw; exact ldS hSw.1 HX.out (.tmp 4) rfl rfl
  try simp only [List.getElem_toArray, List.getElem_cons_succ, List.getElem_cons_zero, Act.put, List.setIfInBounds_toArray, List.set_cons_zero, List.set_cons_succ]
  refine wpAnyH_take (i := 2) (oi := _) (v := .agg (cBs u).toArray) rfl (by kernel_rfl) (by kernel_rfl) (by kernel_rfl) (fun _ _ _ h => h) (Or.inl ⟨by rfl, ?_⟩) hS ?_
  · intro w hSw; exact ldS hSw.2 HH.out (.tmp 5) rfl rfl
  try simp only [List.getElem_toArray, List.getElem_cons_succ, List.getElem_cons_zero, Act.put, List.setIfInBounds_toArray, List.set_cons_zero, List.set_cons_succ]
  refine wpAnyH_ready (rs := [1]) (by kernel_rfl) (by simp) ?_
  refine AllReadyH.cons (o := _) rfl (fun K hK => ?_) (AllReadyH.nil)
  rw [if_pos (by rfl)]
  try simp only [List.getElem_toArray, List.getElem_cons_succ, List.getElem_cons_zero, Act.put, List.setIfInBounds_toArray, List.set_cons_zero, List.set_cons_succ]
  go_simp
  refine (secretHash_calls x HX.out _).mono ?_
  rintro e w4 ⟨rfl, hx4⟩
  replace hC := hC.trans hx4
  refine hK.out _ _ ⟨hS.1.ext hx4, hS.2.ext hx4⟩ (fun hS => ?_)
  clear hK K hx4
  try simp only [List.getElem_toArray, List.getElem_cons_succ, List.getElem_cons_zero, Act.put, List.setIfInBounds_toArray, List.set_cons_zero, List.set_cons_succ]
  refine wpAnyH_take (i := 3) (oi := _) (v := .bool !b) rfl (by kernel_rfl) (by kernel_rfl) (by kernel_rfl) (fun _ _ _ h => h) (Or.inl ⟨by rfl, ?_⟩) hS ?_
  · intro w hSw; exact neT rfl rfl rfl (join_length _ _) HH.out hb
  try simp only [List.getElem_toArray, List.getElem_cons_succ, List.getElem_cons_zero, Act.put, List.setIfInBounds_toArray, List.set_cons_zero, List.set_cons_succ]
  refine wpAnyH_take (i := 4) (oi := _) (v := ?_) rfl (by kernel_rfl) (by kernel_rfl) (by kernel_rfl) (fun _ _ _ h => h) (Or.inl ⟨by rfl, ?_⟩) hS ?_
  rotate_left
  · (intro w hSw; (try dsimp only at hSw); go_simp <;> with_reducible rfl)
  try simp only [List.getElem_toArray, List.getElem_cons_succ, List.getElem_cons_zero, Act.put, List.setIfInBounds_toArray, List.set_cons_zero, List.set_cons_succ]
  refine wpAnyH_done (by kernel_rfl) ?_ _
  refine NoPanic.normal ?_
  clear h1 h2 hx_w1 hx_w2
  have h1 : Blk _ xg (cBs x) 26 := hS.1
  clear hS
  obtain ⟨hP0, hO0, hLl⟩ := hsh
  have hP := hP0.ext hC
  have hO := Own.ext hO0 hC
  have hpw : p ≠ xg := fun h => Blk.neType (h ▸ hP) h1 (by decide) rfl
  have hob : sv.ownBlock ≠ some p := hO0.neType hP0 (by decide)
  have hpl := hP0.lt
  have hox : ∀ k, sv.ownBlock = some k → k < w.heap.size := own_ltB hO0
  clear hP0 hO0
  cases b
  · go_wp2
    go_ret
    exact .inr ⟨by simpa using hb, rfl, hC⟩
  · have heq : join 31 [x] = u := by simpa using hb
    have HO := Lib.hid hO
    obtain ⟨ao, cap, rfl, hcap⟩ := own_form hO
    clear hb hO
    go_wp2_with (with_reducible refine stop_load ?_)
    refine wpl_ex (ex_load1 hP rfl (.tmp 18) rfl rfl Try.underlying41 rfl Try.sz1P) rfl ?_
    rintro _ _ ⟨rfl, rfl⟩
    have hwx : w.heap.size ≤ xg := by omega
    clear hs_w1 hg_xg hs_w2 hg_hg hS
    go_wp2_with fail
    refine wp_region_noPanic ?_
    refine wp_region_held_drew (S := fun w => Blk w xg (cBs x) 26) (by kernel_rfl) ?_ (fun hS => ?_)
    · exact h1.ext (Ext.drew _)
    have hC5 : Ext w w4.drew := hC.trans (Ext.drew _)
    have hP5 := hP.ext (Ext.drew _)
    have HO5 := Lib.hid (Own.ext HO.out (Ext.drew _))
    clear hC hP HO h1
    generalize w4.drew = w5 at hS hC5 hP5 HO5 ⊢
    try simp only [List.size_toArray, List.length_cons, List.length_nil, Nat.reduceAdd, ← List.toArray_replicate, List.reduceReplicate]
    refine wpAnyH_take (i := 0) (oi := _) (v := ?_) rfl (by kernel_rfl) (by kernel_rfl) (by kernel_rfl) (fun _ _ _ h => h) (Or.inl ⟨by rfl, ?_⟩) hS ?_
    rotate_left
    · (intro w hSw; (try dsimp only at hSw); go_simp <;> with_reducible rfl)
    try simp only [List.getElem_toArray, List.getElem_cons_succ, List.getElem_cons_zero, Act.put, List.setIfInBounds_toArray, List.set_cons_zero, List.set_cons_succ]
    refine wpAnyH_take (i := 1) (oi := _) (v := ?_) rfl (by kernel_rfl) (by kernel_rfl) (by kernel_rfl) (fun _ _ _ h => h) (Or.inl ⟨by rfl, ?_⟩) hS ?_
    rotate_left
    · (intro w hSw; (try dsimp only at hSw); go_simp <;> with_reducible rfl)
    try simp only [List.getElem_toArray, List.getElem_cons_succ, List.getElem_cons_zero, Act.put, List.setIfInBounds_toArray, List.set_cons_zero, List.set_cons_succ]
    refine wpAnyH_take (i := 2) (oi := _) (v := ?_) rfl (by kernel_rfl) (by kernel_rfl) (by kernel_rfl) (fun _ _ _ h => h) (Or.inl ⟨by rfl, ?_⟩) hS ?_
    rotate_left
    · (intro w hSw; (try dsimp only at hSw); go_simp <;> with_reducible rfl)
    try simp only [List.getElem_toArray, List.getElem_cons_succ, List.getElem_cons_zero, Act.put, List.setIfInBounds_toArray, List.set_cons_zero, List.set_cons_succ]
    refine wpAnyH_take (i := 3) (oi := _) (v := ?_) rfl (by kernel_rfl) (by kernel_rfl) (by kernel_rfl) (fun _ _ _ h => h) (Or.inl ⟨by rfl, ?_⟩) hS ?_
    rotate_left
    · (intro w hSw; (try dsimp only at hSw); go_simp <;> with_reducible rfl)
    try simp only [List.getElem_toArray, List.getElem_cons_succ, List.getElem_cons_zero, Act.put, List.setIfInBounds_toArray, List.set_cons_zero, List.set_cons_succ]
    refine wpAnyH_take (i := 5) (oi := _) (v := .agg (cBs x).toArray) rfl (by kernel_rfl) (by kernel_rfl) (by kernel_rfl) (fun _ _ _ h => h) (Or.inl ⟨by rfl, ?_⟩) hS ?_
    · intro w hSw; exact ldS hSw HX.out (.tmp 4) rfl rfl
    try simp only [List.getElem_toArray, List.getElem_cons_succ, List.getElem_cons_zero, Act.put, List.setIfInBounds_toArray, List.set_cons_zero, List.set_cons_succ]
    refine wpAnyH_ready (rs := [4, 6]) (by kernel_rfl) (by simp) ?_
    refine AllReadyH.cons (o := _) rfl (fun K hK => ?_) (AllReadyH.cons (o := _) rfl (fun K hK => ?_) (AllReadyH.nil))
    · rw [if_pos (by rfl)]
      try simp only [List.getElem_toArray, List.getElem_cons_succ, List.getElem_cons_zero, Act.put, List.setIfInBounds_toArray, List.set_cons_zero, List.set_cons_succ]
      refine wpk_ex (ex_load1 (show Blk _ p [_] 43 from by first | exact hP5 | exact hP5.ext hx6) rfl (.tmp 25) rfl rfl Try.underlying41 rfl Try.sz1P) ?_
      rintro _ _ ⟨rfl, rfl⟩
      refine hK.out _ _ hS (fun hS => ?_)
      clear hK K
      try simp only [List.getElem_toArray, List.getElem_cons_succ, List.getElem_cons_zero, Act.put, List.setIfInBounds_toArray, List.set_cons_zero, List.set_cons_succ]
      refine wpAnyH_ready (rs := [6]) (by kernel_rfl) (by simp) ?_
      refine AllReadyH.cons (o := _) rfl (fun K hK => ?_) (AllReadyH.nil)
      rw [if_pos (by rfl)]
      try simp only [List.getElem_toArray, List.getElem_cons_succ, List.getElem_cons_zero, Act.put, List.setIfInBounds_toArray, List.set_cons_zero, List.set_cons_succ]
      refine wpk_ex (ex_lit1 Try.stS (.tmp 27) (cs := cBs x) rfl (by simp [HX.out]) (by decide) rfl) ?_
      rintro _ w6 ⟨rfl, hl6, hx6, _⟩
      refine hK.out _ _ (Blk.ext hS hx6) (fun hS => ?_)
      clear hK K
      try simp only [List.getElem_toArray, List.getElem_cons_succ, List.getElem_cons_zero, Act.put, List.setIfInBounds_toArray, List.set_cons_zero, List.set_cons_succ]
      refine wpAnyH_ready (rs := [7]) (by kernel_rfl) (by simp) ?_
      refine AllReadyH.cons (o := _) rfl (fun K hK => ?_) (AllReadyH.nil)
      rw [if_pos (by rfl)]
      try simp only [List.getElem_toArray, List.getElem_cons_succ, List.getElem_cons_zero, Act.put, List.setIfInBounds_toArray, List.set_cons_zero, List.set_cons_succ]
      refine wpk_ex (ex_append Try.stS (.tmp 26) (.tmp 28) (n := L.length) (xs := cBs L.flatten) (Own.ext HO5.out hx6) (m := 1) (news := cBs x) (rd_blk hl6 (by simp [HX.out]) (by decide) (cBs_one _)) rfl rfl rfl (by omega)) ?_
      rintro sv' w7 ⟨ho7, hg7, _⟩
      have hP7 := (hP5.ext hx6).keep hg7.chg hob
      have hC7 : Chg (fun i => (Value.slice ao L.length cap).ownBlock = some i) w w7 := Chg.then (Ext.any (hC5.trans hx6)) hg7.chg (fun _ _ h => h)
      refine hK.out _ _ (Blk.keep hS hg7.chg (fun h => by have := hox _ h; omega)) (fun hS => ?_)
      clear hK K hP5 HO5
      try simp only [List.getElem_toArray, List.getElem_cons_succ, List.getElem_cons_zero, Act.put, List.setIfInBounds_toArray, List.set_cons_zero, List.set_cons_succ]
      refine wpAnyH_take (i := 8) (oi := _) (v := ?_) rfl (by kernel_rfl) (by kernel_rfl) (by kernel_rfl) (fun _ _ _ h => h) (Or.inl ⟨by rfl, ?_⟩) hS ?_
      rotate_left
      · (intro w hSw; (try dsimp only at hSw); go_simp <;> with_reducible rfl)
      try simp only [List.getElem_toArray, List.getElem_cons_succ, List.getElem_cons_zero, Act.put, List.setIfInBounds_toArray, List.set_cons_zero, List.set_cons_succ]
      refine wpAnyH_take (i := 9) (oi := _) (v := ?_) rfl (by kernel_rfl) (by kernel_rfl) (by kernel_rfl) (fun _ _ _ h => h) (Or.inl ⟨by rfl, ?_⟩) hS ?_
      rotate_left
      · (intro w hSw; (try dsimp only at hSw); go_simp <;> with_reducible rfl)
      try simp only [List.getElem_toArray, List.getElem_cons_succ, List.getElem_cons_zero, Act.put, List.setIfInBounds_toArray, List.set_cons_zero, List.set_cons_succ]
      refine wpAnyH_ready (rs := [10]) (by kernel_rfl) (by simp) ?_
      refine AllReadyH.cons (o := _) rfl (fun K hK => ?_) (AllReadyH.nil)
      rw [if_pos (by rfl)]
      try simp only [List.getElem_toArray, List.getElem_cons_succ, List.getElem_cons_zero, Act.put, List.setIfInBounds_toArray, List.set_cons_zero, List.set_cons_succ]
      obtain ⟨ao', cap', rfl, _⟩ := own_form ho7
      refine wpk_sk (ex_store1 41 (.tmp 31) (.tmp 29) (v := .slice ao' (L.length + 1) cap') hP7 (Nat.zero_lt_one) rfl rfl rfl Try.sz1P rfl) ?_
      rintro w8 ⟨hP8, hx8, _⟩
      have hS8 : Blk w8 xg (cBs x) 26 := Blk.keep hS hx8 (fun h => hpw h.symm)
      have hnb : (Value.slice ao' (L.length + 1) cap').ownBlock = (Value.slice ao L.length cap).ownBlock ∨ ∃ g, w.heap.size ≤ g ∧ (Value.slice ao' (L.length + 1) cap').ownBlock = some g := by
        rcases hg7.blk with h | ⟨g, hg1, _, hg2⟩
        · exact .inl h
        · exact .inr ⟨g, by have := (hC5.trans hx6).size; omega, hg2⟩
      have hO8 := Own.keep ho7 hx8 (fun k hk h => by
        subst h
        rcases hnb with h | ⟨g, hg1, hg2⟩
        · exact hob (h ▸ hk)
        · rw [hk] at hg2; injection hg2 with e; omega)
      have hC8 : Chg (fun i => i = p ∨ (Value.slice ao L.length cap).ownBlock = some i) w w8 := (hC7.mono fun _ _ h => .inr h).trans (hx8.mono fun _ _ h => .inl h)
      have hF : Shelf w8 p (.slice ao' (L.length + 1) cap') (L ++ [x]) := by
        refine ⟨hP8, ?_, ?_⟩
        · have e1 : (L ++ [x]).length = L.length + 1 := by simp
          have e2 : cBs (L ++ [x]).flatten = cBs L.flatten ++ cBs x := by simp [cBs]
          unfold OwnS
          rw [e1, e2]; exact hO8
        · intro l hl
          rcases List.mem_append.1 hl with h | h
          · exact hLl l h
          · rw [List.mem_singleton.1 h]; exact HX.out
      refine hK.out _ _ hS8 (fun _ => ?_)
      clear hK K hP8 hO8 hC7 hP7 ho7 hg7 hx8 hl6 hx6 hC5
      try simp only [List.getElem_toArray, List.getElem_cons_succ, List.getElem_cons_zero, Act.put, List.setIfInBounds_toArray, List.set_cons_zero, List.set_cons_succ]
      refine wpAnyH_done (by kernel_rfl) ?_ _
      refine NoPanic.normal ?_
      go_wp2
      go_ret
      exact .inl ⟨heq, rfl, _, hF, hC8, hnb⟩
    · rw [if_pos (by rfl)]
      try simp only [List.getElem_toArray, List.getElem_cons_succ, List.getElem_cons_zero, Act.put, List.setIfInBounds_toArray, List.set_cons_zero, List.set_cons_succ]
      refine wpk_ex (ex_lit1 Try.stS (.tmp 27) (cs := cBs x) rfl (by simp [HX.out]) (by decide) rfl) ?_
      rintro _ w6 ⟨rfl, hl6, hx6, _⟩
      refine hK.out _ _ (Blk.ext hS hx6) (fun hS => ?_)
      clear hK K
      try simp only [List.getElem_toArray, List.getElem_cons_succ, List.getElem_cons_zero, Act.put, List.setIfInBounds_toArray, List.set_cons_zero, List.set_cons_succ]
      refine wpAnyH_ready (rs := [4]) (by kernel_rfl) (by simp) ?_
      refine AllReadyH.cons (o := _) rfl (fun K hK => ?_) (AllReadyH.nil)
      rw [if_pos (by rfl)]
      try simp only [List.getElem_toArray, List.getElem_cons_succ, List.getElem_cons_zero, Act.put, List.setIfInBounds_toArray, List.set_cons_zero, List.set_cons_succ]
      refine wpk_ex (ex_load1 (show Blk _ p [_] 43 from by first | exact hP5 | exact hP5.ext hx6) rfl (.tmp 25) rfl rfl Try.underlying41 rfl Try.sz1P) ?_
      rintro _ _ ⟨rfl, rfl⟩
      refine hK.out _ _ hS (fun hS => ?_)
      clear hK K
      try simp only [List.getElem_toArray, List.getElem_cons_succ, List.getElem_cons_zero, Act.put, List.setIfInBounds_toArray, List.set_cons_zero, List.set_cons_succ]
      refine wpAnyH_ready (rs := [7]) (by kernel_rfl) (by simp) ?_
      refine AllReadyH.cons (o := _) rfl (fun K hK => ?_) (AllReadyH.nil)
      rw [if_pos (by rfl)]
      try simp only [List.getElem_toArray, List.getElem_cons_succ, List.getElem_cons_zero, Act.put, List.setIfInBounds_toArray, List.set_cons_zero, List.set_cons_succ]
      refine wpk_ex (ex_append Try.stS (.tmp 26) (.tmp 28) (n := L.length) (xs := cBs L.flatten) (Own.ext HO5.out hx6) (m := 1) (news := cBs x) (rd_blk hl6 (by simp [HX.out]) (by decide) (cBs_one _)) rfl rfl rfl (by omega)) ?_
      rintro sv' w7 ⟨ho7, hg7, _⟩
      have hP7 := (hP5.ext hx6).keep hg7.chg hob
      have hC7 : Chg (fun i => (Value.slice ao L.length cap).ownBlock = some i) w w7 := Chg.then (Ext.any (hC5.trans hx6)) hg7.chg (fun _ _ h => h)
      refine hK.out _ _ (Blk.keep hS hg7.chg (fun h => by have := hox _ h; omega)) (fun hS => ?_)
      clear hK K hP5 HO5
      try simp only [List.getElem_toArray, List.getElem_cons_succ, List.getElem_cons_zero, Act.put, List.setIfInBounds_toArray, List.set_cons_zero, List.set_cons_succ]
      refine wpAnyH_take (i := 8) (oi := _) (v := ?_) rfl (by kernel_rfl) (by kernel_rfl) (by kernel_rfl) (fun _ _ _ h => h) (Or.inl ⟨by rfl, ?_⟩) hS ?_
      rotate_left
      · (intro w hSw; (try dsimp only at hSw); go_simp <;> with_reducible rfl)
      try simp only [List.getElem_toArray, List.getElem_cons_succ, List.getElem_cons_zero, Act.put, List.setIfInBounds_toArray, List.set_cons_zero, List.set_cons_succ]
      refine wpAnyH_take (i := 9) (oi := _) (v := ?_) rfl (by kernel_rfl) (by kernel_rfl) (by kernel_rfl) (fun _ _ _ h => h) (Or.inl ⟨by rfl, ?_⟩) hS ?_
      rotate_left
      · (intro w hSw; (try dsimp only at hSw); go_simp <;> with_reducible rfl)
      try simp only [List.getElem_toArray, List.getElem_cons_succ, List.getElem_cons_zero, Act.put, List.setIfInBounds_toArray, List.set_cons_zero, List.set_cons_succ]
      refine wpAnyH_ready (rs := [10]) (by kernel_rfl) (by simp) ?_
      refine AllReadyH.cons (o := _) rfl (fun K hK => ?_) (AllReadyH.nil)
      rw [if_pos (by rfl)]
      try simp only [List.getElem_toArray, List.getElem_cons_succ, List.getElem_cons_zero, Act.put, List.setIfInBounds_toArray, List.set_cons_zero, List.set_cons_succ]
      obtain ⟨ao', cap', rfl, _⟩ := own_form ho7
      refine wpk_sk (ex_store1 41 (.tmp 31) (.tmp 29) (v := .slice ao' (L.length + 1) cap') hP7 (Nat.zero_lt_one) rfl rfl rfl Try.sz1P rfl) ?_
      rintro w8 ⟨hP8, hx8, _⟩
      have hS8 : Blk w8 xg (cBs x) 26 := Blk.keep hS hx8 (fun h => hpw h.symm)
      have hnb : (Value.slice ao' (L.length + 1) cap').ownBlock = (Value.slice ao L.length cap).ownBlock ∨ ∃ g, w.heap.size ≤ g ∧ (Value.slice ao' (L.length + 1) cap').ownBlock = some g := by
        rcases hg7.blk with h | ⟨g, hg1, _, hg2⟩
        · exact .inl h
        · exact .inr ⟨g, by have := (hC5.trans hx6).size; omega, hg2⟩
      have hO8 := Own.keep ho7 hx8 (fun k hk h => by
        subst h
        rcases hnb with h | ⟨g, hg1, hg2⟩
        · exact hob (h ▸ hk)
        · rw [hk] at hg2; injection hg2 with e; omega)
      have hC8 : Chg (fun i => i = p ∨ (Value.slice ao L.length cap).ownBlock = some i) w w8 := (hC7.mono fun _ _ h => .inr h).trans (hx8.mono fun _ _ h => .inl h)
      have hF : Shelf w8 p (.slice ao' (L.length + 1) cap') (L ++ [x]) := by
        refine ⟨hP8, ?_, ?_⟩
        · have e1 : (L ++ [x]).length = L.length + 1 := by simp
          have e2 : cBs (L ++ [x]).flatten = cBs L.flatten ++ cBs x := by simp [cBs]
          unfold OwnS
          rw [e1, e2]; exact hO8
        · intro l hl
          rcases List.mem_append.1 hl with h | h
          · exact hLl l h
          · rw [List.mem_singleton.1 h]; exact HX.out
      refine hK.out _ _ hS8 (fun _ => ?_)
      clear hK K hP8 hO8 hC7 hP7 ho7 hg7 hx8 hl6 hx6 hC5
      try simp only [List.getElem_toArray, List.getElem_cons_succ, List.getElem_cons_zero, Act.put, List.setIfInBounds_toArray, List.set_cons_zero, List.set_cons_succ]
      refine wpAnyH_done (by kernel_rfl) ?_ _
      refine NoPanic.normal ?_
      go_wp2
      go_ret
      exact .inl ⟨heq, rfl, _, hF, hC8, hnb⟩

end Go.Proofs.Yticaefnpapppoaa
