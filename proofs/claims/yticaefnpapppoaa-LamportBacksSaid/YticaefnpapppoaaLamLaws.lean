/- Chapter 4's example, and the walks of LamportSecrets, LamportSigns, LamportBacks. -/
import Derived.Test.YticaefnpapppoaaLamport
import Derived.Test.YticaefnpapppoaaPubZero
namespace Go.Proofs.Yticaefnpapppoaa
open Go.RowKit Go.Bz Go.Bz.Sha Go.Bz.Lamp
theorem ver_sign (s d : List UInt8) : verB (pub s) d (sigs s d 64) = true := by
  unfold verB; rw [backK_sigs]; simp [sigs_len]
theorem ver_zero (d : List UInt8) : verB (List.replicate 32 0) d (sigs (List.replicate 32 0) d 64) = false := by
  unfold verB; rw [backK_sigs]
  have h : (pub (List.replicate 32 0) == List.replicate 32 0) = false := beq_eq_false_iff_ne.2 pub_ne
  rw [h]; simp

set_option maxRecDepth 100000 in
set_option maxHeartbeats 4000000 in
theorem awake04_calls (w : World) :
    Calls Try.prog 46 #[] w fun e w' => e = .returned (.bool true) ∧ Ext w w' := by
  refine calls_fr (args := []) (n := 24) Try.func46 rfl rfl (show 0 ≤ 24 by decide) ?_
  have hC : Ext w w := Chg.refl _ _
  refine wp_seq ?_
  refine wp_gen (fun F' => True) trivial ?_
  rintro F _
  refine wp_regionF ?_
  refine lf_val (v := .bool false) (wantAll rfl) (rv_assign rfl rfl) ?_
  refine lf_nil ?_
  refine then_n ?_
  refine wp_seq ?_
  refine wp_gen (fun F' => F' 0 = .bool false) rfl ?_
  clear F
  rintro F e0
  refine wp_regionF ?_
  refine lf_ex (wantAll rfl) (ex_allocG 26 (z := .agg (cBs (List.replicate 32 0)).toArray) (n := 32) (cs := cBs (List.replicate 32 0)) (by kernel_rfl) (by rfl) rfl) ?_
  rintro _ w1 ⟨g1, hg_g1, rfl, h_g1, hx⟩
  have ge_g1 : w.heap.size ≤ g1 := by have := hC.size; omega
  replace hC := hC.trans hx
  clear hx hg_g1
  refine lf_nil ?_
  refine then_n ?_
  refine wp_seq ?_
  refine wp_gen (fun F' => F' 0 = .bool false ∧ F' 1 = .pointer (some ⟨g1, 0, none⟩)) ⟨e0, rfl⟩ ?_
  clear e0
  clear F
  rintro F ⟨e0, e1⟩
  refine wp_regionF ?_
  refine lf_val (v := .agg (cBs (List.replicate 32 0)).toArray) (wantAll rfl) (rv_loadW rfl h_g1 (fr_eval rfl e1) Try.underlying26 rfl (sz_len Try.sz26 (cBs_len (List.length_replicate ..)))) ?_
  refine lf_call (wantAll rfl) (rv_call (args := [.agg (cBs (List.replicate 32 0)).toArray, .slice none 0 0]) rfl (evc (fr_eval rfl rfl) (evc rfl evn)) Try.call41) (sign_calls (List.replicate 32 0) (List.length_replicate ..) [] (Nat.le_trans (Nat.le_of_eq rfl) (by decide)) _ _ RdB.nil) ?_
  rintro _ w2 ⟨⟨y1, rfl, ho1', ge_ho1⟩, hx⟩
  refine ⟨_, rfl, ?_⟩
  replace ge_ho1 : ∀ k, (y1 : Value).ownBlock = some k → w.heap.size ≤ k := fun k hk => Nat.le_trans hC.size (ge_ho1 k hk)
  replace hC := hC.trans hx
  replace h_g1 := Blk.ext h_g1 hx
  have ho1 := ho1'
  clear ho1' hx
  refine lf_val (v := y1) (wantAll rfl) (rv_assign rfl (fr_eval rfl rfl)) ?_
  refine lf_nil ?_
  refine then_n ?_
  refine wp_seq ?_
  refine wp_gen (fun F' => F' 0 = .bool false ∧ F' 1 = .pointer (some ⟨g1, 0, none⟩) ∧ F' 2 = y1) ⟨e0, e1, rfl⟩ ?_
  clear e0 e1
  clear F
  rintro F ⟨e0, e1, e2⟩
  refine wp_regionF ?_
  refine lf_val (v := y1) (wantAll rfl) (rv_move rfl (fr_eval rfl e2)) ?_
  refine lf_val (v := .int .i64 4096) (wantAll rfl) (rv_len rfl (fr_eval rfl rfl) (RdB.rn (OwnB.rd ho1) (sigs_len _ _ 64)) Try.underlying22) ?_
  refine lf_val (v := .bool true) (wantAll rfl) (rv_eql rfl (fr_eval rfl rfl) rfl (by decide)) ?_
  refine lf_val (v := .bool true) (wantAll rfl) (rv_move rfl (fr_eval rfl rfl)) ?_
  refine lf_val (v := .bool true) (wantAll rfl) (rv_pickT rfl (fr_eval rfl rfl) rfl) ?_
  refine lf_val (v := .bool true) (wantAll rfl) (rv_move rfl (fr_eval rfl rfl)) ?_
  refine lf_val (v := .bool true) (wantAll rfl) (rv_pickT rfl (fr_eval rfl rfl) rfl) ?_
  refine lf_val (v := .bool true) (wantAll rfl) (rv_move rfl (fr_eval rfl rfl)) ?_
  refine lf_val (v := .agg (cBs (List.replicate 32 0)).toArray) (wantF (d := 12) rfl (by kernel_rfl) rfl rfl) (rv_loadW rfl h_g1 (fr_eval rfl e1) Try.underlying26 rfl (sz_len Try.sz26 (cBs_len (List.length_replicate ..)))) ?_
  refine lf_call (wantF (d := 12) rfl (by kernel_rfl) rfl rfl) (rv_call (args := [.agg (cBs (List.replicate 32 0)).toArray]) rfl (evc (fr_eval rfl rfl) evn) Try.call43) (public_calls (List.replicate 32 0) (List.length_replicate ..) _) ?_
  rintro _ w3 ⟨rfl, hx⟩
  refine ⟨_, rfl, ?_⟩
  replace hC := hC.trans hx
  replace h_g1 := Blk.ext h_g1 hx
  replace ho1 := Own.ext ho1 hx
  clear hx
  refine lf_val (v := y1) (wantF (d := 12) rfl (by kernel_rfl) rfl rfl) (rv_move rfl (fr_eval rfl e2)) ?_
  refine lf_call (wantF (d := 12) rfl (by kernel_rfl) rfl rfl) (rv_call (args := [.agg (cBs (pub (List.replicate 32 0))).toArray, .slice none 0 0, y1]) rfl (evc (fr_eval rfl rfl) (evc rfl (evc (fr_eval rfl rfl) evn))) Try.call44) (by have h := verify_calls (pub (List.replicate 32 0)) [] (sigs (List.replicate 32 0) (join 14 [[]]) 64) pub_len (Nat.le_trans (Nat.le_of_eq rfl) (by decide)) _ _ _ RdB.nil (OwnB.rd ho1); rw [ver_sign] at h; exact h) ?_
  rintro _ w4 ⟨rfl, hx⟩
  refine ⟨_, rfl, ?_⟩
  replace hC := hC.trans hx
  replace h_g1 := Blk.ext h_g1 hx
  replace ho1 := Own.ext ho1 hx
  clear hx
  refine lf_val (v := .bool true) (wantAll rfl) (rv_pickT rfl (fr_eval rfl rfl) (fr_eval rfl rfl)) ?_
  refine lf_val (v := .bool true) (wantAll rfl) (rv_move rfl (fr_eval rfl rfl)) ?_
  refine lf_val (v := .agg (cBs (List.replicate 32 0)).toArray) (wantF (d := 18) rfl (by kernel_rfl) rfl rfl) (rv_loadW rfl h_g1 (fr_eval rfl e1) Try.underlying26 rfl (sz_len Try.sz26 (cBs_len (List.length_replicate ..)))) ?_
  refine lf_val (v := y1) (wantF (d := 18) rfl (by kernel_rfl) rfl rfl) (rv_move rfl (fr_eval rfl e2)) ?_
  refine lf_call (wantF (d := 18) rfl (by kernel_rfl) rfl rfl) (rv_call (args := [.agg (cBs (List.replicate 32 0)).toArray, .slice none 0 0, y1]) rfl (evc (fr_eval rfl rfl) (evc rfl (evc (fr_eval rfl rfl) evn))) Try.call44) (by have h := verify_calls (List.replicate 32 0) [] (sigs (List.replicate 32 0) (join 14 [[]]) 64) (List.length_replicate ..) (Nat.le_trans (Nat.le_of_eq rfl) (by decide)) _ _ _ RdB.nil (OwnB.rd ho1); rw [ver_zero] at h; exact h) ?_
  rintro _ w5 ⟨rfl, hx⟩
  refine ⟨_, rfl, ?_⟩
  replace hC := hC.trans hx
  replace h_g1 := Blk.ext h_g1 hx
  replace ho1 := Own.ext ho1 hx
  clear hx
  refine lf_val (v := .bool true) (wantF (d := 18) rfl (by kernel_rfl) rfl rfl) (rv_not (b := false) rfl (fr_eval rfl rfl)) ?_
  refine lf_val (v := .bool true) (wantAll rfl) (rv_pickT rfl (fr_eval rfl rfl) (fr_eval rfl rfl)) ?_
  refine lf_val (v := .bool true) (wantAll rfl) (rv_assign rfl (fr_eval rfl rfl)) ?_
  refine lf_nil ?_
  refine then_n ?_
  refine wp_gen (fun F' => F' 0 = .bool true ∧ F' 1 = .pointer (some ⟨g1, 0, none⟩) ∧ F' 2 = y1) ⟨rfl, e1, e2⟩ ?_
  clear e0 e1 e2
  clear F
  rintro F ⟨e0, e1, e2⟩
  refine wp_ret ?_
  exact bodyPost_ret (v := (.bool true)) (res1 rfl (ro_tmp rfl e0)) rfl (⟨rfl, hC⟩)

set_option maxRecDepth 100000 in
set_option maxHeartbeats 4000000 in
theorem cut04_calls (b : List UInt8) (v : Value) (w : World) (hr0 : RdB w v b) :
    Calls Try.prog 37 #[v] w fun e w' => e = .returned (cutV v b 200) ∧ Ext w w' := by
  refine calls_fr (args := [v]) (n := 9) Try.func37 rfl rfl (show 1 ≤ 9 by decide) ?_
  have hC : Ext w w := Chg.refl _ _
  have hr := hr0
  refine wp_seq ?_
  refine wp_gen (fun F' => F' 0 = v) rfl ?_
  rintro F e0
  refine wp_regionF ?_
  refine lf_val (v := .slice none 0 0) (wantAll rfl) (rv_assign rfl rfl) ?_
  refine lf_nil ?_
  refine then_n ?_
  refine wp_seq ?_
  refine wp_seq ?_
  refine wp_gen (fun F' => F' 0 = v ∧ F' 2 = .slice none 0 0) ⟨e0, rfl⟩ ?_
  clear e0
  clear F
  rintro F ⟨e0, e2⟩
  refine wp_regionF ?_
  refine lf_val (v := v) (wantAll rfl) (rv_move rfl (fr_eval rfl e0)) ?_
  refine lf_val (v := .int .i64 ((b.length : Nat) : Int)) (wantAll rfl) (rv_len rfl (fr_eval rfl rfl) (RdB.rn hr rfl) Try.underlying22) ?_
  by_cases hc1 : b.length > 200
  · refine lf_val (v := .bool true) (wantAll rfl) (rv_gtr rfl (fr_eval rfl rfl) rfl (decide_eq_true (by omega))) ?_
    refine lf_nil ?_
    refine then_n ?_
    refine wp_gen (fun F' => F' 0 = v ∧ F' 2 = .slice none 0 0 ∧ F' 5 = .bool true) ⟨e0, e2, rfl⟩ ?_
    clear e0 e2
    clear F
    rintro F ⟨e0, e2, e5⟩
    refine wp_cond_true (fr_eval rfl e5) ?_
    refine wp_seq ?_
    refine wp_regionF ?_
    refine lf_val (v := v) (wantAll rfl) (rv_move rfl (fr_eval rfl e0)) ?_
    refine lf_val (v := slcV v 1 0 200) (wantAll rfl) (rv_slcH (h := 200) Try.stB rfl (fr_eval rfl rfl) (RdB.rn hr rfl) (show _ = Value.int _ ((200 : Nat) : Int) from rfl) (by omega)) ?_
    refine lf_val (v := slcV v 1 0 200) (wantAll rfl) (rv_assign rfl (fr_eval rfl rfl)) ?_
    refine lf_nil ?_
    refine then_n ?_
    refine wp_gen (fun F' => F' 0 = v ∧ F' 2 = slcV v 1 0 200 ∧ F' 5 = .bool true) ⟨e0, rfl, e5⟩ ?_
    clear e0 e2 e5
    clear F
    rintro F ⟨e0, e2, e5⟩
    refine wp_ret ?_
    refine then_ret ?_
    exact bodyPost_ret (v := (slcV v 1 0 200)) (res1 rfl (ro_tmp rfl e2)) rfl (⟨(by unfold cutV; first | rw [if_pos (by omega)] | rw [if_neg (by omega)]), hC⟩)
  · refine lf_val (v := .bool false) (wantAll rfl) (rv_gtr rfl (fr_eval rfl rfl) rfl (decide_eq_false (by omega))) ?_
    refine lf_nil ?_
    refine then_n ?_
    refine wp_gen (fun F' => F' 0 = v ∧ F' 2 = .slice none 0 0 ∧ F' 5 = .bool false) ⟨e0, e2, rfl⟩ ?_
    clear e0 e2
    clear F
    rintro F ⟨e0, e2, e5⟩
    refine wp_cond_false (fr_eval rfl e5) ?_
    refine wp_skip ?_
    refine then_n ?_
    refine wp_seq ?_
    refine wp_regionF ?_
    refine lf_val (v := v) (wantAll rfl) (rv_move rfl (fr_eval rfl e0)) ?_
    refine lf_val (v := v) (wantAll rfl) (rv_assign rfl (fr_eval rfl rfl)) ?_
    refine lf_nil ?_
    refine then_n ?_
    refine wp_gen (fun F' => F' 0 = v ∧ F' 2 = v ∧ F' 5 = .bool false) ⟨e0, rfl, e5⟩ ?_
    clear e0 e2 e5
    clear F
    rintro F ⟨e0, e2, e5⟩
    refine wp_ret ?_
    exact bodyPost_ret (v := v) (res1 rfl (ro_tmp rfl e2)) rfl (⟨(by unfold cutV; first | rw [if_pos (by omega)] | rw [if_neg (by omega)]), hC⟩)

theorem half_step {x k j : Nat} (h : j ≤ k) (hx : x < 256) : IntKind.i64.wrap (((x / 2 ^ (k - j) : Nat) : Int).tdiv (2 : Int)) = ((x / 2 ^ (k + 1 - j) : Nat) : Int) := by
  have h1 : x / 2 ^ (k - j) ≤ x := Nat.div_le_self _ _
  have e := quo_nat (m := x / 2 ^ (k - j)) (n := 2) (by omega)
  rw [show k + 1 - j = (k - j) + 1 by omega, Nat.pow_succ, ← Nat.div_div_eq_div_mul]
  exact e

set_option maxRecDepth 100000 in
set_option maxHeartbeats 4000000 in
theorem bit04_calls (b : List UInt8) (hb : b.length ≤ 1000000) (i : Nat) (hi : i < 64) (v : Value) (w : World) (hr0 : RdB w v b) :
    Calls Try.prog 38 #[v, .int .i64 ((i : Nat) : Int)] w fun e w' => e = .returned (.int .i64 ((bitN (join 14 [b]) i : Nat) : Int)) ∧ Ext w w' := by
  refine calls_fr (args := [v, .int .i64 ((i : Nat) : Int)]) (n := 26) Try.func38 rfl rfl (show 2 ≤ 26 by decide) ?_
  have hC : Ext w w := Chg.refl _ _
  have hr := hr0
  refine wp_seq ?_
  refine wp_gen (fun F' => F' 0 = v ∧ F' 1 = .int .i64 ((i : Nat) : Int)) ⟨rfl, rfl⟩ ?_
  rintro F ⟨e0, e1⟩
  refine wp_regionF ?_
  refine lf_val (v := .int .i64 0) (wantAll rfl) (rv_assign rfl rfl) ?_
  refine lf_nil ?_
  refine then_n ?_
  refine wp_seq ?_
  refine wp_gen (fun F' => F' 0 = v ∧ F' 1 = .int .i64 ((i : Nat) : Int) ∧ F' 4 = .int .i64 0) ⟨e0, e1, rfl⟩ ?_
  clear e0 e1
  clear F
  rintro F ⟨e0, e1, e4⟩
  refine wp_regionF ?_
  refine lf_val (v := v) (wantAll rfl) (rv_move rfl (fr_eval rfl e0)) ?_
  refine lf_ex (wantAll rfl) (ex_lits (n := 1) Try.stBB [(.tmp 8)] (vs := [v]) (evc (fr_eval rfl rfl) evn) (ones_cons (Rd.oneV hr) ones_nil) rfl (by decide) rfl) ?_
  rintro _ w1 ⟨g1, hg_g1, rfl, h_g1, hx⟩
  have ge_g1 : w.heap.size ≤ g1 := by have := hC.size; omega
  replace hC := hC.trans hx
  replace hr := Rd.ext hr hx
  clear hx hg_g1
  refine lf_call (wantAll rfl) (rv_call (args := [cB 14, .slice (some ⟨g1, 0, none⟩) 1 1]) rfl (evc rfl (evc (fr_eval rfl rfl) evn)) Try.call20) (join_calls 14 [b] (flat_le1 (Nat.le_trans (show List.length b ≤ 1000000 from hb) (by decide))) _ _ (rdP_blk h_g1 (.cons hr .nil) rfl (by decide))) ?_
  rintro _ w2 ⟨rfl, hx⟩
  refine ⟨_, rfl, ?_⟩
  replace hC := hC.trans hx
  replace hr := Rd.ext hr hx
  replace h_g1 := Blk.ext h_g1 hx
  clear hx
  refine lf_ex (wantAll rfl) (ex_allocG 26 (z := .agg (cBs (List.replicate 32 0)).toArray) (n := 32) (cs := cBs (List.replicate 32 0)) (by kernel_rfl) (by rfl) rfl) ?_
  rintro _ w3 ⟨g2, hg_g2, rfl, h_g2, hx⟩
  have ge_g2 : w.heap.size ≤ g2 := by have := hC.size; omega
  have lt_g1_g2 : g1 < g2 := by have := Blk.lt h_g1; omega
  replace hC := hC.trans hx
  replace hr := Rd.ext hr hx
  replace h_g1 := Blk.ext h_g1 hx
  clear hx hg_g2
  refine lf_sk (wantAll rfl) (ex_storeW (cs := cBs (join 14 [b])) rfl h_g2 (fr_eval rfl rfl) (fr_eval rfl rfl) (sz_len Try.sz26 (cBs_len (join_length _ _))) (((cBs_len (List.length_replicate ..))).trans ((cBs_len (join_length _ _))).symm) (cBs_one _)) ?_
  rintro w4 ⟨h_g2', hx⟩
  replace h_g2' : Blk w4 g2 (cBs (join 14 [b])) 26 := h_g2'
  replace hr := Rd.keep hr hx (fun b hb h0 e => by have e : b = g2 := e; have := Rd.lt hr0 h0 b hb; omega)
  replace h_g1 := Blk.keep h_g1 hx (fun e => by have e : g1 = g2 := e; omega)
  replace hC := Chg.then hC hx (fun i hi e => absurd hi (by have e : i = g2 := e; omega))
  replace h_g2 := h_g2'
  clear h_g2'
  clear hx
  refine lf_nil ?_
  refine then_n ?_
  refine wp_seq ?_
  clear h_g1
  refine wp_gen (fun F' => F' 0 = v ∧ F' 1 = .int .i64 ((i : Nat) : Int) ∧ F' 4 = .int .i64 0 ∧ F' 5 = .pointer (some ⟨g2, 0, none⟩)) ⟨e0, e1, e4, rfl⟩ ?_
  clear e0 e1 e4
  clear F
  rintro F ⟨e0, e1, e4, e5⟩
  have hx8 := UInt8.toNat_lt (List.getD (join 14 [b]) (i / 8) 0)
  obtain ⟨x8, hx8e⟩ : ∃ x, (List.getD (join 14 [b]) (i / 8) 0).toNat = x := ⟨_, rfl⟩
  refine wp_regionF ?_
  refine lf_val (v := .int .i64 ((i : Nat) : Int)) (wantAll rfl) (rv_move rfl (fr_eval rfl e1)) ?_
  refine lf_val (v := .int .i64 ((i / 8 : Nat) : Int)) (wantAll rfl) (rv_quo rfl (fr_eval rfl rfl) rfl (by decide) (quo_nat (n := 8) (by omega))) ?_
  refine lf_val (v := .pointer (some ⟨g2, 0 + (i / 8) * 1, none⟩)) (wantAll rfl) (rv_indexArr rfl (fr_eval rfl e5) (fr_eval rfl rfl) (by omega) Try.underlying26 Try.sz5) ?_
  refine lf_val (v := cB (List.getD (join 14 [b]) (i / 8) 0)) (wantAll rfl) (rv_load1 rfl h_g2 (cell_b (k := i / 8) (by omega) (by rw [(join_length _ _)]; omega)) (fr_eval rfl rfl) Try.underlying5 rfl Try.sz5) ?_
  refine lf_val (v := .int .i64 (((List.getD (join 14 [b]) (i / 8) 0).toNat : Nat) : Int)) (wantAll rfl) (rv_conv rfl (fr_eval rfl rfl) Try.underlying5 Try.underlying3 (wrap_nat (by have := UInt8.toNat_lt (List.getD (join 14 [b]) (i / 8) 0); omega))) ?_
  refine lf_val (v := .int .i64 (((List.getD (join 14 [b]) (i / 8) 0).toNat : Nat) : Int)) (wantAll rfl) (rv_assign rfl (fr_eval rfl rfl)) ?_
  refine lf_nil ?_
  refine then_n ?_
  refine wp_seq ?_
  refine wp_seq ?_
  refine wp_gen (fun F' => F' 0 = v ∧ F' 1 = .int .i64 ((i : Nat) : Int) ∧ F' 4 = .int .i64 0 ∧ F' 5 = .pointer (some ⟨g2, 0, none⟩) ∧ F' 6 = .int .i64 (((List.getD (join 14 [b]) (i / 8) 0).toNat : Nat) : Int)) ⟨e0, e1, e4, e5, rfl⟩ ?_
  clear e0 e1 e4 e5
  clear F
  rintro F ⟨e0, e1, e4, e5, e6⟩
  refine wp_regionF ?_
  refine lf_val (v := .int .i64 ((i : Nat) : Int)) (wantAll rfl) (rv_move rfl (fr_eval rfl e1)) ?_
  refine lf_val (v := .int .i64 ((i % 8 : Nat) : Int)) (wantAll rfl) (rv_rem rfl (fr_eval rfl rfl) rfl (by decide) (rem_nat _ 8)) ?_
  refine lf_val (v := .int .i64 ((i % 8 : Nat) : Int)) (wantAll rfl) (rv_assign rfl (fr_eval rfl rfl)) ?_
  refine lf_nil ?_
  refine then_n ?_
  refine wp_block ?_
  refine wp_gen (fun F' => F' 0 = v ∧ F' 1 = .int .i64 ((i : Nat) : Int) ∧ F' 4 = .int .i64 0 ∧ F' 5 = .pointer (some ⟨g2, 0, none⟩) ∧ F' 6 = .int .i64 (((List.getD (join 14 [b]) (i / 8) 0).toNat : Nat) : Int) ∧ F' 7 = .int .i64 ((i % 8 : Nat) : Int)) ⟨e0, e1, e4, e5, e6, rfl⟩ ?_
  clear e0 e1 e4 e5 e6
  clear F
  rintro F ⟨e0, e1, e4, e5, e6, e7⟩
  refine wp_loopF (fun m F wr => ∃ k : Nat, m = 7 - k ∧ k ≤ 7 ∧ i % 8 ≤ k ∧ F 0 = v ∧ F 1 = .int .i64 ((i : Nat) : Int) ∧ F 4 = .int .i64 0 ∧ F 5 = .pointer (some ⟨g2, 0, none⟩) ∧ F 6 = .int .i64 (((List.getD (join 14 [b]) (i / 8) 0).toNat / 2 ^ (k - i % 8) : Nat) : Int) ∧ F 7 = .int .i64 ((k : Nat) : Int) ∧ RdB wr v b ∧ Blk wr g2 (cBs (join 14 [b])) 26 ∧ Ext w wr) ⟨_, rfl, (by omega), Nat.le_refl _, e0, e1, e4, e5, (e6.trans (by rw [Nat.sub_self, Nat.pow_zero, Nat.div_one])), e7, hr, h_g2, hC⟩ ?_
  clear e0 e1 e4 e5 e6 e7 hr h_g2 hC
  clear F
  rintro m F w5 ⟨k, rfl, pk0, pk1, e0, e1, e4, e5, e6, e7, hr, h_g2, hC⟩
  refine wp_seq ?_
  refine wp_seq ?_
  refine wp_regionF ?_
  refine lf_val (v := .int .i64 ((k : Nat) : Int)) (wantAll rfl) (rv_move rfl (fr_eval rfl e7)) ?_
  by_cases hc1 : k < 7
  · refine lf_val (v := .bool true) (wantAll rfl) (rv_lss rfl (fr_eval rfl rfl) rfl (decide_eq_true (by omega))) ?_
    refine lf_nil ?_
    refine then_n ?_
    refine wp_gen (fun F' => F' 0 = v ∧ F' 1 = .int .i64 ((i : Nat) : Int) ∧ F' 4 = .int .i64 0 ∧ F' 5 = .pointer (some ⟨g2, 0, none⟩) ∧ F' 6 = .int .i64 (((List.getD (join 14 [b]) (i / 8) 0).toNat / 2 ^ (k - i % 8) : Nat) : Int) ∧ F' 7 = .int .i64 ((k : Nat) : Int) ∧ F' 19 = .bool true) ⟨e0, e1, e4, e5, e6, e7, rfl⟩ ?_
    clear e0 e1 e4 e5 e6 e7
    clear F
    rintro F ⟨e0, e1, e4, e5, e6, e7, e19⟩
    refine wp_cond_true (fr_eval rfl e19) ?_
    refine wp_skip ?_
    refine then_n ?_
    refine wp_seq ?_
    refine wp_block ?_
    refine wp_regionF ?_
    refine lf_val (v := .int .i64 (((List.getD (join 14 [b]) (i / 8) 0).toNat / 2 ^ (k - i % 8) : Nat) : Int)) (wantAll rfl) (rv_move rfl (fr_eval rfl e6)) ?_
    refine lf_val (v := .int .i64 (((List.getD (join 14 [b]) (i / 8) 0).toNat / 2 ^ (k + 1 - i % 8) : Nat) : Int)) (wantAll rfl) (rv_quo rfl (fr_eval rfl rfl) rfl (by decide) (half_step (by omega) hx8)) ?_
    refine lf_val (v := .int .i64 (((List.getD (join 14 [b]) (i / 8) 0).toNat / 2 ^ (k + 1 - i % 8) : Nat) : Int)) (wantAll rfl) (rv_assign rfl (fr_eval rfl rfl)) ?_
    refine lf_nil ?_
    refine blk_n ?_
    refine then_n ?_
    refine wp_gen (fun F' => F' 0 = v ∧ F' 1 = .int .i64 ((i : Nat) : Int) ∧ F' 4 = .int .i64 0 ∧ F' 5 = .pointer (some ⟨g2, 0, none⟩) ∧ F' 6 = .int .i64 (((List.getD (join 14 [b]) (i / 8) 0).toNat / 2 ^ (k + 1 - i % 8) : Nat) : Int) ∧ F' 7 = .int .i64 ((k : Nat) : Int) ∧ F' 19 = .bool true) ⟨e0, e1, e4, e5, rfl, e7, e19⟩ ?_
    clear e0 e1 e4 e5 e6 e7 e19
    clear F
    rintro F ⟨e0, e1, e4, e5, e6, e7, e19⟩
    refine wp_regionF ?_
    refine lf_val (v := .int .i64 ((k : Nat) : Int)) (wantAll rfl) (rv_move rfl (fr_eval rfl e7)) ?_
    refine lf_val (v := .int .i64 ((k + 1 : Nat) : Int)) (wantAll rfl) (rv_add rfl (fr_eval rfl rfl) rfl (wrap_i64 (by omega) (by omega) (by omega))) ?_
    refine lf_val (v := .int .i64 ((k + 1 : Nat) : Int)) (wantAll rfl) (rv_assign rfl (fr_eval rfl rfl)) ?_
    refine lf_nil ?_
    refine then_n ?_
    exact ⟨_, _, (by omega), rfl, k + 1, rfl, (by omega), (by omega), e0, e1, e4, e5, e6, rfl, hr, h_g2, hC⟩
  · refine lf_val (v := .bool false) (wantAll rfl) (rv_lss rfl (fr_eval rfl rfl) rfl (decide_eq_false (by omega))) ?_
    refine lf_nil ?_
    refine then_n ?_
    refine wp_gen (fun F' => F' 0 = v ∧ F' 1 = .int .i64 ((i : Nat) : Int) ∧ F' 4 = .int .i64 0 ∧ F' 5 = .pointer (some ⟨g2, 0, none⟩) ∧ F' 6 = .int .i64 (((List.getD (join 14 [b]) (i / 8) 0).toNat / 2 ^ (k - i % 8) : Nat) : Int) ∧ F' 7 = .int .i64 ((k : Nat) : Int) ∧ F' 19 = .bool false) ⟨e0, e1, e4, e5, e6, e7, rfl⟩ ?_
    clear e0 e1 e4 e5 e6 e7
    clear F
    rintro F ⟨e0, e1, e4, e5, e6, e7, e19⟩
    refine wp_cond_false (fr_eval rfl e19) ?_
    refine wp_exit ?_
    refine then_exit ?_
    refine then_exit ?_
    refine blk_exit ?_
    refine then_n ?_
    refine wp_seq ?_
    refine wp_regionF ?_
    refine lf_val (v := .int .i64 (((List.getD (join 14 [b]) (i / 8) 0).toNat / 2 ^ (k - i % 8) : Nat) : Int)) (wantAll rfl) (rv_move rfl (fr_eval rfl e6)) ?_
    refine lf_val (v := .int .i64 (((List.getD (join 14 [b]) (i / 8) 0).toNat / 2 ^ (k - i % 8) % 2 : Nat) : Int)) (wantAll rfl) (rv_rem rfl (fr_eval rfl rfl) rfl (by decide) (rem_nat _ 2)) ?_
    refine lf_val (v := .int .i64 (((List.getD (join 14 [b]) (i / 8) 0).toNat / 2 ^ (k - i % 8) % 2 : Nat) : Int)) (wantAll rfl) (rv_assign rfl (fr_eval rfl rfl)) ?_
    refine lf_nil ?_
    refine then_n ?_
    refine wp_gen (fun F' => F' 0 = v ∧ F' 1 = .int .i64 ((i : Nat) : Int) ∧ F' 4 = .int .i64 (((List.getD (join 14 [b]) (i / 8) 0).toNat / 2 ^ (k - i % 8) % 2 : Nat) : Int) ∧ F' 5 = .pointer (some ⟨g2, 0, none⟩) ∧ F' 6 = .int .i64 (((List.getD (join 14 [b]) (i / 8) 0).toNat / 2 ^ (k - i % 8) : Nat) : Int) ∧ F' 7 = .int .i64 ((k : Nat) : Int) ∧ F' 19 = .bool false) ⟨e0, e1, rfl, e5, e6, e7, e19⟩ ?_
    clear e0 e1 e4 e5 e6 e7 e19
    clear F
    rintro F ⟨e0, e1, e4, e5, e6, e7, e19⟩
    refine wp_ret ?_
    exact bodyPost_ret (v := (.int .i64 (((List.getD (join 14 [b]) (i / 8) 0).toNat / 2 ^ (k - i % 8) % 2 : Nat) : Int))) (res1 rfl (ro_tmp rfl e4)) rfl (⟨(by have hk : k = 7 := (by omega); subst hk; rfl), hC⟩)

theorem and1_id {b : Int} (h : 0 ≤ b ∧ b ≤ 1) : bitsOf .and .i64 b 1 = b := by
  obtain ⟨n, rfl⟩ : ∃ n : Nat, b = n := ⟨b.toNat, by omega⟩
  rw [and1_nat n (by omega)]; omega

set_option maxRecDepth 100000 in
set_option maxHeartbeats 4000000 in
theorem lamportSecrets_walk (s : List UInt8) (hs : s.length = 32) (n : Int) (hn : -9223372036854775808 ≤ n ∧ n ≤ 9223372036854775807) (b : Int) (hb : -9223372036854775808 ≤ b ∧ b ≤ 9223372036854775807) (w : World) :
    Calls Try.prog 14 #[.agg (cBs s).toArray, .int .i64 n, .int .i64 b] w fun e w' => e = .returned (.bool true) ∧ Below w.heap.size w w' := by
  refine calls_fr (args := [.agg (cBs s).toArray, .int .i64 n, .int .i64 b]) (n := 50) Try.func14 rfl rfl (show 3 ≤ 50 by decide) ?_
  have hC : Ext w w := Chg.refl _ _
  refine wp_seq ?_
  refine wp_gen (fun F' => F' 0 = .agg (cBs s).toArray ∧ F' 1 = .int .i64 n ∧ F' 2 = .int .i64 b) ⟨rfl, rfl, rfl⟩ ?_
  rintro F ⟨e0, e1, e2⟩
  refine wp_regionF ?_
  refine lf_ex (wantAll rfl) (ex_boxG 26 (.tmp 0) (cs := cBs s) (fr_eval rfl e0) (by rfl) rfl) ?_
  rintro _ w1 ⟨g1, hg_g1, rfl, h_g1, hx⟩
  have ge_g1 : w.heap.size ≤ g1 := by have := hC.size; omega
  replace hC := hC.trans hx
  clear hx hg_g1
  refine lf_val (v := .bool false) (wantAll rfl) (rv_assign rfl rfl) ?_
  refine lf_nil ?_
  refine then_n ?_
  refine wp_seq ?_
  refine wp_gen (fun F' => F' 0 = .agg (cBs s).toArray ∧ F' 1 = .int .i64 n ∧ F' 2 = .int .i64 b ∧ F' 3 = .pointer (some ⟨g1, 0, none⟩) ∧ F' 6 = .bool false) ⟨e0, e1, e2, rfl, rfl⟩ ?_
  clear e0 e1 e2
  clear F
  rintro F ⟨e0, e1, e2, e3, e6⟩
  refine wp_regionF ?_
  refine lf_val (v := .agg (cBs s).toArray) (wantAll rfl) (rv_loadW rfl h_g1 (fr_eval rfl e3) Try.underlying26 rfl (sz_len Try.sz26 (cBs_len hs))) ?_
  refine lf_val (v := .int .i64 n) (wantAll rfl) (rv_move rfl (fr_eval rfl e1)) ?_
  refine lf_val (v := .int .i64 b) (wantAll rfl) (rv_move rfl (fr_eval rfl e2)) ?_
  refine lf_call (wantAll rfl) (rv_call (args := [.agg (cBs s).toArray, .int .i64 n, .int .i64 b]) rfl (evc (fr_eval rfl rfl) (evc (fr_eval rfl rfl) (evc (fr_eval rfl rfl) evn))) Try.call47) (secretL_calls s hs n b _) ?_
  rintro _ w2 ⟨rfl, hx⟩
  refine ⟨_, rfl, ?_⟩
  replace hC := hC.trans hx
  replace h_g1 := Blk.ext h_g1 hx
  clear hx
  refine lf_ex (wantAll rfl) (ex_allocG 26 (z := .agg (cBs (List.replicate 32 0)).toArray) (n := 32) (cs := cBs (List.replicate 32 0)) (by kernel_rfl) (by rfl) rfl) ?_
  rintro _ w3 ⟨g2, hg_g2, rfl, h_g2, hx⟩
  have ge_g2 : w.heap.size ≤ g2 := by have := hC.size; omega
  have lt_g1_g2 : g1 < g2 := by have := Blk.lt h_g1; omega
  replace hC := hC.trans hx
  replace h_g1 := Blk.ext h_g1 hx
  clear hx hg_g2
  refine lf_sk (wantAll rfl) (ex_storeW (cs := cBs (sec s n (bitsOf .and .i64 b 1))) rfl h_g2 (fr_eval rfl rfl) (fr_eval rfl rfl) (sz_len Try.sz26 (cBs_len sec_len)) (((cBs_len (List.length_replicate ..))).trans ((cBs_len sec_len)).symm) (cBs_one _)) ?_
  rintro w4 ⟨h_g2', hx⟩
  replace h_g2' : Blk w4 g2 (cBs (sec s n (bitsOf .and .i64 b 1))) 26 := h_g2'
  replace h_g1 := Blk.keep h_g1 hx (fun e => by have e : g1 = g2 := e; omega)
  replace hC := Chg.then hC hx (fun i hi e => absurd hi (by have e : i = g2 := e; omega))
  replace h_g2 := h_g2'
  clear h_g2'
  clear hx
  refine lf_nil ?_
  refine then_n ?_
  refine wp_seq ?_
  refine wp_seq ?_
  refine wp_gen (fun F' => F' 0 = .agg (cBs s).toArray ∧ F' 1 = .int .i64 n ∧ F' 2 = .int .i64 b ∧ F' 3 = .pointer (some ⟨g1, 0, none⟩) ∧ F' 6 = .bool false ∧ F' 7 = .pointer (some ⟨g2, 0, none⟩)) ⟨e0, e1, e2, e3, e6, rfl⟩ ?_
  clear e0 e1 e2 e3 e6
  clear F
  rintro F ⟨e0, e1, e2, e3, e6, e7⟩
  refine wp_regionF ?_
  refine lf_val (v := .int .i64 n) (wantAll rfl) (rv_move rfl (fr_eval rfl e1)) ?_
  by_cases hc1 : n < 0
  · refine lf_val (v := .bool true) (wantAll rfl) (rv_lss rfl (fr_eval rfl rfl) rfl (decide_eq_true (by omega))) ?_
    refine lf_val (v := .bool true) (wantAll rfl) (rv_move rfl (fr_eval rfl rfl)) ?_
    refine lf_not (wantNot (d := 14) rfl (by kernel_rfl) rfl rfl) ?_
    refine lf_not (wantNot (d := 14) rfl (by kernel_rfl) rfl rfl) ?_
    refine lf_val (v := .bool true) (wantAll rfl) (rv_pickT rfl (fr_eval rfl rfl) rfl) ?_
    refine lf_val (v := .bool true) (wantAll rfl) (rv_move rfl (fr_eval rfl rfl)) ?_
    refine lf_not (wantNot (d := 18) rfl (by kernel_rfl) rfl rfl) ?_
    refine lf_not (wantNot (d := 18) rfl (by kernel_rfl) rfl rfl) ?_
    refine lf_val (v := .bool true) (wantAll rfl) (rv_pickT rfl (fr_eval rfl rfl) rfl) ?_
    refine lf_val (v := .bool true) (wantAll rfl) (rv_move rfl (fr_eval rfl rfl)) ?_
    refine lf_not (wantNot (d := 22) rfl (by kernel_rfl) rfl rfl) ?_
    refine lf_not (wantNot (d := 22) rfl (by kernel_rfl) rfl rfl) ?_
    refine lf_val (v := .bool true) (wantAll rfl) (rv_pickT rfl (fr_eval rfl rfl) rfl) ?_
    refine lf_nil ?_
    refine then_n ?_
    refine wp_gen (fun F' => F' 0 = .agg (cBs s).toArray ∧ F' 1 = .int .i64 n ∧ F' 2 = .int .i64 b ∧ F' 3 = .pointer (some ⟨g1, 0, none⟩) ∧ F' 6 = .bool false ∧ F' 7 = .pointer (some ⟨g2, 0, none⟩) ∧ F' 25 = .bool true) ⟨e0, e1, e2, e3, e6, e7, rfl⟩ ?_
    clear e0 e1 e2 e3 e6 e7
    clear F
    rintro F ⟨e0, e1, e2, e3, e6, e7, e25⟩
    refine wp_cond_true (fr_eval rfl e25) ?_
    refine wp_seq ?_
    refine wp_regionX (fun _ => False) 8 (by kernel_rfl) (by kernel_rfl) ?_
    refine xl_take (i := 0) (v := .agg (cBs (sec s n (bitsOf .and .i64 b 1))).toArray) rfl (by kernel_rfl) (by kernel_rfl) (by kernel_rfl) (by kernel_rfl) (yx_val (wantAll rfl) (fun w' hx' => rv_loadW rfl (Blk.ext h_g2 hx') (fr_eval rfl e7) Try.underlying26 rfl (sz_len Try.sz26 (cBs_len sec_len)))) ?_
    refine xl_take (i := 1) (v := .agg (cBs (shw (sec s n (bitsOf .and .i64 b 1)))).toArray) rfl (by kernel_rfl) (by kernel_rfl) (by kernel_rfl) (by kernel_rfl) (yx_call (wantAll rfl) (fun w' => rv_call (args := [.agg (cBs (sec s n (bitsOf .and .i64 b 1))).toArray]) rfl (evc (fr_eval rfl rfl) evn) Try.call48) (fun w' hx' => shown_calls (sec s n (bitsOf .and .i64 b 1)) sec_len _)) ?_
    refine xl_take (i := 2) (v := .agg (cBs (sec s n (bitsOf .and .i64 b 1))).toArray) rfl (by kernel_rfl) (by kernel_rfl) (by kernel_rfl) (by kernel_rfl) (yx_val (wantAll rfl) (fun w' hx' => rv_loadW rfl (Blk.ext h_g2 hx') (fr_eval rfl e7) Try.underlying26 rfl (sz_len Try.sz26 (cBs_len sec_len)))) ?_
    refine xl_take (i := 3) (v := .agg (cBs (shw (sec s n (bitsOf .and .i64 b 1)))).toArray) rfl (by kernel_rfl) (by kernel_rfl) (by kernel_rfl) (by kernel_rfl) (yx_call (wantAll rfl) (fun w' => rv_call (args := [.agg (cBs (sec s n (bitsOf .and .i64 b 1))).toArray]) rfl (evc (fr_eval rfl rfl) evn) Try.call40) (fun w' hx' => shown04_calls (sec s n (bitsOf .and .i64 b 1)) sec_len _)) ?_
    refine xl_take (i := 4) (v := .bool true) rfl (by kernel_rfl) (by kernel_rfl) (by kernel_rfl) (by kernel_rfl) (yx_val (wantAll rfl) (fun w' hx' => eqT rfl (fr_eval rfl rfl) (fr_eval rfl rfl) shw_len shw_len (b := true) (by simp))) ?_
    refine xl_take (i := 5) (v := .bool true) rfl (by kernel_rfl) (by kernel_rfl) (by kernel_rfl) (by kernel_rfl) (yx_val (wantAll rfl) (fun w' hx' => rv_move rfl (fr_eval rfl rfl))) ?_
    refine xl_take (i := 6) (v := .bool true) rfl (by kernel_rfl) (by kernel_rfl) (by kernel_rfl) (by kernel_rfl) (yx_call (wantF (d := 31) rfl (by kernel_rfl) rfl rfl) (fun w' => rv_call (args := []) rfl evn Try.call46) (fun w' hx' => awake04_calls _)) ?_
    refine xl_take (i := 7) (v := .bool true) rfl (by kernel_rfl) (by kernel_rfl) (by kernel_rfl) (by kernel_rfl) (yx_val (wantAll rfl) (fun w' hx' => rv_pickT rfl (fr_eval rfl rfl) (fr_eval rfl rfl))) ?_
    refine xl_tail (s := 8) rfl ?_
    intro w5 hx
    replace hC := hC.trans hx
    replace h_g1 := Blk.ext h_g1 hx
    replace h_g2 := Blk.ext h_g2 hx
    clear hx
    refine lf_val (v := .bool true) (wantAll rfl) (rv_assign rfl (fr_eval rfl rfl)) ?_
    refine lf_nil ?_
    refine then_n ?_
    refine wp_gen (fun F' => F' 0 = .agg (cBs s).toArray ∧ F' 1 = .int .i64 n ∧ F' 2 = .int .i64 b ∧ F' 3 = .pointer (some ⟨g1, 0, none⟩) ∧ F' 6 = .bool true ∧ F' 7 = .pointer (some ⟨g2, 0, none⟩) ∧ F' 25 = .bool true) ⟨e0, e1, e2, e3, rfl, e7, e25⟩ ?_
    clear e0 e1 e2 e3 e6 e7 e25
    clear F
    rintro F ⟨e0, e1, e2, e3, e6, e7, e25⟩
    refine wp_ret ?_
    refine then_ret ?_
    exact bodyPost_ret (v := (.bool true)) (res1 rfl (ro_tmp rfl e6)) rfl (⟨rfl, Ext.below hC⟩)
  · refine lf_val (v := .bool false) (wantAll rfl) (rv_lss rfl (fr_eval rfl rfl) rfl (decide_eq_false (by omega))) ?_
    refine lf_val (v := .bool false) (wantAll rfl) (rv_move rfl (fr_eval rfl rfl)) ?_
    refine lf_val (v := .int .i64 n) (wantF (d := 14) rfl (by kernel_rfl) rfl rfl) (rv_move rfl (fr_eval rfl e1)) ?_
    by_cases hc2 : n > 255
    · refine lf_val (v := .bool true) (wantF (d := 14) rfl (by kernel_rfl) rfl rfl) (rv_gtr rfl (fr_eval rfl rfl) rfl (decide_eq_true (by omega))) ?_
      refine lf_val (v := .bool true) (wantAll rfl) (rv_pickF rfl (fr_eval rfl rfl) (fr_eval rfl rfl)) ?_
      refine lf_val (v := .bool true) (wantAll rfl) (rv_move rfl (fr_eval rfl rfl)) ?_
      refine lf_not (wantNot (d := 18) rfl (by kernel_rfl) rfl rfl) ?_
      refine lf_not (wantNot (d := 18) rfl (by kernel_rfl) rfl rfl) ?_
      refine lf_val (v := .bool true) (wantAll rfl) (rv_pickT rfl (fr_eval rfl rfl) rfl) ?_
      refine lf_val (v := .bool true) (wantAll rfl) (rv_move rfl (fr_eval rfl rfl)) ?_
      refine lf_not (wantNot (d := 22) rfl (by kernel_rfl) rfl rfl) ?_
      refine lf_not (wantNot (d := 22) rfl (by kernel_rfl) rfl rfl) ?_
      refine lf_val (v := .bool true) (wantAll rfl) (rv_pickT rfl (fr_eval rfl rfl) rfl) ?_
      refine lf_nil ?_
      refine then_n ?_
      refine wp_gen (fun F' => F' 0 = .agg (cBs s).toArray ∧ F' 1 = .int .i64 n ∧ F' 2 = .int .i64 b ∧ F' 3 = .pointer (some ⟨g1, 0, none⟩) ∧ F' 6 = .bool false ∧ F' 7 = .pointer (some ⟨g2, 0, none⟩) ∧ F' 25 = .bool true) ⟨e0, e1, e2, e3, e6, e7, rfl⟩ ?_
      clear e0 e1 e2 e3 e6 e7
      clear F
      rintro F ⟨e0, e1, e2, e3, e6, e7, e25⟩
      refine wp_cond_true (fr_eval rfl e25) ?_
      refine wp_seq ?_
      refine wp_regionX (fun _ => False) 8 (by kernel_rfl) (by kernel_rfl) ?_
      refine xl_take (i := 0) (v := .agg (cBs (sec s n (bitsOf .and .i64 b 1))).toArray) rfl (by kernel_rfl) (by kernel_rfl) (by kernel_rfl) (by kernel_rfl) (yx_val (wantAll rfl) (fun w' hx' => rv_loadW rfl (Blk.ext h_g2 hx') (fr_eval rfl e7) Try.underlying26 rfl (sz_len Try.sz26 (cBs_len sec_len)))) ?_
      refine xl_take (i := 1) (v := .agg (cBs (shw (sec s n (bitsOf .and .i64 b 1)))).toArray) rfl (by kernel_rfl) (by kernel_rfl) (by kernel_rfl) (by kernel_rfl) (yx_call (wantAll rfl) (fun w' => rv_call (args := [.agg (cBs (sec s n (bitsOf .and .i64 b 1))).toArray]) rfl (evc (fr_eval rfl rfl) evn) Try.call48) (fun w' hx' => shown_calls (sec s n (bitsOf .and .i64 b 1)) sec_len _)) ?_
      refine xl_take (i := 2) (v := .agg (cBs (sec s n (bitsOf .and .i64 b 1))).toArray) rfl (by kernel_rfl) (by kernel_rfl) (by kernel_rfl) (by kernel_rfl) (yx_val (wantAll rfl) (fun w' hx' => rv_loadW rfl (Blk.ext h_g2 hx') (fr_eval rfl e7) Try.underlying26 rfl (sz_len Try.sz26 (cBs_len sec_len)))) ?_
      refine xl_take (i := 3) (v := .agg (cBs (shw (sec s n (bitsOf .and .i64 b 1)))).toArray) rfl (by kernel_rfl) (by kernel_rfl) (by kernel_rfl) (by kernel_rfl) (yx_call (wantAll rfl) (fun w' => rv_call (args := [.agg (cBs (sec s n (bitsOf .and .i64 b 1))).toArray]) rfl (evc (fr_eval rfl rfl) evn) Try.call40) (fun w' hx' => shown04_calls (sec s n (bitsOf .and .i64 b 1)) sec_len _)) ?_
      refine xl_take (i := 4) (v := .bool true) rfl (by kernel_rfl) (by kernel_rfl) (by kernel_rfl) (by kernel_rfl) (yx_val (wantAll rfl) (fun w' hx' => eqT rfl (fr_eval rfl rfl) (fr_eval rfl rfl) shw_len shw_len (b := true) (by simp))) ?_
      refine xl_take (i := 5) (v := .bool true) rfl (by kernel_rfl) (by kernel_rfl) (by kernel_rfl) (by kernel_rfl) (yx_val (wantAll rfl) (fun w' hx' => rv_move rfl (fr_eval rfl rfl))) ?_
      refine xl_take (i := 6) (v := .bool true) rfl (by kernel_rfl) (by kernel_rfl) (by kernel_rfl) (by kernel_rfl) (yx_call (wantF (d := 31) rfl (by kernel_rfl) rfl rfl) (fun w' => rv_call (args := []) rfl evn Try.call46) (fun w' hx' => awake04_calls _)) ?_
      refine xl_take (i := 7) (v := .bool true) rfl (by kernel_rfl) (by kernel_rfl) (by kernel_rfl) (by kernel_rfl) (yx_val (wantAll rfl) (fun w' hx' => rv_pickT rfl (fr_eval rfl rfl) (fr_eval rfl rfl))) ?_
      refine xl_tail (s := 8) rfl ?_
      intro w6 hx
      replace hC := hC.trans hx
      replace h_g1 := Blk.ext h_g1 hx
      replace h_g2 := Blk.ext h_g2 hx
      clear hx
      refine lf_val (v := .bool true) (wantAll rfl) (rv_assign rfl (fr_eval rfl rfl)) ?_
      refine lf_nil ?_
      refine then_n ?_
      refine wp_gen (fun F' => F' 0 = .agg (cBs s).toArray ∧ F' 1 = .int .i64 n ∧ F' 2 = .int .i64 b ∧ F' 3 = .pointer (some ⟨g1, 0, none⟩) ∧ F' 6 = .bool true ∧ F' 7 = .pointer (some ⟨g2, 0, none⟩) ∧ F' 25 = .bool true) ⟨e0, e1, e2, e3, rfl, e7, e25⟩ ?_
      clear e0 e1 e2 e3 e6 e7 e25
      clear F
      rintro F ⟨e0, e1, e2, e3, e6, e7, e25⟩
      refine wp_ret ?_
      refine then_ret ?_
      exact bodyPost_ret (v := (.bool true)) (res1 rfl (ro_tmp rfl e6)) rfl (⟨rfl, Ext.below hC⟩)
    · refine lf_val (v := .bool false) (wantF (d := 14) rfl (by kernel_rfl) rfl rfl) (rv_gtr rfl (fr_eval rfl rfl) rfl (decide_eq_false (by omega))) ?_
      refine lf_val (v := .bool false) (wantAll rfl) (rv_pickF rfl (fr_eval rfl rfl) (fr_eval rfl rfl)) ?_
      refine lf_val (v := .bool false) (wantAll rfl) (rv_move rfl (fr_eval rfl rfl)) ?_
      refine lf_val (v := .int .i64 b) (wantF (d := 18) rfl (by kernel_rfl) rfl rfl) (rv_move rfl (fr_eval rfl e2)) ?_
      by_cases hc3 : b < 0
      · refine lf_val (v := .bool true) (wantF (d := 18) rfl (by kernel_rfl) rfl rfl) (rv_lss rfl (fr_eval rfl rfl) rfl (decide_eq_true (by omega))) ?_
        refine lf_val (v := .bool true) (wantAll rfl) (rv_pickF rfl (fr_eval rfl rfl) (fr_eval rfl rfl)) ?_
        refine lf_val (v := .bool true) (wantAll rfl) (rv_move rfl (fr_eval rfl rfl)) ?_
        refine lf_not (wantNot (d := 22) rfl (by kernel_rfl) rfl rfl) ?_
        refine lf_not (wantNot (d := 22) rfl (by kernel_rfl) rfl rfl) ?_
        refine lf_val (v := .bool true) (wantAll rfl) (rv_pickT rfl (fr_eval rfl rfl) rfl) ?_
        refine lf_nil ?_
        refine then_n ?_
        refine wp_gen (fun F' => F' 0 = .agg (cBs s).toArray ∧ F' 1 = .int .i64 n ∧ F' 2 = .int .i64 b ∧ F' 3 = .pointer (some ⟨g1, 0, none⟩) ∧ F' 6 = .bool false ∧ F' 7 = .pointer (some ⟨g2, 0, none⟩) ∧ F' 25 = .bool true) ⟨e0, e1, e2, e3, e6, e7, rfl⟩ ?_
        clear e0 e1 e2 e3 e6 e7
        clear F
        rintro F ⟨e0, e1, e2, e3, e6, e7, e25⟩
        refine wp_cond_true (fr_eval rfl e25) ?_
        refine wp_seq ?_
        refine wp_regionX (fun _ => False) 8 (by kernel_rfl) (by kernel_rfl) ?_
        refine xl_take (i := 0) (v := .agg (cBs (sec s n (bitsOf .and .i64 b 1))).toArray) rfl (by kernel_rfl) (by kernel_rfl) (by kernel_rfl) (by kernel_rfl) (yx_val (wantAll rfl) (fun w' hx' => rv_loadW rfl (Blk.ext h_g2 hx') (fr_eval rfl e7) Try.underlying26 rfl (sz_len Try.sz26 (cBs_len sec_len)))) ?_
        refine xl_take (i := 1) (v := .agg (cBs (shw (sec s n (bitsOf .and .i64 b 1)))).toArray) rfl (by kernel_rfl) (by kernel_rfl) (by kernel_rfl) (by kernel_rfl) (yx_call (wantAll rfl) (fun w' => rv_call (args := [.agg (cBs (sec s n (bitsOf .and .i64 b 1))).toArray]) rfl (evc (fr_eval rfl rfl) evn) Try.call48) (fun w' hx' => shown_calls (sec s n (bitsOf .and .i64 b 1)) sec_len _)) ?_
        refine xl_take (i := 2) (v := .agg (cBs (sec s n (bitsOf .and .i64 b 1))).toArray) rfl (by kernel_rfl) (by kernel_rfl) (by kernel_rfl) (by kernel_rfl) (yx_val (wantAll rfl) (fun w' hx' => rv_loadW rfl (Blk.ext h_g2 hx') (fr_eval rfl e7) Try.underlying26 rfl (sz_len Try.sz26 (cBs_len sec_len)))) ?_
        refine xl_take (i := 3) (v := .agg (cBs (shw (sec s n (bitsOf .and .i64 b 1)))).toArray) rfl (by kernel_rfl) (by kernel_rfl) (by kernel_rfl) (by kernel_rfl) (yx_call (wantAll rfl) (fun w' => rv_call (args := [.agg (cBs (sec s n (bitsOf .and .i64 b 1))).toArray]) rfl (evc (fr_eval rfl rfl) evn) Try.call40) (fun w' hx' => shown04_calls (sec s n (bitsOf .and .i64 b 1)) sec_len _)) ?_
        refine xl_take (i := 4) (v := .bool true) rfl (by kernel_rfl) (by kernel_rfl) (by kernel_rfl) (by kernel_rfl) (yx_val (wantAll rfl) (fun w' hx' => eqT rfl (fr_eval rfl rfl) (fr_eval rfl rfl) shw_len shw_len (b := true) (by simp))) ?_
        refine xl_take (i := 5) (v := .bool true) rfl (by kernel_rfl) (by kernel_rfl) (by kernel_rfl) (by kernel_rfl) (yx_val (wantAll rfl) (fun w' hx' => rv_move rfl (fr_eval rfl rfl))) ?_
        refine xl_take (i := 6) (v := .bool true) rfl (by kernel_rfl) (by kernel_rfl) (by kernel_rfl) (by kernel_rfl) (yx_call (wantF (d := 31) rfl (by kernel_rfl) rfl rfl) (fun w' => rv_call (args := []) rfl evn Try.call46) (fun w' hx' => awake04_calls _)) ?_
        refine xl_take (i := 7) (v := .bool true) rfl (by kernel_rfl) (by kernel_rfl) (by kernel_rfl) (by kernel_rfl) (yx_val (wantAll rfl) (fun w' hx' => rv_pickT rfl (fr_eval rfl rfl) (fr_eval rfl rfl))) ?_
        refine xl_tail (s := 8) rfl ?_
        intro w7 hx
        replace hC := hC.trans hx
        replace h_g1 := Blk.ext h_g1 hx
        replace h_g2 := Blk.ext h_g2 hx
        clear hx
        refine lf_val (v := .bool true) (wantAll rfl) (rv_assign rfl (fr_eval rfl rfl)) ?_
        refine lf_nil ?_
        refine then_n ?_
        refine wp_gen (fun F' => F' 0 = .agg (cBs s).toArray ∧ F' 1 = .int .i64 n ∧ F' 2 = .int .i64 b ∧ F' 3 = .pointer (some ⟨g1, 0, none⟩) ∧ F' 6 = .bool true ∧ F' 7 = .pointer (some ⟨g2, 0, none⟩) ∧ F' 25 = .bool true) ⟨e0, e1, e2, e3, rfl, e7, e25⟩ ?_
        clear e0 e1 e2 e3 e6 e7 e25
        clear F
        rintro F ⟨e0, e1, e2, e3, e6, e7, e25⟩
        refine wp_ret ?_
        refine then_ret ?_
        exact bodyPost_ret (v := (.bool true)) (res1 rfl (ro_tmp rfl e6)) rfl (⟨rfl, Ext.below hC⟩)
      · refine lf_val (v := .bool false) (wantF (d := 18) rfl (by kernel_rfl) rfl rfl) (rv_lss rfl (fr_eval rfl rfl) rfl (decide_eq_false (by omega))) ?_
        refine lf_val (v := .bool false) (wantAll rfl) (rv_pickF rfl (fr_eval rfl rfl) (fr_eval rfl rfl)) ?_
        refine lf_val (v := .bool false) (wantAll rfl) (rv_move rfl (fr_eval rfl rfl)) ?_
        refine lf_val (v := .int .i64 b) (wantF (d := 22) rfl (by kernel_rfl) rfl rfl) (rv_move rfl (fr_eval rfl e2)) ?_
        by_cases hc4 : b > 1
        · refine lf_val (v := .bool true) (wantF (d := 22) rfl (by kernel_rfl) rfl rfl) (rv_gtr rfl (fr_eval rfl rfl) rfl (decide_eq_true (by omega))) ?_
          refine lf_val (v := .bool true) (wantAll rfl) (rv_pickF rfl (fr_eval rfl rfl) (fr_eval rfl rfl)) ?_
          refine lf_nil ?_
          refine then_n ?_
          refine wp_gen (fun F' => F' 0 = .agg (cBs s).toArray ∧ F' 1 = .int .i64 n ∧ F' 2 = .int .i64 b ∧ F' 3 = .pointer (some ⟨g1, 0, none⟩) ∧ F' 6 = .bool false ∧ F' 7 = .pointer (some ⟨g2, 0, none⟩) ∧ F' 25 = .bool true) ⟨e0, e1, e2, e3, e6, e7, rfl⟩ ?_
          clear e0 e1 e2 e3 e6 e7
          clear F
          rintro F ⟨e0, e1, e2, e3, e6, e7, e25⟩
          refine wp_cond_true (fr_eval rfl e25) ?_
          refine wp_seq ?_
          refine wp_regionX (fun _ => False) 8 (by kernel_rfl) (by kernel_rfl) ?_
          refine xl_take (i := 0) (v := .agg (cBs (sec s n (bitsOf .and .i64 b 1))).toArray) rfl (by kernel_rfl) (by kernel_rfl) (by kernel_rfl) (by kernel_rfl) (yx_val (wantAll rfl) (fun w' hx' => rv_loadW rfl (Blk.ext h_g2 hx') (fr_eval rfl e7) Try.underlying26 rfl (sz_len Try.sz26 (cBs_len sec_len)))) ?_
          refine xl_take (i := 1) (v := .agg (cBs (shw (sec s n (bitsOf .and .i64 b 1)))).toArray) rfl (by kernel_rfl) (by kernel_rfl) (by kernel_rfl) (by kernel_rfl) (yx_call (wantAll rfl) (fun w' => rv_call (args := [.agg (cBs (sec s n (bitsOf .and .i64 b 1))).toArray]) rfl (evc (fr_eval rfl rfl) evn) Try.call48) (fun w' hx' => shown_calls (sec s n (bitsOf .and .i64 b 1)) sec_len _)) ?_
          refine xl_take (i := 2) (v := .agg (cBs (sec s n (bitsOf .and .i64 b 1))).toArray) rfl (by kernel_rfl) (by kernel_rfl) (by kernel_rfl) (by kernel_rfl) (yx_val (wantAll rfl) (fun w' hx' => rv_loadW rfl (Blk.ext h_g2 hx') (fr_eval rfl e7) Try.underlying26 rfl (sz_len Try.sz26 (cBs_len sec_len)))) ?_
          refine xl_take (i := 3) (v := .agg (cBs (shw (sec s n (bitsOf .and .i64 b 1)))).toArray) rfl (by kernel_rfl) (by kernel_rfl) (by kernel_rfl) (by kernel_rfl) (yx_call (wantAll rfl) (fun w' => rv_call (args := [.agg (cBs (sec s n (bitsOf .and .i64 b 1))).toArray]) rfl (evc (fr_eval rfl rfl) evn) Try.call40) (fun w' hx' => shown04_calls (sec s n (bitsOf .and .i64 b 1)) sec_len _)) ?_
          refine xl_take (i := 4) (v := .bool true) rfl (by kernel_rfl) (by kernel_rfl) (by kernel_rfl) (by kernel_rfl) (yx_val (wantAll rfl) (fun w' hx' => eqT rfl (fr_eval rfl rfl) (fr_eval rfl rfl) shw_len shw_len (b := true) (by simp))) ?_
          refine xl_take (i := 5) (v := .bool true) rfl (by kernel_rfl) (by kernel_rfl) (by kernel_rfl) (by kernel_rfl) (yx_val (wantAll rfl) (fun w' hx' => rv_move rfl (fr_eval rfl rfl))) ?_
          refine xl_take (i := 6) (v := .bool true) rfl (by kernel_rfl) (by kernel_rfl) (by kernel_rfl) (by kernel_rfl) (yx_call (wantF (d := 31) rfl (by kernel_rfl) rfl rfl) (fun w' => rv_call (args := []) rfl evn Try.call46) (fun w' hx' => awake04_calls _)) ?_
          refine xl_take (i := 7) (v := .bool true) rfl (by kernel_rfl) (by kernel_rfl) (by kernel_rfl) (by kernel_rfl) (yx_val (wantAll rfl) (fun w' hx' => rv_pickT rfl (fr_eval rfl rfl) (fr_eval rfl rfl))) ?_
          refine xl_tail (s := 8) rfl ?_
          intro w8 hx
          replace hC := hC.trans hx
          replace h_g1 := Blk.ext h_g1 hx
          replace h_g2 := Blk.ext h_g2 hx
          clear hx
          refine lf_val (v := .bool true) (wantAll rfl) (rv_assign rfl (fr_eval rfl rfl)) ?_
          refine lf_nil ?_
          refine then_n ?_
          refine wp_gen (fun F' => F' 0 = .agg (cBs s).toArray ∧ F' 1 = .int .i64 n ∧ F' 2 = .int .i64 b ∧ F' 3 = .pointer (some ⟨g1, 0, none⟩) ∧ F' 6 = .bool true ∧ F' 7 = .pointer (some ⟨g2, 0, none⟩) ∧ F' 25 = .bool true) ⟨e0, e1, e2, e3, rfl, e7, e25⟩ ?_
          clear e0 e1 e2 e3 e6 e7 e25
          clear F
          rintro F ⟨e0, e1, e2, e3, e6, e7, e25⟩
          refine wp_ret ?_
          refine then_ret ?_
          exact bodyPost_ret (v := (.bool true)) (res1 rfl (ro_tmp rfl e6)) rfl (⟨rfl, Ext.below hC⟩)
        · refine lf_val (v := .bool false) (wantF (d := 22) rfl (by kernel_rfl) rfl rfl) (rv_gtr rfl (fr_eval rfl rfl) rfl (decide_eq_false (by omega))) ?_
          refine lf_val (v := .bool false) (wantAll rfl) (rv_pickF rfl (fr_eval rfl rfl) (fr_eval rfl rfl)) ?_
          refine lf_nil ?_
          refine then_n ?_
          refine wp_gen (fun F' => F' 0 = .agg (cBs s).toArray ∧ F' 1 = .int .i64 n ∧ F' 2 = .int .i64 b ∧ F' 3 = .pointer (some ⟨g1, 0, none⟩) ∧ F' 6 = .bool false ∧ F' 7 = .pointer (some ⟨g2, 0, none⟩) ∧ F' 25 = .bool false) ⟨e0, e1, e2, e3, e6, e7, rfl⟩ ?_
          clear e0 e1 e2 e3 e6 e7
          clear F
          rintro F ⟨e0, e1, e2, e3, e6, e7, e25⟩
          refine wp_cond_false (fr_eval rfl e25) ?_
          refine wp_skip ?_
          refine then_n ?_
          refine wp_seq ?_
          refine wp_regionX (fun _ => False) 16 (by kernel_rfl) (by kernel_rfl) ?_
          refine xl_take (i := 0) (v := .agg (cBs (sec s n (bitsOf .and .i64 b 1))).toArray) rfl (by kernel_rfl) (by kernel_rfl) (by kernel_rfl) (by kernel_rfl) (yx_val (wantAll rfl) (fun w' hx' => rv_loadW rfl (Blk.ext h_g2 hx') (fr_eval rfl e7) Try.underlying26 rfl (sz_len Try.sz26 (cBs_len sec_len)))) ?_
          refine xl_take (i := 1) (v := .agg (cBs s).toArray) rfl (by kernel_rfl) (by kernel_rfl) (by kernel_rfl) (by kernel_rfl) (yx_val (wantAll rfl) (fun w' hx' => rv_loadW rfl (Blk.ext h_g1 hx') (fr_eval rfl e3) Try.underlying26 rfl (sz_len Try.sz26 (cBs_len hs)))) ?_
          refine xl_take (i := 2) (v := .int .i64 n) rfl (by kernel_rfl) (by kernel_rfl) (by kernel_rfl) (by kernel_rfl) (yx_val (wantAll rfl) (fun w' hx' => rv_move rfl (fr_eval rfl e1))) ?_
          refine xl_take (i := 3) (v := .int .i64 b) rfl (by kernel_rfl) (by kernel_rfl) (by kernel_rfl) (by kernel_rfl) (yx_val (wantAll rfl) (fun w' hx' => rv_move rfl (fr_eval rfl e2))) ?_
          refine xl_take (i := 4) (v := .agg (cBs (sec s n b)).toArray) rfl (by kernel_rfl) (by kernel_rfl) (by kernel_rfl) (by kernel_rfl) (yx_call (wantAll rfl) (fun w' => rv_call (args := [.agg (cBs s).toArray, .int .i64 n, .int .i64 b]) rfl (evc (fr_eval rfl rfl) (evc (fr_eval rfl rfl) (evc (fr_eval rfl rfl) evn))) Try.call39) (fun w' hx' => secret04_calls s hs n b _)) ?_
          refine xl_take (i := 5) (v := .bool true) rfl (by kernel_rfl) (by kernel_rfl) (by kernel_rfl) (by kernel_rfl) (yx_val (wantAll rfl) (fun w' hx' => eqT rfl (fr_eval rfl rfl) (fr_eval rfl rfl) sec_len sec_len (b := true) (by rw [and1_id (by omega)]; simp))) ?_
          refine xl_take (i := 6) (v := .bool true) rfl (by kernel_rfl) (by kernel_rfl) (by kernel_rfl) (by kernel_rfl) (yx_val (wantAll rfl) (fun w' hx' => rv_move rfl (fr_eval rfl rfl))) ?_
          refine xl_take (i := 7) (v := .agg (cBs s).toArray) rfl (by kernel_rfl) (by kernel_rfl) (by kernel_rfl) (by kernel_rfl) (yx_val (wantF (d := 40) rfl (by kernel_rfl) rfl rfl) (fun w' hx' => rv_loadW rfl (Blk.ext h_g1 hx') (fr_eval rfl e3) Try.underlying26 rfl (sz_len Try.sz26 (cBs_len hs)))) ?_
          refine xl_take (i := 8) (v := .agg (cBs (shw s)).toArray) rfl (by kernel_rfl) (by kernel_rfl) (by kernel_rfl) (by kernel_rfl) (yx_call (wantF (d := 40) rfl (by kernel_rfl) rfl rfl) (fun w' => rv_call (args := [.agg (cBs s).toArray]) rfl (evc (fr_eval rfl rfl) evn) Try.call48) (fun w' hx' => shown_calls s hs _)) ?_
          refine xl_take (i := 9) (v := .agg (cBs s).toArray) rfl (by kernel_rfl) (by kernel_rfl) (by kernel_rfl) (by kernel_rfl) (yx_val (wantF (d := 40) rfl (by kernel_rfl) rfl rfl) (fun w' hx' => rv_loadW rfl (Blk.ext h_g1 hx') (fr_eval rfl e3) Try.underlying26 rfl (sz_len Try.sz26 (cBs_len hs)))) ?_
          refine xl_take (i := 10) (v := .agg (cBs (shw s)).toArray) rfl (by kernel_rfl) (by kernel_rfl) (by kernel_rfl) (by kernel_rfl) (yx_call (wantF (d := 40) rfl (by kernel_rfl) rfl rfl) (fun w' => rv_call (args := [.agg (cBs s).toArray]) rfl (evc (fr_eval rfl rfl) evn) Try.call40) (fun w' hx' => shown04_calls s hs _)) ?_
          refine xl_take (i := 11) (v := .bool true) rfl (by kernel_rfl) (by kernel_rfl) (by kernel_rfl) (by kernel_rfl) (yx_val (wantF (d := 40) rfl (by kernel_rfl) rfl rfl) (fun w' hx' => eqT rfl (fr_eval rfl rfl) (fr_eval rfl rfl) shw_len shw_len (b := true) (by simp))) ?_
          refine xl_take (i := 12) (v := .bool true) rfl (by kernel_rfl) (by kernel_rfl) (by kernel_rfl) (by kernel_rfl) (yx_val (wantAll rfl) (fun w' hx' => rv_pickT rfl (fr_eval rfl rfl) (fr_eval rfl rfl))) ?_
          refine xl_take (i := 13) (v := .bool true) rfl (by kernel_rfl) (by kernel_rfl) (by kernel_rfl) (by kernel_rfl) (yx_val (wantAll rfl) (fun w' hx' => rv_move rfl (fr_eval rfl rfl))) ?_
          refine xl_take (i := 14) (v := .bool true) rfl (by kernel_rfl) (by kernel_rfl) (by kernel_rfl) (by kernel_rfl) (yx_call (wantF (d := 47) rfl (by kernel_rfl) rfl rfl) (fun w' => rv_call (args := []) rfl evn Try.call46) (fun w' hx' => awake04_calls _)) ?_
          refine xl_take (i := 15) (v := .bool true) rfl (by kernel_rfl) (by kernel_rfl) (by kernel_rfl) (by kernel_rfl) (yx_val (wantAll rfl) (fun w' hx' => rv_pickT rfl (fr_eval rfl rfl) (fr_eval rfl rfl))) ?_
          refine xl_tail (s := 16) rfl ?_
          intro w9 hx
          replace hC := hC.trans hx
          replace h_g1 := Blk.ext h_g1 hx
          replace h_g2 := Blk.ext h_g2 hx
          clear hx
          refine lf_val (v := .bool true) (wantAll rfl) (rv_assign rfl (fr_eval rfl rfl)) ?_
          refine lf_nil ?_
          refine then_n ?_
          refine wp_gen (fun F' => F' 0 = .agg (cBs s).toArray ∧ F' 1 = .int .i64 n ∧ F' 2 = .int .i64 b ∧ F' 3 = .pointer (some ⟨g1, 0, none⟩) ∧ F' 6 = .bool true ∧ F' 7 = .pointer (some ⟨g2, 0, none⟩) ∧ F' 25 = .bool false) ⟨e0, e1, e2, e3, rfl, e7, e25⟩ ?_
          clear e0 e1 e2 e3 e6 e7 e25
          clear F
          rintro F ⟨e0, e1, e2, e3, e6, e7, e25⟩
          refine wp_ret ?_
          exact bodyPost_ret (v := (.bool true)) (res1 rfl (ro_tmp rfl e6)) rfl (⟨rfl, Ext.below hC⟩)

set_option maxRecDepth 100000 in
set_option maxHeartbeats 4000000 in
theorem lamportSigns_walk (s : List UInt8) (hs : s.length = 32) (b : List UInt8) (v : Value) {w : World} (hr0 : RdB w v b) :
    Calls Try.prog 12 #[.agg (cBs s).toArray, v] w fun e w' => e = .returned (.bool true) ∧ Below w.heap.size w w' := by
  refine calls_fr (args := [.agg (cBs s).toArray, v]) (n := 103) Try.func12 rfl rfl (show 2 ≤ 103 by decide) ?_
  have hC : Ext w w := Chg.refl _ _
  have hr := hr0
  refine wp_seq ?_
  refine wp_gen (fun F' => F' 0 = .agg (cBs s).toArray ∧ F' 1 = v) ⟨rfl, rfl⟩ ?_
  rintro F ⟨e0, e1⟩
  refine wp_regionF ?_
  refine lf_ex (wantAll rfl) (ex_boxG 26 (.tmp 0) (cs := cBs s) (fr_eval rfl e0) (by rfl) rfl) ?_
  rintro _ w1 ⟨g1, hg_g1, rfl, h_g1, hx⟩
  have ge_g1 : w.heap.size ≤ g1 := by have := hC.size; omega
  replace hC := hC.trans hx
  replace hr := Rd.ext hr hx
  clear hx hg_g1
  refine lf_val (v := .bool false) (wantAll rfl) (rv_assign rfl rfl) ?_
  refine lf_nil ?_
  refine then_n ?_
  refine wp_seq ?_
  refine wp_gen (fun F' => F' 0 = .agg (cBs s).toArray ∧ F' 1 = v ∧ F' 2 = .pointer (some ⟨g1, 0, none⟩) ∧ F' 4 = .bool false) ⟨e0, e1, rfl, rfl⟩ ?_
  clear e0 e1
  clear F
  rintro F ⟨e0, e1, e2, e4⟩
  refine wp_regionF ?_
  refine lf_val (v := v) (wantAll rfl) (rv_move rfl (fr_eval rfl e1)) ?_
  refine lf_call (wantAll rfl) (rv_call (args := [v]) rfl (evc (fr_eval rfl rfl) evn) Try.call37) (cut04_calls b _ _ hr) ?_
  rintro _ w2 ⟨rfl, hx⟩
  refine ⟨_, rfl, ?_⟩
  replace hC := hC.trans hx
  replace hr := Rd.ext hr hx
  replace h_g1 := Blk.ext h_g1 hx
  clear hx
  refine lf_val (v := cutV v b 200) (wantAll rfl) (rv_assign rfl (fr_eval rfl rfl)) ?_
  refine lf_nil ?_
  refine then_n ?_
  refine wp_seq ?_
  refine wp_gen (fun F' => F' 0 = .agg (cBs s).toArray ∧ F' 1 = cutV v b 200 ∧ F' 2 = .pointer (some ⟨g1, 0, none⟩) ∧ F' 4 = .bool false) ⟨e0, rfl, e2, e4⟩ ?_
  clear e0 e1 e2 e4
  clear F
  rintro F ⟨e0, e1, e2, e4⟩
  refine wp_regionF ?_
  refine lf_val (v := .slice none 0 0) (wantAll rfl) (rv_assign rfl rfl) ?_
  refine lf_val (v := .slice none 0 0) (wantAll rfl) (rv_assign rfl rfl) ?_
  refine lf_nil ?_
  refine then_n ?_
  refine wp_seq ?_
  refine wp_seq ?_
  refine wp_gen (fun F' => F' 0 = .agg (cBs s).toArray ∧ F' 1 = cutV v b 200 ∧ F' 2 = .pointer (some ⟨g1, 0, none⟩) ∧ F' 4 = .bool false ∧ F' 5 = .slice none 0 0 ∧ F' 6 = .slice none 0 0) ⟨e0, e1, e2, e4, rfl, rfl⟩ ?_
  clear e0 e1 e2 e4
  clear F
  rintro F ⟨e0, e1, e2, e4, e5, e6⟩
  refine wp_regionF ?_
  refine lf_val (v := .int .i64 0) (wantAll rfl) (rv_assign rfl rfl) ?_
  refine lf_nil ?_
  refine then_n ?_
  refine wp_block ?_
  have hoa : OwnB w2 (.slice none 0 0) [] := OwnB.nil
  have ge_hoa : ∀ k, (Value.slice none 0 0).ownBlock = some k → w.heap.size ≤ k := ownBlock_nil
  have hos := hoa
  have ge_hos := ge_hoa
  refine wp_gen (fun F' => F' 0 = .agg (cBs s).toArray ∧ F' 1 = cutV v b 200 ∧ F' 2 = .pointer (some ⟨g1, 0, none⟩) ∧ F' 4 = .bool false ∧ F' 5 = .slice none 0 0 ∧ F' 6 = .slice none 0 0 ∧ F' 7 = .int .i64 0) ⟨e0, e1, e2, e4, e5, e6, rfl⟩ ?_
  clear e0 e1 e2 e4 e5 e6
  clear F
  rintro F ⟨e0, e1, e2, e4, e5, e6, e7⟩
  refine wp_loopF (fun m F wr => ∃ k : Nat, ∃ ya : Value, ∃ ys : Value, m = 64 - k ∧ k ≤ 64 ∧ (∀ i, ya.ownBlock = some i → ys.ownBlock ≠ some i) ∧ F 0 = .agg (cBs s).toArray ∧ F 1 = cutV v b 200 ∧ F 2 = .pointer (some ⟨g1, 0, none⟩) ∧ F 4 = .bool false ∧ F 5 = ya ∧ F 6 = ys ∧ F 7 = .int .i64 ((k : Nat) : Int) ∧ RdB wr v b ∧ Blk wr g1 (cBs s) 26 ∧ OwnB wr ya (pubs s (2 * k)) ∧ (∀ k, (ya : Value).ownBlock = some k → w.heap.size ≤ k) ∧ OwnB wr ys (sigs s (join 14 [List.take 200 b]) k) ∧ (∀ k, (ys : Value).ownBlock = some k → w.heap.size ≤ k) ∧ Ext w wr) ⟨0, _, _, rfl, Nat.zero_le _, (fun i h => by simp [Value.ownBlock] at h), e0, e1, e2, e4, e5, e6, e7, hr, h_g1, hoa, ge_hoa, hos, ge_hos, hC⟩ ?_
  clear e0 e1 e2 e4 e5 e6 e7 hr h_g1 hC
  clear F
  rintro m F w3 ⟨k, ya, ys, rfl, pk0, pk1, e0, e1, e2, e4, e5, e6, e7, hr, h_g1, hoa, ge_hoa, hos, ge_hos, hC⟩
  have dj_hoa_hos := pk1
  clear pk1
  refine wp_seq ?_
  refine wp_seq ?_
  refine wp_regionF ?_
  refine lf_val (v := .int .i64 ((k : Nat) : Int)) (wantAll rfl) (rv_move rfl (fr_eval rfl e7)) ?_
  by_cases hc1 : k < 64
  · refine lf_val (v := .bool true) (wantAll rfl) (rv_lss rfl (fr_eval rfl rfl) rfl (decide_eq_true (by omega))) ?_
    refine lf_nil ?_
    refine then_n ?_
    refine wp_gen (fun F' => F' 0 = .agg (cBs s).toArray ∧ F' 1 = cutV v b 200 ∧ F' 2 = .pointer (some ⟨g1, 0, none⟩) ∧ F' 4 = .bool false ∧ F' 5 = ya ∧ F' 6 = ys ∧ F' 7 = .int .i64 ((k : Nat) : Int) ∧ F' 20 = .bool true) ⟨e0, e1, e2, e4, e5, e6, e7, rfl⟩ ?_
    clear e0 e1 e2 e4 e5 e6 e7
    clear F
    rintro F ⟨e0, e1, e2, e4, e5, e6, e7, e20⟩
    refine wp_cond_true (fr_eval rfl e20) ?_
    refine wp_skip ?_
    refine then_n ?_
    refine wp_seq ?_
    refine wp_block ?_
    refine wp_seq ?_
    refine wp_regionF ?_
    refine lf_val (v := cutV v b 200) (wantAll rfl) (rv_move rfl (fr_eval rfl e1)) ?_
    refine lf_val (v := .int .i64 ((k : Nat) : Int)) (wantAll rfl) (rv_move rfl (fr_eval rfl e7)) ?_
    refine lf_call (wantAll rfl) (rv_call (args := [cutV v b 200, .int .i64 ((k : Nat) : Int)]) rfl (evc (fr_eval rfl rfl) (evc (fr_eval rfl rfl) evn)) Try.call38) (bit04_calls (List.take 200 b) (Nat.le_trans (List.length_take_le 200 b) (by decide)) k (by omega) _ _ (rdB_cut hr)) ?_
    rintro _ w4 ⟨rfl, hx⟩
    refine ⟨_, rfl, ?_⟩
    replace hC := hC.trans hx
    replace hr := Rd.ext hr hx
    replace h_g1 := Blk.ext h_g1 hx
    replace hoa := Own.ext hoa hx
    replace hos := Own.ext hos hx
    clear hx
    refine lf_val (v := .int .i64 ((bitN (join 14 [List.take 200 b]) k : Nat) : Int)) (wantAll rfl) (rv_assign rfl (fr_eval rfl rfl)) ?_
    refine lf_nil ?_
    refine then_n ?_
    refine wp_seq ?_
    refine wp_gen (fun F' => F' 0 = .agg (cBs s).toArray ∧ F' 1 = cutV v b 200 ∧ F' 2 = .pointer (some ⟨g1, 0, none⟩) ∧ F' 4 = .bool false ∧ F' 5 = ya ∧ F' 6 = ys ∧ F' 7 = .int .i64 ((k : Nat) : Int) ∧ F' 8 = .int .i64 ((bitN (join 14 [List.take 200 b]) k : Nat) : Int) ∧ F' 20 = .bool true) ⟨e0, e1, e2, e4, e5, e6, e7, rfl, e20⟩ ?_
    clear e0 e1 e2 e4 e5 e6 e7 e20
    clear F
    rintro F ⟨e0, e1, e2, e4, e5, e6, e7, e8, e20⟩
    have hbit := bitN_lt (join 14 [List.take 200 b]) k
    obtain ⟨B1, hB1⟩ : ∃ B, B = w4.heap.size := ⟨_, rfl⟩
    have hwB : w.heap.size ≤ B1 := by have := hC.size; omega
    have bl_g1 : g1 < B1 := by have := Blk.lt h_g1; omega
    replace hB1 : B1 ≤ w4.heap.size := by omega
    refine wp_regionX (fun k => B1 ≤ k ∨ ((Value.slice none 0 0).ownBlock = some k)) 13 (by kernel_rfl) (by kernel_rfl) ?_
    refine xl_take (i := 0) (v := .agg (cBs s).toArray) rfl (by kernel_rfl) (by kernel_rfl) (by kernel_rfl) (by kernel_rfl) (yx_val (wantAll rfl) (fun w' hx' => rv_loadW rfl (Blk.keep h_g1 hx' (fun e => Or.elim e (fun e => by have e : B1 ≤ g1 := e; omega) (fun e => absurd e (by simp [Value.ownBlock])))) (fr_eval rfl e2) Try.underlying26 rfl (sz_len Try.sz26 (cBs_len hs)))) ?_
    refine xl_take (i := 1) (v := .int .i64 ((k : Nat) : Int)) rfl (by kernel_rfl) (by kernel_rfl) (by kernel_rfl) (by kernel_rfl) (yx_val (wantAll rfl) (fun w' hx' => rv_move rfl (fr_eval rfl e7))) ?_
    refine xl_take (i := 2) (v := .int .i64 ((bitN (join 14 [List.take 200 b]) k : Nat) : Int)) rfl (by kernel_rfl) (by kernel_rfl) (by kernel_rfl) (by kernel_rfl) (yx_val (wantAll rfl) (fun w' hx' => rv_move rfl (fr_eval rfl e8))) ?_
    refine xl_take (i := 3) (v := .agg (cBs (secN s k (bitN (join 14 [List.take 200 b]) k))).toArray) rfl (by kernel_rfl) (by kernel_rfl) (by kernel_rfl) (by kernel_rfl) (yx_call (wantAll rfl) (fun w' => rv_call (args := [.agg (cBs s).toArray, .int .i64 ((k : Nat) : Int), .int .i64 ((bitN (join 14 [List.take 200 b]) k : Nat) : Int)]) rfl (evc (fr_eval rfl rfl) (evc (fr_eval rfl rfl) (evc (fr_eval rfl rfl) evn))) Try.call39) (fun w' hx' => secret04_calls s hs ((k : Nat) : Int) ((bitN (join 14 [List.take 200 b]) k : Nat) : Int) _)) ?_
    refine xl_take (i := 4) (v := .agg (cBs s).toArray) rfl (by kernel_rfl) (by kernel_rfl) (by kernel_rfl) (by kernel_rfl) (yx_val (wantAll rfl) (fun w' hx' => rv_loadW rfl (Blk.keep h_g1 hx' (fun e => Or.elim e (fun e => by have e : B1 ≤ g1 := e; omega) (fun e => absurd e (by simp [Value.ownBlock])))) (fr_eval rfl e2) Try.underlying26 rfl (sz_len Try.sz26 (cBs_len hs)))) ?_
    refine xl_take (i := 5) (v := .int .i64 ((k : Nat) : Int)) rfl (by kernel_rfl) (by kernel_rfl) (by kernel_rfl) (by kernel_rfl) (yx_val (wantAll rfl) (fun w' hx' => rv_move rfl (fr_eval rfl e7))) ?_
    refine xl_take (i := 6) (v := .int .i64 ((bitN (join 14 [List.take 200 b]) k : Nat) : Int)) rfl (by kernel_rfl) (by kernel_rfl) (by kernel_rfl) (by kernel_rfl) (yx_val (wantAll rfl) (fun w' hx' => rv_move rfl (fr_eval rfl e8))) ?_
    refine xl_take (i := 7) (v := .int .i64 ((1 - (bitN (join 14 [List.take 200 b]) k) : Nat) : Int)) rfl (by kernel_rfl) (by kernel_rfl) (by kernel_rfl) (by kernel_rfl) (yx_val (wantAll rfl) (fun w' hx' => rv_sub rfl rfl (fr_eval rfl rfl) (wrap_i64 (by omega) (by omega) (by omega)))) ?_
    refine xl_take (i := 8) (v := .agg (cBs (secN s k (1 - (bitN (join 14 [List.take 200 b]) k)))).toArray) rfl (by kernel_rfl) (by kernel_rfl) (by kernel_rfl) (by kernel_rfl) (yx_call (wantAll rfl) (fun w' => rv_call (args := [.agg (cBs s).toArray, .int .i64 ((k : Nat) : Int), .int .i64 ((1 - (bitN (join 14 [List.take 200 b]) k) : Nat) : Int)]) rfl (evc (fr_eval rfl rfl) (evc (fr_eval rfl rfl) (evc (fr_eval rfl rfl) evn))) Try.call39) (fun w' hx' => secret04_calls s hs ((k : Nat) : Int) ((1 - (bitN (join 14 [List.take 200 b]) k) : Nat) : Int) _)) ?_
    refine xl_take (i := 9) (v := .agg (cBs (shw (secN s k (1 - (bitN (join 14 [List.take 200 b]) k))))).toArray) rfl (by kernel_rfl) (by kernel_rfl) (by kernel_rfl) (by kernel_rfl) (yx_call (wantAll rfl) (fun w' => rv_call (args := [.agg (cBs (secN s k (1 - (bitN (join 14 [List.take 200 b]) k)))).toArray]) rfl (evc (fr_eval rfl rfl) evn) Try.call40) (fun w' hx' => shown04_calls (secN s k (1 - (bitN (join 14 [List.take 200 b]) k))) secN_len _)) ?_
    refine anyX_ready (rs := [10, 11]) (by kernel_rfl) ?_
    intro w5 hx
    replace hC := hC.trans hx
    replace hr := Rd.ext hr hx
    replace h_g1 := Blk.ext h_g1 hx
    replace hoa := Own.ext hoa hx
    replace hos := Own.ext hos hx
    replace hB1 : B1 ≤ w5.heap.size := by have := Chg.size hx; omega
    clear hx
    refine (anyX_cons ?_ (anyX_cons ?_ anyX_nil))
    · refine xl_step (i := 10) rfl (wantAll rfl) ?_
      refine of_ex (ex_allocG 26 (z := .agg (cBs (List.replicate 32 0)).toArray) (n := 32) (cs := cBs (List.replicate 32 0)) (by kernel_rfl) (by rfl) rfl) ?_
      rintro _ w6 ⟨g2, hg_g2, rfl, h_g2, hx⟩
      
      have hx0 := hx
      have ge_g2 : w.heap.size ≤ g2 := by have := hC.size; omega
      have lt_g1_g2 : g1 < g2 := by have := Blk.lt h_g1; omega
      have bge_g2 : B1 ≤ g2 := by omega
      replace hC := hC.trans hx
      replace hr := Rd.ext hr hx
      replace h_g1 := Blk.ext h_g1 hx
      replace hoa := Own.ext hoa hx
      replace hos := Own.ext hos hx
      replace hB1 : B1 ≤ w6.heap.size := by have := Chg.size hx; omega
      clear hx hg_g2
      refine ⟨Ext.any hx0, ?_⟩
      clear hx0
      refine anyX_ready (rs := [11]) (by kernel_rfl) ?_
      intro w7 hx
      replace hC := hC.trans hx
      replace hr := Rd.ext hr hx
      replace h_g1 := Blk.ext h_g1 hx
      replace hoa := Own.ext hoa hx
      replace hos := Own.ext hos hx
      replace h_g2 := Blk.ext h_g2 hx
      replace hB1 : B1 ≤ w7.heap.size := by have := Chg.size hx; omega
      clear hx
      refine (anyX_cons ?_ anyX_nil)
      refine xl_step (i := 11) rfl (wantAll rfl) ?_
      refine of_ex (ex_allocG 26 (z := .agg (cBs (List.replicate 32 0)).toArray) (n := 32) (cs := cBs (List.replicate 32 0)) (by kernel_rfl) (by rfl) rfl) ?_
      rintro _ w8 ⟨g3, hg_g3, rfl, h_g3, hx⟩
      
      have hx0 := hx
      have ge_g3 : w.heap.size ≤ g3 := by have := hC.size; omega
      have lt_g1_g3 : g1 < g3 := by have := Blk.lt h_g1; omega
      have lt_g2_g3 : g2 < g3 := by have := Blk.lt h_g2; omega
      have bge_g3 : B1 ≤ g3 := by omega
      replace hC := hC.trans hx
      replace hr := Rd.ext hr hx
      replace h_g1 := Blk.ext h_g1 hx
      replace hoa := Own.ext hoa hx
      replace hos := Own.ext hos hx
      replace h_g2 := Blk.ext h_g2 hx
      replace hB1 : B1 ≤ w8.heap.size := by have := Chg.size hx; omega
      clear hx hg_g3
      refine ⟨Ext.any hx0, ?_⟩
      clear hx0
      refine anyX_ready (rs := [12]) (by kernel_rfl) ?_
      intro w9 hx
      replace hC := hC.trans hx
      replace hr := Rd.ext hr hx
      replace h_g1 := Blk.ext h_g1 hx
      replace hoa := Own.ext hoa hx
      replace hos := Own.ext hos hx
      replace h_g2 := Blk.ext h_g2 hx
      replace h_g3 := Blk.ext h_g3 hx
      replace hB1 : B1 ≤ w9.heap.size := by have := Chg.size hx; omega
      clear hx
      refine (anyX_cons ?_ anyX_nil)
      refine xl_step (i := 12) rfl (wantAll rfl) ?_
      refine of_sk (ex_storeW (cs := cBs (secN s k (bitN (join 14 [List.take 200 b]) k))) rfl h_g2 (fr_eval rfl rfl) (fr_eval rfl rfl) (sz_len Try.sz26 (cBs_len secN_len)) (((cBs_len (List.length_replicate ..))).trans ((cBs_len secN_len)).symm) (cBs_one _)) ?_
      rintro w10 ⟨h_g2', hx⟩
      have hx0 := hx
      replace h_g2' : Blk w10 g2 (cBs (secN s k (bitN (join 14 [List.take 200 b]) k))) 26 := h_g2'
      replace hr := Rd.keep hr hx (fun b hb h0 e => by have e : b = g2 := e; have := Rd.lt hr0 h0 b hb; omega)
      replace h_g1 := Blk.keep h_g1 hx (fun e => by have e : g1 = g2 := e; omega)
      replace hoa := Own.keep hoa hx (fun b hb e => (Own.neType hoa h_g2 (by decide)) (by have e : b = g2 := e; rw [← e]; exact hb))
      replace hos := Own.keep hos hx (fun b hb e => (Own.neType hos h_g2 (by decide)) (by have e : b = g2 := e; rw [← e]; exact hb))
      replace h_g3 := Blk.keep h_g3 hx (fun e => by have e : g3 = g2 := e; omega)
      replace hC := Chg.then hC hx (fun i hi e => absurd hi (by have e : i = g2 := e; omega))
      replace hB1 : B1 ≤ w10.heap.size := by have := Chg.size hx; omega
      replace h_g2 := h_g2'
      clear h_g2'
      refine ⟨Chg.mono hx0 (fun i hi e => Or.inl (by have e : i = g2 := e; omega)), ?_⟩
      clear hx0
      clear hx
      refine xl_tail (s := 13) rfl ?_
      intro w11 hx
      replace hC := hC.trans hx
      replace hr := Rd.ext hr hx
      replace h_g1 := Blk.ext h_g1 hx
      replace hoa := Own.ext hoa hx
      replace hos := Own.ext hos hx
      replace h_g2 := Blk.ext h_g2 hx
      replace h_g3 := Blk.ext h_g3 hx
      replace hB1 : B1 ≤ w11.heap.size := by have := Chg.size hx; omega
      clear hx
      clear hB1
      refine lf_sk (wantAll rfl) (ex_storeW (cs := cBs (shw (secN s k (1 - (bitN (join 14 [List.take 200 b]) k))))) rfl h_g3 (fr_eval rfl rfl) (fr_eval rfl rfl) (sz_len Try.sz26 (cBs_len shw_len)) (((cBs_len (List.length_replicate ..))).trans ((cBs_len shw_len)).symm) (cBs_one _)) ?_
      rintro w12 ⟨h_g3', hx⟩
      replace h_g3' : Blk w12 g3 (cBs (shw (secN s k (1 - (bitN (join 14 [List.take 200 b]) k))))) 26 := h_g3'
      replace hr := Rd.keep hr hx (fun b hb h0 e => by have e : b = g3 := e; have := Rd.lt hr0 h0 b hb; omega)
      replace h_g1 := Blk.keep h_g1 hx (fun e => by have e : g1 = g3 := e; omega)
      replace hoa := Own.keep hoa hx (fun b hb e => (Own.neType hoa h_g3 (by decide)) (by have e : b = g3 := e; rw [← e]; exact hb))
      replace hos := Own.keep hos hx (fun b hb e => (Own.neType hos h_g3 (by decide)) (by have e : b = g3 := e; rw [← e]; exact hb))
      replace h_g2 := Blk.keep h_g2 hx (fun e => by have e : g2 = g3 := e; omega)
      replace hC := Chg.then hC hx (fun i hi e => absurd hi (by have e : i = g3 := e; omega))
      replace h_g3 := h_g3'
      clear h_g3'
      clear hx
      refine lf_nil ?_
      refine then_n ?_
      refine wp_seq ?_
      refine wp_gen (fun F' => F' 0 = .agg (cBs s).toArray ∧ F' 1 = cutV v b 200 ∧ F' 2 = .pointer (some ⟨g1, 0, none⟩) ∧ F' 4 = .bool false ∧ F' 5 = ya ∧ F' 6 = ys ∧ F' 7 = .int .i64 ((k : Nat) : Int) ∧ F' 8 = .int .i64 ((bitN (join 14 [List.take 200 b]) k : Nat) : Int) ∧ F' 9 = .pointer (some ⟨g2, 0, none⟩) ∧ F' 10 = .pointer (some ⟨g3, 0, none⟩) ∧ F' 20 = .bool true) ⟨e0, e1, e2, e4, e5, e6, e7, e8, rfl, rfl, e20⟩ ?_
      clear e0 e1 e2 e4 e5 e6 e7 e8 e20
      clear F
      rintro F ⟨e0, e1, e2, e4, e5, e6, e7, e8, e9, e10, e20⟩
      refine wp_regionF ?_
      refine lf_val (v := ys) (wantAll rfl) (rv_move rfl (fr_eval rfl e6)) ?_
      refine lf_val (v := .slice (some ⟨g2, 0, none⟩) 32 32) (wantAll rfl) (rv_sliceArr rfl (fr_eval rfl e9) Try.underlying26 Try.sz5 (by decide)) ?_
      refine lf_ex (wantAll rfl) (ex_apB (xs := sigs s (join 14 [List.take 200 b]) k) (news := (secN s k (bitN (join 14 [List.take 200 b]) k))) (.tmp 36) (.tmp 37) hos (rdB_blkn h_g2 secN_len (by decide)) (by rw [sigs_len, secN_len]; omega) (fr_eval rfl rfl) (fr_eval rfl rfl) rfl) ?_
      rintro y1 w13 ⟨hos', hg⟩
      have hx := hg.chg
      have djn_hoa_hos := hg.djR dj_hoa_hos (own_lt hoa)
      have ge_n := hg.ge (by have := hC.size; omega) ge_hos
      replace hr := Rd.keep hr hx (fun b hb h0 e => by have := Rd.lt hr0 h0 b hb; have := ge_hos b e; omega)
      replace h_g1 := Blk.keep h_g1 hx (fun e => Own.neType hos h_g1 (by decide) e)
      replace hoa := Own.keep hoa hx (fun b hb e => dj_hoa_hos b hb e)
      replace h_g2 := Blk.keep h_g2 hx (fun e => Own.neType hos h_g2 (by decide) e)
      replace h_g3 := Blk.keep h_g3 hx (fun e => Own.neType hos h_g3 (by decide) e)
      replace hC := Chg.then hC hx (fun i hi e => absurd hi (by have := ge_hos i e; omega))
      replace ge_hos := ge_n
      clear ge_n
      replace hos := hos'
      clear hos'
      replace dj_hoa_hos := djn_hoa_hos
      clear djn_hoa_hos
      clear hx hg
      refine lf_val (v := y1) (wantAll rfl) (rv_assign rfl (fr_eval rfl rfl)) ?_
      refine lf_nil ?_
      refine then_n ?_
      refine wp_seq ?_
      refine wp_gen (fun F' => F' 0 = .agg (cBs s).toArray ∧ F' 1 = cutV v b 200 ∧ F' 2 = .pointer (some ⟨g1, 0, none⟩) ∧ F' 4 = .bool false ∧ F' 5 = ya ∧ F' 6 = y1 ∧ F' 7 = .int .i64 ((k : Nat) : Int) ∧ F' 8 = .int .i64 ((bitN (join 14 [List.take 200 b]) k : Nat) : Int) ∧ F' 9 = .pointer (some ⟨g2, 0, none⟩) ∧ F' 10 = .pointer (some ⟨g3, 0, none⟩) ∧ F' 20 = .bool true) ⟨e0, e1, e2, e4, e5, rfl, e7, e8, e9, e10, e20⟩ ?_
      clear e0 e1 e2 e4 e5 e6 e7 e8 e9 e10 e20
      clear F
      rintro F ⟨e0, e1, e2, e4, e5, e6, e7, e8, e9, e10, e20⟩
      refine wp_regionF ?_
      refine lf_val (v := y1) (wantAll rfl) (rv_move rfl (fr_eval rfl e6)) ?_
      refine lf_val (v := .slice (some ⟨g3, 0, none⟩) 32 32) (wantAll rfl) (rv_sliceArr rfl (fr_eval rfl e10) Try.underlying26 Try.sz5 (by decide)) ?_
      refine lf_ex (wantAll rfl) (ex_apB (xs := (sigs s (join 14 [List.take 200 b]) k) ++ (secN s k (bitN (join 14 [List.take 200 b]) k))) (news := (shw (secN s k (1 - (bitN (join 14 [List.take 200 b]) k))))) (.tmp 39) (.tmp 40) hos (rdB_blkn h_g3 shw_len (by decide)) (by rw [List.length_append, sigs_len, shw_len, secN_len]; omega) (fr_eval rfl rfl) (fr_eval rfl rfl) rfl) ?_
      rintro y2 w14 ⟨hos', hg⟩
      have hx := hg.chg
      replace hos' : OwnB w14 y2 (sigs s (join 14 [List.take 200 b]) (k + 1)) := by have e := sigs_at s (join 14 [List.take 200 b]) k; rw [e] at hos'; exact hos'
      have djn_hoa_hos := hg.djR dj_hoa_hos (own_lt hoa)
      have ge_n := hg.ge (by have := hC.size; omega) ge_hos
      replace hr := Rd.keep hr hx (fun b hb h0 e => by have := Rd.lt hr0 h0 b hb; have := ge_hos b e; omega)
      replace h_g1 := Blk.keep h_g1 hx (fun e => Own.neType hos h_g1 (by decide) e)
      replace hoa := Own.keep hoa hx (fun b hb e => dj_hoa_hos b hb e)
      replace h_g2 := Blk.keep h_g2 hx (fun e => Own.neType hos h_g2 (by decide) e)
      replace h_g3 := Blk.keep h_g3 hx (fun e => Own.neType hos h_g3 (by decide) e)
      replace hC := Chg.then hC hx (fun i hi e => absurd hi (by have := ge_hos i e; omega))
      replace ge_hos := ge_n
      clear ge_n
      replace hos := hos'
      clear hos'
      replace dj_hoa_hos := djn_hoa_hos
      clear djn_hoa_hos
      clear hx hg
      refine lf_val (v := y2) (wantAll rfl) (rv_assign rfl (fr_eval rfl rfl)) ?_
      refine lf_nil ?_
      refine then_n ?_
      refine wp_seq ?_
      refine wp_gen (fun F' => F' 0 = .agg (cBs s).toArray ∧ F' 1 = cutV v b 200 ∧ F' 2 = .pointer (some ⟨g1, 0, none⟩) ∧ F' 4 = .bool false ∧ F' 5 = ya ∧ F' 6 = y2 ∧ F' 7 = .int .i64 ((k : Nat) : Int) ∧ F' 8 = .int .i64 ((bitN (join 14 [List.take 200 b]) k : Nat) : Int) ∧ F' 9 = .pointer (some ⟨g2, 0, none⟩) ∧ F' 10 = .pointer (some ⟨g3, 0, none⟩) ∧ F' 20 = .bool true) ⟨e0, e1, e2, e4, e5, rfl, e7, e8, e9, e10, e20⟩ ?_
      clear e0 e1 e2 e4 e5 e6 e7 e8 e9 e10 e20
      clear F
      rintro F ⟨e0, e1, e2, e4, e5, e6, e7, e8, e9, e10, e20⟩
      refine wp_regionF ?_
      refine lf_val (v := .int .i64 0) (wantAll rfl) (rv_assign rfl rfl) ?_
      refine lf_nil ?_
      refine then_n ?_
      refine wp_block ?_
      refine wp_gen (fun F' => F' 0 = .agg (cBs s).toArray ∧ F' 1 = cutV v b 200 ∧ F' 2 = .pointer (some ⟨g1, 0, none⟩) ∧ F' 4 = .bool false ∧ F' 5 = ya ∧ F' 6 = y2 ∧ F' 7 = .int .i64 ((k : Nat) : Int) ∧ F' 8 = .int .i64 ((bitN (join 14 [List.take 200 b]) k : Nat) : Int) ∧ F' 9 = .pointer (some ⟨g2, 0, none⟩) ∧ F' 10 = .pointer (some ⟨g3, 0, none⟩) ∧ F' 11 = .int .i64 0 ∧ F' 20 = .bool true) ⟨e0, e1, e2, e4, e5, e6, e7, e8, e9, e10, rfl, e20⟩ ?_
      clear e0 e1 e2 e4 e5 e6 e7 e8 e9 e10 e20
      clear F
      rintro F ⟨e0, e1, e2, e4, e5, e6, e7, e8, e9, e10, e11, e20⟩
      refine wp_loopF (fun m F wr => ∃ j : Nat, ∃ yb : Value, m = 2 - j ∧ j ≤ 2 ∧ (∀ i, yb.ownBlock = some i → y2.ownBlock ≠ some i) ∧ F 0 = .agg (cBs s).toArray ∧ F 1 = cutV v b 200 ∧ F 2 = .pointer (some ⟨g1, 0, none⟩) ∧ F 4 = .bool false ∧ F 5 = yb ∧ F 6 = y2 ∧ F 7 = .int .i64 ((k : Nat) : Int) ∧ F 8 = .int .i64 ((bitN (join 14 [List.take 200 b]) k : Nat) : Int) ∧ F 9 = .pointer (some ⟨g2, 0, none⟩) ∧ F 10 = .pointer (some ⟨g3, 0, none⟩) ∧ F 11 = .int .i64 ((j : Nat) : Int) ∧ F 20 = .bool true ∧ RdB wr v b ∧ Blk wr g1 (cBs s) 26 ∧ OwnB wr yb (pubs s (2 * k + j)) ∧ (∀ k, (yb : Value).ownBlock = some k → w.heap.size ≤ k) ∧ OwnB wr y2 (sigs s (join 14 [List.take 200 b]) (k + 1)) ∧ Blk wr g2 (cBs (secN s k (bitN (join 14 [List.take 200 b]) k))) 26 ∧ Blk wr g3 (cBs (shw (secN s k (1 - (bitN (join 14 [List.take 200 b]) k))))) 26 ∧ Ext w wr) ⟨0, _, rfl, Nat.zero_le _, dj_hoa_hos, e0, e1, e2, e4, e5, e6, e7, e8, e9, e10, e11, e20, hr, h_g1, hoa, ge_hoa, hos, h_g2, h_g3, hC⟩ ?_
      clear e0 e1 e2 e4 e5 e6 e7 e8 e9 e10 e11 e20 hr h_g1 hoa hos h_g2 h_g3 ge_hoa hC
      clear F
      rintro m F w15 ⟨j, yb, rfl, pj0, pj1, e0, e1, e2, e4, e5, e6, e7, e8, e9, e10, e11, e20, hr, h_g1, hoa, ge_hoa, hos, h_g2, h_g3, hC⟩
      have dj_hoa_hos := pj1
      clear pj1
      refine wp_seq ?_
      refine wp_seq ?_
      refine wp_regionF ?_
      refine lf_val (v := .int .i64 ((j : Nat) : Int)) (wantAll rfl) (rv_move rfl (fr_eval rfl e11)) ?_
      by_cases hc2 : j < 2
      · refine lf_val (v := .bool true) (wantAll rfl) (rv_lss rfl (fr_eval rfl rfl) rfl (decide_eq_true (by omega))) ?_
        refine lf_nil ?_
        refine then_n ?_
        refine wp_gen (fun F' => F' 0 = .agg (cBs s).toArray ∧ F' 1 = cutV v b 200 ∧ F' 2 = .pointer (some ⟨g1, 0, none⟩) ∧ F' 4 = .bool false ∧ F' 5 = yb ∧ F' 6 = y2 ∧ F' 7 = .int .i64 ((k : Nat) : Int) ∧ F' 8 = .int .i64 ((bitN (join 14 [List.take 200 b]) k : Nat) : Int) ∧ F' 9 = .pointer (some ⟨g2, 0, none⟩) ∧ F' 10 = .pointer (some ⟨g3, 0, none⟩) ∧ F' 11 = .int .i64 ((j : Nat) : Int) ∧ F' 20 = .bool true ∧ F' 43 = .bool true) ⟨e0, e1, e2, e4, e5, e6, e7, e8, e9, e10, e11, e20, rfl⟩ ?_
        clear e0 e1 e2 e4 e5 e6 e7 e8 e9 e10 e11 e20
        clear F
        rintro F ⟨e0, e1, e2, e4, e5, e6, e7, e8, e9, e10, e11, e20, e43⟩
        refine wp_cond_true (fr_eval rfl e43) ?_
        refine wp_skip ?_
        refine then_n ?_
        refine wp_seq ?_
        refine wp_block ?_
        refine wp_seq ?_
        refine wp_regionF ?_
        refine lf_val (v := .agg (cBs s).toArray) (wantAll rfl) (rv_loadW rfl h_g1 (fr_eval rfl e2) Try.underlying26 rfl (sz_len Try.sz26 (cBs_len hs))) ?_
        refine lf_val (v := .int .i64 ((k : Nat) : Int)) (wantAll rfl) (rv_move rfl (fr_eval rfl e7)) ?_
        refine lf_val (v := .int .i64 ((j : Nat) : Int)) (wantAll rfl) (rv_move rfl (fr_eval rfl e11)) ?_
        refine lf_call (wantAll rfl) (rv_call (args := [.agg (cBs s).toArray, .int .i64 ((k : Nat) : Int), .int .i64 ((j : Nat) : Int)]) rfl (evc (fr_eval rfl rfl) (evc (fr_eval rfl rfl) (evc (fr_eval rfl rfl) evn))) Try.call39) (secret04_calls s hs ((k : Nat) : Int) ((j : Nat) : Int) _) ?_
        rintro _ w16 ⟨rfl, hx⟩
        refine ⟨_, rfl, ?_⟩
        replace hC := hC.trans hx
        replace hr := Rd.ext hr hx
        replace h_g1 := Blk.ext h_g1 hx
        replace hoa := Own.ext hoa hx
        replace hos := Own.ext hos hx
        replace h_g2 := Blk.ext h_g2 hx
        replace h_g3 := Blk.ext h_g3 hx
        clear hx
        refine lf_call (wantAll rfl) (rv_call (args := [.agg (cBs (secN s k j)).toArray]) rfl (evc (fr_eval rfl rfl) evn) Try.call40) (shown04_calls (secN s k j) secN_len _) ?_
        rintro _ w17 ⟨rfl, hx⟩
        refine ⟨_, rfl, ?_⟩
        replace hC := hC.trans hx
        replace hr := Rd.ext hr hx
        replace h_g1 := Blk.ext h_g1 hx
        replace hoa := Own.ext hoa hx
        replace hos := Own.ext hos hx
        replace h_g2 := Blk.ext h_g2 hx
        replace h_g3 := Blk.ext h_g3 hx
        clear hx
        refine lf_ex (wantAll rfl) (ex_allocG 26 (z := .agg (cBs (List.replicate 32 0)).toArray) (n := 32) (cs := cBs (List.replicate 32 0)) (by kernel_rfl) (by rfl) rfl) ?_
        rintro _ w18 ⟨g4, hg_g4, rfl, h_g4, hx⟩
        have ge_g4 : w.heap.size ≤ g4 := by have := hC.size; omega
        have lt_g1_g4 : g1 < g4 := by have := Blk.lt h_g1; omega
        have lt_g2_g4 : g2 < g4 := by have := Blk.lt h_g2; omega
        have lt_g3_g4 : g3 < g4 := by have := Blk.lt h_g3; omega
        replace hC := hC.trans hx
        replace hr := Rd.ext hr hx
        replace h_g1 := Blk.ext h_g1 hx
        replace hoa := Own.ext hoa hx
        replace hos := Own.ext hos hx
        replace h_g2 := Blk.ext h_g2 hx
        replace h_g3 := Blk.ext h_g3 hx
        clear hx hg_g4
        refine lf_sk (wantAll rfl) (ex_storeW (cs := cBs (shw (secN s k j))) rfl h_g4 (fr_eval rfl rfl) (fr_eval rfl rfl) (sz_len Try.sz26 (cBs_len shw_len)) (((cBs_len (List.length_replicate ..))).trans ((cBs_len shw_len)).symm) (cBs_one _)) ?_
        rintro w19 ⟨h_g4', hx⟩
        replace h_g4' : Blk w19 g4 (cBs (shw (secN s k j))) 26 := h_g4'
        replace hr := Rd.keep hr hx (fun b hb h0 e => by have e : b = g4 := e; have := Rd.lt hr0 h0 b hb; omega)
        replace h_g1 := Blk.keep h_g1 hx (fun e => by have e : g1 = g4 := e; omega)
        replace hoa := Own.keep hoa hx (fun b hb e => (Own.neType hoa h_g4 (by decide)) (by have e : b = g4 := e; rw [← e]; exact hb))
        replace hos := Own.keep hos hx (fun b hb e => (Own.neType hos h_g4 (by decide)) (by have e : b = g4 := e; rw [← e]; exact hb))
        replace h_g2 := Blk.keep h_g2 hx (fun e => by have e : g2 = g4 := e; omega)
        replace h_g3 := Blk.keep h_g3 hx (fun e => by have e : g3 = g4 := e; omega)
        replace hC := Chg.then hC hx (fun i hi e => absurd hi (by have e : i = g4 := e; omega))
        replace h_g4 := h_g4'
        clear h_g4'
        clear hx
        refine lf_nil ?_
        refine then_n ?_
        refine wp_gen (fun F' => F' 0 = .agg (cBs s).toArray ∧ F' 1 = cutV v b 200 ∧ F' 2 = .pointer (some ⟨g1, 0, none⟩) ∧ F' 4 = .bool false ∧ F' 5 = yb ∧ F' 6 = y2 ∧ F' 7 = .int .i64 ((k : Nat) : Int) ∧ F' 8 = .int .i64 ((bitN (join 14 [List.take 200 b]) k : Nat) : Int) ∧ F' 9 = .pointer (some ⟨g2, 0, none⟩) ∧ F' 10 = .pointer (some ⟨g3, 0, none⟩) ∧ F' 11 = .int .i64 ((j : Nat) : Int) ∧ F' 12 = .pointer (some ⟨g4, 0, none⟩) ∧ F' 20 = .bool true ∧ F' 43 = .bool true) ⟨e0, e1, e2, e4, e5, e6, e7, e8, e9, e10, e11, rfl, e20, e43⟩ ?_
        clear e0 e1 e2 e4 e5 e6 e7 e8 e9 e10 e11 e20 e43
        clear F
        rintro F ⟨e0, e1, e2, e4, e5, e6, e7, e8, e9, e10, e11, e12, e20, e43⟩
        refine wp_regionF ?_
        refine lf_val (v := yb) (wantAll rfl) (rv_move rfl (fr_eval rfl e5)) ?_
        refine lf_val (v := .slice (some ⟨g4, 0, none⟩) 32 32) (wantAll rfl) (rv_sliceArr rfl (fr_eval rfl e12) Try.underlying26 Try.sz5 (by decide)) ?_
        refine lf_ex (wantAll rfl) (ex_apB (xs := pubs s (2 * k + j)) (news := (shw (secN s k j))) (.tmp 51) (.tmp 52) hoa (rdB_blkn h_g4 shw_len (by decide)) (by rw [pubs_len, shw_len]; omega) (fr_eval rfl rfl) (fr_eval rfl rfl) rfl) ?_
        rintro y3 w20 ⟨hoa', hg⟩
        have hx := hg.chg
        replace hoa' : OwnB w20 y3 (pubs s (2 * k + (j + 1))) := by have e := pubs_at s k j (by omega); rw [e] at hoa'; exact hoa'
        have djn_hoa_hos := hg.djL dj_hoa_hos (own_lt hos)
        have ge_n := hg.ge (by have := hC.size; omega) ge_hoa
        replace hr := Rd.keep hr hx (fun b hb h0 e => by have := Rd.lt hr0 h0 b hb; have := ge_hoa b e; omega)
        replace h_g1 := Blk.keep h_g1 hx (fun e => Own.neType hoa h_g1 (by decide) e)
        replace hos := Own.keep hos hx (fun b hb e => dj_hoa_hos b e hb)
        replace h_g2 := Blk.keep h_g2 hx (fun e => Own.neType hoa h_g2 (by decide) e)
        replace h_g3 := Blk.keep h_g3 hx (fun e => Own.neType hoa h_g3 (by decide) e)
        replace h_g4 := Blk.keep h_g4 hx (fun e => Own.neType hoa h_g4 (by decide) e)
        replace hC := Chg.then hC hx (fun i hi e => absurd hi (by have := ge_hoa i e; omega))
        replace ge_hoa := ge_n
        clear ge_n
        replace hoa := hoa'
        clear hoa'
        replace dj_hoa_hos := djn_hoa_hos
        clear djn_hoa_hos
        clear hx hg
        refine lf_val (v := y3) (wantAll rfl) (rv_assign rfl (fr_eval rfl rfl)) ?_
        refine lf_nil ?_
        refine blk_n ?_
        refine then_n ?_
        refine wp_gen (fun F' => F' 0 = .agg (cBs s).toArray ∧ F' 1 = cutV v b 200 ∧ F' 2 = .pointer (some ⟨g1, 0, none⟩) ∧ F' 4 = .bool false ∧ F' 5 = y3 ∧ F' 6 = y2 ∧ F' 7 = .int .i64 ((k : Nat) : Int) ∧ F' 8 = .int .i64 ((bitN (join 14 [List.take 200 b]) k : Nat) : Int) ∧ F' 9 = .pointer (some ⟨g2, 0, none⟩) ∧ F' 10 = .pointer (some ⟨g3, 0, none⟩) ∧ F' 11 = .int .i64 ((j : Nat) : Int) ∧ F' 12 = .pointer (some ⟨g4, 0, none⟩) ∧ F' 20 = .bool true ∧ F' 43 = .bool true) ⟨e0, e1, e2, e4, rfl, e6, e7, e8, e9, e10, e11, e12, e20, e43⟩ ?_
        clear e0 e1 e2 e4 e5 e6 e7 e8 e9 e10 e11 e12 e20 e43
        clear F
        rintro F ⟨e0, e1, e2, e4, e5, e6, e7, e8, e9, e10, e11, e12, e20, e43⟩
        refine wp_regionF ?_
        refine lf_val (v := .int .i64 ((j : Nat) : Int)) (wantAll rfl) (rv_move rfl (fr_eval rfl e11)) ?_
        refine lf_val (v := .int .i64 ((j + 1 : Nat) : Int)) (wantAll rfl) (rv_add rfl (fr_eval rfl rfl) rfl (wrap_i64 (by omega) (by omega) (by omega))) ?_
        refine lf_val (v := .int .i64 ((j + 1 : Nat) : Int)) (wantAll rfl) (rv_assign rfl (fr_eval rfl rfl)) ?_
        refine lf_nil ?_
        refine then_n ?_
        exact ⟨_, _, (by omega), rfl, j + 1, _, rfl, (by omega), dj_hoa_hos, e0, e1, e2, e4, e5, e6, e7, e8, e9, e10, rfl, e20, hr, h_g1, hoa, ge_hoa, hos, h_g2, h_g3, hC⟩
      · refine lf_val (v := .bool false) (wantAll rfl) (rv_lss rfl (fr_eval rfl rfl) rfl (decide_eq_false (by omega))) ?_
        refine lf_nil ?_
        refine then_n ?_
        refine wp_gen (fun F' => F' 0 = .agg (cBs s).toArray ∧ F' 1 = cutV v b 200 ∧ F' 2 = .pointer (some ⟨g1, 0, none⟩) ∧ F' 4 = .bool false ∧ F' 5 = yb ∧ F' 6 = y2 ∧ F' 7 = .int .i64 ((k : Nat) : Int) ∧ F' 8 = .int .i64 ((bitN (join 14 [List.take 200 b]) k : Nat) : Int) ∧ F' 9 = .pointer (some ⟨g2, 0, none⟩) ∧ F' 10 = .pointer (some ⟨g3, 0, none⟩) ∧ F' 11 = .int .i64 ((j : Nat) : Int) ∧ F' 20 = .bool true ∧ F' 43 = .bool false) ⟨e0, e1, e2, e4, e5, e6, e7, e8, e9, e10, e11, e20, rfl⟩ ?_
        clear e0 e1 e2 e4 e5 e6 e7 e8 e9 e10 e11 e20
        clear F
        rintro F ⟨e0, e1, e2, e4, e5, e6, e7, e8, e9, e10, e11, e20, e43⟩
        refine wp_cond_false (fr_eval rfl e43) ?_
        refine wp_exit ?_
        refine then_exit ?_
        refine then_exit ?_
        refine blk_exit ?_
        refine blk_n ?_
        refine then_n ?_
        refine wp_regionF ?_
        refine lf_val (v := .int .i64 ((k : Nat) : Int)) (wantAll rfl) (rv_move rfl (fr_eval rfl e7)) ?_
        refine lf_val (v := .int .i64 ((k + 1 : Nat) : Int)) (wantAll rfl) (rv_add rfl (fr_eval rfl rfl) rfl (wrap_i64 (by omega) (by omega) (by omega))) ?_
        refine lf_val (v := .int .i64 ((k + 1 : Nat) : Int)) (wantAll rfl) (rv_assign rfl (fr_eval rfl rfl)) ?_
        refine lf_nil ?_
        refine then_n ?_
        obtain rfl : j = 2 := by omega
        exact ⟨_, _, (by omega), rfl, k + 1, _, _, rfl, (by omega), dj_hoa_hos, e0, e1, e2, e4, e5, e6, rfl, hr, h_g1, hoa, ge_hoa, hos, ge_hos, hC⟩
    · refine xl_step (i := 11) rfl (wantAll rfl) ?_
      refine of_ex (ex_allocG 26 (z := .agg (cBs (List.replicate 32 0)).toArray) (n := 32) (cs := cBs (List.replicate 32 0)) (by kernel_rfl) (by rfl) rfl) ?_
      rintro _ w21 ⟨g5, hg_g5, rfl, h_g5, hx⟩
      
      have hx0 := hx
      have ge_g5 : w.heap.size ≤ g5 := by have := hC.size; omega
      have lt_g1_g5 : g1 < g5 := by have := Blk.lt h_g1; omega
      have bge_g5 : B1 ≤ g5 := by omega
      replace hC := hC.trans hx
      replace hr := Rd.ext hr hx
      replace h_g1 := Blk.ext h_g1 hx
      replace hoa := Own.ext hoa hx
      replace hos := Own.ext hos hx
      replace hB1 : B1 ≤ w21.heap.size := by have := Chg.size hx; omega
      clear hx hg_g5
      refine ⟨Ext.any hx0, ?_⟩
      clear hx0
      refine anyX_ready (rs := [10]) (by kernel_rfl) ?_
      intro w22 hx
      replace hC := hC.trans hx
      replace hr := Rd.ext hr hx
      replace h_g1 := Blk.ext h_g1 hx
      replace hoa := Own.ext hoa hx
      replace hos := Own.ext hos hx
      replace h_g5 := Blk.ext h_g5 hx
      replace hB1 : B1 ≤ w22.heap.size := by have := Chg.size hx; omega
      clear hx
      refine (anyX_cons ?_ anyX_nil)
      refine xl_step (i := 10) rfl (wantAll rfl) ?_
      refine of_ex (ex_allocG 26 (z := .agg (cBs (List.replicate 32 0)).toArray) (n := 32) (cs := cBs (List.replicate 32 0)) (by kernel_rfl) (by rfl) rfl) ?_
      rintro _ w23 ⟨g6, hg_g6, rfl, h_g6, hx⟩
      
      have hx0 := hx
      have ge_g6 : w.heap.size ≤ g6 := by have := hC.size; omega
      have lt_g1_g6 : g1 < g6 := by have := Blk.lt h_g1; omega
      have lt_g5_g6 : g5 < g6 := by have := Blk.lt h_g5; omega
      have bge_g6 : B1 ≤ g6 := by omega
      replace hC := hC.trans hx
      replace hr := Rd.ext hr hx
      replace h_g1 := Blk.ext h_g1 hx
      replace hoa := Own.ext hoa hx
      replace hos := Own.ext hos hx
      replace h_g5 := Blk.ext h_g5 hx
      replace hB1 : B1 ≤ w23.heap.size := by have := Chg.size hx; omega
      clear hx hg_g6
      refine ⟨Ext.any hx0, ?_⟩
      clear hx0
      refine anyX_ready (rs := [12]) (by kernel_rfl) ?_
      intro w24 hx
      replace hC := hC.trans hx
      replace hr := Rd.ext hr hx
      replace h_g1 := Blk.ext h_g1 hx
      replace hoa := Own.ext hoa hx
      replace hos := Own.ext hos hx
      replace h_g5 := Blk.ext h_g5 hx
      replace h_g6 := Blk.ext h_g6 hx
      replace hB1 : B1 ≤ w24.heap.size := by have := Chg.size hx; omega
      clear hx
      refine (anyX_cons ?_ anyX_nil)
      refine xl_step (i := 12) rfl (wantAll rfl) ?_
      refine of_sk (ex_storeW (cs := cBs (secN s k (bitN (join 14 [List.take 200 b]) k))) rfl h_g6 (fr_eval rfl rfl) (fr_eval rfl rfl) (sz_len Try.sz26 (cBs_len secN_len)) (((cBs_len (List.length_replicate ..))).trans ((cBs_len secN_len)).symm) (cBs_one _)) ?_
      rintro w25 ⟨h_g6', hx⟩
      have hx0 := hx
      replace h_g6' : Blk w25 g6 (cBs (secN s k (bitN (join 14 [List.take 200 b]) k))) 26 := h_g6'
      replace hr := Rd.keep hr hx (fun b hb h0 e => by have e : b = g6 := e; have := Rd.lt hr0 h0 b hb; omega)
      replace h_g1 := Blk.keep h_g1 hx (fun e => by have e : g1 = g6 := e; omega)
      replace hoa := Own.keep hoa hx (fun b hb e => (Own.neType hoa h_g6 (by decide)) (by have e : b = g6 := e; rw [← e]; exact hb))
      replace hos := Own.keep hos hx (fun b hb e => (Own.neType hos h_g6 (by decide)) (by have e : b = g6 := e; rw [← e]; exact hb))
      replace h_g5 := Blk.keep h_g5 hx (fun e => by have e : g5 = g6 := e; omega)
      replace hC := Chg.then hC hx (fun i hi e => absurd hi (by have e : i = g6 := e; omega))
      replace hB1 : B1 ≤ w25.heap.size := by have := Chg.size hx; omega
      replace h_g6 := h_g6'
      clear h_g6'
      refine ⟨Chg.mono hx0 (fun i hi e => Or.inl (by have e : i = g6 := e; omega)), ?_⟩
      clear hx0
      clear hx
      refine xl_tail (s := 13) rfl ?_
      intro w26 hx
      replace hC := hC.trans hx
      replace hr := Rd.ext hr hx
      replace h_g1 := Blk.ext h_g1 hx
      replace hoa := Own.ext hoa hx
      replace hos := Own.ext hos hx
      replace h_g5 := Blk.ext h_g5 hx
      replace h_g6 := Blk.ext h_g6 hx
      replace hB1 : B1 ≤ w26.heap.size := by have := Chg.size hx; omega
      clear hx
      clear hB1
      refine lf_sk (wantAll rfl) (ex_storeW (cs := cBs (shw (secN s k (1 - (bitN (join 14 [List.take 200 b]) k))))) rfl h_g5 (fr_eval rfl rfl) (fr_eval rfl rfl) (sz_len Try.sz26 (cBs_len shw_len)) (((cBs_len (List.length_replicate ..))).trans ((cBs_len shw_len)).symm) (cBs_one _)) ?_
      rintro w27 ⟨h_g5', hx⟩
      replace h_g5' : Blk w27 g5 (cBs (shw (secN s k (1 - (bitN (join 14 [List.take 200 b]) k))))) 26 := h_g5'
      replace hr := Rd.keep hr hx (fun b hb h0 e => by have e : b = g5 := e; have := Rd.lt hr0 h0 b hb; omega)
      replace h_g1 := Blk.keep h_g1 hx (fun e => by have e : g1 = g5 := e; omega)
      replace hoa := Own.keep hoa hx (fun b hb e => (Own.neType hoa h_g5 (by decide)) (by have e : b = g5 := e; rw [← e]; exact hb))
      replace hos := Own.keep hos hx (fun b hb e => (Own.neType hos h_g5 (by decide)) (by have e : b = g5 := e; rw [← e]; exact hb))
      replace h_g6 := Blk.keep h_g6 hx (fun e => by have e : g6 = g5 := e; omega)
      replace hC := Chg.then hC hx (fun i hi e => absurd hi (by have e : i = g5 := e; omega))
      replace h_g5 := h_g5'
      clear h_g5'
      clear hx
      refine lf_nil ?_
      refine then_n ?_
      refine wp_seq ?_
      refine wp_gen (fun F' => F' 0 = .agg (cBs s).toArray ∧ F' 1 = cutV v b 200 ∧ F' 2 = .pointer (some ⟨g1, 0, none⟩) ∧ F' 4 = .bool false ∧ F' 5 = ya ∧ F' 6 = ys ∧ F' 7 = .int .i64 ((k : Nat) : Int) ∧ F' 8 = .int .i64 ((bitN (join 14 [List.take 200 b]) k : Nat) : Int) ∧ F' 9 = .pointer (some ⟨g6, 0, none⟩) ∧ F' 10 = .pointer (some ⟨g5, 0, none⟩) ∧ F' 20 = .bool true) ⟨e0, e1, e2, e4, e5, e6, e7, e8, rfl, rfl, e20⟩ ?_
      clear e0 e1 e2 e4 e5 e6 e7 e8 e20
      clear F
      rintro F ⟨e0, e1, e2, e4, e5, e6, e7, e8, e9, e10, e20⟩
      refine wp_regionF ?_
      refine lf_val (v := ys) (wantAll rfl) (rv_move rfl (fr_eval rfl e6)) ?_
      refine lf_val (v := .slice (some ⟨g6, 0, none⟩) 32 32) (wantAll rfl) (rv_sliceArr rfl (fr_eval rfl e9) Try.underlying26 Try.sz5 (by decide)) ?_
      refine lf_ex (wantAll rfl) (ex_apB (xs := sigs s (join 14 [List.take 200 b]) k) (news := (secN s k (bitN (join 14 [List.take 200 b]) k))) (.tmp 36) (.tmp 37) hos (rdB_blkn h_g6 secN_len (by decide)) (by rw [sigs_len, secN_len]; omega) (fr_eval rfl rfl) (fr_eval rfl rfl) rfl) ?_
      rintro y4 w28 ⟨hos', hg⟩
      have hx := hg.chg
      have djn_hoa_hos := hg.djR dj_hoa_hos (own_lt hoa)
      have ge_n := hg.ge (by have := hC.size; omega) ge_hos
      replace hr := Rd.keep hr hx (fun b hb h0 e => by have := Rd.lt hr0 h0 b hb; have := ge_hos b e; omega)
      replace h_g1 := Blk.keep h_g1 hx (fun e => Own.neType hos h_g1 (by decide) e)
      replace hoa := Own.keep hoa hx (fun b hb e => dj_hoa_hos b hb e)
      replace h_g5 := Blk.keep h_g5 hx (fun e => Own.neType hos h_g5 (by decide) e)
      replace h_g6 := Blk.keep h_g6 hx (fun e => Own.neType hos h_g6 (by decide) e)
      replace hC := Chg.then hC hx (fun i hi e => absurd hi (by have := ge_hos i e; omega))
      replace ge_hos := ge_n
      clear ge_n
      replace hos := hos'
      clear hos'
      replace dj_hoa_hos := djn_hoa_hos
      clear djn_hoa_hos
      clear hx hg
      refine lf_val (v := y4) (wantAll rfl) (rv_assign rfl (fr_eval rfl rfl)) ?_
      refine lf_nil ?_
      refine then_n ?_
      refine wp_seq ?_
      refine wp_gen (fun F' => F' 0 = .agg (cBs s).toArray ∧ F' 1 = cutV v b 200 ∧ F' 2 = .pointer (some ⟨g1, 0, none⟩) ∧ F' 4 = .bool false ∧ F' 5 = ya ∧ F' 6 = y4 ∧ F' 7 = .int .i64 ((k : Nat) : Int) ∧ F' 8 = .int .i64 ((bitN (join 14 [List.take 200 b]) k : Nat) : Int) ∧ F' 9 = .pointer (some ⟨g6, 0, none⟩) ∧ F' 10 = .pointer (some ⟨g5, 0, none⟩) ∧ F' 20 = .bool true) ⟨e0, e1, e2, e4, e5, rfl, e7, e8, e9, e10, e20⟩ ?_
      clear e0 e1 e2 e4 e5 e6 e7 e8 e9 e10 e20
      clear F
      rintro F ⟨e0, e1, e2, e4, e5, e6, e7, e8, e9, e10, e20⟩
      refine wp_regionF ?_
      refine lf_val (v := y4) (wantAll rfl) (rv_move rfl (fr_eval rfl e6)) ?_
      refine lf_val (v := .slice (some ⟨g5, 0, none⟩) 32 32) (wantAll rfl) (rv_sliceArr rfl (fr_eval rfl e10) Try.underlying26 Try.sz5 (by decide)) ?_
      refine lf_ex (wantAll rfl) (ex_apB (xs := (sigs s (join 14 [List.take 200 b]) k) ++ (secN s k (bitN (join 14 [List.take 200 b]) k))) (news := (shw (secN s k (1 - (bitN (join 14 [List.take 200 b]) k))))) (.tmp 39) (.tmp 40) hos (rdB_blkn h_g5 shw_len (by decide)) (by rw [List.length_append, sigs_len, shw_len, secN_len]; omega) (fr_eval rfl rfl) (fr_eval rfl rfl) rfl) ?_
      rintro y5 w29 ⟨hos', hg⟩
      have hx := hg.chg
      replace hos' : OwnB w29 y5 (sigs s (join 14 [List.take 200 b]) (k + 1)) := by have e := sigs_at s (join 14 [List.take 200 b]) k; rw [e] at hos'; exact hos'
      have djn_hoa_hos := hg.djR dj_hoa_hos (own_lt hoa)
      have ge_n := hg.ge (by have := hC.size; omega) ge_hos
      replace hr := Rd.keep hr hx (fun b hb h0 e => by have := Rd.lt hr0 h0 b hb; have := ge_hos b e; omega)
      replace h_g1 := Blk.keep h_g1 hx (fun e => Own.neType hos h_g1 (by decide) e)
      replace hoa := Own.keep hoa hx (fun b hb e => dj_hoa_hos b hb e)
      replace h_g5 := Blk.keep h_g5 hx (fun e => Own.neType hos h_g5 (by decide) e)
      replace h_g6 := Blk.keep h_g6 hx (fun e => Own.neType hos h_g6 (by decide) e)
      replace hC := Chg.then hC hx (fun i hi e => absurd hi (by have := ge_hos i e; omega))
      replace ge_hos := ge_n
      clear ge_n
      replace hos := hos'
      clear hos'
      replace dj_hoa_hos := djn_hoa_hos
      clear djn_hoa_hos
      clear hx hg
      refine lf_val (v := y5) (wantAll rfl) (rv_assign rfl (fr_eval rfl rfl)) ?_
      refine lf_nil ?_
      refine then_n ?_
      refine wp_seq ?_
      refine wp_gen (fun F' => F' 0 = .agg (cBs s).toArray ∧ F' 1 = cutV v b 200 ∧ F' 2 = .pointer (some ⟨g1, 0, none⟩) ∧ F' 4 = .bool false ∧ F' 5 = ya ∧ F' 6 = y5 ∧ F' 7 = .int .i64 ((k : Nat) : Int) ∧ F' 8 = .int .i64 ((bitN (join 14 [List.take 200 b]) k : Nat) : Int) ∧ F' 9 = .pointer (some ⟨g6, 0, none⟩) ∧ F' 10 = .pointer (some ⟨g5, 0, none⟩) ∧ F' 20 = .bool true) ⟨e0, e1, e2, e4, e5, rfl, e7, e8, e9, e10, e20⟩ ?_
      clear e0 e1 e2 e4 e5 e6 e7 e8 e9 e10 e20
      clear F
      rintro F ⟨e0, e1, e2, e4, e5, e6, e7, e8, e9, e10, e20⟩
      refine wp_regionF ?_
      refine lf_val (v := .int .i64 0) (wantAll rfl) (rv_assign rfl rfl) ?_
      refine lf_nil ?_
      refine then_n ?_
      refine wp_block ?_
      refine wp_gen (fun F' => F' 0 = .agg (cBs s).toArray ∧ F' 1 = cutV v b 200 ∧ F' 2 = .pointer (some ⟨g1, 0, none⟩) ∧ F' 4 = .bool false ∧ F' 5 = ya ∧ F' 6 = y5 ∧ F' 7 = .int .i64 ((k : Nat) : Int) ∧ F' 8 = .int .i64 ((bitN (join 14 [List.take 200 b]) k : Nat) : Int) ∧ F' 9 = .pointer (some ⟨g6, 0, none⟩) ∧ F' 10 = .pointer (some ⟨g5, 0, none⟩) ∧ F' 11 = .int .i64 0 ∧ F' 20 = .bool true) ⟨e0, e1, e2, e4, e5, e6, e7, e8, e9, e10, rfl, e20⟩ ?_
      clear e0 e1 e2 e4 e5 e6 e7 e8 e9 e10 e20
      clear F
      rintro F ⟨e0, e1, e2, e4, e5, e6, e7, e8, e9, e10, e11, e20⟩
      refine wp_loopF (fun m F wr => ∃ j : Nat, ∃ yb : Value, m = 2 - j ∧ j ≤ 2 ∧ (∀ i, yb.ownBlock = some i → y5.ownBlock ≠ some i) ∧ F 0 = .agg (cBs s).toArray ∧ F 1 = cutV v b 200 ∧ F 2 = .pointer (some ⟨g1, 0, none⟩) ∧ F 4 = .bool false ∧ F 5 = yb ∧ F 6 = y5 ∧ F 7 = .int .i64 ((k : Nat) : Int) ∧ F 8 = .int .i64 ((bitN (join 14 [List.take 200 b]) k : Nat) : Int) ∧ F 9 = .pointer (some ⟨g6, 0, none⟩) ∧ F 10 = .pointer (some ⟨g5, 0, none⟩) ∧ F 11 = .int .i64 ((j : Nat) : Int) ∧ F 20 = .bool true ∧ RdB wr v b ∧ Blk wr g1 (cBs s) 26 ∧ OwnB wr yb (pubs s (2 * k + j)) ∧ (∀ k, (yb : Value).ownBlock = some k → w.heap.size ≤ k) ∧ OwnB wr y5 (sigs s (join 14 [List.take 200 b]) (k + 1)) ∧ Blk wr g5 (cBs (shw (secN s k (1 - (bitN (join 14 [List.take 200 b]) k))))) 26 ∧ Blk wr g6 (cBs (secN s k (bitN (join 14 [List.take 200 b]) k))) 26 ∧ Ext w wr) ⟨0, _, rfl, Nat.zero_le _, dj_hoa_hos, e0, e1, e2, e4, e5, e6, e7, e8, e9, e10, e11, e20, hr, h_g1, hoa, ge_hoa, hos, h_g5, h_g6, hC⟩ ?_
      clear e0 e1 e2 e4 e5 e6 e7 e8 e9 e10 e11 e20 hr h_g1 hoa hos h_g5 h_g6 ge_hoa hC
      clear F
      rintro m F w30 ⟨j, yb, rfl, pj0, pj1, e0, e1, e2, e4, e5, e6, e7, e8, e9, e10, e11, e20, hr, h_g1, hoa, ge_hoa, hos, h_g5, h_g6, hC⟩
      have dj_hoa_hos := pj1
      clear pj1
      refine wp_seq ?_
      refine wp_seq ?_
      refine wp_regionF ?_
      refine lf_val (v := .int .i64 ((j : Nat) : Int)) (wantAll rfl) (rv_move rfl (fr_eval rfl e11)) ?_
      by_cases hc3 : j < 2
      · refine lf_val (v := .bool true) (wantAll rfl) (rv_lss rfl (fr_eval rfl rfl) rfl (decide_eq_true (by omega))) ?_
        refine lf_nil ?_
        refine then_n ?_
        refine wp_gen (fun F' => F' 0 = .agg (cBs s).toArray ∧ F' 1 = cutV v b 200 ∧ F' 2 = .pointer (some ⟨g1, 0, none⟩) ∧ F' 4 = .bool false ∧ F' 5 = yb ∧ F' 6 = y5 ∧ F' 7 = .int .i64 ((k : Nat) : Int) ∧ F' 8 = .int .i64 ((bitN (join 14 [List.take 200 b]) k : Nat) : Int) ∧ F' 9 = .pointer (some ⟨g6, 0, none⟩) ∧ F' 10 = .pointer (some ⟨g5, 0, none⟩) ∧ F' 11 = .int .i64 ((j : Nat) : Int) ∧ F' 20 = .bool true ∧ F' 43 = .bool true) ⟨e0, e1, e2, e4, e5, e6, e7, e8, e9, e10, e11, e20, rfl⟩ ?_
        clear e0 e1 e2 e4 e5 e6 e7 e8 e9 e10 e11 e20
        clear F
        rintro F ⟨e0, e1, e2, e4, e5, e6, e7, e8, e9, e10, e11, e20, e43⟩
        refine wp_cond_true (fr_eval rfl e43) ?_
        refine wp_skip ?_
        refine then_n ?_
        refine wp_seq ?_
        refine wp_block ?_
        refine wp_seq ?_
        refine wp_regionF ?_
        refine lf_val (v := .agg (cBs s).toArray) (wantAll rfl) (rv_loadW rfl h_g1 (fr_eval rfl e2) Try.underlying26 rfl (sz_len Try.sz26 (cBs_len hs))) ?_
        refine lf_val (v := .int .i64 ((k : Nat) : Int)) (wantAll rfl) (rv_move rfl (fr_eval rfl e7)) ?_
        refine lf_val (v := .int .i64 ((j : Nat) : Int)) (wantAll rfl) (rv_move rfl (fr_eval rfl e11)) ?_
        refine lf_call (wantAll rfl) (rv_call (args := [.agg (cBs s).toArray, .int .i64 ((k : Nat) : Int), .int .i64 ((j : Nat) : Int)]) rfl (evc (fr_eval rfl rfl) (evc (fr_eval rfl rfl) (evc (fr_eval rfl rfl) evn))) Try.call39) (secret04_calls s hs ((k : Nat) : Int) ((j : Nat) : Int) _) ?_
        rintro _ w31 ⟨rfl, hx⟩
        refine ⟨_, rfl, ?_⟩
        replace hC := hC.trans hx
        replace hr := Rd.ext hr hx
        replace h_g1 := Blk.ext h_g1 hx
        replace hoa := Own.ext hoa hx
        replace hos := Own.ext hos hx
        replace h_g5 := Blk.ext h_g5 hx
        replace h_g6 := Blk.ext h_g6 hx
        clear hx
        refine lf_call (wantAll rfl) (rv_call (args := [.agg (cBs (secN s k j)).toArray]) rfl (evc (fr_eval rfl rfl) evn) Try.call40) (shown04_calls (secN s k j) secN_len _) ?_
        rintro _ w32 ⟨rfl, hx⟩
        refine ⟨_, rfl, ?_⟩
        replace hC := hC.trans hx
        replace hr := Rd.ext hr hx
        replace h_g1 := Blk.ext h_g1 hx
        replace hoa := Own.ext hoa hx
        replace hos := Own.ext hos hx
        replace h_g5 := Blk.ext h_g5 hx
        replace h_g6 := Blk.ext h_g6 hx
        clear hx
        refine lf_ex (wantAll rfl) (ex_allocG 26 (z := .agg (cBs (List.replicate 32 0)).toArray) (n := 32) (cs := cBs (List.replicate 32 0)) (by kernel_rfl) (by rfl) rfl) ?_
        rintro _ w33 ⟨g7, hg_g7, rfl, h_g7, hx⟩
        have ge_g7 : w.heap.size ≤ g7 := by have := hC.size; omega
        have lt_g1_g7 : g1 < g7 := by have := Blk.lt h_g1; omega
        have lt_g5_g7 : g5 < g7 := by have := Blk.lt h_g5; omega
        have lt_g6_g7 : g6 < g7 := by have := Blk.lt h_g6; omega
        replace hC := hC.trans hx
        replace hr := Rd.ext hr hx
        replace h_g1 := Blk.ext h_g1 hx
        replace hoa := Own.ext hoa hx
        replace hos := Own.ext hos hx
        replace h_g5 := Blk.ext h_g5 hx
        replace h_g6 := Blk.ext h_g6 hx
        clear hx hg_g7
        refine lf_sk (wantAll rfl) (ex_storeW (cs := cBs (shw (secN s k j))) rfl h_g7 (fr_eval rfl rfl) (fr_eval rfl rfl) (sz_len Try.sz26 (cBs_len shw_len)) (((cBs_len (List.length_replicate ..))).trans ((cBs_len shw_len)).symm) (cBs_one _)) ?_
        rintro w34 ⟨h_g7', hx⟩
        replace h_g7' : Blk w34 g7 (cBs (shw (secN s k j))) 26 := h_g7'
        replace hr := Rd.keep hr hx (fun b hb h0 e => by have e : b = g7 := e; have := Rd.lt hr0 h0 b hb; omega)
        replace h_g1 := Blk.keep h_g1 hx (fun e => by have e : g1 = g7 := e; omega)
        replace hoa := Own.keep hoa hx (fun b hb e => (Own.neType hoa h_g7 (by decide)) (by have e : b = g7 := e; rw [← e]; exact hb))
        replace hos := Own.keep hos hx (fun b hb e => (Own.neType hos h_g7 (by decide)) (by have e : b = g7 := e; rw [← e]; exact hb))
        replace h_g5 := Blk.keep h_g5 hx (fun e => by have e : g5 = g7 := e; omega)
        replace h_g6 := Blk.keep h_g6 hx (fun e => by have e : g6 = g7 := e; omega)
        replace hC := Chg.then hC hx (fun i hi e => absurd hi (by have e : i = g7 := e; omega))
        replace h_g7 := h_g7'
        clear h_g7'
        clear hx
        refine lf_nil ?_
        refine then_n ?_
        refine wp_gen (fun F' => F' 0 = .agg (cBs s).toArray ∧ F' 1 = cutV v b 200 ∧ F' 2 = .pointer (some ⟨g1, 0, none⟩) ∧ F' 4 = .bool false ∧ F' 5 = yb ∧ F' 6 = y5 ∧ F' 7 = .int .i64 ((k : Nat) : Int) ∧ F' 8 = .int .i64 ((bitN (join 14 [List.take 200 b]) k : Nat) : Int) ∧ F' 9 = .pointer (some ⟨g6, 0, none⟩) ∧ F' 10 = .pointer (some ⟨g5, 0, none⟩) ∧ F' 11 = .int .i64 ((j : Nat) : Int) ∧ F' 12 = .pointer (some ⟨g7, 0, none⟩) ∧ F' 20 = .bool true ∧ F' 43 = .bool true) ⟨e0, e1, e2, e4, e5, e6, e7, e8, e9, e10, e11, rfl, e20, e43⟩ ?_
        clear e0 e1 e2 e4 e5 e6 e7 e8 e9 e10 e11 e20 e43
        clear F
        rintro F ⟨e0, e1, e2, e4, e5, e6, e7, e8, e9, e10, e11, e12, e20, e43⟩
        refine wp_regionF ?_
        refine lf_val (v := yb) (wantAll rfl) (rv_move rfl (fr_eval rfl e5)) ?_
        refine lf_val (v := .slice (some ⟨g7, 0, none⟩) 32 32) (wantAll rfl) (rv_sliceArr rfl (fr_eval rfl e12) Try.underlying26 Try.sz5 (by decide)) ?_
        refine lf_ex (wantAll rfl) (ex_apB (xs := pubs s (2 * k + j)) (news := (shw (secN s k j))) (.tmp 51) (.tmp 52) hoa (rdB_blkn h_g7 shw_len (by decide)) (by rw [pubs_len, shw_len]; omega) (fr_eval rfl rfl) (fr_eval rfl rfl) rfl) ?_
        rintro y6 w35 ⟨hoa', hg⟩
        have hx := hg.chg
        replace hoa' : OwnB w35 y6 (pubs s (2 * k + (j + 1))) := by have e := pubs_at s k j (by omega); rw [e] at hoa'; exact hoa'
        have djn_hoa_hos := hg.djL dj_hoa_hos (own_lt hos)
        have ge_n := hg.ge (by have := hC.size; omega) ge_hoa
        replace hr := Rd.keep hr hx (fun b hb h0 e => by have := Rd.lt hr0 h0 b hb; have := ge_hoa b e; omega)
        replace h_g1 := Blk.keep h_g1 hx (fun e => Own.neType hoa h_g1 (by decide) e)
        replace hos := Own.keep hos hx (fun b hb e => dj_hoa_hos b e hb)
        replace h_g5 := Blk.keep h_g5 hx (fun e => Own.neType hoa h_g5 (by decide) e)
        replace h_g6 := Blk.keep h_g6 hx (fun e => Own.neType hoa h_g6 (by decide) e)
        replace h_g7 := Blk.keep h_g7 hx (fun e => Own.neType hoa h_g7 (by decide) e)
        replace hC := Chg.then hC hx (fun i hi e => absurd hi (by have := ge_hoa i e; omega))
        replace ge_hoa := ge_n
        clear ge_n
        replace hoa := hoa'
        clear hoa'
        replace dj_hoa_hos := djn_hoa_hos
        clear djn_hoa_hos
        clear hx hg
        refine lf_val (v := y6) (wantAll rfl) (rv_assign rfl (fr_eval rfl rfl)) ?_
        refine lf_nil ?_
        refine blk_n ?_
        refine then_n ?_
        refine wp_gen (fun F' => F' 0 = .agg (cBs s).toArray ∧ F' 1 = cutV v b 200 ∧ F' 2 = .pointer (some ⟨g1, 0, none⟩) ∧ F' 4 = .bool false ∧ F' 5 = y6 ∧ F' 6 = y5 ∧ F' 7 = .int .i64 ((k : Nat) : Int) ∧ F' 8 = .int .i64 ((bitN (join 14 [List.take 200 b]) k : Nat) : Int) ∧ F' 9 = .pointer (some ⟨g6, 0, none⟩) ∧ F' 10 = .pointer (some ⟨g5, 0, none⟩) ∧ F' 11 = .int .i64 ((j : Nat) : Int) ∧ F' 12 = .pointer (some ⟨g7, 0, none⟩) ∧ F' 20 = .bool true ∧ F' 43 = .bool true) ⟨e0, e1, e2, e4, rfl, e6, e7, e8, e9, e10, e11, e12, e20, e43⟩ ?_
        clear e0 e1 e2 e4 e5 e6 e7 e8 e9 e10 e11 e12 e20 e43
        clear F
        rintro F ⟨e0, e1, e2, e4, e5, e6, e7, e8, e9, e10, e11, e12, e20, e43⟩
        refine wp_regionF ?_
        refine lf_val (v := .int .i64 ((j : Nat) : Int)) (wantAll rfl) (rv_move rfl (fr_eval rfl e11)) ?_
        refine lf_val (v := .int .i64 ((j + 1 : Nat) : Int)) (wantAll rfl) (rv_add rfl (fr_eval rfl rfl) rfl (wrap_i64 (by omega) (by omega) (by omega))) ?_
        refine lf_val (v := .int .i64 ((j + 1 : Nat) : Int)) (wantAll rfl) (rv_assign rfl (fr_eval rfl rfl)) ?_
        refine lf_nil ?_
        refine then_n ?_
        exact ⟨_, _, (by omega), rfl, j + 1, _, rfl, (by omega), dj_hoa_hos, e0, e1, e2, e4, e5, e6, e7, e8, e9, e10, rfl, e20, hr, h_g1, hoa, ge_hoa, hos, h_g5, h_g6, hC⟩
      · refine lf_val (v := .bool false) (wantAll rfl) (rv_lss rfl (fr_eval rfl rfl) rfl (decide_eq_false (by omega))) ?_
        refine lf_nil ?_
        refine then_n ?_
        refine wp_gen (fun F' => F' 0 = .agg (cBs s).toArray ∧ F' 1 = cutV v b 200 ∧ F' 2 = .pointer (some ⟨g1, 0, none⟩) ∧ F' 4 = .bool false ∧ F' 5 = yb ∧ F' 6 = y5 ∧ F' 7 = .int .i64 ((k : Nat) : Int) ∧ F' 8 = .int .i64 ((bitN (join 14 [List.take 200 b]) k : Nat) : Int) ∧ F' 9 = .pointer (some ⟨g6, 0, none⟩) ∧ F' 10 = .pointer (some ⟨g5, 0, none⟩) ∧ F' 11 = .int .i64 ((j : Nat) : Int) ∧ F' 20 = .bool true ∧ F' 43 = .bool false) ⟨e0, e1, e2, e4, e5, e6, e7, e8, e9, e10, e11, e20, rfl⟩ ?_
        clear e0 e1 e2 e4 e5 e6 e7 e8 e9 e10 e11 e20
        clear F
        rintro F ⟨e0, e1, e2, e4, e5, e6, e7, e8, e9, e10, e11, e20, e43⟩
        refine wp_cond_false (fr_eval rfl e43) ?_
        refine wp_exit ?_
        refine then_exit ?_
        refine then_exit ?_
        refine blk_exit ?_
        refine blk_n ?_
        refine then_n ?_
        refine wp_regionF ?_
        refine lf_val (v := .int .i64 ((k : Nat) : Int)) (wantAll rfl) (rv_move rfl (fr_eval rfl e7)) ?_
        refine lf_val (v := .int .i64 ((k + 1 : Nat) : Int)) (wantAll rfl) (rv_add rfl (fr_eval rfl rfl) rfl (wrap_i64 (by omega) (by omega) (by omega))) ?_
        refine lf_val (v := .int .i64 ((k + 1 : Nat) : Int)) (wantAll rfl) (rv_assign rfl (fr_eval rfl rfl)) ?_
        refine lf_nil ?_
        refine then_n ?_
        obtain rfl : j = 2 := by omega
        exact ⟨_, _, (by omega), rfl, k + 1, _, _, rfl, (by omega), dj_hoa_hos, e0, e1, e2, e4, e5, e6, rfl, hr, h_g1, hoa, ge_hoa, hos, ge_hos, hC⟩
  · refine lf_val (v := .bool false) (wantAll rfl) (rv_lss rfl (fr_eval rfl rfl) rfl (decide_eq_false (by omega))) ?_
    refine lf_nil ?_
    refine then_n ?_
    refine wp_gen (fun F' => F' 0 = .agg (cBs s).toArray ∧ F' 1 = cutV v b 200 ∧ F' 2 = .pointer (some ⟨g1, 0, none⟩) ∧ F' 4 = .bool false ∧ F' 5 = ya ∧ F' 6 = ys ∧ F' 7 = .int .i64 ((k : Nat) : Int) ∧ F' 20 = .bool false) ⟨e0, e1, e2, e4, e5, e6, e7, rfl⟩ ?_
    clear e0 e1 e2 e4 e5 e6 e7
    clear F
    rintro F ⟨e0, e1, e2, e4, e5, e6, e7, e20⟩
    refine wp_cond_false (fr_eval rfl e20) ?_
    refine wp_exit ?_
    refine then_exit ?_
    refine then_exit ?_
    refine blk_exit ?_
    refine then_n ?_
    refine wp_seq ?_
    obtain rfl : k = 64 := by omega
    refine wp_regionF ?_
    refine lf_val (v := ya) (wantAll rfl) (rv_move rfl (fr_eval rfl e5)) ?_
    refine lf_ex (wantAll rfl) (ex_lits (n := 1) Try.stBB [(.tmp 54)] (vs := [ya]) (evc (fr_eval rfl rfl) evn) (ones_cons (Rd.oneV (OwnB.rd hoa)) ones_nil) rfl (by decide) rfl) ?_
    rintro _ w36 ⟨g8, hg_g8, rfl, h_g8, hx⟩
    have ge_g8 : w.heap.size ≤ g8 := by have := hC.size; omega
    have lt_g1_g8 : g1 < g8 := by have := Blk.lt h_g1; omega
    replace hC := hC.trans hx
    replace hr := Rd.ext hr hx
    replace h_g1 := Blk.ext h_g1 hx
    replace hoa := Own.ext hoa hx
    replace hos := Own.ext hos hx
    clear hx hg_g8
    refine lf_call (wantAll rfl) (rv_call (args := [cB 13, .slice (some ⟨g8, 0, none⟩) 1 1]) rfl (evc rfl (evc (fr_eval rfl rfl) evn)) Try.call20) (join_calls 13 [pubs s (2 * 64)] (flat_le1 (Nat.le_trans (show List.length (pubs s (2 * 64)) ≤ 5000 from (by rw [pubs_len]; omega)) (by decide))) _ _ (rdP_blk h_g8 (.cons (OwnB.rd hoa) .nil) rfl (by decide))) ?_
    rintro _ w37 ⟨rfl, hx⟩
    refine ⟨_, rfl, ?_⟩
    replace hC := hC.trans hx
    replace hr := Rd.ext hr hx
    replace h_g1 := Blk.ext h_g1 hx
    replace hoa := Own.ext hoa hx
    replace hos := Own.ext hos hx
    replace h_g8 := Blk.ext h_g8 hx
    clear hx
    refine lf_ex (wantAll rfl) (ex_allocG 26 (z := .agg (cBs (List.replicate 32 0)).toArray) (n := 32) (cs := cBs (List.replicate 32 0)) (by kernel_rfl) (by rfl) rfl) ?_
    rintro _ w38 ⟨g9, hg_g9, rfl, h_g9, hx⟩
    have ge_g9 : w.heap.size ≤ g9 := by have := hC.size; omega
    have lt_g1_g9 : g1 < g9 := by have := Blk.lt h_g1; omega
    have lt_g8_g9 : g8 < g9 := by have := Blk.lt h_g8; omega
    replace hC := hC.trans hx
    replace hr := Rd.ext hr hx
    replace h_g1 := Blk.ext h_g1 hx
    replace hoa := Own.ext hoa hx
    replace hos := Own.ext hos hx
    replace h_g8 := Blk.ext h_g8 hx
    clear hx hg_g9
    refine lf_sk (wantAll rfl) (ex_storeW (cs := cBs (join 13 [pubs s (2 * 64)])) rfl h_g9 (fr_eval rfl rfl) (fr_eval rfl rfl) (sz_len Try.sz26 (cBs_len (join_length _ _))) (((cBs_len (List.length_replicate ..))).trans ((cBs_len (join_length _ _))).symm) (cBs_one _)) ?_
    rintro w39 ⟨h_g9', hx⟩
    replace h_g9' : Blk w39 g9 (cBs (join 13 [pubs s (2 * 64)])) 26 := h_g9'
    replace hr := Rd.keep hr hx (fun b hb h0 e => by have e : b = g9 := e; have := Rd.lt hr0 h0 b hb; omega)
    replace h_g1 := Blk.keep h_g1 hx (fun e => by have e : g1 = g9 := e; omega)
    replace hoa := Own.keep hoa hx (fun b hb e => (Own.neType hoa h_g9 (by decide)) (by have e : b = g9 := e; rw [← e]; exact hb))
    replace hos := Own.keep hos hx (fun b hb e => (Own.neType hos h_g9 (by decide)) (by have e : b = g9 := e; rw [← e]; exact hb))
    replace h_g8 := Blk.keep h_g8 hx (fun e => by have e : g8 = g9 := e; omega)
    replace hC := Chg.then hC hx (fun i hi e => absurd hi (by have e : i = g9 := e; omega))
    replace h_g9 := h_g9'
    clear h_g9'
    clear hx
    refine lf_nil ?_
    refine then_n ?_
    refine wp_seq ?_
    clear h_g8
    refine wp_gen (fun F' => F' 0 = .agg (cBs s).toArray ∧ F' 1 = cutV v b 200 ∧ F' 2 = .pointer (some ⟨g1, 0, none⟩) ∧ F' 4 = .bool false ∧ F' 5 = ya ∧ F' 6 = ys ∧ F' 7 = .int .i64 ((64 : Nat) : Int) ∧ F' 13 = .pointer (some ⟨g9, 0, none⟩) ∧ F' 20 = .bool false) ⟨e0, e1, e2, e4, e5, e6, e7, rfl, e20⟩ ?_
    clear e0 e1 e2 e4 e5 e6 e7 e20
    clear F
    rintro F ⟨e0, e1, e2, e4, e5, e6, e7, e13, e20⟩
    refine wp_regionF ?_
    refine lf_val (v := .agg (cBs s).toArray) (wantAll rfl) (rv_loadW rfl h_g1 (fr_eval rfl e2) Try.underlying26 rfl (sz_len Try.sz26 (cBs_len hs))) ?_
    refine lf_val (v := cutV v b 200) (wantAll rfl) (rv_move rfl (fr_eval rfl e1)) ?_
    refine lf_call (wantAll rfl) (rv_call (args := [.agg (cBs s).toArray, cutV v b 200]) rfl (evc (fr_eval rfl rfl) (evc (fr_eval rfl rfl) evn)) Try.call41) (sign_calls s hs (List.take 200 b) (Nat.le_trans (List.length_take_le 200 b) (by decide)) _ _ (rdB_cut hr)) ?_
    rintro _ w40 ⟨⟨y7, rfl, ho1', ge_ho1⟩, hx⟩
    refine ⟨_, rfl, ?_⟩
    replace ge_ho1 : ∀ k, (y7 : Value).ownBlock = some k → w.heap.size ≤ k := fun k hk => Nat.le_trans hC.size (ge_ho1 k hk)
    replace hC := hC.trans hx
    replace hr := Rd.ext hr hx
    replace h_g1 := Blk.ext h_g1 hx
    replace hoa := Own.ext hoa hx
    replace hos := Own.ext hos hx
    replace h_g9 := Blk.ext h_g9 hx
    have ho1 := ho1'
    clear ho1' hx
    refine lf_val (v := y7) (wantAll rfl) (rv_assign rfl (fr_eval rfl rfl)) ?_
    refine lf_nil ?_
    refine then_n ?_
    refine wp_seq ?_
    refine wp_gen (fun F' => F' 0 = .agg (cBs s).toArray ∧ F' 1 = cutV v b 200 ∧ F' 2 = .pointer (some ⟨g1, 0, none⟩) ∧ F' 4 = .bool false ∧ F' 5 = ya ∧ F' 6 = ys ∧ F' 7 = .int .i64 ((64 : Nat) : Int) ∧ F' 13 = .pointer (some ⟨g9, 0, none⟩) ∧ F' 14 = y7 ∧ F' 20 = .bool false) ⟨e0, e1, e2, e4, e5, e6, e7, e13, rfl, e20⟩ ?_
    clear e0 e1 e2 e4 e5 e6 e7 e13 e20
    clear F
    rintro F ⟨e0, e1, e2, e4, e5, e6, e7, e13, e14, e20⟩
    refine wp_regionF ?_
    refine lf_val (v := cutV v b 200) (wantAll rfl) (rv_move rfl (fr_eval rfl e1)) ?_
    refine lf_val (v := y7) (wantAll rfl) (rv_move rfl (fr_eval rfl e14)) ?_
    refine lf_call (wantAll rfl) (rv_call (args := [cutV v b 200, y7]) rfl (evc (fr_eval rfl rfl) (evc (fr_eval rfl rfl) evn)) Try.call42) (back_calls (List.take 200 b) (sigs s (join 14 [List.take 200 b]) 64) (Nat.le_trans (List.length_take_le 200 b) (by decide)) _ _ _ (rdB_cut hr) (OwnB.rd ho1)) ?_
    rintro _ w41 ⟨rfl, hx⟩
    refine ⟨_, rfl, ?_⟩
    replace hC := hC.trans hx
    replace hr := Rd.ext hr hx
    replace h_g1 := Blk.ext h_g1 hx
    replace hoa := Own.ext hoa hx
    replace hos := Own.ext hos hx
    replace h_g9 := Blk.ext h_g9 hx
    replace ho1 := Own.ext ho1 hx
    clear hx
    refine lf_val (v := .tuple #[.agg (cBs (backK (join 14 [List.take 200 b]) (sigs s (join 14 [List.take 200 b]) 64))).toArray, .int .i64 (backE (sigs s (join 14 [List.take 200 b]) 64))]) (wantAll rfl) (rv_move rfl (fr_eval rfl rfl)) ?_
    refine lf_val (v := .agg (cBs (backK (join 14 [List.take 200 b]) (sigs s (join 14 [List.take 200 b]) 64))).toArray) (wantAll rfl) (rv_extract rfl (fr_eval rfl rfl) rfl) ?_
    refine lf_val (v := .int .i64 (backE (sigs s (join 14 [List.take 200 b]) 64))) (wantAll rfl) (rv_extract rfl (fr_eval rfl rfl) rfl) ?_
    refine lf_ex (wantAll rfl) (ex_allocG 26 (z := .agg (cBs (List.replicate 32 0)).toArray) (n := 32) (cs := cBs (List.replicate 32 0)) (by kernel_rfl) (by rfl) rfl) ?_
    rintro _ w42 ⟨g10, hg_g10, rfl, h_g10, hx⟩
    have ge_g10 : w.heap.size ≤ g10 := by have := hC.size; omega
    have lt_g1_g10 : g1 < g10 := by have := Blk.lt h_g1; omega
    have lt_g9_g10 : g9 < g10 := by have := Blk.lt h_g9; omega
    replace hC := hC.trans hx
    replace hr := Rd.ext hr hx
    replace h_g1 := Blk.ext h_g1 hx
    replace hoa := Own.ext hoa hx
    replace hos := Own.ext hos hx
    replace h_g9 := Blk.ext h_g9 hx
    replace ho1 := Own.ext ho1 hx
    clear hx hg_g10
    refine lf_sk (wantAll rfl) (ex_storeW (cs := cBs (backK (join 14 [List.take 200 b]) (sigs s (join 14 [List.take 200 b]) 64))) rfl h_g10 (fr_eval rfl rfl) (fr_eval rfl rfl) (sz_len Try.sz26 (cBs_len backK_len)) (((cBs_len (List.length_replicate ..))).trans ((cBs_len backK_len)).symm) (cBs_one _)) ?_
    rintro w43 ⟨h_g10', hx⟩
    replace h_g10' : Blk w43 g10 (cBs (backK (join 14 [List.take 200 b]) (sigs s (join 14 [List.take 200 b]) 64))) 26 := h_g10'
    replace hr := Rd.keep hr hx (fun b hb h0 e => by have e : b = g10 := e; have := Rd.lt hr0 h0 b hb; omega)
    replace h_g1 := Blk.keep h_g1 hx (fun e => by have e : g1 = g10 := e; omega)
    replace hoa := Own.keep hoa hx (fun b hb e => (Own.neType hoa h_g10 (by decide)) (by have e : b = g10 := e; rw [← e]; exact hb))
    replace hos := Own.keep hos hx (fun b hb e => (Own.neType hos h_g10 (by decide)) (by have e : b = g10 := e; rw [← e]; exact hb))
    replace h_g9 := Blk.keep h_g9 hx (fun e => by have e : g9 = g10 := e; omega)
    replace ho1 := Own.keep ho1 hx (fun b hb e => (Own.neType ho1 h_g10 (by decide)) (by have e : b = g10 := e; rw [← e]; exact hb))
    replace hC := Chg.then hC hx (fun i hi e => absurd hi (by have e : i = g10 := e; omega))
    replace h_g10 := h_g10'
    clear h_g10'
    clear hx
    refine lf_val (v := .int .i64 (backE (sigs s (join 14 [List.take 200 b]) 64))) (wantAll rfl) (rv_assign rfl (fr_eval rfl rfl)) ?_
    refine lf_nil ?_
    refine then_n ?_
    refine wp_seq ?_
    refine wp_gen (fun F' => F' 0 = .agg (cBs s).toArray ∧ F' 1 = cutV v b 200 ∧ F' 2 = .pointer (some ⟨g1, 0, none⟩) ∧ F' 4 = .bool false ∧ F' 5 = ya ∧ F' 6 = ys ∧ F' 7 = .int .i64 ((64 : Nat) : Int) ∧ F' 13 = .pointer (some ⟨g9, 0, none⟩) ∧ F' 14 = y7 ∧ F' 15 = .pointer (some ⟨g10, 0, none⟩) ∧ F' 16 = .int .i64 (backE (sigs s (join 14 [List.take 200 b]) 64)) ∧ F' 20 = .bool false) ⟨e0, e1, e2, e4, e5, e6, e7, e13, e14, rfl, rfl, e20⟩ ?_
    clear e0 e1 e2 e4 e5 e6 e7 e13 e14 e20
    clear F
    rintro F ⟨e0, e1, e2, e4, e5, e6, e7, e13, e14, e15, e16, e20⟩
    refine wp_regionX (fun _ => False) 37 (by kernel_rfl) (by kernel_rfl) ?_
    refine xl_take (i := 0) (v := .agg (cBs s).toArray) rfl (by kernel_rfl) (by kernel_rfl) (by kernel_rfl) (by kernel_rfl) (yx_val (wantAll rfl) (fun w' hx' => rv_loadW rfl (Blk.ext h_g1 hx') (fr_eval rfl e2) Try.underlying26 rfl (sz_len Try.sz26 (cBs_len hs)))) ?_
    refine xl_take (i := 1) (v := .agg (cBs (pub s)).toArray) rfl (by kernel_rfl) (by kernel_rfl) (by kernel_rfl) (by kernel_rfl) (yx_call (wantAll rfl) (fun w' => rv_call (args := [.agg (cBs s).toArray]) rfl (evc (fr_eval rfl rfl) evn) Try.call43) (fun w' hx' => public_calls s hs _)) ?_
    refine xl_take (i := 2) (v := .agg (cBs (join 13 [pubs s (2 * 64)])).toArray) rfl (by kernel_rfl) (by kernel_rfl) (by kernel_rfl) (by kernel_rfl) (yx_val (wantAll rfl) (fun w' hx' => rv_loadW rfl (Blk.ext h_g9 hx') (fr_eval rfl e13) Try.underlying26 rfl (sz_len Try.sz26 (cBs_len (join_length _ _))))) ?_
    refine xl_take (i := 3) (v := .bool true) rfl (by kernel_rfl) (by kernel_rfl) (by kernel_rfl) (by kernel_rfl) (yx_val (wantAll rfl) (fun w' hx' => eqT rfl (fr_eval rfl rfl) (fr_eval rfl rfl) pub_len (join_length _ _) (b := true) (by simp [pub]))) ?_
    refine xl_take (i := 4) (v := .bool true) rfl (by kernel_rfl) (by kernel_rfl) (by kernel_rfl) (by kernel_rfl) (yx_val (wantAll rfl) (fun w' hx' => rv_move rfl (fr_eval rfl rfl))) ?_
    refine xl_take (i := 5) (v := y7) rfl (by kernel_rfl) (by kernel_rfl) (by kernel_rfl) (by kernel_rfl) (yx_val (wantF (d := 70) rfl (by kernel_rfl) rfl rfl) (fun w' hx' => rv_move rfl (fr_eval rfl e14))) ?_
    refine xl_take (i := 6) (v := .string ⟨(sigs s (join 14 [List.take 200 b]) 64).toArray⟩) rfl (by kernel_rfl) (by kernel_rfl) (by kernel_rfl) (by kernel_rfl) (yx_val (wantF (d := 70) rfl (by kernel_rfl) rfl rfl) (fun w' hx' => rv_str rfl (fr_eval rfl rfl) (OwnB.rd (Own.ext ho1 hx')) Try.underlying22 Try.underlying5 Try.underlying9)) ?_
    refine xl_take (i := 7) (v := ys) rfl (by kernel_rfl) (by kernel_rfl) (by kernel_rfl) (by kernel_rfl) (yx_val (wantF (d := 70) rfl (by kernel_rfl) rfl rfl) (fun w' hx' => rv_move rfl (fr_eval rfl e6))) ?_
    refine xl_take (i := 8) (v := .string ⟨(sigs s (join 14 [List.take 200 b]) 64).toArray⟩) rfl (by kernel_rfl) (by kernel_rfl) (by kernel_rfl) (by kernel_rfl) (yx_val (wantF (d := 70) rfl (by kernel_rfl) rfl rfl) (fun w' hx' => rv_str rfl (fr_eval rfl rfl) (OwnB.rd (Own.ext hos hx')) Try.underlying22 Try.underlying5 Try.underlying9)) ?_
    refine xl_take (i := 9) (v := .bool true) rfl (by kernel_rfl) (by kernel_rfl) (by kernel_rfl) (by kernel_rfl) (yx_val (wantF (d := 70) rfl (by kernel_rfl) rfl rfl) (fun w' hx' => rv_eqs rfl (fr_eval rfl rfl) (fr_eval rfl rfl) (decide_eq_true rfl))) ?_
    refine xl_take (i := 10) (v := .bool true) rfl (by kernel_rfl) (by kernel_rfl) (by kernel_rfl) (by kernel_rfl) (yx_val (wantAll rfl) (fun w' hx' => rv_pickT rfl (fr_eval rfl rfl) (fr_eval rfl rfl))) ?_
    refine xl_take (i := 11) (v := .bool true) rfl (by kernel_rfl) (by kernel_rfl) (by kernel_rfl) (by kernel_rfl) (yx_val (wantAll rfl) (fun w' hx' => rv_move rfl (fr_eval rfl rfl))) ?_
    refine xl_take (i := 12) (v := .agg (cBs (backK (join 14 [List.take 200 b]) (sigs s (join 14 [List.take 200 b]) 64))).toArray) rfl (by kernel_rfl) (by kernel_rfl) (by kernel_rfl) (by kernel_rfl) (yx_val (wantF (d := 77) rfl (by kernel_rfl) rfl rfl) (fun w' hx' => rv_loadW rfl (Blk.ext h_g10 hx') (fr_eval rfl e15) Try.underlying26 rfl (sz_len Try.sz26 (cBs_len backK_len)))) ?_
    refine xl_take (i := 13) (v := .agg (cBs (join 13 [pubs s (2 * 64)])).toArray) rfl (by kernel_rfl) (by kernel_rfl) (by kernel_rfl) (by kernel_rfl) (yx_val (wantF (d := 77) rfl (by kernel_rfl) rfl rfl) (fun w' hx' => rv_loadW rfl (Blk.ext h_g9 hx') (fr_eval rfl e13) Try.underlying26 rfl (sz_len Try.sz26 (cBs_len (join_length _ _))))) ?_
    refine xl_take (i := 14) (v := .bool true) rfl (by kernel_rfl) (by kernel_rfl) (by kernel_rfl) (by kernel_rfl) (yx_val (wantF (d := 77) rfl (by kernel_rfl) rfl rfl) (fun w' hx' => eqT rfl (fr_eval rfl rfl) (fr_eval rfl rfl) backK_len (join_length _ _) (b := true) (by rw [backK_sigs]; simp [pub]))) ?_
    refine xl_take (i := 15) (v := .bool true) rfl (by kernel_rfl) (by kernel_rfl) (by kernel_rfl) (by kernel_rfl) (yx_val (wantAll rfl) (fun w' hx' => rv_pickT rfl (fr_eval rfl rfl) (fr_eval rfl rfl))) ?_
    refine xl_take (i := 16) (v := .bool true) rfl (by kernel_rfl) (by kernel_rfl) (by kernel_rfl) (by kernel_rfl) (yx_val (wantAll rfl) (fun w' hx' => rv_move rfl (fr_eval rfl rfl))) ?_
    refine xl_take (i := 17) (v := .int .i64 (backE (sigs s (join 14 [List.take 200 b]) 64))) rfl (by kernel_rfl) (by kernel_rfl) (by kernel_rfl) (by kernel_rfl) (yx_val (wantF (d := 82) rfl (by kernel_rfl) rfl rfl) (fun w' hx' => rv_move rfl (fr_eval rfl e16))) ?_
    refine xl_take (i := 18) (v := .bool true) rfl (by kernel_rfl) (by kernel_rfl) (by kernel_rfl) (by kernel_rfl) (yx_val (wantF (d := 82) rfl (by kernel_rfl) rfl rfl) (fun w' hx' => rv_eql rfl (fr_eval rfl rfl) rfl (by unfold backE; rw [if_pos (sigs_len _ _ 64)]; rfl))) ?_
    refine xl_take (i := 19) (v := .bool true) rfl (by kernel_rfl) (by kernel_rfl) (by kernel_rfl) (by kernel_rfl) (yx_val (wantAll rfl) (fun w' hx' => rv_pickT rfl (fr_eval rfl rfl) (fr_eval rfl rfl))) ?_
    refine xl_take (i := 20) (v := .bool true) rfl (by kernel_rfl) (by kernel_rfl) (by kernel_rfl) (by kernel_rfl) (yx_val (wantAll rfl) (fun w' hx' => rv_move rfl (fr_eval rfl rfl))) ?_
    refine xl_take (i := 21) (v := .agg (cBs (join 13 [pubs s (2 * 64)])).toArray) rfl (by kernel_rfl) (by kernel_rfl) (by kernel_rfl) (by kernel_rfl) (yx_val (wantF (d := 86) rfl (by kernel_rfl) rfl rfl) (fun w' hx' => rv_loadW rfl (Blk.ext h_g9 hx') (fr_eval rfl e13) Try.underlying26 rfl (sz_len Try.sz26 (cBs_len (join_length _ _))))) ?_
    refine xl_take (i := 22) (v := cutV v b 200) rfl (by kernel_rfl) (by kernel_rfl) (by kernel_rfl) (by kernel_rfl) (yx_val (wantF (d := 86) rfl (by kernel_rfl) rfl rfl) (fun w' hx' => rv_move rfl (fr_eval rfl e1))) ?_
    refine xl_take (i := 23) (v := y7) rfl (by kernel_rfl) (by kernel_rfl) (by kernel_rfl) (by kernel_rfl) (yx_val (wantF (d := 86) rfl (by kernel_rfl) rfl rfl) (fun w' hx' => rv_move rfl (fr_eval rfl e14))) ?_
    refine xl_take (i := 24) (v := .bool true) rfl (by kernel_rfl) (by kernel_rfl) (by kernel_rfl) (by kernel_rfl) (yx_call (wantF (d := 86) rfl (by kernel_rfl) rfl rfl) (fun w' => rv_call (args := [.agg (cBs (join 13 [pubs s (2 * 64)])).toArray, cutV v b 200, y7]) rfl (evc (fr_eval rfl rfl) (evc (fr_eval rfl rfl) (evc (fr_eval rfl rfl) evn))) Try.call44) (fun w' hx' => by have h := verify_calls (join 13 [pubs s (2 * 64)]) (List.take 200 b) (sigs s (join 14 [List.take 200 b]) 64) (join_length _ _) (Nat.le_trans (List.length_take_le 200 b) (by decide)) _ _ _ (rdB_cut (Rd.ext hr hx')) (OwnB.rd (Own.ext ho1 hx')); rw [show verB (join 13 [pubs s (2 * 64)]) (join 14 [List.take 200 b]) (sigs s (join 14 [List.take 200 b]) 64) = true from ver_sign s _] at h; exact h)) ?_
    refine xl_take (i := 25) (v := .bool true) rfl (by kernel_rfl) (by kernel_rfl) (by kernel_rfl) (by kernel_rfl) (yx_val (wantAll rfl) (fun w' hx' => rv_pickT rfl (fr_eval rfl rfl) (fr_eval rfl rfl))) ?_
    refine xl_take (i := 26) (v := .bool true) rfl (by kernel_rfl) (by kernel_rfl) (by kernel_rfl) (by kernel_rfl) (yx_val (wantAll rfl) (fun w' hx' => rv_move rfl (fr_eval rfl rfl))) ?_
    refine xl_take (i := 27) (v := cutV v b 200) rfl (by kernel_rfl) (by kernel_rfl) (by kernel_rfl) (by kernel_rfl) (yx_val (wantF (d := 92) rfl (by kernel_rfl) rfl rfl) (fun w' hx' => rv_move rfl (fr_eval rfl e1))) ?_
    refine xl_take (i := 28) (v := .agg (cBs (join 14 [List.take 200 b])).toArray) rfl (by kernel_rfl) (by kernel_rfl) (by kernel_rfl) (by kernel_rfl) (yx_call (wantF (d := 92) rfl (by kernel_rfl) rfl rfl) (fun w' => rv_call (args := [cutV v b 200]) rfl (evc (fr_eval rfl rfl) evn) Try.call45) (fun w' hx' => digest_calls (List.take 200 b) (Nat.le_trans (List.length_take_le 200 b) (by decide)) _ _ (rdB_cut (Rd.ext hr hx')))) ?_
    refine xl_take (i := 29) (v := cutV v b 200) rfl (by kernel_rfl) (by kernel_rfl) (by kernel_rfl) (by kernel_rfl) (yx_val (wantF (d := 92) rfl (by kernel_rfl) rfl rfl) (fun w' hx' => rv_move rfl (fr_eval rfl e1))) ?_
    refine anyX_ready (rs := [30]) (by kernel_rfl) ?_
    intro w44 hx
    replace hC := hC.trans hx
    replace hr := Rd.ext hr hx
    replace h_g1 := Blk.ext h_g1 hx
    replace hoa := Own.ext hoa hx
    replace hos := Own.ext hos hx
    replace h_g9 := Blk.ext h_g9 hx
    replace ho1 := Own.ext ho1 hx
    replace h_g10 := Blk.ext h_g10 hx
    clear hx
    refine (anyX_cons ?_ anyX_nil)
    refine xl_step (i := 30) rfl (wantF (d := 92) rfl (by kernel_rfl) rfl rfl) ?_
    refine of_ex (ex_lits (n := 1) Try.stBB [(.tmp 95)] (vs := [cutV v b 200]) (evc (fr_eval rfl rfl) evn) (ones_cons (Rd.oneV (rdB_cut hr)) ones_nil) rfl (by decide) rfl) ?_
    rintro _ w45 ⟨g11, hg_g11, rfl, h_g11, hx⟩
    
    have hx0 := hx
    have ge_g11 : w.heap.size ≤ g11 := by have := hC.size; omega
    have lt_g1_g11 : g1 < g11 := by have := Blk.lt h_g1; omega
    have lt_g9_g11 : g9 < g11 := by have := Blk.lt h_g9; omega
    have lt_g10_g11 : g10 < g11 := by have := Blk.lt h_g10; omega
    replace hC := hC.trans hx
    replace hr := Rd.ext hr hx
    replace h_g1 := Blk.ext h_g1 hx
    replace hoa := Own.ext hoa hx
    replace hos := Own.ext hos hx
    replace h_g9 := Blk.ext h_g9 hx
    replace ho1 := Own.ext ho1 hx
    replace h_g10 := Blk.ext h_g10 hx
    clear hx hg_g11
    refine ⟨Ext.any hx0, ?_⟩
    clear hx0
    refine xl_take (i := 31) (v := .agg (cBs (join 14 [List.take 200 b])).toArray) rfl (by kernel_rfl) (by kernel_rfl) (by kernel_rfl) (by kernel_rfl) (yx_call (wantF (d := 92) rfl (by kernel_rfl) rfl rfl) (fun w' => rv_call (args := [cB 14, .slice (some ⟨g11, 0, none⟩) 1 1]) rfl (evc rfl (evc (fr_eval rfl rfl) evn)) Try.call20) (fun w' hx' => join_calls 14 [List.take 200 b] (flat_le1 (Nat.le_trans (show List.length (List.take 200 b) ≤ 200 from (List.length_take_le 200 b)) (by decide))) _ _ (rdP_blk (Blk.ext h_g11 hx') (.cons (rdB_cut (Rd.ext hr hx')) .nil) rfl (by decide)))) ?_
    refine xl_take (i := 32) (v := .bool true) rfl (by kernel_rfl) (by kernel_rfl) (by kernel_rfl) (by kernel_rfl) (yx_val (wantF (d := 92) rfl (by kernel_rfl) rfl rfl) (fun w' hx' => eqT rfl (fr_eval rfl rfl) (fr_eval rfl rfl) (join_length _ _) (join_length _ _) (b := true) (by simp))) ?_
    refine xl_take (i := 33) (v := .bool true) rfl (by kernel_rfl) (by kernel_rfl) (by kernel_rfl) (by kernel_rfl) (yx_val (wantAll rfl) (fun w' hx' => rv_pickT rfl (fr_eval rfl rfl) (fr_eval rfl rfl))) ?_
    refine xl_take (i := 34) (v := .bool true) rfl (by kernel_rfl) (by kernel_rfl) (by kernel_rfl) (by kernel_rfl) (yx_val (wantAll rfl) (fun w' hx' => rv_move rfl (fr_eval rfl rfl))) ?_
    refine xl_take (i := 35) (v := .bool true) rfl (by kernel_rfl) (by kernel_rfl) (by kernel_rfl) (by kernel_rfl) (yx_call (wantF (d := 100) rfl (by kernel_rfl) rfl rfl) (fun w' => rv_call (args := []) rfl evn Try.call46) (fun w' hx' => awake04_calls _)) ?_
    refine xl_take (i := 36) (v := .bool true) rfl (by kernel_rfl) (by kernel_rfl) (by kernel_rfl) (by kernel_rfl) (yx_val (wantAll rfl) (fun w' hx' => rv_pickT rfl (fr_eval rfl rfl) (fr_eval rfl rfl))) ?_
    refine xl_tail (s := 37) rfl ?_
    intro w46 hx
    replace hC := hC.trans hx
    replace hr := Rd.ext hr hx
    replace h_g1 := Blk.ext h_g1 hx
    replace hoa := Own.ext hoa hx
    replace hos := Own.ext hos hx
    replace h_g9 := Blk.ext h_g9 hx
    replace ho1 := Own.ext ho1 hx
    replace h_g10 := Blk.ext h_g10 hx
    replace h_g11 := Blk.ext h_g11 hx
    clear hx
    refine lf_val (v := .bool true) (wantAll rfl) (rv_assign rfl (fr_eval rfl rfl)) ?_
    refine lf_nil ?_
    refine then_n ?_
    clear h_g11
    refine wp_gen (fun F' => F' 0 = .agg (cBs s).toArray ∧ F' 1 = cutV v b 200 ∧ F' 2 = .pointer (some ⟨g1, 0, none⟩) ∧ F' 4 = .bool true ∧ F' 5 = ya ∧ F' 6 = ys ∧ F' 7 = .int .i64 ((64 : Nat) : Int) ∧ F' 13 = .pointer (some ⟨g9, 0, none⟩) ∧ F' 14 = y7 ∧ F' 15 = .pointer (some ⟨g10, 0, none⟩) ∧ F' 16 = .int .i64 (backE (sigs s (join 14 [List.take 200 b]) 64)) ∧ F' 20 = .bool false) ⟨e0, e1, e2, rfl, e5, e6, e7, e13, e14, e15, e16, e20⟩ ?_
    clear e0 e1 e2 e4 e5 e6 e7 e13 e14 e15 e16 e20
    clear F
    rintro F ⟨e0, e1, e2, e4, e5, e6, e7, e13, e14, e15, e16, e20⟩
    refine wp_ret ?_
    exact bodyPost_ret (v := (.bool true)) (res1 rfl (ro_tmp rfl e4)) rfl (⟨rfl, Ext.below hC⟩)

theorem hlf_take {sig : List UInt8} {k : Nat} : List.take 32 (List.take (64 * k + 32 - 64 * k) (List.drop (64 * k) sig)) = hlf sig k := by
  unfold hlf; rw [List.take_take, show min 32 (64 * k + 32 - 64 * k) = 32 by omega]

theorem beq_comm_l (a b : List UInt8) : (a == b) = (b == a) := Bool.eq_iff_iff.2 (by simp only [beq_iff_eq]; exact eq_comm)

set_option maxRecDepth 100000 in
set_option maxHeartbeats 4000000 in
theorem lamportBacks_walk {w : World} (b : List UInt8) (v : Value) (hr0 : RdB w v b) (sig : List UInt8) (v2 : Value) (hs0 : RdB w v2 sig) (key : List UInt8) (hk : key.length = 32) :
    Calls Try.prog 13 #[v, v2, .agg (cBs key).toArray] w fun e w' => e = .returned (.bool true) ∧ Below w.heap.size w w' := by
  refine calls_fr (args := [v, v2, .agg (cBs key).toArray]) (n := 110) Try.func13 rfl rfl (show 3 ≤ 110 by decide) ?_
  have hC : Ext w w := Chg.refl _ _
  have hr := hr0
  have hs := hs0
  by_cases hl : sig.length = 4096
  · refine wp_seq ?_
    refine wp_gen (fun F' => F' 0 = v ∧ F' 1 = v2 ∧ F' 2 = .agg (cBs key).toArray) ⟨rfl, rfl, rfl⟩ ?_
    rintro F ⟨e0, e1, e2⟩
    refine wp_regionF ?_
    refine lf_ex (wantAll rfl) (ex_boxG 26 (.tmp 2) (cs := cBs key) (fr_eval rfl e2) (by rfl) rfl) ?_
    rintro _ w1 ⟨g1, hg_g1, rfl, h_g1, hx⟩
    have ge_g1 : w.heap.size ≤ g1 := by have := hC.size; omega
    replace hC := hC.trans hx
    replace hr := Rd.ext hr hx
    replace hs := Rd.ext hs hx
    clear hx hg_g1
    refine lf_val (v := .bool false) (wantAll rfl) (rv_assign rfl rfl) ?_
    refine lf_nil ?_
    refine then_n ?_
    refine wp_seq ?_
    refine wp_gen (fun F' => F' 0 = v ∧ F' 1 = v2 ∧ F' 2 = .agg (cBs key).toArray ∧ F' 5 = .pointer (some ⟨g1, 0, none⟩) ∧ F' 6 = .bool false) ⟨e0, e1, e2, rfl, rfl⟩ ?_
    clear e0 e1 e2
    clear F
    rintro F ⟨e0, e1, e2, e5, e6⟩
    refine wp_regionF ?_
    refine lf_val (v := v) (wantAll rfl) (rv_move rfl (fr_eval rfl e0)) ?_
    refine lf_call (wantAll rfl) (rv_call (args := [v]) rfl (evc (fr_eval rfl rfl) evn) Try.call37) (cut04_calls b _ _ hr) ?_
    rintro _ w2 ⟨rfl, hx⟩
    refine ⟨_, rfl, ?_⟩
    replace hC := hC.trans hx
    replace hr := Rd.ext hr hx
    replace hs := Rd.ext hs hx
    replace h_g1 := Blk.ext h_g1 hx
    clear hx
    refine lf_val (v := cutV v b 200) (wantAll rfl) (rv_assign rfl (fr_eval rfl rfl)) ?_
    refine lf_nil ?_
    refine then_n ?_
    refine wp_seq ?_
    refine wp_gen (fun F' => F' 0 = cutV v b 200 ∧ F' 1 = v2 ∧ F' 2 = .agg (cBs key).toArray ∧ F' 5 = .pointer (some ⟨g1, 0, none⟩) ∧ F' 6 = .bool false) ⟨rfl, e1, e2, e5, e6⟩ ?_
    clear e0 e1 e2 e5 e6
    clear F
    rintro F ⟨e0, e1, e2, e5, e6⟩
    refine wp_regionF ?_
    refine lf_val (v := cutV v b 200) (wantAll rfl) (rv_move rfl (fr_eval rfl e0)) ?_
    refine lf_val (v := v2) (wantAll rfl) (rv_move rfl (fr_eval rfl e1)) ?_
    refine lf_call (wantAll rfl) (rv_call (args := [cutV v b 200, v2]) rfl (evc (fr_eval rfl rfl) (evc (fr_eval rfl rfl) evn)) Try.call42) (back_calls (List.take 200 b) sig (Nat.le_trans (List.length_take_le 200 b) (by decide)) _ _ _ (rdB_cut hr) hs) ?_
    rintro _ w3 ⟨rfl, hx⟩
    refine ⟨_, rfl, ?_⟩
    replace hC := hC.trans hx
    replace hr := Rd.ext hr hx
    replace hs := Rd.ext hs hx
    replace h_g1 := Blk.ext h_g1 hx
    clear hx
    refine lf_val (v := .tuple #[.agg (cBs (backK (join 14 [List.take 200 b]) sig)).toArray, .int .i64 (backE sig)]) (wantAll rfl) (rv_move rfl (fr_eval rfl rfl)) ?_
    refine lf_val (v := .agg (cBs (backK (join 14 [List.take 200 b]) sig)).toArray) (wantAll rfl) (rv_extract rfl (fr_eval rfl rfl) rfl) ?_
    refine lf_val (v := .int .i64 (backE sig)) (wantAll rfl) (rv_extract rfl (fr_eval rfl rfl) rfl) ?_
    refine lf_ex (wantAll rfl) (ex_allocG 26 (z := .agg (cBs (List.replicate 32 0)).toArray) (n := 32) (cs := cBs (List.replicate 32 0)) (by kernel_rfl) (by rfl) rfl) ?_
    rintro _ w4 ⟨g2, hg_g2, rfl, h_g2, hx⟩
    have ge_g2 : w.heap.size ≤ g2 := by have := hC.size; omega
    have lt_g1_g2 : g1 < g2 := by have := Blk.lt h_g1; omega
    replace hC := hC.trans hx
    replace hr := Rd.ext hr hx
    replace hs := Rd.ext hs hx
    replace h_g1 := Blk.ext h_g1 hx
    clear hx hg_g2
    refine lf_sk (wantAll rfl) (ex_storeW (cs := cBs (backK (join 14 [List.take 200 b]) sig)) rfl h_g2 (fr_eval rfl rfl) (fr_eval rfl rfl) (sz_len Try.sz26 (cBs_len backK_len)) (((cBs_len (List.length_replicate ..))).trans ((cBs_len backK_len)).symm) (cBs_one _)) ?_
    rintro w5 ⟨h_g2', hx⟩
    replace h_g2' : Blk w5 g2 (cBs (backK (join 14 [List.take 200 b]) sig)) 26 := h_g2'
    replace hr := Rd.keep hr hx (fun b hb h0 e => by have e : b = g2 := e; have := Rd.lt hr0 h0 b hb; omega)
    replace hs := Rd.keep hs hx (fun b hb h0 e => by have e : b = g2 := e; have := Rd.lt hs0 h0 b hb; omega)
    replace h_g1 := Blk.keep h_g1 hx (fun e => by have e : g1 = g2 := e; omega)
    replace hC := Chg.then hC hx (fun i hi e => absurd hi (by have e : i = g2 := e; omega))
    replace h_g2 := h_g2'
    clear h_g2'
    clear hx
    refine lf_val (v := .int .i64 (backE sig)) (wantAll rfl) (rv_assign rfl (fr_eval rfl rfl)) ?_
    refine lf_nil ?_
    refine then_n ?_
    refine wp_seq ?_
    refine wp_seq ?_
    refine wp_gen (fun F' => F' 0 = cutV v b 200 ∧ F' 1 = v2 ∧ F' 2 = .agg (cBs key).toArray ∧ F' 5 = .pointer (some ⟨g1, 0, none⟩) ∧ F' 6 = .bool false ∧ F' 7 = .pointer (some ⟨g2, 0, none⟩) ∧ F' 8 = .int .i64 (backE sig)) ⟨e0, e1, e2, e5, e6, rfl, rfl⟩ ?_
    clear e0 e1 e2 e5 e6
    clear F
    rintro F ⟨e0, e1, e2, e5, e6, e7, e8⟩
    refine wp_regionF ?_
    refine lf_val (v := v2) (wantAll rfl) (rv_move rfl (fr_eval rfl e1)) ?_
    refine lf_val (v := .int .i64 ((sig.length : Nat) : Int)) (wantAll rfl) (rv_len rfl (fr_eval rfl rfl) (RdB.rn hs rfl) Try.underlying22) ?_
    refine lf_val (v := .bool false) (wantAll rfl) (rv_neq rfl (fr_eval rfl rfl) rfl (decide_eq_true (by omega))) ?_
    refine lf_nil ?_
    refine then_n ?_
    refine wp_gen (fun F' => F' 0 = cutV v b 200 ∧ F' 1 = v2 ∧ F' 2 = .agg (cBs key).toArray ∧ F' 5 = .pointer (some ⟨g1, 0, none⟩) ∧ F' 6 = .bool false ∧ F' 7 = .pointer (some ⟨g2, 0, none⟩) ∧ F' 8 = .int .i64 (backE sig) ∧ F' 24 = .bool false) ⟨e0, e1, e2, e5, e6, e7, e8, rfl⟩ ?_
    clear e0 e1 e2 e5 e6 e7 e8
    clear F
    rintro F ⟨e0, e1, e2, e5, e6, e7, e8, e24⟩
    refine wp_cond_false (fr_eval rfl e24) ?_
    refine wp_skip ?_
    refine then_n ?_
    refine wp_seq ?_
    refine wp_regionF ?_
    refine lf_val (v := .slice none 0 0) (wantAll rfl) (rv_assign rfl rfl) ?_
    refine lf_nil ?_
    refine then_n ?_
    refine wp_seq ?_
    refine wp_seq ?_
    refine wp_gen (fun F' => F' 0 = cutV v b 200 ∧ F' 1 = v2 ∧ F' 2 = .agg (cBs key).toArray ∧ F' 5 = .pointer (some ⟨g1, 0, none⟩) ∧ F' 6 = .bool false ∧ F' 7 = .pointer (some ⟨g2, 0, none⟩) ∧ F' 8 = .int .i64 (backE sig) ∧ F' 9 = .slice none 0 0 ∧ F' 24 = .bool false) ⟨e0, e1, e2, e5, e6, e7, e8, rfl, e24⟩ ?_
    clear e0 e1 e2 e5 e6 e7 e8 e24
    clear F
    rintro F ⟨e0, e1, e2, e5, e6, e7, e8, e9, e24⟩
    refine wp_regionF ?_
    refine lf_val (v := .int .i64 0) (wantAll rfl) (rv_assign rfl rfl) ?_
    refine lf_nil ?_
    refine then_n ?_
    refine wp_block ?_
    have hoa : OwnB w5 (.slice none 0 0) [] := OwnB.nil
    have ge_hoa : ∀ k, (Value.slice none 0 0).ownBlock = some k → w.heap.size ≤ k := ownBlock_nil
    refine wp_gen (fun F' => F' 0 = cutV v b 200 ∧ F' 1 = v2 ∧ F' 2 = .agg (cBs key).toArray ∧ F' 5 = .pointer (some ⟨g1, 0, none⟩) ∧ F' 6 = .bool false ∧ F' 7 = .pointer (some ⟨g2, 0, none⟩) ∧ F' 8 = .int .i64 (backE sig) ∧ F' 9 = .slice none 0 0 ∧ F' 10 = .int .i64 0 ∧ F' 24 = .bool false) ⟨e0, e1, e2, e5, e6, e7, e8, e9, rfl, e24⟩ ?_
    clear e0 e1 e2 e5 e6 e7 e8 e9 e24
    clear F
    rintro F ⟨e0, e1, e2, e5, e6, e7, e8, e9, e10, e24⟩
    refine wp_loopF (fun m F wr => ∃ k : Nat, ∃ y1' : Value, m = 64 - k ∧ k ≤ 64 ∧ F 0 = cutV v b 200 ∧ F 1 = v2 ∧ F 2 = .agg (cBs key).toArray ∧ F 5 = .pointer (some ⟨g1, 0, none⟩) ∧ F 6 = .bool false ∧ F 7 = .pointer (some ⟨g2, 0, none⟩) ∧ F 8 = .int .i64 (backE sig) ∧ F 9 = y1' ∧ F 10 = .int .i64 ((k : Nat) : Int) ∧ F 24 = .bool false ∧ RdB wr v b ∧ RdB wr v2 sig ∧ Blk wr g1 (cBs key) 26 ∧ Blk wr g2 (cBs (backK (join 14 [List.take 200 b]) sig)) 26 ∧ OwnB wr y1' (backs (join 14 [List.take 200 b]) sig k) ∧ (∀ k, (y1' : Value).ownBlock = some k → w.heap.size ≤ k) ∧ Ext w wr) ⟨0, _, rfl, Nat.zero_le _, e0, e1, e2, e5, e6, e7, e8, e9, e10, e24, hr, hs, h_g1, h_g2, hoa, ge_hoa, hC⟩ ?_
    clear e0 e1 e2 e5 e6 e7 e8 e9 e10 e24 hr hs h_g1 h_g2 hC
    clear F
    rintro m F w6 ⟨k, y1', rfl, pk0, e0, e1, e2, e5, e6, e7, e8, e9, e10, e24, hr, hs, h_g1, h_g2, hoa, ge_hoa, hC⟩
    refine wp_seq ?_
    refine wp_seq ?_
    refine wp_regionF ?_
    refine lf_val (v := .int .i64 ((k : Nat) : Int)) (wantAll rfl) (rv_move rfl (fr_eval rfl e10)) ?_
    by_cases hc1 : k < 64
    · refine lf_val (v := .bool true) (wantAll rfl) (rv_lss rfl (fr_eval rfl rfl) rfl (decide_eq_true (by omega))) ?_
      refine lf_nil ?_
      refine then_n ?_
      refine wp_gen (fun F' => F' 0 = cutV v b 200 ∧ F' 1 = v2 ∧ F' 2 = .agg (cBs key).toArray ∧ F' 5 = .pointer (some ⟨g1, 0, none⟩) ∧ F' 6 = .bool false ∧ F' 7 = .pointer (some ⟨g2, 0, none⟩) ∧ F' 8 = .int .i64 (backE sig) ∧ F' 9 = y1' ∧ F' 10 = .int .i64 ((k : Nat) : Int) ∧ F' 24 = .bool false ∧ F' 43 = .bool true) ⟨e0, e1, e2, e5, e6, e7, e8, e9, e10, e24, rfl⟩ ?_
      clear e0 e1 e2 e5 e6 e7 e8 e9 e10 e24
      clear F
      rintro F ⟨e0, e1, e2, e5, e6, e7, e8, e9, e10, e24, e43⟩
      refine wp_cond_true (fr_eval rfl e43) ?_
      refine wp_skip ?_
      refine then_n ?_
      refine wp_seq ?_
      refine wp_block ?_
      refine wp_seq ?_
      refine wp_regionF ?_
      refine lf_ex (wantAll rfl) (ex_allocG 26 (z := .agg (cBs (List.replicate 32 0)).toArray) (n := 32) (cs := cBs (List.replicate 32 0)) (by kernel_rfl) (by rfl) rfl) ?_
      rintro _ w7 ⟨g3, hg_g3, rfl, h_g3, hx⟩
      have ge_g3 : w.heap.size ≤ g3 := by have := hC.size; omega
      have lt_g1_g3 : g1 < g3 := by have := Blk.lt h_g1; omega
      have lt_g2_g3 : g2 < g3 := by have := Blk.lt h_g2; omega
      replace hC := hC.trans hx
      replace hr := Rd.ext hr hx
      replace hs := Rd.ext hs hx
      replace h_g1 := Blk.ext h_g1 hx
      replace h_g2 := Blk.ext h_g2 hx
      replace hoa := Own.ext hoa hx
      clear hx hg_g3
      refine lf_nil ?_
      refine then_n ?_
      refine wp_seq ?_
      refine wp_gen (fun F' => F' 0 = cutV v b 200 ∧ F' 1 = v2 ∧ F' 2 = .agg (cBs key).toArray ∧ F' 5 = .pointer (some ⟨g1, 0, none⟩) ∧ F' 6 = .bool false ∧ F' 7 = .pointer (some ⟨g2, 0, none⟩) ∧ F' 8 = .int .i64 (backE sig) ∧ F' 9 = y1' ∧ F' 10 = .int .i64 ((k : Nat) : Int) ∧ F' 11 = .pointer (some ⟨g3, 0, none⟩) ∧ F' 24 = .bool false ∧ F' 43 = .bool true) ⟨e0, e1, e2, e5, e6, e7, e8, e9, e10, rfl, e24, e43⟩ ?_
      clear e0 e1 e2 e5 e6 e7 e8 e9 e10 e24 e43
      clear F
      rintro F ⟨e0, e1, e2, e5, e6, e7, e8, e9, e10, e11, e24, e43⟩
      have hkl : k < 64 := by omega
      obtain ⟨B1, hB1⟩ : ∃ B, B = w7.heap.size := ⟨_, rfl⟩
      have hwB : w.heap.size ≤ B1 := by have := hC.size; omega
      have bl_g1 : g1 < B1 := by have := Blk.lt h_g1; omega
      have bl_g2 : g2 < B1 := by have := Blk.lt h_g2; omega
      have bl_g3 : g3 < B1 := by have := Blk.lt h_g3; omega
      replace hB1 : B1 ≤ w7.heap.size := by omega
      refine wp_regionX (fun k => B1 ≤ k ∨ ((Value.slice none 0 0).ownBlock = some k ∨ k = g3)) 9 (by kernel_rfl) (by kernel_rfl) ?_
      refine xl_take (i := 0) (v := .slice (some ⟨g3, 0, none⟩) 32 32) rfl (by kernel_rfl) (by kernel_rfl) (by kernel_rfl) (by kernel_rfl) (yx_val (wantAll rfl) (fun w' hx' => rv_sliceArr rfl (fr_eval rfl e11) Try.underlying26 Try.sz5 (by decide))) ?_
      refine xl_take (i := 1) (v := v2) rfl (by kernel_rfl) (by kernel_rfl) (by kernel_rfl) (by kernel_rfl) (yx_val (wantAll rfl) (fun w' hx' => rv_move rfl (fr_eval rfl e1))) ?_
      refine xl_take (i := 2) (v := .int .i64 ((k : Nat) : Int)) rfl (by kernel_rfl) (by kernel_rfl) (by kernel_rfl) (by kernel_rfl) (yx_val (wantAll rfl) (fun w' hx' => rv_move rfl (fr_eval rfl e10))) ?_
      refine xl_take (i := 3) (v := .int .i64 ((64 * k : Nat) : Int)) rfl (by kernel_rfl) (by kernel_rfl) (by kernel_rfl) (by kernel_rfl) (yx_val (wantAll rfl) (fun w' hx' => rv_mul rfl rfl (fr_eval rfl rfl) (wrap_i64 (by omega) (by omega) (by omega)))) ?_
      refine xl_take (i := 4) (v := .int .i64 ((k : Nat) : Int)) rfl (by kernel_rfl) (by kernel_rfl) (by kernel_rfl) (by kernel_rfl) (yx_val (wantAll rfl) (fun w' hx' => rv_move rfl (fr_eval rfl e10))) ?_
      refine xl_take (i := 5) (v := .int .i64 ((64 * k : Nat) : Int)) rfl (by kernel_rfl) (by kernel_rfl) (by kernel_rfl) (by kernel_rfl) (yx_val (wantAll rfl) (fun w' hx' => rv_mul rfl rfl (fr_eval rfl rfl) (wrap_i64 (by omega) (by omega) (by omega)))) ?_
      refine xl_take (i := 6) (v := .int .i64 (((64 * k) + 32 : Nat) : Int)) rfl (by kernel_rfl) (by kernel_rfl) (by kernel_rfl) (by kernel_rfl) (yx_val (wantAll rfl) (fun w' hx' => rv_add rfl (fr_eval rfl rfl) rfl (wrap_i64 (by omega) (by omega) (by omega)))) ?_
      refine xl_take (i := 7) (v := slcV v2 1 (64 * k) ((64 * k) + 32)) rfl (by kernel_rfl) (by kernel_rfl) (by kernel_rfl) (by kernel_rfl) (yx_val (wantAll rfl) (fun w' hx' => rv_slcLH (l := 64 * k) (h := (64 * k) + 32) Try.stB rfl (fr_eval rfl rfl) (RdB.rn (Rd.keep hs hx' (fun b hb h0 => (fun e => Or.elim e (fun e => by have e : B1 ≤ b := e; have := Rd.lt hs0 h0 b hb; omega) (fun e => Or.elim e (fun e => absurd e (by simp [Value.ownBlock])) (fun e => by have e : b = g3 := e; have := Rd.lt hs0 h0 b hb; omega))))) rfl) (fr_eval rfl rfl) (fr_eval rfl rfl) (by omega) (by omega))) ?_
      refine anyX_ready (rs := [8]) (by kernel_rfl) ?_
      intro w8 hx
      replace hC := hC.trans hx
      replace hr := Rd.ext hr hx
      replace hs := Rd.ext hs hx
      replace h_g1 := Blk.ext h_g1 hx
      replace h_g2 := Blk.ext h_g2 hx
      replace hoa := Own.ext hoa hx
      replace h_g3 := Blk.ext h_g3 hx
      replace hB1 : B1 ≤ w8.heap.size := by have := Chg.size hx; omega
      clear hx
      refine (anyX_cons ?_ anyX_nil)
      refine xl_step (i := 8) rfl (wantAll rfl) ?_
      refine of_ex (ex_copyW (n := 32) rfl h_g3 (fr_eval rfl rfl) (fr_eval rfl rfl) (RdB.rn (rdB_slc (l := 64 * k) (h := (64 * k) + 32) (RdB.rn hs rfl) (by omega) (by omega)) (len_slc rfl (by omega) (by omega))) Try.underlying22 Try.sz5 (cBs_len (List.length_replicate ..)) (by omega) (by decide) (show _ = cBs (hlf sig k) from (by rw [← cBs_take, hlf_take]))) ?_
      rintro _ w9 ⟨rfl, h_g3', hx⟩
      
      have hx0 := hx
      replace hr := Rd.keep hr hx (fun b hb h0 e => by have e : b = g3 := e; have := Rd.lt hr0 h0 b hb; omega)
      replace hs := Rd.keep hs hx (fun b hb h0 e => by have e : b = g3 := e; have := Rd.lt hs0 h0 b hb; omega)
      replace h_g1 := Blk.keep h_g1 hx (fun e => by have e : g1 = g3 := e; omega)
      replace h_g2 := Blk.keep h_g2 hx (fun e => by have e : g2 = g3 := e; omega)
      replace hoa := Own.keep hoa hx (fun b hb e => (Own.neType hoa h_g3 (by decide)) (by have e : b = g3 := e; rw [← e]; exact hb))
      replace hC := Chg.then hC hx (fun i hi e => absurd hi (by have e : i = g3 := e; omega))
      replace hB1 : B1 ≤ w9.heap.size := by have := Chg.size hx; omega
      replace h_g3 := h_g3'
      clear h_g3'
      refine ⟨Chg.mono hx0 (fun i hi e => Or.inr (Or.inr e)), ?_⟩
      clear hx0
      clear hx
      refine xl_tail (s := 9) rfl ?_
      intro w10 hx
      replace hC := hC.trans hx
      replace hr := Rd.ext hr hx
      replace hs := Rd.ext hs hx
      replace h_g1 := Blk.ext h_g1 hx
      replace h_g2 := Blk.ext h_g2 hx
      replace hoa := Own.ext hoa hx
      replace h_g3 := Blk.ext h_g3 hx
      replace hB1 : B1 ≤ w10.heap.size := by have := Chg.size hx; omega
      clear hx
      clear hB1
      refine lf_nil ?_
      refine then_n ?_
      refine wp_seq ?_
      refine wp_gen (fun F' => F' 0 = cutV v b 200 ∧ F' 1 = v2 ∧ F' 2 = .agg (cBs key).toArray ∧ F' 5 = .pointer (some ⟨g1, 0, none⟩) ∧ F' 6 = .bool false ∧ F' 7 = .pointer (some ⟨g2, 0, none⟩) ∧ F' 8 = .int .i64 (backE sig) ∧ F' 9 = y1' ∧ F' 10 = .int .i64 ((k : Nat) : Int) ∧ F' 11 = .pointer (some ⟨g3, 0, none⟩) ∧ F' 24 = .bool false ∧ F' 43 = .bool true) ⟨e0, e1, e2, e5, e6, e7, e8, e9, e10, e11, e24, e43⟩ ?_
      clear e0 e1 e2 e5 e6 e7 e8 e9 e10 e11 e24 e43
      clear F
      rintro F ⟨e0, e1, e2, e5, e6, e7, e8, e9, e10, e11, e24, e43⟩
      refine wp_regionF ?_
      refine lf_val (v := .agg (cBs (hlf sig k)).toArray) (wantAll rfl) (rv_loadW rfl h_g3 (fr_eval rfl e11) Try.underlying26 rfl (sz_len Try.sz26 (cBs_len (hlf_len hl hkl)))) ?_
      refine lf_call (wantAll rfl) (rv_call (args := [.agg (cBs (hlf sig k)).toArray]) rfl (evc (fr_eval rfl rfl) evn) Try.call40) (shown04_calls (hlf sig k) (hlf_len hl hkl) _) ?_
      rintro _ w11 ⟨rfl, hx⟩
      refine ⟨_, rfl, ?_⟩
      replace hC := hC.trans hx
      replace hr := Rd.ext hr hx
      replace hs := Rd.ext hs hx
      replace h_g1 := Blk.ext h_g1 hx
      replace h_g2 := Blk.ext h_g2 hx
      replace hoa := Own.ext hoa hx
      replace h_g3 := Blk.ext h_g3 hx
      clear hx
      refine lf_ex (wantAll rfl) (ex_allocG 26 (z := .agg (cBs (List.replicate 32 0)).toArray) (n := 32) (cs := cBs (List.replicate 32 0)) (by kernel_rfl) (by rfl) rfl) ?_
      rintro _ w12 ⟨g4, hg_g4, rfl, h_g4, hx⟩
      have ge_g4 : w.heap.size ≤ g4 := by have := hC.size; omega
      have lt_g1_g4 : g1 < g4 := by have := Blk.lt h_g1; omega
      have lt_g2_g4 : g2 < g4 := by have := Blk.lt h_g2; omega
      have lt_g3_g4 : g3 < g4 := by have := Blk.lt h_g3; omega
      replace hC := hC.trans hx
      replace hr := Rd.ext hr hx
      replace hs := Rd.ext hs hx
      replace h_g1 := Blk.ext h_g1 hx
      replace h_g2 := Blk.ext h_g2 hx
      replace hoa := Own.ext hoa hx
      replace h_g3 := Blk.ext h_g3 hx
      clear hx hg_g4
      refine lf_sk (wantAll rfl) (ex_storeW (cs := cBs (shw (hlf sig k))) rfl h_g4 (fr_eval rfl rfl) (fr_eval rfl rfl) (sz_len Try.sz26 (cBs_len shw_len)) (((cBs_len (List.length_replicate ..))).trans ((cBs_len shw_len)).symm) (cBs_one _)) ?_
      rintro w13 ⟨h_g4', hx⟩
      replace h_g4' : Blk w13 g4 (cBs (shw (hlf sig k))) 26 := h_g4'
      replace hr := Rd.keep hr hx (fun b hb h0 e => by have e : b = g4 := e; have := Rd.lt hr0 h0 b hb; omega)
      replace hs := Rd.keep hs hx (fun b hb h0 e => by have e : b = g4 := e; have := Rd.lt hs0 h0 b hb; omega)
      replace h_g1 := Blk.keep h_g1 hx (fun e => by have e : g1 = g4 := e; omega)
      replace h_g2 := Blk.keep h_g2 hx (fun e => by have e : g2 = g4 := e; omega)
      replace hoa := Own.keep hoa hx (fun b hb e => (Own.neType hoa h_g4 (by decide)) (by have e : b = g4 := e; rw [← e]; exact hb))
      replace h_g3 := Blk.keep h_g3 hx (fun e => by have e : g3 = g4 := e; omega)
      replace hC := Chg.then hC hx (fun i hi e => absurd hi (by have e : i = g4 := e; omega))
      replace h_g4 := h_g4'
      clear h_g4'
      clear hx
      refine lf_nil ?_
      refine then_n ?_
      refine wp_seq ?_
      refine wp_gen (fun F' => F' 0 = cutV v b 200 ∧ F' 1 = v2 ∧ F' 2 = .agg (cBs key).toArray ∧ F' 5 = .pointer (some ⟨g1, 0, none⟩) ∧ F' 6 = .bool false ∧ F' 7 = .pointer (some ⟨g2, 0, none⟩) ∧ F' 8 = .int .i64 (backE sig) ∧ F' 9 = y1' ∧ F' 10 = .int .i64 ((k : Nat) : Int) ∧ F' 11 = .pointer (some ⟨g3, 0, none⟩) ∧ F' 12 = .pointer (some ⟨g4, 0, none⟩) ∧ F' 24 = .bool false ∧ F' 43 = .bool true) ⟨e0, e1, e2, e5, e6, e7, e8, e9, e10, e11, rfl, e24, e43⟩ ?_
      clear e0 e1 e2 e5 e6 e7 e8 e9 e10 e11 e24 e43
      clear F
      rintro F ⟨e0, e1, e2, e5, e6, e7, e8, e9, e10, e11, e12, e24, e43⟩
      refine wp_regionF ?_
      refine lf_val (v := cutV v b 200) (wantAll rfl) (rv_move rfl (fr_eval rfl e0)) ?_
      refine lf_val (v := .int .i64 ((k : Nat) : Int)) (wantAll rfl) (rv_move rfl (fr_eval rfl e10)) ?_
      refine lf_call (wantAll rfl) (rv_call (args := [cutV v b 200, .int .i64 ((k : Nat) : Int)]) rfl (evc (fr_eval rfl rfl) (evc (fr_eval rfl rfl) evn)) Try.call38) (bit04_calls (List.take 200 b) (Nat.le_trans (List.length_take_le 200 b) (by decide)) k (by omega) _ _ (rdB_cut hr)) ?_
      rintro _ w14 ⟨rfl, hx⟩
      refine ⟨_, rfl, ?_⟩
      replace hC := hC.trans hx
      replace hr := Rd.ext hr hx
      replace hs := Rd.ext hs hx
      replace h_g1 := Blk.ext h_g1 hx
      replace h_g2 := Blk.ext h_g2 hx
      replace hoa := Own.ext hoa hx
      replace h_g3 := Blk.ext h_g3 hx
      replace h_g4 := Blk.ext h_g4 hx
      clear hx
      by_cases hc2 : bitN (join 14 [List.take 200 b]) k = 0
      · refine lf_val (v := .bool true) (wantAll rfl) (rv_eql rfl (fr_eval rfl rfl) rfl (decide_eq_true (by omega))) ?_
        refine lf_nil ?_
        refine then_n ?_
        refine wp_gen (fun F' => F' 0 = cutV v b 200 ∧ F' 1 = v2 ∧ F' 2 = .agg (cBs key).toArray ∧ F' 5 = .pointer (some ⟨g1, 0, none⟩) ∧ F' 6 = .bool false ∧ F' 7 = .pointer (some ⟨g2, 0, none⟩) ∧ F' 8 = .int .i64 (backE sig) ∧ F' 9 = y1' ∧ F' 10 = .int .i64 ((k : Nat) : Int) ∧ F' 11 = .pointer (some ⟨g3, 0, none⟩) ∧ F' 12 = .pointer (some ⟨g4, 0, none⟩) ∧ F' 24 = .bool false ∧ F' 43 = .bool true ∧ F' 60 = .bool true) ⟨e0, e1, e2, e5, e6, e7, e8, e9, e10, e11, e12, e24, e43, rfl⟩ ?_
        clear e0 e1 e2 e5 e6 e7 e8 e9 e10 e11 e12 e24 e43
        clear F
        rintro F ⟨e0, e1, e2, e5, e6, e7, e8, e9, e10, e11, e12, e24, e43, e60⟩
        refine wp_cond_true (fr_eval rfl e60) ?_
        refine wp_seq ?_
        refine wp_regionF ?_
        refine lf_val (v := y1') (wantAll rfl) (rv_move rfl (fr_eval rfl e9)) ?_
        refine lf_val (v := .slice (some ⟨g4, 0, none⟩) 32 32) (wantAll rfl) (rv_sliceArr rfl (fr_eval rfl e12) Try.underlying26 Try.sz5 (by decide)) ?_
        refine lf_ex (wantAll rfl) (ex_apB (xs := backs (join 14 [List.take 200 b]) sig k) (news := (shw (hlf sig k))) (.tmp 61) (.tmp 62) hoa (rdB_blkn h_g4 shw_len (by decide)) (by rw [backs_len hl k (by omega), shw_len]; omega) (fr_eval rfl rfl) (fr_eval rfl rfl) rfl) ?_
        rintro y1 w15 ⟨hoa', hg⟩
        have hx := hg.chg
        have ge_n := hg.ge (by have := hC.size; omega) ge_hoa
        replace hr := Rd.keep hr hx (fun b hb h0 e => by have := Rd.lt hr0 h0 b hb; have := ge_hoa b e; omega)
        replace hs := Rd.keep hs hx (fun b hb h0 e => by have := Rd.lt hs0 h0 b hb; have := ge_hoa b e; omega)
        replace h_g1 := Blk.keep h_g1 hx (fun e => Own.neType hoa h_g1 (by decide) e)
        replace h_g2 := Blk.keep h_g2 hx (fun e => Own.neType hoa h_g2 (by decide) e)
        replace h_g3 := Blk.keep h_g3 hx (fun e => Own.neType hoa h_g3 (by decide) e)
        replace h_g4 := Blk.keep h_g4 hx (fun e => Own.neType hoa h_g4 (by decide) e)
        replace hC := Chg.then hC hx (fun i hi e => absurd hi (by have := ge_hoa i e; omega))
        replace ge_hoa := ge_n
        clear ge_n
        replace hoa := hoa'
        clear hoa'
        clear hx hg
        refine lf_val (v := y1) (wantAll rfl) (rv_assign rfl (fr_eval rfl rfl)) ?_
        refine lf_nil ?_
        refine then_n ?_
        refine wp_gen (fun F' => F' 0 = cutV v b 200 ∧ F' 1 = v2 ∧ F' 2 = .agg (cBs key).toArray ∧ F' 5 = .pointer (some ⟨g1, 0, none⟩) ∧ F' 6 = .bool false ∧ F' 7 = .pointer (some ⟨g2, 0, none⟩) ∧ F' 8 = .int .i64 (backE sig) ∧ F' 9 = y1 ∧ F' 10 = .int .i64 ((k : Nat) : Int) ∧ F' 11 = .pointer (some ⟨g3, 0, none⟩) ∧ F' 12 = .pointer (some ⟨g4, 0, none⟩) ∧ F' 24 = .bool false ∧ F' 43 = .bool true ∧ F' 60 = .bool true) ⟨e0, e1, e2, e5, e6, e7, e8, rfl, e10, e11, e12, e24, e43, e60⟩ ?_
        clear e0 e1 e2 e5 e6 e7 e8 e9 e10 e11 e12 e24 e43 e60
        clear F
        rintro F ⟨e0, e1, e2, e5, e6, e7, e8, e9, e10, e11, e12, e24, e43, e60⟩
        refine wp_regionF ?_
        refine lf_val (v := y1) (wantAll rfl) (rv_move rfl (fr_eval rfl e9)) ?_
        refine lf_val (v := v2) (wantAll rfl) (rv_move rfl (fr_eval rfl e1)) ?_
        refine lf_val (v := .int .i64 ((k : Nat) : Int)) (wantAll rfl) (rv_move rfl (fr_eval rfl e10)) ?_
        refine lf_val (v := .int .i64 ((64 * k : Nat) : Int)) (wantAll rfl) (rv_mul rfl rfl (fr_eval rfl rfl) (wrap_i64 (by omega) (by omega) (by omega))) ?_
        refine lf_val (v := .int .i64 (((64 * k) + 32 : Nat) : Int)) (wantAll rfl) (rv_add rfl (fr_eval rfl rfl) rfl (wrap_i64 (by omega) (by omega) (by omega))) ?_
        refine lf_val (v := .int .i64 ((k : Nat) : Int)) (wantAll rfl) (rv_move rfl (fr_eval rfl e10)) ?_
        refine lf_val (v := .int .i64 ((64 * k : Nat) : Int)) (wantAll rfl) (rv_mul rfl rfl (fr_eval rfl rfl) (wrap_i64 (by omega) (by omega) (by omega))) ?_
        refine lf_val (v := .int .i64 (((64 * k) + 64 : Nat) : Int)) (wantAll rfl) (rv_add rfl (fr_eval rfl rfl) rfl (wrap_i64 (by omega) (by omega) (by omega))) ?_
        refine lf_val (v := slcV v2 1 ((64 * k) + 32) ((64 * k) + 64)) (wantAll rfl) (rv_slcLH (l := (64 * k) + 32) (h := (64 * k) + 64) Try.stB rfl (fr_eval rfl rfl) (RdB.rn hs rfl) (fr_eval rfl rfl) (fr_eval rfl rfl) (by omega) (by omega)) ?_
        refine lf_ex (wantAll rfl) (ex_apB (xs := (backs (join 14 [List.take 200 b]) sig k) ++ (shw (hlf sig k))) (news := oth sig k) (.tmp 64) (.tmp 72) hoa (rdB_slc (l := (64 * k) + 32) (h := (64 * k) + 64) (RdB.rn hs rfl) (by omega) (by omega)) (by rw [List.length_append, backs_len hl k (by omega), shw_len, oth_len hl hkl]; omega) (fr_eval rfl rfl) (fr_eval rfl rfl) rfl) ?_
        rintro y2 w16 ⟨hoa', hg⟩
        have hx := hg.chg
        replace hoa' : OwnB w16 y2 (backs (join 14 [List.take 200 b]) sig (k + 1)) := by have e := backs_0 (d := (join 14 [List.take 200 b])) (sig := sig) (n := k) (by omega); rw [e] at hoa'; exact hoa'
        have ge_n := hg.ge (by have := hC.size; omega) ge_hoa
        replace hr := Rd.keep hr hx (fun b hb h0 e => by have := Rd.lt hr0 h0 b hb; have := ge_hoa b e; omega)
        replace hs := Rd.keep hs hx (fun b hb h0 e => by have := Rd.lt hs0 h0 b hb; have := ge_hoa b e; omega)
        replace h_g1 := Blk.keep h_g1 hx (fun e => Own.neType hoa h_g1 (by decide) e)
        replace h_g2 := Blk.keep h_g2 hx (fun e => Own.neType hoa h_g2 (by decide) e)
        replace h_g3 := Blk.keep h_g3 hx (fun e => Own.neType hoa h_g3 (by decide) e)
        replace h_g4 := Blk.keep h_g4 hx (fun e => Own.neType hoa h_g4 (by decide) e)
        replace hC := Chg.then hC hx (fun i hi e => absurd hi (by have := ge_hoa i e; omega))
        replace ge_hoa := ge_n
        clear ge_n
        replace hoa := hoa'
        clear hoa'
        clear hx hg
        refine lf_val (v := y2) (wantAll rfl) (rv_assign rfl (fr_eval rfl rfl)) ?_
        refine lf_nil ?_
        refine blk_n ?_
        refine then_n ?_
        refine wp_gen (fun F' => F' 0 = cutV v b 200 ∧ F' 1 = v2 ∧ F' 2 = .agg (cBs key).toArray ∧ F' 5 = .pointer (some ⟨g1, 0, none⟩) ∧ F' 6 = .bool false ∧ F' 7 = .pointer (some ⟨g2, 0, none⟩) ∧ F' 8 = .int .i64 (backE sig) ∧ F' 9 = y2 ∧ F' 10 = .int .i64 ((k : Nat) : Int) ∧ F' 11 = .pointer (some ⟨g3, 0, none⟩) ∧ F' 12 = .pointer (some ⟨g4, 0, none⟩) ∧ F' 24 = .bool false ∧ F' 43 = .bool true ∧ F' 60 = .bool true) ⟨e0, e1, e2, e5, e6, e7, e8, rfl, e10, e11, e12, e24, e43, e60⟩ ?_
        clear e0 e1 e2 e5 e6 e7 e8 e9 e10 e11 e12 e24 e43 e60
        clear F
        rintro F ⟨e0, e1, e2, e5, e6, e7, e8, e9, e10, e11, e12, e24, e43, e60⟩
        refine wp_regionF ?_
        refine lf_val (v := .int .i64 ((k : Nat) : Int)) (wantAll rfl) (rv_move rfl (fr_eval rfl e10)) ?_
        refine lf_val (v := .int .i64 ((k + 1 : Nat) : Int)) (wantAll rfl) (rv_add rfl (fr_eval rfl rfl) rfl (wrap_i64 (by omega) (by omega) (by omega))) ?_
        refine lf_val (v := .int .i64 ((k + 1 : Nat) : Int)) (wantAll rfl) (rv_assign rfl (fr_eval rfl rfl)) ?_
        refine lf_nil ?_
        refine then_n ?_
        exact ⟨_, _, (by omega), rfl, k + 1, _, rfl, (by omega), e0, e1, e2, e5, e6, e7, e8, e9, rfl, e24, hr, hs, h_g1, h_g2, hoa, ge_hoa, hC⟩
      · refine lf_val (v := .bool false) (wantAll rfl) (rv_eql rfl (fr_eval rfl rfl) rfl (decide_eq_false (by omega))) ?_
        refine lf_nil ?_
        refine then_n ?_
        refine wp_gen (fun F' => F' 0 = cutV v b 200 ∧ F' 1 = v2 ∧ F' 2 = .agg (cBs key).toArray ∧ F' 5 = .pointer (some ⟨g1, 0, none⟩) ∧ F' 6 = .bool false ∧ F' 7 = .pointer (some ⟨g2, 0, none⟩) ∧ F' 8 = .int .i64 (backE sig) ∧ F' 9 = y1' ∧ F' 10 = .int .i64 ((k : Nat) : Int) ∧ F' 11 = .pointer (some ⟨g3, 0, none⟩) ∧ F' 12 = .pointer (some ⟨g4, 0, none⟩) ∧ F' 24 = .bool false ∧ F' 43 = .bool true ∧ F' 60 = .bool false) ⟨e0, e1, e2, e5, e6, e7, e8, e9, e10, e11, e12, e24, e43, rfl⟩ ?_
        clear e0 e1 e2 e5 e6 e7 e8 e9 e10 e11 e12 e24 e43
        clear F
        rintro F ⟨e0, e1, e2, e5, e6, e7, e8, e9, e10, e11, e12, e24, e43, e60⟩
        refine wp_cond_false (fr_eval rfl e60) ?_
        refine wp_seq ?_
        refine wp_regionF ?_
        refine lf_val (v := y1') (wantAll rfl) (rv_move rfl (fr_eval rfl e9)) ?_
        refine lf_val (v := v2) (wantAll rfl) (rv_move rfl (fr_eval rfl e1)) ?_
        refine lf_val (v := .int .i64 ((k : Nat) : Int)) (wantAll rfl) (rv_move rfl (fr_eval rfl e10)) ?_
        refine lf_val (v := .int .i64 ((64 * k : Nat) : Int)) (wantAll rfl) (rv_mul rfl rfl (fr_eval rfl rfl) (wrap_i64 (by omega) (by omega) (by omega))) ?_
        refine lf_val (v := .int .i64 (((64 * k) + 32 : Nat) : Int)) (wantAll rfl) (rv_add rfl (fr_eval rfl rfl) rfl (wrap_i64 (by omega) (by omega) (by omega))) ?_
        refine lf_val (v := .int .i64 ((k : Nat) : Int)) (wantAll rfl) (rv_move rfl (fr_eval rfl e10)) ?_
        refine lf_val (v := .int .i64 ((64 * k : Nat) : Int)) (wantAll rfl) (rv_mul rfl rfl (fr_eval rfl rfl) (wrap_i64 (by omega) (by omega) (by omega))) ?_
        refine lf_val (v := .int .i64 (((64 * k) + 64 : Nat) : Int)) (wantAll rfl) (rv_add rfl (fr_eval rfl rfl) rfl (wrap_i64 (by omega) (by omega) (by omega))) ?_
        refine lf_val (v := slcV v2 1 ((64 * k) + 32) ((64 * k) + 64)) (wantAll rfl) (rv_slcLH (l := (64 * k) + 32) (h := (64 * k) + 64) Try.stB rfl (fr_eval rfl rfl) (RdB.rn hs rfl) (fr_eval rfl rfl) (fr_eval rfl rfl) (by omega) (by omega)) ?_
        refine lf_ex (wantAll rfl) (ex_apB (xs := backs (join 14 [List.take 200 b]) sig k) (news := oth sig k) (.tmp 74) (.tmp 82) hoa (rdB_slc (l := (64 * k) + 32) (h := (64 * k) + 64) (RdB.rn hs rfl) (by omega) (by omega)) (by rw [backs_len hl k (by omega), oth_len hl hkl]; omega) (fr_eval rfl rfl) (fr_eval rfl rfl) rfl) ?_
        rintro y3 w17 ⟨hoa', hg⟩
        have hx := hg.chg
        have ge_n := hg.ge (by have := hC.size; omega) ge_hoa
        replace hr := Rd.keep hr hx (fun b hb h0 e => by have := Rd.lt hr0 h0 b hb; have := ge_hoa b e; omega)
        replace hs := Rd.keep hs hx (fun b hb h0 e => by have := Rd.lt hs0 h0 b hb; have := ge_hoa b e; omega)
        replace h_g1 := Blk.keep h_g1 hx (fun e => Own.neType hoa h_g1 (by decide) e)
        replace h_g2 := Blk.keep h_g2 hx (fun e => Own.neType hoa h_g2 (by decide) e)
        replace h_g3 := Blk.keep h_g3 hx (fun e => Own.neType hoa h_g3 (by decide) e)
        replace h_g4 := Blk.keep h_g4 hx (fun e => Own.neType hoa h_g4 (by decide) e)
        replace hC := Chg.then hC hx (fun i hi e => absurd hi (by have := ge_hoa i e; omega))
        replace ge_hoa := ge_n
        clear ge_n
        replace hoa := hoa'
        clear hoa'
        clear hx hg
        refine lf_val (v := y3) (wantAll rfl) (rv_assign rfl (fr_eval rfl rfl)) ?_
        refine lf_nil ?_
        refine then_n ?_
        refine wp_gen (fun F' => F' 0 = cutV v b 200 ∧ F' 1 = v2 ∧ F' 2 = .agg (cBs key).toArray ∧ F' 5 = .pointer (some ⟨g1, 0, none⟩) ∧ F' 6 = .bool false ∧ F' 7 = .pointer (some ⟨g2, 0, none⟩) ∧ F' 8 = .int .i64 (backE sig) ∧ F' 9 = y3 ∧ F' 10 = .int .i64 ((k : Nat) : Int) ∧ F' 11 = .pointer (some ⟨g3, 0, none⟩) ∧ F' 12 = .pointer (some ⟨g4, 0, none⟩) ∧ F' 24 = .bool false ∧ F' 43 = .bool true ∧ F' 60 = .bool false) ⟨e0, e1, e2, e5, e6, e7, e8, rfl, e10, e11, e12, e24, e43, e60⟩ ?_
        clear e0 e1 e2 e5 e6 e7 e8 e9 e10 e11 e12 e24 e43 e60
        clear F
        rintro F ⟨e0, e1, e2, e5, e6, e7, e8, e9, e10, e11, e12, e24, e43, e60⟩
        refine wp_regionF ?_
        refine lf_val (v := y3) (wantAll rfl) (rv_move rfl (fr_eval rfl e9)) ?_
        refine lf_val (v := .slice (some ⟨g4, 0, none⟩) 32 32) (wantAll rfl) (rv_sliceArr rfl (fr_eval rfl e12) Try.underlying26 Try.sz5 (by decide)) ?_
        refine lf_ex (wantAll rfl) (ex_apB (xs := (backs (join 14 [List.take 200 b]) sig k) ++ (oth sig k)) (news := (shw (hlf sig k))) (.tmp 84) (.tmp 85) hoa (rdB_blkn h_g4 shw_len (by decide)) (by rw [List.length_append, backs_len hl k (by omega), shw_len, oth_len hl hkl]; omega) (fr_eval rfl rfl) (fr_eval rfl rfl) rfl) ?_
        rintro y4 w18 ⟨hoa', hg⟩
        have hx := hg.chg
        replace hoa' : OwnB w18 y4 (backs (join 14 [List.take 200 b]) sig (k + 1)) := by have e := backs_1 (d := (join 14 [List.take 200 b])) (sig := sig) (n := k) (by omega); rw [e] at hoa'; exact hoa'
        have ge_n := hg.ge (by have := hC.size; omega) ge_hoa
        replace hr := Rd.keep hr hx (fun b hb h0 e => by have := Rd.lt hr0 h0 b hb; have := ge_hoa b e; omega)
        replace hs := Rd.keep hs hx (fun b hb h0 e => by have := Rd.lt hs0 h0 b hb; have := ge_hoa b e; omega)
        replace h_g1 := Blk.keep h_g1 hx (fun e => Own.neType hoa h_g1 (by decide) e)
        replace h_g2 := Blk.keep h_g2 hx (fun e => Own.neType hoa h_g2 (by decide) e)
        replace h_g3 := Blk.keep h_g3 hx (fun e => Own.neType hoa h_g3 (by decide) e)
        replace h_g4 := Blk.keep h_g4 hx (fun e => Own.neType hoa h_g4 (by decide) e)
        replace hC := Chg.then hC hx (fun i hi e => absurd hi (by have := ge_hoa i e; omega))
        replace ge_hoa := ge_n
        clear ge_n
        replace hoa := hoa'
        clear hoa'
        clear hx hg
        refine lf_val (v := y4) (wantAll rfl) (rv_assign rfl (fr_eval rfl rfl)) ?_
        refine lf_nil ?_
        refine blk_n ?_
        refine then_n ?_
        refine wp_gen (fun F' => F' 0 = cutV v b 200 ∧ F' 1 = v2 ∧ F' 2 = .agg (cBs key).toArray ∧ F' 5 = .pointer (some ⟨g1, 0, none⟩) ∧ F' 6 = .bool false ∧ F' 7 = .pointer (some ⟨g2, 0, none⟩) ∧ F' 8 = .int .i64 (backE sig) ∧ F' 9 = y4 ∧ F' 10 = .int .i64 ((k : Nat) : Int) ∧ F' 11 = .pointer (some ⟨g3, 0, none⟩) ∧ F' 12 = .pointer (some ⟨g4, 0, none⟩) ∧ F' 24 = .bool false ∧ F' 43 = .bool true ∧ F' 60 = .bool false) ⟨e0, e1, e2, e5, e6, e7, e8, rfl, e10, e11, e12, e24, e43, e60⟩ ?_
        clear e0 e1 e2 e5 e6 e7 e8 e9 e10 e11 e12 e24 e43 e60
        clear F
        rintro F ⟨e0, e1, e2, e5, e6, e7, e8, e9, e10, e11, e12, e24, e43, e60⟩
        refine wp_regionF ?_
        refine lf_val (v := .int .i64 ((k : Nat) : Int)) (wantAll rfl) (rv_move rfl (fr_eval rfl e10)) ?_
        refine lf_val (v := .int .i64 ((k + 1 : Nat) : Int)) (wantAll rfl) (rv_add rfl (fr_eval rfl rfl) rfl (wrap_i64 (by omega) (by omega) (by omega))) ?_
        refine lf_val (v := .int .i64 ((k + 1 : Nat) : Int)) (wantAll rfl) (rv_assign rfl (fr_eval rfl rfl)) ?_
        refine lf_nil ?_
        refine then_n ?_
        exact ⟨_, _, (by omega), rfl, k + 1, _, rfl, (by omega), e0, e1, e2, e5, e6, e7, e8, e9, rfl, e24, hr, hs, h_g1, h_g2, hoa, ge_hoa, hC⟩
    · refine lf_val (v := .bool false) (wantAll rfl) (rv_lss rfl (fr_eval rfl rfl) rfl (decide_eq_false (by omega))) ?_
      refine lf_nil ?_
      refine then_n ?_
      refine wp_gen (fun F' => F' 0 = cutV v b 200 ∧ F' 1 = v2 ∧ F' 2 = .agg (cBs key).toArray ∧ F' 5 = .pointer (some ⟨g1, 0, none⟩) ∧ F' 6 = .bool false ∧ F' 7 = .pointer (some ⟨g2, 0, none⟩) ∧ F' 8 = .int .i64 (backE sig) ∧ F' 9 = y1' ∧ F' 10 = .int .i64 ((k : Nat) : Int) ∧ F' 24 = .bool false ∧ F' 43 = .bool false) ⟨e0, e1, e2, e5, e6, e7, e8, e9, e10, e24, rfl⟩ ?_
      clear e0 e1 e2 e5 e6 e7 e8 e9 e10 e24
      clear F
      rintro F ⟨e0, e1, e2, e5, e6, e7, e8, e9, e10, e24, e43⟩
      refine wp_cond_false (fr_eval rfl e43) ?_
      refine wp_exit ?_
      refine then_exit ?_
      refine then_exit ?_
      refine blk_exit ?_
      refine then_n ?_
      refine wp_seq ?_
      obtain rfl : k = 64 := by omega
      refine wp_regionF ?_
      refine lf_val (v := y1') (wantAll rfl) (rv_move rfl (fr_eval rfl e9)) ?_
      refine lf_ex (wantAll rfl) (ex_lits (n := 1) Try.stBB [(.tmp 87)] (vs := [y1']) (evc (fr_eval rfl rfl) evn) (ones_cons (Rd.oneV (OwnB.rd hoa)) ones_nil) rfl (by decide) rfl) ?_
      rintro _ w19 ⟨g5, hg_g5, rfl, h_g5, hx⟩
      have ge_g5 : w.heap.size ≤ g5 := by have := hC.size; omega
      have lt_g1_g5 : g1 < g5 := by have := Blk.lt h_g1; omega
      have lt_g2_g5 : g2 < g5 := by have := Blk.lt h_g2; omega
      replace hC := hC.trans hx
      replace hr := Rd.ext hr hx
      replace hs := Rd.ext hs hx
      replace h_g1 := Blk.ext h_g1 hx
      replace h_g2 := Blk.ext h_g2 hx
      replace hoa := Own.ext hoa hx
      clear hx hg_g5
      refine lf_call (wantAll rfl) (rv_call (args := [cB 13, .slice (some ⟨g5, 0, none⟩) 1 1]) rfl (evc rfl (evc (fr_eval rfl rfl) evn)) Try.call20) (join_calls 13 [backs (join 14 [List.take 200 b]) sig 64] (flat_le1 (Nat.le_trans (show List.length (backs (join 14 [List.take 200 b]) sig 64) ≤ 5000 from (by rw [backs_len hl 64 (by omega)]; omega)) (by decide))) _ _ (rdP_blk h_g5 (.cons (OwnB.rd hoa) .nil) rfl (by decide))) ?_
      rintro _ w20 ⟨rfl, hx⟩
      refine ⟨_, rfl, ?_⟩
      replace hC := hC.trans hx
      replace hr := Rd.ext hr hx
      replace hs := Rd.ext hs hx
      replace h_g1 := Blk.ext h_g1 hx
      replace h_g2 := Blk.ext h_g2 hx
      replace hoa := Own.ext hoa hx
      replace h_g5 := Blk.ext h_g5 hx
      clear hx
      refine lf_ex (wantAll rfl) (ex_allocG 26 (z := .agg (cBs (List.replicate 32 0)).toArray) (n := 32) (cs := cBs (List.replicate 32 0)) (by kernel_rfl) (by rfl) rfl) ?_
      rintro _ w21 ⟨g6, hg_g6, rfl, h_g6, hx⟩
      have ge_g6 : w.heap.size ≤ g6 := by have := hC.size; omega
      have lt_g1_g6 : g1 < g6 := by have := Blk.lt h_g1; omega
      have lt_g2_g6 : g2 < g6 := by have := Blk.lt h_g2; omega
      have lt_g5_g6 : g5 < g6 := by have := Blk.lt h_g5; omega
      replace hC := hC.trans hx
      replace hr := Rd.ext hr hx
      replace hs := Rd.ext hs hx
      replace h_g1 := Blk.ext h_g1 hx
      replace h_g2 := Blk.ext h_g2 hx
      replace hoa := Own.ext hoa hx
      replace h_g5 := Blk.ext h_g5 hx
      clear hx hg_g6
      refine lf_sk (wantAll rfl) (ex_storeW (cs := cBs (join 13 [backs (join 14 [List.take 200 b]) sig 64])) rfl h_g6 (fr_eval rfl rfl) (fr_eval rfl rfl) (sz_len Try.sz26 (cBs_len (join_length _ _))) (((cBs_len (List.length_replicate ..))).trans ((cBs_len (join_length _ _))).symm) (cBs_one _)) ?_
      rintro w22 ⟨h_g6', hx⟩
      replace h_g6' : Blk w22 g6 (cBs (join 13 [backs (join 14 [List.take 200 b]) sig 64])) 26 := h_g6'
      replace hr := Rd.keep hr hx (fun b hb h0 e => by have e : b = g6 := e; have := Rd.lt hr0 h0 b hb; omega)
      replace hs := Rd.keep hs hx (fun b hb h0 e => by have e : b = g6 := e; have := Rd.lt hs0 h0 b hb; omega)
      replace h_g1 := Blk.keep h_g1 hx (fun e => by have e : g1 = g6 := e; omega)
      replace h_g2 := Blk.keep h_g2 hx (fun e => by have e : g2 = g6 := e; omega)
      replace hoa := Own.keep hoa hx (fun b hb e => (Own.neType hoa h_g6 (by decide)) (by have e : b = g6 := e; rw [← e]; exact hb))
      replace h_g5 := Blk.keep h_g5 hx (fun e => by have e : g5 = g6 := e; omega)
      replace hC := Chg.then hC hx (fun i hi e => absurd hi (by have e : i = g6 := e; omega))
      replace h_g6 := h_g6'
      clear h_g6'
      clear hx
      refine lf_nil ?_
      refine then_n ?_
      refine wp_seq ?_
      clear h_g5
      refine wp_gen (fun F' => F' 0 = cutV v b 200 ∧ F' 1 = v2 ∧ F' 2 = .agg (cBs key).toArray ∧ F' 5 = .pointer (some ⟨g1, 0, none⟩) ∧ F' 6 = .bool false ∧ F' 7 = .pointer (some ⟨g2, 0, none⟩) ∧ F' 8 = .int .i64 (backE sig) ∧ F' 9 = y1' ∧ F' 10 = .int .i64 ((64 : Nat) : Int) ∧ F' 13 = .pointer (some ⟨g6, 0, none⟩) ∧ F' 24 = .bool false ∧ F' 43 = .bool false) ⟨e0, e1, e2, e5, e6, e7, e8, e9, e10, rfl, e24, e43⟩ ?_
      clear e0 e1 e2 e5 e6 e7 e8 e9 e10 e24 e43
      clear F
      rintro F ⟨e0, e1, e2, e5, e6, e7, e8, e9, e10, e13, e24, e43⟩
      refine wp_regionX (fun _ => False) 20 (by kernel_rfl) (by kernel_rfl) ?_
      refine xl_take (i := 0) (v := .agg (cBs (backK (join 14 [List.take 200 b]) sig)).toArray) rfl (by kernel_rfl) (by kernel_rfl) (by kernel_rfl) (by kernel_rfl) (yx_val (wantAll rfl) (fun w' hx' => rv_loadW rfl (Blk.ext h_g2 hx') (fr_eval rfl e7) Try.underlying26 rfl (sz_len Try.sz26 (cBs_len backK_len)))) ?_
      refine xl_take (i := 1) (v := .agg (cBs (join 13 [backs (join 14 [List.take 200 b]) sig 64])).toArray) rfl (by kernel_rfl) (by kernel_rfl) (by kernel_rfl) (by kernel_rfl) (yx_val (wantAll rfl) (fun w' hx' => rv_loadW rfl (Blk.ext h_g6 hx') (fr_eval rfl e13) Try.underlying26 rfl (sz_len Try.sz26 (cBs_len (join_length _ _))))) ?_
      refine xl_take (i := 2) (v := .bool true) rfl (by kernel_rfl) (by kernel_rfl) (by kernel_rfl) (by kernel_rfl) (yx_val (wantAll rfl) (fun w' hx' => eqT rfl (fr_eval rfl rfl) (fr_eval rfl rfl) backK_len (join_length _ _) (b := true) (by unfold backK; rw [if_pos hl]; simp))) ?_
      refine xl_take (i := 3) (v := .bool true) rfl (by kernel_rfl) (by kernel_rfl) (by kernel_rfl) (by kernel_rfl) (yx_val (wantAll rfl) (fun w' hx' => rv_move rfl (fr_eval rfl rfl))) ?_
      refine xl_take (i := 4) (v := .int .i64 (backE sig)) rfl (by kernel_rfl) (by kernel_rfl) (by kernel_rfl) (by kernel_rfl) (yx_val (wantF (d := 93) rfl (by kernel_rfl) rfl rfl) (fun w' hx' => rv_move rfl (fr_eval rfl e8))) ?_
      refine xl_take (i := 5) (v := .bool true) rfl (by kernel_rfl) (by kernel_rfl) (by kernel_rfl) (by kernel_rfl) (yx_val (wantF (d := 93) rfl (by kernel_rfl) rfl rfl) (fun w' hx' => rv_eql rfl (fr_eval rfl rfl) rfl (by unfold backE; rw [if_pos hl]; rfl))) ?_
      refine xl_take (i := 6) (v := .bool true) rfl (by kernel_rfl) (by kernel_rfl) (by kernel_rfl) (by kernel_rfl) (yx_val (wantAll rfl) (fun w' hx' => rv_pickT rfl (fr_eval rfl rfl) (fr_eval rfl rfl))) ?_
      refine xl_take (i := 7) (v := .bool true) rfl (by kernel_rfl) (by kernel_rfl) (by kernel_rfl) (by kernel_rfl) (yx_val (wantAll rfl) (fun w' hx' => rv_move rfl (fr_eval rfl rfl))) ?_
      refine xl_take (i := 8) (v := .agg (cBs key).toArray) rfl (by kernel_rfl) (by kernel_rfl) (by kernel_rfl) (by kernel_rfl) (yx_val (wantF (d := 97) rfl (by kernel_rfl) rfl rfl) (fun w' hx' => rv_loadW rfl (Blk.ext h_g1 hx') (fr_eval rfl e5) Try.underlying26 rfl (sz_len Try.sz26 (cBs_len hk)))) ?_
      refine xl_take (i := 9) (v := cutV v b 200) rfl (by kernel_rfl) (by kernel_rfl) (by kernel_rfl) (by kernel_rfl) (yx_val (wantF (d := 97) rfl (by kernel_rfl) rfl rfl) (fun w' hx' => rv_move rfl (fr_eval rfl e0))) ?_
      refine xl_take (i := 10) (v := v2) rfl (by kernel_rfl) (by kernel_rfl) (by kernel_rfl) (by kernel_rfl) (yx_val (wantF (d := 97) rfl (by kernel_rfl) rfl rfl) (fun w' hx' => rv_move rfl (fr_eval rfl e1))) ?_
      refine xl_take (i := 11) (v := .bool (verB key (join 14 [List.take 200 b]) sig)) rfl (by kernel_rfl) (by kernel_rfl) (by kernel_rfl) (by kernel_rfl) (yx_call (wantF (d := 97) rfl (by kernel_rfl) rfl rfl) (fun w' => rv_call (args := [.agg (cBs key).toArray, cutV v b 200, v2]) rfl (evc (fr_eval rfl rfl) (evc (fr_eval rfl rfl) (evc (fr_eval rfl rfl) evn))) Try.call44) (fun w' hx' => verify_calls key (List.take 200 b) sig hk (Nat.le_trans (List.length_take_le 200 b) (by decide)) _ _ _ (rdB_cut (Rd.ext hr hx')) (Rd.ext hs hx'))) ?_
      refine xl_take (i := 12) (v := .agg (cBs key).toArray) rfl (by kernel_rfl) (by kernel_rfl) (by kernel_rfl) (by kernel_rfl) (yx_val (wantF (d := 97) rfl (by kernel_rfl) rfl rfl) (fun w' hx' => rv_loadW rfl (Blk.ext h_g1 hx') (fr_eval rfl e5) Try.underlying26 rfl (sz_len Try.sz26 (cBs_len hk)))) ?_
      refine xl_take (i := 13) (v := .agg (cBs (join 13 [backs (join 14 [List.take 200 b]) sig 64])).toArray) rfl (by kernel_rfl) (by kernel_rfl) (by kernel_rfl) (by kernel_rfl) (yx_val (wantF (d := 97) rfl (by kernel_rfl) rfl rfl) (fun w' hx' => rv_loadW rfl (Blk.ext h_g6 hx') (fr_eval rfl e13) Try.underlying26 rfl (sz_len Try.sz26 (cBs_len (join_length _ _))))) ?_
      refine xl_take (i := 14) (v := .bool (key == (join 13 [backs (join 14 [List.take 200 b]) sig 64]))) rfl (by kernel_rfl) (by kernel_rfl) (by kernel_rfl) (by kernel_rfl) (yx_val (wantF (d := 97) rfl (by kernel_rfl) rfl rfl) (fun w' hx' => eqT rfl (fr_eval rfl rfl) (fr_eval rfl rfl) hk (join_length _ _) (b := (key == (join 13 [backs (join 14 [List.take 200 b]) sig 64]))) rfl)) ?_
      refine xl_take (i := 15) (v := .bool true) rfl (by kernel_rfl) (by kernel_rfl) (by kernel_rfl) (by kernel_rfl) (yx_val (wantF (d := 97) rfl (by kernel_rfl) rfl rfl) (fun w' hx' => rv_eqb rfl (fr_eval rfl rfl) (fr_eval rfl rfl) Try.underlying4 (by unfold verB backK; rw [if_pos hl, decide_eq_true hl, Bool.true_and, beq_comm_l key]; exact beq_self_eq_true _))) ?_
      refine xl_take (i := 16) (v := .bool true) rfl (by kernel_rfl) (by kernel_rfl) (by kernel_rfl) (by kernel_rfl) (yx_val (wantAll rfl) (fun w' hx' => rv_pickT rfl (fr_eval rfl rfl) (fr_eval rfl rfl))) ?_
      refine xl_take (i := 17) (v := .bool true) rfl (by kernel_rfl) (by kernel_rfl) (by kernel_rfl) (by kernel_rfl) (yx_val (wantAll rfl) (fun w' hx' => rv_move rfl (fr_eval rfl rfl))) ?_
      refine xl_take (i := 18) (v := .bool true) rfl (by kernel_rfl) (by kernel_rfl) (by kernel_rfl) (by kernel_rfl) (yx_call (wantF (d := 107) rfl (by kernel_rfl) rfl rfl) (fun w' => rv_call (args := []) rfl evn Try.call46) (fun w' hx' => awake04_calls _)) ?_
      refine xl_take (i := 19) (v := .bool true) rfl (by kernel_rfl) (by kernel_rfl) (by kernel_rfl) (by kernel_rfl) (yx_val (wantAll rfl) (fun w' hx' => rv_pickT rfl (fr_eval rfl rfl) (fr_eval rfl rfl))) ?_
      refine xl_tail (s := 20) rfl ?_
      intro w23 hx
      replace hC := hC.trans hx
      replace hr := Rd.ext hr hx
      replace hs := Rd.ext hs hx
      replace h_g1 := Blk.ext h_g1 hx
      replace h_g2 := Blk.ext h_g2 hx
      replace hoa := Own.ext hoa hx
      replace h_g6 := Blk.ext h_g6 hx
      clear hx
      refine lf_val (v := .bool true) (wantAll rfl) (rv_assign rfl (fr_eval rfl rfl)) ?_
      refine lf_nil ?_
      refine then_n ?_
      refine wp_gen (fun F' => F' 0 = cutV v b 200 ∧ F' 1 = v2 ∧ F' 2 = .agg (cBs key).toArray ∧ F' 5 = .pointer (some ⟨g1, 0, none⟩) ∧ F' 6 = .bool true ∧ F' 7 = .pointer (some ⟨g2, 0, none⟩) ∧ F' 8 = .int .i64 (backE sig) ∧ F' 9 = y1' ∧ F' 10 = .int .i64 ((64 : Nat) : Int) ∧ F' 13 = .pointer (some ⟨g6, 0, none⟩) ∧ F' 24 = .bool false ∧ F' 43 = .bool false) ⟨e0, e1, e2, e5, rfl, e7, e8, e9, e10, e13, e24, e43⟩ ?_
      clear e0 e1 e2 e5 e6 e7 e8 e9 e10 e13 e24 e43
      clear F
      rintro F ⟨e0, e1, e2, e5, e6, e7, e8, e9, e10, e13, e24, e43⟩
      refine wp_ret ?_
      exact bodyPost_ret (v := (.bool true)) (res1 rfl (ro_tmp rfl e6)) rfl (⟨rfl, Ext.below hC⟩)
  · refine wp_seq ?_
    refine wp_gen (fun F' => F' 0 = v ∧ F' 1 = v2 ∧ F' 2 = .agg (cBs key).toArray) ⟨rfl, rfl, rfl⟩ ?_
    rintro F ⟨e0, e1, e2⟩
    refine wp_regionF ?_
    refine lf_ex (wantAll rfl) (ex_boxG 26 (.tmp 2) (cs := cBs key) (fr_eval rfl e2) (by rfl) rfl) ?_
    rintro _ w24 ⟨g7, hg_g7, rfl, h_g7, hx⟩
    have ge_g7 : w.heap.size ≤ g7 := by have := hC.size; omega
    replace hC := hC.trans hx
    replace hr := Rd.ext hr hx
    replace hs := Rd.ext hs hx
    clear hx hg_g7
    refine lf_val (v := .bool false) (wantAll rfl) (rv_assign rfl rfl) ?_
    refine lf_nil ?_
    refine then_n ?_
    refine wp_seq ?_
    refine wp_gen (fun F' => F' 0 = v ∧ F' 1 = v2 ∧ F' 2 = .agg (cBs key).toArray ∧ F' 5 = .pointer (some ⟨g7, 0, none⟩) ∧ F' 6 = .bool false) ⟨e0, e1, e2, rfl, rfl⟩ ?_
    clear e0 e1 e2
    clear F
    rintro F ⟨e0, e1, e2, e5, e6⟩
    refine wp_regionF ?_
    refine lf_val (v := v) (wantAll rfl) (rv_move rfl (fr_eval rfl e0)) ?_
    refine lf_call (wantAll rfl) (rv_call (args := [v]) rfl (evc (fr_eval rfl rfl) evn) Try.call37) (cut04_calls b _ _ hr) ?_
    rintro _ w25 ⟨rfl, hx⟩
    refine ⟨_, rfl, ?_⟩
    replace hC := hC.trans hx
    replace hr := Rd.ext hr hx
    replace hs := Rd.ext hs hx
    replace h_g7 := Blk.ext h_g7 hx
    clear hx
    refine lf_val (v := cutV v b 200) (wantAll rfl) (rv_assign rfl (fr_eval rfl rfl)) ?_
    refine lf_nil ?_
    refine then_n ?_
    refine wp_seq ?_
    refine wp_gen (fun F' => F' 0 = cutV v b 200 ∧ F' 1 = v2 ∧ F' 2 = .agg (cBs key).toArray ∧ F' 5 = .pointer (some ⟨g7, 0, none⟩) ∧ F' 6 = .bool false) ⟨rfl, e1, e2, e5, e6⟩ ?_
    clear e0 e1 e2 e5 e6
    clear F
    rintro F ⟨e0, e1, e2, e5, e6⟩
    refine wp_regionF ?_
    refine lf_val (v := cutV v b 200) (wantAll rfl) (rv_move rfl (fr_eval rfl e0)) ?_
    refine lf_val (v := v2) (wantAll rfl) (rv_move rfl (fr_eval rfl e1)) ?_
    refine lf_call (wantAll rfl) (rv_call (args := [cutV v b 200, v2]) rfl (evc (fr_eval rfl rfl) (evc (fr_eval rfl rfl) evn)) Try.call42) (back_calls (List.take 200 b) sig (Nat.le_trans (List.length_take_le 200 b) (by decide)) _ _ _ (rdB_cut hr) hs) ?_
    rintro _ w26 ⟨rfl, hx⟩
    refine ⟨_, rfl, ?_⟩
    replace hC := hC.trans hx
    replace hr := Rd.ext hr hx
    replace hs := Rd.ext hs hx
    replace h_g7 := Blk.ext h_g7 hx
    clear hx
    refine lf_val (v := .tuple #[.agg (cBs (backK (join 14 [List.take 200 b]) sig)).toArray, .int .i64 (backE sig)]) (wantAll rfl) (rv_move rfl (fr_eval rfl rfl)) ?_
    refine lf_val (v := .agg (cBs (backK (join 14 [List.take 200 b]) sig)).toArray) (wantAll rfl) (rv_extract rfl (fr_eval rfl rfl) rfl) ?_
    refine lf_val (v := .int .i64 (backE sig)) (wantAll rfl) (rv_extract rfl (fr_eval rfl rfl) rfl) ?_
    refine lf_ex (wantAll rfl) (ex_allocG 26 (z := .agg (cBs (List.replicate 32 0)).toArray) (n := 32) (cs := cBs (List.replicate 32 0)) (by kernel_rfl) (by rfl) rfl) ?_
    rintro _ w27 ⟨g8, hg_g8, rfl, h_g8, hx⟩
    have ge_g8 : w.heap.size ≤ g8 := by have := hC.size; omega
    have lt_g7_g8 : g7 < g8 := by have := Blk.lt h_g7; omega
    replace hC := hC.trans hx
    replace hr := Rd.ext hr hx
    replace hs := Rd.ext hs hx
    replace h_g7 := Blk.ext h_g7 hx
    clear hx hg_g8
    refine lf_sk (wantAll rfl) (ex_storeW (cs := cBs (backK (join 14 [List.take 200 b]) sig)) rfl h_g8 (fr_eval rfl rfl) (fr_eval rfl rfl) (sz_len Try.sz26 (cBs_len backK_len)) (((cBs_len (List.length_replicate ..))).trans ((cBs_len backK_len)).symm) (cBs_one _)) ?_
    rintro w28 ⟨h_g8', hx⟩
    replace h_g8' : Blk w28 g8 (cBs (backK (join 14 [List.take 200 b]) sig)) 26 := h_g8'
    replace hr := Rd.keep hr hx (fun b hb h0 e => by have e : b = g8 := e; have := Rd.lt hr0 h0 b hb; omega)
    replace hs := Rd.keep hs hx (fun b hb h0 e => by have e : b = g8 := e; have := Rd.lt hs0 h0 b hb; omega)
    replace h_g7 := Blk.keep h_g7 hx (fun e => by have e : g7 = g8 := e; omega)
    replace hC := Chg.then hC hx (fun i hi e => absurd hi (by have e : i = g8 := e; omega))
    replace h_g8 := h_g8'
    clear h_g8'
    clear hx
    refine lf_val (v := .int .i64 (backE sig)) (wantAll rfl) (rv_assign rfl (fr_eval rfl rfl)) ?_
    refine lf_nil ?_
    refine then_n ?_
    refine wp_seq ?_
    refine wp_seq ?_
    refine wp_gen (fun F' => F' 0 = cutV v b 200 ∧ F' 1 = v2 ∧ F' 2 = .agg (cBs key).toArray ∧ F' 5 = .pointer (some ⟨g7, 0, none⟩) ∧ F' 6 = .bool false ∧ F' 7 = .pointer (some ⟨g8, 0, none⟩) ∧ F' 8 = .int .i64 (backE sig)) ⟨e0, e1, e2, e5, e6, rfl, rfl⟩ ?_
    clear e0 e1 e2 e5 e6
    clear F
    rintro F ⟨e0, e1, e2, e5, e6, e7, e8⟩
    refine wp_regionF ?_
    refine lf_val (v := v2) (wantAll rfl) (rv_move rfl (fr_eval rfl e1)) ?_
    refine lf_val (v := .int .i64 ((sig.length : Nat) : Int)) (wantAll rfl) (rv_len rfl (fr_eval rfl rfl) (RdB.rn hs rfl) Try.underlying22) ?_
    refine lf_val (v := .bool true) (wantAll rfl) (rv_neq rfl (fr_eval rfl rfl) rfl (decide_eq_false (by omega))) ?_
    refine lf_nil ?_
    refine then_n ?_
    refine wp_gen (fun F' => F' 0 = cutV v b 200 ∧ F' 1 = v2 ∧ F' 2 = .agg (cBs key).toArray ∧ F' 5 = .pointer (some ⟨g7, 0, none⟩) ∧ F' 6 = .bool false ∧ F' 7 = .pointer (some ⟨g8, 0, none⟩) ∧ F' 8 = .int .i64 (backE sig) ∧ F' 24 = .bool true) ⟨e0, e1, e2, e5, e6, e7, e8, rfl⟩ ?_
    clear e0 e1 e2 e5 e6 e7 e8
    clear F
    rintro F ⟨e0, e1, e2, e5, e6, e7, e8, e24⟩
    refine wp_cond_true (fr_eval rfl e24) ?_
    refine wp_seq ?_
    refine wp_regionF ?_
    refine lf_val (v := .agg (cBs (backK (join 14 [List.take 200 b]) sig)).toArray) (wantAll rfl) (rv_loadW rfl h_g8 (fr_eval rfl e7) Try.underlying26 rfl (sz_len Try.sz26 (cBs_len backK_len))) ?_
    refine lf_val (v := .agg (cBs (List.replicate 32 0)).toArray) (wantAll rfl) (by kernel_rfl) ?_
    refine lf_val (v := .bool true) (wantAll rfl) (eqT rfl (fr_eval rfl rfl) (fr_eval rfl rfl) backK_len (List.length_replicate ..) (b := true) (by unfold backK; rw [if_neg hl]; exact beq_self_eq_true _)) ?_
    refine lf_val (v := .bool true) (wantAll rfl) (rv_move rfl (fr_eval rfl rfl)) ?_
    refine lf_val (v := .int .i64 (backE sig)) (wantF (d := 28) rfl (by kernel_rfl) rfl rfl) (rv_move rfl (fr_eval rfl e8)) ?_
    refine lf_val (v := .bool true) (wantF (d := 28) rfl (by kernel_rfl) rfl rfl) (rv_eql rfl (fr_eval rfl rfl) rfl (by unfold backE; rw [if_neg hl]; rfl)) ?_
    refine lf_val (v := .bool true) (wantAll rfl) (rv_pickT rfl (fr_eval rfl rfl) (fr_eval rfl rfl)) ?_
    refine lf_val (v := .bool true) (wantAll rfl) (rv_move rfl (fr_eval rfl rfl)) ?_
    refine lf_val (v := .agg (cBs key).toArray) (wantF (d := 32) rfl (by kernel_rfl) rfl rfl) (rv_loadW rfl h_g7 (fr_eval rfl e5) Try.underlying26 rfl (sz_len Try.sz26 (cBs_len hk))) ?_
    refine lf_val (v := cutV v b 200) (wantF (d := 32) rfl (by kernel_rfl) rfl rfl) (rv_move rfl (fr_eval rfl e0)) ?_
    refine lf_val (v := v2) (wantF (d := 32) rfl (by kernel_rfl) rfl rfl) (rv_move rfl (fr_eval rfl e1)) ?_
    refine lf_call (wantF (d := 32) rfl (by kernel_rfl) rfl rfl) (rv_call (args := [.agg (cBs key).toArray, cutV v b 200, v2]) rfl (evc (fr_eval rfl rfl) (evc (fr_eval rfl rfl) (evc (fr_eval rfl rfl) evn))) Try.call44) (by have h := verify_calls key (List.take 200 b) sig hk (Nat.le_trans (List.length_take_le 200 b) (by decide)) _ _ _ (rdB_cut hr) hs; rw [show verB key (join 14 [List.take 200 b]) sig = false from by unfold verB; rw [decide_eq_false hl, Bool.false_and]] at h; exact h) ?_
    rintro _ w29 ⟨rfl, hx⟩
    refine ⟨_, rfl, ?_⟩
    replace hC := hC.trans hx
    replace hr := Rd.ext hr hx
    replace hs := Rd.ext hs hx
    replace h_g7 := Blk.ext h_g7 hx
    replace h_g8 := Blk.ext h_g8 hx
    clear hx
    refine lf_val (v := .bool true) (wantF (d := 32) rfl (by kernel_rfl) rfl rfl) (rv_not (b := false) rfl (fr_eval rfl rfl)) ?_
    refine lf_val (v := .bool true) (wantAll rfl) (rv_pickT rfl (fr_eval rfl rfl) (fr_eval rfl rfl)) ?_
    refine lf_val (v := .bool true) (wantAll rfl) (rv_move rfl (fr_eval rfl rfl)) ?_
    refine lf_call (wantF (d := 39) rfl (by kernel_rfl) rfl rfl) (rv_call (args := []) rfl evn Try.call46) (awake04_calls _) ?_
    rintro _ w30 ⟨rfl, hx⟩
    refine ⟨_, rfl, ?_⟩
    replace hC := hC.trans hx
    replace hr := Rd.ext hr hx
    replace hs := Rd.ext hs hx
    replace h_g7 := Blk.ext h_g7 hx
    replace h_g8 := Blk.ext h_g8 hx
    clear hx
    refine lf_val (v := .bool true) (wantAll rfl) (rv_pickT rfl (fr_eval rfl rfl) (fr_eval rfl rfl)) ?_
    refine lf_val (v := .bool true) (wantAll rfl) (rv_assign rfl (fr_eval rfl rfl)) ?_
    refine lf_nil ?_
    refine then_n ?_
    refine wp_gen (fun F' => F' 0 = cutV v b 200 ∧ F' 1 = v2 ∧ F' 2 = .agg (cBs key).toArray ∧ F' 5 = .pointer (some ⟨g7, 0, none⟩) ∧ F' 6 = .bool true ∧ F' 7 = .pointer (some ⟨g8, 0, none⟩) ∧ F' 8 = .int .i64 (backE sig) ∧ F' 24 = .bool true) ⟨e0, e1, e2, e5, rfl, e7, e8, e24⟩ ?_
    clear e0 e1 e2 e5 e6 e7 e8 e24
    clear F
    rintro F ⟨e0, e1, e2, e5, e6, e7, e8, e24⟩
    refine wp_ret ?_
    refine then_ret ?_
    exact bodyPost_ret (v := (.bool true)) (res1 rfl (ro_tmp rfl e6)) rfl (⟨rfl, Ext.below hC⟩)

end Go.Proofs.Yticaefnpapppoaa
