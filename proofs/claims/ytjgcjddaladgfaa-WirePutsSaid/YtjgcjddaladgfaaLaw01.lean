/- Chapter 1's example, the law's own numbers, and the walk of WireNums. -/
import Derived.Test.YtjgcjddaladgfaaWire
import Derived.Test.YtjgcjddaladgfaaPens
namespace Go.Proofs.Ytjgcjddaladgfaa
open Go.RowKit Go.Bz Go.Bz.Wire
attribute [local irreducible] wpList Code.wp wpAnyX

set_option maxRecDepth 100000 in
set_option maxHeartbeats 4000000 in
theorem cut01_calls (b : List UInt8) (v : Value) (w : World) (hr0 : RdB w v b) :
    Calls Try.prog 13 #[v] w fun e w' => e = .returned (cutV v b 200) ∧ Ext w w' := by
  refine calls_fr (args := [v]) (n := 9) Try.func13 rfl rfl (show 1 ≤ 9 by decide) ?_
  have hC : Ext w w := Chg.refl _ _
  have hr := hr0
  refine wp_seq ?_
  refine wp_gen (fun F' => F' 0 = v) rfl ?_
  rintro F e0
  refine wp_regionF ?_
  refine lf_val (v := .slice none 0 0) (wantAll rfl) (rv_assign rfl rfl) ?_
  refine lf_nil ?_
  refine then_n ?_
  refine wp_seq ?_
  refine wp_seq ?_
  refine wp_gen (fun F' => F' 0 = v ∧ F' 2 = .slice none 0 0) ⟨e0, rfl⟩ ?_
  clear e0
  clear F
  rintro F ⟨e0, e2⟩
  refine wp_regionF ?_
  refine lf_val (v := v) (wantAll rfl) (rv_move rfl (fr_eval rfl e0)) ?_
  refine lf_val (v := .int .i64 ((b.length : Nat) : Int)) (wantAll rfl) (rv_len rfl (fr_eval rfl rfl) (RdB.rn hr rfl) Try.underlying22) ?_
  by_cases hc1 : b.length > 200
  · refine lf_val (v := .bool true) (wantAll rfl) (rv_gtr rfl (fr_eval rfl rfl) rfl (decide_eq_true (by omega))) ?_
    refine lf_nil ?_
    refine then_n ?_
    refine wp_gen (fun F' => F' 0 = v ∧ F' 2 = .slice none 0 0 ∧ F' 5 = .bool true) ⟨e0, e2, rfl⟩ ?_
    clear e0 e2
    clear F
    rintro F ⟨e0, e2, e5⟩
    refine wp_cond_true (fr_eval rfl e5) ?_
    refine wp_seq ?_
    refine wp_regionF ?_
    refine lf_val (v := v) (wantAll rfl) (rv_move rfl (fr_eval rfl e0)) ?_
    refine lf_val (v := slcV v 1 0 200) (wantAll rfl) (rv_slcH (h := 200) Try.stB rfl (fr_eval rfl rfl) (RdB.rn hr rfl) (show _ = Value.int _ ((200 : Nat) : Int) from rfl) (by omega)) ?_
    refine lf_val (v := slcV v 1 0 200) (wantAll rfl) (rv_assign rfl (fr_eval rfl rfl)) ?_
    refine lf_nil ?_
    refine then_n ?_
    refine wp_gen (fun F' => F' 0 = v ∧ F' 2 = slcV v 1 0 200 ∧ F' 5 = .bool true) ⟨e0, rfl, e5⟩ ?_
    clear e0 e2 e5
    clear F
    rintro F ⟨e0, e2, e5⟩
    refine wp_ret ?_
    refine then_ret ?_
    exact bodyPost_ret (v := (slcV v 1 0 200)) (res1 rfl (ro_tmp rfl e2)) rfl (⟨(by unfold cutV; first | rw [if_pos (by omega)] | rw [if_neg (by omega)]), hC⟩)
  · refine lf_val (v := .bool false) (wantAll rfl) (rv_gtr rfl (fr_eval rfl rfl) rfl (decide_eq_false (by omega))) ?_
    refine lf_nil ?_
    refine then_n ?_
    refine wp_gen (fun F' => F' 0 = v ∧ F' 2 = .slice none 0 0 ∧ F' 5 = .bool false) ⟨e0, e2, rfl⟩ ?_
    clear e0 e2
    clear F
    rintro F ⟨e0, e2, e5⟩
    refine wp_cond_false (fr_eval rfl e5) ?_
    refine wp_skip ?_
    refine then_n ?_
    refine wp_seq ?_
    refine wp_regionF ?_
    refine lf_val (v := v) (wantAll rfl) (rv_move rfl (fr_eval rfl e0)) ?_
    refine lf_val (v := v) (wantAll rfl) (rv_assign rfl (fr_eval rfl rfl)) ?_
    refine lf_nil ?_
    refine then_n ?_
    refine wp_gen (fun F' => F' 0 = v ∧ F' 2 = v ∧ F' 5 = .bool false) ⟨e0, rfl, e5⟩ ?_
    clear e0 e2 e5
    clear F
    rintro F ⟨e0, e2, e5⟩
    refine wp_ret ?_
    exact bodyPost_ret (v := v) (res1 rfl (ro_tmp rfl e2)) rfl (⟨(by unfold cutV; first | rw [if_pos (by omega)] | rw [if_neg (by omega)]), hC⟩)

set_option maxRecDepth 100000 in
set_option maxHeartbeats 4000000 in
theorem awake01_calls (w : World) :
    Calls Try.prog 18 #[] w fun e w' => e = .returned (.bool true) ∧ Ext w w' := by
  refine calls_fr (args := []) (n := 33) Try.func18 rfl rfl (show 0 ≤ 33 by decide) ?_
  have hC : Ext w w := Chg.refl _ _
  refine wp_seq ?_
  refine wp_gen (fun F' => True) trivial ?_
  rintro F _
  refine wp_regionF ?_
  refine lf_val (v := .bool false) (wantAll rfl) (rv_assign rfl rfl) ?_
  refine lf_nil ?_
  refine then_n ?_
  refine wp_seq ?_
  refine wp_gen (fun F' => F' 0 = .bool false) rfl ?_
  clear F
  rintro F e0
  refine wp_regionF ?_
  refine lf_ex (wantAll rfl) (ex_allocG 50 (z := .agg ([.slice none 0 0]).toArray) (n := 1) (cs := [.slice none 0 0]) (by kernel_rfl) (by rfl) rfl) ?_
  rintro _ w1 ⟨g1, hg_g1, rfl, h_g1, hx⟩
  have ge_g1 : w.heap.size ≤ g1 := by have := hC.size; omega
  replace hC := hC.trans hx
  clear hx hg_g1
  refine lf_nil ?_
  refine then_n ?_
  refine wp_seq ?_
  refine wp_gen (fun F' => F' 0 = .bool false ∧ F' 1 = .pointer (some ⟨g1, 0, none⟩)) ⟨e0, rfl⟩ ?_
  clear e0
  clear F
  rintro F ⟨e0, e1⟩
  have hp1 : OwnB w1 (.slice none 0 0) [] := OwnB.nil
  have ge_hp1 : ∀ k, (Value.slice none 0 0).ownBlock = some k → w.heap.size ≤ k := ownBlock_nil
  refine wp_regionF ?_
  refine lf_call (wantAll rfl) (rv_call (args := [.pointer (some ⟨g1, 0, none⟩), .int .i64 300]) rfl (evc (fr_eval rfl e1) (evc rfl evn)) Try.call24) (penNum_calls 300 (by omega) _ ⟨h_g1, hp1⟩ (by decide)) ?_
  rintro _ w2 ⟨rfl, ⟨y1, ⟨h_g1', hp1'⟩, hx, gn⟩⟩
  refine ⟨_, rfl, ?_⟩
  replace gn : ∀ k, (y1 : Value).ownBlock = some k → w.heap.size ≤ k := fun k hk => Or.elim (gn k hk) (fun h => Nat.le_trans (Chg.size hC) h) (fun h => ge_hp1 k h)
  replace hC := Chg.then hC hx (fun i hi e => Or.elim e (fun e => absurd hi (by have e : i = g1 := e; omega)) (fun e => absurd hi (by have := ge_hp1 i e; omega)))
  replace ge_hp1 := gn
  replace h_g1 := h_g1'
  replace hp1 := hp1'
  clear gn hx h_g1' hp1'
  refine lf_call (wantAll rfl) (rv_call (args := [.pointer (some ⟨g1, 0, none⟩)]) rfl (evc (fr_eval rfl rfl) evn) Try.call28) (penBytes_calls _ ⟨h_g1, hp1⟩ (by decide)) ?_
  rintro _ w3 ⟨⟨y2, rfl, ho1', ge_ho1⟩, hx⟩
  refine ⟨_, rfl, ?_⟩
  have dj_ho1_hp1 : ∀ i, (y2 : Value).ownBlock = some i → (y1 : Value).ownBlock ≠ some i := fun i h1 h2 => by have := ge_ho1 i h1; have := own_lt hp1 i h2; omega
  replace ge_ho1 : ∀ k, (y2 : Value).ownBlock = some k → w.heap.size ≤ k := fun k hk => Nat.le_trans hC.size (ge_ho1 k hk)
  replace hC := hC.trans hx
  replace h_g1 := Blk.ext h_g1 hx
  replace hp1 := Own.ext hp1 hx
  have ho1 := ho1'
  clear ho1' hx
  refine lf_val (v := y2) (wantAll rfl) (rv_assign rfl (fr_eval rfl rfl)) ?_
  refine lf_nil ?_
  refine then_n ?_
  refine wp_seq ?_
  refine wp_gen (fun F' => F' 0 = .bool false ∧ F' 1 = .pointer (some ⟨g1, 0, none⟩) ∧ F' 2 = y2) ⟨e0, e1, rfl⟩ ?_
  clear e0 e1
  clear F
  rintro F ⟨e0, e1, e2⟩
  refine wp_regionF ?_
  refine lf_val (v := y2) (wantAll rfl) (rv_move rfl (fr_eval rfl e2)) ?_
  refine lf_call (wantAll rfl) (rv_call (args := [y2]) rfl (evc (fr_eval rfl rfl) evn) Try.call14) (look_calls (show List.length (put 300) ≤ 100000000 from (by decide)) _ (OwnB.rd ho1)) ?_
  rintro _ w4 ⟨⟨g2, z1, rfl, hy_g2', hge_g2, hst_g2⟩, hx⟩
  refine ⟨_, rfl, ?_⟩
  have ne_hy_g2 : z1.ownBlock ≠ some g2 := fun h => by have := (hst_g2 _ h).1; omega
  have ge_g2 : w.heap.size ≤ g2 := Nat.le_trans (Chg.size hC) hge_g2
  have hvg_hy_g2 : ∀ k, z1.ownBlock = some k → k < g2 := fun k hk => Nat.lt_of_lt_of_le (hst_g2 k hk).1 hge_g2
  have lt_g1_g2 : g1 < g2 := by have := Blk.lt h_g1; omega
  replace hC := hC.trans hx
  replace h_g1 := Blk.ext h_g1 hx
  replace hp1 := Own.ext hp1 hx
  replace ho1 := Own.ext ho1 hx
  have hy_g2 := hy_g2'
  clear hy_g2' hx
  refine lf_val (v := .pointer (some ⟨g2, 0, none⟩)) (wantAll rfl) (rv_assign rfl (fr_eval rfl rfl)) ?_
  refine lf_nil ?_
  refine then_n ?_
  refine wp_seq ?_
  refine wp_gen (fun F' => F' 0 = .bool false ∧ F' 1 = .pointer (some ⟨g1, 0, none⟩) ∧ F' 2 = y2 ∧ F' 3 = .pointer (some ⟨g2, 0, none⟩)) ⟨e0, e1, e2, rfl⟩ ?_
  clear e0 e1 e2
  clear F
  rintro F ⟨e0, e1, e2, e3⟩
  refine wp_regionF ?_
  refine lf_val (v := y2) (wantAll rfl) (rv_move rfl (fr_eval rfl e2)) ?_
  refine lf_val (v := .int .i64 2) (wantAll rfl) (rv_len rfl (fr_eval rfl rfl) (RdB.rn (OwnB.rd ho1) (show List.length (put 300) = 2 from by decide)) Try.underlying22) ?_
  refine lf_val (v := .bool true) (wantAll rfl) (rv_eql rfl (fr_eval rfl rfl) rfl (by decide)) ?_
  refine lf_val (v := .bool true) (wantAll rfl) (rv_move rfl (fr_eval rfl rfl)) ?_
  refine lf_val (v := y2) (wantF (d := 11) rfl (by kernel_rfl) rfl rfl) (rv_move rfl (fr_eval rfl e2)) ?_
  refine lf_val (v := .pointer (some (elemA y2 (0 * 1)))) (wantF (d := 11) rfl (by kernel_rfl) rfl rfl) (rv_index rfl (fr_eval rfl rfl) (show _ = Value.int _ ((0 : Nat) : Int) from rfl) (OwnB.rd ho1) (by decide) Try.underlying22 Try.sz5 (by decide)) ?_
  refine lf_val (v := cB (List.getD (put 300) 0 0)) (wantF (d := 11) rfl (by kernel_rfl) rfl rfl) (rv_loadCell rfl (fr_eval rfl rfl) (Nat.mul_one _) (OwnB.rd ho1) (cell_b rfl (by decide)) Try.underlying5 rfl Try.sz5) ?_
  refine lf_val (v := .bool true) (wantF (d := 11) rfl (by kernel_rfl) rfl rfl) (rv_eql rfl (fr_eval rfl rfl) rfl (by decide)) ?_
  refine lf_val (v := .bool true) (wantAll rfl) (rv_pickT rfl (fr_eval rfl rfl) (fr_eval rfl rfl)) ?_
  refine lf_val (v := .bool true) (wantAll rfl) (rv_move rfl (fr_eval rfl rfl)) ?_
  refine lf_val (v := y2) (wantF (d := 17) rfl (by kernel_rfl) rfl rfl) (rv_move rfl (fr_eval rfl e2)) ?_
  refine lf_val (v := .pointer (some (elemA y2 (1 * 1)))) (wantF (d := 17) rfl (by kernel_rfl) rfl rfl) (rv_index rfl (fr_eval rfl rfl) (show _ = Value.int _ ((1 : Nat) : Int) from rfl) (OwnB.rd ho1) (by decide) Try.underlying22 Try.sz5 (by decide)) ?_
  refine lf_val (v := cB (List.getD (put 300) 1 0)) (wantF (d := 17) rfl (by kernel_rfl) rfl rfl) (rv_loadCell rfl (fr_eval rfl rfl) (Nat.mul_one _) (OwnB.rd ho1) (cell_b rfl (by decide)) Try.underlying5 rfl Try.sz5) ?_
  refine lf_val (v := .bool true) (wantF (d := 17) rfl (by kernel_rfl) rfl rfl) (rv_eql rfl (fr_eval rfl rfl) rfl (by decide)) ?_
  refine lf_val (v := .bool true) (wantAll rfl) (rv_pickT rfl (fr_eval rfl rfl) (fr_eval rfl rfl)) ?_
  refine lf_val (v := .bool true) (wantAll rfl) (rv_move rfl (fr_eval rfl rfl)) ?_
  refine lf_val (v := .pointer (some ⟨g2, 0, none⟩)) (wantF (d := 23) rfl (by kernel_rfl) rfl rfl) (rv_move rfl (fr_eval rfl e3)) ?_
  refine lf_call (wantF (d := 23) rfl (by kernel_rfl) rfl rfl) (rv_call (args := [.pointer (some ⟨g2, 0, none⟩)]) rfl (evc (fr_eval rfl rfl) evn) Try.call15) (num_calls  _ hy_g2 ne_hy_g2) ?_
  rintro _ w5 ⟨rfl, hy_g2', hx⟩
  refine ⟨_, rfl, ?_⟩
  replace h_g1 := Blk.keep h_g1 hx (fun e => by have e : g1 = g2 := e; omega)
  replace hp1 := Own.keep hp1 hx (fun b hb e => EyeAt.neOwn hy_g2 hp1 (by have e : b = g2 := e; rw [← e]; exact hb))
  replace ho1 := Own.keep ho1 hx (fun b hb e => EyeAt.neOwn hy_g2 ho1 (by have e : b = g2 := e; rw [← e]; exact hb))
  replace hC := Chg.then hC hx (fun i hi e => absurd hi (by have e : i = g2 := e; omega))
  replace hy_g2 := hy_g2'
  clear hy_g2'
  clear hx
  refine lf_val (v := .bool true) (wantF (d := 23) rfl (by kernel_rfl) rfl rfl) (rv_eql rfl (fr_eval rfl rfl) rfl (by decide)) ?_
  refine lf_val (v := .bool true) (wantAll rfl) (rv_pickT rfl (fr_eval rfl rfl) (fr_eval rfl rfl)) ?_
  refine lf_val (v := .bool true) (wantAll rfl) (rv_move rfl (fr_eval rfl rfl)) ?_
  refine lf_val (v := .pointer (some ⟨g2, 0, none⟩)) (wantF (d := 28) rfl (by kernel_rfl) rfl rfl) (rv_move rfl (fr_eval rfl e3)) ?_
  refine lf_call (wantF (d := 28) rfl (by kernel_rfl) rfl rfl) (rv_call (args := [.pointer (some ⟨g2, 0, none⟩)]) rfl (evc (fr_eval rfl rfl) evn) Try.call22) (done_calls  _ hy_g2 ne_hy_g2) ?_
  rintro _ w6 ⟨rfl, hy_g2', hx⟩
  refine ⟨_, rfl, ?_⟩
  replace h_g1 := Blk.keep h_g1 hx (fun e => by have e : g1 = g2 := e; omega)
  replace hp1 := Own.keep hp1 hx (fun b hb e => EyeAt.neOwn hy_g2 hp1 (by have e : b = g2 := e; rw [← e]; exact hb))
  replace ho1 := Own.keep ho1 hx (fun b hb e => EyeAt.neOwn hy_g2 ho1 (by have e : b = g2 := e; rw [← e]; exact hb))
  replace hC := Chg.then hC hx (fun i hi e => absurd hi (by have e : i = g2 := e; omega))
  replace hy_g2 := hy_g2'
  clear hy_g2'
  clear hx
  refine lf_val (v := .bool true) (wantF (d := 28) rfl (by kernel_rfl) rfl rfl) (rv_eql rfl (fr_eval rfl rfl) rfl (by decide)) ?_
  refine lf_val (v := .bool true) (wantAll rfl) (rv_pickT rfl (fr_eval rfl rfl) (fr_eval rfl rfl)) ?_
  refine lf_val (v := .bool true) (wantAll rfl) (rv_assign rfl (fr_eval rfl rfl)) ?_
  refine lf_nil ?_
  refine then_n ?_
  refine wp_gen (fun F' => F' 0 = .bool true ∧ F' 1 = .pointer (some ⟨g1, 0, none⟩) ∧ F' 2 = y2 ∧ F' 3 = .pointer (some ⟨g2, 0, none⟩)) ⟨rfl, e1, e2, e3⟩ ?_
  clear e0 e1 e2 e3
  clear F
  rintro F ⟨e0, e1, e2, e3⟩
  refine wp_ret ?_
  exact bodyPost_ret (v := (.bool true)) (res1 rfl (ro_tmp rfl e0)) rfl (⟨rfl, hC⟩)

set_option maxRecDepth 100000 in
set_option maxHeartbeats 4000000 in
theorem number_calls (n : Int) (hn : -9223372036854775808 ≤ n ∧ n ≤ 9223372036854775807) (w : World) :
    Calls Try.prog 19 #[.int .i64 n] w fun e'' w' => (∃ v', e'' = .returned v' ∧ OwnB w' v' (put n) ∧ ∀ k, v'.ownBlock = some k → w.heap.size ≤ k) ∧ Ext w w' := by
  refine calls_fr (args := [.int .i64 n]) (n := 23) Try.func19 rfl rfl (show 1 ≤ 23 by decide) ?_
  have hC : Ext w w := Chg.refl _ _
  refine wp_seq ?_
  refine wp_gen (fun F' => F' 0 = .int .i64 n) rfl ?_
  rintro F e0
  refine wp_regionF ?_
  refine lf_val (v := .slice none 0 0) (wantAll rfl) (rv_assign rfl rfl) ?_
  refine lf_nil ?_
  refine then_n ?_
  refine wp_seq ?_
  refine wp_gen (fun F' => F' 0 = .int .i64 n ∧ F' 2 = .slice none 0 0) ⟨e0, rfl⟩ ?_
  clear e0
  clear F
  rintro F ⟨e0, e2⟩
  refine wp_regionF ?_
  refine lf_val (v := .slice none 0 0) (wantAll rfl) (rv_assign rfl rfl) ?_
  refine lf_nil ?_
  refine then_n ?_
  refine wp_seq ?_
  refine wp_seq ?_
  refine wp_gen (fun F' => F' 0 = .int .i64 n ∧ F' 2 = .slice none 0 0 ∧ F' 3 = .slice none 0 0) ⟨e0, e2, rfl⟩ ?_
  clear e0 e2
  clear F
  rintro F ⟨e0, e2, e3⟩
  refine wp_regionF ?_
  refine lf_val (v := .int .i64 n) (wantAll rfl) (rv_move rfl (fr_eval rfl e0)) ?_
  by_cases hc1 : n < 0
  · refine lf_val (v := .bool true) (wantAll rfl) (rv_lss rfl (fr_eval rfl rfl) rfl (decide_eq_true (by omega))) ?_
    refine lf_nil ?_
    refine then_n ?_
    refine wp_gen (fun F' => F' 0 = .int .i64 n ∧ F' 2 = .slice none 0 0 ∧ F' 3 = .slice none 0 0 ∧ F' 5 = .bool true) ⟨e0, e2, e3, rfl⟩ ?_
    clear e0 e2 e3
    clear F
    rintro F ⟨e0, e2, e3, e5⟩
    refine wp_cond_true (fr_eval rfl e5) ?_
    refine wp_regionF ?_
    refine lf_val (v := .int .i64 0) (wantAll rfl) (rv_assign rfl rfl) ?_
    refine lf_nil ?_
    refine then_n ?_
    refine wp_seq ?_
    refine wp_block ?_
    have ho : OwnB w (.slice none 0 0) [] := OwnB.nil
    have ge_ho : ∀ k, (Value.slice none 0 0).ownBlock = some k → w.heap.size ≤ k := ownBlock_nil
    have hput : put n = putGo 9 0 := by unfold put; rw [show n.toNat = 0 by omega]; rfl
    obtain ⟨k, hk⟩ : ∃ k : Nat, k = 0 := ⟨0, rfl⟩
    rw [← hk] at hput
    refine wp_gen (fun F' => F' 0 = .int .i64 ((k : Nat) : Int) ∧ F' 2 = .slice none 0 0 ∧ F' 3 = (Value.slice none 0 0) ∧ F' 5 = .bool true) ⟨(rfl.trans (by rw [hk]; rfl)), e2, e3, e5⟩ ?_
    clear e0 e2 e3 e5
    clear F
    rintro F ⟨e0, e2, e3, e5⟩
    refine wp_loopF (fun m F wr => ∃ f : Nat, ∃ m' : Nat, ∃ l2 : List UInt8, ∃ yb : Value, m = f + 1 ∧ put n = l2 ++ putGo f m' ∧ m' < 128 ^ (f + 1) ∧ f ≤ 9 ∧ l2.length + f ≤ 9 ∧ m' < 9223372036854775808 ∧ F 0 = .int .i64 ((m' : Nat) : Int) ∧ F 2 = .slice none 0 0 ∧ F 3 = yb ∧ F 5 = .bool true ∧ OwnB wr yb l2 ∧ (∀ k, (yb : Value).ownBlock = some k → w.heap.size ≤ k) ∧ Ext w wr) ⟨9, k, _, _, rfl, hput, (Nat.lt_trans (show k < 9223372036854775808 by omega) (by decide)), Nat.le_refl _, Nat.le_refl _, (by omega), e0, e2, e3, e5, ho, ge_ho, hC⟩ ?_
    clear e0 e2 e3 e5 ho ge_ho hC
    clear F
    rintro m F w1 ⟨f, m', l2, yb, rfl, pf0, pf1, pf2, pf3, pf4, e0, e2, e3, e5, ho, ge_ho, hC⟩
    refine wp_seq ?_
    refine wp_seq ?_
    refine wp_regionF ?_
    refine lf_val (v := .int .i64 ((m' : Nat) : Int)) (wantAll rfl) (rv_move rfl (fr_eval rfl e0)) ?_
    by_cases hc2 : m' > 127
    · refine lf_val (v := .bool true) (wantAll rfl) (rv_gtr rfl (fr_eval rfl rfl) rfl (decide_eq_true (by omega))) ?_
      refine lf_nil ?_
      refine then_n ?_
      refine wp_gen (fun F' => F' 0 = .int .i64 ((m' : Nat) : Int) ∧ F' 2 = .slice none 0 0 ∧ F' 3 = yb ∧ F' 5 = .bool true ∧ F' 7 = .bool true) ⟨e0, e2, e3, e5, rfl⟩ ?_
      clear e0 e2 e3 e5
      clear F
      rintro F ⟨e0, e2, e3, e5, e7⟩
      refine wp_cond_true (fr_eval rfl e7) ?_
      refine wp_skip ?_
      refine then_n ?_
      refine wp_block ?_
      refine wp_seq ?_
      obtain ⟨f', rfl, hpf, hmf⟩ := put_next (by omega) pf1
      refine wp_regionF ?_
      refine lf_val (v := yb) (wantAll rfl) (rv_move rfl (fr_eval rfl e3)) ?_
      refine lf_val (v := .int .i64 ((m' : Nat) : Int)) (wantAll rfl) (rv_move rfl (fr_eval rfl e0)) ?_
      refine lf_val (v := .int .i64 ((m' % 128 : Nat) : Int)) (wantAll rfl) (rv_rem rfl (fr_eval rfl rfl) rfl (by decide) (rem_nat _ 128)) ?_
      refine lf_val (v := .int .i64 ((128 + (m' % 128) : Nat) : Int)) (wantAll rfl) (rv_add rfl rfl (fr_eval rfl rfl) (wrap_i64 (by omega) (by omega) (by omega))) ?_
      refine lf_val (v := cB (UInt8.ofNat (128 + (m' % 128)))) (wantAll rfl) (rv_conv rfl (fr_eval rfl rfl) Try.underlying3 Try.underlying5 (wrap_u8 (byte_nat _))) ?_
      refine lf_ex (wantAll rfl) (ex_lits (n := 1) Try.stB [(.tmp 12)] (vs := [cB (UInt8.ofNat (128 + (m' % 128)))]) (evc (fr_eval rfl rfl) evn) (cBs_one [UInt8.ofNat (128 + (m' % 128))]) rfl (by decide) rfl) ?_
      rintro _ w2 ⟨g1, hg_g1, rfl, h_g1, hx⟩
      replace h_g1 : Blk w2 g1 (cBs [UInt8.ofNat (128 + (m' % 128))]) 5 := h_g1
      have ge_g1 : w.heap.size ≤ g1 := by have := hC.size; omega
      have ne_ho_g1 : (yb : Value).ownBlock ≠ some g1 := fun h => by have := own_lt ho _ h; omega
      replace hC := hC.trans hx
      replace ho := Own.ext ho hx
      clear hx hg_g1
      refine lf_ex (wantAll rfl) (ex_apB (xs := l2) (news := [UInt8.ofNat (128 + (m' % 128))]) (.tmp 8) (.tmp 13) ho (rdB_blkn (n := 1) h_g1 rfl (by decide)) (by simp; omega) (fr_eval rfl rfl) (fr_eval rfl rfl) rfl) ?_
      rintro y1 w3 ⟨ho', hg⟩
      have hx := hg.chg
      clear h_g1
      have ge_n := hg.ge (by have := Chg.size hC; omega) ge_ho
      replace hC := Chg.then hC hx (fun i hi e => absurd hi (by have := ge_ho i e; omega))
      replace ge_ho := ge_n
      clear ge_n
      replace ho := ho'
      clear ho'
      clear hx hg
      refine lf_val (v := y1) (wantAll rfl) (rv_assign rfl (fr_eval rfl rfl)) ?_
      refine lf_nil ?_
      refine then_n ?_
      refine wp_gen (fun F' => F' 0 = .int .i64 ((m' : Nat) : Int) ∧ F' 2 = .slice none 0 0 ∧ F' 3 = y1 ∧ F' 5 = .bool true ∧ F' 7 = .bool true) ⟨e0, e2, rfl, e5, e7⟩ ?_
      clear e0 e2 e3 e5 e7
      clear F
      rintro F ⟨e0, e2, e3, e5, e7⟩
      refine wp_regionF ?_
      refine lf_val (v := .int .i64 ((m' : Nat) : Int)) (wantAll rfl) (rv_move rfl (fr_eval rfl e0)) ?_
      refine lf_val (v := .int .i64 ((m' / 128 : Nat) : Int)) (wantAll rfl) (rv_quo rfl (fr_eval rfl rfl) rfl (by decide) (quo_nat (n := 128) (by omega))) ?_
      refine lf_val (v := .int .i64 ((m' / 128 : Nat) : Int)) (wantAll rfl) (rv_assign rfl (fr_eval rfl rfl)) ?_
      refine lf_nil ?_
      refine blk_n ?_
      refine then_n ?_
      exact ⟨_, _, (by omega), rfl, f', _, _, _, rfl, (by rw [pf0, hpf]; simp), hmf, (by omega), (by simp; omega), (by omega), rfl, e2, e3, e5, ho, ge_ho, hC⟩
    · refine lf_val (v := .bool false) (wantAll rfl) (rv_gtr rfl (fr_eval rfl rfl) rfl (decide_eq_false (by omega))) ?_
      refine lf_nil ?_
      refine then_n ?_
      refine wp_gen (fun F' => F' 0 = .int .i64 ((m' : Nat) : Int) ∧ F' 2 = .slice none 0 0 ∧ F' 3 = yb ∧ F' 5 = .bool true ∧ F' 7 = .bool false) ⟨e0, e2, e3, e5, rfl⟩ ?_
      clear e0 e2 e3 e5
      clear F
      rintro F ⟨e0, e2, e3, e5, e7⟩
      refine wp_cond_false (fr_eval rfl e7) ?_
      refine wp_exit ?_
      refine then_exit ?_
      refine then_exit ?_
      refine blk_exit ?_
      refine then_n ?_
      refine wp_seq ?_
      have hlast : putGo f m' = [UInt8.ofNat m'] := put_last (by omega)
      refine wp_regionF ?_
      refine lf_val (v := yb) (wantAll rfl) (rv_move rfl (fr_eval rfl e3)) ?_
      refine lf_val (v := .int .i64 ((m' : Nat) : Int)) (wantAll rfl) (rv_move rfl (fr_eval rfl e0)) ?_
      refine lf_val (v := cB (UInt8.ofNat m')) (wantAll rfl) (rv_conv rfl (fr_eval rfl rfl) Try.underlying3 Try.underlying5 (wrap_u8 (byte_nat _))) ?_
      refine lf_ex (wantAll rfl) (ex_lits (n := 1) Try.stB [(.tmp 19)] (vs := [cB (UInt8.ofNat m')]) (evc (fr_eval rfl rfl) evn) (cBs_one [UInt8.ofNat m']) rfl (by decide) rfl) ?_
      rintro _ w4 ⟨g2, hg_g2, rfl, h_g2, hx⟩
      replace h_g2 : Blk w4 g2 (cBs [UInt8.ofNat m']) 5 := h_g2
      have ge_g2 : w.heap.size ≤ g2 := by have := hC.size; omega
      have ne_ho_g2 : (yb : Value).ownBlock ≠ some g2 := fun h => by have := own_lt ho _ h; omega
      replace hC := hC.trans hx
      replace ho := Own.ext ho hx
      clear hx hg_g2
      refine lf_ex (wantAll rfl) (ex_apB (xs := l2) (news := [UInt8.ofNat m']) (.tmp 17) (.tmp 20) ho (rdB_blkn (n := 1) h_g2 rfl (by decide)) (by simp; omega) (fr_eval rfl rfl) (fr_eval rfl rfl) rfl) ?_
      rintro y2 w5 ⟨ho', hg⟩
      have hx := hg.chg
      clear h_g2
      have ge_n := hg.ge (by have := Chg.size hC; omega) ge_ho
      replace hC := Chg.then hC hx (fun i hi e => absurd hi (by have := ge_ho i e; omega))
      replace ge_ho := ge_n
      clear ge_n
      replace ho := ho'
      clear ho'
      clear hx hg
      refine lf_val (v := y2) (wantAll rfl) (rv_assign rfl (fr_eval rfl rfl)) ?_
      refine lf_nil ?_
      refine then_n ?_
      refine wp_seq ?_
      refine wp_gen (fun F' => F' 0 = .int .i64 ((m' : Nat) : Int) ∧ F' 2 = .slice none 0 0 ∧ F' 3 = y2 ∧ F' 5 = .bool true ∧ F' 7 = .bool false) ⟨e0, e2, rfl, e5, e7⟩ ?_
      clear e0 e2 e3 e5 e7
      clear F
      rintro F ⟨e0, e2, e3, e5, e7⟩
      refine wp_regionF ?_
      refine lf_val (v := y2) (wantAll rfl) (rv_move rfl (fr_eval rfl e3)) ?_
      refine lf_val (v := y2) (wantAll rfl) (rv_assign rfl (fr_eval rfl rfl)) ?_
      refine lf_nil ?_
      refine then_n ?_
      refine wp_gen (fun F' => F' 0 = .int .i64 ((m' : Nat) : Int) ∧ F' 2 = y2 ∧ F' 3 = y2 ∧ F' 5 = .bool true ∧ F' 7 = .bool false) ⟨e0, rfl, e3, e5, e7⟩ ?_
      clear e0 e2 e3 e5 e7
      clear F
      rintro F ⟨e0, e2, e3, e5, e7⟩
      refine wp_ret ?_
      exact bodyPost_ret (v := y2) (res1 rfl (ro_tmp rfl e2)) rfl (⟨⟨_, rfl, (by rw [pf0, hlast]; exact ho), ge_ho⟩, hC⟩)
  · refine lf_val (v := .bool false) (wantAll rfl) (rv_lss rfl (fr_eval rfl rfl) rfl (decide_eq_false (by omega))) ?_
    refine lf_nil ?_
    refine then_n ?_
    refine wp_gen (fun F' => F' 0 = .int .i64 n ∧ F' 2 = .slice none 0 0 ∧ F' 3 = .slice none 0 0 ∧ F' 5 = .bool false) ⟨e0, e2, e3, rfl⟩ ?_
    clear e0 e2 e3
    clear F
    rintro F ⟨e0, e2, e3, e5⟩
    refine wp_cond_false (fr_eval rfl e5) ?_
    refine wp_skip ?_
    refine then_n ?_
    refine wp_seq ?_
    refine wp_block ?_
    have ho : OwnB w (.slice none 0 0) [] := OwnB.nil
    have ge_ho : ∀ k, (Value.slice none 0 0).ownBlock = some k → w.heap.size ≤ k := ownBlock_nil
    obtain ⟨k, rfl⟩ : ∃ k : Nat, n = (k : Int) := ⟨n.toNat, by omega⟩
    have hput : put (k : Int) = putGo 9 k := rfl
    refine wp_loopF (fun m F wr => ∃ f : Nat, ∃ m' : Nat, ∃ l2 : List UInt8, ∃ yb : Value, m = f + 1 ∧ put (k : Int) = l2 ++ putGo f m' ∧ m' < 128 ^ (f + 1) ∧ f ≤ 9 ∧ l2.length + f ≤ 9 ∧ m' < 9223372036854775808 ∧ F 0 = .int .i64 ((m' : Nat) : Int) ∧ F 2 = .slice none 0 0 ∧ F 3 = yb ∧ F 5 = .bool false ∧ OwnB wr yb l2 ∧ (∀ k, (yb : Value).ownBlock = some k → w.heap.size ≤ k) ∧ Ext w wr) ⟨9, k, _, _, rfl, hput, (Nat.lt_trans (show k < 9223372036854775808 by omega) (by decide)), Nat.le_refl _, Nat.le_refl _, (by omega), e0, e2, e3, e5, ho, ge_ho, hC⟩ ?_
    clear e0 e2 e3 e5 ho ge_ho hC
    clear F
    rintro m F w6 ⟨f, m', l2, yb, rfl, pf0, pf1, pf2, pf3, pf4, e0, e2, e3, e5, ho, ge_ho, hC⟩
    refine wp_seq ?_
    refine wp_seq ?_
    refine wp_regionF ?_
    refine lf_val (v := .int .i64 ((m' : Nat) : Int)) (wantAll rfl) (rv_move rfl (fr_eval rfl e0)) ?_
    by_cases hc3 : m' > 127
    · refine lf_val (v := .bool true) (wantAll rfl) (rv_gtr rfl (fr_eval rfl rfl) rfl (decide_eq_true (by omega))) ?_
      refine lf_nil ?_
      refine then_n ?_
      refine wp_gen (fun F' => F' 0 = .int .i64 ((m' : Nat) : Int) ∧ F' 2 = .slice none 0 0 ∧ F' 3 = yb ∧ F' 5 = .bool false ∧ F' 7 = .bool true) ⟨e0, e2, e3, e5, rfl⟩ ?_
      clear e0 e2 e3 e5
      clear F
      rintro F ⟨e0, e2, e3, e5, e7⟩
      refine wp_cond_true (fr_eval rfl e7) ?_
      refine wp_skip ?_
      refine then_n ?_
      refine wp_block ?_
      refine wp_seq ?_
      obtain ⟨f', rfl, hpf, hmf⟩ := put_next (by omega) pf1
      refine wp_regionF ?_
      refine lf_val (v := yb) (wantAll rfl) (rv_move rfl (fr_eval rfl e3)) ?_
      refine lf_val (v := .int .i64 ((m' : Nat) : Int)) (wantAll rfl) (rv_move rfl (fr_eval rfl e0)) ?_
      refine lf_val (v := .int .i64 ((m' % 128 : Nat) : Int)) (wantAll rfl) (rv_rem rfl (fr_eval rfl rfl) rfl (by decide) (rem_nat _ 128)) ?_
      refine lf_val (v := .int .i64 ((128 + (m' % 128) : Nat) : Int)) (wantAll rfl) (rv_add rfl rfl (fr_eval rfl rfl) (wrap_i64 (by omega) (by omega) (by omega))) ?_
      refine lf_val (v := cB (UInt8.ofNat (128 + (m' % 128)))) (wantAll rfl) (rv_conv rfl (fr_eval rfl rfl) Try.underlying3 Try.underlying5 (wrap_u8 (byte_nat _))) ?_
      refine lf_ex (wantAll rfl) (ex_lits (n := 1) Try.stB [(.tmp 12)] (vs := [cB (UInt8.ofNat (128 + (m' % 128)))]) (evc (fr_eval rfl rfl) evn) (cBs_one [UInt8.ofNat (128 + (m' % 128))]) rfl (by decide) rfl) ?_
      rintro _ w7 ⟨g3, hg_g3, rfl, h_g3, hx⟩
      replace h_g3 : Blk w7 g3 (cBs [UInt8.ofNat (128 + (m' % 128))]) 5 := h_g3
      have ge_g3 : w.heap.size ≤ g3 := by have := hC.size; omega
      have ne_ho_g3 : (yb : Value).ownBlock ≠ some g3 := fun h => by have := own_lt ho _ h; omega
      replace hC := hC.trans hx
      replace ho := Own.ext ho hx
      clear hx hg_g3
      refine lf_ex (wantAll rfl) (ex_apB (xs := l2) (news := [UInt8.ofNat (128 + (m' % 128))]) (.tmp 8) (.tmp 13) ho (rdB_blkn (n := 1) h_g3 rfl (by decide)) (by simp; omega) (fr_eval rfl rfl) (fr_eval rfl rfl) rfl) ?_
      rintro y3 w8 ⟨ho', hg⟩
      have hx := hg.chg
      clear h_g3
      have ge_n := hg.ge (by have := Chg.size hC; omega) ge_ho
      replace hC := Chg.then hC hx (fun i hi e => absurd hi (by have := ge_ho i e; omega))
      replace ge_ho := ge_n
      clear ge_n
      replace ho := ho'
      clear ho'
      clear hx hg
      refine lf_val (v := y3) (wantAll rfl) (rv_assign rfl (fr_eval rfl rfl)) ?_
      refine lf_nil ?_
      refine then_n ?_
      refine wp_gen (fun F' => F' 0 = .int .i64 ((m' : Nat) : Int) ∧ F' 2 = .slice none 0 0 ∧ F' 3 = y3 ∧ F' 5 = .bool false ∧ F' 7 = .bool true) ⟨e0, e2, rfl, e5, e7⟩ ?_
      clear e0 e2 e3 e5 e7
      clear F
      rintro F ⟨e0, e2, e3, e5, e7⟩
      refine wp_regionF ?_
      refine lf_val (v := .int .i64 ((m' : Nat) : Int)) (wantAll rfl) (rv_move rfl (fr_eval rfl e0)) ?_
      refine lf_val (v := .int .i64 ((m' / 128 : Nat) : Int)) (wantAll rfl) (rv_quo rfl (fr_eval rfl rfl) rfl (by decide) (quo_nat (n := 128) (by omega))) ?_
      refine lf_val (v := .int .i64 ((m' / 128 : Nat) : Int)) (wantAll rfl) (rv_assign rfl (fr_eval rfl rfl)) ?_
      refine lf_nil ?_
      refine blk_n ?_
      refine then_n ?_
      exact ⟨_, _, (by omega), rfl, f', _, _, _, rfl, (by rw [pf0, hpf]; simp), hmf, (by omega), (by simp; omega), (by omega), rfl, e2, e3, e5, ho, ge_ho, hC⟩
    · refine lf_val (v := .bool false) (wantAll rfl) (rv_gtr rfl (fr_eval rfl rfl) rfl (decide_eq_false (by omega))) ?_
      refine lf_nil ?_
      refine then_n ?_
      refine wp_gen (fun F' => F' 0 = .int .i64 ((m' : Nat) : Int) ∧ F' 2 = .slice none 0 0 ∧ F' 3 = yb ∧ F' 5 = .bool false ∧ F' 7 = .bool false) ⟨e0, e2, e3, e5, rfl⟩ ?_
      clear e0 e2 e3 e5
      clear F
      rintro F ⟨e0, e2, e3, e5, e7⟩
      refine wp_cond_false (fr_eval rfl e7) ?_
      refine wp_exit ?_
      refine then_exit ?_
      refine then_exit ?_
      refine blk_exit ?_
      refine then_n ?_
      refine wp_seq ?_
      have hlast : putGo f m' = [UInt8.ofNat m'] := put_last (by omega)
      refine wp_regionF ?_
      refine lf_val (v := yb) (wantAll rfl) (rv_move rfl (fr_eval rfl e3)) ?_
      refine lf_val (v := .int .i64 ((m' : Nat) : Int)) (wantAll rfl) (rv_move rfl (fr_eval rfl e0)) ?_
      refine lf_val (v := cB (UInt8.ofNat m')) (wantAll rfl) (rv_conv rfl (fr_eval rfl rfl) Try.underlying3 Try.underlying5 (wrap_u8 (byte_nat _))) ?_
      refine lf_ex (wantAll rfl) (ex_lits (n := 1) Try.stB [(.tmp 19)] (vs := [cB (UInt8.ofNat m')]) (evc (fr_eval rfl rfl) evn) (cBs_one [UInt8.ofNat m']) rfl (by decide) rfl) ?_
      rintro _ w9 ⟨g4, hg_g4, rfl, h_g4, hx⟩
      replace h_g4 : Blk w9 g4 (cBs [UInt8.ofNat m']) 5 := h_g4
      have ge_g4 : w.heap.size ≤ g4 := by have := hC.size; omega
      have ne_ho_g4 : (yb : Value).ownBlock ≠ some g4 := fun h => by have := own_lt ho _ h; omega
      replace hC := hC.trans hx
      replace ho := Own.ext ho hx
      clear hx hg_g4
      refine lf_ex (wantAll rfl) (ex_apB (xs := l2) (news := [UInt8.ofNat m']) (.tmp 17) (.tmp 20) ho (rdB_blkn (n := 1) h_g4 rfl (by decide)) (by simp; omega) (fr_eval rfl rfl) (fr_eval rfl rfl) rfl) ?_
      rintro y4 w10 ⟨ho', hg⟩
      have hx := hg.chg
      clear h_g4
      have ge_n := hg.ge (by have := Chg.size hC; omega) ge_ho
      replace hC := Chg.then hC hx (fun i hi e => absurd hi (by have := ge_ho i e; omega))
      replace ge_ho := ge_n
      clear ge_n
      replace ho := ho'
      clear ho'
      clear hx hg
      refine lf_val (v := y4) (wantAll rfl) (rv_assign rfl (fr_eval rfl rfl)) ?_
      refine lf_nil ?_
      refine then_n ?_
      refine wp_seq ?_
      refine wp_gen (fun F' => F' 0 = .int .i64 ((m' : Nat) : Int) ∧ F' 2 = .slice none 0 0 ∧ F' 3 = y4 ∧ F' 5 = .bool false ∧ F' 7 = .bool false) ⟨e0, e2, rfl, e5, e7⟩ ?_
      clear e0 e2 e3 e5 e7
      clear F
      rintro F ⟨e0, e2, e3, e5, e7⟩
      refine wp_regionF ?_
      refine lf_val (v := y4) (wantAll rfl) (rv_move rfl (fr_eval rfl e3)) ?_
      refine lf_val (v := y4) (wantAll rfl) (rv_assign rfl (fr_eval rfl rfl)) ?_
      refine lf_nil ?_
      refine then_n ?_
      refine wp_gen (fun F' => F' 0 = .int .i64 ((m' : Nat) : Int) ∧ F' 2 = y4 ∧ F' 3 = y4 ∧ F' 5 = .bool false ∧ F' 7 = .bool false) ⟨e0, rfl, e3, e5, e7⟩ ?_
      clear e0 e2 e3 e5 e7
      clear F
      rintro F ⟨e0, e2, e3, e5, e7⟩
      refine wp_ret ?_
      exact bodyPost_ret (v := y4) (res1 rfl (ro_tmp rfl e2)) rfl (⟨⟨_, rfl, (by rw [pf0, hlast]; exact ho), ge_ho⟩, hC⟩)

theorem put_form {c : List UInt8} {n k : Nat} (h : num c = (0, n, k)) : put (n : Int) = List.take k c := by
  unfold put; rw [Int.toNat_natCast]; exact num_form h
theorem raw_rest {c r : List UInt8} {e : Int} {k : Nat} (_ : k ≤ c.length) (hr : r = c.drop k) (he : e = 0) : rawV r e ((c.length - k : Nat) : Int) = List.drop k c := by
  subst hr he
  have h : rawE (c.drop k) 0 ((c.length - k : Nat) : Int) = 0 := by
    unfold rawE; rw [if_pos rfl, if_neg (by rw [List.length_drop]; omega)]
  unfold rawV; rw [if_pos h, Int.toNat_natCast, List.take_of_length_le (by simp)]

set_option maxRecDepth 100000 in
set_option maxHeartbeats 4000000 in
theorem wireNums_walk (b : List UInt8) (v : Value) (most : Int) (hm : -9223372036854775808 ≤ most ∧ most ≤ 9223372036854775807) (w : World) (hr0 : RdB w v b) :
    Calls Try.prog 3 #[v, .int .i64 most] w fun e'' w' => e'' = .returned (.bool true) ∧ Ext w w' := by
  refine calls_fr (args := [v, .int .i64 most]) (n := 143) Try.func3 rfl rfl (show 2 ≤ 143 by decide) ?_
  have hC : Ext w w := Chg.refl _ _
  have hr := hr0
  refine wp_seq ?_
  refine wp_gen (fun F' => F' 0 = v ∧ F' 1 = .int .i64 most) ⟨rfl, rfl⟩ ?_
  rintro F ⟨e0, e1⟩
  refine wp_regionF ?_
  refine lf_val (v := .bool false) (wantAll rfl) (rv_assign rfl rfl) ?_
  refine lf_nil ?_
  refine then_n ?_
  refine wp_seq ?_
  refine wp_gen (fun F' => F' 0 = v ∧ F' 1 = .int .i64 most ∧ F' 4 = .bool false) ⟨e0, e1, rfl⟩ ?_
  clear e0 e1
  clear F
  rintro F ⟨e0, e1, e4⟩
  refine wp_regionF ?_
  refine lf_val (v := v) (wantAll rfl) (rv_move rfl (fr_eval rfl e0)) ?_
  refine lf_call (wantAll rfl) (rv_call (args := [v]) rfl (evc (fr_eval rfl rfl) evn) Try.call13) (cut01_calls b _ _ hr) ?_
  rintro _ w1 ⟨rfl, hx⟩
  refine ⟨_, rfl, ?_⟩
  replace hC := hC.trans hx
  replace hr := Rd.ext hr hx
  clear hx
  refine lf_val (v := cutV v b 200) (wantAll rfl) (rv_assign rfl (fr_eval rfl rfl)) ?_
  refine lf_nil ?_
  refine then_n ?_
  refine wp_seq ?_
  refine wp_gen (fun F' => F' 0 = cutV v b 200 ∧ F' 1 = .int .i64 most ∧ F' 4 = .bool false) ⟨rfl, e1, e4⟩ ?_
  clear e0 e1 e4
  clear F
  rintro F ⟨e0, e1, e4⟩
  refine wp_regionF ?_
  refine lf_val (v := cutV v b 200) (wantAll rfl) (rv_move rfl (fr_eval rfl e0)) ?_
  refine lf_call (wantAll rfl) (rv_call (args := [cutV v b 200]) rfl (evc (fr_eval rfl rfl) evn) Try.call14) (look_calls (show List.length (List.take 200 b) ≤ 100000000 from (Nat.le_trans (List.length_take_le 200 b) (by decide))) _ (rdB_cut hr)) ?_
  rintro _ w2 ⟨⟨g1, z1, rfl, hy_g1', hge_g1, hst_g1⟩, hx⟩
  refine ⟨_, rfl, ?_⟩
  have ne_hy_g1 : z1.ownBlock ≠ some g1 := fun h => by have := (hst_g1 _ h).1; omega
  have ge_g1 : w.heap.size ≤ g1 := Nat.le_trans (Chg.size hC) hge_g1
  have hvg_hy_g1 : ∀ k, z1.ownBlock = some k → k < g1 := fun k hk => Nat.lt_of_lt_of_le (hst_g1 k hk).1 hge_g1
  have hv0_hy_g1 : ∀ k, z1.ownBlock = some k → k < w.heap.size := fun k hk => Rd.lt hr0 (by simpa using (cut_pos (hst_g1 k hk).2.1)) k (cutV_own.symm.trans (hst_g1 k hk).2.2)
  replace hC := hC.trans hx
  replace hr := Rd.ext hr hx
  have hy_g1 := hy_g1'
  clear hy_g1' hx
  refine lf_val (v := cutV v b 200) (wantAll rfl) (rv_move rfl (fr_eval rfl e0)) ?_
  refine lf_call (wantAll rfl) (rv_call (args := [cutV v b 200]) rfl (evc (fr_eval rfl rfl) evn) Try.call14) (look_calls (show List.length (List.take 200 b) ≤ 100000000 from (Nat.le_trans (List.length_take_le 200 b) (by decide))) _ (rdB_cut hr)) ?_
  rintro _ w3 ⟨⟨g2, z2, rfl, hy_g2', hge_g2, hst_g2⟩, hx⟩
  refine ⟨_, rfl, ?_⟩
  have ne_hy_g2 : z2.ownBlock ≠ some g2 := fun h => by have := (hst_g2 _ h).1; omega
  have ge_g2 : w.heap.size ≤ g2 := Nat.le_trans (Chg.size hC) hge_g2
  have hvg_hy_g2 : ∀ k, z2.ownBlock = some k → k < g2 := fun k hk => Nat.lt_of_lt_of_le (hst_g2 k hk).1 hge_g2
  have hv0_hy_g2 : ∀ k, z2.ownBlock = some k → k < w.heap.size := fun k hk => Rd.lt hr0 (by simpa using (cut_pos (hst_g2 k hk).2.1)) k (cutV_own.symm.trans (hst_g2 k hk).2.2)
  have lt_g1_g2 : g1 < g2 := by have := EyeAt.lt hy_g1; omega
  replace hC := hC.trans hx
  replace hr := Rd.ext hr hx
  replace hy_g1 := EyeAt.ext hy_g1 hx
  have hy_g2 := hy_g2'
  clear hy_g2' hx
  refine lf_val (v := .pointer (some ⟨g1, 0, none⟩)) (wantAll rfl) (rv_assign rfl (fr_eval rfl rfl)) ?_
  refine lf_val (v := .pointer (some ⟨g2, 0, none⟩)) (wantAll rfl) (rv_assign rfl (fr_eval rfl rfl)) ?_
  refine lf_nil ?_
  refine then_n ?_
  refine wp_seq ?_
  refine wp_gen (fun F' => F' 0 = cutV v b 200 ∧ F' 1 = .int .i64 most ∧ F' 4 = .bool false ∧ F' 5 = .pointer (some ⟨g1, 0, none⟩) ∧ F' 6 = .pointer (some ⟨g2, 0, none⟩)) ⟨e0, e1, e4, rfl, rfl⟩ ?_
  clear e0 e1 e4
  clear F
  rintro F ⟨e0, e1, e4, e5, e6⟩
  refine wp_regionF ?_
  refine lf_val (v := .pointer (some ⟨g1, 0, none⟩)) (wantAll rfl) (rv_move rfl (fr_eval rfl e5)) ?_
  refine lf_call (wantAll rfl) (rv_call (args := [.pointer (some ⟨g1, 0, none⟩)]) rfl (evc (fr_eval rfl rfl) evn) Try.call15) (num_calls  _ hy_g1 ne_hy_g1) ?_
  rintro _ w4 ⟨rfl, hy_g1', hx⟩
  refine ⟨_, rfl, ?_⟩
  replace hr := Rd.keep hr hx (fun b hb h0 e => by have e : b = g1 := e; have := Rd.lt hr0 h0 b hb; omega)
  replace hy_g2 := EyeAt.keep hy_g2 hx (fun e => by have e : g2 = g1 := e; omega) (fun k hk e => by have e : k = g1 := e; have := hv0_hy_g2 k hk; omega)
  replace hC := Chg.then hC hx (fun i hi e => absurd hi (by have e : i = g1 := e; omega))
  replace hy_g1 := hy_g1'
  clear hy_g1'
  clear hx
  refine lf_val (v := .pointer (some ⟨g2, 0, none⟩)) (wantAll rfl) (rv_move rfl (fr_eval rfl e6)) ?_
  refine lf_val (v := .int .i64 most) (wantAll rfl) (rv_move rfl (fr_eval rfl e1)) ?_
  refine lf_call (wantAll rfl) (rv_call (args := [.pointer (some ⟨g2, 0, none⟩), .int .i64 most]) rfl (evc (fr_eval rfl rfl) (evc (fr_eval rfl rfl) evn)) Try.call16) (upto_calls most _ hy_g2 ne_hy_g2) ?_
  rintro _ w5 ⟨rfl, hy_g2', hx⟩
  refine ⟨_, rfl, ?_⟩
  replace hr := Rd.keep hr hx (fun b hb h0 e => by have e : b = g2 := e; have := Rd.lt hr0 h0 b hb; omega)
  replace hy_g1 := EyeAt.keep hy_g1 hx (fun e => by have e : g1 = g2 := e; omega) (fun k hk e => by have e : k = g2 := e; have := hv0_hy_g1 k hk; omega)
  replace hC := Chg.then hC hx (fun i hi e => absurd hi (by have e : i = g2 := e; omega))
  replace hy_g2 := hy_g2'
  clear hy_g2'
  clear hx
  refine lf_val (v := .int .i64 ((numV (List.take 200 b) 0 : Nat) : Int)) (wantAll rfl) (rv_assign rfl (fr_eval rfl rfl)) ?_
  refine lf_val (v := .int .i64 ((uptoV (List.take 200 b) 0 most : Nat) : Int)) (wantAll rfl) (rv_assign rfl (fr_eval rfl rfl)) ?_
  refine lf_nil ?_
  refine then_n ?_
  refine wp_seq ?_
  refine wp_gen (fun F' => F' 0 = cutV v b 200 ∧ F' 1 = .int .i64 most ∧ F' 4 = .bool false ∧ F' 5 = .pointer (some ⟨g1, 0, none⟩) ∧ F' 6 = .pointer (some ⟨g2, 0, none⟩) ∧ F' 7 = .int .i64 ((numV (List.take 200 b) 0 : Nat) : Int) ∧ F' 8 = .int .i64 ((uptoV (List.take 200 b) 0 most : Nat) : Int)) ⟨e0, e1, e4, e5, e6, rfl, rfl⟩ ?_
  clear e0 e1 e4 e5 e6
  clear F
  rintro F ⟨e0, e1, e4, e5, e6, e7, e8⟩
  refine wp_regionF ?_
  refine lf_val (v := .int .i64 0) (wantAll rfl) (rv_assign rfl rfl) ?_
  refine lf_val (v := .int .i64 2) (wantAll rfl) (rv_assign rfl rfl) ?_
  refine lf_nil ?_
  refine then_n ?_
  refine wp_seq ?_
  refine wp_gen (fun F' => F' 0 = cutV v b 200 ∧ F' 1 = .int .i64 most ∧ F' 4 = .bool false ∧ F' 5 = .pointer (some ⟨g1, 0, none⟩) ∧ F' 6 = .pointer (some ⟨g2, 0, none⟩) ∧ F' 7 = .int .i64 ((numV (List.take 200 b) 0 : Nat) : Int) ∧ F' 8 = .int .i64 ((uptoV (List.take 200 b) 0 most : Nat) : Int) ∧ F' 9 = .int .i64 0 ∧ F' 10 = .int .i64 2) ⟨e0, e1, e4, e5, e6, e7, e8, rfl, rfl⟩ ?_
  clear e0 e1 e4 e5 e6 e7 e8
  clear F
  rintro F ⟨e0, e1, e4, e5, e6, e7, e8, e9, e10⟩
  refine wp_regionF ?_
  refine lf_val (v := .int .i64 0) (wantAll rfl) (rv_assign rfl rfl) ?_
  refine lf_nil ?_
  refine then_n ?_
  refine wp_seq ?_
  refine wp_seq ?_
  refine wp_gen (fun F' => F' 0 = cutV v b 200 ∧ F' 1 = .int .i64 most ∧ F' 4 = .bool false ∧ F' 5 = .pointer (some ⟨g1, 0, none⟩) ∧ F' 6 = .pointer (some ⟨g2, 0, none⟩) ∧ F' 7 = .int .i64 ((numV (List.take 200 b) 0 : Nat) : Int) ∧ F' 8 = .int .i64 ((uptoV (List.take 200 b) 0 most : Nat) : Int) ∧ F' 9 = .int .i64 0 ∧ F' 10 = .int .i64 2 ∧ F' 11 = .int .i64 0) ⟨e0, e1, e4, e5, e6, e7, e8, e9, e10, rfl⟩ ?_
  clear e0 e1 e4 e5 e6 e7 e8 e9 e10
  clear F
  rintro F ⟨e0, e1, e4, e5, e6, e7, e8, e9, e10, e11⟩
  refine wp_regionF ?_
  refine lf_val (v := .int .i64 0) (wantAll rfl) (rv_assign rfl rfl) ?_
  refine lf_nil ?_
  refine then_n ?_
  refine wp_block ?_
  refine wp_gen (fun F' => F' 0 = cutV v b 200 ∧ F' 1 = .int .i64 most ∧ F' 4 = .bool false ∧ F' 5 = .pointer (some ⟨g1, 0, none⟩) ∧ F' 6 = .pointer (some ⟨g2, 0, none⟩) ∧ F' 7 = .int .i64 ((numV (List.take 200 b) 0 : Nat) : Int) ∧ F' 8 = .int .i64 ((uptoV (List.take 200 b) 0 most : Nat) : Int) ∧ F' 9 = .int .i64 0 ∧ F' 10 = .int .i64 2 ∧ F' 11 = .int .i64 0 ∧ F' 12 = .int .i64 0) ⟨e0, e1, e4, e5, e6, e7, e8, e9, e10, e11, rfl⟩ ?_
  clear e0 e1 e4 e5 e6 e7 e8 e9 e10 e11
  clear F
  rintro F ⟨e0, e1, e4, e5, e6, e7, e8, e9, e10, e11, e12⟩
  refine wp_loopF (fun m F wr => ∃ i : Nat, ∃ n : Nat, ∃ e : Int, m = 9 - i ∧ i ≤ 9 ∧ i ≤ (List.take 200 b).length ∧ n < 128 ^ i ∧ num (List.take 200 b) = numGo (List.take 200 b) (9 - i) i n ∧ ((i < 9 ∧ e = 2) ∨ (i = 9 ∧ e = 5)) ∧ F 0 = cutV v b 200 ∧ F 1 = .int .i64 most ∧ F 4 = .bool false ∧ F 5 = .pointer (some ⟨g1, 0, none⟩) ∧ F 6 = .pointer (some ⟨g2, 0, none⟩) ∧ F 7 = .int .i64 ((numV (List.take 200 b) 0 : Nat) : Int) ∧ F 8 = .int .i64 ((uptoV (List.take 200 b) 0 most : Nat) : Int) ∧ F 9 = .int .i64 ((n : Nat) : Int) ∧ F 10 = .int .i64 e ∧ F 11 = .int .i64 0 ∧ F 12 = .int .i64 ((i : Nat) : Int) ∧ RdB wr v b ∧ EyeAt wr g1 z1 (numR (List.take 200 b) 0) (numE (List.take 200 b) 0) ∧ EyeAt wr g2 z2 (numR (List.take 200 b) 0) (uptoE (List.take 200 b) 0 most) ∧ Ext w wr) ⟨0, 0, 2, rfl, Nat.zero_le _, Nat.zero_le _, (by decide), rfl, (by omega), e0, e1, e4, e5, e6, e7, e8, e9, e10, e11, e12, hr, hy_g1, hy_g2, hC⟩ ?_
  clear e0 e1 e4 e5 e6 e7 e8 e9 e10 e11 e12 hr hy_g1 hy_g2 hC
  clear F
  rintro m F w6 ⟨i, n, e, rfl, pi0, pi1, pi2, pi3, pi4, e0, e1, e4, e5, e6, e7, e8, e9, e10, e11, e12, hr, hy_g1, hy_g2, hC⟩
  refine wp_seq ?_
  refine wp_seq ?_
  refine wp_regionF ?_
  refine lf_val (v := .int .i64 ((i : Nat) : Int)) (wantAll rfl) (rv_move rfl (fr_eval rfl e12)) ?_
  by_cases hc1 : i < 9
  · refine lf_val (v := .bool true) (wantAll rfl) (rv_lss rfl (fr_eval rfl rfl) rfl (decide_eq_true (by omega))) ?_
    refine lf_val (v := .bool true) (wantAll rfl) (rv_move rfl (fr_eval rfl rfl)) ?_
    refine lf_val (v := .int .i64 ((i : Nat) : Int)) (wantF (d := 26) rfl (by kernel_rfl) rfl rfl) (rv_move rfl (fr_eval rfl e12)) ?_
    refine lf_val (v := cutV v b 200) (wantF (d := 26) rfl (by kernel_rfl) rfl rfl) (rv_move rfl (fr_eval rfl e0)) ?_
    refine lf_val (v := .int .i64 (((List.take 200 b).length : Nat) : Int)) (wantF (d := 26) rfl (by kernel_rfl) rfl rfl) (rv_len rfl (fr_eval rfl rfl) (RdB.rn (rdB_cut hr) rfl) Try.underlying22) ?_
    by_cases hc2 : i < (List.take 200 b).length
    · refine lf_val (v := .bool true) (wantF (d := 26) rfl (by kernel_rfl) rfl rfl) (rv_lss rfl (fr_eval rfl rfl) (fr_eval rfl rfl) (decide_eq_true (by omega))) ?_
      refine lf_val (v := .bool true) (wantAll rfl) (rv_pickT rfl (fr_eval rfl rfl) (fr_eval rfl rfl)) ?_
      refine lf_nil ?_
      refine then_n ?_
      refine wp_gen (fun F' => F' 0 = cutV v b 200 ∧ F' 1 = .int .i64 most ∧ F' 4 = .bool false ∧ F' 5 = .pointer (some ⟨g1, 0, none⟩) ∧ F' 6 = .pointer (some ⟨g2, 0, none⟩) ∧ F' 7 = .int .i64 ((numV (List.take 200 b) 0 : Nat) : Int) ∧ F' 8 = .int .i64 ((uptoV (List.take 200 b) 0 most : Nat) : Int) ∧ F' 9 = .int .i64 ((n : Nat) : Int) ∧ F' 10 = .int .i64 e ∧ F' 11 = .int .i64 0 ∧ F' 12 = .int .i64 ((i : Nat) : Int) ∧ F' 31 = .bool true) ⟨e0, e1, e4, e5, e6, e7, e8, e9, e10, e11, e12, rfl⟩ ?_
      clear e0 e1 e4 e5 e6 e7 e8 e9 e10 e11 e12
      clear F
      rintro F ⟨e0, e1, e4, e5, e6, e7, e8, e9, e10, e11, e12, e31⟩
      refine wp_cond_true (fr_eval rfl e31) ?_
      refine wp_skip ?_
      refine then_n ?_
      refine wp_seq ?_
      refine wp_block ?_
      refine wp_seq ?_
      refine wp_regionF ?_
      refine lf_val (v := .int .i64 ((n : Nat) : Int)) (wantAll rfl) (rv_move rfl (fr_eval rfl e9)) ?_
      refine lf_val (v := cutV v b 200) (wantAll rfl) (rv_move rfl (fr_eval rfl e0)) ?_
      refine lf_val (v := .int .i64 ((i : Nat) : Int)) (wantAll rfl) (rv_move rfl (fr_eval rfl e12)) ?_
      refine lf_val (v := .pointer (some (elemA (cutV v b 200) (i * 1)))) (wantAll rfl) (rv_index rfl (fr_eval rfl rfl) (fr_eval rfl rfl) (rdB_cut hr) (by omega) Try.underlying22 Try.sz5 (by decide)) ?_
      refine lf_val (v := cB (List.getD (List.take 200 b) i 0)) (wantAll rfl) (rv_loadCell rfl (fr_eval rfl rfl) (Nat.mul_one _) (rdB_cut hr) (cell_b rfl (by omega)) Try.underlying5 rfl Try.sz5) ?_
      refine lf_val (v := .int .u8 ((((List.getD (List.take 200 b) i 0).toNat) % 128 : Nat) : Int)) (wantAll rfl) (rv_rem rfl (fr_eval rfl rfl) rfl (by decide) (rem_nat _ 128)) ?_
      refine lf_val (v := .int .i64 ((((List.getD (List.take 200 b) i 0).toNat) % 128 : Nat) : Int)) (wantAll rfl) (rv_conv rfl (fr_eval rfl rfl) Try.underlying5 Try.underlying3 (wrap_nat (by omega))) ?_
      refine lf_val (v := .int .i64 ((i : Nat) : Int)) (wantAll rfl) (rv_move rfl (fr_eval rfl e12)) ?_
      refine lf_val (v := .int .i64 ((7 * i : Nat) : Int)) (wantAll rfl) (rv_mul rfl rfl (fr_eval rfl rfl) (wrap_i64 (by omega) (by omega) (by omega))) ?_
      refine lf_val (v := .int .i64 (((List.getD (List.take 200 b) i 0).toNat % 128 * 128 ^ i : Nat) : Int)) (wantAll rfl) (rv_shl rfl (fr_eval rfl rfl) (fr_eval rfl rfl) (shl_numI (by omega) (by omega))) ?_
      have hfit := next_fit (r := (List.take 200 b)) (show i < 9 by omega) pi2
      refine lf_val (v := .int .i64 ((n + (List.getD (List.take 200 b) i 0).toNat % 128 * 128 ^ i : Nat) : Int)) (wantAll rfl) (rv_add rfl (fr_eval rfl rfl) (fr_eval rfl rfl) (wrap_i64 (by omega) (by omega) (by omega))) ?_
      refine lf_val (v := .int .i64 ((n + (List.getD (List.take 200 b) i 0).toNat % 128 * 128 ^ i : Nat) : Int)) (wantAll rfl) (rv_assign rfl (fr_eval rfl rfl)) ?_
      refine lf_nil ?_
      refine then_n ?_
      refine wp_seq ?_
      refine wp_seq ?_
      refine wp_gen (fun F' => F' 0 = cutV v b 200 ∧ F' 1 = .int .i64 most ∧ F' 4 = .bool false ∧ F' 5 = .pointer (some ⟨g1, 0, none⟩) ∧ F' 6 = .pointer (some ⟨g2, 0, none⟩) ∧ F' 7 = .int .i64 ((numV (List.take 200 b) 0 : Nat) : Int) ∧ F' 8 = .int .i64 ((uptoV (List.take 200 b) 0 most : Nat) : Int) ∧ F' 9 = .int .i64 ((n + (List.getD (List.take 200 b) i 0).toNat % 128 * 128 ^ i : Nat) : Int) ∧ F' 10 = .int .i64 e ∧ F' 11 = .int .i64 0 ∧ F' 12 = .int .i64 ((i : Nat) : Int) ∧ F' 31 = .bool true) ⟨e0, e1, e4, e5, e6, e7, e8, rfl, e10, e11, e12, e31⟩ ?_
      clear e0 e1 e4 e5 e6 e7 e8 e9 e10 e11 e12 e31
      clear F
      rintro F ⟨e0, e1, e4, e5, e6, e7, e8, e9, e10, e11, e12, e31⟩
      refine wp_regionF ?_
      refine lf_val (v := cutV v b 200) (wantAll rfl) (rv_move rfl (fr_eval rfl e0)) ?_
      refine lf_val (v := .int .i64 ((i : Nat) : Int)) (wantAll rfl) (rv_move rfl (fr_eval rfl e12)) ?_
      refine lf_val (v := .pointer (some (elemA (cutV v b 200) (i * 1)))) (wantAll rfl) (rv_index rfl (fr_eval rfl rfl) (fr_eval rfl rfl) (rdB_cut hr) (by omega) Try.underlying22 Try.sz5 (by decide)) ?_
      refine lf_val (v := cB (List.getD (List.take 200 b) i 0)) (wantAll rfl) (rv_loadCell rfl (fr_eval rfl rfl) (Nat.mul_one _) (rdB_cut hr) (cell_b rfl (by omega)) Try.underlying5 rfl Try.sz5) ?_
      by_cases hc3 : (List.getD (List.take 200 b) i 0).toNat < 128
      · refine lf_val (v := .bool true) (wantAll rfl) (rv_lss rfl (fr_eval rfl rfl) rfl (decide_eq_true (by omega))) ?_
        refine lf_nil ?_
        refine then_n ?_
        refine wp_gen (fun F' => F' 0 = cutV v b 200 ∧ F' 1 = .int .i64 most ∧ F' 4 = .bool false ∧ F' 5 = .pointer (some ⟨g1, 0, none⟩) ∧ F' 6 = .pointer (some ⟨g2, 0, none⟩) ∧ F' 7 = .int .i64 ((numV (List.take 200 b) 0 : Nat) : Int) ∧ F' 8 = .int .i64 ((uptoV (List.take 200 b) 0 most : Nat) : Int) ∧ F' 9 = .int .i64 ((n + (List.getD (List.take 200 b) i 0).toNat % 128 * 128 ^ i : Nat) : Int) ∧ F' 10 = .int .i64 e ∧ F' 11 = .int .i64 0 ∧ F' 12 = .int .i64 ((i : Nat) : Int) ∧ F' 31 = .bool true ∧ F' 49 = .bool true) ⟨e0, e1, e4, e5, e6, e7, e8, e9, e10, e11, e12, e31, rfl⟩ ?_
        clear e0 e1 e4 e5 e6 e7 e8 e9 e10 e11 e12 e31
        clear F
        rintro F ⟨e0, e1, e4, e5, e6, e7, e8, e9, e10, e11, e12, e31, e49⟩
        refine wp_cond_true (fr_eval rfl e49) ?_
        refine wp_seq ?_
        refine wp_regionF ?_
        refine lf_val (v := .int .i64 ((i : Nat) : Int)) (wantAll rfl) (rv_move rfl (fr_eval rfl e12)) ?_
        refine lf_val (v := .int .i64 ((i + 1 : Nat) : Int)) (wantAll rfl) (rv_add rfl (fr_eval rfl rfl) rfl (wrap_i64 (by omega) (by omega) (by omega))) ?_
        refine lf_val (v := .int .i64 ((i + 1 : Nat) : Int)) (wantAll rfl) (rv_assign rfl (fr_eval rfl rfl)) ?_
        refine lf_nil ?_
        refine then_n ?_
        refine wp_seq ?_
        refine wp_gen (fun F' => F' 0 = cutV v b 200 ∧ F' 1 = .int .i64 most ∧ F' 4 = .bool false ∧ F' 5 = .pointer (some ⟨g1, 0, none⟩) ∧ F' 6 = .pointer (some ⟨g2, 0, none⟩) ∧ F' 7 = .int .i64 ((numV (List.take 200 b) 0 : Nat) : Int) ∧ F' 8 = .int .i64 ((uptoV (List.take 200 b) 0 most : Nat) : Int) ∧ F' 9 = .int .i64 ((n + (List.getD (List.take 200 b) i 0).toNat % 128 * 128 ^ i : Nat) : Int) ∧ F' 10 = .int .i64 e ∧ F' 11 = .int .i64 ((i + 1 : Nat) : Int) ∧ F' 12 = .int .i64 ((i : Nat) : Int) ∧ F' 31 = .bool true ∧ F' 49 = .bool true) ⟨e0, e1, e4, e5, e6, e7, e8, e9, e10, rfl, e12, e31, e49⟩ ?_
        clear e0 e1 e4 e5 e6 e7 e8 e9 e10 e11 e12 e31 e49
        clear F
        rintro F ⟨e0, e1, e4, e5, e6, e7, e8, e9, e10, e11, e12, e31, e49⟩
        refine wp_regionF ?_
        refine lf_val (v := .int .i64 0) (wantAll rfl) (rv_assign rfl rfl) ?_
        refine lf_nil ?_
        refine then_n ?_
        refine wp_exit ?_
        refine then_exit ?_
        refine blk_exit_ne (by decide) ?_
        refine then_exit ?_
        refine then_exit ?_
        refine blk_exit ?_
        refine then_n ?_
        refine wp_seq ?_
        refine wp_seq ?_
        refine wp_gen (fun F' => F' 0 = cutV v b 200 ∧ F' 1 = .int .i64 most ∧ F' 4 = .bool false ∧ F' 5 = .pointer (some ⟨g1, 0, none⟩) ∧ F' 6 = .pointer (some ⟨g2, 0, none⟩) ∧ F' 7 = .int .i64 ((numV (List.take 200 b) 0 : Nat) : Int) ∧ F' 8 = .int .i64 ((uptoV (List.take 200 b) 0 most : Nat) : Int) ∧ F' 9 = .int .i64 ((n + (List.getD (List.take 200 b) i 0).toNat % 128 * 128 ^ i : Nat) : Int) ∧ F' 10 = .int .i64 0 ∧ F' 11 = .int .i64 ((i + 1 : Nat) : Int) ∧ F' 12 = .int .i64 ((i : Nat) : Int) ∧ F' 31 = .bool true ∧ F' 49 = .bool true) ⟨e0, e1, e4, e5, e6, e7, e8, e9, rfl, e11, e12, e31, e49⟩ ?_
        clear e0 e1 e4 e5 e6 e7 e8 e9 e10 e11 e12 e31 e49
        clear F
        rintro F ⟨e0, e1, e4, e5, e6, e7, e8, e9, e10, e11, e12, e31, e49⟩
        refine wp_regionF ?_
        refine lf_val (v := .int .i64 ((i + 1 : Nat) : Int)) (wantAll rfl) (rv_move rfl (fr_eval rfl e11)) ?_
        by_cases hc4 : i + 1 > 1
        · refine lf_val (v := .bool true) (wantAll rfl) (rv_gtr rfl (fr_eval rfl rfl) rfl (decide_eq_true (by omega))) ?_
          refine lf_val (v := .bool true) (wantAll rfl) (rv_move rfl (fr_eval rfl rfl)) ?_
          refine lf_val (v := cutV v b 200) (wantF (d := 56) rfl (by kernel_rfl) rfl rfl) (rv_move rfl (fr_eval rfl e0)) ?_
          refine lf_val (v := .int .i64 ((i + 1 : Nat) : Int)) (wantF (d := 56) rfl (by kernel_rfl) rfl rfl) (rv_move rfl (fr_eval rfl e11)) ?_
          refine lf_val (v := .int .i64 ((i : Nat) : Int)) (wantF (d := 56) rfl (by kernel_rfl) rfl rfl) (rv_sub rfl (fr_eval rfl rfl) rfl (wrap_i64 (by omega) (by omega) (by omega))) ?_
          refine lf_val (v := .pointer (some (elemA (cutV v b 200) (i * 1)))) (wantF (d := 56) rfl (by kernel_rfl) rfl rfl) (rv_index rfl (fr_eval rfl rfl) (fr_eval rfl rfl) (rdB_cut hr) (by omega) Try.underlying22 Try.sz5 (by decide)) ?_
          refine lf_val (v := cB (List.getD (List.take 200 b) i 0)) (wantF (d := 56) rfl (by kernel_rfl) rfl rfl) (rv_loadCell rfl (fr_eval rfl rfl) (Nat.mul_one _) (rdB_cut hr) (cell_b rfl (by omega)) Try.underlying5 rfl Try.sz5) ?_
          by_cases hc5 : (List.getD (List.take 200 b) i 0).toNat = 0
          · refine lf_val (v := .bool true) (wantF (d := 56) rfl (by kernel_rfl) rfl rfl) (rv_eql rfl (fr_eval rfl rfl) rfl (decide_eq_true (by omega))) ?_
            refine lf_val (v := .bool true) (wantAll rfl) (rv_pickT rfl (fr_eval rfl rfl) (fr_eval rfl rfl)) ?_
            refine lf_nil ?_
            refine then_n ?_
            refine wp_gen (fun F' => F' 0 = cutV v b 200 ∧ F' 1 = .int .i64 most ∧ F' 4 = .bool false ∧ F' 5 = .pointer (some ⟨g1, 0, none⟩) ∧ F' 6 = .pointer (some ⟨g2, 0, none⟩) ∧ F' 7 = .int .i64 ((numV (List.take 200 b) 0 : Nat) : Int) ∧ F' 8 = .int .i64 ((uptoV (List.take 200 b) 0 most : Nat) : Int) ∧ F' 9 = .int .i64 ((n + (List.getD (List.take 200 b) i 0).toNat % 128 * 128 ^ i : Nat) : Int) ∧ F' 10 = .int .i64 0 ∧ F' 11 = .int .i64 ((i + 1 : Nat) : Int) ∧ F' 12 = .int .i64 ((i : Nat) : Int) ∧ F' 31 = .bool true ∧ F' 49 = .bool true ∧ F' 63 = .bool true) ⟨e0, e1, e4, e5, e6, e7, e8, e9, e10, e11, e12, e31, e49, rfl⟩ ?_
            clear e0 e1 e4 e5 e6 e7 e8 e9 e10 e11 e12 e31 e49
            clear F
            rintro F ⟨e0, e1, e4, e5, e6, e7, e8, e9, e10, e11, e12, e31, e49, e63⟩
            refine wp_cond_true (fr_eval rfl e63) ?_
            refine wp_regionF ?_
            refine lf_val (v := .int .i64 4) (wantAll rfl) (rv_assign rfl rfl) ?_
            refine lf_nil ?_
            refine then_n ?_
            refine wp_seq ?_
            refine wp_seq ?_
            refine wp_gen (fun F' => F' 0 = cutV v b 200 ∧ F' 1 = .int .i64 most ∧ F' 4 = .bool false ∧ F' 5 = .pointer (some ⟨g1, 0, none⟩) ∧ F' 6 = .pointer (some ⟨g2, 0, none⟩) ∧ F' 7 = .int .i64 ((numV (List.take 200 b) 0 : Nat) : Int) ∧ F' 8 = .int .i64 ((uptoV (List.take 200 b) 0 most : Nat) : Int) ∧ F' 9 = .int .i64 ((n + (List.getD (List.take 200 b) i 0).toNat % 128 * 128 ^ i : Nat) : Int) ∧ F' 10 = .int .i64 4 ∧ F' 11 = .int .i64 ((i + 1 : Nat) : Int) ∧ F' 12 = .int .i64 ((i : Nat) : Int) ∧ F' 31 = .bool true ∧ F' 49 = .bool true ∧ F' 63 = .bool true) ⟨e0, e1, e4, e5, e6, e7, e8, e9, rfl, e11, e12, e31, e49, e63⟩ ?_
            clear e0 e1 e4 e5 e6 e7 e8 e9 e10 e11 e12 e31 e49 e63
            clear F
            rintro F ⟨e0, e1, e4, e5, e6, e7, e8, e9, e10, e11, e12, e31, e49, e63⟩
            have hn : num (List.take 200 b) = (4, 0, 0) := by rw [pi3]; exact go_zero (by omega) (by omega) (by omega) (by omega)
            obtain ⟨q1, q2, q3, q4, q5⟩ := num_facts most hn
            refine wp_regionF ?_
            refine lf_val (v := .int .i64 4) (wantAll rfl) (rv_move rfl (fr_eval rfl e10)) ?_
            refine lf_val (v := .bool true) (wantAll rfl) (rv_neq rfl (fr_eval rfl rfl) rfl (show decide ((4 : Int) = 0) = false from by decide)) ?_
            refine lf_nil ?_
            refine then_n ?_
            refine wp_gen (fun F' => F' 0 = cutV v b 200 ∧ F' 1 = .int .i64 most ∧ F' 4 = .bool false ∧ F' 5 = .pointer (some ⟨g1, 0, none⟩) ∧ F' 6 = .pointer (some ⟨g2, 0, none⟩) ∧ F' 7 = .int .i64 ((numV (List.take 200 b) 0 : Nat) : Int) ∧ F' 8 = .int .i64 ((uptoV (List.take 200 b) 0 most : Nat) : Int) ∧ F' 9 = .int .i64 ((n + (List.getD (List.take 200 b) i 0).toNat % 128 * 128 ^ i : Nat) : Int) ∧ F' 10 = .int .i64 4 ∧ F' 11 = .int .i64 ((i + 1 : Nat) : Int) ∧ F' 12 = .int .i64 ((i : Nat) : Int) ∧ F' 31 = .bool true ∧ F' 49 = .bool true ∧ F' 63 = .bool true ∧ F' 65 = .bool true) ⟨e0, e1, e4, e5, e6, e7, e8, e9, e10, e11, e12, e31, e49, e63, rfl⟩ ?_
            clear e0 e1 e4 e5 e6 e7 e8 e9 e10 e11 e12 e31 e49 e63
            clear F
            rintro F ⟨e0, e1, e4, e5, e6, e7, e8, e9, e10, e11, e12, e31, e49, e63, e65⟩
            refine wp_cond_true (fr_eval rfl e65) ?_
            refine wp_seq ?_
            refine wp_regionF ?_
            refine lf_val (v := .int .i64 ((numV (List.take 200 b) 0 : Nat) : Int)) (wantAll rfl) (rv_move rfl (fr_eval rfl e7)) ?_
            refine lf_val (v := .bool true) (wantAll rfl) (rv_eql rfl (fr_eval rfl rfl) rfl (decide_eq_true (by omega))) ?_
            refine lf_val (v := .bool true) (wantAll rfl) (rv_move rfl (fr_eval rfl rfl)) ?_
            refine lf_val (v := .int .i64 ((uptoV (List.take 200 b) 0 most : Nat) : Int)) (wantF (d := 68) rfl (by kernel_rfl) rfl rfl) (rv_move rfl (fr_eval rfl e8)) ?_
            refine lf_val (v := .bool true) (wantF (d := 68) rfl (by kernel_rfl) rfl rfl) (rv_eql rfl (fr_eval rfl rfl) rfl (decide_eq_true (by omega))) ?_
            refine lf_val (v := .bool true) (wantAll rfl) (rv_pickT rfl (fr_eval rfl rfl) (fr_eval rfl rfl)) ?_
            refine lf_val (v := .bool true) (wantAll rfl) (rv_move rfl (fr_eval rfl rfl)) ?_
            refine lf_val (v := .pointer (some ⟨g1, 0, none⟩)) (wantF (d := 72) rfl (by kernel_rfl) rfl rfl) (rv_move rfl (fr_eval rfl e5)) ?_
            refine lf_call (wantF (d := 72) rfl (by kernel_rfl) rfl rfl) (rv_call (args := [.pointer (some ⟨g1, 0, none⟩)]) rfl (evc (fr_eval rfl rfl) evn) Try.call17) (errE_calls _ hy_g1) ?_
            rintro _ w7 ⟨rfl, hx⟩
            refine ⟨_, rfl, ?_⟩
            replace hC := hC.trans hx
            replace hr := Rd.ext hr hx
            replace hy_g1 := EyeAt.ext hy_g1 hx
            replace hy_g2 := EyeAt.ext hy_g2 hx
            clear hx
            refine lf_val (v := .int .i64 4) (wantF (d := 72) rfl (by kernel_rfl) rfl rfl) (rv_move rfl (fr_eval rfl e10)) ?_
            refine lf_val (v := .bool true) (wantF (d := 72) rfl (by kernel_rfl) rfl rfl) (rv_eql rfl (fr_eval rfl rfl) (fr_eval rfl rfl) (decide_eq_true (by omega))) ?_
            refine lf_val (v := .bool true) (wantAll rfl) (rv_pickT rfl (fr_eval rfl rfl) (fr_eval rfl rfl)) ?_
            refine lf_val (v := .bool true) (wantAll rfl) (rv_move rfl (fr_eval rfl rfl)) ?_
            refine lf_val (v := .pointer (some ⟨g2, 0, none⟩)) (wantF (d := 78) rfl (by kernel_rfl) rfl rfl) (rv_move rfl (fr_eval rfl e6)) ?_
            refine lf_call (wantF (d := 78) rfl (by kernel_rfl) rfl rfl) (rv_call (args := [.pointer (some ⟨g2, 0, none⟩)]) rfl (evc (fr_eval rfl rfl) evn) Try.call17) (errE_calls _ hy_g2) ?_
            rintro _ w8 ⟨rfl, hx⟩
            refine ⟨_, rfl, ?_⟩
            replace hC := hC.trans hx
            replace hr := Rd.ext hr hx
            replace hy_g1 := EyeAt.ext hy_g1 hx
            replace hy_g2 := EyeAt.ext hy_g2 hx
            clear hx
            refine lf_val (v := .int .i64 4) (wantF (d := 78) rfl (by kernel_rfl) rfl rfl) (rv_move rfl (fr_eval rfl e10)) ?_
            refine lf_val (v := .bool true) (wantF (d := 78) rfl (by kernel_rfl) rfl rfl) (rv_eql rfl (fr_eval rfl rfl) (fr_eval rfl rfl) (decide_eq_true (by omega))) ?_
            refine lf_val (v := .bool true) (wantAll rfl) (rv_pickT rfl (fr_eval rfl rfl) (fr_eval rfl rfl)) ?_
            refine lf_val (v := .bool true) (wantAll rfl) (rv_move rfl (fr_eval rfl rfl)) ?_
            refine lf_call (wantF (d := 84) rfl (by kernel_rfl) rfl rfl) (rv_call (args := []) rfl evn Try.call18) (awake01_calls _) ?_
            rintro _ w9 ⟨rfl, hx⟩
            refine ⟨_, rfl, ?_⟩
            replace hC := hC.trans hx
            replace hr := Rd.ext hr hx
            replace hy_g1 := EyeAt.ext hy_g1 hx
            replace hy_g2 := EyeAt.ext hy_g2 hx
            clear hx
            refine lf_val (v := .bool true) (wantAll rfl) (rv_pickT rfl (fr_eval rfl rfl) (fr_eval rfl rfl)) ?_
            refine lf_val (v := .bool true) (wantAll rfl) (rv_assign rfl (fr_eval rfl rfl)) ?_
            refine lf_nil ?_
            refine then_n ?_
            refine wp_gen (fun F' => F' 0 = cutV v b 200 ∧ F' 1 = .int .i64 most ∧ F' 4 = .bool true ∧ F' 5 = .pointer (some ⟨g1, 0, none⟩) ∧ F' 6 = .pointer (some ⟨g2, 0, none⟩) ∧ F' 7 = .int .i64 ((numV (List.take 200 b) 0 : Nat) : Int) ∧ F' 8 = .int .i64 ((uptoV (List.take 200 b) 0 most : Nat) : Int) ∧ F' 9 = .int .i64 ((n + (List.getD (List.take 200 b) i 0).toNat % 128 * 128 ^ i : Nat) : Int) ∧ F' 10 = .int .i64 4 ∧ F' 11 = .int .i64 ((i + 1 : Nat) : Int) ∧ F' 12 = .int .i64 ((i : Nat) : Int) ∧ F' 31 = .bool true ∧ F' 49 = .bool true ∧ F' 63 = .bool true ∧ F' 65 = .bool true) ⟨e0, e1, rfl, e5, e6, e7, e8, e9, e10, e11, e12, e31, e49, e63, e65⟩ ?_
            clear e0 e1 e4 e5 e6 e7 e8 e9 e10 e11 e12 e31 e49 e63 e65
            clear F
            rintro F ⟨e0, e1, e4, e5, e6, e7, e8, e9, e10, e11, e12, e31, e49, e63, e65⟩
            refine wp_ret ?_
            refine then_ret ?_
            exact bodyPost_ret (v := (.bool true)) (res1 rfl (ro_tmp rfl e4)) rfl (⟨rfl, hC⟩)
          · refine lf_val (v := .bool false) (wantF (d := 56) rfl (by kernel_rfl) rfl rfl) (rv_eql rfl (fr_eval rfl rfl) rfl (decide_eq_false (by omega))) ?_
            refine lf_val (v := .bool false) (wantAll rfl) (rv_pickT rfl (fr_eval rfl rfl) (fr_eval rfl rfl)) ?_
            refine lf_nil ?_
            refine then_n ?_
            refine wp_gen (fun F' => F' 0 = cutV v b 200 ∧ F' 1 = .int .i64 most ∧ F' 4 = .bool false ∧ F' 5 = .pointer (some ⟨g1, 0, none⟩) ∧ F' 6 = .pointer (some ⟨g2, 0, none⟩) ∧ F' 7 = .int .i64 ((numV (List.take 200 b) 0 : Nat) : Int) ∧ F' 8 = .int .i64 ((uptoV (List.take 200 b) 0 most : Nat) : Int) ∧ F' 9 = .int .i64 ((n + (List.getD (List.take 200 b) i 0).toNat % 128 * 128 ^ i : Nat) : Int) ∧ F' 10 = .int .i64 0 ∧ F' 11 = .int .i64 ((i + 1 : Nat) : Int) ∧ F' 12 = .int .i64 ((i : Nat) : Int) ∧ F' 31 = .bool true ∧ F' 49 = .bool true ∧ F' 63 = .bool false) ⟨e0, e1, e4, e5, e6, e7, e8, e9, e10, e11, e12, e31, e49, rfl⟩ ?_
            clear e0 e1 e4 e5 e6 e7 e8 e9 e10 e11 e12 e31 e49
            clear F
            rintro F ⟨e0, e1, e4, e5, e6, e7, e8, e9, e10, e11, e12, e31, e49, e63⟩
            refine wp_cond_false (fr_eval rfl e63) ?_
            refine wp_skip ?_
            refine then_n ?_
            refine wp_seq ?_
            refine wp_seq ?_
            have hn : num (List.take 200 b) = (0, n + (List.getD (List.take 200 b) i 0).toNat % 128 * 128 ^ i, i + 1) := by rw [pi3]; exact go_end (by omega) (by omega) (by omega) (by omega)
            obtain ⟨q1, q2, q3, q4, q5⟩ := num_facts most hn
            refine wp_regionF ?_
            refine lf_val (v := .int .i64 0) (wantAll rfl) (rv_move rfl (fr_eval rfl e10)) ?_
            refine lf_val (v := .bool false) (wantAll rfl) (rv_neq rfl (fr_eval rfl rfl) rfl (show decide ((0 : Int) = 0) = true from by decide)) ?_
            refine lf_nil ?_
            refine then_n ?_
            refine wp_gen (fun F' => F' 0 = cutV v b 200 ∧ F' 1 = .int .i64 most ∧ F' 4 = .bool false ∧ F' 5 = .pointer (some ⟨g1, 0, none⟩) ∧ F' 6 = .pointer (some ⟨g2, 0, none⟩) ∧ F' 7 = .int .i64 ((numV (List.take 200 b) 0 : Nat) : Int) ∧ F' 8 = .int .i64 ((uptoV (List.take 200 b) 0 most : Nat) : Int) ∧ F' 9 = .int .i64 ((n + (List.getD (List.take 200 b) i 0).toNat % 128 * 128 ^ i : Nat) : Int) ∧ F' 10 = .int .i64 0 ∧ F' 11 = .int .i64 ((i + 1 : Nat) : Int) ∧ F' 12 = .int .i64 ((i : Nat) : Int) ∧ F' 31 = .bool true ∧ F' 49 = .bool true ∧ F' 63 = .bool false ∧ F' 65 = .bool false) ⟨e0, e1, e4, e5, e6, e7, e8, e9, e10, e11, e12, e31, e49, e63, rfl⟩ ?_
            clear e0 e1 e4 e5 e6 e7 e8 e9 e10 e11 e12 e31 e49 e63
            clear F
            rintro F ⟨e0, e1, e4, e5, e6, e7, e8, e9, e10, e11, e12, e31, e49, e63, e65⟩
            refine wp_cond_false (fr_eval rfl e65) ?_
            refine wp_skip ?_
            refine then_n ?_
            refine wp_seq ?_
            refine wp_seq ?_
            refine wp_regionX (fun _ => False) 18 (by kernel_rfl) (by kernel_rfl) ?_
            refine xl_take (i := 0) (v := .int .i64 ((numV (List.take 200 b) 0 : Nat) : Int)) rfl (by kernel_rfl) (by kernel_rfl) (by kernel_rfl) (by kernel_rfl) (yx_val (wantAll rfl) (fun w' hx' => rv_move rfl (fr_eval rfl e7))) ?_
            refine xl_take (i := 1) (v := .int .i64 ((n + (List.getD (List.take 200 b) i 0).toNat % 128 * 128 ^ i : Nat) : Int)) rfl (by kernel_rfl) (by kernel_rfl) (by kernel_rfl) (by kernel_rfl) (yx_val (wantAll rfl) (fun w' hx' => rv_move rfl (fr_eval rfl e9))) ?_
            refine xl_take (i := 2) (v := .bool false) rfl (by kernel_rfl) (by kernel_rfl) (by kernel_rfl) (by kernel_rfl) (yx_val (wantAll rfl) (fun w' hx' => rv_neq rfl (fr_eval rfl rfl) (fr_eval rfl rfl) (decide_eq_true (by omega)))) ?_
            refine xl_take (i := 3) (v := .bool false) rfl (by kernel_rfl) (by kernel_rfl) (by kernel_rfl) (by kernel_rfl) (yx_val (wantAll rfl) (fun w' hx' => rv_move rfl (fr_eval rfl rfl))) ?_
            refine xl_take (i := 4) (v := .pointer (some ⟨g1, 0, none⟩)) rfl (by kernel_rfl) (by kernel_rfl) (by kernel_rfl) (by kernel_rfl) (yx_val (wantF (d := 90) rfl (by kernel_rfl) rfl rfl) (fun w' hx' => rv_move rfl (fr_eval rfl e5))) ?_
            refine xl_take (i := 5) (v := .int .i64 (numE (List.take 200 b) 0)) rfl (by kernel_rfl) (by kernel_rfl) (by kernel_rfl) (by kernel_rfl) (yx_call (wantF (d := 90) rfl (by kernel_rfl) rfl rfl) (fun w' => rv_call (args := [.pointer (some ⟨g1, 0, none⟩)]) rfl (evc (fr_eval rfl rfl) evn) Try.call17) (fun w' hx' => errE_calls _ (EyeAt.ext hy_g1 hx'))) ?_
            refine xl_take (i := 6) (v := .bool false) rfl (by kernel_rfl) (by kernel_rfl) (by kernel_rfl) (by kernel_rfl) (yx_val (wantF (d := 90) rfl (by kernel_rfl) rfl rfl) (fun w' hx' => rv_neq rfl (fr_eval rfl rfl) rfl (decide_eq_true (by omega)))) ?_
            refine xl_take (i := 7) (v := .bool false) rfl (by kernel_rfl) (by kernel_rfl) (by kernel_rfl) (by kernel_rfl) (yx_val (wantAll rfl) (fun w' hx' => rv_pickF rfl (fr_eval rfl rfl) (fr_eval rfl rfl))) ?_
            refine xl_take (i := 8) (v := .bool false) rfl (by kernel_rfl) (by kernel_rfl) (by kernel_rfl) (by kernel_rfl) (yx_val (wantAll rfl) (fun w' hx' => rv_move rfl (fr_eval rfl rfl))) ?_
            refine xl_take (i := 9) (v := .int .i64 ((n + (List.getD (List.take 200 b) i 0).toNat % 128 * 128 ^ i : Nat) : Int)) rfl (by kernel_rfl) (by kernel_rfl) (by kernel_rfl) (by kernel_rfl) (yx_val (wantF (d := 95) rfl (by kernel_rfl) rfl rfl) (fun w' hx' => rv_move rfl (fr_eval rfl e9))) ?_
            refine xl_take (i := 12) (v := cutV v b 200) rfl (by kernel_rfl) (by kernel_rfl) (by kernel_rfl) (by kernel_rfl) (yx_val (wantF (d := 95) rfl (by kernel_rfl) rfl rfl) (fun w' hx' => rv_move rfl (fr_eval rfl e0))) ?_
            refine xl_take (i := 13) (v := .int .i64 ((i + 1 : Nat) : Int)) rfl (by kernel_rfl) (by kernel_rfl) (by kernel_rfl) (by kernel_rfl) (yx_val (wantF (d := 95) rfl (by kernel_rfl) rfl rfl) (fun w' hx' => rv_move rfl (fr_eval rfl e11))) ?_
            refine xl_take (i := 14) (v := slcV (cutV v b 200) 1 0 (i + 1)) rfl (by kernel_rfl) (by kernel_rfl) (by kernel_rfl) (by kernel_rfl) (yx_val (wantF (d := 95) rfl (by kernel_rfl) rfl rfl) (fun w' hx' => rv_slcH (h := i + 1) Try.stB rfl (fr_eval rfl rfl) (RdB.rn (rdB_cut (Rd.ext hr hx')) rfl) (fr_eval rfl rfl) (by omega))) ?_
            refine xl_take (i := 15) (v := .string ⟨(List.take (i + 1) (List.take 200 b)).toArray⟩) rfl (by kernel_rfl) (by kernel_rfl) (by kernel_rfl) (by kernel_rfl) (yx_val (wantF (d := 95) rfl (by kernel_rfl) rfl rfl) (fun w' hx' => rv_str rfl (fr_eval rfl rfl) (rdB_slcH (h := i + 1) (RdB.rn (rdB_cut (Rd.ext hr hx')) rfl) (by omega)) Try.underlying22 Try.underlying5 Try.underlying9)) ?_
            refine anyX_ready (rs := [10]) (by kernel_rfl) ?_
            intro w10 hx
            replace hC := hC.trans hx
            replace hr := Rd.ext hr hx
            replace hy_g1 := EyeAt.ext hy_g1 hx
            replace hy_g2 := EyeAt.ext hy_g2 hx
            clear hx
            refine (anyX_cons ?_ anyX_nil)
            refine xl_step (i := 10) rfl (wantF (d := 95) rfl (by kernel_rfl) rfl rfl) ?_
            refine of_call (rv_call (args := [.int .i64 ((n + (List.getD (List.take 200 b) i 0).toNat % 128 * 128 ^ i : Nat) : Int)]) rfl (evc (fr_eval rfl rfl) evn) Try.call19) (number_calls ((n + (List.getD (List.take 200 b) i 0).toNat % 128 * 128 ^ i : Nat) : Int) (by omega) _) ?_
            rintro _ w11 ⟨⟨y1, rfl, ho1', ge_ho1⟩, hx⟩
            refine ⟨_, rfl, ?_⟩
            have hx0 := hx
            replace ge_ho1 : ∀ k, (y1 : Value).ownBlock = some k → w.heap.size ≤ k := fun k hk => Nat.le_trans hC.size (ge_ho1 k hk)
            replace hC := hC.trans hx
            replace hr := Rd.ext hr hx
            replace hy_g1 := EyeAt.ext hy_g1 hx
            replace hy_g2 := EyeAt.ext hy_g2 hx
            have ho1 := ho1'
            clear ho1' hx
            refine ⟨Ext.any hx0, ?_⟩
            clear hx0
            refine xl_take (i := 11) (v := .string ⟨(put ((n + (List.getD (List.take 200 b) i 0).toNat % 128 * 128 ^ i : Nat) : Int)).toArray⟩) rfl (by kernel_rfl) (by kernel_rfl) (by kernel_rfl) (by kernel_rfl) (yx_val (wantF (d := 95) rfl (by kernel_rfl) rfl rfl) (fun w' hx' => rv_str rfl (fr_eval rfl rfl) (OwnB.rd (Own.ext ho1 hx')) Try.underlying22 Try.underlying5 Try.underlying9)) ?_
            refine xl_take (i := 16) (v := .bool false) rfl (by kernel_rfl) (by kernel_rfl) (by kernel_rfl) (by kernel_rfl) (yx_val (wantF (d := 95) rfl (by kernel_rfl) rfl rfl) (fun w' hx' => rv_nes (b := true) rfl (fr_eval rfl rfl) (fr_eval rfl rfl) (by exact decide_eq_true (put_form hn)))) ?_
            refine xl_take (i := 17) (v := .bool false) rfl (by kernel_rfl) (by kernel_rfl) (by kernel_rfl) (by kernel_rfl) (yx_val (wantAll rfl) (fun w' hx' => rv_pickF rfl (fr_eval rfl rfl) (fr_eval rfl rfl))) ?_
            refine xl_tail (s := 18) rfl ?_
            intro w12 hx
            replace hC := hC.trans hx
            replace hr := Rd.ext hr hx
            replace hy_g1 := EyeAt.ext hy_g1 hx
            replace hy_g2 := EyeAt.ext hy_g2 hx
            replace ho1 := Own.ext ho1 hx
            clear hx
            refine lf_nil ?_
            refine then_n ?_
            clear ho1
            refine wp_gen (fun F' => F' 0 = cutV v b 200 ∧ F' 1 = .int .i64 most ∧ F' 4 = .bool false ∧ F' 5 = .pointer (some ⟨g1, 0, none⟩) ∧ F' 6 = .pointer (some ⟨g2, 0, none⟩) ∧ F' 7 = .int .i64 ((numV (List.take 200 b) 0 : Nat) : Int) ∧ F' 8 = .int .i64 ((uptoV (List.take 200 b) 0 most : Nat) : Int) ∧ F' 9 = .int .i64 ((n + (List.getD (List.take 200 b) i 0).toNat % 128 * 128 ^ i : Nat) : Int) ∧ F' 10 = .int .i64 0 ∧ F' 11 = .int .i64 ((i + 1 : Nat) : Int) ∧ F' 12 = .int .i64 ((i : Nat) : Int) ∧ F' 31 = .bool true ∧ F' 49 = .bool true ∧ F' 63 = .bool false ∧ F' 65 = .bool false ∧ F' 104 = .bool false) ⟨e0, e1, e4, e5, e6, e7, e8, e9, e10, e11, e12, e31, e49, e63, e65, rfl⟩ ?_
            clear e0 e1 e4 e5 e6 e7 e8 e9 e10 e11 e12 e31 e49 e63 e65
            clear F
            rintro F ⟨e0, e1, e4, e5, e6, e7, e8, e9, e10, e11, e12, e31, e49, e63, e65, e104⟩
            refine wp_cond_false (fr_eval rfl e104) ?_
            refine wp_skip ?_
            refine then_n ?_
            refine wp_seq ?_
            refine wp_seq ?_
            refine wp_regionF ?_
            refine lf_val (v := .int .i64 ((n + (List.getD (List.take 200 b) i 0).toNat % 128 * 128 ^ i : Nat) : Int)) (wantAll rfl) (rv_move rfl (fr_eval rfl e9)) ?_
            refine lf_val (v := .int .i64 most) (wantAll rfl) (rv_move rfl (fr_eval rfl e1)) ?_
            by_cases hc6 : ((n + (List.getD (List.take 200 b) i 0).toNat % 128 * 128 ^ i : Nat) : Int) > most
            · refine lf_val (v := .bool true) (wantAll rfl) (rv_gtr rfl (fr_eval rfl rfl) (fr_eval rfl rfl) (decide_eq_true (by omega))) ?_
              refine lf_nil ?_
              refine then_n ?_
              refine wp_gen (fun F' => F' 0 = cutV v b 200 ∧ F' 1 = .int .i64 most ∧ F' 4 = .bool false ∧ F' 5 = .pointer (some ⟨g1, 0, none⟩) ∧ F' 6 = .pointer (some ⟨g2, 0, none⟩) ∧ F' 7 = .int .i64 ((numV (List.take 200 b) 0 : Nat) : Int) ∧ F' 8 = .int .i64 ((uptoV (List.take 200 b) 0 most : Nat) : Int) ∧ F' 9 = .int .i64 ((n + (List.getD (List.take 200 b) i 0).toNat % 128 * 128 ^ i : Nat) : Int) ∧ F' 10 = .int .i64 0 ∧ F' 11 = .int .i64 ((i + 1 : Nat) : Int) ∧ F' 12 = .int .i64 ((i : Nat) : Int) ∧ F' 31 = .bool true ∧ F' 49 = .bool true ∧ F' 63 = .bool false ∧ F' 65 = .bool false ∧ F' 104 = .bool false ∧ F' 107 = .bool true) ⟨e0, e1, e4, e5, e6, e7, e8, e9, e10, e11, e12, e31, e49, e63, e65, e104, rfl⟩ ?_
              clear e0 e1 e4 e5 e6 e7 e8 e9 e10 e11 e12 e31 e49 e63 e65 e104
              clear F
              rintro F ⟨e0, e1, e4, e5, e6, e7, e8, e9, e10, e11, e12, e31, e49, e63, e65, e104, e107⟩
              refine wp_cond_true (fr_eval rfl e107) ?_
              refine wp_seq ?_
              refine wp_regionF ?_
              refine lf_val (v := .int .i64 ((uptoV (List.take 200 b) 0 most : Nat) : Int)) (wantAll rfl) (rv_move rfl (fr_eval rfl e8)) ?_
              refine lf_val (v := .bool true) (wantAll rfl) (rv_eql rfl (fr_eval rfl rfl) rfl (decide_eq_true (by omega))) ?_
              refine lf_val (v := .bool true) (wantAll rfl) (rv_move rfl (fr_eval rfl rfl)) ?_
              refine lf_val (v := .pointer (some ⟨g2, 0, none⟩)) (wantF (d := 110) rfl (by kernel_rfl) rfl rfl) (rv_move rfl (fr_eval rfl e6)) ?_
              refine lf_call (wantF (d := 110) rfl (by kernel_rfl) rfl rfl) (rv_call (args := [.pointer (some ⟨g2, 0, none⟩)]) rfl (evc (fr_eval rfl rfl) evn) Try.call17) (errE_calls _ hy_g2) ?_
              rintro _ w13 ⟨rfl, hx⟩
              refine ⟨_, rfl, ?_⟩
              replace hC := hC.trans hx
              replace hr := Rd.ext hr hx
              replace hy_g1 := EyeAt.ext hy_g1 hx
              replace hy_g2 := EyeAt.ext hy_g2 hx
              clear hx
              refine lf_val (v := .bool true) (wantF (d := 110) rfl (by kernel_rfl) rfl rfl) (rv_eql rfl (fr_eval rfl rfl) rfl (decide_eq_true (by omega))) ?_
              refine lf_val (v := .bool true) (wantAll rfl) (rv_pickT rfl (fr_eval rfl rfl) (fr_eval rfl rfl)) ?_
              refine lf_val (v := .bool true) (wantAll rfl) (rv_move rfl (fr_eval rfl rfl)) ?_
              refine lf_call (wantF (d := 115) rfl (by kernel_rfl) rfl rfl) (rv_call (args := []) rfl evn Try.call18) (awake01_calls _) ?_
              rintro _ w14 ⟨rfl, hx⟩
              refine ⟨_, rfl, ?_⟩
              replace hC := hC.trans hx
              replace hr := Rd.ext hr hx
              replace hy_g1 := EyeAt.ext hy_g1 hx
              replace hy_g2 := EyeAt.ext hy_g2 hx
              clear hx
              refine lf_val (v := .bool true) (wantAll rfl) (rv_pickT rfl (fr_eval rfl rfl) (fr_eval rfl rfl)) ?_
              refine lf_val (v := .bool true) (wantAll rfl) (rv_assign rfl (fr_eval rfl rfl)) ?_
              refine lf_nil ?_
              refine then_n ?_
              refine wp_gen (fun F' => F' 0 = cutV v b 200 ∧ F' 1 = .int .i64 most ∧ F' 4 = .bool true ∧ F' 5 = .pointer (some ⟨g1, 0, none⟩) ∧ F' 6 = .pointer (some ⟨g2, 0, none⟩) ∧ F' 7 = .int .i64 ((numV (List.take 200 b) 0 : Nat) : Int) ∧ F' 8 = .int .i64 ((uptoV (List.take 200 b) 0 most : Nat) : Int) ∧ F' 9 = .int .i64 ((n + (List.getD (List.take 200 b) i 0).toNat % 128 * 128 ^ i : Nat) : Int) ∧ F' 10 = .int .i64 0 ∧ F' 11 = .int .i64 ((i + 1 : Nat) : Int) ∧ F' 12 = .int .i64 ((i : Nat) : Int) ∧ F' 31 = .bool true ∧ F' 49 = .bool true ∧ F' 63 = .bool false ∧ F' 65 = .bool false ∧ F' 104 = .bool false ∧ F' 107 = .bool true) ⟨e0, e1, rfl, e5, e6, e7, e8, e9, e10, e11, e12, e31, e49, e63, e65, e104, e107⟩ ?_
              clear e0 e1 e4 e5 e6 e7 e8 e9 e10 e11 e12 e31 e49 e63 e65 e104 e107
              clear F
              rintro F ⟨e0, e1, e4, e5, e6, e7, e8, e9, e10, e11, e12, e31, e49, e63, e65, e104, e107⟩
              refine wp_ret ?_
              refine then_ret ?_
              exact bodyPost_ret (v := (.bool true)) (res1 rfl (ro_tmp rfl e4)) rfl (⟨rfl, hC⟩)
            · refine lf_val (v := .bool false) (wantAll rfl) (rv_gtr rfl (fr_eval rfl rfl) (fr_eval rfl rfl) (decide_eq_false (by omega))) ?_
              refine lf_nil ?_
              refine then_n ?_
              refine wp_gen (fun F' => F' 0 = cutV v b 200 ∧ F' 1 = .int .i64 most ∧ F' 4 = .bool false ∧ F' 5 = .pointer (some ⟨g1, 0, none⟩) ∧ F' 6 = .pointer (some ⟨g2, 0, none⟩) ∧ F' 7 = .int .i64 ((numV (List.take 200 b) 0 : Nat) : Int) ∧ F' 8 = .int .i64 ((uptoV (List.take 200 b) 0 most : Nat) : Int) ∧ F' 9 = .int .i64 ((n + (List.getD (List.take 200 b) i 0).toNat % 128 * 128 ^ i : Nat) : Int) ∧ F' 10 = .int .i64 0 ∧ F' 11 = .int .i64 ((i + 1 : Nat) : Int) ∧ F' 12 = .int .i64 ((i : Nat) : Int) ∧ F' 31 = .bool true ∧ F' 49 = .bool true ∧ F' 63 = .bool false ∧ F' 65 = .bool false ∧ F' 104 = .bool false ∧ F' 107 = .bool false) ⟨e0, e1, e4, e5, e6, e7, e8, e9, e10, e11, e12, e31, e49, e63, e65, e104, rfl⟩ ?_
              clear e0 e1 e4 e5 e6 e7 e8 e9 e10 e11 e12 e31 e49 e63 e65 e104
              clear F
              rintro F ⟨e0, e1, e4, e5, e6, e7, e8, e9, e10, e11, e12, e31, e49, e63, e65, e104, e107⟩
              refine wp_cond_false (fr_eval rfl e107) ?_
              refine wp_skip ?_
              refine then_n ?_
              refine wp_seq ?_
              obtain ⟨B1, hB1⟩ : ∃ B, B = w12.heap.size := ⟨_, rfl⟩
              have hwB : w.heap.size ≤ B1 := by have := hC.size; omega
              replace hB1 : B1 ≤ w12.heap.size := by omega
              refine wp_regionX (fun k => B1 ≤ k ∨ ((Value.slice none 0 0).ownBlock = some k ∨ k = g2)) 25 (by kernel_rfl) (by kernel_rfl) ?_
              refine xl_take (i := 0) (v := .int .i64 ((uptoV (List.take 200 b) 0 most : Nat) : Int)) rfl (by kernel_rfl) (by kernel_rfl) (by kernel_rfl) (by kernel_rfl) (yx_val (wantAll rfl) (fun w' hx' => rv_move rfl (fr_eval rfl e8))) ?_
              refine xl_take (i := 1) (v := .int .i64 ((n + (List.getD (List.take 200 b) i 0).toNat % 128 * 128 ^ i : Nat) : Int)) rfl (by kernel_rfl) (by kernel_rfl) (by kernel_rfl) (by kernel_rfl) (yx_val (wantAll rfl) (fun w' hx' => rv_move rfl (fr_eval rfl e9))) ?_
              refine xl_take (i := 2) (v := .bool true) rfl (by kernel_rfl) (by kernel_rfl) (by kernel_rfl) (by kernel_rfl) (yx_val (wantAll rfl) (fun w' hx' => rv_eql rfl (fr_eval rfl rfl) (fr_eval rfl rfl) (decide_eq_true (by omega)))) ?_
              refine xl_take (i := 3) (v := .bool true) rfl (by kernel_rfl) (by kernel_rfl) (by kernel_rfl) (by kernel_rfl) (yx_val (wantAll rfl) (fun w' hx' => rv_move rfl (fr_eval rfl rfl))) ?_
              refine xl_take (i := 4) (v := .pointer (some ⟨g2, 0, none⟩)) rfl (by kernel_rfl) (by kernel_rfl) (by kernel_rfl) (by kernel_rfl) (yx_val (wantF (d := 121) rfl (by kernel_rfl) rfl rfl) (fun w' hx' => rv_move rfl (fr_eval rfl e6))) ?_
              refine anyX_ready (rs := [5]) (by kernel_rfl) ?_
              intro w15 hx
              replace hC := hC.trans hx
              replace hr := Rd.ext hr hx
              replace hy_g1 := EyeAt.ext hy_g1 hx
              replace hy_g2 := EyeAt.ext hy_g2 hx
              replace hB1 : B1 ≤ w15.heap.size := by have := Chg.size hx; omega
              clear hx
              refine (anyX_cons ?_ anyX_nil)
              refine xl_step (i := 5) rfl (wantF (d := 121) rfl (by kernel_rfl) rfl rfl) ?_
              refine of_call (rv_call (args := [.pointer (some ⟨g2, 0, none⟩)]) rfl (evc (fr_eval rfl rfl) evn) Try.call17) (errE_calls _ hy_g2) ?_
              rintro _ w16 ⟨rfl, hx⟩
              refine ⟨_, rfl, ?_⟩
              refine ⟨Ext.any hx, ?_⟩
              replace hC := hC.trans hx
              replace hr := Rd.ext hr hx
              replace hy_g1 := EyeAt.ext hy_g1 hx
              replace hy_g2 := EyeAt.ext hy_g2 hx
              replace hB1 : B1 ≤ w16.heap.size := by have := Chg.size hx; omega
              clear hx
              refine xl_take (i := 6) (v := .bool true) rfl (by kernel_rfl) (by kernel_rfl) (by kernel_rfl) (by kernel_rfl) (yx_val (wantF (d := 121) rfl (by kernel_rfl) rfl rfl) (fun w' hx' => rv_eql rfl (fr_eval rfl rfl) rfl (decide_eq_true (by omega)))) ?_
              refine xl_take (i := 7) (v := .bool true) rfl (by kernel_rfl) (by kernel_rfl) (by kernel_rfl) (by kernel_rfl) (yx_val (wantAll rfl) (fun w' hx' => rv_pickT rfl (fr_eval rfl rfl) (fr_eval rfl rfl))) ?_
              refine xl_take (i := 8) (v := .bool true) rfl (by kernel_rfl) (by kernel_rfl) (by kernel_rfl) (by kernel_rfl) (yx_val (wantAll rfl) (fun w' hx' => rv_move rfl (fr_eval rfl rfl))) ?_
              refine xl_take (i := 9) (v := .pointer (some ⟨g2, 0, none⟩)) rfl (by kernel_rfl) (by kernel_rfl) (by kernel_rfl) (by kernel_rfl) (yx_val (wantF (d := 126) rfl (by kernel_rfl) rfl rfl) (fun w' hx' => rv_move rfl (fr_eval rfl e6))) ?_
              refine xl_take (i := 10) (v := cutV v b 200) rfl (by kernel_rfl) (by kernel_rfl) (by kernel_rfl) (by kernel_rfl) (yx_val (wantF (d := 126) rfl (by kernel_rfl) rfl rfl) (fun w' hx' => rv_move rfl (fr_eval rfl e0))) ?_
              refine xl_take (i := 11) (v := .int .i64 (((List.take 200 b).length : Nat) : Int)) rfl (by kernel_rfl) (by kernel_rfl) (by kernel_rfl) (by kernel_rfl) (yx_val (wantF (d := 126) rfl (by kernel_rfl) rfl rfl) (fun w' hx' => rv_len rfl (fr_eval rfl rfl) (RdB.rn (rdB_cut (Rd.keep hr hx' (fun b hb h0 => (fun e => Or.elim e (fun e => by have e : B1 ≤ b := e; have := Rd.lt hr0 h0 b hb; omega) (fun e => Or.elim e (fun e => absurd e (by simp [Value.ownBlock])) (fun e => by have e : b = g2 := e; have := Rd.lt hr0 h0 b hb; omega)))))) rfl) Try.underlying22)) ?_
              refine xl_take (i := 12) (v := .int .i64 ((i + 1 : Nat) : Int)) rfl (by kernel_rfl) (by kernel_rfl) (by kernel_rfl) (by kernel_rfl) (yx_val (wantF (d := 126) rfl (by kernel_rfl) rfl rfl) (fun w' hx' => rv_move rfl (fr_eval rfl e11))) ?_
              have hl200 := List.length_take_le 200 b
              refine xl_take (i := 13) (v := .int .i64 ((((List.take 200 b).length) - (i + 1) : Nat) : Int)) rfl (by kernel_rfl) (by kernel_rfl) (by kernel_rfl) (by kernel_rfl) (yx_val (wantF (d := 126) rfl (by kernel_rfl) rfl rfl) (fun w' hx' => rv_sub rfl (fr_eval rfl rfl) (fr_eval rfl rfl) (wrap_i64 (by omega) (by omega) (by omega)))) ?_
              refine xl_take (i := 16) (v := cutV v b 200) rfl (by kernel_rfl) (by kernel_rfl) (by kernel_rfl) (by kernel_rfl) (yx_val (wantF (d := 126) rfl (by kernel_rfl) rfl rfl) (fun w' hx' => rv_move rfl (fr_eval rfl e0))) ?_
              refine xl_take (i := 17) (v := .int .i64 ((i + 1 : Nat) : Int)) rfl (by kernel_rfl) (by kernel_rfl) (by kernel_rfl) (by kernel_rfl) (yx_val (wantF (d := 126) rfl (by kernel_rfl) rfl rfl) (fun w' hx' => rv_move rfl (fr_eval rfl e11))) ?_
              refine xl_take (i := 18) (v := slcV (cutV v b 200) 1 (i + 1) ((List.take 200 b).length)) rfl (by kernel_rfl) (by kernel_rfl) (by kernel_rfl) (by kernel_rfl) (yx_val (wantF (d := 126) rfl (by kernel_rfl) rfl rfl) (fun w' hx' => rv_slcL (l := i + 1) Try.stB rfl (fr_eval rfl rfl) (RdB.rn (rdB_cut (Rd.keep hr hx' (fun b hb h0 => (fun e => Or.elim e (fun e => by have e : B1 ≤ b := e; have := Rd.lt hr0 h0 b hb; omega) (fun e => Or.elim e (fun e => absurd e (by simp [Value.ownBlock])) (fun e => by have e : b = g2 := e; have := Rd.lt hr0 h0 b hb; omega)))))) rfl) (fr_eval rfl rfl) (by omega))) ?_
              refine xl_take (i := 19) (v := .string ⟨(List.drop (i + 1) (List.take 200 b)).toArray⟩) rfl (by kernel_rfl) (by kernel_rfl) (by kernel_rfl) (by kernel_rfl) (yx_val (wantF (d := 126) rfl (by kernel_rfl) rfl rfl) (fun w' hx' => rv_str rfl (fr_eval rfl rfl) (rdB_slcL (l := i + 1) (RdB.rn (rdB_cut (Rd.keep hr hx' (fun b hb h0 => (fun e => Or.elim e (fun e => by have e : B1 ≤ b := e; have := Rd.lt hr0 h0 b hb; omega) (fun e => Or.elim e (fun e => absurd e (by simp [Value.ownBlock])) (fun e => by have e : b = g2 := e; have := Rd.lt hr0 h0 b hb; omega)))))) rfl) (by omega)) Try.underlying22 Try.underlying5 Try.underlying9)) ?_
              refine anyX_ready (rs := [14]) (by kernel_rfl) ?_
              intro w17 hx
              replace hC := hC.trans hx
              replace hr := Rd.ext hr hx
              replace hy_g1 := EyeAt.ext hy_g1 hx
              replace hy_g2 := EyeAt.ext hy_g2 hx
              replace hB1 : B1 ≤ w17.heap.size := by have := Chg.size hx; omega
              clear hx
              refine (anyX_cons ?_ anyX_nil)
              refine xl_step (i := 14) rfl (wantF (d := 126) rfl (by kernel_rfl) rfl rfl) ?_
              refine of_call (rv_call (args := [.pointer (some ⟨g2, 0, none⟩), .int .i64 ((((List.take 200 b).length) - (i + 1) : Nat) : Int)]) rfl (evc (fr_eval rfl rfl) (evc (fr_eval rfl rfl) evn)) Try.call20) (raw_calls ((((List.take 200 b).length) - (i + 1) : Nat) : Int) _ hy_g2 ne_hy_g2) ?_
              rintro _ w18 ⟨⟨y2, rfl, ho2', ge_ho2⟩, hy_g2', hx⟩
              refine ⟨_, rfl, ?_⟩
              have hx0 := hx
              replace ge_ho2 : ∀ k, (y2 : Value).ownBlock = some k → w.heap.size ≤ k := fun k hk => Nat.le_trans (Chg.size hC) (ge_ho2 k hk)
              replace hr := Rd.keep hr hx (fun b hb h0 e => by have e : b = g2 := e; have := Rd.lt hr0 h0 b hb; omega)
              replace hy_g1 := EyeAt.keep hy_g1 hx (fun e => by have e : g1 = g2 := e; omega) (fun k hk e => by have e : k = g2 := e; have := hv0_hy_g1 k hk; omega)
              replace hC := Chg.then hC hx (fun i hi e => absurd hi (by have e : i = g2 := e; omega))
              replace hB1 : B1 ≤ w18.heap.size := by have := Chg.size hx; omega
              replace hy_g2 := hy_g2'
              have ho2 := ho2'
              clear hy_g2' ho2'
              refine ⟨Chg.mono hx0 (fun i hi e => Or.inr (Or.inr e)), ?_⟩
              clear hx0
              clear hx
              refine anyX_ready (rs := [15]) (by kernel_rfl) ?_
              intro w19 hx
              replace hC := hC.trans hx
              replace hr := Rd.ext hr hx
              replace hy_g1 := EyeAt.ext hy_g1 hx
              replace hy_g2 := EyeAt.ext hy_g2 hx
              replace ho2 := Own.ext ho2 hx
              replace hB1 : B1 ≤ w19.heap.size := by have := Chg.size hx; omega
              clear hx
              refine (anyX_cons ?_ anyX_nil)
              refine xl_step (i := 15) rfl (wantF (d := 126) rfl (by kernel_rfl) rfl rfl) ?_
              refine of_val (v := .string ⟨(rawV (numR (List.take 200 b) 0) (uptoE (List.take 200 b) 0 most) ((((List.take 200 b).length) - (i + 1) : Nat) : Int)).toArray⟩) (rv_str rfl (fr_eval rfl rfl) (OwnB.rd ho2) Try.underlying22 Try.underlying5 Try.underlying9) ?_
              refine ⟨Chg.refl _ _, ?_⟩
              refine xl_take (i := 20) (v := .bool true) rfl (by kernel_rfl) (by kernel_rfl) (by kernel_rfl) (by kernel_rfl) (yx_val (wantF (d := 126) rfl (by kernel_rfl) rfl rfl) (fun w' hx' => rv_eqs rfl (fr_eval rfl rfl) (fr_eval rfl rfl) (by exact decide_eq_true (raw_rest (by omega) q3 (by omega))))) ?_
              refine xl_take (i := 21) (v := .bool true) rfl (by kernel_rfl) (by kernel_rfl) (by kernel_rfl) (by kernel_rfl) (yx_val (wantAll rfl) (fun w' hx' => rv_pickT rfl (fr_eval rfl rfl) (fr_eval rfl rfl))) ?_
              refine xl_take (i := 22) (v := .bool true) rfl (by kernel_rfl) (by kernel_rfl) (by kernel_rfl) (by kernel_rfl) (yx_val (wantAll rfl) (fun w' hx' => rv_move rfl (fr_eval rfl rfl))) ?_
              refine xl_take (i := 23) (v := .bool true) rfl (by kernel_rfl) (by kernel_rfl) (by kernel_rfl) (by kernel_rfl) (yx_call (wantF (d := 140) rfl (by kernel_rfl) rfl rfl) (fun w' => rv_call (args := []) rfl evn Try.call18) (fun w' hx' => awake01_calls _)) ?_
              refine xl_take (i := 24) (v := .bool true) rfl (by kernel_rfl) (by kernel_rfl) (by kernel_rfl) (by kernel_rfl) (yx_val (wantAll rfl) (fun w' hx' => rv_pickT rfl (fr_eval rfl rfl) (fr_eval rfl rfl))) ?_
              refine xl_tail (s := 25) rfl ?_
              intro w20 hx
              replace hC := hC.trans hx
              replace hr := Rd.ext hr hx
              replace hy_g1 := EyeAt.ext hy_g1 hx
              replace hy_g2 := EyeAt.ext hy_g2 hx
              replace ho2 := Own.ext ho2 hx
              replace hB1 : B1 ≤ w20.heap.size := by have := Chg.size hx; omega
              clear hx
              clear hB1
              refine lf_val (v := .bool true) (wantAll rfl) (rv_assign rfl (fr_eval rfl rfl)) ?_
              refine lf_nil ?_
              refine then_n ?_
              clear ho2
              refine wp_gen (fun F' => F' 0 = cutV v b 200 ∧ F' 1 = .int .i64 most ∧ F' 4 = .bool true ∧ F' 5 = .pointer (some ⟨g1, 0, none⟩) ∧ F' 6 = .pointer (some ⟨g2, 0, none⟩) ∧ F' 7 = .int .i64 ((numV (List.take 200 b) 0 : Nat) : Int) ∧ F' 8 = .int .i64 ((uptoV (List.take 200 b) 0 most : Nat) : Int) ∧ F' 9 = .int .i64 ((n + (List.getD (List.take 200 b) i 0).toNat % 128 * 128 ^ i : Nat) : Int) ∧ F' 10 = .int .i64 0 ∧ F' 11 = .int .i64 ((i + 1 : Nat) : Int) ∧ F' 12 = .int .i64 ((i : Nat) : Int) ∧ F' 31 = .bool true ∧ F' 49 = .bool true ∧ F' 63 = .bool false ∧ F' 65 = .bool false ∧ F' 104 = .bool false ∧ F' 107 = .bool false) ⟨e0, e1, rfl, e5, e6, e7, e8, e9, e10, e11, e12, e31, e49, e63, e65, e104, e107⟩ ?_
              clear e0 e1 e4 e5 e6 e7 e8 e9 e10 e11 e12 e31 e49 e63 e65 e104 e107
              clear F
              rintro F ⟨e0, e1, e4, e5, e6, e7, e8, e9, e10, e11, e12, e31, e49, e63, e65, e104, e107⟩
              refine wp_ret ?_
              exact bodyPost_ret (v := (.bool true)) (res1 rfl (ro_tmp rfl e4)) rfl (⟨rfl, hC⟩)
        · refine lf_val (v := .bool false) (wantAll rfl) (rv_gtr rfl (fr_eval rfl rfl) rfl (decide_eq_false (by omega))) ?_
          refine lf_val (v := .bool false) (wantAll rfl) (rv_move rfl (fr_eval rfl rfl)) ?_
          refine lf_not (wantNot (d := 56) rfl (by kernel_rfl) rfl rfl) ?_
          refine lf_not (wantNot (d := 56) rfl (by kernel_rfl) rfl rfl) ?_
          refine lf_not (wantNot (d := 56) rfl (by kernel_rfl) rfl rfl) ?_
          refine lf_not (wantNot (d := 56) rfl (by kernel_rfl) rfl rfl) ?_
          refine lf_not (wantNot (d := 56) rfl (by kernel_rfl) rfl rfl) ?_
          refine lf_not (wantNot (d := 56) rfl (by kernel_rfl) rfl rfl) ?_
          refine lf_val (v := .bool false) (wantAll rfl) (rv_pickF rfl (fr_eval rfl rfl) rfl) ?_
          refine lf_nil ?_
          refine then_n ?_
          refine wp_gen (fun F' => F' 0 = cutV v b 200 ∧ F' 1 = .int .i64 most ∧ F' 4 = .bool false ∧ F' 5 = .pointer (some ⟨g1, 0, none⟩) ∧ F' 6 = .pointer (some ⟨g2, 0, none⟩) ∧ F' 7 = .int .i64 ((numV (List.take 200 b) 0 : Nat) : Int) ∧ F' 8 = .int .i64 ((uptoV (List.take 200 b) 0 most : Nat) : Int) ∧ F' 9 = .int .i64 ((n + (List.getD (List.take 200 b) i 0).toNat % 128 * 128 ^ i : Nat) : Int) ∧ F' 10 = .int .i64 0 ∧ F' 11 = .int .i64 ((i + 1 : Nat) : Int) ∧ F' 12 = .int .i64 ((i : Nat) : Int) ∧ F' 31 = .bool true ∧ F' 49 = .bool true ∧ F' 63 = .bool false) ⟨e0, e1, e4, e5, e6, e7, e8, e9, e10, e11, e12, e31, e49, rfl⟩ ?_
          clear e0 e1 e4 e5 e6 e7 e8 e9 e10 e11 e12 e31 e49
          clear F
          rintro F ⟨e0, e1, e4, e5, e6, e7, e8, e9, e10, e11, e12, e31, e49, e63⟩
          refine wp_cond_false (fr_eval rfl e63) ?_
          refine wp_skip ?_
          refine then_n ?_
          refine wp_seq ?_
          refine wp_seq ?_
          have hn : num (List.take 200 b) = (0, n + (List.getD (List.take 200 b) i 0).toNat % 128 * 128 ^ i, i + 1) := by rw [pi3]; exact go_end (by omega) (by omega) (by omega) (by omega)
          obtain ⟨q1, q2, q3, q4, q5⟩ := num_facts most hn
          refine wp_regionF ?_
          refine lf_val (v := .int .i64 0) (wantAll rfl) (rv_move rfl (fr_eval rfl e10)) ?_
          refine lf_val (v := .bool false) (wantAll rfl) (rv_neq rfl (fr_eval rfl rfl) rfl (show decide ((0 : Int) = 0) = true from by decide)) ?_
          refine lf_nil ?_
          refine then_n ?_
          refine wp_gen (fun F' => F' 0 = cutV v b 200 ∧ F' 1 = .int .i64 most ∧ F' 4 = .bool false ∧ F' 5 = .pointer (some ⟨g1, 0, none⟩) ∧ F' 6 = .pointer (some ⟨g2, 0, none⟩) ∧ F' 7 = .int .i64 ((numV (List.take 200 b) 0 : Nat) : Int) ∧ F' 8 = .int .i64 ((uptoV (List.take 200 b) 0 most : Nat) : Int) ∧ F' 9 = .int .i64 ((n + (List.getD (List.take 200 b) i 0).toNat % 128 * 128 ^ i : Nat) : Int) ∧ F' 10 = .int .i64 0 ∧ F' 11 = .int .i64 ((i + 1 : Nat) : Int) ∧ F' 12 = .int .i64 ((i : Nat) : Int) ∧ F' 31 = .bool true ∧ F' 49 = .bool true ∧ F' 63 = .bool false ∧ F' 65 = .bool false) ⟨e0, e1, e4, e5, e6, e7, e8, e9, e10, e11, e12, e31, e49, e63, rfl⟩ ?_
          clear e0 e1 e4 e5 e6 e7 e8 e9 e10 e11 e12 e31 e49 e63
          clear F
          rintro F ⟨e0, e1, e4, e5, e6, e7, e8, e9, e10, e11, e12, e31, e49, e63, e65⟩
          refine wp_cond_false (fr_eval rfl e65) ?_
          refine wp_skip ?_
          refine then_n ?_
          refine wp_seq ?_
          refine wp_seq ?_
          refine wp_regionX (fun _ => False) 18 (by kernel_rfl) (by kernel_rfl) ?_
          refine xl_take (i := 0) (v := .int .i64 ((numV (List.take 200 b) 0 : Nat) : Int)) rfl (by kernel_rfl) (by kernel_rfl) (by kernel_rfl) (by kernel_rfl) (yx_val (wantAll rfl) (fun w' hx' => rv_move rfl (fr_eval rfl e7))) ?_
          refine xl_take (i := 1) (v := .int .i64 ((n + (List.getD (List.take 200 b) i 0).toNat % 128 * 128 ^ i : Nat) : Int)) rfl (by kernel_rfl) (by kernel_rfl) (by kernel_rfl) (by kernel_rfl) (yx_val (wantAll rfl) (fun w' hx' => rv_move rfl (fr_eval rfl e9))) ?_
          refine xl_take (i := 2) (v := .bool false) rfl (by kernel_rfl) (by kernel_rfl) (by kernel_rfl) (by kernel_rfl) (yx_val (wantAll rfl) (fun w' hx' => rv_neq rfl (fr_eval rfl rfl) (fr_eval rfl rfl) (decide_eq_true (by omega)))) ?_
          refine xl_take (i := 3) (v := .bool false) rfl (by kernel_rfl) (by kernel_rfl) (by kernel_rfl) (by kernel_rfl) (yx_val (wantAll rfl) (fun w' hx' => rv_move rfl (fr_eval rfl rfl))) ?_
          refine xl_take (i := 4) (v := .pointer (some ⟨g1, 0, none⟩)) rfl (by kernel_rfl) (by kernel_rfl) (by kernel_rfl) (by kernel_rfl) (yx_val (wantF (d := 90) rfl (by kernel_rfl) rfl rfl) (fun w' hx' => rv_move rfl (fr_eval rfl e5))) ?_
          refine xl_take (i := 5) (v := .int .i64 (numE (List.take 200 b) 0)) rfl (by kernel_rfl) (by kernel_rfl) (by kernel_rfl) (by kernel_rfl) (yx_call (wantF (d := 90) rfl (by kernel_rfl) rfl rfl) (fun w' => rv_call (args := [.pointer (some ⟨g1, 0, none⟩)]) rfl (evc (fr_eval rfl rfl) evn) Try.call17) (fun w' hx' => errE_calls _ (EyeAt.ext hy_g1 hx'))) ?_
          refine xl_take (i := 6) (v := .bool false) rfl (by kernel_rfl) (by kernel_rfl) (by kernel_rfl) (by kernel_rfl) (yx_val (wantF (d := 90) rfl (by kernel_rfl) rfl rfl) (fun w' hx' => rv_neq rfl (fr_eval rfl rfl) rfl (decide_eq_true (by omega)))) ?_
          refine xl_take (i := 7) (v := .bool false) rfl (by kernel_rfl) (by kernel_rfl) (by kernel_rfl) (by kernel_rfl) (yx_val (wantAll rfl) (fun w' hx' => rv_pickF rfl (fr_eval rfl rfl) (fr_eval rfl rfl))) ?_
          refine xl_take (i := 8) (v := .bool false) rfl (by kernel_rfl) (by kernel_rfl) (by kernel_rfl) (by kernel_rfl) (yx_val (wantAll rfl) (fun w' hx' => rv_move rfl (fr_eval rfl rfl))) ?_
          refine xl_take (i := 9) (v := .int .i64 ((n + (List.getD (List.take 200 b) i 0).toNat % 128 * 128 ^ i : Nat) : Int)) rfl (by kernel_rfl) (by kernel_rfl) (by kernel_rfl) (by kernel_rfl) (yx_val (wantF (d := 95) rfl (by kernel_rfl) rfl rfl) (fun w' hx' => rv_move rfl (fr_eval rfl e9))) ?_
          refine xl_take (i := 12) (v := cutV v b 200) rfl (by kernel_rfl) (by kernel_rfl) (by kernel_rfl) (by kernel_rfl) (yx_val (wantF (d := 95) rfl (by kernel_rfl) rfl rfl) (fun w' hx' => rv_move rfl (fr_eval rfl e0))) ?_
          refine xl_take (i := 13) (v := .int .i64 ((i + 1 : Nat) : Int)) rfl (by kernel_rfl) (by kernel_rfl) (by kernel_rfl) (by kernel_rfl) (yx_val (wantF (d := 95) rfl (by kernel_rfl) rfl rfl) (fun w' hx' => rv_move rfl (fr_eval rfl e11))) ?_
          refine xl_take (i := 14) (v := slcV (cutV v b 200) 1 0 (i + 1)) rfl (by kernel_rfl) (by kernel_rfl) (by kernel_rfl) (by kernel_rfl) (yx_val (wantF (d := 95) rfl (by kernel_rfl) rfl rfl) (fun w' hx' => rv_slcH (h := i + 1) Try.stB rfl (fr_eval rfl rfl) (RdB.rn (rdB_cut (Rd.ext hr hx')) rfl) (fr_eval rfl rfl) (by omega))) ?_
          refine xl_take (i := 15) (v := .string ⟨(List.take (i + 1) (List.take 200 b)).toArray⟩) rfl (by kernel_rfl) (by kernel_rfl) (by kernel_rfl) (by kernel_rfl) (yx_val (wantF (d := 95) rfl (by kernel_rfl) rfl rfl) (fun w' hx' => rv_str rfl (fr_eval rfl rfl) (rdB_slcH (h := i + 1) (RdB.rn (rdB_cut (Rd.ext hr hx')) rfl) (by omega)) Try.underlying22 Try.underlying5 Try.underlying9)) ?_
          refine anyX_ready (rs := [10]) (by kernel_rfl) ?_
          intro w21 hx
          replace hC := hC.trans hx
          replace hr := Rd.ext hr hx
          replace hy_g1 := EyeAt.ext hy_g1 hx
          replace hy_g2 := EyeAt.ext hy_g2 hx
          clear hx
          refine (anyX_cons ?_ anyX_nil)
          refine xl_step (i := 10) rfl (wantF (d := 95) rfl (by kernel_rfl) rfl rfl) ?_
          refine of_call (rv_call (args := [.int .i64 ((n + (List.getD (List.take 200 b) i 0).toNat % 128 * 128 ^ i : Nat) : Int)]) rfl (evc (fr_eval rfl rfl) evn) Try.call19) (number_calls ((n + (List.getD (List.take 200 b) i 0).toNat % 128 * 128 ^ i : Nat) : Int) (by omega) _) ?_
          rintro _ w22 ⟨⟨y3, rfl, ho3', ge_ho3⟩, hx⟩
          refine ⟨_, rfl, ?_⟩
          have hx0 := hx
          replace ge_ho3 : ∀ k, (y3 : Value).ownBlock = some k → w.heap.size ≤ k := fun k hk => Nat.le_trans hC.size (ge_ho3 k hk)
          replace hC := hC.trans hx
          replace hr := Rd.ext hr hx
          replace hy_g1 := EyeAt.ext hy_g1 hx
          replace hy_g2 := EyeAt.ext hy_g2 hx
          have ho3 := ho3'
          clear ho3' hx
          refine ⟨Ext.any hx0, ?_⟩
          clear hx0
          refine xl_take (i := 11) (v := .string ⟨(put ((n + (List.getD (List.take 200 b) i 0).toNat % 128 * 128 ^ i : Nat) : Int)).toArray⟩) rfl (by kernel_rfl) (by kernel_rfl) (by kernel_rfl) (by kernel_rfl) (yx_val (wantF (d := 95) rfl (by kernel_rfl) rfl rfl) (fun w' hx' => rv_str rfl (fr_eval rfl rfl) (OwnB.rd (Own.ext ho3 hx')) Try.underlying22 Try.underlying5 Try.underlying9)) ?_
          refine xl_take (i := 16) (v := .bool false) rfl (by kernel_rfl) (by kernel_rfl) (by kernel_rfl) (by kernel_rfl) (yx_val (wantF (d := 95) rfl (by kernel_rfl) rfl rfl) (fun w' hx' => rv_nes (b := true) rfl (fr_eval rfl rfl) (fr_eval rfl rfl) (by exact decide_eq_true (put_form hn)))) ?_
          refine xl_take (i := 17) (v := .bool false) rfl (by kernel_rfl) (by kernel_rfl) (by kernel_rfl) (by kernel_rfl) (yx_val (wantAll rfl) (fun w' hx' => rv_pickF rfl (fr_eval rfl rfl) (fr_eval rfl rfl))) ?_
          refine xl_tail (s := 18) rfl ?_
          intro w23 hx
          replace hC := hC.trans hx
          replace hr := Rd.ext hr hx
          replace hy_g1 := EyeAt.ext hy_g1 hx
          replace hy_g2 := EyeAt.ext hy_g2 hx
          replace ho3 := Own.ext ho3 hx
          clear hx
          refine lf_nil ?_
          refine then_n ?_
          clear ho3
          refine wp_gen (fun F' => F' 0 = cutV v b 200 ∧ F' 1 = .int .i64 most ∧ F' 4 = .bool false ∧ F' 5 = .pointer (some ⟨g1, 0, none⟩) ∧ F' 6 = .pointer (some ⟨g2, 0, none⟩) ∧ F' 7 = .int .i64 ((numV (List.take 200 b) 0 : Nat) : Int) ∧ F' 8 = .int .i64 ((uptoV (List.take 200 b) 0 most : Nat) : Int) ∧ F' 9 = .int .i64 ((n + (List.getD (List.take 200 b) i 0).toNat % 128 * 128 ^ i : Nat) : Int) ∧ F' 10 = .int .i64 0 ∧ F' 11 = .int .i64 ((i + 1 : Nat) : Int) ∧ F' 12 = .int .i64 ((i : Nat) : Int) ∧ F' 31 = .bool true ∧ F' 49 = .bool true ∧ F' 63 = .bool false ∧ F' 65 = .bool false ∧ F' 104 = .bool false) ⟨e0, e1, e4, e5, e6, e7, e8, e9, e10, e11, e12, e31, e49, e63, e65, rfl⟩ ?_
          clear e0 e1 e4 e5 e6 e7 e8 e9 e10 e11 e12 e31 e49 e63 e65
          clear F
          rintro F ⟨e0, e1, e4, e5, e6, e7, e8, e9, e10, e11, e12, e31, e49, e63, e65, e104⟩
          refine wp_cond_false (fr_eval rfl e104) ?_
          refine wp_skip ?_
          refine then_n ?_
          refine wp_seq ?_
          refine wp_seq ?_
          refine wp_regionF ?_
          refine lf_val (v := .int .i64 ((n + (List.getD (List.take 200 b) i 0).toNat % 128 * 128 ^ i : Nat) : Int)) (wantAll rfl) (rv_move rfl (fr_eval rfl e9)) ?_
          refine lf_val (v := .int .i64 most) (wantAll rfl) (rv_move rfl (fr_eval rfl e1)) ?_
          by_cases hc7 : ((n + (List.getD (List.take 200 b) i 0).toNat % 128 * 128 ^ i : Nat) : Int) > most
          · refine lf_val (v := .bool true) (wantAll rfl) (rv_gtr rfl (fr_eval rfl rfl) (fr_eval rfl rfl) (decide_eq_true (by omega))) ?_
            refine lf_nil ?_
            refine then_n ?_
            refine wp_gen (fun F' => F' 0 = cutV v b 200 ∧ F' 1 = .int .i64 most ∧ F' 4 = .bool false ∧ F' 5 = .pointer (some ⟨g1, 0, none⟩) ∧ F' 6 = .pointer (some ⟨g2, 0, none⟩) ∧ F' 7 = .int .i64 ((numV (List.take 200 b) 0 : Nat) : Int) ∧ F' 8 = .int .i64 ((uptoV (List.take 200 b) 0 most : Nat) : Int) ∧ F' 9 = .int .i64 ((n + (List.getD (List.take 200 b) i 0).toNat % 128 * 128 ^ i : Nat) : Int) ∧ F' 10 = .int .i64 0 ∧ F' 11 = .int .i64 ((i + 1 : Nat) : Int) ∧ F' 12 = .int .i64 ((i : Nat) : Int) ∧ F' 31 = .bool true ∧ F' 49 = .bool true ∧ F' 63 = .bool false ∧ F' 65 = .bool false ∧ F' 104 = .bool false ∧ F' 107 = .bool true) ⟨e0, e1, e4, e5, e6, e7, e8, e9, e10, e11, e12, e31, e49, e63, e65, e104, rfl⟩ ?_
            clear e0 e1 e4 e5 e6 e7 e8 e9 e10 e11 e12 e31 e49 e63 e65 e104
            clear F
            rintro F ⟨e0, e1, e4, e5, e6, e7, e8, e9, e10, e11, e12, e31, e49, e63, e65, e104, e107⟩
            refine wp_cond_true (fr_eval rfl e107) ?_
            refine wp_seq ?_
            refine wp_regionF ?_
            refine lf_val (v := .int .i64 ((uptoV (List.take 200 b) 0 most : Nat) : Int)) (wantAll rfl) (rv_move rfl (fr_eval rfl e8)) ?_
            refine lf_val (v := .bool true) (wantAll rfl) (rv_eql rfl (fr_eval rfl rfl) rfl (decide_eq_true (by omega))) ?_
            refine lf_val (v := .bool true) (wantAll rfl) (rv_move rfl (fr_eval rfl rfl)) ?_
            refine lf_val (v := .pointer (some ⟨g2, 0, none⟩)) (wantF (d := 110) rfl (by kernel_rfl) rfl rfl) (rv_move rfl (fr_eval rfl e6)) ?_
            refine lf_call (wantF (d := 110) rfl (by kernel_rfl) rfl rfl) (rv_call (args := [.pointer (some ⟨g2, 0, none⟩)]) rfl (evc (fr_eval rfl rfl) evn) Try.call17) (errE_calls _ hy_g2) ?_
            rintro _ w24 ⟨rfl, hx⟩
            refine ⟨_, rfl, ?_⟩
            replace hC := hC.trans hx
            replace hr := Rd.ext hr hx
            replace hy_g1 := EyeAt.ext hy_g1 hx
            replace hy_g2 := EyeAt.ext hy_g2 hx
            clear hx
            refine lf_val (v := .bool true) (wantF (d := 110) rfl (by kernel_rfl) rfl rfl) (rv_eql rfl (fr_eval rfl rfl) rfl (decide_eq_true (by omega))) ?_
            refine lf_val (v := .bool true) (wantAll rfl) (rv_pickT rfl (fr_eval rfl rfl) (fr_eval rfl rfl)) ?_
            refine lf_val (v := .bool true) (wantAll rfl) (rv_move rfl (fr_eval rfl rfl)) ?_
            refine lf_call (wantF (d := 115) rfl (by kernel_rfl) rfl rfl) (rv_call (args := []) rfl evn Try.call18) (awake01_calls _) ?_
            rintro _ w25 ⟨rfl, hx⟩
            refine ⟨_, rfl, ?_⟩
            replace hC := hC.trans hx
            replace hr := Rd.ext hr hx
            replace hy_g1 := EyeAt.ext hy_g1 hx
            replace hy_g2 := EyeAt.ext hy_g2 hx
            clear hx
            refine lf_val (v := .bool true) (wantAll rfl) (rv_pickT rfl (fr_eval rfl rfl) (fr_eval rfl rfl)) ?_
            refine lf_val (v := .bool true) (wantAll rfl) (rv_assign rfl (fr_eval rfl rfl)) ?_
            refine lf_nil ?_
            refine then_n ?_
            refine wp_gen (fun F' => F' 0 = cutV v b 200 ∧ F' 1 = .int .i64 most ∧ F' 4 = .bool true ∧ F' 5 = .pointer (some ⟨g1, 0, none⟩) ∧ F' 6 = .pointer (some ⟨g2, 0, none⟩) ∧ F' 7 = .int .i64 ((numV (List.take 200 b) 0 : Nat) : Int) ∧ F' 8 = .int .i64 ((uptoV (List.take 200 b) 0 most : Nat) : Int) ∧ F' 9 = .int .i64 ((n + (List.getD (List.take 200 b) i 0).toNat % 128 * 128 ^ i : Nat) : Int) ∧ F' 10 = .int .i64 0 ∧ F' 11 = .int .i64 ((i + 1 : Nat) : Int) ∧ F' 12 = .int .i64 ((i : Nat) : Int) ∧ F' 31 = .bool true ∧ F' 49 = .bool true ∧ F' 63 = .bool false ∧ F' 65 = .bool false ∧ F' 104 = .bool false ∧ F' 107 = .bool true) ⟨e0, e1, rfl, e5, e6, e7, e8, e9, e10, e11, e12, e31, e49, e63, e65, e104, e107⟩ ?_
            clear e0 e1 e4 e5 e6 e7 e8 e9 e10 e11 e12 e31 e49 e63 e65 e104 e107
            clear F
            rintro F ⟨e0, e1, e4, e5, e6, e7, e8, e9, e10, e11, e12, e31, e49, e63, e65, e104, e107⟩
            refine wp_ret ?_
            refine then_ret ?_
            exact bodyPost_ret (v := (.bool true)) (res1 rfl (ro_tmp rfl e4)) rfl (⟨rfl, hC⟩)
          · refine lf_val (v := .bool false) (wantAll rfl) (rv_gtr rfl (fr_eval rfl rfl) (fr_eval rfl rfl) (decide_eq_false (by omega))) ?_
            refine lf_nil ?_
            refine then_n ?_
            refine wp_gen (fun F' => F' 0 = cutV v b 200 ∧ F' 1 = .int .i64 most ∧ F' 4 = .bool false ∧ F' 5 = .pointer (some ⟨g1, 0, none⟩) ∧ F' 6 = .pointer (some ⟨g2, 0, none⟩) ∧ F' 7 = .int .i64 ((numV (List.take 200 b) 0 : Nat) : Int) ∧ F' 8 = .int .i64 ((uptoV (List.take 200 b) 0 most : Nat) : Int) ∧ F' 9 = .int .i64 ((n + (List.getD (List.take 200 b) i 0).toNat % 128 * 128 ^ i : Nat) : Int) ∧ F' 10 = .int .i64 0 ∧ F' 11 = .int .i64 ((i + 1 : Nat) : Int) ∧ F' 12 = .int .i64 ((i : Nat) : Int) ∧ F' 31 = .bool true ∧ F' 49 = .bool true ∧ F' 63 = .bool false ∧ F' 65 = .bool false ∧ F' 104 = .bool false ∧ F' 107 = .bool false) ⟨e0, e1, e4, e5, e6, e7, e8, e9, e10, e11, e12, e31, e49, e63, e65, e104, rfl⟩ ?_
            clear e0 e1 e4 e5 e6 e7 e8 e9 e10 e11 e12 e31 e49 e63 e65 e104
            clear F
            rintro F ⟨e0, e1, e4, e5, e6, e7, e8, e9, e10, e11, e12, e31, e49, e63, e65, e104, e107⟩
            refine wp_cond_false (fr_eval rfl e107) ?_
            refine wp_skip ?_
            refine then_n ?_
            refine wp_seq ?_
            obtain ⟨B2, hB2⟩ : ∃ B, B = w23.heap.size := ⟨_, rfl⟩
            have hwB : w.heap.size ≤ B2 := by have := hC.size; omega
            replace hB2 : B2 ≤ w23.heap.size := by omega
            refine wp_regionX (fun k => B2 ≤ k ∨ ((Value.slice none 0 0).ownBlock = some k ∨ k = g2)) 25 (by kernel_rfl) (by kernel_rfl) ?_
            refine xl_take (i := 0) (v := .int .i64 ((uptoV (List.take 200 b) 0 most : Nat) : Int)) rfl (by kernel_rfl) (by kernel_rfl) (by kernel_rfl) (by kernel_rfl) (yx_val (wantAll rfl) (fun w' hx' => rv_move rfl (fr_eval rfl e8))) ?_
            refine xl_take (i := 1) (v := .int .i64 ((n + (List.getD (List.take 200 b) i 0).toNat % 128 * 128 ^ i : Nat) : Int)) rfl (by kernel_rfl) (by kernel_rfl) (by kernel_rfl) (by kernel_rfl) (yx_val (wantAll rfl) (fun w' hx' => rv_move rfl (fr_eval rfl e9))) ?_
            refine xl_take (i := 2) (v := .bool true) rfl (by kernel_rfl) (by kernel_rfl) (by kernel_rfl) (by kernel_rfl) (yx_val (wantAll rfl) (fun w' hx' => rv_eql rfl (fr_eval rfl rfl) (fr_eval rfl rfl) (decide_eq_true (by omega)))) ?_
            refine xl_take (i := 3) (v := .bool true) rfl (by kernel_rfl) (by kernel_rfl) (by kernel_rfl) (by kernel_rfl) (yx_val (wantAll rfl) (fun w' hx' => rv_move rfl (fr_eval rfl rfl))) ?_
            refine xl_take (i := 4) (v := .pointer (some ⟨g2, 0, none⟩)) rfl (by kernel_rfl) (by kernel_rfl) (by kernel_rfl) (by kernel_rfl) (yx_val (wantF (d := 121) rfl (by kernel_rfl) rfl rfl) (fun w' hx' => rv_move rfl (fr_eval rfl e6))) ?_
            refine anyX_ready (rs := [5]) (by kernel_rfl) ?_
            intro w26 hx
            replace hC := hC.trans hx
            replace hr := Rd.ext hr hx
            replace hy_g1 := EyeAt.ext hy_g1 hx
            replace hy_g2 := EyeAt.ext hy_g2 hx
            replace hB2 : B2 ≤ w26.heap.size := by have := Chg.size hx; omega
            clear hx
            refine (anyX_cons ?_ anyX_nil)
            refine xl_step (i := 5) rfl (wantF (d := 121) rfl (by kernel_rfl) rfl rfl) ?_
            refine of_call (rv_call (args := [.pointer (some ⟨g2, 0, none⟩)]) rfl (evc (fr_eval rfl rfl) evn) Try.call17) (errE_calls _ hy_g2) ?_
            rintro _ w27 ⟨rfl, hx⟩
            refine ⟨_, rfl, ?_⟩
            refine ⟨Ext.any hx, ?_⟩
            replace hC := hC.trans hx
            replace hr := Rd.ext hr hx
            replace hy_g1 := EyeAt.ext hy_g1 hx
            replace hy_g2 := EyeAt.ext hy_g2 hx
            replace hB2 : B2 ≤ w27.heap.size := by have := Chg.size hx; omega
            clear hx
            refine xl_take (i := 6) (v := .bool true) rfl (by kernel_rfl) (by kernel_rfl) (by kernel_rfl) (by kernel_rfl) (yx_val (wantF (d := 121) rfl (by kernel_rfl) rfl rfl) (fun w' hx' => rv_eql rfl (fr_eval rfl rfl) rfl (decide_eq_true (by omega)))) ?_
            refine xl_take (i := 7) (v := .bool true) rfl (by kernel_rfl) (by kernel_rfl) (by kernel_rfl) (by kernel_rfl) (yx_val (wantAll rfl) (fun w' hx' => rv_pickT rfl (fr_eval rfl rfl) (fr_eval rfl rfl))) ?_
            refine xl_take (i := 8) (v := .bool true) rfl (by kernel_rfl) (by kernel_rfl) (by kernel_rfl) (by kernel_rfl) (yx_val (wantAll rfl) (fun w' hx' => rv_move rfl (fr_eval rfl rfl))) ?_
            refine xl_take (i := 9) (v := .pointer (some ⟨g2, 0, none⟩)) rfl (by kernel_rfl) (by kernel_rfl) (by kernel_rfl) (by kernel_rfl) (yx_val (wantF (d := 126) rfl (by kernel_rfl) rfl rfl) (fun w' hx' => rv_move rfl (fr_eval rfl e6))) ?_
            refine xl_take (i := 10) (v := cutV v b 200) rfl (by kernel_rfl) (by kernel_rfl) (by kernel_rfl) (by kernel_rfl) (yx_val (wantF (d := 126) rfl (by kernel_rfl) rfl rfl) (fun w' hx' => rv_move rfl (fr_eval rfl e0))) ?_
            refine xl_take (i := 11) (v := .int .i64 (((List.take 200 b).length : Nat) : Int)) rfl (by kernel_rfl) (by kernel_rfl) (by kernel_rfl) (by kernel_rfl) (yx_val (wantF (d := 126) rfl (by kernel_rfl) rfl rfl) (fun w' hx' => rv_len rfl (fr_eval rfl rfl) (RdB.rn (rdB_cut (Rd.keep hr hx' (fun b hb h0 => (fun e => Or.elim e (fun e => by have e : B2 ≤ b := e; have := Rd.lt hr0 h0 b hb; omega) (fun e => Or.elim e (fun e => absurd e (by simp [Value.ownBlock])) (fun e => by have e : b = g2 := e; have := Rd.lt hr0 h0 b hb; omega)))))) rfl) Try.underlying22)) ?_
            refine xl_take (i := 12) (v := .int .i64 ((i + 1 : Nat) : Int)) rfl (by kernel_rfl) (by kernel_rfl) (by kernel_rfl) (by kernel_rfl) (yx_val (wantF (d := 126) rfl (by kernel_rfl) rfl rfl) (fun w' hx' => rv_move rfl (fr_eval rfl e11))) ?_
            have hl200 := List.length_take_le 200 b
            refine xl_take (i := 13) (v := .int .i64 ((((List.take 200 b).length) - (i + 1) : Nat) : Int)) rfl (by kernel_rfl) (by kernel_rfl) (by kernel_rfl) (by kernel_rfl) (yx_val (wantF (d := 126) rfl (by kernel_rfl) rfl rfl) (fun w' hx' => rv_sub rfl (fr_eval rfl rfl) (fr_eval rfl rfl) (wrap_i64 (by omega) (by omega) (by omega)))) ?_
            refine xl_take (i := 16) (v := cutV v b 200) rfl (by kernel_rfl) (by kernel_rfl) (by kernel_rfl) (by kernel_rfl) (yx_val (wantF (d := 126) rfl (by kernel_rfl) rfl rfl) (fun w' hx' => rv_move rfl (fr_eval rfl e0))) ?_
            refine xl_take (i := 17) (v := .int .i64 ((i + 1 : Nat) : Int)) rfl (by kernel_rfl) (by kernel_rfl) (by kernel_rfl) (by kernel_rfl) (yx_val (wantF (d := 126) rfl (by kernel_rfl) rfl rfl) (fun w' hx' => rv_move rfl (fr_eval rfl e11))) ?_
            refine xl_take (i := 18) (v := slcV (cutV v b 200) 1 (i + 1) ((List.take 200 b).length)) rfl (by kernel_rfl) (by kernel_rfl) (by kernel_rfl) (by kernel_rfl) (yx_val (wantF (d := 126) rfl (by kernel_rfl) rfl rfl) (fun w' hx' => rv_slcL (l := i + 1) Try.stB rfl (fr_eval rfl rfl) (RdB.rn (rdB_cut (Rd.keep hr hx' (fun b hb h0 => (fun e => Or.elim e (fun e => by have e : B2 ≤ b := e; have := Rd.lt hr0 h0 b hb; omega) (fun e => Or.elim e (fun e => absurd e (by simp [Value.ownBlock])) (fun e => by have e : b = g2 := e; have := Rd.lt hr0 h0 b hb; omega)))))) rfl) (fr_eval rfl rfl) (by omega))) ?_
            refine xl_take (i := 19) (v := .string ⟨(List.drop (i + 1) (List.take 200 b)).toArray⟩) rfl (by kernel_rfl) (by kernel_rfl) (by kernel_rfl) (by kernel_rfl) (yx_val (wantF (d := 126) rfl (by kernel_rfl) rfl rfl) (fun w' hx' => rv_str rfl (fr_eval rfl rfl) (rdB_slcL (l := i + 1) (RdB.rn (rdB_cut (Rd.keep hr hx' (fun b hb h0 => (fun e => Or.elim e (fun e => by have e : B2 ≤ b := e; have := Rd.lt hr0 h0 b hb; omega) (fun e => Or.elim e (fun e => absurd e (by simp [Value.ownBlock])) (fun e => by have e : b = g2 := e; have := Rd.lt hr0 h0 b hb; omega)))))) rfl) (by omega)) Try.underlying22 Try.underlying5 Try.underlying9)) ?_
            refine anyX_ready (rs := [14]) (by kernel_rfl) ?_
            intro w28 hx
            replace hC := hC.trans hx
            replace hr := Rd.ext hr hx
            replace hy_g1 := EyeAt.ext hy_g1 hx
            replace hy_g2 := EyeAt.ext hy_g2 hx
            replace hB2 : B2 ≤ w28.heap.size := by have := Chg.size hx; omega
            clear hx
            refine (anyX_cons ?_ anyX_nil)
            refine xl_step (i := 14) rfl (wantF (d := 126) rfl (by kernel_rfl) rfl rfl) ?_
            refine of_call (rv_call (args := [.pointer (some ⟨g2, 0, none⟩), .int .i64 ((((List.take 200 b).length) - (i + 1) : Nat) : Int)]) rfl (evc (fr_eval rfl rfl) (evc (fr_eval rfl rfl) evn)) Try.call20) (raw_calls ((((List.take 200 b).length) - (i + 1) : Nat) : Int) _ hy_g2 ne_hy_g2) ?_
            rintro _ w29 ⟨⟨y4, rfl, ho4', ge_ho4⟩, hy_g2', hx⟩
            refine ⟨_, rfl, ?_⟩
            have hx0 := hx
            replace ge_ho4 : ∀ k, (y4 : Value).ownBlock = some k → w.heap.size ≤ k := fun k hk => Nat.le_trans (Chg.size hC) (ge_ho4 k hk)
            replace hr := Rd.keep hr hx (fun b hb h0 e => by have e : b = g2 := e; have := Rd.lt hr0 h0 b hb; omega)
            replace hy_g1 := EyeAt.keep hy_g1 hx (fun e => by have e : g1 = g2 := e; omega) (fun k hk e => by have e : k = g2 := e; have := hv0_hy_g1 k hk; omega)
            replace hC := Chg.then hC hx (fun i hi e => absurd hi (by have e : i = g2 := e; omega))
            replace hB2 : B2 ≤ w29.heap.size := by have := Chg.size hx; omega
            replace hy_g2 := hy_g2'
            have ho4 := ho4'
            clear hy_g2' ho4'
            refine ⟨Chg.mono hx0 (fun i hi e => Or.inr (Or.inr e)), ?_⟩
            clear hx0
            clear hx
            refine anyX_ready (rs := [15]) (by kernel_rfl) ?_
            intro w30 hx
            replace hC := hC.trans hx
            replace hr := Rd.ext hr hx
            replace hy_g1 := EyeAt.ext hy_g1 hx
            replace hy_g2 := EyeAt.ext hy_g2 hx
            replace ho4 := Own.ext ho4 hx
            replace hB2 : B2 ≤ w30.heap.size := by have := Chg.size hx; omega
            clear hx
            refine (anyX_cons ?_ anyX_nil)
            refine xl_step (i := 15) rfl (wantF (d := 126) rfl (by kernel_rfl) rfl rfl) ?_
            refine of_val (v := .string ⟨(rawV (numR (List.take 200 b) 0) (uptoE (List.take 200 b) 0 most) ((((List.take 200 b).length) - (i + 1) : Nat) : Int)).toArray⟩) (rv_str rfl (fr_eval rfl rfl) (OwnB.rd ho4) Try.underlying22 Try.underlying5 Try.underlying9) ?_
            refine ⟨Chg.refl _ _, ?_⟩
            refine xl_take (i := 20) (v := .bool true) rfl (by kernel_rfl) (by kernel_rfl) (by kernel_rfl) (by kernel_rfl) (yx_val (wantF (d := 126) rfl (by kernel_rfl) rfl rfl) (fun w' hx' => rv_eqs rfl (fr_eval rfl rfl) (fr_eval rfl rfl) (by exact decide_eq_true (raw_rest (by omega) q3 (by omega))))) ?_
            refine xl_take (i := 21) (v := .bool true) rfl (by kernel_rfl) (by kernel_rfl) (by kernel_rfl) (by kernel_rfl) (yx_val (wantAll rfl) (fun w' hx' => rv_pickT rfl (fr_eval rfl rfl) (fr_eval rfl rfl))) ?_
            refine xl_take (i := 22) (v := .bool true) rfl (by kernel_rfl) (by kernel_rfl) (by kernel_rfl) (by kernel_rfl) (yx_val (wantAll rfl) (fun w' hx' => rv_move rfl (fr_eval rfl rfl))) ?_
            refine xl_take (i := 23) (v := .bool true) rfl (by kernel_rfl) (by kernel_rfl) (by kernel_rfl) (by kernel_rfl) (yx_call (wantF (d := 140) rfl (by kernel_rfl) rfl rfl) (fun w' => rv_call (args := []) rfl evn Try.call18) (fun w' hx' => awake01_calls _)) ?_
            refine xl_take (i := 24) (v := .bool true) rfl (by kernel_rfl) (by kernel_rfl) (by kernel_rfl) (by kernel_rfl) (yx_val (wantAll rfl) (fun w' hx' => rv_pickT rfl (fr_eval rfl rfl) (fr_eval rfl rfl))) ?_
            refine xl_tail (s := 25) rfl ?_
            intro w31 hx
            replace hC := hC.trans hx
            replace hr := Rd.ext hr hx
            replace hy_g1 := EyeAt.ext hy_g1 hx
            replace hy_g2 := EyeAt.ext hy_g2 hx
            replace ho4 := Own.ext ho4 hx
            replace hB2 : B2 ≤ w31.heap.size := by have := Chg.size hx; omega
            clear hx
            clear hB2
            refine lf_val (v := .bool true) (wantAll rfl) (rv_assign rfl (fr_eval rfl rfl)) ?_
            refine lf_nil ?_
            refine then_n ?_
            clear ho4
            refine wp_gen (fun F' => F' 0 = cutV v b 200 ∧ F' 1 = .int .i64 most ∧ F' 4 = .bool true ∧ F' 5 = .pointer (some ⟨g1, 0, none⟩) ∧ F' 6 = .pointer (some ⟨g2, 0, none⟩) ∧ F' 7 = .int .i64 ((numV (List.take 200 b) 0 : Nat) : Int) ∧ F' 8 = .int .i64 ((uptoV (List.take 200 b) 0 most : Nat) : Int) ∧ F' 9 = .int .i64 ((n + (List.getD (List.take 200 b) i 0).toNat % 128 * 128 ^ i : Nat) : Int) ∧ F' 10 = .int .i64 0 ∧ F' 11 = .int .i64 ((i + 1 : Nat) : Int) ∧ F' 12 = .int .i64 ((i : Nat) : Int) ∧ F' 31 = .bool true ∧ F' 49 = .bool true ∧ F' 63 = .bool false ∧ F' 65 = .bool false ∧ F' 104 = .bool false ∧ F' 107 = .bool false) ⟨e0, e1, rfl, e5, e6, e7, e8, e9, e10, e11, e12, e31, e49, e63, e65, e104, e107⟩ ?_
            clear e0 e1 e4 e5 e6 e7 e8 e9 e10 e11 e12 e31 e49 e63 e65 e104 e107
            clear F
            rintro F ⟨e0, e1, e4, e5, e6, e7, e8, e9, e10, e11, e12, e31, e49, e63, e65, e104, e107⟩
            refine wp_ret ?_
            exact bodyPost_ret (v := (.bool true)) (res1 rfl (ro_tmp rfl e4)) rfl (⟨rfl, hC⟩)
      · refine lf_val (v := .bool false) (wantAll rfl) (rv_lss rfl (fr_eval rfl rfl) rfl (decide_eq_false (by omega))) ?_
        refine lf_nil ?_
        refine then_n ?_
        refine wp_gen (fun F' => F' 0 = cutV v b 200 ∧ F' 1 = .int .i64 most ∧ F' 4 = .bool false ∧ F' 5 = .pointer (some ⟨g1, 0, none⟩) ∧ F' 6 = .pointer (some ⟨g2, 0, none⟩) ∧ F' 7 = .int .i64 ((numV (List.take 200 b) 0 : Nat) : Int) ∧ F' 8 = .int .i64 ((uptoV (List.take 200 b) 0 most : Nat) : Int) ∧ F' 9 = .int .i64 ((n + (List.getD (List.take 200 b) i 0).toNat % 128 * 128 ^ i : Nat) : Int) ∧ F' 10 = .int .i64 e ∧ F' 11 = .int .i64 0 ∧ F' 12 = .int .i64 ((i : Nat) : Int) ∧ F' 31 = .bool true ∧ F' 49 = .bool false) ⟨e0, e1, e4, e5, e6, e7, e8, e9, e10, e11, e12, e31, rfl⟩ ?_
        clear e0 e1 e4 e5 e6 e7 e8 e9 e10 e11 e12 e31
        clear F
        rintro F ⟨e0, e1, e4, e5, e6, e7, e8, e9, e10, e11, e12, e31, e49⟩
        refine wp_cond_false (fr_eval rfl e49) ?_
        refine wp_skip ?_
        refine then_n ?_
        refine wp_seq ?_
        refine wp_regionF ?_
        refine lf_val (v := .int .i64 ((i : Nat) : Int)) (wantAll rfl) (rv_move rfl (fr_eval rfl e12)) ?_
        by_cases hc8 : i = 8
        · refine lf_val (v := .bool true) (wantAll rfl) (rv_eql rfl (fr_eval rfl rfl) rfl (decide_eq_true (by omega))) ?_
          refine lf_nil ?_
          refine then_n ?_
          refine wp_gen (fun F' => F' 0 = cutV v b 200 ∧ F' 1 = .int .i64 most ∧ F' 4 = .bool false ∧ F' 5 = .pointer (some ⟨g1, 0, none⟩) ∧ F' 6 = .pointer (some ⟨g2, 0, none⟩) ∧ F' 7 = .int .i64 ((numV (List.take 200 b) 0 : Nat) : Int) ∧ F' 8 = .int .i64 ((uptoV (List.take 200 b) 0 most : Nat) : Int) ∧ F' 9 = .int .i64 ((n + (List.getD (List.take 200 b) i 0).toNat % 128 * 128 ^ i : Nat) : Int) ∧ F' 10 = .int .i64 e ∧ F' 11 = .int .i64 0 ∧ F' 12 = .int .i64 ((i : Nat) : Int) ∧ F' 31 = .bool true ∧ F' 49 = .bool false ∧ F' 53 = .bool true) ⟨e0, e1, e4, e5, e6, e7, e8, e9, e10, e11, e12, e31, e49, rfl⟩ ?_
          clear e0 e1 e4 e5 e6 e7 e8 e9 e10 e11 e12 e31 e49
          clear F
          rintro F ⟨e0, e1, e4, e5, e6, e7, e8, e9, e10, e11, e12, e31, e49, e53⟩
          refine wp_cond_true (fr_eval rfl e53) ?_
          refine wp_regionF ?_
          refine lf_val (v := .int .i64 5) (wantAll rfl) (rv_assign rfl rfl) ?_
          refine lf_nil ?_
          refine blk_n ?_
          refine then_n ?_
          refine wp_gen (fun F' => F' 0 = cutV v b 200 ∧ F' 1 = .int .i64 most ∧ F' 4 = .bool false ∧ F' 5 = .pointer (some ⟨g1, 0, none⟩) ∧ F' 6 = .pointer (some ⟨g2, 0, none⟩) ∧ F' 7 = .int .i64 ((numV (List.take 200 b) 0 : Nat) : Int) ∧ F' 8 = .int .i64 ((uptoV (List.take 200 b) 0 most : Nat) : Int) ∧ F' 9 = .int .i64 ((n + (List.getD (List.take 200 b) i 0).toNat % 128 * 128 ^ i : Nat) : Int) ∧ F' 10 = .int .i64 5 ∧ F' 11 = .int .i64 0 ∧ F' 12 = .int .i64 ((i : Nat) : Int) ∧ F' 31 = .bool true ∧ F' 49 = .bool false ∧ F' 53 = .bool true) ⟨e0, e1, e4, e5, e6, e7, e8, e9, rfl, e11, e12, e31, e49, e53⟩ ?_
          clear e0 e1 e4 e5 e6 e7 e8 e9 e10 e11 e12 e31 e49 e53
          clear F
          rintro F ⟨e0, e1, e4, e5, e6, e7, e8, e9, e10, e11, e12, e31, e49, e53⟩
          refine wp_regionF ?_
          refine lf_val (v := .int .i64 ((i : Nat) : Int)) (wantAll rfl) (rv_move rfl (fr_eval rfl e12)) ?_
          refine lf_val (v := .int .i64 ((i + 1 : Nat) : Int)) (wantAll rfl) (rv_add rfl (fr_eval rfl rfl) rfl (wrap_i64 (by omega) (by omega) (by omega))) ?_
          refine lf_val (v := .int .i64 ((i + 1 : Nat) : Int)) (wantAll rfl) (rv_assign rfl (fr_eval rfl rfl)) ?_
          refine lf_nil ?_
          refine then_n ?_
          exact ⟨_, _, (by omega), rfl, i + 1, _, _, rfl, (by omega), (by omega), next_lt (by omega) pi2, (by rw [pi3]; exact go_next (by omega) (by omega) (by omega)), (by omega), e0, e1, e4, e5, e6, e7, e8, e9, e10, e11, rfl, hr, hy_g1, hy_g2, hC⟩
        · refine lf_val (v := .bool false) (wantAll rfl) (rv_eql rfl (fr_eval rfl rfl) rfl (decide_eq_false (by omega))) ?_
          refine lf_nil ?_
          refine then_n ?_
          refine wp_gen (fun F' => F' 0 = cutV v b 200 ∧ F' 1 = .int .i64 most ∧ F' 4 = .bool false ∧ F' 5 = .pointer (some ⟨g1, 0, none⟩) ∧ F' 6 = .pointer (some ⟨g2, 0, none⟩) ∧ F' 7 = .int .i64 ((numV (List.take 200 b) 0 : Nat) : Int) ∧ F' 8 = .int .i64 ((uptoV (List.take 200 b) 0 most : Nat) : Int) ∧ F' 9 = .int .i64 ((n + (List.getD (List.take 200 b) i 0).toNat % 128 * 128 ^ i : Nat) : Int) ∧ F' 10 = .int .i64 e ∧ F' 11 = .int .i64 0 ∧ F' 12 = .int .i64 ((i : Nat) : Int) ∧ F' 31 = .bool true ∧ F' 49 = .bool false ∧ F' 53 = .bool false) ⟨e0, e1, e4, e5, e6, e7, e8, e9, e10, e11, e12, e31, e49, rfl⟩ ?_
          clear e0 e1 e4 e5 e6 e7 e8 e9 e10 e11 e12 e31 e49
          clear F
          rintro F ⟨e0, e1, e4, e5, e6, e7, e8, e9, e10, e11, e12, e31, e49, e53⟩
          refine wp_cond_false (fr_eval rfl e53) ?_
          refine wp_skip ?_
          refine blk_n ?_
          refine then_n ?_
          refine wp_regionF ?_
          refine lf_val (v := .int .i64 ((i : Nat) : Int)) (wantAll rfl) (rv_move rfl (fr_eval rfl e12)) ?_
          refine lf_val (v := .int .i64 ((i + 1 : Nat) : Int)) (wantAll rfl) (rv_add rfl (fr_eval rfl rfl) rfl (wrap_i64 (by omega) (by omega) (by omega))) ?_
          refine lf_val (v := .int .i64 ((i + 1 : Nat) : Int)) (wantAll rfl) (rv_assign rfl (fr_eval rfl rfl)) ?_
          refine lf_nil ?_
          refine then_n ?_
          exact ⟨_, _, (by omega), rfl, i + 1, _, _, rfl, (by omega), (by omega), next_lt (by omega) pi2, (by rw [pi3]; exact go_next (by omega) (by omega) (by omega)), (by omega), e0, e1, e4, e5, e6, e7, e8, e9, e10, e11, rfl, hr, hy_g1, hy_g2, hC⟩
    · refine lf_val (v := .bool false) (wantF (d := 26) rfl (by kernel_rfl) rfl rfl) (rv_lss rfl (fr_eval rfl rfl) (fr_eval rfl rfl) (decide_eq_false (by omega))) ?_
      refine lf_val (v := .bool false) (wantAll rfl) (rv_pickT rfl (fr_eval rfl rfl) (fr_eval rfl rfl)) ?_
      refine lf_nil ?_
      refine then_n ?_
      refine wp_gen (fun F' => F' 0 = cutV v b 200 ∧ F' 1 = .int .i64 most ∧ F' 4 = .bool false ∧ F' 5 = .pointer (some ⟨g1, 0, none⟩) ∧ F' 6 = .pointer (some ⟨g2, 0, none⟩) ∧ F' 7 = .int .i64 ((numV (List.take 200 b) 0 : Nat) : Int) ∧ F' 8 = .int .i64 ((uptoV (List.take 200 b) 0 most : Nat) : Int) ∧ F' 9 = .int .i64 ((n : Nat) : Int) ∧ F' 10 = .int .i64 e ∧ F' 11 = .int .i64 0 ∧ F' 12 = .int .i64 ((i : Nat) : Int) ∧ F' 31 = .bool false) ⟨e0, e1, e4, e5, e6, e7, e8, e9, e10, e11, e12, rfl⟩ ?_
      clear e0 e1 e4 e5 e6 e7 e8 e9 e10 e11 e12
      clear F
      rintro F ⟨e0, e1, e4, e5, e6, e7, e8, e9, e10, e11, e12, e31⟩
      refine wp_cond_false (fr_eval rfl e31) ?_
      refine wp_exit ?_
      refine then_exit ?_
      refine then_exit ?_
      refine blk_exit ?_
      refine then_n ?_
      refine wp_seq ?_
      refine wp_seq ?_
      refine wp_regionF ?_
      refine lf_val (v := .int .i64 0) (wantAll rfl) (rv_move rfl (fr_eval rfl e11)) ?_
      refine lf_val (v := .bool false) (wantAll rfl) (rv_gtr rfl (fr_eval rfl rfl) rfl (by decide)) ?_
      refine lf_val (v := .bool false) (wantAll rfl) (rv_move rfl (fr_eval rfl rfl)) ?_
      refine lf_not (wantNot (d := 56) rfl (by kernel_rfl) rfl rfl) ?_
      refine lf_not (wantNot (d := 56) rfl (by kernel_rfl) rfl rfl) ?_
      refine lf_not (wantNot (d := 56) rfl (by kernel_rfl) rfl rfl) ?_
      refine lf_not (wantNot (d := 56) rfl (by kernel_rfl) rfl rfl) ?_
      refine lf_not (wantNot (d := 56) rfl (by kernel_rfl) rfl rfl) ?_
      refine lf_not (wantNot (d := 56) rfl (by kernel_rfl) rfl rfl) ?_
      refine lf_val (v := .bool false) (wantAll rfl) (rv_pickF rfl (fr_eval rfl rfl) rfl) ?_
      refine lf_nil ?_
      refine then_n ?_
      refine wp_gen (fun F' => F' 0 = cutV v b 200 ∧ F' 1 = .int .i64 most ∧ F' 4 = .bool false ∧ F' 5 = .pointer (some ⟨g1, 0, none⟩) ∧ F' 6 = .pointer (some ⟨g2, 0, none⟩) ∧ F' 7 = .int .i64 ((numV (List.take 200 b) 0 : Nat) : Int) ∧ F' 8 = .int .i64 ((uptoV (List.take 200 b) 0 most : Nat) : Int) ∧ F' 9 = .int .i64 ((n : Nat) : Int) ∧ F' 10 = .int .i64 e ∧ F' 11 = .int .i64 0 ∧ F' 12 = .int .i64 ((i : Nat) : Int) ∧ F' 31 = .bool false ∧ F' 63 = .bool false) ⟨e0, e1, e4, e5, e6, e7, e8, e9, e10, e11, e12, e31, rfl⟩ ?_
      clear e0 e1 e4 e5 e6 e7 e8 e9 e10 e11 e12 e31
      clear F
      rintro F ⟨e0, e1, e4, e5, e6, e7, e8, e9, e10, e11, e12, e31, e63⟩
      refine wp_cond_false (fr_eval rfl e63) ?_
      refine wp_skip ?_
      refine then_n ?_
      refine wp_seq ?_
      refine wp_seq ?_
      have hn : num (List.take 200 b) = (2, 0, 0) := by rw [pi3]; exact go_short (by omega) (by omega)
      obtain rfl : e = 2 := by omega
      obtain ⟨q1, q2, q3, q4, q5⟩ := num_facts most hn
      refine wp_regionF ?_
      refine lf_val (v := .int .i64 2) (wantAll rfl) (rv_move rfl (fr_eval rfl e10)) ?_
      refine lf_val (v := .bool true) (wantAll rfl) (rv_neq rfl (fr_eval rfl rfl) rfl (show decide ((2 : Int) = 0) = false from by decide)) ?_
      refine lf_nil ?_
      refine then_n ?_
      refine wp_gen (fun F' => F' 0 = cutV v b 200 ∧ F' 1 = .int .i64 most ∧ F' 4 = .bool false ∧ F' 5 = .pointer (some ⟨g1, 0, none⟩) ∧ F' 6 = .pointer (some ⟨g2, 0, none⟩) ∧ F' 7 = .int .i64 ((numV (List.take 200 b) 0 : Nat) : Int) ∧ F' 8 = .int .i64 ((uptoV (List.take 200 b) 0 most : Nat) : Int) ∧ F' 9 = .int .i64 ((n : Nat) : Int) ∧ F' 10 = .int .i64 2 ∧ F' 11 = .int .i64 0 ∧ F' 12 = .int .i64 ((i : Nat) : Int) ∧ F' 31 = .bool false ∧ F' 63 = .bool false ∧ F' 65 = .bool true) ⟨e0, e1, e4, e5, e6, e7, e8, e9, e10, e11, e12, e31, e63, rfl⟩ ?_
      clear e0 e1 e4 e5 e6 e7 e8 e9 e10 e11 e12 e31 e63
      clear F
      rintro F ⟨e0, e1, e4, e5, e6, e7, e8, e9, e10, e11, e12, e31, e63, e65⟩
      refine wp_cond_true (fr_eval rfl e65) ?_
      refine wp_seq ?_
      refine wp_regionF ?_
      refine lf_val (v := .int .i64 ((numV (List.take 200 b) 0 : Nat) : Int)) (wantAll rfl) (rv_move rfl (fr_eval rfl e7)) ?_
      refine lf_val (v := .bool true) (wantAll rfl) (rv_eql rfl (fr_eval rfl rfl) rfl (decide_eq_true (by omega))) ?_
      refine lf_val (v := .bool true) (wantAll rfl) (rv_move rfl (fr_eval rfl rfl)) ?_
      refine lf_val (v := .int .i64 ((uptoV (List.take 200 b) 0 most : Nat) : Int)) (wantF (d := 68) rfl (by kernel_rfl) rfl rfl) (rv_move rfl (fr_eval rfl e8)) ?_
      refine lf_val (v := .bool true) (wantF (d := 68) rfl (by kernel_rfl) rfl rfl) (rv_eql rfl (fr_eval rfl rfl) rfl (decide_eq_true (by omega))) ?_
      refine lf_val (v := .bool true) (wantAll rfl) (rv_pickT rfl (fr_eval rfl rfl) (fr_eval rfl rfl)) ?_
      refine lf_val (v := .bool true) (wantAll rfl) (rv_move rfl (fr_eval rfl rfl)) ?_
      refine lf_val (v := .pointer (some ⟨g1, 0, none⟩)) (wantF (d := 72) rfl (by kernel_rfl) rfl rfl) (rv_move rfl (fr_eval rfl e5)) ?_
      refine lf_call (wantF (d := 72) rfl (by kernel_rfl) rfl rfl) (rv_call (args := [.pointer (some ⟨g1, 0, none⟩)]) rfl (evc (fr_eval rfl rfl) evn) Try.call17) (errE_calls _ hy_g1) ?_
      rintro _ w32 ⟨rfl, hx⟩
      refine ⟨_, rfl, ?_⟩
      replace hC := hC.trans hx
      replace hr := Rd.ext hr hx
      replace hy_g1 := EyeAt.ext hy_g1 hx
      replace hy_g2 := EyeAt.ext hy_g2 hx
      clear hx
      refine lf_val (v := .int .i64 2) (wantF (d := 72) rfl (by kernel_rfl) rfl rfl) (rv_move rfl (fr_eval rfl e10)) ?_
      refine lf_val (v := .bool true) (wantF (d := 72) rfl (by kernel_rfl) rfl rfl) (rv_eql rfl (fr_eval rfl rfl) (fr_eval rfl rfl) (decide_eq_true (by omega))) ?_
      refine lf_val (v := .bool true) (wantAll rfl) (rv_pickT rfl (fr_eval rfl rfl) (fr_eval rfl rfl)) ?_
      refine lf_val (v := .bool true) (wantAll rfl) (rv_move rfl (fr_eval rfl rfl)) ?_
      refine lf_val (v := .pointer (some ⟨g2, 0, none⟩)) (wantF (d := 78) rfl (by kernel_rfl) rfl rfl) (rv_move rfl (fr_eval rfl e6)) ?_
      refine lf_call (wantF (d := 78) rfl (by kernel_rfl) rfl rfl) (rv_call (args := [.pointer (some ⟨g2, 0, none⟩)]) rfl (evc (fr_eval rfl rfl) evn) Try.call17) (errE_calls _ hy_g2) ?_
      rintro _ w33 ⟨rfl, hx⟩
      refine ⟨_, rfl, ?_⟩
      replace hC := hC.trans hx
      replace hr := Rd.ext hr hx
      replace hy_g1 := EyeAt.ext hy_g1 hx
      replace hy_g2 := EyeAt.ext hy_g2 hx
      clear hx
      refine lf_val (v := .int .i64 2) (wantF (d := 78) rfl (by kernel_rfl) rfl rfl) (rv_move rfl (fr_eval rfl e10)) ?_
      refine lf_val (v := .bool true) (wantF (d := 78) rfl (by kernel_rfl) rfl rfl) (rv_eql rfl (fr_eval rfl rfl) (fr_eval rfl rfl) (decide_eq_true (by omega))) ?_
      refine lf_val (v := .bool true) (wantAll rfl) (rv_pickT rfl (fr_eval rfl rfl) (fr_eval rfl rfl)) ?_
      refine lf_val (v := .bool true) (wantAll rfl) (rv_move rfl (fr_eval rfl rfl)) ?_
      refine lf_call (wantF (d := 84) rfl (by kernel_rfl) rfl rfl) (rv_call (args := []) rfl evn Try.call18) (awake01_calls _) ?_
      rintro _ w34 ⟨rfl, hx⟩
      refine ⟨_, rfl, ?_⟩
      replace hC := hC.trans hx
      replace hr := Rd.ext hr hx
      replace hy_g1 := EyeAt.ext hy_g1 hx
      replace hy_g2 := EyeAt.ext hy_g2 hx
      clear hx
      refine lf_val (v := .bool true) (wantAll rfl) (rv_pickT rfl (fr_eval rfl rfl) (fr_eval rfl rfl)) ?_
      refine lf_val (v := .bool true) (wantAll rfl) (rv_assign rfl (fr_eval rfl rfl)) ?_
      refine lf_nil ?_
      refine then_n ?_
      refine wp_gen (fun F' => F' 0 = cutV v b 200 ∧ F' 1 = .int .i64 most ∧ F' 4 = .bool true ∧ F' 5 = .pointer (some ⟨g1, 0, none⟩) ∧ F' 6 = .pointer (some ⟨g2, 0, none⟩) ∧ F' 7 = .int .i64 ((numV (List.take 200 b) 0 : Nat) : Int) ∧ F' 8 = .int .i64 ((uptoV (List.take 200 b) 0 most : Nat) : Int) ∧ F' 9 = .int .i64 ((n : Nat) : Int) ∧ F' 10 = .int .i64 2 ∧ F' 11 = .int .i64 0 ∧ F' 12 = .int .i64 ((i : Nat) : Int) ∧ F' 31 = .bool false ∧ F' 63 = .bool false ∧ F' 65 = .bool true) ⟨e0, e1, rfl, e5, e6, e7, e8, e9, e10, e11, e12, e31, e63, e65⟩ ?_
      clear e0 e1 e4 e5 e6 e7 e8 e9 e10 e11 e12 e31 e63 e65
      clear F
      rintro F ⟨e0, e1, e4, e5, e6, e7, e8, e9, e10, e11, e12, e31, e63, e65⟩
      refine wp_ret ?_
      refine then_ret ?_
      exact bodyPost_ret (v := (.bool true)) (res1 rfl (ro_tmp rfl e4)) rfl (⟨rfl, hC⟩)
  · refine lf_val (v := .bool false) (wantAll rfl) (rv_lss rfl (fr_eval rfl rfl) rfl (decide_eq_false (by omega))) ?_
    refine lf_val (v := .bool false) (wantAll rfl) (rv_move rfl (fr_eval rfl rfl)) ?_
    refine lf_not (wantNot (d := 26) rfl (by kernel_rfl) rfl rfl) ?_
    refine lf_not (wantNot (d := 26) rfl (by kernel_rfl) rfl rfl) ?_
    refine lf_not (wantNot (d := 26) rfl (by kernel_rfl) rfl rfl) ?_
    refine lf_not (wantNot (d := 26) rfl (by kernel_rfl) rfl rfl) ?_
    refine lf_val (v := .bool false) (wantAll rfl) (rv_pickF rfl (fr_eval rfl rfl) rfl) ?_
    refine lf_nil ?_
    refine then_n ?_
    refine wp_gen (fun F' => F' 0 = cutV v b 200 ∧ F' 1 = .int .i64 most ∧ F' 4 = .bool false ∧ F' 5 = .pointer (some ⟨g1, 0, none⟩) ∧ F' 6 = .pointer (some ⟨g2, 0, none⟩) ∧ F' 7 = .int .i64 ((numV (List.take 200 b) 0 : Nat) : Int) ∧ F' 8 = .int .i64 ((uptoV (List.take 200 b) 0 most : Nat) : Int) ∧ F' 9 = .int .i64 ((n : Nat) : Int) ∧ F' 10 = .int .i64 e ∧ F' 11 = .int .i64 0 ∧ F' 12 = .int .i64 ((i : Nat) : Int) ∧ F' 31 = .bool false) ⟨e0, e1, e4, e5, e6, e7, e8, e9, e10, e11, e12, rfl⟩ ?_
    clear e0 e1 e4 e5 e6 e7 e8 e9 e10 e11 e12
    clear F
    rintro F ⟨e0, e1, e4, e5, e6, e7, e8, e9, e10, e11, e12, e31⟩
    refine wp_cond_false (fr_eval rfl e31) ?_
    refine wp_exit ?_
    refine then_exit ?_
    refine then_exit ?_
    refine blk_exit ?_
    refine then_n ?_
    refine wp_seq ?_
    refine wp_seq ?_
    refine wp_regionF ?_
    refine lf_val (v := .int .i64 0) (wantAll rfl) (rv_move rfl (fr_eval rfl e11)) ?_
    refine lf_val (v := .bool false) (wantAll rfl) (rv_gtr rfl (fr_eval rfl rfl) rfl (by decide)) ?_
    refine lf_val (v := .bool false) (wantAll rfl) (rv_move rfl (fr_eval rfl rfl)) ?_
    refine lf_not (wantNot (d := 56) rfl (by kernel_rfl) rfl rfl) ?_
    refine lf_not (wantNot (d := 56) rfl (by kernel_rfl) rfl rfl) ?_
    refine lf_not (wantNot (d := 56) rfl (by kernel_rfl) rfl rfl) ?_
    refine lf_not (wantNot (d := 56) rfl (by kernel_rfl) rfl rfl) ?_
    refine lf_not (wantNot (d := 56) rfl (by kernel_rfl) rfl rfl) ?_
    refine lf_not (wantNot (d := 56) rfl (by kernel_rfl) rfl rfl) ?_
    refine lf_val (v := .bool false) (wantAll rfl) (rv_pickF rfl (fr_eval rfl rfl) rfl) ?_
    refine lf_nil ?_
    refine then_n ?_
    refine wp_gen (fun F' => F' 0 = cutV v b 200 ∧ F' 1 = .int .i64 most ∧ F' 4 = .bool false ∧ F' 5 = .pointer (some ⟨g1, 0, none⟩) ∧ F' 6 = .pointer (some ⟨g2, 0, none⟩) ∧ F' 7 = .int .i64 ((numV (List.take 200 b) 0 : Nat) : Int) ∧ F' 8 = .int .i64 ((uptoV (List.take 200 b) 0 most : Nat) : Int) ∧ F' 9 = .int .i64 ((n : Nat) : Int) ∧ F' 10 = .int .i64 e ∧ F' 11 = .int .i64 0 ∧ F' 12 = .int .i64 ((i : Nat) : Int) ∧ F' 31 = .bool false ∧ F' 63 = .bool false) ⟨e0, e1, e4, e5, e6, e7, e8, e9, e10, e11, e12, e31, rfl⟩ ?_
    clear e0 e1 e4 e5 e6 e7 e8 e9 e10 e11 e12 e31
    clear F
    rintro F ⟨e0, e1, e4, e5, e6, e7, e8, e9, e10, e11, e12, e31, e63⟩
    refine wp_cond_false (fr_eval rfl e63) ?_
    refine wp_skip ?_
    refine then_n ?_
    refine wp_seq ?_
    refine wp_seq ?_
    obtain rfl : i = 9 := by omega
    have hn : num (List.take 200 b) = (5, 0, 0) := by rw [pi3]; rfl
    obtain rfl : e = 5 := by omega
    obtain ⟨q1, q2, q3, q4, q5⟩ := num_facts most hn
    refine wp_regionF ?_
    refine lf_val (v := .int .i64 5) (wantAll rfl) (rv_move rfl (fr_eval rfl e10)) ?_
    refine lf_val (v := .bool true) (wantAll rfl) (rv_neq rfl (fr_eval rfl rfl) rfl (show decide ((5 : Int) = 0) = false from by decide)) ?_
    refine lf_nil ?_
    refine then_n ?_
    refine wp_gen (fun F' => F' 0 = cutV v b 200 ∧ F' 1 = .int .i64 most ∧ F' 4 = .bool false ∧ F' 5 = .pointer (some ⟨g1, 0, none⟩) ∧ F' 6 = .pointer (some ⟨g2, 0, none⟩) ∧ F' 7 = .int .i64 ((numV (List.take 200 b) 0 : Nat) : Int) ∧ F' 8 = .int .i64 ((uptoV (List.take 200 b) 0 most : Nat) : Int) ∧ F' 9 = .int .i64 ((n : Nat) : Int) ∧ F' 10 = .int .i64 5 ∧ F' 11 = .int .i64 0 ∧ F' 12 = .int .i64 ((9 : Nat) : Int) ∧ F' 31 = .bool false ∧ F' 63 = .bool false ∧ F' 65 = .bool true) ⟨e0, e1, e4, e5, e6, e7, e8, e9, e10, e11, e12, e31, e63, rfl⟩ ?_
    clear e0 e1 e4 e5 e6 e7 e8 e9 e10 e11 e12 e31 e63
    clear F
    rintro F ⟨e0, e1, e4, e5, e6, e7, e8, e9, e10, e11, e12, e31, e63, e65⟩
    refine wp_cond_true (fr_eval rfl e65) ?_
    refine wp_seq ?_
    refine wp_regionF ?_
    refine lf_val (v := .int .i64 ((numV (List.take 200 b) 0 : Nat) : Int)) (wantAll rfl) (rv_move rfl (fr_eval rfl e7)) ?_
    refine lf_val (v := .bool true) (wantAll rfl) (rv_eql rfl (fr_eval rfl rfl) rfl (decide_eq_true (by omega))) ?_
    refine lf_val (v := .bool true) (wantAll rfl) (rv_move rfl (fr_eval rfl rfl)) ?_
    refine lf_val (v := .int .i64 ((uptoV (List.take 200 b) 0 most : Nat) : Int)) (wantF (d := 68) rfl (by kernel_rfl) rfl rfl) (rv_move rfl (fr_eval rfl e8)) ?_
    refine lf_val (v := .bool true) (wantF (d := 68) rfl (by kernel_rfl) rfl rfl) (rv_eql rfl (fr_eval rfl rfl) rfl (decide_eq_true (by omega))) ?_
    refine lf_val (v := .bool true) (wantAll rfl) (rv_pickT rfl (fr_eval rfl rfl) (fr_eval rfl rfl)) ?_
    refine lf_val (v := .bool true) (wantAll rfl) (rv_move rfl (fr_eval rfl rfl)) ?_
    refine lf_val (v := .pointer (some ⟨g1, 0, none⟩)) (wantF (d := 72) rfl (by kernel_rfl) rfl rfl) (rv_move rfl (fr_eval rfl e5)) ?_
    refine lf_call (wantF (d := 72) rfl (by kernel_rfl) rfl rfl) (rv_call (args := [.pointer (some ⟨g1, 0, none⟩)]) rfl (evc (fr_eval rfl rfl) evn) Try.call17) (errE_calls _ hy_g1) ?_
    rintro _ w35 ⟨rfl, hx⟩
    refine ⟨_, rfl, ?_⟩
    replace hC := hC.trans hx
    replace hr := Rd.ext hr hx
    replace hy_g1 := EyeAt.ext hy_g1 hx
    replace hy_g2 := EyeAt.ext hy_g2 hx
    clear hx
    refine lf_val (v := .int .i64 5) (wantF (d := 72) rfl (by kernel_rfl) rfl rfl) (rv_move rfl (fr_eval rfl e10)) ?_
    refine lf_val (v := .bool true) (wantF (d := 72) rfl (by kernel_rfl) rfl rfl) (rv_eql rfl (fr_eval rfl rfl) (fr_eval rfl rfl) (decide_eq_true (by omega))) ?_
    refine lf_val (v := .bool true) (wantAll rfl) (rv_pickT rfl (fr_eval rfl rfl) (fr_eval rfl rfl)) ?_
    refine lf_val (v := .bool true) (wantAll rfl) (rv_move rfl (fr_eval rfl rfl)) ?_
    refine lf_val (v := .pointer (some ⟨g2, 0, none⟩)) (wantF (d := 78) rfl (by kernel_rfl) rfl rfl) (rv_move rfl (fr_eval rfl e6)) ?_
    refine lf_call (wantF (d := 78) rfl (by kernel_rfl) rfl rfl) (rv_call (args := [.pointer (some ⟨g2, 0, none⟩)]) rfl (evc (fr_eval rfl rfl) evn) Try.call17) (errE_calls _ hy_g2) ?_
    rintro _ w36 ⟨rfl, hx⟩
    refine ⟨_, rfl, ?_⟩
    replace hC := hC.trans hx
    replace hr := Rd.ext hr hx
    replace hy_g1 := EyeAt.ext hy_g1 hx
    replace hy_g2 := EyeAt.ext hy_g2 hx
    clear hx
    refine lf_val (v := .int .i64 5) (wantF (d := 78) rfl (by kernel_rfl) rfl rfl) (rv_move rfl (fr_eval rfl e10)) ?_
    refine lf_val (v := .bool true) (wantF (d := 78) rfl (by kernel_rfl) rfl rfl) (rv_eql rfl (fr_eval rfl rfl) (fr_eval rfl rfl) (decide_eq_true (by omega))) ?_
    refine lf_val (v := .bool true) (wantAll rfl) (rv_pickT rfl (fr_eval rfl rfl) (fr_eval rfl rfl)) ?_
    refine lf_val (v := .bool true) (wantAll rfl) (rv_move rfl (fr_eval rfl rfl)) ?_
    refine lf_call (wantF (d := 84) rfl (by kernel_rfl) rfl rfl) (rv_call (args := []) rfl evn Try.call18) (awake01_calls _) ?_
    rintro _ w37 ⟨rfl, hx⟩
    refine ⟨_, rfl, ?_⟩
    replace hC := hC.trans hx
    replace hr := Rd.ext hr hx
    replace hy_g1 := EyeAt.ext hy_g1 hx
    replace hy_g2 := EyeAt.ext hy_g2 hx
    clear hx
    refine lf_val (v := .bool true) (wantAll rfl) (rv_pickT rfl (fr_eval rfl rfl) (fr_eval rfl rfl)) ?_
    refine lf_val (v := .bool true) (wantAll rfl) (rv_assign rfl (fr_eval rfl rfl)) ?_
    refine lf_nil ?_
    refine then_n ?_
    refine wp_gen (fun F' => F' 0 = cutV v b 200 ∧ F' 1 = .int .i64 most ∧ F' 4 = .bool true ∧ F' 5 = .pointer (some ⟨g1, 0, none⟩) ∧ F' 6 = .pointer (some ⟨g2, 0, none⟩) ∧ F' 7 = .int .i64 ((numV (List.take 200 b) 0 : Nat) : Int) ∧ F' 8 = .int .i64 ((uptoV (List.take 200 b) 0 most : Nat) : Int) ∧ F' 9 = .int .i64 ((n : Nat) : Int) ∧ F' 10 = .int .i64 5 ∧ F' 11 = .int .i64 0 ∧ F' 12 = .int .i64 ((9 : Nat) : Int) ∧ F' 31 = .bool false ∧ F' 63 = .bool false ∧ F' 65 = .bool true) ⟨e0, e1, rfl, e5, e6, e7, e8, e9, e10, e11, e12, e31, e63, e65⟩ ?_
    clear e0 e1 e4 e5 e6 e7 e8 e9 e10 e11 e12 e31 e63 e65
    clear F
    rintro F ⟨e0, e1, e4, e5, e6, e7, e8, e9, e10, e11, e12, e31, e63, e65⟩
    refine wp_ret ?_
    refine then_ret ?_
    exact bodyPost_ret (v := (.bool true)) (res1 rfl (ro_tmp rfl e4)) rfl (⟨rfl, hC⟩)

end Go.Proofs.Ytjgcjddaladgfaa
