/- Contracts of a pen: what it writes. -/
import Derived.Test.YtjgcjddaladgfaaPen
namespace Go.Proofs.Ytjgcjddaladgfaa
open Go.RowKit Go.Bz Go.Bz.Wire
attribute [local irreducible] wpList Code.wp wpAnyX

set_option maxRecDepth 100000 in
set_option maxHeartbeats 4000000 in
theorem penNum_calls {g : Nat} {v : Value} {l : List UInt8} (n : Int) (hn : -9223372036854775808 ≤ n ∧ n ≤ 9223372036854775807) (w : World) (hp0 : PenAt w g v l) (hl : l.length ≤ 100000000) :
    Calls Try.prog 24 #[.pointer (some ⟨g, 0, none⟩), .int .i64 n] w fun e'' w' => e'' = .returned (.pointer (some ⟨g, 0, none⟩)) ∧ PenPost w w' g v (l ++ put n) := by
  refine calls_fr (args := [.pointer (some ⟨g, 0, none⟩), .int .i64 n]) (n := 40) Try.func24 rfl rfl (show 2 ≤ 40 by decide) ?_
  have hC : Chg (fun k => k = g ∨ v.ownBlock = some k) w w := Chg.refl _ _
  have h_g := hp0.1
  have ho := hp0.2
  have ge_ho : ∀ k, (v : Value).ownBlock = some k → w.heap.size ≤ k ∨ (v : Value).ownBlock = some k := fun _ h => Or.inr h
  refine wp_seq ?_
  refine wp_gen (fun F' => F' 0 = .pointer (some ⟨g, 0, none⟩) ∧ F' 1 = .int .i64 n) ⟨rfl, rfl⟩ ?_
  rintro F ⟨e0, e1⟩
  refine wp_regionF ?_
  refine lf_val (v := .pointer none) (wantAll rfl) (rv_assign rfl rfl) ?_
  refine lf_nil ?_
  refine then_n ?_
  refine wp_seq ?_
  refine wp_seq ?_
  refine wp_gen (fun F' => F' 0 = .pointer (some ⟨g, 0, none⟩) ∧ F' 1 = .int .i64 n ∧ F' 4 = .pointer none) ⟨e0, e1, rfl⟩ ?_
  clear e0 e1
  clear F
  rintro F ⟨e0, e1, e4⟩
  refine wp_regionF ?_
  refine lf_val (v := .pointer (some ⟨g, 0, none⟩)) (wantAll rfl) (rv_move rfl (fr_eval rfl e0)) ?_
  refine lf_val (v := .bool false) (wantAll rfl) (rv_eqnil (p := (some ⟨g, 0, none⟩)) rfl (fr_eval rfl rfl) rfl Try.underlying39) ?_
  refine lf_nil ?_
  refine then_n ?_
  refine wp_gen (fun F' => F' 0 = .pointer (some ⟨g, 0, none⟩) ∧ F' 1 = .int .i64 n ∧ F' 4 = .pointer none ∧ F' 7 = .bool false) ⟨e0, e1, e4, rfl⟩ ?_
  clear e0 e1 e4
  clear F
  rintro F ⟨e0, e1, e4, e7⟩
  refine wp_cond_false (fr_eval rfl e7) ?_
  refine wp_skip ?_
  refine then_n ?_
  refine wp_seq ?_
  refine wp_regionF ?_
  refine lf_val (v := .int .i64 n) (wantAll rfl) (rv_move rfl (fr_eval rfl e1)) ?_
  refine lf_val (v := .int .i64 ((n.toNat : Nat) : Int)) (wantAll rfl) (rv_max rfl (fr_eval rfl rfl) rfl (by split <;> omega)) ?_
  refine lf_val (v := .int .u64 ((n.toNat : Nat) : Int)) (wantAll rfl) (rv_conv rfl (fr_eval rfl rfl) Try.underlying3 Try.underlying104 (wrap_u64n (by omega))) ?_
  refine lf_val (v := .int .u64 ((n.toNat : Nat) : Int)) (wantAll rfl) (rv_assign rfl (fr_eval rfl rfl)) ?_
  refine lf_nil ?_
  refine then_n ?_
  refine wp_seq ?_
  refine wp_block ?_
  refine wp_gen (fun F' => F' 0 = .pointer (some ⟨g, 0, none⟩) ∧ F' 1 = .int .i64 n ∧ F' 4 = .pointer none ∧ F' 5 = .int .u64 ((n.toNat : Nat) : Int) ∧ F' 7 = .bool false) ⟨e0, e1, e4, rfl, e7⟩ ?_
  clear e0 e1 e4 e7
  clear F
  rintro F ⟨e0, e1, e4, e5, e7⟩
  refine wp_loopF (fun m F wr => ∃ f : Nat, ∃ m' : Nat, ∃ l2 : List UInt8, ∃ yb : Value, m = f + 1 ∧ l ++ put n = l2 ++ putGo f m' ∧ m' < 128 ^ (f + 1) ∧ f ≤ 9 ∧ l2.length + f ≤ l.length + 9 ∧ m' < 9223372036854775808 ∧ F 0 = .pointer (some ⟨g, 0, none⟩) ∧ F 1 = .int .i64 n ∧ F 4 = .pointer none ∧ F 5 = .int .u64 ((m' : Nat) : Int) ∧ F 7 = .bool false ∧ Blk wr g ([yb]) 50 ∧ OwnB wr yb l2 ∧ (∀ k, (yb : Value).ownBlock = some k → w.heap.size ≤ k ∨ (v : Value).ownBlock = some k) ∧ Chg (fun k => k = g ∨ v.ownBlock = some k) w wr) ⟨9, _, _, _, rfl, rfl, (Nat.lt_trans (show n.toNat < 9223372036854775808 by omega) (by decide)), Nat.le_refl _, Nat.le_refl _, (by omega), e0, e1, e4, e5, e7, h_g, ho, ge_ho, hC⟩ ?_
  clear e0 e1 e4 e5 e7 h_g ho ge_ho hC
  clear F
  rintro m F w1 ⟨f, m', l2, yb, rfl, pf0, pf1, pf2, pf3, pf4, e0, e1, e4, e5, e7, h_g, ho, ge_ho, hC⟩
  refine wp_seq ?_
  refine wp_seq ?_
  refine wp_regionF ?_
  refine lf_val (v := .int .u64 ((m' : Nat) : Int)) (wantAll rfl) (rv_move rfl (fr_eval rfl e5)) ?_
  by_cases hc1 : m' ≥ 128
  · refine lf_val (v := .bool true) (wantAll rfl) (rv_geq rfl (fr_eval rfl rfl) rfl (decide_eq_true (by omega))) ?_
    refine lf_nil ?_
    refine then_n ?_
    refine wp_gen (fun F' => F' 0 = .pointer (some ⟨g, 0, none⟩) ∧ F' 1 = .int .i64 n ∧ F' 4 = .pointer none ∧ F' 5 = .int .u64 ((m' : Nat) : Int) ∧ F' 7 = .bool false ∧ F' 13 = .bool true) ⟨e0, e1, e4, e5, e7, rfl⟩ ?_
    clear e0 e1 e4 e5 e7
    clear F
    rintro F ⟨e0, e1, e4, e5, e7, e13⟩
    refine wp_cond_true (fr_eval rfl e13) ?_
    refine wp_skip ?_
    refine then_n ?_
    refine wp_block ?_
    refine wp_seq ?_
    obtain ⟨f', rfl, hpf, hmf⟩ := put_next (by omega) pf1
    refine wp_regionF ?_
    refine lf_val (v := .pointer (some ⟨g, 0, none⟩)) (wantAll rfl) (rv_move rfl (fr_eval rfl e0)) ?_
    refine lf_val (v := .pointer (some ⟨g, 0, none⟩)) (wantAll rfl) (rv_move rfl (fr_eval rfl e0)) ?_
    refine lf_val (v := .pointer (some ⟨g, 0, none⟩)) (wantAll rfl) (rv_nilCheck rfl (fr_eval rfl rfl)) ?_
    refine lf_val (v := .pointer (some ⟨g, 0, none⟩)) (wantAll rfl) (rv_fieldAddr (n := 0) rfl (fr_eval rfl rfl) Try.underlying50 rfl rfl (by kernel_rfl)) ?_
    refine lf_val (v := yb) (wantAll rfl) (rv_load1 rfl h_g rfl (fr_eval rfl rfl) Try.underlying22 rfl Try.sz22) ?_
    refine lf_val (v := .int .u64 ((m' : Nat) : Int)) (wantAll rfl) (rv_move rfl (fr_eval rfl e5)) ?_
    refine lf_val (v := cB (UInt8.ofNat m')) (wantAll rfl) (rv_conv rfl (fr_eval rfl rfl) Try.underlying104 Try.underlying5 (wrap_u8 (byte_nat _))) ?_
    refine lf_val (v := cB (UInt8.ofNat (128 + m' % 128))) (wantAll rfl) (rv_or rfl (fr_eval rfl rfl) rfl (or128_byte _)) ?_
    refine lf_ex (wantAll rfl) (ex_lits (n := 1) Try.stB [(.tmp 21)] (vs := [cB (UInt8.ofNat (128 + m' % 128))]) (evc (fr_eval rfl rfl) evn) (cBs_one [UInt8.ofNat (128 + m' % 128)]) rfl (by decide) rfl) ?_
    rintro _ w2 ⟨g1, hg_g1, rfl, h_g1, hx⟩
    replace h_g1 : Blk w2 g1 (cBs [UInt8.ofNat (128 + m' % 128)]) 5 := h_g1
    have ge_g1 : w.heap.size ≤ g1 := by have := hC.size; omega
    have lt_g_g1 : g < g1 := by have := Blk.lt h_g; omega
    have ne_ho_g1 : (yb : Value).ownBlock ≠ some g1 := fun h => by have := own_lt ho _ h; omega
    replace hC := hC.trans (Ext.any hx)
    replace h_g := Blk.ext h_g hx
    replace ho := Own.ext ho hx
    clear hx hg_g1
    refine lf_ex (wantAll rfl) (ex_apB (xs := l2) (news := [UInt8.ofNat (128 + m' % 128)]) (.tmp 18) (.tmp 22) ho (rdB_blkn (n := 1) h_g1 rfl (by decide)) (by simp; omega) (fr_eval rfl rfl) (fr_eval rfl rfl) rfl) ?_
    rintro y1 w3 ⟨ho', hg⟩
    have hx := hg.chg
    clear h_g1
    have ge_n := hg.row (by have := Chg.size hC; omega) ge_ho
    replace h_g := Blk.keep h_g hx (fun e => Own.neType ho h_g (by decide) e)
    replace hC := Chg.then hC hx (fun i hi e => Or.elim (ge_ho i e) (fun h => absurd hi (by omega)) (fun h => Or.inr h))
    replace ge_ho := ge_n
    clear ge_n
    replace ho := ho'
    clear ho'
    clear hx hg
    refine lf_val (v := .pointer (some ⟨g, 0, none⟩)) (wantAll rfl) (rv_nilCheck rfl (fr_eval rfl rfl)) ?_
    refine lf_val (v := .pointer (some ⟨g, 0, none⟩)) (wantAll rfl) (rv_fieldAddr (n := 0) rfl (fr_eval rfl rfl) Try.underlying50 rfl rfl (by kernel_rfl)) ?_
    refine lf_sk (wantAll rfl) (ex_storeC (j := 0) rfl h_g (show 0 < 1 by decide) rfl (fr_eval rfl rfl) (fr_eval rfl rfl) Try.sz22 (Rd.oneV (OwnB.rd ho))) ?_
    rintro w4 ⟨h_g', hx⟩
    replace h_g' : Blk w4 g ([y1]) 50 := h_g'
    replace ho := Own.keep ho hx (fun b hb e => Own.neType ho h_g (by decide) (by have e : b = g := e; rw [← e]; exact hb))
    replace hC := hC.trans (Chg.mono hx (fun i _ e => Or.inl e))
    replace h_g := h_g'
    clear h_g'
    clear hx
    refine lf_nil ?_
    refine then_n ?_
    refine wp_gen (fun F' => F' 0 = .pointer (some ⟨g, 0, none⟩) ∧ F' 1 = .int .i64 n ∧ F' 4 = .pointer none ∧ F' 5 = .int .u64 ((m' : Nat) : Int) ∧ F' 7 = .bool false ∧ F' 13 = .bool true) ⟨e0, e1, e4, e5, e7, e13⟩ ?_
    clear e0 e1 e4 e5 e7 e13
    clear F
    rintro F ⟨e0, e1, e4, e5, e7, e13⟩
    refine wp_regionF ?_
    refine lf_val (v := .int .u64 ((m' : Nat) : Int)) (wantAll rfl) (rv_move rfl (fr_eval rfl e5)) ?_
    refine lf_val (v := .int .u64 ((m' / 128 : Nat) : Int)) (wantAll rfl) (rv_shr rfl (fr_eval rfl rfl) (show _ = Value.int _ ((7 : Nat) : Int) from rfl) (shr_nat 7 (by decide))) ?_
    refine lf_val (v := .int .u64 ((m' / 128 : Nat) : Int)) (wantAll rfl) (rv_assign rfl (fr_eval rfl rfl)) ?_
    refine lf_nil ?_
    refine blk_n ?_
    refine then_n ?_
    exact ⟨_, _, (by omega), rfl, f', _, _, _, rfl, (by rw [pf0, hpf]; simp), hmf, (by omega), (by simp; omega), (by omega), e0, e1, e4, rfl, e7, h_g, ho, ge_ho, hC⟩
  · refine lf_val (v := .bool false) (wantAll rfl) (rv_geq rfl (fr_eval rfl rfl) rfl (decide_eq_false (by omega))) ?_
    refine lf_nil ?_
    refine then_n ?_
    refine wp_gen (fun F' => F' 0 = .pointer (some ⟨g, 0, none⟩) ∧ F' 1 = .int .i64 n ∧ F' 4 = .pointer none ∧ F' 5 = .int .u64 ((m' : Nat) : Int) ∧ F' 7 = .bool false ∧ F' 13 = .bool false) ⟨e0, e1, e4, e5, e7, rfl⟩ ?_
    clear e0 e1 e4 e5 e7
    clear F
    rintro F ⟨e0, e1, e4, e5, e7, e13⟩
    refine wp_cond_false (fr_eval rfl e13) ?_
    refine wp_exit ?_
    refine then_exit ?_
    refine then_exit ?_
    refine blk_exit ?_
    refine then_n ?_
    refine wp_seq ?_
    have hlast : putGo f m' = [UInt8.ofNat m'] := put_last (by omega)
    refine wp_regionF ?_
    refine lf_val (v := .pointer (some ⟨g, 0, none⟩)) (wantAll rfl) (rv_move rfl (fr_eval rfl e0)) ?_
    refine lf_val (v := .pointer (some ⟨g, 0, none⟩)) (wantAll rfl) (rv_move rfl (fr_eval rfl e0)) ?_
    refine lf_val (v := .pointer (some ⟨g, 0, none⟩)) (wantAll rfl) (rv_nilCheck rfl (fr_eval rfl rfl)) ?_
    refine lf_val (v := .pointer (some ⟨g, 0, none⟩)) (wantAll rfl) (rv_fieldAddr (n := 0) rfl (fr_eval rfl rfl) Try.underlying50 rfl rfl (by kernel_rfl)) ?_
    refine lf_val (v := yb) (wantAll rfl) (rv_load1 rfl h_g rfl (fr_eval rfl rfl) Try.underlying22 rfl Try.sz22) ?_
    refine lf_val (v := .int .u64 ((m' : Nat) : Int)) (wantAll rfl) (rv_move rfl (fr_eval rfl e5)) ?_
    refine lf_val (v := cB (UInt8.ofNat m')) (wantAll rfl) (rv_conv rfl (fr_eval rfl rfl) Try.underlying104 Try.underlying5 (wrap_u8 (byte_nat _))) ?_
    refine lf_ex (wantAll rfl) (ex_lits (n := 1) Try.stB [(.tmp 34)] (vs := [cB (UInt8.ofNat m')]) (evc (fr_eval rfl rfl) evn) (cBs_one [UInt8.ofNat m']) rfl (by decide) rfl) ?_
    rintro _ w5 ⟨g2, hg_g2, rfl, h_g2, hx⟩
    replace h_g2 : Blk w5 g2 (cBs [UInt8.ofNat m']) 5 := h_g2
    have ge_g2 : w.heap.size ≤ g2 := by have := hC.size; omega
    have lt_g_g2 : g < g2 := by have := Blk.lt h_g; omega
    have ne_ho_g2 : (yb : Value).ownBlock ≠ some g2 := fun h => by have := own_lt ho _ h; omega
    replace hC := hC.trans (Ext.any hx)
    replace h_g := Blk.ext h_g hx
    replace ho := Own.ext ho hx
    clear hx hg_g2
    refine lf_ex (wantAll rfl) (ex_apB (xs := l2) (news := [UInt8.ofNat m']) (.tmp 32) (.tmp 35) ho (rdB_blkn (n := 1) h_g2 rfl (by decide)) (by simp; omega) (fr_eval rfl rfl) (fr_eval rfl rfl) rfl) ?_
    rintro y2 w6 ⟨ho', hg⟩
    have hx := hg.chg
    clear h_g2
    have ge_n := hg.row (by have := Chg.size hC; omega) ge_ho
    replace h_g := Blk.keep h_g hx (fun e => Own.neType ho h_g (by decide) e)
    replace hC := Chg.then hC hx (fun i hi e => Or.elim (ge_ho i e) (fun h => absurd hi (by omega)) (fun h => Or.inr h))
    replace ge_ho := ge_n
    clear ge_n
    replace ho := ho'
    clear ho'
    clear hx hg
    refine lf_val (v := .pointer (some ⟨g, 0, none⟩)) (wantAll rfl) (rv_nilCheck rfl (fr_eval rfl rfl)) ?_
    refine lf_val (v := .pointer (some ⟨g, 0, none⟩)) (wantAll rfl) (rv_fieldAddr (n := 0) rfl (fr_eval rfl rfl) Try.underlying50 rfl rfl (by kernel_rfl)) ?_
    refine lf_sk (wantAll rfl) (ex_storeC (j := 0) rfl h_g (show 0 < 1 by decide) rfl (fr_eval rfl rfl) (fr_eval rfl rfl) Try.sz22 (Rd.oneV (OwnB.rd ho))) ?_
    rintro w7 ⟨h_g', hx⟩
    replace h_g' : Blk w7 g ([y2]) 50 := h_g'
    replace ho := Own.keep ho hx (fun b hb e => Own.neType ho h_g (by decide) (by have e : b = g := e; rw [← e]; exact hb))
    replace hC := hC.trans (Chg.mono hx (fun i _ e => Or.inl e))
    replace h_g := h_g'
    clear h_g'
    clear hx
    refine lf_nil ?_
    refine then_n ?_
    refine wp_seq ?_
    refine wp_gen (fun F' => F' 0 = .pointer (some ⟨g, 0, none⟩) ∧ F' 1 = .int .i64 n ∧ F' 4 = .pointer none ∧ F' 5 = .int .u64 ((m' : Nat) : Int) ∧ F' 7 = .bool false ∧ F' 13 = .bool false) ⟨e0, e1, e4, e5, e7, e13⟩ ?_
    clear e0 e1 e4 e5 e7 e13
    clear F
    rintro F ⟨e0, e1, e4, e5, e7, e13⟩
    refine wp_regionF ?_
    refine lf_val (v := .pointer (some ⟨g, 0, none⟩)) (wantAll rfl) (rv_move rfl (fr_eval rfl e0)) ?_
    refine lf_val (v := .pointer (some ⟨g, 0, none⟩)) (wantAll rfl) (rv_assign rfl (fr_eval rfl rfl)) ?_
    refine lf_nil ?_
    refine then_n ?_
    refine wp_gen (fun F' => F' 0 = .pointer (some ⟨g, 0, none⟩) ∧ F' 1 = .int .i64 n ∧ F' 4 = .pointer (some ⟨g, 0, none⟩) ∧ F' 5 = .int .u64 ((m' : Nat) : Int) ∧ F' 7 = .bool false ∧ F' 13 = .bool false) ⟨e0, e1, rfl, e5, e7, e13⟩ ?_
    clear e0 e1 e4 e5 e7 e13
    clear F
    rintro F ⟨e0, e1, e4, e5, e7, e13⟩
    refine wp_ret ?_
    exact bodyPost_ret (v := (.pointer (some ⟨g, 0, none⟩))) (res1 rfl (ro_tmp rfl e4)) rfl (⟨rfl, ⟨_, ⟨h_g, (by rw [pf0, hlast]; exact ho)⟩, hC, ge_ho⟩⟩)

set_option maxRecDepth 100000 in
set_option maxHeartbeats 4000000 in
theorem penText_calls {g : Nat} {v : Value} {l : List UInt8} {x : Value} {b : List UInt8} (hb : b.length ≤ 100000000) (w : World) (hr0 : RdB w x b) (hdg : ∀ k, x.ownBlock = some k → 0 < (cBs b).length → k ≠ g) (hdv : ∀ k, x.ownBlock = some k → 0 < (cBs b).length → v.ownBlock ≠ some k) (hp0 : PenAt w g v l) (hl : l.length ≤ 100000000) :
    Calls Try.prog 25 #[.pointer (some ⟨g, 0, none⟩), x] w fun e'' w' => e'' = .returned (.pointer (some ⟨g, 0, none⟩)) ∧ PenPost w w' g v (l ++ put (b.length : Int) ++ b) := by
  refine calls_fr (args := [.pointer (some ⟨g, 0, none⟩), x]) (n := 22) Try.func25 rfl rfl (show 2 ≤ 22 by decide) ?_
  have hC : Chg (fun k => k = g ∨ v.ownBlock = some k) w w := Chg.refl _ _
  have h_g := hp0.1
  have ho := hp0.2
  have hr := hr0
  have ge_ho : ∀ k, (v : Value).ownBlock = some k → w.heap.size ≤ k ∨ (v : Value).ownBlock = some k := fun _ h => Or.inr h
  refine wp_seq ?_
  refine wp_gen (fun F' => F' 0 = .pointer (some ⟨g, 0, none⟩) ∧ F' 1 = x) ⟨rfl, rfl⟩ ?_
  rintro F ⟨e0, e1⟩
  refine wp_regionF ?_
  refine lf_val (v := .pointer none) (wantAll rfl) (rv_assign rfl rfl) ?_
  refine lf_nil ?_
  refine then_n ?_
  refine wp_seq ?_
  refine wp_seq ?_
  refine wp_gen (fun F' => F' 0 = .pointer (some ⟨g, 0, none⟩) ∧ F' 1 = x ∧ F' 4 = .pointer none) ⟨e0, e1, rfl⟩ ?_
  clear e0 e1
  clear F
  rintro F ⟨e0, e1, e4⟩
  refine wp_regionF ?_
  refine lf_val (v := .pointer (some ⟨g, 0, none⟩)) (wantAll rfl) (rv_move rfl (fr_eval rfl e0)) ?_
  refine lf_val (v := .bool false) (wantAll rfl) (rv_eqnil (p := (some ⟨g, 0, none⟩)) rfl (fr_eval rfl rfl) rfl Try.underlying39) ?_
  refine lf_nil ?_
  refine then_n ?_
  refine wp_gen (fun F' => F' 0 = .pointer (some ⟨g, 0, none⟩) ∧ F' 1 = x ∧ F' 4 = .pointer none ∧ F' 6 = .bool false) ⟨e0, e1, e4, rfl⟩ ?_
  clear e0 e1 e4
  clear F
  rintro F ⟨e0, e1, e4, e6⟩
  refine wp_cond_false (fr_eval rfl e6) ?_
  refine wp_skip ?_
  refine then_n ?_
  refine wp_seq ?_
  refine wp_regionF ?_
  refine lf_val (v := .pointer (some ⟨g, 0, none⟩)) (wantAll rfl) (rv_move rfl (fr_eval rfl e0)) ?_
  refine lf_val (v := x) (wantAll rfl) (rv_move rfl (fr_eval rfl e1)) ?_
  refine lf_val (v := .int .i64 ((b.length : Nat) : Int)) (wantAll rfl) (rv_len rfl (fr_eval rfl rfl) (RdB.rn hr rfl) Try.underlying22) ?_
  refine lf_call (wantAll rfl) (rv_call (args := [.pointer (some ⟨g, 0, none⟩), .int .i64 ((b.length : Nat) : Int)]) rfl (evc (fr_eval rfl rfl) (evc (fr_eval rfl rfl) evn)) Try.call24) (penNum_calls ((b.length : Nat) : Int) (by omega) _ ⟨h_g, ho⟩ (by omega)) ?_
  rintro _ w1 ⟨rfl, ⟨y1, ⟨h_g', ho'⟩, hx, gn⟩⟩
  refine ⟨_, rfl, ?_⟩
  replace gn : ∀ k, (y1 : Value).ownBlock = some k → w.heap.size ≤ k ∨ (v : Value).ownBlock = some k := fun k hk => Or.elim (gn k hk) (fun h => Or.inl (Nat.le_trans (Chg.size hC) h)) (fun h => ge_ho k h)
  replace hr := Rd.keep hr hx (fun b hb h0 e => Or.elim e (fun e => by have e : b = g := e; exact hdg b hb h0 e) (fun e => Or.elim (ge_ho b e) (fun h => by have := Rd.lt hr0 h0 b hb; omega) (fun h => hdv b hb h0 h)))
  replace hC := Chg.then hC hx (fun i hi e => Or.elim e (fun e => Or.inl e) (fun e => Or.elim (ge_ho i e) (fun h => absurd hi (by omega)) (fun h => Or.inr h)))
  replace ge_ho := gn
  replace h_g := h_g'
  replace ho := ho'
  clear gn hx h_g' ho'
  refine lf_nil ?_
  refine then_n ?_
  refine wp_seq ?_
  refine wp_gen (fun F' => F' 0 = .pointer (some ⟨g, 0, none⟩) ∧ F' 1 = x ∧ F' 4 = .pointer none ∧ F' 6 = .bool false) ⟨e0, e1, e4, e6⟩ ?_
  clear e0 e1 e4 e6
  clear F
  rintro F ⟨e0, e1, e4, e6⟩
  refine wp_regionF ?_
  refine lf_val (v := .pointer (some ⟨g, 0, none⟩)) (wantAll rfl) (rv_move rfl (fr_eval rfl e0)) ?_
  refine lf_val (v := .pointer (some ⟨g, 0, none⟩)) (wantAll rfl) (rv_move rfl (fr_eval rfl e0)) ?_
  refine lf_val (v := .pointer (some ⟨g, 0, none⟩)) (wantAll rfl) (rv_nilCheck rfl (fr_eval rfl rfl)) ?_
  refine lf_val (v := .pointer (some ⟨g, 0, none⟩)) (wantAll rfl) (rv_fieldAddr (n := 0) rfl (fr_eval rfl rfl) Try.underlying50 rfl rfl (by kernel_rfl)) ?_
  refine lf_val (v := y1) (wantAll rfl) (rv_load1 rfl h_g rfl (fr_eval rfl rfl) Try.underlying22 rfl Try.sz22) ?_
  refine lf_val (v := x) (wantAll rfl) (rv_move rfl (fr_eval rfl e1)) ?_
  refine lf_ex (wantAll rfl) (ex_apB (xs := l ++ put ((b.length : Nat) : Int)) (news := b) (.tmp 16) (.tmp 17) ho hr (by have := putN_len b.length; simp only [List.length_append]; show _ + (putN b.length).length + _ ≤ _; omega) (fr_eval rfl rfl) (fr_eval rfl rfl) rfl) ?_
  rintro y2 w2 ⟨ho', hg⟩
  have hx := hg.chg
  have ge_n := hg.row (by have := Chg.size hC; omega) ge_ho
  replace h_g := Blk.keep h_g hx (fun e => Own.neType ho h_g (by decide) e)
  replace hr := Rd.keep hr hx (fun b hb h0 e => Or.elim (ge_ho b e) (fun h => by have := Rd.lt hr0 h0 b hb; omega) (fun h => hdv b hb h0 h))
  replace hC := Chg.then hC hx (fun i hi e => Or.elim (ge_ho i e) (fun h => absurd hi (by omega)) (fun h => Or.inr h))
  replace ge_ho := ge_n
  clear ge_n
  replace ho := ho'
  clear ho'
  clear hx hg
  refine lf_val (v := .pointer (some ⟨g, 0, none⟩)) (wantAll rfl) (rv_nilCheck rfl (fr_eval rfl rfl)) ?_
  refine lf_val (v := .pointer (some ⟨g, 0, none⟩)) (wantAll rfl) (rv_fieldAddr (n := 0) rfl (fr_eval rfl rfl) Try.underlying50 rfl rfl (by kernel_rfl)) ?_
  refine lf_sk (wantAll rfl) (ex_storeC (j := 0) rfl h_g (show 0 < 1 by decide) rfl (fr_eval rfl rfl) (fr_eval rfl rfl) Try.sz22 (Rd.oneV (OwnB.rd ho))) ?_
  rintro w3 ⟨h_g', hx⟩
  replace h_g' : Blk w3 g ([y2]) 50 := h_g'
  replace ho := Own.keep ho hx (fun b hb e => Own.neType ho h_g (by decide) (by have e : b = g := e; rw [← e]; exact hb))
  replace hr := Rd.keep hr hx (fun b hb h0 e => by have e : b = g := e; exact hdg b hb h0 e)
  replace hC := hC.trans (Chg.mono hx (fun i _ e => Or.inl e))
  replace h_g := h_g'
  clear h_g'
  clear hx
  refine lf_nil ?_
  refine then_n ?_
  refine wp_seq ?_
  refine wp_gen (fun F' => F' 0 = .pointer (some ⟨g, 0, none⟩) ∧ F' 1 = x ∧ F' 4 = .pointer none ∧ F' 6 = .bool false) ⟨e0, e1, e4, e6⟩ ?_
  clear e0 e1 e4 e6
  clear F
  rintro F ⟨e0, e1, e4, e6⟩
  refine wp_regionF ?_
  refine lf_val (v := .pointer (some ⟨g, 0, none⟩)) (wantAll rfl) (rv_move rfl (fr_eval rfl e0)) ?_
  refine lf_val (v := .pointer (some ⟨g, 0, none⟩)) (wantAll rfl) (rv_assign rfl (fr_eval rfl rfl)) ?_
  refine lf_nil ?_
  refine then_n ?_
  refine wp_gen (fun F' => F' 0 = .pointer (some ⟨g, 0, none⟩) ∧ F' 1 = x ∧ F' 4 = .pointer (some ⟨g, 0, none⟩) ∧ F' 6 = .bool false) ⟨e0, e1, rfl, e6⟩ ?_
  clear e0 e1 e4 e6
  clear F
  rintro F ⟨e0, e1, e4, e6⟩
  refine wp_ret ?_
  exact bodyPost_ret (v := (.pointer (some ⟨g, 0, none⟩))) (res1 rfl (ro_tmp rfl e4)) rfl (⟨rfl, ⟨_, ⟨h_g, (by first | exact ho | (have h := ho; simp only [List.append_assoc] at h ⊢; exact h))⟩, hC, ge_ho⟩⟩)

set_option maxRecDepth 100000 in
set_option maxHeartbeats 4000000 in
theorem penSum_calls {g : Nat} {v : Value} {l : List UInt8} (s : List UInt8) (hs : s.length = 32) (w : World) (hp0 : PenAt w g v l) (hl : l.length ≤ 100000000) :
    Calls Try.prog 26 #[.pointer (some ⟨g, 0, none⟩), .agg (cBs s).toArray] w fun e'' w' => e'' = .returned (.pointer (some ⟨g, 0, none⟩)) ∧ PenPost w w' g v (l ++ s) := by
  refine calls_fr (args := [.pointer (some ⟨g, 0, none⟩), .agg (cBs s).toArray]) (n := 17) Try.func26 rfl rfl (show 2 ≤ 17 by decide) ?_
  have hC : Chg (fun k => k = g ∨ v.ownBlock = some k) w w := Chg.refl _ _
  have h_g := hp0.1
  have ho := hp0.2
  have ge_ho : ∀ k, (v : Value).ownBlock = some k → w.heap.size ≤ k ∨ (v : Value).ownBlock = some k := fun _ h => Or.inr h
  refine wp_seq ?_
  refine wp_gen (fun F' => F' 0 = .pointer (some ⟨g, 0, none⟩) ∧ F' 1 = .agg (cBs s).toArray) ⟨rfl, rfl⟩ ?_
  rintro F ⟨e0, e1⟩
  refine wp_regionF ?_
  refine lf_ex (wantAll rfl) (ex_boxG 45 (.tmp 1) (cs := cBs s) (fr_eval rfl e1) (by rfl) rfl) ?_
  rintro _ w1 ⟨g1, hg_g1, rfl, h_g1, hx⟩
  have ge_g1 : w.heap.size ≤ g1 := by have := hC.size; omega
  have lt_g_g1 : g < g1 := by have := Blk.lt h_g; omega
  replace hC := hC.trans (Ext.any hx)
  replace h_g := Blk.ext h_g hx
  replace ho := Own.ext ho hx
  clear hx hg_g1
  refine lf_val (v := .pointer none) (wantAll rfl) (rv_assign rfl rfl) ?_
  refine lf_nil ?_
  refine then_n ?_
  refine wp_seq ?_
  refine wp_seq ?_
  refine wp_gen (fun F' => F' 0 = .pointer (some ⟨g, 0, none⟩) ∧ F' 1 = .agg (cBs s).toArray ∧ F' 3 = .pointer (some ⟨g1, 0, none⟩) ∧ F' 4 = .pointer none) ⟨e0, e1, rfl, rfl⟩ ?_
  clear e0 e1
  clear F
  rintro F ⟨e0, e1, e3, e4⟩
  refine wp_regionF ?_
  refine lf_val (v := .pointer (some ⟨g, 0, none⟩)) (wantAll rfl) (rv_move rfl (fr_eval rfl e0)) ?_
  refine lf_val (v := .bool true) (wantAll rfl) (rv_nenil (p := (some ⟨g, 0, none⟩)) rfl (fr_eval rfl rfl) rfl Try.underlying39) ?_
  refine lf_nil ?_
  refine then_n ?_
  refine wp_gen (fun F' => F' 0 = .pointer (some ⟨g, 0, none⟩) ∧ F' 1 = .agg (cBs s).toArray ∧ F' 3 = .pointer (some ⟨g1, 0, none⟩) ∧ F' 4 = .pointer none ∧ F' 6 = .bool true) ⟨e0, e1, e3, e4, rfl⟩ ?_
  clear e0 e1 e3 e4
  clear F
  rintro F ⟨e0, e1, e3, e4, e6⟩
  refine wp_cond_true (fr_eval rfl e6) ?_
  obtain ⟨B1, hB1⟩ : ∃ B, B = w1.heap.size := ⟨_, rfl⟩
  have hwB : w.heap.size ≤ B1 := by have := hC.size; omega
  have bl_g : g < B1 := by have := Blk.lt h_g; omega
  have bl_g1 : g1 < B1 := by have := Blk.lt h_g1; omega
  replace hB1 : B1 ≤ w1.heap.size := by omega
  have hrow_ho : ∀ k, (v : Value).ownBlock = some k → B1 ≤ k ∨ (v : Value).ownBlock = some k := fun _ h => Or.inr h
  refine wp_regionX (fun k => B1 ≤ k ∨ ((v : Value).ownBlock = some k ∨ k = g)) 10 (by kernel_rfl) (by kernel_rfl) ?_
  refine xl_take (i := 0) (v := .pointer (some ⟨g, 0, none⟩)) rfl (by kernel_rfl) (by kernel_rfl) (by kernel_rfl) (by kernel_rfl) (yx_val (wantAll rfl) (fun w' hx' => rv_move rfl (fr_eval rfl e0))) ?_
  refine xl_take (i := 1) (v := .pointer (some ⟨g, 0, none⟩)) rfl (by kernel_rfl) (by kernel_rfl) (by kernel_rfl) (by kernel_rfl) (yx_val (wantAll rfl) (fun w' hx' => rv_move rfl (fr_eval rfl e0))) ?_
  refine xl_take (i := 2) (v := .pointer (some ⟨g, 0, none⟩)) rfl (by kernel_rfl) (by kernel_rfl) (by kernel_rfl) (by kernel_rfl) (yx_val (wantAll rfl) (fun w' hx' => rv_nilCheck rfl (fr_eval rfl rfl))) ?_
  refine xl_take (i := 3) (v := .pointer (some ⟨g, 0, none⟩)) rfl (by kernel_rfl) (by kernel_rfl) (by kernel_rfl) (by kernel_rfl) (yx_val (wantAll rfl) (fun w' hx' => rv_fieldAddr (n := 0) rfl (fr_eval rfl rfl) Try.underlying50 rfl rfl (by kernel_rfl))) ?_
  refine xl_take (i := 5) (v := .slice (some ⟨g1, 0, none⟩) 32 32) rfl (by kernel_rfl) (by kernel_rfl) (by kernel_rfl) (by kernel_rfl) (yx_val (wantAll rfl) (fun w' hx' => rv_sliceArr rfl (fr_eval rfl e3) Try.underlying45 Try.sz5 (by decide))) ?_
  refine anyX_ready (rs := [4]) (by kernel_rfl) ?_
  intro w2 hx
  replace hC := hC.trans (Ext.any hx)
  replace h_g := Blk.ext h_g hx
  replace ho := Own.ext ho hx
  replace h_g1 := Blk.ext h_g1 hx
  replace hB1 : B1 ≤ w2.heap.size := by have := Chg.size hx; omega
  clear hx
  refine (anyX_cons ?_ anyX_nil)
  refine xl_step (i := 4) rfl (wantAll rfl) ?_
  refine of_val (v := v) (rv_load1 rfl h_g rfl (fr_eval rfl rfl) Try.underlying22 rfl Try.sz22) ?_
  refine ⟨Chg.refl _ _, ?_⟩
  refine anyX_ready (rs := [6]) (by kernel_rfl) ?_
  intro w3 hx
  replace hC := hC.trans (Ext.any hx)
  replace h_g := Blk.ext h_g hx
  replace ho := Own.ext ho hx
  replace h_g1 := Blk.ext h_g1 hx
  replace hB1 : B1 ≤ w3.heap.size := by have := Chg.size hx; omega
  clear hx
  refine (anyX_cons ?_ anyX_nil)
  refine xl_step (i := 6) rfl (wantAll rfl) ?_
  refine of_ex (ex_apB (xs := l) (news := s) (.tmp 11) (.tmp 12) ho (rdB_blkn h_g1 hs (by decide)) (by omega) (fr_eval rfl rfl) (fr_eval rfl rfl) rfl) ?_
  rintro y1 w4 ⟨ho', hg⟩
  have hx := hg.chg
  have hx0 := hx
  have hrow' := hg.row (by omega) hrow_ho
  have ge_n := hg.row (by have := Chg.size hC; omega) ge_ho
  replace h_g := Blk.keep h_g hx (fun e => Own.neType ho h_g (by decide) e)
  replace h_g1 := Blk.keep h_g1 hx (fun e => Own.neType ho h_g1 (by decide) e)
  replace hC := Chg.then hC hx (fun i hi e => Or.elim (ge_ho i e) (fun h => absurd hi (by omega)) (fun h => Or.inr h))
  replace hB1 : B1 ≤ w4.heap.size := by have := Chg.size hx; omega
  replace ge_ho := ge_n
  clear ge_n
  replace ho := ho'
  clear ho'
  refine ⟨Chg.mono hx0 (fun i hi e => Or.imp id Or.inl (hrow_ho i e)), ?_⟩
  clear hx0
  replace hrow_ho := hrow'
  clear hrow'
  clear hx hg
  refine xl_take (i := 7) (v := .pointer (some ⟨g, 0, none⟩)) rfl (by kernel_rfl) (by kernel_rfl) (by kernel_rfl) (by kernel_rfl) (yx_val (wantAll rfl) (fun w' hx' => rv_nilCheck rfl (fr_eval rfl rfl))) ?_
  refine xl_take (i := 8) (v := .pointer (some ⟨g, 0, none⟩)) rfl (by kernel_rfl) (by kernel_rfl) (by kernel_rfl) (by kernel_rfl) (yx_val (wantAll rfl) (fun w' hx' => rv_fieldAddr (n := 0) rfl (fr_eval rfl rfl) Try.underlying50 rfl rfl (by kernel_rfl))) ?_
  refine anyX_ready (rs := [9]) (by kernel_rfl) ?_
  intro w5 hx
  replace hC := hC.trans (Ext.any hx)
  replace h_g := Blk.ext h_g hx
  replace ho := Own.ext ho hx
  replace h_g1 := Blk.ext h_g1 hx
  replace hB1 : B1 ≤ w5.heap.size := by have := Chg.size hx; omega
  clear hx
  refine (anyX_cons ?_ anyX_nil)
  refine xl_step (i := 9) rfl (wantAll rfl) ?_
  refine of_sk (ex_storeC (j := 0) rfl h_g (show 0 < 1 by decide) rfl (fr_eval rfl rfl) (fr_eval rfl rfl) Try.sz22 (Rd.oneV (OwnB.rd ho))) ?_
  rintro w6 ⟨h_g', hx⟩
  have hx0 := hx
  replace h_g' : Blk w6 g ([y1]) 50 := h_g'
  replace ho := Own.keep ho hx (fun b hb e => Own.neType ho h_g (by decide) (by have e : b = g := e; rw [← e]; exact hb))
  replace h_g1 := Blk.keep h_g1 hx (fun e => by have e : g1 = g := e; omega)
  replace hC := hC.trans (Chg.mono hx (fun i _ e => Or.inl e))
  replace hB1 : B1 ≤ w6.heap.size := by have := Chg.size hx; omega
  replace h_g := h_g'
  clear h_g'
  refine ⟨Chg.mono hx0 (fun i hi e => Or.inr (Or.inr e)), ?_⟩
  clear hx0
  clear hx
  refine xl_tail (s := 10) rfl ?_
  intro w7 hx
  replace hC := hC.trans (Ext.any hx)
  replace h_g := Blk.ext h_g hx
  replace ho := Own.ext ho hx
  replace h_g1 := Blk.ext h_g1 hx
  replace hB1 : B1 ≤ w7.heap.size := by have := Chg.size hx; omega
  clear hx
  clear hB1
  refine lf_nil ?_
  refine then_n ?_
  refine wp_seq ?_
  refine wp_gen (fun F' => F' 0 = .pointer (some ⟨g, 0, none⟩) ∧ F' 1 = .agg (cBs s).toArray ∧ F' 3 = .pointer (some ⟨g1, 0, none⟩) ∧ F' 4 = .pointer none ∧ F' 6 = .bool true) ⟨e0, e1, e3, e4, e6⟩ ?_
  clear e0 e1 e3 e4 e6
  clear F
  rintro F ⟨e0, e1, e3, e4, e6⟩
  refine wp_regionF ?_
  refine lf_val (v := .pointer (some ⟨g, 0, none⟩)) (wantAll rfl) (rv_move rfl (fr_eval rfl e0)) ?_
  refine lf_val (v := .pointer (some ⟨g, 0, none⟩)) (wantAll rfl) (rv_assign rfl (fr_eval rfl rfl)) ?_
  refine lf_nil ?_
  refine then_n ?_
  refine wp_gen (fun F' => F' 0 = .pointer (some ⟨g, 0, none⟩) ∧ F' 1 = .agg (cBs s).toArray ∧ F' 3 = .pointer (some ⟨g1, 0, none⟩) ∧ F' 4 = .pointer (some ⟨g, 0, none⟩) ∧ F' 6 = .bool true) ⟨e0, e1, e3, rfl, e6⟩ ?_
  clear e0 e1 e3 e4 e6
  clear F
  rintro F ⟨e0, e1, e3, e4, e6⟩
  refine wp_ret ?_
  exact bodyPost_ret (v := (.pointer (some ⟨g, 0, none⟩))) (res1 rfl (ro_tmp rfl e4)) rfl (⟨rfl, ⟨_, ⟨h_g, (by first | exact ho | (have h := ho; simp only [List.append_assoc] at h ⊢; exact h))⟩, hC, ge_ho⟩⟩)

set_option maxRecDepth 100000 in
set_option maxHeartbeats 4000000 in
theorem penBytes_calls {g : Nat} {v : Value} {l : List UInt8} (w : World) (hp0 : PenAt w g v l) (hl : l.length ≤ 100000000) :
    Calls Try.prog 28 #[.pointer (some ⟨g, 0, none⟩)] w fun e'' w' => (∃ v', e'' = .returned v' ∧ OwnB w' v' l ∧ ∀ k, v'.ownBlock = some k → w.heap.size ≤ k) ∧ Ext w w' := by
  refine calls_fr (args := [.pointer (some ⟨g, 0, none⟩)]) (n := 10) Try.func28 rfl rfl (show 1 ≤ 10 by decide) ?_
  have hC : Ext w w := Chg.refl _ _
  have h_g := hp0.1
  have ho := hp0.2
  have ge_ho : ∀ k, (v : Value).ownBlock = some k → w.heap.size ≤ k ∨ (v : Value).ownBlock = some k := fun _ h => Or.inr h
  refine wp_seq ?_
  refine wp_gen (fun F' => F' 0 = .pointer (some ⟨g, 0, none⟩)) rfl ?_
  rintro F e0
  refine wp_regionF ?_
  refine lf_val (v := .slice none 0 0) (wantAll rfl) (rv_assign rfl rfl) ?_
  refine lf_nil ?_
  refine then_n ?_
  refine wp_seq ?_
  refine wp_seq ?_
  refine wp_gen (fun F' => F' 0 = .pointer (some ⟨g, 0, none⟩) ∧ F' 2 = .slice none 0 0) ⟨e0, rfl⟩ ?_
  clear e0
  clear F
  rintro F ⟨e0, e2⟩
  refine wp_regionF ?_
  refine lf_val (v := .pointer (some ⟨g, 0, none⟩)) (wantAll rfl) (rv_move rfl (fr_eval rfl e0)) ?_
  refine lf_val (v := .bool false) (wantAll rfl) (rv_eqnil (p := (some ⟨g, 0, none⟩)) rfl (fr_eval rfl rfl) rfl Try.underlying39) ?_
  refine lf_nil ?_
  refine then_n ?_
  refine wp_gen (fun F' => F' 0 = .pointer (some ⟨g, 0, none⟩) ∧ F' 2 = .slice none 0 0 ∧ F' 4 = .bool false) ⟨e0, e2, rfl⟩ ?_
  clear e0 e2
  clear F
  rintro F ⟨e0, e2, e4⟩
  refine wp_cond_false (fr_eval rfl e4) ?_
  refine wp_skip ?_
  refine then_n ?_
  refine wp_seq ?_
  refine wp_regionF ?_
  refine lf_val (v := .pointer (some ⟨g, 0, none⟩)) (wantAll rfl) (rv_move rfl (fr_eval rfl e0)) ?_
  refine lf_val (v := .pointer (some ⟨g, 0, none⟩)) (wantAll rfl) (rv_nilCheck rfl (fr_eval rfl rfl)) ?_
  refine lf_val (v := .pointer (some ⟨g, 0, none⟩)) (wantAll rfl) (rv_fieldAddr (n := 0) rfl (fr_eval rfl rfl) Try.underlying50 rfl rfl (by kernel_rfl)) ?_
  refine lf_val (v := v) (wantAll rfl) (rv_load1 rfl h_g rfl (fr_eval rfl rfl) Try.underlying22 rfl Try.sz22) ?_
  refine lf_ex (wantAll rfl) (ex_apB (xs := []) (news := l) (.const (.slice none 0 0)) (.tmp 8) OwnB.nil (OwnB.rd ho) (by simp; omega) rfl (fr_eval rfl rfl) rfl) ?_
  rintro y1 w1 ⟨ho1', hg⟩
  have hx := hg.chg
  replace ho1' : OwnB w1 y1 l := ho1'
  have djn_ho_ho1 := hg.djR (v := (.slice none 0 0)) (u := v) (fun i _ h => by simp [Value.ownBlock] at h) (own_lt ho)
  have ge_ho1 : ∀ k, (y1 : Value).ownBlock = some k → w.heap.size ≤ k := hg.ge (by have := hC.size; omega) ownBlock_nil
  replace hx : Ext w w1 := hx.mono (fun k _ h => by simp [Value.ownBlock] at h)
  replace hC := hC.trans hx
  replace h_g := Blk.ext h_g hx
  replace ho := Own.ext ho hx
  have ho1 := ho1'
  clear ho1'
  have dj_ho_ho1 := djn_ho_ho1
  clear djn_ho_ho1
  clear hx hg
  refine lf_val (v := y1) (wantAll rfl) (rv_assign rfl (fr_eval rfl rfl)) ?_
  refine lf_nil ?_
  refine then_n ?_
  refine wp_gen (fun F' => F' 0 = .pointer (some ⟨g, 0, none⟩) ∧ F' 2 = y1 ∧ F' 4 = .bool false) ⟨e0, rfl, e4⟩ ?_
  clear e0 e2 e4
  clear F
  rintro F ⟨e0, e2, e4⟩
  refine wp_ret ?_
  exact bodyPost_ret (v := y1) (res1 rfl (ro_tmp rfl e2)) rfl (⟨⟨_, rfl, ho1, ge_ho1⟩, hC⟩)

end Go.Proofs.Ytjgcjddaladgfaa
