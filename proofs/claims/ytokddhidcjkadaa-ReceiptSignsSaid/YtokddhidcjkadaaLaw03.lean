/- Chapter 3's laws: few, climb, awake, and the walk of MerkleClimbs. -/
import Derived.Test.YtokddhidcjkadaaMerkles
namespace Go.Bz
open Go.RowKit
/-- At most n elements. -/
def cutR (sz : Nat) (v : Value) (k n : Nat) : Value := if n < k then slcV v sz 0 n else v
theorem Stab.cut {α : Type} {f : α → List Value} {sz : Nat} {N : Nat → Prop} {w0 : World} {v : Value} {xs : List α} {n : Nat} (hf : ∀ x ∈ xs, (f x).length = sz) (hs : Stab N w0 sz v xs.length (xs.flatMap f)) : Stab N w0 sz (cutR sz v xs.length n) (xs.take n).length ((xs.take n).flatMap f) := by
  unfold cutR
  split
  · rename_i h
    have := Stab.slcF (l := 0) (h := n) hf hs rfl (Nat.zero_le _) (by omega)
    simpa using this
  · rename_i h
    rw [List.take_of_length_le (by omega)]; exact hs
end Go.Bz
namespace Go.Proofs.Ytokddhidcjkadaa
open Go.RowKit Go.Bz Go.Bz.Sha Go.Bz.Merkle
attribute [local irreducible] wpList Code.wp wpAnyX

set_option maxRecDepth 100000 in
set_option maxHeartbeats 4000000 in
theorem few03_calls (l : List S32) (v : Value) (w : World) (hr0 : Rd w 32 v l.length (l.flatMap cS)) :
    Calls Try.prog 14 #[v] w fun e'' w' => e'' = .returned (cutR 32 v l.length 40) ∧ Ext w w' := by
  refine calls_fr (args := [v]) (n := 9) Try.func14 rfl rfl (show 1 ≤ 9 by decide) ?_
  have hlm := Rd.max hr0
  have hr := Rd.stab hr0
  have hH : Heap (newN w) w w [] := Heap.fresh
  refine wp_seq ?_
  refine wp_gen (fun F' => F' 0 = v) rfl ?_
  rintro F e0
  refine wp_regionF ?_
  refine lf_val (v := .slice none 0 0) (wantAll rfl) (rv_assign rfl rfl) ?_
  refine lf_nil ?_
  refine then_n ?_
  refine wp_seq ?_
  refine wp_seq ?_
  refine wp_gen (fun F' => F' 0 = v ∧ F' 2 = .slice none 0 0) ⟨e0, rfl⟩ ?_
  clear e0
  clear F
  rintro F ⟨e0, e2⟩
  refine wp_regionF ?_
  refine lf_val (v := v) (wantAll rfl) (rv_move rfl (fr_eval rfl e0)) ?_
  refine lf_val (v := .int .i64 ((l.length : Nat) : Int)) (wantAll rfl) (rv_len rfl (fr_eval rfl rfl) (hr.rd _ hH.chg) Try.underlying24) ?_
  by_cases hc1 : l.length > 40
  · refine lf_val (v := .bool true) (wantAll rfl) (rv_gtr rfl (fr_eval rfl rfl) rfl (decide_eq_true (by omega))) ?_
    refine lf_nil ?_
    refine then_n ?_
    refine wp_gen (fun F' => F' 0 = v ∧ F' 2 = .slice none 0 0 ∧ F' 5 = .bool true) ⟨e0, e2, rfl⟩ ?_
    clear e0 e2
    clear F
    rintro F ⟨e0, e2, e5⟩
    refine wp_cond_true (fr_eval rfl e5) ?_
    refine wp_seq ?_
    refine wp_regionF ?_
    refine lf_val (v := v) (wantAll rfl) (rv_move rfl (fr_eval rfl e0)) ?_
    refine lf_val (v := slcV v 32 0 40) (wantAll rfl) (rv_slcH (h := 40) Try.stSum rfl (fr_eval rfl rfl) (rdN (hr.rd _ hH.chg) rfl) (show _ = Value.int _ ((40 : Nat) : Int) from rfl) (by omega)) ?_
    refine lf_val (v := slcV v 32 0 40) (wantAll rfl) (rv_assign rfl (fr_eval rfl rfl)) ?_
    refine lf_nil ?_
    refine then_n ?_
    refine wp_gen (fun F' => F' 0 = v ∧ F' 2 = slcV v 32 0 40 ∧ F' 5 = .bool true) ⟨e0, rfl, e5⟩ ?_
    clear e0 e2 e5
    clear F
    rintro F ⟨e0, e2, e5⟩
    refine wp_ret ?_
    refine then_ret ?_
    exact bodyPost_ret (v := (slcV v 32 0 40)) (res1 rfl (ro_tmp rfl e2)) rfl (⟨(by unfold cutR; first | rw [if_pos (by omega)] | rw [if_neg (by omega)]), hH.done⟩)
  · refine lf_val (v := .bool false) (wantAll rfl) (rv_gtr rfl (fr_eval rfl rfl) rfl (decide_eq_false (by omega))) ?_
    refine lf_nil ?_
    refine then_n ?_
    refine wp_gen (fun F' => F' 0 = v ∧ F' 2 = .slice none 0 0 ∧ F' 5 = .bool false) ⟨e0, e2, rfl⟩ ?_
    clear e0 e2
    clear F
    rintro F ⟨e0, e2, e5⟩
    refine wp_cond_false (fr_eval rfl e5) ?_
    refine wp_skip ?_
    refine then_n ?_
    refine wp_seq ?_
    refine wp_regionF ?_
    refine lf_val (v := v) (wantAll rfl) (rv_move rfl (fr_eval rfl e0)) ?_
    refine lf_val (v := v) (wantAll rfl) (rv_assign rfl (fr_eval rfl rfl)) ?_
    refine lf_nil ?_
    refine then_n ?_
    refine wp_gen (fun F' => F' 0 = v ∧ F' 2 = v ∧ F' 5 = .bool false) ⟨e0, rfl, e5⟩ ?_
    clear e0 e2 e5
    clear F
    rintro F ⟨e0, e2, e5⟩
    refine wp_ret ?_
    exact bodyPost_ret (v := v) (res1 rfl (ro_tmp rfl e2)) rfl (⟨(by unfold cutR; first | rw [if_pos (by omega)] | rw [if_neg (by omega)]), hH.done⟩)

/-- Where a path leads to, and whether it is as long as it must be. -/
structure ClimbOk (s : S32) (a m : Nat) (p : List S32) (now : S32) (b : Bool) : Prop where
  yes : b = true → chk (leafS s) a m p = some (now, [])
  no : b = false → chk (leafS s) a m p = none ∨ ∃ q n2, chk (leafS s) a m p = some (n2, q) ∧ ¬ q.length = 0
theorem climb_none {s now : S32} {a m : Nat} {p : List S32} (h : chk (leafS s) a m p = none) : ClimbOk s a m p now false := ⟨fun h => (by cases h), fun _ => .inl h⟩
theorem climb_end {s now : S32} {a m k : Nat} {p : List S32} (h : chk (leafS s) a m p = some (now, p.drop k)) (hk : k ≤ p.length) : ClimbOk s a m p now (decide (k = p.length)) := by
  refine ⟨fun hb => ?_, fun hb => .inr ⟨_, _, h, ?_⟩⟩
  · have := of_decide_eq_true hb
    subst this
    rw [h, List.drop_length]
  · have := of_decide_eq_false hb
    rw [List.length_drop]; omega
theorem half_pow {m i : Nat} (h : i < 13) (hm : m ≤ 2 ^ (13 - i)) : (m + 1) / 2 ≤ 2 ^ (13 - (i + 1)) := by
  rw [show 13 - i = (13 - (i + 1)) + 1 by omega, Nat.pow_succ] at hm
  omega
theorem drop_get {p : List S32} {k : Nat} (h : k < p.length) : (p.drop k).getD 0 zS = p.getD k zS := by
  simp [List.getD_eq_getElem?_getD, h]
theorem check_yes {r s now : S32} {a m : Nat} {p : List S32} (hk : a < m ∧ m ≤ 4096) (h : chk (leafS s) a m p = some (now, [])) : checkB r s a m p = (now.1 == r.1) := by
  rw [checkB_some hk h]; rfl
theorem check_no {r s now : S32} {a m : Nat} {p : List S32} (hk : a < m ∧ m ≤ 4096) {b : Bool} (h : ClimbOk s a m p now b) (hb : b = false) : checkB r s a m p = false := by
  rcases h.no hb with h | ⟨q, n2, h, hq⟩
  · exact checkB_none h
  · rw [checkB_some hk h, decide_eq_false hq]; rfl
theorem root1_calls (s : S32) (v : Value) (w : World) (hr : Rd w 32 v [s].length ([s].flatMap cS)) : Calls Try.prog 19 #[v] w fun e'' w' => e'' = .returned (.agg (cBs (leafS s).1).toArray) ∧ Ext w w' := rootS_1 s ▸ root_calls [s] (by simp) v w hr
theorem root2_calls (s t : S32) (v : Value) (w : World) (hr : Rd w 32 v [s, t].length ([s, t].flatMap cS)) : Calls Try.prog 19 #[v] w fun e'' w' => e'' = .returned (.agg (cBs (pairS (leafS s) (leafS t)).1).toArray) ∧ Ext w w' := rootS_2 s t ▸ root_calls [s, t] (by simp) v w hr

set_option maxRecDepth 100000 in
set_option maxHeartbeats 4000000 in
theorem climb03_calls (s : S32) (a0 m0 : Nat) (h0 : a0 < m0 ∧ m0 ≤ 4096) (p : List S32) (v : Value) (w : World) (hr0 : Rd w 32 v p.length (p.flatMap cS)) :
    Calls Try.prog 17 #[.agg (cBs s.1).toArray, .int .i64 ((a0 : Nat) : Int), .int .i64 ((m0 : Nat) : Int), v] w fun e'' w' => (∃ (now : S32) (b : Bool), e'' = .returned (.tuple #[.agg (cBs now.1).toArray, .bool b]) ∧ ClimbOk s a0 m0 p now b) ∧ Ext w w' := by
  refine calls_fr (args := [.agg (cBs s.1).toArray, .int .i64 ((a0 : Nat) : Int), .int .i64 ((m0 : Nat) : Int), v]) (n := 65) Try.func17 rfl rfl (show 4 ≤ 65 by decide) ?_
  have hpm := Rd.max hr0
  have hr := Rd.stab hr0
  have hH : Heap (newN w) w w [] := Heap.fresh
  refine wp_seq ?_
  refine wp_gen (fun F' => F' 0 = .agg (cBs s.1).toArray ∧ F' 1 = .int .i64 ((a0 : Nat) : Int) ∧ F' 2 = .int .i64 ((m0 : Nat) : Int) ∧ F' 3 = v) ⟨rfl, rfl, rfl, rfl⟩ ?_
  rintro F ⟨e0, e1, e2, e3⟩
  refine wp_regionF ?_
  refine lf_ex (wantAll rfl) (hx_box hH 23 (cs := cBs s.1) rfl (fr_eval rfl e0) (by rfl)) ?_
  clear hH
  rintro _ w1 ⟨g1, rfl, hH, hx⟩
  replace hH : Heap (newN w) w w1 [oBlk g1 (cBs s.1) 23] := hH
  clear hx
  refine lf_ex (wantAll rfl) (hx_alloc hH 23 (z := .agg (cBs (List.replicate 32 0)).toArray) (n := 32) (cs := cBs (List.replicate 32 0)) rfl (by kernel_rfl) (by rfl)) ?_
  clear hH
  rintro _ w2 ⟨g2, rfl, hH, hx⟩
  replace hH : Heap (newN w) w w2 [oBlk g1 (cBs s.1) 23, oBlk g2 (cBs (List.replicate 32 0)) 23] := hH
  clear hx
  refine lf_val (v := .bool false) (wantAll rfl) (rv_assign rfl rfl) ?_
  refine lf_nil ?_
  refine then_n ?_
  refine wp_seq ?_
  refine wp_gen (fun F' => F' 0 = .agg (cBs s.1).toArray ∧ F' 1 = .int .i64 ((a0 : Nat) : Int) ∧ F' 2 = .int .i64 ((m0 : Nat) : Int) ∧ F' 3 = v ∧ F' 4 = .pointer (some ⟨g1, 0, none⟩) ∧ F' 8 = .pointer (some ⟨g2, 0, none⟩) ∧ F' 9 = .bool false) ⟨e0, e1, e2, e3, rfl, rfl, rfl⟩ ?_
  clear e0 e1 e2 e3
  clear F
  rintro F ⟨e0, e1, e2, e3, e4, e8, e9⟩
  refine wp_regionF ?_
  refine lf_val (v := .agg (cBs s.1).toArray) (wantAll rfl) (rv_loadW rfl (hH.blk (i := 0) rfl) (fr_eval rfl e4) Try.underlying23 rfl (sz_len Try.sz23 (cBs_len s.2))) ?_
  refine lf_call (wantAll rfl) (rv_call (args := [.agg (cBs s.1).toArray]) rfl (evc (fr_eval rfl rfl) evn) Try.call22) (leaf03_calls s _) ?_
  rintro _ w3 ⟨rfl, hx⟩
  refine ⟨_, rfl, ?_⟩
  replace hH := hH.ext hx
  clear hx
  refine lf_ex (wantAll rfl) (hx_alloc hH 23 (z := .agg (cBs (List.replicate 32 0)).toArray) (n := 32) (cs := cBs (List.replicate 32 0)) rfl (by kernel_rfl) (by rfl)) ?_
  clear hH
  rintro _ w4 ⟨g3, rfl, hH, hx⟩
  replace hH : Heap (newN w) w w4 [oBlk g1 (cBs s.1) 23, oBlk g2 (cBs (List.replicate 32 0)) 23, oBlk g3 (cBs (List.replicate 32 0)) 23] := hH
  clear hx
  refine lf_sk (wantAll rfl) (hx_storeW hH (i := 2) (cs := cBs ((leafS s).1)) rfl rfl rfl (fr_eval rfl rfl) (fr_eval rfl rfl) (sz_len Try.sz23 (cBs_len (leafS s).2)) (((cBs_len (List.length_replicate ..))).trans ((cBs_len (leafS s).2)).symm) ((cBs_one _))) ?_
  clear hH
  rintro w5 ⟨hH, hx⟩
  replace hH : Heap (newN w) w w5 [oBlk g1 (cBs s.1) 23, oBlk g2 (cBs (List.replicate 32 0)) 23, oBlk g3 (cBs ((leafS s).1)) 23] := hH
  clear hx
  refine lf_nil ?_
  refine then_n ?_
  refine wp_seq ?_
  refine wp_gen (fun F' => F' 0 = .agg (cBs s.1).toArray ∧ F' 1 = .int .i64 ((a0 : Nat) : Int) ∧ F' 2 = .int .i64 ((m0 : Nat) : Int) ∧ F' 3 = v ∧ F' 4 = .pointer (some ⟨g1, 0, none⟩) ∧ F' 8 = .pointer (some ⟨g2, 0, none⟩) ∧ F' 9 = .bool false ∧ F' 10 = .pointer (some ⟨g3, 0, none⟩)) ⟨e0, e1, e2, e3, e4, e8, e9, rfl⟩ ?_
  clear e0 e1 e2 e3 e4 e8 e9
  clear F
  rintro F ⟨e0, e1, e2, e3, e4, e8, e9, e10⟩
  refine wp_regionF ?_
  refine lf_val (v := .int .i64 0) (wantAll rfl) (rv_assign rfl rfl) ?_
  refine lf_nil ?_
  refine then_n ?_
  refine wp_seq ?_
  refine wp_seq ?_
  refine wp_gen (fun F' => F' 0 = .agg (cBs s.1).toArray ∧ F' 1 = .int .i64 ((a0 : Nat) : Int) ∧ F' 2 = .int .i64 ((m0 : Nat) : Int) ∧ F' 3 = v ∧ F' 4 = .pointer (some ⟨g1, 0, none⟩) ∧ F' 8 = .pointer (some ⟨g2, 0, none⟩) ∧ F' 9 = .bool false ∧ F' 10 = .pointer (some ⟨g3, 0, none⟩) ∧ F' 11 = .int .i64 0) ⟨e0, e1, e2, e3, e4, e8, e9, e10, rfl⟩ ?_
  clear e0 e1 e2 e3 e4 e8 e9 e10
  clear F
  rintro F ⟨e0, e1, e2, e3, e4, e8, e9, e10, e11⟩
  refine wp_regionF ?_
  refine lf_val (v := .int .i64 0) (wantAll rfl) (rv_assign rfl rfl) ?_
  refine lf_nil ?_
  refine then_n ?_
  refine wp_block ?_
  refine wp_gen (fun F' => F' 0 = .agg (cBs s.1).toArray ∧ F' 1 = .int .i64 ((a0 : Nat) : Int) ∧ F' 2 = .int .i64 ((m0 : Nat) : Int) ∧ F' 3 = v ∧ F' 4 = .pointer (some ⟨g1, 0, none⟩) ∧ F' 8 = .pointer (some ⟨g2, 0, none⟩) ∧ F' 9 = .bool false ∧ F' 10 = .pointer (some ⟨g3, 0, none⟩) ∧ F' 11 = .int .i64 0 ∧ F' 12 = .int .i64 0) ⟨e0, e1, e2, e3, e4, e8, e9, e10, e11, rfl⟩ ?_
  clear e0 e1 e2 e3 e4 e8 e9 e10 e11
  clear F
  rintro F ⟨e0, e1, e2, e3, e4, e8, e9, e10, e11, e12⟩
  refine wp_loopF (fun m F wr => ∃ i : Nat, ∃ a : Nat, ∃ m2 : Nat, ∃ k : Nat, ∃ now : S32, m = 13 - i ∧ a < m2 ∧ m2 ≤ 2 ^ (13 - i) ∧ i ≤ 13 ∧ k ≤ p.length ∧ chk (leafS s) a0 m0 p = chk now a m2 (p.drop k) ∧ m2 ≤ 4096 ∧ F 0 = .agg (cBs s.1).toArray ∧ F 1 = .int .i64 ((a : Nat) : Int) ∧ F 2 = .int .i64 ((m2 : Nat) : Int) ∧ F 3 = v ∧ F 4 = .pointer (some ⟨g1, 0, none⟩) ∧ F 8 = .pointer (some ⟨g2, 0, none⟩) ∧ F 10 = .pointer (some ⟨g3, 0, none⟩) ∧ F 11 = .int .i64 ((k : Nat) : Int) ∧ F 12 = .int .i64 ((i : Nat) : Int) ∧ Heap (newN w) w wr [oBlk g1 (cBs s.1) 23, oBlk g2 (cBs (List.replicate 32 0)) 23, oBlk g3 (cBs now.1) 23]) ⟨0, a0, m0, 0, leafS s, rfl, (by omega), (Nat.le_trans h0.2 (by decide)), (by omega), (by omega), rfl, h0.2, e0, e1, e2, e3, e4, e8, e10, e11, e12, hH⟩ ?_
  clear e0 e1 e2 e3 e4 e8 e9 e10 e11 e12 hH
  clear F
  rintro m F w6 ⟨i, a, m2, k, now, rfl, pi0, pi1, pi2, pi3, pi4, pi5, e0, e1, e2, e3, e4, e8, e10, e11, e12, hH⟩
  refine wp_seq ?_
  refine wp_seq ?_
  refine wp_regionF ?_
  refine lf_val (v := .int .i64 ((i : Nat) : Int)) (wantAll rfl) (rv_move rfl (fr_eval rfl e12)) ?_
  by_cases hc1 : i < 13
  · refine lf_val (v := .bool true) (wantAll rfl) (rv_lss rfl (fr_eval rfl rfl) rfl (decide_eq_true (by omega))) ?_
    refine lf_val (v := .bool true) (wantAll rfl) (rv_move rfl (fr_eval rfl rfl)) ?_
    refine lf_val (v := .int .i64 ((m2 : Nat) : Int)) (wantF (d := 18) rfl (by kernel_rfl) rfl rfl) (rv_move rfl (fr_eval rfl e2)) ?_
    by_cases hc2 : m2 > 1
    · refine lf_val (v := .bool true) (wantF (d := 18) rfl (by kernel_rfl) rfl rfl) (rv_gtr rfl (fr_eval rfl rfl) rfl (decide_eq_true (by omega))) ?_
      refine lf_val (v := .bool true) (wantAll rfl) (rv_pickT rfl (fr_eval rfl rfl) (fr_eval rfl rfl)) ?_
      refine lf_nil ?_
      refine then_n ?_
      refine wp_gen (fun F' => F' 0 = .agg (cBs s.1).toArray ∧ F' 1 = .int .i64 ((a : Nat) : Int) ∧ F' 2 = .int .i64 ((m2 : Nat) : Int) ∧ F' 3 = v ∧ F' 4 = .pointer (some ⟨g1, 0, none⟩) ∧ F' 8 = .pointer (some ⟨g2, 0, none⟩) ∧ F' 10 = .pointer (some ⟨g3, 0, none⟩) ∧ F' 11 = .int .i64 ((k : Nat) : Int) ∧ F' 12 = .int .i64 ((i : Nat) : Int) ∧ F' 21 = .bool true) ⟨e0, e1, e2, e3, e4, e8, e10, e11, e12, rfl⟩ ?_
      clear e0 e1 e2 e3 e4 e8 e10 e11 e12
      clear F
      rintro F ⟨e0, e1, e2, e3, e4, e8, e10, e11, e12, e21⟩
      refine wp_cond_true (fr_eval rfl e21) ?_
      refine wp_skip ?_
      refine then_n ?_
      refine wp_seq ?_
      refine wp_block ?_
      refine wp_seq ?_
      have hbe : beside a = a + 1 - 2 * (a % 2) := rfl
      refine wp_regionF ?_
      refine lf_val (v := .int .i64 ((a : Nat) : Int)) (wantAll rfl) (rv_move rfl (fr_eval rfl e1)) ?_
      refine lf_val (v := .int .i64 ((a + 1 : Nat) : Int)) (wantAll rfl) (rv_add rfl (fr_eval rfl rfl) rfl (wrap_i64 (by omega) (by omega) (by omega))) ?_
      refine lf_val (v := .int .i64 ((a : Nat) : Int)) (wantAll rfl) (rv_move rfl (fr_eval rfl e1)) ?_
      refine lf_val (v := .int .i64 ((a % 2 : Nat) : Int)) (wantAll rfl) (rv_rem rfl (fr_eval rfl rfl) rfl (by decide) (rem_nat _ 2)) ?_
      refine lf_val (v := .int .i64 ((2 * (a % 2) : Nat) : Int)) (wantAll rfl) (rv_mul rfl rfl (fr_eval rfl rfl) (wrap_i64 (by omega) (by omega) (by omega))) ?_
      refine lf_val (v := .int .i64 ((beside a : Nat) : Int)) (wantAll rfl) (rv_sub rfl (fr_eval rfl rfl) (fr_eval rfl rfl) (wrap_i64 (by omega) (by omega) (by omega))) ?_
      refine lf_val (v := .int .i64 ((beside a : Nat) : Int)) (wantAll rfl) (rv_assign rfl (fr_eval rfl rfl)) ?_
      refine lf_nil ?_
      refine then_n ?_
      refine wp_seq ?_
      refine wp_seq ?_
      refine wp_gen (fun F' => F' 0 = .agg (cBs s.1).toArray ∧ F' 1 = .int .i64 ((a : Nat) : Int) ∧ F' 2 = .int .i64 ((m2 : Nat) : Int) ∧ F' 3 = v ∧ F' 4 = .pointer (some ⟨g1, 0, none⟩) ∧ F' 8 = .pointer (some ⟨g2, 0, none⟩) ∧ F' 10 = .pointer (some ⟨g3, 0, none⟩) ∧ F' 11 = .int .i64 ((k : Nat) : Int) ∧ F' 12 = .int .i64 ((i : Nat) : Int) ∧ F' 13 = .int .i64 ((beside a : Nat) : Int) ∧ F' 21 = .bool true) ⟨e0, e1, e2, e3, e4, e8, e10, e11, e12, rfl, e21⟩ ?_
      clear e0 e1 e2 e3 e4 e8 e10 e11 e12 e21
      clear F
      rintro F ⟨e0, e1, e2, e3, e4, e8, e10, e11, e12, e13, e21⟩
      refine wp_regionF ?_
      refine lf_val (v := .int .i64 ((beside a : Nat) : Int)) (wantAll rfl) (rv_move rfl (fr_eval rfl e13)) ?_
      refine lf_val (v := .int .i64 ((m2 : Nat) : Int)) (wantAll rfl) (rv_move rfl (fr_eval rfl e2)) ?_
      by_cases hc3 : beside a < m2
      · refine lf_val (v := .bool true) (wantAll rfl) (rv_lss rfl (fr_eval rfl rfl) (fr_eval rfl rfl) (decide_eq_true (by omega))) ?_
        refine lf_nil ?_
        refine then_n ?_
        refine wp_gen (fun F' => F' 0 = .agg (cBs s.1).toArray ∧ F' 1 = .int .i64 ((a : Nat) : Int) ∧ F' 2 = .int .i64 ((m2 : Nat) : Int) ∧ F' 3 = v ∧ F' 4 = .pointer (some ⟨g1, 0, none⟩) ∧ F' 8 = .pointer (some ⟨g2, 0, none⟩) ∧ F' 10 = .pointer (some ⟨g3, 0, none⟩) ∧ F' 11 = .int .i64 ((k : Nat) : Int) ∧ F' 12 = .int .i64 ((i : Nat) : Int) ∧ F' 13 = .int .i64 ((beside a : Nat) : Int) ∧ F' 21 = .bool true ∧ F' 32 = .bool true) ⟨e0, e1, e2, e3, e4, e8, e10, e11, e12, e13, e21, rfl⟩ ?_
        clear e0 e1 e2 e3 e4 e8 e10 e11 e12 e13 e21
        clear F
        rintro F ⟨e0, e1, e2, e3, e4, e8, e10, e11, e12, e13, e21, e32⟩
        refine wp_cond_true (fr_eval rfl e32) ?_
        refine wp_seq ?_
        refine wp_seq ?_
        refine wp_regionF ?_
        refine lf_val (v := .int .i64 ((k : Nat) : Int)) (wantAll rfl) (rv_move rfl (fr_eval rfl e11)) ?_
        refine lf_val (v := v) (wantAll rfl) (rv_move rfl (fr_eval rfl e3)) ?_
        refine lf_val (v := .int .i64 ((p.length : Nat) : Int)) (wantAll rfl) (rv_len rfl (fr_eval rfl rfl) (hr.rd _ hH.chg) Try.underlying24) ?_
        by_cases hc4 : k ≥ p.length
        · refine lf_val (v := .bool true) (wantAll rfl) (rv_geq rfl (fr_eval rfl rfl) (fr_eval rfl rfl) (decide_eq_true (by omega))) ?_
          refine lf_nil ?_
          refine then_n ?_
          refine wp_gen (fun F' => F' 0 = .agg (cBs s.1).toArray ∧ F' 1 = .int .i64 ((a : Nat) : Int) ∧ F' 2 = .int .i64 ((m2 : Nat) : Int) ∧ F' 3 = v ∧ F' 4 = .pointer (some ⟨g1, 0, none⟩) ∧ F' 8 = .pointer (some ⟨g2, 0, none⟩) ∧ F' 10 = .pointer (some ⟨g3, 0, none⟩) ∧ F' 11 = .int .i64 ((k : Nat) : Int) ∧ F' 12 = .int .i64 ((i : Nat) : Int) ∧ F' 13 = .int .i64 ((beside a : Nat) : Int) ∧ F' 21 = .bool true ∧ F' 32 = .bool true ∧ F' 36 = .bool true) ⟨e0, e1, e2, e3, e4, e8, e10, e11, e12, e13, e21, e32, rfl⟩ ?_
          clear e0 e1 e2 e3 e4 e8 e10 e11 e12 e13 e21 e32
          clear F
          rintro F ⟨e0, e1, e2, e3, e4, e8, e10, e11, e12, e13, e21, e32, e36⟩
          refine wp_cond_true (fr_eval rfl e36) ?_
          refine wp_seq ?_
          refine wp_regionF ?_
          refine lf_val (v := .agg (cBs now.1).toArray) (wantAll rfl) (rv_loadW rfl (hH.blk (i := 2) rfl) (fr_eval rfl e10) Try.underlying23 rfl (sz_len Try.sz23 (cBs_len now.2))) ?_
          refine lf_sk (wantAll rfl) (hx_storeW hH (i := 1) (cs := cBs now.1) rfl rfl rfl (fr_eval rfl e8) (fr_eval rfl rfl) (sz_len Try.sz23 (cBs_len now.2)) (((cBs_len (List.length_replicate ..))).trans ((cBs_len now.2)).symm) ((cBs_one _))) ?_
          clear hH
          rintro w7 ⟨hH, hx⟩
          replace hH : Heap (newN w) w w7 [oBlk g1 (cBs s.1) 23, oBlk g2 (cBs now.1) 23, oBlk g3 (cBs now.1) 23] := hH
          clear hx
          refine lf_val (v := .bool false) (wantAll rfl) (rv_assign rfl rfl) ?_
          refine lf_nil ?_
          refine then_n ?_
          refine wp_gen (fun F' => F' 0 = .agg (cBs s.1).toArray ∧ F' 1 = .int .i64 ((a : Nat) : Int) ∧ F' 2 = .int .i64 ((m2 : Nat) : Int) ∧ F' 3 = v ∧ F' 4 = .pointer (some ⟨g1, 0, none⟩) ∧ F' 8 = .pointer (some ⟨g2, 0, none⟩) ∧ F' 9 = .bool false ∧ F' 10 = .pointer (some ⟨g3, 0, none⟩) ∧ F' 11 = .int .i64 ((k : Nat) : Int) ∧ F' 12 = .int .i64 ((i : Nat) : Int) ∧ F' 13 = .int .i64 ((beside a : Nat) : Int) ∧ F' 21 = .bool true ∧ F' 32 = .bool true ∧ F' 36 = .bool true) ⟨e0, e1, e2, e3, e4, e8, rfl, e10, e11, e12, e13, e21, e32, e36⟩ ?_
          clear e0 e1 e2 e3 e4 e8 e10 e11 e12 e13 e21 e32 e36
          clear F
          rintro F ⟨e0, e1, e2, e3, e4, e8, e9, e10, e11, e12, e13, e21, e32, e36⟩
          refine wp_ret ?_
          refine then_ret ?_
          refine then_ret ?_
          refine blk_ret ?_
          refine then_ret ?_
          refine then_ret ?_
          refine blk_ret ?_
          refine then_ret ?_
          exact bodyPost_ret (v := .tuple #[.agg (cBs now.1).toArray, .bool false]) (res2 rfl (ro_cell rfl e8 (hH.blk (i := 1) rfl) Try.underlying23 rfl (sz_len Try.sz23 (cBs_len now.2))) (ro_tmp rfl e9)) rfl (⟨⟨now, false, rfl, climb_none (pi4.trans (chk_none (by omega) (by omega) (by rw [List.length_drop]; omega)))⟩, hH.done⟩)
        · refine lf_val (v := .bool false) (wantAll rfl) (rv_geq rfl (fr_eval rfl rfl) (fr_eval rfl rfl) (decide_eq_false (by omega))) ?_
          refine lf_nil ?_
          refine then_n ?_
          refine wp_gen (fun F' => F' 0 = .agg (cBs s.1).toArray ∧ F' 1 = .int .i64 ((a : Nat) : Int) ∧ F' 2 = .int .i64 ((m2 : Nat) : Int) ∧ F' 3 = v ∧ F' 4 = .pointer (some ⟨g1, 0, none⟩) ∧ F' 8 = .pointer (some ⟨g2, 0, none⟩) ∧ F' 10 = .pointer (some ⟨g3, 0, none⟩) ∧ F' 11 = .int .i64 ((k : Nat) : Int) ∧ F' 12 = .int .i64 ((i : Nat) : Int) ∧ F' 13 = .int .i64 ((beside a : Nat) : Int) ∧ F' 21 = .bool true ∧ F' 32 = .bool true ∧ F' 36 = .bool false) ⟨e0, e1, e2, e3, e4, e8, e10, e11, e12, e13, e21, e32, rfl⟩ ?_
          clear e0 e1 e2 e3 e4 e8 e10 e11 e12 e13 e21 e32
          clear F
          rintro F ⟨e0, e1, e2, e3, e4, e8, e10, e11, e12, e13, e21, e32, e36⟩
          refine wp_cond_false (fr_eval rfl e36) ?_
          refine wp_skip ?_
          refine then_n ?_
          refine wp_seq ?_
          refine wp_seq ?_
          refine wp_regionF ?_
          refine lf_val (v := .int .i64 ((a : Nat) : Int)) (wantAll rfl) (rv_move rfl (fr_eval rfl e1)) ?_
          refine lf_val (v := .int .i64 ((a % 2 : Nat) : Int)) (wantAll rfl) (rv_rem rfl (fr_eval rfl rfl) rfl (by decide) (rem_nat _ 2)) ?_
          by_cases hc5 : a % 2 = 0
          · refine lf_val (v := .bool true) (wantAll rfl) (rv_eql rfl (fr_eval rfl rfl) rfl (decide_eq_true (by omega))) ?_
            refine lf_nil ?_
            refine then_n ?_
            refine wp_gen (fun F' => F' 0 = .agg (cBs s.1).toArray ∧ F' 1 = .int .i64 ((a : Nat) : Int) ∧ F' 2 = .int .i64 ((m2 : Nat) : Int) ∧ F' 3 = v ∧ F' 4 = .pointer (some ⟨g1, 0, none⟩) ∧ F' 8 = .pointer (some ⟨g2, 0, none⟩) ∧ F' 10 = .pointer (some ⟨g3, 0, none⟩) ∧ F' 11 = .int .i64 ((k : Nat) : Int) ∧ F' 12 = .int .i64 ((i : Nat) : Int) ∧ F' 13 = .int .i64 ((beside a : Nat) : Int) ∧ F' 21 = .bool true ∧ F' 32 = .bool true ∧ F' 36 = .bool false ∧ F' 40 = .bool true) ⟨e0, e1, e2, e3, e4, e8, e10, e11, e12, e13, e21, e32, e36, rfl⟩ ?_
            clear e0 e1 e2 e3 e4 e8 e10 e11 e12 e13 e21 e32 e36
            clear F
            rintro F ⟨e0, e1, e2, e3, e4, e8, e10, e11, e12, e13, e21, e32, e36, e40⟩
            refine wp_cond_true (fr_eval rfl e40) ?_
            refine wp_regionX (fun _ => False) 5 (by kernel_rfl) (by kernel_rfl) ?_
            refine xl_take (i := 0) (v := .agg (cBs now.1).toArray) rfl (by kernel_rfl) (by kernel_rfl) (by kernel_rfl) (by kernel_rfl) (yx_val (wantAll rfl) (fun w' hx' => rv_loadW rfl ((hH.ext hx').blk (i := 2) rfl) (fr_eval rfl e10) Try.underlying23 rfl (sz_len Try.sz23 (cBs_len now.2)))) ?_
            refine xl_take (i := 1) (v := v) rfl (by kernel_rfl) (by kernel_rfl) (by kernel_rfl) (by kernel_rfl) (yx_val (wantAll rfl) (fun w' hx' => rv_move rfl (fr_eval rfl e3))) ?_
            refine xl_take (i := 2) (v := .int .i64 ((k : Nat) : Int)) rfl (by kernel_rfl) (by kernel_rfl) (by kernel_rfl) (by kernel_rfl) (yx_val (wantAll rfl) (fun w' hx' => rv_move rfl (fr_eval rfl e11))) ?_
            refine xl_take (i := 3) (v := .pointer (some (elemA v (k * 32)))) rfl (by kernel_rfl) (by kernel_rfl) (by kernel_rfl) (by kernel_rfl) (yx_val (wantAll rfl) (fun w' hx' => rv_index rfl (fr_eval rfl rfl) (fr_eval rfl rfl) (rdN (hr.rd _ (hH.chg.trans (Ext.any hx'))) rfl) (show k < p.length from (by omega)) Try.underlying24 Try.sz23 (by decide))) ?_
            refine xl_take (i := 4) (v := .agg (cBs (((List.getD p k zS)).1)).toArray) rfl (by kernel_rfl) (by kernel_rfl) (by kernel_rfl) (by kernel_rfl) (yx_val (wantAll rfl) (fun w' hx' => rv_loadElem rfl (fr_eval rfl rfl) (rdN (hr.rd _ (hH.chg.trans (Ext.any hx'))) rfl) (show k < p.length from (by omega)) (by decide) (flat_part zS cS_len (show k < p.length from (by omega))) Try.underlying23 rfl Try.sz23)) ?_
            refine xl_tail (s := 5) rfl ?_
            intro w8 hx
            replace hH := hH.ext hx
            clear hx
            refine lf_call (wantAll rfl) (rv_call (args := [cB 2, .agg (cBs now.1).toArray, .agg (cBs (((List.getD p k zS)).1)).toArray]) rfl (evc rfl (evc (fr_eval rfl rfl) (evc (fr_eval rfl rfl) evn))) Try.call59) (pair_calls 2 now.1 (((List.getD p k zS)).1) now.2 (((List.getD p k zS)).2) _) ?_
            rintro _ w9 ⟨rfl, hx⟩
            refine ⟨_, rfl, ?_⟩
            replace hH := hH.ext hx
            clear hx
            refine lf_sk (wantAll rfl) (hx_storeW hH (i := 2) (cs := cBs ((pairS now ((List.getD p k zS))).1)) rfl rfl rfl (fr_eval rfl e10) (fr_eval rfl rfl) (sz_len Try.sz23 (cBs_len (pairS now ((List.getD p k zS))).2)) (((cBs_len now.2)).trans ((cBs_len (pairS now ((List.getD p k zS))).2)).symm) ((cBs_one _))) ?_
            clear hH
            rintro w10 ⟨hH, hx⟩
            replace hH : Heap (newN w) w w10 [oBlk g1 (cBs s.1) 23, oBlk g2 (cBs (List.replicate 32 0)) 23, oBlk g3 (cBs ((pairS now ((List.getD p k zS))).1)) 23] := hH
            clear hx
            refine lf_nil ?_
            refine then_n ?_
            refine wp_gen (fun F' => F' 0 = .agg (cBs s.1).toArray ∧ F' 1 = .int .i64 ((a : Nat) : Int) ∧ F' 2 = .int .i64 ((m2 : Nat) : Int) ∧ F' 3 = v ∧ F' 4 = .pointer (some ⟨g1, 0, none⟩) ∧ F' 8 = .pointer (some ⟨g2, 0, none⟩) ∧ F' 10 = .pointer (some ⟨g3, 0, none⟩) ∧ F' 11 = .int .i64 ((k : Nat) : Int) ∧ F' 12 = .int .i64 ((i : Nat) : Int) ∧ F' 13 = .int .i64 ((beside a : Nat) : Int) ∧ F' 21 = .bool true ∧ F' 32 = .bool true ∧ F' 36 = .bool false ∧ F' 40 = .bool true) ⟨e0, e1, e2, e3, e4, e8, e10, e11, e12, e13, e21, e32, e36, e40⟩ ?_
            clear e0 e1 e2 e3 e4 e8 e10 e11 e12 e13 e21 e32 e36 e40
            clear F
            rintro F ⟨e0, e1, e2, e3, e4, e8, e10, e11, e12, e13, e21, e32, e36, e40⟩
            refine wp_regionF ?_
            refine lf_val (v := .int .i64 ((k : Nat) : Int)) (wantAll rfl) (rv_move rfl (fr_eval rfl e11)) ?_
            refine lf_val (v := .int .i64 ((k + 1 : Nat) : Int)) (wantAll rfl) (rv_add rfl (fr_eval rfl rfl) rfl (wrap_i64 (by omega) (by omega) (by omega))) ?_
            refine lf_val (v := .int .i64 ((k + 1 : Nat) : Int)) (wantAll rfl) (rv_assign rfl (fr_eval rfl rfl)) ?_
            refine lf_nil ?_
            refine then_n ?_
            refine wp_seq ?_
            refine wp_gen (fun F' => F' 0 = .agg (cBs s.1).toArray ∧ F' 1 = .int .i64 ((a : Nat) : Int) ∧ F' 2 = .int .i64 ((m2 : Nat) : Int) ∧ F' 3 = v ∧ F' 4 = .pointer (some ⟨g1, 0, none⟩) ∧ F' 8 = .pointer (some ⟨g2, 0, none⟩) ∧ F' 10 = .pointer (some ⟨g3, 0, none⟩) ∧ F' 11 = .int .i64 ((k + 1 : Nat) : Int) ∧ F' 12 = .int .i64 ((i : Nat) : Int) ∧ F' 13 = .int .i64 ((beside a : Nat) : Int) ∧ F' 21 = .bool true ∧ F' 32 = .bool true ∧ F' 36 = .bool false ∧ F' 40 = .bool true) ⟨e0, e1, e2, e3, e4, e8, e10, rfl, e12, e13, e21, e32, e36, e40⟩ ?_
            clear e0 e1 e2 e3 e4 e8 e10 e11 e12 e13 e21 e32 e36 e40
            clear F
            rintro F ⟨e0, e1, e2, e3, e4, e8, e10, e11, e12, e13, e21, e32, e36, e40⟩
            refine wp_regionF ?_
            refine lf_val (v := .int .i64 ((a : Nat) : Int)) (wantAll rfl) (rv_move rfl (fr_eval rfl e1)) ?_
            refine lf_val (v := .int .i64 ((a / 2 : Nat) : Int)) (wantAll rfl) (rv_quo rfl (fr_eval rfl rfl) rfl (by decide) (quo_nat (n := 2) (by omega))) ?_
            refine lf_val (v := .int .i64 ((a / 2 : Nat) : Int)) (wantAll rfl) (rv_assign rfl (fr_eval rfl rfl)) ?_
            refine lf_nil ?_
            refine then_n ?_
            refine wp_gen (fun F' => F' 0 = .agg (cBs s.1).toArray ∧ F' 1 = .int .i64 ((a / 2 : Nat) : Int) ∧ F' 2 = .int .i64 ((m2 : Nat) : Int) ∧ F' 3 = v ∧ F' 4 = .pointer (some ⟨g1, 0, none⟩) ∧ F' 8 = .pointer (some ⟨g2, 0, none⟩) ∧ F' 10 = .pointer (some ⟨g3, 0, none⟩) ∧ F' 11 = .int .i64 ((k + 1 : Nat) : Int) ∧ F' 12 = .int .i64 ((i : Nat) : Int) ∧ F' 13 = .int .i64 ((beside a : Nat) : Int) ∧ F' 21 = .bool true ∧ F' 32 = .bool true ∧ F' 36 = .bool false ∧ F' 40 = .bool true) ⟨e0, rfl, e2, e3, e4, e8, e10, e11, e12, e13, e21, e32, e36, e40⟩ ?_
            clear e0 e1 e2 e3 e4 e8 e10 e11 e12 e13 e21 e32 e36 e40
            clear F
            rintro F ⟨e0, e1, e2, e3, e4, e8, e10, e11, e12, e13, e21, e32, e36, e40⟩
            refine wp_regionF ?_
            refine lf_val (v := .int .i64 ((m2 : Nat) : Int)) (wantAll rfl) (rv_move rfl (fr_eval rfl e2)) ?_
            refine lf_val (v := .int .i64 ((m2 + 1 : Nat) : Int)) (wantAll rfl) (rv_add rfl (fr_eval rfl rfl) rfl (wrap_i64 (by omega) (by omega) (by omega))) ?_
            refine lf_val (v := .int .i64 (((m2 + 1) / 2 : Nat) : Int)) (wantAll rfl) (rv_quo rfl (fr_eval rfl rfl) rfl (by decide) (quo_nat (n := 2) (by omega))) ?_
            refine lf_val (v := .int .i64 (((m2 + 1) / 2 : Nat) : Int)) (wantAll rfl) (rv_assign rfl (fr_eval rfl rfl)) ?_
            refine lf_nil ?_
            refine blk_n ?_
            refine then_n ?_
            refine wp_gen (fun F' => F' 0 = .agg (cBs s.1).toArray ∧ F' 1 = .int .i64 ((a / 2 : Nat) : Int) ∧ F' 2 = .int .i64 (((m2 + 1) / 2 : Nat) : Int) ∧ F' 3 = v ∧ F' 4 = .pointer (some ⟨g1, 0, none⟩) ∧ F' 8 = .pointer (some ⟨g2, 0, none⟩) ∧ F' 10 = .pointer (some ⟨g3, 0, none⟩) ∧ F' 11 = .int .i64 ((k + 1 : Nat) : Int) ∧ F' 12 = .int .i64 ((i : Nat) : Int) ∧ F' 13 = .int .i64 ((beside a : Nat) : Int) ∧ F' 21 = .bool true ∧ F' 32 = .bool true ∧ F' 36 = .bool false ∧ F' 40 = .bool true) ⟨e0, e1, rfl, e3, e4, e8, e10, e11, e12, e13, e21, e32, e36, e40⟩ ?_
            clear e0 e1 e2 e3 e4 e8 e10 e11 e12 e13 e21 e32 e36 e40
            clear F
            rintro F ⟨e0, e1, e2, e3, e4, e8, e10, e11, e12, e13, e21, e32, e36, e40⟩
            refine wp_regionF ?_
            refine lf_val (v := .int .i64 ((i : Nat) : Int)) (wantAll rfl) (rv_move rfl (fr_eval rfl e12)) ?_
            refine lf_val (v := .int .i64 ((i + 1 : Nat) : Int)) (wantAll rfl) (rv_add rfl (fr_eval rfl rfl) rfl (wrap_i64 (by omega) (by omega) (by omega))) ?_
            refine lf_val (v := .int .i64 ((i + 1 : Nat) : Int)) (wantAll rfl) (rv_assign rfl (fr_eval rfl rfl)) ?_
            refine lf_nil ?_
            refine then_n ?_
            exact ⟨_, _, (by omega), rfl, i + 1, _, _, k + 1, (pairS now ((List.getD p k zS))), rfl, (by omega), (half_pow (by omega) pi1), (by omega), (by omega), (by rw [pi4, chk_go (by omega) (by unfold beside; omega) (by rw [List.length_drop]; omega), List.drop_drop, drop_get (by omega)]; first | done | rw [if_pos (by omega)] | rw [if_neg (by omega)]), (by omega), e0, e1, e2, e3, e4, e8, e10, e11, rfl, hH⟩
          · refine lf_val (v := .bool false) (wantAll rfl) (rv_eql rfl (fr_eval rfl rfl) rfl (decide_eq_false (by omega))) ?_
            refine lf_nil ?_
            refine then_n ?_
            refine wp_gen (fun F' => F' 0 = .agg (cBs s.1).toArray ∧ F' 1 = .int .i64 ((a : Nat) : Int) ∧ F' 2 = .int .i64 ((m2 : Nat) : Int) ∧ F' 3 = v ∧ F' 4 = .pointer (some ⟨g1, 0, none⟩) ∧ F' 8 = .pointer (some ⟨g2, 0, none⟩) ∧ F' 10 = .pointer (some ⟨g3, 0, none⟩) ∧ F' 11 = .int .i64 ((k : Nat) : Int) ∧ F' 12 = .int .i64 ((i : Nat) : Int) ∧ F' 13 = .int .i64 ((beside a : Nat) : Int) ∧ F' 21 = .bool true ∧ F' 32 = .bool true ∧ F' 36 = .bool false ∧ F' 40 = .bool false) ⟨e0, e1, e2, e3, e4, e8, e10, e11, e12, e13, e21, e32, e36, rfl⟩ ?_
            clear e0 e1 e2 e3 e4 e8 e10 e11 e12 e13 e21 e32 e36
            clear F
            rintro F ⟨e0, e1, e2, e3, e4, e8, e10, e11, e12, e13, e21, e32, e36, e40⟩
            refine wp_cond_false (fr_eval rfl e40) ?_
            refine wp_regionX (fun _ => False) 5 (by kernel_rfl) (by kernel_rfl) ?_
            refine xl_take (i := 0) (v := v) rfl (by kernel_rfl) (by kernel_rfl) (by kernel_rfl) (by kernel_rfl) (yx_val (wantAll rfl) (fun w' hx' => rv_move rfl (fr_eval rfl e3))) ?_
            refine xl_take (i := 1) (v := .int .i64 ((k : Nat) : Int)) rfl (by kernel_rfl) (by kernel_rfl) (by kernel_rfl) (by kernel_rfl) (yx_val (wantAll rfl) (fun w' hx' => rv_move rfl (fr_eval rfl e11))) ?_
            refine xl_take (i := 2) (v := .pointer (some (elemA v (k * 32)))) rfl (by kernel_rfl) (by kernel_rfl) (by kernel_rfl) (by kernel_rfl) (yx_val (wantAll rfl) (fun w' hx' => rv_index rfl (fr_eval rfl rfl) (fr_eval rfl rfl) (rdN (hr.rd _ (hH.chg.trans (Ext.any hx'))) rfl) (show k < p.length from (by omega)) Try.underlying24 Try.sz23 (by decide))) ?_
            refine xl_take (i := 3) (v := .agg (cBs (((List.getD p k zS)).1)).toArray) rfl (by kernel_rfl) (by kernel_rfl) (by kernel_rfl) (by kernel_rfl) (yx_val (wantAll rfl) (fun w' hx' => rv_loadElem rfl (fr_eval rfl rfl) (rdN (hr.rd _ (hH.chg.trans (Ext.any hx'))) rfl) (show k < p.length from (by omega)) (by decide) (flat_part zS cS_len (show k < p.length from (by omega))) Try.underlying23 rfl Try.sz23)) ?_
            refine xl_take (i := 4) (v := .agg (cBs now.1).toArray) rfl (by kernel_rfl) (by kernel_rfl) (by kernel_rfl) (by kernel_rfl) (yx_val (wantAll rfl) (fun w' hx' => rv_loadW rfl ((hH.ext hx').blk (i := 2) rfl) (fr_eval rfl e10) Try.underlying23 rfl (sz_len Try.sz23 (cBs_len now.2)))) ?_
            refine xl_tail (s := 5) rfl ?_
            intro w11 hx
            replace hH := hH.ext hx
            clear hx
            refine lf_call (wantAll rfl) (rv_call (args := [cB 2, .agg (cBs (((List.getD p k zS)).1)).toArray, .agg (cBs now.1).toArray]) rfl (evc rfl (evc (fr_eval rfl rfl) (evc (fr_eval rfl rfl) evn))) Try.call59) (pair_calls 2 (((List.getD p k zS)).1) now.1 (((List.getD p k zS)).2) now.2 _) ?_
            rintro _ w12 ⟨rfl, hx⟩
            refine ⟨_, rfl, ?_⟩
            replace hH := hH.ext hx
            clear hx
            refine lf_sk (wantAll rfl) (hx_storeW hH (i := 2) (cs := cBs ((pairS ((List.getD p k zS)) now).1)) rfl rfl rfl (fr_eval rfl e10) (fr_eval rfl rfl) (sz_len Try.sz23 (cBs_len (pairS ((List.getD p k zS)) now).2)) (((cBs_len now.2)).trans ((cBs_len (pairS ((List.getD p k zS)) now).2)).symm) ((cBs_one _))) ?_
            clear hH
            rintro w13 ⟨hH, hx⟩
            replace hH : Heap (newN w) w w13 [oBlk g1 (cBs s.1) 23, oBlk g2 (cBs (List.replicate 32 0)) 23, oBlk g3 (cBs ((pairS ((List.getD p k zS)) now).1)) 23] := hH
            clear hx
            refine lf_nil ?_
            refine then_n ?_
            refine wp_gen (fun F' => F' 0 = .agg (cBs s.1).toArray ∧ F' 1 = .int .i64 ((a : Nat) : Int) ∧ F' 2 = .int .i64 ((m2 : Nat) : Int) ∧ F' 3 = v ∧ F' 4 = .pointer (some ⟨g1, 0, none⟩) ∧ F' 8 = .pointer (some ⟨g2, 0, none⟩) ∧ F' 10 = .pointer (some ⟨g3, 0, none⟩) ∧ F' 11 = .int .i64 ((k : Nat) : Int) ∧ F' 12 = .int .i64 ((i : Nat) : Int) ∧ F' 13 = .int .i64 ((beside a : Nat) : Int) ∧ F' 21 = .bool true ∧ F' 32 = .bool true ∧ F' 36 = .bool false ∧ F' 40 = .bool false) ⟨e0, e1, e2, e3, e4, e8, e10, e11, e12, e13, e21, e32, e36, e40⟩ ?_
            clear e0 e1 e2 e3 e4 e8 e10 e11 e12 e13 e21 e32 e36 e40
            clear F
            rintro F ⟨e0, e1, e2, e3, e4, e8, e10, e11, e12, e13, e21, e32, e36, e40⟩
            refine wp_regionF ?_
            refine lf_val (v := .int .i64 ((k : Nat) : Int)) (wantAll rfl) (rv_move rfl (fr_eval rfl e11)) ?_
            refine lf_val (v := .int .i64 ((k + 1 : Nat) : Int)) (wantAll rfl) (rv_add rfl (fr_eval rfl rfl) rfl (wrap_i64 (by omega) (by omega) (by omega))) ?_
            refine lf_val (v := .int .i64 ((k + 1 : Nat) : Int)) (wantAll rfl) (rv_assign rfl (fr_eval rfl rfl)) ?_
            refine lf_nil ?_
            refine then_n ?_
            refine wp_seq ?_
            refine wp_gen (fun F' => F' 0 = .agg (cBs s.1).toArray ∧ F' 1 = .int .i64 ((a : Nat) : Int) ∧ F' 2 = .int .i64 ((m2 : Nat) : Int) ∧ F' 3 = v ∧ F' 4 = .pointer (some ⟨g1, 0, none⟩) ∧ F' 8 = .pointer (some ⟨g2, 0, none⟩) ∧ F' 10 = .pointer (some ⟨g3, 0, none⟩) ∧ F' 11 = .int .i64 ((k + 1 : Nat) : Int) ∧ F' 12 = .int .i64 ((i : Nat) : Int) ∧ F' 13 = .int .i64 ((beside a : Nat) : Int) ∧ F' 21 = .bool true ∧ F' 32 = .bool true ∧ F' 36 = .bool false ∧ F' 40 = .bool false) ⟨e0, e1, e2, e3, e4, e8, e10, rfl, e12, e13, e21, e32, e36, e40⟩ ?_
            clear e0 e1 e2 e3 e4 e8 e10 e11 e12 e13 e21 e32 e36 e40
            clear F
            rintro F ⟨e0, e1, e2, e3, e4, e8, e10, e11, e12, e13, e21, e32, e36, e40⟩
            refine wp_regionF ?_
            refine lf_val (v := .int .i64 ((a : Nat) : Int)) (wantAll rfl) (rv_move rfl (fr_eval rfl e1)) ?_
            refine lf_val (v := .int .i64 ((a / 2 : Nat) : Int)) (wantAll rfl) (rv_quo rfl (fr_eval rfl rfl) rfl (by decide) (quo_nat (n := 2) (by omega))) ?_
            refine lf_val (v := .int .i64 ((a / 2 : Nat) : Int)) (wantAll rfl) (rv_assign rfl (fr_eval rfl rfl)) ?_
            refine lf_nil ?_
            refine then_n ?_
            refine wp_gen (fun F' => F' 0 = .agg (cBs s.1).toArray ∧ F' 1 = .int .i64 ((a / 2 : Nat) : Int) ∧ F' 2 = .int .i64 ((m2 : Nat) : Int) ∧ F' 3 = v ∧ F' 4 = .pointer (some ⟨g1, 0, none⟩) ∧ F' 8 = .pointer (some ⟨g2, 0, none⟩) ∧ F' 10 = .pointer (some ⟨g3, 0, none⟩) ∧ F' 11 = .int .i64 ((k + 1 : Nat) : Int) ∧ F' 12 = .int .i64 ((i : Nat) : Int) ∧ F' 13 = .int .i64 ((beside a : Nat) : Int) ∧ F' 21 = .bool true ∧ F' 32 = .bool true ∧ F' 36 = .bool false ∧ F' 40 = .bool false) ⟨e0, rfl, e2, e3, e4, e8, e10, e11, e12, e13, e21, e32, e36, e40⟩ ?_
            clear e0 e1 e2 e3 e4 e8 e10 e11 e12 e13 e21 e32 e36 e40
            clear F
            rintro F ⟨e0, e1, e2, e3, e4, e8, e10, e11, e12, e13, e21, e32, e36, e40⟩
            refine wp_regionF ?_
            refine lf_val (v := .int .i64 ((m2 : Nat) : Int)) (wantAll rfl) (rv_move rfl (fr_eval rfl e2)) ?_
            refine lf_val (v := .int .i64 ((m2 + 1 : Nat) : Int)) (wantAll rfl) (rv_add rfl (fr_eval rfl rfl) rfl (wrap_i64 (by omega) (by omega) (by omega))) ?_
            refine lf_val (v := .int .i64 (((m2 + 1) / 2 : Nat) : Int)) (wantAll rfl) (rv_quo rfl (fr_eval rfl rfl) rfl (by decide) (quo_nat (n := 2) (by omega))) ?_
            refine lf_val (v := .int .i64 (((m2 + 1) / 2 : Nat) : Int)) (wantAll rfl) (rv_assign rfl (fr_eval rfl rfl)) ?_
            refine lf_nil ?_
            refine blk_n ?_
            refine then_n ?_
            refine wp_gen (fun F' => F' 0 = .agg (cBs s.1).toArray ∧ F' 1 = .int .i64 ((a / 2 : Nat) : Int) ∧ F' 2 = .int .i64 (((m2 + 1) / 2 : Nat) : Int) ∧ F' 3 = v ∧ F' 4 = .pointer (some ⟨g1, 0, none⟩) ∧ F' 8 = .pointer (some ⟨g2, 0, none⟩) ∧ F' 10 = .pointer (some ⟨g3, 0, none⟩) ∧ F' 11 = .int .i64 ((k + 1 : Nat) : Int) ∧ F' 12 = .int .i64 ((i : Nat) : Int) ∧ F' 13 = .int .i64 ((beside a : Nat) : Int) ∧ F' 21 = .bool true ∧ F' 32 = .bool true ∧ F' 36 = .bool false ∧ F' 40 = .bool false) ⟨e0, e1, rfl, e3, e4, e8, e10, e11, e12, e13, e21, e32, e36, e40⟩ ?_
            clear e0 e1 e2 e3 e4 e8 e10 e11 e12 e13 e21 e32 e36 e40
            clear F
            rintro F ⟨e0, e1, e2, e3, e4, e8, e10, e11, e12, e13, e21, e32, e36, e40⟩
            refine wp_regionF ?_
            refine lf_val (v := .int .i64 ((i : Nat) : Int)) (wantAll rfl) (rv_move rfl (fr_eval rfl e12)) ?_
            refine lf_val (v := .int .i64 ((i + 1 : Nat) : Int)) (wantAll rfl) (rv_add rfl (fr_eval rfl rfl) rfl (wrap_i64 (by omega) (by omega) (by omega))) ?_
            refine lf_val (v := .int .i64 ((i + 1 : Nat) : Int)) (wantAll rfl) (rv_assign rfl (fr_eval rfl rfl)) ?_
            refine lf_nil ?_
            refine then_n ?_
            exact ⟨_, _, (by omega), rfl, i + 1, _, _, k + 1, (pairS ((List.getD p k zS)) now), rfl, (by omega), (half_pow (by omega) pi1), (by omega), (by omega), (by rw [pi4, chk_go (by omega) (by unfold beside; omega) (by rw [List.length_drop]; omega), List.drop_drop, drop_get (by omega)]; first | done | rw [if_pos (by omega)] | rw [if_neg (by omega)]), (by omega), e0, e1, e2, e3, e4, e8, e10, e11, rfl, hH⟩
      · refine lf_val (v := .bool false) (wantAll rfl) (rv_lss rfl (fr_eval rfl rfl) (fr_eval rfl rfl) (decide_eq_false (by omega))) ?_
        refine lf_nil ?_
        refine then_n ?_
        refine wp_gen (fun F' => F' 0 = .agg (cBs s.1).toArray ∧ F' 1 = .int .i64 ((a : Nat) : Int) ∧ F' 2 = .int .i64 ((m2 : Nat) : Int) ∧ F' 3 = v ∧ F' 4 = .pointer (some ⟨g1, 0, none⟩) ∧ F' 8 = .pointer (some ⟨g2, 0, none⟩) ∧ F' 10 = .pointer (some ⟨g3, 0, none⟩) ∧ F' 11 = .int .i64 ((k : Nat) : Int) ∧ F' 12 = .int .i64 ((i : Nat) : Int) ∧ F' 13 = .int .i64 ((beside a : Nat) : Int) ∧ F' 21 = .bool true ∧ F' 32 = .bool false) ⟨e0, e1, e2, e3, e4, e8, e10, e11, e12, e13, e21, rfl⟩ ?_
        clear e0 e1 e2 e3 e4 e8 e10 e11 e12 e13 e21
        clear F
        rintro F ⟨e0, e1, e2, e3, e4, e8, e10, e11, e12, e13, e21, e32⟩
        refine wp_cond_false (fr_eval rfl e32) ?_
        refine wp_skip ?_
        refine then_n ?_
        refine wp_seq ?_
        refine wp_regionF ?_
        refine lf_val (v := .int .i64 ((a : Nat) : Int)) (wantAll rfl) (rv_move rfl (fr_eval rfl e1)) ?_
        refine lf_val (v := .int .i64 ((a / 2 : Nat) : Int)) (wantAll rfl) (rv_quo rfl (fr_eval rfl rfl) rfl (by decide) (quo_nat (n := 2) (by omega))) ?_
        refine lf_val (v := .int .i64 ((a / 2 : Nat) : Int)) (wantAll rfl) (rv_assign rfl (fr_eval rfl rfl)) ?_
        refine lf_nil ?_
        refine then_n ?_
        refine wp_gen (fun F' => F' 0 = .agg (cBs s.1).toArray ∧ F' 1 = .int .i64 ((a / 2 : Nat) : Int) ∧ F' 2 = .int .i64 ((m2 : Nat) : Int) ∧ F' 3 = v ∧ F' 4 = .pointer (some ⟨g1, 0, none⟩) ∧ F' 8 = .pointer (some ⟨g2, 0, none⟩) ∧ F' 10 = .pointer (some ⟨g3, 0, none⟩) ∧ F' 11 = .int .i64 ((k : Nat) : Int) ∧ F' 12 = .int .i64 ((i : Nat) : Int) ∧ F' 13 = .int .i64 ((beside a : Nat) : Int) ∧ F' 21 = .bool true ∧ F' 32 = .bool false) ⟨e0, rfl, e2, e3, e4, e8, e10, e11, e12, e13, e21, e32⟩ ?_
        clear e0 e1 e2 e3 e4 e8 e10 e11 e12 e13 e21 e32
        clear F
        rintro F ⟨e0, e1, e2, e3, e4, e8, e10, e11, e12, e13, e21, e32⟩
        refine wp_regionF ?_
        refine lf_val (v := .int .i64 ((m2 : Nat) : Int)) (wantAll rfl) (rv_move rfl (fr_eval rfl e2)) ?_
        refine lf_val (v := .int .i64 ((m2 + 1 : Nat) : Int)) (wantAll rfl) (rv_add rfl (fr_eval rfl rfl) rfl (wrap_i64 (by omega) (by omega) (by omega))) ?_
        refine lf_val (v := .int .i64 (((m2 + 1) / 2 : Nat) : Int)) (wantAll rfl) (rv_quo rfl (fr_eval rfl rfl) rfl (by decide) (quo_nat (n := 2) (by omega))) ?_
        refine lf_val (v := .int .i64 (((m2 + 1) / 2 : Nat) : Int)) (wantAll rfl) (rv_assign rfl (fr_eval rfl rfl)) ?_
        refine lf_nil ?_
        refine blk_n ?_
        refine then_n ?_
        refine wp_gen (fun F' => F' 0 = .agg (cBs s.1).toArray ∧ F' 1 = .int .i64 ((a / 2 : Nat) : Int) ∧ F' 2 = .int .i64 (((m2 + 1) / 2 : Nat) : Int) ∧ F' 3 = v ∧ F' 4 = .pointer (some ⟨g1, 0, none⟩) ∧ F' 8 = .pointer (some ⟨g2, 0, none⟩) ∧ F' 10 = .pointer (some ⟨g3, 0, none⟩) ∧ F' 11 = .int .i64 ((k : Nat) : Int) ∧ F' 12 = .int .i64 ((i : Nat) : Int) ∧ F' 13 = .int .i64 ((beside a : Nat) : Int) ∧ F' 21 = .bool true ∧ F' 32 = .bool false) ⟨e0, e1, rfl, e3, e4, e8, e10, e11, e12, e13, e21, e32⟩ ?_
        clear e0 e1 e2 e3 e4 e8 e10 e11 e12 e13 e21 e32
        clear F
        rintro F ⟨e0, e1, e2, e3, e4, e8, e10, e11, e12, e13, e21, e32⟩
        refine wp_regionF ?_
        refine lf_val (v := .int .i64 ((i : Nat) : Int)) (wantAll rfl) (rv_move rfl (fr_eval rfl e12)) ?_
        refine lf_val (v := .int .i64 ((i + 1 : Nat) : Int)) (wantAll rfl) (rv_add rfl (fr_eval rfl rfl) rfl (wrap_i64 (by omega) (by omega) (by omega))) ?_
        refine lf_val (v := .int .i64 ((i + 1 : Nat) : Int)) (wantAll rfl) (rv_assign rfl (fr_eval rfl rfl)) ?_
        refine lf_nil ?_
        refine then_n ?_
        exact ⟨_, _, (by omega), rfl, i + 1, _, _, k, now, rfl, (by omega), (half_pow (by omega) pi1), (by omega), (by omega), (by rw [← chk_skip (by omega) (by unfold beside; omega)]; exact pi4), (by omega), e0, e1, e2, e3, e4, e8, e10, e11, rfl, hH⟩
    · refine lf_val (v := .bool false) (wantF (d := 18) rfl (by kernel_rfl) rfl rfl) (rv_gtr rfl (fr_eval rfl rfl) rfl (decide_eq_false (by omega))) ?_
      refine lf_val (v := .bool false) (wantAll rfl) (rv_pickT rfl (fr_eval rfl rfl) (fr_eval rfl rfl)) ?_
      refine lf_nil ?_
      refine then_n ?_
      refine wp_gen (fun F' => F' 0 = .agg (cBs s.1).toArray ∧ F' 1 = .int .i64 ((a : Nat) : Int) ∧ F' 2 = .int .i64 ((m2 : Nat) : Int) ∧ F' 3 = v ∧ F' 4 = .pointer (some ⟨g1, 0, none⟩) ∧ F' 8 = .pointer (some ⟨g2, 0, none⟩) ∧ F' 10 = .pointer (some ⟨g3, 0, none⟩) ∧ F' 11 = .int .i64 ((k : Nat) : Int) ∧ F' 12 = .int .i64 ((i : Nat) : Int) ∧ F' 21 = .bool false) ⟨e0, e1, e2, e3, e4, e8, e10, e11, e12, rfl⟩ ?_
      clear e0 e1 e2 e3 e4 e8 e10 e11 e12
      clear F
      rintro F ⟨e0, e1, e2, e3, e4, e8, e10, e11, e12, e21⟩
      refine wp_cond_false (fr_eval rfl e21) ?_
      refine wp_exit ?_
      refine then_exit ?_
      refine then_exit ?_
      refine blk_exit ?_
      refine then_n ?_
      refine wp_seq ?_
      have hm1 : m2 ≤ 1 := by
        by_cases h13 : i = 13
        · subst h13; exact pi1
        · omega
      refine wp_regionF ?_
      refine lf_val (v := .agg (cBs now.1).toArray) (wantAll rfl) (rv_loadW rfl (hH.blk (i := 2) rfl) (fr_eval rfl e10) Try.underlying23 rfl (sz_len Try.sz23 (cBs_len now.2))) ?_
      refine lf_val (v := .int .i64 ((k : Nat) : Int)) (wantAll rfl) (rv_move rfl (fr_eval rfl e11)) ?_
      refine lf_val (v := v) (wantAll rfl) (rv_move rfl (fr_eval rfl e3)) ?_
      refine lf_val (v := .int .i64 ((p.length : Nat) : Int)) (wantAll rfl) (rv_len rfl (fr_eval rfl rfl) (hr.rd _ hH.chg) Try.underlying24) ?_
      refine lf_val (v := .bool (decide (k = p.length))) (wantAll rfl) (rv_eql (b := decide (k = p.length)) rfl (fr_eval rfl rfl) (fr_eval rfl rfl) (decide_eq_decide.2 (by omega))) ?_
      refine lf_sk (wantAll rfl) (hx_storeW hH (i := 1) (cs := cBs now.1) rfl rfl rfl (fr_eval rfl e8) (fr_eval rfl rfl) (sz_len Try.sz23 (cBs_len now.2)) (((cBs_len (List.length_replicate ..))).trans ((cBs_len now.2)).symm) ((cBs_one _))) ?_
      clear hH
      rintro w14 ⟨hH, hx⟩
      replace hH : Heap (newN w) w w14 [oBlk g1 (cBs s.1) 23, oBlk g2 (cBs now.1) 23, oBlk g3 (cBs now.1) 23] := hH
      clear hx
      refine lf_val (v := .bool (decide (k = p.length))) (wantAll rfl) (rv_assign rfl (fr_eval rfl rfl)) ?_
      refine lf_nil ?_
      refine then_n ?_
      refine wp_gen (fun F' => F' 0 = .agg (cBs s.1).toArray ∧ F' 1 = .int .i64 ((a : Nat) : Int) ∧ F' 2 = .int .i64 ((m2 : Nat) : Int) ∧ F' 3 = v ∧ F' 4 = .pointer (some ⟨g1, 0, none⟩) ∧ F' 8 = .pointer (some ⟨g2, 0, none⟩) ∧ F' 9 = .bool (decide (k = p.length)) ∧ F' 10 = .pointer (some ⟨g3, 0, none⟩) ∧ F' 11 = .int .i64 ((k : Nat) : Int) ∧ F' 12 = .int .i64 ((i : Nat) : Int) ∧ F' 21 = .bool false) ⟨e0, e1, e2, e3, e4, e8, rfl, e10, e11, e12, e21⟩ ?_
      clear e0 e1 e2 e3 e4 e8 e10 e11 e12 e21
      clear F
      rintro F ⟨e0, e1, e2, e3, e4, e8, e9, e10, e11, e12, e21⟩
      refine wp_ret ?_
      exact bodyPost_ret (v := .tuple #[.agg (cBs now.1).toArray, .bool (decide (k = p.length))]) (res2 rfl (ro_cell rfl e8 (hH.blk (i := 1) rfl) Try.underlying23 rfl (sz_len Try.sz23 (cBs_len now.2))) (ro_tmp rfl e9)) rfl (⟨⟨now, _, rfl, climb_end (pi4.trans (chk_end (by omega))) pi3⟩, hH.done⟩)
  · refine lf_val (v := .bool false) (wantAll rfl) (rv_lss rfl (fr_eval rfl rfl) rfl (decide_eq_false (by omega))) ?_
    refine lf_val (v := .bool false) (wantAll rfl) (rv_move rfl (fr_eval rfl rfl)) ?_
    refine lf_not (wantNot (d := 18) rfl (by kernel_rfl) rfl rfl) ?_
    refine lf_not (wantNot (d := 18) rfl (by kernel_rfl) rfl rfl) ?_
    refine lf_val (v := .bool false) (wantAll rfl) (rv_pickF rfl (fr_eval rfl rfl) rfl) ?_
    refine lf_nil ?_
    refine then_n ?_
    refine wp_gen (fun F' => F' 0 = .agg (cBs s.1).toArray ∧ F' 1 = .int .i64 ((a : Nat) : Int) ∧ F' 2 = .int .i64 ((m2 : Nat) : Int) ∧ F' 3 = v ∧ F' 4 = .pointer (some ⟨g1, 0, none⟩) ∧ F' 8 = .pointer (some ⟨g2, 0, none⟩) ∧ F' 10 = .pointer (some ⟨g3, 0, none⟩) ∧ F' 11 = .int .i64 ((k : Nat) : Int) ∧ F' 12 = .int .i64 ((i : Nat) : Int) ∧ F' 21 = .bool false) ⟨e0, e1, e2, e3, e4, e8, e10, e11, e12, rfl⟩ ?_
    clear e0 e1 e2 e3 e4 e8 e10 e11 e12
    clear F
    rintro F ⟨e0, e1, e2, e3, e4, e8, e10, e11, e12, e21⟩
    refine wp_cond_false (fr_eval rfl e21) ?_
    refine wp_exit ?_
    refine then_exit ?_
    refine then_exit ?_
    refine blk_exit ?_
    refine then_n ?_
    refine wp_seq ?_
    have hm1 : m2 ≤ 1 := by
      by_cases h13 : i = 13
      · subst h13; exact pi1
      · omega
    refine wp_regionF ?_
    refine lf_val (v := .agg (cBs now.1).toArray) (wantAll rfl) (rv_loadW rfl (hH.blk (i := 2) rfl) (fr_eval rfl e10) Try.underlying23 rfl (sz_len Try.sz23 (cBs_len now.2))) ?_
    refine lf_val (v := .int .i64 ((k : Nat) : Int)) (wantAll rfl) (rv_move rfl (fr_eval rfl e11)) ?_
    refine lf_val (v := v) (wantAll rfl) (rv_move rfl (fr_eval rfl e3)) ?_
    refine lf_val (v := .int .i64 ((p.length : Nat) : Int)) (wantAll rfl) (rv_len rfl (fr_eval rfl rfl) (hr.rd _ hH.chg) Try.underlying24) ?_
    refine lf_val (v := .bool (decide (k = p.length))) (wantAll rfl) (rv_eql (b := decide (k = p.length)) rfl (fr_eval rfl rfl) (fr_eval rfl rfl) (decide_eq_decide.2 (by omega))) ?_
    refine lf_sk (wantAll rfl) (hx_storeW hH (i := 1) (cs := cBs now.1) rfl rfl rfl (fr_eval rfl e8) (fr_eval rfl rfl) (sz_len Try.sz23 (cBs_len now.2)) (((cBs_len (List.length_replicate ..))).trans ((cBs_len now.2)).symm) ((cBs_one _))) ?_
    clear hH
    rintro w15 ⟨hH, hx⟩
    replace hH : Heap (newN w) w w15 [oBlk g1 (cBs s.1) 23, oBlk g2 (cBs now.1) 23, oBlk g3 (cBs now.1) 23] := hH
    clear hx
    refine lf_val (v := .bool (decide (k = p.length))) (wantAll rfl) (rv_assign rfl (fr_eval rfl rfl)) ?_
    refine lf_nil ?_
    refine then_n ?_
    refine wp_gen (fun F' => F' 0 = .agg (cBs s.1).toArray ∧ F' 1 = .int .i64 ((a : Nat) : Int) ∧ F' 2 = .int .i64 ((m2 : Nat) : Int) ∧ F' 3 = v ∧ F' 4 = .pointer (some ⟨g1, 0, none⟩) ∧ F' 8 = .pointer (some ⟨g2, 0, none⟩) ∧ F' 9 = .bool (decide (k = p.length)) ∧ F' 10 = .pointer (some ⟨g3, 0, none⟩) ∧ F' 11 = .int .i64 ((k : Nat) : Int) ∧ F' 12 = .int .i64 ((i : Nat) : Int) ∧ F' 21 = .bool false) ⟨e0, e1, e2, e3, e4, e8, rfl, e10, e11, e12, e21⟩ ?_
    clear e0 e1 e2 e3 e4 e8 e10 e11 e12 e21
    clear F
    rintro F ⟨e0, e1, e2, e3, e4, e8, e9, e10, e11, e12, e21⟩
    refine wp_ret ?_
    exact bodyPost_ret (v := .tuple #[.agg (cBs now.1).toArray, .bool (decide (k = p.length))]) (res2 rfl (ro_cell rfl e8 (hH.blk (i := 1) rfl) Try.underlying23 rfl (sz_len Try.sz23 (cBs_len now.2))) (ro_tmp rfl e9)) rfl (⟨⟨now, _, rfl, climb_end (pi4.trans (chk_end (by omega))) pi3⟩, hH.done⟩)

set_option maxRecDepth 100000 in
set_option maxHeartbeats 4000000 in
theorem awake03_calls (w : World) :
    Calls Try.prog 16 #[] w fun e'' w' => e'' = .returned (.bool true) ∧ Ext w w' := by
  refine calls_fr (args := []) (n := 33) Try.func16 rfl rfl (show 0 ≤ 33 by decide) ?_
  have hH : Heap (newN w) w w [] := Heap.fresh
  refine wp_seq ?_
  refine wp_gen (fun F' => True) trivial ?_
  rintro F _
  refine wp_regionF ?_
  refine lf_val (v := .bool false) (wantAll rfl) (rv_assign rfl rfl) ?_
  refine lf_nil ?_
  refine then_n ?_
  refine wp_seq ?_
  refine wp_gen (fun F' => F' 0 = .bool false) rfl ?_
  clear F
  rintro F e0
  refine wp_regionF ?_
  refine lf_ex (wantAll rfl) (hx_lits hH Try.stB (n := 1) (nm := List.length [97]) [(.const (cB 97))] (vs := [(cB 97)]) (cs := cBs [97]) rfl (evc rfl evn) (cBs_one [97]) rfl (by decide) rfl rfl) ?_
  clear hH
  rintro y1 w1 ⟨hH, hx⟩
  replace hH : Heap (newN w) w w1 [oB y1 [97]] := hH
  clear hx
  refine lf_ex (wantAll rfl) (hx_mark hH (i := 0) (n := List.length [97]) (xs := cBs [97]) rfl rfl rfl (by decide) (cBs_one _) (fr_eval rfl rfl) Try.underlying58 Try.underlying5) ?_
  clear hH
  rintro _ w2 ⟨rfl, hH, hx⟩
  replace hH : Heap (newN w) w w2 [oRB y1 [97]] := hH
  clear hx
  refine lf_call (wantAll rfl) (rv_call (args := [y1]) rfl (evc (fr_eval rfl rfl) evn) Try.call60) (of_calls [97] (by decide) _ _ (hH.rd (i := 0) rfl)) ?_
  rintro _ w3 ⟨rfl, hx⟩
  refine ⟨_, rfl, ?_⟩
  replace hH := hH.ext hx
  clear hx
  refine lf_ex (wantAll rfl) (hx_alloc hH 23 (z := .agg (cBs (List.replicate 32 0)).toArray) (n := 32) (cs := cBs (List.replicate 32 0)) rfl (by kernel_rfl) (by rfl)) ?_
  clear hH
  rintro _ w4 ⟨g1, rfl, hH, hx⟩
  replace hH : Heap (newN w) w w4 [oRB y1 [97], oBlk g1 (cBs (List.replicate 32 0)) 23] := hH
  clear hx
  refine lf_sk (wantAll rfl) (hx_storeW hH (i := 1) (cs := cBs ((⟨sum [97], sum_length _⟩ : S32).1)) rfl rfl rfl (fr_eval rfl rfl) (fr_eval rfl rfl) (sz_len Try.sz23 (cBs_len (⟨sum [97], sum_length _⟩ : S32).2)) (((cBs_len (List.length_replicate ..))).trans ((cBs_len (⟨sum [97], sum_length _⟩ : S32).2)).symm) ((cBs_one _))) ?_
  clear hH
  rintro w5 ⟨hH, hx⟩
  replace hH : Heap (newN w) w w5 [oRB y1 [97], oBlk g1 (cBs ((⟨sum [97], sum_length _⟩ : S32).1)) 23] := hH
  clear hx
  refine lf_nil ?_
  refine then_n ?_
  refine wp_seq ?_
  replace hH : Heap (newN w) w w5 [oBlk g1 (cBs ((⟨sum [97], sum_length _⟩ : S32).1)) 23] := hH.drop (.cons _ (.cons_cons _ .slnil))
  refine wp_gen (fun F' => F' 0 = .bool false ∧ F' 1 = .pointer (some ⟨g1, 0, none⟩)) ⟨e0, rfl⟩ ?_
  clear e0
  clear F
  rintro F ⟨e0, e1⟩
  refine wp_regionX (fun _ => False) 26 (by kernel_rfl) (by kernel_rfl) ?_
  refine xl_take (i := 0) (v := .agg (cBs ((⟨sum [97], sum_length _⟩ : S32).1)).toArray) rfl (by kernel_rfl) (by kernel_rfl) (by kernel_rfl) (by kernel_rfl) (yx_val (wantAll rfl) (fun w' hx' => rv_loadW rfl ((hH.ext hx').blk (i := 0) rfl) (fr_eval rfl e1) Try.underlying23 rfl (sz_len Try.sz23 (cBs_len (⟨sum [97], sum_length _⟩ : S32).2)))) ?_
  refine xl_take (i := 3) (v := .agg (cBs ((⟨sum [97], sum_length _⟩ : S32).1)).toArray) rfl (by kernel_rfl) (by kernel_rfl) (by kernel_rfl) (by kernel_rfl) (yx_val (wantAll rfl) (fun w' hx' => rv_loadW rfl ((hH.ext hx').blk (i := 0) rfl) (fr_eval rfl e1) Try.underlying23 rfl (sz_len Try.sz23 (cBs_len (⟨sum [97], sum_length _⟩ : S32).2)))) ?_
  refine anyX_ready (rs := [1]) (by kernel_rfl) ?_
  intro w6 hx
  replace hH := hH.ext hx
  clear hx
  refine (anyX_cons ?_ anyX_nil)
  refine xl_step (i := 1) rfl (wantAll rfl) ?_
  refine of_ex (hx_lit1 hH Try.stSum (cs := cS (⟨(⟨sum [97], sum_length _⟩ : S32).1, (⟨sum [97], sum_length _⟩ : S32).2⟩ : S32)) (xs := List.flatMap cS [(⟨(⟨sum [97], sum_length _⟩ : S32).1, (⟨sum [97], sum_length _⟩ : S32).2⟩ : S32)]) rfl (fr_eval rfl rfl) (cS_ln (⟨(⟨sum [97], sum_length _⟩ : S32).1, (⟨sum [97], sum_length _⟩ : S32).2⟩ : S32)) (by decide) (List.flatMap_singleton ..).symm) ?_
  clear hH
  rintro y2 w7 ⟨hH, hx⟩
  replace hH : Heap (newN w) w w7 [oBlk g1 (cBs ((⟨sum [97], sum_length _⟩ : S32).1)) 23, oRow cS 23 32 y2 ([(⟨(⟨sum [97], sum_length _⟩ : S32).1, (⟨sum [97], sum_length _⟩ : S32).2⟩ : S32)])] := hH
  refine ⟨hx, ?_⟩
  clear hx
  refine xl_take (i := 2) (v := .agg (cBs ((leafS (⟨(⟨sum [97], sum_length _⟩ : S32).1, (⟨sum [97], sum_length _⟩ : S32).2⟩ : S32)).1)).toArray) rfl (by kernel_rfl) (by kernel_rfl) (by kernel_rfl) (by kernel_rfl) (yx_call (wantAll rfl) (fun w' => rv_call (args := [y2]) rfl (evc (fr_eval rfl rfl) evn) Try.call19) (fun w' hx' => root1_calls (⟨(⟨sum [97], sum_length _⟩ : S32).1, (⟨sum [97], sum_length _⟩ : S32).2⟩ : S32) _ _ (Own.rd ((hH.ext hx').own (i := 1) rfl) (row_one cS_one)))) ?_
  refine xl_take (i := 4) (v := .agg (cBs ((leafS (⟨sum [97], sum_length _⟩ : S32)).1)).toArray) rfl (by kernel_rfl) (by kernel_rfl) (by kernel_rfl) (by kernel_rfl) (yx_call (wantAll rfl) (fun w' => rv_call (args := [.agg (cBs ((⟨sum [97], sum_length _⟩ : S32).1)).toArray]) rfl (evc (fr_eval rfl rfl) evn) Try.call21) (fun w' hx' => leaf_calls (⟨sum [97], sum_length _⟩ : S32) _)) ?_
  refine xl_take (i := 5) (v := .bool true) rfl (by kernel_rfl) (by kernel_rfl) (by kernel_rfl) (by kernel_rfl) (yx_val (wantAll rfl) (fun w' hx' => eqT rfl (fr_eval rfl rfl) (fr_eval rfl rfl) (leafS (⟨(⟨sum [97], sum_length _⟩ : S32).1, (⟨sum [97], sum_length _⟩ : S32).2⟩ : S32)).2 (leafS (⟨sum [97], sum_length _⟩ : S32)).2 (b := true) (by decide +kernel))) ?_
  refine xl_take (i := 6) (v := .bool true) rfl (by kernel_rfl) (by kernel_rfl) (by kernel_rfl) (by kernel_rfl) (yx_val (wantAll rfl) (fun w' hx' => rv_move rfl (fr_eval rfl rfl))) ?_
  refine xl_take (i := 7) (v := .agg (cBs ((⟨sum [97], sum_length _⟩ : S32).1)).toArray) rfl (by kernel_rfl) (by kernel_rfl) (by kernel_rfl) (by kernel_rfl) (yx_val (wantF (d := 11) rfl (by kernel_rfl) rfl rfl) (fun w' hx' => rv_loadW rfl ((hH.ext hx').blk (i := 0) rfl) (fr_eval rfl e1) Try.underlying23 rfl (sz_len Try.sz23 (cBs_len (⟨sum [97], sum_length _⟩ : S32).2)))) ?_
  refine xl_take (i := 10) (v := .agg (cBs ((⟨sum [97], sum_length _⟩ : S32).1)).toArray) rfl (by kernel_rfl) (by kernel_rfl) (by kernel_rfl) (by kernel_rfl) (yx_val (wantF (d := 11) rfl (by kernel_rfl) rfl rfl) (fun w' hx' => rv_loadW rfl ((hH.ext hx').blk (i := 0) rfl) (fr_eval rfl e1) Try.underlying23 rfl (sz_len Try.sz23 (cBs_len (⟨sum [97], sum_length _⟩ : S32).2)))) ?_
  refine anyX_ready (rs := [8]) (by kernel_rfl) ?_
  intro w8 hx
  replace hH := hH.ext hx
  clear hx
  refine (anyX_cons ?_ anyX_nil)
  refine xl_step (i := 8) rfl (wantF (d := 11) rfl (by kernel_rfl) rfl rfl) ?_
  refine of_ex (hx_lit1 hH Try.stSum (cs := cS (⟨(⟨sum [97], sum_length _⟩ : S32).1, (⟨sum [97], sum_length _⟩ : S32).2⟩ : S32)) (xs := List.flatMap cS [(⟨(⟨sum [97], sum_length _⟩ : S32).1, (⟨sum [97], sum_length _⟩ : S32).2⟩ : S32)]) rfl (fr_eval rfl rfl) (cS_ln (⟨(⟨sum [97], sum_length _⟩ : S32).1, (⟨sum [97], sum_length _⟩ : S32).2⟩ : S32)) (by decide) (List.flatMap_singleton ..).symm) ?_
  clear hH
  rintro y3 w9 ⟨hH, hx⟩
  replace hH : Heap (newN w) w w9 [oBlk g1 (cBs ((⟨sum [97], sum_length _⟩ : S32).1)) 23, oRow cS 23 32 y2 ([(⟨(⟨sum [97], sum_length _⟩ : S32).1, (⟨sum [97], sum_length _⟩ : S32).2⟩ : S32)]), oRow cS 23 32 y3 ([(⟨(⟨sum [97], sum_length _⟩ : S32).1, (⟨sum [97], sum_length _⟩ : S32).2⟩ : S32)])] := hH
  refine ⟨hx, ?_⟩
  clear hx
  refine xl_take (i := 9) (v := .agg (cBs ((leafS (⟨(⟨sum [97], sum_length _⟩ : S32).1, (⟨sum [97], sum_length _⟩ : S32).2⟩ : S32)).1)).toArray) rfl (by kernel_rfl) (by kernel_rfl) (by kernel_rfl) (by kernel_rfl) (yx_call (wantF (d := 11) rfl (by kernel_rfl) rfl rfl) (fun w' => rv_call (args := [y3]) rfl (evc (fr_eval rfl rfl) evn) Try.call19) (fun w' hx' => root1_calls (⟨(⟨sum [97], sum_length _⟩ : S32).1, (⟨sum [97], sum_length _⟩ : S32).2⟩ : S32) _ _ (Own.rd ((hH.ext hx').own (i := 2) rfl) (row_one cS_one)))) ?_
  refine xl_take (i := 11) (v := .bool true) rfl (by kernel_rfl) (by kernel_rfl) (by kernel_rfl) (by kernel_rfl) (yx_val (wantF (d := 11) rfl (by kernel_rfl) rfl rfl) (fun w' hx' => neT rfl (fr_eval rfl rfl) (fr_eval rfl rfl) (leafS (⟨(⟨sum [97], sum_length _⟩ : S32).1, (⟨sum [97], sum_length _⟩ : S32).2⟩ : S32)).2 (⟨sum [97], sum_length _⟩ : S32).2 (b := false) (by decide +kernel))) ?_
  refine xl_take (i := 12) (v := .bool true) rfl (by kernel_rfl) (by kernel_rfl) (by kernel_rfl) (by kernel_rfl) (yx_val (wantAll rfl) (fun w' hx' => rv_pickT rfl (fr_eval rfl rfl) (fr_eval rfl rfl))) ?_
  refine xl_take (i := 13) (v := .bool true) rfl (by kernel_rfl) (by kernel_rfl) (by kernel_rfl) (by kernel_rfl) (yx_val (wantAll rfl) (fun w' hx' => rv_move rfl (fr_eval rfl rfl))) ?_
  refine xl_take (i := 14) (v := .agg (cBs ((⟨sum [97], sum_length _⟩ : S32).1)).toArray) rfl (by kernel_rfl) (by kernel_rfl) (by kernel_rfl) (by kernel_rfl) (yx_val (wantF (d := 18) rfl (by kernel_rfl) rfl rfl) (fun w' hx' => rv_loadW rfl ((hH.ext hx').blk (i := 0) rfl) (fr_eval rfl e1) Try.underlying23 rfl (sz_len Try.sz23 (cBs_len (⟨sum [97], sum_length _⟩ : S32).2)))) ?_
  refine xl_take (i := 15) (v := .agg (cBs ((⟨sum [97], sum_length _⟩ : S32).1)).toArray) rfl (by kernel_rfl) (by kernel_rfl) (by kernel_rfl) (by kernel_rfl) (yx_val (wantF (d := 18) rfl (by kernel_rfl) rfl rfl) (fun w' hx' => rv_loadW rfl ((hH.ext hx').blk (i := 0) rfl) (fr_eval rfl e1) Try.underlying23 rfl (sz_len Try.sz23 (cBs_len (⟨sum [97], sum_length _⟩ : S32).2)))) ?_
  refine xl_take (i := 18) (v := .agg (cBs ((⟨sum [97], sum_length _⟩ : S32).1)).toArray) rfl (by kernel_rfl) (by kernel_rfl) (by kernel_rfl) (by kernel_rfl) (yx_val (wantF (d := 18) rfl (by kernel_rfl) rfl rfl) (fun w' hx' => rv_loadW rfl ((hH.ext hx').blk (i := 0) rfl) (fr_eval rfl e1) Try.underlying23 rfl (sz_len Try.sz23 (cBs_len (⟨sum [97], sum_length _⟩ : S32).2)))) ?_
  refine anyX_ready (rs := [16]) (by kernel_rfl) ?_
  intro w10 hx
  replace hH := hH.ext hx
  clear hx
  refine (anyX_cons ?_ anyX_nil)
  refine xl_step (i := 16) rfl (wantF (d := 18) rfl (by kernel_rfl) rfl rfl) ?_
  refine of_ex (hx_litM hH Try.stSum (n := 2) (nm := List.length [(⟨(⟨sum [97], sum_length _⟩ : S32).1, (⟨sum [97], sum_length _⟩ : S32).2⟩ : S32), (⟨(⟨sum [97], sum_length _⟩ : S32).1, (⟨sum [97], sum_length _⟩ : S32).2⟩ : S32)]) [(.tmp 19), (.tmp 20)] (vs := [.agg (cBs ((⟨sum [97], sum_length _⟩ : S32).1)).toArray, .agg (cBs ((⟨sum [97], sum_length _⟩ : S32).1)).toArray]) (css := [cS (⟨(⟨sum [97], sum_length _⟩ : S32).1, (⟨sum [97], sum_length _⟩ : S32).2⟩ : S32), cS (⟨(⟨sum [97], sum_length _⟩ : S32).1, (⟨sum [97], sum_length _⟩ : S32).2⟩ : S32)]) (cs := List.flatMap cS [(⟨(⟨sum [97], sum_length _⟩ : S32).1, (⟨sum [97], sum_length _⟩ : S32).2⟩ : S32), (⟨(⟨sum [97], sum_length _⟩ : S32).1, (⟨sum [97], sum_length _⟩ : S32).2⟩ : S32)]) rfl (evc (fr_eval rfl rfl) (evc (fr_eval rfl rfl) evn)) (.cons (cells_agg _) (cS_ln (⟨(⟨sum [97], sum_length _⟩ : S32).1, (⟨sum [97], sum_length _⟩ : S32).2⟩ : S32)) (.cons (cells_agg _) (cS_ln (⟨(⟨sum [97], sum_length _⟩ : S32).1, (⟨sum [97], sum_length _⟩ : S32).2⟩ : S32)) .nil)) rfl (by decide) rfl rfl) ?_
  clear hH
  rintro y4 w11 ⟨hH, hx⟩
  replace hH : Heap (newN w) w w11 [oBlk g1 (cBs ((⟨sum [97], sum_length _⟩ : S32).1)) 23, oRow cS 23 32 y2 ([(⟨(⟨sum [97], sum_length _⟩ : S32).1, (⟨sum [97], sum_length _⟩ : S32).2⟩ : S32)]), oRow cS 23 32 y3 ([(⟨(⟨sum [97], sum_length _⟩ : S32).1, (⟨sum [97], sum_length _⟩ : S32).2⟩ : S32)]), oRow cS 23 32 y4 ([(⟨(⟨sum [97], sum_length _⟩ : S32).1, (⟨sum [97], sum_length _⟩ : S32).2⟩ : S32), (⟨(⟨sum [97], sum_length _⟩ : S32).1, (⟨sum [97], sum_length _⟩ : S32).2⟩ : S32)])] := hH
  refine ⟨hx, ?_⟩
  clear hx
  refine xl_take (i := 17) (v := .agg (cBs ((pairS (leafS (⟨(⟨sum [97], sum_length _⟩ : S32).1, (⟨sum [97], sum_length _⟩ : S32).2⟩ : S32)) (leafS (⟨(⟨sum [97], sum_length _⟩ : S32).1, (⟨sum [97], sum_length _⟩ : S32).2⟩ : S32))).1)).toArray) rfl (by kernel_rfl) (by kernel_rfl) (by kernel_rfl) (by kernel_rfl) (yx_call (wantF (d := 18) rfl (by kernel_rfl) rfl rfl) (fun w' => rv_call (args := [y4]) rfl (evc (fr_eval rfl rfl) evn) Try.call19) (fun w' hx' => root2_calls (⟨(⟨sum [97], sum_length _⟩ : S32).1, (⟨sum [97], sum_length _⟩ : S32).2⟩ : S32) (⟨(⟨sum [97], sum_length _⟩ : S32).1, (⟨sum [97], sum_length _⟩ : S32).2⟩ : S32) _ _ (Own.rd ((hH.ext hx').own (i := 3) rfl) (row_one cS_one)))) ?_
  refine xl_take (i := 19) (v := .agg (cBs ((leafS (⟨sum [97], sum_length _⟩ : S32)).1)).toArray) rfl (by kernel_rfl) (by kernel_rfl) (by kernel_rfl) (by kernel_rfl) (yx_call (wantF (d := 18) rfl (by kernel_rfl) rfl rfl) (fun w' => rv_call (args := [.agg (cBs ((⟨sum [97], sum_length _⟩ : S32).1)).toArray]) rfl (evc (fr_eval rfl rfl) evn) Try.call21) (fun w' hx' => leaf_calls (⟨sum [97], sum_length _⟩ : S32) _)) ?_
  refine xl_take (i := 20) (v := .bool true) rfl (by kernel_rfl) (by kernel_rfl) (by kernel_rfl) (by kernel_rfl) (yx_val (wantF (d := 18) rfl (by kernel_rfl) rfl rfl) (fun w' hx' => neT rfl (fr_eval rfl rfl) (fr_eval rfl rfl) (pairS (leafS (⟨(⟨sum [97], sum_length _⟩ : S32).1, (⟨sum [97], sum_length _⟩ : S32).2⟩ : S32)) (leafS (⟨(⟨sum [97], sum_length _⟩ : S32).1, (⟨sum [97], sum_length _⟩ : S32).2⟩ : S32))).2 (leafS (⟨sum [97], sum_length _⟩ : S32)).2 (b := false) (by decide +kernel))) ?_
  refine xl_take (i := 21) (v := .bool true) rfl (by kernel_rfl) (by kernel_rfl) (by kernel_rfl) (by kernel_rfl) (yx_val (wantAll rfl) (fun w' hx' => rv_pickT rfl (fr_eval rfl rfl) (fr_eval rfl rfl))) ?_
  refine xl_take (i := 22) (v := .bool true) rfl (by kernel_rfl) (by kernel_rfl) (by kernel_rfl) (by kernel_rfl) (yx_val (wantAll rfl) (fun w' hx' => rv_move rfl (fr_eval rfl rfl))) ?_
  refine xl_take (i := 23) (v := .agg (cBs ((⟨sum [97], sum_length _⟩ : S32).1)).toArray) rfl (by kernel_rfl) (by kernel_rfl) (by kernel_rfl) (by kernel_rfl) (yx_val (wantF (d := 27) rfl (by kernel_rfl) rfl rfl) (fun w' hx' => rv_loadW rfl ((hH.ext hx').blk (i := 0) rfl) (fr_eval rfl e1) Try.underlying23 rfl (sz_len Try.sz23 (cBs_len (⟨sum [97], sum_length _⟩ : S32).2)))) ?_
  refine xl_take (i := 24) (v := .agg (cBs ((leafS (⟨sum [97], sum_length _⟩ : S32)).1)).toArray) rfl (by kernel_rfl) (by kernel_rfl) (by kernel_rfl) (by kernel_rfl) (yx_call (wantF (d := 27) rfl (by kernel_rfl) rfl rfl) (fun w' => rv_call (args := [.agg (cBs ((⟨sum [97], sum_length _⟩ : S32).1)).toArray]) rfl (evc (fr_eval rfl rfl) evn) Try.call21) (fun w' hx' => leaf_calls (⟨sum [97], sum_length _⟩ : S32) _)) ?_
  refine xl_take (i := 25) (v := .agg (cBs ((⟨sum [97], sum_length _⟩ : S32).1)).toArray) rfl (by kernel_rfl) (by kernel_rfl) (by kernel_rfl) (by kernel_rfl) (yx_val (wantF (d := 27) rfl (by kernel_rfl) rfl rfl) (fun w' hx' => rv_loadW rfl ((hH.ext hx').blk (i := 0) rfl) (fr_eval rfl e1) Try.underlying23 rfl (sz_len Try.sz23 (cBs_len (⟨sum [97], sum_length _⟩ : S32).2)))) ?_
  refine xl_tail (s := 26) rfl ?_
  intro w12 hx
  replace hH := hH.ext hx
  clear hx
  refine lf_call (wantF (d := 27) rfl (by kernel_rfl) rfl rfl) (rv_call (args := [.agg (cBs ((leafS (⟨sum [97], sum_length _⟩ : S32)).1)).toArray, .agg (cBs ((⟨sum [97], sum_length _⟩ : S32).1)).toArray, .int .i64 0, .int .i64 1, .slice none 0 0]) rfl (evc (fr_eval rfl rfl) (evc (fr_eval rfl rfl) (evc rfl (evc rfl (evc rfl evn))))) Try.call15) (calls_known (b' := true) (check_calls (leafS (⟨sum [97], sum_length _⟩ : S32)) (⟨sum [97], sum_length _⟩ : S32) 0 1 (by omega) (by omega) [] _ _ Rd.nil) (by rw [show checkB _ _ (0 : Int) 1 [] = _ from check_yes (a := 0) (m := 1) ⟨by decide, by decide⟩ (chk_end (by decide))]; first | done | exact beq_self_eq_true _)) ?_
  rintro _ w13 ⟨rfl, hx⟩
  refine ⟨_, rfl, ?_⟩
  replace hH := hH.ext hx
  clear hx
  refine lf_val (v := .bool true) (wantAll rfl) (rv_pickT rfl (fr_eval rfl rfl) (fr_eval rfl rfl)) ?_
  refine lf_val (v := .bool true) (wantAll rfl) (rv_assign rfl (fr_eval rfl rfl)) ?_
  refine lf_nil ?_
  refine then_n ?_
  replace hH : Heap (newN w) w w13 [oBlk g1 (cBs ((⟨sum [97], sum_length _⟩ : S32).1)) 23] := hH.drop (.cons_cons _ (.cons _ (.cons _ (.cons _ .slnil))))
  refine wp_gen (fun F' => F' 0 = .bool true ∧ F' 1 = .pointer (some ⟨g1, 0, none⟩)) ⟨rfl, e1⟩ ?_
  clear e0 e1
  clear F
  rintro F ⟨e0, e1⟩
  refine wp_ret ?_
  exact bodyPost_ret (v := (.bool true)) (res1 rfl (ro_tmp rfl e0)) rfl (⟨rfl, hH.done⟩)

set_option maxRecDepth 100000 in
set_option maxHeartbeats 4000000 in
theorem merkleClimbs_walk (r s : S32) (at' m' : Int) (hn : -9223372036854775808 ≤ at' ∧ at' ≤ 9223372036854775807) (hm : -9223372036854775808 ≤ m' ∧ m' ≤ 9223372036854775807) (p : List S32) (v : Value) (w : World) (hr0 : Rd w 32 v p.length (p.flatMap cS)) :
    Calls Try.prog 3 #[.agg (cBs r.1).toArray, .agg (cBs s.1).toArray, .int .i64 at', .int .i64 m', v] w fun e'' w' => e'' = .returned (.bool true) ∧ Ext w w' := by
  refine calls_fr (args := [.agg (cBs r.1).toArray, .agg (cBs s.1).toArray, .int .i64 at', .int .i64 m', v]) (n := 71) Try.func3 rfl rfl (show 5 ≤ 71 by decide) ?_
  have hr := Rd.stab hr0
  have hH : Heap (newN w) w w [] := Heap.fresh
  refine wp_seq ?_
  refine wp_gen (fun F' => F' 0 = .agg (cBs r.1).toArray ∧ F' 1 = .agg (cBs s.1).toArray ∧ F' 2 = .int .i64 at' ∧ F' 3 = .int .i64 m' ∧ F' 4 = v) ⟨rfl, rfl, rfl, rfl, rfl⟩ ?_
  rintro F ⟨e0, e1, e2, e3, e4⟩
  refine wp_regionF ?_
  refine lf_ex (wantAll rfl) (hx_box hH 23 (cs := cBs r.1) rfl (fr_eval rfl e0) (by rfl)) ?_
  clear hH
  rintro _ w1 ⟨g1, rfl, hH, hx⟩
  replace hH : Heap (newN w) w w1 [oBlk g1 (cBs r.1) 23] := hH
  clear hx
  refine lf_ex (wantAll rfl) (hx_box hH 23 (cs := cBs s.1) rfl (fr_eval rfl e1) (by rfl)) ?_
  clear hH
  rintro _ w2 ⟨g2, rfl, hH, hx⟩
  replace hH : Heap (newN w) w w2 [oBlk g1 (cBs r.1) 23, oBlk g2 (cBs s.1) 23] := hH
  clear hx
  refine lf_val (v := .bool false) (wantAll rfl) (rv_assign rfl rfl) ?_
  refine lf_nil ?_
  refine then_n ?_
  refine wp_seq ?_
  refine wp_gen (fun F' => F' 0 = .agg (cBs r.1).toArray ∧ F' 1 = .agg (cBs s.1).toArray ∧ F' 2 = .int .i64 at' ∧ F' 3 = .int .i64 m' ∧ F' 4 = v ∧ F' 5 = .pointer (some ⟨g1, 0, none⟩) ∧ F' 6 = .pointer (some ⟨g2, 0, none⟩) ∧ F' 10 = .bool false) ⟨e0, e1, e2, e3, e4, rfl, rfl, rfl⟩ ?_
  clear e0 e1 e2 e3 e4
  clear F
  rintro F ⟨e0, e1, e2, e3, e4, e5, e6, e10⟩
  refine wp_regionF ?_
  refine lf_val (v := v) (wantAll rfl) (rv_move rfl (fr_eval rfl e4)) ?_
  have hf_t15 := Stab.cut (n := 40) cS_len hr
  refine lf_call (wantAll rfl) (rv_call (args := [v]) rfl (evc (fr_eval rfl rfl) evn) Try.call14) (few03_calls p _ _ (hr.rd _ hH.chg)) ?_
  rintro _ w3 ⟨rfl, hx⟩
  refine ⟨_, rfl, ?_⟩
  replace hH := hH.ext hx
  clear hx
  refine lf_val (v := cutR 32 v p.length 40) (wantAll rfl) (rv_assign rfl (fr_eval rfl rfl)) ?_
  refine lf_nil ?_
  refine then_n ?_
  refine wp_seq ?_
  refine wp_gen (fun F' => F' 0 = .agg (cBs r.1).toArray ∧ F' 1 = .agg (cBs s.1).toArray ∧ F' 2 = .int .i64 at' ∧ F' 3 = .int .i64 m' ∧ F' 4 = cutR 32 v p.length 40 ∧ F' 5 = .pointer (some ⟨g1, 0, none⟩) ∧ F' 6 = .pointer (some ⟨g2, 0, none⟩) ∧ F' 10 = .bool false) ⟨e0, e1, e2, e3, rfl, e5, e6, e10⟩ ?_
  clear e0 e1 e2 e3 e4 e5 e6 e10
  clear F
  rintro F ⟨e0, e1, e2, e3, e4, e5, e6, e10⟩
  refine wp_regionF ?_
  refine lf_val (v := .agg (cBs r.1).toArray) (wantAll rfl) (rv_loadW rfl (hH.blk (i := 0) rfl) (fr_eval rfl e5) Try.underlying23 rfl (sz_len Try.sz23 (cBs_len r.2))) ?_
  refine lf_val (v := .agg (cBs s.1).toArray) (wantAll rfl) (rv_loadW rfl (hH.blk (i := 1) rfl) (fr_eval rfl e6) Try.underlying23 rfl (sz_len Try.sz23 (cBs_len s.2))) ?_
  refine lf_val (v := .int .i64 at') (wantAll rfl) (rv_move rfl (fr_eval rfl e2)) ?_
  refine lf_val (v := .int .i64 m') (wantAll rfl) (rv_move rfl (fr_eval rfl e3)) ?_
  refine lf_val (v := cutR 32 v p.length 40) (wantAll rfl) (rv_move rfl (fr_eval rfl e4)) ?_
  refine lf_call (wantAll rfl) (rv_call (args := [.agg (cBs r.1).toArray, .agg (cBs s.1).toArray, .int .i64 at', .int .i64 m', cutR 32 v p.length 40]) rfl (evc (fr_eval rfl rfl) (evc (fr_eval rfl rfl) (evc (fr_eval rfl rfl) (evc (fr_eval rfl rfl) (evc (fr_eval rfl rfl) evn))))) Try.call15) (check_calls r s at' m' (by omega) (by omega) (List.take 40 p) _ _ (hf_t15.rd _ hH.chg)) ?_
  rintro _ w4 ⟨rfl, hx⟩
  refine ⟨_, rfl, ?_⟩
  replace hH := hH.ext hx
  clear hx
  refine lf_val (v := .bool (checkB r s at' m' (List.take 40 p))) (wantAll rfl) (rv_assign rfl (fr_eval rfl rfl)) ?_
  refine lf_nil ?_
  refine then_n ?_
  refine wp_seq ?_
  refine wp_seq ?_
  refine wp_gen (fun F' => F' 0 = .agg (cBs r.1).toArray ∧ F' 1 = .agg (cBs s.1).toArray ∧ F' 2 = .int .i64 at' ∧ F' 3 = .int .i64 m' ∧ F' 4 = cutR 32 v p.length 40 ∧ F' 5 = .pointer (some ⟨g1, 0, none⟩) ∧ F' 6 = .pointer (some ⟨g2, 0, none⟩) ∧ F' 10 = .bool false ∧ F' 11 = .bool (checkB r s at' m' (List.take 40 p))) ⟨e0, e1, e2, e3, e4, e5, e6, e10, rfl⟩ ?_
  clear e0 e1 e2 e3 e4 e5 e6 e10
  clear F
  rintro F ⟨e0, e1, e2, e3, e4, e5, e6, e10, e11⟩
  refine wp_regionF ?_
  refine lf_val (v := .int .i64 at') (wantAll rfl) (rv_move rfl (fr_eval rfl e2)) ?_
  by_cases hc1 : at' < 0
  · refine lf_val (v := .bool true) (wantAll rfl) (rv_lss rfl (fr_eval rfl rfl) rfl (decide_eq_true (by omega))) ?_
    refine lf_val (v := .bool true) (wantAll rfl) (rv_move rfl (fr_eval rfl rfl)) ?_
    refine lf_not (wantNot (d := 24) rfl (by kernel_rfl) rfl rfl) ?_
    refine lf_not (wantNot (d := 24) rfl (by kernel_rfl) rfl rfl) ?_
    refine lf_not (wantNot (d := 24) rfl (by kernel_rfl) rfl rfl) ?_
    refine lf_val (v := .bool true) (wantAll rfl) (rv_pickT rfl (fr_eval rfl rfl) rfl) ?_
    refine lf_val (v := .bool true) (wantAll rfl) (rv_move rfl (fr_eval rfl rfl)) ?_
    refine lf_not (wantNot (d := 29) rfl (by kernel_rfl) rfl rfl) ?_
    refine lf_not (wantNot (d := 29) rfl (by kernel_rfl) rfl rfl) ?_
    refine lf_val (v := .bool true) (wantAll rfl) (rv_pickT rfl (fr_eval rfl rfl) rfl) ?_
    refine lf_nil ?_
    refine then_n ?_
    refine wp_gen (fun F' => F' 0 = .agg (cBs r.1).toArray ∧ F' 1 = .agg (cBs s.1).toArray ∧ F' 2 = .int .i64 at' ∧ F' 3 = .int .i64 m' ∧ F' 4 = cutR 32 v p.length 40 ∧ F' 5 = .pointer (some ⟨g1, 0, none⟩) ∧ F' 6 = .pointer (some ⟨g2, 0, none⟩) ∧ F' 10 = .bool false ∧ F' 11 = .bool (checkB r s at' m' (List.take 40 p)) ∧ F' 32 = .bool true) ⟨e0, e1, e2, e3, e4, e5, e6, e10, e11, rfl⟩ ?_
    clear e0 e1 e2 e3 e4 e5 e6 e10 e11
    clear F
    rintro F ⟨e0, e1, e2, e3, e4, e5, e6, e10, e11, e32⟩
    refine wp_cond_true (fr_eval rfl e32) ?_
    refine wp_seq ?_
    have hg : checkB r s at' m' (List.take 40 p) = false := checkB_no (by omega)
    refine wp_regionF ?_
    refine lf_val (v := .bool false) (wantAll rfl) (rv_move rfl (fr_eval rfl (e11.trans (by rw [hg])))) ?_
    refine lf_val (v := .bool true) (wantAll rfl) (rv_not (b := false) rfl (fr_eval rfl rfl)) ?_
    refine lf_val (v := .bool true) (wantAll rfl) (rv_move rfl (fr_eval rfl rfl)) ?_
    refine lf_call (wantF (d := 35) rfl (by kernel_rfl) rfl rfl) (rv_call (args := []) rfl evn Try.call16) (awake03_calls _) ?_
    rintro _ w5 ⟨rfl, hx⟩
    refine ⟨_, rfl, ?_⟩
    replace hH := hH.ext hx
    clear hx
    refine lf_val (v := .bool true) (wantAll rfl) (rv_pickT rfl (fr_eval rfl rfl) (fr_eval rfl rfl)) ?_
    refine lf_val (v := .bool true) (wantAll rfl) (rv_assign rfl (fr_eval rfl rfl)) ?_
    refine lf_nil ?_
    refine then_n ?_
    refine wp_gen (fun F' => F' 0 = .agg (cBs r.1).toArray ∧ F' 1 = .agg (cBs s.1).toArray ∧ F' 2 = .int .i64 at' ∧ F' 3 = .int .i64 m' ∧ F' 4 = cutR 32 v p.length 40 ∧ F' 5 = .pointer (some ⟨g1, 0, none⟩) ∧ F' 6 = .pointer (some ⟨g2, 0, none⟩) ∧ F' 10 = .bool true ∧ F' 11 = .bool false ∧ F' 32 = .bool true) ⟨e0, e1, e2, e3, e4, e5, e6, rfl, (e11.trans (by rw [hg])), e32⟩ ?_
    clear e0 e1 e2 e3 e4 e5 e6 e10 e11 e32
    clear F
    rintro F ⟨e0, e1, e2, e3, e4, e5, e6, e10, e11, e32⟩
    refine wp_ret ?_
    refine then_ret ?_
    exact bodyPost_ret (v := (.bool true)) (res1 rfl (ro_tmp rfl e10)) rfl (⟨rfl, hH.done⟩)
  · refine lf_val (v := .bool false) (wantAll rfl) (rv_lss rfl (fr_eval rfl rfl) rfl (decide_eq_false (by omega))) ?_
    refine lf_val (v := .bool false) (wantAll rfl) (rv_move rfl (fr_eval rfl rfl)) ?_
    refine lf_val (v := .int .i64 at') (wantF (d := 24) rfl (by kernel_rfl) rfl rfl) (rv_move rfl (fr_eval rfl e2)) ?_
    refine lf_val (v := .int .i64 m') (wantF (d := 24) rfl (by kernel_rfl) rfl rfl) (rv_move rfl (fr_eval rfl e3)) ?_
    by_cases hc2 : at' ≥ m'
    · refine lf_val (v := .bool true) (wantF (d := 24) rfl (by kernel_rfl) rfl rfl) (rv_geq rfl (fr_eval rfl rfl) (fr_eval rfl rfl) (decide_eq_true (by omega))) ?_
      refine lf_val (v := .bool true) (wantAll rfl) (rv_pickF rfl (fr_eval rfl rfl) (fr_eval rfl rfl)) ?_
      refine lf_val (v := .bool true) (wantAll rfl) (rv_move rfl (fr_eval rfl rfl)) ?_
      refine lf_not (wantNot (d := 29) rfl (by kernel_rfl) rfl rfl) ?_
      refine lf_not (wantNot (d := 29) rfl (by kernel_rfl) rfl rfl) ?_
      refine lf_val (v := .bool true) (wantAll rfl) (rv_pickT rfl (fr_eval rfl rfl) rfl) ?_
      refine lf_nil ?_
      refine then_n ?_
      refine wp_gen (fun F' => F' 0 = .agg (cBs r.1).toArray ∧ F' 1 = .agg (cBs s.1).toArray ∧ F' 2 = .int .i64 at' ∧ F' 3 = .int .i64 m' ∧ F' 4 = cutR 32 v p.length 40 ∧ F' 5 = .pointer (some ⟨g1, 0, none⟩) ∧ F' 6 = .pointer (some ⟨g2, 0, none⟩) ∧ F' 10 = .bool false ∧ F' 11 = .bool (checkB r s at' m' (List.take 40 p)) ∧ F' 32 = .bool true) ⟨e0, e1, e2, e3, e4, e5, e6, e10, e11, rfl⟩ ?_
      clear e0 e1 e2 e3 e4 e5 e6 e10 e11
      clear F
      rintro F ⟨e0, e1, e2, e3, e4, e5, e6, e10, e11, e32⟩
      refine wp_cond_true (fr_eval rfl e32) ?_
      refine wp_seq ?_
      have hg : checkB r s at' m' (List.take 40 p) = false := checkB_no (by omega)
      refine wp_regionF ?_
      refine lf_val (v := .bool false) (wantAll rfl) (rv_move rfl (fr_eval rfl (e11.trans (by rw [hg])))) ?_
      refine lf_val (v := .bool true) (wantAll rfl) (rv_not (b := false) rfl (fr_eval rfl rfl)) ?_
      refine lf_val (v := .bool true) (wantAll rfl) (rv_move rfl (fr_eval rfl rfl)) ?_
      refine lf_call (wantF (d := 35) rfl (by kernel_rfl) rfl rfl) (rv_call (args := []) rfl evn Try.call16) (awake03_calls _) ?_
      rintro _ w6 ⟨rfl, hx⟩
      refine ⟨_, rfl, ?_⟩
      replace hH := hH.ext hx
      clear hx
      refine lf_val (v := .bool true) (wantAll rfl) (rv_pickT rfl (fr_eval rfl rfl) (fr_eval rfl rfl)) ?_
      refine lf_val (v := .bool true) (wantAll rfl) (rv_assign rfl (fr_eval rfl rfl)) ?_
      refine lf_nil ?_
      refine then_n ?_
      refine wp_gen (fun F' => F' 0 = .agg (cBs r.1).toArray ∧ F' 1 = .agg (cBs s.1).toArray ∧ F' 2 = .int .i64 at' ∧ F' 3 = .int .i64 m' ∧ F' 4 = cutR 32 v p.length 40 ∧ F' 5 = .pointer (some ⟨g1, 0, none⟩) ∧ F' 6 = .pointer (some ⟨g2, 0, none⟩) ∧ F' 10 = .bool true ∧ F' 11 = .bool false ∧ F' 32 = .bool true) ⟨e0, e1, e2, e3, e4, e5, e6, rfl, (e11.trans (by rw [hg])), e32⟩ ?_
      clear e0 e1 e2 e3 e4 e5 e6 e10 e11 e32
      clear F
      rintro F ⟨e0, e1, e2, e3, e4, e5, e6, e10, e11, e32⟩
      refine wp_ret ?_
      refine then_ret ?_
      exact bodyPost_ret (v := (.bool true)) (res1 rfl (ro_tmp rfl e10)) rfl (⟨rfl, hH.done⟩)
    · refine lf_val (v := .bool false) (wantF (d := 24) rfl (by kernel_rfl) rfl rfl) (rv_geq rfl (fr_eval rfl rfl) (fr_eval rfl rfl) (decide_eq_false (by omega))) ?_
      refine lf_val (v := .bool false) (wantAll rfl) (rv_pickF rfl (fr_eval rfl rfl) (fr_eval rfl rfl)) ?_
      refine lf_val (v := .bool false) (wantAll rfl) (rv_move rfl (fr_eval rfl rfl)) ?_
      refine lf_val (v := .int .i64 m') (wantF (d := 29) rfl (by kernel_rfl) rfl rfl) (rv_move rfl (fr_eval rfl e3)) ?_
      by_cases hc3 : m' > 4096
      · refine lf_val (v := .bool true) (wantF (d := 29) rfl (by kernel_rfl) rfl rfl) (rv_gtr rfl (fr_eval rfl rfl) rfl (decide_eq_true (by omega))) ?_
        refine lf_val (v := .bool true) (wantAll rfl) (rv_pickF rfl (fr_eval rfl rfl) (fr_eval rfl rfl)) ?_
        refine lf_nil ?_
        refine then_n ?_
        refine wp_gen (fun F' => F' 0 = .agg (cBs r.1).toArray ∧ F' 1 = .agg (cBs s.1).toArray ∧ F' 2 = .int .i64 at' ∧ F' 3 = .int .i64 m' ∧ F' 4 = cutR 32 v p.length 40 ∧ F' 5 = .pointer (some ⟨g1, 0, none⟩) ∧ F' 6 = .pointer (some ⟨g2, 0, none⟩) ∧ F' 10 = .bool false ∧ F' 11 = .bool (checkB r s at' m' (List.take 40 p)) ∧ F' 32 = .bool true) ⟨e0, e1, e2, e3, e4, e5, e6, e10, e11, rfl⟩ ?_
        clear e0 e1 e2 e3 e4 e5 e6 e10 e11
        clear F
        rintro F ⟨e0, e1, e2, e3, e4, e5, e6, e10, e11, e32⟩
        refine wp_cond_true (fr_eval rfl e32) ?_
        refine wp_seq ?_
        have hg : checkB r s at' m' (List.take 40 p) = false := checkB_no (by omega)
        refine wp_regionF ?_
        refine lf_val (v := .bool false) (wantAll rfl) (rv_move rfl (fr_eval rfl (e11.trans (by rw [hg])))) ?_
        refine lf_val (v := .bool true) (wantAll rfl) (rv_not (b := false) rfl (fr_eval rfl rfl)) ?_
        refine lf_val (v := .bool true) (wantAll rfl) (rv_move rfl (fr_eval rfl rfl)) ?_
        refine lf_call (wantF (d := 35) rfl (by kernel_rfl) rfl rfl) (rv_call (args := []) rfl evn Try.call16) (awake03_calls _) ?_
        rintro _ w7 ⟨rfl, hx⟩
        refine ⟨_, rfl, ?_⟩
        replace hH := hH.ext hx
        clear hx
        refine lf_val (v := .bool true) (wantAll rfl) (rv_pickT rfl (fr_eval rfl rfl) (fr_eval rfl rfl)) ?_
        refine lf_val (v := .bool true) (wantAll rfl) (rv_assign rfl (fr_eval rfl rfl)) ?_
        refine lf_nil ?_
        refine then_n ?_
        refine wp_gen (fun F' => F' 0 = .agg (cBs r.1).toArray ∧ F' 1 = .agg (cBs s.1).toArray ∧ F' 2 = .int .i64 at' ∧ F' 3 = .int .i64 m' ∧ F' 4 = cutR 32 v p.length 40 ∧ F' 5 = .pointer (some ⟨g1, 0, none⟩) ∧ F' 6 = .pointer (some ⟨g2, 0, none⟩) ∧ F' 10 = .bool true ∧ F' 11 = .bool false ∧ F' 32 = .bool true) ⟨e0, e1, e2, e3, e4, e5, e6, rfl, (e11.trans (by rw [hg])), e32⟩ ?_
        clear e0 e1 e2 e3 e4 e5 e6 e10 e11 e32
        clear F
        rintro F ⟨e0, e1, e2, e3, e4, e5, e6, e10, e11, e32⟩
        refine wp_ret ?_
        refine then_ret ?_
        exact bodyPost_ret (v := (.bool true)) (res1 rfl (ro_tmp rfl e10)) rfl (⟨rfl, hH.done⟩)
      · refine lf_val (v := .bool false) (wantF (d := 29) rfl (by kernel_rfl) rfl rfl) (rv_gtr rfl (fr_eval rfl rfl) rfl (decide_eq_false (by omega))) ?_
        refine lf_val (v := .bool false) (wantAll rfl) (rv_pickF rfl (fr_eval rfl rfl) (fr_eval rfl rfl)) ?_
        refine lf_nil ?_
        refine then_n ?_
        refine wp_gen (fun F' => F' 0 = .agg (cBs r.1).toArray ∧ F' 1 = .agg (cBs s.1).toArray ∧ F' 2 = .int .i64 at' ∧ F' 3 = .int .i64 m' ∧ F' 4 = cutR 32 v p.length 40 ∧ F' 5 = .pointer (some ⟨g1, 0, none⟩) ∧ F' 6 = .pointer (some ⟨g2, 0, none⟩) ∧ F' 10 = .bool false ∧ F' 11 = .bool (checkB r s at' m' (List.take 40 p)) ∧ F' 32 = .bool false) ⟨e0, e1, e2, e3, e4, e5, e6, e10, e11, rfl⟩ ?_
        clear e0 e1 e2 e3 e4 e5 e6 e10 e11
        clear F
        rintro F ⟨e0, e1, e2, e3, e4, e5, e6, e10, e11, e32⟩
        refine wp_cond_false (fr_eval rfl e32) ?_
        refine wp_skip ?_
        refine then_n ?_
        refine wp_seq ?_
        obtain ⟨a0, rfl⟩ : ∃ a0 : Nat, at' = (a0 : Int) := ⟨at'.toNat, by omega⟩
        obtain ⟨m0, rfl⟩ : ∃ m0 : Nat, m' = (m0 : Int) := ⟨m'.toNat, by omega⟩
        refine wp_regionF ?_
        refine lf_val (v := .agg (cBs s.1).toArray) (wantAll rfl) (rv_loadW rfl (hH.blk (i := 1) rfl) (fr_eval rfl e6) Try.underlying23 rfl (sz_len Try.sz23 (cBs_len s.2))) ?_
        refine lf_val (v := .int .i64 ((a0 : Nat) : Int)) (wantAll rfl) (rv_move rfl (fr_eval rfl e2)) ?_
        refine lf_val (v := .int .i64 ((m0 : Nat) : Int)) (wantAll rfl) (rv_move rfl (fr_eval rfl e3)) ?_
        refine lf_val (v := cutR 32 v p.length 40) (wantAll rfl) (rv_move rfl (fr_eval rfl e4)) ?_
        refine lf_call (wantAll rfl) (rv_call (args := [.agg (cBs s.1).toArray, .int .i64 ((a0 : Nat) : Int), .int .i64 ((m0 : Nat) : Int), cutR 32 v p.length 40]) rfl (evc (fr_eval rfl rfl) (evc (fr_eval rfl rfl) (evc (fr_eval rfl rfl) (evc (fr_eval rfl rfl) evn)))) Try.call17) (climb03_calls s a0 m0 ⟨by omega, by omega⟩ (List.take 40 p) _ _ (hf_t15.rd _ hH.chg)) ?_
        rintro _ w8 ⟨⟨nw_t43, ok_t43, rfl, hC_t43⟩, hx⟩
        refine ⟨_, rfl, ?_⟩
        replace hH := hH.ext hx
        clear hx
        refine lf_val (v := .tuple #[.agg (cBs nw_t43.1).toArray, .bool ok_t43]) (wantAll rfl) (rv_move rfl (fr_eval rfl rfl)) ?_
        refine lf_val (v := .agg (cBs nw_t43.1).toArray) (wantAll rfl) (rv_extract rfl (fr_eval rfl rfl) rfl) ?_
        refine lf_val (v := .bool ok_t43) (wantAll rfl) (rv_extract rfl (fr_eval rfl rfl) rfl) ?_
        refine lf_ex (wantAll rfl) (hx_alloc hH 23 (z := .agg (cBs (List.replicate 32 0)).toArray) (n := 32) (cs := cBs (List.replicate 32 0)) rfl (by kernel_rfl) (by rfl)) ?_
        clear hH
        rintro _ w9 ⟨g3, rfl, hH, hx⟩
        replace hH : Heap (newN w) w w9 [oBlk g1 (cBs r.1) 23, oBlk g2 (cBs s.1) 23, oBlk g3 (cBs (List.replicate 32 0)) 23] := hH
        clear hx
        refine lf_sk (wantAll rfl) (hx_storeW hH (i := 2) (cs := cBs nw_t43.1) rfl rfl rfl (fr_eval rfl rfl) (fr_eval rfl rfl) (sz_len Try.sz23 (cBs_len nw_t43.2)) (((cBs_len (List.length_replicate ..))).trans ((cBs_len nw_t43.2)).symm) ((cBs_one _))) ?_
        clear hH
        rintro w10 ⟨hH, hx⟩
        replace hH : Heap (newN w) w w10 [oBlk g1 (cBs r.1) 23, oBlk g2 (cBs s.1) 23, oBlk g3 (cBs nw_t43.1) 23] := hH
        clear hx
        refine lf_val (v := .bool ok_t43) (wantAll rfl) (rv_assign rfl (fr_eval rfl rfl)) ?_
        refine lf_nil ?_
        refine then_n ?_
        refine wp_seq ?_
        refine wp_gen (fun F' => F' 0 = .agg (cBs r.1).toArray ∧ F' 1 = .agg (cBs s.1).toArray ∧ F' 2 = .int .i64 ((a0 : Nat) : Int) ∧ F' 3 = .int .i64 ((m0 : Nat) : Int) ∧ F' 4 = cutR 32 v p.length 40 ∧ F' 5 = .pointer (some ⟨g1, 0, none⟩) ∧ F' 6 = .pointer (some ⟨g2, 0, none⟩) ∧ F' 10 = .bool false ∧ F' 11 = .bool (checkB r s (a0 : Int) (m0 : Int) (List.take 40 p)) ∧ F' 12 = .pointer (some ⟨g3, 0, none⟩) ∧ F' 13 = .bool ok_t43 ∧ F' 32 = .bool false) ⟨e0, e1, e2, e3, e4, e5, e6, e10, e11, rfl, rfl, e32⟩ ?_
        clear e0 e1 e2 e3 e4 e5 e6 e10 e11 e32
        clear F
        rintro F ⟨e0, e1, e2, e3, e4, e5, e6, e10, e11, e12, e13, e32⟩
        have hk : a0 < m0 ∧ m0 ≤ 4096 := ⟨by omega, by omega⟩
        refine wp_regionF ?_
        refine lf_val (v := .bool (checkB r s (a0 : Int) (m0 : Int) (List.take 40 p))) (wantAll rfl) (rv_move rfl (fr_eval rfl e11)) ?_
        refine lf_val (v := .bool ok_t43) (wantAll rfl) (rv_move rfl (fr_eval rfl e13)) ?_
        refine lf_val (v := .bool ok_t43) (wantAll rfl) (rv_move rfl (fr_eval rfl rfl)) ?_
        cases hb1 : ok_t43
        · refine lf_not (wantNot (d := 48) rfl (by kernel_rfl) rfl rfl) ?_
          refine lf_not (wantNot (d := 48) rfl (by kernel_rfl) rfl rfl) ?_
          refine lf_not (wantNot (d := 48) rfl (by kernel_rfl) rfl rfl) ?_
          refine lf_val (v := .bool false) (wantAll rfl) (rv_pickF rfl (fr_eval rfl rfl) rfl) ?_
          refine lf_val (v := .bool true) (wantAll rfl) (rv_eqb (d := true) rfl (fr_eval rfl rfl) (fr_eval rfl rfl) Try.underlying4 (by rw [check_no hk hC_t43 (by assumption)]; rfl)) ?_
          refine lf_val (v := .bool true) (wantAll rfl) (rv_move rfl (fr_eval rfl rfl)) ?_
          refine lf_val (v := .bool false) (wantF (d := 54) rfl (by kernel_rfl) rfl rfl) (rv_move rfl (fr_eval rfl (e13.trans (by rw [hb1])))) ?_
          refine lf_val (v := .bool true) (wantF (d := 54) rfl (by kernel_rfl) rfl rfl) (rv_not (b := false) rfl (fr_eval rfl rfl)) ?_
          refine lf_val (v := .bool true) (wantF (d := 54) rfl (by kernel_rfl) rfl rfl) (rv_move rfl (fr_eval rfl rfl)) ?_
          refine lf_not (wantNot (d := 57) rfl (by kernel_rfl) rfl rfl) ?_
          refine lf_not (wantNot (d := 57) rfl (by kernel_rfl) rfl rfl) ?_
          refine lf_not (wantNot (d := 57) rfl (by kernel_rfl) rfl rfl) ?_
          refine lf_not (wantNot (d := 57) rfl (by kernel_rfl) rfl rfl) ?_
          refine lf_not (wantNot (d := 57) rfl (by kernel_rfl) rfl rfl) ?_
          refine lf_not (wantNot (d := 57) rfl (by kernel_rfl) rfl rfl) ?_
          refine lf_val (v := .bool true) (wantF (d := 54) rfl (by kernel_rfl) rfl rfl) (rv_pickT rfl (fr_eval rfl rfl) rfl) ?_
          refine lf_val (v := .bool true) (wantAll rfl) (rv_pickT rfl (fr_eval rfl rfl) (fr_eval rfl rfl)) ?_
          refine lf_val (v := .bool true) (wantAll rfl) (rv_move rfl (fr_eval rfl rfl)) ?_
          refine lf_val (v := .bool true) (wantAll rfl) (rv_pickT rfl (fr_eval rfl rfl) rfl) ?_
          refine lf_val (v := .bool true) (wantAll rfl) (rv_move rfl (fr_eval rfl rfl)) ?_
          refine lf_call (wantF (d := 68) rfl (by kernel_rfl) rfl rfl) (rv_call (args := []) rfl evn Try.call16) (awake03_calls _) ?_
          rintro _ w11 ⟨rfl, hx⟩
          refine ⟨_, rfl, ?_⟩
          replace hH := hH.ext hx
          clear hx
          refine lf_val (v := .bool true) (wantAll rfl) (rv_pickT rfl (fr_eval rfl rfl) (fr_eval rfl rfl)) ?_
          refine lf_val (v := .bool true) (wantAll rfl) (rv_assign rfl (fr_eval rfl rfl)) ?_
          refine lf_nil ?_
          refine then_n ?_
          refine wp_gen (fun F' => F' 0 = .agg (cBs r.1).toArray ∧ F' 1 = .agg (cBs s.1).toArray ∧ F' 2 = .int .i64 ((a0 : Nat) : Int) ∧ F' 3 = .int .i64 ((m0 : Nat) : Int) ∧ F' 4 = cutR 32 v p.length 40 ∧ F' 5 = .pointer (some ⟨g1, 0, none⟩) ∧ F' 6 = .pointer (some ⟨g2, 0, none⟩) ∧ F' 10 = .bool true ∧ F' 11 = .bool (checkB r s (a0 : Int) (m0 : Int) (List.take 40 p)) ∧ F' 12 = .pointer (some ⟨g3, 0, none⟩) ∧ F' 13 = .bool false ∧ F' 32 = .bool false) ⟨e0, e1, e2, e3, e4, e5, e6, rfl, e11, e12, (e13.trans (by rw [hb1])), e32⟩ ?_
          clear e0 e1 e2 e3 e4 e5 e6 e10 e11 e12 e13 e32
          clear F
          rintro F ⟨e0, e1, e2, e3, e4, e5, e6, e10, e11, e12, e13, e32⟩
          refine wp_ret ?_
          exact bodyPost_ret (v := (.bool true)) (res1 rfl (ro_tmp rfl e10)) rfl (⟨rfl, hH.done⟩)
        · refine lf_val (v := .agg (cBs nw_t43.1).toArray) (wantF (d := 48) rfl (by kernel_rfl) rfl rfl) (rv_loadW rfl (hH.blk (i := 2) rfl) (fr_eval rfl e12) Try.underlying23 rfl (sz_len Try.sz23 (cBs_len nw_t43.2))) ?_
          refine lf_val (v := .agg (cBs r.1).toArray) (wantF (d := 48) rfl (by kernel_rfl) rfl rfl) (rv_loadW rfl (hH.blk (i := 0) rfl) (fr_eval rfl e5) Try.underlying23 rfl (sz_len Try.sz23 (cBs_len r.2))) ?_
          refine lf_val (v := .bool (nw_t43.1 == r.1)) (wantF (d := 48) rfl (by kernel_rfl) rfl rfl) (eqT rfl (fr_eval rfl rfl) (fr_eval rfl rfl) nw_t43.2 r.2 (b := (nw_t43.1 == r.1)) rfl) ?_
          refine lf_val (v := .bool (nw_t43.1 == r.1)) (wantAll rfl) (rv_pickT rfl (fr_eval rfl rfl) (fr_eval rfl rfl)) ?_
          refine lf_val (v := .bool true) (wantAll rfl) (rv_eqb (d := true) rfl (fr_eval rfl rfl) (fr_eval rfl rfl) Try.underlying4 (by rw [check_yes hk (hC_t43.yes (by assumption))]; exact beq_self_eq_true _)) ?_
          refine lf_val (v := .bool true) (wantAll rfl) (rv_move rfl (fr_eval rfl rfl)) ?_
          refine lf_val (v := .bool true) (wantF (d := 54) rfl (by kernel_rfl) rfl rfl) (rv_move rfl (fr_eval rfl (e13.trans (by rw [hb1])))) ?_
          refine lf_val (v := .bool false) (wantF (d := 54) rfl (by kernel_rfl) rfl rfl) (rv_not (b := true) rfl (fr_eval rfl rfl)) ?_
          refine lf_val (v := .bool false) (wantF (d := 54) rfl (by kernel_rfl) rfl rfl) (rv_move rfl (fr_eval rfl rfl)) ?_
          refine lf_val (v := .agg (cBs nw_t43.1).toArray) (wantF (d := 57) rfl (by kernel_rfl) rfl rfl) (rv_loadW rfl (hH.blk (i := 2) rfl) (fr_eval rfl e12) Try.underlying23 rfl (sz_len Try.sz23 (cBs_len nw_t43.2))) ?_
          refine lf_val (v := .agg (cBs s.1).toArray) (wantF (d := 57) rfl (by kernel_rfl) rfl rfl) (rv_loadW rfl (hH.blk (i := 1) rfl) (fr_eval rfl e6) Try.underlying23 rfl (sz_len Try.sz23 (cBs_len s.2))) ?_
          refine lf_val (v := .int .i64 ((a0 : Nat) : Int)) (wantF (d := 57) rfl (by kernel_rfl) rfl rfl) (rv_move rfl (fr_eval rfl e2)) ?_
          refine lf_val (v := .int .i64 ((m0 : Nat) : Int)) (wantF (d := 57) rfl (by kernel_rfl) rfl rfl) (rv_move rfl (fr_eval rfl e3)) ?_
          refine lf_val (v := cutR 32 v p.length 40) (wantF (d := 57) rfl (by kernel_rfl) rfl rfl) (rv_move rfl (fr_eval rfl e4)) ?_
          refine lf_call (wantF (d := 57) rfl (by kernel_rfl) rfl rfl) (rv_call (args := [.agg (cBs nw_t43.1).toArray, .agg (cBs s.1).toArray, .int .i64 ((a0 : Nat) : Int), .int .i64 ((m0 : Nat) : Int), cutR 32 v p.length 40]) rfl (evc (fr_eval rfl rfl) (evc (fr_eval rfl rfl) (evc (fr_eval rfl rfl) (evc (fr_eval rfl rfl) (evc (fr_eval rfl rfl) evn))))) Try.call15) (calls_known (b' := true) (check_calls nw_t43 s ((a0 : Nat) : Int) ((m0 : Nat) : Int) (by omega) (by omega) (List.take 40 p) _ _ (hf_t15.rd _ hH.chg)) (by rw [check_yes hk (hC_t43.yes (by assumption))]; first | done | exact beq_self_eq_true _)) ?_
          rintro _ w12 ⟨rfl, hx⟩
          refine ⟨_, rfl, ?_⟩
          replace hH := hH.ext hx
          clear hx
          refine lf_val (v := .bool true) (wantF (d := 54) rfl (by kernel_rfl) rfl rfl) (rv_pickF rfl (fr_eval rfl rfl) (fr_eval rfl rfl)) ?_
          refine lf_val (v := .bool true) (wantAll rfl) (rv_pickT rfl (fr_eval rfl rfl) (fr_eval rfl rfl)) ?_
          refine lf_val (v := .bool true) (wantAll rfl) (rv_move rfl (fr_eval rfl rfl)) ?_
          refine lf_val (v := .bool true) (wantAll rfl) (rv_pickT rfl (fr_eval rfl rfl) rfl) ?_
          refine lf_val (v := .bool true) (wantAll rfl) (rv_move rfl (fr_eval rfl rfl)) ?_
          refine lf_call (wantF (d := 68) rfl (by kernel_rfl) rfl rfl) (rv_call (args := []) rfl evn Try.call16) (awake03_calls _) ?_
          rintro _ w13 ⟨rfl, hx⟩
          refine ⟨_, rfl, ?_⟩
          replace hH := hH.ext hx
          clear hx
          refine lf_val (v := .bool true) (wantAll rfl) (rv_pickT rfl (fr_eval rfl rfl) (fr_eval rfl rfl)) ?_
          refine lf_val (v := .bool true) (wantAll rfl) (rv_assign rfl (fr_eval rfl rfl)) ?_
          refine lf_nil ?_
          refine then_n ?_
          refine wp_gen (fun F' => F' 0 = .agg (cBs r.1).toArray ∧ F' 1 = .agg (cBs s.1).toArray ∧ F' 2 = .int .i64 ((a0 : Nat) : Int) ∧ F' 3 = .int .i64 ((m0 : Nat) : Int) ∧ F' 4 = cutR 32 v p.length 40 ∧ F' 5 = .pointer (some ⟨g1, 0, none⟩) ∧ F' 6 = .pointer (some ⟨g2, 0, none⟩) ∧ F' 10 = .bool true ∧ F' 11 = .bool (checkB r s (a0 : Int) (m0 : Int) (List.take 40 p)) ∧ F' 12 = .pointer (some ⟨g3, 0, none⟩) ∧ F' 13 = .bool true ∧ F' 32 = .bool false) ⟨e0, e1, e2, e3, e4, e5, e6, rfl, e11, e12, (e13.trans (by rw [hb1])), e32⟩ ?_
          clear e0 e1 e2 e3 e4 e5 e6 e10 e11 e12 e13 e32
          clear F
          rintro F ⟨e0, e1, e2, e3, e4, e5, e6, e10, e11, e12, e13, e32⟩
          refine wp_ret ?_
          exact bodyPost_ret (v := (.bool true)) (res1 rfl (ro_tmp rfl e10)) rfl (⟨rfl, hH.done⟩)

end Go.Proofs.Ytokddhidcjkadaa
