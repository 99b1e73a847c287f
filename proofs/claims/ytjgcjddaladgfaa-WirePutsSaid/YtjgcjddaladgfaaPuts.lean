/- WirePuts: the walk. -/
import Derived.Test.YtjgcjddaladgfaaNums
namespace Go.Proofs.Ytjgcjddaladgfaa
open Go.RowKit Go.Bz Go.Bz.Wire
attribute [local irreducible] wpList Code.wp wpAnyX
theorem cut_posB {b : List UInt8} {n : Nat} (h : 0 < (cBs (b.take n)).length) : 0 < (cBs b).length := by simp at h ⊢; omega
theorem take_all {l : List Int} {i : Nat} (h : l.length ≤ i) : List.take i l = l := List.take_of_length_le h
theorem puts_rest {l : List Int} {j : Nat} {x : List UInt8} (h : l.length ≤ j) : puts (List.drop j l) ++ x = x := by rw [List.drop_of_length_le h]; rfl

set_option maxRecDepth 100000 in
set_option maxHeartbeats 1000000 in
theorem wirePuts_walk (l : List Int) (v1 : Value) (hl : ∀ x ∈ l, inI x) (b : List UInt8) (v : Value) (s : List UInt8) (hs : s.length = 32) (w : World) (hz0 : RdI w v1 l) (hr0 : RdB w v b) :
    Calls Try.prog 6 #[v1, v, .agg (cBs s).toArray] w fun e'' w' => e'' = .returned (.bool true) ∧ Ext w w' := by
  refine calls_fr (args := [v1, v, .agg (cBs s).toArray]) (n := 97) Try.func6 rfl rfl (show 3 ≤ 97 by decide) ?_
  have hzm := Rd.max hz0
  have hz := Rd.stab (RdF.rd hz0)
  have hr := Rd.stab hr0
  have hH : Heap (newN w) w w [] := Heap.fresh
  refine wp_seq ?_
  refine wp_gen (fun F' => F' 0 = v1 ∧ F' 1 = v ∧ F' 2 = .agg (cBs s).toArray) ⟨rfl, rfl, rfl⟩ ?_
  rintro F ⟨e0, e1, e2⟩
  refine wp_regionF ?_
  refine lf_ex (wantAll rfl) (hx_box hH 45 (cs := cBs s) rfl (fr_eval rfl e2) (by rfl)) ?_
  clear hH
  rintro _ w1 ⟨g1, rfl, hH, hx⟩
  replace hH : Heap (newN w) w w1 [oBlk g1 (cBs s) 45] := hH
  clear hx
  refine lf_val (v := .bool false) (wantAll rfl) (rv_assign rfl rfl) ?_
  refine lf_nil ?_
  refine then_n ?_
  refine wp_seq ?_
  refine wp_seq ?_
  refine wp_gen (fun F' => F' 0 = v1 ∧ F' 1 = v ∧ F' 2 = .agg (cBs s).toArray ∧ F' 5 = .pointer (some ⟨g1, 0, none⟩) ∧ F' 6 = .bool false) ⟨e0, e1, e2, rfl, rfl⟩ ?_
  clear e0 e1 e2
  clear F
  rintro F ⟨e0, e1, e2, e5, e6⟩
  refine wp_regionF ?_
  refine lf_val (v := v1) (wantAll rfl) (rv_move rfl (fr_eval rfl e0)) ?_
  refine lf_val (v := .int .i64 ((l.length : Nat) : Int)) (wantAll rfl) (rv_len rfl (fr_eval rfl rfl) (hz.rd _ hH.chg) Try.underlying48) ?_
  by_cases hc1 : l.length > 30
  · refine lf_val (v := .bool true) (wantAll rfl) (rv_gtr rfl (fr_eval rfl rfl) rfl (decide_eq_true (by omega))) ?_
    refine lf_nil ?_
    refine then_n ?_
    refine wp_gen (fun F' => F' 0 = v1 ∧ F' 1 = v ∧ F' 2 = .agg (cBs s).toArray ∧ F' 5 = .pointer (some ⟨g1, 0, none⟩) ∧ F' 6 = .bool false ∧ F' 16 = .bool true) ⟨e0, e1, e2, e5, e6, rfl⟩ ?_
    clear e0 e1 e2 e5 e6
    clear F
    rintro F ⟨e0, e1, e2, e5, e6, e16⟩
    refine wp_cond_true (fr_eval rfl e16) ?_
    refine wp_regionF ?_
    refine lf_val (v := v1) (wantAll rfl) (rv_move rfl (fr_eval rfl e0)) ?_
    refine lf_val (v := slcV v1 1 0 30) (wantAll rfl) (rv_slcH (h := 30) Try.stInt rfl (fr_eval rfl rfl) (rdN (hz.rd _ hH.chg) rfl) (show _ = Value.int _ ((30 : Nat) : Int) from rfl) (by omega)) ?_
    refine lf_val (v := slcV v1 1 0 30) (wantAll rfl) (rv_assign rfl (fr_eval rfl rfl)) ?_
    refine lf_nil ?_
    refine then_n ?_
    refine wp_seq ?_
    refine wp_gen (fun F' => F' 0 = slcV v1 1 0 30 ∧ F' 1 = v ∧ F' 2 = .agg (cBs s).toArray ∧ F' 5 = .pointer (some ⟨g1, 0, none⟩) ∧ F' 6 = .bool false ∧ F' 16 = .bool true) ⟨rfl, e1, e2, e5, e6, e16⟩ ?_
    clear e0 e1 e2 e5 e6 e16
    clear F
    rintro F ⟨e0, e1, e2, e5, e6, e16⟩
    obtain ⟨l', hl'⟩ : ∃ l', l' = List.take (30 - 0) (List.drop 0 l) := ⟨_, rfl⟩
    have hLl : List.length l' ≤ 30 := by rw [hl']; simp only [List.length_take, List.length_drop]; omega
    have hin0 : ∀ x ∈ l', inI x := fun x hx => hl x (by rw [hl'] at hx; exact List.mem_of_mem_drop (List.mem_of_mem_take hx))
    have hrw : ∀ {w' : World}, Rd w' 1 (slcV v1 1 0 30) (List.take (30 - 0) (List.drop 0 l)).length ((List.take (30 - 0) (List.drop 0 l)).flatMap cI) → Rd w' 1 (slcV v1 1 0 30) l'.length (l'.flatMap cI) := fun h => by rw [hl']; exact h
    have hps : 0 < (l'.flatMap cI).length → 0 < ((List.take (30 - 0) (List.drop 0 l)).flatMap cI).length := fun h => by rw [← hl']; exact h
    have hin := getD_in hin0
    have hpl := puts_len l'
    have hpt := put_len ((List.length (List.take 200 b) : Nat) : Int)
    have htl := List.length_take_le 200 b
    refine wp_regionF ?_
    refine lf_val (v := v) (wantAll rfl) (rv_move rfl (fr_eval rfl e1)) ?_
    refine lf_call (wantAll rfl) (rv_call (args := [v]) rfl (evc (fr_eval rfl rfl) evn) Try.call13) (cut01_calls b _ _ (hr.rd _ hH.chg)) ?_
    rintro _ w2 ⟨rfl, hx⟩
    refine ⟨_, rfl, ?_⟩
    replace hH := hH.ext hx
    clear hx
    refine lf_val (v := cutV v b 200) (wantAll rfl) (rv_assign rfl (fr_eval rfl rfl)) ?_
    refine lf_nil ?_
    refine then_n ?_
    refine wp_seq ?_
    refine wp_gen (fun F' => F' 0 = slcV v1 1 0 30 ∧ F' 1 = cutV v b 200 ∧ F' 2 = .agg (cBs s).toArray ∧ F' 5 = .pointer (some ⟨g1, 0, none⟩) ∧ F' 6 = .bool false ∧ F' 16 = .bool true) ⟨e0, rfl, e2, e5, e6, e16⟩ ?_
    clear e0 e1 e2 e5 e6 e16
    clear F
    rintro F ⟨e0, e1, e2, e5, e6, e16⟩
    refine wp_regionF ?_
    refine lf_ex (wantAll rfl) (hx_alloc hH 50 (z := .agg ([.slice none 0 0]).toArray) (n := 1) (cs := [.slice none 0 0]) rfl (by kernel_rfl) (by rfl)) ?_
    clear hH
    rintro _ w3 ⟨g2, rfl, hH, hx⟩
    replace hH : Heap (newN w) w w3 [oBlk g1 (cBs s) 45, oBlk g2 ([.slice none 0 0]) 50] := hH
    clear hx
    refine lf_nil ?_
    refine then_n ?_
    refine wp_seq ?_
    refine wp_gen (fun F' => F' 0 = slcV v1 1 0 30 ∧ F' 1 = cutV v b 200 ∧ F' 2 = .agg (cBs s).toArray ∧ F' 5 = .pointer (some ⟨g1, 0, none⟩) ∧ F' 6 = .bool false ∧ F' 7 = .pointer (some ⟨g2, 0, none⟩) ∧ F' 16 = .bool true) ⟨e0, e1, e2, e5, e6, rfl, e16⟩ ?_
    clear e0 e1 e2 e5 e6 e16
    clear F
    rintro F ⟨e0, e1, e2, e5, e6, e7, e16⟩
    refine wp_regionF ?_
    refine lf_val (v := .slice none 0 0) (wantAll rfl) (rv_assign rfl rfl) ?_
    refine lf_nil ?_
    refine then_n ?_
    refine wp_seq ?_
    refine wp_seq ?_
    refine wp_gen (fun F' => F' 0 = slcV v1 1 0 30 ∧ F' 1 = cutV v b 200 ∧ F' 2 = .agg (cBs s).toArray ∧ F' 5 = .pointer (some ⟨g1, 0, none⟩) ∧ F' 6 = .bool false ∧ F' 7 = .pointer (some ⟨g2, 0, none⟩) ∧ F' 8 = .slice none 0 0 ∧ F' 16 = .bool true) ⟨e0, e1, e2, e5, e6, e7, rfl, e16⟩ ?_
    clear e0 e1 e2 e5 e6 e7 e16
    clear F
    rintro F ⟨e0, e1, e2, e5, e6, e7, e8, e16⟩
    refine wp_regionF ?_
    refine lf_val (v := .int .i64 0) (wantAll rfl) (rv_assign rfl rfl) ?_
    refine lf_nil ?_
    refine then_n ?_
    refine wp_block ?_
    replace hH : Heap (newN w) w w3 [oBlk g1 (cBs s) 45, oBlk g2 ([.slice none 0 0]) 50, oB (.slice none 0 0) []] := hH.addNil 5 1
    refine wp_gen (fun F' => F' 0 = slcV v1 1 0 30 ∧ F' 1 = cutV v b 200 ∧ F' 2 = .agg (cBs s).toArray ∧ F' 5 = .pointer (some ⟨g1, 0, none⟩) ∧ F' 6 = .bool false ∧ F' 7 = .pointer (some ⟨g2, 0, none⟩) ∧ F' 8 = (.slice none 0 0) ∧ F' 9 = .int .i64 0 ∧ F' 16 = .bool true) ⟨e0, e1, e2, e5, e6, e7, e8, rfl, e16⟩ ?_
    clear e0 e1 e2 e5 e6 e7 e8 e16
    clear F
    rintro F ⟨e0, e1, e2, e5, e6, e7, e8, e9, e16⟩
    refine wp_loopF (fun m F wr => ∃ i : Nat, ∃ l2 : List UInt8, ∃ yw : Value, m = 30 - i ∧ i ≤ List.length l' ∧ l2 = puts (List.take i l') ∧ l2.length ≤ 10 * i ∧ F 0 = slcV v1 1 0 30 ∧ F 1 = cutV v b 200 ∧ F 2 = .agg (cBs s).toArray ∧ F 5 = .pointer (some ⟨g1, 0, none⟩) ∧ F 6 = .bool false ∧ F 7 = .pointer (some ⟨g2, 0, none⟩) ∧ F 8 = yw ∧ F 9 = .int .i64 ((i : Nat) : Int) ∧ F 16 = .bool true ∧ Heap (newN w) w wr [oBlk g1 (cBs s) 45, oBlk g2 ([.slice none 0 0]) 50, oB yw l2]) ⟨0, _, _, rfl, Nat.zero_le _, rfl, (by simp [puts]), e0, e1, e2, e5, e6, e7, e8, e9, e16, hH⟩ ?_
    clear e0 e1 e2 e5 e6 e7 e8 e9 e16 hH
    clear F
    rintro m F w4 ⟨i, l2, yw, rfl, pi0, pi1, pi2, e0, e1, e2, e5, e6, e7, e8, e9, e16, hH⟩
    refine wp_seq ?_
    refine wp_seq ?_
    refine wp_regionF ?_
    refine lf_val (v := .int .i64 ((i : Nat) : Int)) (wantAll rfl) (rv_move rfl (fr_eval rfl e9)) ?_
    refine lf_val (v := slcV v1 1 0 30) (wantAll rfl) (rv_move rfl (fr_eval rfl e0)) ?_
    refine lf_val (v := .int .i64 ((List.length l' : Nat) : Int)) (wantAll rfl) (rv_len rfl (fr_eval rfl rfl) (hrw (rdF_slc (l := 0) (h := 30) cI_len (hz.rd _ hH.chg) rfl (Nat.zero_le _) (by omega))) Try.underlying48) ?_
    by_cases hc2 : i < List.length l'
    · refine lf_val (v := .bool true) (wantAll rfl) (rv_lss rfl (fr_eval rfl rfl) (fr_eval rfl rfl) (decide_eq_true (by omega))) ?_
      refine lf_nil ?_
      refine then_n ?_
      refine wp_gen (fun F' => F' 0 = slcV v1 1 0 30 ∧ F' 1 = cutV v b 200 ∧ F' 2 = .agg (cBs s).toArray ∧ F' 5 = .pointer (some ⟨g1, 0, none⟩) ∧ F' 6 = .bool false ∧ F' 7 = .pointer (some ⟨g2, 0, none⟩) ∧ F' 8 = yw ∧ F' 9 = .int .i64 ((i : Nat) : Int) ∧ F' 16 = .bool true ∧ F' 24 = .bool true) ⟨e0, e1, e2, e5, e6, e7, e8, e9, e16, rfl⟩ ?_
      clear e0 e1 e2 e5 e6 e7 e8 e9 e16
      clear F
      rintro F ⟨e0, e1, e2, e5, e6, e7, e8, e9, e16, e24⟩
      refine wp_cond_true (fr_eval rfl e24) ?_
      refine wp_skip ?_
      refine then_n ?_
      refine wp_seq ?_
      refine wp_block ?_
      refine wp_regionF ?_
      refine lf_val (v := yw) (wantAll rfl) (rv_move rfl (fr_eval rfl e8)) ?_
      refine lf_val (v := slcV v1 1 0 30) (wantAll rfl) (rv_move rfl (fr_eval rfl e0)) ?_
      refine lf_val (v := .int .i64 ((i : Nat) : Int)) (wantAll rfl) (rv_move rfl (fr_eval rfl e9)) ?_
      refine lf_val (v := .pointer (some (elemA (slcV v1 1 0 30) (i * 1)))) (wantAll rfl) (rv_index rfl (fr_eval rfl rfl) (fr_eval rfl rfl) (rdN (hrw (rdF_slc (l := 0) (h := 30) cI_len (hz.rd _ hH.chg) rfl (Nat.zero_le _) (by omega))) rfl) (show i < List.length l' from (by omega)) Try.underlying48 Try.sz3 (by decide)) ?_
      refine lf_val (v := .int .i64 (List.getD l' i 0)) (wantAll rfl) (rv_loadCell rfl (fr_eval rfl rfl) (Nat.mul_one _) (hrw (rdF_slc (l := 0) (h := 30) cI_len (hz.rd _ hH.chg) rfl (Nat.zero_le _) (by omega))) (flat_get1 0 cI_len (show i < List.length l' from (by omega)) rfl) Try.underlying3 rfl Try.sz3) ?_
      have hzi := hin i (by omega)
      refine lf_call (wantAll rfl) (rv_call (args := [.int .i64 (List.getD l' i 0)]) rfl (evc (fr_eval rfl rfl) evn) Try.call19) (number_calls (List.getD l' i 0) (by omega) _) ?_
      rintro _ w5 ⟨⟨y1, rfl, ho, hg⟩, hx⟩
      refine ⟨_, rfl, ?_⟩
      replace hH : Heap (newN w) w w5 [oBlk g1 (cBs s) 45, oBlk g2 ([.slice none 0 0]) 50, oB yw l2, oB y1 (put (List.getD l' i 0))] := hH.addOwn hx hg ho
      clear ho hg
      clear hx
      refine lf_ex (wantAll rfl) (hx_append hH Try.stB (i := 2) (xs' := cBs (l2 ++ (put (List.getD l' i 0)))) (nm := (l2 ++ (put (List.getD l' i 0))).length) rfl rfl (fun _ => rfl) List.length_append.symm (cBs_append _ _).symm (OwnB.rd (hH.own (i := 3) rfl)) (fr_eval rfl rfl) (fr_eval rfl rfl) (by have := put_len (List.getD l' i 0); simp only [List.length_append]; omega)) ?_
      clear hH
      rintro y2 w6 ⟨hH, hx⟩
      replace hH : Heap (newN w) w w6 [oBlk g1 (cBs s) 45, oBlk g2 ([.slice none 0 0]) 50, oB y2 (l2 ++ (put (List.getD l' i 0))), oB y1 (put (List.getD l' i 0))] := hH
      clear hx
      refine lf_val (v := y2) (wantAll rfl) (rv_assign rfl (fr_eval rfl rfl)) ?_
      refine lf_nil ?_
      refine blk_n ?_
      refine then_n ?_
      replace hH : Heap (newN w) w w6 [oBlk g1 (cBs s) 45, oBlk g2 ([.slice none 0 0]) 50, oB y2 (l2 ++ (put (List.getD l' i 0)))] := hH.drop (.cons_cons _ (.cons_cons _ (.cons_cons _ (.cons _ .slnil))))
      refine wp_gen (fun F' => F' 0 = slcV v1 1 0 30 ∧ F' 1 = cutV v b 200 ∧ F' 2 = .agg (cBs s).toArray ∧ F' 5 = .pointer (some ⟨g1, 0, none⟩) ∧ F' 6 = .bool false ∧ F' 7 = .pointer (some ⟨g2, 0, none⟩) ∧ F' 8 = y2 ∧ F' 9 = .int .i64 ((i : Nat) : Int) ∧ F' 16 = .bool true ∧ F' 24 = .bool true) ⟨e0, e1, e2, e5, e6, e7, rfl, e9, e16, e24⟩ ?_
      clear e0 e1 e2 e5 e6 e7 e8 e9 e16 e24
      clear F
      rintro F ⟨e0, e1, e2, e5, e6, e7, e8, e9, e16, e24⟩
      refine wp_regionF ?_
      refine lf_val (v := .int .i64 ((i : Nat) : Int)) (wantAll rfl) (rv_move rfl (fr_eval rfl e9)) ?_
      refine lf_val (v := .int .i64 ((i + 1 : Nat) : Int)) (wantAll rfl) (rv_add rfl (fr_eval rfl rfl) rfl (wrap_i64 (by omega) (by omega) (by omega))) ?_
      refine lf_val (v := .int .i64 ((i + 1 : Nat) : Int)) (wantAll rfl) (rv_assign rfl (fr_eval rfl rfl)) ?_
      refine lf_nil ?_
      refine then_n ?_
      exact ⟨_, _, (by omega), rfl, i + 1, _, _, rfl, (by omega), (by rw [pi1, puts_next (by omega)]), (by have := put_len (List.getD l' i 0); simp only [List.length_append]; omega), e0, e1, e2, e5, e6, e7, e8, rfl, e16, hH⟩
    · refine lf_val (v := .bool false) (wantAll rfl) (rv_lss rfl (fr_eval rfl rfl) (fr_eval rfl rfl) (decide_eq_false (by omega))) ?_
      refine lf_nil ?_
      refine then_n ?_
      refine wp_gen (fun F' => F' 0 = slcV v1 1 0 30 ∧ F' 1 = cutV v b 200 ∧ F' 2 = .agg (cBs s).toArray ∧ F' 5 = .pointer (some ⟨g1, 0, none⟩) ∧ F' 6 = .bool false ∧ F' 7 = .pointer (some ⟨g2, 0, none⟩) ∧ F' 8 = yw ∧ F' 9 = .int .i64 ((i : Nat) : Int) ∧ F' 16 = .bool true ∧ F' 24 = .bool false) ⟨e0, e1, e2, e5, e6, e7, e8, e9, e16, rfl⟩ ?_
      clear e0 e1 e2 e5 e6 e7 e8 e9 e16
      clear F
      rintro F ⟨e0, e1, e2, e5, e6, e7, e8, e9, e16, e24⟩
      refine wp_cond_false (fr_eval rfl e24) ?_
      refine wp_exit ?_
      refine then_exit ?_
      refine then_exit ?_
      refine blk_exit ?_
      refine then_n ?_
      refine wp_seq ?_
      refine wp_regionF ?_
      refine lf_val (v := yw) (wantAll rfl) (rv_move rfl (fr_eval rfl e8)) ?_
      refine lf_val (v := cutV v b 200) (wantAll rfl) (rv_move rfl (fr_eval rfl e1)) ?_
      refine lf_val (v := .int .i64 (((List.take 200 b).length : Nat) : Int)) (wantAll rfl) (rv_len rfl (fr_eval rfl rfl) (RdB.rn (rdB_cut (hr.rd _ hH.chg)) rfl) Try.underlying22) ?_
      refine lf_call (wantAll rfl) (rv_call (args := [.int .i64 (((List.take 200 b).length : Nat) : Int)]) rfl (evc (fr_eval rfl rfl) evn) Try.call19) (number_calls (((List.take 200 b).length : Nat) : Int) (by omega) _) ?_
      rintro _ w7 ⟨⟨y3, rfl, ho, hg⟩, hx⟩
      refine ⟨_, rfl, ?_⟩
      replace hH : Heap (newN w) w w7 [oBlk g1 (cBs s) 45, oBlk g2 ([.slice none 0 0]) 50, oB yw l2, oB y3 (put (((List.take 200 b).length : Nat) : Int))] := hH.addOwn hx hg ho
      clear ho hg
      clear hx
      refine lf_ex (wantAll rfl) (hx_append hH Try.stB (i := 2) (xs' := cBs (l2 ++ (put (((List.take 200 b).length : Nat) : Int)))) (nm := (l2 ++ (put (((List.take 200 b).length : Nat) : Int))).length) rfl rfl (fun _ => rfl) List.length_append.symm (cBs_append _ _).symm (OwnB.rd (hH.own (i := 3) rfl)) (fr_eval rfl rfl) (fr_eval rfl rfl) (by simp only [List.length_append, hs]; omega)) ?_
      clear hH
      rintro y4 w8 ⟨hH, hx⟩
      replace hH : Heap (newN w) w w8 [oBlk g1 (cBs s) 45, oBlk g2 ([.slice none 0 0]) 50, oB y4 (l2 ++ (put (((List.take 200 b).length : Nat) : Int))), oB y3 (put (((List.take 200 b).length : Nat) : Int))] := hH
      clear hx
      refine lf_val (v := y4) (wantAll rfl) (rv_assign rfl (fr_eval rfl rfl)) ?_
      refine lf_nil ?_
      refine then_n ?_
      refine wp_seq ?_
      replace hH : Heap (newN w) w w8 [oBlk g1 (cBs s) 45, oBlk g2 ([.slice none 0 0]) 50, oB y4 (l2 ++ (put (((List.take 200 b).length : Nat) : Int)))] := hH.drop (.cons_cons _ (.cons_cons _ (.cons_cons _ (.cons _ .slnil))))
      refine wp_gen (fun F' => F' 0 = slcV v1 1 0 30 ∧ F' 1 = cutV v b 200 ∧ F' 2 = .agg (cBs s).toArray ∧ F' 5 = .pointer (some ⟨g1, 0, none⟩) ∧ F' 6 = .bool false ∧ F' 7 = .pointer (some ⟨g2, 0, none⟩) ∧ F' 8 = y4 ∧ F' 9 = .int .i64 ((i : Nat) : Int) ∧ F' 16 = .bool true ∧ F' 24 = .bool false) ⟨e0, e1, e2, e5, e6, e7, rfl, e9, e16, e24⟩ ?_
      clear e0 e1 e2 e5 e6 e7 e8 e9 e16 e24
      clear F
      rintro F ⟨e0, e1, e2, e5, e6, e7, e8, e9, e16, e24⟩
      refine wp_regionF ?_
      refine lf_val (v := y4) (wantAll rfl) (rv_move rfl (fr_eval rfl e8)) ?_
      refine lf_val (v := cutV v b 200) (wantAll rfl) (rv_move rfl (fr_eval rfl e1)) ?_
      refine lf_ex (wantAll rfl) (hx_append hH Try.stB (i := 2) (xs' := cBs ((l2 ++ (put (((List.take 200 b).length : Nat) : Int))) ++ (List.take 200 b))) (nm := ((l2 ++ (put (((List.take 200 b).length : Nat) : Int))) ++ (List.take 200 b)).length) rfl rfl (fun _ => rfl) List.length_append.symm (cBs_append _ _).symm (rdB_cut (hr.rd _ hH.chg)) (fr_eval rfl rfl) (fr_eval rfl rfl) (by simp only [List.length_append, hs]; omega)) ?_
      clear hH
      rintro y5 w9 ⟨hH, hx⟩
      replace hH : Heap (newN w) w w9 [oBlk g1 (cBs s) 45, oBlk g2 ([.slice none 0 0]) 50, oB y5 ((l2 ++ (put (((List.take 200 b).length : Nat) : Int))) ++ (List.take 200 b))] := hH
      clear hx
      refine lf_val (v := y5) (wantAll rfl) (rv_assign rfl (fr_eval rfl rfl)) ?_
      refine lf_nil ?_
      refine then_n ?_
      refine wp_seq ?_
      refine wp_gen (fun F' => F' 0 = slcV v1 1 0 30 ∧ F' 1 = cutV v b 200 ∧ F' 2 = .agg (cBs s).toArray ∧ F' 5 = .pointer (some ⟨g1, 0, none⟩) ∧ F' 6 = .bool false ∧ F' 7 = .pointer (some ⟨g2, 0, none⟩) ∧ F' 8 = y5 ∧ F' 9 = .int .i64 ((i : Nat) : Int) ∧ F' 16 = .bool true ∧ F' 24 = .bool false) ⟨e0, e1, e2, e5, e6, e7, rfl, e9, e16, e24⟩ ?_
      clear e0 e1 e2 e5 e6 e7 e8 e9 e16 e24
      clear F
      rintro F ⟨e0, e1, e2, e5, e6, e7, e8, e9, e16, e24⟩
      refine wp_regionF ?_
      refine lf_val (v := y5) (wantAll rfl) (rv_move rfl (fr_eval rfl e8)) ?_
      refine lf_val (v := .slice (some ⟨g1, 0, none⟩) 32 32) (wantAll rfl) (rv_sliceArr rfl (fr_eval rfl e5) Try.underlying45 Try.sz5 (by decide)) ?_
      refine lf_ex (wantAll rfl) (hx_append hH Try.stB (i := 2) (xs' := cBs (((l2 ++ (put (((List.take 200 b).length : Nat) : Int))) ++ (List.take 200 b)) ++ s)) (nm := (((l2 ++ (put (((List.take 200 b).length : Nat) : Int))) ++ (List.take 200 b)) ++ s).length) rfl rfl (fun _ => rfl) List.length_append.symm (cBs_append _ _).symm (rdB_blkn (hH.blk (i := 0) rfl) hs (by decide)) (fr_eval rfl rfl) (fr_eval rfl rfl) (by simp only [List.length_append, hs]; omega)) ?_
      clear hH
      rintro y6 w10 ⟨hH, hx⟩
      replace hH : Heap (newN w) w w10 [oBlk g1 (cBs s) 45, oBlk g2 ([.slice none 0 0]) 50, oB y6 (((l2 ++ (put (((List.take 200 b).length : Nat) : Int))) ++ (List.take 200 b)) ++ s)] := hH
      clear hx
      refine lf_val (v := y6) (wantAll rfl) (rv_assign rfl (fr_eval rfl rfl)) ?_
      refine lf_nil ?_
      refine then_n ?_
      refine wp_seq ?_
      refine wp_gen (fun F' => F' 0 = slcV v1 1 0 30 ∧ F' 1 = cutV v b 200 ∧ F' 2 = .agg (cBs s).toArray ∧ F' 5 = .pointer (some ⟨g1, 0, none⟩) ∧ F' 6 = .bool false ∧ F' 7 = .pointer (some ⟨g2, 0, none⟩) ∧ F' 8 = y6 ∧ F' 9 = .int .i64 ((i : Nat) : Int) ∧ F' 16 = .bool true ∧ F' 24 = .bool false) ⟨e0, e1, e2, e5, e6, e7, rfl, e9, e16, e24⟩ ?_
      clear e0 e1 e2 e5 e6 e7 e8 e9 e16 e24
      clear F
      rintro F ⟨e0, e1, e2, e5, e6, e7, e8, e9, e16, e24⟩
      replace hH : Heap (newN w) w w10 [oBlk g1 (cBs s) 45, oPen g2 (.slice none 0 0) [], oB y6 (((l2 ++ (put (((List.take 200 b).length : Nat) : Int))) ++ (List.take 200 b)) ++ s)] := hH.toPen (i := 1) rfl rfl
      have hs_1 := hH.fixed1 (j := 0) (i := 1) rfl rfl (by decide)
      have hs_3 := hH.fixed1 (j := 2) (i := 1) rfl rfl (by decide)
      have hKN := hH.sub1 (i := 1) rfl
      have hcK : Chg (newK w10 (oPen g2 (.slice none 0 0) []).fp) w10 w10 := Chg.refl _ _
      have hfM : ∀ k, (oPen g2 (.slice none 0 0) []).fp k → (newK w10 (oPen g2 (.slice none 0 0) []).fp) k := fun k h => Or.inr h
      refine wp_regionX (newK w10 (oPen g2 (.slice none 0 0) []).fp) 5 (by kernel_rfl) (by kernel_rfl) ?_
      refine xl_take (i := 0) (v := slcV v1 1 0 30) rfl (by kernel_rfl) (by kernel_rfl) (by kernel_rfl) (by kernel_rfl) (yx_val (wantAll rfl) (fun w' hx' => rv_move rfl (fr_eval rfl e0))) ?_
      refine xl_take (i := 2) (v := cutV v b 200) rfl (by kernel_rfl) (by kernel_rfl) (by kernel_rfl) (by kernel_rfl) (yx_val (wantAll rfl) (fun w' hx' => rv_move rfl (fr_eval rfl e1))) ?_
      refine xl_take (i := 4) (v := .agg (cBs s).toArray) rfl (by kernel_rfl) (by kernel_rfl) (by kernel_rfl) (by kernel_rfl) (yx_val (wantAll rfl) (fun w' hx' => rv_loadW rfl (hs_1 _ (hcK.trans hx')) (fr_eval rfl e5) Try.underlying45 rfl (sz_len Try.sz45 (cBs_len hs)))) ?_
      refine anyX_ready (rs := [1]) (by kernel_rfl) ?_
      intro w11 hx
      replace hH := hH.ext hx
      replace hcK := hcK.trans (Ext.any hx)
      clear hx
      refine (anyX_cons ?_ anyX_nil)
      refine xl_step (i := 1) rfl (wantAll rfl) ?_
      refine of_call (rv_call (args := [.pointer (some ⟨g2, 0, none⟩), slcV v1 1 0 30]) rfl (evc (fr_eval rfl e7) (evc (fr_eval rfl rfl) evn)) Try.call27) (penNums_calls hin _ (hrw (rdF_slc (l := 0) (h := 30) cI_len (hz.rd _ hH.chg) rfl (Nat.zero_le _) (by omega))) (fun k hk h0 e => hz.out _ ((slcV_own _ _ _ _).symm.trans hk) (slcF_pos (hps h0)) ((hH.one (i := 1) rfl).sub k (Or.inl e))) (fun k hk h0 h => hz.out _ ((slcV_own _ _ _ _).symm.trans hk) (slcF_pos (hps h0)) ((hH.one (i := 1) rfl).sub k (Or.inr h))) (hH.pen (i := 1) rfl) (by first | (simp only [List.length_append, List.length_nil, hs]; omega) | omega | (simp; omega))) ?_
      rintro _ w12 ⟨rfl, hp⟩
      refine ⟨_, rfl, ?_⟩
      obtain ⟨y7, hH', hx, hxf, hgr⟩ := hH.penPost (i := 1) (l2 := puts l') rfl (fun _ => rfl) hp
      clear hH hp
      have hH : Heap (newN w) w w12 [oBlk g1 (cBs s) 45, oPen g2 y7 (puts l'), oB y6 (((l2 ++ (put (((List.take 200 b).length : Nat) : Int))) ++ (List.take 200 b)) ++ s)] := hH'
      clear hH'
      have hcx := hxf.mono (fun k _ hk => hfM k hk)
      replace hfM := grow1 (fun k h => Or.inl h) hcK.size hfM hgr
      replace hcK := hcK.trans hcx
      refine ⟨hcx, ?_⟩
      clear hcx hxf hgr hx
      refine anyX_ready (rs := [3]) (by kernel_rfl) ?_
      intro w13 hx
      replace hH := hH.ext hx
      replace hcK := hcK.trans (Ext.any hx)
      clear hx
      refine (anyX_cons ?_ anyX_nil)
      refine xl_step (i := 3) rfl (wantAll rfl) ?_
      refine of_call (rv_call (args := [.pointer (some ⟨g2, 0, none⟩), cutV v b 200]) rfl (evc (fr_eval rfl rfl) (evc (fr_eval rfl rfl) evn)) Try.call25) (penText_calls (Nat.le_trans (List.length_take_le 200 b) (by decide)) _ (rdB_cut (hr.rd _ hH.chg)) (fun k hk h0 e => hr.out _ (cutV_own.symm.trans hk) (cut_posB h0) ((hH.one (i := 1) rfl).sub k (Or.inl e))) (fun k hk h0 h => hr.out _ (cutV_own.symm.trans hk) (cut_posB h0) ((hH.one (i := 1) rfl).sub k (Or.inr h))) (hH.pen (i := 1) rfl) (by first | (simp only [List.length_append, List.length_nil, hs]; omega) | omega | (simp; omega))) ?_
      rintro _ w14 ⟨rfl, hp⟩
      refine ⟨_, rfl, ?_⟩
      obtain ⟨y8, hH', hx, hxf, hgr⟩ := hH.penPost (i := 1) (l2 := puts l' ++ put (((List.take 200 b).length : Nat) : Int) ++ (List.take 200 b)) rfl (fun _ => rfl) hp
      clear hH hp
      have hH : Heap (newN w) w w14 [oBlk g1 (cBs s) 45, oPen g2 y8 (puts l' ++ put (((List.take 200 b).length : Nat) : Int) ++ (List.take 200 b)), oB y6 (((l2 ++ (put (((List.take 200 b).length : Nat) : Int))) ++ (List.take 200 b)) ++ s)] := hH'
      clear hH'
      have hcx := hxf.mono (fun k _ hk => hfM k hk)
      replace hfM := grow1 (fun k h => Or.inl h) hcK.size hfM hgr
      replace hcK := hcK.trans hcx
      refine ⟨hcx, ?_⟩
      clear hcx hxf hgr hx
      refine xl_tail (s := 5) rfl ?_
      intro w15 hx
      replace hH := hH.ext hx
      clear hx
      clear hs_1 hs_3 hKN hcK hfM
      refine lf_call (wantAll rfl) (rv_call (args := [.pointer (some ⟨g2, 0, none⟩), .agg (cBs s).toArray]) rfl (evc (fr_eval rfl rfl) (evc (fr_eval rfl rfl) evn)) Try.call26) (penSum_calls s hs _ (hH.pen (i := 1) rfl) (by first | (simp only [List.length_append, List.length_nil, hs]; omega) | omega | (simp; omega))) ?_
      rintro _ w16 ⟨rfl, hp⟩
      refine ⟨_, rfl, ?_⟩
      obtain ⟨y9, hH', hx, hxf, hgr⟩ := hH.penPost (i := 1) (l2 := puts l' ++ put (((List.take 200 b).length : Nat) : Int) ++ (List.take 200 b) ++ s) rfl (fun _ => rfl) hp
      clear hH hp
      have hH : Heap (newN w) w w16 [oBlk g1 (cBs s) 45, oPen g2 y9 (puts l' ++ put (((List.take 200 b).length : Nat) : Int) ++ (List.take 200 b) ++ s), oB y6 (((l2 ++ (put (((List.take 200 b).length : Nat) : Int))) ++ (List.take 200 b)) ++ s)] := hH'
      clear hH'
      clear hxf hgr hx
      refine lf_call (wantAll rfl) (rv_call (args := [.pointer (some ⟨g2, 0, none⟩)]) rfl (evc (fr_eval rfl rfl) evn) Try.call28) (penBytes_calls _ (hH.pen (i := 1) rfl) (by first | (simp only [List.length_append, List.length_nil, hs]; omega) | omega | (simp; omega))) ?_
      rintro _ w17 ⟨⟨y10, rfl, ho, hg⟩, hx⟩
      refine ⟨_, rfl, ?_⟩
      replace hH : Heap (newN w) w w17 [oBlk g1 (cBs s) 45, oPen g2 y9 (puts l' ++ put (((List.take 200 b).length : Nat) : Int) ++ (List.take 200 b) ++ s), oB y6 (((l2 ++ (put (((List.take 200 b).length : Nat) : Int))) ++ (List.take 200 b)) ++ s), oB y10 (puts l' ++ put (((List.take 200 b).length : Nat) : Int) ++ (List.take 200 b) ++ s)] := hH.addOwn hx hg ho
      clear ho hg
      clear hx
      refine lf_val (v := y10) (wantAll rfl) (rv_assign rfl (fr_eval rfl rfl)) ?_
      refine lf_nil ?_
      refine then_n ?_
      refine wp_seq ?_
      refine wp_gen (fun F' => F' 0 = slcV v1 1 0 30 ∧ F' 1 = cutV v b 200 ∧ F' 2 = .agg (cBs s).toArray ∧ F' 5 = .pointer (some ⟨g1, 0, none⟩) ∧ F' 6 = .bool false ∧ F' 7 = .pointer (some ⟨g2, 0, none⟩) ∧ F' 8 = y6 ∧ F' 9 = .int .i64 ((i : Nat) : Int) ∧ F' 10 = y10 ∧ F' 16 = .bool true ∧ F' 24 = .bool false) ⟨e0, e1, e2, e5, e6, e7, e8, e9, rfl, e16, e24⟩ ?_
      clear e0 e1 e2 e5 e6 e7 e8 e9 e16 e24
      clear F
      rintro F ⟨e0, e1, e2, e5, e6, e7, e8, e9, e10, e16, e24⟩
      refine wp_regionF ?_
      refine lf_val (v := y10) (wantAll rfl) (rv_move rfl (fr_eval rfl e10)) ?_
      refine lf_call (wantAll rfl) (rv_call (args := [y10]) rfl (evc (fr_eval rfl rfl) evn) Try.call14) (look_calls (show List.length (puts l' ++ put (((List.take 200 b).length : Nat) : Int) ++ (List.take 200 b) ++ s) ≤ 100000000 from (by first | (simp only [List.length_append, List.length_nil, hs]; omega) | omega | (simp; omega))) _ (OwnB.rd (hH.own (i := 3) rfl))) ?_
      rintro _ w18 ⟨⟨g3, z1, rfl, hy, hge, hst⟩, hx⟩
      refine ⟨_, rfl, ?_⟩
      have hv_g3 : ∀ k, z1.ownBlock = some k → (y10 : Value).ownBlock = some k := fun k hk => (hst k hk).2.2
      obtain ⟨hH', hn_g3⟩ := hH.lookOwn (i := 3) (g := g3) (v0 := z1) rfl rfl hx hge hv_g3 hy
      clear hH hst hge hy
      have hH : Heap (newN w) w w18 [oBlk g1 (cBs s) 45, oPen g2 y9 (puts l' ++ put (((List.take 200 b).length : Nat) : Int) ++ (List.take 200 b) ++ s), oB y6 (((l2 ++ (put (((List.take 200 b).length : Nat) : Int))) ++ (List.take 200 b)) ++ s), oEyeR g3 z1 (puts l' ++ put (((List.take 200 b).length : Nat) : Int) ++ (List.take 200 b) ++ s) 0 y10 (puts l' ++ put (((List.take 200 b).length : Nat) : Int) ++ (List.take 200 b) ++ s)] := hH'
      clear hH'
      clear hx
      refine lf_val (v := .pointer (some ⟨g3, 0, none⟩)) (wantAll rfl) (rv_assign rfl (fr_eval rfl rfl)) ?_
      refine lf_nil ?_
      refine then_n ?_
      refine wp_seq ?_
      refine wp_seq ?_
      refine wp_gen (fun F' => F' 0 = slcV v1 1 0 30 ∧ F' 1 = cutV v b 200 ∧ F' 2 = .agg (cBs s).toArray ∧ F' 5 = .pointer (some ⟨g1, 0, none⟩) ∧ F' 6 = .bool false ∧ F' 7 = .pointer (some ⟨g2, 0, none⟩) ∧ F' 8 = y6 ∧ F' 9 = .int .i64 ((i : Nat) : Int) ∧ F' 10 = y10 ∧ F' 11 = .pointer (some ⟨g3, 0, none⟩) ∧ F' 16 = .bool true ∧ F' 24 = .bool false) ⟨e0, e1, e2, e5, e6, e7, e8, e9, e10, rfl, e16, e24⟩ ?_
      clear e0 e1 e2 e5 e6 e7 e8 e9 e10 e16 e24
      clear F
      rintro F ⟨e0, e1, e2, e5, e6, e7, e8, e9, e10, e11, e16, e24⟩
      refine wp_regionF ?_
      refine lf_val (v := .int .i64 0) (wantAll rfl) (rv_assign rfl rfl) ?_
      refine lf_nil ?_
      refine then_n ?_
      refine wp_block ?_
      have hB : puts l' ++ put (((List.take 200 b).length : Nat) : Int) ++ (List.take 200 b) ++ s = puts l' ++ (put ((List.length (List.take 200 b) : Nat) : Int) ++ ((List.take 200 b) ++ (s ++ []))) := by simp only [List.append_assoc, List.append_nil]
      refine wp_gen (fun F' => F' 0 = slcV v1 1 0 30 ∧ F' 1 = cutV v b 200 ∧ F' 2 = .agg (cBs s).toArray ∧ F' 5 = .pointer (some ⟨g1, 0, none⟩) ∧ F' 6 = .bool false ∧ F' 7 = .pointer (some ⟨g2, 0, none⟩) ∧ F' 8 = y6 ∧ F' 9 = .int .i64 ((i : Nat) : Int) ∧ F' 10 = y10 ∧ F' 11 = .pointer (some ⟨g3, 0, none⟩) ∧ F' 12 = .int .i64 0 ∧ F' 16 = .bool true ∧ F' 24 = .bool false) ⟨e0, e1, e2, e5, e6, e7, e8, e9, e10, e11, rfl, e16, e24⟩ ?_
      clear e0 e1 e2 e5 e6 e7 e8 e9 e10 e11 e16 e24
      clear F
      rintro F ⟨e0, e1, e2, e5, e6, e7, e8, e9, e10, e11, e12, e16, e24⟩
      refine wp_loopF (fun m F wr => ∃ j : Nat, ∃ r2 : List UInt8, ∃ ee : Int, m = 30 - j ∧ j ≤ List.length l' ∧ r2 = puts (List.drop j l') ++ (put ((List.length (List.take 200 b) : Nat) : Int) ++ ((List.take 200 b) ++ (s ++ []))) ∧ ee = 0 ∧ F 0 = slcV v1 1 0 30 ∧ F 1 = cutV v b 200 ∧ F 2 = .agg (cBs s).toArray ∧ F 5 = .pointer (some ⟨g1, 0, none⟩) ∧ F 7 = .pointer (some ⟨g2, 0, none⟩) ∧ F 8 = y6 ∧ F 9 = .int .i64 ((i : Nat) : Int) ∧ F 10 = y10 ∧ F 11 = .pointer (some ⟨g3, 0, none⟩) ∧ F 12 = .int .i64 ((j : Nat) : Int) ∧ F 16 = .bool true ∧ F 24 = .bool false ∧ Heap (newN w) w wr [oBlk g1 (cBs s) 45, oPen g2 y9 (puts l' ++ put (((List.take 200 b).length : Nat) : Int) ++ (List.take 200 b) ++ s), oB y6 (((l2 ++ (put (((List.take 200 b).length : Nat) : Int))) ++ (List.take 200 b)) ++ s), oEyeR g3 z1 r2 ee y10 (puts l' ++ put (((List.take 200 b).length : Nat) : Int) ++ (List.take 200 b) ++ s)]) ⟨0, _, _, rfl, Nat.zero_le _, hB, rfl, e0, e1, e2, e5, e7, e8, e9, e10, e11, e12, e16, e24, hH⟩ ?_
      clear e0 e1 e2 e5 e6 e7 e8 e9 e10 e11 e12 e16 e24 hH
      clear F
      rintro m F w19 ⟨j, r2, ee, rfl, pj0, pj1, pj2, e0, e1, e2, e5, e7, e8, e9, e10, e11, e12, e16, e24, hH⟩
      refine wp_seq ?_
      refine wp_seq ?_
      refine wp_regionF ?_
      refine lf_val (v := .int .i64 ((j : Nat) : Int)) (wantAll rfl) (rv_move rfl (fr_eval rfl e12)) ?_
      refine lf_val (v := slcV v1 1 0 30) (wantAll rfl) (rv_move rfl (fr_eval rfl e0)) ?_
      refine lf_val (v := .int .i64 ((List.length l' : Nat) : Int)) (wantAll rfl) (rv_len rfl (fr_eval rfl rfl) (hrw (rdF_slc (l := 0) (h := 30) cI_len (hz.rd _ hH.chg) rfl (Nat.zero_le _) (by omega))) Try.underlying48) ?_
      by_cases hc3 : j < List.length l'
      · refine lf_val (v := .bool true) (wantAll rfl) (rv_lss rfl (fr_eval rfl rfl) (fr_eval rfl rfl) (decide_eq_true (by omega))) ?_
        refine lf_nil ?_
        refine then_n ?_
        refine wp_gen (fun F' => F' 0 = slcV v1 1 0 30 ∧ F' 1 = cutV v b 200 ∧ F' 2 = .agg (cBs s).toArray ∧ F' 5 = .pointer (some ⟨g1, 0, none⟩) ∧ F' 7 = .pointer (some ⟨g2, 0, none⟩) ∧ F' 8 = y6 ∧ F' 9 = .int .i64 ((i : Nat) : Int) ∧ F' 10 = y10 ∧ F' 11 = .pointer (some ⟨g3, 0, none⟩) ∧ F' 12 = .int .i64 ((j : Nat) : Int) ∧ F' 16 = .bool true ∧ F' 24 = .bool false ∧ F' 57 = .bool true) ⟨e0, e1, e2, e5, e7, e8, e9, e10, e11, e12, e16, e24, rfl⟩ ?_
        clear e0 e1 e2 e5 e7 e8 e9 e10 e11 e12 e16 e24
        clear F
        rintro F ⟨e0, e1, e2, e5, e7, e8, e9, e10, e11, e12, e16, e24, e57⟩
        refine wp_cond_true (fr_eval rfl e57) ?_
        refine wp_skip ?_
        refine then_n ?_
        refine wp_seq ?_
        refine wp_block ?_
        refine wp_seq ?_
        have hzi := hin j (by omega)
        refine wp_regionF ?_
        refine lf_val (v := slcV v1 1 0 30) (wantAll rfl) (rv_move rfl (fr_eval rfl e0)) ?_
        refine lf_val (v := .int .i64 ((j : Nat) : Int)) (wantAll rfl) (rv_move rfl (fr_eval rfl e12)) ?_
        refine lf_val (v := .pointer (some (elemA (slcV v1 1 0 30) (j * 1)))) (wantAll rfl) (rv_index rfl (fr_eval rfl rfl) (fr_eval rfl rfl) (rdN (hrw (rdF_slc (l := 0) (h := 30) cI_len (hz.rd _ hH.chg) rfl (Nat.zero_le _) (by omega))) rfl) (show j < List.length l' from (by omega)) Try.underlying48 Try.sz3 (by decide)) ?_
        refine lf_val (v := .int .i64 (List.getD l' j 0)) (wantAll rfl) (rv_loadCell rfl (fr_eval rfl rfl) (Nat.mul_one _) (hrw (rdF_slc (l := 0) (h := 30) cI_len (hz.rd _ hH.chg) rfl (Nat.zero_le _) (by omega))) (flat_get1 0 cI_len (show j < List.length l' from (by omega)) rfl) Try.underlying3 rfl Try.sz3) ?_
        refine lf_val (v := .int .i64 (List.getD l' j 0)) (wantAll rfl) (rv_assign rfl (fr_eval rfl rfl)) ?_
        refine lf_nil ?_
        refine then_n ?_
        refine wp_seq ?_
        refine wp_seq ?_
        refine wp_gen (fun F' => F' 0 = slcV v1 1 0 30 ∧ F' 1 = cutV v b 200 ∧ F' 2 = .agg (cBs s).toArray ∧ F' 5 = .pointer (some ⟨g1, 0, none⟩) ∧ F' 7 = .pointer (some ⟨g2, 0, none⟩) ∧ F' 8 = y6 ∧ F' 9 = .int .i64 ((i : Nat) : Int) ∧ F' 10 = y10 ∧ F' 11 = .pointer (some ⟨g3, 0, none⟩) ∧ F' 12 = .int .i64 ((j : Nat) : Int) ∧ F' 13 = .int .i64 (List.getD l' j 0) ∧ F' 16 = .bool true ∧ F' 24 = .bool false ∧ F' 57 = .bool true) ⟨e0, e1, e2, e5, e7, e8, e9, e10, e11, e12, rfl, e16, e24, e57⟩ ?_
        clear e0 e1 e2 e5 e7 e8 e9 e10 e11 e12 e16 e24 e57
        clear F
        rintro F ⟨e0, e1, e2, e5, e7, e8, e9, e10, e11, e12, e13, e16, e24, e57⟩
        refine wp_regionF ?_
        refine lf_val (v := .int .i64 (List.getD l' j 0)) (wantAll rfl) (rv_move rfl (fr_eval rfl e13)) ?_
        by_cases hc4 : (List.getD l' j 0) < 0
        · refine lf_val (v := .bool true) (wantAll rfl) (rv_lss rfl (fr_eval rfl rfl) rfl (decide_eq_true (by omega))) ?_
          refine lf_nil ?_
          refine then_n ?_
          refine wp_gen (fun F' => F' 0 = slcV v1 1 0 30 ∧ F' 1 = cutV v b 200 ∧ F' 2 = .agg (cBs s).toArray ∧ F' 5 = .pointer (some ⟨g1, 0, none⟩) ∧ F' 7 = .pointer (some ⟨g2, 0, none⟩) ∧ F' 8 = y6 ∧ F' 9 = .int .i64 ((i : Nat) : Int) ∧ F' 10 = y10 ∧ F' 11 = .pointer (some ⟨g3, 0, none⟩) ∧ F' 12 = .int .i64 ((j : Nat) : Int) ∧ F' 13 = .int .i64 (List.getD l' j 0) ∧ F' 16 = .bool true ∧ F' 24 = .bool false ∧ F' 57 = .bool true ∧ F' 65 = .bool true) ⟨e0, e1, e2, e5, e7, e8, e9, e10, e11, e12, e13, e16, e24, e57, rfl⟩ ?_
          clear e0 e1 e2 e5 e7 e8 e9 e10 e11 e12 e13 e16 e24 e57
          clear F
          rintro F ⟨e0, e1, e2, e5, e7, e8, e9, e10, e11, e12, e13, e16, e24, e57, e65⟩
          refine wp_cond_true (fr_eval rfl e65) ?_
          refine wp_regionF ?_
          refine lf_val (v := .int .i64 0) (wantAll rfl) (rv_assign rfl rfl) ?_
          refine lf_nil ?_
          refine then_n ?_
          refine wp_seq ?_
          refine wp_gen (fun F' => F' 0 = slcV v1 1 0 30 ∧ F' 1 = cutV v b 200 ∧ F' 2 = .agg (cBs s).toArray ∧ F' 5 = .pointer (some ⟨g1, 0, none⟩) ∧ F' 7 = .pointer (some ⟨g2, 0, none⟩) ∧ F' 8 = y6 ∧ F' 9 = .int .i64 ((i : Nat) : Int) ∧ F' 10 = y10 ∧ F' 11 = .pointer (some ⟨g3, 0, none⟩) ∧ F' 12 = .int .i64 ((j : Nat) : Int) ∧ F' 13 = .int .i64 0 ∧ F' 16 = .bool true ∧ F' 24 = .bool false ∧ F' 57 = .bool true ∧ F' 65 = .bool true) ⟨e0, e1, e2, e5, e7, e8, e9, e10, e11, e12, rfl, e16, e24, e57, e65⟩ ?_
          clear e0 e1 e2 e5 e7 e8 e9 e10 e11 e12 e13 e16 e24 e57 e65
          clear F
          rintro F ⟨e0, e1, e2, e5, e7, e8, e9, e10, e11, e12, e13, e16, e24, e57, e65⟩
          obtain ⟨q1, q2, q3⟩ := num_of (r := r2) pj2 (by rw [pj1, puts_drop (by omega), List.append_assoc]) hzi.2
          refine wp_regionF ?_
          refine lf_val (v := .pointer (some ⟨g3, 0, none⟩)) (wantAll rfl) (rv_move rfl (fr_eval rfl e11)) ?_
          refine lf_call (wantAll rfl) (rv_call (args := [.pointer (some ⟨g3, 0, none⟩)]) rfl (evc (fr_eval rfl rfl) evn) Try.call15) (num_calls  _ (hH.eyeR (i := 3) rfl) (eyeR_ne hv_g3 hn_g3)) ?_
          rintro _ w20 ⟨rfl, hy, hxf⟩
          refine ⟨_, rfl, ?_⟩
          replace hH : Heap (newN w) w w20 [oBlk g1 (cBs s) 45, oPen g2 y9 (puts l' ++ put (((List.take 200 b).length : Nat) : Int) ++ (List.take 200 b) ++ s), oB y6 (((l2 ++ (put (((List.take 200 b).length : Nat) : Int))) ++ (List.take 200 b)) ++ s), oEyeR g3 z1 (numR r2 ee) (numE r2 ee) y10 (puts l' ++ put (((List.take 200 b).length : Nat) : Int) ++ (List.take 200 b) ++ s)] := hH.setEyeR (i := 3) rfl rfl hv_g3 hn_g3 hy hxf
          clear hy
          clear hxf
          refine lf_val (v := .int .i64 0) (wantAll rfl) (rv_move rfl (fr_eval rfl e13)) ?_
          refine lf_val (v := .bool false) (wantAll rfl) (rv_neq rfl (fr_eval rfl rfl) (fr_eval rfl rfl) (decide_eq_true (by omega))) ?_
          refine lf_nil ?_
          refine then_n ?_
          refine wp_gen (fun F' => F' 0 = slcV v1 1 0 30 ∧ F' 1 = cutV v b 200 ∧ F' 2 = .agg (cBs s).toArray ∧ F' 5 = .pointer (some ⟨g1, 0, none⟩) ∧ F' 7 = .pointer (some ⟨g2, 0, none⟩) ∧ F' 8 = y6 ∧ F' 9 = .int .i64 ((i : Nat) : Int) ∧ F' 10 = y10 ∧ F' 11 = .pointer (some ⟨g3, 0, none⟩) ∧ F' 12 = .int .i64 ((j : Nat) : Int) ∧ F' 13 = .int .i64 0 ∧ F' 16 = .bool true ∧ F' 24 = .bool false ∧ F' 57 = .bool true ∧ F' 65 = .bool true ∧ F' 69 = .bool false) ⟨e0, e1, e2, e5, e7, e8, e9, e10, e11, e12, e13, e16, e24, e57, e65, rfl⟩ ?_
          clear e0 e1 e2 e5 e7 e8 e9 e10 e11 e12 e13 e16 e24 e57 e65
          clear F
          rintro F ⟨e0, e1, e2, e5, e7, e8, e9, e10, e11, e12, e13, e16, e24, e57, e65, e69⟩
          refine wp_cond_false (fr_eval rfl e69) ?_
          refine wp_skip ?_
          refine blk_n ?_
          refine then_n ?_
          refine wp_regionF ?_
          refine lf_val (v := .int .i64 ((j : Nat) : Int)) (wantAll rfl) (rv_move rfl (fr_eval rfl e12)) ?_
          refine lf_val (v := .int .i64 ((j + 1 : Nat) : Int)) (wantAll rfl) (rv_add rfl (fr_eval rfl rfl) rfl (wrap_i64 (by omega) (by omega) (by omega))) ?_
          refine lf_val (v := .int .i64 ((j + 1 : Nat) : Int)) (wantAll rfl) (rv_assign rfl (fr_eval rfl rfl)) ?_
          refine lf_nil ?_
          refine then_n ?_
          exact ⟨_, _, (by omega), rfl, j + 1, _, _, rfl, (by omega), q2, q3, e0, e1, e2, e5, e7, e8, e9, e10, e11, rfl, e16, e24, hH⟩
        · refine lf_val (v := .bool false) (wantAll rfl) (rv_lss rfl (fr_eval rfl rfl) rfl (decide_eq_false (by omega))) ?_
          refine lf_nil ?_
          refine then_n ?_
          refine wp_gen (fun F' => F' 0 = slcV v1 1 0 30 ∧ F' 1 = cutV v b 200 ∧ F' 2 = .agg (cBs s).toArray ∧ F' 5 = .pointer (some ⟨g1, 0, none⟩) ∧ F' 7 = .pointer (some ⟨g2, 0, none⟩) ∧ F' 8 = y6 ∧ F' 9 = .int .i64 ((i : Nat) : Int) ∧ F' 10 = y10 ∧ F' 11 = .pointer (some ⟨g3, 0, none⟩) ∧ F' 12 = .int .i64 ((j : Nat) : Int) ∧ F' 13 = .int .i64 (List.getD l' j 0) ∧ F' 16 = .bool true ∧ F' 24 = .bool false ∧ F' 57 = .bool true ∧ F' 65 = .bool false) ⟨e0, e1, e2, e5, e7, e8, e9, e10, e11, e12, e13, e16, e24, e57, rfl⟩ ?_
          clear e0 e1 e2 e5 e7 e8 e9 e10 e11 e12 e13 e16 e24 e57
          clear F
          rintro F ⟨e0, e1, e2, e5, e7, e8, e9, e10, e11, e12, e13, e16, e24, e57, e65⟩
          refine wp_cond_false (fr_eval rfl e65) ?_
          refine wp_skip ?_
          refine then_n ?_
          refine wp_seq ?_
          obtain ⟨q1, q2, q3⟩ := num_of (r := r2) pj2 (by rw [pj1, puts_drop (by omega), List.append_assoc]) hzi.2
          refine wp_regionF ?_
          refine lf_val (v := .pointer (some ⟨g3, 0, none⟩)) (wantAll rfl) (rv_move rfl (fr_eval rfl e11)) ?_
          refine lf_call (wantAll rfl) (rv_call (args := [.pointer (some ⟨g3, 0, none⟩)]) rfl (evc (fr_eval rfl rfl) evn) Try.call15) (num_calls  _ (hH.eyeR (i := 3) rfl) (eyeR_ne hv_g3 hn_g3)) ?_
          rintro _ w21 ⟨rfl, hy, hxf⟩
          refine ⟨_, rfl, ?_⟩
          replace hH : Heap (newN w) w w21 [oBlk g1 (cBs s) 45, oPen g2 y9 (puts l' ++ put (((List.take 200 b).length : Nat) : Int) ++ (List.take 200 b) ++ s), oB y6 (((l2 ++ (put (((List.take 200 b).length : Nat) : Int))) ++ (List.take 200 b)) ++ s), oEyeR g3 z1 (numR r2 ee) (numE r2 ee) y10 (puts l' ++ put (((List.take 200 b).length : Nat) : Int) ++ (List.take 200 b) ++ s)] := hH.setEyeR (i := 3) rfl rfl hv_g3 hn_g3 hy hxf
          clear hy
          clear hxf
          refine lf_val (v := .int .i64 (List.getD l' j 0)) (wantAll rfl) (rv_move rfl (fr_eval rfl e13)) ?_
          refine lf_val (v := .bool false) (wantAll rfl) (rv_neq rfl (fr_eval rfl rfl) (fr_eval rfl rfl) (decide_eq_true (by omega))) ?_
          refine lf_nil ?_
          refine then_n ?_
          refine wp_gen (fun F' => F' 0 = slcV v1 1 0 30 ∧ F' 1 = cutV v b 200 ∧ F' 2 = .agg (cBs s).toArray ∧ F' 5 = .pointer (some ⟨g1, 0, none⟩) ∧ F' 7 = .pointer (some ⟨g2, 0, none⟩) ∧ F' 8 = y6 ∧ F' 9 = .int .i64 ((i : Nat) : Int) ∧ F' 10 = y10 ∧ F' 11 = .pointer (some ⟨g3, 0, none⟩) ∧ F' 12 = .int .i64 ((j : Nat) : Int) ∧ F' 13 = .int .i64 (List.getD l' j 0) ∧ F' 16 = .bool true ∧ F' 24 = .bool false ∧ F' 57 = .bool true ∧ F' 65 = .bool false ∧ F' 69 = .bool false) ⟨e0, e1, e2, e5, e7, e8, e9, e10, e11, e12, e13, e16, e24, e57, e65, rfl⟩ ?_
          clear e0 e1 e2 e5 e7 e8 e9 e10 e11 e12 e13 e16 e24 e57 e65
          clear F
          rintro F ⟨e0, e1, e2, e5, e7, e8, e9, e10, e11, e12, e13, e16, e24, e57, e65, e69⟩
          refine wp_cond_false (fr_eval rfl e69) ?_
          refine wp_skip ?_
          refine blk_n ?_
          refine then_n ?_
          refine wp_regionF ?_
          refine lf_val (v := .int .i64 ((j : Nat) : Int)) (wantAll rfl) (rv_move rfl (fr_eval rfl e12)) ?_
          refine lf_val (v := .int .i64 ((j + 1 : Nat) : Int)) (wantAll rfl) (rv_add rfl (fr_eval rfl rfl) rfl (wrap_i64 (by omega) (by omega) (by omega))) ?_
          refine lf_val (v := .int .i64 ((j + 1 : Nat) : Int)) (wantAll rfl) (rv_assign rfl (fr_eval rfl rfl)) ?_
          refine lf_nil ?_
          refine then_n ?_
          exact ⟨_, _, (by omega), rfl, j + 1, _, _, rfl, (by omega), q2, q3, e0, e1, e2, e5, e7, e8, e9, e10, e11, rfl, e16, e24, hH⟩
      · refine lf_val (v := .bool false) (wantAll rfl) (rv_lss rfl (fr_eval rfl rfl) (fr_eval rfl rfl) (decide_eq_false (by omega))) ?_
        refine lf_nil ?_
        refine then_n ?_
        refine wp_gen (fun F' => F' 0 = slcV v1 1 0 30 ∧ F' 1 = cutV v b 200 ∧ F' 2 = .agg (cBs s).toArray ∧ F' 5 = .pointer (some ⟨g1, 0, none⟩) ∧ F' 7 = .pointer (some ⟨g2, 0, none⟩) ∧ F' 8 = y6 ∧ F' 9 = .int .i64 ((i : Nat) : Int) ∧ F' 10 = y10 ∧ F' 11 = .pointer (some ⟨g3, 0, none⟩) ∧ F' 12 = .int .i64 ((j : Nat) : Int) ∧ F' 16 = .bool true ∧ F' 24 = .bool false ∧ F' 57 = .bool false) ⟨e0, e1, e2, e5, e7, e8, e9, e10, e11, e12, e16, e24, rfl⟩ ?_
        clear e0 e1 e2 e5 e7 e8 e9 e10 e11 e12 e16 e24
        clear F
        rintro F ⟨e0, e1, e2, e5, e7, e8, e9, e10, e11, e12, e16, e24, e57⟩
        refine wp_cond_false (fr_eval rfl e57) ?_
        refine wp_exit ?_
        refine then_exit ?_
        refine then_exit ?_
        refine blk_exit ?_
        refine then_n ?_
        refine wp_seq ?_
        have hr2 := pj1.trans (puts_rest (by omega))
        obtain ⟨x1, x2, x3⟩ := text_of (m := 200) pj2 hr2 (by omega) (by decide)
        obtain ⟨y1', y2', y3'⟩ := sum_of x3 x2 hs
        have hDn := done_of y3' y2'
        have hW := take_all (l := l') (i := i) (by omega)
        have hs_1 := hH.fixed1 (j := 0) (i := 3) rfl rfl (by decide)
        have hs_2 := hH.fixed1 (j := 1) (i := 3) rfl rfl (by decide)
        have hs_3 := hH.fixed1 (j := 2) (i := 3) rfl rfl (by decide)
        have hKN := hH.sub1 (i := 3) rfl
        have hcK : Chg (newK w19 (oEyeR g3 z1 r2 ee y10 (puts l' ++ put (((List.take 200 b).length : Nat) : Int) ++ (List.take 200 b) ++ s)).fp) w19 w19 := Chg.refl _ _
        have hfM : ∀ k, (oEyeR g3 z1 r2 ee y10 (puts l' ++ put (((List.take 200 b).length : Nat) : Int) ++ (List.take 200 b) ++ s)).fp k → (newK w19 (oEyeR g3 z1 r2 ee y10 (puts l' ++ put (((List.take 200 b).length : Nat) : Int) ++ (List.take 200 b) ++ s)).fp) k := fun k h => Or.inr h
        refine wp_regionX (newK w19 (oEyeR g3 z1 r2 ee y10 (puts l' ++ put (((List.take 200 b).length : Nat) : Int) ++ (List.take 200 b) ++ s)).fp) 17 (by kernel_rfl) (by kernel_rfl) ?_
        refine xl_take (i := 0) (v := y10) rfl (by kernel_rfl) (by kernel_rfl) (by kernel_rfl) (by kernel_rfl) (yx_val (wantAll rfl) (fun w' hx' => rv_move rfl (fr_eval rfl e10))) ?_
        refine xl_take (i := 2) (v := y6) rfl (by kernel_rfl) (by kernel_rfl) (by kernel_rfl) (by kernel_rfl) (yx_val (wantAll rfl) (fun w' hx' => rv_move rfl (fr_eval rfl e8))) ?_
        refine xl_take (i := 3) (v := .string ⟨(((l2 ++ (put (((List.take 200 b).length : Nat) : Int))) ++ (List.take 200 b)) ++ s).toArray⟩) rfl (by kernel_rfl) (by kernel_rfl) (by kernel_rfl) (by kernel_rfl) (yx_val (wantAll rfl) (fun w' hx' => rv_str rfl (fr_eval rfl rfl) (OwnB.rd (hs_3 _ (hcK.trans hx'))) Try.underlying22 Try.underlying5 Try.underlying9)) ?_
        refine anyX_ready (rs := [1]) (by kernel_rfl) ?_
        intro w22 hx
        replace hH := hH.ext hx
        replace hcK := hcK.trans (Ext.any hx)
        clear hx
        refine (anyX_cons ?_ anyX_nil)
        refine xl_step (i := 1) rfl (wantAll rfl) ?_
        refine of_val (v := .string ⟨(puts l' ++ put (((List.take 200 b).length : Nat) : Int) ++ (List.take 200 b) ++ s).toArray⟩) (rv_str rfl (fr_eval rfl rfl) (hH.eyeRd (i := 3) rfl) Try.underlying22 Try.underlying5 Try.underlying9) ?_
        refine ⟨Chg.refl _ _, ?_⟩
        refine xl_take (i := 4) (v := .bool true) rfl (by kernel_rfl) (by kernel_rfl) (by kernel_rfl) (by kernel_rfl) (yx_val (wantAll rfl) (fun w' hx' => rv_eqs (b := true) rfl (fr_eval rfl rfl) (fr_eval rfl rfl) (by exact decide_eq_true (by rw [pi1, hW])))) ?_
        refine xl_take (i := 5) (v := .bool true) rfl (by kernel_rfl) (by kernel_rfl) (by kernel_rfl) (by kernel_rfl) (yx_val (wantAll rfl) (fun w' hx' => rv_move rfl (fr_eval rfl rfl))) ?_
        refine xl_take (i := 6) (v := .pointer (some ⟨g3, 0, none⟩)) rfl (by kernel_rfl) (by kernel_rfl) (by kernel_rfl) (by kernel_rfl) (yx_val (wantF (d := 75) rfl (by kernel_rfl) rfl rfl) (fun w' hx' => rv_move rfl (fr_eval rfl e11))) ?_
        refine xl_take (i := 9) (v := cutV v b 200) rfl (by kernel_rfl) (by kernel_rfl) (by kernel_rfl) (by kernel_rfl) (yx_val (wantF (d := 75) rfl (by kernel_rfl) rfl rfl) (fun w' hx' => rv_move rfl (fr_eval rfl e1))) ?_
        refine xl_take (i := 10) (v := .string ⟨(List.take 200 b).toArray⟩) rfl (by kernel_rfl) (by kernel_rfl) (by kernel_rfl) (by kernel_rfl) (yx_val (wantF (d := 75) rfl (by kernel_rfl) rfl rfl) (fun w' hx' => rv_str rfl (fr_eval rfl rfl) (rdB_cut (hr.rd _ (hH.chg.trans (hx'.le hKN)))) Try.underlying22 Try.underlying5 Try.underlying9)) ?_
        refine anyX_ready (rs := [7]) (by kernel_rfl) ?_
        intro w23 hx
        replace hH := hH.ext hx
        replace hcK := hcK.trans (Ext.any hx)
        clear hx
        refine (anyX_cons ?_ anyX_nil)
        refine xl_step (i := 7) rfl (wantF (d := 75) rfl (by kernel_rfl) rfl rfl) ?_
        refine of_call (rv_call (args := [.pointer (some ⟨g3, 0, none⟩), .int .i64 200]) rfl (evc (fr_eval rfl rfl) (evc rfl evn)) Try.call29) (textE_calls 200 _ (hH.eyeR (i := 3) rfl) (eyeR_ne hv_g3 hn_g3)) ?_
        rintro _ w24 ⟨⟨y11, rfl, ho, hg⟩, hy, hxf⟩
        refine ⟨_, rfl, ?_⟩
        replace hH : Heap (newN w) w w24 [oBlk g1 (cBs s) 45, oPen g2 y9 (puts l' ++ put (((List.take 200 b).length : Nat) : Int) ++ (List.take 200 b) ++ s), oB y6 (((l2 ++ (put (((List.take 200 b).length : Nat) : Int))) ++ (List.take 200 b)) ++ s), oEyeR g3 z1 (rawR (numR r2 ee) (uptoE r2 ee 200) ((uptoV r2 ee 200 : Nat) : Int)) (rawE (numR r2 ee) (uptoE r2 ee 200) ((uptoV r2 ee 200 : Nat) : Int)) y10 (puts l' ++ put (((List.take 200 b).length : Nat) : Int) ++ (List.take 200 b) ++ s), oB y11 (rawV (numR r2 ee) (uptoE r2 ee 200) ((uptoV r2 ee 200 : Nat) : Int))] := hH.setRow (i := 3) rfl rfl (hH.setEyeR (i := 3) rfl rfl hv_g3 hn_g3 hy hxf) (fun _ h => h) ho hg
        clear hy ho hg
        replace hxf : Chg (oEyeR g3 z1 (rawR (numR r2 ee) (uptoE r2 ee 200) ((uptoV r2 ee 200 : Nat) : Int)) (rawE (numR r2 ee) (uptoE r2 ee 200) ((uptoV r2 ee 200 : Nat) : Int)) y10 (puts l' ++ put (((List.take 200 b).length : Nat) : Int) ++ (List.take 200 b) ++ s)).fp _ _ := Chg.le hxf (fun k h => Or.inl h)
        have hcx := hxf.mono (fun k _ hk => hfM k hk)
        replace hcK := hcK.trans hcx
        refine ⟨hcx, ?_⟩
        clear hcx hxf
        refine anyX_ready (rs := [8]) (by kernel_rfl) ?_
        intro w25 hx
        replace hH := hH.ext hx
        replace hcK := hcK.trans (Ext.any hx)
        clear hx
        refine (anyX_cons ?_ anyX_nil)
        refine xl_step (i := 8) rfl (wantF (d := 75) rfl (by kernel_rfl) rfl rfl) ?_
        refine of_val (v := .string ⟨(rawV (numR r2 ee) (uptoE r2 ee 200) ((uptoV r2 ee 200 : Nat) : Int)).toArray⟩) (rv_str rfl (fr_eval rfl rfl) (OwnB.rd (hH.own (i := 4) rfl)) Try.underlying22 Try.underlying5 Try.underlying9) ?_
        refine ⟨Chg.refl _ _, ?_⟩
        refine xl_take (i := 11) (v := .bool true) rfl (by kernel_rfl) (by kernel_rfl) (by kernel_rfl) (by kernel_rfl) (yx_val (wantF (d := 75) rfl (by kernel_rfl) rfl rfl) (fun w' hx' => rv_eqs (b := true) rfl (fr_eval rfl rfl) (fr_eval rfl rfl) (by exact decide_eq_true x1))) ?_
        refine xl_take (i := 12) (v := .bool true) rfl (by kernel_rfl) (by kernel_rfl) (by kernel_rfl) (by kernel_rfl) (yx_val (wantAll rfl) (fun w' hx' => rv_pickT rfl (fr_eval rfl rfl) (fr_eval rfl rfl))) ?_
        refine xl_take (i := 13) (v := .bool true) rfl (by kernel_rfl) (by kernel_rfl) (by kernel_rfl) (by kernel_rfl) (yx_val (wantAll rfl) (fun w' hx' => rv_move rfl (fr_eval rfl rfl))) ?_
        refine xl_take (i := 14) (v := .pointer (some ⟨g3, 0, none⟩)) rfl (by kernel_rfl) (by kernel_rfl) (by kernel_rfl) (by kernel_rfl) (yx_val (wantF (d := 83) rfl (by kernel_rfl) rfl rfl) (fun w' hx' => rv_move rfl (fr_eval rfl e11))) ?_
        refine xl_take (i := 16) (v := .agg (cBs s).toArray) rfl (by kernel_rfl) (by kernel_rfl) (by kernel_rfl) (by kernel_rfl) (yx_val (wantF (d := 83) rfl (by kernel_rfl) rfl rfl) (fun w' hx' => rv_loadW rfl (hs_1 _ (hcK.trans hx')) (fr_eval rfl e5) Try.underlying45 rfl (sz_len Try.sz45 (cBs_len hs)))) ?_
        refine anyX_ready (rs := [15]) (by kernel_rfl) ?_
        intro w26 hx
        replace hH := hH.ext hx
        replace hcK := hcK.trans (Ext.any hx)
        clear hx
        refine (anyX_cons ?_ anyX_nil)
        refine xl_step (i := 15) rfl (wantF (d := 83) rfl (by kernel_rfl) rfl rfl) ?_
        refine of_call (rv_call (args := [.pointer (some ⟨g3, 0, none⟩)]) rfl (evc (fr_eval rfl rfl) evn) Try.call30) (sumE_calls  _ (hH.eyeR (i := 3) rfl) (eyeR_ne hv_g3 hn_g3) (eyeR_lt hH (i := 3) rfl hv_g3)) ?_
        rintro _ w27 ⟨rfl, hy, hxf⟩
        refine ⟨_, rfl, ?_⟩
        replace hH : Heap (newN w) w w27 [oBlk g1 (cBs s) 45, oPen g2 y9 (puts l' ++ put (((List.take 200 b).length : Nat) : Int) ++ (List.take 200 b) ++ s), oB y6 (((l2 ++ (put (((List.take 200 b).length : Nat) : Int))) ++ (List.take 200 b)) ++ s), oEyeR g3 z1 (rawR (rawR (numR r2 ee) (uptoE r2 ee 200) ((uptoV r2 ee 200 : Nat) : Int)) (rawE (numR r2 ee) (uptoE r2 ee 200) ((uptoV r2 ee 200 : Nat) : Int)) 32) (rawE (rawR (numR r2 ee) (uptoE r2 ee 200) ((uptoV r2 ee 200 : Nat) : Int)) (rawE (numR r2 ee) (uptoE r2 ee 200) ((uptoV r2 ee 200 : Nat) : Int)) 32) y10 (puts l' ++ put (((List.take 200 b).length : Nat) : Int) ++ (List.take 200 b) ++ s), oB y11 (rawV (numR r2 ee) (uptoE r2 ee 200) ((uptoV r2 ee 200 : Nat) : Int))] := hH.setEyeR (i := 3) rfl rfl hv_g3 hn_g3 hy hxf
        clear hy
        replace hxf : Chg (oEyeR g3 z1 (rawR (rawR (numR r2 ee) (uptoE r2 ee 200) ((uptoV r2 ee 200 : Nat) : Int)) (rawE (numR r2 ee) (uptoE r2 ee 200) ((uptoV r2 ee 200 : Nat) : Int)) 32) (rawE (rawR (numR r2 ee) (uptoE r2 ee 200) ((uptoV r2 ee 200 : Nat) : Int)) (rawE (numR r2 ee) (uptoE r2 ee 200) ((uptoV r2 ee 200 : Nat) : Int)) 32) y10 (puts l' ++ put (((List.take 200 b).length : Nat) : Int) ++ (List.take 200 b) ++ s)).fp _ _ := Chg.le hxf (fun k h => Or.inl h)
        have hcx := hxf.mono (fun k _ hk => hfM k hk)
        replace hcK := hcK.trans hcx
        refine ⟨hcx, ?_⟩
        clear hcx hxf
        refine xl_tail (s := 17) rfl ?_
        intro w28 hx
        replace hH := hH.ext hx
        clear hx
        clear hs_1 hs_2 hs_3 hKN hcK hfM
        refine lf_val (v := .bool true) (wantF (d := 83) rfl (by kernel_rfl) rfl rfl) (eqT rfl (fr_eval rfl rfl) (fr_eval rfl rfl) sumV_len hs (b := true) (by rw [y1']; exact beq_self_eq_true _)) ?_
        refine lf_val (v := .bool true) (wantAll rfl) (rv_pickT rfl (fr_eval rfl rfl) (fr_eval rfl rfl)) ?_
        refine lf_val (v := .bool true) (wantAll rfl) (rv_move rfl (fr_eval rfl rfl)) ?_
        refine lf_val (v := .pointer (some ⟨g3, 0, none⟩)) (wantF (d := 89) rfl (by kernel_rfl) rfl rfl) (rv_move rfl (fr_eval rfl e11)) ?_
        refine lf_call (wantF (d := 89) rfl (by kernel_rfl) rfl rfl) (rv_call (args := [.pointer (some ⟨g3, 0, none⟩)]) rfl (evc (fr_eval rfl rfl) evn) Try.call22) (done_calls  _ (hH.eyeR (i := 3) rfl) (eyeR_ne hv_g3 hn_g3)) ?_
        rintro _ w29 ⟨rfl, hy, hxf⟩
        refine ⟨_, rfl, ?_⟩
        replace hH : Heap (newN w) w w29 [oBlk g1 (cBs s) 45, oPen g2 y9 (puts l' ++ put (((List.take 200 b).length : Nat) : Int) ++ (List.take 200 b) ++ s), oB y6 (((l2 ++ (put (((List.take 200 b).length : Nat) : Int))) ++ (List.take 200 b)) ++ s), oEyeR g3 z1 (rawR (rawR (numR r2 ee) (uptoE r2 ee 200) ((uptoV r2 ee 200 : Nat) : Int)) (rawE (numR r2 ee) (uptoE r2 ee 200) ((uptoV r2 ee 200 : Nat) : Int)) 32) (doneE (rawR (rawR (numR r2 ee) (uptoE r2 ee 200) ((uptoV r2 ee 200 : Nat) : Int)) (rawE (numR r2 ee) (uptoE r2 ee 200) ((uptoV r2 ee 200 : Nat) : Int)) 32) (rawE (rawR (numR r2 ee) (uptoE r2 ee 200) ((uptoV r2 ee 200 : Nat) : Int)) (rawE (numR r2 ee) (uptoE r2 ee 200) ((uptoV r2 ee 200 : Nat) : Int)) 32)) y10 (puts l' ++ put (((List.take 200 b).length : Nat) : Int) ++ (List.take 200 b) ++ s), oB y11 (rawV (numR r2 ee) (uptoE r2 ee 200) ((uptoV r2 ee 200 : Nat) : Int))] := hH.setEyeR (i := 3) rfl rfl hv_g3 hn_g3 hy hxf
        clear hy
        clear hxf
        refine lf_val (v := .bool true) (wantF (d := 89) rfl (by kernel_rfl) rfl rfl) (rv_eql rfl (fr_eval rfl rfl) rfl (decide_eq_true (by omega))) ?_
        refine lf_val (v := .bool true) (wantAll rfl) (rv_pickT rfl (fr_eval rfl rfl) (fr_eval rfl rfl)) ?_
        refine lf_val (v := .bool true) (wantAll rfl) (rv_move rfl (fr_eval rfl rfl)) ?_
        refine lf_call (wantF (d := 94) rfl (by kernel_rfl) rfl rfl) (rv_call (args := []) rfl evn Try.call18) (awake01_calls _) ?_
        rintro _ w30 ⟨rfl, hx⟩
        refine ⟨_, rfl, ?_⟩
        replace hH := hH.ext hx
        clear hx
        refine lf_val (v := .bool true) (wantAll rfl) (rv_pickT rfl (fr_eval rfl rfl) (fr_eval rfl rfl)) ?_
        refine lf_val (v := .bool true) (wantAll rfl) (rv_assign rfl (fr_eval rfl rfl)) ?_
        refine lf_nil ?_
        refine then_n ?_
        replace hH : Heap (newN w) w w30 [oBlk g1 (cBs s) 45, oPen g2 y9 (puts l' ++ put (((List.take 200 b).length : Nat) : Int) ++ (List.take 200 b) ++ s), oB y6 (((l2 ++ (put (((List.take 200 b).length : Nat) : Int))) ++ (List.take 200 b)) ++ s), oEyeR g3 z1 (rawR (rawR (numR r2 ee) (uptoE r2 ee 200) ((uptoV r2 ee 200 : Nat) : Int)) (rawE (numR r2 ee) (uptoE r2 ee 200) ((uptoV r2 ee 200 : Nat) : Int)) 32) (doneE (rawR (rawR (numR r2 ee) (uptoE r2 ee 200) ((uptoV r2 ee 200 : Nat) : Int)) (rawE (numR r2 ee) (uptoE r2 ee 200) ((uptoV r2 ee 200 : Nat) : Int)) 32) (rawE (rawR (numR r2 ee) (uptoE r2 ee 200) ((uptoV r2 ee 200 : Nat) : Int)) (rawE (numR r2 ee) (uptoE r2 ee 200) ((uptoV r2 ee 200 : Nat) : Int)) 32)) y10 (puts l' ++ put (((List.take 200 b).length : Nat) : Int) ++ (List.take 200 b) ++ s)] := hH.drop (.cons_cons _ (.cons_cons _ (.cons_cons _ (.cons_cons _ (.cons _ .slnil)))))
        refine wp_gen (fun F' => F' 0 = slcV v1 1 0 30 ∧ F' 1 = cutV v b 200 ∧ F' 2 = .agg (cBs s).toArray ∧ F' 5 = .pointer (some ⟨g1, 0, none⟩) ∧ F' 6 = .bool true ∧ F' 7 = .pointer (some ⟨g2, 0, none⟩) ∧ F' 8 = y6 ∧ F' 9 = .int .i64 ((i : Nat) : Int) ∧ F' 10 = y10 ∧ F' 11 = .pointer (some ⟨g3, 0, none⟩) ∧ F' 12 = .int .i64 ((j : Nat) : Int) ∧ F' 16 = .bool true ∧ F' 24 = .bool false ∧ F' 57 = .bool false) ⟨e0, e1, e2, e5, rfl, e7, e8, e9, e10, e11, e12, e16, e24, e57⟩ ?_
        clear e0 e1 e2 e5 e7 e8 e9 e10 e11 e12 e16 e24 e57
        clear F
        rintro F ⟨e0, e1, e2, e5, e6, e7, e8, e9, e10, e11, e12, e16, e24, e57⟩
        refine wp_ret ?_
        exact bodyPost_ret (v := (.bool true)) (res1 rfl (ro_tmp rfl e6)) rfl (⟨rfl, hH.done⟩)
  · refine lf_val (v := .bool false) (wantAll rfl) (rv_gtr rfl (fr_eval rfl rfl) rfl (decide_eq_false (by omega))) ?_
    refine lf_nil ?_
    refine then_n ?_
    refine wp_gen (fun F' => F' 0 = v1 ∧ F' 1 = v ∧ F' 2 = .agg (cBs s).toArray ∧ F' 5 = .pointer (some ⟨g1, 0, none⟩) ∧ F' 6 = .bool false ∧ F' 16 = .bool false) ⟨e0, e1, e2, e5, e6, rfl⟩ ?_
    clear e0 e1 e2 e5 e6
    clear F
    rintro F ⟨e0, e1, e2, e5, e6, e16⟩
    refine wp_cond_false (fr_eval rfl e16) ?_
    refine wp_skip ?_
    refine then_n ?_
    refine wp_seq ?_
    obtain ⟨l', hl'⟩ : ∃ l', l' = l := ⟨_, rfl⟩
    have hLl : List.length l' ≤ 30 := by rw [hl']; omega
    have hin0 : ∀ x ∈ l', inI x := fun x hx => hl x (by rw [hl'] at hx; exact hx)
    have hrw : ∀ {w' : World}, Rd w' 1 (v1) (l).length ((l).flatMap cI) → Rd w' 1 (v1) l'.length (l'.flatMap cI) := fun h => by rw [hl']; exact h
    have hps : 0 < (l'.flatMap cI).length → 0 < ((l).flatMap cI).length := fun h => by rw [← hl']; exact h
    have hin := getD_in hin0
    have hpl := puts_len l'
    have hpt := put_len ((List.length (List.take 200 b) : Nat) : Int)
    have htl := List.length_take_le 200 b
    refine wp_regionF ?_
    refine lf_val (v := v) (wantAll rfl) (rv_move rfl (fr_eval rfl e1)) ?_
    refine lf_call (wantAll rfl) (rv_call (args := [v]) rfl (evc (fr_eval rfl rfl) evn) Try.call13) (cut01_calls b _ _ (hr.rd _ hH.chg)) ?_
    rintro _ w31 ⟨rfl, hx⟩
    refine ⟨_, rfl, ?_⟩
    replace hH := hH.ext hx
    clear hx
    refine lf_val (v := cutV v b 200) (wantAll rfl) (rv_assign rfl (fr_eval rfl rfl)) ?_
    refine lf_nil ?_
    refine then_n ?_
    refine wp_seq ?_
    refine wp_gen (fun F' => F' 0 = v1 ∧ F' 1 = cutV v b 200 ∧ F' 2 = .agg (cBs s).toArray ∧ F' 5 = .pointer (some ⟨g1, 0, none⟩) ∧ F' 6 = .bool false ∧ F' 16 = .bool false) ⟨e0, rfl, e2, e5, e6, e16⟩ ?_
    clear e0 e1 e2 e5 e6 e16
    clear F
    rintro F ⟨e0, e1, e2, e5, e6, e16⟩
    refine wp_regionF ?_
    refine lf_ex (wantAll rfl) (hx_alloc hH 50 (z := .agg ([.slice none 0 0]).toArray) (n := 1) (cs := [.slice none 0 0]) rfl (by kernel_rfl) (by rfl)) ?_
    clear hH
    rintro _ w32 ⟨g4, rfl, hH, hx⟩
    replace hH : Heap (newN w) w w32 [oBlk g1 (cBs s) 45, oBlk g4 ([.slice none 0 0]) 50] := hH
    clear hx
    refine lf_nil ?_
    refine then_n ?_
    refine wp_seq ?_
    refine wp_gen (fun F' => F' 0 = v1 ∧ F' 1 = cutV v b 200 ∧ F' 2 = .agg (cBs s).toArray ∧ F' 5 = .pointer (some ⟨g1, 0, none⟩) ∧ F' 6 = .bool false ∧ F' 7 = .pointer (some ⟨g4, 0, none⟩) ∧ F' 16 = .bool false) ⟨e0, e1, e2, e5, e6, rfl, e16⟩ ?_
    clear e0 e1 e2 e5 e6 e16
    clear F
    rintro F ⟨e0, e1, e2, e5, e6, e7, e16⟩
    refine wp_regionF ?_
    refine lf_val (v := .slice none 0 0) (wantAll rfl) (rv_assign rfl rfl) ?_
    refine lf_nil ?_
    refine then_n ?_
    refine wp_seq ?_
    refine wp_seq ?_
    refine wp_gen (fun F' => F' 0 = v1 ∧ F' 1 = cutV v b 200 ∧ F' 2 = .agg (cBs s).toArray ∧ F' 5 = .pointer (some ⟨g1, 0, none⟩) ∧ F' 6 = .bool false ∧ F' 7 = .pointer (some ⟨g4, 0, none⟩) ∧ F' 8 = .slice none 0 0 ∧ F' 16 = .bool false) ⟨e0, e1, e2, e5, e6, e7, rfl, e16⟩ ?_
    clear e0 e1 e2 e5 e6 e7 e16
    clear F
    rintro F ⟨e0, e1, e2, e5, e6, e7, e8, e16⟩
    refine wp_regionF ?_
    refine lf_val (v := .int .i64 0) (wantAll rfl) (rv_assign rfl rfl) ?_
    refine lf_nil ?_
    refine then_n ?_
    refine wp_block ?_
    replace hH : Heap (newN w) w w32 [oBlk g1 (cBs s) 45, oBlk g4 ([.slice none 0 0]) 50, oB (.slice none 0 0) []] := hH.addNil 5 1
    refine wp_gen (fun F' => F' 0 = v1 ∧ F' 1 = cutV v b 200 ∧ F' 2 = .agg (cBs s).toArray ∧ F' 5 = .pointer (some ⟨g1, 0, none⟩) ∧ F' 6 = .bool false ∧ F' 7 = .pointer (some ⟨g4, 0, none⟩) ∧ F' 8 = (.slice none 0 0) ∧ F' 9 = .int .i64 0 ∧ F' 16 = .bool false) ⟨e0, e1, e2, e5, e6, e7, e8, rfl, e16⟩ ?_
    clear e0 e1 e2 e5 e6 e7 e8 e16
    clear F
    rintro F ⟨e0, e1, e2, e5, e6, e7, e8, e9, e16⟩
    refine wp_loopF (fun m F wr => ∃ i : Nat, ∃ l2 : List UInt8, ∃ yw : Value, m = 30 - i ∧ i ≤ List.length l' ∧ l2 = puts (List.take i l') ∧ l2.length ≤ 10 * i ∧ F 0 = v1 ∧ F 1 = cutV v b 200 ∧ F 2 = .agg (cBs s).toArray ∧ F 5 = .pointer (some ⟨g1, 0, none⟩) ∧ F 6 = .bool false ∧ F 7 = .pointer (some ⟨g4, 0, none⟩) ∧ F 8 = yw ∧ F 9 = .int .i64 ((i : Nat) : Int) ∧ F 16 = .bool false ∧ Heap (newN w) w wr [oBlk g1 (cBs s) 45, oBlk g4 ([.slice none 0 0]) 50, oB yw l2]) ⟨0, _, _, rfl, Nat.zero_le _, rfl, (by simp [puts]), e0, e1, e2, e5, e6, e7, e8, e9, e16, hH⟩ ?_
    clear e0 e1 e2 e5 e6 e7 e8 e9 e16 hH
    clear F
    rintro m F w33 ⟨i, l2, yw, rfl, pi0, pi1, pi2, e0, e1, e2, e5, e6, e7, e8, e9, e16, hH⟩
    refine wp_seq ?_
    refine wp_seq ?_
    refine wp_regionF ?_
    refine lf_val (v := .int .i64 ((i : Nat) : Int)) (wantAll rfl) (rv_move rfl (fr_eval rfl e9)) ?_
    refine lf_val (v := v1) (wantAll rfl) (rv_move rfl (fr_eval rfl e0)) ?_
    refine lf_val (v := .int .i64 ((List.length l' : Nat) : Int)) (wantAll rfl) (rv_len rfl (fr_eval rfl rfl) (hrw (hz.rd _ hH.chg)) Try.underlying48) ?_
    by_cases hc5 : i < List.length l'
    · refine lf_val (v := .bool true) (wantAll rfl) (rv_lss rfl (fr_eval rfl rfl) (fr_eval rfl rfl) (decide_eq_true (by omega))) ?_
      refine lf_nil ?_
      refine then_n ?_
      refine wp_gen (fun F' => F' 0 = v1 ∧ F' 1 = cutV v b 200 ∧ F' 2 = .agg (cBs s).toArray ∧ F' 5 = .pointer (some ⟨g1, 0, none⟩) ∧ F' 6 = .bool false ∧ F' 7 = .pointer (some ⟨g4, 0, none⟩) ∧ F' 8 = yw ∧ F' 9 = .int .i64 ((i : Nat) : Int) ∧ F' 16 = .bool false ∧ F' 24 = .bool true) ⟨e0, e1, e2, e5, e6, e7, e8, e9, e16, rfl⟩ ?_
      clear e0 e1 e2 e5 e6 e7 e8 e9 e16
      clear F
      rintro F ⟨e0, e1, e2, e5, e6, e7, e8, e9, e16, e24⟩
      refine wp_cond_true (fr_eval rfl e24) ?_
      refine wp_skip ?_
      refine then_n ?_
      refine wp_seq ?_
      refine wp_block ?_
      refine wp_regionF ?_
      refine lf_val (v := yw) (wantAll rfl) (rv_move rfl (fr_eval rfl e8)) ?_
      refine lf_val (v := v1) (wantAll rfl) (rv_move rfl (fr_eval rfl e0)) ?_
      refine lf_val (v := .int .i64 ((i : Nat) : Int)) (wantAll rfl) (rv_move rfl (fr_eval rfl e9)) ?_
      refine lf_val (v := .pointer (some (elemA v1 (i * 1)))) (wantAll rfl) (rv_index rfl (fr_eval rfl rfl) (fr_eval rfl rfl) (rdN (hrw (hz.rd _ hH.chg)) rfl) (show i < List.length l' from (by omega)) Try.underlying48 Try.sz3 (by decide)) ?_
      refine lf_val (v := .int .i64 (List.getD l' i 0)) (wantAll rfl) (rv_loadCell rfl (fr_eval rfl rfl) (Nat.mul_one _) (hrw (hz.rd _ hH.chg)) (flat_get1 0 cI_len (show i < List.length l' from (by omega)) rfl) Try.underlying3 rfl Try.sz3) ?_
      have hzi := hin i (by omega)
      refine lf_call (wantAll rfl) (rv_call (args := [.int .i64 (List.getD l' i 0)]) rfl (evc (fr_eval rfl rfl) evn) Try.call19) (number_calls (List.getD l' i 0) (by omega) _) ?_
      rintro _ w34 ⟨⟨y12, rfl, ho, hg⟩, hx⟩
      refine ⟨_, rfl, ?_⟩
      replace hH : Heap (newN w) w w34 [oBlk g1 (cBs s) 45, oBlk g4 ([.slice none 0 0]) 50, oB yw l2, oB y12 (put (List.getD l' i 0))] := hH.addOwn hx hg ho
      clear ho hg
      clear hx
      refine lf_ex (wantAll rfl) (hx_append hH Try.stB (i := 2) (xs' := cBs (l2 ++ (put (List.getD l' i 0)))) (nm := (l2 ++ (put (List.getD l' i 0))).length) rfl rfl (fun _ => rfl) List.length_append.symm (cBs_append _ _).symm (OwnB.rd (hH.own (i := 3) rfl)) (fr_eval rfl rfl) (fr_eval rfl rfl) (by have := put_len (List.getD l' i 0); simp only [List.length_append]; omega)) ?_
      clear hH
      rintro y13 w35 ⟨hH, hx⟩
      replace hH : Heap (newN w) w w35 [oBlk g1 (cBs s) 45, oBlk g4 ([.slice none 0 0]) 50, oB y13 (l2 ++ (put (List.getD l' i 0))), oB y12 (put (List.getD l' i 0))] := hH
      clear hx
      refine lf_val (v := y13) (wantAll rfl) (rv_assign rfl (fr_eval rfl rfl)) ?_
      refine lf_nil ?_
      refine blk_n ?_
      refine then_n ?_
      replace hH : Heap (newN w) w w35 [oBlk g1 (cBs s) 45, oBlk g4 ([.slice none 0 0]) 50, oB y13 (l2 ++ (put (List.getD l' i 0)))] := hH.drop (.cons_cons _ (.cons_cons _ (.cons_cons _ (.cons _ .slnil))))
      refine wp_gen (fun F' => F' 0 = v1 ∧ F' 1 = cutV v b 200 ∧ F' 2 = .agg (cBs s).toArray ∧ F' 5 = .pointer (some ⟨g1, 0, none⟩) ∧ F' 6 = .bool false ∧ F' 7 = .pointer (some ⟨g4, 0, none⟩) ∧ F' 8 = y13 ∧ F' 9 = .int .i64 ((i : Nat) : Int) ∧ F' 16 = .bool false ∧ F' 24 = .bool true) ⟨e0, e1, e2, e5, e6, e7, rfl, e9, e16, e24⟩ ?_
      clear e0 e1 e2 e5 e6 e7 e8 e9 e16 e24
      clear F
      rintro F ⟨e0, e1, e2, e5, e6, e7, e8, e9, e16, e24⟩
      refine wp_regionF ?_
      refine lf_val (v := .int .i64 ((i : Nat) : Int)) (wantAll rfl) (rv_move rfl (fr_eval rfl e9)) ?_
      refine lf_val (v := .int .i64 ((i + 1 : Nat) : Int)) (wantAll rfl) (rv_add rfl (fr_eval rfl rfl) rfl (wrap_i64 (by omega) (by omega) (by omega))) ?_
      refine lf_val (v := .int .i64 ((i + 1 : Nat) : Int)) (wantAll rfl) (rv_assign rfl (fr_eval rfl rfl)) ?_
      refine lf_nil ?_
      refine then_n ?_
      exact ⟨_, _, (by omega), rfl, i + 1, _, _, rfl, (by omega), (by rw [pi1, puts_next (by omega)]), (by have := put_len (List.getD l' i 0); simp only [List.length_append]; omega), e0, e1, e2, e5, e6, e7, e8, rfl, e16, hH⟩
    · refine lf_val (v := .bool false) (wantAll rfl) (rv_lss rfl (fr_eval rfl rfl) (fr_eval rfl rfl) (decide_eq_false (by omega))) ?_
      refine lf_nil ?_
      refine then_n ?_
      refine wp_gen (fun F' => F' 0 = v1 ∧ F' 1 = cutV v b 200 ∧ F' 2 = .agg (cBs s).toArray ∧ F' 5 = .pointer (some ⟨g1, 0, none⟩) ∧ F' 6 = .bool false ∧ F' 7 = .pointer (some ⟨g4, 0, none⟩) ∧ F' 8 = yw ∧ F' 9 = .int .i64 ((i : Nat) : Int) ∧ F' 16 = .bool false ∧ F' 24 = .bool false) ⟨e0, e1, e2, e5, e6, e7, e8, e9, e16, rfl⟩ ?_
      clear e0 e1 e2 e5 e6 e7 e8 e9 e16
      clear F
      rintro F ⟨e0, e1, e2, e5, e6, e7, e8, e9, e16, e24⟩
      refine wp_cond_false (fr_eval rfl e24) ?_
      refine wp_exit ?_
      refine then_exit ?_
      refine then_exit ?_
      refine blk_exit ?_
      refine then_n ?_
      refine wp_seq ?_
      refine wp_regionF ?_
      refine lf_val (v := yw) (wantAll rfl) (rv_move rfl (fr_eval rfl e8)) ?_
      refine lf_val (v := cutV v b 200) (wantAll rfl) (rv_move rfl (fr_eval rfl e1)) ?_
      refine lf_val (v := .int .i64 (((List.take 200 b).length : Nat) : Int)) (wantAll rfl) (rv_len rfl (fr_eval rfl rfl) (RdB.rn (rdB_cut (hr.rd _ hH.chg)) rfl) Try.underlying22) ?_
      refine lf_call (wantAll rfl) (rv_call (args := [.int .i64 (((List.take 200 b).length : Nat) : Int)]) rfl (evc (fr_eval rfl rfl) evn) Try.call19) (number_calls (((List.take 200 b).length : Nat) : Int) (by omega) _) ?_
      rintro _ w36 ⟨⟨y14, rfl, ho, hg⟩, hx⟩
      refine ⟨_, rfl, ?_⟩
      replace hH : Heap (newN w) w w36 [oBlk g1 (cBs s) 45, oBlk g4 ([.slice none 0 0]) 50, oB yw l2, oB y14 (put (((List.take 200 b).length : Nat) : Int))] := hH.addOwn hx hg ho
      clear ho hg
      clear hx
      refine lf_ex (wantAll rfl) (hx_append hH Try.stB (i := 2) (xs' := cBs (l2 ++ (put (((List.take 200 b).length : Nat) : Int)))) (nm := (l2 ++ (put (((List.take 200 b).length : Nat) : Int))).length) rfl rfl (fun _ => rfl) List.length_append.symm (cBs_append _ _).symm (OwnB.rd (hH.own (i := 3) rfl)) (fr_eval rfl rfl) (fr_eval rfl rfl) (by simp only [List.length_append, hs]; omega)) ?_
      clear hH
      rintro y15 w37 ⟨hH, hx⟩
      replace hH : Heap (newN w) w w37 [oBlk g1 (cBs s) 45, oBlk g4 ([.slice none 0 0]) 50, oB y15 (l2 ++ (put (((List.take 200 b).length : Nat) : Int))), oB y14 (put (((List.take 200 b).length : Nat) : Int))] := hH
      clear hx
      refine lf_val (v := y15) (wantAll rfl) (rv_assign rfl (fr_eval rfl rfl)) ?_
      refine lf_nil ?_
      refine then_n ?_
      refine wp_seq ?_
      replace hH : Heap (newN w) w w37 [oBlk g1 (cBs s) 45, oBlk g4 ([.slice none 0 0]) 50, oB y15 (l2 ++ (put (((List.take 200 b).length : Nat) : Int)))] := hH.drop (.cons_cons _ (.cons_cons _ (.cons_cons _ (.cons _ .slnil))))
      refine wp_gen (fun F' => F' 0 = v1 ∧ F' 1 = cutV v b 200 ∧ F' 2 = .agg (cBs s).toArray ∧ F' 5 = .pointer (some ⟨g1, 0, none⟩) ∧ F' 6 = .bool false ∧ F' 7 = .pointer (some ⟨g4, 0, none⟩) ∧ F' 8 = y15 ∧ F' 9 = .int .i64 ((i : Nat) : Int) ∧ F' 16 = .bool false ∧ F' 24 = .bool false) ⟨e0, e1, e2, e5, e6, e7, rfl, e9, e16, e24⟩ ?_
      clear e0 e1 e2 e5 e6 e7 e8 e9 e16 e24
      clear F
      rintro F ⟨e0, e1, e2, e5, e6, e7, e8, e9, e16, e24⟩
      refine wp_regionF ?_
      refine lf_val (v := y15) (wantAll rfl) (rv_move rfl (fr_eval rfl e8)) ?_
      refine lf_val (v := cutV v b 200) (wantAll rfl) (rv_move rfl (fr_eval rfl e1)) ?_
      refine lf_ex (wantAll rfl) (hx_append hH Try.stB (i := 2) (xs' := cBs ((l2 ++ (put (((List.take 200 b).length : Nat) : Int))) ++ (List.take 200 b))) (nm := ((l2 ++ (put (((List.take 200 b).length : Nat) : Int))) ++ (List.take 200 b)).length) rfl rfl (fun _ => rfl) List.length_append.symm (cBs_append _ _).symm (rdB_cut (hr.rd _ hH.chg)) (fr_eval rfl rfl) (fr_eval rfl rfl) (by simp only [List.length_append, hs]; omega)) ?_
      clear hH
      rintro y16 w38 ⟨hH, hx⟩
      replace hH : Heap (newN w) w w38 [oBlk g1 (cBs s) 45, oBlk g4 ([.slice none 0 0]) 50, oB y16 ((l2 ++ (put (((List.take 200 b).length : Nat) : Int))) ++ (List.take 200 b))] := hH
      clear hx
      refine lf_val (v := y16) (wantAll rfl) (rv_assign rfl (fr_eval rfl rfl)) ?_
      refine lf_nil ?_
      refine then_n ?_
      refine wp_seq ?_
      refine wp_gen (fun F' => F' 0 = v1 ∧ F' 1 = cutV v b 200 ∧ F' 2 = .agg (cBs s).toArray ∧ F' 5 = .pointer (some ⟨g1, 0, none⟩) ∧ F' 6 = .bool false ∧ F' 7 = .pointer (some ⟨g4, 0, none⟩) ∧ F' 8 = y16 ∧ F' 9 = .int .i64 ((i : Nat) : Int) ∧ F' 16 = .bool false ∧ F' 24 = .bool false) ⟨e0, e1, e2, e5, e6, e7, rfl, e9, e16, e24⟩ ?_
      clear e0 e1 e2 e5 e6 e7 e8 e9 e16 e24
      clear F
      rintro F ⟨e0, e1, e2, e5, e6, e7, e8, e9, e16, e24⟩
      refine wp_regionF ?_
      refine lf_val (v := y16) (wantAll rfl) (rv_move rfl (fr_eval rfl e8)) ?_
      refine lf_val (v := .slice (some ⟨g1, 0, none⟩) 32 32) (wantAll rfl) (rv_sliceArr rfl (fr_eval rfl e5) Try.underlying45 Try.sz5 (by decide)) ?_
      refine lf_ex (wantAll rfl) (hx_append hH Try.stB (i := 2) (xs' := cBs (((l2 ++ (put (((List.take 200 b).length : Nat) : Int))) ++ (List.take 200 b)) ++ s)) (nm := (((l2 ++ (put (((List.take 200 b).length : Nat) : Int))) ++ (List.take 200 b)) ++ s).length) rfl rfl (fun _ => rfl) List.length_append.symm (cBs_append _ _).symm (rdB_blkn (hH.blk (i := 0) rfl) hs (by decide)) (fr_eval rfl rfl) (fr_eval rfl rfl) (by simp only [List.length_append, hs]; omega)) ?_
      clear hH
      rintro y17 w39 ⟨hH, hx⟩
      replace hH : Heap (newN w) w w39 [oBlk g1 (cBs s) 45, oBlk g4 ([.slice none 0 0]) 50, oB y17 (((l2 ++ (put (((List.take 200 b).length : Nat) : Int))) ++ (List.take 200 b)) ++ s)] := hH
      clear hx
      refine lf_val (v := y17) (wantAll rfl) (rv_assign rfl (fr_eval rfl rfl)) ?_
      refine lf_nil ?_
      refine then_n ?_
      refine wp_seq ?_
      refine wp_gen (fun F' => F' 0 = v1 ∧ F' 1 = cutV v b 200 ∧ F' 2 = .agg (cBs s).toArray ∧ F' 5 = .pointer (some ⟨g1, 0, none⟩) ∧ F' 6 = .bool false ∧ F' 7 = .pointer (some ⟨g4, 0, none⟩) ∧ F' 8 = y17 ∧ F' 9 = .int .i64 ((i : Nat) : Int) ∧ F' 16 = .bool false ∧ F' 24 = .bool false) ⟨e0, e1, e2, e5, e6, e7, rfl, e9, e16, e24⟩ ?_
      clear e0 e1 e2 e5 e6 e7 e8 e9 e16 e24
      clear F
      rintro F ⟨e0, e1, e2, e5, e6, e7, e8, e9, e16, e24⟩
      replace hH : Heap (newN w) w w39 [oBlk g1 (cBs s) 45, oPen g4 (.slice none 0 0) [], oB y17 (((l2 ++ (put (((List.take 200 b).length : Nat) : Int))) ++ (List.take 200 b)) ++ s)] := hH.toPen (i := 1) rfl rfl
      have hs_1 := hH.fixed1 (j := 0) (i := 1) rfl rfl (by decide)
      have hs_9 := hH.fixed1 (j := 2) (i := 1) rfl rfl (by decide)
      have hKN := hH.sub1 (i := 1) rfl
      have hcK : Chg (newK w39 (oPen g4 (.slice none 0 0) []).fp) w39 w39 := Chg.refl _ _
      have hfM : ∀ k, (oPen g4 (.slice none 0 0) []).fp k → (newK w39 (oPen g4 (.slice none 0 0) []).fp) k := fun k h => Or.inr h
      refine wp_regionX (newK w39 (oPen g4 (.slice none 0 0) []).fp) 5 (by kernel_rfl) (by kernel_rfl) ?_
      refine xl_take (i := 0) (v := v1) rfl (by kernel_rfl) (by kernel_rfl) (by kernel_rfl) (by kernel_rfl) (yx_val (wantAll rfl) (fun w' hx' => rv_move rfl (fr_eval rfl e0))) ?_
      refine xl_take (i := 2) (v := cutV v b 200) rfl (by kernel_rfl) (by kernel_rfl) (by kernel_rfl) (by kernel_rfl) (yx_val (wantAll rfl) (fun w' hx' => rv_move rfl (fr_eval rfl e1))) ?_
      refine xl_take (i := 4) (v := .agg (cBs s).toArray) rfl (by kernel_rfl) (by kernel_rfl) (by kernel_rfl) (by kernel_rfl) (yx_val (wantAll rfl) (fun w' hx' => rv_loadW rfl (hs_1 _ (hcK.trans hx')) (fr_eval rfl e5) Try.underlying45 rfl (sz_len Try.sz45 (cBs_len hs)))) ?_
      refine anyX_ready (rs := [1]) (by kernel_rfl) ?_
      intro w40 hx
      replace hH := hH.ext hx
      replace hcK := hcK.trans (Ext.any hx)
      clear hx
      refine (anyX_cons ?_ anyX_nil)
      refine xl_step (i := 1) rfl (wantAll rfl) ?_
      refine of_call (rv_call (args := [.pointer (some ⟨g4, 0, none⟩), v1]) rfl (evc (fr_eval rfl e7) (evc (fr_eval rfl rfl) evn)) Try.call27) (penNums_calls hin _ (hrw (hz.rd _ hH.chg)) (fun k hk h0 e => hz.out _ hk (hps h0) ((hH.one (i := 1) rfl).sub k (Or.inl e))) (fun k hk h0 h => hz.out _ hk (hps h0) ((hH.one (i := 1) rfl).sub k (Or.inr h))) (hH.pen (i := 1) rfl) (by first | (simp only [List.length_append, List.length_nil, hs]; omega) | omega | (simp; omega))) ?_
      rintro _ w41 ⟨rfl, hp⟩
      refine ⟨_, rfl, ?_⟩
      obtain ⟨y18, hH', hx, hxf, hgr⟩ := hH.penPost (i := 1) (l2 := puts l') rfl (fun _ => rfl) hp
      clear hH hp
      have hH : Heap (newN w) w w41 [oBlk g1 (cBs s) 45, oPen g4 y18 (puts l'), oB y17 (((l2 ++ (put (((List.take 200 b).length : Nat) : Int))) ++ (List.take 200 b)) ++ s)] := hH'
      clear hH'
      have hcx := hxf.mono (fun k _ hk => hfM k hk)
      replace hfM := grow1 (fun k h => Or.inl h) hcK.size hfM hgr
      replace hcK := hcK.trans hcx
      refine ⟨hcx, ?_⟩
      clear hcx hxf hgr hx
      refine anyX_ready (rs := [3]) (by kernel_rfl) ?_
      intro w42 hx
      replace hH := hH.ext hx
      replace hcK := hcK.trans (Ext.any hx)
      clear hx
      refine (anyX_cons ?_ anyX_nil)
      refine xl_step (i := 3) rfl (wantAll rfl) ?_
      refine of_call (rv_call (args := [.pointer (some ⟨g4, 0, none⟩), cutV v b 200]) rfl (evc (fr_eval rfl rfl) (evc (fr_eval rfl rfl) evn)) Try.call25) (penText_calls (Nat.le_trans (List.length_take_le 200 b) (by decide)) _ (rdB_cut (hr.rd _ hH.chg)) (fun k hk h0 e => hr.out _ (cutV_own.symm.trans hk) (cut_posB h0) ((hH.one (i := 1) rfl).sub k (Or.inl e))) (fun k hk h0 h => hr.out _ (cutV_own.symm.trans hk) (cut_posB h0) ((hH.one (i := 1) rfl).sub k (Or.inr h))) (hH.pen (i := 1) rfl) (by first | (simp only [List.length_append, List.length_nil, hs]; omega) | omega | (simp; omega))) ?_
      rintro _ w43 ⟨rfl, hp⟩
      refine ⟨_, rfl, ?_⟩
      obtain ⟨y19, hH', hx, hxf, hgr⟩ := hH.penPost (i := 1) (l2 := puts l' ++ put (((List.take 200 b).length : Nat) : Int) ++ (List.take 200 b)) rfl (fun _ => rfl) hp
      clear hH hp
      have hH : Heap (newN w) w w43 [oBlk g1 (cBs s) 45, oPen g4 y19 (puts l' ++ put (((List.take 200 b).length : Nat) : Int) ++ (List.take 200 b)), oB y17 (((l2 ++ (put (((List.take 200 b).length : Nat) : Int))) ++ (List.take 200 b)) ++ s)] := hH'
      clear hH'
      have hcx := hxf.mono (fun k _ hk => hfM k hk)
      replace hfM := grow1 (fun k h => Or.inl h) hcK.size hfM hgr
      replace hcK := hcK.trans hcx
      refine ⟨hcx, ?_⟩
      clear hcx hxf hgr hx
      refine xl_tail (s := 5) rfl ?_
      intro w44 hx
      replace hH := hH.ext hx
      clear hx
      clear hs_1 hs_9 hKN hcK hfM
      refine lf_call (wantAll rfl) (rv_call (args := [.pointer (some ⟨g4, 0, none⟩), .agg (cBs s).toArray]) rfl (evc (fr_eval rfl rfl) (evc (fr_eval rfl rfl) evn)) Try.call26) (penSum_calls s hs _ (hH.pen (i := 1) rfl) (by first | (simp only [List.length_append, List.length_nil, hs]; omega) | omega | (simp; omega))) ?_
      rintro _ w45 ⟨rfl, hp⟩
      refine ⟨_, rfl, ?_⟩
      obtain ⟨y20, hH', hx, hxf, hgr⟩ := hH.penPost (i := 1) (l2 := puts l' ++ put (((List.take 200 b).length : Nat) : Int) ++ (List.take 200 b) ++ s) rfl (fun _ => rfl) hp
      clear hH hp
      have hH : Heap (newN w) w w45 [oBlk g1 (cBs s) 45, oPen g4 y20 (puts l' ++ put (((List.take 200 b).length : Nat) : Int) ++ (List.take 200 b) ++ s), oB y17 (((l2 ++ (put (((List.take 200 b).length : Nat) : Int))) ++ (List.take 200 b)) ++ s)] := hH'
      clear hH'
      clear hxf hgr hx
      refine lf_call (wantAll rfl) (rv_call (args := [.pointer (some ⟨g4, 0, none⟩)]) rfl (evc (fr_eval rfl rfl) evn) Try.call28) (penBytes_calls _ (hH.pen (i := 1) rfl) (by first | (simp only [List.length_append, List.length_nil, hs]; omega) | omega | (simp; omega))) ?_
      rintro _ w46 ⟨⟨y21, rfl, ho, hg⟩, hx⟩
      refine ⟨_, rfl, ?_⟩
      replace hH : Heap (newN w) w w46 [oBlk g1 (cBs s) 45, oPen g4 y20 (puts l' ++ put (((List.take 200 b).length : Nat) : Int) ++ (List.take 200 b) ++ s), oB y17 (((l2 ++ (put (((List.take 200 b).length : Nat) : Int))) ++ (List.take 200 b)) ++ s), oB y21 (puts l' ++ put (((List.take 200 b).length : Nat) : Int) ++ (List.take 200 b) ++ s)] := hH.addOwn hx hg ho
      clear ho hg
      clear hx
      refine lf_val (v := y21) (wantAll rfl) (rv_assign rfl (fr_eval rfl rfl)) ?_
      refine lf_nil ?_
      refine then_n ?_
      refine wp_seq ?_
      refine wp_gen (fun F' => F' 0 = v1 ∧ F' 1 = cutV v b 200 ∧ F' 2 = .agg (cBs s).toArray ∧ F' 5 = .pointer (some ⟨g1, 0, none⟩) ∧ F' 6 = .bool false ∧ F' 7 = .pointer (some ⟨g4, 0, none⟩) ∧ F' 8 = y17 ∧ F' 9 = .int .i64 ((i : Nat) : Int) ∧ F' 10 = y21 ∧ F' 16 = .bool false ∧ F' 24 = .bool false) ⟨e0, e1, e2, e5, e6, e7, e8, e9, rfl, e16, e24⟩ ?_
      clear e0 e1 e2 e5 e6 e7 e8 e9 e16 e24
      clear F
      rintro F ⟨e0, e1, e2, e5, e6, e7, e8, e9, e10, e16, e24⟩
      refine wp_regionF ?_
      refine lf_val (v := y21) (wantAll rfl) (rv_move rfl (fr_eval rfl e10)) ?_
      refine lf_call (wantAll rfl) (rv_call (args := [y21]) rfl (evc (fr_eval rfl rfl) evn) Try.call14) (look_calls (show List.length (puts l' ++ put (((List.take 200 b).length : Nat) : Int) ++ (List.take 200 b) ++ s) ≤ 100000000 from (by first | (simp only [List.length_append, List.length_nil, hs]; omega) | omega | (simp; omega))) _ (OwnB.rd (hH.own (i := 3) rfl))) ?_
      rintro _ w47 ⟨⟨g5, z2, rfl, hy, hge, hst⟩, hx⟩
      refine ⟨_, rfl, ?_⟩
      have hv_g5 : ∀ k, z2.ownBlock = some k → (y21 : Value).ownBlock = some k := fun k hk => (hst k hk).2.2
      obtain ⟨hH', hn_g5⟩ := hH.lookOwn (i := 3) (g := g5) (v0 := z2) rfl rfl hx hge hv_g5 hy
      clear hH hst hge hy
      have hH : Heap (newN w) w w47 [oBlk g1 (cBs s) 45, oPen g4 y20 (puts l' ++ put (((List.take 200 b).length : Nat) : Int) ++ (List.take 200 b) ++ s), oB y17 (((l2 ++ (put (((List.take 200 b).length : Nat) : Int))) ++ (List.take 200 b)) ++ s), oEyeR g5 z2 (puts l' ++ put (((List.take 200 b).length : Nat) : Int) ++ (List.take 200 b) ++ s) 0 y21 (puts l' ++ put (((List.take 200 b).length : Nat) : Int) ++ (List.take 200 b) ++ s)] := hH'
      clear hH'
      clear hx
      refine lf_val (v := .pointer (some ⟨g5, 0, none⟩)) (wantAll rfl) (rv_assign rfl (fr_eval rfl rfl)) ?_
      refine lf_nil ?_
      refine then_n ?_
      refine wp_seq ?_
      refine wp_seq ?_
      refine wp_gen (fun F' => F' 0 = v1 ∧ F' 1 = cutV v b 200 ∧ F' 2 = .agg (cBs s).toArray ∧ F' 5 = .pointer (some ⟨g1, 0, none⟩) ∧ F' 6 = .bool false ∧ F' 7 = .pointer (some ⟨g4, 0, none⟩) ∧ F' 8 = y17 ∧ F' 9 = .int .i64 ((i : Nat) : Int) ∧ F' 10 = y21 ∧ F' 11 = .pointer (some ⟨g5, 0, none⟩) ∧ F' 16 = .bool false ∧ F' 24 = .bool false) ⟨e0, e1, e2, e5, e6, e7, e8, e9, e10, rfl, e16, e24⟩ ?_
      clear e0 e1 e2 e5 e6 e7 e8 e9 e10 e16 e24
      clear F
      rintro F ⟨e0, e1, e2, e5, e6, e7, e8, e9, e10, e11, e16, e24⟩
      refine wp_regionF ?_
      refine lf_val (v := .int .i64 0) (wantAll rfl) (rv_assign rfl rfl) ?_
      refine lf_nil ?_
      refine then_n ?_
      refine wp_block ?_
      have hB : puts l' ++ put (((List.take 200 b).length : Nat) : Int) ++ (List.take 200 b) ++ s = puts l' ++ (put ((List.length (List.take 200 b) : Nat) : Int) ++ ((List.take 200 b) ++ (s ++ []))) := by simp only [List.append_assoc, List.append_nil]
      refine wp_gen (fun F' => F' 0 = v1 ∧ F' 1 = cutV v b 200 ∧ F' 2 = .agg (cBs s).toArray ∧ F' 5 = .pointer (some ⟨g1, 0, none⟩) ∧ F' 6 = .bool false ∧ F' 7 = .pointer (some ⟨g4, 0, none⟩) ∧ F' 8 = y17 ∧ F' 9 = .int .i64 ((i : Nat) : Int) ∧ F' 10 = y21 ∧ F' 11 = .pointer (some ⟨g5, 0, none⟩) ∧ F' 12 = .int .i64 0 ∧ F' 16 = .bool false ∧ F' 24 = .bool false) ⟨e0, e1, e2, e5, e6, e7, e8, e9, e10, e11, rfl, e16, e24⟩ ?_
      clear e0 e1 e2 e5 e6 e7 e8 e9 e10 e11 e16 e24
      clear F
      rintro F ⟨e0, e1, e2, e5, e6, e7, e8, e9, e10, e11, e12, e16, e24⟩
      refine wp_loopF (fun m F wr => ∃ j : Nat, ∃ r2 : List UInt8, ∃ ee : Int, m = 30 - j ∧ j ≤ List.length l' ∧ r2 = puts (List.drop j l') ++ (put ((List.length (List.take 200 b) : Nat) : Int) ++ ((List.take 200 b) ++ (s ++ []))) ∧ ee = 0 ∧ F 0 = v1 ∧ F 1 = cutV v b 200 ∧ F 2 = .agg (cBs s).toArray ∧ F 5 = .pointer (some ⟨g1, 0, none⟩) ∧ F 7 = .pointer (some ⟨g4, 0, none⟩) ∧ F 8 = y17 ∧ F 9 = .int .i64 ((i : Nat) : Int) ∧ F 10 = y21 ∧ F 11 = .pointer (some ⟨g5, 0, none⟩) ∧ F 12 = .int .i64 ((j : Nat) : Int) ∧ F 16 = .bool false ∧ F 24 = .bool false ∧ Heap (newN w) w wr [oBlk g1 (cBs s) 45, oPen g4 y20 (puts l' ++ put (((List.take 200 b).length : Nat) : Int) ++ (List.take 200 b) ++ s), oB y17 (((l2 ++ (put (((List.take 200 b).length : Nat) : Int))) ++ (List.take 200 b)) ++ s), oEyeR g5 z2 r2 ee y21 (puts l' ++ put (((List.take 200 b).length : Nat) : Int) ++ (List.take 200 b) ++ s)]) ⟨0, _, _, rfl, Nat.zero_le _, hB, rfl, e0, e1, e2, e5, e7, e8, e9, e10, e11, e12, e16, e24, hH⟩ ?_
      clear e0 e1 e2 e5 e6 e7 e8 e9 e10 e11 e12 e16 e24 hH
      clear F
      rintro m F w48 ⟨j, r2, ee, rfl, pj0, pj1, pj2, e0, e1, e2, e5, e7, e8, e9, e10, e11, e12, e16, e24, hH⟩
      refine wp_seq ?_
      refine wp_seq ?_
      refine wp_regionF ?_
      refine lf_val (v := .int .i64 ((j : Nat) : Int)) (wantAll rfl) (rv_move rfl (fr_eval rfl e12)) ?_
      refine lf_val (v := v1) (wantAll rfl) (rv_move rfl (fr_eval rfl e0)) ?_
      refine lf_val (v := .int .i64 ((List.length l' : Nat) : Int)) (wantAll rfl) (rv_len rfl (fr_eval rfl rfl) (hrw (hz.rd _ hH.chg)) Try.underlying48) ?_
      by_cases hc6 : j < List.length l'
      · refine lf_val (v := .bool true) (wantAll rfl) (rv_lss rfl (fr_eval rfl rfl) (fr_eval rfl rfl) (decide_eq_true (by omega))) ?_
        refine lf_nil ?_
        refine then_n ?_
        refine wp_gen (fun F' => F' 0 = v1 ∧ F' 1 = cutV v b 200 ∧ F' 2 = .agg (cBs s).toArray ∧ F' 5 = .pointer (some ⟨g1, 0, none⟩) ∧ F' 7 = .pointer (some ⟨g4, 0, none⟩) ∧ F' 8 = y17 ∧ F' 9 = .int .i64 ((i : Nat) : Int) ∧ F' 10 = y21 ∧ F' 11 = .pointer (some ⟨g5, 0, none⟩) ∧ F' 12 = .int .i64 ((j : Nat) : Int) ∧ F' 16 = .bool false ∧ F' 24 = .bool false ∧ F' 57 = .bool true) ⟨e0, e1, e2, e5, e7, e8, e9, e10, e11, e12, e16, e24, rfl⟩ ?_
        clear e0 e1 e2 e5 e7 e8 e9 e10 e11 e12 e16 e24
        clear F
        rintro F ⟨e0, e1, e2, e5, e7, e8, e9, e10, e11, e12, e16, e24, e57⟩
        refine wp_cond_true (fr_eval rfl e57) ?_
        refine wp_skip ?_
        refine then_n ?_
        refine wp_seq ?_
        refine wp_block ?_
        refine wp_seq ?_
        have hzi := hin j (by omega)
        refine wp_regionF ?_
        refine lf_val (v := v1) (wantAll rfl) (rv_move rfl (fr_eval rfl e0)) ?_
        refine lf_val (v := .int .i64 ((j : Nat) : Int)) (wantAll rfl) (rv_move rfl (fr_eval rfl e12)) ?_
        refine lf_val (v := .pointer (some (elemA v1 (j * 1)))) (wantAll rfl) (rv_index rfl (fr_eval rfl rfl) (fr_eval rfl rfl) (rdN (hrw (hz.rd _ hH.chg)) rfl) (show j < List.length l' from (by omega)) Try.underlying48 Try.sz3 (by decide)) ?_
        refine lf_val (v := .int .i64 (List.getD l' j 0)) (wantAll rfl) (rv_loadCell rfl (fr_eval rfl rfl) (Nat.mul_one _) (hrw (hz.rd _ hH.chg)) (flat_get1 0 cI_len (show j < List.length l' from (by omega)) rfl) Try.underlying3 rfl Try.sz3) ?_
        refine lf_val (v := .int .i64 (List.getD l' j 0)) (wantAll rfl) (rv_assign rfl (fr_eval rfl rfl)) ?_
        refine lf_nil ?_
        refine then_n ?_
        refine wp_seq ?_
        refine wp_seq ?_
        refine wp_gen (fun F' => F' 0 = v1 ∧ F' 1 = cutV v b 200 ∧ F' 2 = .agg (cBs s).toArray ∧ F' 5 = .pointer (some ⟨g1, 0, none⟩) ∧ F' 7 = .pointer (some ⟨g4, 0, none⟩) ∧ F' 8 = y17 ∧ F' 9 = .int .i64 ((i : Nat) : Int) ∧ F' 10 = y21 ∧ F' 11 = .pointer (some ⟨g5, 0, none⟩) ∧ F' 12 = .int .i64 ((j : Nat) : Int) ∧ F' 13 = .int .i64 (List.getD l' j 0) ∧ F' 16 = .bool false ∧ F' 24 = .bool false ∧ F' 57 = .bool true) ⟨e0, e1, e2, e5, e7, e8, e9, e10, e11, e12, rfl, e16, e24, e57⟩ ?_
        clear e0 e1 e2 e5 e7 e8 e9 e10 e11 e12 e16 e24 e57
        clear F
        rintro F ⟨e0, e1, e2, e5, e7, e8, e9, e10, e11, e12, e13, e16, e24, e57⟩
        refine wp_regionF ?_
        refine lf_val (v := .int .i64 (List.getD l' j 0)) (wantAll rfl) (rv_move rfl (fr_eval rfl e13)) ?_
        by_cases hc7 : (List.getD l' j 0) < 0
        · refine lf_val (v := .bool true) (wantAll rfl) (rv_lss rfl (fr_eval rfl rfl) rfl (decide_eq_true (by omega))) ?_
          refine lf_nil ?_
          refine then_n ?_
          refine wp_gen (fun F' => F' 0 = v1 ∧ F' 1 = cutV v b 200 ∧ F' 2 = .agg (cBs s).toArray ∧ F' 5 = .pointer (some ⟨g1, 0, none⟩) ∧ F' 7 = .pointer (some ⟨g4, 0, none⟩) ∧ F' 8 = y17 ∧ F' 9 = .int .i64 ((i : Nat) : Int) ∧ F' 10 = y21 ∧ F' 11 = .pointer (some ⟨g5, 0, none⟩) ∧ F' 12 = .int .i64 ((j : Nat) : Int) ∧ F' 13 = .int .i64 (List.getD l' j 0) ∧ F' 16 = .bool false ∧ F' 24 = .bool false ∧ F' 57 = .bool true ∧ F' 65 = .bool true) ⟨e0, e1, e2, e5, e7, e8, e9, e10, e11, e12, e13, e16, e24, e57, rfl⟩ ?_
          clear e0 e1 e2 e5 e7 e8 e9 e10 e11 e12 e13 e16 e24 e57
          clear F
          rintro F ⟨e0, e1, e2, e5, e7, e8, e9, e10, e11, e12, e13, e16, e24, e57, e65⟩
          refine wp_cond_true (fr_eval rfl e65) ?_
          refine wp_regionF ?_
          refine lf_val (v := .int .i64 0) (wantAll rfl) (rv_assign rfl rfl) ?_
          refine lf_nil ?_
          refine then_n ?_
          refine wp_seq ?_
          refine wp_gen (fun F' => F' 0 = v1 ∧ F' 1 = cutV v b 200 ∧ F' 2 = .agg (cBs s).toArray ∧ F' 5 = .pointer (some ⟨g1, 0, none⟩) ∧ F' 7 = .pointer (some ⟨g4, 0, none⟩) ∧ F' 8 = y17 ∧ F' 9 = .int .i64 ((i : Nat) : Int) ∧ F' 10 = y21 ∧ F' 11 = .pointer (some ⟨g5, 0, none⟩) ∧ F' 12 = .int .i64 ((j : Nat) : Int) ∧ F' 13 = .int .i64 0 ∧ F' 16 = .bool false ∧ F' 24 = .bool false ∧ F' 57 = .bool true ∧ F' 65 = .bool true) ⟨e0, e1, e2, e5, e7, e8, e9, e10, e11, e12, rfl, e16, e24, e57, e65⟩ ?_
          clear e0 e1 e2 e5 e7 e8 e9 e10 e11 e12 e13 e16 e24 e57 e65
          clear F
          rintro F ⟨e0, e1, e2, e5, e7, e8, e9, e10, e11, e12, e13, e16, e24, e57, e65⟩
          obtain ⟨q1, q2, q3⟩ := num_of (r := r2) pj2 (by rw [pj1, puts_drop (by omega), List.append_assoc]) hzi.2
          refine wp_regionF ?_
          refine lf_val (v := .pointer (some ⟨g5, 0, none⟩)) (wantAll rfl) (rv_move rfl (fr_eval rfl e11)) ?_
          refine lf_call (wantAll rfl) (rv_call (args := [.pointer (some ⟨g5, 0, none⟩)]) rfl (evc (fr_eval rfl rfl) evn) Try.call15) (num_calls  _ (hH.eyeR (i := 3) rfl) (eyeR_ne hv_g5 hn_g5)) ?_
          rintro _ w49 ⟨rfl, hy, hxf⟩
          refine ⟨_, rfl, ?_⟩
          replace hH : Heap (newN w) w w49 [oBlk g1 (cBs s) 45, oPen g4 y20 (puts l' ++ put (((List.take 200 b).length : Nat) : Int) ++ (List.take 200 b) ++ s), oB y17 (((l2 ++ (put (((List.take 200 b).length : Nat) : Int))) ++ (List.take 200 b)) ++ s), oEyeR g5 z2 (numR r2 ee) (numE r2 ee) y21 (puts l' ++ put (((List.take 200 b).length : Nat) : Int) ++ (List.take 200 b) ++ s)] := hH.setEyeR (i := 3) rfl rfl hv_g5 hn_g5 hy hxf
          clear hy
          clear hxf
          refine lf_val (v := .int .i64 0) (wantAll rfl) (rv_move rfl (fr_eval rfl e13)) ?_
          refine lf_val (v := .bool false) (wantAll rfl) (rv_neq rfl (fr_eval rfl rfl) (fr_eval rfl rfl) (decide_eq_true (by omega))) ?_
          refine lf_nil ?_
          refine then_n ?_
          refine wp_gen (fun F' => F' 0 = v1 ∧ F' 1 = cutV v b 200 ∧ F' 2 = .agg (cBs s).toArray ∧ F' 5 = .pointer (some ⟨g1, 0, none⟩) ∧ F' 7 = .pointer (some ⟨g4, 0, none⟩) ∧ F' 8 = y17 ∧ F' 9 = .int .i64 ((i : Nat) : Int) ∧ F' 10 = y21 ∧ F' 11 = .pointer (some ⟨g5, 0, none⟩) ∧ F' 12 = .int .i64 ((j : Nat) : Int) ∧ F' 13 = .int .i64 0 ∧ F' 16 = .bool false ∧ F' 24 = .bool false ∧ F' 57 = .bool true ∧ F' 65 = .bool true ∧ F' 69 = .bool false) ⟨e0, e1, e2, e5, e7, e8, e9, e10, e11, e12, e13, e16, e24, e57, e65, rfl⟩ ?_
          clear e0 e1 e2 e5 e7 e8 e9 e10 e11 e12 e13 e16 e24 e57 e65
          clear F
          rintro F ⟨e0, e1, e2, e5, e7, e8, e9, e10, e11, e12, e13, e16, e24, e57, e65, e69⟩
          refine wp_cond_false (fr_eval rfl e69) ?_
          refine wp_skip ?_
          refine blk_n ?_
          refine then_n ?_
          refine wp_regionF ?_
          refine lf_val (v := .int .i64 ((j : Nat) : Int)) (wantAll rfl) (rv_move rfl (fr_eval rfl e12)) ?_
          refine lf_val (v := .int .i64 ((j + 1 : Nat) : Int)) (wantAll rfl) (rv_add rfl (fr_eval rfl rfl) rfl (wrap_i64 (by omega) (by omega) (by omega))) ?_
          refine lf_val (v := .int .i64 ((j + 1 : Nat) : Int)) (wantAll rfl) (rv_assign rfl (fr_eval rfl rfl)) ?_
          refine lf_nil ?_
          refine then_n ?_
          exact ⟨_, _, (by omega), rfl, j + 1, _, _, rfl, (by omega), q2, q3, e0, e1, e2, e5, e7, e8, e9, e10, e11, rfl, e16, e24, hH⟩
        · refine lf_val (v := .bool false) (wantAll rfl) (rv_lss rfl (fr_eval rfl rfl) rfl (decide_eq_false (by omega))) ?_
          refine lf_nil ?_
          refine then_n ?_
          refine wp_gen (fun F' => F' 0 = v1 ∧ F' 1 = cutV v b 200 ∧ F' 2 = .agg (cBs s).toArray ∧ F' 5 = .pointer (some ⟨g1, 0, none⟩) ∧ F' 7 = .pointer (some ⟨g4, 0, none⟩) ∧ F' 8 = y17 ∧ F' 9 = .int .i64 ((i : Nat) : Int) ∧ F' 10 = y21 ∧ F' 11 = .pointer (some ⟨g5, 0, none⟩) ∧ F' 12 = .int .i64 ((j : Nat) : Int) ∧ F' 13 = .int .i64 (List.getD l' j 0) ∧ F' 16 = .bool false ∧ F' 24 = .bool false ∧ F' 57 = .bool true ∧ F' 65 = .bool false) ⟨e0, e1, e2, e5, e7, e8, e9, e10, e11, e12, e13, e16, e24, e57, rfl⟩ ?_
          clear e0 e1 e2 e5 e7 e8 e9 e10 e11 e12 e13 e16 e24 e57
          clear F
          rintro F ⟨e0, e1, e2, e5, e7, e8, e9, e10, e11, e12, e13, e16, e24, e57, e65⟩
          refine wp_cond_false (fr_eval rfl e65) ?_
          refine wp_skip ?_
          refine then_n ?_
          refine wp_seq ?_
          obtain ⟨q1, q2, q3⟩ := num_of (r := r2) pj2 (by rw [pj1, puts_drop (by omega), List.append_assoc]) hzi.2
          refine wp_regionF ?_
          refine lf_val (v := .pointer (some ⟨g5, 0, none⟩)) (wantAll rfl) (rv_move rfl (fr_eval rfl e11)) ?_
          refine lf_call (wantAll rfl) (rv_call (args := [.pointer (some ⟨g5, 0, none⟩)]) rfl (evc (fr_eval rfl rfl) evn) Try.call15) (num_calls  _ (hH.eyeR (i := 3) rfl) (eyeR_ne hv_g5 hn_g5)) ?_
          rintro _ w50 ⟨rfl, hy, hxf⟩
          refine ⟨_, rfl, ?_⟩
          replace hH : Heap (newN w) w w50 [oBlk g1 (cBs s) 45, oPen g4 y20 (puts l' ++ put (((List.take 200 b).length : Nat) : Int) ++ (List.take 200 b) ++ s), oB y17 (((l2 ++ (put (((List.take 200 b).length : Nat) : Int))) ++ (List.take 200 b)) ++ s), oEyeR g5 z2 (numR r2 ee) (numE r2 ee) y21 (puts l' ++ put (((List.take 200 b).length : Nat) : Int) ++ (List.take 200 b) ++ s)] := hH.setEyeR (i := 3) rfl rfl hv_g5 hn_g5 hy hxf
          clear hy
          clear hxf
          refine lf_val (v := .int .i64 (List.getD l' j 0)) (wantAll rfl) (rv_move rfl (fr_eval rfl e13)) ?_
          refine lf_val (v := .bool false) (wantAll rfl) (rv_neq rfl (fr_eval rfl rfl) (fr_eval rfl rfl) (decide_eq_true (by omega))) ?_
          refine lf_nil ?_
          refine then_n ?_
          refine wp_gen (fun F' => F' 0 = v1 ∧ F' 1 = cutV v b 200 ∧ F' 2 = .agg (cBs s).toArray ∧ F' 5 = .pointer (some ⟨g1, 0, none⟩) ∧ F' 7 = .pointer (some ⟨g4, 0, none⟩) ∧ F' 8 = y17 ∧ F' 9 = .int .i64 ((i : Nat) : Int) ∧ F' 10 = y21 ∧ F' 11 = .pointer (some ⟨g5, 0, none⟩) ∧ F' 12 = .int .i64 ((j : Nat) : Int) ∧ F' 13 = .int .i64 (List.getD l' j 0) ∧ F' 16 = .bool false ∧ F' 24 = .bool false ∧ F' 57 = .bool true ∧ F' 65 = .bool false ∧ F' 69 = .bool false) ⟨e0, e1, e2, e5, e7, e8, e9, e10, e11, e12, e13, e16, e24, e57, e65, rfl⟩ ?_
          clear e0 e1 e2 e5 e7 e8 e9 e10 e11 e12 e13 e16 e24 e57 e65
          clear F
          rintro F ⟨e0, e1, e2, e5, e7, e8, e9, e10, e11, e12, e13, e16, e24, e57, e65, e69⟩
          refine wp_cond_false (fr_eval rfl e69) ?_
          refine wp_skip ?_
          refine blk_n ?_
          refine then_n ?_
          refine wp_regionF ?_
          refine lf_val (v := .int .i64 ((j : Nat) : Int)) (wantAll rfl) (rv_move rfl (fr_eval rfl e12)) ?_
          refine lf_val (v := .int .i64 ((j + 1 : Nat) : Int)) (wantAll rfl) (rv_add rfl (fr_eval rfl rfl) rfl (wrap_i64 (by omega) (by omega) (by omega))) ?_
          refine lf_val (v := .int .i64 ((j + 1 : Nat) : Int)) (wantAll rfl) (rv_assign rfl (fr_eval rfl rfl)) ?_
          refine lf_nil ?_
          refine then_n ?_
          exact ⟨_, _, (by omega), rfl, j + 1, _, _, rfl, (by omega), q2, q3, e0, e1, e2, e5, e7, e8, e9, e10, e11, rfl, e16, e24, hH⟩
      · refine lf_val (v := .bool false) (wantAll rfl) (rv_lss rfl (fr_eval rfl rfl) (fr_eval rfl rfl) (decide_eq_false (by omega))) ?_
        refine lf_nil ?_
        refine then_n ?_
        refine wp_gen (fun F' => F' 0 = v1 ∧ F' 1 = cutV v b 200 ∧ F' 2 = .agg (cBs s).toArray ∧ F' 5 = .pointer (some ⟨g1, 0, none⟩) ∧ F' 7 = .pointer (some ⟨g4, 0, none⟩) ∧ F' 8 = y17 ∧ F' 9 = .int .i64 ((i : Nat) : Int) ∧ F' 10 = y21 ∧ F' 11 = .pointer (some ⟨g5, 0, none⟩) ∧ F' 12 = .int .i64 ((j : Nat) : Int) ∧ F' 16 = .bool false ∧ F' 24 = .bool false ∧ F' 57 = .bool false) ⟨e0, e1, e2, e5, e7, e8, e9, e10, e11, e12, e16, e24, rfl⟩ ?_
        clear e0 e1 e2 e5 e7 e8 e9 e10 e11 e12 e16 e24
        clear F
        rintro F ⟨e0, e1, e2, e5, e7, e8, e9, e10, e11, e12, e16, e24, e57⟩
        refine wp_cond_false (fr_eval rfl e57) ?_
        refine wp_exit ?_
        refine then_exit ?_
        refine then_exit ?_
        refine blk_exit ?_
        refine then_n ?_
        refine wp_seq ?_
        have hr2 := pj1.trans (puts_rest (by omega))
        obtain ⟨x1, x2, x3⟩ := text_of (m := 200) pj2 hr2 (by omega) (by decide)
        obtain ⟨y1', y2', y3'⟩ := sum_of x3 x2 hs
        have hDn := done_of y3' y2'
        have hW := take_all (l := l') (i := i) (by omega)
        have hs_1 := hH.fixed1 (j := 0) (i := 3) rfl rfl (by decide)
        have hs_8 := hH.fixed1 (j := 1) (i := 3) rfl rfl (by decide)
        have hs_9 := hH.fixed1 (j := 2) (i := 3) rfl rfl (by decide)
        have hKN := hH.sub1 (i := 3) rfl
        have hcK : Chg (newK w48 (oEyeR g5 z2 r2 ee y21 (puts l' ++ put (((List.take 200 b).length : Nat) : Int) ++ (List.take 200 b) ++ s)).fp) w48 w48 := Chg.refl _ _
        have hfM : ∀ k, (oEyeR g5 z2 r2 ee y21 (puts l' ++ put (((List.take 200 b).length : Nat) : Int) ++ (List.take 200 b) ++ s)).fp k → (newK w48 (oEyeR g5 z2 r2 ee y21 (puts l' ++ put (((List.take 200 b).length : Nat) : Int) ++ (List.take 200 b) ++ s)).fp) k := fun k h => Or.inr h
        refine wp_regionX (newK w48 (oEyeR g5 z2 r2 ee y21 (puts l' ++ put (((List.take 200 b).length : Nat) : Int) ++ (List.take 200 b) ++ s)).fp) 17 (by kernel_rfl) (by kernel_rfl) ?_
        refine xl_take (i := 0) (v := y21) rfl (by kernel_rfl) (by kernel_rfl) (by kernel_rfl) (by kernel_rfl) (yx_val (wantAll rfl) (fun w' hx' => rv_move rfl (fr_eval rfl e10))) ?_
        refine xl_take (i := 2) (v := y17) rfl (by kernel_rfl) (by kernel_rfl) (by kernel_rfl) (by kernel_rfl) (yx_val (wantAll rfl) (fun w' hx' => rv_move rfl (fr_eval rfl e8))) ?_
        refine xl_take (i := 3) (v := .string ⟨(((l2 ++ (put (((List.take 200 b).length : Nat) : Int))) ++ (List.take 200 b)) ++ s).toArray⟩) rfl (by kernel_rfl) (by kernel_rfl) (by kernel_rfl) (by kernel_rfl) (yx_val (wantAll rfl) (fun w' hx' => rv_str rfl (fr_eval rfl rfl) (OwnB.rd (hs_9 _ (hcK.trans hx'))) Try.underlying22 Try.underlying5 Try.underlying9)) ?_
        refine anyX_ready (rs := [1]) (by kernel_rfl) ?_
        intro w51 hx
        replace hH := hH.ext hx
        replace hcK := hcK.trans (Ext.any hx)
        clear hx
        refine (anyX_cons ?_ anyX_nil)
        refine xl_step (i := 1) rfl (wantAll rfl) ?_
        refine of_val (v := .string ⟨(puts l' ++ put (((List.take 200 b).length : Nat) : Int) ++ (List.take 200 b) ++ s).toArray⟩) (rv_str rfl (fr_eval rfl rfl) (hH.eyeRd (i := 3) rfl) Try.underlying22 Try.underlying5 Try.underlying9) ?_
        refine ⟨Chg.refl _ _, ?_⟩
        refine xl_take (i := 4) (v := .bool true) rfl (by kernel_rfl) (by kernel_rfl) (by kernel_rfl) (by kernel_rfl) (yx_val (wantAll rfl) (fun w' hx' => rv_eqs (b := true) rfl (fr_eval rfl rfl) (fr_eval rfl rfl) (by exact decide_eq_true (by rw [pi1, hW])))) ?_
        refine xl_take (i := 5) (v := .bool true) rfl (by kernel_rfl) (by kernel_rfl) (by kernel_rfl) (by kernel_rfl) (yx_val (wantAll rfl) (fun w' hx' => rv_move rfl (fr_eval rfl rfl))) ?_
        refine xl_take (i := 6) (v := .pointer (some ⟨g5, 0, none⟩)) rfl (by kernel_rfl) (by kernel_rfl) (by kernel_rfl) (by kernel_rfl) (yx_val (wantF (d := 75) rfl (by kernel_rfl) rfl rfl) (fun w' hx' => rv_move rfl (fr_eval rfl e11))) ?_
        refine xl_take (i := 9) (v := cutV v b 200) rfl (by kernel_rfl) (by kernel_rfl) (by kernel_rfl) (by kernel_rfl) (yx_val (wantF (d := 75) rfl (by kernel_rfl) rfl rfl) (fun w' hx' => rv_move rfl (fr_eval rfl e1))) ?_
        refine xl_take (i := 10) (v := .string ⟨(List.take 200 b).toArray⟩) rfl (by kernel_rfl) (by kernel_rfl) (by kernel_rfl) (by kernel_rfl) (yx_val (wantF (d := 75) rfl (by kernel_rfl) rfl rfl) (fun w' hx' => rv_str rfl (fr_eval rfl rfl) (rdB_cut (hr.rd _ (hH.chg.trans (hx'.le hKN)))) Try.underlying22 Try.underlying5 Try.underlying9)) ?_
        refine anyX_ready (rs := [7]) (by kernel_rfl) ?_
        intro w52 hx
        replace hH := hH.ext hx
        replace hcK := hcK.trans (Ext.any hx)
        clear hx
        refine (anyX_cons ?_ anyX_nil)
        refine xl_step (i := 7) rfl (wantF (d := 75) rfl (by kernel_rfl) rfl rfl) ?_
        refine of_call (rv_call (args := [.pointer (some ⟨g5, 0, none⟩), .int .i64 200]) rfl (evc (fr_eval rfl rfl) (evc rfl evn)) Try.call29) (textE_calls 200 _ (hH.eyeR (i := 3) rfl) (eyeR_ne hv_g5 hn_g5)) ?_
        rintro _ w53 ⟨⟨y22, rfl, ho, hg⟩, hy, hxf⟩
        refine ⟨_, rfl, ?_⟩
        replace hH : Heap (newN w) w w53 [oBlk g1 (cBs s) 45, oPen g4 y20 (puts l' ++ put (((List.take 200 b).length : Nat) : Int) ++ (List.take 200 b) ++ s), oB y17 (((l2 ++ (put (((List.take 200 b).length : Nat) : Int))) ++ (List.take 200 b)) ++ s), oEyeR g5 z2 (rawR (numR r2 ee) (uptoE r2 ee 200) ((uptoV r2 ee 200 : Nat) : Int)) (rawE (numR r2 ee) (uptoE r2 ee 200) ((uptoV r2 ee 200 : Nat) : Int)) y21 (puts l' ++ put (((List.take 200 b).length : Nat) : Int) ++ (List.take 200 b) ++ s), oB y22 (rawV (numR r2 ee) (uptoE r2 ee 200) ((uptoV r2 ee 200 : Nat) : Int))] := hH.setRow (i := 3) rfl rfl (hH.setEyeR (i := 3) rfl rfl hv_g5 hn_g5 hy hxf) (fun _ h => h) ho hg
        clear hy ho hg
        replace hxf : Chg (oEyeR g5 z2 (rawR (numR r2 ee) (uptoE r2 ee 200) ((uptoV r2 ee 200 : Nat) : Int)) (rawE (numR r2 ee) (uptoE r2 ee 200) ((uptoV r2 ee 200 : Nat) : Int)) y21 (puts l' ++ put (((List.take 200 b).length : Nat) : Int) ++ (List.take 200 b) ++ s)).fp _ _ := Chg.le hxf (fun k h => Or.inl h)
        have hcx := hxf.mono (fun k _ hk => hfM k hk)
        replace hcK := hcK.trans hcx
        refine ⟨hcx, ?_⟩
        clear hcx hxf
        refine anyX_ready (rs := [8]) (by kernel_rfl) ?_
        intro w54 hx
        replace hH := hH.ext hx
        replace hcK := hcK.trans (Ext.any hx)
        clear hx
        refine (anyX_cons ?_ anyX_nil)
        refine xl_step (i := 8) rfl (wantF (d := 75) rfl (by kernel_rfl) rfl rfl) ?_
        refine of_val (v := .string ⟨(rawV (numR r2 ee) (uptoE r2 ee 200) ((uptoV r2 ee 200 : Nat) : Int)).toArray⟩) (rv_str rfl (fr_eval rfl rfl) (OwnB.rd (hH.own (i := 4) rfl)) Try.underlying22 Try.underlying5 Try.underlying9) ?_
        refine ⟨Chg.refl _ _, ?_⟩
        refine xl_take (i := 11) (v := .bool true) rfl (by kernel_rfl) (by kernel_rfl) (by kernel_rfl) (by kernel_rfl) (yx_val (wantF (d := 75) rfl (by kernel_rfl) rfl rfl) (fun w' hx' => rv_eqs (b := true) rfl (fr_eval rfl rfl) (fr_eval rfl rfl) (by exact decide_eq_true x1))) ?_
        refine xl_take (i := 12) (v := .bool true) rfl (by kernel_rfl) (by kernel_rfl) (by kernel_rfl) (by kernel_rfl) (yx_val (wantAll rfl) (fun w' hx' => rv_pickT rfl (fr_eval rfl rfl) (fr_eval rfl rfl))) ?_
        refine xl_take (i := 13) (v := .bool true) rfl (by kernel_rfl) (by kernel_rfl) (by kernel_rfl) (by kernel_rfl) (yx_val (wantAll rfl) (fun w' hx' => rv_move rfl (fr_eval rfl rfl))) ?_
        refine xl_take (i := 14) (v := .pointer (some ⟨g5, 0, none⟩)) rfl (by kernel_rfl) (by kernel_rfl) (by kernel_rfl) (by kernel_rfl) (yx_val (wantF (d := 83) rfl (by kernel_rfl) rfl rfl) (fun w' hx' => rv_move rfl (fr_eval rfl e11))) ?_
        refine xl_take (i := 16) (v := .agg (cBs s).toArray) rfl (by kernel_rfl) (by kernel_rfl) (by kernel_rfl) (by kernel_rfl) (yx_val (wantF (d := 83) rfl (by kernel_rfl) rfl rfl) (fun w' hx' => rv_loadW rfl (hs_1 _ (hcK.trans hx')) (fr_eval rfl e5) Try.underlying45 rfl (sz_len Try.sz45 (cBs_len hs)))) ?_
        refine anyX_ready (rs := [15]) (by kernel_rfl) ?_
        intro w55 hx
        replace hH := hH.ext hx
        replace hcK := hcK.trans (Ext.any hx)
        clear hx
        refine (anyX_cons ?_ anyX_nil)
        refine xl_step (i := 15) rfl (wantF (d := 83) rfl (by kernel_rfl) rfl rfl) ?_
        refine of_call (rv_call (args := [.pointer (some ⟨g5, 0, none⟩)]) rfl (evc (fr_eval rfl rfl) evn) Try.call30) (sumE_calls  _ (hH.eyeR (i := 3) rfl) (eyeR_ne hv_g5 hn_g5) (eyeR_lt hH (i := 3) rfl hv_g5)) ?_
        rintro _ w56 ⟨rfl, hy, hxf⟩
        refine ⟨_, rfl, ?_⟩
        replace hH : Heap (newN w) w w56 [oBlk g1 (cBs s) 45, oPen g4 y20 (puts l' ++ put (((List.take 200 b).length : Nat) : Int) ++ (List.take 200 b) ++ s), oB y17 (((l2 ++ (put (((List.take 200 b).length : Nat) : Int))) ++ (List.take 200 b)) ++ s), oEyeR g5 z2 (rawR (rawR (numR r2 ee) (uptoE r2 ee 200) ((uptoV r2 ee 200 : Nat) : Int)) (rawE (numR r2 ee) (uptoE r2 ee 200) ((uptoV r2 ee 200 : Nat) : Int)) 32) (rawE (rawR (numR r2 ee) (uptoE r2 ee 200) ((uptoV r2 ee 200 : Nat) : Int)) (rawE (numR r2 ee) (uptoE r2 ee 200) ((uptoV r2 ee 200 : Nat) : Int)) 32) y21 (puts l' ++ put (((List.take 200 b).length : Nat) : Int) ++ (List.take 200 b) ++ s), oB y22 (rawV (numR r2 ee) (uptoE r2 ee 200) ((uptoV r2 ee 200 : Nat) : Int))] := hH.setEyeR (i := 3) rfl rfl hv_g5 hn_g5 hy hxf
        clear hy
        replace hxf : Chg (oEyeR g5 z2 (rawR (rawR (numR r2 ee) (uptoE r2 ee 200) ((uptoV r2 ee 200 : Nat) : Int)) (rawE (numR r2 ee) (uptoE r2 ee 200) ((uptoV r2 ee 200 : Nat) : Int)) 32) (rawE (rawR (numR r2 ee) (uptoE r2 ee 200) ((uptoV r2 ee 200 : Nat) : Int)) (rawE (numR r2 ee) (uptoE r2 ee 200) ((uptoV r2 ee 200 : Nat) : Int)) 32) y21 (puts l' ++ put (((List.take 200 b).length : Nat) : Int) ++ (List.take 200 b) ++ s)).fp _ _ := Chg.le hxf (fun k h => Or.inl h)
        have hcx := hxf.mono (fun k _ hk => hfM k hk)
        replace hcK := hcK.trans hcx
        refine ⟨hcx, ?_⟩
        clear hcx hxf
        refine xl_tail (s := 17) rfl ?_
        intro w57 hx
        replace hH := hH.ext hx
        clear hx
        clear hs_1 hs_8 hs_9 hKN hcK hfM
        refine lf_val (v := .bool true) (wantF (d := 83) rfl (by kernel_rfl) rfl rfl) (eqT rfl (fr_eval rfl rfl) (fr_eval rfl rfl) sumV_len hs (b := true) (by rw [y1']; exact beq_self_eq_true _)) ?_
        refine lf_val (v := .bool true) (wantAll rfl) (rv_pickT rfl (fr_eval rfl rfl) (fr_eval rfl rfl)) ?_
        refine lf_val (v := .bool true) (wantAll rfl) (rv_move rfl (fr_eval rfl rfl)) ?_
        refine lf_val (v := .pointer (some ⟨g5, 0, none⟩)) (wantF (d := 89) rfl (by kernel_rfl) rfl rfl) (rv_move rfl (fr_eval rfl e11)) ?_
        refine lf_call (wantF (d := 89) rfl (by kernel_rfl) rfl rfl) (rv_call (args := [.pointer (some ⟨g5, 0, none⟩)]) rfl (evc (fr_eval rfl rfl) evn) Try.call22) (done_calls  _ (hH.eyeR (i := 3) rfl) (eyeR_ne hv_g5 hn_g5)) ?_
        rintro _ w58 ⟨rfl, hy, hxf⟩
        refine ⟨_, rfl, ?_⟩
        replace hH : Heap (newN w) w w58 [oBlk g1 (cBs s) 45, oPen g4 y20 (puts l' ++ put (((List.take 200 b).length : Nat) : Int) ++ (List.take 200 b) ++ s), oB y17 (((l2 ++ (put (((List.take 200 b).length : Nat) : Int))) ++ (List.take 200 b)) ++ s), oEyeR g5 z2 (rawR (rawR (numR r2 ee) (uptoE r2 ee 200) ((uptoV r2 ee 200 : Nat) : Int)) (rawE (numR r2 ee) (uptoE r2 ee 200) ((uptoV r2 ee 200 : Nat) : Int)) 32) (doneE (rawR (rawR (numR r2 ee) (uptoE r2 ee 200) ((uptoV r2 ee 200 : Nat) : Int)) (rawE (numR r2 ee) (uptoE r2 ee 200) ((uptoV r2 ee 200 : Nat) : Int)) 32) (rawE (rawR (numR r2 ee) (uptoE r2 ee 200) ((uptoV r2 ee 200 : Nat) : Int)) (rawE (numR r2 ee) (uptoE r2 ee 200) ((uptoV r2 ee 200 : Nat) : Int)) 32)) y21 (puts l' ++ put (((List.take 200 b).length : Nat) : Int) ++ (List.take 200 b) ++ s), oB y22 (rawV (numR r2 ee) (uptoE r2 ee 200) ((uptoV r2 ee 200 : Nat) : Int))] := hH.setEyeR (i := 3) rfl rfl hv_g5 hn_g5 hy hxf
        clear hy
        clear hxf
        refine lf_val (v := .bool true) (wantF (d := 89) rfl (by kernel_rfl) rfl rfl) (rv_eql rfl (fr_eval rfl rfl) rfl (decide_eq_true (by omega))) ?_
        refine lf_val (v := .bool true) (wantAll rfl) (rv_pickT rfl (fr_eval rfl rfl) (fr_eval rfl rfl)) ?_
        refine lf_val (v := .bool true) (wantAll rfl) (rv_move rfl (fr_eval rfl rfl)) ?_
        refine lf_call (wantF (d := 94) rfl (by kernel_rfl) rfl rfl) (rv_call (args := []) rfl evn Try.call18) (awake01_calls _) ?_
        rintro _ w59 ⟨rfl, hx⟩
        refine ⟨_, rfl, ?_⟩
        replace hH := hH.ext hx
        clear hx
        refine lf_val (v := .bool true) (wantAll rfl) (rv_pickT rfl (fr_eval rfl rfl) (fr_eval rfl rfl)) ?_
        refine lf_val (v := .bool true) (wantAll rfl) (rv_assign rfl (fr_eval rfl rfl)) ?_
        refine lf_nil ?_
        refine then_n ?_
        replace hH : Heap (newN w) w w59 [oBlk g1 (cBs s) 45, oPen g4 y20 (puts l' ++ put (((List.take 200 b).length : Nat) : Int) ++ (List.take 200 b) ++ s), oB y17 (((l2 ++ (put (((List.take 200 b).length : Nat) : Int))) ++ (List.take 200 b)) ++ s), oEyeR g5 z2 (rawR (rawR (numR r2 ee) (uptoE r2 ee 200) ((uptoV r2 ee 200 : Nat) : Int)) (rawE (numR r2 ee) (uptoE r2 ee 200) ((uptoV r2 ee 200 : Nat) : Int)) 32) (doneE (rawR (rawR (numR r2 ee) (uptoE r2 ee 200) ((uptoV r2 ee 200 : Nat) : Int)) (rawE (numR r2 ee) (uptoE r2 ee 200) ((uptoV r2 ee 200 : Nat) : Int)) 32) (rawE (rawR (numR r2 ee) (uptoE r2 ee 200) ((uptoV r2 ee 200 : Nat) : Int)) (rawE (numR r2 ee) (uptoE r2 ee 200) ((uptoV r2 ee 200 : Nat) : Int)) 32)) y21 (puts l' ++ put (((List.take 200 b).length : Nat) : Int) ++ (List.take 200 b) ++ s)] := hH.drop (.cons_cons _ (.cons_cons _ (.cons_cons _ (.cons_cons _ (.cons _ .slnil)))))
        refine wp_gen (fun F' => F' 0 = v1 ∧ F' 1 = cutV v b 200 ∧ F' 2 = .agg (cBs s).toArray ∧ F' 5 = .pointer (some ⟨g1, 0, none⟩) ∧ F' 6 = .bool true ∧ F' 7 = .pointer (some ⟨g4, 0, none⟩) ∧ F' 8 = y17 ∧ F' 9 = .int .i64 ((i : Nat) : Int) ∧ F' 10 = y21 ∧ F' 11 = .pointer (some ⟨g5, 0, none⟩) ∧ F' 12 = .int .i64 ((j : Nat) : Int) ∧ F' 16 = .bool false ∧ F' 24 = .bool false ∧ F' 57 = .bool false) ⟨e0, e1, e2, e5, rfl, e7, e8, e9, e10, e11, e12, e16, e24, e57⟩ ?_
        clear e0 e1 e2 e5 e7 e8 e9 e10 e11 e12 e16 e24 e57
        clear F
        rintro F ⟨e0, e1, e2, e5, e6, e7, e8, e9, e10, e11, e12, e16, e24, e57⟩
        refine wp_ret ?_
        exact bodyPost_ret (v := (.bool true)) (res1 rfl (ro_tmp rfl e6)) rfl (⟨rfl, hH.done⟩)

end Go.Proofs.Ytjgcjddaladgfaa
