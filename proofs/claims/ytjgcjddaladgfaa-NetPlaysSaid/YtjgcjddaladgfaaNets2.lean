/- Nets of letters: what takes letters out. -/
import Derived.Test.YtjgcjddaladgfaaNets
namespace Go.Proofs.Ytjgcjddaladgfaa
open Go.RowKit Go.Bz Go.Bz.Wire Go.Bz.Rcpt Go.Bz.Talk
attribute [local irreducible] wpList Code.wp wpAnyX
theorem flat_erase {α : Type} {f : α → List Value} {sz : Nat} {l : List α} {i : Nat} (hf : ∀ x ∈ l, (f x).length = sz) (hi : i < l.length) : (l.flatMap f).take (i * sz) ++ (l.flatMap f).drop ((i + 1) * sz) = (l.eraseIdx i).flatMap f := by
  have e1 : l.flatMap f = (l.take i).flatMap f ++ (l.drop i).flatMap f := by rw [← List.flatMap_append, List.take_append_drop]
  have e2 : l.flatMap f = (l.take (i + 1)).flatMap f ++ (l.drop (i + 1)).flatMap f := by rw [← List.flatMap_append, List.take_append_drop]
  have h1 : ((l.take i).flatMap f).length = i * sz := by rw [flat_len (fun x hx => hf x (List.mem_of_mem_take hx)), List.length_take, Nat.min_eq_left (by omega)]
  have h2 : ((l.take (i + 1)).flatMap f).length = (i + 1) * sz := by rw [flat_len (fun x hx => hf x (List.mem_of_mem_take hx)), List.length_take, Nat.min_eq_left (by omega)]
  rw [List.eraseIdx_eq_take_drop_succ, List.flatMap_append]
  congr 1
  · rw [e1, List.take_left' h1]
  · rw [e2, List.drop_left' h2]
theorem erase_len {α : Type} {l : List α} {i : Nat} (hi : i < l.length) : (l.eraseIdx i).length = l.length - 1 := by rw [List.length_eraseIdx, if_pos hi]
theorem out_next {ls : List Lt} {i a : Nat} (hi : i < ls.length) (hn : ¬ i = a) : (ls.take i).eraseIdx a ++ [ls.getD i zLt] = (ls.take (i + 1)).eraseIdx a := by
  rw [List.take_succ_eq_append_getElem hi]
  have hg : ls.getD i zLt = ls[i] := by simp [List.getD_eq_getElem?_getD, hi]
  rw [hg]
  by_cases h : a < i
  · rw [List.eraseIdx_append_of_lt_length (by simp; omega)]
  · rw [List.eraseIdx_append_of_length_le (by simp; omega), List.eraseIdx_of_length_le (by simp; omega)]
    congr 1
    rw [List.eraseIdx_of_length_le (by simp; omega)]
theorem out_same {ls : List Lt} {a : Nat} (hi : a < ls.length) : (ls.take a).eraseIdx a = (ls.take (a + 1)).eraseIdx a := by
  rw [List.take_succ_eq_append_getElem hi, List.eraseIdx_append_of_length_le (by simp; omega), List.eraseIdx_of_length_le (by simp; omega)]
  have : a - (ls.take a).length = 0 := by simp; omega
  rw [this]; simp

theorem zNf_l0 {a0 : Value} {a1 : Value} : List.length ([a0, a1]) = 2 := (show List.length [a0, a1] = 2 from rfl)
theorem zNf_o1 {a0 : Value} {a1 : Value} (qa0 : a0.oneCell' = true) (qa1 : a1.oneCell' = true) : ∀ u ∈ ([a0, a1]), u.oneCell' = true := (ones_cons qa0 (ones_cons qa1 ones_nil))
theorem zNf_g2 {a0 : Value} {a1 : Value} : ([a0, a1])[0]? = some a0 := rfl
theorem zNf_g3 {a0 : Value} {a1 : Value} : ([a0, a1])[1]? = some a1 := rfl
set_option maxRecDepth 100000 in
set_option maxHeartbeats 4000000 in
theorem delete_calls {K : Nat → Prop} {v : Value} (ls : List Lt) (hl : ls.length ≤ 64) (i : Nat) (hi : i < ls.length) (w : World) (hh0 : Heap (newK w K) w w [oRow cLt 87 2 v ls]) :
    Calls Try.prog 61 #[v, .int .i64 ((i : Nat) : Int), .int .i64 ((i + 1 : Nat) : Int)] w fun e'' w' => ∃ v', e'' = .returned v' ∧ Heap (newK w K) w w' [oRow cLt 87 2 v' (ls.eraseIdx i)] := by
  refine calls_fr (args := [v, .int .i64 ((i : Nat) : Int), .int .i64 ((i + 1 : Nat) : Int)]) (n := 33) Try.func61 rfl rfl (show 3 ≤ 33 by decide) ?_
  have hH : Heap (newK w K) w w [oRow cLt 87 2 v ls] := hh0
  refine wp_seq ?_
  refine wp_gen (fun F' => F' 0 = v ∧ F' 1 = .int .i64 ((i : Nat) : Int) ∧ F' 2 = .int .i64 ((i + 1 : Nat) : Int)) ⟨rfl, rfl, rfl⟩ ?_
  rintro F ⟨e0, e1, e2⟩
  obtain ⟨g, cap, rfl, hcap, hcm⟩ := own_room (hH.own (i := 0) rfl) (by omega)
  have hle := erase_len hi
  refine wp_regionF ?_
  refine lf_val (v := .slice none 0 0) (wantAll rfl) (rv_assign rfl rfl) ?_
  refine lf_nil ?_
  refine then_n ?_
  refine wp_seq ?_
  refine wp_gen (fun F' => F' 0 = (.slice (some ⟨g, 0, none⟩) ls.length cap) ∧ F' 1 = .int .i64 ((i : Nat) : Int) ∧ F' 2 = .int .i64 ((i + 1 : Nat) : Int) ∧ F' 6 = .slice none 0 0) ⟨e0, e1, e2, rfl⟩ ?_
  clear e0 e1 e2
  clear F
  rintro F ⟨e0, e1, e2, e6⟩
  refine wp_regionF ?_
  refine lf_val (wantAll rfl) (rv_move rfl (fr_eval rfl e0)) ?_
  refine lf_val (v := .int .i64 ((i : Nat) : Int)) (wantAll rfl) (rv_move rfl (fr_eval rfl e1)) ?_
  refine lf_val (v := .int .i64 ((i + 1 : Nat) : Int)) (wantAll rfl) (rv_move rfl (fr_eval rfl e2)) ?_
  refine lf_val (wantAll rfl) (rv_move rfl (fr_eval rfl e0)) ?_
  refine lf_val (v := .int .i64 ((ls.length : Nat) : Int)) (wantAll rfl) (rv_len rfl (fr_eval rfl rfl) (Own.rd (hH.own (i := 0) rfl) (row_one cLt_one)) Try.underlying67) ?_
  refine lf_val (v := .slice (if ls.length = i then some (⟨g, 0, none⟩ : Addr) else Option.map (fun q : Addr => q.add (i * 2)) (some (⟨g, 0, none⟩ : Addr))) (i + 1 - i) (ls.length - i)) (wantAll rfl) (rv_slc3 Try.stLts (l := i) (h := i + 1) (c := ls.length) rfl (fr_eval rfl rfl) (fr_eval rfl rfl) (fr_eval rfl rfl) (fr_eval rfl rfl) (by omega) (by omega) hcap hcm) ?_
  refine lf_nil ?_
  refine then_n ?_
  refine wp_seq ?_
  refine wp_seq ?_
  refine wp_gen (fun F' => F' 0 = (.slice (some ⟨g, 0, none⟩) ls.length cap) ∧ F' 1 = .int .i64 ((i : Nat) : Int) ∧ F' 2 = .int .i64 ((i + 1 : Nat) : Int) ∧ F' 6 = .slice none 0 0) ⟨e0, e1, e2, e6⟩ ?_
  clear e0 e1 e2 e6
  clear F
  rintro F ⟨e0, e1, e2, e6⟩
  refine wp_regionF ?_
  refine lf_val (v := .int .i64 ((i : Nat) : Int)) (wantAll rfl) (rv_move rfl (fr_eval rfl e1)) ?_
  refine lf_val (v := .int .i64 ((i + 1 : Nat) : Int)) (wantAll rfl) (rv_move rfl (fr_eval rfl e2)) ?_
  refine lf_val (v := .bool false) (wantAll rfl) (rv_eql rfl (fr_eval rfl rfl) (fr_eval rfl rfl) (decide_eq_false (by omega))) ?_
  refine lf_nil ?_
  refine then_n ?_
  refine wp_gen (fun F' => F' 0 = (.slice (some ⟨g, 0, none⟩) ls.length cap) ∧ F' 1 = .int .i64 ((i : Nat) : Int) ∧ F' 2 = .int .i64 ((i + 1 : Nat) : Int) ∧ F' 6 = .slice none 0 0 ∧ F' 16 = .bool false) ⟨e0, e1, e2, e6, rfl⟩ ?_
  clear e0 e1 e2 e6
  clear F
  rintro F ⟨e0, e1, e2, e6, e16⟩
  refine wp_cond_false (fr_eval rfl e16) ?_
  refine wp_skip ?_
  refine then_n ?_
  refine wp_seq ?_
  refine wp_regionF ?_
  refine lf_val (wantAll rfl) (rv_move rfl (fr_eval rfl e0)) ?_
  refine lf_val (v := .int .i64 ((ls.length : Nat) : Int)) (wantAll rfl) (rv_len rfl (fr_eval rfl rfl) (Own.rd (hH.own (i := 0) rfl) (row_one cLt_one)) Try.underlying67) ?_
  refine lf_val (v := .int .i64 ((ls.length : Nat) : Int)) (wantAll rfl) (rv_assign rfl (fr_eval rfl rfl)) ?_
  refine lf_nil ?_
  refine then_n ?_
  refine wp_seq ?_
  refine wp_gen (fun F' => F' 0 = (.slice (some ⟨g, 0, none⟩) ls.length cap) ∧ F' 1 = .int .i64 ((i : Nat) : Int) ∧ F' 2 = .int .i64 ((i + 1 : Nat) : Int) ∧ F' 6 = .slice none 0 0 ∧ F' 7 = .int .i64 ((ls.length : Nat) : Int) ∧ F' 16 = .bool false) ⟨e0, e1, e2, e6, rfl, e16⟩ ?_
  clear e0 e1 e2 e6 e16
  clear F
  rintro F ⟨e0, e1, e2, e6, e7, e16⟩
  refine wp_regionX (fun _ => False) 6 (by kernel_rfl) (by kernel_rfl) ?_
  refine xl_take (i := 0) (v := (.slice (some ⟨g, 0, none⟩) ls.length cap)) rfl (by kernel_rfl) (by kernel_rfl) (by kernel_rfl) (by kernel_rfl) (yx_val (wantAll rfl) (fun w' hx' => rv_move rfl (fr_eval rfl e0))) ?_
  refine xl_take (i := 1) (v := .int .i64 ((i : Nat) : Int)) rfl (by kernel_rfl) (by kernel_rfl) (by kernel_rfl) (by kernel_rfl) (yx_val (wantAll rfl) (fun w' hx' => rv_move rfl (fr_eval rfl e1))) ?_
  refine xl_take (i := 2) (v := slcV (.slice (some ⟨g, 0, none⟩) ls.length cap) 2 0 i) rfl (by kernel_rfl) (by kernel_rfl) (by kernel_rfl) (by kernel_rfl) (yx_val (wantAll rfl) (fun w' hx' => rv_slcH (h := i) Try.stLts rfl (fr_eval rfl rfl) (rdN (Own.rd ((hH.ext hx').own (i := 0) rfl) (row_one cLt_one)) rfl) (fr_eval rfl rfl) (by omega))) ?_
  refine xl_take (i := 3) (v := (.slice (some ⟨g, 0, none⟩) ls.length cap)) rfl (by kernel_rfl) (by kernel_rfl) (by kernel_rfl) (by kernel_rfl) (yx_val (wantAll rfl) (fun w' hx' => rv_move rfl (fr_eval rfl e0))) ?_
  refine xl_take (i := 4) (v := .int .i64 ((i + 1 : Nat) : Int)) rfl (by kernel_rfl) (by kernel_rfl) (by kernel_rfl) (by kernel_rfl) (yx_val (wantAll rfl) (fun w' hx' => rv_move rfl (fr_eval rfl e2))) ?_
  refine xl_take (i := 5) (v := slcV (.slice (some ⟨g, 0, none⟩) ls.length cap) 2 (i + 1) ls.length) rfl (by kernel_rfl) (by kernel_rfl) (by kernel_rfl) (by kernel_rfl) (yx_val (wantAll rfl) (fun w' hx' => rv_slcL (l := i + 1) Try.stLts rfl (fr_eval rfl rfl) (rdN (Own.rd ((hH.ext hx').own (i := 0) rfl) (row_one cLt_one)) rfl) (fr_eval rfl rfl) (by omega))) ?_
  refine xl_tail (s := 6) rfl ?_
  intro w1 hx
  replace hH := hH.ext hx
  clear hx
  refine lf_ex (wantAll rfl) (hx_appSelf hH Try.stLts (i := 0) (k := i) (n := ls.length) (m := ls.length - 1) (m2 := (ls.eraseIdx i).length) (ys := (ls.eraseIdx i).flatMap cLt) rfl rfl (row_one cLt_one) hi hcap (fr_eval rfl rfl) (fr_eval rfl rfl) (by omega) (flat_erase cLt_len hi) hle.symm rfl) ?_
  clear hH
  rintro _ w2 ⟨rfl, hH, hx⟩
  replace hH : Heap _ _ _ [_] := hH
  clear hx
  refine lf_val (v := (.slice (some ⟨g, 0, none⟩) (ls.length - 1) cap)) (wantAll rfl) (rv_assign rfl (fr_eval rfl rfl)) ?_
  refine lf_nil ?_
  refine then_n ?_
  refine wp_seq ?_
  refine wp_gen (fun F' => F' 0 = (.slice (some ⟨g, 0, none⟩) (ls.length - 1) cap) ∧ F' 1 = .int .i64 ((i : Nat) : Int) ∧ F' 2 = .int .i64 ((i + 1 : Nat) : Int) ∧ F' 6 = .slice none 0 0 ∧ F' 7 = .int .i64 ((ls.length : Nat) : Int) ∧ F' 16 = .bool false) ⟨rfl, e1, e2, e6, e7, e16⟩ ?_
  clear e0 e1 e2 e6 e7 e16
  clear F
  rintro F ⟨e0, e1, e2, e6, e7, e16⟩
  refine wp_regionF ?_
  refine lf_val (wantAll rfl) (rv_move rfl (fr_eval rfl e0)) ?_
  refine lf_val (wantAll rfl) (rv_move rfl (fr_eval rfl e0)) ?_
  refine lf_val (v := .int .i64 ((ls.length - 1 : Nat) : Int)) (wantAll rfl) (rv_len rfl (fr_eval rfl rfl) (rdN (Own.rd (hH.own (i := 0) rfl) (row_one cLt_one)) hle) Try.underlying67) ?_
  refine lf_val (v := .int .i64 ((ls.length : Nat) : Int)) (wantAll rfl) (rv_move rfl (fr_eval rfl e7)) ?_
  refine lf_val (v := slcV (.slice (some ⟨g, 0, none⟩) (ls.length - 1) cap) 2 (ls.length - 1) ls.length) (wantAll rfl) (rv_slcCap Try.stLts (l := ls.length - 1) (h := ls.length) rfl (fr_eval rfl rfl) (fr_eval rfl rfl) (fr_eval rfl rfl) (by omega) hcap hcm) ?_
  refine lf_ex (wantAll rfl) (hx_clearEnd hH Try.stLts (i := 0) (m := ls.length - 1) (n := ls.length) (zs := [.int .i64 0, .slice none 0 0]) rfl rfl (fun _ => rfl) (by kernel_rfl) rfl (ones_cons rfl (ones_cons rfl ones_nil)) (by omega) hcap (fr_eval rfl rfl)) ?_
  clear hH
  rintro _ w3 ⟨hH, hx⟩
  replace hH : Heap _ _ _ [_] := hH
  clear hx
  refine lf_nil ?_
  refine then_n ?_
  refine wp_seq ?_
  refine wp_gen (fun F' => F' 0 = (.slice (some ⟨g, 0, none⟩) (ls.length - 1) cap) ∧ F' 1 = .int .i64 ((i : Nat) : Int) ∧ F' 2 = .int .i64 ((i + 1 : Nat) : Int) ∧ F' 6 = .slice none 0 0 ∧ F' 7 = .int .i64 ((ls.length : Nat) : Int) ∧ F' 16 = .bool false) ⟨e0, e1, e2, e6, e7, e16⟩ ?_
  clear e0 e1 e2 e6 e7 e16
  clear F
  rintro F ⟨e0, e1, e2, e6, e7, e16⟩
  refine wp_regionF ?_
  refine lf_val (wantAll rfl) (rv_move rfl (fr_eval rfl e0)) ?_
  refine lf_val (v := (.slice (some ⟨g, 0, none⟩) (ls.length - 1) cap)) (wantAll rfl) (rv_assign rfl (fr_eval rfl rfl)) ?_
  refine lf_nil ?_
  refine then_n ?_
  refine wp_gen (fun F' => F' 0 = (.slice (some ⟨g, 0, none⟩) (ls.length - 1) cap) ∧ F' 1 = .int .i64 ((i : Nat) : Int) ∧ F' 2 = .int .i64 ((i + 1 : Nat) : Int) ∧ F' 6 = (.slice (some ⟨g, 0, none⟩) (ls.length - 1) cap) ∧ F' 7 = .int .i64 ((ls.length : Nat) : Int) ∧ F' 16 = .bool false) ⟨e0, e1, e2, rfl, e7, e16⟩ ?_
  clear e0 e1 e2 e6 e7 e16
  clear F
  rintro F ⟨e0, e1, e2, e6, e7, e16⟩
  refine wp_ret ?_
  exact bodyPost_ret (v := (.slice (some ⟨g, 0, none⟩) (ls.length - 1) cap)) (res1 rfl (ro_tmp rfl e6)) rfl (⟨_, rfl, hH⟩)

set_option maxRecDepth 100000 in
set_option maxHeartbeats 4000000 in
theorem netTake_nil (z : Int) (w : World) :
    Calls Try.prog 47 #[.pointer none, .int .i64 z] w fun e'' w' => e'' = .returned (.tuple #[.agg #[.int .i64 0, .slice none 0 0], .int .i64 7]) ∧ Ext w w' := by
  refine calls_fr (args := [.pointer none, .int .i64 z]) (n := 29) Try.func47 rfl rfl (show 2 ≤ 29 by decide) ?_
  have hH : Heap (newN w) w w [] := Heap.fresh
  refine wp_seq ?_
  refine wp_gen (fun F' => F' 0 = .pointer none ∧ F' 1 = .int .i64 z) ⟨rfl, rfl⟩ ?_
  rintro F ⟨e0, e1⟩
  refine wp_regionF ?_
  refine lf_ex (wantAll rfl) (hx_alloc hH 87 (z := .agg ([.int .i64 0, .slice none 0 0]).toArray) (n := 2) (cs := [.int .i64 0, .slice none 0 0]) rfl (by kernel_rfl) (by rfl)) ?_
  clear hH
  rintro _ w1 ⟨g1, rfl, hH, hx⟩
  replace hH : Heap _ _ _ [_] := hH
  clear hx
  refine lf_val (v := .int .i64 0) (wantAll rfl) (rv_assign rfl rfl) ?_
  refine lf_nil ?_
  refine then_n ?_
  refine wp_seq ?_
  refine wp_gen (fun F' => F' 0 = .pointer none ∧ F' 1 = .int .i64 z ∧ F' 4 = .pointer (some ⟨g1, 0, none⟩) ∧ F' 5 = .int .i64 0) ⟨e0, e1, rfl, rfl⟩ ?_
  clear e0 e1
  clear F
  rintro F ⟨e0, e1, e4, e5⟩
  refine wp_regionF ?_
  refine lf_val (v := .pointer none) (wantAll rfl) (rv_move rfl (fr_eval rfl e0)) ?_
  refine lf_val (v := .int .i64 z) (wantAll rfl) (rv_move rfl (fr_eval rfl e1)) ?_
  refine lf_call (wantAll rfl) (rv_call (args := [.pointer none, .int .i64 z]) rfl (evc (fr_eval rfl rfl) (evc (fr_eval rfl rfl) evn)) Try.call43) (netPeek_nil z _) ?_
  rintro _ w2 ⟨rfl, hx⟩
  refine ⟨_, rfl, ?_⟩
  replace hH := hH.ext hx
  clear hx
  refine lf_val (v := .tuple #[.agg #[.int .i64 0, .slice none 0 0], .int .i64 7]) (wantAll rfl) (rv_move rfl (fr_eval rfl rfl)) ?_
  refine lf_val (v := .agg #[.int .i64 0, .slice none 0 0]) (wantAll rfl) (rv_extract rfl (fr_eval rfl rfl) rfl) ?_
  refine lf_val (v := .int .i64 7) (wantAll rfl) (rv_extract rfl (fr_eval rfl rfl) rfl) ?_
  refine lf_ex (wantAll rfl) (hx_alloc hH 87 (z := .agg ([.int .i64 0, .slice none 0 0]).toArray) (n := 2) (cs := [.int .i64 0, .slice none 0 0]) rfl (by kernel_rfl) (by rfl)) ?_
  clear hH
  rintro _ w3 ⟨g2, rfl, hH, hx⟩
  replace hH : Heap _ _ _ [_, _] := hH
  clear hx
  refine lf_sk (wantAll rfl) (hx_storeW hH (i := 1) (cs := [.int .i64 0, .slice none 0 0]) rfl rfl rfl (fr_eval rfl rfl) (fr_eval rfl rfl) (sz_len Try.sz87 zNf_l0) ((zNf_l0).trans (zNf_l0).symm) (zNf_o1 rfl rfl)) ?_
  clear hH
  rintro w4 ⟨hH, hx⟩
  replace hH : Heap _ _ _ [_, _] := hH
  clear hx
  refine lf_val (v := .int .i64 7) (wantAll rfl) (rv_assign rfl (fr_eval rfl rfl)) ?_
  refine lf_nil ?_
  refine then_n ?_
  refine wp_seq ?_
  refine wp_seq ?_
  refine wp_gen (fun F' => F' 0 = .pointer none ∧ F' 1 = .int .i64 z ∧ F' 4 = .pointer (some ⟨g1, 0, none⟩) ∧ F' 5 = .int .i64 0 ∧ F' 6 = .pointer (some ⟨g2, 0, none⟩) ∧ F' 7 = .int .i64 7) ⟨e0, e1, e4, e5, rfl, rfl⟩ ?_
  clear e0 e1 e4 e5
  clear F
  rintro F ⟨e0, e1, e4, e5, e6, e7⟩
  refine wp_regionF ?_
  refine lf_val (v := .int .i64 7) (wantAll rfl) (rv_move rfl (fr_eval rfl e7)) ?_
  refine lf_val (v := .bool false) (wantAll rfl) (rv_eql rfl (fr_eval rfl rfl) rfl (by decide)) ?_
  refine lf_nil ?_
  refine then_n ?_
  refine wp_gen (fun F' => F' 0 = .pointer none ∧ F' 1 = .int .i64 z ∧ F' 4 = .pointer (some ⟨g1, 0, none⟩) ∧ F' 5 = .int .i64 0 ∧ F' 6 = .pointer (some ⟨g2, 0, none⟩) ∧ F' 7 = .int .i64 7 ∧ F' 15 = .bool false) ⟨e0, e1, e4, e5, e6, e7, rfl⟩ ?_
  clear e0 e1 e4 e5 e6 e7
  clear F
  rintro F ⟨e0, e1, e4, e5, e6, e7, e15⟩
  refine wp_cond_false (fr_eval rfl e15) ?_
  refine wp_skip ?_
  refine then_n ?_
  refine wp_seq ?_
  refine wp_regionF ?_
  refine lf_val (v := .agg #[.int .i64 0, .slice none 0 0]) (wantAll rfl) (rv_loadW rfl (hH.blk (i := 1) rfl) (fr_eval rfl e6) Try.underlying87 rfl (sz_len Try.sz87 zNf_l0)) ?_
  refine lf_val (v := .int .i64 7) (wantAll rfl) (rv_move rfl (fr_eval rfl e7)) ?_
  refine lf_sk (wantAll rfl) (hx_storeW hH (i := 0) (cs := [.int .i64 0, .slice none 0 0]) rfl rfl rfl (fr_eval rfl e4) (fr_eval rfl rfl) (sz_len Try.sz87 zNf_l0) ((zNf_l0).trans (zNf_l0).symm) (zNf_o1 rfl rfl)) ?_
  clear hH
  rintro w5 ⟨hH, hx⟩
  replace hH : Heap _ _ _ [_, _] := hH
  clear hx
  refine lf_val (v := .int .i64 7) (wantAll rfl) (rv_assign rfl (fr_eval rfl rfl)) ?_
  refine lf_nil ?_
  refine then_n ?_
  refine wp_gen (fun F' => F' 0 = .pointer none ∧ F' 1 = .int .i64 z ∧ F' 4 = .pointer (some ⟨g1, 0, none⟩) ∧ F' 5 = .int .i64 7 ∧ F' 6 = .pointer (some ⟨g2, 0, none⟩) ∧ F' 7 = .int .i64 7 ∧ F' 15 = .bool false) ⟨e0, e1, e4, rfl, e6, e7, e15⟩ ?_
  clear e0 e1 e4 e5 e6 e7 e15
  clear F
  rintro F ⟨e0, e1, e4, e5, e6, e7, e15⟩
  refine wp_ret ?_
  exact bodyPost_ret (v := .tuple #[.agg #[.int .i64 0, .slice none 0 0], .int .i64 7]) (res2 rfl (ro_cell rfl e4 (hH.blk (i := 0) rfl) Try.underlying87 rfl (sz_len Try.sz87 zNf_l0)) (ro_tmp rfl e5)) rfl (⟨rfl, hH.done⟩)

set_option maxRecDepth 100000 in
set_option maxHeartbeats 4000000 in
theorem netTake_no {g : Nat} {v : Value} (ls : List Lt) (hl : ls.length ≤ 64) (lost : Nat) (z : Int) (ho : ¬ (0 ≤ z ∧ z < (ls.length : Int))) (w : World) (hB0 : Blk w g ([v, .int .i64 ((lost : Nat) : Int)]) 69) (hn0 : Rd w 2 v ls.length (ls.flatMap cLt)) :
    Calls Try.prog 47 #[.pointer (some ⟨g, 0, none⟩), .int .i64 z] w fun e'' w' => e'' = .returned (.tuple #[.agg #[.int .i64 0, .slice none 0 0], .int .i64 7]) ∧ Ext w w' := by
  refine calls_fr (args := [.pointer (some ⟨g, 0, none⟩), .int .i64 z]) (n := 29) Try.func47 rfl rfl (show 2 ≤ 29 by decide) ?_
  have hn := Rd.stab hn0
  have hB := Blk.stab hB0
  have hH : Heap (newN w) w w [] := Heap.fresh
  refine wp_seq ?_
  refine wp_gen (fun F' => F' 0 = .pointer (some ⟨g, 0, none⟩) ∧ F' 1 = .int .i64 z) ⟨rfl, rfl⟩ ?_
  rintro F ⟨e0, e1⟩
  refine wp_regionF ?_
  refine lf_ex (wantAll rfl) (hx_alloc hH 87 (z := .agg ([.int .i64 0, .slice none 0 0]).toArray) (n := 2) (cs := [.int .i64 0, .slice none 0 0]) rfl (by kernel_rfl) (by rfl)) ?_
  clear hH
  rintro _ w1 ⟨g1, rfl, hH, hx⟩
  replace hH : Heap _ _ _ [_] := hH
  clear hx
  refine lf_val (v := .int .i64 0) (wantAll rfl) (rv_assign rfl rfl) ?_
  refine lf_nil ?_
  refine then_n ?_
  refine wp_seq ?_
  refine wp_gen (fun F' => F' 0 = .pointer (some ⟨g, 0, none⟩) ∧ F' 1 = .int .i64 z ∧ F' 4 = .pointer (some ⟨g1, 0, none⟩) ∧ F' 5 = .int .i64 0) ⟨e0, e1, rfl, rfl⟩ ?_
  clear e0 e1
  clear F
  rintro F ⟨e0, e1, e4, e5⟩
  refine wp_regionF ?_
  refine lf_val (v := .pointer (some ⟨g, 0, none⟩)) (wantAll rfl) (rv_move rfl (fr_eval rfl e0)) ?_
  refine lf_val (v := .int .i64 z) (wantAll rfl) (rv_move rfl (fr_eval rfl e1)) ?_
  refine lf_call (wantAll rfl) (rv_call (args := [.pointer (some ⟨g, 0, none⟩), .int .i64 z]) rfl (evc (fr_eval rfl rfl) (evc (fr_eval rfl rfl) evn)) Try.call43) (netPeek_no ls (by omega) lost z ho _ (hB _ hH.chg) (hn.rd _ hH.chg)) ?_
  rintro _ w2 ⟨rfl, hx⟩
  refine ⟨_, rfl, ?_⟩
  replace hH := hH.ext hx
  clear hx
  refine lf_val (v := .tuple #[.agg #[.int .i64 0, .slice none 0 0], .int .i64 7]) (wantAll rfl) (rv_move rfl (fr_eval rfl rfl)) ?_
  refine lf_val (v := .agg #[.int .i64 0, .slice none 0 0]) (wantAll rfl) (rv_extract rfl (fr_eval rfl rfl) rfl) ?_
  refine lf_val (v := .int .i64 7) (wantAll rfl) (rv_extract rfl (fr_eval rfl rfl) rfl) ?_
  refine lf_ex (wantAll rfl) (hx_alloc hH 87 (z := .agg ([.int .i64 0, .slice none 0 0]).toArray) (n := 2) (cs := [.int .i64 0, .slice none 0 0]) rfl (by kernel_rfl) (by rfl)) ?_
  clear hH
  rintro _ w3 ⟨g2, rfl, hH, hx⟩
  replace hH : Heap _ _ _ [_, _] := hH
  clear hx
  refine lf_sk (wantAll rfl) (hx_storeW hH (i := 1) (cs := [.int .i64 0, .slice none 0 0]) rfl rfl rfl (fr_eval rfl rfl) (fr_eval rfl rfl) (sz_len Try.sz87 zNf_l0) ((zNf_l0).trans (zNf_l0).symm) (zNf_o1 rfl rfl)) ?_
  clear hH
  rintro w4 ⟨hH, hx⟩
  replace hH : Heap _ _ _ [_, _] := hH
  clear hx
  refine lf_val (v := .int .i64 7) (wantAll rfl) (rv_assign rfl (fr_eval rfl rfl)) ?_
  refine lf_nil ?_
  refine then_n ?_
  refine wp_seq ?_
  refine wp_seq ?_
  refine wp_gen (fun F' => F' 0 = .pointer (some ⟨g, 0, none⟩) ∧ F' 1 = .int .i64 z ∧ F' 4 = .pointer (some ⟨g1, 0, none⟩) ∧ F' 5 = .int .i64 0 ∧ F' 6 = .pointer (some ⟨g2, 0, none⟩) ∧ F' 7 = .int .i64 7) ⟨e0, e1, e4, e5, rfl, rfl⟩ ?_
  clear e0 e1 e4 e5
  clear F
  rintro F ⟨e0, e1, e4, e5, e6, e7⟩
  refine wp_regionF ?_
  refine lf_val (v := .int .i64 7) (wantAll rfl) (rv_move rfl (fr_eval rfl e7)) ?_
  refine lf_val (v := .bool false) (wantAll rfl) (rv_eql rfl (fr_eval rfl rfl) rfl (by decide)) ?_
  refine lf_nil ?_
  refine then_n ?_
  refine wp_gen (fun F' => F' 0 = .pointer (some ⟨g, 0, none⟩) ∧ F' 1 = .int .i64 z ∧ F' 4 = .pointer (some ⟨g1, 0, none⟩) ∧ F' 5 = .int .i64 0 ∧ F' 6 = .pointer (some ⟨g2, 0, none⟩) ∧ F' 7 = .int .i64 7 ∧ F' 15 = .bool false) ⟨e0, e1, e4, e5, e6, e7, rfl⟩ ?_
  clear e0 e1 e4 e5 e6 e7
  clear F
  rintro F ⟨e0, e1, e4, e5, e6, e7, e15⟩
  refine wp_cond_false (fr_eval rfl e15) ?_
  refine wp_skip ?_
  refine then_n ?_
  refine wp_seq ?_
  refine wp_regionF ?_
  refine lf_val (v := .agg #[.int .i64 0, .slice none 0 0]) (wantAll rfl) (rv_loadW rfl (hH.blk (i := 1) rfl) (fr_eval rfl e6) Try.underlying87 rfl (sz_len Try.sz87 zNf_l0)) ?_
  refine lf_val (v := .int .i64 7) (wantAll rfl) (rv_move rfl (fr_eval rfl e7)) ?_
  refine lf_sk (wantAll rfl) (hx_storeW hH (i := 0) (cs := [.int .i64 0, .slice none 0 0]) rfl rfl rfl (fr_eval rfl e4) (fr_eval rfl rfl) (sz_len Try.sz87 zNf_l0) ((zNf_l0).trans (zNf_l0).symm) (zNf_o1 rfl rfl)) ?_
  clear hH
  rintro w5 ⟨hH, hx⟩
  replace hH : Heap _ _ _ [_, _] := hH
  clear hx
  refine lf_val (v := .int .i64 7) (wantAll rfl) (rv_assign rfl (fr_eval rfl rfl)) ?_
  refine lf_nil ?_
  refine then_n ?_
  refine wp_gen (fun F' => F' 0 = .pointer (some ⟨g, 0, none⟩) ∧ F' 1 = .int .i64 z ∧ F' 4 = .pointer (some ⟨g1, 0, none⟩) ∧ F' 5 = .int .i64 7 ∧ F' 6 = .pointer (some ⟨g2, 0, none⟩) ∧ F' 7 = .int .i64 7 ∧ F' 15 = .bool false) ⟨e0, e1, e4, rfl, e6, e7, e15⟩ ?_
  clear e0 e1 e4 e5 e6 e7 e15
  clear F
  rintro F ⟨e0, e1, e4, e5, e6, e7, e15⟩
  refine wp_ret ?_
  exact bodyPost_ret (v := .tuple #[.agg #[.int .i64 0, .slice none 0 0], .int .i64 7]) (res2 rfl (ro_cell rfl e4 (hH.blk (i := 0) rfl) Try.underlying87 rfl (sz_len Try.sz87 zNf_l0)) (ro_tmp rfl e5)) rfl (⟨rfl, hH.done⟩)

set_option maxRecDepth 100000 in
set_option maxHeartbeats 4000000 in
theorem netTake_yes {w : World} {K Z S : Nat → Prop} {g : Nat} {v : Value} (hZ : ∀ k, newK w K k → ¬ Z k) (ls : List Lt) (hl : ls.length ≤ 64) (lost : Nat) (hlo : lost ≤ 900000) (i : Nat) (hi : i < ls.length) (hbl : (List.getD ls i zLt).b.length ≤ 100000000) (hh0 : Heap (newK w K) w w [oBlk g ([v, .int .i64 ((lost : Nat) : Int)]) 69, oRow cLt 87 2 v ls, oBag Z S ls]) :
    Calls Try.prog 47 #[.pointer (some ⟨g, 0, none⟩), .int .i64 ((i : Nat) : Int)] w fun e'' w' => ∃ v' y, e'' = .returned (.tuple #[.agg ([.int .i64 (List.getD ls i zLt).to, y]).toArray, .int .i64 0]) ∧ Heap (newK w K) w w' [oBlk g ([v', .int .i64 ((lost : Nat) : Int)]) 69, oRow cLt 87 2 v' (List.eraseIdx ls i), oBag Z S (List.eraseIdx ls i), oB y (List.getD ls i zLt).b] := by
  refine calls_fr (args := [.pointer (some ⟨g, 0, none⟩), .int .i64 ((i : Nat) : Int)]) (n := 29) Try.func47 rfl rfl (show 2 ≤ 29 by decide) ?_
  have hH : Heap (newK w K) w w [oBlk g ([v, .int .i64 ((lost : Nat) : Int)]) 69, oRow cLt 87 2 v ls, oBag Z S ls] := hh0
  refine wp_seq ?_
  refine wp_gen (fun F' => F' 0 = .pointer (some ⟨g, 0, none⟩) ∧ F' 1 = .int .i64 ((i : Nat) : Int)) ⟨rfl, rfl⟩ ?_
  rintro F ⟨e0, e1⟩
  refine wp_regionF ?_
  refine lf_ex (wantAll rfl) (hx_alloc hH 87 (z := .agg ([.int .i64 0, .slice none 0 0]).toArray) (n := 2) (cs := [.int .i64 0, .slice none 0 0]) rfl (by kernel_rfl) (by rfl)) ?_
  clear hH
  rintro _ w1 ⟨g1, rfl, hH, hx⟩
  replace hH : Heap _ _ _ [_, _, _, _] := hH
  clear hx
  refine lf_val (v := .int .i64 0) (wantAll rfl) (rv_assign rfl rfl) ?_
  refine lf_nil ?_
  refine then_n ?_
  refine wp_seq ?_
  refine wp_gen (fun F' => F' 0 = .pointer (some ⟨g, 0, none⟩) ∧ F' 1 = .int .i64 ((i : Nat) : Int) ∧ F' 4 = .pointer (some ⟨g1, 0, none⟩) ∧ F' 5 = .int .i64 0) ⟨e0, e1, rfl, rfl⟩ ?_
  clear e0 e1
  clear F
  rintro F ⟨e0, e1, e4, e5⟩
  refine wp_regionF ?_
  refine lf_val (v := .pointer (some ⟨g, 0, none⟩)) (wantAll rfl) (rv_move rfl (fr_eval rfl e0)) ?_
  refine lf_val (v := .int .i64 ((i : Nat) : Int)) (wantAll rfl) (rv_move rfl (fr_eval rfl e1)) ?_
  refine lf_call (wantAll rfl) (rv_call (args := [.pointer (some ⟨g, 0, none⟩), .int .i64 ((i : Nat) : Int)]) rfl (evc (fr_eval rfl rfl) (evc (fr_eval rfl rfl) evn)) Try.call43) (netPeek_yes ls (by omega) lost i hi hbl _ (hH.blk (i := 0) rfl) (Own.rd (hH.own (i := 1) rfl) (row_one cLt_one)) (BagAt.rd (hH.bag (i := 2) rfl) (memL hi))) ?_
  rintro _ w2 ⟨⟨y1, rfl, ho, hg⟩, hx⟩
  refine ⟨_, rfl, ?_⟩
  replace hH : Heap _ _ _ [_, _, _, _, _] := hH.addOwn hx hg ho
  clear ho hg
  have qy1 : y1.oneCell' = true := Rd.oneV (OwnB.rd (hH.own (i := 4) rfl))
  clear hx
  refine lf_val (v := .tuple #[.agg #[.int .i64 ((List.getD ls i zLt).to), y1], .int .i64 0]) (wantAll rfl) (rv_move rfl (fr_eval rfl rfl)) ?_
  refine lf_val (v := .agg #[.int .i64 ((List.getD ls i zLt).to), y1]) (wantAll rfl) (rv_extract rfl (fr_eval rfl rfl) rfl) ?_
  refine lf_val (v := .int .i64 0) (wantAll rfl) (rv_extract rfl (fr_eval rfl rfl) rfl) ?_
  refine lf_ex (wantAll rfl) (hx_alloc hH 87 (z := .agg ([.int .i64 0, .slice none 0 0]).toArray) (n := 2) (cs := [.int .i64 0, .slice none 0 0]) rfl (by kernel_rfl) (by rfl)) ?_
  clear hH
  rintro _ w3 ⟨g2, rfl, hH, hx⟩
  replace hH : Heap _ _ _ [_, _, _, _, _, _] := hH
  clear hx
  refine lf_sk (wantAll rfl) (hx_storeW hH (i := 5) (cs := [.int .i64 ((List.getD ls i zLt).to), y1]) rfl rfl rfl (fr_eval rfl rfl) (fr_eval rfl rfl) (sz_len Try.sz87 zNf_l0) ((zNf_l0).trans (zNf_l0).symm) (zNf_o1 rfl qy1)) ?_
  clear hH
  rintro w4 ⟨hH, hx⟩
  replace hH : Heap _ _ _ [_, _, _, _, _, _] := hH
  clear hx
  refine lf_val (v := .int .i64 0) (wantAll rfl) (rv_assign rfl (fr_eval rfl rfl)) ?_
  refine lf_nil ?_
  refine then_n ?_
  refine wp_seq ?_
  refine wp_seq ?_
  refine wp_gen (fun F' => F' 0 = .pointer (some ⟨g, 0, none⟩) ∧ F' 1 = .int .i64 ((i : Nat) : Int) ∧ F' 4 = .pointer (some ⟨g1, 0, none⟩) ∧ F' 5 = .int .i64 0 ∧ F' 6 = .pointer (some ⟨g2, 0, none⟩) ∧ F' 7 = .int .i64 0) ⟨e0, e1, e4, e5, rfl, rfl⟩ ?_
  clear e0 e1 e4 e5
  clear F
  rintro F ⟨e0, e1, e4, e5, e6, e7⟩
  refine wp_regionF ?_
  refine lf_val (v := .int .i64 0) (wantAll rfl) (rv_move rfl (fr_eval rfl e7)) ?_
  refine lf_val (v := .bool true) (wantAll rfl) (rv_eql rfl (fr_eval rfl rfl) rfl (by decide)) ?_
  refine lf_nil ?_
  refine then_n ?_
  refine wp_gen (fun F' => F' 0 = .pointer (some ⟨g, 0, none⟩) ∧ F' 1 = .int .i64 ((i : Nat) : Int) ∧ F' 4 = .pointer (some ⟨g1, 0, none⟩) ∧ F' 5 = .int .i64 0 ∧ F' 6 = .pointer (some ⟨g2, 0, none⟩) ∧ F' 7 = .int .i64 0 ∧ F' 15 = .bool true) ⟨e0, e1, e4, e5, e6, e7, rfl⟩ ?_
  clear e0 e1 e4 e5 e6 e7
  clear F
  rintro F ⟨e0, e1, e4, e5, e6, e7, e15⟩
  refine wp_cond_true (fr_eval rfl e15) ?_
  refine wp_regionF ?_
  refine lf_val (v := .pointer (some ⟨g, 0, none⟩)) (wantAll rfl) (rv_move rfl (fr_eval rfl e0)) ?_
  refine lf_val (v := .pointer (some ⟨g, 0, none⟩)) (wantAll rfl) (rv_move rfl (fr_eval rfl e0)) ?_
  refine lf_val (v := .pointer (some ⟨g, 0, none⟩)) (wantAll rfl) (rv_nilCheck rfl (fr_eval rfl rfl)) ?_
  refine lf_val (v := .pointer (some ⟨g, 0, none⟩)) (wantAll rfl) (rv_fieldAddr (n := 0) rfl (fr_eval rfl rfl) Try.underlying69 rfl rfl (by kernel_rfl)) ?_
  refine lf_val (v := v) (wantAll rfl) (rv_load1 rfl (hH.blk (i := 0) rfl) zNf_g2 (fr_eval rfl rfl) Try.underlying67 rfl Try.sz67) ?_
  refine lf_val (v := .int .i64 ((i : Nat) : Int)) (wantAll rfl) (rv_move rfl (fr_eval rfl e1)) ?_
  refine lf_val (v := .int .i64 ((i : Nat) : Int)) (wantAll rfl) (rv_move rfl (fr_eval rfl e1)) ?_
  refine lf_val (v := .int .i64 ((i + 1 : Nat) : Int)) (wantAll rfl) (rv_add rfl (fr_eval rfl rfl) rfl (wrap_i64 (by omega) (by omega) (by omega))) ?_
  replace hH : Heap _ _ _ [_, _, _, _, _, _] := hH.perm (.cons _ (.trans (.swap _ _ _) (.cons _ (.refl _))))
  replace hH : Heap _ _ _ [_, _, _, _, _, _] := hH.perm (.cons _ (.cons _ (.trans (.swap _ _ _) (.cons _ (.refl _)))))
  replace hH : Heap _ _ _ [_, _, _, _, _, _] := hH.perm (.cons _ (.cons _ (.cons _ (.trans (.swap _ _ _) (.cons _ (.refl _))))))
  replace hH : Heap _ _ _ [_, _, _, _, _, _] := hH.perm (.cons _ (.cons _ (.cons _ (.cons _ (.trans (.swap _ _ _) (.cons _ (.refl _)))))))
  refine lf_call (wantAll rfl) (rv_call (args := [v, .int .i64 ((i : Nat) : Int), .int .i64 ((i + 1 : Nat) : Int)]) rfl (evc (fr_eval rfl rfl) (evc (fr_eval rfl rfl) (evc (fr_eval rfl rfl) evn))) Try.call61) (delete_calls ls (by omega) i hi _ (Heap.part (L := [_, _, _, _, _]) (M := [_]) hH)) ?_
  rintro _ w5 ⟨y2, rfl, hP⟩
  refine ⟨_, rfl, ?_⟩
  have hx := hH.callChg (L := [_, _, _, _, _]) (M := [_]) (fun _ h => h) hP
  replace hH : Heap _ _ _ [_, _, _, _, _, _] := hH.call (L := [_, _, _, _, _]) (M := [_]) (fun _ h => h) hP (Stays.own (hP.own (i := 0) rfl) Stays.nil)
  clear hP
  clear hx
  refine lf_val (v := .pointer (some ⟨g, 0, none⟩)) (wantAll rfl) (rv_nilCheck rfl (fr_eval rfl rfl)) ?_
  refine lf_val (v := .pointer (some ⟨g, 0, none⟩)) (wantAll rfl) (rv_fieldAddr (n := 0) rfl (fr_eval rfl rfl) Try.underlying69 rfl rfl (by kernel_rfl)) ?_
  refine lf_sk (wantAll rfl) (hx_storeC hH (i := 0) (j := 0) (v := y2) rfl rfl rfl (show 0 < 2 by decide) rfl (fr_eval rfl rfl) (fr_eval rfl rfl) Try.sz67 (Rd.oneV (Own.rd (hH.own (i := 5) rfl) (row_one cLt_one)))) ?_
  clear hH
  rintro w6 ⟨hH, hx⟩
  replace hH : Heap _ _ _ [_, _, _, _, _, _] := hH
  clear hx
  refine lf_nil ?_
  refine then_n ?_
  refine wp_seq ?_
  refine wp_gen (fun F' => F' 0 = .pointer (some ⟨g, 0, none⟩) ∧ F' 1 = .int .i64 ((i : Nat) : Int) ∧ F' 4 = .pointer (some ⟨g1, 0, none⟩) ∧ F' 5 = .int .i64 0 ∧ F' 6 = .pointer (some ⟨g2, 0, none⟩) ∧ F' 7 = .int .i64 0 ∧ F' 15 = .bool true) ⟨e0, e1, e4, e5, e6, e7, e15⟩ ?_
  clear e0 e1 e4 e5 e6 e7 e15
  clear F
  rintro F ⟨e0, e1, e4, e5, e6, e7, e15⟩
  refine wp_regionF ?_
  refine lf_val (wantAll rfl) (rv_loadW rfl (hH.blk (i := 4) rfl) (fr_eval rfl e6) Try.underlying87 rfl (sz_len Try.sz87 zNf_l0)) ?_
  refine lf_val (v := .int .i64 0) (wantAll rfl) (rv_move rfl (fr_eval rfl e7)) ?_
  refine lf_sk (wantAll rfl) (hx_storeW hH (i := 2) (cs := [.int .i64 ((List.getD ls i zLt).to), y1]) rfl rfl rfl (fr_eval rfl e4) (fr_eval rfl rfl) (sz_len Try.sz87 zNf_l0) ((zNf_l0).trans (zNf_l0).symm) (zNf_o1 rfl qy1)) ?_
  clear hH
  rintro w7 ⟨hH, hx⟩
  replace hH : Heap _ _ _ [_, _, _, _, _, _] := hH
  clear hx
  refine lf_val (v := .int .i64 0) (wantAll rfl) (rv_assign rfl (fr_eval rfl rfl)) ?_
  refine lf_nil ?_
  refine then_n ?_
  refine wp_gen (fun F' => F' 0 = .pointer (some ⟨g, 0, none⟩) ∧ F' 1 = .int .i64 ((i : Nat) : Int) ∧ F' 4 = .pointer (some ⟨g1, 0, none⟩) ∧ F' 5 = .int .i64 0 ∧ F' 6 = .pointer (some ⟨g2, 0, none⟩) ∧ F' 7 = .int .i64 0 ∧ F' 15 = .bool true) ⟨e0, e1, e4, rfl, e6, e7, e15⟩ ?_
  clear e0 e1 e4 e5 e6 e7 e15
  clear F
  rintro F ⟨e0, e1, e4, e5, e6, e7, e15⟩
  refine wp_ret ?_
  replace hH : Heap _ _ _ [_, _, _, _, _, _] := hH.bagSub (ms := List.eraseIdx ls i) (i := 1) rfl sub_erase rfl
  have hF := hH
  replace hF : Heap _ _ _ [_, _, _, _] := hF.drop (.cons_cons _ (.cons_cons _ (.cons _ (.cons_cons _ (.cons _ (.cons_cons _ .slnil))))))
  replace hF : Heap _ _ _ [_, _, _, _] := hF.perm (.cons _ (.trans (.swap _ _ _) (.cons _ (.trans (.swap _ _ _) (.cons _ (.refl _))))))
  exact bodyPost_ret (res2 rfl (ro_cell rfl e4 (hH.blk (i := 2) rfl) Try.underlying87 rfl (sz_len Try.sz87 zNf_l0)) (ro_tmp rfl e5)) rfl (⟨_, _, rfl, hF⟩)

set_option maxRecDepth 100000 in
set_option maxHeartbeats 4000000 in
theorem netLose_nil (z : Int) (w : World) :
    Calls Try.prog 48 #[.pointer none, .int .i64 z] w fun e'' w' => e'' = .returned (.int .i64 7) ∧ Ext w w' := by
  refine calls_fr (args := [.pointer none, .int .i64 z]) (n := 23) Try.func48 rfl rfl (show 2 ≤ 23 by decide) ?_
  have hH : Heap (newN w) w w [] := Heap.fresh
  refine wp_seq ?_
  refine wp_gen (fun F' => F' 0 = .pointer none ∧ F' 1 = .int .i64 z) ⟨rfl, rfl⟩ ?_
  rintro F ⟨e0, e1⟩
  refine wp_regionF ?_
  refine lf_val (v := .int .i64 0) (wantAll rfl) (rv_assign rfl rfl) ?_
  refine lf_nil ?_
  refine then_n ?_
  refine wp_seq ?_
  refine wp_gen (fun F' => F' 0 = .pointer none ∧ F' 1 = .int .i64 z ∧ F' 4 = .int .i64 0) ⟨e0, e1, rfl⟩ ?_
  clear e0 e1
  clear F
  rintro F ⟨e0, e1, e4⟩
  refine wp_regionF ?_
  refine lf_val (v := .pointer none) (wantAll rfl) (rv_move rfl (fr_eval rfl e0)) ?_
  refine lf_val (v := .int .i64 z) (wantAll rfl) (rv_move rfl (fr_eval rfl e1)) ?_
  refine lf_call (wantAll rfl) (rv_call (args := [.pointer none, .int .i64 z]) rfl (evc (fr_eval rfl rfl) (evc (fr_eval rfl rfl) evn)) Try.call47) (netTake_nil z _) ?_
  rintro _ w1 ⟨rfl, hx⟩
  refine ⟨_, rfl, ?_⟩
  replace hH := hH.ext hx
  clear hx
  refine lf_val (v := .tuple #[.agg #[.int .i64 0, .slice none 0 0], .int .i64 7]) (wantAll rfl) (rv_move rfl (fr_eval rfl rfl)) ?_
  refine lf_val (v := .agg #[.int .i64 0, .slice none 0 0]) (wantAll rfl) (rv_extract rfl (fr_eval rfl rfl) rfl) ?_
  refine lf_val (v := .int .i64 7) (wantAll rfl) (rv_extract rfl (fr_eval rfl rfl) rfl) ?_
  refine lf_ex (wantAll rfl) (hx_alloc hH 87 (z := .agg ([.int .i64 0, .slice none 0 0]).toArray) (n := 2) (cs := [.int .i64 0, .slice none 0 0]) rfl (by kernel_rfl) (by rfl)) ?_
  clear hH
  rintro _ w2 ⟨g1, rfl, hH, hx⟩
  replace hH : Heap _ _ _ [_] := hH
  clear hx
  refine lf_sk (wantAll rfl) (hx_storeW hH (i := 0) (cs := [.int .i64 0, .slice none 0 0]) rfl rfl rfl (fr_eval rfl rfl) (fr_eval rfl rfl) (sz_len Try.sz87 zNf_l0) ((zNf_l0).trans (zNf_l0).symm) (zNf_o1 rfl rfl)) ?_
  clear hH
  rintro w3 ⟨hH, hx⟩
  replace hH : Heap _ _ _ [_] := hH
  clear hx
  refine lf_val (v := .int .i64 7) (wantAll rfl) (rv_assign rfl (fr_eval rfl rfl)) ?_
  refine lf_nil ?_
  refine then_n ?_
  refine wp_seq ?_
  refine wp_seq ?_
  replace hH : Heap _ _ _ [] := hH.drop (.cons _ .slnil)
  refine wp_gen (fun F' => F' 0 = .pointer none ∧ F' 1 = .int .i64 z ∧ F' 4 = .int .i64 0 ∧ F' 6 = .int .i64 7) ⟨e0, e1, e4, rfl⟩ ?_
  clear e0 e1 e4
  clear F
  rintro F ⟨e0, e1, e4, e6⟩
  refine wp_regionF ?_
  refine lf_val (v := .int .i64 7) (wantAll rfl) (rv_move rfl (fr_eval rfl e6)) ?_
  refine lf_val (v := .bool false) (wantAll rfl) (rv_eql rfl (fr_eval rfl rfl) rfl (by decide)) ?_
  refine lf_nil ?_
  refine then_n ?_
  refine wp_gen (fun F' => F' 0 = .pointer none ∧ F' 1 = .int .i64 z ∧ F' 4 = .int .i64 0 ∧ F' 6 = .int .i64 7 ∧ F' 14 = .bool false) ⟨e0, e1, e4, e6, rfl⟩ ?_
  clear e0 e1 e4 e6
  clear F
  rintro F ⟨e0, e1, e4, e6, e14⟩
  refine wp_cond_false (fr_eval rfl e14) ?_
  refine wp_skip ?_
  refine then_n ?_
  refine wp_seq ?_
  refine wp_regionF ?_
  refine lf_val (v := .int .i64 7) (wantAll rfl) (rv_move rfl (fr_eval rfl e6)) ?_
  refine lf_val (v := .int .i64 7) (wantAll rfl) (rv_assign rfl (fr_eval rfl rfl)) ?_
  refine lf_nil ?_
  refine then_n ?_
  refine wp_gen (fun F' => F' 0 = .pointer none ∧ F' 1 = .int .i64 z ∧ F' 4 = .int .i64 7 ∧ F' 6 = .int .i64 7 ∧ F' 14 = .bool false) ⟨e0, e1, rfl, e6, e14⟩ ?_
  clear e0 e1 e4 e6 e14
  clear F
  rintro F ⟨e0, e1, e4, e6, e14⟩
  refine wp_ret ?_
  exact bodyPost_ret (v := (.int .i64 7)) (res1 rfl (ro_tmp rfl e4)) rfl (⟨rfl, hH.done⟩)

set_option maxRecDepth 100000 in
set_option maxHeartbeats 4000000 in
theorem netLose_no {g : Nat} {v : Value} (ls : List Lt) (hl : ls.length ≤ 64) (lost : Nat) (z : Int) (ho : ¬ (0 ≤ z ∧ z < (ls.length : Int))) (w : World) (hB0 : Blk w g ([v, .int .i64 ((lost : Nat) : Int)]) 69) (hn0 : Rd w 2 v ls.length (ls.flatMap cLt)) :
    Calls Try.prog 48 #[.pointer (some ⟨g, 0, none⟩), .int .i64 z] w fun e'' w' => e'' = .returned (.int .i64 7) ∧ Ext w w' := by
  refine calls_fr (args := [.pointer (some ⟨g, 0, none⟩), .int .i64 z]) (n := 23) Try.func48 rfl rfl (show 2 ≤ 23 by decide) ?_
  have hn := Rd.stab hn0
  have hB := Blk.stab hB0
  have hH : Heap (newN w) w w [] := Heap.fresh
  refine wp_seq ?_
  refine wp_gen (fun F' => F' 0 = .pointer (some ⟨g, 0, none⟩) ∧ F' 1 = .int .i64 z) ⟨rfl, rfl⟩ ?_
  rintro F ⟨e0, e1⟩
  refine wp_regionF ?_
  refine lf_val (v := .int .i64 0) (wantAll rfl) (rv_assign rfl rfl) ?_
  refine lf_nil ?_
  refine then_n ?_
  refine wp_seq ?_
  refine wp_gen (fun F' => F' 0 = .pointer (some ⟨g, 0, none⟩) ∧ F' 1 = .int .i64 z ∧ F' 4 = .int .i64 0) ⟨e0, e1, rfl⟩ ?_
  clear e0 e1
  clear F
  rintro F ⟨e0, e1, e4⟩
  refine wp_regionF ?_
  refine lf_val (v := .pointer (some ⟨g, 0, none⟩)) (wantAll rfl) (rv_move rfl (fr_eval rfl e0)) ?_
  refine lf_val (v := .int .i64 z) (wantAll rfl) (rv_move rfl (fr_eval rfl e1)) ?_
  refine lf_call (wantAll rfl) (rv_call (args := [.pointer (some ⟨g, 0, none⟩), .int .i64 z]) rfl (evc (fr_eval rfl rfl) (evc (fr_eval rfl rfl) evn)) Try.call47) (netTake_no ls (by omega) lost z ho _ (hB _ hH.chg) (hn.rd _ hH.chg)) ?_
  rintro _ w1 ⟨rfl, hx⟩
  refine ⟨_, rfl, ?_⟩
  replace hH := hH.ext hx
  clear hx
  refine lf_val (v := .tuple #[.agg #[.int .i64 0, .slice none 0 0], .int .i64 7]) (wantAll rfl) (rv_move rfl (fr_eval rfl rfl)) ?_
  refine lf_val (v := .agg #[.int .i64 0, .slice none 0 0]) (wantAll rfl) (rv_extract rfl (fr_eval rfl rfl) rfl) ?_
  refine lf_val (v := .int .i64 7) (wantAll rfl) (rv_extract rfl (fr_eval rfl rfl) rfl) ?_
  refine lf_ex (wantAll rfl) (hx_alloc hH 87 (z := .agg ([.int .i64 0, .slice none 0 0]).toArray) (n := 2) (cs := [.int .i64 0, .slice none 0 0]) rfl (by kernel_rfl) (by rfl)) ?_
  clear hH
  rintro _ w2 ⟨g1, rfl, hH, hx⟩
  replace hH : Heap _ _ _ [_] := hH
  clear hx
  refine lf_sk (wantAll rfl) (hx_storeW hH (i := 0) (cs := [.int .i64 0, .slice none 0 0]) rfl rfl rfl (fr_eval rfl rfl) (fr_eval rfl rfl) (sz_len Try.sz87 zNf_l0) ((zNf_l0).trans (zNf_l0).symm) (zNf_o1 rfl rfl)) ?_
  clear hH
  rintro w3 ⟨hH, hx⟩
  replace hH : Heap _ _ _ [_] := hH
  clear hx
  refine lf_val (v := .int .i64 7) (wantAll rfl) (rv_assign rfl (fr_eval rfl rfl)) ?_
  refine lf_nil ?_
  refine then_n ?_
  refine wp_seq ?_
  refine wp_seq ?_
  replace hH : Heap _ _ _ [] := hH.drop (.cons _ .slnil)
  refine wp_gen (fun F' => F' 0 = .pointer (some ⟨g, 0, none⟩) ∧ F' 1 = .int .i64 z ∧ F' 4 = .int .i64 0 ∧ F' 6 = .int .i64 7) ⟨e0, e1, e4, rfl⟩ ?_
  clear e0 e1 e4
  clear F
  rintro F ⟨e0, e1, e4, e6⟩
  refine wp_regionF ?_
  refine lf_val (v := .int .i64 7) (wantAll rfl) (rv_move rfl (fr_eval rfl e6)) ?_
  refine lf_val (v := .bool false) (wantAll rfl) (rv_eql rfl (fr_eval rfl rfl) rfl (by decide)) ?_
  refine lf_nil ?_
  refine then_n ?_
  refine wp_gen (fun F' => F' 0 = .pointer (some ⟨g, 0, none⟩) ∧ F' 1 = .int .i64 z ∧ F' 4 = .int .i64 0 ∧ F' 6 = .int .i64 7 ∧ F' 14 = .bool false) ⟨e0, e1, e4, e6, rfl⟩ ?_
  clear e0 e1 e4 e6
  clear F
  rintro F ⟨e0, e1, e4, e6, e14⟩
  refine wp_cond_false (fr_eval rfl e14) ?_
  refine wp_skip ?_
  refine then_n ?_
  refine wp_seq ?_
  refine wp_regionF ?_
  refine lf_val (v := .int .i64 7) (wantAll rfl) (rv_move rfl (fr_eval rfl e6)) ?_
  refine lf_val (v := .int .i64 7) (wantAll rfl) (rv_assign rfl (fr_eval rfl rfl)) ?_
  refine lf_nil ?_
  refine then_n ?_
  refine wp_gen (fun F' => F' 0 = .pointer (some ⟨g, 0, none⟩) ∧ F' 1 = .int .i64 z ∧ F' 4 = .int .i64 7 ∧ F' 6 = .int .i64 7 ∧ F' 14 = .bool false) ⟨e0, e1, rfl, e6, e14⟩ ?_
  clear e0 e1 e4 e6 e14
  clear F
  rintro F ⟨e0, e1, e4, e6, e14⟩
  refine wp_ret ?_
  exact bodyPost_ret (v := (.int .i64 7)) (res1 rfl (ro_tmp rfl e4)) rfl (⟨rfl, hH.done⟩)

set_option maxRecDepth 100000 in
set_option maxHeartbeats 4000000 in
theorem netLose_yes {w : World} {K Z S : Nat → Prop} {g : Nat} {v : Value} (hZ : ∀ k, newK w K k → ¬ Z k) (ls : List Lt) (hl : ls.length ≤ 64) (lost : Nat) (hlo : lost ≤ 900000) (i : Nat) (hi : i < ls.length) (hbl : (List.getD ls i zLt).b.length ≤ 100000000) (hh0 : Heap (newK w K) w w [oBlk g ([v, .int .i64 ((lost : Nat) : Int)]) 69, oRow cLt 87 2 v ls, oBag Z S ls]) :
    Calls Try.prog 48 #[.pointer (some ⟨g, 0, none⟩), .int .i64 ((i : Nat) : Int)] w fun e'' w' => ∃ v', e'' = .returned (.int .i64 0) ∧ Heap (newK w K) w w' [oBlk g ([v', .int .i64 (((lost + 1) : Nat) : Int)]) 69, oRow cLt 87 2 v' (List.eraseIdx ls i), oBag Z S (List.eraseIdx ls i)] := by
  refine calls_fr (args := [.pointer (some ⟨g, 0, none⟩), .int .i64 ((i : Nat) : Int)]) (n := 23) Try.func48 rfl rfl (show 2 ≤ 23 by decide) ?_
  have hH : Heap (newK w K) w w [oBlk g ([v, .int .i64 ((lost : Nat) : Int)]) 69, oRow cLt 87 2 v ls, oBag Z S ls] := hh0
  refine wp_seq ?_
  refine wp_gen (fun F' => F' 0 = .pointer (some ⟨g, 0, none⟩) ∧ F' 1 = .int .i64 ((i : Nat) : Int)) ⟨rfl, rfl⟩ ?_
  rintro F ⟨e0, e1⟩
  refine wp_regionF ?_
  refine lf_val (v := .int .i64 0) (wantAll rfl) (rv_assign rfl rfl) ?_
  refine lf_nil ?_
  refine then_n ?_
  refine wp_seq ?_
  refine wp_gen (fun F' => F' 0 = .pointer (some ⟨g, 0, none⟩) ∧ F' 1 = .int .i64 ((i : Nat) : Int) ∧ F' 4 = .int .i64 0) ⟨e0, e1, rfl⟩ ?_
  clear e0 e1
  clear F
  rintro F ⟨e0, e1, e4⟩
  refine wp_regionF ?_
  refine lf_val (v := .pointer (some ⟨g, 0, none⟩)) (wantAll rfl) (rv_move rfl (fr_eval rfl e0)) ?_
  refine lf_val (v := .int .i64 ((i : Nat) : Int)) (wantAll rfl) (rv_move rfl (fr_eval rfl e1)) ?_
  refine lf_call (wantAll rfl) (rv_call (args := [.pointer (some ⟨g, 0, none⟩), .int .i64 ((i : Nat) : Int)]) rfl (evc (fr_eval rfl rfl) (evc (fr_eval rfl rfl) evn)) Try.call47) (netTake_yes (Heap.partZ (L := []) (M := [_, _, _]) hH hZ) ls (by omega) lost (by omega) i hi hbl (Heap.part (L := []) (M := [_, _, _]) hH)) ?_
  rintro _ w1 ⟨y1, y2, rfl, hP⟩
  refine ⟨_, rfl, ?_⟩
  have hx := hH.callChg (L := []) (M := [_, _, _]) (fun _ h => h) hP
  replace hH : Heap _ _ _ [_, _, _, _] := hH.call (L := []) (M := [_, _, _]) (fun _ h => h) hP (Stays.blk (hP.blk (i := 0) rfl) (Stays.own (hP.own (i := 1) rfl) (Stays.bag hZ (hP.bag (i := 2) rfl) (Stays.own (hP.own (i := 3) rfl) Stays.nil))))
  clear hP
  have qy1 : y2.oneCell' = true := Rd.oneV (OwnB.rd (hH.own (i := 3) rfl))
  clear hx
  refine lf_val (v := .tuple #[.agg #[.int .i64 ((List.getD ls i zLt).to), y2], .int .i64 0]) (wantAll rfl) (rv_move rfl (fr_eval rfl rfl)) ?_
  refine lf_val (v := .agg #[.int .i64 ((List.getD ls i zLt).to), y2]) (wantAll rfl) (rv_extract rfl (fr_eval rfl rfl) rfl) ?_
  refine lf_val (v := .int .i64 0) (wantAll rfl) (rv_extract rfl (fr_eval rfl rfl) rfl) ?_
  refine lf_ex (wantAll rfl) (hx_alloc hH 87 (z := .agg ([.int .i64 0, .slice none 0 0]).toArray) (n := 2) (cs := [.int .i64 0, .slice none 0 0]) rfl (by kernel_rfl) (by rfl)) ?_
  clear hH
  rintro _ w2 ⟨g1, rfl, hH, hx⟩
  replace hH : Heap _ _ _ [_, _, _, _, _] := hH
  clear hx
  refine lf_sk (wantAll rfl) (hx_storeW hH (i := 4) (cs := [.int .i64 ((List.getD ls i zLt).to), y2]) rfl rfl rfl (fr_eval rfl rfl) (fr_eval rfl rfl) (sz_len Try.sz87 zNf_l0) ((zNf_l0).trans (zNf_l0).symm) (zNf_o1 rfl qy1)) ?_
  clear hH
  rintro w3 ⟨hH, hx⟩
  replace hH : Heap _ _ _ [_, _, _, _, _] := hH
  clear hx
  refine lf_val (v := .int .i64 0) (wantAll rfl) (rv_assign rfl (fr_eval rfl rfl)) ?_
  refine lf_nil ?_
  refine then_n ?_
  refine wp_seq ?_
  refine wp_seq ?_
  replace hH : Heap _ _ _ [_, _, _] := hH.drop (.cons_cons _ (.cons_cons _ (.cons_cons _ (.cons _ (.cons _ .slnil)))))
  refine wp_gen (fun F' => F' 0 = .pointer (some ⟨g, 0, none⟩) ∧ F' 1 = .int .i64 ((i : Nat) : Int) ∧ F' 4 = .int .i64 0 ∧ F' 6 = .int .i64 0) ⟨e0, e1, e4, rfl⟩ ?_
  clear e0 e1 e4
  clear F
  rintro F ⟨e0, e1, e4, e6⟩
  refine wp_regionF ?_
  refine lf_val (v := .int .i64 0) (wantAll rfl) (rv_move rfl (fr_eval rfl e6)) ?_
  refine lf_val (v := .bool true) (wantAll rfl) (rv_eql rfl (fr_eval rfl rfl) rfl (by decide)) ?_
  refine lf_nil ?_
  refine then_n ?_
  refine wp_gen (fun F' => F' 0 = .pointer (some ⟨g, 0, none⟩) ∧ F' 1 = .int .i64 ((i : Nat) : Int) ∧ F' 4 = .int .i64 0 ∧ F' 6 = .int .i64 0 ∧ F' 14 = .bool true) ⟨e0, e1, e4, e6, rfl⟩ ?_
  clear e0 e1 e4 e6
  clear F
  rintro F ⟨e0, e1, e4, e6, e14⟩
  refine wp_cond_true (fr_eval rfl e14) ?_
  refine wp_regionF ?_
  refine lf_val (v := .pointer (some ⟨g, 0, none⟩)) (wantAll rfl) (rv_move rfl (fr_eval rfl e0)) ?_
  refine lf_val (v := .pointer (some ⟨g, 0, none⟩)) (wantAll rfl) (rv_nilCheck rfl (fr_eval rfl rfl)) ?_
  refine lf_val (v := .pointer (some ⟨g, 1, none⟩)) (wantAll rfl) (rv_fieldAddr (n := 0) rfl (fr_eval rfl rfl) Try.underlying69 rfl rfl (by kernel_rfl)) ?_
  refine lf_val (v := .int .i64 ((lost : Nat) : Int)) (wantAll rfl) (rv_load1 rfl (hH.blk (i := 0) rfl) zNf_g3 (fr_eval rfl rfl) Try.underlying3 rfl Try.sz3) ?_
  refine lf_val (v := .int .i64 ((lost + 1 : Nat) : Int)) (wantAll rfl) (rv_add rfl (fr_eval rfl rfl) rfl (wrap_i64 (by omega) (by omega) (by omega))) ?_
  refine lf_val (v := .pointer (some ⟨g, 0, none⟩)) (wantAll rfl) (rv_nilCheck rfl (fr_eval rfl rfl)) ?_
  refine lf_val (v := .pointer (some ⟨g, 1, none⟩)) (wantAll rfl) (rv_fieldAddr (n := 0) rfl (fr_eval rfl rfl) Try.underlying69 rfl rfl (by kernel_rfl)) ?_
  refine lf_sk (wantAll rfl) (hx_storeC hH (i := 0) (j := 1) (v := .int .i64 ((lost + 1 : Nat) : Int)) rfl rfl rfl (show 1 < 2 by decide) rfl (fr_eval rfl rfl) (fr_eval rfl rfl) Try.sz3 rfl) ?_
  clear hH
  rintro w4 ⟨hH, hx⟩
  replace hH : Heap _ _ _ [_, _, _] := hH
  clear hx
  refine lf_nil ?_
  refine then_n ?_
  refine wp_seq ?_
  refine wp_gen (fun F' => F' 0 = .pointer (some ⟨g, 0, none⟩) ∧ F' 1 = .int .i64 ((i : Nat) : Int) ∧ F' 4 = .int .i64 0 ∧ F' 6 = .int .i64 0 ∧ F' 14 = .bool true) ⟨e0, e1, e4, e6, e14⟩ ?_
  clear e0 e1 e4 e6 e14
  clear F
  rintro F ⟨e0, e1, e4, e6, e14⟩
  refine wp_regionF ?_
  refine lf_val (v := .int .i64 0) (wantAll rfl) (rv_move rfl (fr_eval rfl e6)) ?_
  refine lf_val (v := .int .i64 0) (wantAll rfl) (rv_assign rfl (fr_eval rfl rfl)) ?_
  refine lf_nil ?_
  refine then_n ?_
  refine wp_gen (fun F' => F' 0 = .pointer (some ⟨g, 0, none⟩) ∧ F' 1 = .int .i64 ((i : Nat) : Int) ∧ F' 4 = .int .i64 0 ∧ F' 6 = .int .i64 0 ∧ F' 14 = .bool true) ⟨e0, e1, rfl, e6, e14⟩ ?_
  clear e0 e1 e4 e6 e14
  clear F
  rintro F ⟨e0, e1, e4, e6, e14⟩
  refine wp_ret ?_
  have hF := hH
  exact bodyPost_ret (v := (.int .i64 0)) (res1 rfl (ro_tmp rfl e4)) rfl (⟨_, rfl, hF⟩)

set_option maxRecDepth 100000 in
set_option maxHeartbeats 4000000 in
theorem netTwice_nil (z : Int) (w : World) :
    Calls Try.prog 49 #[.pointer none, .int .i64 z] w fun e'' w' => e'' = .returned (.int .i64 7) ∧ Ext w w' := by
  refine calls_fr (args := [.pointer none, .int .i64 z]) (n := 19) Try.func49 rfl rfl (show 2 ≤ 19 by decide) ?_
  have hH : Heap (newN w) w w [] := Heap.fresh
  refine wp_seq ?_
  refine wp_gen (fun F' => F' 0 = .pointer none ∧ F' 1 = .int .i64 z) ⟨rfl, rfl⟩ ?_
  rintro F ⟨e0, e1⟩
  refine wp_regionF ?_
  refine lf_val (v := .int .i64 0) (wantAll rfl) (rv_assign rfl rfl) ?_
  refine lf_nil ?_
  refine then_n ?_
  refine wp_seq ?_
  refine wp_gen (fun F' => F' 0 = .pointer none ∧ F' 1 = .int .i64 z ∧ F' 4 = .int .i64 0) ⟨e0, e1, rfl⟩ ?_
  clear e0 e1
  clear F
  rintro F ⟨e0, e1, e4⟩
  refine wp_regionF ?_
  refine lf_val (v := .pointer none) (wantAll rfl) (rv_move rfl (fr_eval rfl e0)) ?_
  refine lf_val (v := .int .i64 z) (wantAll rfl) (rv_move rfl (fr_eval rfl e1)) ?_
  refine lf_call (wantAll rfl) (rv_call (args := [.pointer none, .int .i64 z]) rfl (evc (fr_eval rfl rfl) (evc (fr_eval rfl rfl) evn)) Try.call43) (netPeek_nil z _) ?_
  rintro _ w1 ⟨rfl, hx⟩
  refine ⟨_, rfl, ?_⟩
  replace hH := hH.ext hx
  clear hx
  refine lf_val (v := .tuple #[.agg #[.int .i64 0, .slice none 0 0], .int .i64 7]) (wantAll rfl) (rv_move rfl (fr_eval rfl rfl)) ?_
  refine lf_val (v := .agg #[.int .i64 0, .slice none 0 0]) (wantAll rfl) (rv_extract rfl (fr_eval rfl rfl) rfl) ?_
  refine lf_val (v := .int .i64 7) (wantAll rfl) (rv_extract rfl (fr_eval rfl rfl) rfl) ?_
  refine lf_ex (wantAll rfl) (hx_alloc hH 87 (z := .agg ([.int .i64 0, .slice none 0 0]).toArray) (n := 2) (cs := [.int .i64 0, .slice none 0 0]) rfl (by kernel_rfl) (by rfl)) ?_
  clear hH
  rintro _ w2 ⟨g1, rfl, hH, hx⟩
  replace hH : Heap _ _ _ [_] := hH
  clear hx
  refine lf_sk (wantAll rfl) (hx_storeW hH (i := 0) (cs := [.int .i64 0, .slice none 0 0]) rfl rfl rfl (fr_eval rfl rfl) (fr_eval rfl rfl) (sz_len Try.sz87 zNf_l0) ((zNf_l0).trans (zNf_l0).symm) (zNf_o1 rfl rfl)) ?_
  clear hH
  rintro w3 ⟨hH, hx⟩
  replace hH : Heap _ _ _ [_] := hH
  clear hx
  refine lf_val (v := .int .i64 7) (wantAll rfl) (rv_assign rfl (fr_eval rfl rfl)) ?_
  refine lf_nil ?_
  refine then_n ?_
  refine wp_seq ?_
  refine wp_seq ?_
  refine wp_gen (fun F' => F' 0 = .pointer none ∧ F' 1 = .int .i64 z ∧ F' 4 = .int .i64 0 ∧ F' 5 = .pointer (some ⟨g1, 0, none⟩) ∧ F' 6 = .int .i64 7) ⟨e0, e1, e4, rfl, rfl⟩ ?_
  clear e0 e1 e4
  clear F
  rintro F ⟨e0, e1, e4, e5, e6⟩
  refine wp_regionF ?_
  refine lf_val (v := .int .i64 7) (wantAll rfl) (rv_move rfl (fr_eval rfl e6)) ?_
  refine lf_val (v := .bool false) (wantAll rfl) (rv_eql rfl (fr_eval rfl rfl) rfl (by decide)) ?_
  refine lf_nil ?_
  refine then_n ?_
  refine wp_gen (fun F' => F' 0 = .pointer none ∧ F' 1 = .int .i64 z ∧ F' 4 = .int .i64 0 ∧ F' 5 = .pointer (some ⟨g1, 0, none⟩) ∧ F' 6 = .int .i64 7 ∧ F' 14 = .bool false) ⟨e0, e1, e4, e5, e6, rfl⟩ ?_
  clear e0 e1 e4 e5 e6
  clear F
  rintro F ⟨e0, e1, e4, e5, e6, e14⟩
  refine wp_cond_false (fr_eval rfl e14) ?_
  refine wp_skip ?_
  refine then_n ?_
  refine wp_seq ?_
  refine wp_regionF ?_
  refine lf_val (v := .int .i64 7) (wantAll rfl) (rv_move rfl (fr_eval rfl e6)) ?_
  refine lf_val (v := .int .i64 7) (wantAll rfl) (rv_assign rfl (fr_eval rfl rfl)) ?_
  refine lf_nil ?_
  refine then_n ?_
  refine wp_gen (fun F' => F' 0 = .pointer none ∧ F' 1 = .int .i64 z ∧ F' 4 = .int .i64 7 ∧ F' 5 = .pointer (some ⟨g1, 0, none⟩) ∧ F' 6 = .int .i64 7 ∧ F' 14 = .bool false) ⟨e0, e1, rfl, e5, e6, e14⟩ ?_
  clear e0 e1 e4 e5 e6 e14
  clear F
  rintro F ⟨e0, e1, e4, e5, e6, e14⟩
  refine wp_ret ?_
  exact bodyPost_ret (v := (.int .i64 7)) (res1 rfl (ro_tmp rfl e4)) rfl (⟨rfl, hH.done⟩)

set_option maxRecDepth 100000 in
set_option maxHeartbeats 4000000 in
theorem netTwice_no {g : Nat} {v : Value} (ls : List Lt) (hl : ls.length ≤ 64) (lost : Nat) (z : Int) (ho : ¬ (0 ≤ z ∧ z < (ls.length : Int))) (w : World) (hB0 : Blk w g ([v, .int .i64 ((lost : Nat) : Int)]) 69) (hn0 : Rd w 2 v ls.length (ls.flatMap cLt)) :
    Calls Try.prog 49 #[.pointer (some ⟨g, 0, none⟩), .int .i64 z] w fun e'' w' => e'' = .returned (.int .i64 7) ∧ Ext w w' := by
  refine calls_fr (args := [.pointer (some ⟨g, 0, none⟩), .int .i64 z]) (n := 19) Try.func49 rfl rfl (show 2 ≤ 19 by decide) ?_
  have hn := Rd.stab hn0
  have hB := Blk.stab hB0
  have hH : Heap (newN w) w w [] := Heap.fresh
  refine wp_seq ?_
  refine wp_gen (fun F' => F' 0 = .pointer (some ⟨g, 0, none⟩) ∧ F' 1 = .int .i64 z) ⟨rfl, rfl⟩ ?_
  rintro F ⟨e0, e1⟩
  refine wp_regionF ?_
  refine lf_val (v := .int .i64 0) (wantAll rfl) (rv_assign rfl rfl) ?_
  refine lf_nil ?_
  refine then_n ?_
  refine wp_seq ?_
  refine wp_gen (fun F' => F' 0 = .pointer (some ⟨g, 0, none⟩) ∧ F' 1 = .int .i64 z ∧ F' 4 = .int .i64 0) ⟨e0, e1, rfl⟩ ?_
  clear e0 e1
  clear F
  rintro F ⟨e0, e1, e4⟩
  refine wp_regionF ?_
  refine lf_val (v := .pointer (some ⟨g, 0, none⟩)) (wantAll rfl) (rv_move rfl (fr_eval rfl e0)) ?_
  refine lf_val (v := .int .i64 z) (wantAll rfl) (rv_move rfl (fr_eval rfl e1)) ?_
  refine lf_call (wantAll rfl) (rv_call (args := [.pointer (some ⟨g, 0, none⟩), .int .i64 z]) rfl (evc (fr_eval rfl rfl) (evc (fr_eval rfl rfl) evn)) Try.call43) (netPeek_no ls (by omega) lost z ho _ (hB _ hH.chg) (hn.rd _ hH.chg)) ?_
  rintro _ w1 ⟨rfl, hx⟩
  refine ⟨_, rfl, ?_⟩
  replace hH := hH.ext hx
  clear hx
  refine lf_val (v := .tuple #[.agg #[.int .i64 0, .slice none 0 0], .int .i64 7]) (wantAll rfl) (rv_move rfl (fr_eval rfl rfl)) ?_
  refine lf_val (v := .agg #[.int .i64 0, .slice none 0 0]) (wantAll rfl) (rv_extract rfl (fr_eval rfl rfl) rfl) ?_
  refine lf_val (v := .int .i64 7) (wantAll rfl) (rv_extract rfl (fr_eval rfl rfl) rfl) ?_
  refine lf_ex (wantAll rfl) (hx_alloc hH 87 (z := .agg ([.int .i64 0, .slice none 0 0]).toArray) (n := 2) (cs := [.int .i64 0, .slice none 0 0]) rfl (by kernel_rfl) (by rfl)) ?_
  clear hH
  rintro _ w2 ⟨g1, rfl, hH, hx⟩
  replace hH : Heap _ _ _ [_] := hH
  clear hx
  refine lf_sk (wantAll rfl) (hx_storeW hH (i := 0) (cs := [.int .i64 0, .slice none 0 0]) rfl rfl rfl (fr_eval rfl rfl) (fr_eval rfl rfl) (sz_len Try.sz87 zNf_l0) ((zNf_l0).trans (zNf_l0).symm) (zNf_o1 rfl rfl)) ?_
  clear hH
  rintro w3 ⟨hH, hx⟩
  replace hH : Heap _ _ _ [_] := hH
  clear hx
  refine lf_val (v := .int .i64 7) (wantAll rfl) (rv_assign rfl (fr_eval rfl rfl)) ?_
  refine lf_nil ?_
  refine then_n ?_
  refine wp_seq ?_
  refine wp_seq ?_
  refine wp_gen (fun F' => F' 0 = .pointer (some ⟨g, 0, none⟩) ∧ F' 1 = .int .i64 z ∧ F' 4 = .int .i64 0 ∧ F' 5 = .pointer (some ⟨g1, 0, none⟩) ∧ F' 6 = .int .i64 7) ⟨e0, e1, e4, rfl, rfl⟩ ?_
  clear e0 e1 e4
  clear F
  rintro F ⟨e0, e1, e4, e5, e6⟩
  refine wp_regionF ?_
  refine lf_val (v := .int .i64 7) (wantAll rfl) (rv_move rfl (fr_eval rfl e6)) ?_
  refine lf_val (v := .bool false) (wantAll rfl) (rv_eql rfl (fr_eval rfl rfl) rfl (by decide)) ?_
  refine lf_nil ?_
  refine then_n ?_
  refine wp_gen (fun F' => F' 0 = .pointer (some ⟨g, 0, none⟩) ∧ F' 1 = .int .i64 z ∧ F' 4 = .int .i64 0 ∧ F' 5 = .pointer (some ⟨g1, 0, none⟩) ∧ F' 6 = .int .i64 7 ∧ F' 14 = .bool false) ⟨e0, e1, e4, e5, e6, rfl⟩ ?_
  clear e0 e1 e4 e5 e6
  clear F
  rintro F ⟨e0, e1, e4, e5, e6, e14⟩
  refine wp_cond_false (fr_eval rfl e14) ?_
  refine wp_skip ?_
  refine then_n ?_
  refine wp_seq ?_
  refine wp_regionF ?_
  refine lf_val (v := .int .i64 7) (wantAll rfl) (rv_move rfl (fr_eval rfl e6)) ?_
  refine lf_val (v := .int .i64 7) (wantAll rfl) (rv_assign rfl (fr_eval rfl rfl)) ?_
  refine lf_nil ?_
  refine then_n ?_
  refine wp_gen (fun F' => F' 0 = .pointer (some ⟨g, 0, none⟩) ∧ F' 1 = .int .i64 z ∧ F' 4 = .int .i64 7 ∧ F' 5 = .pointer (some ⟨g1, 0, none⟩) ∧ F' 6 = .int .i64 7 ∧ F' 14 = .bool false) ⟨e0, e1, rfl, e5, e6, e14⟩ ?_
  clear e0 e1 e4 e5 e6 e14
  clear F
  rintro F ⟨e0, e1, e4, e5, e6, e14⟩
  refine wp_ret ?_
  exact bodyPost_ret (v := (.int .i64 7)) (res1 rfl (ro_tmp rfl e4)) rfl (⟨rfl, hH.done⟩)

set_option maxRecDepth 100000 in
set_option maxHeartbeats 4000000 in
theorem netTwice_yes {w : World} {K Z S : Nat → Prop} {g : Nat} {v : Value} (hZ : ∀ k, newK w K k → ¬ Z k) (ls : List Lt) (hl : ls.length ≤ 64) (lost : Nat) (hlo : lost ≤ 900000) (i : Nat) (hi : i < ls.length) (hbl : (List.getD ls i zLt).b.length ≤ 100000000) (hh0 : Heap (newK w K) w w [oBlk g ([v, .int .i64 ((lost : Nat) : Int)]) 69, oRow cLt 87 2 v ls, oBag Z S ls]) :
    Calls Try.prog 49 #[.pointer (some ⟨g, 0, none⟩), .int .i64 ((i : Nat) : Int)] w fun e'' w' => ∃ v' ls' lost' S', e'' = .returned (.int .i64 0) ∧ kst ls' lost' = putK (kst ls lost) (ky (List.getD ls i zLt)) True ∧ Heap (newK w K) w w' [oBlk g ([v', .int .i64 ((lost' : Nat) : Int)]) 69, oRow cLt 87 2 v' ls', oBag Z S' ls'] := by
  refine calls_fr (args := [.pointer (some ⟨g, 0, none⟩), .int .i64 ((i : Nat) : Int)]) (n := 19) Try.func49 rfl rfl (show 2 ≤ 19 by decide) ?_
  have hH : Heap (newK w K) w w [oBlk g ([v, .int .i64 ((lost : Nat) : Int)]) 69, oRow cLt 87 2 v ls, oBag Z S ls] := hh0
  refine wp_seq ?_
  refine wp_gen (fun F' => F' 0 = .pointer (some ⟨g, 0, none⟩) ∧ F' 1 = .int .i64 ((i : Nat) : Int)) ⟨rfl, rfl⟩ ?_
  rintro F ⟨e0, e1⟩
  refine wp_regionF ?_
  refine lf_val (v := .int .i64 0) (wantAll rfl) (rv_assign rfl rfl) ?_
  refine lf_nil ?_
  refine then_n ?_
  refine wp_seq ?_
  refine wp_gen (fun F' => F' 0 = .pointer (some ⟨g, 0, none⟩) ∧ F' 1 = .int .i64 ((i : Nat) : Int) ∧ F' 4 = .int .i64 0) ⟨e0, e1, rfl⟩ ?_
  clear e0 e1
  clear F
  rintro F ⟨e0, e1, e4⟩
  refine wp_regionF ?_
  refine lf_val (v := .pointer (some ⟨g, 0, none⟩)) (wantAll rfl) (rv_move rfl (fr_eval rfl e0)) ?_
  refine lf_val (v := .int .i64 ((i : Nat) : Int)) (wantAll rfl) (rv_move rfl (fr_eval rfl e1)) ?_
  refine lf_call (wantAll rfl) (rv_call (args := [.pointer (some ⟨g, 0, none⟩), .int .i64 ((i : Nat) : Int)]) rfl (evc (fr_eval rfl rfl) (evc (fr_eval rfl rfl) evn)) Try.call43) (netPeek_yes ls (by omega) lost i hi hbl _ (hH.blk (i := 0) rfl) (Own.rd (hH.own (i := 1) rfl) (row_one cLt_one)) (BagAt.rd (hH.bag (i := 2) rfl) (memL hi))) ?_
  rintro _ w1 ⟨⟨y1, rfl, ho, hg⟩, hx⟩
  refine ⟨_, rfl, ?_⟩
  replace hH : Heap _ _ _ [_, _, _, _] := hH.addOwn hx hg ho
  clear ho hg
  have qy1 : y1.oneCell' = true := Rd.oneV (OwnB.rd (hH.own (i := 3) rfl))
  clear hx
  refine lf_val (v := .tuple #[.agg #[.int .i64 ((List.getD ls i zLt).to), y1], .int .i64 0]) (wantAll rfl) (rv_move rfl (fr_eval rfl rfl)) ?_
  refine lf_val (v := .agg #[.int .i64 ((List.getD ls i zLt).to), y1]) (wantAll rfl) (rv_extract rfl (fr_eval rfl rfl) rfl) ?_
  refine lf_val (v := .int .i64 0) (wantAll rfl) (rv_extract rfl (fr_eval rfl rfl) rfl) ?_
  refine lf_ex (wantAll rfl) (hx_alloc hH 87 (z := .agg ([.int .i64 0, .slice none 0 0]).toArray) (n := 2) (cs := [.int .i64 0, .slice none 0 0]) rfl (by kernel_rfl) (by rfl)) ?_
  clear hH
  rintro _ w2 ⟨g1, rfl, hH, hx⟩
  replace hH : Heap _ _ _ [_, _, _, _, _] := hH
  clear hx
  refine lf_sk (wantAll rfl) (hx_storeW hH (i := 4) (cs := [.int .i64 ((List.getD ls i zLt).to), y1]) rfl rfl rfl (fr_eval rfl rfl) (fr_eval rfl rfl) (sz_len Try.sz87 zNf_l0) ((zNf_l0).trans (zNf_l0).symm) (zNf_o1 rfl qy1)) ?_
  clear hH
  rintro w3 ⟨hH, hx⟩
  replace hH : Heap _ _ _ [_, _, _, _, _] := hH
  clear hx
  refine lf_val (v := .int .i64 0) (wantAll rfl) (rv_assign rfl (fr_eval rfl rfl)) ?_
  refine lf_nil ?_
  refine then_n ?_
  refine wp_seq ?_
  refine wp_seq ?_
  refine wp_gen (fun F' => F' 0 = .pointer (some ⟨g, 0, none⟩) ∧ F' 1 = .int .i64 ((i : Nat) : Int) ∧ F' 4 = .int .i64 0 ∧ F' 5 = .pointer (some ⟨g1, 0, none⟩) ∧ F' 6 = .int .i64 0) ⟨e0, e1, e4, rfl, rfl⟩ ?_
  clear e0 e1 e4
  clear F
  rintro F ⟨e0, e1, e4, e5, e6⟩
  refine wp_regionF ?_
  refine lf_val (v := .int .i64 0) (wantAll rfl) (rv_move rfl (fr_eval rfl e6)) ?_
  refine lf_val (v := .bool true) (wantAll rfl) (rv_eql rfl (fr_eval rfl rfl) rfl (by decide)) ?_
  refine lf_nil ?_
  refine then_n ?_
  refine wp_gen (fun F' => F' 0 = .pointer (some ⟨g, 0, none⟩) ∧ F' 1 = .int .i64 ((i : Nat) : Int) ∧ F' 4 = .int .i64 0 ∧ F' 5 = .pointer (some ⟨g1, 0, none⟩) ∧ F' 6 = .int .i64 0 ∧ F' 14 = .bool true) ⟨e0, e1, e4, e5, e6, rfl⟩ ?_
  clear e0 e1 e4 e5 e6
  clear F
  rintro F ⟨e0, e1, e4, e5, e6, e14⟩
  refine wp_cond_true (fr_eval rfl e14) ?_
  by_cases hf1 : ls.length < 64
  · refine wp_regionF ?_
    refine lf_val (v := .pointer (some ⟨g, 0, none⟩)) (wantAll rfl) (rv_move rfl (fr_eval rfl e0)) ?_
    refine lf_val (wantAll rfl) (rv_loadW rfl (hH.blk (i := 4) rfl) (fr_eval rfl e5) Try.underlying87 rfl (sz_len Try.sz87 zNf_l0)) ?_
    replace hH : Heap _ _ _ [_, _, _, _, _] := hH.perm (.trans (.swap _ _ _) (.cons _ (.trans (.swap _ _ _) (.cons _ (.refl _)))))
    replace hH : Heap _ _ _ [_, _, _, _, _] := hH.perm (.cons _ (.trans (.swap _ _ _) (.cons _ (.trans (.swap _ _ _) (.cons _ (.refl _))))))
    replace hH : Heap _ _ _ [_, _, _, _, _] := hH.perm (.cons _ (.cons _ (.trans (.swap _ _ _) (.cons _ (.trans (.swap _ _ _) (.cons _ (.refl _)))))))
    refine lf_call (wantAll rfl) (rv_call (args := [.pointer (some ⟨g, 0, none⟩), .agg (cLt (⟨(List.getD ls i zLt).to, ⟨y1, qy1⟩, (List.getD ls i zLt).b⟩ : Lt)).toArray, .bool (decide True)]) rfl (evc (fr_eval rfl rfl) (evc (show _ = Value.agg (cLt (⟨(List.getD ls i zLt).to, ⟨y1, qy1⟩, (List.getD ls i zLt).b⟩ : Lt)).toArray from (fr_eval rfl rfl)) (evc (rfl.trans (congrArg Value.bool (decide_eq_true trivial).symm)) evn))) Try.call60) (netPut_calls ls (by omega) lost (by omega) (⟨(List.getD ls i zLt).to, ⟨y1, qy1⟩, (List.getD ls i zLt).b⟩ : Lt) True _ (Heap.part (L := [_, _, _]) (M := [_, _]) hH)) ?_
    rintro _ w4 ⟨y2, rfl, hQ⟩
    have hP := hQ.1 ⟨trivial, hf1⟩
    clear hQ
    refine ⟨_, rfl, ?_⟩
    have hx := hH.callChg (L := [_, _, _]) (M := [_, _]) (fun _ h => h) hP
    replace hH : Heap _ _ _ [_, _, _, _, _] := hH.call (L := [_, _, _]) (M := [_, _]) (fun _ h => h) hP (Stays.blk (hP.blk (i := 0) rfl) (Stays.own (hP.own (i := 1) rfl) Stays.nil))
    clear hP
    clear hx
    refine lf_nil ?_
    refine then_n ?_
    refine wp_seq ?_
    refine wp_gen (fun F' => F' 0 = .pointer (some ⟨g, 0, none⟩) ∧ F' 1 = .int .i64 ((i : Nat) : Int) ∧ F' 4 = .int .i64 0 ∧ F' 5 = .pointer (some ⟨g1, 0, none⟩) ∧ F' 6 = .int .i64 0 ∧ F' 14 = .bool true) ⟨e0, e1, e4, e5, e6, e14⟩ ?_
    clear e0 e1 e4 e5 e6 e14
    clear F
    rintro F ⟨e0, e1, e4, e5, e6, e14⟩
    refine wp_regionF ?_
    refine lf_val (v := .int .i64 0) (wantAll rfl) (rv_move rfl (fr_eval rfl e6)) ?_
    refine lf_val (v := .int .i64 0) (wantAll rfl) (rv_assign rfl (fr_eval rfl rfl)) ?_
    refine lf_nil ?_
    refine then_n ?_
    refine wp_gen (fun F' => F' 0 = .pointer (some ⟨g, 0, none⟩) ∧ F' 1 = .int .i64 ((i : Nat) : Int) ∧ F' 4 = .int .i64 0 ∧ F' 5 = .pointer (some ⟨g1, 0, none⟩) ∧ F' 6 = .int .i64 0 ∧ F' 14 = .bool true) ⟨e0, e1, rfl, e5, e6, e14⟩ ?_
    clear e0 e1 e4 e5 e6 e14
    clear F
    rintro F ⟨e0, e1, e4, e5, e6, e14⟩
    refine wp_ret ?_
    replace hH : Heap _ _ _ [_, _, _, _] := hH.bagOwn (x := (⟨(List.getD ls i zLt).to, ⟨y1, qy1⟩, (List.getD ls i zLt).b⟩ : Lt)) (i := 0) (j := 1) rfl rfl (by decide) rfl
    have hF := hH
    replace hF : Heap _ _ _ [_, _, _] := hF.drop (.cons_cons _ (.cons _ (.cons_cons _ (.cons_cons _ .slnil))))
    replace hF : Heap _ _ _ [_, _, _] := hF.perm (.trans (.swap _ _ _) (.cons _ (.refl _)))
    replace hF : Heap _ _ _ [_, _, _] := hF.perm (.cons _ (.trans (.swap _ _ _) (.cons _ (.refl _))))
    exact bodyPost_ret (v := (.int .i64 0)) (res1 rfl (ro_tmp rfl e4)) rfl (⟨_, _, _, _, rfl, (by rw [putK_yes trivial (by simpa using hf1)]; simp [kst, ky]), hF⟩)
  · refine wp_regionF ?_
    refine lf_val (v := .pointer (some ⟨g, 0, none⟩)) (wantAll rfl) (rv_move rfl (fr_eval rfl e0)) ?_
    refine lf_val (wantAll rfl) (rv_loadW rfl (hH.blk (i := 4) rfl) (fr_eval rfl e5) Try.underlying87 rfl (sz_len Try.sz87 zNf_l0)) ?_
    replace hH : Heap _ _ _ [_, _, _, _, _] := hH.perm (.trans (.swap _ _ _) (.cons _ (.trans (.swap _ _ _) (.cons _ (.refl _)))))
    replace hH : Heap _ _ _ [_, _, _, _, _] := hH.perm (.cons _ (.trans (.swap _ _ _) (.cons _ (.trans (.swap _ _ _) (.cons _ (.refl _))))))
    replace hH : Heap _ _ _ [_, _, _, _, _] := hH.perm (.cons _ (.cons _ (.trans (.swap _ _ _) (.cons _ (.trans (.swap _ _ _) (.cons _ (.refl _)))))))
    refine lf_call (wantAll rfl) (rv_call (args := [.pointer (some ⟨g, 0, none⟩), .agg (cLt (⟨(List.getD ls i zLt).to, ⟨y1, qy1⟩, (List.getD ls i zLt).b⟩ : Lt)).toArray, .bool (decide True)]) rfl (evc (fr_eval rfl rfl) (evc (show _ = Value.agg (cLt (⟨(List.getD ls i zLt).to, ⟨y1, qy1⟩, (List.getD ls i zLt).b⟩ : Lt)).toArray from (fr_eval rfl rfl)) (evc (rfl.trans (congrArg Value.bool (decide_eq_true trivial).symm)) evn))) Try.call60) (netPut_calls ls (by omega) lost (by omega) (⟨(List.getD ls i zLt).to, ⟨y1, qy1⟩, (List.getD ls i zLt).b⟩ : Lt) True _ (Heap.part (L := [_, _, _]) (M := [_, _]) hH)) ?_
    rintro _ w5 ⟨y3, rfl, hQ⟩
    have hP := hQ.2 (fun h => hf1 h.2)
    clear hQ
    refine ⟨_, rfl, ?_⟩
    have hx := hH.callChg (L := [_, _, _]) (M := [_, _]) (fun _ h => h) hP
    replace hH : Heap _ _ _ [_, _, _, _, _] := hH.call (L := [_, _, _]) (M := [_, _]) (fun _ h => h) hP (Stays.blk (hP.blk (i := 0) rfl) (Stays.own (hP.own (i := 1) rfl) Stays.nil))
    clear hP
    clear hx
    refine lf_nil ?_
    refine then_n ?_
    refine wp_seq ?_
    refine wp_gen (fun F' => F' 0 = .pointer (some ⟨g, 0, none⟩) ∧ F' 1 = .int .i64 ((i : Nat) : Int) ∧ F' 4 = .int .i64 0 ∧ F' 5 = .pointer (some ⟨g1, 0, none⟩) ∧ F' 6 = .int .i64 0 ∧ F' 14 = .bool true) ⟨e0, e1, e4, e5, e6, e14⟩ ?_
    clear e0 e1 e4 e5 e6 e14
    clear F
    rintro F ⟨e0, e1, e4, e5, e6, e14⟩
    refine wp_regionF ?_
    refine lf_val (v := .int .i64 0) (wantAll rfl) (rv_move rfl (fr_eval rfl e6)) ?_
    refine lf_val (v := .int .i64 0) (wantAll rfl) (rv_assign rfl (fr_eval rfl rfl)) ?_
    refine lf_nil ?_
    refine then_n ?_
    refine wp_gen (fun F' => F' 0 = .pointer (some ⟨g, 0, none⟩) ∧ F' 1 = .int .i64 ((i : Nat) : Int) ∧ F' 4 = .int .i64 0 ∧ F' 5 = .pointer (some ⟨g1, 0, none⟩) ∧ F' 6 = .int .i64 0 ∧ F' 14 = .bool true) ⟨e0, e1, rfl, e5, e6, e14⟩ ?_
    clear e0 e1 e4 e5 e6 e14
    clear F
    rintro F ⟨e0, e1, e4, e5, e6, e14⟩
    refine wp_ret ?_
    have hF := hH
    replace hF : Heap _ _ _ [_, _, _] := hF.drop (.cons_cons _ (.cons _ (.cons _ (.cons_cons _ (.cons_cons _ .slnil)))))
    replace hF : Heap _ _ _ [_, _, _] := hF.perm (.trans (.swap _ _ _) (.cons _ (.refl _)))
    replace hF : Heap _ _ _ [_, _, _] := hF.perm (.cons _ (.trans (.swap _ _ _) (.cons _ (.refl _))))
    exact bodyPost_ret (v := (.int .i64 0)) (res1 rfl (ro_tmp rfl e4)) rfl (⟨_, _, _, _, rfl, (by rw [putK_no (fun h => hf1 (by simpa using h.2))]), hF⟩)

set_option maxRecDepth 100000 in
set_option maxHeartbeats 4000000 in
theorem plOut_calls {w : World} {K Z S : Nat → Prop} {g : Nat} {v : Value} (hZ : ∀ k, newK w K k → ¬ Z k) (ls : List Lt) (hl : ls.length ≤ 64) (lost : Nat) (hlo : lost ≤ 900000) (i : Nat) (hi : i < ls.length) (hh0 : Heap (newK w K) w w [oBlk g ([v, .int .i64 ((lost : Nat) : Int)]) 72, oRow cLt 87 2 v ls, oBag Z S ls]) :
    Calls Try.prog 58 #[.pointer (some ⟨g, 0, none⟩), .int .i64 ((i : Nat) : Int)] w fun e'' w' => ∃ v', e'' = .returned (.tuple #[]) ∧ Heap (newK w K) w w' [oBlk g ([v', .int .i64 ((lost : Nat) : Int)]) 72, oRow cLt 87 2 v' (List.eraseIdx ls i), oBag Z S (List.eraseIdx ls i)] := by
  refine calls_fr (args := [.pointer (some ⟨g, 0, none⟩), .int .i64 ((i : Nat) : Int)]) (n := 32) Try.func58 rfl rfl (show 2 ≤ 32 by decide) ?_
  have hH : Heap (newK w K) w w [oBlk g ([v, .int .i64 ((lost : Nat) : Int)]) 72, oRow cLt 87 2 v ls, oBag Z S ls] := hh0
  refine wp_seq ?_
  refine wp_gen (fun F' => F' 0 = .pointer (some ⟨g, 0, none⟩) ∧ F' 1 = .int .i64 ((i : Nat) : Int)) ⟨rfl, rfl⟩ ?_
  rintro F ⟨e0, e1⟩
  refine wp_regionF ?_
  refine lf_val (v := .slice none 0 0) (wantAll rfl) (rv_assign rfl rfl) ?_
  refine lf_nil ?_
  refine then_n ?_
  refine wp_seq ?_
  refine wp_seq ?_
  refine wp_gen (fun F' => F' 0 = .pointer (some ⟨g, 0, none⟩) ∧ F' 1 = .int .i64 ((i : Nat) : Int) ∧ F' 4 = .slice none 0 0) ⟨e0, e1, rfl⟩ ?_
  clear e0 e1
  clear F
  rintro F ⟨e0, e1, e4⟩
  refine wp_regionF ?_
  refine lf_val (v := .int .i64 0) (wantAll rfl) (rv_assign rfl rfl) ?_
  refine lf_nil ?_
  refine then_n ?_
  refine wp_block ?_
  replace hH : Heap _ _ _ [_, _, _, _] := hH.addNil 87 2
  replace hH : Heap (newK w K) w w [oBlk g ([v, .int .i64 ((lost : Nat) : Int)]) 72, oRow cLt 87 2 v ls, oBag Z S ls, oRow cLt 87 2 (.slice none 0 0) ((ls.take 0).eraseIdx i)] := by have e : [] = (ls.take 0).eraseIdx i := (by simp); rw [← e]; exact hH
  refine wp_gen (fun F' => F' 0 = .pointer (some ⟨g, 0, none⟩) ∧ F' 1 = .int .i64 ((i : Nat) : Int) ∧ F' 4 = (.slice none 0 0) ∧ F' 5 = .int .i64 0) ⟨e0, e1, e4, rfl⟩ ?_
  clear e0 e1 e4
  clear F
  rintro F ⟨e0, e1, e4, e5⟩
  refine wp_loopF (fun m F wr => ∃ j : Nat, ∃ u : Value, m = ls.length - j ∧ j ≤ ls.length ∧ F 0 = .pointer (some ⟨g, 0, none⟩) ∧ F 1 = .int .i64 ((i : Nat) : Int) ∧ F 4 = u ∧ F 5 = .int .i64 ((j : Nat) : Int) ∧ Heap (newK w K) w wr [oBlk g ([v, .int .i64 ((lost : Nat) : Int)]) 72, oRow cLt 87 2 v ls, oBag Z S ls, oRow cLt 87 2 u ((ls.take j).eraseIdx i)]) ⟨0, _, rfl, Nat.zero_le _, e0, e1, e4, e5, hH⟩ ?_
  clear e0 e1 e4 e5 hH
  clear F
  rintro m F w1 ⟨j, u, rfl, pj0, e0, e1, e4, e5, hH⟩
  refine wp_seq ?_
  refine wp_seq ?_
  refine wp_regionF ?_
  refine lf_val (v := .int .i64 ((j : Nat) : Int)) (wantAll rfl) (rv_move rfl (fr_eval rfl e5)) ?_
  refine lf_val (v := .pointer (some ⟨g, 0, none⟩)) (wantAll rfl) (rv_move rfl (fr_eval rfl e0)) ?_
  refine lf_val (v := .pointer (some ⟨g, 0, none⟩)) (wantAll rfl) (rv_nilCheck rfl (fr_eval rfl rfl)) ?_
  refine lf_val (v := .pointer (some ⟨g, 0, none⟩)) (wantAll rfl) (rv_fieldAddr (n := 0) rfl (fr_eval rfl rfl) Try.underlying72 rfl rfl (by kernel_rfl)) ?_
  refine lf_val (v := v) (wantAll rfl) (rv_load1 rfl (hH.blk (i := 0) rfl) zNf_g2 (fr_eval rfl rfl) Try.underlying67 rfl Try.sz67) ?_
  refine lf_val (v := .int .i64 ((ls.length : Nat) : Int)) (wantAll rfl) (rv_len rfl (fr_eval rfl rfl) (Own.rd (hH.own (i := 1) rfl) (row_one cLt_one)) Try.underlying67) ?_
  refine lf_val (v := .bool (decide (j < ls.length))) (wantAll rfl) (rv_lssP (p := j < ls.length) rfl (fr_eval rfl rfl) (fr_eval rfl rfl) (by omega)) ?_
  refine lf_nil ?_
  refine then_n ?_
  refine wp_gen (fun F' => F' 0 = .pointer (some ⟨g, 0, none⟩) ∧ F' 1 = .int .i64 ((i : Nat) : Int) ∧ F' 4 = u ∧ F' 5 = .int .i64 ((j : Nat) : Int) ∧ F' 12 = .bool (decide (j < ls.length))) ⟨e0, e1, e4, e5, rfl⟩ ?_
  clear e0 e1 e4 e5
  clear F
  rintro F ⟨e0, e1, e4, e5, e12⟩
  by_cases hc1 : j < ls.length
  · refine wp_cond_true (fr_eval rfl (e12.trans (congrArg Value.bool (decide_eq_true hc1)))) ?_
    refine wp_skip ?_
    refine then_n ?_
    refine wp_seq ?_
    refine wp_block ?_
    refine wp_seq ?_
    refine wp_regionF ?_
    refine lf_val (v := .int .i64 ((j : Nat) : Int)) (wantAll rfl) (rv_move rfl (fr_eval rfl e5)) ?_
    refine lf_val (v := .int .i64 ((i : Nat) : Int)) (wantAll rfl) (rv_move rfl (fr_eval rfl e1)) ?_
    refine lf_val (v := .bool (decide (¬ j = i))) (wantAll rfl) (rv_neqP (p := ¬ j = i) rfl (fr_eval rfl rfl) (fr_eval rfl rfl) (by omega)) ?_
    refine lf_nil ?_
    refine then_n ?_
    refine wp_gen (fun F' => F' 0 = .pointer (some ⟨g, 0, none⟩) ∧ F' 1 = .int .i64 ((i : Nat) : Int) ∧ F' 4 = u ∧ F' 5 = .int .i64 ((j : Nat) : Int) ∧ F' 12 = .bool true ∧ F' 17 = .bool (decide (¬ j = i))) ⟨e0, e1, e4, e5, (e12.trans (congrArg Value.bool (decide_eq_true hc1))), rfl⟩ ?_
    clear e0 e1 e4 e5 e12
    clear F
    rintro F ⟨e0, e1, e4, e5, e12, e17⟩
    by_cases hc2 : j = i
    · refine wp_cond_false (fr_eval rfl (e17.trans (congrArg Value.bool (decide_eq_false (not_not_intro hc2))))) ?_
      refine wp_skip ?_
      refine blk_n ?_
      refine then_n ?_
      refine wp_regionF ?_
      refine lf_val (v := .int .i64 ((j : Nat) : Int)) (wantAll rfl) (rv_move rfl (fr_eval rfl e5)) ?_
      refine lf_val (v := .int .i64 ((j + 1 : Nat) : Int)) (wantAll rfl) (rv_add rfl (fr_eval rfl rfl) rfl (wrap_i64 (by omega) (by omega) (by omega))) ?_
      refine lf_val (v := .int .i64 ((j + 1 : Nat) : Int)) (wantAll rfl) (rv_assign rfl (fr_eval rfl rfl)) ?_
      refine lf_nil ?_
      refine then_n ?_
      rw [show (ls.take j).eraseIdx i = (ls.take (j + 1)).eraseIdx i from (by subst hc2; exact out_same (by omega))] at hH
      exact ⟨_, _, (by omega), rfl, j + 1, _, rfl, (by omega), e0, e1, e4, rfl, hH⟩
    · refine wp_cond_true (fr_eval rfl (e17.trans (congrArg Value.bool (decide_eq_true hc2)))) ?_
      refine wp_regionF ?_
      refine lf_val (v := u) (wantAll rfl) (rv_move rfl (fr_eval rfl e4)) ?_
      refine lf_val (v := .pointer (some ⟨g, 0, none⟩)) (wantAll rfl) (rv_move rfl (fr_eval rfl e0)) ?_
      refine lf_val (v := .pointer (some ⟨g, 0, none⟩)) (wantAll rfl) (rv_nilCheck rfl (fr_eval rfl rfl)) ?_
      refine lf_val (v := .pointer (some ⟨g, 0, none⟩)) (wantAll rfl) (rv_fieldAddr (n := 0) rfl (fr_eval rfl rfl) Try.underlying72 rfl rfl (by kernel_rfl)) ?_
      refine lf_val (v := v) (wantAll rfl) (rv_load1 rfl (hH.blk (i := 0) rfl) zNf_g2 (fr_eval rfl rfl) Try.underlying67 rfl Try.sz67) ?_
      refine lf_val (v := .int .i64 ((j : Nat) : Int)) (wantAll rfl) (rv_move rfl (fr_eval rfl e5)) ?_
      refine lf_val (v := .pointer (some (elemA v (j * 2)))) (wantAll rfl) (rv_index rfl (fr_eval rfl rfl) (fr_eval rfl rfl) (rdN (Own.rd (hH.own (i := 1) rfl) (row_one cLt_one)) rfl) (show j < ls.length from (by omega)) Try.underlying67 Try.sz87 (by decide)) ?_
      refine lf_val (wantAll rfl) (rv_loadElem rfl (fr_eval rfl rfl) (rdN (Own.rd (hH.own (i := 1) rfl) (row_one cLt_one)) rfl) (show j < ls.length from (by omega)) (by decide) (flat_part zLt cLt_len (show j < ls.length from (by omega))) Try.underlying87 rfl Try.sz87) ?_
      refine lf_ex (wantAll rfl) (hx_lit1 hH Try.stLts (cs := cLt (List.getD ls j zLt)) (xs := List.flatMap cLt [(List.getD ls j zLt)]) rfl (fr_eval rfl rfl) (cLt_ln (List.getD ls j zLt)) (by decide) (List.flatMap_singleton ..).symm) ?_
      clear hH
      rintro y1 w2 ⟨hH, hx⟩
      replace hH : Heap _ _ _ [_, _, _, _, _] := hH
      clear hx
      refine lf_ex (wantAll rfl) (hx_append hH Try.stLts (i := 3) (xs' := (((ls.take j).eraseIdx i) ++ [(List.getD ls j zLt)]).flatMap cLt) (nm := (((ls.take j).eraseIdx i) ++ [(List.getD ls j zLt)]).length) rfl rfl (fun _ => rfl) List.length_append.symm List.flatMap_append.symm (Own.rd (hH.own (i := 4) rfl) (row_one cLt_one)) (fr_eval rfl rfl) (fr_eval rfl rfl) (by simp only [List.length_append, List.length_eraseIdx, List.length_take, List.length_cons, List.length_nil]; split <;> omega)) ?_
      clear hH
      rintro y2 w3 ⟨hH, hx⟩
      replace hH : Heap _ _ _ [_, _, _, _, _] := hH
      clear hx
      refine lf_val (v := y2) (wantAll rfl) (rv_assign rfl (fr_eval rfl rfl)) ?_
      refine lf_nil ?_
      refine blk_n ?_
      refine then_n ?_
      replace hH : Heap _ _ _ [_, _, _, _] := hH.drop (.cons_cons _ (.cons_cons _ (.cons_cons _ (.cons_cons _ (.cons _ .slnil)))))
      refine wp_gen (fun F' => F' 0 = .pointer (some ⟨g, 0, none⟩) ∧ F' 1 = .int .i64 ((i : Nat) : Int) ∧ F' 4 = y2 ∧ F' 5 = .int .i64 ((j : Nat) : Int) ∧ F' 12 = .bool true ∧ F' 17 = .bool true) ⟨e0, e1, rfl, e5, e12, (e17.trans (congrArg Value.bool (decide_eq_true hc2)))⟩ ?_
      clear e0 e1 e4 e5 e12 e17
      clear F
      rintro F ⟨e0, e1, e4, e5, e12, e17⟩
      refine wp_regionF ?_
      refine lf_val (v := .int .i64 ((j : Nat) : Int)) (wantAll rfl) (rv_move rfl (fr_eval rfl e5)) ?_
      refine lf_val (v := .int .i64 ((j + 1 : Nat) : Int)) (wantAll rfl) (rv_add rfl (fr_eval rfl rfl) rfl (wrap_i64 (by omega) (by omega) (by omega))) ?_
      refine lf_val (v := .int .i64 ((j + 1 : Nat) : Int)) (wantAll rfl) (rv_assign rfl (fr_eval rfl rfl)) ?_
      refine lf_nil ?_
      refine then_n ?_
      rw [show ((ls.take j).eraseIdx i) ++ [(List.getD ls j zLt)] = (ls.take (j + 1)).eraseIdx i from out_next (by omega) hc2] at hH
      exact ⟨_, _, (by omega), rfl, j + 1, _, rfl, (by omega), e0, e1, e4, rfl, hH⟩
  · refine wp_cond_false (fr_eval rfl (e12.trans (congrArg Value.bool (decide_eq_false hc1)))) ?_
    refine wp_exit ?_
    refine then_exit ?_
    refine then_exit ?_
    refine blk_exit ?_
    refine then_n ?_
    obtain rfl : j = ls.length := by omega
    rw [show (ls.take ls.length).eraseIdx i = List.eraseIdx ls i from (by rw [List.take_length])] at hH
    refine wp_regionF ?_
    refine lf_val (v := .pointer (some ⟨g, 0, none⟩)) (wantAll rfl) (rv_move rfl (fr_eval rfl e0)) ?_
    refine lf_val (v := u) (wantAll rfl) (rv_move rfl (fr_eval rfl e4)) ?_
    refine lf_val (v := .pointer (some ⟨g, 0, none⟩)) (wantAll rfl) (rv_nilCheck rfl (fr_eval rfl rfl)) ?_
    refine lf_val (v := .pointer (some ⟨g, 0, none⟩)) (wantAll rfl) (rv_fieldAddr (n := 0) rfl (fr_eval rfl rfl) Try.underlying72 rfl rfl (by kernel_rfl)) ?_
    refine lf_sk (wantAll rfl) (hx_storeC hH (i := 0) (j := 0) (v := u) rfl rfl rfl (show 0 < 2 by decide) rfl (fr_eval rfl rfl) (fr_eval rfl rfl) Try.sz67 (Rd.oneV (Own.rd (hH.own (i := 3) rfl) (row_one cLt_one)))) ?_
    clear hH
    rintro w4 ⟨hH, hx⟩
    replace hH : Heap _ _ _ [_, _, _, _] := hH
    clear hx
    refine lf_nil ?_
    replace hH : Heap _ _ _ [_, _, _, _] := hH.bagSub (ms := List.eraseIdx ls i) (i := 2) rfl sub_erase rfl
    have hF := hH
    replace hF : Heap _ _ _ [_, _, _] := hF.drop (.cons_cons _ (.cons _ (.cons_cons _ (.cons_cons _ .slnil))))
    replace hF : Heap _ _ _ [_, _, _] := hF.perm (.cons _ (.trans (.swap _ _ _) (.cons _ (.refl _))))
    exact bodyPost_end (v := .tuple #[]) (res0 rfl) rfl (⟨_, rfl, hF⟩)

end Go.Proofs.Ytjgcjddaladgfaa
