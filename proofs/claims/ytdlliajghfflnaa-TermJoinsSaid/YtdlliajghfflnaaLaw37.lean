/- Chapter 37's laws: the walks of TermGrows, TermForges, TermJoins. -/
import Derived.Test.YtdlliajghfflnaaMinds2
namespace Go.Proofs.Ytdlliajghfflnaa
open Go.RowKit Go.Bz Go.Bz.Term
attribute [local irreducible] wpList Code.wp wpAnyX
theorem memT {α : Type} {l : List α} {i : Nat} {d : α} (h : i < l.length) : l.getD i d ∈ l := by
  rw [List.getD_eq_getElem?_getD, List.getElem?_eq_getElem h]; exact List.getElem_mem _
theorem stab_le {N : Nat → Prop} {w0 : World} {size n : Nat} {v : Value} {xs : List Value} (h : Stab N w0 size v n xs) : n ≤ 9223372036854775807 := by
  obtain ⟨_, _, ao, cap, _, h1, h2, _⟩ := h.rd w0 (Chg.refl _ _)
  unfold maxLen at h2; omega
theorem few_obt {N : Nat → Prop} {w0 : World} {v : Value} {l : List Tm} (h : Stab N w0 1 v l.length (l.flatMap cTm)) (hy : ∀ x ∈ l, Stab N w0 3 x.v.1 x.t.length (x.t.flatMap cNd)) : ∃ q : List Tm, q.length ≤ 8 ∧ Stab N w0 1 (fewV v l.length) q.length (q.flatMap cTm) ∧ ∀ x ∈ q, Stab N w0 3 x.v.1 x.t.length (x.t.flatMap cNd) :=
  ⟨l.take 8, by simp; omega, stab_few h, fun x hx => hy x (List.mem_of_mem_take hx)⟩

theorem zL7_g0 {a0 : Value} {a1 : Value} {a2 : Value} : ([a0, a1, a2])[0]? = some a0 := rfl
theorem zL7_g1 {a0 : Value} {a1 : Value} {a2 : Value} : ([a0, a1, a2])[1]? = some a1 := rfl
set_option maxRecDepth 100000 in
set_option maxHeartbeats 4000000 in
theorem few37_calls (l : List Tm) (v : Value) (w : World) (hr0 : Rd w 1 v l.length (l.flatMap cTm)) :
    Calls Try.prog 6 #[v] w fun e'' w' => e'' = .returned (fewV v l.length) ∧ Ext w w' := by
  refine calls_fr (args := [v]) (n := 9) Try.func6 rfl rfl (show 1 ≤ 9 by decide) ?_
  have hr := Rd.stab hr0
  have hH : Heap (newN w) w w [] := Heap.fresh
  refine wp_seq ?_
  refine wp_gen (fun F' => F' 0 = v) rfl ?_
  rintro F e0
  refine wp_regionF ?_
  refine lf_val (v := .slice none 0 0) (wantAll rfl) (rv_assign rfl rfl) ?_
  refine lf_nil ?_
  refine then_n ?_
  refine wp_seq ?_
  refine wp_seq ?_
  refine wp_gen (fun F' => F' 0 = v ∧ F' 2 = .slice none 0 0) ⟨e0, rfl⟩ ?_
  clear e0
  clear F
  rintro F ⟨e0, e2⟩
  refine wp_regionF ?_
  refine lf_val (v := v) (wantAll rfl) (rv_move rfl (fr_eval rfl e0)) ?_
  refine lf_val (v := .int .i64 ((l.length : Nat) : Int)) (wantAll rfl) (rv_len rfl (fr_eval rfl rfl) (hr.rd _ hH.chg) Try.underlying22) ?_
  refine lf_val (v := .bool (decide (l.length > 8))) (wantAll rfl) (rv_gtrP (p := l.length > 8) rfl (fr_eval rfl rfl) rfl (by omega)) ?_
  refine lf_nil ?_
  refine then_n ?_
  refine wp_gen (fun F' => F' 0 = v ∧ F' 2 = .slice none 0 0 ∧ F' 5 = .bool (decide (l.length > 8))) ⟨e0, e2, rfl⟩ ?_
  clear e0 e2
  clear F
  rintro F ⟨e0, e2, e5⟩
  by_cases hc1 : l.length > 8
  · refine wp_cond_true (fr_eval rfl (e5.trans (congrArg Value.bool (decide_eq_true hc1)))) ?_
    refine wp_seq ?_
    refine wp_regionF ?_
    refine lf_val (v := v) (wantAll rfl) (rv_move rfl (fr_eval rfl e0)) ?_
    refine lf_val (v := slcV v 1 0 8) (wantAll rfl) (rv_slcH (h := 8) Try.stTerms rfl (fr_eval rfl rfl) (rdN (hr.rd _ hH.chg) rfl) (show _ = Value.int _ ((8 : Nat) : Int) from rfl) (by omega)) ?_
    refine lf_val (v := slcV v 1 0 8) (wantAll rfl) (rv_assign rfl (fr_eval rfl rfl)) ?_
    refine lf_nil ?_
    refine then_n ?_
    refine wp_gen (fun F' => F' 0 = v ∧ F' 2 = slcV v 1 0 8 ∧ F' 5 = .bool true) ⟨e0, rfl, (e5.trans (congrArg Value.bool (decide_eq_true hc1)))⟩ ?_
    clear e0 e2 e5
    clear F
    rintro F ⟨e0, e2, e5⟩
    refine wp_ret ?_
    refine then_ret ?_
    exact bodyPost_ret (v := (slcV v 1 0 8)) (res1 rfl (ro_tmp rfl e2)) rfl (⟨(by unfold fewV; first | rw [if_pos (by omega)] | rw [if_neg (by omega)]), hH.done⟩)
  · refine wp_cond_false (fr_eval rfl (e5.trans (congrArg Value.bool (decide_eq_false hc1)))) ?_
    refine wp_skip ?_
    refine then_n ?_
    refine wp_seq ?_
    refine wp_regionF ?_
    refine lf_val (v := v) (wantAll rfl) (rv_move rfl (fr_eval rfl e0)) ?_
    refine lf_val (v := v) (wantAll rfl) (rv_assign rfl (fr_eval rfl rfl)) ?_
    refine lf_nil ?_
    refine then_n ?_
    refine wp_gen (fun F' => F' 0 = v ∧ F' 2 = v ∧ F' 5 = .bool false) ⟨e0, rfl, (e5.trans (congrArg Value.bool (decide_eq_false hc1)))⟩ ?_
    clear e0 e2 e5
    clear F
    rintro F ⟨e0, e2, e5⟩
    refine wp_ret ?_
    exact bodyPost_ret (v := v) (res1 rfl (ro_tmp rfl e2)) rfl (⟨(by unfold fewV; first | rw [if_pos (by omega)] | rw [if_neg (by omega)]), hH.done⟩)

set_option maxRecDepth 100000 in
set_option maxHeartbeats 4000000 in
theorem awake37_calls (w : World) :
    Calls Try.prog 7 #[] w fun e'' w' => e'' = .returned (.bool true) ∧ Ext w w' := by
  refine calls_fr (args := []) (n := 37) Try.func7 rfl rfl (show 0 ≤ 37 by decide) ?_
  have h00 : ([] : List Nd).length = 0 := rfl
  have h01 : ([] : List Nat).length = 0 := rfl
  have hH : Heap (newN w) w w [] := Heap.fresh
  refine wp_seq ?_
  refine wp_gen (fun F' => True) trivial ?_
  rintro F _
  refine wp_regionF ?_
  refine lf_val (v := .bool false) (wantAll rfl) (rv_assign rfl rfl) ?_
  refine lf_nil ?_
  refine then_n ?_
  refine wp_seq ?_
  refine wp_gen (fun F' => F' 0 = .bool false) rfl ?_
  clear F
  rintro F e0
  refine wp_regionF ?_
  refine lf_val (wantAll rfl) (rv_buildS (ps := []) (places := #[(0, 2), (2, 1)]) (z := .agg #[.slice none 0 0, .map none, .slice none 0 0]) (zc := [.slice none 0 0, .map none, .slice none 0 0]) (cs := [.slice none 0 0, .map none, .slice none 0 0]) rfl evpn (by kernel_rfl) rfl Try.underlying33 (fun _ => by kernel_rfl) fill0) ?_
  refine lf_ex (wantAll rfl) (hx_box hH 33 (cs := [.slice none 0 0, .map none, .slice none 0 0]) rfl (fr_eval rfl rfl) (by rfl)) ?_
  clear hH
  rintro _ w1 ⟨g1, rfl, hH, hx⟩
  replace hH : Heap _ _ _ [_] := hH
  clear hx
  refine lf_val (v := .pointer (some ⟨g1, 0, none⟩)) (wantAll rfl) (rv_assign rfl (fr_eval rfl rfl)) ?_
  refine lf_nil ?_
  refine then_n ?_
  refine wp_seq ?_
  refine wp_gen (fun F' => F' 0 = .bool false ∧ F' 1 = .pointer (some ⟨g1, 0, none⟩)) ⟨e0, rfl⟩ ?_
  clear e0
  clear F
  rintro F ⟨e0, e1⟩
  replace hH : Heap _ _ _ [_, _] := hH.addNil 40 3
  replace hH : Heap _ _ _ [_, _, _] := hH.addNil 3 1
  replace hH : Heap (newN w) w w1 [oBlk g1 ([(.slice none 0 0), .map none, (.slice none 0 0)]) 33, oRow cNd 40 3 (.slice none 0 0) [], oRow cNu 3 1 (.slice none 0 0) [], oMp none []] := hH.addMp0
  refine wp_regionF ?_
  refine lf_val (v := .pointer (some ⟨g1, 0, none⟩)) (wantAll rfl) (rv_move rfl (fr_eval rfl e1)) ?_
  refine lf_call (wantAll rfl) (rv_call (args := [.int .i64 5]) rfl (evc rfl evn) Try.call12) (of_calls 5 _) ?_
  rintro _ w2 ⟨⟨y1, rfl, ho, hg⟩, hx⟩
  refine ⟨_, rfl, ?_⟩
  replace hH : Heap _ _ _ [_, _, _, _, _] := hH.addOwn hx hg ho
  clear ho hg
  clear hx
  refine lf_call (wantAll rfl) (rv_call (args := [.int .i64 7]) rfl (evc rfl evn) Try.call12) (of_calls 7 _) ?_
  rintro _ w3 ⟨⟨y2, rfl, ho, hg⟩, hx⟩
  refine ⟨_, rfl, ?_⟩
  replace hH : Heap _ _ _ [_, _, _, _, _, _] := hH.addOwn hx hg ho
  clear ho hg
  clear hx
  refine lf_call (wantAll rfl) (rv_call (args := [.int .i64 5, y1, y2]) rfl (evc rfl (evc (fr_eval rfl rfl) (evc (fr_eval rfl rfl) evn))) Try.call10) (join_calls 5 (nameT 5) (nameT 7) (okT_name (by decide)) (okT_name (by decide)) _ _ _ (Own.rd (hH.own (i := 4) rfl) (row_one cNd_one)) (Own.rd (hH.own (i := 5) rfl) (row_one cNd_one))) ?_
  rintro _ w4 ⟨⟨y3, rfl, ho, hg⟩, hx⟩
  refine ⟨_, rfl, ?_⟩
  replace hH : Heap _ _ _ [_, _, _, _, _, _, _] := hH.addOwn hx hg ho
  clear ho hg
  clear hx
  refine lf_ex (wantAll rfl) (hx_lits hH Try.stTerms (n := 1) (nm := 1) [(.tmp 8)] (vs := [y3]) rfl (evc (fr_eval rfl rfl) evn) (ones_cons (Rd.oneV (Own.rd (hH.own (i := 6) rfl) (row_one cNd_one))) ones_nil) rfl (by decide) rfl rfl) ?_
  clear hH
  rintro y4 w5 ⟨hH, hx⟩
  replace hH : Heap _ _ _ [_, _, _, _, _, _, _, _] := hH
  clear hx
  replace hH : Heap _ _ _ [_, _, _, _, _, _, _, _] := hH.perm (.trans (.swap _ _ _) (.cons _ (.trans (.swap _ _ _) (.cons _ (.trans (.swap _ _ _) (.cons _ (.trans (.swap _ _ _) (.cons _ (.refl _)))))))))
  replace hH : Heap _ _ _ [_, _, _, _, _, _, _, _] := hH.perm (.cons _ (.trans (.swap _ _ _) (.cons _ (.trans (.swap _ _ _) (.cons _ (.trans (.swap _ _ _) (.cons _ (.trans (.swap _ _ _) (.cons _ (.refl _))))))))))
  replace hH : Heap _ _ _ [_, _, _, _, _, _, _, _] := hH.perm (.cons _ (.cons _ (.trans (.swap _ _ _) (.cons _ (.trans (.swap _ _ _) (.cons _ (.trans (.swap _ _ _) (.cons _ (.trans (.swap _ _ _) (.cons _ (.refl _)))))))))))
  replace hH : Heap _ _ _ [_, _, _, _, _, _, _, _] := hH.perm (.cons _ (.cons _ (.cons _ (.trans (.swap _ _ _) (.cons _ (.trans (.swap _ _ _) (.cons _ (.trans (.swap _ _ _) (.cons _ (.trans (.swap _ _ _) (.cons _ (.refl _))))))))))))
  replace hH : Heap _ _ _ [_, _, _, _, _, _, _, _] := hH.perm (.cons _ (.cons _ (.cons _ (.cons _ (.cons _ (.cons _ (.trans (.swap _ _ _) (.cons _ (.refl _)))))))))
  refine lf_call (wantAll rfl) (rv_call (args := [.pointer (some ⟨g1, 0, none⟩), y4]) rfl (evc (fr_eval rfl rfl) (evc (fr_eval rfl rfl) evn)) Try.call8) (learn_calls [] (by omega) [] (by omega) Ok.none (⟨⟨y3, (Rd.oneV (Own.rd (hH.own (i := 2) rfl) (row_one cNd_one)))⟩, joinT 5 (nameT 5) (nameT 7)⟩ : Tm) _ _ (Heap.rowStab (L := [_, _, _, _]) (M := [_, _, _, _]) hH (i := 3) rfl (ones_cons (Rd.oneV (Own.rd (hH.own (i := 2) rfl) (row_one cNd_one))) ones_nil)) (Heap.rowStab (L := [_, _, _, _]) (M := [_, _, _, _]) hH (i := 2) rfl (row_one cNd_one)) (Heap.part (L := [_, _, _, _]) (M := [_, _, _, _]) hH)) ?_
  rintro _ w6 ⟨u1, y5, q1, y6, rfl, hP⟩
  refine ⟨_, rfl, ?_⟩
  have hx := hH.callChg (L := [_, _, _, _]) (M := [_, _, _, _]) (fun _ h => h) hP
  replace hH : Heap _ _ _ [_, _, _, _, _, _, _, _] := hH.call (L := [_, _, _, _]) (M := [_, _, _, _]) (fun _ h => h) hP (Stays.blk (hP.blk (i := 0) rfl) (Stays.own (hP.own (i := 1) rfl) (Stays.mp (hP.mp (i := 2) rfl) (Stays.own (hP.own (i := 3) rfl) Stays.nil))))
  clear hP
  clear hx
  have hok1 := Ok.next (t := joinT 5 (nameT 5) (nameT 7)) Ok.none
  have hbl1 := bankC_le [] (joinT 5 (nameT 5) (nameT 7))
  have hkl1 := kn_le (ns := []) (t := joinT 5 (nameT 5) (nameT 7)) (kn := [])
  refine lf_nil ?_
  refine then_n ?_
  refine wp_seq ?_
  replace hH : Heap _ _ _ [_, _, _, _] := hH.drop (.cons _ (.cons _ (.cons _ (.cons _ (.cons_cons _ (.cons_cons _ (.cons_cons _ (.cons_cons _ .slnil))))))))
  refine wp_gen (fun F' => F' 0 = .bool false ∧ F' 1 = .pointer (some ⟨g1, 0, none⟩)) ⟨e0, e1⟩ ?_
  clear e0 e1
  clear F
  rintro F ⟨e0, e1⟩
  refine wp_regionF ?_
  refine lf_val (v := .pointer (some ⟨g1, 0, none⟩)) (wantAll rfl) (rv_move rfl (fr_eval rfl e1)) ?_
  refine lf_call (wantAll rfl) (rv_call (args := [.int .i64 7]) rfl (evc rfl evn) Try.call12) (of_calls 7 _) ?_
  rintro _ w7 ⟨⟨y7, rfl, ho, hg⟩, hx⟩
  refine ⟨_, rfl, ?_⟩
  replace hH : Heap _ _ _ [_, _, _, _, _] := hH.addOwn hx hg ho
  clear ho hg
  clear hx
  replace hH : Heap _ _ _ [_, _, _, _, _] := hH.perm (.trans (.swap _ _ _) (.cons _ (.trans (.swap _ _ _) (.cons _ (.trans (.swap _ _ _) (.cons _ (.trans (.swap _ _ _) (.cons _ (.refl _)))))))))
  refine lf_call (wantAll rfl) (rv_call (args := [.pointer (some ⟨g1, 0, none⟩), y7]) rfl (evc (fr_eval rfl rfl) (evc (fr_eval rfl rfl) evn)) Try.call9) (can_calls (bankC [] (joinT 5 (nameT 5) (nameT 7))) (by omega) (knC [] [] (joinT 5 (nameT 5) (nameT 7))) (by omega) hok1 (nameT 7) _ _ (Heap.rowStab (L := [_]) (M := [_, _, _, _]) hH (i := 0) rfl (row_one cNd_one)) (Heap.part (L := [_]) (M := [_, _, _, _]) hH)) ?_
  rintro _ w8 ⟨y8, q2, rfl, hP⟩
  refine ⟨_, rfl, ?_⟩
  have hx := hH.callChg (L := [_]) (M := [_, _, _, _]) (fun _ h => h) hP
  replace hH : Heap _ _ _ [_, _, _, _, _] := hH.call (L := [_]) (M := [_, _, _, _]) (fun _ h => h) hP (Stays.blk (hP.blk (i := 0) rfl) (Stays.own (hP.own (i := 1) rfl) (Stays.mp (hP.mp (i := 2) rfl) (Stays.own (hP.own (i := 3) rfl) Stays.nil))))
  clear hP
  clear hx
  have hok2 := Ok.can (t := nameT 7) hok1
  have hbl2 := bankC_le (bankC [] (joinT 5 (nameT 5) (nameT 7))) (nameT 7)
  refine lf_val (v := .bool false) (wantAll rfl) (rv_assign rfl (fr_eval rfl (congrArg Value.bool (decide_eq_false ex_no)))) ?_
  refine lf_nil ?_
  refine then_n ?_
  refine wp_seq ?_
  replace hH : Heap _ _ _ [_, _, _, _] := hH.drop (.cons _ (.cons_cons _ (.cons_cons _ (.cons_cons _ (.cons_cons _ .slnil)))))
  refine wp_gen (fun F' => F' 0 = .bool false ∧ F' 1 = .pointer (some ⟨g1, 0, none⟩) ∧ F' 2 = .bool false) ⟨e0, e1, rfl⟩ ?_
  clear e0 e1
  clear F
  rintro F ⟨e0, e1, e2⟩
  refine wp_regionF ?_
  refine lf_val (v := .pointer (some ⟨g1, 0, none⟩)) (wantAll rfl) (rv_move rfl (fr_eval rfl e1)) ?_
  refine lf_call (wantAll rfl) (rv_call (args := [.int .i64 5]) rfl (evc rfl evn) Try.call12) (of_calls 5 _) ?_
  rintro _ w9 ⟨⟨y9, rfl, ho, hg⟩, hx⟩
  refine ⟨_, rfl, ?_⟩
  replace hH : Heap _ _ _ [_, _, _, _, _] := hH.addOwn hx hg ho
  clear ho hg
  clear hx
  refine lf_ex (wantAll rfl) (hx_lits hH Try.stTerms (n := 1) (nm := 1) [(.tmp 15)] (vs := [y9]) rfl (evc (fr_eval rfl rfl) evn) (ones_cons (Rd.oneV (Own.rd (hH.own (i := 4) rfl) (row_one cNd_one))) ones_nil) rfl (by decide) rfl rfl) ?_
  clear hH
  rintro y10 w10 ⟨hH, hx⟩
  replace hH : Heap _ _ _ [_, _, _, _, _, _] := hH
  clear hx
  replace hH : Heap _ _ _ [_, _, _, _, _, _] := hH.perm (.trans (.swap _ _ _) (.cons _ (.trans (.swap _ _ _) (.cons _ (.trans (.swap _ _ _) (.cons _ (.trans (.swap _ _ _) (.cons _ (.refl _)))))))))
  replace hH : Heap _ _ _ [_, _, _, _, _, _] := hH.perm (.cons _ (.trans (.swap _ _ _) (.cons _ (.trans (.swap _ _ _) (.cons _ (.trans (.swap _ _ _) (.cons _ (.trans (.swap _ _ _) (.cons _ (.refl _))))))))))
  refine lf_call (wantAll rfl) (rv_call (args := [.pointer (some ⟨g1, 0, none⟩), y10]) rfl (evc (fr_eval rfl rfl) (evc (fr_eval rfl rfl) evn)) Try.call8) (learn_calls (bankC (bankC [] (joinT 5 (nameT 5) (nameT 7))) (nameT 7)) (by omega) (knC [] [] (joinT 5 (nameT 5) (nameT 7))) (by omega) hok2 (⟨⟨y9, (Rd.oneV (Own.rd (hH.own (i := 0) rfl) (row_one cNd_one)))⟩, nameT 5⟩ : Tm) _ _ (Heap.rowStab (L := [_, _]) (M := [_, _, _, _]) hH (i := 1) rfl (ones_cons (Rd.oneV (Own.rd (hH.own (i := 0) rfl) (row_one cNd_one))) ones_nil)) (Heap.rowStab (L := [_, _]) (M := [_, _, _, _]) hH (i := 0) rfl (row_one cNd_one)) (Heap.part (L := [_, _]) (M := [_, _, _, _]) hH)) ?_
  rintro _ w11 ⟨u2, y11, q3, y12, rfl, hP⟩
  refine ⟨_, rfl, ?_⟩
  have hx := hH.callChg (L := [_, _]) (M := [_, _, _, _]) (fun _ h => h) hP
  replace hH : Heap _ _ _ [_, _, _, _, _, _] := hH.call (L := [_, _]) (M := [_, _, _, _]) (fun _ h => h) hP (Stays.blk (hP.blk (i := 0) rfl) (Stays.own (hP.own (i := 1) rfl) (Stays.mp (hP.mp (i := 2) rfl) (Stays.own (hP.own (i := 3) rfl) Stays.nil))))
  clear hP
  clear hx
  have hok3 := Ok.next (t := nameT 5) hok2
  have hbl3 := bankC_le (bankC (bankC [] (joinT 5 (nameT 5) (nameT 7))) (nameT 7)) (nameT 5)
  have hkl2 := kn_le (ns := bankC (bankC [] (joinT 5 (nameT 5) (nameT 7))) (nameT 7)) (t := nameT 5) (kn := knC [] [] (joinT 5 (nameT 5) (nameT 7)))
  refine lf_nil ?_
  refine then_n ?_
  refine wp_seq ?_
  replace hH : Heap _ _ _ [_, _, _, _] := hH.drop (.cons _ (.cons _ (.cons_cons _ (.cons_cons _ (.cons_cons _ (.cons_cons _ .slnil))))))
  refine wp_gen (fun F' => F' 0 = .bool false ∧ F' 1 = .pointer (some ⟨g1, 0, none⟩) ∧ F' 2 = .bool false) ⟨e0, e1, e2⟩ ?_
  clear e0 e1 e2
  clear F
  rintro F ⟨e0, e1, e2⟩
  refine wp_regionF ?_
  refine lf_val (v := .bool false) (wantAll rfl) (rv_move rfl (fr_eval rfl e2)) ?_
  refine lf_val (v := .bool true) (wantAll rfl) (rv_not (b := false) rfl (fr_eval rfl rfl)) ?_
  refine lf_val (v := .bool true) (wantAll rfl) (rv_move rfl (fr_eval rfl rfl)) ?_
  refine lf_val (v := .pointer (some ⟨g1, 0, none⟩)) (wantF (d := 20) rfl (by kernel_rfl) rfl rfl) (rv_move rfl (fr_eval rfl e1)) ?_
  refine lf_call (wantF (d := 20) rfl (by kernel_rfl) rfl rfl) (rv_call (args := [.int .i64 7]) rfl (evc rfl evn) Try.call12) (of_calls 7 _) ?_
  rintro _ w12 ⟨⟨y13, rfl, ho, hg⟩, hx⟩
  refine ⟨_, rfl, ?_⟩
  replace hH : Heap _ _ _ [_, _, _, _, _] := hH.addOwn hx hg ho
  clear ho hg
  clear hx
  replace hH : Heap _ _ _ [_, _, _, _, _] := hH.perm (.trans (.swap _ _ _) (.cons _ (.trans (.swap _ _ _) (.cons _ (.trans (.swap _ _ _) (.cons _ (.trans (.swap _ _ _) (.cons _ (.refl _)))))))))
  refine lf_call (wantF (d := 20) rfl (by kernel_rfl) rfl rfl) (rv_call (args := [.pointer (some ⟨g1, 0, none⟩), y13]) rfl (evc (fr_eval rfl rfl) (evc (fr_eval rfl rfl) evn)) Try.call9) (can_calls (bankC (bankC (bankC [] (joinT 5 (nameT 5) (nameT 7))) (nameT 7)) (nameT 5)) (by omega) (knC (bankC (bankC [] (joinT 5 (nameT 5) (nameT 7))) (nameT 7)) (knC [] [] (joinT 5 (nameT 5) (nameT 7))) (nameT 5)) (by omega) hok3 (nameT 7) _ _ (Heap.rowStab (L := [_]) (M := [_, _, _, _]) hH (i := 0) rfl (row_one cNd_one)) (Heap.part (L := [_]) (M := [_, _, _, _]) hH)) ?_
  rintro _ w13 ⟨y14, q4, rfl, hP⟩
  refine ⟨_, rfl, ?_⟩
  have hx := hH.callChg (L := [_]) (M := [_, _, _, _]) (fun _ h => h) hP
  replace hH : Heap _ _ _ [_, _, _, _, _] := hH.call (L := [_]) (M := [_, _, _, _]) (fun _ h => h) hP (Stays.blk (hP.blk (i := 0) rfl) (Stays.own (hP.own (i := 1) rfl) (Stays.mp (hP.mp (i := 2) rfl) (Stays.own (hP.own (i := 3) rfl) Stays.nil))))
  clear hP
  clear hx
  have hok4 := Ok.can (t := nameT 7) hok3
  have hbl4 := bankC_le (bankC (bankC (bankC [] (joinT 5 (nameT 5) (nameT 7))) (nameT 7)) (nameT 5)) (nameT 7)
  refine lf_val (v := .bool true) (wantAll rfl) (rv_pickT rfl (fr_eval rfl rfl) (fr_eval rfl (congrArg Value.bool (decide_eq_true ex_yes)))) ?_
  refine lf_val (v := .bool true) (wantAll rfl) (rv_move rfl (fr_eval rfl rfl)) ?_
  refine lf_val (v := .bool true) (wantAll rfl) (rv_pickT rfl (fr_eval rfl rfl) rfl) ?_
  refine lf_val (v := .bool true) (wantAll rfl) (rv_move rfl (fr_eval rfl rfl)) ?_
  refine lf_val (v := .bool true) (wantAll rfl) (rv_pickT rfl (fr_eval rfl rfl) rfl) ?_
  refine lf_val (v := .bool true) (wantAll rfl) (rv_move rfl (fr_eval rfl rfl)) ?_
  refine lf_val (v := .bool true) (wantAll rfl) (rv_pickT rfl (fr_eval rfl rfl) rfl) ?_
  refine lf_val (v := .bool true) (wantAll rfl) (rv_move rfl (fr_eval rfl rfl)) ?_
  refine lf_val (v := .bool true) (wantAll rfl) (rv_pickT rfl (fr_eval rfl rfl) rfl) ?_
  refine lf_val (v := .bool true) (wantAll rfl) (rv_move rfl (fr_eval rfl rfl)) ?_
  refine lf_val (v := .bool true) (wantAll rfl) (rv_pickT rfl (fr_eval rfl rfl) rfl) ?_
  refine lf_val (v := .bool true) (wantAll rfl) (rv_move rfl (fr_eval rfl rfl)) ?_
  refine lf_val (v := .bool true) (wantAll rfl) (rv_pickT rfl (fr_eval rfl rfl) rfl) ?_
  refine lf_val (v := .bool true) (wantAll rfl) (rv_assign rfl (fr_eval rfl rfl)) ?_
  refine lf_nil ?_
  refine then_n ?_
  replace hH : Heap _ _ _ [_, _, _, _] := hH.drop (.cons _ (.cons_cons _ (.cons_cons _ (.cons_cons _ (.cons_cons _ .slnil)))))
  refine wp_gen (fun F' => F' 0 = .bool true ∧ F' 1 = .pointer (some ⟨g1, 0, none⟩) ∧ F' 2 = .bool false) ⟨rfl, e1, e2⟩ ?_
  clear e0 e1 e2
  clear F
  rintro F ⟨e0, e1, e2⟩
  refine wp_ret ?_
  exact bodyPost_ret (v := (.bool true)) (res1 rfl (ro_tmp rfl e0)) rfl (⟨rfl, hH.done⟩)

set_option maxRecDepth 100000 in
set_option maxHeartbeats 4000000 in
theorem termGrows_walk (l : List Tm) (v : Value) (more a b : List Nd) (vm va vb : Value) (z : Int) (w : World) (hr0 : Rd w 1 v l.length (l.flatMap cTm)) (hy0 : ∀ x ∈ l, Rd w 3 x.v.1 x.t.length (x.t.flatMap cNd)) (hm0 : Rd w 3 vm more.length (more.flatMap cNd)) (ha0 : Rd w 3 va a.length (a.flatMap cNd)) (hb0 : Rd w 3 vb b.length (b.flatMap cNd)) :
    Calls Try.prog 3 #[v, vm, va, vb, .int .i64 z] w fun e'' w' => e'' = .returned (.bool true) ∧ Ext w w' := by
  refine calls_fr (args := [v, vm, va, vb, .int .i64 z]) (n := 101) Try.func3 rfl rfl (show 5 ≤ 101 by decide) ?_
  have h00 : ([] : List Nd).length = 0 := rfl
  have h01 : ([] : List Nat).length = 0 := rfl
  have hr := Rd.stab hr0
  have hy := fun x hx => Rd.stab (hy0 x hx)
  have hm := Rd.stab hm0
  have ha := Rd.stab ha0
  have hb := Rd.stab hb0
  have hH : Heap (newN w) w w [] := Heap.fresh
  refine wp_seq ?_
  refine wp_gen (fun F' => F' 0 = v ∧ F' 1 = vm ∧ F' 2 = va ∧ F' 3 = vb ∧ F' 4 = .int .i64 z) ⟨rfl, rfl, rfl, rfl, rfl⟩ ?_
  rintro F ⟨e0, e1, e2, e3, e4⟩
  refine wp_regionF ?_
  refine lf_val (v := .bool false) (wantAll rfl) (rv_assign rfl rfl) ?_
  refine lf_nil ?_
  refine then_n ?_
  refine wp_seq ?_
  refine wp_gen (fun F' => F' 0 = v ∧ F' 1 = vm ∧ F' 2 = va ∧ F' 3 = vb ∧ F' 4 = .int .i64 z ∧ F' 10 = .bool false) ⟨e0, e1, e2, e3, e4, rfl⟩ ?_
  clear e0 e1 e2 e3 e4
  clear F
  rintro F ⟨e0, e1, e2, e3, e4, e10⟩
  refine wp_regionF ?_
  refine lf_val (v := v) (wantAll rfl) (rv_move rfl (fr_eval rfl e0)) ?_
  obtain ⟨q, hq8, hqs, hqy⟩ := few_obt hr hy
  refine lf_call (wantAll rfl) (rv_call (args := [v]) rfl (evc (fr_eval rfl rfl) evn) Try.call6) (few37_calls l _ _ (hr.rd _ hH.chg)) ?_
  rintro _ w1 ⟨rfl, hx⟩
  refine ⟨_, rfl, ?_⟩
  replace hH := hH.ext hx
  clear hx
  refine lf_val (v := fewV v l.length) (wantAll rfl) (rv_assign rfl (fr_eval rfl rfl)) ?_
  refine lf_nil ?_
  refine then_n ?_
  refine wp_seq ?_
  refine wp_seq ?_
  refine wp_gen (fun F' => F' 0 = fewV v l.length ∧ F' 1 = vm ∧ F' 2 = va ∧ F' 3 = vb ∧ F' 4 = .int .i64 z ∧ F' 10 = .bool false) ⟨rfl, e1, e2, e3, e4, e10⟩ ?_
  clear e0 e1 e2 e3 e4 e10
  clear F
  rintro F ⟨e0, e1, e2, e3, e4, e10⟩
  refine wp_regionF ?_
  refine lf_val (v := va) (wantAll rfl) (rv_move rfl (fr_eval rfl e2)) ?_
  refine lf_val (v := .int .i64 ((a.length : Nat) : Int)) (wantAll rfl) (rv_len rfl (fr_eval rfl rfl) (ha.rd _ hH.chg) Try.underlying24) ?_
  refine lf_val (v := .bool (decide (a.length > 20))) (wantAll rfl) (rv_gtrP (p := a.length > 20) rfl (fr_eval rfl rfl) rfl (by omega)) ?_
  refine lf_val (v := .bool (decide (a.length > 20))) (wantAll rfl) (rv_move rfl (fr_eval rfl rfl)) ?_
  refine lf_joinP (fun F' => F' 0 = fewV v l.length ∧ F' 1 = vm ∧ F' 2 = va ∧ F' 3 = vb ∧ F' 4 = .int .i64 z ∧ F' 10 = .bool false ∧ F' 24 = .bool (decide ((a.length > 20) ∨ (b.length > 20)))) 4 (fun hk => ?_) ?_
  · by_cases hc1 : a.length > 20
    · refine lf_not (wantNot (d := 20) rfl (by kernel_rfl) rfl (congrArg Value.bool (decide_eq_true hc1))) ?_
      refine lf_not (wantNot (d := 20) rfl (by kernel_rfl) rfl (congrArg Value.bool (decide_eq_true hc1))) ?_
      refine lf_not (wantNot (d := 20) rfl (by kernel_rfl) rfl (congrArg Value.bool (decide_eq_true hc1))) ?_
      refine lf_val (v := .bool true) (wantAll rfl) (rv_pickT rfl (fr_eval rfl (congrArg Value.bool (decide_eq_true hc1))) rfl) ?_
      exact hk _ ⟨e0, e1, e2, e3, e4, e10, (congrArg Value.bool (dec_orT hc1))⟩
    · refine lf_val (v := vb) (wantF (d := 20) rfl (by kernel_rfl) rfl (congrArg Value.bool (decide_eq_false hc1))) (rv_move rfl (fr_eval rfl e3)) ?_
      refine lf_val (v := .int .i64 ((b.length : Nat) : Int)) (wantF (d := 20) rfl (by kernel_rfl) rfl (congrArg Value.bool (decide_eq_false hc1))) (rv_len rfl (fr_eval rfl rfl) (hb.rd _ hH.chg) Try.underlying24) ?_
      refine lf_val (v := .bool (decide (b.length > 20))) (wantF (d := 20) rfl (by kernel_rfl) rfl (congrArg Value.bool (decide_eq_false hc1))) (rv_gtrP (p := b.length > 20) rfl (fr_eval rfl rfl) rfl (by omega)) ?_
      refine lf_val (v := .bool (decide (b.length > 20))) (wantAll rfl) (rv_pickF rfl (fr_eval rfl (congrArg Value.bool (decide_eq_false hc1))) (fr_eval rfl rfl)) ?_
      exact hk _ ⟨e0, e1, e2, e3, e4, e10, (congrArg Value.bool (dec_or hc1))⟩
  · clear e0 e1 e2 e3 e4 e10
    clear F
    rintro F ⟨e0, e1, e2, e3, e4, e10, e24⟩
    refine lf_nil ?_
    refine then_n ?_
    by_cases hc2 : (a.length > 20) ∨ (b.length > 20)
    · refine wp_cond_true (fr_eval rfl (e24.trans (congrArg Value.bool (decide_eq_true hc2)))) ?_
      refine wp_seq ?_
      refine wp_regionF ?_
      refine lf_call (wantAll rfl) (rv_call (args := []) rfl evn Try.call7) (awake37_calls _) ?_
      rintro _ w2 ⟨rfl, hx⟩
      refine ⟨_, rfl, ?_⟩
      replace hH := hH.ext hx
      clear hx
      refine lf_val (v := .bool true) (wantAll rfl) (rv_assign rfl (fr_eval rfl rfl)) ?_
      refine lf_nil ?_
      refine then_n ?_
      refine wp_gen (fun F' => F' 0 = fewV v l.length ∧ F' 1 = vm ∧ F' 2 = va ∧ F' 3 = vb ∧ F' 4 = .int .i64 z ∧ F' 10 = .bool true ∧ F' 24 = .bool true) ⟨e0, e1, e2, e3, e4, rfl, (e24.trans (congrArg Value.bool (decide_eq_true hc2)))⟩ ?_
      clear e0 e1 e2 e3 e4 e10 e24
      clear F
      rintro F ⟨e0, e1, e2, e3, e4, e10, e24⟩
      refine wp_ret ?_
      refine then_ret ?_
      exact bodyPost_ret (v := (.bool true)) (res1 rfl (ro_tmp rfl e10)) rfl (⟨rfl, hH.done⟩)
    · refine wp_cond_false (fr_eval rfl (e24.trans (congrArg Value.bool (decide_eq_false hc2)))) ?_
      refine wp_skip ?_
      refine then_n ?_
      refine wp_seq ?_
      refine wp_regionF ?_
      refine lf_val (wantAll rfl) (rv_buildS (ps := []) (places := #[(0, 2), (2, 1)]) (z := .agg #[.slice none 0 0, .map none, .slice none 0 0]) (zc := [.slice none 0 0, .map none, .slice none 0 0]) (cs := [.slice none 0 0, .map none, .slice none 0 0]) rfl evpn (by kernel_rfl) rfl Try.underlying33 (fun _ => by kernel_rfl) fill0) ?_
      refine lf_ex (wantAll rfl) (hx_box hH 33 (cs := [.slice none 0 0, .map none, .slice none 0 0]) rfl (fr_eval rfl rfl) (by rfl)) ?_
      clear hH
      rintro _ w3 ⟨g1, rfl, hH, hx⟩
      replace hH : Heap _ _ _ [_] := hH
      clear hx
      refine lf_val (v := .pointer (some ⟨g1, 0, none⟩)) (wantAll rfl) (rv_assign rfl (fr_eval rfl rfl)) ?_
      refine lf_nil ?_
      refine then_n ?_
      refine wp_seq ?_
      refine wp_seq ?_
      refine wp_gen (fun F' => F' 0 = fewV v l.length ∧ F' 1 = vm ∧ F' 2 = va ∧ F' 3 = vb ∧ F' 4 = .int .i64 z ∧ F' 10 = .bool false ∧ F' 11 = .pointer (some ⟨g1, 0, none⟩) ∧ F' 24 = .bool false) ⟨e0, e1, e2, e3, e4, e10, rfl, (e24.trans (congrArg Value.bool (decide_eq_false hc2)))⟩ ?_
      clear e0 e1 e2 e3 e4 e10 e24
      clear F
      rintro F ⟨e0, e1, e2, e3, e4, e10, e11, e24⟩
      replace hH : Heap _ _ _ [_, _] := hH.addNil 40 3
      replace hH : Heap _ _ _ [_, _, _] := hH.addNil 3 1
      replace hH : Heap (newN w) w w3 [oBlk g1 ([(.slice none 0 0), .map none, (.slice none 0 0)]) 33, oRow cNd 40 3 (.slice none 0 0) [], oRow cNu 3 1 (.slice none 0 0) [], oMp none []] := hH.addMp0
      refine wp_regionF ?_
      refine lf_val (v := .int .i64 0) (wantAll rfl) (rv_assign rfl rfl) ?_
      refine lf_nil ?_
      refine then_n ?_
      refine wp_block ?_
      refine wp_gen (fun F' => F' 0 = fewV v l.length ∧ F' 1 = vm ∧ F' 2 = va ∧ F' 3 = vb ∧ F' 4 = .int .i64 z ∧ F' 10 = .bool false ∧ F' 11 = .pointer (some ⟨g1, 0, none⟩) ∧ F' 12 = .int .i64 0 ∧ F' 24 = .bool false) ⟨e0, e1, e2, e3, e4, e10, e11, rfl, e24⟩ ?_
      clear e0 e1 e2 e3 e4 e10 e11 e24
      clear F
      rintro F ⟨e0, e1, e2, e3, e4, e10, e11, e12, e24⟩
      refine wp_loopF (fun m F wr => ∃ i : Nat, ∃ ns : List Nd, ∃ kn : List Nat, ∃ u : Value, ∃ mu : Option Nat, ∃ ku : Value, m = q.length - i ∧ i ≤ q.length ∧ Ok ns kn ∧ ns.length ≤ 64 * i ∧ kn.length ≤ i ∧ F 0 = fewV v l.length ∧ F 1 = vm ∧ F 2 = va ∧ F 3 = vb ∧ F 4 = .int .i64 z ∧ F 10 = .bool false ∧ F 11 = .pointer (some ⟨g1, 0, none⟩) ∧ F 12 = .int .i64 ((i : Nat) : Int) ∧ F 24 = .bool false ∧ Heap (newN w) w wr [oBlk g1 ([u, .map mu, ku]) 33, oRow cNd 40 3 u ns, oRow cNu 3 1 ku kn, oMp mu ns]) ⟨0, [], [], _, _, _, rfl, Nat.zero_le _, Ok.none, (by omega), (by omega), e0, e1, e2, e3, e4, e10, e11, e12, e24, hH⟩ ?_
      clear e0 e1 e2 e3 e4 e10 e11 e12 e24 hH
      clear F
      rintro m F w4 ⟨i, ns, kn, u, mu, ku, rfl, pi0, pi1, pi2, pi3, e0, e1, e2, e3, e4, e10, e11, e12, e24, hH⟩
      refine wp_seq ?_
      refine wp_seq ?_
      refine wp_regionF ?_
      refine lf_val (v := .int .i64 ((i : Nat) : Int)) (wantAll rfl) (rv_move rfl (fr_eval rfl e12)) ?_
      refine lf_val (v := fewV v l.length) (wantAll rfl) (rv_move rfl (fr_eval rfl e0)) ?_
      refine lf_val (v := .int .i64 ((q.length : Nat) : Int)) (wantAll rfl) (rv_len rfl (fr_eval rfl rfl) (hqs.rd _ hH.chg) Try.underlying22) ?_
      refine lf_val (v := .bool (decide (i < q.length))) (wantAll rfl) (rv_lssP (p := i < q.length) rfl (fr_eval rfl rfl) (fr_eval rfl rfl) (by omega)) ?_
      refine lf_nil ?_
      refine then_n ?_
      refine wp_gen (fun F' => F' 0 = fewV v l.length ∧ F' 1 = vm ∧ F' 2 = va ∧ F' 3 = vb ∧ F' 4 = .int .i64 z ∧ F' 10 = .bool false ∧ F' 11 = .pointer (some ⟨g1, 0, none⟩) ∧ F' 12 = .int .i64 ((i : Nat) : Int) ∧ F' 24 = .bool false ∧ F' 31 = .bool (decide (i < q.length))) ⟨e0, e1, e2, e3, e4, e10, e11, e12, e24, rfl⟩ ?_
      clear e0 e1 e2 e3 e4 e10 e11 e12 e24
      clear F
      rintro F ⟨e0, e1, e2, e3, e4, e10, e11, e12, e24, e31⟩
      by_cases hc3 : i < q.length
      · refine wp_cond_true (fr_eval rfl (e31.trans (congrArg Value.bool (decide_eq_true hc3)))) ?_
        refine wp_skip ?_
        refine then_n ?_
        refine wp_seq ?_
        refine wp_block ?_
        refine wp_regionF ?_
        refine lf_val (v := .pointer (some ⟨g1, 0, none⟩)) (wantAll rfl) (rv_move rfl (fr_eval rfl e11)) ?_
        refine lf_val (v := fewV v l.length) (wantAll rfl) (rv_move rfl (fr_eval rfl e0)) ?_
        refine lf_val (v := .int .i64 ((i : Nat) : Int)) (wantAll rfl) (rv_move rfl (fr_eval rfl e12)) ?_
        refine lf_val (v := .pointer (some (elemA (fewV v l.length) (i * 1)))) (wantAll rfl) (rv_index rfl (fr_eval rfl rfl) (fr_eval rfl rfl) (rdN (hqs.rd _ hH.chg) rfl) (show i < q.length from (by omega)) Try.underlying22 Try.sz24 (by decide)) ?_
        refine lf_val (v := (List.getD q i zTm).v.1) (wantAll rfl) (rv_loadCell rfl (fr_eval rfl rfl) (Nat.mul_one _) (hqs.rd _ hH.chg) (flat_get1 zTm cTm_len (show i < q.length from (by omega)) rfl) Try.underlying24 rfl Try.sz24) ?_
        refine lf_ex (wantAll rfl) (hx_lits hH Try.stTerms (n := 1) (nm := 1) [(.tmp 38)] (vs := [(List.getD q i zTm).v.1]) rfl (evc (fr_eval rfl rfl) evn) (ones_cons (Rd.oneV ((hqy _ (memT (by omega))).rd _ hH.chg)) ones_nil) rfl (by decide) rfl rfl) ?_
        clear hH
        rintro y1 w5 ⟨hH, hx⟩
        replace hH : Heap _ _ _ [_, _, _, _, _] := hH
        clear hx
        replace hH : Heap _ _ _ [_, _, _, _, _] := hH.perm (.trans (.swap _ _ _) (.cons _ (.trans (.swap _ _ _) (.cons _ (.trans (.swap _ _ _) (.cons _ (.trans (.swap _ _ _) (.cons _ (.refl _)))))))))
        replace hH : Heap _ _ _ [_, _, _, _, _] := hH.perm (.cons _ (.cons _ (.cons _ (.trans (.swap _ _ _) (.cons _ (.refl _))))))
        refine lf_call (wantAll rfl) (rv_call (args := [.pointer (some ⟨g1, 0, none⟩), y1]) rfl (evc (fr_eval rfl rfl) (evc (fr_eval rfl rfl) evn)) Try.call8) (learn_calls ns (by omega) kn (by omega) pi1 (⟨⟨(List.getD q i zTm).v.1, (Rd.oneV ((hqy _ (memT (by omega))).rd _ hH.chg))⟩, (List.getD q i zTm).t⟩ : Tm) _ _ (Heap.rowStab (L := [_]) (M := [_, _, _, _]) hH (i := 0) rfl (ones_cons (Rd.oneV ((hqy _ (memT (by omega))).rd _ hH.chg)) ones_nil)) (Stab.part (L := [_]) (M := [_, _, _, _]) (hqy _ (memT (by omega))) hH) (Heap.part (L := [_]) (M := [_, _, _, _]) hH)) ?_
        rintro _ w6 ⟨u1, y2, q1, y3, rfl, hP⟩
        refine ⟨_, rfl, ?_⟩
        have hx := hH.callChg (L := [_]) (M := [_, _, _, _]) (fun _ h => h) hP
        replace hH : Heap _ _ _ [_, _, _, _, _] := hH.call (L := [_]) (M := [_, _, _, _]) (fun _ h => h) hP (Stays.blk (hP.blk (i := 0) rfl) (Stays.own (hP.own (i := 1) rfl) (Stays.mp (hP.mp (i := 2) rfl) (Stays.own (hP.own (i := 3) rfl) Stays.nil))))
        clear hP
        clear hx
        have hok1 := Ok.next (t := (List.getD q i zTm).t) pi1
        have hbl1 := bankC_le ns ((List.getD q i zTm).t)
        have hkl1 := kn_le (ns := ns) (t := (List.getD q i zTm).t) (kn := kn)
        refine lf_nil ?_
        refine blk_n ?_
        refine then_n ?_
        replace hH : Heap _ _ _ [_, _, _, _] := hH.drop (.cons _ (.cons_cons _ (.cons_cons _ (.cons_cons _ (.cons_cons _ .slnil)))))
        refine wp_gen (fun F' => F' 0 = fewV v l.length ∧ F' 1 = vm ∧ F' 2 = va ∧ F' 3 = vb ∧ F' 4 = .int .i64 z ∧ F' 10 = .bool false ∧ F' 11 = .pointer (some ⟨g1, 0, none⟩) ∧ F' 12 = .int .i64 ((i : Nat) : Int) ∧ F' 24 = .bool false ∧ F' 31 = .bool true) ⟨e0, e1, e2, e3, e4, e10, e11, e12, e24, (e31.trans (congrArg Value.bool (decide_eq_true hc3)))⟩ ?_
        clear e0 e1 e2 e3 e4 e10 e11 e12 e24 e31
        clear F
        rintro F ⟨e0, e1, e2, e3, e4, e10, e11, e12, e24, e31⟩
        refine wp_regionF ?_
        refine lf_val (v := .int .i64 ((i : Nat) : Int)) (wantAll rfl) (rv_move rfl (fr_eval rfl e12)) ?_
        refine lf_val (v := .int .i64 ((i + 1 : Nat) : Int)) (wantAll rfl) (rv_add rfl (fr_eval rfl rfl) rfl (wrap_i64 (by omega) (by omega) (by omega))) ?_
        refine lf_val (v := .int .i64 ((i + 1 : Nat) : Int)) (wantAll rfl) (rv_assign rfl (fr_eval rfl rfl)) ?_
        refine lf_nil ?_
        refine then_n ?_
        replace hH : Heap _ _ _ [_, _, _, _] := hH.perm (.cons _ (.cons _ (.trans (.swap _ _ _) (.cons _ (.refl _)))))
        exact ⟨_, _, (by omega), rfl, i + 1, _, _, _, _, _, rfl, (by omega), hok1, (by omega), (by omega), e0, e1, e2, e3, e4, e10, e11, rfl, e24, hH⟩
      · refine wp_cond_false (fr_eval rfl (e31.trans (congrArg Value.bool (decide_eq_false hc3)))) ?_
        refine wp_exit ?_
        refine then_exit ?_
        refine then_exit ?_
        refine blk_exit ?_
        refine then_n ?_
        refine wp_seq ?_
        refine wp_regionF ?_
        refine lf_val (v := .pointer (some ⟨g1, 0, none⟩)) (wantAll rfl) (rv_move rfl (fr_eval rfl e11)) ?_
        refine lf_val (v := va) (wantAll rfl) (rv_move rfl (fr_eval rfl e2)) ?_
        replace hH : Heap _ _ _ [_, _, _, _] := hH.perm (.cons _ (.cons _ (.trans (.swap _ _ _) (.cons _ (.refl _)))))
        refine lf_call (wantAll rfl) (rv_call (args := [.pointer (some ⟨g1, 0, none⟩), va]) rfl (evc (fr_eval rfl rfl) (evc (fr_eval rfl rfl) evn)) Try.call9) (can_calls ns (by omega) kn (by omega) pi1 a _ _ (Stab.part (L := []) (M := [_, _, _, _]) ha hH) (Heap.part (L := []) (M := [_, _, _, _]) hH)) ?_
        rintro _ w7 ⟨y4, q2, rfl, hP⟩
        refine ⟨_, rfl, ?_⟩
        have hx := hH.callChg (L := []) (M := [_, _, _, _]) (fun _ h => h) hP
        replace hH : Heap _ _ _ [_, _, _, _] := hH.call (L := []) (M := [_, _, _, _]) (fun _ h => h) hP (Stays.blk (hP.blk (i := 0) rfl) (Stays.own (hP.own (i := 1) rfl) (Stays.mp (hP.mp (i := 2) rfl) (Stays.own (hP.own (i := 3) rfl) Stays.nil))))
        clear hP
        clear hx
        have hok2 := Ok.can (t := a) pi1
        have hbl2 := bankC_le ns a
        refine lf_val (v := .pointer (some ⟨g1, 0, none⟩)) (wantAll rfl) (rv_move rfl (fr_eval rfl e11)) ?_
        refine lf_val (v := vb) (wantAll rfl) (rv_move rfl (fr_eval rfl e3)) ?_
        refine lf_call (wantAll rfl) (rv_call (args := [.pointer (some ⟨g1, 0, none⟩), vb]) rfl (evc (fr_eval rfl rfl) (evc (fr_eval rfl rfl) evn)) Try.call9) (can_calls (bankC ns a) (by omega) kn (by omega) hok2 b _ _ (Stab.part (L := []) (M := [_, _, _, _]) hb hH) (Heap.part (L := []) (M := [_, _, _, _]) hH)) ?_
        rintro _ w8 ⟨y5, q3, rfl, hP⟩
        refine ⟨_, rfl, ?_⟩
        have hx := hH.callChg (L := []) (M := [_, _, _, _]) (fun _ h => h) hP
        replace hH : Heap _ _ _ [_, _, _, _] := hH.call (L := []) (M := [_, _, _, _]) (fun _ h => h) hP (Stays.blk (hP.blk (i := 0) rfl) (Stays.own (hP.own (i := 1) rfl) (Stays.mp (hP.mp (i := 2) rfl) (Stays.own (hP.own (i := 3) rfl) Stays.nil))))
        clear hP
        clear hx
        have hok3 := Ok.can (t := b) hok2
        have hbl3 := bankC_le (bankC ns a) b
        refine lf_val (v := .bool (decide (CanT ns kn a))) (wantAll rfl) (rv_assign rfl (fr_eval rfl rfl)) ?_
        refine lf_val (v := .bool (decide (CanT (bankC ns a) kn b))) (wantAll rfl) (rv_assign rfl (fr_eval rfl rfl)) ?_
        refine lf_nil ?_
        refine then_n ?_
        refine wp_seq ?_
        refine wp_seq ?_
        refine wp_gen (fun F' => F' 0 = fewV v l.length ∧ F' 1 = vm ∧ F' 2 = va ∧ F' 3 = vb ∧ F' 4 = .int .i64 z ∧ F' 10 = .bool false ∧ F' 11 = .pointer (some ⟨g1, 0, none⟩) ∧ F' 12 = .int .i64 ((i : Nat) : Int) ∧ F' 13 = .bool (decide (CanT ns kn a)) ∧ F' 14 = .bool (decide (CanT (bankC ns a) kn b)) ∧ F' 24 = .bool false ∧ F' 31 = .bool false) ⟨e0, e1, e2, e3, e4, e10, e11, e12, rfl, rfl, e24, (e31.trans (congrArg Value.bool (decide_eq_false hc3)))⟩ ?_
        clear e0 e1 e2 e3 e4 e10 e11 e12 e24 e31
        clear F
        rintro F ⟨e0, e1, e2, e3, e4, e10, e11, e12, e13, e14, e24, e31⟩
        refine wp_cut (fun F wr => ∃ n3 : List Nd, ∃ u3 : Value, ∃ mu3 : Option Nat, Ok n3 kn ∧ Pre (bankC (bankC ns a) b) n3 ∧ n3.length ≤ ns.length + 200 ∧ F 0 = fewV v l.length ∧ F 1 = vm ∧ F 2 = va ∧ F 3 = vb ∧ F 4 = .int .i64 z ∧ F 10 = .bool false ∧ F 11 = .pointer (some ⟨g1, 0, none⟩) ∧ F 12 = .int .i64 ((i : Nat) : Int) ∧ F 13 = .bool (decide (CanT ns kn a)) ∧ F 14 = .bool (decide (CanT (bankC ns a) kn b)) ∧ F 24 = .bool false ∧ F 31 = .bool false ∧ F 67 = .bool false ∧ Heap (newN w) w wr [oBlk g1 ([u3, .map mu3, ku]) 33, oRow cNd 40 3 u3 n3, oMp mu3 n3, oRow cNu 3 1 ku kn]) ?_ ?_
        · refine wp_regionF ?_
          refine lf_val (v := .bool (decide (CanT ns kn a))) (wantAll rfl) (rv_move rfl (fr_eval rfl e13)) ?_
          refine lf_val (v := .bool (decide (CanT ns kn a))) (wantAll rfl) (rv_move rfl (fr_eval rfl rfl)) ?_
          by_cases hc4 : CanT ns kn a
          · refine lf_val (v := .bool (decide (CanT (bankC ns a) kn b))) (wantF (d := 48) rfl (by kernel_rfl) rfl (congrArg Value.bool (decide_eq_true hc4))) (rv_move rfl (fr_eval rfl e14)) ?_
            refine lf_val (v := .bool (decide (CanT (bankC ns a) kn b))) (wantAll rfl) (rv_pickT rfl (fr_eval rfl (congrArg Value.bool (decide_eq_true hc4))) (fr_eval rfl rfl)) ?_
            refine lf_val (v := .bool (decide (CanT (bankC ns a) kn b))) (wantAll rfl) (rv_move rfl (fr_eval rfl rfl)) ?_
            by_cases hc5 : CanT (bankC ns a) kn b
            · refine lf_val (v := .int .i64 z) (wantF (d := 51) rfl (by kernel_rfl) rfl (congrArg Value.bool (decide_eq_true hc5))) (rv_move rfl (fr_eval rfl e4)) ?_
              refine lf_val (v := .bool (decide (z ≥ 2))) (wantF (d := 51) rfl (by kernel_rfl) rfl (congrArg Value.bool (decide_eq_true hc5))) (rv_geqP (p := z ≥ 2) rfl (fr_eval rfl rfl) rfl Iff.rfl) ?_
              refine lf_val (v := .bool (decide (z ≥ 2))) (wantAll rfl) (rv_pickT rfl (fr_eval rfl (congrArg Value.bool (decide_eq_true hc5))) (fr_eval rfl rfl)) ?_
              refine lf_val (v := .bool (decide (z ≥ 2))) (wantAll rfl) (rv_move rfl (fr_eval rfl rfl)) ?_
              by_cases hc6 : z ≥ 2
              · refine lf_val (v := .int .i64 z) (wantF (d := 55) rfl (by kernel_rfl) rfl (congrArg Value.bool (decide_eq_true hc6))) (rv_move rfl (fr_eval rfl e4)) ?_
                refine lf_val (v := .bool (decide (z ≤ 5))) (wantF (d := 55) rfl (by kernel_rfl) rfl (congrArg Value.bool (decide_eq_true hc6))) (rv_leqP (p := z ≤ 5) rfl (fr_eval rfl rfl) rfl Iff.rfl) ?_
                refine lf_val (v := .bool (decide (z ≤ 5))) (wantAll rfl) (rv_pickT rfl (fr_eval rfl (congrArg Value.bool (decide_eq_true hc6))) (fr_eval rfl rfl)) ?_
                refine lf_val (v := .bool (decide (z ≤ 5))) (wantAll rfl) (rv_move rfl (fr_eval rfl rfl)) ?_
                by_cases hc7 : z ≤ 5
                · refine lf_val (v := .pointer (some ⟨g1, 0, none⟩)) (wantF (d := 59) rfl (by kernel_rfl) rfl (congrArg Value.bool (decide_eq_true hc7))) (rv_move rfl (fr_eval rfl e11)) ?_
                  refine lf_val (v := .int .i64 z) (wantF (d := 59) rfl (by kernel_rfl) rfl (congrArg Value.bool (decide_eq_true hc7))) (rv_move rfl (fr_eval rfl e4)) ?_
                  refine lf_val (v := va) (wantF (d := 59) rfl (by kernel_rfl) rfl (congrArg Value.bool (decide_eq_true hc7))) (rv_move rfl (fr_eval rfl e2)) ?_
                  refine lf_val (v := vb) (wantF (d := 59) rfl (by kernel_rfl) rfl (congrArg Value.bool (decide_eq_true hc7))) (rv_move rfl (fr_eval rfl e3)) ?_
                  refine lf_call (wantF (d := 59) rfl (by kernel_rfl) rfl (congrArg Value.bool (decide_eq_true hc7))) (rv_call (args := [.int .i64 z, va, vb]) rfl (evc (fr_eval rfl rfl) (evc (fr_eval rfl rfl) (evc (fr_eval rfl rfl) evn))) Try.call10) (join_calls z a b hc4.1 hc5.1 _ _ _ (ha.rd _ hH.chg) (hb.rd _ hH.chg)) ?_
                  rintro _ w9 ⟨⟨y6, rfl, ho, hg⟩, hx⟩
                  refine ⟨_, rfl, ?_⟩
                  replace hH : Heap _ _ _ [_, _, _, _, _] := hH.addOwn hx hg ho
                  clear ho hg
                  clear hx
                  replace hH : Heap _ _ _ [_, _, _, _, _] := hH.perm (.trans (.swap _ _ _) (.cons _ (.trans (.swap _ _ _) (.cons _ (.trans (.swap _ _ _) (.cons _ (.trans (.swap _ _ _) (.cons _ (.refl _)))))))))
                  refine lf_call (wantF (d := 59) rfl (by kernel_rfl) rfl (congrArg Value.bool (decide_eq_true hc7))) (rv_call (args := [.pointer (some ⟨g1, 0, none⟩), y6]) rfl (evc (fr_eval rfl rfl) (evc (fr_eval rfl rfl) evn)) Try.call9) (can_calls (bankC (bankC ns a) b) (by omega) kn (by omega) hok3 (joinT z a b) _ _ (Heap.rowStab (L := [_]) (M := [_, _, _, _]) hH (i := 0) rfl (row_one cNd_one)) (Heap.part (L := [_]) (M := [_, _, _, _]) hH)) ?_
                  rintro _ w10 ⟨y7, q4, rfl, hP⟩
                  refine ⟨_, rfl, ?_⟩
                  have hx := hH.callChg (L := [_]) (M := [_, _, _, _]) (fun _ h => h) hP
                  replace hH : Heap _ _ _ [_, _, _, _, _] := hH.call (L := [_]) (M := [_, _, _, _]) (fun _ h => h) hP (Stays.blk (hP.blk (i := 0) rfl) (Stays.own (hP.own (i := 1) rfl) (Stays.mp (hP.mp (i := 2) rfl) (Stays.own (hP.own (i := 3) rfl) Stays.nil))))
                  clear hP
                  clear hx
                  have hok4 := Ok.can (t := joinT z a b) hok3
                  have hbl4 := bankC_le (bankC (bankC ns a) b) (joinT z a b)
                  refine lf_val (v := .bool false) (wantF (d := 59) rfl (by kernel_rfl) rfl (congrArg Value.bool (decide_eq_true hc7))) (rv_not (b := true) rfl (fr_eval rfl (congrArg Value.bool (decide_eq_true (can_join pi1 ⟨by omega, by omega⟩ (by omega) (by omega) hc4 hc5))))) ?_
                  refine lf_val (v := .bool false) (wantAll rfl) (rv_pickT rfl (fr_eval rfl (congrArg Value.bool (decide_eq_true hc7))) (fr_eval rfl rfl)) ?_
                  refine lf_nil ?_
                  replace hH : Heap _ _ _ [_, _, _, _] := hH.drop (.cons _ (.cons_cons _ (.cons_cons _ (.cons_cons _ (.cons_cons _ .slnil)))))
                  exact ⟨_, rfl, _, _, _, hok4, (by first | exact Pre.refl _ | exact bankC_pre _ _), (by omega), e0, e1, e2, e3, e4, e10, e11, e12, ((e13.trans (congrArg Value.bool (decide_eq_true hc4))).trans (congrArg Value.bool (decide_eq_true hc4).symm)), ((e14.trans (congrArg Value.bool (decide_eq_true hc5))).trans (congrArg Value.bool (decide_eq_true hc5).symm)), e24, e31, rfl, hH⟩
                · refine lf_not (wantNot (d := 59) rfl (by kernel_rfl) rfl (congrArg Value.bool (decide_eq_false hc7))) ?_
                  refine lf_not (wantNot (d := 59) rfl (by kernel_rfl) rfl (congrArg Value.bool (decide_eq_false hc7))) ?_
                  refine lf_not (wantNot (d := 59) rfl (by kernel_rfl) rfl (congrArg Value.bool (decide_eq_false hc7))) ?_
                  refine lf_not (wantNot (d := 59) rfl (by kernel_rfl) rfl (congrArg Value.bool (decide_eq_false hc7))) ?_
                  refine lf_not (wantNot (d := 59) rfl (by kernel_rfl) rfl (congrArg Value.bool (decide_eq_false hc7))) ?_
                  refine lf_not (wantNot (d := 59) rfl (by kernel_rfl) rfl (congrArg Value.bool (decide_eq_false hc7))) ?_
                  refine lf_not (wantNot (d := 59) rfl (by kernel_rfl) rfl (congrArg Value.bool (decide_eq_false hc7))) ?_
                  refine lf_val (v := .bool false) (wantAll rfl) (rv_pickF rfl (fr_eval rfl (congrArg Value.bool (decide_eq_false hc7))) rfl) ?_
                  refine lf_nil ?_
                  exact ⟨_, rfl, _, _, _, hok3, (by first | exact Pre.refl _ | exact bankC_pre _ _), (by omega), e0, e1, e2, e3, e4, e10, e11, e12, ((e13.trans (congrArg Value.bool (decide_eq_true hc4))).trans (congrArg Value.bool (decide_eq_true hc4).symm)), ((e14.trans (congrArg Value.bool (decide_eq_true hc5))).trans (congrArg Value.bool (decide_eq_true hc5).symm)), e24, e31, rfl, hH⟩
              · refine lf_not (wantNot (d := 55) rfl (by kernel_rfl) rfl (congrArg Value.bool (decide_eq_false hc6))) ?_
                refine lf_not (wantNot (d := 55) rfl (by kernel_rfl) rfl (congrArg Value.bool (decide_eq_false hc6))) ?_
                refine lf_val (v := .bool false) (wantAll rfl) (rv_pickF rfl (fr_eval rfl (congrArg Value.bool (decide_eq_false hc6))) rfl) ?_
                refine lf_val (v := .bool false) (wantAll rfl) (rv_move rfl (fr_eval rfl rfl)) ?_
                refine lf_not (wantNot (d := 59) rfl (by kernel_rfl) rfl rfl) ?_
                refine lf_not (wantNot (d := 59) rfl (by kernel_rfl) rfl rfl) ?_
                refine lf_not (wantNot (d := 59) rfl (by kernel_rfl) rfl rfl) ?_
                refine lf_not (wantNot (d := 59) rfl (by kernel_rfl) rfl rfl) ?_
                refine lf_not (wantNot (d := 59) rfl (by kernel_rfl) rfl rfl) ?_
                refine lf_not (wantNot (d := 59) rfl (by kernel_rfl) rfl rfl) ?_
                refine lf_not (wantNot (d := 59) rfl (by kernel_rfl) rfl rfl) ?_
                refine lf_val (v := .bool false) (wantAll rfl) (rv_pickF rfl (fr_eval rfl rfl) rfl) ?_
                refine lf_nil ?_
                exact ⟨_, rfl, _, _, _, hok3, (by first | exact Pre.refl _ | exact bankC_pre _ _), (by omega), e0, e1, e2, e3, e4, e10, e11, e12, ((e13.trans (congrArg Value.bool (decide_eq_true hc4))).trans (congrArg Value.bool (decide_eq_true hc4).symm)), ((e14.trans (congrArg Value.bool (decide_eq_true hc5))).trans (congrArg Value.bool (decide_eq_true hc5).symm)), e24, e31, rfl, hH⟩
            · refine lf_not (wantNot (d := 51) rfl (by kernel_rfl) rfl (congrArg Value.bool (decide_eq_false hc5))) ?_
              refine lf_not (wantNot (d := 51) rfl (by kernel_rfl) rfl (congrArg Value.bool (decide_eq_false hc5))) ?_
              refine lf_val (v := .bool false) (wantAll rfl) (rv_pickF rfl (fr_eval rfl (congrArg Value.bool (decide_eq_false hc5))) rfl) ?_
              refine lf_val (v := .bool false) (wantAll rfl) (rv_move rfl (fr_eval rfl rfl)) ?_
              refine lf_not (wantNot (d := 55) rfl (by kernel_rfl) rfl rfl) ?_
              refine lf_not (wantNot (d := 55) rfl (by kernel_rfl) rfl rfl) ?_
              refine lf_val (v := .bool false) (wantAll rfl) (rv_pickF rfl (fr_eval rfl rfl) rfl) ?_
              refine lf_val (v := .bool false) (wantAll rfl) (rv_move rfl (fr_eval rfl rfl)) ?_
              refine lf_not (wantNot (d := 59) rfl (by kernel_rfl) rfl rfl) ?_
              refine lf_not (wantNot (d := 59) rfl (by kernel_rfl) rfl rfl) ?_
              refine lf_not (wantNot (d := 59) rfl (by kernel_rfl) rfl rfl) ?_
              refine lf_not (wantNot (d := 59) rfl (by kernel_rfl) rfl rfl) ?_
              refine lf_not (wantNot (d := 59) rfl (by kernel_rfl) rfl rfl) ?_
              refine lf_not (wantNot (d := 59) rfl (by kernel_rfl) rfl rfl) ?_
              refine lf_not (wantNot (d := 59) rfl (by kernel_rfl) rfl rfl) ?_
              refine lf_val (v := .bool false) (wantAll rfl) (rv_pickF rfl (fr_eval rfl rfl) rfl) ?_
              refine lf_nil ?_
              exact ⟨_, rfl, _, _, _, hok3, (by first | exact Pre.refl _ | exact bankC_pre _ _), (by omega), e0, e1, e2, e3, e4, e10, e11, e12, ((e13.trans (congrArg Value.bool (decide_eq_true hc4))).trans (congrArg Value.bool (decide_eq_true hc4).symm)), ((e14.trans (congrArg Value.bool (decide_eq_false hc5))).trans (congrArg Value.bool (decide_eq_false hc5).symm)), e24, e31, rfl, hH⟩
          · refine lf_not (wantNot (d := 48) rfl (by kernel_rfl) rfl (congrArg Value.bool (decide_eq_false hc4))) ?_
            refine lf_val (v := .bool false) (wantAll rfl) (rv_pickF rfl (fr_eval rfl (congrArg Value.bool (decide_eq_false hc4))) rfl) ?_
            refine lf_val (v := .bool false) (wantAll rfl) (rv_move rfl (fr_eval rfl rfl)) ?_
            refine lf_not (wantNot (d := 51) rfl (by kernel_rfl) rfl rfl) ?_
            refine lf_not (wantNot (d := 51) rfl (by kernel_rfl) rfl rfl) ?_
            refine lf_val (v := .bool false) (wantAll rfl) (rv_pickF rfl (fr_eval rfl rfl) rfl) ?_
            refine lf_val (v := .bool false) (wantAll rfl) (rv_move rfl (fr_eval rfl rfl)) ?_
            refine lf_not (wantNot (d := 55) rfl (by kernel_rfl) rfl rfl) ?_
            refine lf_not (wantNot (d := 55) rfl (by kernel_rfl) rfl rfl) ?_
            refine lf_val (v := .bool false) (wantAll rfl) (rv_pickF rfl (fr_eval rfl rfl) rfl) ?_
            refine lf_val (v := .bool false) (wantAll rfl) (rv_move rfl (fr_eval rfl rfl)) ?_
            refine lf_not (wantNot (d := 59) rfl (by kernel_rfl) rfl rfl) ?_
            refine lf_not (wantNot (d := 59) rfl (by kernel_rfl) rfl rfl) ?_
            refine lf_not (wantNot (d := 59) rfl (by kernel_rfl) rfl rfl) ?_
            refine lf_not (wantNot (d := 59) rfl (by kernel_rfl) rfl rfl) ?_
            refine lf_not (wantNot (d := 59) rfl (by kernel_rfl) rfl rfl) ?_
            refine lf_not (wantNot (d := 59) rfl (by kernel_rfl) rfl rfl) ?_
            refine lf_not (wantNot (d := 59) rfl (by kernel_rfl) rfl rfl) ?_
            refine lf_val (v := .bool false) (wantAll rfl) (rv_pickF rfl (fr_eval rfl rfl) rfl) ?_
            refine lf_nil ?_
            exact ⟨_, rfl, _, _, _, hok3, (by first | exact Pre.refl _ | exact bankC_pre _ _), (by omega), e0, e1, e2, e3, e4, e10, e11, e12, ((e13.trans (congrArg Value.bool (decide_eq_false hc4))).trans (congrArg Value.bool (decide_eq_false hc4).symm)), e14, e24, e31, rfl, hH⟩
        clear e0 e1 e2 e3 e4 e10 e11 e12 e13 e14 e24 e31 hH
        clear F
        rintro F w11 ⟨n3, u3, mu3, pn30, pn31, pn32, e0, e1, e2, e3, e4, e10, e11, e12, e13, e14, e24, e31, e67, hH⟩
        refine then_n ?_
        refine wp_cond_false (fr_eval rfl e67) ?_
        refine wp_skip ?_
        refine then_n ?_
        refine wp_seq ?_
        refine wp_regionF ?_
        refine lf_val (v := .pointer (some ⟨g1, 0, none⟩)) (wantAll rfl) (rv_move rfl (fr_eval rfl e11)) ?_
        refine lf_val (v := vm) (wantAll rfl) (rv_move rfl (fr_eval rfl e1)) ?_
        refine lf_ex (wantAll rfl) (hx_lits hH Try.stTerms (n := 1) (nm := 1) [(.tmp 69)] (vs := [vm]) rfl (evc (fr_eval rfl rfl) evn) (ones_cons (Rd.oneV (hm.rd _ hH.chg)) ones_nil) rfl (by decide) rfl rfl) ?_
        clear hH
        rintro y8 w12 ⟨hH, hx⟩
        replace hH : Heap _ _ _ [_, _, _, _, _] := hH
        clear hx
        replace hH : Heap _ _ _ [_, _, _, _, _] := hH.perm (.trans (.swap _ _ _) (.cons _ (.trans (.swap _ _ _) (.cons _ (.trans (.swap _ _ _) (.cons _ (.trans (.swap _ _ _) (.cons _ (.refl _)))))))))
        refine lf_call (wantAll rfl) (rv_call (args := [.pointer (some ⟨g1, 0, none⟩), y8]) rfl (evc (fr_eval rfl rfl) (evc (fr_eval rfl rfl) evn)) Try.call8) (learn_calls n3 (by omega) kn (by omega) pn30 (⟨⟨vm, (Rd.oneV (hm.rd _ hH.chg))⟩, more⟩ : Tm) _ _ (Heap.rowStab (L := [_]) (M := [_, _, _, _]) hH (i := 0) rfl (ones_cons (Rd.oneV (hm.rd _ hH.chg)) ones_nil)) (Stab.part (L := [_]) (M := [_, _, _, _]) hm hH) (Heap.part (L := [_]) (M := [_, _, _, _]) hH)) ?_
        rintro _ w13 ⟨u2, y9, q5, y10, rfl, hP⟩
        refine ⟨_, rfl, ?_⟩
        have hx := hH.callChg (L := [_]) (M := [_, _, _, _]) (fun _ h => h) hP
        replace hH : Heap _ _ _ [_, _, _, _, _] := hH.call (L := [_]) (M := [_, _, _, _]) (fun _ h => h) hP (Stays.blk (hP.blk (i := 0) rfl) (Stays.own (hP.own (i := 1) rfl) (Stays.mp (hP.mp (i := 2) rfl) (Stays.own (hP.own (i := 3) rfl) Stays.nil))))
        clear hP
        clear hx
        have hok5 := Ok.next (t := more) pn30
        have hbl5 := bankC_le n3 more
        have hkl2 := kn_le (ns := n3) (t := more) (kn := kn)
        refine lf_nil ?_
        refine then_n ?_
        refine wp_seq ?_
        replace hH : Heap _ _ _ [_, _, _, _] := hH.drop (.cons _ (.cons_cons _ (.cons_cons _ (.cons_cons _ (.cons_cons _ .slnil)))))
        refine wp_gen (fun F' => F' 0 = fewV v l.length ∧ F' 1 = vm ∧ F' 2 = va ∧ F' 3 = vb ∧ F' 4 = .int .i64 z ∧ F' 10 = .bool false ∧ F' 11 = .pointer (some ⟨g1, 0, none⟩) ∧ F' 12 = .int .i64 ((i : Nat) : Int) ∧ F' 13 = .bool (decide (CanT ns kn a)) ∧ F' 14 = .bool (decide (CanT (bankC ns a) kn b)) ∧ F' 24 = .bool false ∧ F' 31 = .bool false ∧ F' 67 = .bool false) ⟨e0, e1, e2, e3, e4, e10, e11, e12, e13, e14, e24, e31, e67⟩ ?_
        clear e0 e1 e2 e3 e4 e10 e11 e12 e13 e14 e24 e31 e67
        clear F
        rintro F ⟨e0, e1, e2, e3, e4, e10, e11, e12, e13, e14, e24, e31, e67⟩
        refine wp_regionF ?_
        refine lf_val (v := .bool (decide (CanT ns kn a))) (wantAll rfl) (rv_move rfl (fr_eval rfl e13)) ?_
        refine lf_val (v := .bool (decide (¬ (CanT ns kn a)))) (wantAll rfl) (rv_notP (q := ¬ (CanT ns kn a)) rfl (fr_eval rfl rfl) Iff.rfl) ?_
        refine lf_val (v := .bool (decide (¬ (CanT ns kn a)))) (wantAll rfl) (rv_move rfl (fr_eval rfl rfl)) ?_
        by_cases hc8 : CanT ns kn a
        · refine lf_val (v := .pointer (some ⟨g1, 0, none⟩)) (wantF (d := 74) rfl (by kernel_rfl) rfl (congrArg Value.bool (decide_eq_false (not_not_intro hc8)))) (rv_move rfl (fr_eval rfl e11)) ?_
          refine lf_val (v := va) (wantF (d := 74) rfl (by kernel_rfl) rfl (congrArg Value.bool (decide_eq_false (not_not_intro hc8)))) (rv_move rfl (fr_eval rfl e2)) ?_
          refine lf_call (wantF (d := 74) rfl (by kernel_rfl) rfl (congrArg Value.bool (decide_eq_false (not_not_intro hc8)))) (rv_call (args := [.pointer (some ⟨g1, 0, none⟩), va]) rfl (evc (fr_eval rfl rfl) (evc (fr_eval rfl rfl) evn)) Try.call9) (can_calls (bankC n3 more) (by omega) (knC n3 kn more) (by omega) hok5 a _ _ (Stab.part (L := []) (M := [_, _, _, _]) ha hH) (Heap.part (L := []) (M := [_, _, _, _]) hH)) ?_
          rintro _ w14 ⟨y11, q6, rfl, hP⟩
          refine ⟨_, rfl, ?_⟩
          have hx := hH.callChg (L := []) (M := [_, _, _, _]) (fun _ h => h) hP
          replace hH : Heap _ _ _ [_, _, _, _] := hH.call (L := []) (M := [_, _, _, _]) (fun _ h => h) hP (Stays.blk (hP.blk (i := 0) rfl) (Stays.own (hP.own (i := 1) rfl) (Stays.mp (hP.mp (i := 2) rfl) (Stays.own (hP.own (i := 3) rfl) Stays.nil))))
          clear hP
          clear hx
          have hok6 := Ok.can (t := a) hok5
          have hbl6 := bankC_le (bankC n3 more) a
          refine lf_val (v := .bool true) (wantAll rfl) (rv_pickF rfl (fr_eval rfl (congrArg Value.bool (decide_eq_false (not_not_intro hc8)))) (fr_eval rfl (congrArg Value.bool (decide_eq_true (CanT.on hc8 pi1 (Pre.trans (bankC_pre (bankC ns a) b) (Pre.trans pn31 (bankC_pre n3 more))) (knC_sub n3 kn more)))))) ?_
          refine lf_val (v := .bool true) (wantAll rfl) (rv_move rfl (fr_eval rfl rfl)) ?_
          refine lf_val (v := .bool (decide (CanT (bankC ns a) kn b))) (wantF (d := 79) rfl (by kernel_rfl) rfl rfl) (rv_move rfl (fr_eval rfl e14)) ?_
          refine lf_val (v := .bool (decide (¬ (CanT (bankC ns a) kn b)))) (wantF (d := 79) rfl (by kernel_rfl) rfl rfl) (rv_notP (q := ¬ (CanT (bankC ns a) kn b)) rfl (fr_eval rfl rfl) Iff.rfl) ?_
          refine lf_val (v := .bool (decide (¬ (CanT (bankC ns a) kn b)))) (wantF (d := 79) rfl (by kernel_rfl) rfl rfl) (rv_move rfl (fr_eval rfl rfl)) ?_
          by_cases hc9 : CanT (bankC ns a) kn b
          · refine lf_val (v := .pointer (some ⟨g1, 0, none⟩)) (wantF (d := 82) rfl (by kernel_rfl) rfl (congrArg Value.bool (decide_eq_false (not_not_intro hc9)))) (rv_move rfl (fr_eval rfl e11)) ?_
            refine lf_val (v := vb) (wantF (d := 82) rfl (by kernel_rfl) rfl (congrArg Value.bool (decide_eq_false (not_not_intro hc9)))) (rv_move rfl (fr_eval rfl e3)) ?_
            refine lf_call (wantF (d := 82) rfl (by kernel_rfl) rfl (congrArg Value.bool (decide_eq_false (not_not_intro hc9)))) (rv_call (args := [.pointer (some ⟨g1, 0, none⟩), vb]) rfl (evc (fr_eval rfl rfl) (evc (fr_eval rfl rfl) evn)) Try.call9) (can_calls (bankC (bankC n3 more) a) (by omega) (knC n3 kn more) (by omega) hok6 b _ _ (Stab.part (L := []) (M := [_, _, _, _]) hb hH) (Heap.part (L := []) (M := [_, _, _, _]) hH)) ?_
            rintro _ w15 ⟨y12, q7, rfl, hP⟩
            refine ⟨_, rfl, ?_⟩
            have hx := hH.callChg (L := []) (M := [_, _, _, _]) (fun _ h => h) hP
            replace hH : Heap _ _ _ [_, _, _, _] := hH.call (L := []) (M := [_, _, _, _]) (fun _ h => h) hP (Stays.blk (hP.blk (i := 0) rfl) (Stays.own (hP.own (i := 1) rfl) (Stays.mp (hP.mp (i := 2) rfl) (Stays.own (hP.own (i := 3) rfl) Stays.nil))))
            clear hP
            clear hx
            have hok7 := Ok.can (t := b) hok6
            have hbl7 := bankC_le (bankC (bankC n3 more) a) b
            refine lf_val (v := .bool true) (wantF (d := 79) rfl (by kernel_rfl) rfl rfl) (rv_pickF rfl (fr_eval rfl (congrArg Value.bool (decide_eq_false (not_not_intro hc9)))) (fr_eval rfl (congrArg Value.bool (decide_eq_true (CanT.on hc9 (Ok.can (t := a) pi1) (Pre.trans (Pre.trans pn31 (bankC_pre n3 more)) (bankC_pre _ a)) (knC_sub n3 kn more)))))) ?_
            refine lf_val (v := .bool true) (wantAll rfl) (rv_pickT rfl (fr_eval rfl rfl) (fr_eval rfl rfl)) ?_
            refine lf_val (v := .bool true) (wantAll rfl) (rv_move rfl (fr_eval rfl rfl)) ?_
            refine lf_val (v := vm) (wantF (d := 88) rfl (by kernel_rfl) rfl rfl) (rv_move rfl (fr_eval rfl e1)) ?_
            refine lf_call (wantF (d := 88) rfl (by kernel_rfl) rfl rfl) (rv_call (args := [vm]) rfl (evc (fr_eval rfl rfl) evn) Try.call11) (lawRight_calls more _ _ (hm.rd _ hH.chg)) ?_
            rintro _ w16 ⟨rfl, hx⟩
            refine ⟨_, rfl, ?_⟩
            replace hH := hH.ext hx
            clear hx
            refine lf_val (v := .bool (decide (¬ (okT more)))) (wantF (d := 88) rfl (by kernel_rfl) rfl rfl) (rv_notP (q := ¬ (okT more)) rfl (fr_eval rfl rfl) Iff.rfl) ?_
            refine lf_val (v := .bool (decide (¬ (okT more)))) (wantF (d := 88) rfl (by kernel_rfl) rfl rfl) (rv_move rfl (fr_eval rfl rfl)) ?_
            by_cases hc10 : okT more
            · refine lf_val (v := .pointer (some ⟨g1, 0, none⟩)) (wantF (d := 92) rfl (by kernel_rfl) rfl (congrArg Value.bool (decide_eq_false (not_not_intro hc10)))) (rv_move rfl (fr_eval rfl e11)) ?_
              refine lf_val (v := vm) (wantF (d := 92) rfl (by kernel_rfl) rfl (congrArg Value.bool (decide_eq_false (not_not_intro hc10)))) (rv_move rfl (fr_eval rfl e1)) ?_
              refine lf_call (wantF (d := 92) rfl (by kernel_rfl) rfl (congrArg Value.bool (decide_eq_false (not_not_intro hc10)))) (rv_call (args := [.pointer (some ⟨g1, 0, none⟩), vm]) rfl (evc (fr_eval rfl rfl) (evc (fr_eval rfl rfl) evn)) Try.call9) (can_calls (bankC (bankC (bankC n3 more) a) b) (by omega) (knC n3 kn more) (by omega) hok7 more _ _ (Stab.part (L := []) (M := [_, _, _, _]) hm hH) (Heap.part (L := []) (M := [_, _, _, _]) hH)) ?_
              rintro _ w17 ⟨y13, q8, rfl, hP⟩
              refine ⟨_, rfl, ?_⟩
              have hx := hH.callChg (L := []) (M := [_, _, _, _]) (fun _ h => h) hP
              replace hH : Heap _ _ _ [_, _, _, _] := hH.call (L := []) (M := [_, _, _, _]) (fun _ h => h) hP (Stays.blk (hP.blk (i := 0) rfl) (Stays.own (hP.own (i := 1) rfl) (Stays.mp (hP.mp (i := 2) rfl) (Stays.own (hP.own (i := 3) rfl) Stays.nil))))
              clear hP
              clear hx
              have hok8 := Ok.can (t := more) hok7
              have hbl8 := bankC_le (bankC (bankC (bankC n3 more) a) b) more
              refine lf_val (v := .bool true) (wantF (d := 88) rfl (by kernel_rfl) rfl rfl) (rv_pickF rfl (fr_eval rfl (congrArg Value.bool (decide_eq_false (not_not_intro hc10)))) (fr_eval rfl (congrArg Value.bool (decide_eq_true (can_more pn30 hc10 (Pre.trans (Pre.trans (Pre.refl _) (bankC_pre _ a)) (bankC_pre _ b))))))) ?_
              refine lf_val (v := .bool true) (wantAll rfl) (rv_pickT rfl (fr_eval rfl rfl) (fr_eval rfl rfl)) ?_
              refine lf_val (v := .bool true) (wantAll rfl) (rv_move rfl (fr_eval rfl rfl)) ?_
              refine lf_call (wantF (d := 98) rfl (by kernel_rfl) rfl rfl) (rv_call (args := []) rfl evn Try.call7) (awake37_calls _) ?_
              rintro _ w18 ⟨rfl, hx⟩
              refine ⟨_, rfl, ?_⟩
              replace hH := hH.ext hx
              clear hx
              refine lf_val (v := .bool true) (wantAll rfl) (rv_pickT rfl (fr_eval rfl rfl) (fr_eval rfl rfl)) ?_
              refine lf_val (v := .bool true) (wantAll rfl) (rv_assign rfl (fr_eval rfl rfl)) ?_
              refine lf_nil ?_
              refine then_n ?_
              refine wp_gen (fun F' => F' 0 = fewV v l.length ∧ F' 1 = vm ∧ F' 2 = va ∧ F' 3 = vb ∧ F' 4 = .int .i64 z ∧ F' 10 = .bool true ∧ F' 11 = .pointer (some ⟨g1, 0, none⟩) ∧ F' 12 = .int .i64 ((i : Nat) : Int) ∧ F' 13 = .bool (decide (CanT ns kn a)) ∧ F' 14 = .bool (decide (CanT (bankC ns a) kn b)) ∧ F' 24 = .bool false ∧ F' 31 = .bool false ∧ F' 67 = .bool false) ⟨e0, e1, e2, e3, e4, rfl, e11, e12, e13, e14, e24, e31, e67⟩ ?_
              clear e0 e1 e2 e3 e4 e10 e11 e12 e13 e14 e24 e31 e67
              clear F
              rintro F ⟨e0, e1, e2, e3, e4, e10, e11, e12, e13, e14, e24, e31, e67⟩
              refine wp_ret ?_
              exact bodyPost_ret (v := (.bool true)) (res1 rfl (ro_tmp rfl e10)) rfl (⟨rfl, hH.done⟩)
            · refine lf_not (wantNot (d := 92) rfl (by kernel_rfl) rfl (congrArg Value.bool (decide_eq_true hc10))) ?_
              refine lf_not (wantNot (d := 92) rfl (by kernel_rfl) rfl (congrArg Value.bool (decide_eq_true hc10))) ?_
              refine lf_not (wantNot (d := 92) rfl (by kernel_rfl) rfl (congrArg Value.bool (decide_eq_true hc10))) ?_
              refine lf_val (v := .bool true) (wantF (d := 88) rfl (by kernel_rfl) rfl rfl) (rv_pickT rfl (fr_eval rfl (congrArg Value.bool (decide_eq_true hc10))) rfl) ?_
              refine lf_val (v := .bool true) (wantAll rfl) (rv_pickT rfl (fr_eval rfl rfl) (fr_eval rfl rfl)) ?_
              refine lf_val (v := .bool true) (wantAll rfl) (rv_move rfl (fr_eval rfl rfl)) ?_
              refine lf_call (wantF (d := 98) rfl (by kernel_rfl) rfl rfl) (rv_call (args := []) rfl evn Try.call7) (awake37_calls _) ?_
              rintro _ w19 ⟨rfl, hx⟩
              refine ⟨_, rfl, ?_⟩
              replace hH := hH.ext hx
              clear hx
              refine lf_val (v := .bool true) (wantAll rfl) (rv_pickT rfl (fr_eval rfl rfl) (fr_eval rfl rfl)) ?_
              refine lf_val (v := .bool true) (wantAll rfl) (rv_assign rfl (fr_eval rfl rfl)) ?_
              refine lf_nil ?_
              refine then_n ?_
              refine wp_gen (fun F' => F' 0 = fewV v l.length ∧ F' 1 = vm ∧ F' 2 = va ∧ F' 3 = vb ∧ F' 4 = .int .i64 z ∧ F' 10 = .bool true ∧ F' 11 = .pointer (some ⟨g1, 0, none⟩) ∧ F' 12 = .int .i64 ((i : Nat) : Int) ∧ F' 13 = .bool (decide (CanT ns kn a)) ∧ F' 14 = .bool (decide (CanT (bankC ns a) kn b)) ∧ F' 24 = .bool false ∧ F' 31 = .bool false ∧ F' 67 = .bool false) ⟨e0, e1, e2, e3, e4, rfl, e11, e12, e13, e14, e24, e31, e67⟩ ?_
              clear e0 e1 e2 e3 e4 e10 e11 e12 e13 e14 e24 e31 e67
              clear F
              rintro F ⟨e0, e1, e2, e3, e4, e10, e11, e12, e13, e14, e24, e31, e67⟩
              refine wp_ret ?_
              exact bodyPost_ret (v := (.bool true)) (res1 rfl (ro_tmp rfl e10)) rfl (⟨rfl, hH.done⟩)
          · refine lf_not (wantNot (d := 82) rfl (by kernel_rfl) rfl (congrArg Value.bool (decide_eq_true hc9))) ?_
            refine lf_not (wantNot (d := 82) rfl (by kernel_rfl) rfl (congrArg Value.bool (decide_eq_true hc9))) ?_
            refine lf_not (wantNot (d := 82) rfl (by kernel_rfl) rfl (congrArg Value.bool (decide_eq_true hc9))) ?_
            refine lf_val (v := .bool true) (wantF (d := 79) rfl (by kernel_rfl) rfl rfl) (rv_pickT rfl (fr_eval rfl (congrArg Value.bool (decide_eq_true hc9))) rfl) ?_
            refine lf_val (v := .bool true) (wantAll rfl) (rv_pickT rfl (fr_eval rfl rfl) (fr_eval rfl rfl)) ?_
            refine lf_val (v := .bool true) (wantAll rfl) (rv_move rfl (fr_eval rfl rfl)) ?_
            refine lf_val (v := vm) (wantF (d := 88) rfl (by kernel_rfl) rfl rfl) (rv_move rfl (fr_eval rfl e1)) ?_
            refine lf_call (wantF (d := 88) rfl (by kernel_rfl) rfl rfl) (rv_call (args := [vm]) rfl (evc (fr_eval rfl rfl) evn) Try.call11) (lawRight_calls more _ _ (hm.rd _ hH.chg)) ?_
            rintro _ w20 ⟨rfl, hx⟩
            refine ⟨_, rfl, ?_⟩
            replace hH := hH.ext hx
            clear hx
            refine lf_val (v := .bool (decide (¬ (okT more)))) (wantF (d := 88) rfl (by kernel_rfl) rfl rfl) (rv_notP (q := ¬ (okT more)) rfl (fr_eval rfl rfl) Iff.rfl) ?_
            refine lf_val (v := .bool (decide (¬ (okT more)))) (wantF (d := 88) rfl (by kernel_rfl) rfl rfl) (rv_move rfl (fr_eval rfl rfl)) ?_
            by_cases hc11 : okT more
            · refine lf_val (v := .pointer (some ⟨g1, 0, none⟩)) (wantF (d := 92) rfl (by kernel_rfl) rfl (congrArg Value.bool (decide_eq_false (not_not_intro hc11)))) (rv_move rfl (fr_eval rfl e11)) ?_
              refine lf_val (v := vm) (wantF (d := 92) rfl (by kernel_rfl) rfl (congrArg Value.bool (decide_eq_false (not_not_intro hc11)))) (rv_move rfl (fr_eval rfl e1)) ?_
              refine lf_call (wantF (d := 92) rfl (by kernel_rfl) rfl (congrArg Value.bool (decide_eq_false (not_not_intro hc11)))) (rv_call (args := [.pointer (some ⟨g1, 0, none⟩), vm]) rfl (evc (fr_eval rfl rfl) (evc (fr_eval rfl rfl) evn)) Try.call9) (can_calls (bankC (bankC n3 more) a) (by omega) (knC n3 kn more) (by omega) hok6 more _ _ (Stab.part (L := []) (M := [_, _, _, _]) hm hH) (Heap.part (L := []) (M := [_, _, _, _]) hH)) ?_
              rintro _ w21 ⟨y14, q9, rfl, hP⟩
              refine ⟨_, rfl, ?_⟩
              have hx := hH.callChg (L := []) (M := [_, _, _, _]) (fun _ h => h) hP
              replace hH : Heap _ _ _ [_, _, _, _] := hH.call (L := []) (M := [_, _, _, _]) (fun _ h => h) hP (Stays.blk (hP.blk (i := 0) rfl) (Stays.own (hP.own (i := 1) rfl) (Stays.mp (hP.mp (i := 2) rfl) (Stays.own (hP.own (i := 3) rfl) Stays.nil))))
              clear hP
              clear hx
              have hok9 := Ok.can (t := more) hok6
              have hbl9 := bankC_le (bankC (bankC n3 more) a) more
              refine lf_val (v := .bool true) (wantF (d := 88) rfl (by kernel_rfl) rfl rfl) (rv_pickF rfl (fr_eval rfl (congrArg Value.bool (decide_eq_false (not_not_intro hc11)))) (fr_eval rfl (congrArg Value.bool (decide_eq_true (can_more pn30 hc11 (Pre.trans (Pre.refl _) (bankC_pre _ a))))))) ?_
              refine lf_val (v := .bool true) (wantAll rfl) (rv_pickT rfl (fr_eval rfl rfl) (fr_eval rfl rfl)) ?_
              refine lf_val (v := .bool true) (wantAll rfl) (rv_move rfl (fr_eval rfl rfl)) ?_
              refine lf_call (wantF (d := 98) rfl (by kernel_rfl) rfl rfl) (rv_call (args := []) rfl evn Try.call7) (awake37_calls _) ?_
              rintro _ w22 ⟨rfl, hx⟩
              refine ⟨_, rfl, ?_⟩
              replace hH := hH.ext hx
              clear hx
              refine lf_val (v := .bool true) (wantAll rfl) (rv_pickT rfl (fr_eval rfl rfl) (fr_eval rfl rfl)) ?_
              refine lf_val (v := .bool true) (wantAll rfl) (rv_assign rfl (fr_eval rfl rfl)) ?_
              refine lf_nil ?_
              refine then_n ?_
              refine wp_gen (fun F' => F' 0 = fewV v l.length ∧ F' 1 = vm ∧ F' 2 = va ∧ F' 3 = vb ∧ F' 4 = .int .i64 z ∧ F' 10 = .bool true ∧ F' 11 = .pointer (some ⟨g1, 0, none⟩) ∧ F' 12 = .int .i64 ((i : Nat) : Int) ∧ F' 13 = .bool (decide (CanT ns kn a)) ∧ F' 14 = .bool (decide (CanT (bankC ns a) kn b)) ∧ F' 24 = .bool false ∧ F' 31 = .bool false ∧ F' 67 = .bool false) ⟨e0, e1, e2, e3, e4, rfl, e11, e12, e13, e14, e24, e31, e67⟩ ?_
              clear e0 e1 e2 e3 e4 e10 e11 e12 e13 e14 e24 e31 e67
              clear F
              rintro F ⟨e0, e1, e2, e3, e4, e10, e11, e12, e13, e14, e24, e31, e67⟩
              refine wp_ret ?_
              exact bodyPost_ret (v := (.bool true)) (res1 rfl (ro_tmp rfl e10)) rfl (⟨rfl, hH.done⟩)
            · refine lf_not (wantNot (d := 92) rfl (by kernel_rfl) rfl (congrArg Value.bool (decide_eq_true hc11))) ?_
              refine lf_not (wantNot (d := 92) rfl (by kernel_rfl) rfl (congrArg Value.bool (decide_eq_true hc11))) ?_
              refine lf_not (wantNot (d := 92) rfl (by kernel_rfl) rfl (congrArg Value.bool (decide_eq_true hc11))) ?_
              refine lf_val (v := .bool true) (wantF (d := 88) rfl (by kernel_rfl) rfl rfl) (rv_pickT rfl (fr_eval rfl (congrArg Value.bool (decide_eq_true hc11))) rfl) ?_
              refine lf_val (v := .bool true) (wantAll rfl) (rv_pickT rfl (fr_eval rfl rfl) (fr_eval rfl rfl)) ?_
              refine lf_val (v := .bool true) (wantAll rfl) (rv_move rfl (fr_eval rfl rfl)) ?_
              refine lf_call (wantF (d := 98) rfl (by kernel_rfl) rfl rfl) (rv_call (args := []) rfl evn Try.call7) (awake37_calls _) ?_
              rintro _ w23 ⟨rfl, hx⟩
              refine ⟨_, rfl, ?_⟩
              replace hH := hH.ext hx
              clear hx
              refine lf_val (v := .bool true) (wantAll rfl) (rv_pickT rfl (fr_eval rfl rfl) (fr_eval rfl rfl)) ?_
              refine lf_val (v := .bool true) (wantAll rfl) (rv_assign rfl (fr_eval rfl rfl)) ?_
              refine lf_nil ?_
              refine then_n ?_
              refine wp_gen (fun F' => F' 0 = fewV v l.length ∧ F' 1 = vm ∧ F' 2 = va ∧ F' 3 = vb ∧ F' 4 = .int .i64 z ∧ F' 10 = .bool true ∧ F' 11 = .pointer (some ⟨g1, 0, none⟩) ∧ F' 12 = .int .i64 ((i : Nat) : Int) ∧ F' 13 = .bool (decide (CanT ns kn a)) ∧ F' 14 = .bool (decide (CanT (bankC ns a) kn b)) ∧ F' 24 = .bool false ∧ F' 31 = .bool false ∧ F' 67 = .bool false) ⟨e0, e1, e2, e3, e4, rfl, e11, e12, e13, e14, e24, e31, e67⟩ ?_
              clear e0 e1 e2 e3 e4 e10 e11 e12 e13 e14 e24 e31 e67
              clear F
              rintro F ⟨e0, e1, e2, e3, e4, e10, e11, e12, e13, e14, e24, e31, e67⟩
              refine wp_ret ?_
              exact bodyPost_ret (v := (.bool true)) (res1 rfl (ro_tmp rfl e10)) rfl (⟨rfl, hH.done⟩)
        · refine lf_not (wantNot (d := 74) rfl (by kernel_rfl) rfl (congrArg Value.bool (decide_eq_true hc8))) ?_
          refine lf_not (wantNot (d := 74) rfl (by kernel_rfl) rfl (congrArg Value.bool (decide_eq_true hc8))) ?_
          refine lf_not (wantNot (d := 74) rfl (by kernel_rfl) rfl (congrArg Value.bool (decide_eq_true hc8))) ?_
          refine lf_val (v := .bool true) (wantAll rfl) (rv_pickT rfl (fr_eval rfl (congrArg Value.bool (decide_eq_true hc8))) rfl) ?_
          refine lf_val (v := .bool true) (wantAll rfl) (rv_move rfl (fr_eval rfl rfl)) ?_
          refine lf_val (v := .bool (decide (CanT (bankC ns a) kn b))) (wantF (d := 79) rfl (by kernel_rfl) rfl rfl) (rv_move rfl (fr_eval rfl e14)) ?_
          refine lf_val (v := .bool (decide (¬ (CanT (bankC ns a) kn b)))) (wantF (d := 79) rfl (by kernel_rfl) rfl rfl) (rv_notP (q := ¬ (CanT (bankC ns a) kn b)) rfl (fr_eval rfl rfl) Iff.rfl) ?_
          refine lf_val (v := .bool (decide (¬ (CanT (bankC ns a) kn b)))) (wantF (d := 79) rfl (by kernel_rfl) rfl rfl) (rv_move rfl (fr_eval rfl rfl)) ?_
          by_cases hc12 : CanT (bankC ns a) kn b
          · refine lf_val (v := .pointer (some ⟨g1, 0, none⟩)) (wantF (d := 82) rfl (by kernel_rfl) rfl (congrArg Value.bool (decide_eq_false (not_not_intro hc12)))) (rv_move rfl (fr_eval rfl e11)) ?_
            refine lf_val (v := vb) (wantF (d := 82) rfl (by kernel_rfl) rfl (congrArg Value.bool (decide_eq_false (not_not_intro hc12)))) (rv_move rfl (fr_eval rfl e3)) ?_
            refine lf_call (wantF (d := 82) rfl (by kernel_rfl) rfl (congrArg Value.bool (decide_eq_false (not_not_intro hc12)))) (rv_call (args := [.pointer (some ⟨g1, 0, none⟩), vb]) rfl (evc (fr_eval rfl rfl) (evc (fr_eval rfl rfl) evn)) Try.call9) (can_calls (bankC n3 more) (by omega) (knC n3 kn more) (by omega) hok5 b _ _ (Stab.part (L := []) (M := [_, _, _, _]) hb hH) (Heap.part (L := []) (M := [_, _, _, _]) hH)) ?_
            rintro _ w24 ⟨y15, q10, rfl, hP⟩
            refine ⟨_, rfl, ?_⟩
            have hx := hH.callChg (L := []) (M := [_, _, _, _]) (fun _ h => h) hP
            replace hH : Heap _ _ _ [_, _, _, _] := hH.call (L := []) (M := [_, _, _, _]) (fun _ h => h) hP (Stays.blk (hP.blk (i := 0) rfl) (Stays.own (hP.own (i := 1) rfl) (Stays.mp (hP.mp (i := 2) rfl) (Stays.own (hP.own (i := 3) rfl) Stays.nil))))
            clear hP
            clear hx
            have hok10 := Ok.can (t := b) hok5
            have hbl10 := bankC_le (bankC n3 more) b
            refine lf_val (v := .bool true) (wantF (d := 79) rfl (by kernel_rfl) rfl rfl) (rv_pickF rfl (fr_eval rfl (congrArg Value.bool (decide_eq_false (not_not_intro hc12)))) (fr_eval rfl (congrArg Value.bool (decide_eq_true (CanT.on hc12 (Ok.can (t := a) pi1) (Pre.trans pn31 (bankC_pre n3 more)) (knC_sub n3 kn more)))))) ?_
            refine lf_val (v := .bool true) (wantAll rfl) (rv_pickT rfl (fr_eval rfl rfl) (fr_eval rfl rfl)) ?_
            refine lf_val (v := .bool true) (wantAll rfl) (rv_move rfl (fr_eval rfl rfl)) ?_
            refine lf_val (v := vm) (wantF (d := 88) rfl (by kernel_rfl) rfl rfl) (rv_move rfl (fr_eval rfl e1)) ?_
            refine lf_call (wantF (d := 88) rfl (by kernel_rfl) rfl rfl) (rv_call (args := [vm]) rfl (evc (fr_eval rfl rfl) evn) Try.call11) (lawRight_calls more _ _ (hm.rd _ hH.chg)) ?_
            rintro _ w25 ⟨rfl, hx⟩
            refine ⟨_, rfl, ?_⟩
            replace hH := hH.ext hx
            clear hx
            refine lf_val (v := .bool (decide (¬ (okT more)))) (wantF (d := 88) rfl (by kernel_rfl) rfl rfl) (rv_notP (q := ¬ (okT more)) rfl (fr_eval rfl rfl) Iff.rfl) ?_
            refine lf_val (v := .bool (decide (¬ (okT more)))) (wantF (d := 88) rfl (by kernel_rfl) rfl rfl) (rv_move rfl (fr_eval rfl rfl)) ?_
            by_cases hc13 : okT more
            · refine lf_val (v := .pointer (some ⟨g1, 0, none⟩)) (wantF (d := 92) rfl (by kernel_rfl) rfl (congrArg Value.bool (decide_eq_false (not_not_intro hc13)))) (rv_move rfl (fr_eval rfl e11)) ?_
              refine lf_val (v := vm) (wantF (d := 92) rfl (by kernel_rfl) rfl (congrArg Value.bool (decide_eq_false (not_not_intro hc13)))) (rv_move rfl (fr_eval rfl e1)) ?_
              refine lf_call (wantF (d := 92) rfl (by kernel_rfl) rfl (congrArg Value.bool (decide_eq_false (not_not_intro hc13)))) (rv_call (args := [.pointer (some ⟨g1, 0, none⟩), vm]) rfl (evc (fr_eval rfl rfl) (evc (fr_eval rfl rfl) evn)) Try.call9) (can_calls (bankC (bankC n3 more) b) (by omega) (knC n3 kn more) (by omega) hok10 more _ _ (Stab.part (L := []) (M := [_, _, _, _]) hm hH) (Heap.part (L := []) (M := [_, _, _, _]) hH)) ?_
              rintro _ w26 ⟨y16, q11, rfl, hP⟩
              refine ⟨_, rfl, ?_⟩
              have hx := hH.callChg (L := []) (M := [_, _, _, _]) (fun _ h => h) hP
              replace hH : Heap _ _ _ [_, _, _, _] := hH.call (L := []) (M := [_, _, _, _]) (fun _ h => h) hP (Stays.blk (hP.blk (i := 0) rfl) (Stays.own (hP.own (i := 1) rfl) (Stays.mp (hP.mp (i := 2) rfl) (Stays.own (hP.own (i := 3) rfl) Stays.nil))))
              clear hP
              clear hx
              have hok11 := Ok.can (t := more) hok10
              have hbl11 := bankC_le (bankC (bankC n3 more) b) more
              refine lf_val (v := .bool true) (wantF (d := 88) rfl (by kernel_rfl) rfl rfl) (rv_pickF rfl (fr_eval rfl (congrArg Value.bool (decide_eq_false (not_not_intro hc13)))) (fr_eval rfl (congrArg Value.bool (decide_eq_true (can_more pn30 hc13 (Pre.trans (Pre.refl _) (bankC_pre _ b))))))) ?_
              refine lf_val (v := .bool true) (wantAll rfl) (rv_pickT rfl (fr_eval rfl rfl) (fr_eval rfl rfl)) ?_
              refine lf_val (v := .bool true) (wantAll rfl) (rv_move rfl (fr_eval rfl rfl)) ?_
              refine lf_call (wantF (d := 98) rfl (by kernel_rfl) rfl rfl) (rv_call (args := []) rfl evn Try.call7) (awake37_calls _) ?_
              rintro _ w27 ⟨rfl, hx⟩
              refine ⟨_, rfl, ?_⟩
              replace hH := hH.ext hx
              clear hx
              refine lf_val (v := .bool true) (wantAll rfl) (rv_pickT rfl (fr_eval rfl rfl) (fr_eval rfl rfl)) ?_
              refine lf_val (v := .bool true) (wantAll rfl) (rv_assign rfl (fr_eval rfl rfl)) ?_
              refine lf_nil ?_
              refine then_n ?_
              refine wp_gen (fun F' => F' 0 = fewV v l.length ∧ F' 1 = vm ∧ F' 2 = va ∧ F' 3 = vb ∧ F' 4 = .int .i64 z ∧ F' 10 = .bool true ∧ F' 11 = .pointer (some ⟨g1, 0, none⟩) ∧ F' 12 = .int .i64 ((i : Nat) : Int) ∧ F' 13 = .bool (decide (CanT ns kn a)) ∧ F' 14 = .bool (decide (CanT (bankC ns a) kn b)) ∧ F' 24 = .bool false ∧ F' 31 = .bool false ∧ F' 67 = .bool false) ⟨e0, e1, e2, e3, e4, rfl, e11, e12, e13, e14, e24, e31, e67⟩ ?_
              clear e0 e1 e2 e3 e4 e10 e11 e12 e13 e14 e24 e31 e67
              clear F
              rintro F ⟨e0, e1, e2, e3, e4, e10, e11, e12, e13, e14, e24, e31, e67⟩
              refine wp_ret ?_
              exact bodyPost_ret (v := (.bool true)) (res1 rfl (ro_tmp rfl e10)) rfl (⟨rfl, hH.done⟩)
            · refine lf_not (wantNot (d := 92) rfl (by kernel_rfl) rfl (congrArg Value.bool (decide_eq_true hc13))) ?_
              refine lf_not (wantNot (d := 92) rfl (by kernel_rfl) rfl (congrArg Value.bool (decide_eq_true hc13))) ?_
              refine lf_not (wantNot (d := 92) rfl (by kernel_rfl) rfl (congrArg Value.bool (decide_eq_true hc13))) ?_
              refine lf_val (v := .bool true) (wantF (d := 88) rfl (by kernel_rfl) rfl rfl) (rv_pickT rfl (fr_eval rfl (congrArg Value.bool (decide_eq_true hc13))) rfl) ?_
              refine lf_val (v := .bool true) (wantAll rfl) (rv_pickT rfl (fr_eval rfl rfl) (fr_eval rfl rfl)) ?_
              refine lf_val (v := .bool true) (wantAll rfl) (rv_move rfl (fr_eval rfl rfl)) ?_
              refine lf_call (wantF (d := 98) rfl (by kernel_rfl) rfl rfl) (rv_call (args := []) rfl evn Try.call7) (awake37_calls _) ?_
              rintro _ w28 ⟨rfl, hx⟩
              refine ⟨_, rfl, ?_⟩
              replace hH := hH.ext hx
              clear hx
              refine lf_val (v := .bool true) (wantAll rfl) (rv_pickT rfl (fr_eval rfl rfl) (fr_eval rfl rfl)) ?_
              refine lf_val (v := .bool true) (wantAll rfl) (rv_assign rfl (fr_eval rfl rfl)) ?_
              refine lf_nil ?_
              refine then_n ?_
              refine wp_gen (fun F' => F' 0 = fewV v l.length ∧ F' 1 = vm ∧ F' 2 = va ∧ F' 3 = vb ∧ F' 4 = .int .i64 z ∧ F' 10 = .bool true ∧ F' 11 = .pointer (some ⟨g1, 0, none⟩) ∧ F' 12 = .int .i64 ((i : Nat) : Int) ∧ F' 13 = .bool (decide (CanT ns kn a)) ∧ F' 14 = .bool (decide (CanT (bankC ns a) kn b)) ∧ F' 24 = .bool false ∧ F' 31 = .bool false ∧ F' 67 = .bool false) ⟨e0, e1, e2, e3, e4, rfl, e11, e12, e13, e14, e24, e31, e67⟩ ?_
              clear e0 e1 e2 e3 e4 e10 e11 e12 e13 e14 e24 e31 e67
              clear F
              rintro F ⟨e0, e1, e2, e3, e4, e10, e11, e12, e13, e14, e24, e31, e67⟩
              refine wp_ret ?_
              exact bodyPost_ret (v := (.bool true)) (res1 rfl (ro_tmp rfl e10)) rfl (⟨rfl, hH.done⟩)
          · refine lf_not (wantNot (d := 82) rfl (by kernel_rfl) rfl (congrArg Value.bool (decide_eq_true hc12))) ?_
            refine lf_not (wantNot (d := 82) rfl (by kernel_rfl) rfl (congrArg Value.bool (decide_eq_true hc12))) ?_
            refine lf_not (wantNot (d := 82) rfl (by kernel_rfl) rfl (congrArg Value.bool (decide_eq_true hc12))) ?_
            refine lf_val (v := .bool true) (wantF (d := 79) rfl (by kernel_rfl) rfl rfl) (rv_pickT rfl (fr_eval rfl (congrArg Value.bool (decide_eq_true hc12))) rfl) ?_
            refine lf_val (v := .bool true) (wantAll rfl) (rv_pickT rfl (fr_eval rfl rfl) (fr_eval rfl rfl)) ?_
            refine lf_val (v := .bool true) (wantAll rfl) (rv_move rfl (fr_eval rfl rfl)) ?_
            refine lf_val (v := vm) (wantF (d := 88) rfl (by kernel_rfl) rfl rfl) (rv_move rfl (fr_eval rfl e1)) ?_
            refine lf_call (wantF (d := 88) rfl (by kernel_rfl) rfl rfl) (rv_call (args := [vm]) rfl (evc (fr_eval rfl rfl) evn) Try.call11) (lawRight_calls more _ _ (hm.rd _ hH.chg)) ?_
            rintro _ w29 ⟨rfl, hx⟩
            refine ⟨_, rfl, ?_⟩
            replace hH := hH.ext hx
            clear hx
            refine lf_val (v := .bool (decide (¬ (okT more)))) (wantF (d := 88) rfl (by kernel_rfl) rfl rfl) (rv_notP (q := ¬ (okT more)) rfl (fr_eval rfl rfl) Iff.rfl) ?_
            refine lf_val (v := .bool (decide (¬ (okT more)))) (wantF (d := 88) rfl (by kernel_rfl) rfl rfl) (rv_move rfl (fr_eval rfl rfl)) ?_
            by_cases hc14 : okT more
            · refine lf_val (v := .pointer (some ⟨g1, 0, none⟩)) (wantF (d := 92) rfl (by kernel_rfl) rfl (congrArg Value.bool (decide_eq_false (not_not_intro hc14)))) (rv_move rfl (fr_eval rfl e11)) ?_
              refine lf_val (v := vm) (wantF (d := 92) rfl (by kernel_rfl) rfl (congrArg Value.bool (decide_eq_false (not_not_intro hc14)))) (rv_move rfl (fr_eval rfl e1)) ?_
              refine lf_call (wantF (d := 92) rfl (by kernel_rfl) rfl (congrArg Value.bool (decide_eq_false (not_not_intro hc14)))) (rv_call (args := [.pointer (some ⟨g1, 0, none⟩), vm]) rfl (evc (fr_eval rfl rfl) (evc (fr_eval rfl rfl) evn)) Try.call9) (can_calls (bankC n3 more) (by omega) (knC n3 kn more) (by omega) hok5 more _ _ (Stab.part (L := []) (M := [_, _, _, _]) hm hH) (Heap.part (L := []) (M := [_, _, _, _]) hH)) ?_
              rintro _ w30 ⟨y17, q12, rfl, hP⟩
              refine ⟨_, rfl, ?_⟩
              have hx := hH.callChg (L := []) (M := [_, _, _, _]) (fun _ h => h) hP
              replace hH : Heap _ _ _ [_, _, _, _] := hH.call (L := []) (M := [_, _, _, _]) (fun _ h => h) hP (Stays.blk (hP.blk (i := 0) rfl) (Stays.own (hP.own (i := 1) rfl) (Stays.mp (hP.mp (i := 2) rfl) (Stays.own (hP.own (i := 3) rfl) Stays.nil))))
              clear hP
              clear hx
              have hok12 := Ok.can (t := more) hok5
              have hbl12 := bankC_le (bankC n3 more) more
              refine lf_val (v := .bool true) (wantF (d := 88) rfl (by kernel_rfl) rfl rfl) (rv_pickF rfl (fr_eval rfl (congrArg Value.bool (decide_eq_false (not_not_intro hc14)))) (fr_eval rfl (congrArg Value.bool (decide_eq_true (can_more pn30 hc14 (Pre.refl _)))))) ?_
              refine lf_val (v := .bool true) (wantAll rfl) (rv_pickT rfl (fr_eval rfl rfl) (fr_eval rfl rfl)) ?_
              refine lf_val (v := .bool true) (wantAll rfl) (rv_move rfl (fr_eval rfl rfl)) ?_
              refine lf_call (wantF (d := 98) rfl (by kernel_rfl) rfl rfl) (rv_call (args := []) rfl evn Try.call7) (awake37_calls _) ?_
              rintro _ w31 ⟨rfl, hx⟩
              refine ⟨_, rfl, ?_⟩
              replace hH := hH.ext hx
              clear hx
              refine lf_val (v := .bool true) (wantAll rfl) (rv_pickT rfl (fr_eval rfl rfl) (fr_eval rfl rfl)) ?_
              refine lf_val (v := .bool true) (wantAll rfl) (rv_assign rfl (fr_eval rfl rfl)) ?_
              refine lf_nil ?_
              refine then_n ?_
              refine wp_gen (fun F' => F' 0 = fewV v l.length ∧ F' 1 = vm ∧ F' 2 = va ∧ F' 3 = vb ∧ F' 4 = .int .i64 z ∧ F' 10 = .bool true ∧ F' 11 = .pointer (some ⟨g1, 0, none⟩) ∧ F' 12 = .int .i64 ((i : Nat) : Int) ∧ F' 13 = .bool (decide (CanT ns kn a)) ∧ F' 14 = .bool (decide (CanT (bankC ns a) kn b)) ∧ F' 24 = .bool false ∧ F' 31 = .bool false ∧ F' 67 = .bool false) ⟨e0, e1, e2, e3, e4, rfl, e11, e12, e13, e14, e24, e31, e67⟩ ?_
              clear e0 e1 e2 e3 e4 e10 e11 e12 e13 e14 e24 e31 e67
              clear F
              rintro F ⟨e0, e1, e2, e3, e4, e10, e11, e12, e13, e14, e24, e31, e67⟩
              refine wp_ret ?_
              exact bodyPost_ret (v := (.bool true)) (res1 rfl (ro_tmp rfl e10)) rfl (⟨rfl, hH.done⟩)
            · refine lf_not (wantNot (d := 92) rfl (by kernel_rfl) rfl (congrArg Value.bool (decide_eq_true hc14))) ?_
              refine lf_not (wantNot (d := 92) rfl (by kernel_rfl) rfl (congrArg Value.bool (decide_eq_true hc14))) ?_
              refine lf_not (wantNot (d := 92) rfl (by kernel_rfl) rfl (congrArg Value.bool (decide_eq_true hc14))) ?_
              refine lf_val (v := .bool true) (wantF (d := 88) rfl (by kernel_rfl) rfl rfl) (rv_pickT rfl (fr_eval rfl (congrArg Value.bool (decide_eq_true hc14))) rfl) ?_
              refine lf_val (v := .bool true) (wantAll rfl) (rv_pickT rfl (fr_eval rfl rfl) (fr_eval rfl rfl)) ?_
              refine lf_val (v := .bool true) (wantAll rfl) (rv_move rfl (fr_eval rfl rfl)) ?_
              refine lf_call (wantF (d := 98) rfl (by kernel_rfl) rfl rfl) (rv_call (args := []) rfl evn Try.call7) (awake37_calls _) ?_
              rintro _ w32 ⟨rfl, hx⟩
              refine ⟨_, rfl, ?_⟩
              replace hH := hH.ext hx
              clear hx
              refine lf_val (v := .bool true) (wantAll rfl) (rv_pickT rfl (fr_eval rfl rfl) (fr_eval rfl rfl)) ?_
              refine lf_val (v := .bool true) (wantAll rfl) (rv_assign rfl (fr_eval rfl rfl)) ?_
              refine lf_nil ?_
              refine then_n ?_
              refine wp_gen (fun F' => F' 0 = fewV v l.length ∧ F' 1 = vm ∧ F' 2 = va ∧ F' 3 = vb ∧ F' 4 = .int .i64 z ∧ F' 10 = .bool true ∧ F' 11 = .pointer (some ⟨g1, 0, none⟩) ∧ F' 12 = .int .i64 ((i : Nat) : Int) ∧ F' 13 = .bool (decide (CanT ns kn a)) ∧ F' 14 = .bool (decide (CanT (bankC ns a) kn b)) ∧ F' 24 = .bool false ∧ F' 31 = .bool false ∧ F' 67 = .bool false) ⟨e0, e1, e2, e3, e4, rfl, e11, e12, e13, e14, e24, e31, e67⟩ ?_
              clear e0 e1 e2 e3 e4 e10 e11 e12 e13 e14 e24 e31 e67
              clear F
              rintro F ⟨e0, e1, e2, e3, e4, e10, e11, e12, e13, e14, e24, e31, e67⟩
              refine wp_ret ?_
              exact bodyPost_ret (v := (.bool true)) (res1 rfl (ro_tmp rfl e10)) rfl (⟨rfl, hH.done⟩)

set_option maxRecDepth 100000 in
set_option maxHeartbeats 4000000 in
theorem termForges_walk (l : List Tm) (v : Value) (z : Int) (a : List Nd) (va : Value) (w : World) (hr0 : Rd w 1 v l.length (l.flatMap cTm)) (hy0 : ∀ x ∈ l, Rd w 3 x.v.1 x.t.length (x.t.flatMap cNd)) (ha0 : Rd w 3 va a.length (a.flatMap cNd)) :
    Calls Try.prog 4 #[v, .int .i64 z, va] w fun e'' w' => e'' = .returned (.bool true) ∧ Ext w w' := by
  refine calls_fr (args := [v, .int .i64 z, va]) (n := 92) Try.func4 rfl rfl (show 3 ≤ 92 by decide) ?_
  have h00 : ([] : List Nd).length = 0 := rfl
  have h01 : ([] : List Nat).length = 0 := rfl
  have hr := Rd.stab hr0
  have hy := fun x hx => Rd.stab (hy0 x hx)
  have ha := Rd.stab ha0
  have hH : Heap (newN w) w w [] := Heap.fresh
  refine wp_seq ?_
  refine wp_gen (fun F' => F' 0 = v ∧ F' 1 = .int .i64 z ∧ F' 2 = va) ⟨rfl, rfl, rfl⟩ ?_
  rintro F ⟨e0, e1, e2⟩
  refine wp_regionF ?_
  refine lf_val (v := .bool false) (wantAll rfl) (rv_assign rfl rfl) ?_
  refine lf_nil ?_
  refine then_n ?_
  refine wp_seq ?_
  refine wp_gen (fun F' => F' 0 = v ∧ F' 1 = .int .i64 z ∧ F' 2 = va ∧ F' 6 = .bool false) ⟨e0, e1, e2, rfl⟩ ?_
  clear e0 e1 e2
  clear F
  rintro F ⟨e0, e1, e2, e6⟩
  refine wp_regionF ?_
  refine lf_val (v := v) (wantAll rfl) (rv_move rfl (fr_eval rfl e0)) ?_
  obtain ⟨q, hq8, hqs, hqy⟩ := few_obt hr hy
  refine lf_call (wantAll rfl) (rv_call (args := [v]) rfl (evc (fr_eval rfl rfl) evn) Try.call6) (few37_calls l _ _ (hr.rd _ hH.chg)) ?_
  rintro _ w1 ⟨rfl, hx⟩
  refine ⟨_, rfl, ?_⟩
  replace hH := hH.ext hx
  clear hx
  refine lf_val (v := fewV v l.length) (wantAll rfl) (rv_assign rfl (fr_eval rfl rfl)) ?_
  refine lf_nil ?_
  refine then_n ?_
  refine wp_seq ?_
  refine wp_seq ?_
  refine wp_gen (fun F' => F' 0 = fewV v l.length ∧ F' 1 = .int .i64 z ∧ F' 2 = va ∧ F' 6 = .bool false) ⟨rfl, e1, e2, e6⟩ ?_
  clear e0 e1 e2 e6
  clear F
  rintro F ⟨e0, e1, e2, e6⟩
  refine wp_regionF ?_
  refine lf_val (v := .int .i64 z) (wantAll rfl) (rv_move rfl (fr_eval rfl e1)) ?_
  refine lf_val (v := .bool (decide (z < 0))) (wantAll rfl) (rv_lssP (p := z < 0) rfl (fr_eval rfl rfl) rfl Iff.rfl) ?_
  refine lf_val (v := .bool (decide (z < 0))) (wantAll rfl) (rv_move rfl (fr_eval rfl rfl)) ?_
  refine lf_joinP (fun F' => F' 0 = fewV v l.length ∧ F' 1 = .int .i64 z ∧ F' 2 = va ∧ F' 6 = .bool false ∧ F' 17 = .bool (decide ((z < 0) ∨ (z > 1048576)))) 3 (fun hk => ?_) ?_
  · by_cases hc1 : z < 0
    · refine lf_not (wantNot (d := 14) rfl (by kernel_rfl) rfl (congrArg Value.bool (decide_eq_true hc1))) ?_
      refine lf_not (wantNot (d := 14) rfl (by kernel_rfl) rfl (congrArg Value.bool (decide_eq_true hc1))) ?_
      refine lf_val (v := .bool true) (wantAll rfl) (rv_pickT rfl (fr_eval rfl (congrArg Value.bool (decide_eq_true hc1))) rfl) ?_
      exact hk _ ⟨e0, e1, e2, e6, (congrArg Value.bool (dec_orT hc1))⟩
    · refine lf_val (v := .int .i64 z) (wantF (d := 14) rfl (by kernel_rfl) rfl (congrArg Value.bool (decide_eq_false hc1))) (rv_move rfl (fr_eval rfl e1)) ?_
      refine lf_val (v := .bool (decide (z > 1048576))) (wantF (d := 14) rfl (by kernel_rfl) rfl (congrArg Value.bool (decide_eq_false hc1))) (rv_gtrP (p := z > 1048576) rfl (fr_eval rfl rfl) rfl Iff.rfl) ?_
      refine lf_val (v := .bool (decide (z > 1048576))) (wantAll rfl) (rv_pickF rfl (fr_eval rfl (congrArg Value.bool (decide_eq_false hc1))) (fr_eval rfl rfl)) ?_
      exact hk _ ⟨e0, e1, e2, e6, (congrArg Value.bool (dec_or hc1))⟩
  · clear e0 e1 e2 e6
    clear F
    rintro F ⟨e0, e1, e2, e6, e17⟩
    refine lf_val (v := .bool (decide ((z < 0) ∨ (z > 1048576)))) (wantAll rfl) (rv_move rfl (fr_eval rfl e17)) ?_
    refine lf_joinP (fun F' => F' 0 = fewV v l.length ∧ F' 1 = .int .i64 z ∧ F' 2 = va ∧ F' 6 = .bool false ∧ F' 22 = .bool (decide (((z < 0) ∨ (z > 1048576)) ∨ (a.length > 20)))) 4 (fun hk => ?_) ?_
    · by_cases hc2 : (z < 0) ∨ (z > 1048576)
      · refine lf_not (wantNot (d := 18) rfl (by kernel_rfl) rfl (congrArg Value.bool (decide_eq_true hc2))) ?_
        refine lf_not (wantNot (d := 18) rfl (by kernel_rfl) rfl (congrArg Value.bool (decide_eq_true hc2))) ?_
        refine lf_not (wantNot (d := 18) rfl (by kernel_rfl) rfl (congrArg Value.bool (decide_eq_true hc2))) ?_
        refine lf_val (v := .bool true) (wantAll rfl) (rv_pickT rfl (fr_eval rfl (congrArg Value.bool (decide_eq_true hc2))) rfl) ?_
        exact hk _ ⟨e0, e1, e2, e6, (congrArg Value.bool (dec_orT hc2))⟩
      · refine lf_val (v := va) (wantF (d := 18) rfl (by kernel_rfl) rfl (congrArg Value.bool (decide_eq_false hc2))) (rv_move rfl (fr_eval rfl e2)) ?_
        refine lf_val (v := .int .i64 ((a.length : Nat) : Int)) (wantF (d := 18) rfl (by kernel_rfl) rfl (congrArg Value.bool (decide_eq_false hc2))) (rv_len rfl (fr_eval rfl rfl) (ha.rd _ hH.chg) Try.underlying24) ?_
        refine lf_val (v := .bool (decide (a.length > 20))) (wantF (d := 18) rfl (by kernel_rfl) rfl (congrArg Value.bool (decide_eq_false hc2))) (rv_gtrP (p := a.length > 20) rfl (fr_eval rfl rfl) rfl (by omega)) ?_
        refine lf_val (v := .bool (decide (a.length > 20))) (wantAll rfl) (rv_pickF rfl (fr_eval rfl (congrArg Value.bool (decide_eq_false hc2))) (fr_eval rfl rfl)) ?_
        exact hk _ ⟨e0, e1, e2, e6, (congrArg Value.bool (dec_or hc2))⟩
    · clear e0 e1 e2 e6 e17
      clear F
      rintro F ⟨e0, e1, e2, e6, e22⟩
      refine lf_val (wantAll rfl) (rv_move rfl (fr_eval rfl e22)) ?_
      refine lf_join (fun F' w' => F' 0 = fewV v l.length ∧ F' 1 = .int .i64 z ∧ F' 2 = va ∧ F' 6 = .bool false ∧ F' 27 = .bool (decide ((((z < 0) ∨ (z > 1048576)) ∨ (a.length > 20)) ∨ (¬ (okT a)))) ∧ Heap (newN w) w w' []) 4 (fun hk => ?_) ?_
      · by_cases hc3 : ((z < 0) ∨ (z > 1048576)) ∨ (a.length > 20)
        · refine lf_not (wantNot (d := 23) rfl (by kernel_rfl) rfl (congrArg Value.bool (decide_eq_true hc3))) ?_
          refine lf_not (wantNot (d := 23) rfl (by kernel_rfl) rfl (congrArg Value.bool (decide_eq_true hc3))) ?_
          refine lf_not (wantNot (d := 23) rfl (by kernel_rfl) rfl (congrArg Value.bool (decide_eq_true hc3))) ?_
          refine lf_val (v := .bool true) (wantAll rfl) (rv_pickT rfl (fr_eval rfl (congrArg Value.bool (decide_eq_true hc3))) rfl) ?_
          exact hk _ _ ⟨e0, e1, e2, e6, (congrArg Value.bool (dec_orT hc3)), hH⟩
        · refine lf_val (v := va) (wantF (d := 23) rfl (by kernel_rfl) rfl (congrArg Value.bool (decide_eq_false hc3))) (rv_move rfl (fr_eval rfl e2)) ?_
          refine lf_call (wantF (d := 23) rfl (by kernel_rfl) rfl (congrArg Value.bool (decide_eq_false hc3))) (rv_call (args := [va]) rfl (evc (fr_eval rfl rfl) evn) Try.call11) (lawRight_calls a _ _ (ha.rd _ hH.chg)) ?_
          rintro _ w2 ⟨rfl, hx⟩
          refine ⟨_, rfl, ?_⟩
          replace hH := hH.ext hx
          clear hx
          refine lf_val (v := .bool (decide (¬ (okT a)))) (wantF (d := 23) rfl (by kernel_rfl) rfl (congrArg Value.bool (decide_eq_false hc3))) (rv_notP (q := ¬ (okT a)) rfl (fr_eval rfl rfl) Iff.rfl) ?_
          refine lf_val (v := .bool (decide (¬ (okT a)))) (wantAll rfl) (rv_pickF rfl (fr_eval rfl (congrArg Value.bool (decide_eq_false hc3))) (fr_eval rfl rfl)) ?_
          exact hk _ _ ⟨e0, e1, e2, e6, (congrArg Value.bool (dec_or hc3)), hH⟩
      · clear e0 e1 e2 e6 e22 hH
        clear F
        rintro F w3 ⟨e0, e1, e2, e6, e27, hH⟩
        refine lf_nil ?_
        refine then_n ?_
        by_cases hc4 : (((z < 0) ∨ (z > 1048576)) ∨ (a.length > 20)) ∨ (¬ (okT a))
        · refine wp_cond_true (fr_eval rfl (e27.trans (congrArg Value.bool (decide_eq_true hc4)))) ?_
          refine wp_seq ?_
          refine wp_regionF ?_
          refine lf_call (wantAll rfl) (rv_call (args := []) rfl evn Try.call7) (awake37_calls _) ?_
          rintro _ w4 ⟨rfl, hx⟩
          refine ⟨_, rfl, ?_⟩
          replace hH := hH.ext hx
          clear hx
          refine lf_val (v := .bool true) (wantAll rfl) (rv_assign rfl (fr_eval rfl rfl)) ?_
          refine lf_nil ?_
          refine then_n ?_
          refine wp_gen (fun F' => F' 0 = fewV v l.length ∧ F' 1 = .int .i64 z ∧ F' 2 = va ∧ F' 6 = .bool true ∧ F' 27 = .bool true) ⟨e0, e1, e2, rfl, (e27.trans (congrArg Value.bool (decide_eq_true hc4)))⟩ ?_
          clear e0 e1 e2 e6 e27
          clear F
          rintro F ⟨e0, e1, e2, e6, e27⟩
          refine wp_ret ?_
          refine then_ret ?_
          exact bodyPost_ret (v := (.bool true)) (res1 rfl (ro_tmp rfl e6)) rfl (⟨rfl, hH.done⟩)
        · refine wp_cond_false (fr_eval rfl (e27.trans (congrArg Value.bool (decide_eq_false hc4)))) ?_
          refine wp_skip ?_
          refine then_n ?_
          refine wp_seq ?_
          refine wp_regionF ?_
          refine lf_val (wantAll rfl) (rv_buildS (ps := []) (places := #[(0, 2), (2, 1)]) (z := .agg #[.slice none 0 0, .map none, .slice none 0 0]) (zc := [.slice none 0 0, .map none, .slice none 0 0]) (cs := [.slice none 0 0, .map none, .slice none 0 0]) rfl evpn (by kernel_rfl) rfl Try.underlying33 (fun _ => by kernel_rfl) fill0) ?_
          refine lf_ex (wantAll rfl) (hx_box hH 33 (cs := [.slice none 0 0, .map none, .slice none 0 0]) rfl (fr_eval rfl rfl) (by rfl)) ?_
          clear hH
          rintro _ w5 ⟨g1, rfl, hH, hx⟩
          replace hH : Heap _ _ _ [_] := hH
          clear hx
          refine lf_val (v := .pointer (some ⟨g1, 0, none⟩)) (wantAll rfl) (rv_assign rfl (fr_eval rfl rfl)) ?_
          refine lf_nil ?_
          refine then_n ?_
          refine wp_seq ?_
          refine wp_seq ?_
          refine wp_gen (fun F' => F' 0 = fewV v l.length ∧ F' 1 = .int .i64 z ∧ F' 2 = va ∧ F' 6 = .bool false ∧ F' 7 = .pointer (some ⟨g1, 0, none⟩) ∧ F' 27 = .bool false) ⟨e0, e1, e2, e6, rfl, (e27.trans (congrArg Value.bool (decide_eq_false hc4)))⟩ ?_
          clear e0 e1 e2 e6 e27
          clear F
          rintro F ⟨e0, e1, e2, e6, e7, e27⟩
          replace hH : Heap _ _ _ [_, _] := hH.addNil 40 3
          replace hH : Heap _ _ _ [_, _, _] := hH.addNil 3 1
          replace hH : Heap (newN w) w w5 [oBlk g1 ([(.slice none 0 0), .map none, (.slice none 0 0)]) 33, oRow cNd 40 3 (.slice none 0 0) [], oRow cNu 3 1 (.slice none 0 0) [], oMp none []] := hH.addMp0
          refine wp_regionF ?_
          refine lf_val (v := .int .i64 0) (wantAll rfl) (rv_assign rfl rfl) ?_
          refine lf_nil ?_
          refine then_n ?_
          refine wp_block ?_
          refine wp_gen (fun F' => F' 0 = fewV v l.length ∧ F' 1 = .int .i64 z ∧ F' 2 = va ∧ F' 6 = .bool false ∧ F' 7 = .pointer (some ⟨g1, 0, none⟩) ∧ F' 8 = .int .i64 0 ∧ F' 27 = .bool false) ⟨e0, e1, e2, e6, e7, rfl, e27⟩ ?_
          clear e0 e1 e2 e6 e7 e27
          clear F
          rintro F ⟨e0, e1, e2, e6, e7, e8, e27⟩
          refine wp_loopF (fun m F wr => ∃ i : Nat, ∃ ns : List Nd, ∃ kn : List Nat, ∃ u : Value, ∃ mu : Option Nat, ∃ ku : Value, m = q.length - i ∧ i ≤ q.length ∧ Ok ns kn ∧ ns.length ≤ 64 * i ∧ kn.length ≤ i ∧ Lacks z ns ∧ F 0 = fewV v l.length ∧ F 1 = .int .i64 z ∧ F 2 = va ∧ F 7 = .pointer (some ⟨g1, 0, none⟩) ∧ F 8 = .int .i64 ((i : Nat) : Int) ∧ F 27 = .bool false ∧ Heap (newN w) w wr [oBlk g1 ([u, .map mu, ku]) 33, oRow cNd 40 3 u ns, oRow cNu 3 1 ku kn, oMp mu ns]) ⟨0, [], [], _, _, _, rfl, Nat.zero_le _, Ok.none, (by omega), (by omega), (lacks_nil z), e0, e1, e2, e7, e8, e27, hH⟩ ?_
          clear e0 e1 e2 e6 e7 e8 e27 hH
          clear F
          rintro m F w6 ⟨i, ns, kn, u, mu, ku, rfl, pi0, pi1, pi2, pi3, pi4, e0, e1, e2, e7, e8, e27, hH⟩
          refine wp_seq ?_
          refine wp_seq ?_
          refine wp_regionF ?_
          refine lf_val (v := .int .i64 ((i : Nat) : Int)) (wantAll rfl) (rv_move rfl (fr_eval rfl e8)) ?_
          refine lf_val (v := fewV v l.length) (wantAll rfl) (rv_move rfl (fr_eval rfl e0)) ?_
          refine lf_val (v := .int .i64 ((q.length : Nat) : Int)) (wantAll rfl) (rv_len rfl (fr_eval rfl rfl) (hqs.rd _ hH.chg) Try.underlying22) ?_
          refine lf_val (v := .bool (decide (i < q.length))) (wantAll rfl) (rv_lssP (p := i < q.length) rfl (fr_eval rfl rfl) (fr_eval rfl rfl) (by omega)) ?_
          refine lf_nil ?_
          refine then_n ?_
          refine wp_gen (fun F' => F' 0 = fewV v l.length ∧ F' 1 = .int .i64 z ∧ F' 2 = va ∧ F' 7 = .pointer (some ⟨g1, 0, none⟩) ∧ F' 8 = .int .i64 ((i : Nat) : Int) ∧ F' 27 = .bool false ∧ F' 34 = .bool (decide (i < q.length))) ⟨e0, e1, e2, e7, e8, e27, rfl⟩ ?_
          clear e0 e1 e2 e7 e8 e27
          clear F
          rintro F ⟨e0, e1, e2, e7, e8, e27, e34⟩
          by_cases hc5 : i < q.length
          · refine wp_cond_true (fr_eval rfl (e34.trans (congrArg Value.bool (decide_eq_true hc5)))) ?_
            refine wp_skip ?_
            refine then_n ?_
            refine wp_seq ?_
            refine wp_block ?_
            refine wp_seq ?_
            refine wp_seq ?_
            refine wp_regionF ?_
            refine lf_val (v := .int .i64 0) (wantAll rfl) (rv_assign rfl rfl) ?_
            refine lf_nil ?_
            refine then_n ?_
            refine wp_block ?_
            have hql := stab_le (hqy _ (memT (d := zTm) (by omega : i < q.length)))
            refine wp_gen (fun F' => F' 0 = fewV v l.length ∧ F' 1 = .int .i64 z ∧ F' 2 = va ∧ F' 7 = .pointer (some ⟨g1, 0, none⟩) ∧ F' 8 = .int .i64 ((i : Nat) : Int) ∧ F' 9 = .int .i64 0 ∧ F' 27 = .bool false ∧ F' 34 = .bool true) ⟨e0, e1, e2, e7, e8, rfl, e27, (e34.trans (congrArg Value.bool (decide_eq_true hc5)))⟩ ?_
            clear e0 e1 e2 e7 e8 e27 e34
            clear F
            rintro F ⟨e0, e1, e2, e7, e8, e9, e27, e34⟩
            refine wp_loopF (fun m F wr => ∃ j : Nat, m = (q.getD i zTm).t.length - j ∧ j ≤ (q.getD i zTm).t.length ∧ (∀ p, p < j → ¬ (((q.getD i zTm).t.getD p zN).k = 1 ∧ ((q.getD i zTm).t.getD p zN).a = z)) ∧ F 0 = fewV v l.length ∧ F 1 = .int .i64 z ∧ F 2 = va ∧ F 7 = .pointer (some ⟨g1, 0, none⟩) ∧ F 8 = .int .i64 ((i : Nat) : Int) ∧ F 9 = .int .i64 ((j : Nat) : Int) ∧ F 27 = .bool false ∧ F 34 = .bool true ∧ Heap (newN w) w wr [oBlk g1 ([u, .map mu, ku]) 33, oRow cNd 40 3 u ns, oRow cNu 3 1 ku kn, oMp mu ns]) ⟨0, rfl, Nat.zero_le _, (fun p h => by omega), e0, e1, e2, e7, e8, e9, e27, e34, hH⟩ ?_
            clear e0 e1 e2 e7 e8 e9 e27 e34 hH
            clear F
            rintro m F w7 ⟨j, rfl, pj0, pj1, e0, e1, e2, e7, e8, e9, e27, e34, hH⟩
            refine wp_seq ?_
            refine wp_seq ?_
            refine wp_regionF ?_
            refine lf_val (v := .int .i64 ((j : Nat) : Int)) (wantAll rfl) (rv_move rfl (fr_eval rfl e9)) ?_
            refine lf_val (v := fewV v l.length) (wantAll rfl) (rv_move rfl (fr_eval rfl e0)) ?_
            refine lf_val (v := .int .i64 ((i : Nat) : Int)) (wantAll rfl) (rv_move rfl (fr_eval rfl e8)) ?_
            refine lf_val (v := .pointer (some (elemA (fewV v l.length) (i * 1)))) (wantAll rfl) (rv_index rfl (fr_eval rfl rfl) (fr_eval rfl rfl) (rdN (hqs.rd _ hH.chg) rfl) (show i < q.length from (by omega)) Try.underlying22 Try.sz24 (by decide)) ?_
            refine lf_val (v := (List.getD q i zTm).v.1) (wantAll rfl) (rv_loadCell rfl (fr_eval rfl rfl) (Nat.mul_one _) (hqs.rd _ hH.chg) (flat_get1 zTm cTm_len (show i < q.length from (by omega)) rfl) Try.underlying24 rfl Try.sz24) ?_
            refine lf_val (v := .int .i64 ((((List.getD q i zTm).t).length : Nat) : Int)) (wantAll rfl) (rv_len rfl (fr_eval rfl rfl) ((hqy _ (memT (by omega))).rd _ hH.chg) Try.underlying24) ?_
            refine lf_val (v := .bool (decide (j < ((List.getD q i zTm).t).length))) (wantAll rfl) (rv_lssP (p := j < ((List.getD q i zTm).t).length) rfl (fr_eval rfl rfl) (fr_eval rfl rfl) (by omega)) ?_
            refine lf_nil ?_
            refine then_n ?_
            refine wp_gen (fun F' => F' 0 = fewV v l.length ∧ F' 1 = .int .i64 z ∧ F' 2 = va ∧ F' 7 = .pointer (some ⟨g1, 0, none⟩) ∧ F' 8 = .int .i64 ((i : Nat) : Int) ∧ F' 9 = .int .i64 ((j : Nat) : Int) ∧ F' 27 = .bool false ∧ F' 34 = .bool true ∧ F' 43 = .bool (decide (j < ((List.getD q i zTm).t).length))) ⟨e0, e1, e2, e7, e8, e9, e27, e34, rfl⟩ ?_
            clear e0 e1 e2 e7 e8 e9 e27 e34
            clear F
            rintro F ⟨e0, e1, e2, e7, e8, e9, e27, e34, e43⟩
            by_cases hc6 : j < ((List.getD q i zTm).t).length
            · refine wp_cond_true (fr_eval rfl (e43.trans (congrArg Value.bool (decide_eq_true hc6)))) ?_
              refine wp_skip ?_
              refine then_n ?_
              refine wp_seq ?_
              refine wp_block ?_
              refine wp_seq ?_
              refine wp_regionF ?_
              refine lf_val (v := fewV v l.length) (wantAll rfl) (rv_move rfl (fr_eval rfl e0)) ?_
              refine lf_val (v := .int .i64 ((i : Nat) : Int)) (wantAll rfl) (rv_move rfl (fr_eval rfl e8)) ?_
              refine lf_val (v := .pointer (some (elemA (fewV v l.length) (i * 1)))) (wantAll rfl) (rv_index rfl (fr_eval rfl rfl) (fr_eval rfl rfl) (rdN (hqs.rd _ hH.chg) rfl) (show i < q.length from (by omega)) Try.underlying22 Try.sz24 (by decide)) ?_
              refine lf_val (v := (List.getD q i zTm).v.1) (wantAll rfl) (rv_loadCell rfl (fr_eval rfl rfl) (Nat.mul_one _) (hqs.rd _ hH.chg) (flat_get1 zTm cTm_len (show i < q.length from (by omega)) rfl) Try.underlying24 rfl Try.sz24) ?_
              refine lf_val (v := .int .i64 ((j : Nat) : Int)) (wantAll rfl) (rv_move rfl (fr_eval rfl e9)) ?_
              refine lf_val (v := .pointer (some (elemA ((List.getD q i zTm).v.1) (j * 3)))) (wantAll rfl) (rv_index rfl (fr_eval rfl rfl) (fr_eval rfl rfl) (rdN ((hqy _ (memT (by omega))).rd _ hH.chg) rfl) (show j < ((List.getD q i zTm).t).length from (by omega)) Try.underlying24 Try.sz40 (by decide)) ?_
              refine lf_val (v := .pointer (some (elemA ((List.getD q i zTm).v.1) (j * 3 + 0)))) (wantAll rfl) (rv_fieldElem (nn := 0) rfl (fr_eval rfl rfl) ((hqy _ (memT (by omega))).rd _ hH.chg) (by omega) (by decide) Try.underlying40 rfl rfl (by kernel_rfl)) ?_
              refine lf_val (wantAll rfl) (rv_loadCell rfl (fr_eval rfl rfl) rfl ((hqy _ (memT (by omega))).rd _ hH.chg) (flat_get zN cNd_len (by omega) (show (cNd (List.getD ((List.getD q i zTm).t) j zN))[0]? = some (.int .i64 ((List.getD ((List.getD q i zTm).t) j zN).k)) from zL7_g0) (by decide)) Try.underlying3 rfl Try.sz3) ?_
              refine lf_val (v := .bool (decide ((List.getD ((List.getD q i zTm).t) j zN).k = 1))) (wantAll rfl) (rv_eqlP (p := (List.getD ((List.getD q i zTm).t) j zN).k = 1) rfl (fr_eval rfl rfl) rfl Iff.rfl) ?_
              refine lf_val (v := .bool (decide ((List.getD ((List.getD q i zTm).t) j zN).k = 1))) (wantAll rfl) (rv_move rfl (fr_eval rfl rfl)) ?_
              refine lf_joinP (fun F' => F' 0 = fewV v l.length ∧ F' 1 = .int .i64 z ∧ F' 2 = va ∧ F' 7 = .pointer (some ⟨g1, 0, none⟩) ∧ F' 8 = .int .i64 ((i : Nat) : Int) ∧ F' 9 = .int .i64 ((j : Nat) : Int) ∧ F' 27 = .bool false ∧ F' 34 = .bool true ∧ F' 43 = .bool true ∧ F' 66 = .bool (decide (((List.getD ((List.getD q i zTm).t) j zN).k = 1) ∧ ((List.getD ((List.getD q i zTm).t) j zN).a = z)))) 11 (fun hk => ?_) ?_
              · by_cases hc7 : (List.getD ((List.getD q i zTm).t) j zN).k = 1
                · refine lf_val (v := fewV v l.length) (wantF (d := 55) rfl (by kernel_rfl) rfl (congrArg Value.bool (decide_eq_true hc7))) (rv_move rfl (fr_eval rfl e0)) ?_
                  refine lf_val (v := .int .i64 ((i : Nat) : Int)) (wantF (d := 55) rfl (by kernel_rfl) rfl (congrArg Value.bool (decide_eq_true hc7))) (rv_move rfl (fr_eval rfl e8)) ?_
                  refine lf_val (v := .pointer (some (elemA (fewV v l.length) (i * 1)))) (wantF (d := 55) rfl (by kernel_rfl) rfl (congrArg Value.bool (decide_eq_true hc7))) (rv_index rfl (fr_eval rfl rfl) (fr_eval rfl rfl) (rdN (hqs.rd _ hH.chg) rfl) (show i < q.length from (by omega)) Try.underlying22 Try.sz24 (by decide)) ?_
                  refine lf_val (v := (List.getD q i zTm).v.1) (wantF (d := 55) rfl (by kernel_rfl) rfl (congrArg Value.bool (decide_eq_true hc7))) (rv_loadCell rfl (fr_eval rfl rfl) (Nat.mul_one _) (hqs.rd _ hH.chg) (flat_get1 zTm cTm_len (show i < q.length from (by omega)) rfl) Try.underlying24 rfl Try.sz24) ?_
                  refine lf_val (v := .int .i64 ((j : Nat) : Int)) (wantF (d := 55) rfl (by kernel_rfl) rfl (congrArg Value.bool (decide_eq_true hc7))) (rv_move rfl (fr_eval rfl e9)) ?_
                  refine lf_val (v := .pointer (some (elemA ((List.getD q i zTm).v.1) (j * 3)))) (wantF (d := 55) rfl (by kernel_rfl) rfl (congrArg Value.bool (decide_eq_true hc7))) (rv_index rfl (fr_eval rfl rfl) (fr_eval rfl rfl) (rdN ((hqy _ (memT (by omega))).rd _ hH.chg) rfl) (show j < ((List.getD q i zTm).t).length from (by omega)) Try.underlying24 Try.sz40 (by decide)) ?_
                  refine lf_val (v := .pointer (some (elemA ((List.getD q i zTm).v.1) (j * 3 + 1)))) (wantF (d := 55) rfl (by kernel_rfl) rfl (congrArg Value.bool (decide_eq_true hc7))) (rv_fieldElem (nn := 0) rfl (fr_eval rfl rfl) ((hqy _ (memT (by omega))).rd _ hH.chg) (by omega) (by decide) Try.underlying40 rfl rfl (by kernel_rfl)) ?_
                  refine lf_val (wantF (d := 55) rfl (by kernel_rfl) rfl (congrArg Value.bool (decide_eq_true hc7))) (rv_loadCell rfl (fr_eval rfl rfl) rfl ((hqy _ (memT (by omega))).rd _ hH.chg) (flat_get zN cNd_len (by omega) (show (cNd (List.getD ((List.getD q i zTm).t) j zN))[1]? = some (.int .i64 ((List.getD ((List.getD q i zTm).t) j zN).a)) from zL7_g1) (by decide)) Try.underlying3 rfl Try.sz3) ?_
                  refine lf_val (v := .int .i64 z) (wantF (d := 55) rfl (by kernel_rfl) rfl (congrArg Value.bool (decide_eq_true hc7))) (rv_move rfl (fr_eval rfl e1)) ?_
                  refine lf_val (v := .bool (decide ((List.getD ((List.getD q i zTm).t) j zN).a = z))) (wantF (d := 55) rfl (by kernel_rfl) rfl (congrArg Value.bool (decide_eq_true hc7))) (rv_eqlP (p := (List.getD ((List.getD q i zTm).t) j zN).a = z) rfl (fr_eval rfl rfl) (fr_eval rfl rfl) Iff.rfl) ?_
                  refine lf_val (v := .bool (decide ((List.getD ((List.getD q i zTm).t) j zN).a = z))) (wantAll rfl) (rv_pickT rfl (fr_eval rfl (congrArg Value.bool (decide_eq_true hc7))) (fr_eval rfl rfl)) ?_
                  exact hk _ ⟨e0, e1, e2, e7, e8, e9, e27, e34, (e43.trans (congrArg Value.bool (decide_eq_true hc6))), (congrArg Value.bool (dec_and hc7))⟩
                · refine lf_not (wantNot (d := 55) rfl (by kernel_rfl) rfl (congrArg Value.bool (decide_eq_false hc7))) ?_
                  refine lf_not (wantNot (d := 55) rfl (by kernel_rfl) rfl (congrArg Value.bool (decide_eq_false hc7))) ?_
                  refine lf_not (wantNot (d := 55) rfl (by kernel_rfl) rfl (congrArg Value.bool (decide_eq_false hc7))) ?_
                  refine lf_not (wantNot (d := 55) rfl (by kernel_rfl) rfl (congrArg Value.bool (decide_eq_false hc7))) ?_
                  refine lf_not (wantNot (d := 55) rfl (by kernel_rfl) rfl (congrArg Value.bool (decide_eq_false hc7))) ?_
                  refine lf_not (wantNot (d := 55) rfl (by kernel_rfl) rfl (congrArg Value.bool (decide_eq_false hc7))) ?_
                  refine lf_not (wantNot (d := 55) rfl (by kernel_rfl) rfl (congrArg Value.bool (decide_eq_false hc7))) ?_
                  refine lf_not (wantNot (d := 55) rfl (by kernel_rfl) rfl (congrArg Value.bool (decide_eq_false hc7))) ?_
                  refine lf_not (wantNot (d := 55) rfl (by kernel_rfl) rfl (congrArg Value.bool (decide_eq_false hc7))) ?_
                  refine lf_not (wantNot (d := 55) rfl (by kernel_rfl) rfl (congrArg Value.bool (decide_eq_false hc7))) ?_
                  refine lf_val (v := .bool false) (wantAll rfl) (rv_pickF rfl (fr_eval rfl (congrArg Value.bool (decide_eq_false hc7))) rfl) ?_
                  exact hk _ ⟨e0, e1, e2, e7, e8, e9, e27, e34, (e43.trans (congrArg Value.bool (decide_eq_true hc6))), (congrArg Value.bool (dec_andF hc7))⟩
              · clear e0 e1 e2 e7 e8 e9 e27 e34 e43
                clear F
                rintro F ⟨e0, e1, e2, e7, e8, e9, e27, e34, e43, e66⟩
                refine lf_nil ?_
                refine then_n ?_
                by_cases hc8 : ((List.getD ((List.getD q i zTm).t) j zN).k = 1) ∧ ((List.getD ((List.getD q i zTm).t) j zN).a = z)
                · refine wp_cond_true (fr_eval rfl (e66.trans (congrArg Value.bool (decide_eq_true hc8)))) ?_
                  refine wp_seq ?_
                  refine wp_regionF ?_
                  refine lf_call (wantAll rfl) (rv_call (args := []) rfl evn Try.call7) (awake37_calls _) ?_
                  rintro _ w8 ⟨rfl, hx⟩
                  refine ⟨_, rfl, ?_⟩
                  replace hH := hH.ext hx
                  clear hx
                  refine lf_val (v := .bool true) (wantAll rfl) (rv_assign rfl (fr_eval rfl rfl)) ?_
                  refine lf_nil ?_
                  refine then_n ?_
                  refine wp_gen (fun F' => F' 0 = fewV v l.length ∧ F' 1 = .int .i64 z ∧ F' 2 = va ∧ F' 6 = .bool true ∧ F' 7 = .pointer (some ⟨g1, 0, none⟩) ∧ F' 8 = .int .i64 ((i : Nat) : Int) ∧ F' 9 = .int .i64 ((j : Nat) : Int) ∧ F' 27 = .bool false ∧ F' 34 = .bool true ∧ F' 43 = .bool true ∧ F' 66 = .bool true) ⟨e0, e1, e2, rfl, e7, e8, e9, e27, e34, e43, (e66.trans (congrArg Value.bool (decide_eq_true hc8)))⟩ ?_
                  clear e0 e1 e2 e7 e8 e9 e27 e34 e43 e66
                  clear F
                  rintro F ⟨e0, e1, e2, e6, e7, e8, e9, e27, e34, e43, e66⟩
                  refine wp_ret ?_
                  refine blk_ret ?_
                  refine then_ret ?_
                  refine then_ret ?_
                  refine blk_ret ?_
                  refine then_ret ?_
                  refine blk_ret ?_
                  refine then_ret ?_
                  refine then_ret ?_
                  refine blk_ret ?_
                  refine then_ret ?_
                  exact bodyPost_ret (v := (.bool true)) (res1 rfl (ro_tmp rfl e6)) rfl (⟨rfl, hH.done⟩)
                · refine wp_cond_false (fr_eval rfl (e66.trans (congrArg Value.bool (decide_eq_false hc8)))) ?_
                  refine wp_skip ?_
                  refine blk_n ?_
                  refine then_n ?_
                  refine wp_regionF ?_
                  refine lf_val (v := .int .i64 ((j : Nat) : Int)) (wantAll rfl) (rv_move rfl (fr_eval rfl e9)) ?_
                  refine lf_val (v := .int .i64 ((j + 1 : Nat) : Int)) (wantAll rfl) (rv_add rfl (fr_eval rfl rfl) rfl (wrap_i64 (by omega) (by omega) (by omega))) ?_
                  refine lf_val (v := .int .i64 ((j + 1 : Nat) : Int)) (wantAll rfl) (rv_assign rfl (fr_eval rfl rfl)) ?_
                  refine lf_nil ?_
                  refine then_n ?_
                  exact ⟨_, _, (by omega), rfl, j + 1, rfl, (by omega), (fun p h => by
                    by_cases e : p < j
                    · exact pj1 p e
                    · obtain rfl : p = j := by omega
                      omega), e0, e1, e2, e7, e8, rfl, e27, e34, hH⟩
            · refine wp_cond_false (fr_eval rfl (e43.trans (congrArg Value.bool (decide_eq_false hc6)))) ?_
              refine wp_exit ?_
              refine then_exit ?_
              refine then_exit ?_
              refine blk_exit ?_
              refine then_n ?_
              have hlk : Lacks z (q.getD i zTm).t := lacks_of (fun p h => pj1 p (by omega))
              refine wp_regionF ?_
              refine lf_val (v := .pointer (some ⟨g1, 0, none⟩)) (wantAll rfl) (rv_move rfl (fr_eval rfl e7)) ?_
              refine lf_val (v := fewV v l.length) (wantAll rfl) (rv_move rfl (fr_eval rfl e0)) ?_
              refine lf_val (v := .int .i64 ((i : Nat) : Int)) (wantAll rfl) (rv_move rfl (fr_eval rfl e8)) ?_
              refine lf_val (v := .pointer (some (elemA (fewV v l.length) (i * 1)))) (wantAll rfl) (rv_index rfl (fr_eval rfl rfl) (fr_eval rfl rfl) (rdN (hqs.rd _ hH.chg) rfl) (show i < q.length from (by omega)) Try.underlying22 Try.sz24 (by decide)) ?_
              refine lf_val (v := (List.getD q i zTm).v.1) (wantAll rfl) (rv_loadCell rfl (fr_eval rfl rfl) (Nat.mul_one _) (hqs.rd _ hH.chg) (flat_get1 zTm cTm_len (show i < q.length from (by omega)) rfl) Try.underlying24 rfl Try.sz24) ?_
              refine lf_ex (wantAll rfl) (hx_lits hH Try.stTerms (n := 1) (nm := 1) [(.tmp 72)] (vs := [(List.getD q i zTm).v.1]) rfl (evc (fr_eval rfl rfl) evn) (ones_cons (Rd.oneV ((hqy _ (memT (by omega))).rd _ hH.chg)) ones_nil) rfl (by decide) rfl rfl) ?_
              clear hH
              rintro y1 w9 ⟨hH, hx⟩
              replace hH : Heap _ _ _ [_, _, _, _, _] := hH
              clear hx
              replace hH : Heap _ _ _ [_, _, _, _, _] := hH.perm (.trans (.swap _ _ _) (.cons _ (.trans (.swap _ _ _) (.cons _ (.trans (.swap _ _ _) (.cons _ (.trans (.swap _ _ _) (.cons _ (.refl _)))))))))
              replace hH : Heap _ _ _ [_, _, _, _, _] := hH.perm (.cons _ (.cons _ (.cons _ (.trans (.swap _ _ _) (.cons _ (.refl _))))))
              refine lf_call (wantAll rfl) (rv_call (args := [.pointer (some ⟨g1, 0, none⟩), y1]) rfl (evc (fr_eval rfl rfl) (evc (fr_eval rfl rfl) evn)) Try.call8) (learn_calls ns (by omega) kn (by omega) pi1 (⟨⟨(List.getD q i zTm).v.1, (Rd.oneV ((hqy _ (memT (by omega))).rd _ hH.chg))⟩, (List.getD q i zTm).t⟩ : Tm) _ _ (Heap.rowStab (L := [_]) (M := [_, _, _, _]) hH (i := 0) rfl (ones_cons (Rd.oneV ((hqy _ (memT (by omega))).rd _ hH.chg)) ones_nil)) (Stab.part (L := [_]) (M := [_, _, _, _]) (hqy _ (memT (by omega))) hH) (Heap.part (L := [_]) (M := [_, _, _, _]) hH)) ?_
              rintro _ w10 ⟨u1, y2, q1, y3, rfl, hP⟩
              refine ⟨_, rfl, ?_⟩
              have hx := hH.callChg (L := [_]) (M := [_, _, _, _]) (fun _ h => h) hP
              replace hH : Heap _ _ _ [_, _, _, _, _] := hH.call (L := [_]) (M := [_, _, _, _]) (fun _ h => h) hP (Stays.blk (hP.blk (i := 0) rfl) (Stays.own (hP.own (i := 1) rfl) (Stays.mp (hP.mp (i := 2) rfl) (Stays.own (hP.own (i := 3) rfl) Stays.nil))))
              clear hP
              clear hx
              have hok1 := Ok.next (t := (List.getD q i zTm).t) pi1
              have hbl1 := bankC_le ns ((List.getD q i zTm).t)
              have hkl1 := kn_le (ns := ns) (t := (List.getD q i zTm).t) (kn := kn)
              refine lf_nil ?_
              refine blk_n ?_
              refine then_n ?_
              replace hH : Heap _ _ _ [_, _, _, _] := hH.drop (.cons _ (.cons_cons _ (.cons_cons _ (.cons_cons _ (.cons_cons _ .slnil)))))
              refine wp_gen (fun F' => F' 0 = fewV v l.length ∧ F' 1 = .int .i64 z ∧ F' 2 = va ∧ F' 7 = .pointer (some ⟨g1, 0, none⟩) ∧ F' 8 = .int .i64 ((i : Nat) : Int) ∧ F' 9 = .int .i64 ((j : Nat) : Int) ∧ F' 27 = .bool false ∧ F' 34 = .bool true ∧ F' 43 = .bool false) ⟨e0, e1, e2, e7, e8, e9, e27, e34, (e43.trans (congrArg Value.bool (decide_eq_false hc6)))⟩ ?_
              clear e0 e1 e2 e7 e8 e9 e27 e34 e43
              clear F
              rintro F ⟨e0, e1, e2, e7, e8, e9, e27, e34, e43⟩
              refine wp_regionF ?_
              refine lf_val (v := .int .i64 ((i : Nat) : Int)) (wantAll rfl) (rv_move rfl (fr_eval rfl e8)) ?_
              refine lf_val (v := .int .i64 ((i + 1 : Nat) : Int)) (wantAll rfl) (rv_add rfl (fr_eval rfl rfl) rfl (wrap_i64 (by omega) (by omega) (by omega))) ?_
              refine lf_val (v := .int .i64 ((i + 1 : Nat) : Int)) (wantAll rfl) (rv_assign rfl (fr_eval rfl rfl)) ?_
              refine lf_nil ?_
              refine then_n ?_
              replace hH : Heap _ _ _ [_, _, _, _] := hH.perm (.cons _ (.cons _ (.trans (.swap _ _ _) (.cons _ (.refl _)))))
              exact ⟨_, _, (by omega), rfl, i + 1, _, _, _, _, _, rfl, (by omega), hok1, (by omega), (by omega), (lacks_bankC pi4 hlk), e0, e1, e2, e7, rfl, e27, hH⟩
          · refine wp_cond_false (fr_eval rfl (e34.trans (congrArg Value.bool (decide_eq_false hc5)))) ?_
            refine wp_exit ?_
            refine then_exit ?_
            refine then_exit ?_
            refine blk_exit ?_
            refine then_n ?_
            refine wp_seq ?_
            have hkz : 0 ≤ z ∧ z ≤ 1048576 := by omega
            have hta : okT a := Classical.byContradiction fun h => hc4 (Or.inr h)
            refine wp_regionF ?_
            refine lf_val (v := .pointer (some ⟨g1, 0, none⟩)) (wantAll rfl) (rv_move rfl (fr_eval rfl e7)) ?_
            refine lf_val (v := .int .i64 z) (wantAll rfl) (rv_move rfl (fr_eval rfl e1)) ?_
            refine lf_call (wantAll rfl) (rv_call (args := [.int .i64 z]) rfl (evc (fr_eval rfl rfl) evn) Try.call12) (of_calls z _) ?_
            rintro _ w11 ⟨⟨y4, rfl, ho, hg⟩, hx⟩
            refine ⟨_, rfl, ?_⟩
            replace hH : Heap _ _ _ [_, _, _, _, _] := hH.addOwn hx hg ho
            clear ho hg
            clear hx
            refine lf_val (v := va) (wantAll rfl) (rv_move rfl (fr_eval rfl e2)) ?_
            refine lf_call (wantAll rfl) (rv_call (args := [.int .i64 4, y4, va]) rfl (evc rfl (evc (fr_eval rfl rfl) (evc (fr_eval rfl rfl) evn))) Try.call10) (join_calls 4 (nameT z) a (okT_name hkz) hta _ _ _ (Own.rd (hH.own (i := 4) rfl) (row_one cNd_one)) (ha.rd _ hH.chg)) ?_
            rintro _ w12 ⟨⟨y5, rfl, ho, hg⟩, hx⟩
            refine ⟨_, rfl, ?_⟩
            replace hH : Heap _ _ _ [_, _, _, _, _, _] := hH.addOwn hx hg ho
            clear ho hg
            clear hx
            replace hH : Heap _ _ _ [_, _, _, _, _, _] := hH.perm (.trans (.swap _ _ _) (.cons _ (.trans (.swap _ _ _) (.cons _ (.trans (.swap _ _ _) (.cons _ (.trans (.swap _ _ _) (.cons _ (.refl _)))))))))
            replace hH : Heap _ _ _ [_, _, _, _, _, _] := hH.perm (.cons _ (.trans (.swap _ _ _) (.cons _ (.trans (.swap _ _ _) (.cons _ (.trans (.swap _ _ _) (.cons _ (.trans (.swap _ _ _) (.cons _ (.refl _))))))))))
            replace hH : Heap _ _ _ [_, _, _, _, _, _] := hH.perm (.cons _ (.cons _ (.cons _ (.cons _ (.trans (.swap _ _ _) (.cons _ (.refl _)))))))
            refine lf_call (wantAll rfl) (rv_call (args := [.pointer (some ⟨g1, 0, none⟩), y5]) rfl (evc (fr_eval rfl rfl) (evc (fr_eval rfl rfl) evn)) Try.call9) (can_calls ns (by omega) kn (by omega) pi1 (joinT 4 (nameT z) a) _ _ (Heap.rowStab (L := [_, _]) (M := [_, _, _, _]) hH (i := 1) rfl (row_one cNd_one)) (Heap.part (L := [_, _]) (M := [_, _, _, _]) hH)) ?_
            rintro _ w13 ⟨y6, q2, rfl, hP⟩
            refine ⟨_, rfl, ?_⟩
            have hx := hH.callChg (L := [_, _]) (M := [_, _, _, _]) (fun _ h => h) hP
            replace hH : Heap _ _ _ [_, _, _, _, _, _] := hH.call (L := [_, _]) (M := [_, _, _, _]) (fun _ h => h) hP (Stays.blk (hP.blk (i := 0) rfl) (Stays.own (hP.own (i := 1) rfl) (Stays.mp (hP.mp (i := 2) rfl) (Stays.own (hP.own (i := 3) rfl) Stays.nil))))
            clear hP
            clear hx
            have hok2 := Ok.can (t := joinT 4 (nameT z) a) pi1
            have hbl2 := bankC_le ns (joinT 4 (nameT z) a)
            refine lf_val (v := .bool true) (wantAll rfl) (rv_not (b := false) rfl (fr_eval rfl (congrArg Value.bool (decide_eq_false (forge_sign pi1 pi4 hkz hta))))) ?_
            refine lf_val (v := .bool true) (wantAll rfl) (rv_move rfl (fr_eval rfl rfl)) ?_
            refine lf_val (v := .pointer (some ⟨g1, 0, none⟩)) (wantF (d := 82) rfl (by kernel_rfl) rfl rfl) (rv_move rfl (fr_eval rfl e7)) ?_
            refine lf_val (v := .int .i64 z) (wantF (d := 82) rfl (by kernel_rfl) rfl rfl) (rv_move rfl (fr_eval rfl e1)) ?_
            refine lf_call (wantF (d := 82) rfl (by kernel_rfl) rfl rfl) (rv_call (args := [.int .i64 z]) rfl (evc (fr_eval rfl rfl) evn) Try.call12) (of_calls z _) ?_
            rintro _ w14 ⟨⟨y7, rfl, ho, hg⟩, hx⟩
            refine ⟨_, rfl, ?_⟩
            replace hH : Heap _ _ _ [_, _, _, _, _, _, _] := hH.addOwn hx hg ho
            clear ho hg
            clear hx
            replace hH : Heap _ _ _ [_, _, _, _, _, _, _] := hH.perm (.cons _ (.cons _ (.trans (.swap _ _ _) (.cons _ (.trans (.swap _ _ _) (.cons _ (.trans (.swap _ _ _) (.cons _ (.trans (.swap _ _ _) (.cons _ (.refl _)))))))))))
            refine lf_call (wantF (d := 82) rfl (by kernel_rfl) rfl rfl) (rv_call (args := [.pointer (some ⟨g1, 0, none⟩), y7]) rfl (evc (fr_eval rfl rfl) (evc (fr_eval rfl rfl) evn)) Try.call9) (can_calls (bankC ns (joinT 4 (nameT z) a)) (by omega) kn (by omega) hok2 (nameT z) _ _ (Heap.rowStab (L := [_, _, _]) (M := [_, _, _, _]) hH (i := 2) rfl (row_one cNd_one)) (Heap.part (L := [_, _, _]) (M := [_, _, _, _]) hH)) ?_
            rintro _ w15 ⟨y8, q3, rfl, hP⟩
            refine ⟨_, rfl, ?_⟩
            have hx := hH.callChg (L := [_, _, _]) (M := [_, _, _, _]) (fun _ h => h) hP
            replace hH : Heap _ _ _ [_, _, _, _, _, _, _] := hH.call (L := [_, _, _]) (M := [_, _, _, _]) (fun _ h => h) hP (Stays.blk (hP.blk (i := 0) rfl) (Stays.own (hP.own (i := 1) rfl) (Stays.mp (hP.mp (i := 2) rfl) (Stays.own (hP.own (i := 3) rfl) Stays.nil))))
            clear hP
            clear hx
            have hok3 := Ok.can (t := nameT z) hok2
            have hbl3 := bankC_le (bankC ns (joinT 4 (nameT z) a)) (nameT z)
            refine lf_val (v := .bool true) (wantF (d := 82) rfl (by kernel_rfl) rfl rfl) (rv_not (b := false) rfl (fr_eval rfl (congrArg Value.bool (decide_eq_false (forge_name pi1 pi4 (bankC_pre _ _)))))) ?_
            refine lf_val (v := .bool true) (wantAll rfl) (rv_pickT rfl (fr_eval rfl rfl) (fr_eval rfl rfl)) ?_
            refine lf_val (v := .bool true) (wantAll rfl) (rv_move rfl (fr_eval rfl rfl)) ?_
            refine lf_call (wantF (d := 89) rfl (by kernel_rfl) rfl rfl) (rv_call (args := []) rfl evn Try.call7) (awake37_calls _) ?_
            rintro _ w16 ⟨rfl, hx⟩
            refine ⟨_, rfl, ?_⟩
            replace hH := hH.ext hx
            clear hx
            refine lf_val (v := .bool true) (wantAll rfl) (rv_pickT rfl (fr_eval rfl rfl) (fr_eval rfl rfl)) ?_
            refine lf_val (v := .bool true) (wantAll rfl) (rv_assign rfl (fr_eval rfl rfl)) ?_
            refine lf_nil ?_
            refine then_n ?_
            replace hH : Heap _ _ _ [_, _, _, _] := hH.drop (.cons _ (.cons _ (.cons _ (.cons_cons _ (.cons_cons _ (.cons_cons _ (.cons_cons _ .slnil)))))))
            refine wp_gen (fun F' => F' 0 = fewV v l.length ∧ F' 1 = .int .i64 z ∧ F' 2 = va ∧ F' 6 = .bool true ∧ F' 7 = .pointer (some ⟨g1, 0, none⟩) ∧ F' 8 = .int .i64 ((i : Nat) : Int) ∧ F' 27 = .bool false ∧ F' 34 = .bool false) ⟨e0, e1, e2, rfl, e7, e8, e27, (e34.trans (congrArg Value.bool (decide_eq_false hc5)))⟩ ?_
            clear e0 e1 e2 e7 e8 e27 e34
            clear F
            rintro F ⟨e0, e1, e2, e6, e7, e8, e27, e34⟩
            refine wp_ret ?_
            exact bodyPost_ret (v := (.bool true)) (res1 rfl (ro_tmp rfl e6)) rfl (⟨rfl, hH.done⟩)

end Go.Proofs.Ytdlliajghfflnaa
