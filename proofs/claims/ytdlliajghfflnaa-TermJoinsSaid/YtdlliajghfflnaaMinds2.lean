/- Minds: the walks of Learn and Can; Join and Of. -/
import Derived.Test.YtdlliajghfflnaaMinds
namespace Go.Proofs.Ytdlliajghfflnaa
open Go.RowKit Go.Bz Go.Bz.Term
attribute [local irreducible] wpList Code.wp wpAnyX
theorem join_next {a b : List Nd} {i : Nat} (h : i < b.length) : a ++ (b.take i).map (shN a.length) ++ [shN a.length (b.getD i zN)] = a ++ (b.take (i + 1)).map (shN a.length) := by
  rw [List.take_succ_eq_append_getElem h, List.map_append, List.append_assoc]
  simp [List.getD_eq_getElem?_getD, h]
theorem kn_le {ns t : List Nd} {kn : List Nat} : (knC ns kn t).length ≤ kn.length + 1 := by unfold knC; split <;> simp

theorem zMj_g0 {a0 : Value} {a1 : Value} {a2 : Value} : ([a0, a1, a2])[2]? = some a2 := rfl
theorem zMj_l1 {a0 : Value} {a1 : Value} {a2 : Value} : List.length ([a0, a1, a2]) = 3 := (show List.length [a0, a1, a2] = 3 from rfl)
theorem zMj_o2 {a0 : Value} {a1 : Value} {a2 : Value} (qa0 : a0.oneCell' = true) (qa1 : a1.oneCell' = true) (qa2 : a2.oneCell' = true) : ∀ u ∈ ([a0, a1, a2]), u.oneCell' = true := (ones_cons qa0 (ones_cons qa1 (ones_cons qa2 ones_nil)))
theorem zMj_g3 {a0 : Value} {a1 : Value} {a2 : Value} : ([a0, a1, a2])[0]? = some a0 := rfl
theorem zMj_g4 {a0 : Value} {a1 : Value} {a2 : Value} : ([a0, a1, a2])[1]? = some a1 := rfl
set_option maxRecDepth 100000 in
set_option maxHeartbeats 4000000 in
theorem can_nil (t : List Nd) (tv : Value) (w : World) (hr0 : Rd w 3 tv t.length (t.flatMap cNd)) :
    Calls Try.prog 9 #[.pointer none, tv] w fun e'' w' => e'' = .returned (.bool false) ∧ Ext w w' := by
  refine calls_fr (args := [.pointer none, tv]) (n := 28) Try.func9 rfl rfl (show 2 ≤ 28 by decide) ?_
  have hr := Rd.stab hr0
  have hH : Heap (newN w) w w [] := Heap.fresh
  refine wp_seq ?_
  refine wp_gen (fun F' => F' 0 = .pointer none ∧ F' 1 = tv) ⟨rfl, rfl⟩ ?_
  rintro F ⟨e0, e1⟩
  refine wp_regionF ?_
  refine lf_val (v := .bool false) (wantAll rfl) (rv_assign rfl rfl) ?_
  refine lf_nil ?_
  refine then_n ?_
  refine wp_seq ?_
  refine wp_seq ?_
  refine wp_gen (fun F' => F' 0 = .pointer none ∧ F' 1 = tv ∧ F' 4 = .bool false) ⟨e0, e1, rfl⟩ ?_
  clear e0 e1
  clear F
  rintro F ⟨e0, e1, e4⟩
  refine wp_regionF ?_
  refine lf_val (v := .pointer none) (wantAll rfl) (rv_move rfl (fr_eval rfl e0)) ?_
  refine lf_val (v := .bool true) (wantAll rfl) (rv_eqnil (p := none) rfl (fr_eval rfl rfl) rfl Try.underlying27) ?_
  refine lf_nil ?_
  refine then_n ?_
  refine wp_gen (fun F' => F' 0 = .pointer none ∧ F' 1 = tv ∧ F' 4 = .bool false ∧ F' 8 = .bool true) ⟨e0, e1, e4, rfl⟩ ?_
  clear e0 e1 e4
  clear F
  rintro F ⟨e0, e1, e4, e8⟩
  refine wp_cond_true (fr_eval rfl e8) ?_
  refine wp_seq ?_
  refine wp_regionF ?_
  refine lf_val (v := .bool false) (wantAll rfl) (rv_assign rfl rfl) ?_
  refine lf_nil ?_
  refine then_n ?_
  refine wp_gen (fun F' => F' 0 = .pointer none ∧ F' 1 = tv ∧ F' 4 = .bool false ∧ F' 8 = .bool true) ⟨e0, e1, rfl, e8⟩ ?_
  clear e0 e1 e4 e8
  clear F
  rintro F ⟨e0, e1, e4, e8⟩
  refine wp_ret ?_
  refine then_ret ?_
  exact bodyPost_ret (v := (.bool false)) (res1 rfl (ro_tmp rfl e4)) rfl (⟨rfl, hH.done⟩)

set_option maxRecDepth 100000 in
set_option maxHeartbeats 4000000 in
theorem can_calls {K : Nat → Prop} {g : Nat} {v kv : Value} {mo : Option Nat} (ns : List Nd) (hnl : ns.length ≤ 800000) (kn : List Nat) (hkl : kn.length ≤ 800000) (hok : Ok ns kn) (t : List Nd) (tv : Value) (w : World) (hs0 : Stab (newK w K) w 3 tv t.length (t.flatMap cNd)) (hh0 : Heap (newK w K) w w [oBlk g [v, .map mo, kv] 33, oRow cNd 40 3 v ns, oMp mo ns, oRow cNu 3 1 kv kn]) :
    Calls Try.prog 9 #[.pointer (some ⟨g, 0, none⟩), tv] w fun e'' w' => ∃ v' mo', e'' = .returned (.bool (decide (CanT ns kn t))) ∧ Heap (newK w K) w w' [oBlk g [v', .map mo', kv] 33, oRow cNd 40 3 v' (bankC ns t), oMp mo' (bankC ns t), oRow cNu 3 1 kv kn] := by
  refine calls_fr (args := [.pointer (some ⟨g, 0, none⟩), tv]) (n := 28) Try.func9 rfl rfl (show 2 ≤ 28 by decide) ?_
  have hs := hs0
  have hH : Heap (newK w K) w w [oBlk g ([v, .map mo, kv]) 33, oRow cNd 40 3 v ns, oMp mo ns, oRow cNu 3 1 kv kn] := hh0
  refine wp_seq ?_
  refine wp_gen (fun F' => F' 0 = .pointer (some ⟨g, 0, none⟩) ∧ F' 1 = tv) ⟨rfl, rfl⟩ ?_
  rintro F ⟨e0, e1⟩
  refine wp_regionF ?_
  refine lf_val (v := .bool false) (wantAll rfl) (rv_assign rfl rfl) ?_
  refine lf_nil ?_
  refine then_n ?_
  refine wp_seq ?_
  refine wp_seq ?_
  refine wp_gen (fun F' => F' 0 = .pointer (some ⟨g, 0, none⟩) ∧ F' 1 = tv ∧ F' 4 = .bool false) ⟨e0, e1, rfl⟩ ?_
  clear e0 e1
  clear F
  rintro F ⟨e0, e1, e4⟩
  refine wp_regionF ?_
  refine lf_val (v := .pointer (some ⟨g, 0, none⟩)) (wantAll rfl) (rv_move rfl (fr_eval rfl e0)) ?_
  refine lf_val (v := .bool false) (wantAll rfl) (rv_eqnil (p := (some ⟨g, 0, none⟩)) rfl (fr_eval rfl rfl) rfl Try.underlying27) ?_
  refine lf_nil ?_
  refine then_n ?_
  refine wp_gen (fun F' => F' 0 = .pointer (some ⟨g, 0, none⟩) ∧ F' 1 = tv ∧ F' 4 = .bool false ∧ F' 8 = .bool false) ⟨e0, e1, e4, rfl⟩ ?_
  clear e0 e1 e4
  clear F
  rintro F ⟨e0, e1, e4, e8⟩
  refine wp_cond_false (fr_eval rfl e8) ?_
  refine wp_skip ?_
  refine then_n ?_
  refine wp_seq ?_
  by_cases hf1 : okT t
  · refine wp_regionF ?_
    refine lf_val (v := .pointer (some ⟨g, 0, none⟩)) (wantAll rfl) (rv_move rfl (fr_eval rfl e0)) ?_
    refine lf_val (v := .pointer (some ⟨g, 0, none⟩)) (wantAll rfl) (rv_nilCheck rfl (fr_eval rfl rfl)) ?_
    refine lf_val (v := .pointer (some ⟨g, 0, none⟩)) (wantAll rfl) (rv_fieldAddr (n := 1) rfl (fr_eval rfl rfl) Try.underlying33 rfl rfl (by kernel_rfl)) ?_
    refine lf_val (v := tv) (wantAll rfl) (rv_move rfl (fr_eval rfl e1)) ?_
    replace hH : Heap _ _ _ [_, _, _, _] := hH.perm (.trans (.swap _ _ _) (.cons _ (.trans (.swap _ _ _) (.cons _ (.trans (.swap _ _ _) (.cons _ (.refl _)))))))
    refine lf_call (wantAll rfl) (rv_call (args := [.pointer (some ⟨g, 0, none⟩), tv]) rfl (evc (fr_eval rfl rfl) (evc (fr_eval rfl rfl) evn)) Try.call13) (into_m (Rd.oneV (Own.rd (hH.own (i := 0) rfl) (row_one cNu_one))) ns (by omega) hok.bank t hf1 _ _ (Stab.part (L := [_]) (M := [_, _, _]) hs hH) (Heap.part (L := [_]) (M := [_, _, _]) hH)) ?_
    rintro _ w1 ⟨y1, q1, rfl, hP⟩
    refine ⟨_, rfl, ?_⟩
    have hx := hH.callChg (L := [_]) (M := [_, _, _]) (fun _ h => h) hP
    replace hH : Heap _ _ _ [_, _, _, _] := hH.call (L := [_]) (M := [_, _, _]) (fun _ h => h) hP (Stays.blk (hP.blk (i := 0) rfl) (Stays.own (hP.own (i := 1) rfl) (Stays.mp (hP.mp (i := 2) rfl) Stays.nil)))
    clear hP
    clear hx
    refine lf_val (v := .tuple #[.int .i64 ((idT ns t : Nat) : Int), .int .i64 0]) (wantAll rfl) (rv_move rfl (fr_eval rfl rfl)) ?_
    refine lf_val (v := .int .i64 ((idT ns t : Nat) : Int)) (wantAll rfl) (rv_extract rfl (fr_eval rfl rfl) rfl) ?_
    refine lf_val (v := .int .i64 0) (wantAll rfl) (rv_extract rfl (fr_eval rfl rfl) rfl) ?_
    refine lf_val (v := .int .i64 ((idT ns t : Nat) : Int)) (wantAll rfl) (rv_assign rfl (fr_eval rfl rfl)) ?_
    refine lf_val (v := .int .i64 0) (wantAll rfl) (rv_assign rfl (fr_eval rfl rfl)) ?_
    refine lf_nil ?_
    refine then_n ?_
    refine wp_seq ?_
    refine wp_gen (fun F' => F' 0 = .pointer (some ⟨g, 0, none⟩) ∧ F' 1 = tv ∧ F' 4 = .bool false ∧ F' 5 = .int .i64 ((idT ns t : Nat) : Int) ∧ F' 6 = .int .i64 0 ∧ F' 8 = .bool false) ⟨e0, e1, e4, rfl, rfl, e8⟩ ?_
    clear e0 e1 e4 e8
    clear F
    rintro F ⟨e0, e1, e4, e5, e6, e8⟩
    have hok2 := hok.into hf1
    have hbl := bankT_le (ns := ns) hf1
    refine wp_regionF ?_
    refine lf_val (v := .int .i64 0) (wantAll rfl) (rv_move rfl (fr_eval rfl e6)) ?_
    refine lf_val (v := .bool true) (wantAll rfl) (rv_eql rfl (fr_eval rfl rfl) rfl (by decide)) ?_
    refine lf_val (v := .bool true) (wantAll rfl) (rv_move rfl (fr_eval rfl rfl)) ?_
    refine lf_val (v := .pointer (some ⟨g, 0, none⟩)) (wantF (d := 19) rfl (by kernel_rfl) rfl rfl) (rv_move rfl (fr_eval rfl e0)) ?_
    refine lf_val (v := .pointer (some ⟨g, 0, none⟩)) (wantF (d := 19) rfl (by kernel_rfl) rfl rfl) (rv_move rfl (fr_eval rfl e0)) ?_
    refine lf_call (wantF (d := 19) rfl (by kernel_rfl) rfl rfl) (rv_call (args := [.pointer (some ⟨g, 0, none⟩)]) rfl (evc (fr_eval rfl rfl) evn) Try.call17) (open_calls (bankT ns t) (by omega) kn (by omega) hok2 _ (hH.blk (i := 1) rfl) (Own.rd (hH.own (i := 2) rfl) (row_one cNd_one)) (Own.rd (hH.own (i := 0) rfl) (row_one cNu_one))) ?_
    rintro _ w2 ⟨⟨y2, rfl, ho, hg⟩, hx⟩
    refine ⟨_, rfl, ?_⟩
    replace hH : Heap _ _ _ [_, _, _, _, _] := hH.addOwn hx hg ho
    clear ho hg
    clear hx
    refine lf_call (wantF (d := 19) rfl (by kernel_rfl) rfl rfl) (rv_call (args := [.pointer (some ⟨g, 0, none⟩), y2]) rfl (evc (fr_eval rfl rfl) (evc (fr_eval rfl rfl) evn)) Try.call16) (make_calls (bankT ns t) (by omega) hok2.bank (opL (bankT ns t) kn) (opL_len _ _) _ _ (hH.blk (i := 1) rfl) (Own.rd (hH.own (i := 2) rfl) (row_one cNd_one)) (Own.rd (hH.own (i := 4) rfl) (row_one cT_one))) ?_
    rintro _ w3 ⟨⟨y3, rfl, ho, hg⟩, hx⟩
    refine ⟨_, rfl, ?_⟩
    replace hH : Heap _ _ _ [_, _, _, _, _, _] := hH.addOwn hx hg ho
    clear ho hg
    clear hx
    refine lf_val (v := .int .i64 ((idT ns t : Nat) : Int)) (wantF (d := 19) rfl (by kernel_rfl) rfl rfl) (rv_move rfl (fr_eval rfl e5)) ?_
    refine lf_val (v := .pointer (some (elemA y3 ((idT ns t) * 1)))) (wantF (d := 19) rfl (by kernel_rfl) rfl rfl) (rv_index rfl (fr_eval rfl rfl) (fr_eval rfl rfl) (rdN (Own.rd (hH.own (i := 5) rfl) (row_one cT_one)) rfl) (show idT ns t < (mkL (bankT ns t) (opL (bankT ns t) kn)).length from (by have := idT_lt hok.bank hf1; simp only [mkRow_len, opL_len]; exact this)) Try.underlying48 Try.sz4 (by decide)) ?_
    refine lf_val (wantF (d := 19) rfl (by kernel_rfl) rfl rfl) (rv_loadCell rfl (fr_eval rfl rfl) (Nat.mul_one _) (Own.rd (hH.own (i := 5) rfl) (row_one cT_one)) (flat_get1 false cT_len (show idT ns t < (mkL (bankT ns t) (opL (bankT ns t) kn)).length from (by have := idT_lt hok.bank hf1; simp only [mkRow_len, opL_len]; exact this)) (cT_dec _)) Try.underlying4 rfl Try.sz4) ?_
    refine lf_val (v := .bool (decide ((List.getD (mkL (bankT ns t) (opL (bankT ns t) kn)) (idT ns t) false) = true))) (wantAll rfl) (rv_pickT rfl (fr_eval rfl rfl) (fr_eval rfl rfl)) ?_
    refine lf_val (v := .bool (decide ((List.getD (mkL (bankT ns t) (opL (bankT ns t) kn)) (idT ns t) false) = true))) (wantAll rfl) (rv_assign rfl (fr_eval rfl rfl)) ?_
    refine lf_nil ?_
    refine then_n ?_
    replace hH : Heap _ _ _ [_, _, _, _] := hH.drop (.cons_cons _ (.cons_cons _ (.cons_cons _ (.cons_cons _ (.cons _ (.cons _ .slnil))))))
    refine wp_gen (fun F' => F' 0 = .pointer (some ⟨g, 0, none⟩) ∧ F' 1 = tv ∧ F' 4 = .bool (decide ((List.getD (mkL (bankT ns t) (opL (bankT ns t) kn)) (idT ns t) false) = true)) ∧ F' 5 = .int .i64 ((idT ns t : Nat) : Int) ∧ F' 6 = .int .i64 0 ∧ F' 8 = .bool false) ⟨e0, e1, rfl, e5, e6, e8⟩ ?_
    clear e0 e1 e4 e5 e6 e8
    clear F
    rintro F ⟨e0, e1, e4, e5, e6, e8⟩
    refine wp_ret ?_
    have hF := hH
    replace hF : Heap _ _ _ [_, _, _, _] := hF.perm (.trans (.swap _ _ _) (.cons _ (.refl _)))
    replace hF : Heap _ _ _ [_, _, _, _] := hF.perm (.cons _ (.trans (.swap _ _ _) (.cons _ (.refl _))))
    replace hF : Heap _ _ _ [_, _, _, _] := hF.perm (.cons _ (.cons _ (.trans (.swap _ _ _) (.cons _ (.refl _)))))
    exact bodyPost_ret (res1 rfl (ro_tmp rfl e4)) rfl (⟨_, _, congrArg (fun b => Ending.returned (.bool b)) (decide_eq_decide.2 (can_val hok hf1)), by rw [bankC_of hf1]; exact hF⟩)
  · refine wp_regionF ?_
    refine lf_val (v := .pointer (some ⟨g, 0, none⟩)) (wantAll rfl) (rv_move rfl (fr_eval rfl e0)) ?_
    refine lf_val (v := .pointer (some ⟨g, 0, none⟩)) (wantAll rfl) (rv_nilCheck rfl (fr_eval rfl rfl)) ?_
    refine lf_val (v := .pointer (some ⟨g, 0, none⟩)) (wantAll rfl) (rv_fieldAddr (n := 1) rfl (fr_eval rfl rfl) Try.underlying33 rfl rfl (by kernel_rfl)) ?_
    refine lf_val (v := tv) (wantAll rfl) (rv_move rfl (fr_eval rfl e1)) ?_
    refine lf_call (wantAll rfl) (rv_call (args := [.pointer (some ⟨g, 0, none⟩), tv]) rfl (evc (fr_eval rfl rfl) (evc (fr_eval rfl rfl) evn)) Try.call13) (into_no g t hf1 _ _ (hs.rd _ hH.chg)) ?_
    rintro _ w4 ⟨rfl, hx⟩
    refine ⟨_, rfl, ?_⟩
    replace hH := hH.ext hx
    clear hx
    refine lf_val (v := .tuple #[.int .i64 0, .int .i64 1]) (wantAll rfl) (rv_move rfl (fr_eval rfl rfl)) ?_
    refine lf_val (v := .int .i64 0) (wantAll rfl) (rv_extract rfl (fr_eval rfl rfl) rfl) ?_
    refine lf_val (v := .int .i64 1) (wantAll rfl) (rv_extract rfl (fr_eval rfl rfl) rfl) ?_
    refine lf_val (v := .int .i64 0) (wantAll rfl) (rv_assign rfl (fr_eval rfl rfl)) ?_
    refine lf_val (v := .int .i64 1) (wantAll rfl) (rv_assign rfl (fr_eval rfl rfl)) ?_
    refine lf_nil ?_
    refine then_n ?_
    refine wp_seq ?_
    refine wp_gen (fun F' => F' 0 = .pointer (some ⟨g, 0, none⟩) ∧ F' 1 = tv ∧ F' 4 = .bool false ∧ F' 5 = .int .i64 0 ∧ F' 6 = .int .i64 1 ∧ F' 8 = .bool false) ⟨e0, e1, e4, rfl, rfl, e8⟩ ?_
    clear e0 e1 e4 e8
    clear F
    rintro F ⟨e0, e1, e4, e5, e6, e8⟩
    refine wp_regionF ?_
    refine lf_val (v := .int .i64 1) (wantAll rfl) (rv_move rfl (fr_eval rfl e6)) ?_
    refine lf_val (v := .bool false) (wantAll rfl) (rv_eql rfl (fr_eval rfl rfl) rfl (by decide)) ?_
    refine lf_val (v := .bool false) (wantAll rfl) (rv_move rfl (fr_eval rfl rfl)) ?_
    refine lf_not (wantNot (d := 19) rfl (by kernel_rfl) rfl rfl) ?_
    refine lf_not (wantNot (d := 19) rfl (by kernel_rfl) rfl rfl) ?_
    refine lf_not (wantNot (d := 19) rfl (by kernel_rfl) rfl rfl) ?_
    refine lf_not (wantNot (d := 19) rfl (by kernel_rfl) rfl rfl) ?_
    refine lf_not (wantNot (d := 19) rfl (by kernel_rfl) rfl rfl) ?_
    refine lf_not (wantNot (d := 19) rfl (by kernel_rfl) rfl rfl) ?_
    refine lf_not (wantNot (d := 19) rfl (by kernel_rfl) rfl rfl) ?_
    refine lf_val (v := .bool false) (wantAll rfl) (rv_pickF rfl (fr_eval rfl rfl) rfl) ?_
    refine lf_val (v := .bool false) (wantAll rfl) (rv_assign rfl (fr_eval rfl rfl)) ?_
    refine lf_nil ?_
    refine then_n ?_
    refine wp_gen (fun F' => F' 0 = .pointer (some ⟨g, 0, none⟩) ∧ F' 1 = tv ∧ F' 4 = .bool false ∧ F' 5 = .int .i64 0 ∧ F' 6 = .int .i64 1 ∧ F' 8 = .bool false) ⟨e0, e1, rfl, e5, e6, e8⟩ ?_
    clear e0 e1 e4 e5 e6 e8
    clear F
    rintro F ⟨e0, e1, e4, e5, e6, e8⟩
    refine wp_ret ?_
    have hF := hH
    exact bodyPost_ret (v := (.bool false)) (res1 rfl (ro_tmp rfl e4)) rfl (⟨_, _, congrArg (fun b => Ending.returned (.bool b)) (decide_eq_false (fun q => hf1 q.1)).symm, by rw [bankC_no hf1]; exact hF⟩)

set_option maxRecDepth 100000 in
set_option maxHeartbeats 4000000 in
theorem learn_nil (x : Tm) (lv : Value) (w : World) (hl0 : Rd w 1 lv [x].length ([x].flatMap cTm)) :
    Calls Try.prog 8 #[.pointer none, lv] w fun e'' w' => e'' = .returned (.int .i64 1) ∧ Ext w w' := by
  refine calls_fr (args := [.pointer none, lv]) (n := 39) Try.func8 rfl rfl (show 2 ≤ 39 by decide) ?_
  have hH : Heap (newN w) w w [] := Heap.fresh
  refine wp_seq ?_
  refine wp_gen (fun F' => F' 0 = .pointer none ∧ F' 1 = lv) ⟨rfl, rfl⟩ ?_
  rintro F ⟨e0, e1⟩
  refine wp_regionF ?_
  refine lf_val (v := .int .i64 0) (wantAll rfl) (rv_assign rfl rfl) ?_
  refine lf_nil ?_
  refine then_n ?_
  refine wp_seq ?_
  refine wp_seq ?_
  refine wp_gen (fun F' => F' 0 = .pointer none ∧ F' 1 = lv ∧ F' 4 = .int .i64 0) ⟨e0, e1, rfl⟩ ?_
  clear e0 e1
  clear F
  rintro F ⟨e0, e1, e4⟩
  refine wp_regionF ?_
  refine lf_val (v := .pointer none) (wantAll rfl) (rv_move rfl (fr_eval rfl e0)) ?_
  refine lf_val (v := .bool true) (wantAll rfl) (rv_eqnil (p := none) rfl (fr_eval rfl rfl) rfl Try.underlying27) ?_
  refine lf_nil ?_
  refine then_n ?_
  refine wp_gen (fun F' => F' 0 = .pointer none ∧ F' 1 = lv ∧ F' 4 = .int .i64 0 ∧ F' 10 = .bool true) ⟨e0, e1, e4, rfl⟩ ?_
  clear e0 e1 e4
  clear F
  rintro F ⟨e0, e1, e4, e10⟩
  refine wp_cond_true (fr_eval rfl e10) ?_
  refine wp_seq ?_
  refine wp_regionF ?_
  refine lf_val (v := .int .i64 1) (wantAll rfl) (rv_assign rfl rfl) ?_
  refine lf_nil ?_
  refine then_n ?_
  refine wp_gen (fun F' => F' 0 = .pointer none ∧ F' 1 = lv ∧ F' 4 = .int .i64 1 ∧ F' 10 = .bool true) ⟨e0, e1, rfl, e10⟩ ?_
  clear e0 e1 e4 e10
  clear F
  rintro F ⟨e0, e1, e4, e10⟩
  refine wp_ret ?_
  refine then_ret ?_
  exact bodyPost_ret (v := (.int .i64 1)) (res1 rfl (ro_tmp rfl e4)) rfl (⟨rfl, hH.done⟩)

set_option maxRecDepth 100000 in
set_option maxHeartbeats 4000000 in
theorem learn_calls {K : Nat → Prop} {g : Nat} {v kv : Value} {mo : Option Nat} (ns : List Nd) (hnl : ns.length ≤ 800000) (kn : List Nat) (hkl : kn.length ≤ 800000) (hok : Ok ns kn) (x : Tm) (lv : Value) (w : World) (hl0 : Stab (newK w K) w 1 lv [x].length ([x].flatMap cTm)) (hs0 : Stab (newK w K) w 3 x.v.1 x.t.length (x.t.flatMap cNd)) (hh0 : Heap (newK w K) w w [oBlk g [v, .map mo, kv] 33, oRow cNd 40 3 v ns, oMp mo ns, oRow cNu 3 1 kv kn]) :
    Calls Try.prog 8 #[.pointer (some ⟨g, 0, none⟩), lv] w fun e'' w' => ∃ u v' mo' kv', e'' = .returned (.int .i64 u) ∧ Heap (newK w K) w w' [oBlk g [v', .map mo', kv'] 33, oRow cNd 40 3 v' (bankC ns x.t), oMp mo' (bankC ns x.t), oRow cNu 3 1 kv' (knC ns kn x.t)] := by
  refine calls_fr (args := [.pointer (some ⟨g, 0, none⟩), lv]) (n := 39) Try.func8 rfl rfl (show 2 ≤ 39 by decide) ?_
  have hx1 : [x].length = 1 := rfl
  have hl := hl0
  have hs := hs0
  have hH : Heap (newK w K) w w [oBlk g ([v, .map mo, kv]) 33, oRow cNd 40 3 v ns, oMp mo ns, oRow cNu 3 1 kv kn] := hh0
  refine wp_seq ?_
  refine wp_gen (fun F' => F' 0 = .pointer (some ⟨g, 0, none⟩) ∧ F' 1 = lv) ⟨rfl, rfl⟩ ?_
  rintro F ⟨e0, e1⟩
  refine wp_regionF ?_
  refine lf_val (v := .int .i64 0) (wantAll rfl) (rv_assign rfl rfl) ?_
  refine lf_nil ?_
  refine then_n ?_
  refine wp_seq ?_
  refine wp_seq ?_
  refine wp_gen (fun F' => F' 0 = .pointer (some ⟨g, 0, none⟩) ∧ F' 1 = lv ∧ F' 4 = .int .i64 0) ⟨e0, e1, rfl⟩ ?_
  clear e0 e1
  clear F
  rintro F ⟨e0, e1, e4⟩
  refine wp_regionF ?_
  refine lf_val (v := .pointer (some ⟨g, 0, none⟩)) (wantAll rfl) (rv_move rfl (fr_eval rfl e0)) ?_
  refine lf_val (v := .bool false) (wantAll rfl) (rv_eqnil (p := (some ⟨g, 0, none⟩)) rfl (fr_eval rfl rfl) rfl Try.underlying27) ?_
  refine lf_nil ?_
  refine then_n ?_
  refine wp_gen (fun F' => F' 0 = .pointer (some ⟨g, 0, none⟩) ∧ F' 1 = lv ∧ F' 4 = .int .i64 0 ∧ F' 10 = .bool false) ⟨e0, e1, e4, rfl⟩ ?_
  clear e0 e1 e4
  clear F
  rintro F ⟨e0, e1, e4, e10⟩
  refine wp_cond_false (fr_eval rfl e10) ?_
  refine wp_skip ?_
  refine then_n ?_
  refine wp_seq ?_
  refine wp_seq ?_
  by_cases hf1 : okT x.t
  · refine wp_regionF ?_
    refine lf_val (v := lv) (wantAll rfl) (rv_move rfl (fr_eval rfl e1)) ?_
    refine lf_val (v := .int .i64 (([x].length : Nat) : Int)) (wantAll rfl) (rv_len rfl (fr_eval rfl rfl) (hl.rd _ hH.chg) Try.underlying22) ?_
    refine lf_val (v := .int .i64 0) (wantAll rfl) (rv_move rfl rfl) ?_
    refine lf_nil ?_
    refine then_n ?_
    refine wp_block ?_
    refine wp_gen (fun F' => F' 0 = .pointer (some ⟨g, 0, none⟩) ∧ F' 1 = lv ∧ F' 4 = .int .i64 0 ∧ F' 10 = .bool false ∧ F' 11 = lv ∧ F' 12 = .int .i64 (([x].length : Nat) : Int) ∧ F' 13 = .int .i64 0) ⟨e0, e1, e4, e10, rfl, rfl, rfl⟩ ?_
    clear e0 e1 e4 e10
    clear F
    rintro F ⟨e0, e1, e4, e10, e11, e12, e13⟩
    refine wp_loopF (fun m F wr => ∃ i : Nat, ∃ ms : List Nd, ∃ kk : List Nat, ∃ u : Value, ∃ mu : Option Nat, ∃ ku : Value, m = 1 - i ∧ i ≤ 1 ∧ (i = 0 → ns = ms ∧ kn = kk) ∧ (i = 1 → bankT ns x.t = ms ∧ kn ++ [idT ns x.t] = kk) ∧ F 0 = .pointer (some ⟨g, 0, none⟩) ∧ F 1 = lv ∧ F 10 = .bool false ∧ F 11 = lv ∧ F 12 = .int .i64 (([x].length : Nat) : Int) ∧ F 13 = .int .i64 ((i : Nat) : Int) ∧ Heap (newK w K) w wr [oBlk g ([u, .map mu, ku]) 33, oRow cNd 40 3 u ms, oMp mu ms, oRow cNu 3 1 ku kk]) ⟨0, ns, kn, _, _, _, rfl, Nat.zero_le _, (fun _ => ⟨rfl, rfl⟩), (fun h => absurd h (by decide)), e0, e1, e10, e11, e12, e13, hH⟩ ?_
    clear e0 e1 e4 e10 e11 e12 e13 hH
    clear F
    rintro m F w1 ⟨i, ms, kk, u, mu, ku, rfl, pi0, pi1, pi2, e0, e1, e10, e11, e12, e13, hH⟩
    refine wp_seq ?_
    refine wp_regionF ?_
    refine lf_val (v := .bool (decide (i < [x].length))) (wantAll rfl) (rv_lssP (p := i < [x].length) rfl (fr_eval rfl e13) (fr_eval rfl e12) (by omega)) ?_
    refine lf_nil ?_
    refine then_n ?_
    refine wp_seq ?_
    refine wp_gen (fun F' => F' 0 = .pointer (some ⟨g, 0, none⟩) ∧ F' 1 = lv ∧ F' 10 = .bool false ∧ F' 11 = lv ∧ F' 12 = .int .i64 (([x].length : Nat) : Int) ∧ F' 13 = .int .i64 ((i : Nat) : Int) ∧ F' 14 = .bool (decide (i < [x].length))) ⟨e0, e1, e10, e11, e12, e13, rfl⟩ ?_
    clear e0 e1 e10 e11 e12 e13
    clear F
    rintro F ⟨e0, e1, e10, e11, e12, e13, e14⟩
    by_cases hc1 : i < [x].length
    · refine wp_cond_true (fr_eval rfl (e14.trans (congrArg Value.bool (decide_eq_true hc1)))) ?_
      refine wp_skip ?_
      refine then_n ?_
      refine wp_seq ?_
      refine wp_block ?_
      refine wp_seq ?_
      obtain rfl : i = 0 := by omega
      obtain ⟨e1, e2⟩ := pi1 rfl
      subst e1 e2
      clear pi1 pi2
      refine wp_regionF ?_
      refine lf_val (v := .pointer (some (elemA lv (0 * 1)))) (wantAll rfl) (rv_index rfl (fr_eval rfl e11) (fr_eval rfl e13) (rdN (hl.rd _ hH.chg) rfl) (show 0 < [x].length from (by omega)) Try.underlying22 Try.sz24 (by decide)) ?_
      refine lf_val (v := x.v.1) (wantAll rfl) (rv_loadCell rfl (fr_eval rfl rfl) (Nat.mul_one _) (hl.rd _ hH.chg) (flat_get1 zTm cTm_len (show 0 < [x].length from (by omega)) rfl) Try.underlying24 rfl Try.sz24) ?_
      refine lf_val (v := x.v.1) (wantAll rfl) (rv_assign rfl (fr_eval rfl rfl)) ?_
      refine lf_nil ?_
      refine then_n ?_
      refine wp_seq ?_
      refine wp_gen (fun F' => F' 0 = .pointer (some ⟨g, 0, none⟩) ∧ F' 1 = lv ∧ F' 6 = x.v.1 ∧ F' 10 = .bool false ∧ F' 11 = lv ∧ F' 12 = .int .i64 (([x].length : Nat) : Int) ∧ F' 13 = .int .i64 ((0 : Nat) : Int) ∧ F' 14 = .bool true) ⟨e0, e1, rfl, e10, e11, e12, e13, (e14.trans (congrArg Value.bool (decide_eq_true hc1)))⟩ ?_
      clear e0 e1 e10 e11 e12 e13 e14
      clear F
      rintro F ⟨e0, e1, e6, e10, e11, e12, e13, e14⟩
      refine wp_regionF ?_
      refine lf_val (v := .pointer (some ⟨g, 0, none⟩)) (wantAll rfl) (rv_move rfl (fr_eval rfl e0)) ?_
      refine lf_val (v := .pointer (some ⟨g, 0, none⟩)) (wantAll rfl) (rv_nilCheck rfl (fr_eval rfl rfl)) ?_
      refine lf_val (v := .pointer (some ⟨g, 0, none⟩)) (wantAll rfl) (rv_fieldAddr (n := 1) rfl (fr_eval rfl rfl) Try.underlying33 rfl rfl (by kernel_rfl)) ?_
      refine lf_val (v := x.v.1) (wantAll rfl) (rv_move rfl (fr_eval rfl e6)) ?_
      replace hH : Heap _ _ _ [_, _, _, _] := hH.perm (.trans (.swap _ _ _) (.cons _ (.trans (.swap _ _ _) (.cons _ (.trans (.swap _ _ _) (.cons _ (.refl _)))))))
      refine lf_call (wantAll rfl) (rv_call (args := [.pointer (some ⟨g, 0, none⟩), x.v.1]) rfl (evc (fr_eval rfl rfl) (evc (fr_eval rfl rfl) evn)) Try.call13) (into_m (Rd.oneV (Own.rd (hH.own (i := 0) rfl) (row_one cNu_one))) ns (by omega) hok.bank x.t hf1 _ _ (Stab.part (L := [_]) (M := [_, _, _]) hs hH) (Heap.part (L := [_]) (M := [_, _, _]) hH)) ?_
      rintro _ w2 ⟨y1, q1, rfl, hP⟩
      refine ⟨_, rfl, ?_⟩
      have hx := hH.callChg (L := [_]) (M := [_, _, _]) (fun _ h => h) hP
      replace hH : Heap _ _ _ [_, _, _, _] := hH.call (L := [_]) (M := [_, _, _]) (fun _ h => h) hP (Stays.blk (hP.blk (i := 0) rfl) (Stays.own (hP.own (i := 1) rfl) (Stays.mp (hP.mp (i := 2) rfl) Stays.nil)))
      clear hP
      clear hx
      refine lf_val (v := .tuple #[.int .i64 ((idT ns x.t : Nat) : Int), .int .i64 0]) (wantAll rfl) (rv_move rfl (fr_eval rfl rfl)) ?_
      refine lf_val (v := .int .i64 ((idT ns x.t : Nat) : Int)) (wantAll rfl) (rv_extract rfl (fr_eval rfl rfl) rfl) ?_
      refine lf_val (v := .int .i64 0) (wantAll rfl) (rv_extract rfl (fr_eval rfl rfl) rfl) ?_
      refine lf_val (v := .int .i64 ((idT ns x.t : Nat) : Int)) (wantAll rfl) (rv_assign rfl (fr_eval rfl rfl)) ?_
      refine lf_val (v := .int .i64 0) (wantAll rfl) (rv_assign rfl (fr_eval rfl rfl)) ?_
      refine lf_nil ?_
      refine then_n ?_
      refine wp_seq ?_
      refine wp_seq ?_
      refine wp_gen (fun F' => F' 0 = .pointer (some ⟨g, 0, none⟩) ∧ F' 1 = lv ∧ F' 6 = x.v.1 ∧ F' 7 = .int .i64 ((idT ns x.t : Nat) : Int) ∧ F' 8 = .int .i64 0 ∧ F' 10 = .bool false ∧ F' 11 = lv ∧ F' 12 = .int .i64 (([x].length : Nat) : Int) ∧ F' 13 = .int .i64 ((0 : Nat) : Int) ∧ F' 14 = .bool true) ⟨e0, e1, e6, rfl, rfl, e10, e11, e12, e13, e14⟩ ?_
      clear e0 e1 e6 e10 e11 e12 e13 e14
      clear F
      rintro F ⟨e0, e1, e6, e7, e8, e10, e11, e12, e13, e14⟩
      refine wp_regionF ?_
      refine lf_val (v := .int .i64 0) (wantAll rfl) (rv_move rfl (fr_eval rfl e8)) ?_
      refine lf_val (v := .bool false) (wantAll rfl) (rv_neq rfl (fr_eval rfl rfl) rfl (show decide ((0 : Int) = 0) = true from by decide)) ?_
      refine lf_nil ?_
      refine then_n ?_
      refine wp_gen (fun F' => F' 0 = .pointer (some ⟨g, 0, none⟩) ∧ F' 1 = lv ∧ F' 6 = x.v.1 ∧ F' 7 = .int .i64 ((idT ns x.t : Nat) : Int) ∧ F' 8 = .int .i64 0 ∧ F' 10 = .bool false ∧ F' 11 = lv ∧ F' 12 = .int .i64 (([x].length : Nat) : Int) ∧ F' 13 = .int .i64 ((0 : Nat) : Int) ∧ F' 14 = .bool true ∧ F' 26 = .bool false) ⟨e0, e1, e6, e7, e8, e10, e11, e12, e13, e14, rfl⟩ ?_
      clear e0 e1 e6 e7 e8 e10 e11 e12 e13 e14
      clear F
      rintro F ⟨e0, e1, e6, e7, e8, e10, e11, e12, e13, e14, e26⟩
      refine wp_cond_false (fr_eval rfl e26) ?_
      refine wp_skip ?_
      refine then_n ?_
      refine wp_regionF ?_
      refine lf_val (v := .pointer (some ⟨g, 0, none⟩)) (wantAll rfl) (rv_move rfl (fr_eval rfl e0)) ?_
      refine lf_val (v := .pointer (some ⟨g, 0, none⟩)) (wantAll rfl) (rv_move rfl (fr_eval rfl e0)) ?_
      refine lf_val (v := .pointer (some ⟨g, 0, none⟩)) (wantAll rfl) (rv_nilCheck rfl (fr_eval rfl rfl)) ?_
      refine lf_val (v := .pointer (some ⟨g, 2, none⟩)) (wantAll rfl) (rv_fieldAddr (n := 0) rfl (fr_eval rfl rfl) Try.underlying33 rfl rfl (by kernel_rfl)) ?_
      refine lf_val (v := ku) (wantAll rfl) (rv_load1 rfl (hH.blk (i := 1) rfl) zMj_g0 (fr_eval rfl rfl) Try.underlying31 rfl Try.sz31) ?_
      refine lf_val (v := .int .i64 ((idT ns x.t : Nat) : Int)) (wantAll rfl) (rv_move rfl (fr_eval rfl e7)) ?_
      refine lf_ex (wantAll rfl) (hx_lits hH Try.stInt (n := 1) (nm := List.length [idT ns x.t]) [(.tmp 33)] (vs := [(.int .i64 ((idT ns x.t : Nat) : Int))]) (cs := List.flatMap cNu [idT ns x.t]) rfl (evc (fr_eval rfl rfl) evn) (row_one (l := [idT ns x.t]) cNu_one) rfl (by decide) rfl rfl) ?_
      clear hH
      rintro y2 w3 ⟨hH, hx⟩
      replace hH : Heap _ _ _ [_, _, _, _, _] := hH
      clear hx
      refine lf_ex (wantAll rfl) (hx_append hH Try.stInt (i := 0) (xs' := (kn ++ [idT ns x.t]).flatMap cNu) (nm := (kn ++ [idT ns x.t]).length) rfl rfl (fun _ => rfl) List.length_append.symm List.flatMap_append.symm (Own.rd (hH.own (i := 4) rfl) (row_one cNu_one)) (fr_eval rfl rfl) (fr_eval rfl rfl) (by simp only [List.length_append, List.length_cons, List.length_nil]; omega)) ?_
      clear hH
      rintro y3 w4 ⟨hH, hx⟩
      replace hH : Heap _ _ _ [_, _, _, _, _] := hH
      clear hx
      refine lf_val (v := .pointer (some ⟨g, 0, none⟩)) (wantAll rfl) (rv_nilCheck rfl (fr_eval rfl rfl)) ?_
      refine lf_val (v := .pointer (some ⟨g, 2, none⟩)) (wantAll rfl) (rv_fieldAddr (n := 0) rfl (fr_eval rfl rfl) Try.underlying33 rfl rfl (by kernel_rfl)) ?_
      refine lf_sk (wantAll rfl) (hx_storeC hH (i := 1) (j := 2) (v := y3) rfl rfl rfl (show 2 < 3 by decide) rfl (fr_eval rfl rfl) (fr_eval rfl rfl) Try.sz31 (Rd.oneV (Own.rd (hH.own (i := 0) rfl) (row_one cNu_one)))) ?_
      clear hH
      rintro w5 ⟨hH, hx⟩
      replace hH : Heap _ _ _ [_, _, _, _, _] := hH
      clear hx
      refine lf_nil ?_
      refine blk_n ?_
      refine then_n ?_
      replace hH : Heap _ _ _ [_, _, _, _] := hH.drop (.cons_cons _ (.cons_cons _ (.cons_cons _ (.cons_cons _ (.cons _ .slnil)))))
      refine wp_gen (fun F' => F' 0 = .pointer (some ⟨g, 0, none⟩) ∧ F' 1 = lv ∧ F' 6 = x.v.1 ∧ F' 7 = .int .i64 ((idT ns x.t : Nat) : Int) ∧ F' 8 = .int .i64 0 ∧ F' 10 = .bool false ∧ F' 11 = lv ∧ F' 12 = .int .i64 (([x].length : Nat) : Int) ∧ F' 13 = .int .i64 ((0 : Nat) : Int) ∧ F' 14 = .bool true ∧ F' 26 = .bool false) ⟨e0, e1, e6, e7, e8, e10, e11, e12, e13, e14, e26⟩ ?_
      clear e0 e1 e6 e7 e8 e10 e11 e12 e13 e14 e26
      clear F
      rintro F ⟨e0, e1, e6, e7, e8, e10, e11, e12, e13, e14, e26⟩
      refine wp_regionF ?_
      refine lf_val (v := .int .i64 ((0 + 1 : Nat) : Int)) (wantAll rfl) (rv_add rfl (fr_eval rfl e13) rfl (wrap_i64 (by omega) (by omega) (by omega))) ?_
      refine lf_val (v := .int .i64 ((0 + 1 : Nat) : Int)) (wantAll rfl) (rv_move rfl (fr_eval rfl rfl)) ?_
      refine lf_nil ?_
      refine then_n ?_
      replace hH : Heap _ _ _ [_, _, _, _] := hH.perm (.trans (.swap _ _ _) (.cons _ (.refl _)))
      replace hH : Heap _ _ _ [_, _, _, _] := hH.perm (.cons _ (.trans (.swap _ _ _) (.cons _ (.refl _))))
      replace hH : Heap _ _ _ [_, _, _, _] := hH.perm (.cons _ (.cons _ (.trans (.swap _ _ _) (.cons _ (.refl _)))))
      exact ⟨_, _, (by omega), rfl, 1, _, _, _, _, _, rfl, (Nat.le_refl _), (fun h => absurd h (by decide)), (fun _ => ⟨rfl, rfl⟩), e0, e1, e10, e11, e12, rfl, hH⟩
    · refine wp_cond_false (fr_eval rfl (e14.trans (congrArg Value.bool (decide_eq_false hc1)))) ?_
      refine wp_exit ?_
      refine then_exit ?_
      refine then_exit ?_
      refine blk_exit ?_
      refine then_n ?_
      refine wp_seq ?_
      refine wp_regionF ?_
      refine lf_val (v := .int .i64 0) (wantAll rfl) (rv_assign rfl rfl) ?_
      refine lf_nil ?_
      refine then_n ?_
      refine wp_gen (fun F' => F' 0 = .pointer (some ⟨g, 0, none⟩) ∧ F' 1 = lv ∧ F' 4 = .int .i64 0 ∧ F' 10 = .bool false ∧ F' 11 = lv ∧ F' 12 = .int .i64 (([x].length : Nat) : Int) ∧ F' 13 = .int .i64 ((i : Nat) : Int) ∧ F' 14 = .bool false) ⟨e0, e1, rfl, e10, e11, e12, e13, (e14.trans (congrArg Value.bool (decide_eq_false hc1)))⟩ ?_
      clear e0 e1 e10 e11 e12 e13 e14
      clear F
      rintro F ⟨e0, e1, e4, e10, e11, e12, e13, e14⟩
      refine wp_ret ?_
      have hF := hH
      exact bodyPost_ret (v := (.int .i64 0)) (res1 rfl (ro_tmp rfl e4)) rfl ((by
        obtain ⟨rfl, rfl⟩ := pi2 (by omega)
        rw [bankC_of hf1, knC_of hf1]
        exact ⟨_, _, _, _, rfl, hF⟩))
  · refine wp_regionF ?_
    refine lf_val (v := lv) (wantAll rfl) (rv_move rfl (fr_eval rfl e1)) ?_
    refine lf_val (v := .int .i64 (([x].length : Nat) : Int)) (wantAll rfl) (rv_len rfl (fr_eval rfl rfl) (hl.rd _ hH.chg) Try.underlying22) ?_
    refine lf_val (v := .int .i64 0) (wantAll rfl) (rv_move rfl rfl) ?_
    refine lf_nil ?_
    refine then_n ?_
    refine wp_block ?_
    refine wp_gen (fun F' => F' 0 = .pointer (some ⟨g, 0, none⟩) ∧ F' 1 = lv ∧ F' 4 = .int .i64 0 ∧ F' 10 = .bool false ∧ F' 11 = lv ∧ F' 12 = .int .i64 (([x].length : Nat) : Int) ∧ F' 13 = .int .i64 0) ⟨e0, e1, e4, e10, rfl, rfl, rfl⟩ ?_
    clear e0 e1 e4 e10
    clear F
    rintro F ⟨e0, e1, e4, e10, e11, e12, e13⟩
    refine wp_loopF (fun m F wr => ∃ i : Nat, m = 1 - i ∧ i = 0 ∧ F 0 = .pointer (some ⟨g, 0, none⟩) ∧ F 1 = lv ∧ F 10 = .bool false ∧ F 11 = lv ∧ F 12 = .int .i64 (([x].length : Nat) : Int) ∧ F 13 = .int .i64 ((i : Nat) : Int) ∧ Heap (newK w K) w wr [oBlk g ([v, .map mo, kv]) 33, oRow cNd 40 3 v ns, oMp mo ns, oRow cNu 3 1 kv kn]) ⟨0, rfl, rfl, e0, e1, e10, e11, e12, e13, hH⟩ ?_
    clear e0 e1 e4 e10 e11 e12 e13 hH
    clear F
    rintro m F w6 ⟨i, rfl, pi0, e0, e1, e10, e11, e12, e13, hH⟩
    refine wp_seq ?_
    refine wp_regionF ?_
    refine lf_val (v := .bool (decide (i < [x].length))) (wantAll rfl) (rv_lssP (p := i < [x].length) rfl (fr_eval rfl e13) (fr_eval rfl e12) (by omega)) ?_
    refine lf_nil ?_
    refine then_n ?_
    refine wp_seq ?_
    refine wp_gen (fun F' => F' 0 = .pointer (some ⟨g, 0, none⟩) ∧ F' 1 = lv ∧ F' 10 = .bool false ∧ F' 11 = lv ∧ F' 12 = .int .i64 (([x].length : Nat) : Int) ∧ F' 13 = .int .i64 ((i : Nat) : Int) ∧ F' 14 = .bool (decide (i < [x].length))) ⟨e0, e1, e10, e11, e12, e13, rfl⟩ ?_
    clear e0 e1 e10 e11 e12 e13
    clear F
    rintro F ⟨e0, e1, e10, e11, e12, e13, e14⟩
    by_cases hc2 : i < [x].length
    · refine wp_cond_true (fr_eval rfl (e14.trans (congrArg Value.bool (decide_eq_true hc2)))) ?_
      refine wp_skip ?_
      refine then_n ?_
      refine wp_seq ?_
      refine wp_block ?_
      refine wp_seq ?_
      subst pi0
      refine wp_regionF ?_
      refine lf_val (v := .pointer (some (elemA lv (0 * 1)))) (wantAll rfl) (rv_index rfl (fr_eval rfl e11) (fr_eval rfl e13) (rdN (hl.rd _ hH.chg) rfl) (show 0 < [x].length from (by omega)) Try.underlying22 Try.sz24 (by decide)) ?_
      refine lf_val (v := x.v.1) (wantAll rfl) (rv_loadCell rfl (fr_eval rfl rfl) (Nat.mul_one _) (hl.rd _ hH.chg) (flat_get1 zTm cTm_len (show 0 < [x].length from (by omega)) rfl) Try.underlying24 rfl Try.sz24) ?_
      refine lf_val (v := x.v.1) (wantAll rfl) (rv_assign rfl (fr_eval rfl rfl)) ?_
      refine lf_nil ?_
      refine then_n ?_
      refine wp_seq ?_
      refine wp_gen (fun F' => F' 0 = .pointer (some ⟨g, 0, none⟩) ∧ F' 1 = lv ∧ F' 6 = x.v.1 ∧ F' 10 = .bool false ∧ F' 11 = lv ∧ F' 12 = .int .i64 (([x].length : Nat) : Int) ∧ F' 13 = .int .i64 ((0 : Nat) : Int) ∧ F' 14 = .bool true) ⟨e0, e1, rfl, e10, e11, e12, e13, (e14.trans (congrArg Value.bool (decide_eq_true hc2)))⟩ ?_
      clear e0 e1 e10 e11 e12 e13 e14
      clear F
      rintro F ⟨e0, e1, e6, e10, e11, e12, e13, e14⟩
      refine wp_regionF ?_
      refine lf_val (v := .pointer (some ⟨g, 0, none⟩)) (wantAll rfl) (rv_move rfl (fr_eval rfl e0)) ?_
      refine lf_val (v := .pointer (some ⟨g, 0, none⟩)) (wantAll rfl) (rv_nilCheck rfl (fr_eval rfl rfl)) ?_
      refine lf_val (v := .pointer (some ⟨g, 0, none⟩)) (wantAll rfl) (rv_fieldAddr (n := 1) rfl (fr_eval rfl rfl) Try.underlying33 rfl rfl (by kernel_rfl)) ?_
      refine lf_val (v := x.v.1) (wantAll rfl) (rv_move rfl (fr_eval rfl e6)) ?_
      refine lf_call (wantAll rfl) (rv_call (args := [.pointer (some ⟨g, 0, none⟩), x.v.1]) rfl (evc (fr_eval rfl rfl) (evc (fr_eval rfl rfl) evn)) Try.call13) (into_no g x.t hf1 _ _ (hs.rd _ hH.chg)) ?_
      rintro _ w7 ⟨rfl, hx⟩
      refine ⟨_, rfl, ?_⟩
      replace hH := hH.ext hx
      clear hx
      refine lf_val (v := .tuple #[.int .i64 0, .int .i64 1]) (wantAll rfl) (rv_move rfl (fr_eval rfl rfl)) ?_
      refine lf_val (v := .int .i64 0) (wantAll rfl) (rv_extract rfl (fr_eval rfl rfl) rfl) ?_
      refine lf_val (v := .int .i64 1) (wantAll rfl) (rv_extract rfl (fr_eval rfl rfl) rfl) ?_
      refine lf_val (v := .int .i64 0) (wantAll rfl) (rv_assign rfl (fr_eval rfl rfl)) ?_
      refine lf_val (v := .int .i64 1) (wantAll rfl) (rv_assign rfl (fr_eval rfl rfl)) ?_
      refine lf_nil ?_
      refine then_n ?_
      refine wp_seq ?_
      refine wp_seq ?_
      refine wp_gen (fun F' => F' 0 = .pointer (some ⟨g, 0, none⟩) ∧ F' 1 = lv ∧ F' 6 = x.v.1 ∧ F' 7 = .int .i64 0 ∧ F' 8 = .int .i64 1 ∧ F' 10 = .bool false ∧ F' 11 = lv ∧ F' 12 = .int .i64 (([x].length : Nat) : Int) ∧ F' 13 = .int .i64 ((0 : Nat) : Int) ∧ F' 14 = .bool true) ⟨e0, e1, e6, rfl, rfl, e10, e11, e12, e13, e14⟩ ?_
      clear e0 e1 e6 e10 e11 e12 e13 e14
      clear F
      rintro F ⟨e0, e1, e6, e7, e8, e10, e11, e12, e13, e14⟩
      refine wp_regionF ?_
      refine lf_val (v := .int .i64 1) (wantAll rfl) (rv_move rfl (fr_eval rfl e8)) ?_
      refine lf_val (v := .bool true) (wantAll rfl) (rv_neq rfl (fr_eval rfl rfl) rfl (show decide ((1 : Int) = 0) = false from by decide)) ?_
      refine lf_nil ?_
      refine then_n ?_
      refine wp_gen (fun F' => F' 0 = .pointer (some ⟨g, 0, none⟩) ∧ F' 1 = lv ∧ F' 6 = x.v.1 ∧ F' 7 = .int .i64 0 ∧ F' 8 = .int .i64 1 ∧ F' 10 = .bool false ∧ F' 11 = lv ∧ F' 12 = .int .i64 (([x].length : Nat) : Int) ∧ F' 13 = .int .i64 ((0 : Nat) : Int) ∧ F' 14 = .bool true ∧ F' 26 = .bool true) ⟨e0, e1, e6, e7, e8, e10, e11, e12, e13, e14, rfl⟩ ?_
      clear e0 e1 e6 e7 e8 e10 e11 e12 e13 e14
      clear F
      rintro F ⟨e0, e1, e6, e7, e8, e10, e11, e12, e13, e14, e26⟩
      refine wp_cond_true (fr_eval rfl e26) ?_
      refine wp_seq ?_
      refine wp_regionF ?_
      refine lf_val (v := .int .i64 1) (wantAll rfl) (rv_move rfl (fr_eval rfl e8)) ?_
      refine lf_val (v := .int .i64 1) (wantAll rfl) (rv_assign rfl (fr_eval rfl rfl)) ?_
      refine lf_nil ?_
      refine then_n ?_
      refine wp_gen (fun F' => F' 0 = .pointer (some ⟨g, 0, none⟩) ∧ F' 1 = lv ∧ F' 4 = .int .i64 1 ∧ F' 6 = x.v.1 ∧ F' 7 = .int .i64 0 ∧ F' 8 = .int .i64 1 ∧ F' 10 = .bool false ∧ F' 11 = lv ∧ F' 12 = .int .i64 (([x].length : Nat) : Int) ∧ F' 13 = .int .i64 ((0 : Nat) : Int) ∧ F' 14 = .bool true ∧ F' 26 = .bool true) ⟨e0, e1, rfl, e6, e7, e8, e10, e11, e12, e13, e14, e26⟩ ?_
      clear e0 e1 e6 e7 e8 e10 e11 e12 e13 e14 e26
      clear F
      rintro F ⟨e0, e1, e4, e6, e7, e8, e10, e11, e12, e13, e14, e26⟩
      refine wp_ret ?_
      refine then_ret ?_
      refine blk_ret ?_
      refine then_ret ?_
      refine then_ret ?_
      refine blk_ret ?_
      refine then_ret ?_
      have hF := hH
      exact bodyPost_ret (v := (.int .i64 1)) (res1 rfl (ro_tmp rfl e4)) rfl (⟨_, _, _, _, rfl, by rw [bankC_no hf1, knC_no hf1]; exact hF⟩)
    · refine wp_cond_false (fr_eval rfl (e14.trans (congrArg Value.bool (decide_eq_false hc2)))) ?_
      refine wp_exit ?_
      refine then_exit ?_
      refine then_exit ?_
      refine blk_exit ?_
      refine then_n ?_
      refine wp_seq ?_
      refine wp_regionF ?_
      refine lf_val (v := .int .i64 0) (wantAll rfl) (rv_assign rfl rfl) ?_
      refine lf_nil ?_
      refine then_n ?_
      refine wp_gen (fun F' => F' 0 = .pointer (some ⟨g, 0, none⟩) ∧ F' 1 = lv ∧ F' 4 = .int .i64 0 ∧ F' 10 = .bool false ∧ F' 11 = lv ∧ F' 12 = .int .i64 (([x].length : Nat) : Int) ∧ F' 13 = .int .i64 ((i : Nat) : Int) ∧ F' 14 = .bool false) ⟨e0, e1, rfl, e10, e11, e12, e13, (e14.trans (congrArg Value.bool (decide_eq_false hc2)))⟩ ?_
      clear e0 e1 e10 e11 e12 e13 e14
      clear F
      rintro F ⟨e0, e1, e4, e10, e11, e12, e13, e14⟩
      refine wp_ret ?_
      have hF := hH
      exact bodyPost_ret (v := (.int .i64 0)) (res1 rfl (ro_tmp rfl e4)) rfl (by exfalso; subst pi0; simp at *)

set_option maxRecDepth 100000 in
set_option maxHeartbeats 4000000 in
theorem knows_nil (w : World) :
    Calls Try.prog 14 #[.pointer none] w fun e'' w' => e'' = .returned (.int .i64 0) ∧ Ext w w' := by
  refine calls_fr (args := [.pointer none]) (n := 20) Try.func14 rfl rfl (show 1 ≤ 20 by decide) ?_
  have hH : Heap (newN w) w w [] := Heap.fresh
  refine wp_seq ?_
  refine wp_gen (fun F' => F' 0 = .pointer none) rfl ?_
  rintro F e0
  refine wp_regionF ?_
  refine lf_val (v := .int .i64 0) (wantAll rfl) (rv_assign rfl rfl) ?_
  refine lf_nil ?_
  refine then_n ?_
  refine wp_seq ?_
  refine wp_seq ?_
  refine wp_gen (fun F' => F' 0 = .pointer none ∧ F' 2 = .int .i64 0) ⟨e0, rfl⟩ ?_
  clear e0
  clear F
  rintro F ⟨e0, e2⟩
  refine wp_regionF ?_
  refine lf_val (v := .pointer none) (wantAll rfl) (rv_move rfl (fr_eval rfl e0)) ?_
  refine lf_val (v := .bool true) (wantAll rfl) (rv_eqnil (p := none) rfl (fr_eval rfl rfl) rfl Try.underlying27) ?_
  refine lf_nil ?_
  refine then_n ?_
  refine wp_gen (fun F' => F' 0 = .pointer none ∧ F' 2 = .int .i64 0 ∧ F' 7 = .bool true) ⟨e0, e2, rfl⟩ ?_
  clear e0 e2
  clear F
  rintro F ⟨e0, e2, e7⟩
  refine wp_cond_true (fr_eval rfl e7) ?_
  refine wp_seq ?_
  refine wp_regionF ?_
  refine lf_val (v := .int .i64 0) (wantAll rfl) (rv_assign rfl rfl) ?_
  refine lf_nil ?_
  refine then_n ?_
  refine wp_gen (fun F' => F' 0 = .pointer none ∧ F' 2 = .int .i64 0 ∧ F' 7 = .bool true) ⟨e0, rfl, e7⟩ ?_
  clear e0 e2 e7
  clear F
  rintro F ⟨e0, e2, e7⟩
  refine wp_ret ?_
  refine then_ret ?_
  exact bodyPost_ret (v := (.int .i64 0)) (res1 rfl (ro_tmp rfl e2)) rfl (⟨rfl, hH.done⟩)

set_option maxRecDepth 100000 in
set_option maxHeartbeats 4000000 in
theorem len_nil (w : World) :
    Calls Try.prog 15 #[.pointer none] w fun e'' w' => e'' = .returned (.int .i64 0) ∧ Ext w w' := by
  refine calls_fr (args := [.pointer none]) (n := 10) Try.func15 rfl rfl (show 1 ≤ 10 by decide) ?_
  have hH : Heap (newN w) w w [] := Heap.fresh
  refine wp_seq ?_
  refine wp_gen (fun F' => F' 0 = .pointer none) rfl ?_
  rintro F e0
  refine wp_regionF ?_
  refine lf_val (v := .int .i64 0) (wantAll rfl) (rv_assign rfl rfl) ?_
  refine lf_nil ?_
  refine then_n ?_
  refine wp_seq ?_
  refine wp_seq ?_
  refine wp_gen (fun F' => F' 0 = .pointer none ∧ F' 2 = .int .i64 0) ⟨e0, rfl⟩ ?_
  clear e0
  clear F
  rintro F ⟨e0, e2⟩
  refine wp_regionF ?_
  refine lf_val (v := .pointer none) (wantAll rfl) (rv_move rfl (fr_eval rfl e0)) ?_
  refine lf_val (v := .bool true) (wantAll rfl) (rv_eqnil (p := none) rfl (fr_eval rfl rfl) rfl Try.underlying43) ?_
  refine lf_nil ?_
  refine then_n ?_
  refine wp_gen (fun F' => F' 0 = .pointer none ∧ F' 2 = .int .i64 0 ∧ F' 4 = .bool true) ⟨e0, e2, rfl⟩ ?_
  clear e0 e2
  clear F
  rintro F ⟨e0, e2, e4⟩
  refine wp_cond_true (fr_eval rfl e4) ?_
  refine wp_seq ?_
  refine wp_regionF ?_
  refine lf_val (v := .int .i64 0) (wantAll rfl) (rv_assign rfl rfl) ?_
  refine lf_nil ?_
  refine then_n ?_
  refine wp_gen (fun F' => F' 0 = .pointer none ∧ F' 2 = .int .i64 0 ∧ F' 4 = .bool true) ⟨e0, rfl, e4⟩ ?_
  clear e0 e2 e4
  clear F
  rintro F ⟨e0, e2, e4⟩
  refine wp_ret ?_
  refine then_ret ?_
  exact bodyPost_ret (v := (.int .i64 0)) (res1 rfl (ro_tmp rfl e2)) rfl (⟨rfl, hH.done⟩)

set_option maxRecDepth 100000 in
set_option maxHeartbeats 4000000 in
theorem of_calls (z : Int) (w : World) :
    Calls Try.prog 12 #[.int .i64 z] w fun e'' w' => (∃ v', e'' = .returned v' ∧ Own w' 40 3 v' (nameT z).length ((nameT z).flatMap cNd) ∧ ∀ k, v'.ownBlock = some k → w.heap.size ≤ k) ∧ Ext w w' := by
  refine calls_fr (args := [.int .i64 z]) (n := 6) Try.func12 rfl rfl (show 1 ≤ 6 by decide) ?_
  have hH : Heap (newN w) w w [] := Heap.fresh
  refine wp_seq ?_
  refine wp_gen (fun F' => F' 0 = .int .i64 z) rfl ?_
  rintro F e0
  refine wp_regionF ?_
  refine lf_val (v := .slice none 0 0) (wantAll rfl) (rv_assign rfl rfl) ?_
  refine lf_nil ?_
  refine then_n ?_
  refine wp_seq ?_
  refine wp_gen (fun F' => F' 0 = .int .i64 z ∧ F' 2 = .slice none 0 0) ⟨e0, rfl⟩ ?_
  clear e0
  clear F
  rintro F ⟨e0, e2⟩
  refine wp_regionF ?_
  refine lf_val (v := .int .i64 z) (wantAll rfl) (rv_move rfl (fr_eval rfl e0)) ?_
  refine lf_val (wantAll rfl) (rv_buildS (ps := [(0, (.const (.int .i64 1))), (1, (.tmp 3))]) (places := #[(0, 1), (1, 1), (2, 1)]) (z := .agg #[.int .i64 0, .int .i64 0, .int .i64 0]) (zc := [.int .i64 0, .int .i64 0, .int .i64 0]) (cs := [.int .i64 1, .int .i64 z, .int .i64 0]) rfl (evpc rfl (evpc (fr_eval rfl rfl) evpn)) (by kernel_rfl) rfl Try.underlying40 (fun _ => by kernel_rfl) (fill1 rfl rfl (by first | decide | simp) (show _ = [.int .i64 1, .int .i64 0, .int .i64 0] from rfl) (fill1 rfl rfl (by first | decide | simp) (show _ = [.int .i64 1, .int .i64 z, .int .i64 0] from rfl) fill0))) ?_
  refine lf_ex (wantAll rfl) (hx_lit1 hH Try.stTerm (cs := cNd (⟨1, z, 0⟩ : Nd)) (xs := List.flatMap cNd [(⟨1, z, 0⟩ : Nd)]) rfl (fr_eval rfl rfl) (cNd_ln (⟨1, z, 0⟩ : Nd)) (by decide) (List.flatMap_singleton ..).symm) ?_
  clear hH
  rintro y1 w1 ⟨hH, hx⟩
  replace hH : Heap _ _ _ [_] := hH
  clear hx
  refine lf_val (v := y1) (wantAll rfl) (rv_assign rfl (fr_eval rfl rfl)) ?_
  refine lf_nil ?_
  refine then_n ?_
  refine wp_gen (fun F' => F' 0 = .int .i64 z ∧ F' 2 = y1) ⟨e0, rfl⟩ ?_
  clear e0 e2
  clear F
  rintro F ⟨e0, e2⟩
  refine wp_ret ?_
  exact bodyPost_ret (v := y1) (res1 rfl (ro_tmp rfl e2)) rfl (⟨⟨_, rfl, hH.own (i := 0) rfl, hH.ge (i := 0) rfl⟩, hH.done⟩)

set_option maxRecDepth 100000 in
set_option maxHeartbeats 4000000 in
theorem join_calls (z : Int) (a b : List Nd) (ha : okT a) (hb : okT b) (va vb : Value) (w : World) (hr0 : Rd w 3 va a.length (a.flatMap cNd)) (hq0 : Rd w 3 vb b.length (b.flatMap cNd)) :
    Calls Try.prog 10 #[.int .i64 z, va, vb] w fun e'' w' => (∃ v', e'' = .returned v' ∧ Own w' 40 3 v' (joinT z a b).length ((joinT z a b).flatMap cNd) ∧ ∀ k, v'.ownBlock = some k → w.heap.size ≤ k) ∧ Ext w w' := by
  refine calls_fr (args := [.int .i64 z, va, vb]) (n := 64) Try.func10 rfl rfl (show 3 ≤ 64 by decide) ?_
  have ha1 := ha.1
  have ha2 := ha.2.1
  have hb1 := hb.1
  have hb2 := hb.2.1
  have hr := Rd.stab hr0
  have hq := Rd.stab hq0
  have hH : Heap (newN w) w w [] := Heap.fresh
  refine wp_seq ?_
  refine wp_gen (fun F' => F' 0 = .int .i64 z ∧ F' 1 = va ∧ F' 2 = vb) ⟨rfl, rfl, rfl⟩ ?_
  rintro F ⟨e0, e1, e2⟩
  refine wp_regionF ?_
  refine lf_val (v := .slice none 0 0) (wantAll rfl) (rv_assign rfl rfl) ?_
  refine lf_nil ?_
  refine then_n ?_
  refine wp_seq ?_
  refine wp_gen (fun F' => F' 0 = .int .i64 z ∧ F' 1 = va ∧ F' 2 = vb ∧ F' 6 = .slice none 0 0) ⟨e0, e1, e2, rfl⟩ ?_
  clear e0 e1 e2
  clear F
  rintro F ⟨e0, e1, e2, e6⟩
  refine wp_regionF ?_
  refine lf_val (v := va) (wantAll rfl) (rv_move rfl (fr_eval rfl e1)) ?_
  refine lf_ex (wantAll rfl) (hx_appendN hH Try.stTerm (nm := (a).length) (xs' := (a).flatMap cNd) rfl rfl rfl (hr.rd _ hH.chg) rfl (fr_eval rfl rfl) (by omega)) ?_
  clear hH
  rintro y1 w1 ⟨hH, hx⟩
  replace hH : Heap _ _ _ [_] := hH
  clear hx
  refine lf_val (v := y1) (wantAll rfl) (rv_assign rfl (fr_eval rfl rfl)) ?_
  refine lf_nil ?_
  refine then_n ?_
  refine wp_seq ?_
  refine wp_seq ?_
  refine wp_gen (fun F' => F' 0 = .int .i64 z ∧ F' 1 = va ∧ F' 2 = vb ∧ F' 6 = .slice none 0 0 ∧ F' 7 = y1) ⟨e0, e1, e2, e6, rfl⟩ ?_
  clear e0 e1 e2 e6
  clear F
  rintro F ⟨e0, e1, e2, e6, e7⟩
  refine wp_regionF ?_
  refine lf_val (v := .int .i64 z) (wantAll rfl) (rv_move rfl (fr_eval rfl e0)) ?_
  refine lf_val (v := .bool (decide (z = 3))) (wantAll rfl) (rv_eqlP (p := z = 3) rfl (fr_eval rfl rfl) rfl Iff.rfl) ?_
  refine lf_nil ?_
  refine then_n ?_
  refine wp_gen (fun F' => F' 0 = .int .i64 z ∧ F' 1 = va ∧ F' 2 = vb ∧ F' 6 = .slice none 0 0 ∧ F' 7 = y1 ∧ F' 13 = .bool (decide (z = 3))) ⟨e0, e1, e2, e6, e7, rfl⟩ ?_
  clear e0 e1 e2 e6 e7
  clear F
  rintro F ⟨e0, e1, e2, e6, e7, e13⟩
  by_cases hc1 : z = 3
  · refine wp_cond_true (fr_eval rfl (e13.trans (congrArg Value.bool (decide_eq_true hc1)))) ?_
    refine wp_seq ?_
    refine wp_regionF ?_
    refine lf_val (v := y1) (wantAll rfl) (rv_move rfl (fr_eval rfl e7)) ?_
    refine lf_val (v := va) (wantAll rfl) (rv_move rfl (fr_eval rfl e1)) ?_
    refine lf_val (v := .int .i64 ((a.length : Nat) : Int)) (wantAll rfl) (rv_len rfl (fr_eval rfl rfl) (hr.rd _ hH.chg) Try.underlying24) ?_
    refine lf_val (v := .int .i64 ((a.length - 1 : Nat) : Int)) (wantAll rfl) (rv_sub rfl (fr_eval rfl rfl) rfl (wrap_i64 (by omega) (by omega) (by omega))) ?_
    refine lf_val (wantAll rfl) (rv_buildS (ps := [(0, (.const (.int .i64 3))), (1, (.tmp 17))]) (places := #[(0, 1), (1, 1), (2, 1)]) (z := .agg #[.int .i64 0, .int .i64 0, .int .i64 0]) (zc := [.int .i64 0, .int .i64 0, .int .i64 0]) (cs := [.int .i64 3, .int .i64 ((a.length - 1 : Nat) : Int), .int .i64 0]) rfl (evpc rfl (evpc (fr_eval rfl rfl) evpn)) (by kernel_rfl) rfl Try.underlying40 (fun _ => by kernel_rfl) (fill1 rfl rfl (by first | decide | simp) (show _ = [.int .i64 3, .int .i64 0, .int .i64 0] from rfl) (fill1 rfl rfl (by first | decide | simp) (show _ = [.int .i64 3, .int .i64 ((a.length - 1 : Nat) : Int), .int .i64 0] from rfl) fill0))) ?_
    refine lf_ex (wantAll rfl) (hx_lit1 hH Try.stTerm (cs := cNd (⟨3, ((a.length - 1 : Nat) : Int), 0⟩ : Nd)) (xs := List.flatMap cNd [(⟨3, ((a.length - 1 : Nat) : Int), 0⟩ : Nd)]) rfl (fr_eval rfl rfl) (cNd_ln (⟨3, ((a.length - 1 : Nat) : Int), 0⟩ : Nd)) (by decide) (List.flatMap_singleton ..).symm) ?_
    clear hH
    rintro y2 w2 ⟨hH, hx⟩
    replace hH : Heap _ _ _ [_, _] := hH
    clear hx
    refine lf_ex (wantAll rfl) (hx_append hH Try.stTerm (i := 0) (xs' := (a ++ [(⟨3, ((a.length - 1 : Nat) : Int), 0⟩ : Nd)]).flatMap cNd) (nm := (a ++ [(⟨3, ((a.length - 1 : Nat) : Int), 0⟩ : Nd)]).length) rfl rfl (fun _ => rfl) List.length_append.symm List.flatMap_append.symm (Own.rd (hH.own (i := 1) rfl) (row_one cNd_one)) (fr_eval rfl rfl) (fr_eval rfl rfl) (by simp only [List.length_append, List.length_map, List.length_take, List.length_cons, List.length_nil]; omega)) ?_
    clear hH
    rintro y3 w3 ⟨hH, hx⟩
    replace hH : Heap _ _ _ [_, _] := hH
    rw [show a ++ [(⟨3, ((a.length - 1 : Nat) : Int), 0⟩ : Nd)] = joinT z a b from (by rw [joinT, if_pos hc1]; have e : (((a.length - 1 : Nat) : Int)) = (a.length : Int) - 1 := (by omega); rw [e])] at hH
    clear hx
    refine lf_val (v := y3) (wantAll rfl) (rv_assign rfl (fr_eval rfl rfl)) ?_
    refine lf_nil ?_
    refine then_n ?_
    replace hH : Heap _ _ _ [_] := hH.drop (.cons_cons _ (.cons _ .slnil))
    refine wp_gen (fun F' => F' 0 = .int .i64 z ∧ F' 1 = va ∧ F' 2 = vb ∧ F' 6 = y3 ∧ F' 7 = y1 ∧ F' 13 = .bool true) ⟨e0, e1, e2, rfl, e7, (e13.trans (congrArg Value.bool (decide_eq_true hc1)))⟩ ?_
    clear e0 e1 e2 e6 e7 e13
    clear F
    rintro F ⟨e0, e1, e2, e6, e7, e13⟩
    refine wp_ret ?_
    refine then_ret ?_
    exact bodyPost_ret (v := y3) (res1 rfl (ro_tmp rfl e6)) rfl (⟨⟨_, rfl, hH.own (i := 0) rfl, hH.ge (i := 0) rfl⟩, hH.done⟩)
  · refine wp_cond_false (fr_eval rfl (e13.trans (congrArg Value.bool (decide_eq_false hc1)))) ?_
    refine wp_skip ?_
    refine then_n ?_
    refine wp_seq ?_
    refine wp_seq ?_
    refine wp_regionF ?_
    refine lf_val (v := vb) (wantAll rfl) (rv_move rfl (fr_eval rfl e2)) ?_
    refine lf_val (v := .int .i64 ((b.length : Nat) : Int)) (wantAll rfl) (rv_len rfl (fr_eval rfl rfl) (hq.rd _ hH.chg) Try.underlying24) ?_
    refine lf_val (v := .int .i64 0) (wantAll rfl) (rv_move rfl rfl) ?_
    refine lf_nil ?_
    refine then_n ?_
    refine wp_block ?_
    rw [show a = a ++ (b.take 0).map (shN a.length) from (by simp)] at hH
    refine wp_gen (fun F' => F' 0 = .int .i64 z ∧ F' 1 = va ∧ F' 2 = vb ∧ F' 6 = .slice none 0 0 ∧ F' 7 = y1 ∧ F' 13 = .bool false ∧ F' 21 = vb ∧ F' 22 = .int .i64 ((b.length : Nat) : Int) ∧ F' 23 = .int .i64 0) ⟨e0, e1, e2, e6, e7, (e13.trans (congrArg Value.bool (decide_eq_false hc1))), rfl, rfl, rfl⟩ ?_
    clear e0 e1 e2 e6 e7 e13
    clear F
    rintro F ⟨e0, e1, e2, e6, e7, e13, e21, e22, e23⟩
    refine wp_loopF (fun m F wr => ∃ i : Nat, ∃ u : Value, m = b.length - i ∧ i ≤ b.length ∧ F 0 = .int .i64 z ∧ F 1 = va ∧ F 2 = vb ∧ F 6 = .slice none 0 0 ∧ F 7 = u ∧ F 13 = .bool false ∧ F 21 = vb ∧ F 22 = .int .i64 ((b.length : Nat) : Int) ∧ F 23 = .int .i64 ((i : Nat) : Int) ∧ Heap (newN w) w wr [oRow cNd 40 3 u (a ++ (b.take i).map (shN a.length))]) ⟨0, _, rfl, Nat.zero_le _, e0, e1, e2, e6, e7, e13, e21, e22, e23, hH⟩ ?_
    clear e0 e1 e2 e6 e7 e13 e21 e22 e23 hH
    clear F
    rintro m F w4 ⟨i, u, rfl, pi0, e0, e1, e2, e6, e7, e13, e21, e22, e23, hH⟩
    refine wp_seq ?_
    refine wp_regionF ?_
    refine lf_val (v := .bool (decide (i < b.length))) (wantAll rfl) (rv_lssP (p := i < b.length) rfl (fr_eval rfl e23) (fr_eval rfl e22) (by omega)) ?_
    refine lf_nil ?_
    refine then_n ?_
    refine wp_seq ?_
    refine wp_gen (fun F' => F' 0 = .int .i64 z ∧ F' 1 = va ∧ F' 2 = vb ∧ F' 6 = .slice none 0 0 ∧ F' 7 = u ∧ F' 13 = .bool false ∧ F' 21 = vb ∧ F' 22 = .int .i64 ((b.length : Nat) : Int) ∧ F' 23 = .int .i64 ((i : Nat) : Int) ∧ F' 24 = .bool (decide (i < b.length))) ⟨e0, e1, e2, e6, e7, e13, e21, e22, e23, rfl⟩ ?_
    clear e0 e1 e2 e6 e7 e13 e21 e22 e23
    clear F
    rintro F ⟨e0, e1, e2, e6, e7, e13, e21, e22, e23, e24⟩
    by_cases hc2 : i < b.length
    · refine wp_cond_true (fr_eval rfl (e24.trans (congrArg Value.bool (decide_eq_true hc2)))) ?_
      refine wp_skip ?_
      refine then_n ?_
      refine wp_seq ?_
      refine wp_block ?_
      refine wp_seq ?_
      refine wp_regionF ?_
      refine lf_val (v := .pointer (some (elemA vb (i * 3)))) (wantAll rfl) (rv_index rfl (fr_eval rfl e21) (fr_eval rfl e23) (rdN (hq.rd _ hH.chg) rfl) (show i < b.length from (by omega)) Try.underlying24 Try.sz40 (by decide)) ?_
      refine lf_val (wantAll rfl) (rv_loadElem rfl (fr_eval rfl rfl) (rdN (hq.rd _ hH.chg) rfl) (show i < b.length from (by omega)) (by decide) (flat_part zN cNd_len (show i < b.length from (by omega))) Try.underlying40 rfl Try.sz40) ?_
      refine lf_ex (wantAll rfl) (hx_alloc hH 40 (z := .agg ([.int .i64 0, .int .i64 0, .int .i64 0]).toArray) (n := 3) (cs := [.int .i64 0, .int .i64 0, .int .i64 0]) rfl (by kernel_rfl) (by rfl)) ?_
      clear hH
      rintro _ w5 ⟨g1, rfl, hH, hx⟩
      replace hH : Heap _ _ _ [_, _] := hH
      clear hx
      refine lf_sk (wantAll rfl) (hx_storeW hH (i := 1) (cs := [.int .i64 ((List.getD b i zN).k), .int .i64 ((List.getD b i zN).a), .int .i64 ((List.getD b i zN).b)]) rfl rfl rfl (fr_eval rfl rfl) (fr_eval rfl rfl) (sz_len Try.sz40 zMj_l1) ((zMj_l1).trans (zMj_l1).symm) (zMj_o2 rfl rfl rfl)) ?_
      clear hH
      rintro w6 ⟨hH, hx⟩
      replace hH : Heap _ _ _ [_, _] := hH
      clear hx
      refine lf_nil ?_
      refine then_n ?_
      refine wp_seq ?_
      refine wp_seq ?_
      refine wp_gen (fun F' => F' 0 = .int .i64 z ∧ F' 1 = va ∧ F' 2 = vb ∧ F' 6 = .slice none 0 0 ∧ F' 7 = u ∧ F' 9 = .pointer (some ⟨g1, 0, none⟩) ∧ F' 13 = .bool false ∧ F' 21 = vb ∧ F' 22 = .int .i64 ((b.length : Nat) : Int) ∧ F' 23 = .int .i64 ((i : Nat) : Int) ∧ F' 24 = .bool true) ⟨e0, e1, e2, e6, e7, rfl, e13, e21, e22, e23, (e24.trans (congrArg Value.bool (decide_eq_true hc2)))⟩ ?_
      clear e0 e1 e2 e6 e7 e13 e21 e22 e23 e24
      clear F
      rintro F ⟨e0, e1, e2, e6, e7, e9, e13, e21, e22, e23, e24⟩
      have hok := hb.2.2 i (by omega)
      refine wp_regionF ?_
      refine lf_val (v := .pointer (some ⟨g1, 0, none⟩)) (wantAll rfl) (rv_fieldAddr (n := 0) rfl (fr_eval rfl e9) Try.underlying40 rfl rfl (by kernel_rfl)) ?_
      refine lf_val (v := .int .i64 ((List.getD b i zN).k)) (wantAll rfl) (rv_load1 rfl (hH.blk (i := 1) rfl) zMj_g3 (fr_eval rfl rfl) Try.underlying3 rfl Try.sz3) ?_
      refine lf_val (v := .bool (decide (¬ (List.getD b i zN).k = 1))) (wantAll rfl) (rv_neqP (p := ¬ (List.getD b i zN).k = 1) rfl (fr_eval rfl rfl) rfl Iff.rfl) ?_
      refine lf_nil ?_
      refine then_n ?_
      refine wp_gen (fun F' => F' 0 = .int .i64 z ∧ F' 1 = va ∧ F' 2 = vb ∧ F' 6 = .slice none 0 0 ∧ F' 7 = u ∧ F' 9 = .pointer (some ⟨g1, 0, none⟩) ∧ F' 13 = .bool false ∧ F' 21 = vb ∧ F' 22 = .int .i64 ((b.length : Nat) : Int) ∧ F' 23 = .int .i64 ((i : Nat) : Int) ∧ F' 24 = .bool true ∧ F' 29 = .bool (decide (¬ (List.getD b i zN).k = 1))) ⟨e0, e1, e2, e6, e7, e9, e13, e21, e22, e23, e24, rfl⟩ ?_
      clear e0 e1 e2 e6 e7 e9 e13 e21 e22 e23 e24
      clear F
      rintro F ⟨e0, e1, e2, e6, e7, e9, e13, e21, e22, e23, e24, e29⟩
      by_cases hc3 : (List.getD b i zN).k = 1
      · refine wp_cond_false (fr_eval rfl (e29.trans (congrArg Value.bool (decide_eq_false (not_not_intro hc3))))) ?_
        refine wp_skip ?_
        refine then_n ?_
        refine wp_regionF ?_
        refine lf_val (v := u) (wantAll rfl) (rv_move rfl (fr_eval rfl e7)) ?_
        refine lf_val (wantAll rfl) (rv_loadW rfl (hH.blk (i := 1) rfl) (fr_eval rfl e9) Try.underlying40 rfl (sz_len Try.sz40 zMj_l1)) ?_
        refine lf_ex (wantAll rfl) (hx_lit1 hH Try.stTerm (cs := cNd (List.getD b i zN)) (xs := List.flatMap cNd [(List.getD b i zN)]) rfl (fr_eval rfl rfl) (cNd_ln (List.getD b i zN)) (by decide) (List.flatMap_singleton ..).symm) ?_
        clear hH
        rintro y4 w7 ⟨hH, hx⟩
        replace hH : Heap _ _ _ [_, _, _] := hH
        clear hx
        refine lf_ex (wantAll rfl) (hx_append hH Try.stTerm (i := 0) (xs' := ((a ++ (b.take i).map (shN a.length)) ++ [(List.getD b i zN)]).flatMap cNd) (nm := ((a ++ (b.take i).map (shN a.length)) ++ [(List.getD b i zN)]).length) rfl rfl (fun _ => rfl) List.length_append.symm List.flatMap_append.symm (Own.rd (hH.own (i := 2) rfl) (row_one cNd_one)) (fr_eval rfl rfl) (fr_eval rfl rfl) (by simp only [List.length_append, List.length_map, List.length_take, List.length_cons, List.length_nil]; omega)) ?_
        clear hH
        rintro y5 w8 ⟨hH, hx⟩
        replace hH : Heap _ _ _ [_, _, _] := hH
        rw [show (a ++ (b.take i).map (shN a.length)) ++ [(List.getD b i zN)] = a ++ (b.take (i + 1)).map (shN a.length) from (by rw [← join_next (by omega : i < b.length)]; congr 2; unfold shN; first | rw [if_pos (by omega)] | rw [if_neg (by omega), if_pos (by omega)] | rw [if_neg (by omega), if_neg (by omega)])] at hH
        clear hx
        refine lf_val (v := y5) (wantAll rfl) (rv_assign rfl (fr_eval rfl rfl)) ?_
        refine lf_nil ?_
        refine blk_n ?_
        refine then_n ?_
        replace hH : Heap _ _ _ [_, _] := hH.drop (.cons_cons _ (.cons_cons _ (.cons _ .slnil)))
        refine wp_gen (fun F' => F' 0 = .int .i64 z ∧ F' 1 = va ∧ F' 2 = vb ∧ F' 6 = .slice none 0 0 ∧ F' 7 = y5 ∧ F' 9 = .pointer (some ⟨g1, 0, none⟩) ∧ F' 13 = .bool false ∧ F' 21 = vb ∧ F' 22 = .int .i64 ((b.length : Nat) : Int) ∧ F' 23 = .int .i64 ((i : Nat) : Int) ∧ F' 24 = .bool true ∧ F' 29 = .bool false) ⟨e0, e1, e2, e6, rfl, e9, e13, e21, e22, e23, e24, (e29.trans (congrArg Value.bool (decide_eq_false (not_not_intro hc3))))⟩ ?_
        clear e0 e1 e2 e6 e7 e9 e13 e21 e22 e23 e24 e29
        clear F
        rintro F ⟨e0, e1, e2, e6, e7, e9, e13, e21, e22, e23, e24, e29⟩
        refine wp_regionF ?_
        refine lf_val (v := .int .i64 ((i + 1 : Nat) : Int)) (wantAll rfl) (rv_add rfl (fr_eval rfl e23) rfl (wrap_i64 (by omega) (by omega) (by omega))) ?_
        refine lf_val (v := .int .i64 ((i + 1 : Nat) : Int)) (wantAll rfl) (rv_move rfl (fr_eval rfl rfl)) ?_
        refine lf_nil ?_
        refine then_n ?_
        replace hH : Heap _ _ _ [_] := hH.drop (.cons_cons _ (.cons _ .slnil))
        exact ⟨_, _, (by omega), rfl, i + 1, _, rfl, (by omega), e0, e1, e2, e6, e7, e13, e21, e22, rfl, hH⟩
      · refine wp_cond_true (fr_eval rfl (e29.trans (congrArg Value.bool (decide_eq_true hc3)))) ?_
        refine wp_seq ?_
        refine wp_regionF ?_
        refine lf_val (v := .pointer (some ⟨g1, 1, none⟩)) (wantAll rfl) (rv_fieldAddr (n := 0) rfl (fr_eval rfl e9) Try.underlying40 rfl rfl (by kernel_rfl)) ?_
        refine lf_val (v := .int .i64 ((List.getD b i zN).a)) (wantAll rfl) (rv_load1 rfl (hH.blk (i := 1) rfl) zMj_g4 (fr_eval rfl rfl) Try.underlying3 rfl Try.sz3) ?_
        refine lf_val (v := va) (wantAll rfl) (rv_move rfl (fr_eval rfl e1)) ?_
        refine lf_val (v := .int .i64 ((a.length : Nat) : Int)) (wantAll rfl) (rv_len rfl (fr_eval rfl rfl) (hr.rd _ hH.chg) Try.underlying24) ?_
        refine lf_val (v := .int .i64 ((List.getD b i zN).a + ((a.length : Nat) : Int))) (wantAll rfl) (rv_add rfl (fr_eval rfl rfl) (fr_eval rfl rfl) (wrap_i64 rfl (by unfold okN at hok; omega) (by unfold okN at hok; omega))) ?_
        refine lf_val (v := .pointer (some ⟨g1, 1, none⟩)) (wantAll rfl) (rv_fieldAddr (n := 0) rfl (fr_eval rfl e9) Try.underlying40 rfl rfl (by kernel_rfl)) ?_
        refine lf_sk (wantAll rfl) (hx_storeC hH (i := 1) (j := 1) (v := .int .i64 ((List.getD b i zN).a + ((a.length : Nat) : Int))) rfl rfl rfl (show 1 < 3 by decide) rfl (fr_eval rfl rfl) (fr_eval rfl rfl) Try.sz3 rfl) ?_
        clear hH
        rintro w9 ⟨hH, hx⟩
        replace hH : Heap _ _ _ [_, _] := hH
        clear hx
        refine lf_nil ?_
        refine then_n ?_
        refine wp_seq ?_
        refine wp_gen (fun F' => F' 0 = .int .i64 z ∧ F' 1 = va ∧ F' 2 = vb ∧ F' 6 = .slice none 0 0 ∧ F' 7 = u ∧ F' 9 = .pointer (some ⟨g1, 0, none⟩) ∧ F' 13 = .bool false ∧ F' 21 = vb ∧ F' 22 = .int .i64 ((b.length : Nat) : Int) ∧ F' 23 = .int .i64 ((i : Nat) : Int) ∧ F' 24 = .bool true ∧ F' 29 = .bool true) ⟨e0, e1, e2, e6, e7, e9, e13, e21, e22, e23, e24, (e29.trans (congrArg Value.bool (decide_eq_true hc3)))⟩ ?_
        clear e0 e1 e2 e6 e7 e9 e13 e21 e22 e23 e24 e29
        clear F
        rintro F ⟨e0, e1, e2, e6, e7, e9, e13, e21, e22, e23, e24, e29⟩
        refine wp_regionF ?_
        refine lf_val (v := .pointer (some ⟨g1, 0, none⟩)) (wantAll rfl) (rv_fieldAddr (n := 0) rfl (fr_eval rfl e9) Try.underlying40 rfl rfl (by kernel_rfl)) ?_
        refine lf_val (v := .int .i64 ((List.getD b i zN).k)) (wantAll rfl) (rv_load1 rfl (hH.blk (i := 1) rfl) zMj_g3 (fr_eval rfl rfl) Try.underlying3 rfl Try.sz3) ?_
        refine lf_val (v := .bool (decide (¬ (List.getD b i zN).k = 3))) (wantAll rfl) (rv_neqP (p := ¬ (List.getD b i zN).k = 3) rfl (fr_eval rfl rfl) rfl Iff.rfl) ?_
        refine lf_nil ?_
        refine then_n ?_
        refine wp_gen (fun F' => F' 0 = .int .i64 z ∧ F' 1 = va ∧ F' 2 = vb ∧ F' 6 = .slice none 0 0 ∧ F' 7 = u ∧ F' 9 = .pointer (some ⟨g1, 0, none⟩) ∧ F' 13 = .bool false ∧ F' 21 = vb ∧ F' 22 = .int .i64 ((b.length : Nat) : Int) ∧ F' 23 = .int .i64 ((i : Nat) : Int) ∧ F' 24 = .bool true ∧ F' 29 = .bool true ∧ F' 38 = .bool (decide (¬ (List.getD b i zN).k = 3))) ⟨e0, e1, e2, e6, e7, e9, e13, e21, e22, e23, e24, e29, rfl⟩ ?_
        clear e0 e1 e2 e6 e7 e9 e13 e21 e22 e23 e24 e29
        clear F
        rintro F ⟨e0, e1, e2, e6, e7, e9, e13, e21, e22, e23, e24, e29, e38⟩
        by_cases hc4 : (List.getD b i zN).k = 3
        · refine wp_cond_false (fr_eval rfl (e38.trans (congrArg Value.bool (decide_eq_false (not_not_intro hc4))))) ?_
          refine wp_skip ?_
          refine then_n ?_
          refine wp_regionF ?_
          refine lf_val (v := u) (wantAll rfl) (rv_move rfl (fr_eval rfl e7)) ?_
          refine lf_val (wantAll rfl) (rv_loadW rfl (hH.blk (i := 1) rfl) (fr_eval rfl e9) Try.underlying40 rfl (sz_len Try.sz40 zMj_l1)) ?_
          refine lf_ex (wantAll rfl) (hx_lit1 hH Try.stTerm (cs := cNd (⟨(List.getD b i zN).k, (List.getD b i zN).a + ((a.length : Nat) : Int), (List.getD b i zN).b⟩ : Nd)) (xs := List.flatMap cNd [(⟨(List.getD b i zN).k, (List.getD b i zN).a + ((a.length : Nat) : Int), (List.getD b i zN).b⟩ : Nd)]) rfl (fr_eval rfl rfl) (cNd_ln (⟨(List.getD b i zN).k, (List.getD b i zN).a + ((a.length : Nat) : Int), (List.getD b i zN).b⟩ : Nd)) (by decide) (List.flatMap_singleton ..).symm) ?_
          clear hH
          rintro y6 w10 ⟨hH, hx⟩
          replace hH : Heap _ _ _ [_, _, _] := hH
          clear hx
          refine lf_ex (wantAll rfl) (hx_append hH Try.stTerm (i := 0) (xs' := ((a ++ (b.take i).map (shN a.length)) ++ [(⟨(List.getD b i zN).k, (List.getD b i zN).a + ((a.length : Nat) : Int), (List.getD b i zN).b⟩ : Nd)]).flatMap cNd) (nm := ((a ++ (b.take i).map (shN a.length)) ++ [(⟨(List.getD b i zN).k, (List.getD b i zN).a + ((a.length : Nat) : Int), (List.getD b i zN).b⟩ : Nd)]).length) rfl rfl (fun _ => rfl) List.length_append.symm List.flatMap_append.symm (Own.rd (hH.own (i := 2) rfl) (row_one cNd_one)) (fr_eval rfl rfl) (fr_eval rfl rfl) (by simp only [List.length_append, List.length_map, List.length_take, List.length_cons, List.length_nil]; omega)) ?_
          clear hH
          rintro y7 w11 ⟨hH, hx⟩
          replace hH : Heap _ _ _ [_, _, _] := hH
          rw [show (a ++ (b.take i).map (shN a.length)) ++ [(⟨(List.getD b i zN).k, (List.getD b i zN).a + ((a.length : Nat) : Int), (List.getD b i zN).b⟩ : Nd)] = a ++ (b.take (i + 1)).map (shN a.length) from (by rw [← join_next (by omega : i < b.length)]; congr 2; unfold shN; first | rw [if_pos (by omega)] | rw [if_neg (by omega), if_pos (by omega)] | rw [if_neg (by omega), if_neg (by omega)])] at hH
          clear hx
          refine lf_val (v := y7) (wantAll rfl) (rv_assign rfl (fr_eval rfl rfl)) ?_
          refine lf_nil ?_
          refine blk_n ?_
          refine then_n ?_
          replace hH : Heap _ _ _ [_, _] := hH.drop (.cons_cons _ (.cons_cons _ (.cons _ .slnil)))
          refine wp_gen (fun F' => F' 0 = .int .i64 z ∧ F' 1 = va ∧ F' 2 = vb ∧ F' 6 = .slice none 0 0 ∧ F' 7 = y7 ∧ F' 9 = .pointer (some ⟨g1, 0, none⟩) ∧ F' 13 = .bool false ∧ F' 21 = vb ∧ F' 22 = .int .i64 ((b.length : Nat) : Int) ∧ F' 23 = .int .i64 ((i : Nat) : Int) ∧ F' 24 = .bool true ∧ F' 29 = .bool true ∧ F' 38 = .bool false) ⟨e0, e1, e2, e6, rfl, e9, e13, e21, e22, e23, e24, e29, (e38.trans (congrArg Value.bool (decide_eq_false (not_not_intro hc4))))⟩ ?_
          clear e0 e1 e2 e6 e7 e9 e13 e21 e22 e23 e24 e29 e38
          clear F
          rintro F ⟨e0, e1, e2, e6, e7, e9, e13, e21, e22, e23, e24, e29, e38⟩
          refine wp_regionF ?_
          refine lf_val (v := .int .i64 ((i + 1 : Nat) : Int)) (wantAll rfl) (rv_add rfl (fr_eval rfl e23) rfl (wrap_i64 (by omega) (by omega) (by omega))) ?_
          refine lf_val (v := .int .i64 ((i + 1 : Nat) : Int)) (wantAll rfl) (rv_move rfl (fr_eval rfl rfl)) ?_
          refine lf_nil ?_
          refine then_n ?_
          replace hH : Heap _ _ _ [_] := hH.drop (.cons_cons _ (.cons _ .slnil))
          exact ⟨_, _, (by omega), rfl, i + 1, _, rfl, (by omega), e0, e1, e2, e6, e7, e13, e21, e22, rfl, hH⟩
        · refine wp_cond_true (fr_eval rfl (e38.trans (congrArg Value.bool (decide_eq_true hc4)))) ?_
          refine wp_regionF ?_
          refine lf_val (v := .pointer (some ⟨g1, 2, none⟩)) (wantAll rfl) (rv_fieldAddr (n := 0) rfl (fr_eval rfl e9) Try.underlying40 rfl rfl (by kernel_rfl)) ?_
          refine lf_val (v := .int .i64 ((List.getD b i zN).b)) (wantAll rfl) (rv_load1 rfl (hH.blk (i := 1) rfl) zMj_g0 (fr_eval rfl rfl) Try.underlying3 rfl Try.sz3) ?_
          refine lf_val (v := va) (wantAll rfl) (rv_move rfl (fr_eval rfl e1)) ?_
          refine lf_val (v := .int .i64 ((a.length : Nat) : Int)) (wantAll rfl) (rv_len rfl (fr_eval rfl rfl) (hr.rd _ hH.chg) Try.underlying24) ?_
          refine lf_val (v := .int .i64 ((List.getD b i zN).b + ((a.length : Nat) : Int))) (wantAll rfl) (rv_add rfl (fr_eval rfl rfl) (fr_eval rfl rfl) (wrap_i64 rfl (by unfold okN at hok; omega) (by unfold okN at hok; omega))) ?_
          refine lf_val (v := .pointer (some ⟨g1, 2, none⟩)) (wantAll rfl) (rv_fieldAddr (n := 0) rfl (fr_eval rfl e9) Try.underlying40 rfl rfl (by kernel_rfl)) ?_
          refine lf_sk (wantAll rfl) (hx_storeC hH (i := 1) (j := 2) (v := .int .i64 ((List.getD b i zN).b + ((a.length : Nat) : Int))) rfl rfl rfl (show 2 < 3 by decide) rfl (fr_eval rfl rfl) (fr_eval rfl rfl) Try.sz3 rfl) ?_
          clear hH
          rintro w12 ⟨hH, hx⟩
          replace hH : Heap _ _ _ [_, _] := hH
          clear hx
          refine lf_nil ?_
          refine then_n ?_
          refine wp_gen (fun F' => F' 0 = .int .i64 z ∧ F' 1 = va ∧ F' 2 = vb ∧ F' 6 = .slice none 0 0 ∧ F' 7 = u ∧ F' 9 = .pointer (some ⟨g1, 0, none⟩) ∧ F' 13 = .bool false ∧ F' 21 = vb ∧ F' 22 = .int .i64 ((b.length : Nat) : Int) ∧ F' 23 = .int .i64 ((i : Nat) : Int) ∧ F' 24 = .bool true ∧ F' 29 = .bool true ∧ F' 38 = .bool true) ⟨e0, e1, e2, e6, e7, e9, e13, e21, e22, e23, e24, e29, (e38.trans (congrArg Value.bool (decide_eq_true hc4)))⟩ ?_
          clear e0 e1 e2 e6 e7 e9 e13 e21 e22 e23 e24 e29 e38
          clear F
          rintro F ⟨e0, e1, e2, e6, e7, e9, e13, e21, e22, e23, e24, e29, e38⟩
          refine wp_regionF ?_
          refine lf_val (v := u) (wantAll rfl) (rv_move rfl (fr_eval rfl e7)) ?_
          refine lf_val (wantAll rfl) (rv_loadW rfl (hH.blk (i := 1) rfl) (fr_eval rfl e9) Try.underlying40 rfl (sz_len Try.sz40 zMj_l1)) ?_
          refine lf_ex (wantAll rfl) (hx_lit1 hH Try.stTerm (cs := cNd (⟨(List.getD b i zN).k, (List.getD b i zN).a + ((a.length : Nat) : Int), (List.getD b i zN).b + ((a.length : Nat) : Int)⟩ : Nd)) (xs := List.flatMap cNd [(⟨(List.getD b i zN).k, (List.getD b i zN).a + ((a.length : Nat) : Int), (List.getD b i zN).b + ((a.length : Nat) : Int)⟩ : Nd)]) rfl (fr_eval rfl rfl) (cNd_ln (⟨(List.getD b i zN).k, (List.getD b i zN).a + ((a.length : Nat) : Int), (List.getD b i zN).b + ((a.length : Nat) : Int)⟩ : Nd)) (by decide) (List.flatMap_singleton ..).symm) ?_
          clear hH
          rintro y8 w13 ⟨hH, hx⟩
          replace hH : Heap _ _ _ [_, _, _] := hH
          clear hx
          refine lf_ex (wantAll rfl) (hx_append hH Try.stTerm (i := 0) (xs' := ((a ++ (b.take i).map (shN a.length)) ++ [(⟨(List.getD b i zN).k, (List.getD b i zN).a + ((a.length : Nat) : Int), (List.getD b i zN).b + ((a.length : Nat) : Int)⟩ : Nd)]).flatMap cNd) (nm := ((a ++ (b.take i).map (shN a.length)) ++ [(⟨(List.getD b i zN).k, (List.getD b i zN).a + ((a.length : Nat) : Int), (List.getD b i zN).b + ((a.length : Nat) : Int)⟩ : Nd)]).length) rfl rfl (fun _ => rfl) List.length_append.symm List.flatMap_append.symm (Own.rd (hH.own (i := 2) rfl) (row_one cNd_one)) (fr_eval rfl rfl) (fr_eval rfl rfl) (by simp only [List.length_append, List.length_map, List.length_take, List.length_cons, List.length_nil]; omega)) ?_
          clear hH
          rintro y9 w14 ⟨hH, hx⟩
          replace hH : Heap _ _ _ [_, _, _] := hH
          rw [show (a ++ (b.take i).map (shN a.length)) ++ [(⟨(List.getD b i zN).k, (List.getD b i zN).a + ((a.length : Nat) : Int), (List.getD b i zN).b + ((a.length : Nat) : Int)⟩ : Nd)] = a ++ (b.take (i + 1)).map (shN a.length) from (by rw [← join_next (by omega : i < b.length)]; congr 2; unfold shN; first | rw [if_pos (by omega)] | rw [if_neg (by omega), if_pos (by omega)] | rw [if_neg (by omega), if_neg (by omega)])] at hH
          clear hx
          refine lf_val (v := y9) (wantAll rfl) (rv_assign rfl (fr_eval rfl rfl)) ?_
          refine lf_nil ?_
          refine blk_n ?_
          refine then_n ?_
          replace hH : Heap _ _ _ [_, _] := hH.drop (.cons_cons _ (.cons_cons _ (.cons _ .slnil)))
          refine wp_gen (fun F' => F' 0 = .int .i64 z ∧ F' 1 = va ∧ F' 2 = vb ∧ F' 6 = .slice none 0 0 ∧ F' 7 = y9 ∧ F' 9 = .pointer (some ⟨g1, 0, none⟩) ∧ F' 13 = .bool false ∧ F' 21 = vb ∧ F' 22 = .int .i64 ((b.length : Nat) : Int) ∧ F' 23 = .int .i64 ((i : Nat) : Int) ∧ F' 24 = .bool true ∧ F' 29 = .bool true ∧ F' 38 = .bool true) ⟨e0, e1, e2, e6, rfl, e9, e13, e21, e22, e23, e24, e29, e38⟩ ?_
          clear e0 e1 e2 e6 e7 e9 e13 e21 e22 e23 e24 e29 e38
          clear F
          rintro F ⟨e0, e1, e2, e6, e7, e9, e13, e21, e22, e23, e24, e29, e38⟩
          refine wp_regionF ?_
          refine lf_val (v := .int .i64 ((i + 1 : Nat) : Int)) (wantAll rfl) (rv_add rfl (fr_eval rfl e23) rfl (wrap_i64 (by omega) (by omega) (by omega))) ?_
          refine lf_val (v := .int .i64 ((i + 1 : Nat) : Int)) (wantAll rfl) (rv_move rfl (fr_eval rfl rfl)) ?_
          refine lf_nil ?_
          refine then_n ?_
          replace hH : Heap _ _ _ [_] := hH.drop (.cons_cons _ (.cons _ .slnil))
          exact ⟨_, _, (by omega), rfl, i + 1, _, rfl, (by omega), e0, e1, e2, e6, e7, e13, e21, e22, rfl, hH⟩
    · refine wp_cond_false (fr_eval rfl (e24.trans (congrArg Value.bool (decide_eq_false hc2)))) ?_
      refine wp_exit ?_
      refine then_exit ?_
      refine then_exit ?_
      refine blk_exit ?_
      refine then_n ?_
      refine wp_seq ?_
      obtain rfl : i = b.length := by omega
      rw [List.take_length] at hH
      refine wp_regionF ?_
      refine lf_val (v := u) (wantAll rfl) (rv_move rfl (fr_eval rfl e7)) ?_
      refine lf_val (v := .int .i64 z) (wantAll rfl) (rv_move rfl (fr_eval rfl e0)) ?_
      refine lf_val (v := va) (wantAll rfl) (rv_move rfl (fr_eval rfl e1)) ?_
      refine lf_val (v := .int .i64 ((a.length : Nat) : Int)) (wantAll rfl) (rv_len rfl (fr_eval rfl rfl) (hr.rd _ hH.chg) Try.underlying24) ?_
      refine lf_val (v := .int .i64 ((a.length - 1 : Nat) : Int)) (wantAll rfl) (rv_sub rfl (fr_eval rfl rfl) rfl (wrap_i64 (by omega) (by omega) (by omega))) ?_
      refine lf_val (v := va) (wantAll rfl) (rv_move rfl (fr_eval rfl e1)) ?_
      refine lf_val (v := .int .i64 ((a.length : Nat) : Int)) (wantAll rfl) (rv_len rfl (fr_eval rfl rfl) (hr.rd _ hH.chg) Try.underlying24) ?_
      refine lf_val (v := vb) (wantAll rfl) (rv_move rfl (fr_eval rfl e2)) ?_
      refine lf_val (v := .int .i64 ((b.length : Nat) : Int)) (wantAll rfl) (rv_len rfl (fr_eval rfl rfl) (hq.rd _ hH.chg) Try.underlying24) ?_
      refine lf_val (v := .int .i64 ((a.length + b.length : Nat) : Int)) (wantAll rfl) (rv_add rfl (fr_eval rfl rfl) (fr_eval rfl rfl) (wrap_i64 (by omega) (by omega) (by omega))) ?_
      refine lf_val (v := .int .i64 (((a.length + b.length) - 1 : Nat) : Int)) (wantAll rfl) (rv_sub rfl (fr_eval rfl rfl) rfl (wrap_i64 (by omega) (by omega) (by omega))) ?_
      refine lf_val (wantAll rfl) (rv_buildS (ps := [(0, (.tmp 51)), (1, (.tmp 54)), (2, (.tmp 60))]) (places := #[(0, 1), (1, 1), (2, 1)]) (z := .agg #[.int .i64 0, .int .i64 0, .int .i64 0]) (zc := [.int .i64 0, .int .i64 0, .int .i64 0]) (cs := [.int .i64 z, .int .i64 ((a.length - 1 : Nat) : Int), .int .i64 (((a.length + b.length) - 1 : Nat) : Int)]) rfl (evpc (fr_eval rfl rfl) (evpc (fr_eval rfl rfl) (evpc (fr_eval rfl rfl) evpn))) (by kernel_rfl) rfl Try.underlying40 (fun _ => by kernel_rfl) (fill1 rfl rfl (by first | decide | simp) (show _ = [.int .i64 z, .int .i64 0, .int .i64 0] from rfl) (fill1 rfl rfl (by first | decide | simp) (show _ = [.int .i64 z, .int .i64 ((a.length - 1 : Nat) : Int), .int .i64 0] from rfl) (fill1 rfl rfl (by first | decide | simp) (show _ = [.int .i64 z, .int .i64 ((a.length - 1 : Nat) : Int), .int .i64 (((a.length + b.length) - 1 : Nat) : Int)] from rfl) fill0)))) ?_
      refine lf_ex (wantAll rfl) (hx_lit1 hH Try.stTerm (cs := cNd (⟨z, ((a.length - 1 : Nat) : Int), (((a.length + b.length) - 1 : Nat) : Int)⟩ : Nd)) (xs := List.flatMap cNd [(⟨z, ((a.length - 1 : Nat) : Int), (((a.length + b.length) - 1 : Nat) : Int)⟩ : Nd)]) rfl (fr_eval rfl rfl) (cNd_ln (⟨z, ((a.length - 1 : Nat) : Int), (((a.length + b.length) - 1 : Nat) : Int)⟩ : Nd)) (by decide) (List.flatMap_singleton ..).symm) ?_
      clear hH
      rintro y10 w15 ⟨hH, hx⟩
      replace hH : Heap _ _ _ [_, _] := hH
      clear hx
      refine lf_ex (wantAll rfl) (hx_append hH Try.stTerm (i := 0) (xs' := ((a ++ b.map (shN a.length)) ++ [(⟨z, ((a.length - 1 : Nat) : Int), (((a.length + b.length) - 1 : Nat) : Int)⟩ : Nd)]).flatMap cNd) (nm := ((a ++ b.map (shN a.length)) ++ [(⟨z, ((a.length - 1 : Nat) : Int), (((a.length + b.length) - 1 : Nat) : Int)⟩ : Nd)]).length) rfl rfl (fun _ => rfl) List.length_append.symm List.flatMap_append.symm (Own.rd (hH.own (i := 1) rfl) (row_one cNd_one)) (fr_eval rfl rfl) (fr_eval rfl rfl) (by simp only [List.length_append, List.length_map, List.length_take, List.length_cons, List.length_nil]; omega)) ?_
      clear hH
      rintro y11 w16 ⟨hH, hx⟩
      replace hH : Heap _ _ _ [_, _] := hH
      rw [show (a ++ b.map (shN a.length)) ++ [(⟨z, ((a.length - 1 : Nat) : Int), (((a.length + b.length) - 1 : Nat) : Int)⟩ : Nd)] = joinT z a b from (by rw [joinT, if_neg hc1]; congr 2; simp only [Nd.mk.injEq, true_and]; omega)] at hH
      clear hx
      refine lf_val (v := y11) (wantAll rfl) (rv_assign rfl (fr_eval rfl rfl)) ?_
      refine lf_nil ?_
      refine then_n ?_
      replace hH : Heap _ _ _ [_] := hH.drop (.cons_cons _ (.cons _ .slnil))
      refine wp_gen (fun F' => F' 0 = .int .i64 z ∧ F' 1 = va ∧ F' 2 = vb ∧ F' 6 = y11 ∧ F' 7 = u ∧ F' 13 = .bool false ∧ F' 21 = vb ∧ F' 22 = .int .i64 ((b.length : Nat) : Int) ∧ F' 23 = .int .i64 ((b.length : Nat) : Int) ∧ F' 24 = .bool false) ⟨e0, e1, e2, rfl, e7, e13, e21, e22, e23, (e24.trans (congrArg Value.bool (decide_eq_false hc2)))⟩ ?_
      clear e0 e1 e2 e6 e7 e13 e21 e22 e23 e24
      clear F
      rintro F ⟨e0, e1, e2, e6, e7, e13, e21, e22, e23, e24⟩
      refine wp_ret ?_
      exact bodyPost_ret (v := y11) (res1 rfl (ro_tmp rfl e6)) rfl (⟨⟨_, rfl, hH.own (i := 0) rfl, hH.ge (i := 0) rfl⟩, hH.done⟩)

end Go.Proofs.Ytdlliajghfflnaa
