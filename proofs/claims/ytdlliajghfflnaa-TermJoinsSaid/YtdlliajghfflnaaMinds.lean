/- Minds: the walks of make, open, Learn and Can; Join and Of. -/
import Derived.Test.YtdlliajghfflnaaBanks
namespace Go.Proofs.Ytdlliajghfflnaa
open Go.RowKit Go.Bz Go.Bz.Term
attribute [local irreducible] wpList Code.wp wpAnyX
theorem okB_at {ns : List Nd} (h : okB ns) {i : Nat} (hi : i < ns.length) (hk : ¬ (ns.getD i zN).k = 1) : (0 ≤ (ns.getD i zN).a ∧ (ns.getD i zN).a.toNat < i) ∧ (¬ (ns.getD i zN).k = 3 → 0 ≤ (ns.getD i zN).b ∧ (ns.getD i zN).b.toNat < i) := by
  have := h i hi
  unfold okR at this
  omega
theorem can_val {ns t : List Nd} {kn : List Nat} (hok : Ok ns kn) (ht : okT t) : (mkL (bankT ns t) (opL (bankT ns t) kn)).getD (idT ns t) false = true ↔ CanT ns kn t := by
  have h1 := hok.into ht
  have h2 := mk_row h1.bank (h := opL (bankT ns t) kn) (opL_len _ _) (idT_lt hok.bank ht)
  refine h2.trans ?_
  constructor
  · exact fun h => ⟨ht, h.mono fun i hi => (opL_on h1 i).1 hi⟩
  · exact fun h => h.2.mono fun i hi => (opL_on h1 i).2 hi
theorem bankC_le (ns t : List Nd) : (bankC ns t).length ≤ ns.length + 64 := by
  unfold bankC; split
  · rename_i ht; exact bankT_le ht
  · omega
theorem bo_app {a : List Bool} : ([] : List Bool) ++ a = a := rfl

theorem zMi_g0 {a0 : Value} {a1 : Value} {a2 : Value} : ([a0, a1, a2])[0]? = some a0 := rfl
theorem zMi_l1 {a0 : Value} {a1 : Value} {a2 : Value} : List.length ([a0, a1, a2]) = 3 := (show List.length [a0, a1, a2] = 3 from rfl)
theorem zMi_o2 {a0 : Value} {a1 : Value} {a2 : Value} (qa0 : a0.oneCell' = true) (qa1 : a1.oneCell' = true) (qa2 : a2.oneCell' = true) : ∀ u ∈ ([a0, a1, a2]), u.oneCell' = true := (ones_cons qa0 (ones_cons qa1 (ones_cons qa2 ones_nil)))
theorem zMi_g3 {a0 : Value} {a1 : Value} {a2 : Value} : ([a0, a1, a2])[1]? = some a1 := rfl
theorem zMi_g4 {a0 : Value} {a1 : Value} {a2 : Value} : ([a0, a1, a2])[2]? = some a2 := rfl
set_option maxRecDepth 100000 in
set_option maxHeartbeats 4000000 in
theorem make_calls {g : Nat} {v kv : Value} {mo : Option Nat} (ns : List Nd) (hnl : ns.length ≤ 1000000) (hb : okB ns) (h : List Bool) (hl : h.length = ns.length) (hv : Value) (w : World) (hB0 : Blk w g [v, .map mo, kv] 33) (hn0 : Rd w 3 v ns.length (ns.flatMap cNd)) (hh0 : Rd w 1 hv h.length (h.flatMap cT)) :
    Calls Try.prog 16 #[.pointer (some ⟨g, 0, none⟩), hv] w fun e'' w' => (∃ v', e'' = .returned v' ∧ Own w' 4 1 v' (mkL ns h).length ((mkL ns h).flatMap cT) ∧ ∀ k, v'.ownBlock = some k → w.heap.size ≤ k) ∧ Ext w w' := by
  refine calls_fr (args := [.pointer (some ⟨g, 0, none⟩), hv]) (n := 60) Try.func16 rfl rfl (show 2 ≤ 60 by decide) ?_
  have hn := Rd.stab hn0
  have hh := Rd.stab hh0
  have hB := Blk.stab hB0
  have hH : Heap (newN w) w w [] := Heap.fresh
  refine wp_seq ?_
  refine wp_gen (fun F' => F' 0 = .pointer (some ⟨g, 0, none⟩) ∧ F' 1 = hv) ⟨rfl, rfl⟩ ?_
  rintro F ⟨e0, e1⟩
  refine wp_regionF ?_
  refine lf_val (v := .slice none 0 0) (wantAll rfl) (rv_assign rfl rfl) ?_
  refine lf_nil ?_
  refine then_n ?_
  refine wp_seq ?_
  refine wp_gen (fun F' => F' 0 = .pointer (some ⟨g, 0, none⟩) ∧ F' 1 = hv ∧ F' 4 = .slice none 0 0) ⟨e0, e1, rfl⟩ ?_
  clear e0 e1
  clear F
  rintro F ⟨e0, e1, e4⟩
  refine wp_regionF ?_
  refine lf_val (v := hv) (wantAll rfl) (rv_move rfl (fr_eval rfl e1)) ?_
  refine lf_ex (wantAll rfl) (hx_appendN hH Try.stBool (nm := (h).length) (xs' := (h).flatMap cT) rfl rfl rfl (hh.rd _ hH.chg) rfl (fr_eval rfl rfl) (by omega)) ?_
  clear hH
  rintro y1 w1 ⟨hH, hx⟩
  replace hH : Heap _ _ _ [_] := hH
  clear hx
  refine lf_val (v := y1) (wantAll rfl) (rv_assign rfl (fr_eval rfl rfl)) ?_
  refine lf_nil ?_
  refine then_n ?_
  refine wp_seq ?_
  refine wp_seq ?_
  refine wp_gen (fun F' => F' 0 = .pointer (some ⟨g, 0, none⟩) ∧ F' 1 = hv ∧ F' 4 = .slice none 0 0 ∧ F' 5 = y1) ⟨e0, e1, e4, rfl⟩ ?_
  clear e0 e1 e4
  clear F
  rintro F ⟨e0, e1, e4, e5⟩
  refine wp_regionF ?_
  refine lf_val (v := .pointer (some ⟨g, 0, none⟩)) (wantAll rfl) (rv_move rfl (fr_eval rfl e0)) ?_
  refine lf_val (v := .pointer (some ⟨g, 0, none⟩)) (wantAll rfl) (rv_nilCheck rfl (fr_eval rfl rfl)) ?_
  refine lf_val (v := .pointer (some ⟨g, 0, none⟩)) (wantAll rfl) (rv_fieldAddr (n := 1) rfl (fr_eval rfl rfl) Try.underlying33 rfl rfl (by kernel_rfl)) ?_
  refine lf_val (v := .pointer (some ⟨g, 0, none⟩)) (wantAll rfl) (rv_fieldAddr (n := 0) rfl (fr_eval rfl rfl) Try.underlying30 rfl rfl (by kernel_rfl)) ?_
  refine lf_val (v := v) (wantAll rfl) (rv_load1 rfl (hB _ hH.chg) zMi_g0 (fr_eval rfl rfl) Try.underlying23 rfl Try.sz23) ?_
  refine lf_val (v := .int .i64 ((ns.length : Nat) : Int)) (wantAll rfl) (rv_len rfl (fr_eval rfl rfl) (hn.rd _ hH.chg) Try.underlying23) ?_
  refine lf_val (v := .int .i64 0) (wantAll rfl) (rv_move rfl rfl) ?_
  refine lf_nil ?_
  refine then_n ?_
  refine wp_block ?_
  rw [show h = mkRow ns h 0 from rfl] at hH
  refine wp_gen (fun F' => F' 0 = .pointer (some ⟨g, 0, none⟩) ∧ F' 1 = hv ∧ F' 4 = .slice none 0 0 ∧ F' 5 = y1 ∧ F' 14 = v ∧ F' 15 = .int .i64 ((ns.length : Nat) : Int) ∧ F' 16 = .int .i64 0) ⟨e0, e1, e4, e5, rfl, rfl, rfl⟩ ?_
  clear e0 e1 e4 e5
  clear F
  rintro F ⟨e0, e1, e4, e5, e14, e15, e16⟩
  refine wp_loopF (fun m F wr => ∃ i : Nat, m = ns.length - i ∧ i ≤ ns.length ∧ F 0 = .pointer (some ⟨g, 0, none⟩) ∧ F 1 = hv ∧ F 4 = .slice none 0 0 ∧ F 5 = y1 ∧ F 14 = v ∧ F 15 = .int .i64 ((ns.length : Nat) : Int) ∧ F 16 = .int .i64 ((i : Nat) : Int) ∧ Heap (newN w) w wr [oRow cT 4 1 y1 (mkRow ns h i)]) ⟨0, rfl, Nat.zero_le _, e0, e1, e4, e5, e14, e15, e16, hH⟩ ?_
  clear e0 e1 e4 e5 e14 e15 e16 hH
  clear F
  rintro m F w2 ⟨i, rfl, pi0, e0, e1, e4, e5, e14, e15, e16, hH⟩
  refine wp_seq ?_
  refine wp_regionF ?_
  refine lf_val (v := .bool (decide (i < ns.length))) (wantAll rfl) (rv_lssP (p := i < ns.length) rfl (fr_eval rfl e16) (fr_eval rfl e15) (by omega)) ?_
  refine lf_nil ?_
  refine then_n ?_
  refine wp_seq ?_
  refine wp_gen (fun F' => F' 0 = .pointer (some ⟨g, 0, none⟩) ∧ F' 1 = hv ∧ F' 4 = .slice none 0 0 ∧ F' 5 = y1 ∧ F' 14 = v ∧ F' 15 = .int .i64 ((ns.length : Nat) : Int) ∧ F' 16 = .int .i64 ((i : Nat) : Int) ∧ F' 17 = .bool (decide (i < ns.length))) ⟨e0, e1, e4, e5, e14, e15, e16, rfl⟩ ?_
  clear e0 e1 e4 e5 e14 e15 e16
  clear F
  rintro F ⟨e0, e1, e4, e5, e14, e15, e16, e17⟩
  by_cases hc1 : i < ns.length
  · refine wp_cond_true (fr_eval rfl (e17.trans (congrArg Value.bool (decide_eq_true hc1)))) ?_
    refine wp_skip ?_
    refine then_n ?_
    refine wp_seq ?_
    refine wp_block ?_
    refine wp_seq ?_
    refine wp_regionF ?_
    refine lf_val (v := .int .i64 ((i : Nat) : Int)) (wantAll rfl) (rv_move rfl (fr_eval rfl e16)) ?_
    refine lf_val (v := .pointer (some (elemA v (i * 3)))) (wantAll rfl) (rv_index rfl (fr_eval rfl e14) (fr_eval rfl e16) (rdN (hn.rd _ hH.chg) rfl) (show i < ns.length from (by omega)) Try.underlying23 Try.sz40 (by decide)) ?_
    refine lf_val (wantAll rfl) (rv_loadElem rfl (fr_eval rfl rfl) (rdN (hn.rd _ hH.chg) rfl) (show i < ns.length from (by omega)) (by decide) (flat_part zN cNd_len (show i < ns.length from (by omega))) Try.underlying40 rfl Try.sz40) ?_
    refine lf_ex (wantAll rfl) (hx_alloc hH 40 (z := .agg ([.int .i64 0, .int .i64 0, .int .i64 0]).toArray) (n := 3) (cs := [.int .i64 0, .int .i64 0, .int .i64 0]) rfl (by kernel_rfl) (by rfl)) ?_
    clear hH
    rintro _ w3 ⟨g1, rfl, hH, hx⟩
    replace hH : Heap _ _ _ [_, _] := hH
    clear hx
    refine lf_val (v := .int .i64 ((i : Nat) : Int)) (wantAll rfl) (rv_assign rfl (fr_eval rfl rfl)) ?_
    refine lf_sk (wantAll rfl) (hx_storeW hH (i := 1) (cs := [.int .i64 ((List.getD ns i zN).k), .int .i64 ((List.getD ns i zN).a), .int .i64 ((List.getD ns i zN).b)]) rfl rfl rfl (fr_eval rfl rfl) (fr_eval rfl rfl) (sz_len Try.sz40 zMi_l1) ((zMi_l1).trans (zMi_l1).symm) (zMi_o2 rfl rfl rfl)) ?_
    clear hH
    rintro w4 ⟨hH, hx⟩
    replace hH : Heap _ _ _ [_, _] := hH
    clear hx
    refine lf_nil ?_
    refine then_n ?_
    refine wp_block ?_
    refine wp_seq ?_
    refine wp_gen (fun F' => F' 0 = .pointer (some ⟨g, 0, none⟩) ∧ F' 1 = hv ∧ F' 4 = .slice none 0 0 ∧ F' 5 = y1 ∧ F' 6 = .int .i64 ((i : Nat) : Int) ∧ F' 7 = .pointer (some ⟨g1, 0, none⟩) ∧ F' 14 = v ∧ F' 15 = .int .i64 ((ns.length : Nat) : Int) ∧ F' 16 = .int .i64 ((i : Nat) : Int) ∧ F' 17 = .bool true) ⟨e0, e1, e4, e5, rfl, rfl, e14, e15, e16, (e17.trans (congrArg Value.bool (decide_eq_true hc1)))⟩ ?_
    clear e0 e1 e4 e5 e14 e15 e16 e17
    clear F
    rintro F ⟨e0, e1, e4, e5, e6, e7, e14, e15, e16, e17⟩
    refine wp_regionF ?_
    refine lf_val (v := y1) (wantAll rfl) (rv_move rfl (fr_eval rfl e5)) ?_
    refine lf_val (v := .int .i64 ((i : Nat) : Int)) (wantAll rfl) (rv_move rfl (fr_eval rfl e6)) ?_
    refine lf_val (v := .pointer (some (elemA y1 (i * 1)))) (wantAll rfl) (rv_index rfl (fr_eval rfl rfl) (fr_eval rfl rfl) (rdN (Own.rd (hH.own (i := 0) rfl) (row_one cT_one)) ((mkRow_len ns h i).trans hl)) (show i < ns.length from (by omega)) Try.underlying48 Try.sz4 (by decide)) ?_
    refine lf_val (wantAll rfl) (rv_loadCell rfl (fr_eval rfl rfl) (Nat.mul_one _) (Own.rd (hH.own (i := 0) rfl) (row_one cT_one)) (flat_get1 false cT_len (Nat.lt_of_lt_of_eq (show i < ns.length from (by omega)) (((mkRow_len ns h i).trans hl)).symm) (cT_dec _)) Try.underlying4 rfl Try.sz4) ?_
    refine lf_val (v := .bool (decide ((List.getD (mkRow ns h i) i false) = true))) (wantAll rfl) (rv_move rfl (fr_eval rfl rfl)) ?_
    refine lf_joinP (fun F' => F' 0 = .pointer (some ⟨g, 0, none⟩) ∧ F' 1 = hv ∧ F' 4 = .slice none 0 0 ∧ F' 5 = y1 ∧ F' 6 = .int .i64 ((i : Nat) : Int) ∧ F' 7 = .pointer (some ⟨g1, 0, none⟩) ∧ F' 14 = v ∧ F' 15 = .int .i64 ((ns.length : Nat) : Int) ∧ F' 16 = .int .i64 ((i : Nat) : Int) ∧ F' 17 = .bool true ∧ F' 45 = .bool (decide (((List.getD (mkRow ns h i) i false) = true) ∨ ((List.getD ns i zN).k = 1)))) 4 (fun hk => ?_) ?_
    · by_cases hc2 : (List.getD (mkRow ns h i) i false) = true
      · refine lf_not (wantNot (d := 41) rfl (by kernel_rfl) rfl (congrArg Value.bool (decide_eq_true hc2))) ?_
        refine lf_not (wantNot (d := 41) rfl (by kernel_rfl) rfl (congrArg Value.bool (decide_eq_true hc2))) ?_
        refine lf_not (wantNot (d := 41) rfl (by kernel_rfl) rfl (congrArg Value.bool (decide_eq_true hc2))) ?_
        refine lf_val (v := .bool true) (wantAll rfl) (rv_pickT rfl (fr_eval rfl (congrArg Value.bool (decide_eq_true hc2))) rfl) ?_
        exact hk _ ⟨e0, e1, e4, e5, e6, e7, e14, e15, e16, e17, (congrArg Value.bool (dec_orT hc2))⟩
      · refine lf_val (v := .pointer (some ⟨g1, 0, none⟩)) (wantF (d := 41) rfl (by kernel_rfl) rfl (congrArg Value.bool (decide_eq_false hc2))) (rv_fieldAddr (n := 0) rfl (fr_eval rfl e7) Try.underlying40 rfl rfl (by kernel_rfl)) ?_
        refine lf_val (v := .int .i64 ((List.getD ns i zN).k)) (wantF (d := 41) rfl (by kernel_rfl) rfl (congrArg Value.bool (decide_eq_false hc2))) (rv_load1 rfl (hH.blk (i := 1) rfl) zMi_g0 (fr_eval rfl rfl) Try.underlying3 rfl Try.sz3) ?_
        refine lf_val (v := .bool (decide ((List.getD ns i zN).k = 1))) (wantF (d := 41) rfl (by kernel_rfl) rfl (congrArg Value.bool (decide_eq_false hc2))) (rv_eqlP (p := (List.getD ns i zN).k = 1) rfl (fr_eval rfl rfl) rfl Iff.rfl) ?_
        refine lf_val (v := .bool (decide ((List.getD ns i zN).k = 1))) (wantAll rfl) (rv_pickF rfl (fr_eval rfl (congrArg Value.bool (decide_eq_false hc2))) (fr_eval rfl rfl)) ?_
        exact hk _ ⟨e0, e1, e4, e5, e6, e7, e14, e15, e16, e17, (congrArg Value.bool (dec_or hc2))⟩
    · clear e0 e1 e4 e5 e6 e7 e14 e15 e16 e17
      clear F
      rintro F ⟨e0, e1, e4, e5, e6, e7, e14, e15, e16, e17, e45⟩
      refine lf_val (wantAll rfl) (rv_assign rfl (fr_eval rfl e45)) ?_
      refine lf_nil ?_
      refine then_n ?_
      refine wp_gen (fun F' => F' 0 = .pointer (some ⟨g, 0, none⟩) ∧ F' 1 = hv ∧ F' 4 = .slice none 0 0 ∧ F' 5 = y1 ∧ F' 6 = .int .i64 ((i : Nat) : Int) ∧ F' 7 = .pointer (some ⟨g1, 0, none⟩) ∧ F' 14 = v ∧ F' 15 = .int .i64 ((ns.length : Nat) : Int) ∧ F' 16 = .int .i64 ((i : Nat) : Int) ∧ F' 17 = .bool true ∧ F' 36 = .bool (decide (((List.getD (mkRow ns h i) i false) = true) ∨ ((List.getD ns i zN).k = 1)))) ⟨e0, e1, e4, e5, e6, e7, e14, e15, e16, e17, rfl⟩ ?_
      clear e0 e1 e4 e5 e6 e7 e14 e15 e16 e17 e45
      clear F
      rintro F ⟨e0, e1, e4, e5, e6, e7, e14, e15, e16, e17, e36⟩
      by_cases hc3 : ((List.getD (mkRow ns h i) i false) = true) ∨ ((List.getD ns i zN).k = 1)
      · refine wp_cond_true (fr_eval rfl (e36.trans (congrArg Value.bool (decide_eq_true hc3)))) ?_
        refine wp_skip ?_
        refine blk_n ?_
        refine blk_n ?_
        refine then_n ?_
        refine wp_regionF ?_
        refine lf_val (v := .int .i64 ((i + 1 : Nat) : Int)) (wantAll rfl) (rv_add rfl (fr_eval rfl e16) rfl (wrap_i64 (by omega) (by omega) (by omega))) ?_
        refine lf_val (v := .int .i64 ((i + 1 : Nat) : Int)) (wantAll rfl) (rv_move rfl (fr_eval rfl rfl)) ?_
        refine lf_nil ?_
        refine then_n ?_
        rw [show mkRow ns h i = mkRow ns h (i + 1) from (mk_none (by omega) (by unfold gb; exact hc3)).symm] at hH
        replace hH : Heap _ _ _ [_] := hH.drop (.cons_cons _ (.cons _ .slnil))
        exact ⟨_, _, (by omega), rfl, i + 1, rfl, (by omega), e0, e1, e4, e5, e14, e15, rfl, hH⟩
      · refine wp_cond_false (fr_eval rfl (e36.trans (congrArg Value.bool (decide_eq_false hc3)))) ?_
        refine wp_seq ?_
        have hat := okB_at hb (by omega : i < ns.length) (fun q => hc3 (Or.inr q))
        refine wp_regionF ?_
        refine lf_val (v := .pointer (some ⟨g1, 0, none⟩)) (wantAll rfl) (rv_fieldAddr (n := 0) rfl (fr_eval rfl e7) Try.underlying40 rfl rfl (by kernel_rfl)) ?_
        refine lf_val (v := .int .i64 ((List.getD ns i zN).k)) (wantAll rfl) (rv_load1 rfl (hH.blk (i := 1) rfl) zMi_g0 (fr_eval rfl rfl) Try.underlying3 rfl Try.sz3) ?_
        refine lf_val (v := .bool (decide ((List.getD ns i zN).k = 3))) (wantAll rfl) (rv_eqlP (p := (List.getD ns i zN).k = 3) rfl (fr_eval rfl rfl) rfl Iff.rfl) ?_
        refine lf_val (v := .bool (decide ((List.getD ns i zN).k = 3))) (wantAll rfl) (rv_assign rfl (fr_eval rfl rfl)) ?_
        refine lf_nil ?_
        refine then_n ?_
        refine wp_gen (fun F' => F' 0 = .pointer (some ⟨g, 0, none⟩) ∧ F' 1 = hv ∧ F' 4 = .slice none 0 0 ∧ F' 5 = y1 ∧ F' 6 = .int .i64 ((i : Nat) : Int) ∧ F' 7 = .pointer (some ⟨g1, 0, none⟩) ∧ F' 14 = v ∧ F' 15 = .int .i64 ((ns.length : Nat) : Int) ∧ F' 16 = .int .i64 ((i : Nat) : Int) ∧ F' 17 = .bool true ∧ F' 36 = .bool false ∧ F' 46 = .bool (decide ((List.getD ns i zN).k = 3))) ⟨e0, e1, e4, e5, e6, e7, e14, e15, e16, e17, (e36.trans (congrArg Value.bool (decide_eq_false hc3))), rfl⟩ ?_
        clear e0 e1 e4 e5 e6 e7 e14 e15 e16 e17 e36
        clear F
        rintro F ⟨e0, e1, e4, e5, e6, e7, e14, e15, e16, e17, e36, e46⟩
        by_cases hc4 : (List.getD ns i zN).k = 3
        · refine wp_cond_true (fr_eval rfl (e46.trans (congrArg Value.bool (decide_eq_true hc4)))) ?_
          refine wp_regionF ?_
          refine lf_val (v := y1) (wantAll rfl) (rv_move rfl (fr_eval rfl e5)) ?_
          refine lf_val (v := .int .i64 ((i : Nat) : Int)) (wantAll rfl) (rv_move rfl (fr_eval rfl e6)) ?_
          refine lf_val (v := y1) (wantAll rfl) (rv_move rfl (fr_eval rfl e5)) ?_
          refine lf_val (v := .pointer (some ⟨g1, 1, none⟩)) (wantAll rfl) (rv_fieldAddr (n := 0) rfl (fr_eval rfl e7) Try.underlying40 rfl rfl (by kernel_rfl)) ?_
          refine lf_val (v := .int .i64 ((List.getD ns i zN).a)) (wantAll rfl) (rv_load1 rfl (hH.blk (i := 1) rfl) zMi_g3 (fr_eval rfl rfl) Try.underlying3 rfl Try.sz3) ?_
          refine lf_val (v := .pointer (some (elemA y1 ((((List.getD ns i zN).a).toNat) * 1)))) (wantAll rfl) (rv_index rfl (fr_eval rfl rfl) (((fr_eval rfl rfl)).trans (congrArg (Value.int .i64) (Int.toNat_of_nonneg (by omega)).symm)) (rdN (Own.rd (hH.own (i := 0) rfl) (row_one cT_one)) ((mkRow_len ns h i).trans hl)) (show ((List.getD ns i zN).a).toNat < ns.length from (by omega)) Try.underlying48 Try.sz4 (by decide)) ?_
          refine lf_val (wantAll rfl) (rv_loadCell rfl (fr_eval rfl rfl) (Nat.mul_one _) (Own.rd (hH.own (i := 0) rfl) (row_one cT_one)) (flat_get1 false cT_len (Nat.lt_of_lt_of_eq (show ((List.getD ns i zN).a).toNat < ns.length from (by omega)) (((mkRow_len ns h i).trans hl)).symm) (cT_dec _)) Try.underlying4 rfl Try.sz4) ?_
          refine lf_val (v := .pointer (some (elemA y1 (i * 1)))) (wantAll rfl) (rv_index rfl (fr_eval rfl rfl) (fr_eval rfl rfl) (rdN (Own.rd (hH.own (i := 0) rfl) (row_one cT_one)) ((mkRow_len ns h i).trans hl)) (show i < ns.length from (by omega)) Try.underlying48 Try.sz4 (by decide)) ?_
          refine lf_sk (wantAll rfl) (hx_setC hH (i := 0) (nm := List.length (List.set (mkRow ns h i) i (decide ((List.getD (mkRow ns h i) (((List.getD ns i zN).a).toNat) false) = true)))) (j := i) (xs' := (List.set (mkRow ns h i) i (decide ((List.getD (mkRow ns h i) (((List.getD ns i zN).a).toNat) false) = true))).flatMap cT) rfl rfl rfl (List.length_set ..).symm (Nat.lt_of_lt_of_eq (by omega) (((mkRow_len ns h i).trans hl)).symm) (flat_set1 cT_len rfl (Nat.lt_of_lt_of_eq (by omega) (((mkRow_len ns h i).trans hl)).symm)) (fr_eval rfl rfl) (fr_eval rfl rfl) Try.sz4 rfl) ?_
          clear hH
          rintro w6 ⟨hH, hx⟩
          replace hH : Heap _ _ _ [_, _] := hH
          clear hx
          refine lf_nil ?_
          refine blk_n ?_
          refine blk_n ?_
          refine then_n ?_
          refine wp_gen (fun F' => F' 0 = .pointer (some ⟨g, 0, none⟩) ∧ F' 1 = hv ∧ F' 4 = .slice none 0 0 ∧ F' 5 = y1 ∧ F' 6 = .int .i64 ((i : Nat) : Int) ∧ F' 7 = .pointer (some ⟨g1, 0, none⟩) ∧ F' 14 = v ∧ F' 15 = .int .i64 ((ns.length : Nat) : Int) ∧ F' 16 = .int .i64 ((i : Nat) : Int) ∧ F' 17 = .bool true ∧ F' 36 = .bool false ∧ F' 46 = .bool true) ⟨e0, e1, e4, e5, e6, e7, e14, e15, e16, e17, e36, (e46.trans (congrArg Value.bool (decide_eq_true hc4)))⟩ ?_
          clear e0 e1 e4 e5 e6 e7 e14 e15 e16 e17 e36 e46
          clear F
          rintro F ⟨e0, e1, e4, e5, e6, e7, e14, e15, e16, e17, e36, e46⟩
          refine wp_regionF ?_
          refine lf_val (v := .int .i64 ((i + 1 : Nat) : Int)) (wantAll rfl) (rv_add rfl (fr_eval rfl e16) rfl (wrap_i64 (by omega) (by omega) (by omega))) ?_
          refine lf_val (v := .int .i64 ((i + 1 : Nat) : Int)) (wantAll rfl) (rv_move rfl (fr_eval rfl rfl)) ?_
          refine lf_nil ?_
          refine then_n ?_
          rw [show List.set (mkRow ns h i) i (decide ((List.getD (mkRow ns h i) (((List.getD ns i zN).a).toNat) false) = true)) = mkRow ns h (i + 1) from (by rw [mk_sum (fun q => hc3 (Or.inl q)) hc4]; unfold gb; congr 1; simp)] at hH
          replace hH : Heap _ _ _ [_] := hH.drop (.cons_cons _ (.cons _ .slnil))
          exact ⟨_, _, (by omega), rfl, i + 1, rfl, (by omega), e0, e1, e4, e5, e14, e15, rfl, hH⟩
        · refine wp_cond_false (fr_eval rfl (e46.trans (congrArg Value.bool (decide_eq_false hc4)))) ?_
          refine wp_regionF ?_
          refine lf_val (v := y1) (wantAll rfl) (rv_move rfl (fr_eval rfl e5)) ?_
          refine lf_val (v := .int .i64 ((i : Nat) : Int)) (wantAll rfl) (rv_move rfl (fr_eval rfl e6)) ?_
          refine lf_val (v := y1) (wantAll rfl) (rv_move rfl (fr_eval rfl e5)) ?_
          refine lf_val (v := .pointer (some ⟨g1, 1, none⟩)) (wantAll rfl) (rv_fieldAddr (n := 0) rfl (fr_eval rfl e7) Try.underlying40 rfl rfl (by kernel_rfl)) ?_
          refine lf_val (v := .int .i64 ((List.getD ns i zN).a)) (wantAll rfl) (rv_load1 rfl (hH.blk (i := 1) rfl) zMi_g3 (fr_eval rfl rfl) Try.underlying3 rfl Try.sz3) ?_
          refine lf_val (v := .pointer (some (elemA y1 ((((List.getD ns i zN).a).toNat) * 1)))) (wantAll rfl) (rv_index rfl (fr_eval rfl rfl) (((fr_eval rfl rfl)).trans (congrArg (Value.int .i64) (Int.toNat_of_nonneg (by omega)).symm)) (rdN (Own.rd (hH.own (i := 0) rfl) (row_one cT_one)) ((mkRow_len ns h i).trans hl)) (show ((List.getD ns i zN).a).toNat < ns.length from (by omega)) Try.underlying48 Try.sz4 (by decide)) ?_
          refine lf_val (wantAll rfl) (rv_loadCell rfl (fr_eval rfl rfl) (Nat.mul_one _) (Own.rd (hH.own (i := 0) rfl) (row_one cT_one)) (flat_get1 false cT_len (Nat.lt_of_lt_of_eq (show ((List.getD ns i zN).a).toNat < ns.length from (by omega)) (((mkRow_len ns h i).trans hl)).symm) (cT_dec _)) Try.underlying4 rfl Try.sz4) ?_
          refine lf_val (v := .bool (decide ((List.getD (mkRow ns h i) (((List.getD ns i zN).a).toNat) false) = true))) (wantAll rfl) (rv_move rfl (fr_eval rfl rfl)) ?_
          refine lf_joinP (fun F' => F' 0 = .pointer (some ⟨g, 0, none⟩) ∧ F' 1 = hv ∧ F' 4 = .slice none 0 0 ∧ F' 5 = y1 ∧ F' 6 = .int .i64 ((i : Nat) : Int) ∧ F' 7 = .pointer (some ⟨g1, 0, none⟩) ∧ F' 14 = v ∧ F' 15 = .int .i64 ((ns.length : Nat) : Int) ∧ F' 16 = .int .i64 ((i : Nat) : Int) ∧ F' 17 = .bool true ∧ F' 21 = y1 ∧ F' 22 = .int .i64 ((i : Nat) : Int) ∧ F' 36 = .bool false ∧ F' 46 = .bool false ∧ F' 34 = .bool (decide (((List.getD (mkRow ns h i) (((List.getD ns i zN).a).toNat) false) = true) ∧ ((List.getD (mkRow ns h i) (((List.getD ns i zN).b).toNat) false) = true)))) 6 (fun hk => ?_) ?_
          · by_cases hc5 : (List.getD (mkRow ns h i) (((List.getD ns i zN).a).toNat) false) = true
            · refine lf_val (v := y1) (wantF (d := 28) rfl (by kernel_rfl) rfl (congrArg Value.bool (decide_eq_true hc5))) (rv_move rfl (fr_eval rfl e5)) ?_
              refine lf_val (v := .pointer (some ⟨g1, 2, none⟩)) (wantF (d := 28) rfl (by kernel_rfl) rfl (congrArg Value.bool (decide_eq_true hc5))) (rv_fieldAddr (n := 0) rfl (fr_eval rfl e7) Try.underlying40 rfl rfl (by kernel_rfl)) ?_
              refine lf_val (v := .int .i64 ((List.getD ns i zN).b)) (wantF (d := 28) rfl (by kernel_rfl) rfl (congrArg Value.bool (decide_eq_true hc5))) (rv_load1 rfl (hH.blk (i := 1) rfl) zMi_g4 (fr_eval rfl rfl) Try.underlying3 rfl Try.sz3) ?_
              refine lf_val (v := .pointer (some (elemA y1 ((((List.getD ns i zN).b).toNat) * 1)))) (wantF (d := 28) rfl (by kernel_rfl) rfl (congrArg Value.bool (decide_eq_true hc5))) (rv_index rfl (fr_eval rfl rfl) (((fr_eval rfl rfl)).trans (congrArg (Value.int .i64) (Int.toNat_of_nonneg (by omega)).symm)) (rdN (Own.rd (hH.own (i := 0) rfl) (row_one cT_one)) ((mkRow_len ns h i).trans hl)) (show ((List.getD ns i zN).b).toNat < ns.length from (by omega)) Try.underlying48 Try.sz4 (by decide)) ?_
              refine lf_val (wantF (d := 28) rfl (by kernel_rfl) rfl (congrArg Value.bool (decide_eq_true hc5))) (rv_loadCell rfl (fr_eval rfl rfl) (Nat.mul_one _) (Own.rd (hH.own (i := 0) rfl) (row_one cT_one)) (flat_get1 false cT_len (Nat.lt_of_lt_of_eq (show ((List.getD ns i zN).b).toNat < ns.length from (by omega)) (((mkRow_len ns h i).trans hl)).symm) (cT_dec _)) Try.underlying4 rfl Try.sz4) ?_
              refine lf_val (v := .bool (decide ((List.getD (mkRow ns h i) (((List.getD ns i zN).b).toNat) false) = true))) (wantAll rfl) (rv_pickT rfl (fr_eval rfl (congrArg Value.bool (decide_eq_true hc5))) (fr_eval rfl rfl)) ?_
              exact hk _ ⟨e0, e1, e4, e5, e6, e7, e14, e15, e16, e17, rfl, rfl, e36, (e46.trans (congrArg Value.bool (decide_eq_false hc4))), (congrArg Value.bool (dec_and hc5))⟩
            · refine lf_not (wantNot (d := 28) rfl (by kernel_rfl) rfl (congrArg Value.bool (decide_eq_false hc5))) ?_
              refine lf_not (wantNot (d := 28) rfl (by kernel_rfl) rfl (congrArg Value.bool (decide_eq_false hc5))) ?_
              refine lf_not (wantNot (d := 28) rfl (by kernel_rfl) rfl (congrArg Value.bool (decide_eq_false hc5))) ?_
              refine lf_not (wantNot (d := 28) rfl (by kernel_rfl) rfl (congrArg Value.bool (decide_eq_false hc5))) ?_
              refine lf_not (wantNot (d := 28) rfl (by kernel_rfl) rfl (congrArg Value.bool (decide_eq_false hc5))) ?_
              refine lf_val (v := .bool false) (wantAll rfl) (rv_pickF rfl (fr_eval rfl (congrArg Value.bool (decide_eq_false hc5))) rfl) ?_
              exact hk _ ⟨e0, e1, e4, e5, e6, e7, e14, e15, e16, e17, rfl, rfl, e36, (e46.trans (congrArg Value.bool (decide_eq_false hc4))), (congrArg Value.bool (dec_andF hc5))⟩
          · clear e0 e1 e4 e5 e6 e7 e14 e15 e16 e17 e36 e46
            clear F
            rintro F ⟨e0, e1, e4, e5, e6, e7, e14, e15, e16, e17, e21, e22, e36, e46, e34⟩
            refine lf_val (v := .pointer (some (elemA y1 (i * 1)))) (wantAll rfl) (rv_index rfl (fr_eval rfl e21) (fr_eval rfl e22) (rdN (Own.rd (hH.own (i := 0) rfl) (row_one cT_one)) ((mkRow_len ns h i).trans hl)) (show i < ns.length from (by omega)) Try.underlying48 Try.sz4 (by decide)) ?_
            refine lf_sk (wantAll rfl) (hx_setC hH (i := 0) (nm := List.length (List.set (mkRow ns h i) i (decide (((List.getD (mkRow ns h i) (((List.getD ns i zN).a).toNat) false) = true) ∧ ((List.getD (mkRow ns h i) (((List.getD ns i zN).b).toNat) false) = true))))) (j := i) (xs' := (List.set (mkRow ns h i) i (decide (((List.getD (mkRow ns h i) (((List.getD ns i zN).a).toNat) false) = true) ∧ ((List.getD (mkRow ns h i) (((List.getD ns i zN).b).toNat) false) = true)))).flatMap cT) rfl rfl rfl (List.length_set ..).symm (Nat.lt_of_lt_of_eq (by omega) (((mkRow_len ns h i).trans hl)).symm) (flat_set1 cT_len rfl (Nat.lt_of_lt_of_eq (by omega) (((mkRow_len ns h i).trans hl)).symm)) (fr_eval rfl rfl) (fr_eval rfl e34) Try.sz4 rfl) ?_
            clear hH
            rintro w8 ⟨hH, hx⟩
            replace hH : Heap _ _ _ [_, _] := hH
            clear hx
            refine lf_nil ?_
            refine blk_n ?_
            refine blk_n ?_
            refine then_n ?_
            refine wp_gen (fun F' => F' 0 = .pointer (some ⟨g, 0, none⟩) ∧ F' 1 = hv ∧ F' 4 = .slice none 0 0 ∧ F' 5 = y1 ∧ F' 6 = .int .i64 ((i : Nat) : Int) ∧ F' 7 = .pointer (some ⟨g1, 0, none⟩) ∧ F' 14 = v ∧ F' 15 = .int .i64 ((ns.length : Nat) : Int) ∧ F' 16 = .int .i64 ((i : Nat) : Int) ∧ F' 17 = .bool true ∧ F' 36 = .bool false ∧ F' 46 = .bool false) ⟨e0, e1, e4, e5, e6, e7, e14, e15, e16, e17, e36, e46⟩ ?_
            clear e0 e1 e4 e5 e6 e7 e14 e15 e16 e17 e21 e22 e36 e46 e34
            clear F
            rintro F ⟨e0, e1, e4, e5, e6, e7, e14, e15, e16, e17, e36, e46⟩
            refine wp_regionF ?_
            refine lf_val (v := .int .i64 ((i + 1 : Nat) : Int)) (wantAll rfl) (rv_add rfl (fr_eval rfl e16) rfl (wrap_i64 (by omega) (by omega) (by omega))) ?_
            refine lf_val (v := .int .i64 ((i + 1 : Nat) : Int)) (wantAll rfl) (rv_move rfl (fr_eval rfl rfl)) ?_
            refine lf_nil ?_
            refine then_n ?_
            rw [show List.set (mkRow ns h i) i (decide (((List.getD (mkRow ns h i) (((List.getD ns i zN).a).toNat) false) = true) ∧ ((List.getD (mkRow ns h i) (((List.getD ns i zN).b).toNat) false) = true))) = mkRow ns h (i + 1) from (by rw [mk_two (fun q => hc3 (Or.inl q)) (fun q => hc3 (Or.inr q)) hc4]; unfold gb; congr 1; simp)] at hH
            replace hH : Heap _ _ _ [_] := hH.drop (.cons_cons _ (.cons _ .slnil))
            exact ⟨_, _, (by omega), rfl, i + 1, rfl, (by omega), e0, e1, e4, e5, e14, e15, rfl, hH⟩
  · refine wp_cond_false (fr_eval rfl (e17.trans (congrArg Value.bool (decide_eq_false hc1)))) ?_
    refine wp_exit ?_
    refine then_exit ?_
    refine then_exit ?_
    refine blk_exit ?_
    refine then_n ?_
    refine wp_seq ?_
    obtain rfl : i = ns.length := by omega
    refine wp_regionF ?_
    refine lf_val (v := y1) (wantAll rfl) (rv_move rfl (fr_eval rfl e5)) ?_
    refine lf_val (v := y1) (wantAll rfl) (rv_assign rfl (fr_eval rfl rfl)) ?_
    refine lf_nil ?_
    refine then_n ?_
    refine wp_gen (fun F' => F' 0 = .pointer (some ⟨g, 0, none⟩) ∧ F' 1 = hv ∧ F' 4 = y1 ∧ F' 5 = y1 ∧ F' 14 = v ∧ F' 15 = .int .i64 ((ns.length : Nat) : Int) ∧ F' 16 = .int .i64 ((ns.length : Nat) : Int) ∧ F' 17 = .bool false) ⟨e0, e1, rfl, e5, e14, e15, e16, (e17.trans (congrArg Value.bool (decide_eq_false hc1)))⟩ ?_
    clear e0 e1 e4 e5 e14 e15 e16 e17
    clear F
    rintro F ⟨e0, e1, e4, e5, e14, e15, e16, e17⟩
    refine wp_ret ?_
    exact bodyPost_ret (v := y1) (res1 rfl (ro_tmp rfl e4)) rfl (⟨⟨_, rfl, hH.own (i := 0) rfl, hH.ge (i := 0) rfl⟩, hH.done⟩)

theorem on_rep (n j : Nat) : ¬ On (List.replicate n false) j := by
  intro h
  have hj := gb_out h
  unfold On gb at h
  simp at hj
  simp [List.getD_eq_getElem?_getD, hj] at h
theorem getD_memN {l : List Nat} {i : Nat} (h : i < l.length) : l.getD i 0 ∈ l := by
  rw [List.getD_eq_getElem?_getD, List.getElem?_eq_getElem h]; exact List.getElem_mem _
theorem on_next {h : List Bool} {kn : List Nat} {i : Nat} (hk : ∀ j, j < i → On h (kn.getD j 0)) (hl : kn.getD i 0 < h.length) : ∀ j, j < i + 1 → On (h.set (kn.getD i 0) true) (kn.getD j 0) := fun j hj => by
  by_cases e : j = i
  · subst e; unfold On; rw [gb_set hl, if_pos rfl]
  · exact (Le.set _ _).le _ (hk j (by omega))
theorem opStep_off {ns : List Nd} {h : List Bool} {i : Nat} (h0 : ¬ gb h i = true) : opStep ns h i = h := by unfold opStep; rw [if_neg h0]
theorem opStep_2 {ns : List Nd} {h : List Bool} {i : Nat} (h0 : gb h i = true) (hk : (ns.getD i zN).k = 2) : opStep ns h i = (h.set (ns.getD i zN).a.toNat true).set (ns.getD i zN).b.toNat true := by unfold opStep; rw [if_pos h0, if_pos hk]
theorem opStep_4 {ns : List Nd} {h : List Bool} {i : Nat} (h0 : gb h i = true) (hk : (ns.getD i zN).k = 4) : opStep ns h i = h.set (ns.getD i zN).b.toNat true := by unfold opStep; rw [if_pos h0, if_neg (by omega), if_pos hk]
theorem opStep_5 {ns : List Nd} {h : List Bool} {i : Nat} (h0 : gb h i = true) (hk : (ns.getD i zN).k = 5) (hm : gb (mkL ns h) (ns.getD i zN).a.toNat = true) : opStep ns h i = h.set (ns.getD i zN).b.toNat true := by unfold opStep; rw [if_pos h0, if_neg (by omega), if_neg (by omega), if_pos hk, if_pos hm]
theorem opStep_5n {ns : List Nd} {h : List Bool} {i : Nat} (h0 : gb h i = true) (hk : (ns.getD i zN).k = 5) (hm : ¬ gb (mkL ns h) (ns.getD i zN).a.toNat = true) : opStep ns h i = h := by unfold opStep; rw [if_pos h0, if_neg (by omega), if_neg (by omega), if_pos hk, if_neg hm]
theorem opStep_no {ns : List Nd} {h : List Bool} {i : Nat} (h0 : gb h i = true) (h2 : ¬ (ns.getD i zN).k = 2) (h4 : ¬ (ns.getD i zN).k = 4) (h5 : ¬ (ns.getD i zN).k = 5) : opStep ns h i = h := by unfold opStep; rw [if_pos h0, if_neg h2, if_neg h4, if_neg h5]
theorem more1 {ns : List Nd} {h : List Bool} {i a : Nat} (ha : a < h.length) (e : opStep ns (opTo ns h i) i = (opTo ns h i).set a true) : ((¬ gb (opTo ns h i) a = true) ∨ ¬ opTo ns h i = h) ↔ ¬ opTo ns h (i + 1) = h := by
  rw [opTo, e]; exact (more_set (opTo_le ns h 0 i (Nat.zero_le _)) (by rw [opTo_len]; exact ha)).symm
theorem more2 {ns : List Nd} {h : List Bool} {i a b : Nat} (ha : a < h.length) (hb : b < h.length) (e : opStep ns (opTo ns h i) i = ((opTo ns h i).set a true).set b true) : ((¬ gb ((opTo ns h i).set a true) b = true) ∨ ((¬ gb (opTo ns h i) a = true) ∨ ¬ opTo ns h i = h)) ↔ ¬ opTo ns h (i + 1) = h := by
  have hle : Le h (opTo ns h i) := opTo_le ns h 0 i (Nat.zero_le _)
  rw [opTo, e, ← more_set hle (by rw [opTo_len]; exact ha)]
  exact (more_set (hle.trans (Le.set _ _)) (by rw [List.length_set, opTo_len]; exact hb)).symm
theorem more0 {ns : List Nd} {h : List Bool} {i : Nat} (e : opStep ns (opTo ns h i) i = opTo ns h i) : (¬ opTo ns h i = h) ↔ ¬ opTo ns h (i + 1) = h := by rw [opTo, e]
theorem meas_lt {ns : List Nd} {h : List Bool} {n : Nat} : offs (opTo ns h n) + (decide (¬ opTo ns h n = h)).toNat < offs h + (true).toNat := by
  by_cases e : opTo ns h n = h
  · rw [e]; simp
  · have := offs_lt (opTo_le ns h 0 n (Nat.zero_le _)) e
    have e2 : (opTo ns h 0) = h := rfl
    rw [e2] at this
    simp [e]; omega
theorem done_step {ns : List Nd} {h : List Bool} (e : decide (¬ opTo ns h ns.length = h) = false) : opTo ns (opTo ns h ns.length) ns.length = opTo ns h ns.length := by
  have e : opTo ns h ns.length = h := by simpa using e
  rw [e]; exact e

set_option maxRecDepth 100000 in
set_option maxHeartbeats 4000000 in
theorem open_calls {g : Nat} {v kv : Value} {mo : Option Nat} (ns : List Nd) (hnl : ns.length ≤ 1000000) (kn : List Nat) (hkl : kn.length ≤ 1000000) (hok : Ok ns kn) (w : World) (hB0 : Blk w g [v, .map mo, kv] 33) (hn0 : Rd w 3 v ns.length (ns.flatMap cNd)) (hk0 : Rd w 1 kv kn.length (kn.flatMap cNu)) :
    Calls Try.prog 17 #[.pointer (some ⟨g, 0, none⟩)] w fun e'' w' => (∃ v', e'' = .returned v' ∧ Own w' 4 1 v' (opL ns kn).length ((opL ns kn).flatMap cT) ∧ ∀ k, v'.ownBlock = some k → w.heap.size ≤ k) ∧ Ext w w' := by
  refine calls_fr (args := [.pointer (some ⟨g, 0, none⟩)]) (n := 91) Try.func17 rfl rfl (show 1 ≤ 91 by decide) ?_
  have hb := hok.bank
  have hn := Rd.stab hn0
  have hk := Rd.stab hk0
  have hB := Blk.stab hB0
  have hH : Heap (newN w) w w [] := Heap.fresh
  refine wp_seq ?_
  refine wp_gen (fun F' => F' 0 = .pointer (some ⟨g, 0, none⟩)) rfl ?_
  rintro F e0
  refine wp_regionF ?_
  refine lf_val (v := .slice none 0 0) (wantAll rfl) (rv_assign rfl rfl) ?_
  refine lf_nil ?_
  refine then_n ?_
  refine wp_seq ?_
  refine wp_gen (fun F' => F' 0 = .pointer (some ⟨g, 0, none⟩) ∧ F' 2 = .slice none 0 0) ⟨e0, rfl⟩ ?_
  clear e0
  clear F
  rintro F ⟨e0, e2⟩
  refine wp_regionF ?_
  refine lf_val (v := .pointer (some ⟨g, 0, none⟩)) (wantAll rfl) (rv_move rfl (fr_eval rfl e0)) ?_
  refine lf_val (v := .pointer (some ⟨g, 0, none⟩)) (wantAll rfl) (rv_nilCheck rfl (fr_eval rfl rfl)) ?_
  refine lf_val (v := .pointer (some ⟨g, 0, none⟩)) (wantAll rfl) (rv_fieldAddr (n := 1) rfl (fr_eval rfl rfl) Try.underlying33 rfl rfl (by kernel_rfl)) ?_
  refine lf_val (v := .pointer (some ⟨g, 0, none⟩)) (wantAll rfl) (rv_fieldAddr (n := 0) rfl (fr_eval rfl rfl) Try.underlying30 rfl rfl (by kernel_rfl)) ?_
  refine lf_val (v := v) (wantAll rfl) (rv_load1 rfl (hB _ hH.chg) zMi_g0 (fr_eval rfl rfl) Try.underlying23 rfl Try.sz23) ?_
  refine lf_val (v := .int .i64 ((ns.length : Nat) : Int)) (wantAll rfl) (rv_len rfl (fr_eval rfl rfl) (hn.rd _ hH.chg) Try.underlying23) ?_
  refine lf_ex (wantAll rfl) (hx_make hH Try.stBool (n := ns.length) (nm := List.length (List.replicate ns.length false)) (z1 := .bool false) (xs := (List.replicate ns.length false).flatMap cT) rfl (fr_eval rfl rfl) (fr_eval rfl rfl) (by omega) rfl (zeros_f (f := cT) (d := false) (sz := 1) rfl _) (List.length_replicate ..).symm) ?_
  clear hH
  rintro y1 w1 ⟨hH, hx⟩
  replace hH : Heap _ _ _ [_] := hH
  clear hx
  refine lf_val (v := y1) (wantAll rfl) (rv_assign rfl (fr_eval rfl rfl)) ?_
  refine lf_nil ?_
  refine then_n ?_
  refine wp_seq ?_
  refine wp_seq ?_
  refine wp_gen (fun F' => F' 0 = .pointer (some ⟨g, 0, none⟩) ∧ F' 2 = .slice none 0 0 ∧ F' 3 = y1) ⟨e0, e2, rfl⟩ ?_
  clear e0 e2
  clear F
  rintro F ⟨e0, e2, e3⟩
  refine wp_regionF ?_
  refine lf_val (v := .pointer (some ⟨g, 0, none⟩)) (wantAll rfl) (rv_move rfl (fr_eval rfl e0)) ?_
  refine lf_val (v := .pointer (some ⟨g, 0, none⟩)) (wantAll rfl) (rv_nilCheck rfl (fr_eval rfl rfl)) ?_
  refine lf_val (v := .pointer (some ⟨g, 2, none⟩)) (wantAll rfl) (rv_fieldAddr (n := 0) rfl (fr_eval rfl rfl) Try.underlying33 rfl rfl (by kernel_rfl)) ?_
  refine lf_val (v := kv) (wantAll rfl) (rv_load1 rfl (hB _ hH.chg) zMi_g4 (fr_eval rfl rfl) Try.underlying31 rfl Try.sz31) ?_
  refine lf_val (v := .int .i64 ((kn.length : Nat) : Int)) (wantAll rfl) (rv_len rfl (fr_eval rfl rfl) (hk.rd _ hH.chg) Try.underlying31) ?_
  refine lf_val (v := .int .i64 0) (wantAll rfl) (rv_move rfl rfl) ?_
  refine lf_nil ?_
  refine then_n ?_
  refine wp_block ?_
  refine wp_gen (fun F' => F' 0 = .pointer (some ⟨g, 0, none⟩) ∧ F' 2 = .slice none 0 0 ∧ F' 3 = y1 ∧ F' 19 = kv ∧ F' 20 = .int .i64 ((kn.length : Nat) : Int) ∧ F' 21 = .int .i64 0) ⟨e0, e2, e3, rfl, rfl, rfl⟩ ?_
  clear e0 e2 e3
  clear F
  rintro F ⟨e0, e2, e3, e19, e20, e21⟩
  refine wp_loopF (fun m F wr => ∃ h : List Bool, ∃ jj : Nat, m = kn.length - jj ∧ jj ≤ kn.length ∧ h.length = ns.length ∧ (∀ j, On h j → OpT ns kn j) ∧ (∀ j, j < jj → On h (kn.getD j 0)) ∧ F 0 = .pointer (some ⟨g, 0, none⟩) ∧ F 2 = .slice none 0 0 ∧ F 3 = y1 ∧ F 19 = kv ∧ F 20 = .int .i64 ((kn.length : Nat) : Int) ∧ F 21 = .int .i64 ((jj : Nat) : Int) ∧ Heap (newN w) w wr [oRow cT 4 1 y1 h]) ⟨_, 0, rfl, Nat.zero_le _, (by simp), (fun j hj => absurd hj (on_rep _ j)), (fun j hj => by omega), e0, e2, e3, e19, e20, e21, hH⟩ ?_
  clear e0 e2 e3 e19 e20 e21 hH
  clear F
  rintro m F w2 ⟨h, jj, rfl, ph0, ph1, ph2, ph3, e0, e2, e3, e19, e20, e21, hH⟩
  refine wp_seq ?_
  refine wp_regionF ?_
  refine lf_val (v := .bool (decide (jj < kn.length))) (wantAll rfl) (rv_lssP (p := jj < kn.length) rfl (fr_eval rfl e21) (fr_eval rfl e20) (by omega)) ?_
  refine lf_nil ?_
  refine then_n ?_
  refine wp_seq ?_
  refine wp_gen (fun F' => F' 0 = .pointer (some ⟨g, 0, none⟩) ∧ F' 2 = .slice none 0 0 ∧ F' 3 = y1 ∧ F' 19 = kv ∧ F' 20 = .int .i64 ((kn.length : Nat) : Int) ∧ F' 21 = .int .i64 ((jj : Nat) : Int) ∧ F' 22 = .bool (decide (jj < kn.length))) ⟨e0, e2, e3, e19, e20, e21, rfl⟩ ?_
  clear e0 e2 e3 e19 e20 e21
  clear F
  rintro F ⟨e0, e2, e3, e19, e20, e21, e22⟩
  by_cases hc1 : jj < kn.length
  · refine wp_cond_true (fr_eval rfl (e22.trans (congrArg Value.bool (decide_eq_true hc1)))) ?_
    refine wp_skip ?_
    refine then_n ?_
    refine wp_seq ?_
    refine wp_block ?_
    refine wp_seq ?_
    refine wp_regionF ?_
    refine lf_val (v := .pointer (some (elemA kv (jj * 1)))) (wantAll rfl) (rv_index rfl (fr_eval rfl e19) (fr_eval rfl e21) (rdN (hk.rd _ hH.chg) rfl) (show jj < kn.length from (by omega)) Try.underlying31 Try.sz3 (by decide)) ?_
    refine lf_val (wantAll rfl) (rv_loadCell rfl (fr_eval rfl rfl) (Nat.mul_one _) (hk.rd _ hH.chg) (flat_get1 0 cNu_len (show jj < kn.length from (by omega)) rfl) Try.underlying3 rfl Try.sz3) ?_
    refine lf_val (v := .int .i64 (((List.getD kn jj 0) : Nat) : Int)) (wantAll rfl) (rv_assign rfl (fr_eval rfl rfl)) ?_
    refine lf_nil ?_
    refine then_n ?_
    refine wp_gen (fun F' => F' 0 = .pointer (some ⟨g, 0, none⟩) ∧ F' 2 = .slice none 0 0 ∧ F' 3 = y1 ∧ F' 5 = .int .i64 (((List.getD kn jj 0) : Nat) : Int) ∧ F' 19 = kv ∧ F' 20 = .int .i64 ((kn.length : Nat) : Int) ∧ F' 21 = .int .i64 ((jj : Nat) : Int) ∧ F' 22 = .bool true) ⟨e0, e2, e3, rfl, e19, e20, e21, (e22.trans (congrArg Value.bool (decide_eq_true hc1)))⟩ ?_
    clear e0 e2 e3 e19 e20 e21 e22
    clear F
    rintro F ⟨e0, e2, e3, e5, e19, e20, e21, e22⟩
    have hkl2 := hok.known _ (getD_memN (by omega : jj < kn.length))
    refine wp_regionF ?_
    refine lf_val (v := y1) (wantAll rfl) (rv_move rfl (fr_eval rfl e3)) ?_
    refine lf_val (wantAll rfl) (rv_move rfl (fr_eval rfl e5)) ?_
    refine lf_val (v := .pointer (some (elemA y1 ((List.getD kn jj 0) * 1)))) (wantAll rfl) (rv_index rfl (fr_eval rfl rfl) (fr_eval rfl rfl) (rdN (Own.rd (hH.own (i := 0) rfl) (row_one cT_one)) ph1) (show (List.getD kn jj 0) < ns.length from (hok.known _ (getD_memN (by omega)))) Try.underlying48 Try.sz4 (by decide)) ?_
    refine lf_sk (wantAll rfl) (hx_setC hH (i := 0) (nm := List.length (List.set h (List.getD kn jj 0) true)) (j := (List.getD kn jj 0)) (xs' := (List.set h (List.getD kn jj 0) true).flatMap cT) rfl rfl rfl (List.length_set ..).symm (Nat.lt_of_lt_of_eq (hok.known _ (getD_memN (by omega))) (ph1).symm) (flat_set1 cT_len rfl (Nat.lt_of_lt_of_eq (hok.known _ (getD_memN (by omega))) (ph1).symm)) (fr_eval rfl rfl) rfl Try.sz4 rfl) ?_
    clear hH
    rintro w4 ⟨hH, hx⟩
    replace hH : Heap _ _ _ [_] := hH
    clear hx
    refine lf_nil ?_
    refine blk_n ?_
    refine then_n ?_
    refine wp_gen (fun F' => F' 0 = .pointer (some ⟨g, 0, none⟩) ∧ F' 2 = .slice none 0 0 ∧ F' 3 = y1 ∧ F' 5 = .int .i64 (((List.getD kn jj 0) : Nat) : Int) ∧ F' 19 = kv ∧ F' 20 = .int .i64 ((kn.length : Nat) : Int) ∧ F' 21 = .int .i64 ((jj : Nat) : Int) ∧ F' 22 = .bool true) ⟨e0, e2, e3, e5, e19, e20, e21, e22⟩ ?_
    clear e0 e2 e3 e5 e19 e20 e21 e22
    clear F
    rintro F ⟨e0, e2, e3, e5, e19, e20, e21, e22⟩
    refine wp_regionF ?_
    refine lf_val (v := .int .i64 ((jj + 1 : Nat) : Int)) (wantAll rfl) (rv_add rfl (fr_eval rfl e21) rfl (wrap_i64 (by omega) (by omega) (by omega))) ?_
    refine lf_val (v := .int .i64 ((jj + 1 : Nat) : Int)) (wantAll rfl) (rv_move rfl (fr_eval rfl rfl)) ?_
    refine lf_nil ?_
    refine then_n ?_
    exact ⟨_, _, (by omega), rfl, _, jj + 1, rfl, (by omega), ((List.length_set ..).trans ph1), (fun j hj => (on_set hj).elim (ph2 j) (fun e => e ▸ (OpT.shut ns kn).known _ (getD_memN (by omega)))), (on_next ph3 (by rw [ph1]; exact hok.known _ (getD_memN (by omega)))), e0, e2, e3, e19, e20, rfl, hH⟩
  · refine wp_cond_false (fr_eval rfl (e22.trans (congrArg Value.bool (decide_eq_false hc1)))) ?_
    refine wp_exit ?_
    refine then_exit ?_
    refine then_exit ?_
    refine blk_exit ?_
    refine then_n ?_
    refine wp_seq ?_
    refine wp_seq ?_
    refine wp_regionF ?_
    refine lf_val (v := .bool true) (wantAll rfl) (rv_assign rfl rfl) ?_
    refine lf_nil ?_
    refine then_n ?_
    refine wp_block ?_
    refine wp_gen (fun F' => F' 0 = .pointer (some ⟨g, 0, none⟩) ∧ F' 2 = .slice none 0 0 ∧ F' 3 = y1 ∧ F' 6 = .bool true ∧ F' 19 = kv ∧ F' 20 = .int .i64 ((kn.length : Nat) : Int) ∧ F' 21 = .int .i64 ((jj : Nat) : Int) ∧ F' 22 = .bool false) ⟨e0, e2, e3, rfl, e19, e20, e21, (e22.trans (congrArg Value.bool (decide_eq_false hc1)))⟩ ?_
    clear e0 e2 e3 e19 e20 e21 e22
    clear F
    rintro F ⟨e0, e2, e3, e6, e19, e20, e21, e22⟩
    refine wp_loopF (fun m F wr => ∃ h : List Bool, ∃ mo2 : Bool, m = offs h + mo2.toNat ∧ h.length = ns.length ∧ (∀ j, On h j → OpT ns kn j) ∧ (∀ k ∈ kn, On h k) ∧ (mo2 = false → opTo ns h ns.length = h) ∧ F 0 = .pointer (some ⟨g, 0, none⟩) ∧ F 2 = .slice none 0 0 ∧ F 3 = y1 ∧ F 6 = .bool mo2 ∧ F 19 = kv ∧ F 20 = .int .i64 ((kn.length : Nat) : Int) ∧ F 21 = .int .i64 ((jj : Nat) : Int) ∧ F 22 = .bool false ∧ Heap (newN w) w wr [oRow cT 4 1 y1 h]) ⟨_, true, rfl, ph1, ph2, (fun k hk => by
      obtain ⟨j, hj, rfl⟩ := List.mem_iff_getElem.1 hk
      have := ph3 j (by omega)
      rwa [List.getD_eq_getElem?_getD, List.getElem?_eq_getElem hj] at this), (fun h => absurd h (by decide)), e0, e2, e3, e6, e19, e20, e21, e22, hH⟩ ?_
    clear e0 e2 e3 e6 e19 e20 e21 e22 hH
    clear F
    rintro m F w5 ⟨h, mo2, rfl, ph0, ph1, ph2, ph3, e0, e2, e3, e6, e19, e20, e21, e22, hH⟩
    refine wp_seq ?_
    refine wp_seq ?_
    refine wp_regionF ?_
    refine lf_val (v := .bool mo2) (wantAll rfl) (rv_move rfl (fr_eval rfl e6)) ?_
    refine lf_nil ?_
    refine then_n ?_
    refine wp_gen (fun F' => F' 0 = .pointer (some ⟨g, 0, none⟩) ∧ F' 2 = .slice none 0 0 ∧ F' 3 = y1 ∧ F' 6 = .bool mo2 ∧ F' 19 = kv ∧ F' 20 = .int .i64 ((kn.length : Nat) : Int) ∧ F' 21 = .int .i64 ((jj : Nat) : Int) ∧ F' 22 = .bool false ∧ F' 29 = .bool mo2) ⟨e0, e2, e3, e6, e19, e20, e21, e22, rfl⟩ ?_
    clear e0 e2 e3 e6 e19 e20 e21 e22
    clear F
    rintro F ⟨e0, e2, e3, e6, e19, e20, e21, e22, e29⟩
    cases hb1 : mo2
    · refine wp_cond_false (fr_eval rfl (e29.trans (by rw [hb1]))) ?_
      refine wp_exit ?_
      refine then_exit ?_
      refine then_exit ?_
      refine blk_exit ?_
      refine then_n ?_
      refine wp_seq ?_
      have hfin := op_done hok ph0 ph2 ph1 (ph3 hb1)
      rw [show h = opL ns kn from hfin] at hH
      refine wp_regionF ?_
      refine lf_val (v := y1) (wantAll rfl) (rv_move rfl (fr_eval rfl e3)) ?_
      refine lf_val (v := y1) (wantAll rfl) (rv_assign rfl (fr_eval rfl rfl)) ?_
      refine lf_nil ?_
      refine then_n ?_
      refine wp_gen (fun F' => F' 0 = .pointer (some ⟨g, 0, none⟩) ∧ F' 2 = y1 ∧ F' 3 = y1 ∧ F' 6 = .bool false ∧ F' 19 = kv ∧ F' 20 = .int .i64 ((kn.length : Nat) : Int) ∧ F' 21 = .int .i64 ((jj : Nat) : Int) ∧ F' 22 = .bool false ∧ F' 29 = .bool false) ⟨e0, rfl, e3, (e6.trans (by rw [hb1])), e19, e20, e21, e22, (e29.trans (by rw [hb1]))⟩ ?_
      clear e0 e2 e3 e6 e19 e20 e21 e22 e29
      clear F
      rintro F ⟨e0, e2, e3, e6, e19, e20, e21, e22, e29⟩
      refine wp_ret ?_
      exact bodyPost_ret (v := y1) (res1 rfl (ro_tmp rfl e2)) rfl (⟨⟨_, rfl, hH.own (i := 0) rfl, hH.ge (i := 0) rfl⟩, hH.done⟩)
    · refine wp_cond_true (fr_eval rfl (e29.trans (by rw [hb1]))) ?_
      refine wp_skip ?_
      refine then_n ?_
      refine wp_block ?_
      refine wp_seq ?_
      refine wp_regionF ?_
      refine lf_val (v := .bool false) (wantAll rfl) (rv_assign rfl rfl) ?_
      refine lf_nil ?_
      refine then_n ?_
      refine wp_seq ?_
      refine wp_gen (fun F' => F' 0 = .pointer (some ⟨g, 0, none⟩) ∧ F' 2 = .slice none 0 0 ∧ F' 3 = y1 ∧ F' 6 = .bool false ∧ F' 19 = kv ∧ F' 20 = .int .i64 ((kn.length : Nat) : Int) ∧ F' 21 = .int .i64 ((jj : Nat) : Int) ∧ F' 22 = .bool false ∧ F' 29 = .bool true) ⟨e0, e2, e3, rfl, e19, e20, e21, e22, (e29.trans (by rw [hb1]))⟩ ?_
      clear e0 e2 e3 e6 e19 e20 e21 e22 e29
      clear F
      rintro F ⟨e0, e2, e3, e6, e19, e20, e21, e22, e29⟩
      refine wp_regionF ?_
      refine lf_val (v := .pointer (some ⟨g, 0, none⟩)) (wantAll rfl) (rv_move rfl (fr_eval rfl e0)) ?_
      refine lf_val (v := .pointer (some ⟨g, 0, none⟩)) (wantAll rfl) (rv_nilCheck rfl (fr_eval rfl rfl)) ?_
      refine lf_val (v := .pointer (some ⟨g, 0, none⟩)) (wantAll rfl) (rv_fieldAddr (n := 1) rfl (fr_eval rfl rfl) Try.underlying33 rfl rfl (by kernel_rfl)) ?_
      refine lf_val (v := .pointer (some ⟨g, 0, none⟩)) (wantAll rfl) (rv_fieldAddr (n := 0) rfl (fr_eval rfl rfl) Try.underlying30 rfl rfl (by kernel_rfl)) ?_
      refine lf_val (v := v) (wantAll rfl) (rv_load1 rfl (hB _ hH.chg) zMi_g0 (fr_eval rfl rfl) Try.underlying23 rfl Try.sz23) ?_
      refine lf_val (v := .int .i64 ((ns.length : Nat) : Int)) (wantAll rfl) (rv_len rfl (fr_eval rfl rfl) (hn.rd _ hH.chg) Try.underlying23) ?_
      refine lf_val (v := .int .i64 0) (wantAll rfl) (rv_move rfl rfl) ?_
      refine lf_nil ?_
      refine then_n ?_
      refine wp_block ?_
      refine wp_gen (fun F' => F' 0 = .pointer (some ⟨g, 0, none⟩) ∧ F' 2 = .slice none 0 0 ∧ F' 3 = y1 ∧ F' 6 = .bool false ∧ F' 19 = kv ∧ F' 20 = .int .i64 ((kn.length : Nat) : Int) ∧ F' 21 = .int .i64 ((jj : Nat) : Int) ∧ F' 22 = .bool false ∧ F' 29 = .bool true ∧ F' 34 = v ∧ F' 35 = .int .i64 ((ns.length : Nat) : Int) ∧ F' 36 = .int .i64 0) ⟨e0, e2, e3, e6, e19, e20, e21, e22, e29, rfl, rfl, rfl⟩ ?_
      clear e0 e2 e3 e6 e19 e20 e21 e22 e29
      clear F
      rintro F ⟨e0, e2, e3, e6, e19, e20, e21, e22, e29, e34, e35, e36⟩
      refine wp_loopF (fun m F wr => ∃ i : Nat, m = ns.length - i ∧ i ≤ ns.length ∧ F 0 = .pointer (some ⟨g, 0, none⟩) ∧ F 2 = .slice none 0 0 ∧ F 3 = y1 ∧ F 6 = .bool (decide (¬ opTo ns h i = h)) ∧ F 19 = kv ∧ F 20 = .int .i64 ((kn.length : Nat) : Int) ∧ F 21 = .int .i64 ((jj : Nat) : Int) ∧ F 22 = .bool false ∧ F 29 = .bool true ∧ F 34 = v ∧ F 35 = .int .i64 ((ns.length : Nat) : Int) ∧ F 36 = .int .i64 ((i : Nat) : Int) ∧ Heap (newN w) w wr [oRow cT 4 1 y1 (opTo ns h i)]) ⟨0, rfl, Nat.zero_le _, e0, e2, e3, (e6.trans (congrArg Value.bool (decide_eq_false (fun q => q rfl)).symm)), e19, e20, e21, e22, e29, e34, e35, e36, hH⟩ ?_
      clear e0 e2 e3 e6 e19 e20 e21 e22 e29 e34 e35 e36 hH
      clear F
      rintro m F w6 ⟨i, rfl, pi0, e0, e2, e3, e6, e19, e20, e21, e22, e29, e34, e35, e36, hH⟩
      refine wp_seq ?_
      refine wp_regionF ?_
      refine lf_val (v := .bool (decide (i < ns.length))) (wantAll rfl) (rv_lssP (p := i < ns.length) rfl (fr_eval rfl e36) (fr_eval rfl e35) (by omega)) ?_
      refine lf_nil ?_
      refine then_n ?_
      refine wp_seq ?_
      refine wp_gen (fun F' => F' 0 = .pointer (some ⟨g, 0, none⟩) ∧ F' 2 = .slice none 0 0 ∧ F' 3 = y1 ∧ F' 6 = .bool (decide (¬ opTo ns h i = h)) ∧ F' 19 = kv ∧ F' 20 = .int .i64 ((kn.length : Nat) : Int) ∧ F' 21 = .int .i64 ((jj : Nat) : Int) ∧ F' 22 = .bool false ∧ F' 29 = .bool true ∧ F' 34 = v ∧ F' 35 = .int .i64 ((ns.length : Nat) : Int) ∧ F' 36 = .int .i64 ((i : Nat) : Int) ∧ F' 37 = .bool (decide (i < ns.length))) ⟨e0, e2, e3, e6, e19, e20, e21, e22, e29, e34, e35, e36, rfl⟩ ?_
      clear e0 e2 e3 e6 e19 e20 e21 e22 e29 e34 e35 e36
      clear F
      rintro F ⟨e0, e2, e3, e6, e19, e20, e21, e22, e29, e34, e35, e36, e37⟩
      by_cases hc2 : i < ns.length
      · refine wp_cond_true (fr_eval rfl (e37.trans (congrArg Value.bool (decide_eq_true hc2)))) ?_
        refine wp_skip ?_
        refine then_n ?_
        refine wp_seq ?_
        refine wp_block ?_
        refine wp_seq ?_
        refine wp_regionF ?_
        refine lf_val (v := .int .i64 ((i : Nat) : Int)) (wantAll rfl) (rv_move rfl (fr_eval rfl e36)) ?_
        refine lf_val (v := .pointer (some (elemA v (i * 3)))) (wantAll rfl) (rv_index rfl (fr_eval rfl e34) (fr_eval rfl e36) (rdN (hn.rd _ hH.chg) rfl) (show i < ns.length from (by omega)) Try.underlying23 Try.sz40 (by decide)) ?_
        refine lf_val (wantAll rfl) (rv_loadElem rfl (fr_eval rfl rfl) (rdN (hn.rd _ hH.chg) rfl) (show i < ns.length from (by omega)) (by decide) (flat_part zN cNd_len (show i < ns.length from (by omega))) Try.underlying40 rfl Try.sz40) ?_
        refine lf_ex (wantAll rfl) (hx_alloc hH 40 (z := .agg ([.int .i64 0, .int .i64 0, .int .i64 0]).toArray) (n := 3) (cs := [.int .i64 0, .int .i64 0, .int .i64 0]) rfl (by kernel_rfl) (by rfl)) ?_
        clear hH
        rintro _ w7 ⟨g1, rfl, hH, hx⟩
        replace hH : Heap _ _ _ [_, _] := hH
        clear hx
        refine lf_val (v := .int .i64 ((i : Nat) : Int)) (wantAll rfl) (rv_assign rfl (fr_eval rfl rfl)) ?_
        refine lf_sk (wantAll rfl) (hx_storeW hH (i := 1) (cs := [.int .i64 ((List.getD ns i zN).k), .int .i64 ((List.getD ns i zN).a), .int .i64 ((List.getD ns i zN).b)]) rfl rfl rfl (fr_eval rfl rfl) (fr_eval rfl rfl) (sz_len Try.sz40 zMi_l1) ((zMi_l1).trans (zMi_l1).symm) (zMi_o2 rfl rfl rfl)) ?_
        clear hH
        rintro w8 ⟨hH, hx⟩
        replace hH : Heap _ _ _ [_, _] := hH
        clear hx
        refine lf_nil ?_
        refine then_n ?_
        refine wp_seq ?_
        refine wp_seq ?_
        refine wp_gen (fun F' => F' 0 = .pointer (some ⟨g, 0, none⟩) ∧ F' 2 = .slice none 0 0 ∧ F' 3 = y1 ∧ F' 6 = .bool (decide (¬ opTo ns h i = h)) ∧ F' 7 = .int .i64 ((i : Nat) : Int) ∧ F' 8 = .pointer (some ⟨g1, 0, none⟩) ∧ F' 19 = kv ∧ F' 20 = .int .i64 ((kn.length : Nat) : Int) ∧ F' 21 = .int .i64 ((jj : Nat) : Int) ∧ F' 22 = .bool false ∧ F' 29 = .bool true ∧ F' 34 = v ∧ F' 35 = .int .i64 ((ns.length : Nat) : Int) ∧ F' 36 = .int .i64 ((i : Nat) : Int) ∧ F' 37 = .bool true) ⟨e0, e2, e3, e6, rfl, rfl, e19, e20, e21, e22, e29, e34, e35, e36, (e37.trans (congrArg Value.bool (decide_eq_true hc2)))⟩ ?_
        clear e0 e2 e3 e6 e19 e20 e21 e22 e29 e34 e35 e36 e37
        clear F
        rintro F ⟨e0, e2, e3, e6, e7, e8, e19, e20, e21, e22, e29, e34, e35, e36, e37⟩
        refine wp_regionF ?_
        refine lf_val (v := y1) (wantAll rfl) (rv_move rfl (fr_eval rfl e3)) ?_
        refine lf_val (v := .int .i64 ((i : Nat) : Int)) (wantAll rfl) (rv_move rfl (fr_eval rfl e7)) ?_
        refine lf_val (v := .pointer (some (elemA y1 (i * 1)))) (wantAll rfl) (rv_index rfl (fr_eval rfl rfl) (fr_eval rfl rfl) (rdN (Own.rd (hH.own (i := 0) rfl) (row_one cT_one)) ((opTo_len ns h i).trans ph0)) (show i < ns.length from (by omega)) Try.underlying48 Try.sz4 (by decide)) ?_
        refine lf_val (wantAll rfl) (rv_loadCell rfl (fr_eval rfl rfl) (Nat.mul_one _) (Own.rd (hH.own (i := 0) rfl) (row_one cT_one)) (flat_get1 false cT_len (Nat.lt_of_lt_of_eq (show i < ns.length from (by omega)) (((opTo_len ns h i).trans ph0)).symm) (cT_dec _)) Try.underlying4 rfl Try.sz4) ?_
        refine lf_val (v := .bool (decide (¬ ((List.getD (opTo ns h i) i false) = true)))) (wantAll rfl) (rv_notP (q := ¬ ((List.getD (opTo ns h i) i false) = true)) rfl (fr_eval rfl rfl) Iff.rfl) ?_
        refine lf_nil ?_
        refine then_n ?_
        refine wp_gen (fun F' => F' 0 = .pointer (some ⟨g, 0, none⟩) ∧ F' 2 = .slice none 0 0 ∧ F' 3 = y1 ∧ F' 6 = .bool (decide (¬ opTo ns h i = h)) ∧ F' 7 = .int .i64 ((i : Nat) : Int) ∧ F' 8 = .pointer (some ⟨g1, 0, none⟩) ∧ F' 19 = kv ∧ F' 20 = .int .i64 ((kn.length : Nat) : Int) ∧ F' 21 = .int .i64 ((jj : Nat) : Int) ∧ F' 22 = .bool false ∧ F' 29 = .bool true ∧ F' 34 = v ∧ F' 35 = .int .i64 ((ns.length : Nat) : Int) ∧ F' 36 = .int .i64 ((i : Nat) : Int) ∧ F' 37 = .bool true ∧ F' 45 = .bool (decide (¬ ((List.getD (opTo ns h i) i false) = true)))) ⟨e0, e2, e3, e6, e7, e8, e19, e20, e21, e22, e29, e34, e35, e36, e37, rfl⟩ ?_
        clear e0 e2 e3 e6 e7 e8 e19 e20 e21 e22 e29 e34 e35 e36 e37
        clear F
        rintro F ⟨e0, e2, e3, e6, e7, e8, e19, e20, e21, e22, e29, e34, e35, e36, e37, e45⟩
        by_cases hc3 : (List.getD (opTo ns h i) i false) = true
        · refine wp_cond_false (fr_eval rfl (e45.trans (congrArg Value.bool (decide_eq_false (not_not_intro hc3))))) ?_
          refine wp_skip ?_
          refine then_n ?_
          refine wp_seq ?_
          have hat := okB_at hb (by omega : i < ns.length)
          refine wp_regionF ?_
          refine lf_val (v := .pointer (some ⟨g1, 0, none⟩)) (wantAll rfl) (rv_fieldAddr (n := 0) rfl (fr_eval rfl e8) Try.underlying40 rfl rfl (by kernel_rfl)) ?_
          refine lf_val (v := .int .i64 ((List.getD ns i zN).k)) (wantAll rfl) (rv_load1 rfl (hH.blk (i := 1) rfl) zMi_g0 (fr_eval rfl rfl) Try.underlying3 rfl Try.sz3) ?_
          refine lf_nil ?_
          refine then_n ?_
          refine wp_block ?_
          refine wp_seq ?_
          refine wp_gen (fun F' => F' 0 = .pointer (some ⟨g, 0, none⟩) ∧ F' 2 = .slice none 0 0 ∧ F' 3 = y1 ∧ F' 6 = .bool (decide (¬ opTo ns h i = h)) ∧ F' 7 = .int .i64 ((i : Nat) : Int) ∧ F' 8 = .pointer (some ⟨g1, 0, none⟩) ∧ F' 19 = kv ∧ F' 20 = .int .i64 ((kn.length : Nat) : Int) ∧ F' 21 = .int .i64 ((jj : Nat) : Int) ∧ F' 22 = .bool false ∧ F' 29 = .bool true ∧ F' 34 = v ∧ F' 35 = .int .i64 ((ns.length : Nat) : Int) ∧ F' 36 = .int .i64 ((i : Nat) : Int) ∧ F' 37 = .bool true ∧ F' 45 = .bool false ∧ F' 47 = .int .i64 ((List.getD ns i zN).k)) ⟨e0, e2, e3, e6, e7, e8, e19, e20, e21, e22, e29, e34, e35, e36, e37, (e45.trans (congrArg Value.bool (decide_eq_false (not_not_intro hc3)))), rfl⟩ ?_
          clear e0 e2 e3 e6 e7 e8 e19 e20 e21 e22 e29 e34 e35 e36 e37 e45
          clear F
          rintro F ⟨e0, e2, e3, e6, e7, e8, e19, e20, e21, e22, e29, e34, e35, e36, e37, e45, e47⟩
          refine wp_regionF ?_
          refine lf_val (v := .bool (decide ((List.getD ns i zN).k = 2))) (wantAll rfl) (rv_eqlP (p := (List.getD ns i zN).k = 2) rfl (fr_eval rfl e47) rfl Iff.rfl) ?_
          refine lf_val (v := .bool (decide ((List.getD ns i zN).k = 2))) (wantAll rfl) (rv_assign rfl (fr_eval rfl rfl)) ?_
          refine lf_nil ?_
          refine then_n ?_
          refine wp_gen (fun F' => F' 0 = .pointer (some ⟨g, 0, none⟩) ∧ F' 2 = .slice none 0 0 ∧ F' 3 = y1 ∧ F' 6 = .bool (decide (¬ opTo ns h i = h)) ∧ F' 7 = .int .i64 ((i : Nat) : Int) ∧ F' 8 = .pointer (some ⟨g1, 0, none⟩) ∧ F' 19 = kv ∧ F' 20 = .int .i64 ((kn.length : Nat) : Int) ∧ F' 21 = .int .i64 ((jj : Nat) : Int) ∧ F' 22 = .bool false ∧ F' 29 = .bool true ∧ F' 34 = v ∧ F' 35 = .int .i64 ((ns.length : Nat) : Int) ∧ F' 36 = .int .i64 ((i : Nat) : Int) ∧ F' 37 = .bool true ∧ F' 45 = .bool false ∧ F' 47 = .int .i64 ((List.getD ns i zN).k) ∧ F' 48 = .bool (decide ((List.getD ns i zN).k = 2))) ⟨e0, e2, e3, e6, e7, e8, e19, e20, e21, e22, e29, e34, e35, e36, e37, e45, e47, rfl⟩ ?_
          clear e0 e2 e3 e6 e7 e8 e19 e20 e21 e22 e29 e34 e35 e36 e37 e45 e47
          clear F
          rintro F ⟨e0, e2, e3, e6, e7, e8, e19, e20, e21, e22, e29, e34, e35, e36, e37, e45, e47, e48⟩
          by_cases hc4 : (List.getD ns i zN).k = 2
          · refine wp_cond_true (fr_eval rfl (e48.trans (congrArg Value.bool (decide_eq_true hc4)))) ?_
            refine wp_seq ?_
            refine wp_regionF ?_
            refine lf_val (v := y1) (wantAll rfl) (rv_move rfl (fr_eval rfl e3)) ?_
            refine lf_val (v := .pointer (some ⟨g1, 1, none⟩)) (wantAll rfl) (rv_fieldAddr (n := 0) rfl (fr_eval rfl e8) Try.underlying40 rfl rfl (by kernel_rfl)) ?_
            refine lf_val (v := .int .i64 ((List.getD ns i zN).a)) (wantAll rfl) (rv_load1 rfl (hH.blk (i := 1) rfl) zMi_g3 (fr_eval rfl rfl) Try.underlying3 rfl Try.sz3) ?_
            replace hH : Heap _ _ _ [_, _] := hH.perm (.trans (.swap _ _ _) (.cons _ (.refl _)))
            refine lf_call (wantAll rfl) (rv_call (args := [y1, .int .i64 ((((List.getD ns i zN).a).toNat : Nat) : Int)]) rfl (evc (fr_eval rfl rfl) (evc (((fr_eval rfl rfl)).trans (congrArg (Value.int .i64) (Int.toNat_of_nonneg (by omega)).symm)) evn)) Try.call20) (set_calls (opTo ns h i) (((List.getD ns i zN).a).toNat) (by simp only [List.length_set, opTo_len]; omega) _ (Heap.part (L := [_]) (M := [_]) hH)) ?_
            rintro _ w9 ⟨rfl, hP⟩
            refine ⟨_, rfl, ?_⟩
            have hx := hH.callChg (L := [_]) (M := [_]) (fun _ h => h) hP
            replace hH : Heap _ _ _ [_, _] := hH.call (L := [_]) (M := [_]) (fun _ h => h) hP (Stays.own (hP.own (i := 0) rfl) Stays.nil)
            clear hP
            clear hx
            refine lf_val (v := .bool (decide (¬ gb (opTo ns h i) (((List.getD ns i zN).a).toNat) = true))) (wantAll rfl) (rv_move rfl (fr_eval rfl rfl)) ?_
            refine lf_joinP (fun F' => F' 0 = .pointer (some ⟨g, 0, none⟩) ∧ F' 2 = .slice none 0 0 ∧ F' 3 = y1 ∧ F' 6 = .bool (decide (¬ opTo ns h i = h)) ∧ F' 7 = .int .i64 ((i : Nat) : Int) ∧ F' 8 = .pointer (some ⟨g1, 0, none⟩) ∧ F' 19 = kv ∧ F' 20 = .int .i64 ((kn.length : Nat) : Int) ∧ F' 21 = .int .i64 ((jj : Nat) : Int) ∧ F' 22 = .bool false ∧ F' 29 = .bool true ∧ F' 34 = v ∧ F' 35 = .int .i64 ((ns.length : Nat) : Int) ∧ F' 36 = .int .i64 ((i : Nat) : Int) ∧ F' 37 = .bool true ∧ F' 45 = .bool false ∧ F' 47 = .int .i64 ((List.getD ns i zN).k) ∧ F' 48 = .bool true ∧ F' 56 = .bool (decide ((¬ gb (opTo ns h i) (((List.getD ns i zN).a).toNat) = true) ∨ (¬ opTo ns h i = h)))) 2 (fun hk => ?_) ?_
            · by_cases hc5 : gb (opTo ns h i) (((List.getD ns i zN).a).toNat) = true
              · refine lf_val (v := .bool (decide (¬ opTo ns h i = h))) (wantF (d := 54) rfl (by kernel_rfl) rfl (congrArg Value.bool (decide_eq_false (not_not_intro hc5)))) (rv_move rfl (fr_eval rfl e6)) ?_
                refine lf_val (v := .bool (decide (¬ opTo ns h i = h))) (wantAll rfl) (rv_pickF rfl (fr_eval rfl (congrArg Value.bool (decide_eq_false (not_not_intro hc5)))) (fr_eval rfl rfl)) ?_
                exact hk _ ⟨e0, e2, e3, e6, e7, e8, e19, e20, e21, e22, e29, e34, e35, e36, e37, e45, e47, (e48.trans (congrArg Value.bool (decide_eq_true hc4))), (congrArg Value.bool (dec_or (not_not_intro hc5)))⟩
              · refine lf_not (wantNot (d := 54) rfl (by kernel_rfl) rfl (congrArg Value.bool (decide_eq_true hc5))) ?_
                refine lf_val (v := .bool true) (wantAll rfl) (rv_pickT rfl (fr_eval rfl (congrArg Value.bool (decide_eq_true hc5))) rfl) ?_
                exact hk _ ⟨e0, e2, e3, e6, e7, e8, e19, e20, e21, e22, e29, e34, e35, e36, e37, e45, e47, (e48.trans (congrArg Value.bool (decide_eq_true hc4))), (congrArg Value.bool (dec_orT hc5))⟩
            · clear e0 e2 e3 e6 e7 e8 e19 e20 e21 e22 e29 e34 e35 e36 e37 e45 e47 e48
              clear F
              rintro F ⟨e0, e2, e3, e6, e7, e8, e19, e20, e21, e22, e29, e34, e35, e36, e37, e45, e47, e48, e56⟩
              refine lf_val (wantAll rfl) (rv_assign rfl (fr_eval rfl e56)) ?_
              refine lf_nil ?_
              refine then_n ?_
              refine wp_gen (fun F' => F' 0 = .pointer (some ⟨g, 0, none⟩) ∧ F' 2 = .slice none 0 0 ∧ F' 3 = y1 ∧ F' 6 = .bool (decide ((¬ gb (opTo ns h i) (((List.getD ns i zN).a).toNat) = true) ∨ (¬ opTo ns h i = h))) ∧ F' 7 = .int .i64 ((i : Nat) : Int) ∧ F' 8 = .pointer (some ⟨g1, 0, none⟩) ∧ F' 19 = kv ∧ F' 20 = .int .i64 ((kn.length : Nat) : Int) ∧ F' 21 = .int .i64 ((jj : Nat) : Int) ∧ F' 22 = .bool false ∧ F' 29 = .bool true ∧ F' 34 = v ∧ F' 35 = .int .i64 ((ns.length : Nat) : Int) ∧ F' 36 = .int .i64 ((i : Nat) : Int) ∧ F' 37 = .bool true ∧ F' 45 = .bool false ∧ F' 47 = .int .i64 ((List.getD ns i zN).k) ∧ F' 48 = .bool true) ⟨e0, e2, e3, rfl, e7, e8, e19, e20, e21, e22, e29, e34, e35, e36, e37, e45, e47, e48⟩ ?_
              clear e0 e2 e3 e6 e7 e8 e19 e20 e21 e22 e29 e34 e35 e36 e37 e45 e47 e48 e56
              clear F
              rintro F ⟨e0, e2, e3, e6, e7, e8, e19, e20, e21, e22, e29, e34, e35, e36, e37, e45, e47, e48⟩
              refine wp_regionF ?_
              refine lf_val (v := y1) (wantAll rfl) (rv_move rfl (fr_eval rfl e3)) ?_
              refine lf_val (v := .pointer (some ⟨g1, 2, none⟩)) (wantAll rfl) (rv_fieldAddr (n := 0) rfl (fr_eval rfl e8) Try.underlying40 rfl rfl (by kernel_rfl)) ?_
              refine lf_val (v := .int .i64 ((List.getD ns i zN).b)) (wantAll rfl) (rv_load1 rfl (hH.blk (i := 0) rfl) zMi_g4 (fr_eval rfl rfl) Try.underlying3 rfl Try.sz3) ?_
              refine lf_call (wantAll rfl) (rv_call (args := [y1, .int .i64 ((((List.getD ns i zN).b).toNat : Nat) : Int)]) rfl (evc (fr_eval rfl rfl) (evc (((fr_eval rfl rfl)).trans (congrArg (Value.int .i64) (Int.toNat_of_nonneg (by omega)).symm)) evn)) Try.call20) (set_calls (List.set (opTo ns h i) (((List.getD ns i zN).a).toNat) true) (((List.getD ns i zN).b).toNat) (by simp only [List.length_set, opTo_len]; omega) _ (Heap.part (L := [_]) (M := [_]) hH)) ?_
              rintro _ w10 ⟨rfl, hP⟩
              refine ⟨_, rfl, ?_⟩
              have hx := hH.callChg (L := [_]) (M := [_]) (fun _ h => h) hP
              replace hH : Heap _ _ _ [_, _] := hH.call (L := [_]) (M := [_]) (fun _ h => h) hP (Stays.own (hP.own (i := 0) rfl) Stays.nil)
              clear hP
              clear hx
              refine lf_val (v := .bool (decide (¬ gb (List.set (opTo ns h i) (((List.getD ns i zN).a).toNat) true) (((List.getD ns i zN).b).toNat) = true))) (wantAll rfl) (rv_move rfl (fr_eval rfl rfl)) ?_
              refine lf_joinP (fun F' => F' 0 = .pointer (some ⟨g, 0, none⟩) ∧ F' 2 = .slice none 0 0 ∧ F' 3 = y1 ∧ F' 6 = .bool (decide ((¬ gb (opTo ns h i) (((List.getD ns i zN).a).toNat) = true) ∨ (¬ opTo ns h i = h))) ∧ F' 7 = .int .i64 ((i : Nat) : Int) ∧ F' 8 = .pointer (some ⟨g1, 0, none⟩) ∧ F' 19 = kv ∧ F' 20 = .int .i64 ((kn.length : Nat) : Int) ∧ F' 21 = .int .i64 ((jj : Nat) : Int) ∧ F' 22 = .bool false ∧ F' 29 = .bool true ∧ F' 34 = v ∧ F' 35 = .int .i64 ((ns.length : Nat) : Int) ∧ F' 36 = .int .i64 ((i : Nat) : Int) ∧ F' 37 = .bool true ∧ F' 45 = .bool false ∧ F' 47 = .int .i64 ((List.getD ns i zN).k) ∧ F' 48 = .bool true ∧ F' 63 = .bool (decide ((¬ gb (List.set (opTo ns h i) (((List.getD ns i zN).a).toNat) true) (((List.getD ns i zN).b).toNat) = true) ∨ ((¬ gb (opTo ns h i) (((List.getD ns i zN).a).toNat) = true) ∨ (¬ opTo ns h i = h))))) 2 (fun hk => ?_) ?_
              · by_cases hc6 : gb (List.set (opTo ns h i) (((List.getD ns i zN).a).toNat) true) (((List.getD ns i zN).b).toNat) = true
                · refine lf_val (wantF (d := 61) rfl (by kernel_rfl) rfl (congrArg Value.bool (decide_eq_false (not_not_intro hc6)))) (rv_move rfl (fr_eval rfl e6)) ?_
                  refine lf_val (v := .bool (decide ((¬ gb (opTo ns h i) (((List.getD ns i zN).a).toNat) = true) ∨ (¬ opTo ns h i = h)))) (wantAll rfl) (rv_pickF rfl (fr_eval rfl (congrArg Value.bool (decide_eq_false (not_not_intro hc6)))) (fr_eval rfl rfl)) ?_
                  exact hk _ ⟨e0, e2, e3, e6, e7, e8, e19, e20, e21, e22, e29, e34, e35, e36, e37, e45, e47, e48, (congrArg Value.bool (dec_or (not_not_intro hc6)))⟩
                · refine lf_not (wantNot (d := 61) rfl (by kernel_rfl) rfl (congrArg Value.bool (decide_eq_true hc6))) ?_
                  refine lf_val (v := .bool true) (wantAll rfl) (rv_pickT rfl (fr_eval rfl (congrArg Value.bool (decide_eq_true hc6))) rfl) ?_
                  exact hk _ ⟨e0, e2, e3, e6, e7, e8, e19, e20, e21, e22, e29, e34, e35, e36, e37, e45, e47, e48, (congrArg Value.bool (dec_orT hc6))⟩
              · clear e0 e2 e3 e6 e7 e8 e19 e20 e21 e22 e29 e34 e35 e36 e37 e45 e47 e48
                clear F
                rintro F ⟨e0, e2, e3, e6, e7, e8, e19, e20, e21, e22, e29, e34, e35, e36, e37, e45, e47, e48, e63⟩
                refine lf_val (wantAll rfl) (rv_assign rfl (fr_eval rfl e63)) ?_
                refine lf_nil ?_
                refine blk_n ?_
                refine blk_n ?_
                refine then_n ?_
                refine wp_gen (fun F' => F' 0 = .pointer (some ⟨g, 0, none⟩) ∧ F' 2 = .slice none 0 0 ∧ F' 3 = y1 ∧ F' 6 = .bool (decide ((¬ gb (List.set (opTo ns h i) (((List.getD ns i zN).a).toNat) true) (((List.getD ns i zN).b).toNat) = true) ∨ ((¬ gb (opTo ns h i) (((List.getD ns i zN).a).toNat) = true) ∨ (¬ opTo ns h i = h)))) ∧ F' 7 = .int .i64 ((i : Nat) : Int) ∧ F' 8 = .pointer (some ⟨g1, 0, none⟩) ∧ F' 19 = kv ∧ F' 20 = .int .i64 ((kn.length : Nat) : Int) ∧ F' 21 = .int .i64 ((jj : Nat) : Int) ∧ F' 22 = .bool false ∧ F' 29 = .bool true ∧ F' 34 = v ∧ F' 35 = .int .i64 ((ns.length : Nat) : Int) ∧ F' 36 = .int .i64 ((i : Nat) : Int) ∧ F' 37 = .bool true ∧ F' 45 = .bool false ∧ F' 47 = .int .i64 ((List.getD ns i zN).k) ∧ F' 48 = .bool true) ⟨e0, e2, e3, rfl, e7, e8, e19, e20, e21, e22, e29, e34, e35, e36, e37, e45, e47, e48⟩ ?_
                clear e0 e2 e3 e6 e7 e8 e19 e20 e21 e22 e29 e34 e35 e36 e37 e45 e47 e48 e63
                clear F
                rintro F ⟨e0, e2, e3, e6, e7, e8, e19, e20, e21, e22, e29, e34, e35, e36, e37, e45, e47, e48⟩
                refine wp_regionF ?_
                refine lf_val (v := .int .i64 ((i + 1 : Nat) : Int)) (wantAll rfl) (rv_add rfl (fr_eval rfl e36) rfl (wrap_i64 (by omega) (by omega) (by omega))) ?_
                refine lf_val (v := .int .i64 ((i + 1 : Nat) : Int)) (wantAll rfl) (rv_move rfl (fr_eval rfl rfl)) ?_
                refine lf_nil ?_
                refine then_n ?_
                have hst := opStep_2 (ns := ns) hc3 hc4
                rw [show List.set (List.set (opTo ns h i) (((List.getD ns i zN).a).toNat) true) (((List.getD ns i zN).b).toNat) true = opTo ns h (i + 1) from hst.symm] at hH
                replace hH : Heap _ _ _ [_] := hH.drop (.cons _ (.cons_cons _ .slnil))
                exact ⟨_, _, (by omega), rfl, i + 1, rfl, (by omega), e0, e2, e3, (e6.trans (congrArg Value.bool (dec_iff (more2 (by omega) (by omega) hst)))), e19, e20, e21, e22, e29, e34, e35, rfl, hH⟩
          · refine wp_cond_false (fr_eval rfl (e48.trans (congrArg Value.bool (decide_eq_false hc4)))) ?_
            refine wp_seq ?_
            refine wp_regionF ?_
            refine lf_val (v := .bool (decide ((List.getD ns i zN).k = 4))) (wantAll rfl) (rv_eqlP (p := (List.getD ns i zN).k = 4) rfl (fr_eval rfl e47) rfl Iff.rfl) ?_
            refine lf_val (v := .bool (decide ((List.getD ns i zN).k = 4))) (wantAll rfl) (rv_assign rfl (fr_eval rfl rfl)) ?_
            refine lf_nil ?_
            refine then_n ?_
            refine wp_gen (fun F' => F' 0 = .pointer (some ⟨g, 0, none⟩) ∧ F' 2 = .slice none 0 0 ∧ F' 3 = y1 ∧ F' 6 = .bool (decide (¬ opTo ns h i = h)) ∧ F' 7 = .int .i64 ((i : Nat) : Int) ∧ F' 8 = .pointer (some ⟨g1, 0, none⟩) ∧ F' 19 = kv ∧ F' 20 = .int .i64 ((kn.length : Nat) : Int) ∧ F' 21 = .int .i64 ((jj : Nat) : Int) ∧ F' 22 = .bool false ∧ F' 29 = .bool true ∧ F' 34 = v ∧ F' 35 = .int .i64 ((ns.length : Nat) : Int) ∧ F' 36 = .int .i64 ((i : Nat) : Int) ∧ F' 37 = .bool true ∧ F' 45 = .bool false ∧ F' 47 = .int .i64 ((List.getD ns i zN).k) ∧ F' 48 = .bool false ∧ F' 64 = .bool (decide ((List.getD ns i zN).k = 4))) ⟨e0, e2, e3, e6, e7, e8, e19, e20, e21, e22, e29, e34, e35, e36, e37, e45, e47, (e48.trans (congrArg Value.bool (decide_eq_false hc4))), rfl⟩ ?_
            clear e0 e2 e3 e6 e7 e8 e19 e20 e21 e22 e29 e34 e35 e36 e37 e45 e47 e48
            clear F
            rintro F ⟨e0, e2, e3, e6, e7, e8, e19, e20, e21, e22, e29, e34, e35, e36, e37, e45, e47, e48, e64⟩
            by_cases hc7 : (List.getD ns i zN).k = 4
            · refine wp_cond_true (fr_eval rfl (e64.trans (congrArg Value.bool (decide_eq_true hc7)))) ?_
              refine wp_regionF ?_
              refine lf_val (v := y1) (wantAll rfl) (rv_move rfl (fr_eval rfl e3)) ?_
              refine lf_val (v := .pointer (some ⟨g1, 2, none⟩)) (wantAll rfl) (rv_fieldAddr (n := 0) rfl (fr_eval rfl e8) Try.underlying40 rfl rfl (by kernel_rfl)) ?_
              refine lf_val (v := .int .i64 ((List.getD ns i zN).b)) (wantAll rfl) (rv_load1 rfl (hH.blk (i := 1) rfl) zMi_g4 (fr_eval rfl rfl) Try.underlying3 rfl Try.sz3) ?_
              replace hH : Heap _ _ _ [_, _] := hH.perm (.trans (.swap _ _ _) (.cons _ (.refl _)))
              refine lf_call (wantAll rfl) (rv_call (args := [y1, .int .i64 ((((List.getD ns i zN).b).toNat : Nat) : Int)]) rfl (evc (fr_eval rfl rfl) (evc (((fr_eval rfl rfl)).trans (congrArg (Value.int .i64) (Int.toNat_of_nonneg (by omega)).symm)) evn)) Try.call20) (set_calls (opTo ns h i) (((List.getD ns i zN).b).toNat) (by simp only [List.length_set, opTo_len]; omega) _ (Heap.part (L := [_]) (M := [_]) hH)) ?_
              rintro _ w11 ⟨rfl, hP⟩
              refine ⟨_, rfl, ?_⟩
              have hx := hH.callChg (L := [_]) (M := [_]) (fun _ h => h) hP
              replace hH : Heap _ _ _ [_, _] := hH.call (L := [_]) (M := [_]) (fun _ h => h) hP (Stays.own (hP.own (i := 0) rfl) Stays.nil)
              clear hP
              clear hx
              refine lf_val (v := .bool (decide (¬ gb (opTo ns h i) (((List.getD ns i zN).b).toNat) = true))) (wantAll rfl) (rv_move rfl (fr_eval rfl rfl)) ?_
              refine lf_joinP (fun F' => F' 0 = .pointer (some ⟨g, 0, none⟩) ∧ F' 2 = .slice none 0 0 ∧ F' 3 = y1 ∧ F' 6 = .bool (decide (¬ opTo ns h i = h)) ∧ F' 7 = .int .i64 ((i : Nat) : Int) ∧ F' 8 = .pointer (some ⟨g1, 0, none⟩) ∧ F' 19 = kv ∧ F' 20 = .int .i64 ((kn.length : Nat) : Int) ∧ F' 21 = .int .i64 ((jj : Nat) : Int) ∧ F' 22 = .bool false ∧ F' 29 = .bool true ∧ F' 34 = v ∧ F' 35 = .int .i64 ((ns.length : Nat) : Int) ∧ F' 36 = .int .i64 ((i : Nat) : Int) ∧ F' 37 = .bool true ∧ F' 45 = .bool false ∧ F' 47 = .int .i64 ((List.getD ns i zN).k) ∧ F' 48 = .bool false ∧ F' 64 = .bool true ∧ F' 72 = .bool (decide ((¬ gb (opTo ns h i) (((List.getD ns i zN).b).toNat) = true) ∨ (¬ opTo ns h i = h)))) 2 (fun hk => ?_) ?_
              · by_cases hc8 : gb (opTo ns h i) (((List.getD ns i zN).b).toNat) = true
                · refine lf_val (v := .bool (decide (¬ opTo ns h i = h))) (wantF (d := 70) rfl (by kernel_rfl) rfl (congrArg Value.bool (decide_eq_false (not_not_intro hc8)))) (rv_move rfl (fr_eval rfl e6)) ?_
                  refine lf_val (v := .bool (decide (¬ opTo ns h i = h))) (wantAll rfl) (rv_pickF rfl (fr_eval rfl (congrArg Value.bool (decide_eq_false (not_not_intro hc8)))) (fr_eval rfl rfl)) ?_
                  exact hk _ ⟨e0, e2, e3, e6, e7, e8, e19, e20, e21, e22, e29, e34, e35, e36, e37, e45, e47, e48, (e64.trans (congrArg Value.bool (decide_eq_true hc7))), (congrArg Value.bool (dec_or (not_not_intro hc8)))⟩
                · refine lf_not (wantNot (d := 70) rfl (by kernel_rfl) rfl (congrArg Value.bool (decide_eq_true hc8))) ?_
                  refine lf_val (v := .bool true) (wantAll rfl) (rv_pickT rfl (fr_eval rfl (congrArg Value.bool (decide_eq_true hc8))) rfl) ?_
                  exact hk _ ⟨e0, e2, e3, e6, e7, e8, e19, e20, e21, e22, e29, e34, e35, e36, e37, e45, e47, e48, (e64.trans (congrArg Value.bool (decide_eq_true hc7))), (congrArg Value.bool (dec_orT hc8))⟩
              · clear e0 e2 e3 e6 e7 e8 e19 e20 e21 e22 e29 e34 e35 e36 e37 e45 e47 e48 e64
                clear F
                rintro F ⟨e0, e2, e3, e6, e7, e8, e19, e20, e21, e22, e29, e34, e35, e36, e37, e45, e47, e48, e64, e72⟩
                refine lf_val (wantAll rfl) (rv_assign rfl (fr_eval rfl e72)) ?_
                refine lf_nil ?_
                refine blk_n ?_
                refine blk_n ?_
                refine then_n ?_
                refine wp_gen (fun F' => F' 0 = .pointer (some ⟨g, 0, none⟩) ∧ F' 2 = .slice none 0 0 ∧ F' 3 = y1 ∧ F' 6 = .bool (decide ((¬ gb (opTo ns h i) (((List.getD ns i zN).b).toNat) = true) ∨ (¬ opTo ns h i = h))) ∧ F' 7 = .int .i64 ((i : Nat) : Int) ∧ F' 8 = .pointer (some ⟨g1, 0, none⟩) ∧ F' 19 = kv ∧ F' 20 = .int .i64 ((kn.length : Nat) : Int) ∧ F' 21 = .int .i64 ((jj : Nat) : Int) ∧ F' 22 = .bool false ∧ F' 29 = .bool true ∧ F' 34 = v ∧ F' 35 = .int .i64 ((ns.length : Nat) : Int) ∧ F' 36 = .int .i64 ((i : Nat) : Int) ∧ F' 37 = .bool true ∧ F' 45 = .bool false ∧ F' 47 = .int .i64 ((List.getD ns i zN).k) ∧ F' 48 = .bool false ∧ F' 64 = .bool true) ⟨e0, e2, e3, rfl, e7, e8, e19, e20, e21, e22, e29, e34, e35, e36, e37, e45, e47, e48, e64⟩ ?_
                clear e0 e2 e3 e6 e7 e8 e19 e20 e21 e22 e29 e34 e35 e36 e37 e45 e47 e48 e64 e72
                clear F
                rintro F ⟨e0, e2, e3, e6, e7, e8, e19, e20, e21, e22, e29, e34, e35, e36, e37, e45, e47, e48, e64⟩
                refine wp_regionF ?_
                refine lf_val (v := .int .i64 ((i + 1 : Nat) : Int)) (wantAll rfl) (rv_add rfl (fr_eval rfl e36) rfl (wrap_i64 (by omega) (by omega) (by omega))) ?_
                refine lf_val (v := .int .i64 ((i + 1 : Nat) : Int)) (wantAll rfl) (rv_move rfl (fr_eval rfl rfl)) ?_
                refine lf_nil ?_
                refine then_n ?_
                have hst := opStep_4 (ns := ns) hc3 hc7
                rw [show List.set (opTo ns h i) (((List.getD ns i zN).b).toNat) true = opTo ns h (i + 1) from hst.symm] at hH
                replace hH : Heap _ _ _ [_] := hH.drop (.cons _ (.cons_cons _ .slnil))
                exact ⟨_, _, (by omega), rfl, i + 1, rfl, (by omega), e0, e2, e3, (e6.trans (congrArg Value.bool (dec_iff (more1 (by omega) hst)))), e19, e20, e21, e22, e29, e34, e35, rfl, hH⟩
            · refine wp_cond_false (fr_eval rfl (e64.trans (congrArg Value.bool (decide_eq_false hc7)))) ?_
              refine wp_seq ?_
              refine wp_regionF ?_
              refine lf_val (v := .bool (decide ((List.getD ns i zN).k = 5))) (wantAll rfl) (rv_eqlP (p := (List.getD ns i zN).k = 5) rfl (fr_eval rfl e47) rfl Iff.rfl) ?_
              refine lf_val (v := .bool (decide ((List.getD ns i zN).k = 5))) (wantAll rfl) (rv_assign rfl (fr_eval rfl rfl)) ?_
              refine lf_nil ?_
              refine then_n ?_
              refine wp_gen (fun F' => F' 0 = .pointer (some ⟨g, 0, none⟩) ∧ F' 2 = .slice none 0 0 ∧ F' 3 = y1 ∧ F' 6 = .bool (decide (¬ opTo ns h i = h)) ∧ F' 7 = .int .i64 ((i : Nat) : Int) ∧ F' 8 = .pointer (some ⟨g1, 0, none⟩) ∧ F' 19 = kv ∧ F' 20 = .int .i64 ((kn.length : Nat) : Int) ∧ F' 21 = .int .i64 ((jj : Nat) : Int) ∧ F' 22 = .bool false ∧ F' 29 = .bool true ∧ F' 34 = v ∧ F' 35 = .int .i64 ((ns.length : Nat) : Int) ∧ F' 36 = .int .i64 ((i : Nat) : Int) ∧ F' 37 = .bool true ∧ F' 45 = .bool false ∧ F' 47 = .int .i64 ((List.getD ns i zN).k) ∧ F' 48 = .bool false ∧ F' 64 = .bool false ∧ F' 73 = .bool (decide ((List.getD ns i zN).k = 5))) ⟨e0, e2, e3, e6, e7, e8, e19, e20, e21, e22, e29, e34, e35, e36, e37, e45, e47, e48, (e64.trans (congrArg Value.bool (decide_eq_false hc7))), rfl⟩ ?_
              clear e0 e2 e3 e6 e7 e8 e19 e20 e21 e22 e29 e34 e35 e36 e37 e45 e47 e48 e64
              clear F
              rintro F ⟨e0, e2, e3, e6, e7, e8, e19, e20, e21, e22, e29, e34, e35, e36, e37, e45, e47, e48, e64, e73⟩
              by_cases hc9 : (List.getD ns i zN).k = 5
              · refine wp_cond_true (fr_eval rfl (e73.trans (congrArg Value.bool (decide_eq_true hc9)))) ?_
                refine wp_seq ?_
                refine wp_regionX (fun _ => False) 5 (by kernel_rfl) (by kernel_rfl) ?_
                refine xl_take (i := 0) (v := .pointer (some ⟨g, 0, none⟩)) rfl (by kernel_rfl) (by kernel_rfl) (by kernel_rfl) (by kernel_rfl) (yx_val (wantAll rfl) (fun w' hx' => rv_move rfl (fr_eval rfl e0))) ?_
                refine xl_take (i := 1) (v := y1) rfl (by kernel_rfl) (by kernel_rfl) (by kernel_rfl) (by kernel_rfl) (yx_val (wantAll rfl) (fun w' hx' => rv_move rfl (fr_eval rfl e3))) ?_
                refine xl_take (i := 3) (v := .pointer (some ⟨g1, 1, none⟩)) rfl (by kernel_rfl) (by kernel_rfl) (by kernel_rfl) (by kernel_rfl) (yx_val (wantAll rfl) (fun w' hx' => rv_fieldAddr (n := 0) rfl (fr_eval rfl e8) Try.underlying40 rfl rfl (by kernel_rfl))) ?_
                refine xl_take (i := 4) (v := .int .i64 ((List.getD ns i zN).a)) rfl (by kernel_rfl) (by kernel_rfl) (by kernel_rfl) (by kernel_rfl) (yx_val (wantAll rfl) (fun w' hx' => rv_load1 rfl ((hH.ext hx').blk (i := 1) rfl) zMi_g3 (fr_eval rfl rfl) Try.underlying3 rfl Try.sz3)) ?_
                refine anyX_ready (rs := [2]) (by kernel_rfl) ?_
                intro w12 hx
                replace hH := hH.ext hx
                clear hx
                refine (anyX_cons ?_ anyX_nil)
                refine xl_step (i := 2) rfl (wantAll rfl) ?_
                refine of_call (rv_call (args := [.pointer (some ⟨g, 0, none⟩), y1]) rfl (evc (fr_eval rfl rfl) (evc (fr_eval rfl rfl) evn)) Try.call16) (make_calls ns (by omega) hb (opTo ns h i) ((opTo_len ns h i).trans ph0) _ _ (hB _ hH.chg) (hn.rd _ hH.chg) (Own.rd (hH.own (i := 0) rfl) (row_one cT_one))) ?_
                rintro _ w13 ⟨⟨y2, rfl, ho, hg⟩, hx⟩
                refine ⟨_, rfl, ?_⟩
                replace hH : Heap _ _ _ [_, _, _] := hH.addOwn hx hg ho
                clear ho hg
                refine ⟨hx, ?_⟩
                clear hx
                refine xl_tail (s := 5) rfl ?_
                intro w14 hx
                replace hH := hH.ext hx
                clear hx
                refine lf_val (v := .pointer (some (elemA y2 ((((List.getD ns i zN).a).toNat) * 1)))) (wantAll rfl) (rv_index rfl (fr_eval rfl rfl) (((fr_eval rfl rfl)).trans (congrArg (Value.int .i64) (Int.toNat_of_nonneg (by omega)).symm)) (rdN (Own.rd (hH.own (i := 2) rfl) (row_one cT_one)) rfl) (show ((List.getD ns i zN).a).toNat < (mkL ns (opTo ns h i)).length from (by simp only [mkRow_len, opTo_len]; omega)) Try.underlying48 Try.sz4 (by decide)) ?_
                refine lf_val (wantAll rfl) (rv_loadCell rfl (fr_eval rfl rfl) (Nat.mul_one _) (Own.rd (hH.own (i := 2) rfl) (row_one cT_one)) (flat_get1 false cT_len (show ((List.getD ns i zN).a).toNat < (mkL ns (opTo ns h i)).length from (by simp only [mkRow_len, opTo_len]; omega)) (cT_dec _)) Try.underlying4 rfl Try.sz4) ?_
                refine lf_nil ?_
                refine then_n ?_
                replace hH : Heap _ _ _ [_, _] := hH.drop (.cons_cons _ (.cons_cons _ (.cons _ .slnil)))
                refine wp_gen (fun F' => F' 0 = .pointer (some ⟨g, 0, none⟩) ∧ F' 2 = .slice none 0 0 ∧ F' 3 = y1 ∧ F' 6 = .bool (decide (¬ opTo ns h i = h)) ∧ F' 7 = .int .i64 ((i : Nat) : Int) ∧ F' 8 = .pointer (some ⟨g1, 0, none⟩) ∧ F' 19 = kv ∧ F' 20 = .int .i64 ((kn.length : Nat) : Int) ∧ F' 21 = .int .i64 ((jj : Nat) : Int) ∧ F' 22 = .bool false ∧ F' 29 = .bool true ∧ F' 34 = v ∧ F' 35 = .int .i64 ((ns.length : Nat) : Int) ∧ F' 36 = .int .i64 ((i : Nat) : Int) ∧ F' 37 = .bool true ∧ F' 45 = .bool false ∧ F' 47 = .int .i64 ((List.getD ns i zN).k) ∧ F' 48 = .bool false ∧ F' 64 = .bool false ∧ F' 73 = .bool true ∧ F' 81 = .bool (decide ((List.getD (mkL ns (opTo ns h i)) (((List.getD ns i zN).a).toNat) false) = true))) ⟨e0, e2, e3, e6, e7, e8, e19, e20, e21, e22, e29, e34, e35, e36, e37, e45, e47, e48, e64, (e73.trans (congrArg Value.bool (decide_eq_true hc9))), rfl⟩ ?_
                clear e0 e2 e3 e6 e7 e8 e19 e20 e21 e22 e29 e34 e35 e36 e37 e45 e47 e48 e64 e73
                clear F
                rintro F ⟨e0, e2, e3, e6, e7, e8, e19, e20, e21, e22, e29, e34, e35, e36, e37, e45, e47, e48, e64, e73, e81⟩
                by_cases hc10 : (List.getD (mkL ns (opTo ns h i)) (((List.getD ns i zN).a).toNat) false) = true
                · refine wp_cond_true (fr_eval rfl (e81.trans (congrArg Value.bool (decide_eq_true hc10)))) ?_
                  refine wp_regionF ?_
                  refine lf_val (v := y1) (wantAll rfl) (rv_move rfl (fr_eval rfl e3)) ?_
                  refine lf_val (v := .pointer (some ⟨g1, 2, none⟩)) (wantAll rfl) (rv_fieldAddr (n := 0) rfl (fr_eval rfl e8) Try.underlying40 rfl rfl (by kernel_rfl)) ?_
                  refine lf_val (v := .int .i64 ((List.getD ns i zN).b)) (wantAll rfl) (rv_load1 rfl (hH.blk (i := 1) rfl) zMi_g4 (fr_eval rfl rfl) Try.underlying3 rfl Try.sz3) ?_
                  replace hH : Heap _ _ _ [_, _] := hH.perm (.trans (.swap _ _ _) (.cons _ (.refl _)))
                  refine lf_call (wantAll rfl) (rv_call (args := [y1, .int .i64 ((((List.getD ns i zN).b).toNat : Nat) : Int)]) rfl (evc (fr_eval rfl rfl) (evc (((fr_eval rfl rfl)).trans (congrArg (Value.int .i64) (Int.toNat_of_nonneg (by omega)).symm)) evn)) Try.call20) (set_calls (opTo ns h i) (((List.getD ns i zN).b).toNat) (by simp only [List.length_set, opTo_len]; omega) _ (Heap.part (L := [_]) (M := [_]) hH)) ?_
                  rintro _ w15 ⟨rfl, hP⟩
                  refine ⟨_, rfl, ?_⟩
                  have hx := hH.callChg (L := [_]) (M := [_]) (fun _ h => h) hP
                  replace hH : Heap _ _ _ [_, _] := hH.call (L := [_]) (M := [_]) (fun _ h => h) hP (Stays.own (hP.own (i := 0) rfl) Stays.nil)
                  clear hP
                  clear hx
                  refine lf_val (v := .bool (decide (¬ gb (opTo ns h i) (((List.getD ns i zN).b).toNat) = true))) (wantAll rfl) (rv_move rfl (fr_eval rfl rfl)) ?_
                  refine lf_joinP (fun F' => F' 0 = .pointer (some ⟨g, 0, none⟩) ∧ F' 2 = .slice none 0 0 ∧ F' 3 = y1 ∧ F' 6 = .bool (decide (¬ opTo ns h i = h)) ∧ F' 7 = .int .i64 ((i : Nat) : Int) ∧ F' 8 = .pointer (some ⟨g1, 0, none⟩) ∧ F' 19 = kv ∧ F' 20 = .int .i64 ((kn.length : Nat) : Int) ∧ F' 21 = .int .i64 ((jj : Nat) : Int) ∧ F' 22 = .bool false ∧ F' 29 = .bool true ∧ F' 34 = v ∧ F' 35 = .int .i64 ((ns.length : Nat) : Int) ∧ F' 36 = .int .i64 ((i : Nat) : Int) ∧ F' 37 = .bool true ∧ F' 45 = .bool false ∧ F' 47 = .int .i64 ((List.getD ns i zN).k) ∧ F' 48 = .bool false ∧ F' 64 = .bool false ∧ F' 73 = .bool true ∧ F' 81 = .bool true ∧ F' 88 = .bool (decide ((¬ gb (opTo ns h i) (((List.getD ns i zN).b).toNat) = true) ∨ (¬ opTo ns h i = h)))) 2 (fun hk => ?_) ?_
                  · by_cases hc11 : gb (opTo ns h i) (((List.getD ns i zN).b).toNat) = true
                    · refine lf_val (v := .bool (decide (¬ opTo ns h i = h))) (wantF (d := 86) rfl (by kernel_rfl) rfl (congrArg Value.bool (decide_eq_false (not_not_intro hc11)))) (rv_move rfl (fr_eval rfl e6)) ?_
                      refine lf_val (v := .bool (decide (¬ opTo ns h i = h))) (wantAll rfl) (rv_pickF rfl (fr_eval rfl (congrArg Value.bool (decide_eq_false (not_not_intro hc11)))) (fr_eval rfl rfl)) ?_
                      exact hk _ ⟨e0, e2, e3, e6, e7, e8, e19, e20, e21, e22, e29, e34, e35, e36, e37, e45, e47, e48, e64, e73, (e81.trans (congrArg Value.bool (decide_eq_true hc10))), (congrArg Value.bool (dec_or (not_not_intro hc11)))⟩
                    · refine lf_not (wantNot (d := 86) rfl (by kernel_rfl) rfl (congrArg Value.bool (decide_eq_true hc11))) ?_
                      refine lf_val (v := .bool true) (wantAll rfl) (rv_pickT rfl (fr_eval rfl (congrArg Value.bool (decide_eq_true hc11))) rfl) ?_
                      exact hk _ ⟨e0, e2, e3, e6, e7, e8, e19, e20, e21, e22, e29, e34, e35, e36, e37, e45, e47, e48, e64, e73, (e81.trans (congrArg Value.bool (decide_eq_true hc10))), (congrArg Value.bool (dec_orT hc11))⟩
                  · clear e0 e2 e3 e6 e7 e8 e19 e20 e21 e22 e29 e34 e35 e36 e37 e45 e47 e48 e64 e73 e81
                    clear F
                    rintro F ⟨e0, e2, e3, e6, e7, e8, e19, e20, e21, e22, e29, e34, e35, e36, e37, e45, e47, e48, e64, e73, e81, e88⟩
                    refine lf_val (wantAll rfl) (rv_assign rfl (fr_eval rfl e88)) ?_
                    refine lf_nil ?_
                    refine blk_n ?_
                    refine blk_n ?_
                    refine then_n ?_
                    refine wp_gen (fun F' => F' 0 = .pointer (some ⟨g, 0, none⟩) ∧ F' 2 = .slice none 0 0 ∧ F' 3 = y1 ∧ F' 6 = .bool (decide ((¬ gb (opTo ns h i) (((List.getD ns i zN).b).toNat) = true) ∨ (¬ opTo ns h i = h))) ∧ F' 7 = .int .i64 ((i : Nat) : Int) ∧ F' 8 = .pointer (some ⟨g1, 0, none⟩) ∧ F' 19 = kv ∧ F' 20 = .int .i64 ((kn.length : Nat) : Int) ∧ F' 21 = .int .i64 ((jj : Nat) : Int) ∧ F' 22 = .bool false ∧ F' 29 = .bool true ∧ F' 34 = v ∧ F' 35 = .int .i64 ((ns.length : Nat) : Int) ∧ F' 36 = .int .i64 ((i : Nat) : Int) ∧ F' 37 = .bool true ∧ F' 45 = .bool false ∧ F' 47 = .int .i64 ((List.getD ns i zN).k) ∧ F' 48 = .bool false ∧ F' 64 = .bool false ∧ F' 73 = .bool true ∧ F' 81 = .bool true) ⟨e0, e2, e3, rfl, e7, e8, e19, e20, e21, e22, e29, e34, e35, e36, e37, e45, e47, e48, e64, e73, e81⟩ ?_
                    clear e0 e2 e3 e6 e7 e8 e19 e20 e21 e22 e29 e34 e35 e36 e37 e45 e47 e48 e64 e73 e81 e88
                    clear F
                    rintro F ⟨e0, e2, e3, e6, e7, e8, e19, e20, e21, e22, e29, e34, e35, e36, e37, e45, e47, e48, e64, e73, e81⟩
                    refine wp_regionF ?_
                    refine lf_val (v := .int .i64 ((i + 1 : Nat) : Int)) (wantAll rfl) (rv_add rfl (fr_eval rfl e36) rfl (wrap_i64 (by omega) (by omega) (by omega))) ?_
                    refine lf_val (v := .int .i64 ((i + 1 : Nat) : Int)) (wantAll rfl) (rv_move rfl (fr_eval rfl rfl)) ?_
                    refine lf_nil ?_
                    refine then_n ?_
                    have hst := opStep_5 (ns := ns) hc3 hc9 hc10
                    rw [show List.set (opTo ns h i) (((List.getD ns i zN).b).toNat) true = opTo ns h (i + 1) from hst.symm] at hH
                    replace hH : Heap _ _ _ [_] := hH.drop (.cons _ (.cons_cons _ .slnil))
                    exact ⟨_, _, (by omega), rfl, i + 1, rfl, (by omega), e0, e2, e3, (e6.trans (congrArg Value.bool (dec_iff (more1 (by omega) hst)))), e19, e20, e21, e22, e29, e34, e35, rfl, hH⟩
                · refine wp_cond_false (fr_eval rfl (e81.trans (congrArg Value.bool (decide_eq_false hc10)))) ?_
                  refine wp_skip ?_
                  refine blk_n ?_
                  refine blk_n ?_
                  refine then_n ?_
                  refine wp_regionF ?_
                  refine lf_val (v := .int .i64 ((i + 1 : Nat) : Int)) (wantAll rfl) (rv_add rfl (fr_eval rfl e36) rfl (wrap_i64 (by omega) (by omega) (by omega))) ?_
                  refine lf_val (v := .int .i64 ((i + 1 : Nat) : Int)) (wantAll rfl) (rv_move rfl (fr_eval rfl rfl)) ?_
                  refine lf_nil ?_
                  refine then_n ?_
                  have hst := opStep_5n (ns := ns) hc3 hc9 hc10
                  rw [show opTo ns h i = opTo ns h (i + 1) from hst.symm] at hH
                  replace hH : Heap _ _ _ [_] := hH.drop (.cons_cons _ (.cons _ .slnil))
                  exact ⟨_, _, (by omega), rfl, i + 1, rfl, (by omega), e0, e2, e3, (e6.trans (congrArg Value.bool (dec_iff (more0 hst)))), e19, e20, e21, e22, e29, e34, e35, rfl, hH⟩
              · refine wp_cond_false (fr_eval rfl (e73.trans (congrArg Value.bool (decide_eq_false hc9)))) ?_
                refine wp_skip ?_
                refine blk_n ?_
                refine blk_n ?_
                refine then_n ?_
                refine wp_regionF ?_
                refine lf_val (v := .int .i64 ((i + 1 : Nat) : Int)) (wantAll rfl) (rv_add rfl (fr_eval rfl e36) rfl (wrap_i64 (by omega) (by omega) (by omega))) ?_
                refine lf_val (v := .int .i64 ((i + 1 : Nat) : Int)) (wantAll rfl) (rv_move rfl (fr_eval rfl rfl)) ?_
                refine lf_nil ?_
                refine then_n ?_
                have hst := opStep_no (ns := ns) hc3 hc4 hc7 hc9
                rw [show opTo ns h i = opTo ns h (i + 1) from hst.symm] at hH
                replace hH : Heap _ _ _ [_] := hH.drop (.cons_cons _ (.cons _ .slnil))
                exact ⟨_, _, (by omega), rfl, i + 1, rfl, (by omega), e0, e2, e3, (e6.trans (congrArg Value.bool (dec_iff (more0 hst)))), e19, e20, e21, e22, e29, e34, e35, rfl, hH⟩
        · refine wp_cond_true (fr_eval rfl (e45.trans (congrArg Value.bool (decide_eq_true hc3)))) ?_
          refine wp_exit ?_
          refine then_exit ?_
          refine blk_exit ?_
          refine then_n ?_
          refine wp_regionF ?_
          refine lf_val (v := .int .i64 ((i + 1 : Nat) : Int)) (wantAll rfl) (rv_add rfl (fr_eval rfl e36) rfl (wrap_i64 (by omega) (by omega) (by omega))) ?_
          refine lf_val (v := .int .i64 ((i + 1 : Nat) : Int)) (wantAll rfl) (rv_move rfl (fr_eval rfl rfl)) ?_
          refine lf_nil ?_
          refine then_n ?_
          have hst := opStep_off (ns := ns) hc3
          rw [show opTo ns h i = opTo ns h (i + 1) from hst.symm] at hH
          replace hH : Heap _ _ _ [_] := hH.drop (.cons_cons _ (.cons _ .slnil))
          exact ⟨_, _, (by omega), rfl, i + 1, rfl, (by omega), e0, e2, e3, (e6.trans (congrArg Value.bool (dec_iff (more0 hst)))), e19, e20, e21, e22, e29, e34, e35, rfl, hH⟩
      · refine wp_cond_false (fr_eval rfl (e37.trans (congrArg Value.bool (decide_eq_false hc2)))) ?_
        refine wp_exit ?_
        refine then_exit ?_
        refine then_exit ?_
        refine blk_exit ?_
        refine blk_n ?_
        refine then_n ?_
        obtain rfl : i = ns.length := by omega
        exact ⟨_, _, (meas_lt), rfl, _, _, rfl, ((opTo_len ns h _).trans ph0), (opTo_sound hb ph0 ph1 _ (Nat.le_refl _)), (fun k hk => (opTo_le ns h 0 _ (Nat.zero_le _)).le k (ph2 k hk)), done_step, e0, e2, e3, e6, e19, e20, e21, e22, hH⟩

end Go.Proofs.Ytdlliajghfflnaa
