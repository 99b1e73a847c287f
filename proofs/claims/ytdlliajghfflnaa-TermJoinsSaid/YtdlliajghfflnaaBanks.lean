/- Banks: the walks of set, one and Into. -/
import Derived.Test.YtdlliajghfflnaaTerms
namespace Go.Proofs.Ytdlliajghfflnaa
open Go.RowKit Go.Bz Go.Bz.Term
attribute [local irreducible] wpList Code.wp wpAnyX
/-- The numbers on the way. -/
def idsAt (ns t : List Nd) (i : Nat) : List Nat := (into ns [] (t.take i)).2 ++ List.replicate (t.length - i) 0
def bnk (ns t : List Nd) (i : Nat) : List Nd := (into ns [] (t.take i)).1
theorem idsIn_len (ns t : List Nd) {i : Nat} (h : i ≤ t.length) : (into ns [] (t.take i)).2.length = i := by rw [into_len]; simp; omega
theorem idsAt_len (ns t : List Nd) {i : Nat} (h : i ≤ t.length) : (idsAt ns t i).length = t.length := by simp [idsAt, idsIn_len ns t h]; omega
theorem idsAt_get {ns t : List Nd} {i a : Nat} (h : i ≤ t.length) (ha : a < i) : (idsAt ns t i).getD a 0 = (into ns [] (t.take i)).2.getD a 0 := getD_app_l (by rw [idsIn_len ns t h]; exact ha)
theorem idsAt_0 (ns t : List Nd) : List.replicate t.length 0 = idsAt ns t 0 := by simp [idsAt, into]
theorem bnk_0 (ns t : List Nd) : ns = bnk ns t 0 := by simp [bnk, into]
abbrev nodeAt (ns t : List Nd) (i : Nat) : Nd := subN (into ns [] (t.take i)).2 (t.getD i zN)
theorem bnk_next {ns t : List Nd} {i : Nat} (h : i < t.length) : (oneN (bnk ns t i) (nodeAt ns t i)).1 = bnk ns t (i + 1) := by unfold bnk; rw [into_next h]
theorem idsAt_next {ns t : List Nd} {i : Nat} (h : i < t.length) : (idsAt ns t i).set i (oneN (bnk ns t i) (nodeAt ns t i)).2 = idsAt ns t (i + 1) := by
  have hl := idsIn_len ns t (Nat.le_of_lt h)
  unfold idsAt bnk nodeAt
  rw [into_next h]
  obtain ⟨m, hm⟩ : ∃ m, t.length - i = m + 1 := ⟨t.length - i - 1, by omega⟩
  rw [hm, show t.length - (i + 1) = m by omega, List.replicate_succ]
  generalize (into ns [] (t.take i)).2 = A at *
  rw [List.set_append_right _ _ (by omega), hl, Nat.sub_self]
  simp
theorem bnk_end (ns t : List Nd) : bnk ns t t.length = bankT ns t := by unfold bnk; rw [List.take_length]
theorem ids_end (ns t : List Nd) : (idsAt ns t t.length).getD (t.length - 1) 0 = idT ns t := by simp [idsAt, idT, List.take_length]
theorem oneN_le (ns : List Nd) (n : Nd) : (oneN ns n).1.length ≤ ns.length + 1 := by unfold oneN; split <;> simp
theorem into_le (t : List Nd) : ∀ (ns : List Nd) (ids : List Nat), (into ns ids t).1.length ≤ ns.length + t.length := by
  induction t with
  | nil => intro ns ids; exact Nat.le_refl _
  | cons n t ih =>
    intro ns ids
    have h1 := ih (oneN ns (subN ids n)).1 (ids ++ [(oneN ns (subN ids n)).2])
    have h2 := oneN_le ns (subN ids n)
    rw [into]; simp only [List.length_cons]; omega
theorem bnk_le (ns t : List Nd) (i : Nat) : (bnk ns t i).length ≤ ns.length + i := by
  have := into_le (t.take i) ns []
  have h2 := List.length_take_le i t
  unfold bnk; omega
theorem bankT_le {ns t : List Nd} (ht : okT t) : (bankT ns t).length ≤ ns.length + 64 := by
  have := into_le t ns []
  have h2 := ht.2.1
  unfold bankT; omega
theorem oneN_new {ns : List Nd} {n : Nd} (h : ¬ n ∈ ns) : oneN ns n = (ns ++ [n], ns.length) := by unfold oneN; rw [if_neg h]

theorem zBa_g0 {a0 : Value} {a1 : Value} : ([a0, a1])[1]? = some a1 := rfl
theorem zBa_l1 {a0 : Value} {a1 : Value} {a2 : Value} : List.length ([a0, a1, a2]) = 3 := (show List.length [a0, a1, a2] = 3 from rfl)
theorem zBa_g2 {a0 : Value} {a1 : Value} : ([a0, a1])[0]? = some a0 := rfl
theorem zBa_g3 {a0 : Value} {a1 : Value} {a2 : Value} : ([a0, a1, a2])[1]? = some a1 := rfl
theorem zBa_g4 {a0 : Value} {a1 : Value} {a2 : Value} : ([a0, a1, a2])[0]? = some a0 := rfl
theorem zBa_o5 {a0 : Value} {a1 : Value} {a2 : Value} (qa0 : a0.oneCell' = true) (qa1 : a1.oneCell' = true) (qa2 : a2.oneCell' = true) : ∀ u ∈ ([a0, a1, a2]), u.oneCell' = true := (ones_cons qa0 (ones_cons qa1 (ones_cons qa2 ones_nil)))
theorem zBa_g6 {a0 : Value} {a1 : Value} {a2 : Value} : ([a0, a1, a2])[2]? = some a2 := rfl
set_option maxRecDepth 100000 in
set_option maxHeartbeats 4000000 in
theorem set_calls {K : Nat → Prop} {v : Value} (h : List Bool) (i : Nat) (hi : i < h.length) (w : World) (hh0 : Heap (newK w K) w w [oRow cT 4 1 v h]) :
    Calls Try.prog 20 #[v, .int .i64 ((i : Nat) : Int)] w fun e'' w' => e'' = .returned (.bool (decide (¬ gb h i = true))) ∧ Heap (newK w K) w w' [oRow cT 4 1 v (h.set i true)] := by
  refine calls_fr (args := [v, .int .i64 ((i : Nat) : Int)]) (n := 15) Try.func20 rfl rfl (show 2 ≤ 15 by decide) ?_
  have hH : Heap (newK w K) w w [oRow cT 4 1 v h] := hh0
  refine wp_seq ?_
  refine wp_gen (fun F' => F' 0 = v ∧ F' 1 = .int .i64 ((i : Nat) : Int)) ⟨rfl, rfl⟩ ?_
  rintro F ⟨e0, e1⟩
  refine wp_regionF ?_
  refine lf_val (v := .bool false) (wantAll rfl) (rv_assign rfl rfl) ?_
  refine lf_nil ?_
  refine then_n ?_
  refine wp_seq ?_
  refine wp_gen (fun F' => F' 0 = v ∧ F' 1 = .int .i64 ((i : Nat) : Int) ∧ F' 4 = .bool false) ⟨e0, e1, rfl⟩ ?_
  clear e0 e1
  clear F
  rintro F ⟨e0, e1, e4⟩
  refine wp_regionF ?_
  refine lf_val (v := v) (wantAll rfl) (rv_move rfl (fr_eval rfl e0)) ?_
  refine lf_val (v := .int .i64 ((i : Nat) : Int)) (wantAll rfl) (rv_move rfl (fr_eval rfl e1)) ?_
  refine lf_val (v := .pointer (some (elemA v (i * 1)))) (wantAll rfl) (rv_index rfl (fr_eval rfl rfl) (fr_eval rfl rfl) (rdN (Own.rd (hH.own (i := 0) rfl) (row_one cT_one)) rfl) (show i < h.length from (by omega)) Try.underlying48 Try.sz4 (by decide)) ?_
  refine lf_val (wantAll rfl) (rv_loadCell rfl (fr_eval rfl rfl) (Nat.mul_one _) (Own.rd (hH.own (i := 0) rfl) (row_one cT_one)) (flat_get1 false cT_len (show i < h.length from (by omega)) (cT_dec _)) Try.underlying4 rfl Try.sz4) ?_
  refine lf_val (v := .bool (decide ((List.getD h i false) = true))) (wantAll rfl) (rv_assign rfl (fr_eval rfl rfl)) ?_
  refine lf_nil ?_
  refine then_n ?_
  refine wp_seq ?_
  refine wp_gen (fun F' => F' 0 = v ∧ F' 1 = .int .i64 ((i : Nat) : Int) ∧ F' 4 = .bool false ∧ F' 5 = .bool (decide ((List.getD h i false) = true))) ⟨e0, e1, e4, rfl⟩ ?_
  clear e0 e1 e4
  clear F
  rintro F ⟨e0, e1, e4, e5⟩
  refine wp_regionF ?_
  refine lf_val (v := v) (wantAll rfl) (rv_move rfl (fr_eval rfl e0)) ?_
  refine lf_val (v := .int .i64 ((i : Nat) : Int)) (wantAll rfl) (rv_move rfl (fr_eval rfl e1)) ?_
  refine lf_val (v := .pointer (some (elemA v (i * 1)))) (wantAll rfl) (rv_index rfl (fr_eval rfl rfl) (fr_eval rfl rfl) (rdN (Own.rd (hH.own (i := 0) rfl) (row_one cT_one)) rfl) (show i < h.length from (by omega)) Try.underlying48 Try.sz4 (by decide)) ?_
  refine lf_sk (wantAll rfl) (hx_setC hH (i := 0) (nm := List.length (List.set h i true)) (j := i) (xs' := (List.set h i true).flatMap cT) rfl rfl rfl (List.length_set ..).symm (by omega) (flat_set1 cT_len rfl (by omega)) (fr_eval rfl rfl) rfl Try.sz4 rfl) ?_
  clear hH
  rintro w2 ⟨hH, hx⟩
  replace hH : Heap _ _ _ [_] := hH
  clear hx
  refine lf_nil ?_
  refine then_n ?_
  refine wp_seq ?_
  refine wp_gen (fun F' => F' 0 = v ∧ F' 1 = .int .i64 ((i : Nat) : Int) ∧ F' 4 = .bool false ∧ F' 5 = .bool (decide ((List.getD h i false) = true))) ⟨e0, e1, e4, e5⟩ ?_
  clear e0 e1 e4 e5
  clear F
  rintro F ⟨e0, e1, e4, e5⟩
  refine wp_regionF ?_
  refine lf_val (wantAll rfl) (rv_move rfl (fr_eval rfl e5)) ?_
  refine lf_val (v := .bool (decide (¬ ((List.getD h i false) = true)))) (wantAll rfl) (rv_notP (q := ¬ ((List.getD h i false) = true)) rfl (fr_eval rfl rfl) Iff.rfl) ?_
  refine lf_val (v := .bool (decide (¬ ((List.getD h i false) = true)))) (wantAll rfl) (rv_assign rfl (fr_eval rfl rfl)) ?_
  refine lf_nil ?_
  refine then_n ?_
  refine wp_gen (fun F' => F' 0 = v ∧ F' 1 = .int .i64 ((i : Nat) : Int) ∧ F' 4 = .bool (decide (¬ ((List.getD h i false) = true))) ∧ F' 5 = .bool (decide ((List.getD h i false) = true))) ⟨e0, e1, rfl, e5⟩ ?_
  clear e0 e1 e4 e5
  clear F
  rintro F ⟨e0, e1, e4, e5⟩
  refine wp_ret ?_
  exact bodyPost_ret (v := (.bool (decide (¬ ((List.getD h i false) = true))))) (res1 rfl (ro_tmp rfl e4)) rfl (⟨rfl, hH⟩)

set_option maxRecDepth 100000 in
set_option maxHeartbeats 4000000 in
theorem one_b {K : Nat → Prop} {g : Nat} {v : Value} {r : Nat} (ns : List Nd) (hn : ns.length ≤ 1000000) (n : Nd) (w : World) (hh0 : Heap (newK w K) w w [oBlk g ([v, .map (some r)]) 30, oRow cNd 40 3 v ns, oMp (some r) ns]) :
    Calls Try.prog 19 #[.pointer (some ⟨g, 0, none⟩), .agg #[.int .i64 n.k, .int .i64 n.a, .int .i64 n.b]] w fun e'' w' => ∃ v', e'' = .returned (.int .i64 (((oneN ns n).2 : Nat) : Int)) ∧ Heap (newK w K) w w' [oBlk g ([v', .map (some r)]) 30, oRow cNd 40 3 v' ((oneN ns n).1), oMp (some r) ((oneN ns n).1)] := by
  refine calls_fr (args := [.pointer (some ⟨g, 0, none⟩), .agg #[.int .i64 n.k, .int .i64 n.a, .int .i64 n.b]]) (n := 40) Try.func19 rfl rfl (show 2 ≤ 40 by decide) ?_
  have hH : Heap (newK w K) w w [oBlk g ([v, .map (some r)]) 30, oRow cNd 40 3 v ns, oMp (some r) ns] := hh0
  refine wp_seq ?_
  refine wp_gen (fun F' => F' 0 = .pointer (some ⟨g, 0, none⟩) ∧ F' 1 = .agg #[.int .i64 n.k, .int .i64 n.a, .int .i64 n.b]) ⟨rfl, rfl⟩ ?_
  rintro F ⟨e0, e1⟩
  refine wp_regionF ?_
  refine lf_ex (wantAll rfl) (hx_box hH 40 (cs := [.int .i64 n.k, .int .i64 n.a, .int .i64 n.b]) rfl (fr_eval rfl e1) (by rfl)) ?_
  clear hH
  rintro _ w1 ⟨g1, rfl, hH, hx⟩
  replace hH : Heap _ _ _ [_, _, _, _] := hH
  clear hx
  refine lf_val (v := .int .i64 0) (wantAll rfl) (rv_assign rfl rfl) ?_
  refine lf_nil ?_
  refine then_n ?_
  refine wp_seq ?_
  refine wp_gen (fun F' => F' 0 = .pointer (some ⟨g, 0, none⟩) ∧ F' 1 = .agg #[.int .i64 n.k, .int .i64 n.a, .int .i64 n.b] ∧ F' 3 = .pointer (some ⟨g1, 0, none⟩) ∧ F' 4 = .int .i64 0) ⟨e0, e1, rfl, rfl⟩ ?_
  clear e0 e1
  clear F
  rintro F ⟨e0, e1, e3, e4⟩
  refine wp_regionX (fun _ => False) 10 (by kernel_rfl) (by kernel_rfl) ?_
  refine xl_take (i := 0) (v := .pointer (some ⟨g, 0, none⟩)) rfl (by kernel_rfl) (by kernel_rfl) (by kernel_rfl) (by kernel_rfl) (yx_val (wantAll rfl) (fun w' hx' => rv_move rfl (fr_eval rfl e0))) ?_
  refine xl_take (i := 1) (v := .pointer (some ⟨g, 0, none⟩)) rfl (by kernel_rfl) (by kernel_rfl) (by kernel_rfl) (by kernel_rfl) (yx_val (wantAll rfl) (fun w' hx' => rv_nilCheck rfl (fr_eval rfl rfl))) ?_
  refine xl_take (i := 2) (v := .pointer (some ⟨g, 1, none⟩)) rfl (by kernel_rfl) (by kernel_rfl) (by kernel_rfl) (by kernel_rfl) (yx_val (wantAll rfl) (fun w' hx' => rv_fieldAddr (n := 0) rfl (fr_eval rfl rfl) Try.underlying30 rfl rfl (by kernel_rfl))) ?_
  refine xl_take (i := 3) (v := .map (some r)) rfl (by kernel_rfl) (by kernel_rfl) (by kernel_rfl) (by kernel_rfl) (yx_val (wantAll rfl) (fun w' hx' => rv_load1 rfl ((hH.ext hx').blk (i := 0) rfl) zBa_g0 (fr_eval rfl rfl) Try.underlying28 rfl Try.sz28)) ?_
  refine xl_take (i := 4) (v := .agg #[.int .i64 n.k, .int .i64 n.a, .int .i64 n.b]) rfl (by kernel_rfl) (by kernel_rfl) (by kernel_rfl) (by kernel_rfl) (yx_val (wantAll rfl) (fun w' hx' => rv_loadW rfl ((hH.ext hx').blk (i := 3) rfl) (fr_eval rfl e3) Try.underlying40 rfl (sz_len Try.sz40 zBa_l1))) ?_
  refine xl_take (i := 5) (v := .tuple #[.int .i64 ((lookN ns n : Nat) : Int), .bool (decide (n ∈ ns))]) rfl (by kernel_rfl) (by kernel_rfl) (by kernel_rfl) (by kernel_rfl) (yx_val (wantAll rfl) (fun w' hx' => rv_mlookup (n := n) rfl ((hH.ext hx').mp (i := 2) rfl) (fr_eval rfl rfl) (fr_eval rfl rfl))) ?_
  refine xl_take (i := 6) (v := .tuple #[.int .i64 ((lookN ns n : Nat) : Int), .bool (decide (n ∈ ns))]) rfl (by kernel_rfl) (by kernel_rfl) (by kernel_rfl) (by kernel_rfl) (yx_val (wantAll rfl) (fun w' hx' => rv_move rfl (fr_eval rfl rfl))) ?_
  refine xl_take (i := 7) (v := .int .i64 ((lookN ns n : Nat) : Int)) rfl (by kernel_rfl) (by kernel_rfl) (by kernel_rfl) (by kernel_rfl) (yx_val (wantAll rfl) (fun w' hx' => rv_extract rfl (fr_eval rfl rfl) rfl)) ?_
  refine xl_take (i := 8) (v := .bool (decide (n ∈ ns))) rfl (by kernel_rfl) (by kernel_rfl) (by kernel_rfl) (by kernel_rfl) (yx_val (wantAll rfl) (fun w' hx' => rv_extract rfl (fr_eval rfl rfl) rfl)) ?_
  refine xl_take (i := 9) (v := .int .i64 ((lookN ns n : Nat) : Int)) rfl (by kernel_rfl) (by kernel_rfl) (by kernel_rfl) (by kernel_rfl) (yx_val (wantAll rfl) (fun w' hx' => rv_assign rfl (fr_eval rfl rfl))) ?_
  refine xl_tail (s := 10) rfl ?_
  intro w2 hx
  replace hH := hH.ext hx
  clear hx
  refine lf_val (v := .bool (decide (n ∈ ns))) (wantAll rfl) (rv_assign rfl (fr_eval rfl rfl)) ?_
  refine lf_nil ?_
  refine then_n ?_
  refine wp_seq ?_
  refine wp_seq ?_
  refine wp_gen (fun F' => F' 0 = .pointer (some ⟨g, 0, none⟩) ∧ F' 1 = .agg #[.int .i64 n.k, .int .i64 n.a, .int .i64 n.b] ∧ F' 3 = .pointer (some ⟨g1, 0, none⟩) ∧ F' 4 = .int .i64 0 ∧ F' 5 = .int .i64 ((lookN ns n : Nat) : Int) ∧ F' 6 = .bool (decide (n ∈ ns))) ⟨e0, e1, e3, e4, rfl, rfl⟩ ?_
  clear e0 e1 e3 e4
  clear F
  rintro F ⟨e0, e1, e3, e4, e5, e6⟩
  refine wp_regionF ?_
  refine lf_val (v := .bool (decide (n ∈ ns))) (wantAll rfl) (rv_move rfl (fr_eval rfl e6)) ?_
  refine lf_val (v := .bool (decide (¬ (n ∈ ns)))) (wantAll rfl) (rv_notP (q := ¬ (n ∈ ns)) rfl (fr_eval rfl rfl) Iff.rfl) ?_
  refine lf_nil ?_
  refine then_n ?_
  refine wp_gen (fun F' => F' 0 = .pointer (some ⟨g, 0, none⟩) ∧ F' 1 = .agg #[.int .i64 n.k, .int .i64 n.a, .int .i64 n.b] ∧ F' 3 = .pointer (some ⟨g1, 0, none⟩) ∧ F' 4 = .int .i64 0 ∧ F' 5 = .int .i64 ((lookN ns n : Nat) : Int) ∧ F' 6 = .bool (decide (n ∈ ns)) ∧ F' 17 = .bool (decide (¬ (n ∈ ns)))) ⟨e0, e1, e3, e4, e5, e6, rfl⟩ ?_
  clear e0 e1 e3 e4 e5 e6
  clear F
  rintro F ⟨e0, e1, e3, e4, e5, e6, e17⟩
  by_cases hc1 : n ∈ ns
  · refine wp_cond_false (fr_eval rfl (e17.trans (congrArg Value.bool (decide_eq_false (not_not_intro hc1))))) ?_
    refine wp_skip ?_
    refine then_n ?_
    refine wp_seq ?_
    refine wp_regionF ?_
    refine lf_val (v := .int .i64 ((lookN ns n : Nat) : Int)) (wantAll rfl) (rv_move rfl (fr_eval rfl e5)) ?_
    refine lf_val (v := .int .i64 ((lookN ns n : Nat) : Int)) (wantAll rfl) (rv_assign rfl (fr_eval rfl rfl)) ?_
    refine lf_nil ?_
    refine then_n ?_
    refine wp_gen (fun F' => F' 0 = .pointer (some ⟨g, 0, none⟩) ∧ F' 1 = .agg #[.int .i64 n.k, .int .i64 n.a, .int .i64 n.b] ∧ F' 3 = .pointer (some ⟨g1, 0, none⟩) ∧ F' 4 = .int .i64 ((lookN ns n : Nat) : Int) ∧ F' 5 = .int .i64 ((lookN ns n : Nat) : Int) ∧ F' 6 = .bool (decide (n ∈ ns)) ∧ F' 17 = .bool false) ⟨e0, e1, e3, rfl, e5, e6, (e17.trans (congrArg Value.bool (decide_eq_false (not_not_intro hc1))))⟩ ?_
    clear e0 e1 e3 e4 e5 e6 e17
    clear F
    rintro F ⟨e0, e1, e3, e4, e5, e6, e17⟩
    refine wp_ret ?_
    have hF := hH
    replace hF : Heap _ _ _ [_, _, _] := hF.drop (.cons_cons _ (.cons_cons _ (.cons_cons _ (.cons _ .slnil))))
    exact bodyPost_ret (v := (.int .i64 ((lookN ns n : Nat) : Int))) (res1 rfl (ro_tmp rfl e4)) rfl (by rw [oneN_old hc1]; exact ⟨_, by rw [show lookN ns n = ns.idxOf n from if_pos hc1], hF⟩)
  · refine wp_cond_true (fr_eval rfl (e17.trans (congrArg Value.bool (decide_eq_true hc1)))) ?_
    refine wp_seq ?_
    refine wp_regionF ?_
    refine lf_val (v := .pointer (some ⟨g, 0, none⟩)) (wantAll rfl) (rv_move rfl (fr_eval rfl e0)) ?_
    refine lf_val (v := .pointer (some ⟨g, 0, none⟩)) (wantAll rfl) (rv_nilCheck rfl (fr_eval rfl rfl)) ?_
    refine lf_val (v := .pointer (some ⟨g, 0, none⟩)) (wantAll rfl) (rv_fieldAddr (n := 0) rfl (fr_eval rfl rfl) Try.underlying30 rfl rfl (by kernel_rfl)) ?_
    refine lf_val (v := v) (wantAll rfl) (rv_load1 rfl (hH.blk (i := 0) rfl) zBa_g2 (fr_eval rfl rfl) Try.underlying23 rfl Try.sz23) ?_
    refine lf_val (v := .int .i64 ((ns.length : Nat) : Int)) (wantAll rfl) (rv_len rfl (fr_eval rfl rfl) (Own.rd (hH.own (i := 1) rfl) (row_one cNd_one)) Try.underlying23) ?_
    refine lf_val (v := .int .i64 ((ns.length : Nat) : Int)) (wantAll rfl) (rv_assign rfl (fr_eval rfl rfl)) ?_
    refine lf_nil ?_
    refine then_n ?_
    refine wp_seq ?_
    refine wp_gen (fun F' => F' 0 = .pointer (some ⟨g, 0, none⟩) ∧ F' 1 = .agg #[.int .i64 n.k, .int .i64 n.a, .int .i64 n.b] ∧ F' 3 = .pointer (some ⟨g1, 0, none⟩) ∧ F' 4 = .int .i64 0 ∧ F' 5 = .int .i64 ((ns.length : Nat) : Int) ∧ F' 6 = .bool (decide (n ∈ ns)) ∧ F' 17 = .bool true) ⟨e0, e1, e3, e4, rfl, e6, (e17.trans (congrArg Value.bool (decide_eq_true hc1)))⟩ ?_
    clear e0 e1 e3 e4 e5 e6 e17
    clear F
    rintro F ⟨e0, e1, e3, e4, e5, e6, e17⟩
    refine wp_regionX (newK w K) 8 (by kernel_rfl) (by kernel_rfl) ?_
    refine xl_take (i := 0) (v := .pointer (some ⟨g, 0, none⟩)) rfl (by kernel_rfl) (by kernel_rfl) (by kernel_rfl) (by kernel_rfl) (yx_val (wantAll rfl) (fun w' hx' => rv_move rfl (fr_eval rfl e0))) ?_
    refine xl_take (i := 1) (v := .pointer (some ⟨g, 0, none⟩)) rfl (by kernel_rfl) (by kernel_rfl) (by kernel_rfl) (by kernel_rfl) (yx_val (wantAll rfl) (fun w' hx' => rv_move rfl (fr_eval rfl e0))) ?_
    refine xl_take (i := 2) (v := .pointer (some ⟨g, 0, none⟩)) rfl (by kernel_rfl) (by kernel_rfl) (by kernel_rfl) (by kernel_rfl) (yx_val (wantAll rfl) (fun w' hx' => rv_nilCheck rfl (fr_eval rfl rfl))) ?_
    refine xl_take (i := 3) (v := .pointer (some ⟨g, 0, none⟩)) rfl (by kernel_rfl) (by kernel_rfl) (by kernel_rfl) (by kernel_rfl) (yx_val (wantAll rfl) (fun w' hx' => rv_fieldAddr (n := 0) rfl (fr_eval rfl rfl) Try.underlying30 rfl rfl (by kernel_rfl))) ?_
    refine anyX_ready (rs := [4, 5]) (by kernel_rfl) ?_
    intro w3 hx
    replace hH := hH.ext hx
    clear hx
    refine (anyX_cons ?_ (anyX_cons ?_ anyX_nil))
    · refine xl_step (i := 4) rfl (wantAll rfl) ?_
      refine of_val (v := v) (rv_load1 rfl (hH.blk (i := 0) rfl) zBa_g2 (fr_eval rfl rfl) Try.underlying23 rfl Try.sz23) ?_
      refine ⟨Chg.refl _ _, ?_⟩
      refine anyX_ready (rs := [5]) (by kernel_rfl) ?_
      intro w4 hx
      replace hH := hH.ext hx
      clear hx
      refine (anyX_cons ?_ anyX_nil)
      refine xl_step (i := 5) rfl (wantAll rfl) ?_
      refine of_val (v := .agg #[.int .i64 n.k, .int .i64 n.a, .int .i64 n.b]) (rv_loadW rfl (hH.blk (i := 3) rfl) (fr_eval rfl e3) Try.underlying40 rfl (sz_len Try.sz40 zBa_l1)) ?_
      refine ⟨Chg.refl _ _, ?_⟩
      refine anyX_ready (rs := [6]) (by kernel_rfl) ?_
      intro w5 hx
      replace hH := hH.ext hx
      clear hx
      refine (anyX_cons ?_ anyX_nil)
      refine xl_step (i := 6) rfl (wantAll rfl) ?_
      refine of_ex (hx_lit1 hH Try.stNode (cs := cNd n) (xs := List.flatMap cNd [n]) rfl (fr_eval rfl rfl) (cNd_ln n) (by decide) (List.flatMap_singleton ..).symm) ?_
      clear hH
      rintro y1 w6 ⟨hH, hx⟩
      replace hH : Heap _ _ _ [_, _, _, _, _] := hH
      refine ⟨(Ext.any hx), ?_⟩
      clear hx
      refine anyX_ready (rs := [7]) (by kernel_rfl) ?_
      intro w7 hx
      replace hH := hH.ext hx
      clear hx
      refine (anyX_cons ?_ anyX_nil)
      refine xl_step (i := 7) rfl (wantAll rfl) ?_
      refine of_ex (hx_append hH Try.stNode (i := 1) (xs' := (ns ++ [n]).flatMap cNd) (nm := (ns ++ [n]).length) rfl rfl (fun _ => rfl) List.length_append.symm List.flatMap_append.symm (Own.rd (hH.own (i := 4) rfl) (row_one cNd_one)) (fr_eval rfl rfl) (fr_eval rfl rfl) (by simp only [List.length_append, List.length_cons, List.length_nil]; omega)) ?_
      clear hH
      rintro y2 w8 ⟨hH, hx⟩
      replace hH : Heap _ _ _ [_, _, _, _, _] := hH
      refine ⟨hx, ?_⟩
      clear hx
      refine xl_tail (s := 8) rfl ?_
      intro w9 hx
      replace hH := hH.ext hx
      clear hx
      refine lf_val (v := .pointer (some ⟨g, 0, none⟩)) (wantAll rfl) (rv_nilCheck rfl (fr_eval rfl rfl)) ?_
      refine lf_val (v := .pointer (some ⟨g, 0, none⟩)) (wantAll rfl) (rv_fieldAddr (n := 0) rfl (fr_eval rfl rfl) Try.underlying30 rfl rfl (by kernel_rfl)) ?_
      refine lf_sk (wantAll rfl) (hx_storeC hH (i := 0) (j := 0) (v := y2) rfl rfl rfl (show 0 < 2 by decide) rfl (fr_eval rfl rfl) (fr_eval rfl rfl) Try.sz23 (Rd.oneV (Own.rd (hH.own (i := 1) rfl) (row_one cNd_one)))) ?_
      clear hH
      rintro w10 ⟨hH, hx⟩
      replace hH : Heap _ _ _ [_, _, _, _, _] := hH
      clear hx
      refine lf_nil ?_
      refine then_n ?_
      replace hH : Heap _ _ _ [_, _, _, _] := hH.drop (.cons_cons _ (.cons_cons _ (.cons_cons _ (.cons_cons _ (.cons _ .slnil)))))
      refine wp_gen (fun F' => F' 0 = .pointer (some ⟨g, 0, none⟩) ∧ F' 1 = .agg #[.int .i64 n.k, .int .i64 n.a, .int .i64 n.b] ∧ F' 3 = .pointer (some ⟨g1, 0, none⟩) ∧ F' 4 = .int .i64 0 ∧ F' 5 = .int .i64 ((ns.length : Nat) : Int) ∧ F' 6 = .bool (decide (n ∈ ns)) ∧ F' 17 = .bool true) ⟨e0, e1, e3, e4, e5, e6, e17⟩ ?_
      clear e0 e1 e3 e4 e5 e6 e17
      clear F
      rintro F ⟨e0, e1, e3, e4, e5, e6, e17⟩
      refine wp_regionX (fun _ => False) 6 (by kernel_rfl) (by kernel_rfl) ?_
      refine xl_take (i := 0) (v := .pointer (some ⟨g, 0, none⟩)) rfl (by kernel_rfl) (by kernel_rfl) (by kernel_rfl) (by kernel_rfl) (yx_val (wantAll rfl) (fun w' hx' => rv_move rfl (fr_eval rfl e0))) ?_
      refine xl_take (i := 1) (v := .pointer (some ⟨g, 0, none⟩)) rfl (by kernel_rfl) (by kernel_rfl) (by kernel_rfl) (by kernel_rfl) (yx_val (wantAll rfl) (fun w' hx' => rv_nilCheck rfl (fr_eval rfl rfl))) ?_
      refine xl_take (i := 2) (v := .pointer (some ⟨g, 1, none⟩)) rfl (by kernel_rfl) (by kernel_rfl) (by kernel_rfl) (by kernel_rfl) (yx_val (wantAll rfl) (fun w' hx' => rv_fieldAddr (n := 0) rfl (fr_eval rfl rfl) Try.underlying30 rfl rfl (by kernel_rfl))) ?_
      refine xl_take (i := 3) (v := .map (some r)) rfl (by kernel_rfl) (by kernel_rfl) (by kernel_rfl) (by kernel_rfl) (yx_val (wantAll rfl) (fun w' hx' => rv_load1 rfl ((hH.ext hx').blk (i := 0) rfl) zBa_g0 (fr_eval rfl rfl) Try.underlying28 rfl Try.sz28)) ?_
      refine xl_take (i := 4) (v := .agg #[.int .i64 n.k, .int .i64 n.a, .int .i64 n.b]) rfl (by kernel_rfl) (by kernel_rfl) (by kernel_rfl) (by kernel_rfl) (yx_val (wantAll rfl) (fun w' hx' => rv_loadW rfl ((hH.ext hx').blk (i := 3) rfl) (fr_eval rfl e3) Try.underlying40 rfl (sz_len Try.sz40 zBa_l1))) ?_
      refine xl_take (i := 5) (v := .int .i64 ((ns.length : Nat) : Int)) rfl (by kernel_rfl) (by kernel_rfl) (by kernel_rfl) (by kernel_rfl) (yx_val (wantAll rfl) (fun w' hx' => rv_move rfl (fr_eval rfl e5))) ?_
      refine xl_tail (s := 6) rfl ?_
      intro w11 hx
      replace hH := hH.ext hx
      clear hx
      refine lf_sk (wantAll rfl) (hx_mapUpdate hH (i := 2) (n := n) rfl rfl rfl hc1 (fr_eval rfl rfl) (fr_eval rfl rfl) (fr_eval rfl rfl)) ?_
      clear hH
      rintro w12 ⟨hH, hx⟩
      replace hH : Heap _ _ _ [_, _, _, _] := hH
      clear hx
      refine lf_nil ?_
      refine then_n ?_
      refine wp_seq ?_
      refine wp_gen (fun F' => F' 0 = .pointer (some ⟨g, 0, none⟩) ∧ F' 1 = .agg #[.int .i64 n.k, .int .i64 n.a, .int .i64 n.b] ∧ F' 3 = .pointer (some ⟨g1, 0, none⟩) ∧ F' 4 = .int .i64 0 ∧ F' 5 = .int .i64 ((ns.length : Nat) : Int) ∧ F' 6 = .bool (decide (n ∈ ns)) ∧ F' 17 = .bool true) ⟨e0, e1, e3, e4, e5, e6, e17⟩ ?_
      clear e0 e1 e3 e4 e5 e6 e17
      clear F
      rintro F ⟨e0, e1, e3, e4, e5, e6, e17⟩
      refine wp_regionF ?_
      refine lf_val (v := .int .i64 ((ns.length : Nat) : Int)) (wantAll rfl) (rv_move rfl (fr_eval rfl e5)) ?_
      refine lf_val (v := .int .i64 ((ns.length : Nat) : Int)) (wantAll rfl) (rv_assign rfl (fr_eval rfl rfl)) ?_
      refine lf_nil ?_
      refine then_n ?_
      refine wp_gen (fun F' => F' 0 = .pointer (some ⟨g, 0, none⟩) ∧ F' 1 = .agg #[.int .i64 n.k, .int .i64 n.a, .int .i64 n.b] ∧ F' 3 = .pointer (some ⟨g1, 0, none⟩) ∧ F' 4 = .int .i64 ((ns.length : Nat) : Int) ∧ F' 5 = .int .i64 ((ns.length : Nat) : Int) ∧ F' 6 = .bool (decide (n ∈ ns)) ∧ F' 17 = .bool true) ⟨e0, e1, e3, rfl, e5, e6, e17⟩ ?_
      clear e0 e1 e3 e4 e5 e6 e17
      clear F
      rintro F ⟨e0, e1, e3, e4, e5, e6, e17⟩
      refine wp_ret ?_
      have hF := hH
      replace hF : Heap _ _ _ [_, _, _] := hF.drop (.cons_cons _ (.cons_cons _ (.cons_cons _ (.cons _ .slnil))))
      exact bodyPost_ret (v := (.int .i64 ((ns.length : Nat) : Int))) (res1 rfl (ro_tmp rfl e4)) rfl (by rw [oneN_new hc1]; exact ⟨_, rfl, hF⟩)
    · refine xl_step (i := 5) rfl (wantAll rfl) ?_
      refine of_val (v := .agg #[.int .i64 n.k, .int .i64 n.a, .int .i64 n.b]) (rv_loadW rfl (hH.blk (i := 3) rfl) (fr_eval rfl e3) Try.underlying40 rfl (sz_len Try.sz40 zBa_l1)) ?_
      refine ⟨Chg.refl _ _, ?_⟩
      refine anyX_ready (rs := [4, 6]) (by kernel_rfl) ?_
      intro w13 hx
      replace hH := hH.ext hx
      clear hx
      refine (anyX_cons ?_ (anyX_cons ?_ anyX_nil))
      · refine xl_step (i := 4) rfl (wantAll rfl) ?_
        refine of_val (v := v) (rv_load1 rfl (hH.blk (i := 0) rfl) zBa_g2 (fr_eval rfl rfl) Try.underlying23 rfl Try.sz23) ?_
        refine ⟨Chg.refl _ _, ?_⟩
        refine anyX_ready (rs := [6]) (by kernel_rfl) ?_
        intro w14 hx
        replace hH := hH.ext hx
        clear hx
        refine (anyX_cons ?_ anyX_nil)
        refine xl_step (i := 6) rfl (wantAll rfl) ?_
        refine of_ex (hx_lit1 hH Try.stNode (cs := cNd n) (xs := List.flatMap cNd [n]) rfl (fr_eval rfl rfl) (cNd_ln n) (by decide) (List.flatMap_singleton ..).symm) ?_
        clear hH
        rintro y3 w15 ⟨hH, hx⟩
        replace hH : Heap _ _ _ [_, _, _, _, _] := hH
        refine ⟨(Ext.any hx), ?_⟩
        clear hx
        refine anyX_ready (rs := [7]) (by kernel_rfl) ?_
        intro w16 hx
        replace hH := hH.ext hx
        clear hx
        refine (anyX_cons ?_ anyX_nil)
        refine xl_step (i := 7) rfl (wantAll rfl) ?_
        refine of_ex (hx_append hH Try.stNode (i := 1) (xs' := (ns ++ [n]).flatMap cNd) (nm := (ns ++ [n]).length) rfl rfl (fun _ => rfl) List.length_append.symm List.flatMap_append.symm (Own.rd (hH.own (i := 4) rfl) (row_one cNd_one)) (fr_eval rfl rfl) (fr_eval rfl rfl) (by simp only [List.length_append, List.length_cons, List.length_nil]; omega)) ?_
        clear hH
        rintro y4 w17 ⟨hH, hx⟩
        replace hH : Heap _ _ _ [_, _, _, _, _] := hH
        refine ⟨hx, ?_⟩
        clear hx
        refine xl_tail (s := 8) rfl ?_
        intro w18 hx
        replace hH := hH.ext hx
        clear hx
        refine lf_val (v := .pointer (some ⟨g, 0, none⟩)) (wantAll rfl) (rv_nilCheck rfl (fr_eval rfl rfl)) ?_
        refine lf_val (v := .pointer (some ⟨g, 0, none⟩)) (wantAll rfl) (rv_fieldAddr (n := 0) rfl (fr_eval rfl rfl) Try.underlying30 rfl rfl (by kernel_rfl)) ?_
        refine lf_sk (wantAll rfl) (hx_storeC hH (i := 0) (j := 0) (v := y4) rfl rfl rfl (show 0 < 2 by decide) rfl (fr_eval rfl rfl) (fr_eval rfl rfl) Try.sz23 (Rd.oneV (Own.rd (hH.own (i := 1) rfl) (row_one cNd_one)))) ?_
        clear hH
        rintro w19 ⟨hH, hx⟩
        replace hH : Heap _ _ _ [_, _, _, _, _] := hH
        clear hx
        refine lf_nil ?_
        refine then_n ?_
        replace hH : Heap _ _ _ [_, _, _, _] := hH.drop (.cons_cons _ (.cons_cons _ (.cons_cons _ (.cons_cons _ (.cons _ .slnil)))))
        refine wp_gen (fun F' => F' 0 = .pointer (some ⟨g, 0, none⟩) ∧ F' 1 = .agg #[.int .i64 n.k, .int .i64 n.a, .int .i64 n.b] ∧ F' 3 = .pointer (some ⟨g1, 0, none⟩) ∧ F' 4 = .int .i64 0 ∧ F' 5 = .int .i64 ((ns.length : Nat) : Int) ∧ F' 6 = .bool (decide (n ∈ ns)) ∧ F' 17 = .bool true) ⟨e0, e1, e3, e4, e5, e6, e17⟩ ?_
        clear e0 e1 e3 e4 e5 e6 e17
        clear F
        rintro F ⟨e0, e1, e3, e4, e5, e6, e17⟩
        refine wp_regionX (fun _ => False) 6 (by kernel_rfl) (by kernel_rfl) ?_
        refine xl_take (i := 0) (v := .pointer (some ⟨g, 0, none⟩)) rfl (by kernel_rfl) (by kernel_rfl) (by kernel_rfl) (by kernel_rfl) (yx_val (wantAll rfl) (fun w' hx' => rv_move rfl (fr_eval rfl e0))) ?_
        refine xl_take (i := 1) (v := .pointer (some ⟨g, 0, none⟩)) rfl (by kernel_rfl) (by kernel_rfl) (by kernel_rfl) (by kernel_rfl) (yx_val (wantAll rfl) (fun w' hx' => rv_nilCheck rfl (fr_eval rfl rfl))) ?_
        refine xl_take (i := 2) (v := .pointer (some ⟨g, 1, none⟩)) rfl (by kernel_rfl) (by kernel_rfl) (by kernel_rfl) (by kernel_rfl) (yx_val (wantAll rfl) (fun w' hx' => rv_fieldAddr (n := 0) rfl (fr_eval rfl rfl) Try.underlying30 rfl rfl (by kernel_rfl))) ?_
        refine xl_take (i := 3) (v := .map (some r)) rfl (by kernel_rfl) (by kernel_rfl) (by kernel_rfl) (by kernel_rfl) (yx_val (wantAll rfl) (fun w' hx' => rv_load1 rfl ((hH.ext hx').blk (i := 0) rfl) zBa_g0 (fr_eval rfl rfl) Try.underlying28 rfl Try.sz28)) ?_
        refine xl_take (i := 4) (v := .agg #[.int .i64 n.k, .int .i64 n.a, .int .i64 n.b]) rfl (by kernel_rfl) (by kernel_rfl) (by kernel_rfl) (by kernel_rfl) (yx_val (wantAll rfl) (fun w' hx' => rv_loadW rfl ((hH.ext hx').blk (i := 3) rfl) (fr_eval rfl e3) Try.underlying40 rfl (sz_len Try.sz40 zBa_l1))) ?_
        refine xl_take (i := 5) (v := .int .i64 ((ns.length : Nat) : Int)) rfl (by kernel_rfl) (by kernel_rfl) (by kernel_rfl) (by kernel_rfl) (yx_val (wantAll rfl) (fun w' hx' => rv_move rfl (fr_eval rfl e5))) ?_
        refine xl_tail (s := 6) rfl ?_
        intro w20 hx
        replace hH := hH.ext hx
        clear hx
        refine lf_sk (wantAll rfl) (hx_mapUpdate hH (i := 2) (n := n) rfl rfl rfl hc1 (fr_eval rfl rfl) (fr_eval rfl rfl) (fr_eval rfl rfl)) ?_
        clear hH
        rintro w21 ⟨hH, hx⟩
        replace hH : Heap _ _ _ [_, _, _, _] := hH
        clear hx
        refine lf_nil ?_
        refine then_n ?_
        refine wp_seq ?_
        refine wp_gen (fun F' => F' 0 = .pointer (some ⟨g, 0, none⟩) ∧ F' 1 = .agg #[.int .i64 n.k, .int .i64 n.a, .int .i64 n.b] ∧ F' 3 = .pointer (some ⟨g1, 0, none⟩) ∧ F' 4 = .int .i64 0 ∧ F' 5 = .int .i64 ((ns.length : Nat) : Int) ∧ F' 6 = .bool (decide (n ∈ ns)) ∧ F' 17 = .bool true) ⟨e0, e1, e3, e4, e5, e6, e17⟩ ?_
        clear e0 e1 e3 e4 e5 e6 e17
        clear F
        rintro F ⟨e0, e1, e3, e4, e5, e6, e17⟩
        refine wp_regionF ?_
        refine lf_val (v := .int .i64 ((ns.length : Nat) : Int)) (wantAll rfl) (rv_move rfl (fr_eval rfl e5)) ?_
        refine lf_val (v := .int .i64 ((ns.length : Nat) : Int)) (wantAll rfl) (rv_assign rfl (fr_eval rfl rfl)) ?_
        refine lf_nil ?_
        refine then_n ?_
        refine wp_gen (fun F' => F' 0 = .pointer (some ⟨g, 0, none⟩) ∧ F' 1 = .agg #[.int .i64 n.k, .int .i64 n.a, .int .i64 n.b] ∧ F' 3 = .pointer (some ⟨g1, 0, none⟩) ∧ F' 4 = .int .i64 ((ns.length : Nat) : Int) ∧ F' 5 = .int .i64 ((ns.length : Nat) : Int) ∧ F' 6 = .bool (decide (n ∈ ns)) ∧ F' 17 = .bool true) ⟨e0, e1, e3, rfl, e5, e6, e17⟩ ?_
        clear e0 e1 e3 e4 e5 e6 e17
        clear F
        rintro F ⟨e0, e1, e3, e4, e5, e6, e17⟩
        refine wp_ret ?_
        have hF := hH
        replace hF : Heap _ _ _ [_, _, _] := hF.drop (.cons_cons _ (.cons_cons _ (.cons_cons _ (.cons _ .slnil))))
        exact bodyPost_ret (v := (.int .i64 ((ns.length : Nat) : Int))) (res1 rfl (ro_tmp rfl e4)) rfl (by rw [oneN_new hc1]; exact ⟨_, rfl, hF⟩)
      · refine xl_step (i := 6) rfl (wantAll rfl) ?_
        refine of_ex (hx_lit1 hH Try.stNode (cs := cNd n) (xs := List.flatMap cNd [n]) rfl (fr_eval rfl rfl) (cNd_ln n) (by decide) (List.flatMap_singleton ..).symm) ?_
        clear hH
        rintro y5 w22 ⟨hH, hx⟩
        replace hH : Heap _ _ _ [_, _, _, _, _] := hH
        refine ⟨(Ext.any hx), ?_⟩
        clear hx
        refine anyX_ready (rs := [4]) (by kernel_rfl) ?_
        intro w23 hx
        replace hH := hH.ext hx
        clear hx
        refine (anyX_cons ?_ anyX_nil)
        refine xl_step (i := 4) rfl (wantAll rfl) ?_
        refine of_val (v := v) (rv_load1 rfl (hH.blk (i := 0) rfl) zBa_g2 (fr_eval rfl rfl) Try.underlying23 rfl Try.sz23) ?_
        refine ⟨Chg.refl _ _, ?_⟩
        refine anyX_ready (rs := [7]) (by kernel_rfl) ?_
        intro w24 hx
        replace hH := hH.ext hx
        clear hx
        refine (anyX_cons ?_ anyX_nil)
        refine xl_step (i := 7) rfl (wantAll rfl) ?_
        refine of_ex (hx_append hH Try.stNode (i := 1) (xs' := (ns ++ [n]).flatMap cNd) (nm := (ns ++ [n]).length) rfl rfl (fun _ => rfl) List.length_append.symm List.flatMap_append.symm (Own.rd (hH.own (i := 4) rfl) (row_one cNd_one)) (fr_eval rfl rfl) (fr_eval rfl rfl) (by simp only [List.length_append, List.length_cons, List.length_nil]; omega)) ?_
        clear hH
        rintro y6 w25 ⟨hH, hx⟩
        replace hH : Heap _ _ _ [_, _, _, _, _] := hH
        refine ⟨hx, ?_⟩
        clear hx
        refine xl_tail (s := 8) rfl ?_
        intro w26 hx
        replace hH := hH.ext hx
        clear hx
        refine lf_val (v := .pointer (some ⟨g, 0, none⟩)) (wantAll rfl) (rv_nilCheck rfl (fr_eval rfl rfl)) ?_
        refine lf_val (v := .pointer (some ⟨g, 0, none⟩)) (wantAll rfl) (rv_fieldAddr (n := 0) rfl (fr_eval rfl rfl) Try.underlying30 rfl rfl (by kernel_rfl)) ?_
        refine lf_sk (wantAll rfl) (hx_storeC hH (i := 0) (j := 0) (v := y6) rfl rfl rfl (show 0 < 2 by decide) rfl (fr_eval rfl rfl) (fr_eval rfl rfl) Try.sz23 (Rd.oneV (Own.rd (hH.own (i := 1) rfl) (row_one cNd_one)))) ?_
        clear hH
        rintro w27 ⟨hH, hx⟩
        replace hH : Heap _ _ _ [_, _, _, _, _] := hH
        clear hx
        refine lf_nil ?_
        refine then_n ?_
        replace hH : Heap _ _ _ [_, _, _, _] := hH.drop (.cons_cons _ (.cons_cons _ (.cons_cons _ (.cons_cons _ (.cons _ .slnil)))))
        refine wp_gen (fun F' => F' 0 = .pointer (some ⟨g, 0, none⟩) ∧ F' 1 = .agg #[.int .i64 n.k, .int .i64 n.a, .int .i64 n.b] ∧ F' 3 = .pointer (some ⟨g1, 0, none⟩) ∧ F' 4 = .int .i64 0 ∧ F' 5 = .int .i64 ((ns.length : Nat) : Int) ∧ F' 6 = .bool (decide (n ∈ ns)) ∧ F' 17 = .bool true) ⟨e0, e1, e3, e4, e5, e6, e17⟩ ?_
        clear e0 e1 e3 e4 e5 e6 e17
        clear F
        rintro F ⟨e0, e1, e3, e4, e5, e6, e17⟩
        refine wp_regionX (fun _ => False) 6 (by kernel_rfl) (by kernel_rfl) ?_
        refine xl_take (i := 0) (v := .pointer (some ⟨g, 0, none⟩)) rfl (by kernel_rfl) (by kernel_rfl) (by kernel_rfl) (by kernel_rfl) (yx_val (wantAll rfl) (fun w' hx' => rv_move rfl (fr_eval rfl e0))) ?_
        refine xl_take (i := 1) (v := .pointer (some ⟨g, 0, none⟩)) rfl (by kernel_rfl) (by kernel_rfl) (by kernel_rfl) (by kernel_rfl) (yx_val (wantAll rfl) (fun w' hx' => rv_nilCheck rfl (fr_eval rfl rfl))) ?_
        refine xl_take (i := 2) (v := .pointer (some ⟨g, 1, none⟩)) rfl (by kernel_rfl) (by kernel_rfl) (by kernel_rfl) (by kernel_rfl) (yx_val (wantAll rfl) (fun w' hx' => rv_fieldAddr (n := 0) rfl (fr_eval rfl rfl) Try.underlying30 rfl rfl (by kernel_rfl))) ?_
        refine xl_take (i := 3) (v := .map (some r)) rfl (by kernel_rfl) (by kernel_rfl) (by kernel_rfl) (by kernel_rfl) (yx_val (wantAll rfl) (fun w' hx' => rv_load1 rfl ((hH.ext hx').blk (i := 0) rfl) zBa_g0 (fr_eval rfl rfl) Try.underlying28 rfl Try.sz28)) ?_
        refine xl_take (i := 4) (v := .agg #[.int .i64 n.k, .int .i64 n.a, .int .i64 n.b]) rfl (by kernel_rfl) (by kernel_rfl) (by kernel_rfl) (by kernel_rfl) (yx_val (wantAll rfl) (fun w' hx' => rv_loadW rfl ((hH.ext hx').blk (i := 3) rfl) (fr_eval rfl e3) Try.underlying40 rfl (sz_len Try.sz40 zBa_l1))) ?_
        refine xl_take (i := 5) (v := .int .i64 ((ns.length : Nat) : Int)) rfl (by kernel_rfl) (by kernel_rfl) (by kernel_rfl) (by kernel_rfl) (yx_val (wantAll rfl) (fun w' hx' => rv_move rfl (fr_eval rfl e5))) ?_
        refine xl_tail (s := 6) rfl ?_
        intro w28 hx
        replace hH := hH.ext hx
        clear hx
        refine lf_sk (wantAll rfl) (hx_mapUpdate hH (i := 2) (n := n) rfl rfl rfl hc1 (fr_eval rfl rfl) (fr_eval rfl rfl) (fr_eval rfl rfl)) ?_
        clear hH
        rintro w29 ⟨hH, hx⟩
        replace hH : Heap _ _ _ [_, _, _, _] := hH
        clear hx
        refine lf_nil ?_
        refine then_n ?_
        refine wp_seq ?_
        refine wp_gen (fun F' => F' 0 = .pointer (some ⟨g, 0, none⟩) ∧ F' 1 = .agg #[.int .i64 n.k, .int .i64 n.a, .int .i64 n.b] ∧ F' 3 = .pointer (some ⟨g1, 0, none⟩) ∧ F' 4 = .int .i64 0 ∧ F' 5 = .int .i64 ((ns.length : Nat) : Int) ∧ F' 6 = .bool (decide (n ∈ ns)) ∧ F' 17 = .bool true) ⟨e0, e1, e3, e4, e5, e6, e17⟩ ?_
        clear e0 e1 e3 e4 e5 e6 e17
        clear F
        rintro F ⟨e0, e1, e3, e4, e5, e6, e17⟩
        refine wp_regionF ?_
        refine lf_val (v := .int .i64 ((ns.length : Nat) : Int)) (wantAll rfl) (rv_move rfl (fr_eval rfl e5)) ?_
        refine lf_val (v := .int .i64 ((ns.length : Nat) : Int)) (wantAll rfl) (rv_assign rfl (fr_eval rfl rfl)) ?_
        refine lf_nil ?_
        refine then_n ?_
        refine wp_gen (fun F' => F' 0 = .pointer (some ⟨g, 0, none⟩) ∧ F' 1 = .agg #[.int .i64 n.k, .int .i64 n.a, .int .i64 n.b] ∧ F' 3 = .pointer (some ⟨g1, 0, none⟩) ∧ F' 4 = .int .i64 ((ns.length : Nat) : Int) ∧ F' 5 = .int .i64 ((ns.length : Nat) : Int) ∧ F' 6 = .bool (decide (n ∈ ns)) ∧ F' 17 = .bool true) ⟨e0, e1, e3, rfl, e5, e6, e17⟩ ?_
        clear e0 e1 e3 e4 e5 e6 e17
        clear F
        rintro F ⟨e0, e1, e3, e4, e5, e6, e17⟩
        refine wp_ret ?_
        have hF := hH
        replace hF : Heap _ _ _ [_, _, _] := hF.drop (.cons_cons _ (.cons_cons _ (.cons_cons _ (.cons _ .slnil))))
        exact bodyPost_ret (v := (.int .i64 ((ns.length : Nat) : Int))) (res1 rfl (ro_tmp rfl e4)) rfl (by rw [oneN_new hc1]; exact ⟨_, rfl, hF⟩)

set_option maxRecDepth 100000 in
set_option maxHeartbeats 4000000 in
theorem one_m {K : Nat → Prop} {g : Nat} {v : Value} {kv : Value} (hkv : kv.oneCell' = true) {r : Nat} (ns : List Nd) (hn : ns.length ≤ 1000000) (n : Nd) (w : World) (hh0 : Heap (newK w K) w w [oBlk g ([v, .map (some r), kv]) 33, oRow cNd 40 3 v ns, oMp (some r) ns]) :
    Calls Try.prog 19 #[.pointer (some ⟨g, 0, none⟩), .agg #[.int .i64 n.k, .int .i64 n.a, .int .i64 n.b]] w fun e'' w' => ∃ v', e'' = .returned (.int .i64 (((oneN ns n).2 : Nat) : Int)) ∧ Heap (newK w K) w w' [oBlk g ([v', .map (some r), kv]) 33, oRow cNd 40 3 v' ((oneN ns n).1), oMp (some r) ((oneN ns n).1)] := by
  refine calls_fr (args := [.pointer (some ⟨g, 0, none⟩), .agg #[.int .i64 n.k, .int .i64 n.a, .int .i64 n.b]]) (n := 40) Try.func19 rfl rfl (show 2 ≤ 40 by decide) ?_
  have hH : Heap (newK w K) w w [oBlk g ([v, .map (some r), kv]) 33, oRow cNd 40 3 v ns, oMp (some r) ns] := hh0
  refine wp_seq ?_
  refine wp_gen (fun F' => F' 0 = .pointer (some ⟨g, 0, none⟩) ∧ F' 1 = .agg #[.int .i64 n.k, .int .i64 n.a, .int .i64 n.b]) ⟨rfl, rfl⟩ ?_
  rintro F ⟨e0, e1⟩
  refine wp_regionF ?_
  refine lf_ex (wantAll rfl) (hx_box hH 40 (cs := [.int .i64 n.k, .int .i64 n.a, .int .i64 n.b]) rfl (fr_eval rfl e1) (by rfl)) ?_
  clear hH
  rintro _ w1 ⟨g1, rfl, hH, hx⟩
  replace hH : Heap _ _ _ [_, _, _, _] := hH
  clear hx
  refine lf_val (v := .int .i64 0) (wantAll rfl) (rv_assign rfl rfl) ?_
  refine lf_nil ?_
  refine then_n ?_
  refine wp_seq ?_
  refine wp_gen (fun F' => F' 0 = .pointer (some ⟨g, 0, none⟩) ∧ F' 1 = .agg #[.int .i64 n.k, .int .i64 n.a, .int .i64 n.b] ∧ F' 3 = .pointer (some ⟨g1, 0, none⟩) ∧ F' 4 = .int .i64 0) ⟨e0, e1, rfl, rfl⟩ ?_
  clear e0 e1
  clear F
  rintro F ⟨e0, e1, e3, e4⟩
  refine wp_regionX (fun _ => False) 10 (by kernel_rfl) (by kernel_rfl) ?_
  refine xl_take (i := 0) (v := .pointer (some ⟨g, 0, none⟩)) rfl (by kernel_rfl) (by kernel_rfl) (by kernel_rfl) (by kernel_rfl) (yx_val (wantAll rfl) (fun w' hx' => rv_move rfl (fr_eval rfl e0))) ?_
  refine xl_take (i := 1) (v := .pointer (some ⟨g, 0, none⟩)) rfl (by kernel_rfl) (by kernel_rfl) (by kernel_rfl) (by kernel_rfl) (yx_val (wantAll rfl) (fun w' hx' => rv_nilCheck rfl (fr_eval rfl rfl))) ?_
  refine xl_take (i := 2) (v := .pointer (some ⟨g, 1, none⟩)) rfl (by kernel_rfl) (by kernel_rfl) (by kernel_rfl) (by kernel_rfl) (yx_val (wantAll rfl) (fun w' hx' => rv_fieldAddr (n := 0) rfl (fr_eval rfl rfl) Try.underlying30 rfl rfl (by kernel_rfl))) ?_
  refine xl_take (i := 3) (v := .map (some r)) rfl (by kernel_rfl) (by kernel_rfl) (by kernel_rfl) (by kernel_rfl) (yx_val (wantAll rfl) (fun w' hx' => rv_load1 rfl ((hH.ext hx').blk (i := 0) rfl) zBa_g3 (fr_eval rfl rfl) Try.underlying28 rfl Try.sz28)) ?_
  refine xl_take (i := 4) (v := .agg #[.int .i64 n.k, .int .i64 n.a, .int .i64 n.b]) rfl (by kernel_rfl) (by kernel_rfl) (by kernel_rfl) (by kernel_rfl) (yx_val (wantAll rfl) (fun w' hx' => rv_loadW rfl ((hH.ext hx').blk (i := 3) rfl) (fr_eval rfl e3) Try.underlying40 rfl (sz_len Try.sz40 zBa_l1))) ?_
  refine xl_take (i := 5) (v := .tuple #[.int .i64 ((lookN ns n : Nat) : Int), .bool (decide (n ∈ ns))]) rfl (by kernel_rfl) (by kernel_rfl) (by kernel_rfl) (by kernel_rfl) (yx_val (wantAll rfl) (fun w' hx' => rv_mlookup (n := n) rfl ((hH.ext hx').mp (i := 2) rfl) (fr_eval rfl rfl) (fr_eval rfl rfl))) ?_
  refine xl_take (i := 6) (v := .tuple #[.int .i64 ((lookN ns n : Nat) : Int), .bool (decide (n ∈ ns))]) rfl (by kernel_rfl) (by kernel_rfl) (by kernel_rfl) (by kernel_rfl) (yx_val (wantAll rfl) (fun w' hx' => rv_move rfl (fr_eval rfl rfl))) ?_
  refine xl_take (i := 7) (v := .int .i64 ((lookN ns n : Nat) : Int)) rfl (by kernel_rfl) (by kernel_rfl) (by kernel_rfl) (by kernel_rfl) (yx_val (wantAll rfl) (fun w' hx' => rv_extract rfl (fr_eval rfl rfl) rfl)) ?_
  refine xl_take (i := 8) (v := .bool (decide (n ∈ ns))) rfl (by kernel_rfl) (by kernel_rfl) (by kernel_rfl) (by kernel_rfl) (yx_val (wantAll rfl) (fun w' hx' => rv_extract rfl (fr_eval rfl rfl) rfl)) ?_
  refine xl_take (i := 9) (v := .int .i64 ((lookN ns n : Nat) : Int)) rfl (by kernel_rfl) (by kernel_rfl) (by kernel_rfl) (by kernel_rfl) (yx_val (wantAll rfl) (fun w' hx' => rv_assign rfl (fr_eval rfl rfl))) ?_
  refine xl_tail (s := 10) rfl ?_
  intro w2 hx
  replace hH := hH.ext hx
  clear hx
  refine lf_val (v := .bool (decide (n ∈ ns))) (wantAll rfl) (rv_assign rfl (fr_eval rfl rfl)) ?_
  refine lf_nil ?_
  refine then_n ?_
  refine wp_seq ?_
  refine wp_seq ?_
  refine wp_gen (fun F' => F' 0 = .pointer (some ⟨g, 0, none⟩) ∧ F' 1 = .agg #[.int .i64 n.k, .int .i64 n.a, .int .i64 n.b] ∧ F' 3 = .pointer (some ⟨g1, 0, none⟩) ∧ F' 4 = .int .i64 0 ∧ F' 5 = .int .i64 ((lookN ns n : Nat) : Int) ∧ F' 6 = .bool (decide (n ∈ ns))) ⟨e0, e1, e3, e4, rfl, rfl⟩ ?_
  clear e0 e1 e3 e4
  clear F
  rintro F ⟨e0, e1, e3, e4, e5, e6⟩
  refine wp_regionF ?_
  refine lf_val (v := .bool (decide (n ∈ ns))) (wantAll rfl) (rv_move rfl (fr_eval rfl e6)) ?_
  refine lf_val (v := .bool (decide (¬ (n ∈ ns)))) (wantAll rfl) (rv_notP (q := ¬ (n ∈ ns)) rfl (fr_eval rfl rfl) Iff.rfl) ?_
  refine lf_nil ?_
  refine then_n ?_
  refine wp_gen (fun F' => F' 0 = .pointer (some ⟨g, 0, none⟩) ∧ F' 1 = .agg #[.int .i64 n.k, .int .i64 n.a, .int .i64 n.b] ∧ F' 3 = .pointer (some ⟨g1, 0, none⟩) ∧ F' 4 = .int .i64 0 ∧ F' 5 = .int .i64 ((lookN ns n : Nat) : Int) ∧ F' 6 = .bool (decide (n ∈ ns)) ∧ F' 17 = .bool (decide (¬ (n ∈ ns)))) ⟨e0, e1, e3, e4, e5, e6, rfl⟩ ?_
  clear e0 e1 e3 e4 e5 e6
  clear F
  rintro F ⟨e0, e1, e3, e4, e5, e6, e17⟩
  by_cases hc1 : n ∈ ns
  · refine wp_cond_false (fr_eval rfl (e17.trans (congrArg Value.bool (decide_eq_false (not_not_intro hc1))))) ?_
    refine wp_skip ?_
    refine then_n ?_
    refine wp_seq ?_
    refine wp_regionF ?_
    refine lf_val (v := .int .i64 ((lookN ns n : Nat) : Int)) (wantAll rfl) (rv_move rfl (fr_eval rfl e5)) ?_
    refine lf_val (v := .int .i64 ((lookN ns n : Nat) : Int)) (wantAll rfl) (rv_assign rfl (fr_eval rfl rfl)) ?_
    refine lf_nil ?_
    refine then_n ?_
    refine wp_gen (fun F' => F' 0 = .pointer (some ⟨g, 0, none⟩) ∧ F' 1 = .agg #[.int .i64 n.k, .int .i64 n.a, .int .i64 n.b] ∧ F' 3 = .pointer (some ⟨g1, 0, none⟩) ∧ F' 4 = .int .i64 ((lookN ns n : Nat) : Int) ∧ F' 5 = .int .i64 ((lookN ns n : Nat) : Int) ∧ F' 6 = .bool (decide (n ∈ ns)) ∧ F' 17 = .bool false) ⟨e0, e1, e3, rfl, e5, e6, (e17.trans (congrArg Value.bool (decide_eq_false (not_not_intro hc1))))⟩ ?_
    clear e0 e1 e3 e4 e5 e6 e17
    clear F
    rintro F ⟨e0, e1, e3, e4, e5, e6, e17⟩
    refine wp_ret ?_
    have hF := hH
    replace hF : Heap _ _ _ [_, _, _] := hF.drop (.cons_cons _ (.cons_cons _ (.cons_cons _ (.cons _ .slnil))))
    exact bodyPost_ret (v := (.int .i64 ((lookN ns n : Nat) : Int))) (res1 rfl (ro_tmp rfl e4)) rfl (by rw [oneN_old hc1]; exact ⟨_, by rw [show lookN ns n = ns.idxOf n from if_pos hc1], hF⟩)
  · refine wp_cond_true (fr_eval rfl (e17.trans (congrArg Value.bool (decide_eq_true hc1)))) ?_
    refine wp_seq ?_
    refine wp_regionF ?_
    refine lf_val (v := .pointer (some ⟨g, 0, none⟩)) (wantAll rfl) (rv_move rfl (fr_eval rfl e0)) ?_
    refine lf_val (v := .pointer (some ⟨g, 0, none⟩)) (wantAll rfl) (rv_nilCheck rfl (fr_eval rfl rfl)) ?_
    refine lf_val (v := .pointer (some ⟨g, 0, none⟩)) (wantAll rfl) (rv_fieldAddr (n := 0) rfl (fr_eval rfl rfl) Try.underlying30 rfl rfl (by kernel_rfl)) ?_
    refine lf_val (v := v) (wantAll rfl) (rv_load1 rfl (hH.blk (i := 0) rfl) zBa_g4 (fr_eval rfl rfl) Try.underlying23 rfl Try.sz23) ?_
    refine lf_val (v := .int .i64 ((ns.length : Nat) : Int)) (wantAll rfl) (rv_len rfl (fr_eval rfl rfl) (Own.rd (hH.own (i := 1) rfl) (row_one cNd_one)) Try.underlying23) ?_
    refine lf_val (v := .int .i64 ((ns.length : Nat) : Int)) (wantAll rfl) (rv_assign rfl (fr_eval rfl rfl)) ?_
    refine lf_nil ?_
    refine then_n ?_
    refine wp_seq ?_
    refine wp_gen (fun F' => F' 0 = .pointer (some ⟨g, 0, none⟩) ∧ F' 1 = .agg #[.int .i64 n.k, .int .i64 n.a, .int .i64 n.b] ∧ F' 3 = .pointer (some ⟨g1, 0, none⟩) ∧ F' 4 = .int .i64 0 ∧ F' 5 = .int .i64 ((ns.length : Nat) : Int) ∧ F' 6 = .bool (decide (n ∈ ns)) ∧ F' 17 = .bool true) ⟨e0, e1, e3, e4, rfl, e6, (e17.trans (congrArg Value.bool (decide_eq_true hc1)))⟩ ?_
    clear e0 e1 e3 e4 e5 e6 e17
    clear F
    rintro F ⟨e0, e1, e3, e4, e5, e6, e17⟩
    refine wp_regionX (newK w K) 8 (by kernel_rfl) (by kernel_rfl) ?_
    refine xl_take (i := 0) (v := .pointer (some ⟨g, 0, none⟩)) rfl (by kernel_rfl) (by kernel_rfl) (by kernel_rfl) (by kernel_rfl) (yx_val (wantAll rfl) (fun w' hx' => rv_move rfl (fr_eval rfl e0))) ?_
    refine xl_take (i := 1) (v := .pointer (some ⟨g, 0, none⟩)) rfl (by kernel_rfl) (by kernel_rfl) (by kernel_rfl) (by kernel_rfl) (yx_val (wantAll rfl) (fun w' hx' => rv_move rfl (fr_eval rfl e0))) ?_
    refine xl_take (i := 2) (v := .pointer (some ⟨g, 0, none⟩)) rfl (by kernel_rfl) (by kernel_rfl) (by kernel_rfl) (by kernel_rfl) (yx_val (wantAll rfl) (fun w' hx' => rv_nilCheck rfl (fr_eval rfl rfl))) ?_
    refine xl_take (i := 3) (v := .pointer (some ⟨g, 0, none⟩)) rfl (by kernel_rfl) (by kernel_rfl) (by kernel_rfl) (by kernel_rfl) (yx_val (wantAll rfl) (fun w' hx' => rv_fieldAddr (n := 0) rfl (fr_eval rfl rfl) Try.underlying30 rfl rfl (by kernel_rfl))) ?_
    refine anyX_ready (rs := [4, 5]) (by kernel_rfl) ?_
    intro w3 hx
    replace hH := hH.ext hx
    clear hx
    refine (anyX_cons ?_ (anyX_cons ?_ anyX_nil))
    · refine xl_step (i := 4) rfl (wantAll rfl) ?_
      refine of_val (v := v) (rv_load1 rfl (hH.blk (i := 0) rfl) zBa_g4 (fr_eval rfl rfl) Try.underlying23 rfl Try.sz23) ?_
      refine ⟨Chg.refl _ _, ?_⟩
      refine anyX_ready (rs := [5]) (by kernel_rfl) ?_
      intro w4 hx
      replace hH := hH.ext hx
      clear hx
      refine (anyX_cons ?_ anyX_nil)
      refine xl_step (i := 5) rfl (wantAll rfl) ?_
      refine of_val (v := .agg #[.int .i64 n.k, .int .i64 n.a, .int .i64 n.b]) (rv_loadW rfl (hH.blk (i := 3) rfl) (fr_eval rfl e3) Try.underlying40 rfl (sz_len Try.sz40 zBa_l1)) ?_
      refine ⟨Chg.refl _ _, ?_⟩
      refine anyX_ready (rs := [6]) (by kernel_rfl) ?_
      intro w5 hx
      replace hH := hH.ext hx
      clear hx
      refine (anyX_cons ?_ anyX_nil)
      refine xl_step (i := 6) rfl (wantAll rfl) ?_
      refine of_ex (hx_lit1 hH Try.stNode (cs := cNd n) (xs := List.flatMap cNd [n]) rfl (fr_eval rfl rfl) (cNd_ln n) (by decide) (List.flatMap_singleton ..).symm) ?_
      clear hH
      rintro y1 w6 ⟨hH, hx⟩
      replace hH : Heap _ _ _ [_, _, _, _, _] := hH
      refine ⟨(Ext.any hx), ?_⟩
      clear hx
      refine anyX_ready (rs := [7]) (by kernel_rfl) ?_
      intro w7 hx
      replace hH := hH.ext hx
      clear hx
      refine (anyX_cons ?_ anyX_nil)
      refine xl_step (i := 7) rfl (wantAll rfl) ?_
      refine of_ex (hx_append hH Try.stNode (i := 1) (xs' := (ns ++ [n]).flatMap cNd) (nm := (ns ++ [n]).length) rfl rfl (fun _ => rfl) List.length_append.symm List.flatMap_append.symm (Own.rd (hH.own (i := 4) rfl) (row_one cNd_one)) (fr_eval rfl rfl) (fr_eval rfl rfl) (by simp only [List.length_append, List.length_cons, List.length_nil]; omega)) ?_
      clear hH
      rintro y2 w8 ⟨hH, hx⟩
      replace hH : Heap _ _ _ [_, _, _, _, _] := hH
      refine ⟨hx, ?_⟩
      clear hx
      refine xl_tail (s := 8) rfl ?_
      intro w9 hx
      replace hH := hH.ext hx
      clear hx
      refine lf_val (v := .pointer (some ⟨g, 0, none⟩)) (wantAll rfl) (rv_nilCheck rfl (fr_eval rfl rfl)) ?_
      refine lf_val (v := .pointer (some ⟨g, 0, none⟩)) (wantAll rfl) (rv_fieldAddr (n := 0) rfl (fr_eval rfl rfl) Try.underlying30 rfl rfl (by kernel_rfl)) ?_
      refine lf_sk (wantAll rfl) (hx_storeC hH (i := 0) (j := 0) (v := y2) rfl rfl rfl (show 0 < 3 by decide) rfl (fr_eval rfl rfl) (fr_eval rfl rfl) Try.sz23 (Rd.oneV (Own.rd (hH.own (i := 1) rfl) (row_one cNd_one)))) ?_
      clear hH
      rintro w10 ⟨hH, hx⟩
      replace hH : Heap _ _ _ [_, _, _, _, _] := hH
      clear hx
      refine lf_nil ?_
      refine then_n ?_
      replace hH : Heap _ _ _ [_, _, _, _] := hH.drop (.cons_cons _ (.cons_cons _ (.cons_cons _ (.cons_cons _ (.cons _ .slnil)))))
      refine wp_gen (fun F' => F' 0 = .pointer (some ⟨g, 0, none⟩) ∧ F' 1 = .agg #[.int .i64 n.k, .int .i64 n.a, .int .i64 n.b] ∧ F' 3 = .pointer (some ⟨g1, 0, none⟩) ∧ F' 4 = .int .i64 0 ∧ F' 5 = .int .i64 ((ns.length : Nat) : Int) ∧ F' 6 = .bool (decide (n ∈ ns)) ∧ F' 17 = .bool true) ⟨e0, e1, e3, e4, e5, e6, e17⟩ ?_
      clear e0 e1 e3 e4 e5 e6 e17
      clear F
      rintro F ⟨e0, e1, e3, e4, e5, e6, e17⟩
      refine wp_regionX (fun _ => False) 6 (by kernel_rfl) (by kernel_rfl) ?_
      refine xl_take (i := 0) (v := .pointer (some ⟨g, 0, none⟩)) rfl (by kernel_rfl) (by kernel_rfl) (by kernel_rfl) (by kernel_rfl) (yx_val (wantAll rfl) (fun w' hx' => rv_move rfl (fr_eval rfl e0))) ?_
      refine xl_take (i := 1) (v := .pointer (some ⟨g, 0, none⟩)) rfl (by kernel_rfl) (by kernel_rfl) (by kernel_rfl) (by kernel_rfl) (yx_val (wantAll rfl) (fun w' hx' => rv_nilCheck rfl (fr_eval rfl rfl))) ?_
      refine xl_take (i := 2) (v := .pointer (some ⟨g, 1, none⟩)) rfl (by kernel_rfl) (by kernel_rfl) (by kernel_rfl) (by kernel_rfl) (yx_val (wantAll rfl) (fun w' hx' => rv_fieldAddr (n := 0) rfl (fr_eval rfl rfl) Try.underlying30 rfl rfl (by kernel_rfl))) ?_
      refine xl_take (i := 3) (v := .map (some r)) rfl (by kernel_rfl) (by kernel_rfl) (by kernel_rfl) (by kernel_rfl) (yx_val (wantAll rfl) (fun w' hx' => rv_load1 rfl ((hH.ext hx').blk (i := 0) rfl) zBa_g3 (fr_eval rfl rfl) Try.underlying28 rfl Try.sz28)) ?_
      refine xl_take (i := 4) (v := .agg #[.int .i64 n.k, .int .i64 n.a, .int .i64 n.b]) rfl (by kernel_rfl) (by kernel_rfl) (by kernel_rfl) (by kernel_rfl) (yx_val (wantAll rfl) (fun w' hx' => rv_loadW rfl ((hH.ext hx').blk (i := 3) rfl) (fr_eval rfl e3) Try.underlying40 rfl (sz_len Try.sz40 zBa_l1))) ?_
      refine xl_take (i := 5) (v := .int .i64 ((ns.length : Nat) : Int)) rfl (by kernel_rfl) (by kernel_rfl) (by kernel_rfl) (by kernel_rfl) (yx_val (wantAll rfl) (fun w' hx' => rv_move rfl (fr_eval rfl e5))) ?_
      refine xl_tail (s := 6) rfl ?_
      intro w11 hx
      replace hH := hH.ext hx
      clear hx
      refine lf_sk (wantAll rfl) (hx_mapUpdate hH (i := 2) (n := n) rfl rfl rfl hc1 (fr_eval rfl rfl) (fr_eval rfl rfl) (fr_eval rfl rfl)) ?_
      clear hH
      rintro w12 ⟨hH, hx⟩
      replace hH : Heap _ _ _ [_, _, _, _] := hH
      clear hx
      refine lf_nil ?_
      refine then_n ?_
      refine wp_seq ?_
      refine wp_gen (fun F' => F' 0 = .pointer (some ⟨g, 0, none⟩) ∧ F' 1 = .agg #[.int .i64 n.k, .int .i64 n.a, .int .i64 n.b] ∧ F' 3 = .pointer (some ⟨g1, 0, none⟩) ∧ F' 4 = .int .i64 0 ∧ F' 5 = .int .i64 ((ns.length : Nat) : Int) ∧ F' 6 = .bool (decide (n ∈ ns)) ∧ F' 17 = .bool true) ⟨e0, e1, e3, e4, e5, e6, e17⟩ ?_
      clear e0 e1 e3 e4 e5 e6 e17
      clear F
      rintro F ⟨e0, e1, e3, e4, e5, e6, e17⟩
      refine wp_regionF ?_
      refine lf_val (v := .int .i64 ((ns.length : Nat) : Int)) (wantAll rfl) (rv_move rfl (fr_eval rfl e5)) ?_
      refine lf_val (v := .int .i64 ((ns.length : Nat) : Int)) (wantAll rfl) (rv_assign rfl (fr_eval rfl rfl)) ?_
      refine lf_nil ?_
      refine then_n ?_
      refine wp_gen (fun F' => F' 0 = .pointer (some ⟨g, 0, none⟩) ∧ F' 1 = .agg #[.int .i64 n.k, .int .i64 n.a, .int .i64 n.b] ∧ F' 3 = .pointer (some ⟨g1, 0, none⟩) ∧ F' 4 = .int .i64 ((ns.length : Nat) : Int) ∧ F' 5 = .int .i64 ((ns.length : Nat) : Int) ∧ F' 6 = .bool (decide (n ∈ ns)) ∧ F' 17 = .bool true) ⟨e0, e1, e3, rfl, e5, e6, e17⟩ ?_
      clear e0 e1 e3 e4 e5 e6 e17
      clear F
      rintro F ⟨e0, e1, e3, e4, e5, e6, e17⟩
      refine wp_ret ?_
      have hF := hH
      replace hF : Heap _ _ _ [_, _, _] := hF.drop (.cons_cons _ (.cons_cons _ (.cons_cons _ (.cons _ .slnil))))
      exact bodyPost_ret (v := (.int .i64 ((ns.length : Nat) : Int))) (res1 rfl (ro_tmp rfl e4)) rfl (by rw [oneN_new hc1]; exact ⟨_, rfl, hF⟩)
    · refine xl_step (i := 5) rfl (wantAll rfl) ?_
      refine of_val (v := .agg #[.int .i64 n.k, .int .i64 n.a, .int .i64 n.b]) (rv_loadW rfl (hH.blk (i := 3) rfl) (fr_eval rfl e3) Try.underlying40 rfl (sz_len Try.sz40 zBa_l1)) ?_
      refine ⟨Chg.refl _ _, ?_⟩
      refine anyX_ready (rs := [4, 6]) (by kernel_rfl) ?_
      intro w13 hx
      replace hH := hH.ext hx
      clear hx
      refine (anyX_cons ?_ (anyX_cons ?_ anyX_nil))
      · refine xl_step (i := 4) rfl (wantAll rfl) ?_
        refine of_val (v := v) (rv_load1 rfl (hH.blk (i := 0) rfl) zBa_g4 (fr_eval rfl rfl) Try.underlying23 rfl Try.sz23) ?_
        refine ⟨Chg.refl _ _, ?_⟩
        refine anyX_ready (rs := [6]) (by kernel_rfl) ?_
        intro w14 hx
        replace hH := hH.ext hx
        clear hx
        refine (anyX_cons ?_ anyX_nil)
        refine xl_step (i := 6) rfl (wantAll rfl) ?_
        refine of_ex (hx_lit1 hH Try.stNode (cs := cNd n) (xs := List.flatMap cNd [n]) rfl (fr_eval rfl rfl) (cNd_ln n) (by decide) (List.flatMap_singleton ..).symm) ?_
        clear hH
        rintro y3 w15 ⟨hH, hx⟩
        replace hH : Heap _ _ _ [_, _, _, _, _] := hH
        refine ⟨(Ext.any hx), ?_⟩
        clear hx
        refine anyX_ready (rs := [7]) (by kernel_rfl) ?_
        intro w16 hx
        replace hH := hH.ext hx
        clear hx
        refine (anyX_cons ?_ anyX_nil)
        refine xl_step (i := 7) rfl (wantAll rfl) ?_
        refine of_ex (hx_append hH Try.stNode (i := 1) (xs' := (ns ++ [n]).flatMap cNd) (nm := (ns ++ [n]).length) rfl rfl (fun _ => rfl) List.length_append.symm List.flatMap_append.symm (Own.rd (hH.own (i := 4) rfl) (row_one cNd_one)) (fr_eval rfl rfl) (fr_eval rfl rfl) (by simp only [List.length_append, List.length_cons, List.length_nil]; omega)) ?_
        clear hH
        rintro y4 w17 ⟨hH, hx⟩
        replace hH : Heap _ _ _ [_, _, _, _, _] := hH
        refine ⟨hx, ?_⟩
        clear hx
        refine xl_tail (s := 8) rfl ?_
        intro w18 hx
        replace hH := hH.ext hx
        clear hx
        refine lf_val (v := .pointer (some ⟨g, 0, none⟩)) (wantAll rfl) (rv_nilCheck rfl (fr_eval rfl rfl)) ?_
        refine lf_val (v := .pointer (some ⟨g, 0, none⟩)) (wantAll rfl) (rv_fieldAddr (n := 0) rfl (fr_eval rfl rfl) Try.underlying30 rfl rfl (by kernel_rfl)) ?_
        refine lf_sk (wantAll rfl) (hx_storeC hH (i := 0) (j := 0) (v := y4) rfl rfl rfl (show 0 < 3 by decide) rfl (fr_eval rfl rfl) (fr_eval rfl rfl) Try.sz23 (Rd.oneV (Own.rd (hH.own (i := 1) rfl) (row_one cNd_one)))) ?_
        clear hH
        rintro w19 ⟨hH, hx⟩
        replace hH : Heap _ _ _ [_, _, _, _, _] := hH
        clear hx
        refine lf_nil ?_
        refine then_n ?_
        replace hH : Heap _ _ _ [_, _, _, _] := hH.drop (.cons_cons _ (.cons_cons _ (.cons_cons _ (.cons_cons _ (.cons _ .slnil)))))
        refine wp_gen (fun F' => F' 0 = .pointer (some ⟨g, 0, none⟩) ∧ F' 1 = .agg #[.int .i64 n.k, .int .i64 n.a, .int .i64 n.b] ∧ F' 3 = .pointer (some ⟨g1, 0, none⟩) ∧ F' 4 = .int .i64 0 ∧ F' 5 = .int .i64 ((ns.length : Nat) : Int) ∧ F' 6 = .bool (decide (n ∈ ns)) ∧ F' 17 = .bool true) ⟨e0, e1, e3, e4, e5, e6, e17⟩ ?_
        clear e0 e1 e3 e4 e5 e6 e17
        clear F
        rintro F ⟨e0, e1, e3, e4, e5, e6, e17⟩
        refine wp_regionX (fun _ => False) 6 (by kernel_rfl) (by kernel_rfl) ?_
        refine xl_take (i := 0) (v := .pointer (some ⟨g, 0, none⟩)) rfl (by kernel_rfl) (by kernel_rfl) (by kernel_rfl) (by kernel_rfl) (yx_val (wantAll rfl) (fun w' hx' => rv_move rfl (fr_eval rfl e0))) ?_
        refine xl_take (i := 1) (v := .pointer (some ⟨g, 0, none⟩)) rfl (by kernel_rfl) (by kernel_rfl) (by kernel_rfl) (by kernel_rfl) (yx_val (wantAll rfl) (fun w' hx' => rv_nilCheck rfl (fr_eval rfl rfl))) ?_
        refine xl_take (i := 2) (v := .pointer (some ⟨g, 1, none⟩)) rfl (by kernel_rfl) (by kernel_rfl) (by kernel_rfl) (by kernel_rfl) (yx_val (wantAll rfl) (fun w' hx' => rv_fieldAddr (n := 0) rfl (fr_eval rfl rfl) Try.underlying30 rfl rfl (by kernel_rfl))) ?_
        refine xl_take (i := 3) (v := .map (some r)) rfl (by kernel_rfl) (by kernel_rfl) (by kernel_rfl) (by kernel_rfl) (yx_val (wantAll rfl) (fun w' hx' => rv_load1 rfl ((hH.ext hx').blk (i := 0) rfl) zBa_g3 (fr_eval rfl rfl) Try.underlying28 rfl Try.sz28)) ?_
        refine xl_take (i := 4) (v := .agg #[.int .i64 n.k, .int .i64 n.a, .int .i64 n.b]) rfl (by kernel_rfl) (by kernel_rfl) (by kernel_rfl) (by kernel_rfl) (yx_val (wantAll rfl) (fun w' hx' => rv_loadW rfl ((hH.ext hx').blk (i := 3) rfl) (fr_eval rfl e3) Try.underlying40 rfl (sz_len Try.sz40 zBa_l1))) ?_
        refine xl_take (i := 5) (v := .int .i64 ((ns.length : Nat) : Int)) rfl (by kernel_rfl) (by kernel_rfl) (by kernel_rfl) (by kernel_rfl) (yx_val (wantAll rfl) (fun w' hx' => rv_move rfl (fr_eval rfl e5))) ?_
        refine xl_tail (s := 6) rfl ?_
        intro w20 hx
        replace hH := hH.ext hx
        clear hx
        refine lf_sk (wantAll rfl) (hx_mapUpdate hH (i := 2) (n := n) rfl rfl rfl hc1 (fr_eval rfl rfl) (fr_eval rfl rfl) (fr_eval rfl rfl)) ?_
        clear hH
        rintro w21 ⟨hH, hx⟩
        replace hH : Heap _ _ _ [_, _, _, _] := hH
        clear hx
        refine lf_nil ?_
        refine then_n ?_
        refine wp_seq ?_
        refine wp_gen (fun F' => F' 0 = .pointer (some ⟨g, 0, none⟩) ∧ F' 1 = .agg #[.int .i64 n.k, .int .i64 n.a, .int .i64 n.b] ∧ F' 3 = .pointer (some ⟨g1, 0, none⟩) ∧ F' 4 = .int .i64 0 ∧ F' 5 = .int .i64 ((ns.length : Nat) : Int) ∧ F' 6 = .bool (decide (n ∈ ns)) ∧ F' 17 = .bool true) ⟨e0, e1, e3, e4, e5, e6, e17⟩ ?_
        clear e0 e1 e3 e4 e5 e6 e17
        clear F
        rintro F ⟨e0, e1, e3, e4, e5, e6, e17⟩
        refine wp_regionF ?_
        refine lf_val (v := .int .i64 ((ns.length : Nat) : Int)) (wantAll rfl) (rv_move rfl (fr_eval rfl e5)) ?_
        refine lf_val (v := .int .i64 ((ns.length : Nat) : Int)) (wantAll rfl) (rv_assign rfl (fr_eval rfl rfl)) ?_
        refine lf_nil ?_
        refine then_n ?_
        refine wp_gen (fun F' => F' 0 = .pointer (some ⟨g, 0, none⟩) ∧ F' 1 = .agg #[.int .i64 n.k, .int .i64 n.a, .int .i64 n.b] ∧ F' 3 = .pointer (some ⟨g1, 0, none⟩) ∧ F' 4 = .int .i64 ((ns.length : Nat) : Int) ∧ F' 5 = .int .i64 ((ns.length : Nat) : Int) ∧ F' 6 = .bool (decide (n ∈ ns)) ∧ F' 17 = .bool true) ⟨e0, e1, e3, rfl, e5, e6, e17⟩ ?_
        clear e0 e1 e3 e4 e5 e6 e17
        clear F
        rintro F ⟨e0, e1, e3, e4, e5, e6, e17⟩
        refine wp_ret ?_
        have hF := hH
        replace hF : Heap _ _ _ [_, _, _] := hF.drop (.cons_cons _ (.cons_cons _ (.cons_cons _ (.cons _ .slnil))))
        exact bodyPost_ret (v := (.int .i64 ((ns.length : Nat) : Int))) (res1 rfl (ro_tmp rfl e4)) rfl (by rw [oneN_new hc1]; exact ⟨_, rfl, hF⟩)
      · refine xl_step (i := 6) rfl (wantAll rfl) ?_
        refine of_ex (hx_lit1 hH Try.stNode (cs := cNd n) (xs := List.flatMap cNd [n]) rfl (fr_eval rfl rfl) (cNd_ln n) (by decide) (List.flatMap_singleton ..).symm) ?_
        clear hH
        rintro y5 w22 ⟨hH, hx⟩
        replace hH : Heap _ _ _ [_, _, _, _, _] := hH
        refine ⟨(Ext.any hx), ?_⟩
        clear hx
        refine anyX_ready (rs := [4]) (by kernel_rfl) ?_
        intro w23 hx
        replace hH := hH.ext hx
        clear hx
        refine (anyX_cons ?_ anyX_nil)
        refine xl_step (i := 4) rfl (wantAll rfl) ?_
        refine of_val (v := v) (rv_load1 rfl (hH.blk (i := 0) rfl) zBa_g4 (fr_eval rfl rfl) Try.underlying23 rfl Try.sz23) ?_
        refine ⟨Chg.refl _ _, ?_⟩
        refine anyX_ready (rs := [7]) (by kernel_rfl) ?_
        intro w24 hx
        replace hH := hH.ext hx
        clear hx
        refine (anyX_cons ?_ anyX_nil)
        refine xl_step (i := 7) rfl (wantAll rfl) ?_
        refine of_ex (hx_append hH Try.stNode (i := 1) (xs' := (ns ++ [n]).flatMap cNd) (nm := (ns ++ [n]).length) rfl rfl (fun _ => rfl) List.length_append.symm List.flatMap_append.symm (Own.rd (hH.own (i := 4) rfl) (row_one cNd_one)) (fr_eval rfl rfl) (fr_eval rfl rfl) (by simp only [List.length_append, List.length_cons, List.length_nil]; omega)) ?_
        clear hH
        rintro y6 w25 ⟨hH, hx⟩
        replace hH : Heap _ _ _ [_, _, _, _, _] := hH
        refine ⟨hx, ?_⟩
        clear hx
        refine xl_tail (s := 8) rfl ?_
        intro w26 hx
        replace hH := hH.ext hx
        clear hx
        refine lf_val (v := .pointer (some ⟨g, 0, none⟩)) (wantAll rfl) (rv_nilCheck rfl (fr_eval rfl rfl)) ?_
        refine lf_val (v := .pointer (some ⟨g, 0, none⟩)) (wantAll rfl) (rv_fieldAddr (n := 0) rfl (fr_eval rfl rfl) Try.underlying30 rfl rfl (by kernel_rfl)) ?_
        refine lf_sk (wantAll rfl) (hx_storeC hH (i := 0) (j := 0) (v := y6) rfl rfl rfl (show 0 < 3 by decide) rfl (fr_eval rfl rfl) (fr_eval rfl rfl) Try.sz23 (Rd.oneV (Own.rd (hH.own (i := 1) rfl) (row_one cNd_one)))) ?_
        clear hH
        rintro w27 ⟨hH, hx⟩
        replace hH : Heap _ _ _ [_, _, _, _, _] := hH
        clear hx
        refine lf_nil ?_
        refine then_n ?_
        replace hH : Heap _ _ _ [_, _, _, _] := hH.drop (.cons_cons _ (.cons_cons _ (.cons_cons _ (.cons_cons _ (.cons _ .slnil)))))
        refine wp_gen (fun F' => F' 0 = .pointer (some ⟨g, 0, none⟩) ∧ F' 1 = .agg #[.int .i64 n.k, .int .i64 n.a, .int .i64 n.b] ∧ F' 3 = .pointer (some ⟨g1, 0, none⟩) ∧ F' 4 = .int .i64 0 ∧ F' 5 = .int .i64 ((ns.length : Nat) : Int) ∧ F' 6 = .bool (decide (n ∈ ns)) ∧ F' 17 = .bool true) ⟨e0, e1, e3, e4, e5, e6, e17⟩ ?_
        clear e0 e1 e3 e4 e5 e6 e17
        clear F
        rintro F ⟨e0, e1, e3, e4, e5, e6, e17⟩
        refine wp_regionX (fun _ => False) 6 (by kernel_rfl) (by kernel_rfl) ?_
        refine xl_take (i := 0) (v := .pointer (some ⟨g, 0, none⟩)) rfl (by kernel_rfl) (by kernel_rfl) (by kernel_rfl) (by kernel_rfl) (yx_val (wantAll rfl) (fun w' hx' => rv_move rfl (fr_eval rfl e0))) ?_
        refine xl_take (i := 1) (v := .pointer (some ⟨g, 0, none⟩)) rfl (by kernel_rfl) (by kernel_rfl) (by kernel_rfl) (by kernel_rfl) (yx_val (wantAll rfl) (fun w' hx' => rv_nilCheck rfl (fr_eval rfl rfl))) ?_
        refine xl_take (i := 2) (v := .pointer (some ⟨g, 1, none⟩)) rfl (by kernel_rfl) (by kernel_rfl) (by kernel_rfl) (by kernel_rfl) (yx_val (wantAll rfl) (fun w' hx' => rv_fieldAddr (n := 0) rfl (fr_eval rfl rfl) Try.underlying30 rfl rfl (by kernel_rfl))) ?_
        refine xl_take (i := 3) (v := .map (some r)) rfl (by kernel_rfl) (by kernel_rfl) (by kernel_rfl) (by kernel_rfl) (yx_val (wantAll rfl) (fun w' hx' => rv_load1 rfl ((hH.ext hx').blk (i := 0) rfl) zBa_g3 (fr_eval rfl rfl) Try.underlying28 rfl Try.sz28)) ?_
        refine xl_take (i := 4) (v := .agg #[.int .i64 n.k, .int .i64 n.a, .int .i64 n.b]) rfl (by kernel_rfl) (by kernel_rfl) (by kernel_rfl) (by kernel_rfl) (yx_val (wantAll rfl) (fun w' hx' => rv_loadW rfl ((hH.ext hx').blk (i := 3) rfl) (fr_eval rfl e3) Try.underlying40 rfl (sz_len Try.sz40 zBa_l1))) ?_
        refine xl_take (i := 5) (v := .int .i64 ((ns.length : Nat) : Int)) rfl (by kernel_rfl) (by kernel_rfl) (by kernel_rfl) (by kernel_rfl) (yx_val (wantAll rfl) (fun w' hx' => rv_move rfl (fr_eval rfl e5))) ?_
        refine xl_tail (s := 6) rfl ?_
        intro w28 hx
        replace hH := hH.ext hx
        clear hx
        refine lf_sk (wantAll rfl) (hx_mapUpdate hH (i := 2) (n := n) rfl rfl rfl hc1 (fr_eval rfl rfl) (fr_eval rfl rfl) (fr_eval rfl rfl)) ?_
        clear hH
        rintro w29 ⟨hH, hx⟩
        replace hH : Heap _ _ _ [_, _, _, _] := hH
        clear hx
        refine lf_nil ?_
        refine then_n ?_
        refine wp_seq ?_
        refine wp_gen (fun F' => F' 0 = .pointer (some ⟨g, 0, none⟩) ∧ F' 1 = .agg #[.int .i64 n.k, .int .i64 n.a, .int .i64 n.b] ∧ F' 3 = .pointer (some ⟨g1, 0, none⟩) ∧ F' 4 = .int .i64 0 ∧ F' 5 = .int .i64 ((ns.length : Nat) : Int) ∧ F' 6 = .bool (decide (n ∈ ns)) ∧ F' 17 = .bool true) ⟨e0, e1, e3, e4, e5, e6, e17⟩ ?_
        clear e0 e1 e3 e4 e5 e6 e17
        clear F
        rintro F ⟨e0, e1, e3, e4, e5, e6, e17⟩
        refine wp_regionF ?_
        refine lf_val (v := .int .i64 ((ns.length : Nat) : Int)) (wantAll rfl) (rv_move rfl (fr_eval rfl e5)) ?_
        refine lf_val (v := .int .i64 ((ns.length : Nat) : Int)) (wantAll rfl) (rv_assign rfl (fr_eval rfl rfl)) ?_
        refine lf_nil ?_
        refine then_n ?_
        refine wp_gen (fun F' => F' 0 = .pointer (some ⟨g, 0, none⟩) ∧ F' 1 = .agg #[.int .i64 n.k, .int .i64 n.a, .int .i64 n.b] ∧ F' 3 = .pointer (some ⟨g1, 0, none⟩) ∧ F' 4 = .int .i64 ((ns.length : Nat) : Int) ∧ F' 5 = .int .i64 ((ns.length : Nat) : Int) ∧ F' 6 = .bool (decide (n ∈ ns)) ∧ F' 17 = .bool true) ⟨e0, e1, e3, rfl, e5, e6, e17⟩ ?_
        clear e0 e1 e3 e4 e5 e6 e17
        clear F
        rintro F ⟨e0, e1, e3, e4, e5, e6, e17⟩
        refine wp_ret ?_
        have hF := hH
        replace hF : Heap _ _ _ [_, _, _] := hF.drop (.cons_cons _ (.cons_cons _ (.cons_cons _ (.cons _ .slnil))))
        exact bodyPost_ret (v := (.int .i64 ((ns.length : Nat) : Int))) (res1 rfl (ro_tmp rfl e4)) rfl (by rw [oneN_new hc1]; exact ⟨_, rfl, hF⟩)

set_option maxRecDepth 100000 in
set_option maxHeartbeats 4000000 in
theorem into_nil (t : List Nd) (tv : Value) (w : World) (hr0 : Rd w 3 tv t.length (t.flatMap cNd)) :
    Calls Try.prog 13 #[.pointer none, tv] w fun e'' w' => e'' = .returned (.tuple #[.int .i64 0, .int .i64 1]) ∧ Ext w w' := by
  refine calls_fr (args := [.pointer none, tv]) (n := 66) Try.func13 rfl rfl (show 2 ≤ 66 by decide) ?_
  have hr := Rd.stab hr0
  have hH : Heap (newN w) w w [] := Heap.fresh
  refine wp_seq ?_
  refine wp_gen (fun F' => F' 0 = .pointer none ∧ F' 1 = tv) ⟨rfl, rfl⟩ ?_
  rintro F ⟨e0, e1⟩
  refine wp_regionF ?_
  refine lf_val (v := .int .i64 0) (wantAll rfl) (rv_assign rfl rfl) ?_
  refine lf_val (v := .int .i64 0) (wantAll rfl) (rv_assign rfl rfl) ?_
  refine lf_nil ?_
  refine then_n ?_
  refine wp_seq ?_
  refine wp_seq ?_
  refine wp_gen (fun F' => F' 0 = .pointer none ∧ F' 1 = tv ∧ F' 4 = .int .i64 0 ∧ F' 5 = .int .i64 0) ⟨e0, e1, rfl, rfl⟩ ?_
  clear e0 e1
  clear F
  rintro F ⟨e0, e1, e4, e5⟩
  refine wp_regionF ?_
  refine lf_val (v := .pointer none) (wantAll rfl) (rv_move rfl (fr_eval rfl e0)) ?_
  refine lf_val (v := .bool true) (wantAll rfl) (rv_eqnil (p := none) rfl (fr_eval rfl rfl) rfl Try.underlying43) ?_
  refine lf_val (v := .bool true) (wantAll rfl) (rv_move rfl (fr_eval rfl rfl)) ?_
  refine lf_not (wantNot (d := 11) rfl (by kernel_rfl) rfl rfl) ?_
  refine lf_not (wantNot (d := 11) rfl (by kernel_rfl) rfl rfl) ?_
  refine lf_not (wantNot (d := 11) rfl (by kernel_rfl) rfl rfl) ?_
  refine lf_val (v := .bool true) (wantAll rfl) (rv_pickT rfl (fr_eval rfl rfl) rfl) ?_
  refine lf_nil ?_
  refine then_n ?_
  refine wp_gen (fun F' => F' 0 = .pointer none ∧ F' 1 = tv ∧ F' 4 = .int .i64 0 ∧ F' 5 = .int .i64 0 ∧ F' 15 = .bool true) ⟨e0, e1, e4, e5, rfl⟩ ?_
  clear e0 e1 e4 e5
  clear F
  rintro F ⟨e0, e1, e4, e5, e15⟩
  refine wp_cond_true (fr_eval rfl e15) ?_
  refine wp_seq ?_
  refine wp_regionF ?_
  refine lf_val (v := .int .i64 0) (wantAll rfl) (rv_assign rfl rfl) ?_
  refine lf_val (v := .int .i64 1) (wantAll rfl) (rv_assign rfl rfl) ?_
  refine lf_nil ?_
  refine then_n ?_
  refine wp_gen (fun F' => F' 0 = .pointer none ∧ F' 1 = tv ∧ F' 4 = .int .i64 0 ∧ F' 5 = .int .i64 1 ∧ F' 15 = .bool true) ⟨e0, e1, rfl, rfl, e15⟩ ?_
  clear e0 e1 e4 e5 e15
  clear F
  rintro F ⟨e0, e1, e4, e5, e15⟩
  refine wp_ret ?_
  refine then_ret ?_
  exact bodyPost_ret (v := .tuple #[.int .i64 0, .int .i64 1]) (res2 rfl (ro_tmp rfl e4) (ro_tmp rfl e5)) rfl (⟨rfl, hH.done⟩)

set_option maxRecDepth 100000 in
set_option maxHeartbeats 4000000 in
theorem into_no (g : Nat) (t : List Nd) (ht : ¬ okT t) (tv : Value) (w : World) (hr0 : Rd w 3 tv t.length (t.flatMap cNd)) :
    Calls Try.prog 13 #[.pointer (some ⟨g, 0, none⟩), tv] w fun e'' w' => e'' = .returned (.tuple #[.int .i64 0, .int .i64 1]) ∧ Ext w w' := by
  refine calls_fr (args := [.pointer (some ⟨g, 0, none⟩), tv]) (n := 66) Try.func13 rfl rfl (show 2 ≤ 66 by decide) ?_
  have hr := Rd.stab hr0
  have hH : Heap (newN w) w w [] := Heap.fresh
  refine wp_seq ?_
  refine wp_gen (fun F' => F' 0 = .pointer (some ⟨g, 0, none⟩) ∧ F' 1 = tv) ⟨rfl, rfl⟩ ?_
  rintro F ⟨e0, e1⟩
  refine wp_regionF ?_
  refine lf_val (v := .int .i64 0) (wantAll rfl) (rv_assign rfl rfl) ?_
  refine lf_val (v := .int .i64 0) (wantAll rfl) (rv_assign rfl rfl) ?_
  refine lf_nil ?_
  refine then_n ?_
  refine wp_seq ?_
  refine wp_seq ?_
  refine wp_gen (fun F' => F' 0 = .pointer (some ⟨g, 0, none⟩) ∧ F' 1 = tv ∧ F' 4 = .int .i64 0 ∧ F' 5 = .int .i64 0) ⟨e0, e1, rfl, rfl⟩ ?_
  clear e0 e1
  clear F
  rintro F ⟨e0, e1, e4, e5⟩
  refine wp_regionF ?_
  refine lf_val (v := .pointer (some ⟨g, 0, none⟩)) (wantAll rfl) (rv_move rfl (fr_eval rfl e0)) ?_
  refine lf_val (v := .bool false) (wantAll rfl) (rv_eqnil (p := (some ⟨g, 0, none⟩)) rfl (fr_eval rfl rfl) rfl Try.underlying43) ?_
  refine lf_val (v := .bool false) (wantAll rfl) (rv_move rfl (fr_eval rfl rfl)) ?_
  refine lf_val (v := tv) (wantF (d := 11) rfl (by kernel_rfl) rfl rfl) (rv_move rfl (fr_eval rfl e1)) ?_
  refine lf_call (wantF (d := 11) rfl (by kernel_rfl) rfl rfl) (rv_call (args := [tv]) rfl (evc (fr_eval rfl rfl) evn) Try.call18) (calls_known (b' := false) (right_calls t _ _ (hr.rd _ hH.chg)) (decide_eq_false ht)) ?_
  rintro _ w1 ⟨rfl, hx⟩
  refine ⟨_, rfl, ?_⟩
  replace hH := hH.ext hx
  clear hx
  refine lf_val (v := .bool true) (wantF (d := 11) rfl (by kernel_rfl) rfl rfl) (rv_not (b := false) rfl (fr_eval rfl rfl)) ?_
  refine lf_val (v := .bool true) (wantAll rfl) (rv_pickF rfl (fr_eval rfl rfl) (fr_eval rfl rfl)) ?_
  refine lf_nil ?_
  refine then_n ?_
  refine wp_gen (fun F' => F' 0 = .pointer (some ⟨g, 0, none⟩) ∧ F' 1 = tv ∧ F' 4 = .int .i64 0 ∧ F' 5 = .int .i64 0 ∧ F' 15 = .bool true) ⟨e0, e1, e4, e5, rfl⟩ ?_
  clear e0 e1 e4 e5
  clear F
  rintro F ⟨e0, e1, e4, e5, e15⟩
  refine wp_cond_true (fr_eval rfl e15) ?_
  refine wp_seq ?_
  refine wp_regionF ?_
  refine lf_val (v := .int .i64 0) (wantAll rfl) (rv_assign rfl rfl) ?_
  refine lf_val (v := .int .i64 1) (wantAll rfl) (rv_assign rfl rfl) ?_
  refine lf_nil ?_
  refine then_n ?_
  refine wp_gen (fun F' => F' 0 = .pointer (some ⟨g, 0, none⟩) ∧ F' 1 = tv ∧ F' 4 = .int .i64 0 ∧ F' 5 = .int .i64 1 ∧ F' 15 = .bool true) ⟨e0, e1, rfl, rfl, e15⟩ ?_
  clear e0 e1 e4 e5 e15
  clear F
  rintro F ⟨e0, e1, e4, e5, e15⟩
  refine wp_ret ?_
  refine then_ret ?_
  exact bodyPost_ret (v := .tuple #[.int .i64 0, .int .i64 1]) (res2 rfl (ro_tmp rfl e4) (ro_tmp rfl e5)) rfl (⟨rfl, hH.done⟩)

set_option maxRecDepth 100000 in
set_option maxHeartbeats 4000000 in
theorem into_b {K : Nat → Prop} {g : Nat} {v : Value} {mo : Option Nat} (ns : List Nd) (hn : ns.length ≤ 900000) (hb : okB ns) (t : List Nd) (ht : okT t) (tv : Value) (w : World) (hs0 : Stab (newK w K) w 3 tv t.length (t.flatMap cNd)) (hh0 : Heap (newK w K) w w [oBlk g ([v, .map mo]) 30, oRow cNd 40 3 v ns, oMp mo ns]) :
    Calls Try.prog 13 #[.pointer (some ⟨g, 0, none⟩), tv] w fun e'' w' => ∃ v' r', e'' = .returned (.tuple #[.int .i64 ((idT ns t : Nat) : Int), .int .i64 0]) ∧ Heap (newK w K) w w' [oBlk g ([v', .map (some r')]) 30, oRow cNd 40 3 v' (bankT ns t), oMp (some r') (bankT ns t)] := by
  refine calls_fr (args := [.pointer (some ⟨g, 0, none⟩), tv]) (n := 66) Try.func13 rfl rfl (show 2 ≤ 66 by decide) ?_
  have htl := ht.2.1
  have hs := hs0
  have hH : Heap (newK w K) w w [oBlk g ([v, .map mo]) 30, oRow cNd 40 3 v ns, oMp mo ns] := hh0
  refine wp_seq ?_
  refine wp_gen (fun F' => F' 0 = .pointer (some ⟨g, 0, none⟩) ∧ F' 1 = tv) ⟨rfl, rfl⟩ ?_
  rintro F ⟨e0, e1⟩
  refine wp_regionF ?_
  refine lf_val (v := .int .i64 0) (wantAll rfl) (rv_assign rfl rfl) ?_
  refine lf_val (v := .int .i64 0) (wantAll rfl) (rv_assign rfl rfl) ?_
  refine lf_nil ?_
  refine then_n ?_
  refine wp_seq ?_
  refine wp_seq ?_
  refine wp_gen (fun F' => F' 0 = .pointer (some ⟨g, 0, none⟩) ∧ F' 1 = tv ∧ F' 4 = .int .i64 0 ∧ F' 5 = .int .i64 0) ⟨e0, e1, rfl, rfl⟩ ?_
  clear e0 e1
  clear F
  rintro F ⟨e0, e1, e4, e5⟩
  refine wp_regionF ?_
  refine lf_val (v := .pointer (some ⟨g, 0, none⟩)) (wantAll rfl) (rv_move rfl (fr_eval rfl e0)) ?_
  refine lf_val (v := .bool false) (wantAll rfl) (rv_eqnil (p := (some ⟨g, 0, none⟩)) rfl (fr_eval rfl rfl) rfl Try.underlying43) ?_
  refine lf_val (v := .bool false) (wantAll rfl) (rv_move rfl (fr_eval rfl rfl)) ?_
  refine lf_val (v := tv) (wantF (d := 11) rfl (by kernel_rfl) rfl rfl) (rv_move rfl (fr_eval rfl e1)) ?_
  refine lf_call (wantF (d := 11) rfl (by kernel_rfl) rfl rfl) (rv_call (args := [tv]) rfl (evc (fr_eval rfl rfl) evn) Try.call18) (calls_known (b' := true) (right_calls t _ _ (hs.rd _ hH.chg)) (decide_eq_true ht)) ?_
  rintro _ w1 ⟨rfl, hx⟩
  refine ⟨_, rfl, ?_⟩
  replace hH := hH.ext hx
  clear hx
  refine lf_val (v := .bool false) (wantF (d := 11) rfl (by kernel_rfl) rfl rfl) (rv_not (b := true) rfl (fr_eval rfl rfl)) ?_
  refine lf_val (v := .bool false) (wantAll rfl) (rv_pickF rfl (fr_eval rfl rfl) (fr_eval rfl rfl)) ?_
  refine lf_nil ?_
  refine then_n ?_
  refine wp_gen (fun F' => F' 0 = .pointer (some ⟨g, 0, none⟩) ∧ F' 1 = tv ∧ F' 4 = .int .i64 0 ∧ F' 5 = .int .i64 0 ∧ F' 15 = .bool false) ⟨e0, e1, e4, e5, rfl⟩ ?_
  clear e0 e1 e4 e5
  clear F
  rintro F ⟨e0, e1, e4, e5, e15⟩
  refine wp_cond_false (fr_eval rfl e15) ?_
  refine wp_skip ?_
  refine then_n ?_
  refine wp_seq ?_
  refine wp_seq ?_
  by_cases hf1 : mo = none
  · subst hf1
    have hns : ns = [] := hH.mp (i := 2) rfl
    refine wp_regionF ?_
    refine lf_val (v := .pointer (some ⟨g, 0, none⟩)) (wantAll rfl) (rv_move rfl (fr_eval rfl e0)) ?_
    refine lf_val (v := .pointer (some ⟨g, 0, none⟩)) (wantAll rfl) (rv_nilCheck rfl (fr_eval rfl rfl)) ?_
    refine lf_val (v := .pointer (some ⟨g, 1, none⟩)) (wantAll rfl) (rv_fieldAddr (n := 0) rfl (fr_eval rfl rfl) Try.underlying30 rfl rfl (by kernel_rfl)) ?_
    refine lf_val (v := .map none) (wantAll rfl) (rv_load1 rfl (hH.blk (i := 0) rfl) zBa_g0 (fr_eval rfl rfl) Try.underlying28 rfl Try.sz28) ?_
    refine lf_val (v := .bool true) (wantAll rfl) (rv_eqmap (p := none) rfl (fr_eval rfl rfl) rfl Try.underlying28) ?_
    refine lf_nil ?_
    refine then_n ?_
    replace hH : Heap _ _ _ [_, _] := hH.drop (.cons_cons _ (.cons_cons _ (.cons _ .slnil)))
    refine wp_gen (fun F' => F' 0 = .pointer (some ⟨g, 0, none⟩) ∧ F' 1 = tv ∧ F' 4 = .int .i64 0 ∧ F' 5 = .int .i64 0 ∧ F' 15 = .bool false ∧ F' 20 = .bool true) ⟨e0, e1, e4, e5, e15, rfl⟩ ?_
    clear e0 e1 e4 e5 e15
    clear F
    rintro F ⟨e0, e1, e4, e5, e15, e20⟩
    refine wp_cond_true (fr_eval rfl e20) ?_
    refine wp_regionF ?_
    refine lf_val (v := .pointer (some ⟨g, 0, none⟩)) (wantAll rfl) (rv_move rfl (fr_eval rfl e0)) ?_
    refine lf_ex (wantAll rfl) (hx_makeMapN hH (ns := ns) hns rfl) ?_
    clear hH
    rintro _ w2 ⟨q1, rfl, hH, hx⟩
    replace hH : Heap _ _ _ [_, _, _] := hH
    clear hx
    refine lf_val (v := .pointer (some ⟨g, 0, none⟩)) (wantAll rfl) (rv_nilCheck rfl (fr_eval rfl rfl)) ?_
    refine lf_val (v := .pointer (some ⟨g, 1, none⟩)) (wantAll rfl) (rv_fieldAddr (n := 0) rfl (fr_eval rfl rfl) Try.underlying30 rfl rfl (by kernel_rfl)) ?_
    refine lf_sk (wantAll rfl) (hx_storeC hH (i := 0) (j := 1) (v := .map (some q1)) rfl rfl rfl (show 1 < 2 by decide) rfl (fr_eval rfl rfl) (fr_eval rfl rfl) Try.sz28 rfl) ?_
    clear hH
    rintro w3 ⟨hH, hx⟩
    replace hH : Heap _ _ _ [_, _, _] := hH
    clear hx
    refine lf_nil ?_
    refine then_n ?_
    refine wp_seq ?_
    refine wp_gen (fun F' => F' 0 = .pointer (some ⟨g, 0, none⟩) ∧ F' 1 = tv ∧ F' 4 = .int .i64 0 ∧ F' 5 = .int .i64 0 ∧ F' 15 = .bool false ∧ F' 20 = .bool true) ⟨e0, e1, e4, e5, e15, e20⟩ ?_
    clear e0 e1 e4 e5 e15 e20
    clear F
    rintro F ⟨e0, e1, e4, e5, e15, e20⟩
    refine wp_regionF ?_
    refine lf_val (v := tv) (wantAll rfl) (rv_move rfl (fr_eval rfl e1)) ?_
    refine lf_val (v := .int .i64 ((t.length : Nat) : Int)) (wantAll rfl) (rv_len rfl (fr_eval rfl rfl) (hs.rd _ hH.chg) Try.underlying24) ?_
    refine lf_ex (wantAll rfl) (hx_make hH Try.stInt (n := t.length) (nm := List.length (List.replicate t.length 0)) (z1 := .int .i64 0) (xs := (List.replicate t.length 0).flatMap cNu) rfl (fr_eval rfl rfl) (fr_eval rfl rfl) (by have := ht.2.1; omega) rfl (zeros_f (f := cNu) (d := 0) (sz := 1) rfl _) (List.length_replicate ..).symm) ?_
    clear hH
    rintro y1 w4 ⟨hH, hx⟩
    replace hH : Heap _ _ _ [_, _, _, _] := hH
    clear hx
    refine lf_val (v := y1) (wantAll rfl) (rv_assign rfl (fr_eval rfl rfl)) ?_
    refine lf_nil ?_
    refine then_n ?_
    refine wp_seq ?_
    refine wp_seq ?_
    refine wp_gen (fun F' => F' 0 = .pointer (some ⟨g, 0, none⟩) ∧ F' 1 = tv ∧ F' 4 = .int .i64 0 ∧ F' 5 = .int .i64 0 ∧ F' 6 = y1 ∧ F' 15 = .bool false ∧ F' 20 = .bool true) ⟨e0, e1, e4, e5, rfl, e15, e20⟩ ?_
    clear e0 e1 e4 e5 e15 e20
    clear F
    rintro F ⟨e0, e1, e4, e5, e6, e15, e20⟩
    refine wp_regionF ?_
    refine lf_val (v := tv) (wantAll rfl) (rv_move rfl (fr_eval rfl e1)) ?_
    refine lf_val (v := .int .i64 ((t.length : Nat) : Int)) (wantAll rfl) (rv_len rfl (fr_eval rfl rfl) (hs.rd _ hH.chg) Try.underlying24) ?_
    refine lf_val (v := .int .i64 0) (wantAll rfl) (rv_move rfl rfl) ?_
    refine lf_nil ?_
    refine then_n ?_
    refine wp_block ?_
    rw [show List.replicate t.length 0 = idsAt ns t 0 from idsAt_0 ns t] at hH
    have hbk := bnk_0 ns t
    refine wp_gen (fun F' => F' 0 = .pointer (some ⟨g, 0, none⟩) ∧ F' 1 = tv ∧ F' 4 = .int .i64 0 ∧ F' 5 = .int .i64 0 ∧ F' 6 = y1 ∧ F' 15 = .bool false ∧ F' 20 = .bool true ∧ F' 28 = tv ∧ F' 29 = .int .i64 ((t.length : Nat) : Int) ∧ F' 30 = .int .i64 0) ⟨e0, e1, e4, e5, e6, e15, e20, rfl, rfl, rfl⟩ ?_
    clear e0 e1 e4 e5 e6 e15 e20
    clear F
    rintro F ⟨e0, e1, e4, e5, e6, e15, e20, e28, e29, e30⟩
    refine wp_loopF (fun m F wr => ∃ i : Nat, ∃ u : Value, m = t.length - i ∧ i ≤ t.length ∧ F 0 = .pointer (some ⟨g, 0, none⟩) ∧ F 1 = tv ∧ F 4 = .int .i64 0 ∧ F 5 = .int .i64 0 ∧ F 6 = y1 ∧ F 15 = .bool false ∧ F 20 = .bool true ∧ F 28 = tv ∧ F 29 = .int .i64 ((t.length : Nat) : Int) ∧ F 30 = .int .i64 ((i : Nat) : Int) ∧ Heap (newK w K) w wr [oBlk g ([u, .map (some q1)]) 30, oRow cNd 40 3 u (bnk ns t i), oMp (some q1) (bnk ns t i), oRow cNu 3 1 y1 (idsAt ns t i)]) ⟨0, _, rfl, Nat.zero_le _, e0, e1, e4, e5, e6, e15, e20, e28, e29, e30, hH⟩ ?_
    clear e0 e1 e4 e5 e6 e15 e20 e28 e29 e30 hH
    clear F
    rintro m F w5 ⟨i, u, rfl, pi0, e0, e1, e4, e5, e6, e15, e20, e28, e29, e30, hH⟩
    refine wp_seq ?_
    refine wp_regionF ?_
    refine lf_val (v := .bool (decide (i < t.length))) (wantAll rfl) (rv_lssP (p := i < t.length) rfl (fr_eval rfl e30) (fr_eval rfl e29) (by omega)) ?_
    refine lf_nil ?_
    refine then_n ?_
    refine wp_seq ?_
    refine wp_gen (fun F' => F' 0 = .pointer (some ⟨g, 0, none⟩) ∧ F' 1 = tv ∧ F' 4 = .int .i64 0 ∧ F' 5 = .int .i64 0 ∧ F' 6 = y1 ∧ F' 15 = .bool false ∧ F' 20 = .bool true ∧ F' 28 = tv ∧ F' 29 = .int .i64 ((t.length : Nat) : Int) ∧ F' 30 = .int .i64 ((i : Nat) : Int) ∧ F' 31 = .bool (decide (i < t.length))) ⟨e0, e1, e4, e5, e6, e15, e20, e28, e29, e30, rfl⟩ ?_
    clear e0 e1 e4 e5 e6 e15 e20 e28 e29 e30
    clear F
    rintro F ⟨e0, e1, e4, e5, e6, e15, e20, e28, e29, e30, e31⟩
    by_cases hc1 : i < t.length
    · refine wp_cond_true (fr_eval rfl (e31.trans (congrArg Value.bool (decide_eq_true hc1)))) ?_
      refine wp_skip ?_
      refine then_n ?_
      refine wp_seq ?_
      refine wp_block ?_
      refine wp_seq ?_
      refine wp_regionF ?_
      refine lf_val (v := .int .i64 ((i : Nat) : Int)) (wantAll rfl) (rv_move rfl (fr_eval rfl e30)) ?_
      refine lf_val (v := .pointer (some (elemA tv (i * 3)))) (wantAll rfl) (rv_index rfl (fr_eval rfl e28) (fr_eval rfl e30) (rdN (hs.rd _ hH.chg) rfl) (show i < t.length from (by omega)) Try.underlying24 Try.sz40 (by decide)) ?_
      refine lf_val (wantAll rfl) (rv_loadElem rfl (fr_eval rfl rfl) (rdN (hs.rd _ hH.chg) rfl) (show i < t.length from (by omega)) (by decide) (flat_part zN cNd_len (show i < t.length from (by omega))) Try.underlying40 rfl Try.sz40) ?_
      refine lf_ex (wantAll rfl) (hx_alloc hH 40 (z := .agg ([.int .i64 0, .int .i64 0, .int .i64 0]).toArray) (n := 3) (cs := [.int .i64 0, .int .i64 0, .int .i64 0]) rfl (by kernel_rfl) (by rfl)) ?_
      clear hH
      rintro _ w6 ⟨g1, rfl, hH, hx⟩
      replace hH : Heap _ _ _ [_, _, _, _, _] := hH
      clear hx
      refine lf_val (v := .int .i64 ((i : Nat) : Int)) (wantAll rfl) (rv_assign rfl (fr_eval rfl rfl)) ?_
      refine lf_sk (wantAll rfl) (hx_storeW hH (i := 4) (cs := [.int .i64 ((List.getD t i zN).k), .int .i64 ((List.getD t i zN).a), .int .i64 ((List.getD t i zN).b)]) rfl rfl rfl (fr_eval rfl rfl) (fr_eval rfl rfl) (sz_len Try.sz40 zBa_l1) ((zBa_l1).trans (zBa_l1).symm) (zBa_o5 rfl rfl rfl)) ?_
      clear hH
      rintro w7 ⟨hH, hx⟩
      replace hH : Heap _ _ _ [_, _, _, _, _] := hH
      clear hx
      refine lf_nil ?_
      refine then_n ?_
      refine wp_seq ?_
      refine wp_seq ?_
      refine wp_gen (fun F' => F' 0 = .pointer (some ⟨g, 0, none⟩) ∧ F' 1 = tv ∧ F' 4 = .int .i64 0 ∧ F' 5 = .int .i64 0 ∧ F' 6 = y1 ∧ F' 7 = .int .i64 ((i : Nat) : Int) ∧ F' 8 = .pointer (some ⟨g1, 0, none⟩) ∧ F' 15 = .bool false ∧ F' 20 = .bool true ∧ F' 28 = tv ∧ F' 29 = .int .i64 ((t.length : Nat) : Int) ∧ F' 30 = .int .i64 ((i : Nat) : Int) ∧ F' 31 = .bool true) ⟨e0, e1, e4, e5, e6, rfl, rfl, e15, e20, e28, e29, e30, (e31.trans (congrArg Value.bool (decide_eq_true hc1)))⟩ ?_
      clear e0 e1 e4 e5 e6 e15 e20 e28 e29 e30 e31
      clear F
      rintro F ⟨e0, e1, e4, e5, e6, e7, e8, e15, e20, e28, e29, e30, e31⟩
      have hok := ht.2.2 i (by omega)
      have hw := way_take hb ht i (by omega)
      refine wp_regionF ?_
      refine lf_val (v := .pointer (some ⟨g1, 0, none⟩)) (wantAll rfl) (rv_fieldAddr (n := 0) rfl (fr_eval rfl e8) Try.underlying40 rfl rfl (by kernel_rfl)) ?_
      refine lf_val (v := .int .i64 ((List.getD t i zN).k)) (wantAll rfl) (rv_load1 rfl (hH.blk (i := 4) rfl) zBa_g4 (fr_eval rfl rfl) Try.underlying3 rfl Try.sz3) ?_
      refine lf_val (v := .bool (decide (¬ (List.getD t i zN).k = 1))) (wantAll rfl) (rv_neqP (p := ¬ (List.getD t i zN).k = 1) rfl (fr_eval rfl rfl) rfl Iff.rfl) ?_
      refine lf_nil ?_
      refine then_n ?_
      refine wp_gen (fun F' => F' 0 = .pointer (some ⟨g, 0, none⟩) ∧ F' 1 = tv ∧ F' 4 = .int .i64 0 ∧ F' 5 = .int .i64 0 ∧ F' 6 = y1 ∧ F' 7 = .int .i64 ((i : Nat) : Int) ∧ F' 8 = .pointer (some ⟨g1, 0, none⟩) ∧ F' 15 = .bool false ∧ F' 20 = .bool true ∧ F' 28 = tv ∧ F' 29 = .int .i64 ((t.length : Nat) : Int) ∧ F' 30 = .int .i64 ((i : Nat) : Int) ∧ F' 31 = .bool true ∧ F' 37 = .bool (decide (¬ (List.getD t i zN).k = 1))) ⟨e0, e1, e4, e5, e6, e7, e8, e15, e20, e28, e29, e30, e31, rfl⟩ ?_
      clear e0 e1 e4 e5 e6 e7 e8 e15 e20 e28 e29 e30 e31
      clear F
      rintro F ⟨e0, e1, e4, e5, e6, e7, e8, e15, e20, e28, e29, e30, e31, e37⟩
      by_cases hc2 : (List.getD t i zN).k = 1
      · refine wp_cond_false (fr_eval rfl (e37.trans (congrArg Value.bool (decide_eq_false (not_not_intro hc2))))) ?_
        refine wp_skip ?_
        refine then_n ?_
        refine wp_regionF ?_
        refine lf_val (v := y1) (wantAll rfl) (rv_move rfl (fr_eval rfl e6)) ?_
        refine lf_val (v := .int .i64 ((i : Nat) : Int)) (wantAll rfl) (rv_move rfl (fr_eval rfl e7)) ?_
        refine lf_val (v := .pointer (some ⟨g, 0, none⟩)) (wantAll rfl) (rv_move rfl (fr_eval rfl e0)) ?_
        refine lf_val (wantAll rfl) (rv_loadW rfl (hH.blk (i := 4) rfl) (fr_eval rfl e8) Try.underlying40 rfl (sz_len Try.sz40 zBa_l1)) ?_
        have hnd : (List.getD t i zN) = nodeAt ns t i := (by
          unfold nodeAt subN
          first | rw [if_pos (by omega)] | rw [if_neg (by omega), if_pos (by omega), idsAt_get (by omega) (by unfold okN at hok; omega)] | rw [if_neg (by omega), if_neg (by omega), idsAt_get (by omega) (by unfold okN at hok; omega), idsAt_get (by omega) (by unfold okN at hok; omega)])
        replace hH : Heap _ _ _ [_, _, _, _, _] := hH.perm (.trans (.swap _ _ _) (.cons _ (.trans (.swap _ _ _) (.cons _ (.trans (.swap _ _ _) (.cons _ (.refl _)))))))
        replace hH : Heap _ _ _ [_, _, _, _, _] := hH.perm (.cons _ (.trans (.swap _ _ _) (.cons _ (.trans (.swap _ _ _) (.cons _ (.trans (.swap _ _ _) (.cons _ (.refl _))))))))
        refine lf_call (wantAll rfl) (rv_call (args := [.pointer (some ⟨g, 0, none⟩), .agg (cNd (nodeAt ns t i)).toArray]) rfl (evc (fr_eval rfl rfl) (evc ((show _ = Value.agg (cNd (List.getD t i zN)).toArray from (fr_eval rfl rfl)).trans (congrArg (fun n => Value.agg (cNd n).toArray) hnd)) evn)) Try.call19) (one_b (bnk ns t i) (by have := bnk_le ns t i; have := ht.2.1; omega) (nodeAt ns t i) _ (Heap.part (L := [_, _]) (M := [_, _, _]) hH)) ?_
        rintro _ w8 ⟨y2, rfl, hP⟩
        refine ⟨_, rfl, ?_⟩
        have hx := hH.callChg (L := [_, _]) (M := [_, _, _]) (fun _ h => h) hP
        replace hH : Heap _ _ _ [_, _, _, _, _] := hH.call (L := [_, _]) (M := [_, _, _]) (fun _ h => h) hP (Stays.blk (hP.blk (i := 0) rfl) (Stays.own (hP.own (i := 1) rfl) (Stays.mp (hP.mp (i := 2) rfl) Stays.nil)))
        clear hP
        clear hx
        clear hnd
        rw [bnk_next (by omega : i < t.length)] at hH
        refine lf_val (v := .pointer (some (elemA y1 (i * 1)))) (wantAll rfl) (rv_index rfl (fr_eval rfl rfl) (fr_eval rfl rfl) (rdN (Own.rd (hH.own (i := 0) rfl) (row_one cNu_one)) (idsAt_len ns t pi0)) (show i < t.length from (by omega)) Try.underlying31 Try.sz3 (by decide)) ?_
        refine lf_sk (wantAll rfl) (hx_setC hH (i := 0) (nm := List.length (List.set (idsAt ns t i) i ((oneN (bnk ns t i) (nodeAt ns t i)).2))) (j := i) (xs' := (List.set (idsAt ns t i) i ((oneN (bnk ns t i) (nodeAt ns t i)).2)).flatMap cNu) rfl rfl rfl (List.length_set ..).symm (Nat.lt_of_lt_of_eq (by omega) ((idsAt_len ns t pi0)).symm) (flat_set1 cNu_len rfl (Nat.lt_of_lt_of_eq (by omega) ((idsAt_len ns t pi0)).symm)) (fr_eval rfl rfl) (fr_eval rfl rfl) Try.sz3 rfl) ?_
        clear hH
        rintro w10 ⟨hH, hx⟩
        replace hH : Heap _ _ _ [_, _, _, _, _] := hH
        rw [show List.set (idsAt ns t i) i ((oneN (bnk ns t i) (nodeAt ns t i)).2) = idsAt ns t (i + 1) from idsAt_next (by omega)] at hH
        clear hx
        refine lf_nil ?_
        refine blk_n ?_
        refine then_n ?_
        refine wp_gen (fun F' => F' 0 = .pointer (some ⟨g, 0, none⟩) ∧ F' 1 = tv ∧ F' 4 = .int .i64 0 ∧ F' 5 = .int .i64 0 ∧ F' 6 = y1 ∧ F' 7 = .int .i64 ((i : Nat) : Int) ∧ F' 8 = .pointer (some ⟨g1, 0, none⟩) ∧ F' 15 = .bool false ∧ F' 20 = .bool true ∧ F' 28 = tv ∧ F' 29 = .int .i64 ((t.length : Nat) : Int) ∧ F' 30 = .int .i64 ((i : Nat) : Int) ∧ F' 31 = .bool true ∧ F' 37 = .bool false) ⟨e0, e1, e4, e5, e6, e7, e8, e15, e20, e28, e29, e30, e31, (e37.trans (congrArg Value.bool (decide_eq_false (not_not_intro hc2))))⟩ ?_
        clear e0 e1 e4 e5 e6 e7 e8 e15 e20 e28 e29 e30 e31 e37
        clear F
        rintro F ⟨e0, e1, e4, e5, e6, e7, e8, e15, e20, e28, e29, e30, e31, e37⟩
        refine wp_regionF ?_
        refine lf_val (v := .int .i64 ((i + 1 : Nat) : Int)) (wantAll rfl) (rv_add rfl (fr_eval rfl e30) rfl (wrap_i64 (by omega) (by omega) (by omega))) ?_
        refine lf_val (v := .int .i64 ((i + 1 : Nat) : Int)) (wantAll rfl) (rv_move rfl (fr_eval rfl rfl)) ?_
        refine lf_nil ?_
        refine then_n ?_
        replace hH : Heap _ _ _ [_, _, _, _] := hH.drop (.cons_cons _ (.cons _ (.cons_cons _ (.cons_cons _ (.cons_cons _ .slnil)))))
        replace hH : Heap _ _ _ [_, _, _, _] := hH.perm (.trans (.swap _ _ _) (.cons _ (.refl _)))
        replace hH : Heap _ _ _ [_, _, _, _] := hH.perm (.cons _ (.trans (.swap _ _ _) (.cons _ (.refl _))))
        replace hH : Heap _ _ _ [_, _, _, _] := hH.perm (.cons _ (.cons _ (.trans (.swap _ _ _) (.cons _ (.refl _)))))
        exact ⟨_, _, (by omega), rfl, i + 1, _, rfl, (by omega), e0, e1, e4, e5, e6, e15, e20, e28, e29, rfl, hH⟩
      · refine wp_cond_true (fr_eval rfl (e37.trans (congrArg Value.bool (decide_eq_true hc2)))) ?_
        refine wp_seq ?_
        refine wp_regionF ?_
        refine lf_val (v := y1) (wantAll rfl) (rv_move rfl (fr_eval rfl e6)) ?_
        refine lf_val (v := .pointer (some ⟨g1, 1, none⟩)) (wantAll rfl) (rv_fieldAddr (n := 0) rfl (fr_eval rfl e8) Try.underlying40 rfl rfl (by kernel_rfl)) ?_
        refine lf_val (v := .int .i64 ((List.getD t i zN).a)) (wantAll rfl) (rv_load1 rfl (hH.blk (i := 4) rfl) zBa_g3 (fr_eval rfl rfl) Try.underlying3 rfl Try.sz3) ?_
        refine lf_val (v := .pointer (some (elemA y1 ((((List.getD t i zN).a).toNat) * 1)))) (wantAll rfl) (rv_index rfl (fr_eval rfl rfl) (((fr_eval rfl rfl)).trans (congrArg (Value.int .i64) (Int.toNat_of_nonneg (by unfold okN at hok; omega)).symm)) (rdN (Own.rd (hH.own (i := 3) rfl) (row_one cNu_one)) (idsAt_len ns t pi0)) (show ((List.getD t i zN).a).toNat < t.length from (by unfold okN at hok; omega)) Try.underlying31 Try.sz3 (by decide)) ?_
        refine lf_val (wantAll rfl) (rv_loadCell rfl (fr_eval rfl rfl) (Nat.mul_one _) (Own.rd (hH.own (i := 3) rfl) (row_one cNu_one)) (flat_get1 0 cNu_len (Nat.lt_of_lt_of_eq (show ((List.getD t i zN).a).toNat < t.length from (by unfold okN at hok; omega)) ((idsAt_len ns t pi0)).symm) rfl) Try.underlying3 rfl Try.sz3) ?_
        refine lf_val (v := .pointer (some ⟨g1, 1, none⟩)) (wantAll rfl) (rv_fieldAddr (n := 0) rfl (fr_eval rfl e8) Try.underlying40 rfl rfl (by kernel_rfl)) ?_
        refine lf_sk (wantAll rfl) (hx_storeC hH (i := 4) (j := 1) (v := .int .i64 (((List.getD (idsAt ns t i) (((List.getD t i zN).a).toNat) 0) : Nat) : Int)) rfl rfl rfl (show 1 < 3 by decide) rfl (fr_eval rfl rfl) (fr_eval rfl rfl) Try.sz3 rfl) ?_
        clear hH
        rintro w11 ⟨hH, hx⟩
        replace hH : Heap _ _ _ [_, _, _, _, _] := hH
        clear hx
        refine lf_nil ?_
        refine then_n ?_
        refine wp_seq ?_
        refine wp_gen (fun F' => F' 0 = .pointer (some ⟨g, 0, none⟩) ∧ F' 1 = tv ∧ F' 4 = .int .i64 0 ∧ F' 5 = .int .i64 0 ∧ F' 6 = y1 ∧ F' 7 = .int .i64 ((i : Nat) : Int) ∧ F' 8 = .pointer (some ⟨g1, 0, none⟩) ∧ F' 15 = .bool false ∧ F' 20 = .bool true ∧ F' 28 = tv ∧ F' 29 = .int .i64 ((t.length : Nat) : Int) ∧ F' 30 = .int .i64 ((i : Nat) : Int) ∧ F' 31 = .bool true ∧ F' 37 = .bool true) ⟨e0, e1, e4, e5, e6, e7, e8, e15, e20, e28, e29, e30, e31, (e37.trans (congrArg Value.bool (decide_eq_true hc2)))⟩ ?_
        clear e0 e1 e4 e5 e6 e7 e8 e15 e20 e28 e29 e30 e31 e37
        clear F
        rintro F ⟨e0, e1, e4, e5, e6, e7, e8, e15, e20, e28, e29, e30, e31, e37⟩
        refine wp_regionF ?_
        refine lf_val (v := .pointer (some ⟨g1, 0, none⟩)) (wantAll rfl) (rv_fieldAddr (n := 0) rfl (fr_eval rfl e8) Try.underlying40 rfl rfl (by kernel_rfl)) ?_
        refine lf_val (v := .int .i64 ((List.getD t i zN).k)) (wantAll rfl) (rv_load1 rfl (hH.blk (i := 4) rfl) zBa_g4 (fr_eval rfl rfl) Try.underlying3 rfl Try.sz3) ?_
        refine lf_val (v := .bool (decide (¬ (List.getD t i zN).k = 3))) (wantAll rfl) (rv_neqP (p := ¬ (List.getD t i zN).k = 3) rfl (fr_eval rfl rfl) rfl Iff.rfl) ?_
        refine lf_nil ?_
        refine then_n ?_
        refine wp_gen (fun F' => F' 0 = .pointer (some ⟨g, 0, none⟩) ∧ F' 1 = tv ∧ F' 4 = .int .i64 0 ∧ F' 5 = .int .i64 0 ∧ F' 6 = y1 ∧ F' 7 = .int .i64 ((i : Nat) : Int) ∧ F' 8 = .pointer (some ⟨g1, 0, none⟩) ∧ F' 15 = .bool false ∧ F' 20 = .bool true ∧ F' 28 = tv ∧ F' 29 = .int .i64 ((t.length : Nat) : Int) ∧ F' 30 = .int .i64 ((i : Nat) : Int) ∧ F' 31 = .bool true ∧ F' 37 = .bool true ∧ F' 46 = .bool (decide (¬ (List.getD t i zN).k = 3))) ⟨e0, e1, e4, e5, e6, e7, e8, e15, e20, e28, e29, e30, e31, e37, rfl⟩ ?_
        clear e0 e1 e4 e5 e6 e7 e8 e15 e20 e28 e29 e30 e31 e37
        clear F
        rintro F ⟨e0, e1, e4, e5, e6, e7, e8, e15, e20, e28, e29, e30, e31, e37, e46⟩
        by_cases hc3 : (List.getD t i zN).k = 3
        · refine wp_cond_false (fr_eval rfl (e46.trans (congrArg Value.bool (decide_eq_false (not_not_intro hc3))))) ?_
          refine wp_skip ?_
          refine then_n ?_
          refine wp_regionF ?_
          refine lf_val (v := y1) (wantAll rfl) (rv_move rfl (fr_eval rfl e6)) ?_
          refine lf_val (v := .int .i64 ((i : Nat) : Int)) (wantAll rfl) (rv_move rfl (fr_eval rfl e7)) ?_
          refine lf_val (v := .pointer (some ⟨g, 0, none⟩)) (wantAll rfl) (rv_move rfl (fr_eval rfl e0)) ?_
          refine lf_val (wantAll rfl) (rv_loadW rfl (hH.blk (i := 4) rfl) (fr_eval rfl e8) Try.underlying40 rfl (sz_len Try.sz40 zBa_l1)) ?_
          have hnd : (⟨(List.getD t i zN).k, (((List.getD (idsAt ns t i) (((List.getD t i zN).a).toNat) 0) : Nat) : Int), (List.getD t i zN).b⟩ : Nd) = nodeAt ns t i := (by
            unfold nodeAt subN
            first | rw [if_pos (by omega)] | rw [if_neg (by omega), if_pos (by omega), idsAt_get (by omega) (by unfold okN at hok; omega)] | rw [if_neg (by omega), if_neg (by omega), idsAt_get (by omega) (by unfold okN at hok; omega), idsAt_get (by omega) (by unfold okN at hok; omega)])
          replace hH : Heap _ _ _ [_, _, _, _, _] := hH.perm (.trans (.swap _ _ _) (.cons _ (.trans (.swap _ _ _) (.cons _ (.trans (.swap _ _ _) (.cons _ (.refl _)))))))
          replace hH : Heap _ _ _ [_, _, _, _, _] := hH.perm (.cons _ (.trans (.swap _ _ _) (.cons _ (.trans (.swap _ _ _) (.cons _ (.trans (.swap _ _ _) (.cons _ (.refl _))))))))
          refine lf_call (wantAll rfl) (rv_call (args := [.pointer (some ⟨g, 0, none⟩), .agg (cNd (nodeAt ns t i)).toArray]) rfl (evc (fr_eval rfl rfl) (evc ((show _ = Value.agg (cNd (⟨(List.getD t i zN).k, (((List.getD (idsAt ns t i) (((List.getD t i zN).a).toNat) 0) : Nat) : Int), (List.getD t i zN).b⟩ : Nd)).toArray from (fr_eval rfl rfl)).trans (congrArg (fun n => Value.agg (cNd n).toArray) hnd)) evn)) Try.call19) (one_b (bnk ns t i) (by have := bnk_le ns t i; have := ht.2.1; omega) (nodeAt ns t i) _ (Heap.part (L := [_, _]) (M := [_, _, _]) hH)) ?_
          rintro _ w12 ⟨y3, rfl, hP⟩
          refine ⟨_, rfl, ?_⟩
          have hx := hH.callChg (L := [_, _]) (M := [_, _, _]) (fun _ h => h) hP
          replace hH : Heap _ _ _ [_, _, _, _, _] := hH.call (L := [_, _]) (M := [_, _, _]) (fun _ h => h) hP (Stays.blk (hP.blk (i := 0) rfl) (Stays.own (hP.own (i := 1) rfl) (Stays.mp (hP.mp (i := 2) rfl) Stays.nil)))
          clear hP
          clear hx
          clear hnd
          rw [bnk_next (by omega : i < t.length)] at hH
          refine lf_val (v := .pointer (some (elemA y1 (i * 1)))) (wantAll rfl) (rv_index rfl (fr_eval rfl rfl) (fr_eval rfl rfl) (rdN (Own.rd (hH.own (i := 0) rfl) (row_one cNu_one)) (idsAt_len ns t pi0)) (show i < t.length from (by omega)) Try.underlying31 Try.sz3 (by decide)) ?_
          refine lf_sk (wantAll rfl) (hx_setC hH (i := 0) (nm := List.length (List.set (idsAt ns t i) i ((oneN (bnk ns t i) (nodeAt ns t i)).2))) (j := i) (xs' := (List.set (idsAt ns t i) i ((oneN (bnk ns t i) (nodeAt ns t i)).2)).flatMap cNu) rfl rfl rfl (List.length_set ..).symm (Nat.lt_of_lt_of_eq (by omega) ((idsAt_len ns t pi0)).symm) (flat_set1 cNu_len rfl (Nat.lt_of_lt_of_eq (by omega) ((idsAt_len ns t pi0)).symm)) (fr_eval rfl rfl) (fr_eval rfl rfl) Try.sz3 rfl) ?_
          clear hH
          rintro w14 ⟨hH, hx⟩
          replace hH : Heap _ _ _ [_, _, _, _, _] := hH
          rw [show List.set (idsAt ns t i) i ((oneN (bnk ns t i) (nodeAt ns t i)).2) = idsAt ns t (i + 1) from idsAt_next (by omega)] at hH
          clear hx
          refine lf_nil ?_
          refine blk_n ?_
          refine then_n ?_
          refine wp_gen (fun F' => F' 0 = .pointer (some ⟨g, 0, none⟩) ∧ F' 1 = tv ∧ F' 4 = .int .i64 0 ∧ F' 5 = .int .i64 0 ∧ F' 6 = y1 ∧ F' 7 = .int .i64 ((i : Nat) : Int) ∧ F' 8 = .pointer (some ⟨g1, 0, none⟩) ∧ F' 15 = .bool false ∧ F' 20 = .bool true ∧ F' 28 = tv ∧ F' 29 = .int .i64 ((t.length : Nat) : Int) ∧ F' 30 = .int .i64 ((i : Nat) : Int) ∧ F' 31 = .bool true ∧ F' 37 = .bool true ∧ F' 46 = .bool false) ⟨e0, e1, e4, e5, e6, e7, e8, e15, e20, e28, e29, e30, e31, e37, (e46.trans (congrArg Value.bool (decide_eq_false (not_not_intro hc3))))⟩ ?_
          clear e0 e1 e4 e5 e6 e7 e8 e15 e20 e28 e29 e30 e31 e37 e46
          clear F
          rintro F ⟨e0, e1, e4, e5, e6, e7, e8, e15, e20, e28, e29, e30, e31, e37, e46⟩
          refine wp_regionF ?_
          refine lf_val (v := .int .i64 ((i + 1 : Nat) : Int)) (wantAll rfl) (rv_add rfl (fr_eval rfl e30) rfl (wrap_i64 (by omega) (by omega) (by omega))) ?_
          refine lf_val (v := .int .i64 ((i + 1 : Nat) : Int)) (wantAll rfl) (rv_move rfl (fr_eval rfl rfl)) ?_
          refine lf_nil ?_
          refine then_n ?_
          replace hH : Heap _ _ _ [_, _, _, _] := hH.drop (.cons_cons _ (.cons _ (.cons_cons _ (.cons_cons _ (.cons_cons _ .slnil)))))
          replace hH : Heap _ _ _ [_, _, _, _] := hH.perm (.trans (.swap _ _ _) (.cons _ (.refl _)))
          replace hH : Heap _ _ _ [_, _, _, _] := hH.perm (.cons _ (.trans (.swap _ _ _) (.cons _ (.refl _))))
          replace hH : Heap _ _ _ [_, _, _, _] := hH.perm (.cons _ (.cons _ (.trans (.swap _ _ _) (.cons _ (.refl _)))))
          exact ⟨_, _, (by omega), rfl, i + 1, _, rfl, (by omega), e0, e1, e4, e5, e6, e15, e20, e28, e29, rfl, hH⟩
        · refine wp_cond_true (fr_eval rfl (e46.trans (congrArg Value.bool (decide_eq_true hc3)))) ?_
          refine wp_regionF ?_
          refine lf_val (v := y1) (wantAll rfl) (rv_move rfl (fr_eval rfl e6)) ?_
          refine lf_val (v := .pointer (some ⟨g1, 2, none⟩)) (wantAll rfl) (rv_fieldAddr (n := 0) rfl (fr_eval rfl e8) Try.underlying40 rfl rfl (by kernel_rfl)) ?_
          refine lf_val (v := .int .i64 ((List.getD t i zN).b)) (wantAll rfl) (rv_load1 rfl (hH.blk (i := 4) rfl) zBa_g6 (fr_eval rfl rfl) Try.underlying3 rfl Try.sz3) ?_
          refine lf_val (v := .pointer (some (elemA y1 ((((List.getD t i zN).b).toNat) * 1)))) (wantAll rfl) (rv_index rfl (fr_eval rfl rfl) (((fr_eval rfl rfl)).trans (congrArg (Value.int .i64) (Int.toNat_of_nonneg (by unfold okN at hok; omega)).symm)) (rdN (Own.rd (hH.own (i := 3) rfl) (row_one cNu_one)) (idsAt_len ns t pi0)) (show ((List.getD t i zN).b).toNat < t.length from (by unfold okN at hok; omega)) Try.underlying31 Try.sz3 (by decide)) ?_
          refine lf_val (wantAll rfl) (rv_loadCell rfl (fr_eval rfl rfl) (Nat.mul_one _) (Own.rd (hH.own (i := 3) rfl) (row_one cNu_one)) (flat_get1 0 cNu_len (Nat.lt_of_lt_of_eq (show ((List.getD t i zN).b).toNat < t.length from (by unfold okN at hok; omega)) ((idsAt_len ns t pi0)).symm) rfl) Try.underlying3 rfl Try.sz3) ?_
          refine lf_val (v := .pointer (some ⟨g1, 2, none⟩)) (wantAll rfl) (rv_fieldAddr (n := 0) rfl (fr_eval rfl e8) Try.underlying40 rfl rfl (by kernel_rfl)) ?_
          refine lf_sk (wantAll rfl) (hx_storeC hH (i := 4) (j := 2) (v := .int .i64 (((List.getD (idsAt ns t i) (((List.getD t i zN).b).toNat) 0) : Nat) : Int)) rfl rfl rfl (show 2 < 3 by decide) rfl (fr_eval rfl rfl) (fr_eval rfl rfl) Try.sz3 rfl) ?_
          clear hH
          rintro w15 ⟨hH, hx⟩
          replace hH : Heap _ _ _ [_, _, _, _, _] := hH
          clear hx
          refine lf_nil ?_
          refine then_n ?_
          refine wp_gen (fun F' => F' 0 = .pointer (some ⟨g, 0, none⟩) ∧ F' 1 = tv ∧ F' 4 = .int .i64 0 ∧ F' 5 = .int .i64 0 ∧ F' 6 = y1 ∧ F' 7 = .int .i64 ((i : Nat) : Int) ∧ F' 8 = .pointer (some ⟨g1, 0, none⟩) ∧ F' 15 = .bool false ∧ F' 20 = .bool true ∧ F' 28 = tv ∧ F' 29 = .int .i64 ((t.length : Nat) : Int) ∧ F' 30 = .int .i64 ((i : Nat) : Int) ∧ F' 31 = .bool true ∧ F' 37 = .bool true ∧ F' 46 = .bool true) ⟨e0, e1, e4, e5, e6, e7, e8, e15, e20, e28, e29, e30, e31, e37, (e46.trans (congrArg Value.bool (decide_eq_true hc3)))⟩ ?_
          clear e0 e1 e4 e5 e6 e7 e8 e15 e20 e28 e29 e30 e31 e37 e46
          clear F
          rintro F ⟨e0, e1, e4, e5, e6, e7, e8, e15, e20, e28, e29, e30, e31, e37, e46⟩
          refine wp_regionF ?_
          refine lf_val (v := y1) (wantAll rfl) (rv_move rfl (fr_eval rfl e6)) ?_
          refine lf_val (v := .int .i64 ((i : Nat) : Int)) (wantAll rfl) (rv_move rfl (fr_eval rfl e7)) ?_
          refine lf_val (v := .pointer (some ⟨g, 0, none⟩)) (wantAll rfl) (rv_move rfl (fr_eval rfl e0)) ?_
          refine lf_val (wantAll rfl) (rv_loadW rfl (hH.blk (i := 4) rfl) (fr_eval rfl e8) Try.underlying40 rfl (sz_len Try.sz40 zBa_l1)) ?_
          have hnd : (⟨(List.getD t i zN).k, (((List.getD (idsAt ns t i) (((List.getD t i zN).a).toNat) 0) : Nat) : Int), (((List.getD (idsAt ns t i) (((List.getD t i zN).b).toNat) 0) : Nat) : Int)⟩ : Nd) = nodeAt ns t i := (by
            unfold nodeAt subN
            first | rw [if_pos (by omega)] | rw [if_neg (by omega), if_pos (by omega), idsAt_get (by omega) (by unfold okN at hok; omega)] | rw [if_neg (by omega), if_neg (by omega), idsAt_get (by omega) (by unfold okN at hok; omega), idsAt_get (by omega) (by unfold okN at hok; omega)])
          replace hH : Heap _ _ _ [_, _, _, _, _] := hH.perm (.trans (.swap _ _ _) (.cons _ (.trans (.swap _ _ _) (.cons _ (.trans (.swap _ _ _) (.cons _ (.refl _)))))))
          replace hH : Heap _ _ _ [_, _, _, _, _] := hH.perm (.cons _ (.trans (.swap _ _ _) (.cons _ (.trans (.swap _ _ _) (.cons _ (.trans (.swap _ _ _) (.cons _ (.refl _))))))))
          refine lf_call (wantAll rfl) (rv_call (args := [.pointer (some ⟨g, 0, none⟩), .agg (cNd (nodeAt ns t i)).toArray]) rfl (evc (fr_eval rfl rfl) (evc ((show _ = Value.agg (cNd (⟨(List.getD t i zN).k, (((List.getD (idsAt ns t i) (((List.getD t i zN).a).toNat) 0) : Nat) : Int), (((List.getD (idsAt ns t i) (((List.getD t i zN).b).toNat) 0) : Nat) : Int)⟩ : Nd)).toArray from (fr_eval rfl rfl)).trans (congrArg (fun n => Value.agg (cNd n).toArray) hnd)) evn)) Try.call19) (one_b (bnk ns t i) (by have := bnk_le ns t i; have := ht.2.1; omega) (nodeAt ns t i) _ (Heap.part (L := [_, _]) (M := [_, _, _]) hH)) ?_
          rintro _ w16 ⟨y4, rfl, hP⟩
          refine ⟨_, rfl, ?_⟩
          have hx := hH.callChg (L := [_, _]) (M := [_, _, _]) (fun _ h => h) hP
          replace hH : Heap _ _ _ [_, _, _, _, _] := hH.call (L := [_, _]) (M := [_, _, _]) (fun _ h => h) hP (Stays.blk (hP.blk (i := 0) rfl) (Stays.own (hP.own (i := 1) rfl) (Stays.mp (hP.mp (i := 2) rfl) Stays.nil)))
          clear hP
          clear hx
          clear hnd
          rw [bnk_next (by omega : i < t.length)] at hH
          refine lf_val (v := .pointer (some (elemA y1 (i * 1)))) (wantAll rfl) (rv_index rfl (fr_eval rfl rfl) (fr_eval rfl rfl) (rdN (Own.rd (hH.own (i := 0) rfl) (row_one cNu_one)) (idsAt_len ns t pi0)) (show i < t.length from (by omega)) Try.underlying31 Try.sz3 (by decide)) ?_
          refine lf_sk (wantAll rfl) (hx_setC hH (i := 0) (nm := List.length (List.set (idsAt ns t i) i ((oneN (bnk ns t i) (nodeAt ns t i)).2))) (j := i) (xs' := (List.set (idsAt ns t i) i ((oneN (bnk ns t i) (nodeAt ns t i)).2)).flatMap cNu) rfl rfl rfl (List.length_set ..).symm (Nat.lt_of_lt_of_eq (by omega) ((idsAt_len ns t pi0)).symm) (flat_set1 cNu_len rfl (Nat.lt_of_lt_of_eq (by omega) ((idsAt_len ns t pi0)).symm)) (fr_eval rfl rfl) (fr_eval rfl rfl) Try.sz3 rfl) ?_
          clear hH
          rintro w18 ⟨hH, hx⟩
          replace hH : Heap _ _ _ [_, _, _, _, _] := hH
          rw [show List.set (idsAt ns t i) i ((oneN (bnk ns t i) (nodeAt ns t i)).2) = idsAt ns t (i + 1) from idsAt_next (by omega)] at hH
          clear hx
          refine lf_nil ?_
          refine blk_n ?_
          refine then_n ?_
          refine wp_gen (fun F' => F' 0 = .pointer (some ⟨g, 0, none⟩) ∧ F' 1 = tv ∧ F' 4 = .int .i64 0 ∧ F' 5 = .int .i64 0 ∧ F' 6 = y1 ∧ F' 7 = .int .i64 ((i : Nat) : Int) ∧ F' 8 = .pointer (some ⟨g1, 0, none⟩) ∧ F' 15 = .bool false ∧ F' 20 = .bool true ∧ F' 28 = tv ∧ F' 29 = .int .i64 ((t.length : Nat) : Int) ∧ F' 30 = .int .i64 ((i : Nat) : Int) ∧ F' 31 = .bool true ∧ F' 37 = .bool true ∧ F' 46 = .bool true) ⟨e0, e1, e4, e5, e6, e7, e8, e15, e20, e28, e29, e30, e31, e37, e46⟩ ?_
          clear e0 e1 e4 e5 e6 e7 e8 e15 e20 e28 e29 e30 e31 e37 e46
          clear F
          rintro F ⟨e0, e1, e4, e5, e6, e7, e8, e15, e20, e28, e29, e30, e31, e37, e46⟩
          refine wp_regionF ?_
          refine lf_val (v := .int .i64 ((i + 1 : Nat) : Int)) (wantAll rfl) (rv_add rfl (fr_eval rfl e30) rfl (wrap_i64 (by omega) (by omega) (by omega))) ?_
          refine lf_val (v := .int .i64 ((i + 1 : Nat) : Int)) (wantAll rfl) (rv_move rfl (fr_eval rfl rfl)) ?_
          refine lf_nil ?_
          refine then_n ?_
          replace hH : Heap _ _ _ [_, _, _, _] := hH.drop (.cons_cons _ (.cons _ (.cons_cons _ (.cons_cons _ (.cons_cons _ .slnil)))))
          replace hH : Heap _ _ _ [_, _, _, _] := hH.perm (.trans (.swap _ _ _) (.cons _ (.refl _)))
          replace hH : Heap _ _ _ [_, _, _, _] := hH.perm (.cons _ (.trans (.swap _ _ _) (.cons _ (.refl _))))
          replace hH : Heap _ _ _ [_, _, _, _] := hH.perm (.cons _ (.cons _ (.trans (.swap _ _ _) (.cons _ (.refl _)))))
          exact ⟨_, _, (by omega), rfl, i + 1, _, rfl, (by omega), e0, e1, e4, e5, e6, e15, e20, e28, e29, rfl, hH⟩
    · refine wp_cond_false (fr_eval rfl (e31.trans (congrArg Value.bool (decide_eq_false hc1)))) ?_
      refine wp_exit ?_
      refine then_exit ?_
      refine then_exit ?_
      refine blk_exit ?_
      refine then_n ?_
      refine wp_seq ?_
      obtain rfl : i = t.length := by omega
      rw [bnk_end] at hH
      have ht1 := ht.1
      refine wp_regionF ?_
      refine lf_val (v := y1) (wantAll rfl) (rv_move rfl (fr_eval rfl e6)) ?_
      refine lf_val (v := tv) (wantAll rfl) (rv_move rfl (fr_eval rfl e1)) ?_
      refine lf_val (v := .int .i64 ((t.length : Nat) : Int)) (wantAll rfl) (rv_len rfl (fr_eval rfl rfl) (hs.rd _ hH.chg) Try.underlying24) ?_
      refine lf_val (v := .int .i64 ((t.length - 1 : Nat) : Int)) (wantAll rfl) (rv_sub rfl (fr_eval rfl rfl) rfl (wrap_i64 (by omega) (by omega) (by omega))) ?_
      refine lf_val (v := .pointer (some (elemA y1 ((t.length - 1) * 1)))) (wantAll rfl) (rv_index rfl (fr_eval rfl rfl) (fr_eval rfl rfl) (rdN (Own.rd (hH.own (i := 3) rfl) (row_one cNu_one)) (idsAt_len ns t pi0)) (show t.length - 1 < t.length from (by have := ht.1; omega)) Try.underlying31 Try.sz3 (by decide)) ?_
      refine lf_val (v := .int .i64 ((idT ns t : Nat) : Int)) (wantAll rfl) ((by rw [← ids_end ns t]; exact rv_loadCell rfl (fr_eval rfl rfl) (Nat.mul_one _) (Own.rd (hH.own (i := 3) rfl) (row_one cNu_one)) (flat_get1 0 cNu_len (Nat.lt_of_lt_of_eq (show t.length - 1 < t.length from (by have := ht.1; omega)) ((idsAt_len ns t pi0)).symm) rfl) Try.underlying3 rfl Try.sz3)) ?_
      refine lf_val (v := .int .i64 ((idT ns t : Nat) : Int)) (wantAll rfl) (rv_assign rfl (fr_eval rfl rfl)) ?_
      refine lf_val (v := .int .i64 0) (wantAll rfl) (rv_assign rfl rfl) ?_
      refine lf_nil ?_
      refine then_n ?_
      refine wp_gen (fun F' => F' 0 = .pointer (some ⟨g, 0, none⟩) ∧ F' 1 = tv ∧ F' 4 = .int .i64 ((idT ns t : Nat) : Int) ∧ F' 5 = .int .i64 0 ∧ F' 6 = y1 ∧ F' 15 = .bool false ∧ F' 20 = .bool true ∧ F' 28 = tv ∧ F' 29 = .int .i64 ((t.length : Nat) : Int) ∧ F' 30 = .int .i64 ((t.length : Nat) : Int) ∧ F' 31 = .bool false) ⟨e0, e1, rfl, rfl, e6, e15, e20, e28, e29, e30, (e31.trans (congrArg Value.bool (decide_eq_false hc1)))⟩ ?_
      clear e0 e1 e4 e5 e6 e15 e20 e28 e29 e30 e31
      clear F
      rintro F ⟨e0, e1, e4, e5, e6, e15, e20, e28, e29, e30, e31⟩
      refine wp_ret ?_
      have hF := hH
      replace hF : Heap _ _ _ [_, _, _] := hF.drop (.cons_cons _ (.cons_cons _ (.cons_cons _ (.cons _ .slnil))))
      exact bodyPost_ret (v := .tuple #[.int .i64 ((idT ns t : Nat) : Int), .int .i64 0]) (res2 rfl (ro_tmp rfl e4) (ro_tmp rfl e5)) rfl (⟨_, _, rfl, hF⟩)
  · obtain ⟨r, rfl⟩ : ∃ r, mo = some r := Option.ne_none_iff_exists'.1 hf1
    refine wp_regionF ?_
    refine lf_val (v := .pointer (some ⟨g, 0, none⟩)) (wantAll rfl) (rv_move rfl (fr_eval rfl e0)) ?_
    refine lf_val (v := .pointer (some ⟨g, 0, none⟩)) (wantAll rfl) (rv_nilCheck rfl (fr_eval rfl rfl)) ?_
    refine lf_val (v := .pointer (some ⟨g, 1, none⟩)) (wantAll rfl) (rv_fieldAddr (n := 0) rfl (fr_eval rfl rfl) Try.underlying30 rfl rfl (by kernel_rfl)) ?_
    refine lf_val (v := .map (some r)) (wantAll rfl) (rv_load1 rfl (hH.blk (i := 0) rfl) zBa_g0 (fr_eval rfl rfl) Try.underlying28 rfl Try.sz28) ?_
    refine lf_val (v := .bool false) (wantAll rfl) (rv_eqmap (p := (some r)) rfl (fr_eval rfl rfl) rfl Try.underlying28) ?_
    refine lf_nil ?_
    refine then_n ?_
    refine wp_gen (fun F' => F' 0 = .pointer (some ⟨g, 0, none⟩) ∧ F' 1 = tv ∧ F' 4 = .int .i64 0 ∧ F' 5 = .int .i64 0 ∧ F' 15 = .bool false ∧ F' 20 = .bool false) ⟨e0, e1, e4, e5, e15, rfl⟩ ?_
    clear e0 e1 e4 e5 e15
    clear F
    rintro F ⟨e0, e1, e4, e5, e15, e20⟩
    refine wp_cond_false (fr_eval rfl e20) ?_
    refine wp_skip ?_
    refine then_n ?_
    refine wp_seq ?_
    refine wp_regionF ?_
    refine lf_val (v := tv) (wantAll rfl) (rv_move rfl (fr_eval rfl e1)) ?_
    refine lf_val (v := .int .i64 ((t.length : Nat) : Int)) (wantAll rfl) (rv_len rfl (fr_eval rfl rfl) (hs.rd _ hH.chg) Try.underlying24) ?_
    refine lf_ex (wantAll rfl) (hx_make hH Try.stInt (n := t.length) (nm := List.length (List.replicate t.length 0)) (z1 := .int .i64 0) (xs := (List.replicate t.length 0).flatMap cNu) rfl (fr_eval rfl rfl) (fr_eval rfl rfl) (by have := ht.2.1; omega) rfl (zeros_f (f := cNu) (d := 0) (sz := 1) rfl _) (List.length_replicate ..).symm) ?_
    clear hH
    rintro y5 w19 ⟨hH, hx⟩
    replace hH : Heap _ _ _ [_, _, _, _] := hH
    clear hx
    refine lf_val (v := y5) (wantAll rfl) (rv_assign rfl (fr_eval rfl rfl)) ?_
    refine lf_nil ?_
    refine then_n ?_
    refine wp_seq ?_
    refine wp_seq ?_
    refine wp_gen (fun F' => F' 0 = .pointer (some ⟨g, 0, none⟩) ∧ F' 1 = tv ∧ F' 4 = .int .i64 0 ∧ F' 5 = .int .i64 0 ∧ F' 6 = y5 ∧ F' 15 = .bool false ∧ F' 20 = .bool false) ⟨e0, e1, e4, e5, rfl, e15, e20⟩ ?_
    clear e0 e1 e4 e5 e15 e20
    clear F
    rintro F ⟨e0, e1, e4, e5, e6, e15, e20⟩
    refine wp_regionF ?_
    refine lf_val (v := tv) (wantAll rfl) (rv_move rfl (fr_eval rfl e1)) ?_
    refine lf_val (v := .int .i64 ((t.length : Nat) : Int)) (wantAll rfl) (rv_len rfl (fr_eval rfl rfl) (hs.rd _ hH.chg) Try.underlying24) ?_
    refine lf_val (v := .int .i64 0) (wantAll rfl) (rv_move rfl rfl) ?_
    refine lf_nil ?_
    refine then_n ?_
    refine wp_block ?_
    rw [show List.replicate t.length 0 = idsAt ns t 0 from idsAt_0 ns t] at hH
    have hbk := bnk_0 ns t
    refine wp_gen (fun F' => F' 0 = .pointer (some ⟨g, 0, none⟩) ∧ F' 1 = tv ∧ F' 4 = .int .i64 0 ∧ F' 5 = .int .i64 0 ∧ F' 6 = y5 ∧ F' 15 = .bool false ∧ F' 20 = .bool false ∧ F' 28 = tv ∧ F' 29 = .int .i64 ((t.length : Nat) : Int) ∧ F' 30 = .int .i64 0) ⟨e0, e1, e4, e5, e6, e15, e20, rfl, rfl, rfl⟩ ?_
    clear e0 e1 e4 e5 e6 e15 e20
    clear F
    rintro F ⟨e0, e1, e4, e5, e6, e15, e20, e28, e29, e30⟩
    refine wp_loopF (fun m F wr => ∃ i : Nat, ∃ u : Value, m = t.length - i ∧ i ≤ t.length ∧ F 0 = .pointer (some ⟨g, 0, none⟩) ∧ F 1 = tv ∧ F 4 = .int .i64 0 ∧ F 5 = .int .i64 0 ∧ F 6 = y5 ∧ F 15 = .bool false ∧ F 20 = .bool false ∧ F 28 = tv ∧ F 29 = .int .i64 ((t.length : Nat) : Int) ∧ F 30 = .int .i64 ((i : Nat) : Int) ∧ Heap (newK w K) w wr [oBlk g ([u, .map (some r)]) 30, oRow cNd 40 3 u (bnk ns t i), oMp (some r) (bnk ns t i), oRow cNu 3 1 y5 (idsAt ns t i)]) ⟨0, _, rfl, Nat.zero_le _, e0, e1, e4, e5, e6, e15, e20, e28, e29, e30, hH⟩ ?_
    clear e0 e1 e4 e5 e6 e15 e20 e28 e29 e30 hH
    clear F
    rintro m F w20 ⟨i, u, rfl, pi0, e0, e1, e4, e5, e6, e15, e20, e28, e29, e30, hH⟩
    refine wp_seq ?_
    refine wp_regionF ?_
    refine lf_val (v := .bool (decide (i < t.length))) (wantAll rfl) (rv_lssP (p := i < t.length) rfl (fr_eval rfl e30) (fr_eval rfl e29) (by omega)) ?_
    refine lf_nil ?_
    refine then_n ?_
    refine wp_seq ?_
    refine wp_gen (fun F' => F' 0 = .pointer (some ⟨g, 0, none⟩) ∧ F' 1 = tv ∧ F' 4 = .int .i64 0 ∧ F' 5 = .int .i64 0 ∧ F' 6 = y5 ∧ F' 15 = .bool false ∧ F' 20 = .bool false ∧ F' 28 = tv ∧ F' 29 = .int .i64 ((t.length : Nat) : Int) ∧ F' 30 = .int .i64 ((i : Nat) : Int) ∧ F' 31 = .bool (decide (i < t.length))) ⟨e0, e1, e4, e5, e6, e15, e20, e28, e29, e30, rfl⟩ ?_
    clear e0 e1 e4 e5 e6 e15 e20 e28 e29 e30
    clear F
    rintro F ⟨e0, e1, e4, e5, e6, e15, e20, e28, e29, e30, e31⟩
    by_cases hc4 : i < t.length
    · refine wp_cond_true (fr_eval rfl (e31.trans (congrArg Value.bool (decide_eq_true hc4)))) ?_
      refine wp_skip ?_
      refine then_n ?_
      refine wp_seq ?_
      refine wp_block ?_
      refine wp_seq ?_
      refine wp_regionF ?_
      refine lf_val (v := .int .i64 ((i : Nat) : Int)) (wantAll rfl) (rv_move rfl (fr_eval rfl e30)) ?_
      refine lf_val (v := .pointer (some (elemA tv (i * 3)))) (wantAll rfl) (rv_index rfl (fr_eval rfl e28) (fr_eval rfl e30) (rdN (hs.rd _ hH.chg) rfl) (show i < t.length from (by omega)) Try.underlying24 Try.sz40 (by decide)) ?_
      refine lf_val (wantAll rfl) (rv_loadElem rfl (fr_eval rfl rfl) (rdN (hs.rd _ hH.chg) rfl) (show i < t.length from (by omega)) (by decide) (flat_part zN cNd_len (show i < t.length from (by omega))) Try.underlying40 rfl Try.sz40) ?_
      refine lf_ex (wantAll rfl) (hx_alloc hH 40 (z := .agg ([.int .i64 0, .int .i64 0, .int .i64 0]).toArray) (n := 3) (cs := [.int .i64 0, .int .i64 0, .int .i64 0]) rfl (by kernel_rfl) (by rfl)) ?_
      clear hH
      rintro _ w21 ⟨g2, rfl, hH, hx⟩
      replace hH : Heap _ _ _ [_, _, _, _, _] := hH
      clear hx
      refine lf_val (v := .int .i64 ((i : Nat) : Int)) (wantAll rfl) (rv_assign rfl (fr_eval rfl rfl)) ?_
      refine lf_sk (wantAll rfl) (hx_storeW hH (i := 4) (cs := [.int .i64 ((List.getD t i zN).k), .int .i64 ((List.getD t i zN).a), .int .i64 ((List.getD t i zN).b)]) rfl rfl rfl (fr_eval rfl rfl) (fr_eval rfl rfl) (sz_len Try.sz40 zBa_l1) ((zBa_l1).trans (zBa_l1).symm) (zBa_o5 rfl rfl rfl)) ?_
      clear hH
      rintro w22 ⟨hH, hx⟩
      replace hH : Heap _ _ _ [_, _, _, _, _] := hH
      clear hx
      refine lf_nil ?_
      refine then_n ?_
      refine wp_seq ?_
      refine wp_seq ?_
      refine wp_gen (fun F' => F' 0 = .pointer (some ⟨g, 0, none⟩) ∧ F' 1 = tv ∧ F' 4 = .int .i64 0 ∧ F' 5 = .int .i64 0 ∧ F' 6 = y5 ∧ F' 7 = .int .i64 ((i : Nat) : Int) ∧ F' 8 = .pointer (some ⟨g2, 0, none⟩) ∧ F' 15 = .bool false ∧ F' 20 = .bool false ∧ F' 28 = tv ∧ F' 29 = .int .i64 ((t.length : Nat) : Int) ∧ F' 30 = .int .i64 ((i : Nat) : Int) ∧ F' 31 = .bool true) ⟨e0, e1, e4, e5, e6, rfl, rfl, e15, e20, e28, e29, e30, (e31.trans (congrArg Value.bool (decide_eq_true hc4)))⟩ ?_
      clear e0 e1 e4 e5 e6 e15 e20 e28 e29 e30 e31
      clear F
      rintro F ⟨e0, e1, e4, e5, e6, e7, e8, e15, e20, e28, e29, e30, e31⟩
      have hok := ht.2.2 i (by omega)
      have hw := way_take hb ht i (by omega)
      refine wp_regionF ?_
      refine lf_val (v := .pointer (some ⟨g2, 0, none⟩)) (wantAll rfl) (rv_fieldAddr (n := 0) rfl (fr_eval rfl e8) Try.underlying40 rfl rfl (by kernel_rfl)) ?_
      refine lf_val (v := .int .i64 ((List.getD t i zN).k)) (wantAll rfl) (rv_load1 rfl (hH.blk (i := 4) rfl) zBa_g4 (fr_eval rfl rfl) Try.underlying3 rfl Try.sz3) ?_
      refine lf_val (v := .bool (decide (¬ (List.getD t i zN).k = 1))) (wantAll rfl) (rv_neqP (p := ¬ (List.getD t i zN).k = 1) rfl (fr_eval rfl rfl) rfl Iff.rfl) ?_
      refine lf_nil ?_
      refine then_n ?_
      refine wp_gen (fun F' => F' 0 = .pointer (some ⟨g, 0, none⟩) ∧ F' 1 = tv ∧ F' 4 = .int .i64 0 ∧ F' 5 = .int .i64 0 ∧ F' 6 = y5 ∧ F' 7 = .int .i64 ((i : Nat) : Int) ∧ F' 8 = .pointer (some ⟨g2, 0, none⟩) ∧ F' 15 = .bool false ∧ F' 20 = .bool false ∧ F' 28 = tv ∧ F' 29 = .int .i64 ((t.length : Nat) : Int) ∧ F' 30 = .int .i64 ((i : Nat) : Int) ∧ F' 31 = .bool true ∧ F' 37 = .bool (decide (¬ (List.getD t i zN).k = 1))) ⟨e0, e1, e4, e5, e6, e7, e8, e15, e20, e28, e29, e30, e31, rfl⟩ ?_
      clear e0 e1 e4 e5 e6 e7 e8 e15 e20 e28 e29 e30 e31
      clear F
      rintro F ⟨e0, e1, e4, e5, e6, e7, e8, e15, e20, e28, e29, e30, e31, e37⟩
      by_cases hc5 : (List.getD t i zN).k = 1
      · refine wp_cond_false (fr_eval rfl (e37.trans (congrArg Value.bool (decide_eq_false (not_not_intro hc5))))) ?_
        refine wp_skip ?_
        refine then_n ?_
        refine wp_regionF ?_
        refine lf_val (v := y5) (wantAll rfl) (rv_move rfl (fr_eval rfl e6)) ?_
        refine lf_val (v := .int .i64 ((i : Nat) : Int)) (wantAll rfl) (rv_move rfl (fr_eval rfl e7)) ?_
        refine lf_val (v := .pointer (some ⟨g, 0, none⟩)) (wantAll rfl) (rv_move rfl (fr_eval rfl e0)) ?_
        refine lf_val (wantAll rfl) (rv_loadW rfl (hH.blk (i := 4) rfl) (fr_eval rfl e8) Try.underlying40 rfl (sz_len Try.sz40 zBa_l1)) ?_
        have hnd : (List.getD t i zN) = nodeAt ns t i := (by
          unfold nodeAt subN
          first | rw [if_pos (by omega)] | rw [if_neg (by omega), if_pos (by omega), idsAt_get (by omega) (by unfold okN at hok; omega)] | rw [if_neg (by omega), if_neg (by omega), idsAt_get (by omega) (by unfold okN at hok; omega), idsAt_get (by omega) (by unfold okN at hok; omega)])
        replace hH : Heap _ _ _ [_, _, _, _, _] := hH.perm (.trans (.swap _ _ _) (.cons _ (.trans (.swap _ _ _) (.cons _ (.trans (.swap _ _ _) (.cons _ (.refl _)))))))
        replace hH : Heap _ _ _ [_, _, _, _, _] := hH.perm (.cons _ (.trans (.swap _ _ _) (.cons _ (.trans (.swap _ _ _) (.cons _ (.trans (.swap _ _ _) (.cons _ (.refl _))))))))
        refine lf_call (wantAll rfl) (rv_call (args := [.pointer (some ⟨g, 0, none⟩), .agg (cNd (nodeAt ns t i)).toArray]) rfl (evc (fr_eval rfl rfl) (evc ((show _ = Value.agg (cNd (List.getD t i zN)).toArray from (fr_eval rfl rfl)).trans (congrArg (fun n => Value.agg (cNd n).toArray) hnd)) evn)) Try.call19) (one_b (bnk ns t i) (by have := bnk_le ns t i; have := ht.2.1; omega) (nodeAt ns t i) _ (Heap.part (L := [_, _]) (M := [_, _, _]) hH)) ?_
        rintro _ w23 ⟨y6, rfl, hP⟩
        refine ⟨_, rfl, ?_⟩
        have hx := hH.callChg (L := [_, _]) (M := [_, _, _]) (fun _ h => h) hP
        replace hH : Heap _ _ _ [_, _, _, _, _] := hH.call (L := [_, _]) (M := [_, _, _]) (fun _ h => h) hP (Stays.blk (hP.blk (i := 0) rfl) (Stays.own (hP.own (i := 1) rfl) (Stays.mp (hP.mp (i := 2) rfl) Stays.nil)))
        clear hP
        clear hx
        clear hnd
        rw [bnk_next (by omega : i < t.length)] at hH
        refine lf_val (v := .pointer (some (elemA y5 (i * 1)))) (wantAll rfl) (rv_index rfl (fr_eval rfl rfl) (fr_eval rfl rfl) (rdN (Own.rd (hH.own (i := 0) rfl) (row_one cNu_one)) (idsAt_len ns t pi0)) (show i < t.length from (by omega)) Try.underlying31 Try.sz3 (by decide)) ?_
        refine lf_sk (wantAll rfl) (hx_setC hH (i := 0) (nm := List.length (List.set (idsAt ns t i) i ((oneN (bnk ns t i) (nodeAt ns t i)).2))) (j := i) (xs' := (List.set (idsAt ns t i) i ((oneN (bnk ns t i) (nodeAt ns t i)).2)).flatMap cNu) rfl rfl rfl (List.length_set ..).symm (Nat.lt_of_lt_of_eq (by omega) ((idsAt_len ns t pi0)).symm) (flat_set1 cNu_len rfl (Nat.lt_of_lt_of_eq (by omega) ((idsAt_len ns t pi0)).symm)) (fr_eval rfl rfl) (fr_eval rfl rfl) Try.sz3 rfl) ?_
        clear hH
        rintro w25 ⟨hH, hx⟩
        replace hH : Heap _ _ _ [_, _, _, _, _] := hH
        rw [show List.set (idsAt ns t i) i ((oneN (bnk ns t i) (nodeAt ns t i)).2) = idsAt ns t (i + 1) from idsAt_next (by omega)] at hH
        clear hx
        refine lf_nil ?_
        refine blk_n ?_
        refine then_n ?_
        refine wp_gen (fun F' => F' 0 = .pointer (some ⟨g, 0, none⟩) ∧ F' 1 = tv ∧ F' 4 = .int .i64 0 ∧ F' 5 = .int .i64 0 ∧ F' 6 = y5 ∧ F' 7 = .int .i64 ((i : Nat) : Int) ∧ F' 8 = .pointer (some ⟨g2, 0, none⟩) ∧ F' 15 = .bool false ∧ F' 20 = .bool false ∧ F' 28 = tv ∧ F' 29 = .int .i64 ((t.length : Nat) : Int) ∧ F' 30 = .int .i64 ((i : Nat) : Int) ∧ F' 31 = .bool true ∧ F' 37 = .bool false) ⟨e0, e1, e4, e5, e6, e7, e8, e15, e20, e28, e29, e30, e31, (e37.trans (congrArg Value.bool (decide_eq_false (not_not_intro hc5))))⟩ ?_
        clear e0 e1 e4 e5 e6 e7 e8 e15 e20 e28 e29 e30 e31 e37
        clear F
        rintro F ⟨e0, e1, e4, e5, e6, e7, e8, e15, e20, e28, e29, e30, e31, e37⟩
        refine wp_regionF ?_
        refine lf_val (v := .int .i64 ((i + 1 : Nat) : Int)) (wantAll rfl) (rv_add rfl (fr_eval rfl e30) rfl (wrap_i64 (by omega) (by omega) (by omega))) ?_
        refine lf_val (v := .int .i64 ((i + 1 : Nat) : Int)) (wantAll rfl) (rv_move rfl (fr_eval rfl rfl)) ?_
        refine lf_nil ?_
        refine then_n ?_
        replace hH : Heap _ _ _ [_, _, _, _] := hH.drop (.cons_cons _ (.cons _ (.cons_cons _ (.cons_cons _ (.cons_cons _ .slnil)))))
        replace hH : Heap _ _ _ [_, _, _, _] := hH.perm (.trans (.swap _ _ _) (.cons _ (.refl _)))
        replace hH : Heap _ _ _ [_, _, _, _] := hH.perm (.cons _ (.trans (.swap _ _ _) (.cons _ (.refl _))))
        replace hH : Heap _ _ _ [_, _, _, _] := hH.perm (.cons _ (.cons _ (.trans (.swap _ _ _) (.cons _ (.refl _)))))
        exact ⟨_, _, (by omega), rfl, i + 1, _, rfl, (by omega), e0, e1, e4, e5, e6, e15, e20, e28, e29, rfl, hH⟩
      · refine wp_cond_true (fr_eval rfl (e37.trans (congrArg Value.bool (decide_eq_true hc5)))) ?_
        refine wp_seq ?_
        refine wp_regionF ?_
        refine lf_val (v := y5) (wantAll rfl) (rv_move rfl (fr_eval rfl e6)) ?_
        refine lf_val (v := .pointer (some ⟨g2, 1, none⟩)) (wantAll rfl) (rv_fieldAddr (n := 0) rfl (fr_eval rfl e8) Try.underlying40 rfl rfl (by kernel_rfl)) ?_
        refine lf_val (v := .int .i64 ((List.getD t i zN).a)) (wantAll rfl) (rv_load1 rfl (hH.blk (i := 4) rfl) zBa_g3 (fr_eval rfl rfl) Try.underlying3 rfl Try.sz3) ?_
        refine lf_val (v := .pointer (some (elemA y5 ((((List.getD t i zN).a).toNat) * 1)))) (wantAll rfl) (rv_index rfl (fr_eval rfl rfl) (((fr_eval rfl rfl)).trans (congrArg (Value.int .i64) (Int.toNat_of_nonneg (by unfold okN at hok; omega)).symm)) (rdN (Own.rd (hH.own (i := 3) rfl) (row_one cNu_one)) (idsAt_len ns t pi0)) (show ((List.getD t i zN).a).toNat < t.length from (by unfold okN at hok; omega)) Try.underlying31 Try.sz3 (by decide)) ?_
        refine lf_val (wantAll rfl) (rv_loadCell rfl (fr_eval rfl rfl) (Nat.mul_one _) (Own.rd (hH.own (i := 3) rfl) (row_one cNu_one)) (flat_get1 0 cNu_len (Nat.lt_of_lt_of_eq (show ((List.getD t i zN).a).toNat < t.length from (by unfold okN at hok; omega)) ((idsAt_len ns t pi0)).symm) rfl) Try.underlying3 rfl Try.sz3) ?_
        refine lf_val (v := .pointer (some ⟨g2, 1, none⟩)) (wantAll rfl) (rv_fieldAddr (n := 0) rfl (fr_eval rfl e8) Try.underlying40 rfl rfl (by kernel_rfl)) ?_
        refine lf_sk (wantAll rfl) (hx_storeC hH (i := 4) (j := 1) (v := .int .i64 (((List.getD (idsAt ns t i) (((List.getD t i zN).a).toNat) 0) : Nat) : Int)) rfl rfl rfl (show 1 < 3 by decide) rfl (fr_eval rfl rfl) (fr_eval rfl rfl) Try.sz3 rfl) ?_
        clear hH
        rintro w26 ⟨hH, hx⟩
        replace hH : Heap _ _ _ [_, _, _, _, _] := hH
        clear hx
        refine lf_nil ?_
        refine then_n ?_
        refine wp_seq ?_
        refine wp_gen (fun F' => F' 0 = .pointer (some ⟨g, 0, none⟩) ∧ F' 1 = tv ∧ F' 4 = .int .i64 0 ∧ F' 5 = .int .i64 0 ∧ F' 6 = y5 ∧ F' 7 = .int .i64 ((i : Nat) : Int) ∧ F' 8 = .pointer (some ⟨g2, 0, none⟩) ∧ F' 15 = .bool false ∧ F' 20 = .bool false ∧ F' 28 = tv ∧ F' 29 = .int .i64 ((t.length : Nat) : Int) ∧ F' 30 = .int .i64 ((i : Nat) : Int) ∧ F' 31 = .bool true ∧ F' 37 = .bool true) ⟨e0, e1, e4, e5, e6, e7, e8, e15, e20, e28, e29, e30, e31, (e37.trans (congrArg Value.bool (decide_eq_true hc5)))⟩ ?_
        clear e0 e1 e4 e5 e6 e7 e8 e15 e20 e28 e29 e30 e31 e37
        clear F
        rintro F ⟨e0, e1, e4, e5, e6, e7, e8, e15, e20, e28, e29, e30, e31, e37⟩
        refine wp_regionF ?_
        refine lf_val (v := .pointer (some ⟨g2, 0, none⟩)) (wantAll rfl) (rv_fieldAddr (n := 0) rfl (fr_eval rfl e8) Try.underlying40 rfl rfl (by kernel_rfl)) ?_
        refine lf_val (v := .int .i64 ((List.getD t i zN).k)) (wantAll rfl) (rv_load1 rfl (hH.blk (i := 4) rfl) zBa_g4 (fr_eval rfl rfl) Try.underlying3 rfl Try.sz3) ?_
        refine lf_val (v := .bool (decide (¬ (List.getD t i zN).k = 3))) (wantAll rfl) (rv_neqP (p := ¬ (List.getD t i zN).k = 3) rfl (fr_eval rfl rfl) rfl Iff.rfl) ?_
        refine lf_nil ?_
        refine then_n ?_
        refine wp_gen (fun F' => F' 0 = .pointer (some ⟨g, 0, none⟩) ∧ F' 1 = tv ∧ F' 4 = .int .i64 0 ∧ F' 5 = .int .i64 0 ∧ F' 6 = y5 ∧ F' 7 = .int .i64 ((i : Nat) : Int) ∧ F' 8 = .pointer (some ⟨g2, 0, none⟩) ∧ F' 15 = .bool false ∧ F' 20 = .bool false ∧ F' 28 = tv ∧ F' 29 = .int .i64 ((t.length : Nat) : Int) ∧ F' 30 = .int .i64 ((i : Nat) : Int) ∧ F' 31 = .bool true ∧ F' 37 = .bool true ∧ F' 46 = .bool (decide (¬ (List.getD t i zN).k = 3))) ⟨e0, e1, e4, e5, e6, e7, e8, e15, e20, e28, e29, e30, e31, e37, rfl⟩ ?_
        clear e0 e1 e4 e5 e6 e7 e8 e15 e20 e28 e29 e30 e31 e37
        clear F
        rintro F ⟨e0, e1, e4, e5, e6, e7, e8, e15, e20, e28, e29, e30, e31, e37, e46⟩
        by_cases hc6 : (List.getD t i zN).k = 3
        · refine wp_cond_false (fr_eval rfl (e46.trans (congrArg Value.bool (decide_eq_false (not_not_intro hc6))))) ?_
          refine wp_skip ?_
          refine then_n ?_
          refine wp_regionF ?_
          refine lf_val (v := y5) (wantAll rfl) (rv_move rfl (fr_eval rfl e6)) ?_
          refine lf_val (v := .int .i64 ((i : Nat) : Int)) (wantAll rfl) (rv_move rfl (fr_eval rfl e7)) ?_
          refine lf_val (v := .pointer (some ⟨g, 0, none⟩)) (wantAll rfl) (rv_move rfl (fr_eval rfl e0)) ?_
          refine lf_val (wantAll rfl) (rv_loadW rfl (hH.blk (i := 4) rfl) (fr_eval rfl e8) Try.underlying40 rfl (sz_len Try.sz40 zBa_l1)) ?_
          have hnd : (⟨(List.getD t i zN).k, (((List.getD (idsAt ns t i) (((List.getD t i zN).a).toNat) 0) : Nat) : Int), (List.getD t i zN).b⟩ : Nd) = nodeAt ns t i := (by
            unfold nodeAt subN
            first | rw [if_pos (by omega)] | rw [if_neg (by omega), if_pos (by omega), idsAt_get (by omega) (by unfold okN at hok; omega)] | rw [if_neg (by omega), if_neg (by omega), idsAt_get (by omega) (by unfold okN at hok; omega), idsAt_get (by omega) (by unfold okN at hok; omega)])
          replace hH : Heap _ _ _ [_, _, _, _, _] := hH.perm (.trans (.swap _ _ _) (.cons _ (.trans (.swap _ _ _) (.cons _ (.trans (.swap _ _ _) (.cons _ (.refl _)))))))
          replace hH : Heap _ _ _ [_, _, _, _, _] := hH.perm (.cons _ (.trans (.swap _ _ _) (.cons _ (.trans (.swap _ _ _) (.cons _ (.trans (.swap _ _ _) (.cons _ (.refl _))))))))
          refine lf_call (wantAll rfl) (rv_call (args := [.pointer (some ⟨g, 0, none⟩), .agg (cNd (nodeAt ns t i)).toArray]) rfl (evc (fr_eval rfl rfl) (evc ((show _ = Value.agg (cNd (⟨(List.getD t i zN).k, (((List.getD (idsAt ns t i) (((List.getD t i zN).a).toNat) 0) : Nat) : Int), (List.getD t i zN).b⟩ : Nd)).toArray from (fr_eval rfl rfl)).trans (congrArg (fun n => Value.agg (cNd n).toArray) hnd)) evn)) Try.call19) (one_b (bnk ns t i) (by have := bnk_le ns t i; have := ht.2.1; omega) (nodeAt ns t i) _ (Heap.part (L := [_, _]) (M := [_, _, _]) hH)) ?_
          rintro _ w27 ⟨y7, rfl, hP⟩
          refine ⟨_, rfl, ?_⟩
          have hx := hH.callChg (L := [_, _]) (M := [_, _, _]) (fun _ h => h) hP
          replace hH : Heap _ _ _ [_, _, _, _, _] := hH.call (L := [_, _]) (M := [_, _, _]) (fun _ h => h) hP (Stays.blk (hP.blk (i := 0) rfl) (Stays.own (hP.own (i := 1) rfl) (Stays.mp (hP.mp (i := 2) rfl) Stays.nil)))
          clear hP
          clear hx
          clear hnd
          rw [bnk_next (by omega : i < t.length)] at hH
          refine lf_val (v := .pointer (some (elemA y5 (i * 1)))) (wantAll rfl) (rv_index rfl (fr_eval rfl rfl) (fr_eval rfl rfl) (rdN (Own.rd (hH.own (i := 0) rfl) (row_one cNu_one)) (idsAt_len ns t pi0)) (show i < t.length from (by omega)) Try.underlying31 Try.sz3 (by decide)) ?_
          refine lf_sk (wantAll rfl) (hx_setC hH (i := 0) (nm := List.length (List.set (idsAt ns t i) i ((oneN (bnk ns t i) (nodeAt ns t i)).2))) (j := i) (xs' := (List.set (idsAt ns t i) i ((oneN (bnk ns t i) (nodeAt ns t i)).2)).flatMap cNu) rfl rfl rfl (List.length_set ..).symm (Nat.lt_of_lt_of_eq (by omega) ((idsAt_len ns t pi0)).symm) (flat_set1 cNu_len rfl (Nat.lt_of_lt_of_eq (by omega) ((idsAt_len ns t pi0)).symm)) (fr_eval rfl rfl) (fr_eval rfl rfl) Try.sz3 rfl) ?_
          clear hH
          rintro w29 ⟨hH, hx⟩
          replace hH : Heap _ _ _ [_, _, _, _, _] := hH
          rw [show List.set (idsAt ns t i) i ((oneN (bnk ns t i) (nodeAt ns t i)).2) = idsAt ns t (i + 1) from idsAt_next (by omega)] at hH
          clear hx
          refine lf_nil ?_
          refine blk_n ?_
          refine then_n ?_
          refine wp_gen (fun F' => F' 0 = .pointer (some ⟨g, 0, none⟩) ∧ F' 1 = tv ∧ F' 4 = .int .i64 0 ∧ F' 5 = .int .i64 0 ∧ F' 6 = y5 ∧ F' 7 = .int .i64 ((i : Nat) : Int) ∧ F' 8 = .pointer (some ⟨g2, 0, none⟩) ∧ F' 15 = .bool false ∧ F' 20 = .bool false ∧ F' 28 = tv ∧ F' 29 = .int .i64 ((t.length : Nat) : Int) ∧ F' 30 = .int .i64 ((i : Nat) : Int) ∧ F' 31 = .bool true ∧ F' 37 = .bool true ∧ F' 46 = .bool false) ⟨e0, e1, e4, e5, e6, e7, e8, e15, e20, e28, e29, e30, e31, e37, (e46.trans (congrArg Value.bool (decide_eq_false (not_not_intro hc6))))⟩ ?_
          clear e0 e1 e4 e5 e6 e7 e8 e15 e20 e28 e29 e30 e31 e37 e46
          clear F
          rintro F ⟨e0, e1, e4, e5, e6, e7, e8, e15, e20, e28, e29, e30, e31, e37, e46⟩
          refine wp_regionF ?_
          refine lf_val (v := .int .i64 ((i + 1 : Nat) : Int)) (wantAll rfl) (rv_add rfl (fr_eval rfl e30) rfl (wrap_i64 (by omega) (by omega) (by omega))) ?_
          refine lf_val (v := .int .i64 ((i + 1 : Nat) : Int)) (wantAll rfl) (rv_move rfl (fr_eval rfl rfl)) ?_
          refine lf_nil ?_
          refine then_n ?_
          replace hH : Heap _ _ _ [_, _, _, _] := hH.drop (.cons_cons _ (.cons _ (.cons_cons _ (.cons_cons _ (.cons_cons _ .slnil)))))
          replace hH : Heap _ _ _ [_, _, _, _] := hH.perm (.trans (.swap _ _ _) (.cons _ (.refl _)))
          replace hH : Heap _ _ _ [_, _, _, _] := hH.perm (.cons _ (.trans (.swap _ _ _) (.cons _ (.refl _))))
          replace hH : Heap _ _ _ [_, _, _, _] := hH.perm (.cons _ (.cons _ (.trans (.swap _ _ _) (.cons _ (.refl _)))))
          exact ⟨_, _, (by omega), rfl, i + 1, _, rfl, (by omega), e0, e1, e4, e5, e6, e15, e20, e28, e29, rfl, hH⟩
        · refine wp_cond_true (fr_eval rfl (e46.trans (congrArg Value.bool (decide_eq_true hc6)))) ?_
          refine wp_regionF ?_
          refine lf_val (v := y5) (wantAll rfl) (rv_move rfl (fr_eval rfl e6)) ?_
          refine lf_val (v := .pointer (some ⟨g2, 2, none⟩)) (wantAll rfl) (rv_fieldAddr (n := 0) rfl (fr_eval rfl e8) Try.underlying40 rfl rfl (by kernel_rfl)) ?_
          refine lf_val (v := .int .i64 ((List.getD t i zN).b)) (wantAll rfl) (rv_load1 rfl (hH.blk (i := 4) rfl) zBa_g6 (fr_eval rfl rfl) Try.underlying3 rfl Try.sz3) ?_
          refine lf_val (v := .pointer (some (elemA y5 ((((List.getD t i zN).b).toNat) * 1)))) (wantAll rfl) (rv_index rfl (fr_eval rfl rfl) (((fr_eval rfl rfl)).trans (congrArg (Value.int .i64) (Int.toNat_of_nonneg (by unfold okN at hok; omega)).symm)) (rdN (Own.rd (hH.own (i := 3) rfl) (row_one cNu_one)) (idsAt_len ns t pi0)) (show ((List.getD t i zN).b).toNat < t.length from (by unfold okN at hok; omega)) Try.underlying31 Try.sz3 (by decide)) ?_
          refine lf_val (wantAll rfl) (rv_loadCell rfl (fr_eval rfl rfl) (Nat.mul_one _) (Own.rd (hH.own (i := 3) rfl) (row_one cNu_one)) (flat_get1 0 cNu_len (Nat.lt_of_lt_of_eq (show ((List.getD t i zN).b).toNat < t.length from (by unfold okN at hok; omega)) ((idsAt_len ns t pi0)).symm) rfl) Try.underlying3 rfl Try.sz3) ?_
          refine lf_val (v := .pointer (some ⟨g2, 2, none⟩)) (wantAll rfl) (rv_fieldAddr (n := 0) rfl (fr_eval rfl e8) Try.underlying40 rfl rfl (by kernel_rfl)) ?_
          refine lf_sk (wantAll rfl) (hx_storeC hH (i := 4) (j := 2) (v := .int .i64 (((List.getD (idsAt ns t i) (((List.getD t i zN).b).toNat) 0) : Nat) : Int)) rfl rfl rfl (show 2 < 3 by decide) rfl (fr_eval rfl rfl) (fr_eval rfl rfl) Try.sz3 rfl) ?_
          clear hH
          rintro w30 ⟨hH, hx⟩
          replace hH : Heap _ _ _ [_, _, _, _, _] := hH
          clear hx
          refine lf_nil ?_
          refine then_n ?_
          refine wp_gen (fun F' => F' 0 = .pointer (some ⟨g, 0, none⟩) ∧ F' 1 = tv ∧ F' 4 = .int .i64 0 ∧ F' 5 = .int .i64 0 ∧ F' 6 = y5 ∧ F' 7 = .int .i64 ((i : Nat) : Int) ∧ F' 8 = .pointer (some ⟨g2, 0, none⟩) ∧ F' 15 = .bool false ∧ F' 20 = .bool false ∧ F' 28 = tv ∧ F' 29 = .int .i64 ((t.length : Nat) : Int) ∧ F' 30 = .int .i64 ((i : Nat) : Int) ∧ F' 31 = .bool true ∧ F' 37 = .bool true ∧ F' 46 = .bool true) ⟨e0, e1, e4, e5, e6, e7, e8, e15, e20, e28, e29, e30, e31, e37, (e46.trans (congrArg Value.bool (decide_eq_true hc6)))⟩ ?_
          clear e0 e1 e4 e5 e6 e7 e8 e15 e20 e28 e29 e30 e31 e37 e46
          clear F
          rintro F ⟨e0, e1, e4, e5, e6, e7, e8, e15, e20, e28, e29, e30, e31, e37, e46⟩
          refine wp_regionF ?_
          refine lf_val (v := y5) (wantAll rfl) (rv_move rfl (fr_eval rfl e6)) ?_
          refine lf_val (v := .int .i64 ((i : Nat) : Int)) (wantAll rfl) (rv_move rfl (fr_eval rfl e7)) ?_
          refine lf_val (v := .pointer (some ⟨g, 0, none⟩)) (wantAll rfl) (rv_move rfl (fr_eval rfl e0)) ?_
          refine lf_val (wantAll rfl) (rv_loadW rfl (hH.blk (i := 4) rfl) (fr_eval rfl e8) Try.underlying40 rfl (sz_len Try.sz40 zBa_l1)) ?_
          have hnd : (⟨(List.getD t i zN).k, (((List.getD (idsAt ns t i) (((List.getD t i zN).a).toNat) 0) : Nat) : Int), (((List.getD (idsAt ns t i) (((List.getD t i zN).b).toNat) 0) : Nat) : Int)⟩ : Nd) = nodeAt ns t i := (by
            unfold nodeAt subN
            first | rw [if_pos (by omega)] | rw [if_neg (by omega), if_pos (by omega), idsAt_get (by omega) (by unfold okN at hok; omega)] | rw [if_neg (by omega), if_neg (by omega), idsAt_get (by omega) (by unfold okN at hok; omega), idsAt_get (by omega) (by unfold okN at hok; omega)])
          replace hH : Heap _ _ _ [_, _, _, _, _] := hH.perm (.trans (.swap _ _ _) (.cons _ (.trans (.swap _ _ _) (.cons _ (.trans (.swap _ _ _) (.cons _ (.refl _)))))))
          replace hH : Heap _ _ _ [_, _, _, _, _] := hH.perm (.cons _ (.trans (.swap _ _ _) (.cons _ (.trans (.swap _ _ _) (.cons _ (.trans (.swap _ _ _) (.cons _ (.refl _))))))))
          refine lf_call (wantAll rfl) (rv_call (args := [.pointer (some ⟨g, 0, none⟩), .agg (cNd (nodeAt ns t i)).toArray]) rfl (evc (fr_eval rfl rfl) (evc ((show _ = Value.agg (cNd (⟨(List.getD t i zN).k, (((List.getD (idsAt ns t i) (((List.getD t i zN).a).toNat) 0) : Nat) : Int), (((List.getD (idsAt ns t i) (((List.getD t i zN).b).toNat) 0) : Nat) : Int)⟩ : Nd)).toArray from (fr_eval rfl rfl)).trans (congrArg (fun n => Value.agg (cNd n).toArray) hnd)) evn)) Try.call19) (one_b (bnk ns t i) (by have := bnk_le ns t i; have := ht.2.1; omega) (nodeAt ns t i) _ (Heap.part (L := [_, _]) (M := [_, _, _]) hH)) ?_
          rintro _ w31 ⟨y8, rfl, hP⟩
          refine ⟨_, rfl, ?_⟩
          have hx := hH.callChg (L := [_, _]) (M := [_, _, _]) (fun _ h => h) hP
          replace hH : Heap _ _ _ [_, _, _, _, _] := hH.call (L := [_, _]) (M := [_, _, _]) (fun _ h => h) hP (Stays.blk (hP.blk (i := 0) rfl) (Stays.own (hP.own (i := 1) rfl) (Stays.mp (hP.mp (i := 2) rfl) Stays.nil)))
          clear hP
          clear hx
          clear hnd
          rw [bnk_next (by omega : i < t.length)] at hH
          refine lf_val (v := .pointer (some (elemA y5 (i * 1)))) (wantAll rfl) (rv_index rfl (fr_eval rfl rfl) (fr_eval rfl rfl) (rdN (Own.rd (hH.own (i := 0) rfl) (row_one cNu_one)) (idsAt_len ns t pi0)) (show i < t.length from (by omega)) Try.underlying31 Try.sz3 (by decide)) ?_
          refine lf_sk (wantAll rfl) (hx_setC hH (i := 0) (nm := List.length (List.set (idsAt ns t i) i ((oneN (bnk ns t i) (nodeAt ns t i)).2))) (j := i) (xs' := (List.set (idsAt ns t i) i ((oneN (bnk ns t i) (nodeAt ns t i)).2)).flatMap cNu) rfl rfl rfl (List.length_set ..).symm (Nat.lt_of_lt_of_eq (by omega) ((idsAt_len ns t pi0)).symm) (flat_set1 cNu_len rfl (Nat.lt_of_lt_of_eq (by omega) ((idsAt_len ns t pi0)).symm)) (fr_eval rfl rfl) (fr_eval rfl rfl) Try.sz3 rfl) ?_
          clear hH
          rintro w33 ⟨hH, hx⟩
          replace hH : Heap _ _ _ [_, _, _, _, _] := hH
          rw [show List.set (idsAt ns t i) i ((oneN (bnk ns t i) (nodeAt ns t i)).2) = idsAt ns t (i + 1) from idsAt_next (by omega)] at hH
          clear hx
          refine lf_nil ?_
          refine blk_n ?_
          refine then_n ?_
          refine wp_gen (fun F' => F' 0 = .pointer (some ⟨g, 0, none⟩) ∧ F' 1 = tv ∧ F' 4 = .int .i64 0 ∧ F' 5 = .int .i64 0 ∧ F' 6 = y5 ∧ F' 7 = .int .i64 ((i : Nat) : Int) ∧ F' 8 = .pointer (some ⟨g2, 0, none⟩) ∧ F' 15 = .bool false ∧ F' 20 = .bool false ∧ F' 28 = tv ∧ F' 29 = .int .i64 ((t.length : Nat) : Int) ∧ F' 30 = .int .i64 ((i : Nat) : Int) ∧ F' 31 = .bool true ∧ F' 37 = .bool true ∧ F' 46 = .bool true) ⟨e0, e1, e4, e5, e6, e7, e8, e15, e20, e28, e29, e30, e31, e37, e46⟩ ?_
          clear e0 e1 e4 e5 e6 e7 e8 e15 e20 e28 e29 e30 e31 e37 e46
          clear F
          rintro F ⟨e0, e1, e4, e5, e6, e7, e8, e15, e20, e28, e29, e30, e31, e37, e46⟩
          refine wp_regionF ?_
          refine lf_val (v := .int .i64 ((i + 1 : Nat) : Int)) (wantAll rfl) (rv_add rfl (fr_eval rfl e30) rfl (wrap_i64 (by omega) (by omega) (by omega))) ?_
          refine lf_val (v := .int .i64 ((i + 1 : Nat) : Int)) (wantAll rfl) (rv_move rfl (fr_eval rfl rfl)) ?_
          refine lf_nil ?_
          refine then_n ?_
          replace hH : Heap _ _ _ [_, _, _, _] := hH.drop (.cons_cons _ (.cons _ (.cons_cons _ (.cons_cons _ (.cons_cons _ .slnil)))))
          replace hH : Heap _ _ _ [_, _, _, _] := hH.perm (.trans (.swap _ _ _) (.cons _ (.refl _)))
          replace hH : Heap _ _ _ [_, _, _, _] := hH.perm (.cons _ (.trans (.swap _ _ _) (.cons _ (.refl _))))
          replace hH : Heap _ _ _ [_, _, _, _] := hH.perm (.cons _ (.cons _ (.trans (.swap _ _ _) (.cons _ (.refl _)))))
          exact ⟨_, _, (by omega), rfl, i + 1, _, rfl, (by omega), e0, e1, e4, e5, e6, e15, e20, e28, e29, rfl, hH⟩
    · refine wp_cond_false (fr_eval rfl (e31.trans (congrArg Value.bool (decide_eq_false hc4)))) ?_
      refine wp_exit ?_
      refine then_exit ?_
      refine then_exit ?_
      refine blk_exit ?_
      refine then_n ?_
      refine wp_seq ?_
      obtain rfl : i = t.length := by omega
      rw [bnk_end] at hH
      have ht1 := ht.1
      refine wp_regionF ?_
      refine lf_val (v := y5) (wantAll rfl) (rv_move rfl (fr_eval rfl e6)) ?_
      refine lf_val (v := tv) (wantAll rfl) (rv_move rfl (fr_eval rfl e1)) ?_
      refine lf_val (v := .int .i64 ((t.length : Nat) : Int)) (wantAll rfl) (rv_len rfl (fr_eval rfl rfl) (hs.rd _ hH.chg) Try.underlying24) ?_
      refine lf_val (v := .int .i64 ((t.length - 1 : Nat) : Int)) (wantAll rfl) (rv_sub rfl (fr_eval rfl rfl) rfl (wrap_i64 (by omega) (by omega) (by omega))) ?_
      refine lf_val (v := .pointer (some (elemA y5 ((t.length - 1) * 1)))) (wantAll rfl) (rv_index rfl (fr_eval rfl rfl) (fr_eval rfl rfl) (rdN (Own.rd (hH.own (i := 3) rfl) (row_one cNu_one)) (idsAt_len ns t pi0)) (show t.length - 1 < t.length from (by have := ht.1; omega)) Try.underlying31 Try.sz3 (by decide)) ?_
      refine lf_val (v := .int .i64 ((idT ns t : Nat) : Int)) (wantAll rfl) ((by rw [← ids_end ns t]; exact rv_loadCell rfl (fr_eval rfl rfl) (Nat.mul_one _) (Own.rd (hH.own (i := 3) rfl) (row_one cNu_one)) (flat_get1 0 cNu_len (Nat.lt_of_lt_of_eq (show t.length - 1 < t.length from (by have := ht.1; omega)) ((idsAt_len ns t pi0)).symm) rfl) Try.underlying3 rfl Try.sz3)) ?_
      refine lf_val (v := .int .i64 ((idT ns t : Nat) : Int)) (wantAll rfl) (rv_assign rfl (fr_eval rfl rfl)) ?_
      refine lf_val (v := .int .i64 0) (wantAll rfl) (rv_assign rfl rfl) ?_
      refine lf_nil ?_
      refine then_n ?_
      refine wp_gen (fun F' => F' 0 = .pointer (some ⟨g, 0, none⟩) ∧ F' 1 = tv ∧ F' 4 = .int .i64 ((idT ns t : Nat) : Int) ∧ F' 5 = .int .i64 0 ∧ F' 6 = y5 ∧ F' 15 = .bool false ∧ F' 20 = .bool false ∧ F' 28 = tv ∧ F' 29 = .int .i64 ((t.length : Nat) : Int) ∧ F' 30 = .int .i64 ((t.length : Nat) : Int) ∧ F' 31 = .bool false) ⟨e0, e1, rfl, rfl, e6, e15, e20, e28, e29, e30, (e31.trans (congrArg Value.bool (decide_eq_false hc4)))⟩ ?_
      clear e0 e1 e4 e5 e6 e15 e20 e28 e29 e30 e31
      clear F
      rintro F ⟨e0, e1, e4, e5, e6, e15, e20, e28, e29, e30, e31⟩
      refine wp_ret ?_
      have hF := hH
      replace hF : Heap _ _ _ [_, _, _] := hF.drop (.cons_cons _ (.cons_cons _ (.cons_cons _ (.cons _ .slnil))))
      exact bodyPost_ret (v := .tuple #[.int .i64 ((idT ns t : Nat) : Int), .int .i64 0]) (res2 rfl (ro_tmp rfl e4) (ro_tmp rfl e5)) rfl (⟨_, _, rfl, hF⟩)

set_option maxRecDepth 100000 in
set_option maxHeartbeats 4000000 in
theorem into_m {K : Nat → Prop} {g : Nat} {v : Value} {kv : Value} (hkv : kv.oneCell' = true) {mo : Option Nat} (ns : List Nd) (hn : ns.length ≤ 900000) (hb : okB ns) (t : List Nd) (ht : okT t) (tv : Value) (w : World) (hs0 : Stab (newK w K) w 3 tv t.length (t.flatMap cNd)) (hh0 : Heap (newK w K) w w [oBlk g ([v, .map mo, kv]) 33, oRow cNd 40 3 v ns, oMp mo ns]) :
    Calls Try.prog 13 #[.pointer (some ⟨g, 0, none⟩), tv] w fun e'' w' => ∃ v' r', e'' = .returned (.tuple #[.int .i64 ((idT ns t : Nat) : Int), .int .i64 0]) ∧ Heap (newK w K) w w' [oBlk g ([v', .map (some r'), kv]) 33, oRow cNd 40 3 v' (bankT ns t), oMp (some r') (bankT ns t)] := by
  refine calls_fr (args := [.pointer (some ⟨g, 0, none⟩), tv]) (n := 66) Try.func13 rfl rfl (show 2 ≤ 66 by decide) ?_
  have htl := ht.2.1
  have hs := hs0
  have hH : Heap (newK w K) w w [oBlk g ([v, .map mo, kv]) 33, oRow cNd 40 3 v ns, oMp mo ns] := hh0
  refine wp_seq ?_
  refine wp_gen (fun F' => F' 0 = .pointer (some ⟨g, 0, none⟩) ∧ F' 1 = tv) ⟨rfl, rfl⟩ ?_
  rintro F ⟨e0, e1⟩
  refine wp_regionF ?_
  refine lf_val (v := .int .i64 0) (wantAll rfl) (rv_assign rfl rfl) ?_
  refine lf_val (v := .int .i64 0) (wantAll rfl) (rv_assign rfl rfl) ?_
  refine lf_nil ?_
  refine then_n ?_
  refine wp_seq ?_
  refine wp_seq ?_
  refine wp_gen (fun F' => F' 0 = .pointer (some ⟨g, 0, none⟩) ∧ F' 1 = tv ∧ F' 4 = .int .i64 0 ∧ F' 5 = .int .i64 0) ⟨e0, e1, rfl, rfl⟩ ?_
  clear e0 e1
  clear F
  rintro F ⟨e0, e1, e4, e5⟩
  refine wp_regionF ?_
  refine lf_val (v := .pointer (some ⟨g, 0, none⟩)) (wantAll rfl) (rv_move rfl (fr_eval rfl e0)) ?_
  refine lf_val (v := .bool false) (wantAll rfl) (rv_eqnil (p := (some ⟨g, 0, none⟩)) rfl (fr_eval rfl rfl) rfl Try.underlying43) ?_
  refine lf_val (v := .bool false) (wantAll rfl) (rv_move rfl (fr_eval rfl rfl)) ?_
  refine lf_val (v := tv) (wantF (d := 11) rfl (by kernel_rfl) rfl rfl) (rv_move rfl (fr_eval rfl e1)) ?_
  refine lf_call (wantF (d := 11) rfl (by kernel_rfl) rfl rfl) (rv_call (args := [tv]) rfl (evc (fr_eval rfl rfl) evn) Try.call18) (calls_known (b' := true) (right_calls t _ _ (hs.rd _ hH.chg)) (decide_eq_true ht)) ?_
  rintro _ w1 ⟨rfl, hx⟩
  refine ⟨_, rfl, ?_⟩
  replace hH := hH.ext hx
  clear hx
  refine lf_val (v := .bool false) (wantF (d := 11) rfl (by kernel_rfl) rfl rfl) (rv_not (b := true) rfl (fr_eval rfl rfl)) ?_
  refine lf_val (v := .bool false) (wantAll rfl) (rv_pickF rfl (fr_eval rfl rfl) (fr_eval rfl rfl)) ?_
  refine lf_nil ?_
  refine then_n ?_
  refine wp_gen (fun F' => F' 0 = .pointer (some ⟨g, 0, none⟩) ∧ F' 1 = tv ∧ F' 4 = .int .i64 0 ∧ F' 5 = .int .i64 0 ∧ F' 15 = .bool false) ⟨e0, e1, e4, e5, rfl⟩ ?_
  clear e0 e1 e4 e5
  clear F
  rintro F ⟨e0, e1, e4, e5, e15⟩
  refine wp_cond_false (fr_eval rfl e15) ?_
  refine wp_skip ?_
  refine then_n ?_
  refine wp_seq ?_
  refine wp_seq ?_
  by_cases hf1 : mo = none
  · subst hf1
    have hns : ns = [] := hH.mp (i := 2) rfl
    refine wp_regionF ?_
    refine lf_val (v := .pointer (some ⟨g, 0, none⟩)) (wantAll rfl) (rv_move rfl (fr_eval rfl e0)) ?_
    refine lf_val (v := .pointer (some ⟨g, 0, none⟩)) (wantAll rfl) (rv_nilCheck rfl (fr_eval rfl rfl)) ?_
    refine lf_val (v := .pointer (some ⟨g, 1, none⟩)) (wantAll rfl) (rv_fieldAddr (n := 0) rfl (fr_eval rfl rfl) Try.underlying30 rfl rfl (by kernel_rfl)) ?_
    refine lf_val (v := .map none) (wantAll rfl) (rv_load1 rfl (hH.blk (i := 0) rfl) zBa_g3 (fr_eval rfl rfl) Try.underlying28 rfl Try.sz28) ?_
    refine lf_val (v := .bool true) (wantAll rfl) (rv_eqmap (p := none) rfl (fr_eval rfl rfl) rfl Try.underlying28) ?_
    refine lf_nil ?_
    refine then_n ?_
    replace hH : Heap _ _ _ [_, _] := hH.drop (.cons_cons _ (.cons_cons _ (.cons _ .slnil)))
    refine wp_gen (fun F' => F' 0 = .pointer (some ⟨g, 0, none⟩) ∧ F' 1 = tv ∧ F' 4 = .int .i64 0 ∧ F' 5 = .int .i64 0 ∧ F' 15 = .bool false ∧ F' 20 = .bool true) ⟨e0, e1, e4, e5, e15, rfl⟩ ?_
    clear e0 e1 e4 e5 e15
    clear F
    rintro F ⟨e0, e1, e4, e5, e15, e20⟩
    refine wp_cond_true (fr_eval rfl e20) ?_
    refine wp_regionF ?_
    refine lf_val (v := .pointer (some ⟨g, 0, none⟩)) (wantAll rfl) (rv_move rfl (fr_eval rfl e0)) ?_
    refine lf_ex (wantAll rfl) (hx_makeMapN hH (ns := ns) hns rfl) ?_
    clear hH
    rintro _ w2 ⟨q1, rfl, hH, hx⟩
    replace hH : Heap _ _ _ [_, _, _] := hH
    clear hx
    refine lf_val (v := .pointer (some ⟨g, 0, none⟩)) (wantAll rfl) (rv_nilCheck rfl (fr_eval rfl rfl)) ?_
    refine lf_val (v := .pointer (some ⟨g, 1, none⟩)) (wantAll rfl) (rv_fieldAddr (n := 0) rfl (fr_eval rfl rfl) Try.underlying30 rfl rfl (by kernel_rfl)) ?_
    refine lf_sk (wantAll rfl) (hx_storeC hH (i := 0) (j := 1) (v := .map (some q1)) rfl rfl rfl (show 1 < 3 by decide) rfl (fr_eval rfl rfl) (fr_eval rfl rfl) Try.sz28 rfl) ?_
    clear hH
    rintro w3 ⟨hH, hx⟩
    replace hH : Heap _ _ _ [_, _, _] := hH
    clear hx
    refine lf_nil ?_
    refine then_n ?_
    refine wp_seq ?_
    refine wp_gen (fun F' => F' 0 = .pointer (some ⟨g, 0, none⟩) ∧ F' 1 = tv ∧ F' 4 = .int .i64 0 ∧ F' 5 = .int .i64 0 ∧ F' 15 = .bool false ∧ F' 20 = .bool true) ⟨e0, e1, e4, e5, e15, e20⟩ ?_
    clear e0 e1 e4 e5 e15 e20
    clear F
    rintro F ⟨e0, e1, e4, e5, e15, e20⟩
    refine wp_regionF ?_
    refine lf_val (v := tv) (wantAll rfl) (rv_move rfl (fr_eval rfl e1)) ?_
    refine lf_val (v := .int .i64 ((t.length : Nat) : Int)) (wantAll rfl) (rv_len rfl (fr_eval rfl rfl) (hs.rd _ hH.chg) Try.underlying24) ?_
    refine lf_ex (wantAll rfl) (hx_make hH Try.stInt (n := t.length) (nm := List.length (List.replicate t.length 0)) (z1 := .int .i64 0) (xs := (List.replicate t.length 0).flatMap cNu) rfl (fr_eval rfl rfl) (fr_eval rfl rfl) (by have := ht.2.1; omega) rfl (zeros_f (f := cNu) (d := 0) (sz := 1) rfl _) (List.length_replicate ..).symm) ?_
    clear hH
    rintro y1 w4 ⟨hH, hx⟩
    replace hH : Heap _ _ _ [_, _, _, _] := hH
    clear hx
    refine lf_val (v := y1) (wantAll rfl) (rv_assign rfl (fr_eval rfl rfl)) ?_
    refine lf_nil ?_
    refine then_n ?_
    refine wp_seq ?_
    refine wp_seq ?_
    refine wp_gen (fun F' => F' 0 = .pointer (some ⟨g, 0, none⟩) ∧ F' 1 = tv ∧ F' 4 = .int .i64 0 ∧ F' 5 = .int .i64 0 ∧ F' 6 = y1 ∧ F' 15 = .bool false ∧ F' 20 = .bool true) ⟨e0, e1, e4, e5, rfl, e15, e20⟩ ?_
    clear e0 e1 e4 e5 e15 e20
    clear F
    rintro F ⟨e0, e1, e4, e5, e6, e15, e20⟩
    refine wp_regionF ?_
    refine lf_val (v := tv) (wantAll rfl) (rv_move rfl (fr_eval rfl e1)) ?_
    refine lf_val (v := .int .i64 ((t.length : Nat) : Int)) (wantAll rfl) (rv_len rfl (fr_eval rfl rfl) (hs.rd _ hH.chg) Try.underlying24) ?_
    refine lf_val (v := .int .i64 0) (wantAll rfl) (rv_move rfl rfl) ?_
    refine lf_nil ?_
    refine then_n ?_
    refine wp_block ?_
    rw [show List.replicate t.length 0 = idsAt ns t 0 from idsAt_0 ns t] at hH
    have hbk := bnk_0 ns t
    refine wp_gen (fun F' => F' 0 = .pointer (some ⟨g, 0, none⟩) ∧ F' 1 = tv ∧ F' 4 = .int .i64 0 ∧ F' 5 = .int .i64 0 ∧ F' 6 = y1 ∧ F' 15 = .bool false ∧ F' 20 = .bool true ∧ F' 28 = tv ∧ F' 29 = .int .i64 ((t.length : Nat) : Int) ∧ F' 30 = .int .i64 0) ⟨e0, e1, e4, e5, e6, e15, e20, rfl, rfl, rfl⟩ ?_
    clear e0 e1 e4 e5 e6 e15 e20
    clear F
    rintro F ⟨e0, e1, e4, e5, e6, e15, e20, e28, e29, e30⟩
    refine wp_loopF (fun m F wr => ∃ i : Nat, ∃ u : Value, m = t.length - i ∧ i ≤ t.length ∧ F 0 = .pointer (some ⟨g, 0, none⟩) ∧ F 1 = tv ∧ F 4 = .int .i64 0 ∧ F 5 = .int .i64 0 ∧ F 6 = y1 ∧ F 15 = .bool false ∧ F 20 = .bool true ∧ F 28 = tv ∧ F 29 = .int .i64 ((t.length : Nat) : Int) ∧ F 30 = .int .i64 ((i : Nat) : Int) ∧ Heap (newK w K) w wr [oBlk g ([u, .map (some q1), kv]) 33, oRow cNd 40 3 u (bnk ns t i), oMp (some q1) (bnk ns t i), oRow cNu 3 1 y1 (idsAt ns t i)]) ⟨0, _, rfl, Nat.zero_le _, e0, e1, e4, e5, e6, e15, e20, e28, e29, e30, hH⟩ ?_
    clear e0 e1 e4 e5 e6 e15 e20 e28 e29 e30 hH
    clear F
    rintro m F w5 ⟨i, u, rfl, pi0, e0, e1, e4, e5, e6, e15, e20, e28, e29, e30, hH⟩
    refine wp_seq ?_
    refine wp_regionF ?_
    refine lf_val (v := .bool (decide (i < t.length))) (wantAll rfl) (rv_lssP (p := i < t.length) rfl (fr_eval rfl e30) (fr_eval rfl e29) (by omega)) ?_
    refine lf_nil ?_
    refine then_n ?_
    refine wp_seq ?_
    refine wp_gen (fun F' => F' 0 = .pointer (some ⟨g, 0, none⟩) ∧ F' 1 = tv ∧ F' 4 = .int .i64 0 ∧ F' 5 = .int .i64 0 ∧ F' 6 = y1 ∧ F' 15 = .bool false ∧ F' 20 = .bool true ∧ F' 28 = tv ∧ F' 29 = .int .i64 ((t.length : Nat) : Int) ∧ F' 30 = .int .i64 ((i : Nat) : Int) ∧ F' 31 = .bool (decide (i < t.length))) ⟨e0, e1, e4, e5, e6, e15, e20, e28, e29, e30, rfl⟩ ?_
    clear e0 e1 e4 e5 e6 e15 e20 e28 e29 e30
    clear F
    rintro F ⟨e0, e1, e4, e5, e6, e15, e20, e28, e29, e30, e31⟩
    by_cases hc1 : i < t.length
    · refine wp_cond_true (fr_eval rfl (e31.trans (congrArg Value.bool (decide_eq_true hc1)))) ?_
      refine wp_skip ?_
      refine then_n ?_
      refine wp_seq ?_
      refine wp_block ?_
      refine wp_seq ?_
      refine wp_regionF ?_
      refine lf_val (v := .int .i64 ((i : Nat) : Int)) (wantAll rfl) (rv_move rfl (fr_eval rfl e30)) ?_
      refine lf_val (v := .pointer (some (elemA tv (i * 3)))) (wantAll rfl) (rv_index rfl (fr_eval rfl e28) (fr_eval rfl e30) (rdN (hs.rd _ hH.chg) rfl) (show i < t.length from (by omega)) Try.underlying24 Try.sz40 (by decide)) ?_
      refine lf_val (wantAll rfl) (rv_loadElem rfl (fr_eval rfl rfl) (rdN (hs.rd _ hH.chg) rfl) (show i < t.length from (by omega)) (by decide) (flat_part zN cNd_len (show i < t.length from (by omega))) Try.underlying40 rfl Try.sz40) ?_
      refine lf_ex (wantAll rfl) (hx_alloc hH 40 (z := .agg ([.int .i64 0, .int .i64 0, .int .i64 0]).toArray) (n := 3) (cs := [.int .i64 0, .int .i64 0, .int .i64 0]) rfl (by kernel_rfl) (by rfl)) ?_
      clear hH
      rintro _ w6 ⟨g1, rfl, hH, hx⟩
      replace hH : Heap _ _ _ [_, _, _, _, _] := hH
      clear hx
      refine lf_val (v := .int .i64 ((i : Nat) : Int)) (wantAll rfl) (rv_assign rfl (fr_eval rfl rfl)) ?_
      refine lf_sk (wantAll rfl) (hx_storeW hH (i := 4) (cs := [.int .i64 ((List.getD t i zN).k), .int .i64 ((List.getD t i zN).a), .int .i64 ((List.getD t i zN).b)]) rfl rfl rfl (fr_eval rfl rfl) (fr_eval rfl rfl) (sz_len Try.sz40 zBa_l1) ((zBa_l1).trans (zBa_l1).symm) (zBa_o5 rfl rfl rfl)) ?_
      clear hH
      rintro w7 ⟨hH, hx⟩
      replace hH : Heap _ _ _ [_, _, _, _, _] := hH
      clear hx
      refine lf_nil ?_
      refine then_n ?_
      refine wp_seq ?_
      refine wp_seq ?_
      refine wp_gen (fun F' => F' 0 = .pointer (some ⟨g, 0, none⟩) ∧ F' 1 = tv ∧ F' 4 = .int .i64 0 ∧ F' 5 = .int .i64 0 ∧ F' 6 = y1 ∧ F' 7 = .int .i64 ((i : Nat) : Int) ∧ F' 8 = .pointer (some ⟨g1, 0, none⟩) ∧ F' 15 = .bool false ∧ F' 20 = .bool true ∧ F' 28 = tv ∧ F' 29 = .int .i64 ((t.length : Nat) : Int) ∧ F' 30 = .int .i64 ((i : Nat) : Int) ∧ F' 31 = .bool true) ⟨e0, e1, e4, e5, e6, rfl, rfl, e15, e20, e28, e29, e30, (e31.trans (congrArg Value.bool (decide_eq_true hc1)))⟩ ?_
      clear e0 e1 e4 e5 e6 e15 e20 e28 e29 e30 e31
      clear F
      rintro F ⟨e0, e1, e4, e5, e6, e7, e8, e15, e20, e28, e29, e30, e31⟩
      have hok := ht.2.2 i (by omega)
      have hw := way_take hb ht i (by omega)
      refine wp_regionF ?_
      refine lf_val (v := .pointer (some ⟨g1, 0, none⟩)) (wantAll rfl) (rv_fieldAddr (n := 0) rfl (fr_eval rfl e8) Try.underlying40 rfl rfl (by kernel_rfl)) ?_
      refine lf_val (v := .int .i64 ((List.getD t i zN).k)) (wantAll rfl) (rv_load1 rfl (hH.blk (i := 4) rfl) zBa_g4 (fr_eval rfl rfl) Try.underlying3 rfl Try.sz3) ?_
      refine lf_val (v := .bool (decide (¬ (List.getD t i zN).k = 1))) (wantAll rfl) (rv_neqP (p := ¬ (List.getD t i zN).k = 1) rfl (fr_eval rfl rfl) rfl Iff.rfl) ?_
      refine lf_nil ?_
      refine then_n ?_
      refine wp_gen (fun F' => F' 0 = .pointer (some ⟨g, 0, none⟩) ∧ F' 1 = tv ∧ F' 4 = .int .i64 0 ∧ F' 5 = .int .i64 0 ∧ F' 6 = y1 ∧ F' 7 = .int .i64 ((i : Nat) : Int) ∧ F' 8 = .pointer (some ⟨g1, 0, none⟩) ∧ F' 15 = .bool false ∧ F' 20 = .bool true ∧ F' 28 = tv ∧ F' 29 = .int .i64 ((t.length : Nat) : Int) ∧ F' 30 = .int .i64 ((i : Nat) : Int) ∧ F' 31 = .bool true ∧ F' 37 = .bool (decide (¬ (List.getD t i zN).k = 1))) ⟨e0, e1, e4, e5, e6, e7, e8, e15, e20, e28, e29, e30, e31, rfl⟩ ?_
      clear e0 e1 e4 e5 e6 e7 e8 e15 e20 e28 e29 e30 e31
      clear F
      rintro F ⟨e0, e1, e4, e5, e6, e7, e8, e15, e20, e28, e29, e30, e31, e37⟩
      by_cases hc2 : (List.getD t i zN).k = 1
      · refine wp_cond_false (fr_eval rfl (e37.trans (congrArg Value.bool (decide_eq_false (not_not_intro hc2))))) ?_
        refine wp_skip ?_
        refine then_n ?_
        refine wp_regionF ?_
        refine lf_val (v := y1) (wantAll rfl) (rv_move rfl (fr_eval rfl e6)) ?_
        refine lf_val (v := .int .i64 ((i : Nat) : Int)) (wantAll rfl) (rv_move rfl (fr_eval rfl e7)) ?_
        refine lf_val (v := .pointer (some ⟨g, 0, none⟩)) (wantAll rfl) (rv_move rfl (fr_eval rfl e0)) ?_
        refine lf_val (wantAll rfl) (rv_loadW rfl (hH.blk (i := 4) rfl) (fr_eval rfl e8) Try.underlying40 rfl (sz_len Try.sz40 zBa_l1)) ?_
        have hnd : (List.getD t i zN) = nodeAt ns t i := (by
          unfold nodeAt subN
          first | rw [if_pos (by omega)] | rw [if_neg (by omega), if_pos (by omega), idsAt_get (by omega) (by unfold okN at hok; omega)] | rw [if_neg (by omega), if_neg (by omega), idsAt_get (by omega) (by unfold okN at hok; omega), idsAt_get (by omega) (by unfold okN at hok; omega)])
        replace hH : Heap _ _ _ [_, _, _, _, _] := hH.perm (.trans (.swap _ _ _) (.cons _ (.trans (.swap _ _ _) (.cons _ (.trans (.swap _ _ _) (.cons _ (.refl _)))))))
        replace hH : Heap _ _ _ [_, _, _, _, _] := hH.perm (.cons _ (.trans (.swap _ _ _) (.cons _ (.trans (.swap _ _ _) (.cons _ (.trans (.swap _ _ _) (.cons _ (.refl _))))))))
        refine lf_call (wantAll rfl) (rv_call (args := [.pointer (some ⟨g, 0, none⟩), .agg (cNd (nodeAt ns t i)).toArray]) rfl (evc (fr_eval rfl rfl) (evc ((show _ = Value.agg (cNd (List.getD t i zN)).toArray from (fr_eval rfl rfl)).trans (congrArg (fun n => Value.agg (cNd n).toArray) hnd)) evn)) Try.call19) (one_m hkv (bnk ns t i) (by have := bnk_le ns t i; have := ht.2.1; omega) (nodeAt ns t i) _ (Heap.part (L := [_, _]) (M := [_, _, _]) hH)) ?_
        rintro _ w8 ⟨y2, rfl, hP⟩
        refine ⟨_, rfl, ?_⟩
        have hx := hH.callChg (L := [_, _]) (M := [_, _, _]) (fun _ h => h) hP
        replace hH : Heap _ _ _ [_, _, _, _, _] := hH.call (L := [_, _]) (M := [_, _, _]) (fun _ h => h) hP (Stays.blk (hP.blk (i := 0) rfl) (Stays.own (hP.own (i := 1) rfl) (Stays.mp (hP.mp (i := 2) rfl) Stays.nil)))
        clear hP
        clear hx
        clear hnd
        rw [bnk_next (by omega : i < t.length)] at hH
        refine lf_val (v := .pointer (some (elemA y1 (i * 1)))) (wantAll rfl) (rv_index rfl (fr_eval rfl rfl) (fr_eval rfl rfl) (rdN (Own.rd (hH.own (i := 0) rfl) (row_one cNu_one)) (idsAt_len ns t pi0)) (show i < t.length from (by omega)) Try.underlying31 Try.sz3 (by decide)) ?_
        refine lf_sk (wantAll rfl) (hx_setC hH (i := 0) (nm := List.length (List.set (idsAt ns t i) i ((oneN (bnk ns t i) (nodeAt ns t i)).2))) (j := i) (xs' := (List.set (idsAt ns t i) i ((oneN (bnk ns t i) (nodeAt ns t i)).2)).flatMap cNu) rfl rfl rfl (List.length_set ..).symm (Nat.lt_of_lt_of_eq (by omega) ((idsAt_len ns t pi0)).symm) (flat_set1 cNu_len rfl (Nat.lt_of_lt_of_eq (by omega) ((idsAt_len ns t pi0)).symm)) (fr_eval rfl rfl) (fr_eval rfl rfl) Try.sz3 rfl) ?_
        clear hH
        rintro w10 ⟨hH, hx⟩
        replace hH : Heap _ _ _ [_, _, _, _, _] := hH
        rw [show List.set (idsAt ns t i) i ((oneN (bnk ns t i) (nodeAt ns t i)).2) = idsAt ns t (i + 1) from idsAt_next (by omega)] at hH
        clear hx
        refine lf_nil ?_
        refine blk_n ?_
        refine then_n ?_
        refine wp_gen (fun F' => F' 0 = .pointer (some ⟨g, 0, none⟩) ∧ F' 1 = tv ∧ F' 4 = .int .i64 0 ∧ F' 5 = .int .i64 0 ∧ F' 6 = y1 ∧ F' 7 = .int .i64 ((i : Nat) : Int) ∧ F' 8 = .pointer (some ⟨g1, 0, none⟩) ∧ F' 15 = .bool false ∧ F' 20 = .bool true ∧ F' 28 = tv ∧ F' 29 = .int .i64 ((t.length : Nat) : Int) ∧ F' 30 = .int .i64 ((i : Nat) : Int) ∧ F' 31 = .bool true ∧ F' 37 = .bool false) ⟨e0, e1, e4, e5, e6, e7, e8, e15, e20, e28, e29, e30, e31, (e37.trans (congrArg Value.bool (decide_eq_false (not_not_intro hc2))))⟩ ?_
        clear e0 e1 e4 e5 e6 e7 e8 e15 e20 e28 e29 e30 e31 e37
        clear F
        rintro F ⟨e0, e1, e4, e5, e6, e7, e8, e15, e20, e28, e29, e30, e31, e37⟩
        refine wp_regionF ?_
        refine lf_val (v := .int .i64 ((i + 1 : Nat) : Int)) (wantAll rfl) (rv_add rfl (fr_eval rfl e30) rfl (wrap_i64 (by omega) (by omega) (by omega))) ?_
        refine lf_val (v := .int .i64 ((i + 1 : Nat) : Int)) (wantAll rfl) (rv_move rfl (fr_eval rfl rfl)) ?_
        refine lf_nil ?_
        refine then_n ?_
        replace hH : Heap _ _ _ [_, _, _, _] := hH.drop (.cons_cons _ (.cons _ (.cons_cons _ (.cons_cons _ (.cons_cons _ .slnil)))))
        replace hH : Heap _ _ _ [_, _, _, _] := hH.perm (.trans (.swap _ _ _) (.cons _ (.refl _)))
        replace hH : Heap _ _ _ [_, _, _, _] := hH.perm (.cons _ (.trans (.swap _ _ _) (.cons _ (.refl _))))
        replace hH : Heap _ _ _ [_, _, _, _] := hH.perm (.cons _ (.cons _ (.trans (.swap _ _ _) (.cons _ (.refl _)))))
        exact ⟨_, _, (by omega), rfl, i + 1, _, rfl, (by omega), e0, e1, e4, e5, e6, e15, e20, e28, e29, rfl, hH⟩
      · refine wp_cond_true (fr_eval rfl (e37.trans (congrArg Value.bool (decide_eq_true hc2)))) ?_
        refine wp_seq ?_
        refine wp_regionF ?_
        refine lf_val (v := y1) (wantAll rfl) (rv_move rfl (fr_eval rfl e6)) ?_
        refine lf_val (v := .pointer (some ⟨g1, 1, none⟩)) (wantAll rfl) (rv_fieldAddr (n := 0) rfl (fr_eval rfl e8) Try.underlying40 rfl rfl (by kernel_rfl)) ?_
        refine lf_val (v := .int .i64 ((List.getD t i zN).a)) (wantAll rfl) (rv_load1 rfl (hH.blk (i := 4) rfl) zBa_g3 (fr_eval rfl rfl) Try.underlying3 rfl Try.sz3) ?_
        refine lf_val (v := .pointer (some (elemA y1 ((((List.getD t i zN).a).toNat) * 1)))) (wantAll rfl) (rv_index rfl (fr_eval rfl rfl) (((fr_eval rfl rfl)).trans (congrArg (Value.int .i64) (Int.toNat_of_nonneg (by unfold okN at hok; omega)).symm)) (rdN (Own.rd (hH.own (i := 3) rfl) (row_one cNu_one)) (idsAt_len ns t pi0)) (show ((List.getD t i zN).a).toNat < t.length from (by unfold okN at hok; omega)) Try.underlying31 Try.sz3 (by decide)) ?_
        refine lf_val (wantAll rfl) (rv_loadCell rfl (fr_eval rfl rfl) (Nat.mul_one _) (Own.rd (hH.own (i := 3) rfl) (row_one cNu_one)) (flat_get1 0 cNu_len (Nat.lt_of_lt_of_eq (show ((List.getD t i zN).a).toNat < t.length from (by unfold okN at hok; omega)) ((idsAt_len ns t pi0)).symm) rfl) Try.underlying3 rfl Try.sz3) ?_
        refine lf_val (v := .pointer (some ⟨g1, 1, none⟩)) (wantAll rfl) (rv_fieldAddr (n := 0) rfl (fr_eval rfl e8) Try.underlying40 rfl rfl (by kernel_rfl)) ?_
        refine lf_sk (wantAll rfl) (hx_storeC hH (i := 4) (j := 1) (v := .int .i64 (((List.getD (idsAt ns t i) (((List.getD t i zN).a).toNat) 0) : Nat) : Int)) rfl rfl rfl (show 1 < 3 by decide) rfl (fr_eval rfl rfl) (fr_eval rfl rfl) Try.sz3 rfl) ?_
        clear hH
        rintro w11 ⟨hH, hx⟩
        replace hH : Heap _ _ _ [_, _, _, _, _] := hH
        clear hx
        refine lf_nil ?_
        refine then_n ?_
        refine wp_seq ?_
        refine wp_gen (fun F' => F' 0 = .pointer (some ⟨g, 0, none⟩) ∧ F' 1 = tv ∧ F' 4 = .int .i64 0 ∧ F' 5 = .int .i64 0 ∧ F' 6 = y1 ∧ F' 7 = .int .i64 ((i : Nat) : Int) ∧ F' 8 = .pointer (some ⟨g1, 0, none⟩) ∧ F' 15 = .bool false ∧ F' 20 = .bool true ∧ F' 28 = tv ∧ F' 29 = .int .i64 ((t.length : Nat) : Int) ∧ F' 30 = .int .i64 ((i : Nat) : Int) ∧ F' 31 = .bool true ∧ F' 37 = .bool true) ⟨e0, e1, e4, e5, e6, e7, e8, e15, e20, e28, e29, e30, e31, (e37.trans (congrArg Value.bool (decide_eq_true hc2)))⟩ ?_
        clear e0 e1 e4 e5 e6 e7 e8 e15 e20 e28 e29 e30 e31 e37
        clear F
        rintro F ⟨e0, e1, e4, e5, e6, e7, e8, e15, e20, e28, e29, e30, e31, e37⟩
        refine wp_regionF ?_
        refine lf_val (v := .pointer (some ⟨g1, 0, none⟩)) (wantAll rfl) (rv_fieldAddr (n := 0) rfl (fr_eval rfl e8) Try.underlying40 rfl rfl (by kernel_rfl)) ?_
        refine lf_val (v := .int .i64 ((List.getD t i zN).k)) (wantAll rfl) (rv_load1 rfl (hH.blk (i := 4) rfl) zBa_g4 (fr_eval rfl rfl) Try.underlying3 rfl Try.sz3) ?_
        refine lf_val (v := .bool (decide (¬ (List.getD t i zN).k = 3))) (wantAll rfl) (rv_neqP (p := ¬ (List.getD t i zN).k = 3) rfl (fr_eval rfl rfl) rfl Iff.rfl) ?_
        refine lf_nil ?_
        refine then_n ?_
        refine wp_gen (fun F' => F' 0 = .pointer (some ⟨g, 0, none⟩) ∧ F' 1 = tv ∧ F' 4 = .int .i64 0 ∧ F' 5 = .int .i64 0 ∧ F' 6 = y1 ∧ F' 7 = .int .i64 ((i : Nat) : Int) ∧ F' 8 = .pointer (some ⟨g1, 0, none⟩) ∧ F' 15 = .bool false ∧ F' 20 = .bool true ∧ F' 28 = tv ∧ F' 29 = .int .i64 ((t.length : Nat) : Int) ∧ F' 30 = .int .i64 ((i : Nat) : Int) ∧ F' 31 = .bool true ∧ F' 37 = .bool true ∧ F' 46 = .bool (decide (¬ (List.getD t i zN).k = 3))) ⟨e0, e1, e4, e5, e6, e7, e8, e15, e20, e28, e29, e30, e31, e37, rfl⟩ ?_
        clear e0 e1 e4 e5 e6 e7 e8 e15 e20 e28 e29 e30 e31 e37
        clear F
        rintro F ⟨e0, e1, e4, e5, e6, e7, e8, e15, e20, e28, e29, e30, e31, e37, e46⟩
        by_cases hc3 : (List.getD t i zN).k = 3
        · refine wp_cond_false (fr_eval rfl (e46.trans (congrArg Value.bool (decide_eq_false (not_not_intro hc3))))) ?_
          refine wp_skip ?_
          refine then_n ?_
          refine wp_regionF ?_
          refine lf_val (v := y1) (wantAll rfl) (rv_move rfl (fr_eval rfl e6)) ?_
          refine lf_val (v := .int .i64 ((i : Nat) : Int)) (wantAll rfl) (rv_move rfl (fr_eval rfl e7)) ?_
          refine lf_val (v := .pointer (some ⟨g, 0, none⟩)) (wantAll rfl) (rv_move rfl (fr_eval rfl e0)) ?_
          refine lf_val (wantAll rfl) (rv_loadW rfl (hH.blk (i := 4) rfl) (fr_eval rfl e8) Try.underlying40 rfl (sz_len Try.sz40 zBa_l1)) ?_
          have hnd : (⟨(List.getD t i zN).k, (((List.getD (idsAt ns t i) (((List.getD t i zN).a).toNat) 0) : Nat) : Int), (List.getD t i zN).b⟩ : Nd) = nodeAt ns t i := (by
            unfold nodeAt subN
            first | rw [if_pos (by omega)] | rw [if_neg (by omega), if_pos (by omega), idsAt_get (by omega) (by unfold okN at hok; omega)] | rw [if_neg (by omega), if_neg (by omega), idsAt_get (by omega) (by unfold okN at hok; omega), idsAt_get (by omega) (by unfold okN at hok; omega)])
          replace hH : Heap _ _ _ [_, _, _, _, _] := hH.perm (.trans (.swap _ _ _) (.cons _ (.trans (.swap _ _ _) (.cons _ (.trans (.swap _ _ _) (.cons _ (.refl _)))))))
          replace hH : Heap _ _ _ [_, _, _, _, _] := hH.perm (.cons _ (.trans (.swap _ _ _) (.cons _ (.trans (.swap _ _ _) (.cons _ (.trans (.swap _ _ _) (.cons _ (.refl _))))))))
          refine lf_call (wantAll rfl) (rv_call (args := [.pointer (some ⟨g, 0, none⟩), .agg (cNd (nodeAt ns t i)).toArray]) rfl (evc (fr_eval rfl rfl) (evc ((show _ = Value.agg (cNd (⟨(List.getD t i zN).k, (((List.getD (idsAt ns t i) (((List.getD t i zN).a).toNat) 0) : Nat) : Int), (List.getD t i zN).b⟩ : Nd)).toArray from (fr_eval rfl rfl)).trans (congrArg (fun n => Value.agg (cNd n).toArray) hnd)) evn)) Try.call19) (one_m hkv (bnk ns t i) (by have := bnk_le ns t i; have := ht.2.1; omega) (nodeAt ns t i) _ (Heap.part (L := [_, _]) (M := [_, _, _]) hH)) ?_
          rintro _ w12 ⟨y3, rfl, hP⟩
          refine ⟨_, rfl, ?_⟩
          have hx := hH.callChg (L := [_, _]) (M := [_, _, _]) (fun _ h => h) hP
          replace hH : Heap _ _ _ [_, _, _, _, _] := hH.call (L := [_, _]) (M := [_, _, _]) (fun _ h => h) hP (Stays.blk (hP.blk (i := 0) rfl) (Stays.own (hP.own (i := 1) rfl) (Stays.mp (hP.mp (i := 2) rfl) Stays.nil)))
          clear hP
          clear hx
          clear hnd
          rw [bnk_next (by omega : i < t.length)] at hH
          refine lf_val (v := .pointer (some (elemA y1 (i * 1)))) (wantAll rfl) (rv_index rfl (fr_eval rfl rfl) (fr_eval rfl rfl) (rdN (Own.rd (hH.own (i := 0) rfl) (row_one cNu_one)) (idsAt_len ns t pi0)) (show i < t.length from (by omega)) Try.underlying31 Try.sz3 (by decide)) ?_
          refine lf_sk (wantAll rfl) (hx_setC hH (i := 0) (nm := List.length (List.set (idsAt ns t i) i ((oneN (bnk ns t i) (nodeAt ns t i)).2))) (j := i) (xs' := (List.set (idsAt ns t i) i ((oneN (bnk ns t i) (nodeAt ns t i)).2)).flatMap cNu) rfl rfl rfl (List.length_set ..).symm (Nat.lt_of_lt_of_eq (by omega) ((idsAt_len ns t pi0)).symm) (flat_set1 cNu_len rfl (Nat.lt_of_lt_of_eq (by omega) ((idsAt_len ns t pi0)).symm)) (fr_eval rfl rfl) (fr_eval rfl rfl) Try.sz3 rfl) ?_
          clear hH
          rintro w14 ⟨hH, hx⟩
          replace hH : Heap _ _ _ [_, _, _, _, _] := hH
          rw [show List.set (idsAt ns t i) i ((oneN (bnk ns t i) (nodeAt ns t i)).2) = idsAt ns t (i + 1) from idsAt_next (by omega)] at hH
          clear hx
          refine lf_nil ?_
          refine blk_n ?_
          refine then_n ?_
          refine wp_gen (fun F' => F' 0 = .pointer (some ⟨g, 0, none⟩) ∧ F' 1 = tv ∧ F' 4 = .int .i64 0 ∧ F' 5 = .int .i64 0 ∧ F' 6 = y1 ∧ F' 7 = .int .i64 ((i : Nat) : Int) ∧ F' 8 = .pointer (some ⟨g1, 0, none⟩) ∧ F' 15 = .bool false ∧ F' 20 = .bool true ∧ F' 28 = tv ∧ F' 29 = .int .i64 ((t.length : Nat) : Int) ∧ F' 30 = .int .i64 ((i : Nat) : Int) ∧ F' 31 = .bool true ∧ F' 37 = .bool true ∧ F' 46 = .bool false) ⟨e0, e1, e4, e5, e6, e7, e8, e15, e20, e28, e29, e30, e31, e37, (e46.trans (congrArg Value.bool (decide_eq_false (not_not_intro hc3))))⟩ ?_
          clear e0 e1 e4 e5 e6 e7 e8 e15 e20 e28 e29 e30 e31 e37 e46
          clear F
          rintro F ⟨e0, e1, e4, e5, e6, e7, e8, e15, e20, e28, e29, e30, e31, e37, e46⟩
          refine wp_regionF ?_
          refine lf_val (v := .int .i64 ((i + 1 : Nat) : Int)) (wantAll rfl) (rv_add rfl (fr_eval rfl e30) rfl (wrap_i64 (by omega) (by omega) (by omega))) ?_
          refine lf_val (v := .int .i64 ((i + 1 : Nat) : Int)) (wantAll rfl) (rv_move rfl (fr_eval rfl rfl)) ?_
          refine lf_nil ?_
          refine then_n ?_
          replace hH : Heap _ _ _ [_, _, _, _] := hH.drop (.cons_cons _ (.cons _ (.cons_cons _ (.cons_cons _ (.cons_cons _ .slnil)))))
          replace hH : Heap _ _ _ [_, _, _, _] := hH.perm (.trans (.swap _ _ _) (.cons _ (.refl _)))
          replace hH : Heap _ _ _ [_, _, _, _] := hH.perm (.cons _ (.trans (.swap _ _ _) (.cons _ (.refl _))))
          replace hH : Heap _ _ _ [_, _, _, _] := hH.perm (.cons _ (.cons _ (.trans (.swap _ _ _) (.cons _ (.refl _)))))
          exact ⟨_, _, (by omega), rfl, i + 1, _, rfl, (by omega), e0, e1, e4, e5, e6, e15, e20, e28, e29, rfl, hH⟩
        · refine wp_cond_true (fr_eval rfl (e46.trans (congrArg Value.bool (decide_eq_true hc3)))) ?_
          refine wp_regionF ?_
          refine lf_val (v := y1) (wantAll rfl) (rv_move rfl (fr_eval rfl e6)) ?_
          refine lf_val (v := .pointer (some ⟨g1, 2, none⟩)) (wantAll rfl) (rv_fieldAddr (n := 0) rfl (fr_eval rfl e8) Try.underlying40 rfl rfl (by kernel_rfl)) ?_
          refine lf_val (v := .int .i64 ((List.getD t i zN).b)) (wantAll rfl) (rv_load1 rfl (hH.blk (i := 4) rfl) zBa_g6 (fr_eval rfl rfl) Try.underlying3 rfl Try.sz3) ?_
          refine lf_val (v := .pointer (some (elemA y1 ((((List.getD t i zN).b).toNat) * 1)))) (wantAll rfl) (rv_index rfl (fr_eval rfl rfl) (((fr_eval rfl rfl)).trans (congrArg (Value.int .i64) (Int.toNat_of_nonneg (by unfold okN at hok; omega)).symm)) (rdN (Own.rd (hH.own (i := 3) rfl) (row_one cNu_one)) (idsAt_len ns t pi0)) (show ((List.getD t i zN).b).toNat < t.length from (by unfold okN at hok; omega)) Try.underlying31 Try.sz3 (by decide)) ?_
          refine lf_val (wantAll rfl) (rv_loadCell rfl (fr_eval rfl rfl) (Nat.mul_one _) (Own.rd (hH.own (i := 3) rfl) (row_one cNu_one)) (flat_get1 0 cNu_len (Nat.lt_of_lt_of_eq (show ((List.getD t i zN).b).toNat < t.length from (by unfold okN at hok; omega)) ((idsAt_len ns t pi0)).symm) rfl) Try.underlying3 rfl Try.sz3) ?_
          refine lf_val (v := .pointer (some ⟨g1, 2, none⟩)) (wantAll rfl) (rv_fieldAddr (n := 0) rfl (fr_eval rfl e8) Try.underlying40 rfl rfl (by kernel_rfl)) ?_
          refine lf_sk (wantAll rfl) (hx_storeC hH (i := 4) (j := 2) (v := .int .i64 (((List.getD (idsAt ns t i) (((List.getD t i zN).b).toNat) 0) : Nat) : Int)) rfl rfl rfl (show 2 < 3 by decide) rfl (fr_eval rfl rfl) (fr_eval rfl rfl) Try.sz3 rfl) ?_
          clear hH
          rintro w15 ⟨hH, hx⟩
          replace hH : Heap _ _ _ [_, _, _, _, _] := hH
          clear hx
          refine lf_nil ?_
          refine then_n ?_
          refine wp_gen (fun F' => F' 0 = .pointer (some ⟨g, 0, none⟩) ∧ F' 1 = tv ∧ F' 4 = .int .i64 0 ∧ F' 5 = .int .i64 0 ∧ F' 6 = y1 ∧ F' 7 = .int .i64 ((i : Nat) : Int) ∧ F' 8 = .pointer (some ⟨g1, 0, none⟩) ∧ F' 15 = .bool false ∧ F' 20 = .bool true ∧ F' 28 = tv ∧ F' 29 = .int .i64 ((t.length : Nat) : Int) ∧ F' 30 = .int .i64 ((i : Nat) : Int) ∧ F' 31 = .bool true ∧ F' 37 = .bool true ∧ F' 46 = .bool true) ⟨e0, e1, e4, e5, e6, e7, e8, e15, e20, e28, e29, e30, e31, e37, (e46.trans (congrArg Value.bool (decide_eq_true hc3)))⟩ ?_
          clear e0 e1 e4 e5 e6 e7 e8 e15 e20 e28 e29 e30 e31 e37 e46
          clear F
          rintro F ⟨e0, e1, e4, e5, e6, e7, e8, e15, e20, e28, e29, e30, e31, e37, e46⟩
          refine wp_regionF ?_
          refine lf_val (v := y1) (wantAll rfl) (rv_move rfl (fr_eval rfl e6)) ?_
          refine lf_val (v := .int .i64 ((i : Nat) : Int)) (wantAll rfl) (rv_move rfl (fr_eval rfl e7)) ?_
          refine lf_val (v := .pointer (some ⟨g, 0, none⟩)) (wantAll rfl) (rv_move rfl (fr_eval rfl e0)) ?_
          refine lf_val (wantAll rfl) (rv_loadW rfl (hH.blk (i := 4) rfl) (fr_eval rfl e8) Try.underlying40 rfl (sz_len Try.sz40 zBa_l1)) ?_
          have hnd : (⟨(List.getD t i zN).k, (((List.getD (idsAt ns t i) (((List.getD t i zN).a).toNat) 0) : Nat) : Int), (((List.getD (idsAt ns t i) (((List.getD t i zN).b).toNat) 0) : Nat) : Int)⟩ : Nd) = nodeAt ns t i := (by
            unfold nodeAt subN
            first | rw [if_pos (by omega)] | rw [if_neg (by omega), if_pos (by omega), idsAt_get (by omega) (by unfold okN at hok; omega)] | rw [if_neg (by omega), if_neg (by omega), idsAt_get (by omega) (by unfold okN at hok; omega), idsAt_get (by omega) (by unfold okN at hok; omega)])
          replace hH : Heap _ _ _ [_, _, _, _, _] := hH.perm (.trans (.swap _ _ _) (.cons _ (.trans (.swap _ _ _) (.cons _ (.trans (.swap _ _ _) (.cons _ (.refl _)))))))
          replace hH : Heap _ _ _ [_, _, _, _, _] := hH.perm (.cons _ (.trans (.swap _ _ _) (.cons _ (.trans (.swap _ _ _) (.cons _ (.trans (.swap _ _ _) (.cons _ (.refl _))))))))
          refine lf_call (wantAll rfl) (rv_call (args := [.pointer (some ⟨g, 0, none⟩), .agg (cNd (nodeAt ns t i)).toArray]) rfl (evc (fr_eval rfl rfl) (evc ((show _ = Value.agg (cNd (⟨(List.getD t i zN).k, (((List.getD (idsAt ns t i) (((List.getD t i zN).a).toNat) 0) : Nat) : Int), (((List.getD (idsAt ns t i) (((List.getD t i zN).b).toNat) 0) : Nat) : Int)⟩ : Nd)).toArray from (fr_eval rfl rfl)).trans (congrArg (fun n => Value.agg (cNd n).toArray) hnd)) evn)) Try.call19) (one_m hkv (bnk ns t i) (by have := bnk_le ns t i; have := ht.2.1; omega) (nodeAt ns t i) _ (Heap.part (L := [_, _]) (M := [_, _, _]) hH)) ?_
          rintro _ w16 ⟨y4, rfl, hP⟩
          refine ⟨_, rfl, ?_⟩
          have hx := hH.callChg (L := [_, _]) (M := [_, _, _]) (fun _ h => h) hP
          replace hH : Heap _ _ _ [_, _, _, _, _] := hH.call (L := [_, _]) (M := [_, _, _]) (fun _ h => h) hP (Stays.blk (hP.blk (i := 0) rfl) (Stays.own (hP.own (i := 1) rfl) (Stays.mp (hP.mp (i := 2) rfl) Stays.nil)))
          clear hP
          clear hx
          clear hnd
          rw [bnk_next (by omega : i < t.length)] at hH
          refine lf_val (v := .pointer (some (elemA y1 (i * 1)))) (wantAll rfl) (rv_index rfl (fr_eval rfl rfl) (fr_eval rfl rfl) (rdN (Own.rd (hH.own (i := 0) rfl) (row_one cNu_one)) (idsAt_len ns t pi0)) (show i < t.length from (by omega)) Try.underlying31 Try.sz3 (by decide)) ?_
          refine lf_sk (wantAll rfl) (hx_setC hH (i := 0) (nm := List.length (List.set (idsAt ns t i) i ((oneN (bnk ns t i) (nodeAt ns t i)).2))) (j := i) (xs' := (List.set (idsAt ns t i) i ((oneN (bnk ns t i) (nodeAt ns t i)).2)).flatMap cNu) rfl rfl rfl (List.length_set ..).symm (Nat.lt_of_lt_of_eq (by omega) ((idsAt_len ns t pi0)).symm) (flat_set1 cNu_len rfl (Nat.lt_of_lt_of_eq (by omega) ((idsAt_len ns t pi0)).symm)) (fr_eval rfl rfl) (fr_eval rfl rfl) Try.sz3 rfl) ?_
          clear hH
          rintro w18 ⟨hH, hx⟩
          replace hH : Heap _ _ _ [_, _, _, _, _] := hH
          rw [show List.set (idsAt ns t i) i ((oneN (bnk ns t i) (nodeAt ns t i)).2) = idsAt ns t (i + 1) from idsAt_next (by omega)] at hH
          clear hx
          refine lf_nil ?_
          refine blk_n ?_
          refine then_n ?_
          refine wp_gen (fun F' => F' 0 = .pointer (some ⟨g, 0, none⟩) ∧ F' 1 = tv ∧ F' 4 = .int .i64 0 ∧ F' 5 = .int .i64 0 ∧ F' 6 = y1 ∧ F' 7 = .int .i64 ((i : Nat) : Int) ∧ F' 8 = .pointer (some ⟨g1, 0, none⟩) ∧ F' 15 = .bool false ∧ F' 20 = .bool true ∧ F' 28 = tv ∧ F' 29 = .int .i64 ((t.length : Nat) : Int) ∧ F' 30 = .int .i64 ((i : Nat) : Int) ∧ F' 31 = .bool true ∧ F' 37 = .bool true ∧ F' 46 = .bool true) ⟨e0, e1, e4, e5, e6, e7, e8, e15, e20, e28, e29, e30, e31, e37, e46⟩ ?_
          clear e0 e1 e4 e5 e6 e7 e8 e15 e20 e28 e29 e30 e31 e37 e46
          clear F
          rintro F ⟨e0, e1, e4, e5, e6, e7, e8, e15, e20, e28, e29, e30, e31, e37, e46⟩
          refine wp_regionF ?_
          refine lf_val (v := .int .i64 ((i + 1 : Nat) : Int)) (wantAll rfl) (rv_add rfl (fr_eval rfl e30) rfl (wrap_i64 (by omega) (by omega) (by omega))) ?_
          refine lf_val (v := .int .i64 ((i + 1 : Nat) : Int)) (wantAll rfl) (rv_move rfl (fr_eval rfl rfl)) ?_
          refine lf_nil ?_
          refine then_n ?_
          replace hH : Heap _ _ _ [_, _, _, _] := hH.drop (.cons_cons _ (.cons _ (.cons_cons _ (.cons_cons _ (.cons_cons _ .slnil)))))
          replace hH : Heap _ _ _ [_, _, _, _] := hH.perm (.trans (.swap _ _ _) (.cons _ (.refl _)))
          replace hH : Heap _ _ _ [_, _, _, _] := hH.perm (.cons _ (.trans (.swap _ _ _) (.cons _ (.refl _))))
          replace hH : Heap _ _ _ [_, _, _, _] := hH.perm (.cons _ (.cons _ (.trans (.swap _ _ _) (.cons _ (.refl _)))))
          exact ⟨_, _, (by omega), rfl, i + 1, _, rfl, (by omega), e0, e1, e4, e5, e6, e15, e20, e28, e29, rfl, hH⟩
    · refine wp_cond_false (fr_eval rfl (e31.trans (congrArg Value.bool (decide_eq_false hc1)))) ?_
      refine wp_exit ?_
      refine then_exit ?_
      refine then_exit ?_
      refine blk_exit ?_
      refine then_n ?_
      refine wp_seq ?_
      obtain rfl : i = t.length := by omega
      rw [bnk_end] at hH
      have ht1 := ht.1
      refine wp_regionF ?_
      refine lf_val (v := y1) (wantAll rfl) (rv_move rfl (fr_eval rfl e6)) ?_
      refine lf_val (v := tv) (wantAll rfl) (rv_move rfl (fr_eval rfl e1)) ?_
      refine lf_val (v := .int .i64 ((t.length : Nat) : Int)) (wantAll rfl) (rv_len rfl (fr_eval rfl rfl) (hs.rd _ hH.chg) Try.underlying24) ?_
      refine lf_val (v := .int .i64 ((t.length - 1 : Nat) : Int)) (wantAll rfl) (rv_sub rfl (fr_eval rfl rfl) rfl (wrap_i64 (by omega) (by omega) (by omega))) ?_
      refine lf_val (v := .pointer (some (elemA y1 ((t.length - 1) * 1)))) (wantAll rfl) (rv_index rfl (fr_eval rfl rfl) (fr_eval rfl rfl) (rdN (Own.rd (hH.own (i := 3) rfl) (row_one cNu_one)) (idsAt_len ns t pi0)) (show t.length - 1 < t.length from (by have := ht.1; omega)) Try.underlying31 Try.sz3 (by decide)) ?_
      refine lf_val (v := .int .i64 ((idT ns t : Nat) : Int)) (wantAll rfl) ((by rw [← ids_end ns t]; exact rv_loadCell rfl (fr_eval rfl rfl) (Nat.mul_one _) (Own.rd (hH.own (i := 3) rfl) (row_one cNu_one)) (flat_get1 0 cNu_len (Nat.lt_of_lt_of_eq (show t.length - 1 < t.length from (by have := ht.1; omega)) ((idsAt_len ns t pi0)).symm) rfl) Try.underlying3 rfl Try.sz3)) ?_
      refine lf_val (v := .int .i64 ((idT ns t : Nat) : Int)) (wantAll rfl) (rv_assign rfl (fr_eval rfl rfl)) ?_
      refine lf_val (v := .int .i64 0) (wantAll rfl) (rv_assign rfl rfl) ?_
      refine lf_nil ?_
      refine then_n ?_
      refine wp_gen (fun F' => F' 0 = .pointer (some ⟨g, 0, none⟩) ∧ F' 1 = tv ∧ F' 4 = .int .i64 ((idT ns t : Nat) : Int) ∧ F' 5 = .int .i64 0 ∧ F' 6 = y1 ∧ F' 15 = .bool false ∧ F' 20 = .bool true ∧ F' 28 = tv ∧ F' 29 = .int .i64 ((t.length : Nat) : Int) ∧ F' 30 = .int .i64 ((t.length : Nat) : Int) ∧ F' 31 = .bool false) ⟨e0, e1, rfl, rfl, e6, e15, e20, e28, e29, e30, (e31.trans (congrArg Value.bool (decide_eq_false hc1)))⟩ ?_
      clear e0 e1 e4 e5 e6 e15 e20 e28 e29 e30 e31
      clear F
      rintro F ⟨e0, e1, e4, e5, e6, e15, e20, e28, e29, e30, e31⟩
      refine wp_ret ?_
      have hF := hH
      replace hF : Heap _ _ _ [_, _, _] := hF.drop (.cons_cons _ (.cons_cons _ (.cons_cons _ (.cons _ .slnil))))
      exact bodyPost_ret (v := .tuple #[.int .i64 ((idT ns t : Nat) : Int), .int .i64 0]) (res2 rfl (ro_tmp rfl e4) (ro_tmp rfl e5)) rfl (⟨_, _, rfl, hF⟩)
  · obtain ⟨r, rfl⟩ : ∃ r, mo = some r := Option.ne_none_iff_exists'.1 hf1
    refine wp_regionF ?_
    refine lf_val (v := .pointer (some ⟨g, 0, none⟩)) (wantAll rfl) (rv_move rfl (fr_eval rfl e0)) ?_
    refine lf_val (v := .pointer (some ⟨g, 0, none⟩)) (wantAll rfl) (rv_nilCheck rfl (fr_eval rfl rfl)) ?_
    refine lf_val (v := .pointer (some ⟨g, 1, none⟩)) (wantAll rfl) (rv_fieldAddr (n := 0) rfl (fr_eval rfl rfl) Try.underlying30 rfl rfl (by kernel_rfl)) ?_
    refine lf_val (v := .map (some r)) (wantAll rfl) (rv_load1 rfl (hH.blk (i := 0) rfl) zBa_g3 (fr_eval rfl rfl) Try.underlying28 rfl Try.sz28) ?_
    refine lf_val (v := .bool false) (wantAll rfl) (rv_eqmap (p := (some r)) rfl (fr_eval rfl rfl) rfl Try.underlying28) ?_
    refine lf_nil ?_
    refine then_n ?_
    refine wp_gen (fun F' => F' 0 = .pointer (some ⟨g, 0, none⟩) ∧ F' 1 = tv ∧ F' 4 = .int .i64 0 ∧ F' 5 = .int .i64 0 ∧ F' 15 = .bool false ∧ F' 20 = .bool false) ⟨e0, e1, e4, e5, e15, rfl⟩ ?_
    clear e0 e1 e4 e5 e15
    clear F
    rintro F ⟨e0, e1, e4, e5, e15, e20⟩
    refine wp_cond_false (fr_eval rfl e20) ?_
    refine wp_skip ?_
    refine then_n ?_
    refine wp_seq ?_
    refine wp_regionF ?_
    refine lf_val (v := tv) (wantAll rfl) (rv_move rfl (fr_eval rfl e1)) ?_
    refine lf_val (v := .int .i64 ((t.length : Nat) : Int)) (wantAll rfl) (rv_len rfl (fr_eval rfl rfl) (hs.rd _ hH.chg) Try.underlying24) ?_
    refine lf_ex (wantAll rfl) (hx_make hH Try.stInt (n := t.length) (nm := List.length (List.replicate t.length 0)) (z1 := .int .i64 0) (xs := (List.replicate t.length 0).flatMap cNu) rfl (fr_eval rfl rfl) (fr_eval rfl rfl) (by have := ht.2.1; omega) rfl (zeros_f (f := cNu) (d := 0) (sz := 1) rfl _) (List.length_replicate ..).symm) ?_
    clear hH
    rintro y5 w19 ⟨hH, hx⟩
    replace hH : Heap _ _ _ [_, _, _, _] := hH
    clear hx
    refine lf_val (v := y5) (wantAll rfl) (rv_assign rfl (fr_eval rfl rfl)) ?_
    refine lf_nil ?_
    refine then_n ?_
    refine wp_seq ?_
    refine wp_seq ?_
    refine wp_gen (fun F' => F' 0 = .pointer (some ⟨g, 0, none⟩) ∧ F' 1 = tv ∧ F' 4 = .int .i64 0 ∧ F' 5 = .int .i64 0 ∧ F' 6 = y5 ∧ F' 15 = .bool false ∧ F' 20 = .bool false) ⟨e0, e1, e4, e5, rfl, e15, e20⟩ ?_
    clear e0 e1 e4 e5 e15 e20
    clear F
    rintro F ⟨e0, e1, e4, e5, e6, e15, e20⟩
    refine wp_regionF ?_
    refine lf_val (v := tv) (wantAll rfl) (rv_move rfl (fr_eval rfl e1)) ?_
    refine lf_val (v := .int .i64 ((t.length : Nat) : Int)) (wantAll rfl) (rv_len rfl (fr_eval rfl rfl) (hs.rd _ hH.chg) Try.underlying24) ?_
    refine lf_val (v := .int .i64 0) (wantAll rfl) (rv_move rfl rfl) ?_
    refine lf_nil ?_
    refine then_n ?_
    refine wp_block ?_
    rw [show List.replicate t.length 0 = idsAt ns t 0 from idsAt_0 ns t] at hH
    have hbk := bnk_0 ns t
    refine wp_gen (fun F' => F' 0 = .pointer (some ⟨g, 0, none⟩) ∧ F' 1 = tv ∧ F' 4 = .int .i64 0 ∧ F' 5 = .int .i64 0 ∧ F' 6 = y5 ∧ F' 15 = .bool false ∧ F' 20 = .bool false ∧ F' 28 = tv ∧ F' 29 = .int .i64 ((t.length : Nat) : Int) ∧ F' 30 = .int .i64 0) ⟨e0, e1, e4, e5, e6, e15, e20, rfl, rfl, rfl⟩ ?_
    clear e0 e1 e4 e5 e6 e15 e20
    clear F
    rintro F ⟨e0, e1, e4, e5, e6, e15, e20, e28, e29, e30⟩
    refine wp_loopF (fun m F wr => ∃ i : Nat, ∃ u : Value, m = t.length - i ∧ i ≤ t.length ∧ F 0 = .pointer (some ⟨g, 0, none⟩) ∧ F 1 = tv ∧ F 4 = .int .i64 0 ∧ F 5 = .int .i64 0 ∧ F 6 = y5 ∧ F 15 = .bool false ∧ F 20 = .bool false ∧ F 28 = tv ∧ F 29 = .int .i64 ((t.length : Nat) : Int) ∧ F 30 = .int .i64 ((i : Nat) : Int) ∧ Heap (newK w K) w wr [oBlk g ([u, .map (some r), kv]) 33, oRow cNd 40 3 u (bnk ns t i), oMp (some r) (bnk ns t i), oRow cNu 3 1 y5 (idsAt ns t i)]) ⟨0, _, rfl, Nat.zero_le _, e0, e1, e4, e5, e6, e15, e20, e28, e29, e30, hH⟩ ?_
    clear e0 e1 e4 e5 e6 e15 e20 e28 e29 e30 hH
    clear F
    rintro m F w20 ⟨i, u, rfl, pi0, e0, e1, e4, e5, e6, e15, e20, e28, e29, e30, hH⟩
    refine wp_seq ?_
    refine wp_regionF ?_
    refine lf_val (v := .bool (decide (i < t.length))) (wantAll rfl) (rv_lssP (p := i < t.length) rfl (fr_eval rfl e30) (fr_eval rfl e29) (by omega)) ?_
    refine lf_nil ?_
    refine then_n ?_
    refine wp_seq ?_
    refine wp_gen (fun F' => F' 0 = .pointer (some ⟨g, 0, none⟩) ∧ F' 1 = tv ∧ F' 4 = .int .i64 0 ∧ F' 5 = .int .i64 0 ∧ F' 6 = y5 ∧ F' 15 = .bool false ∧ F' 20 = .bool false ∧ F' 28 = tv ∧ F' 29 = .int .i64 ((t.length : Nat) : Int) ∧ F' 30 = .int .i64 ((i : Nat) : Int) ∧ F' 31 = .bool (decide (i < t.length))) ⟨e0, e1, e4, e5, e6, e15, e20, e28, e29, e30, rfl⟩ ?_
    clear e0 e1 e4 e5 e6 e15 e20 e28 e29 e30
    clear F
    rintro F ⟨e0, e1, e4, e5, e6, e15, e20, e28, e29, e30, e31⟩
    by_cases hc4 : i < t.length
    · refine wp_cond_true (fr_eval rfl (e31.trans (congrArg Value.bool (decide_eq_true hc4)))) ?_
      refine wp_skip ?_
      refine then_n ?_
      refine wp_seq ?_
      refine wp_block ?_
      refine wp_seq ?_
      refine wp_regionF ?_
      refine lf_val (v := .int .i64 ((i : Nat) : Int)) (wantAll rfl) (rv_move rfl (fr_eval rfl e30)) ?_
      refine lf_val (v := .pointer (some (elemA tv (i * 3)))) (wantAll rfl) (rv_index rfl (fr_eval rfl e28) (fr_eval rfl e30) (rdN (hs.rd _ hH.chg) rfl) (show i < t.length from (by omega)) Try.underlying24 Try.sz40 (by decide)) ?_
      refine lf_val (wantAll rfl) (rv_loadElem rfl (fr_eval rfl rfl) (rdN (hs.rd _ hH.chg) rfl) (show i < t.length from (by omega)) (by decide) (flat_part zN cNd_len (show i < t.length from (by omega))) Try.underlying40 rfl Try.sz40) ?_
      refine lf_ex (wantAll rfl) (hx_alloc hH 40 (z := .agg ([.int .i64 0, .int .i64 0, .int .i64 0]).toArray) (n := 3) (cs := [.int .i64 0, .int .i64 0, .int .i64 0]) rfl (by kernel_rfl) (by rfl)) ?_
      clear hH
      rintro _ w21 ⟨g2, rfl, hH, hx⟩
      replace hH : Heap _ _ _ [_, _, _, _, _] := hH
      clear hx
      refine lf_val (v := .int .i64 ((i : Nat) : Int)) (wantAll rfl) (rv_assign rfl (fr_eval rfl rfl)) ?_
      refine lf_sk (wantAll rfl) (hx_storeW hH (i := 4) (cs := [.int .i64 ((List.getD t i zN).k), .int .i64 ((List.getD t i zN).a), .int .i64 ((List.getD t i zN).b)]) rfl rfl rfl (fr_eval rfl rfl) (fr_eval rfl rfl) (sz_len Try.sz40 zBa_l1) ((zBa_l1).trans (zBa_l1).symm) (zBa_o5 rfl rfl rfl)) ?_
      clear hH
      rintro w22 ⟨hH, hx⟩
      replace hH : Heap _ _ _ [_, _, _, _, _] := hH
      clear hx
      refine lf_nil ?_
      refine then_n ?_
      refine wp_seq ?_
      refine wp_seq ?_
      refine wp_gen (fun F' => F' 0 = .pointer (some ⟨g, 0, none⟩) ∧ F' 1 = tv ∧ F' 4 = .int .i64 0 ∧ F' 5 = .int .i64 0 ∧ F' 6 = y5 ∧ F' 7 = .int .i64 ((i : Nat) : Int) ∧ F' 8 = .pointer (some ⟨g2, 0, none⟩) ∧ F' 15 = .bool false ∧ F' 20 = .bool false ∧ F' 28 = tv ∧ F' 29 = .int .i64 ((t.length : Nat) : Int) ∧ F' 30 = .int .i64 ((i : Nat) : Int) ∧ F' 31 = .bool true) ⟨e0, e1, e4, e5, e6, rfl, rfl, e15, e20, e28, e29, e30, (e31.trans (congrArg Value.bool (decide_eq_true hc4)))⟩ ?_
      clear e0 e1 e4 e5 e6 e15 e20 e28 e29 e30 e31
      clear F
      rintro F ⟨e0, e1, e4, e5, e6, e7, e8, e15, e20, e28, e29, e30, e31⟩
      have hok := ht.2.2 i (by omega)
      have hw := way_take hb ht i (by omega)
      refine wp_regionF ?_
      refine lf_val (v := .pointer (some ⟨g2, 0, none⟩)) (wantAll rfl) (rv_fieldAddr (n := 0) rfl (fr_eval rfl e8) Try.underlying40 rfl rfl (by kernel_rfl)) ?_
      refine lf_val (v := .int .i64 ((List.getD t i zN).k)) (wantAll rfl) (rv_load1 rfl (hH.blk (i := 4) rfl) zBa_g4 (fr_eval rfl rfl) Try.underlying3 rfl Try.sz3) ?_
      refine lf_val (v := .bool (decide (¬ (List.getD t i zN).k = 1))) (wantAll rfl) (rv_neqP (p := ¬ (List.getD t i zN).k = 1) rfl (fr_eval rfl rfl) rfl Iff.rfl) ?_
      refine lf_nil ?_
      refine then_n ?_
      refine wp_gen (fun F' => F' 0 = .pointer (some ⟨g, 0, none⟩) ∧ F' 1 = tv ∧ F' 4 = .int .i64 0 ∧ F' 5 = .int .i64 0 ∧ F' 6 = y5 ∧ F' 7 = .int .i64 ((i : Nat) : Int) ∧ F' 8 = .pointer (some ⟨g2, 0, none⟩) ∧ F' 15 = .bool false ∧ F' 20 = .bool false ∧ F' 28 = tv ∧ F' 29 = .int .i64 ((t.length : Nat) : Int) ∧ F' 30 = .int .i64 ((i : Nat) : Int) ∧ F' 31 = .bool true ∧ F' 37 = .bool (decide (¬ (List.getD t i zN).k = 1))) ⟨e0, e1, e4, e5, e6, e7, e8, e15, e20, e28, e29, e30, e31, rfl⟩ ?_
      clear e0 e1 e4 e5 e6 e7 e8 e15 e20 e28 e29 e30 e31
      clear F
      rintro F ⟨e0, e1, e4, e5, e6, e7, e8, e15, e20, e28, e29, e30, e31, e37⟩
      by_cases hc5 : (List.getD t i zN).k = 1
      · refine wp_cond_false (fr_eval rfl (e37.trans (congrArg Value.bool (decide_eq_false (not_not_intro hc5))))) ?_
        refine wp_skip ?_
        refine then_n ?_
        refine wp_regionF ?_
        refine lf_val (v := y5) (wantAll rfl) (rv_move rfl (fr_eval rfl e6)) ?_
        refine lf_val (v := .int .i64 ((i : Nat) : Int)) (wantAll rfl) (rv_move rfl (fr_eval rfl e7)) ?_
        refine lf_val (v := .pointer (some ⟨g, 0, none⟩)) (wantAll rfl) (rv_move rfl (fr_eval rfl e0)) ?_
        refine lf_val (wantAll rfl) (rv_loadW rfl (hH.blk (i := 4) rfl) (fr_eval rfl e8) Try.underlying40 rfl (sz_len Try.sz40 zBa_l1)) ?_
        have hnd : (List.getD t i zN) = nodeAt ns t i := (by
          unfold nodeAt subN
          first | rw [if_pos (by omega)] | rw [if_neg (by omega), if_pos (by omega), idsAt_get (by omega) (by unfold okN at hok; omega)] | rw [if_neg (by omega), if_neg (by omega), idsAt_get (by omega) (by unfold okN at hok; omega), idsAt_get (by omega) (by unfold okN at hok; omega)])
        replace hH : Heap _ _ _ [_, _, _, _, _] := hH.perm (.trans (.swap _ _ _) (.cons _ (.trans (.swap _ _ _) (.cons _ (.trans (.swap _ _ _) (.cons _ (.refl _)))))))
        replace hH : Heap _ _ _ [_, _, _, _, _] := hH.perm (.cons _ (.trans (.swap _ _ _) (.cons _ (.trans (.swap _ _ _) (.cons _ (.trans (.swap _ _ _) (.cons _ (.refl _))))))))
        refine lf_call (wantAll rfl) (rv_call (args := [.pointer (some ⟨g, 0, none⟩), .agg (cNd (nodeAt ns t i)).toArray]) rfl (evc (fr_eval rfl rfl) (evc ((show _ = Value.agg (cNd (List.getD t i zN)).toArray from (fr_eval rfl rfl)).trans (congrArg (fun n => Value.agg (cNd n).toArray) hnd)) evn)) Try.call19) (one_m hkv (bnk ns t i) (by have := bnk_le ns t i; have := ht.2.1; omega) (nodeAt ns t i) _ (Heap.part (L := [_, _]) (M := [_, _, _]) hH)) ?_
        rintro _ w23 ⟨y6, rfl, hP⟩
        refine ⟨_, rfl, ?_⟩
        have hx := hH.callChg (L := [_, _]) (M := [_, _, _]) (fun _ h => h) hP
        replace hH : Heap _ _ _ [_, _, _, _, _] := hH.call (L := [_, _]) (M := [_, _, _]) (fun _ h => h) hP (Stays.blk (hP.blk (i := 0) rfl) (Stays.own (hP.own (i := 1) rfl) (Stays.mp (hP.mp (i := 2) rfl) Stays.nil)))
        clear hP
        clear hx
        clear hnd
        rw [bnk_next (by omega : i < t.length)] at hH
        refine lf_val (v := .pointer (some (elemA y5 (i * 1)))) (wantAll rfl) (rv_index rfl (fr_eval rfl rfl) (fr_eval rfl rfl) (rdN (Own.rd (hH.own (i := 0) rfl) (row_one cNu_one)) (idsAt_len ns t pi0)) (show i < t.length from (by omega)) Try.underlying31 Try.sz3 (by decide)) ?_
        refine lf_sk (wantAll rfl) (hx_setC hH (i := 0) (nm := List.length (List.set (idsAt ns t i) i ((oneN (bnk ns t i) (nodeAt ns t i)).2))) (j := i) (xs' := (List.set (idsAt ns t i) i ((oneN (bnk ns t i) (nodeAt ns t i)).2)).flatMap cNu) rfl rfl rfl (List.length_set ..).symm (Nat.lt_of_lt_of_eq (by omega) ((idsAt_len ns t pi0)).symm) (flat_set1 cNu_len rfl (Nat.lt_of_lt_of_eq (by omega) ((idsAt_len ns t pi0)).symm)) (fr_eval rfl rfl) (fr_eval rfl rfl) Try.sz3 rfl) ?_
        clear hH
        rintro w25 ⟨hH, hx⟩
        replace hH : Heap _ _ _ [_, _, _, _, _] := hH
        rw [show List.set (idsAt ns t i) i ((oneN (bnk ns t i) (nodeAt ns t i)).2) = idsAt ns t (i + 1) from idsAt_next (by omega)] at hH
        clear hx
        refine lf_nil ?_
        refine blk_n ?_
        refine then_n ?_
        refine wp_gen (fun F' => F' 0 = .pointer (some ⟨g, 0, none⟩) ∧ F' 1 = tv ∧ F' 4 = .int .i64 0 ∧ F' 5 = .int .i64 0 ∧ F' 6 = y5 ∧ F' 7 = .int .i64 ((i : Nat) : Int) ∧ F' 8 = .pointer (some ⟨g2, 0, none⟩) ∧ F' 15 = .bool false ∧ F' 20 = .bool false ∧ F' 28 = tv ∧ F' 29 = .int .i64 ((t.length : Nat) : Int) ∧ F' 30 = .int .i64 ((i : Nat) : Int) ∧ F' 31 = .bool true ∧ F' 37 = .bool false) ⟨e0, e1, e4, e5, e6, e7, e8, e15, e20, e28, e29, e30, e31, (e37.trans (congrArg Value.bool (decide_eq_false (not_not_intro hc5))))⟩ ?_
        clear e0 e1 e4 e5 e6 e7 e8 e15 e20 e28 e29 e30 e31 e37
        clear F
        rintro F ⟨e0, e1, e4, e5, e6, e7, e8, e15, e20, e28, e29, e30, e31, e37⟩
        refine wp_regionF ?_
        refine lf_val (v := .int .i64 ((i + 1 : Nat) : Int)) (wantAll rfl) (rv_add rfl (fr_eval rfl e30) rfl (wrap_i64 (by omega) (by omega) (by omega))) ?_
        refine lf_val (v := .int .i64 ((i + 1 : Nat) : Int)) (wantAll rfl) (rv_move rfl (fr_eval rfl rfl)) ?_
        refine lf_nil ?_
        refine then_n ?_
        replace hH : Heap _ _ _ [_, _, _, _] := hH.drop (.cons_cons _ (.cons _ (.cons_cons _ (.cons_cons _ (.cons_cons _ .slnil)))))
        replace hH : Heap _ _ _ [_, _, _, _] := hH.perm (.trans (.swap _ _ _) (.cons _ (.refl _)))
        replace hH : Heap _ _ _ [_, _, _, _] := hH.perm (.cons _ (.trans (.swap _ _ _) (.cons _ (.refl _))))
        replace hH : Heap _ _ _ [_, _, _, _] := hH.perm (.cons _ (.cons _ (.trans (.swap _ _ _) (.cons _ (.refl _)))))
        exact ⟨_, _, (by omega), rfl, i + 1, _, rfl, (by omega), e0, e1, e4, e5, e6, e15, e20, e28, e29, rfl, hH⟩
      · refine wp_cond_true (fr_eval rfl (e37.trans (congrArg Value.bool (decide_eq_true hc5)))) ?_
        refine wp_seq ?_
        refine wp_regionF ?_
        refine lf_val (v := y5) (wantAll rfl) (rv_move rfl (fr_eval rfl e6)) ?_
        refine lf_val (v := .pointer (some ⟨g2, 1, none⟩)) (wantAll rfl) (rv_fieldAddr (n := 0) rfl (fr_eval rfl e8) Try.underlying40 rfl rfl (by kernel_rfl)) ?_
        refine lf_val (v := .int .i64 ((List.getD t i zN).a)) (wantAll rfl) (rv_load1 rfl (hH.blk (i := 4) rfl) zBa_g3 (fr_eval rfl rfl) Try.underlying3 rfl Try.sz3) ?_
        refine lf_val (v := .pointer (some (elemA y5 ((((List.getD t i zN).a).toNat) * 1)))) (wantAll rfl) (rv_index rfl (fr_eval rfl rfl) (((fr_eval rfl rfl)).trans (congrArg (Value.int .i64) (Int.toNat_of_nonneg (by unfold okN at hok; omega)).symm)) (rdN (Own.rd (hH.own (i := 3) rfl) (row_one cNu_one)) (idsAt_len ns t pi0)) (show ((List.getD t i zN).a).toNat < t.length from (by unfold okN at hok; omega)) Try.underlying31 Try.sz3 (by decide)) ?_
        refine lf_val (wantAll rfl) (rv_loadCell rfl (fr_eval rfl rfl) (Nat.mul_one _) (Own.rd (hH.own (i := 3) rfl) (row_one cNu_one)) (flat_get1 0 cNu_len (Nat.lt_of_lt_of_eq (show ((List.getD t i zN).a).toNat < t.length from (by unfold okN at hok; omega)) ((idsAt_len ns t pi0)).symm) rfl) Try.underlying3 rfl Try.sz3) ?_
        refine lf_val (v := .pointer (some ⟨g2, 1, none⟩)) (wantAll rfl) (rv_fieldAddr (n := 0) rfl (fr_eval rfl e8) Try.underlying40 rfl rfl (by kernel_rfl)) ?_
        refine lf_sk (wantAll rfl) (hx_storeC hH (i := 4) (j := 1) (v := .int .i64 (((List.getD (idsAt ns t i) (((List.getD t i zN).a).toNat) 0) : Nat) : Int)) rfl rfl rfl (show 1 < 3 by decide) rfl (fr_eval rfl rfl) (fr_eval rfl rfl) Try.sz3 rfl) ?_
        clear hH
        rintro w26 ⟨hH, hx⟩
        replace hH : Heap _ _ _ [_, _, _, _, _] := hH
        clear hx
        refine lf_nil ?_
        refine then_n ?_
        refine wp_seq ?_
        refine wp_gen (fun F' => F' 0 = .pointer (some ⟨g, 0, none⟩) ∧ F' 1 = tv ∧ F' 4 = .int .i64 0 ∧ F' 5 = .int .i64 0 ∧ F' 6 = y5 ∧ F' 7 = .int .i64 ((i : Nat) : Int) ∧ F' 8 = .pointer (some ⟨g2, 0, none⟩) ∧ F' 15 = .bool false ∧ F' 20 = .bool false ∧ F' 28 = tv ∧ F' 29 = .int .i64 ((t.length : Nat) : Int) ∧ F' 30 = .int .i64 ((i : Nat) : Int) ∧ F' 31 = .bool true ∧ F' 37 = .bool true) ⟨e0, e1, e4, e5, e6, e7, e8, e15, e20, e28, e29, e30, e31, (e37.trans (congrArg Value.bool (decide_eq_true hc5)))⟩ ?_
        clear e0 e1 e4 e5 e6 e7 e8 e15 e20 e28 e29 e30 e31 e37
        clear F
        rintro F ⟨e0, e1, e4, e5, e6, e7, e8, e15, e20, e28, e29, e30, e31, e37⟩
        refine wp_regionF ?_
        refine lf_val (v := .pointer (some ⟨g2, 0, none⟩)) (wantAll rfl) (rv_fieldAddr (n := 0) rfl (fr_eval rfl e8) Try.underlying40 rfl rfl (by kernel_rfl)) ?_
        refine lf_val (v := .int .i64 ((List.getD t i zN).k)) (wantAll rfl) (rv_load1 rfl (hH.blk (i := 4) rfl) zBa_g4 (fr_eval rfl rfl) Try.underlying3 rfl Try.sz3) ?_
        refine lf_val (v := .bool (decide (¬ (List.getD t i zN).k = 3))) (wantAll rfl) (rv_neqP (p := ¬ (List.getD t i zN).k = 3) rfl (fr_eval rfl rfl) rfl Iff.rfl) ?_
        refine lf_nil ?_
        refine then_n ?_
        refine wp_gen (fun F' => F' 0 = .pointer (some ⟨g, 0, none⟩) ∧ F' 1 = tv ∧ F' 4 = .int .i64 0 ∧ F' 5 = .int .i64 0 ∧ F' 6 = y5 ∧ F' 7 = .int .i64 ((i : Nat) : Int) ∧ F' 8 = .pointer (some ⟨g2, 0, none⟩) ∧ F' 15 = .bool false ∧ F' 20 = .bool false ∧ F' 28 = tv ∧ F' 29 = .int .i64 ((t.length : Nat) : Int) ∧ F' 30 = .int .i64 ((i : Nat) : Int) ∧ F' 31 = .bool true ∧ F' 37 = .bool true ∧ F' 46 = .bool (decide (¬ (List.getD t i zN).k = 3))) ⟨e0, e1, e4, e5, e6, e7, e8, e15, e20, e28, e29, e30, e31, e37, rfl⟩ ?_
        clear e0 e1 e4 e5 e6 e7 e8 e15 e20 e28 e29 e30 e31 e37
        clear F
        rintro F ⟨e0, e1, e4, e5, e6, e7, e8, e15, e20, e28, e29, e30, e31, e37, e46⟩
        by_cases hc6 : (List.getD t i zN).k = 3
        · refine wp_cond_false (fr_eval rfl (e46.trans (congrArg Value.bool (decide_eq_false (not_not_intro hc6))))) ?_
          refine wp_skip ?_
          refine then_n ?_
          refine wp_regionF ?_
          refine lf_val (v := y5) (wantAll rfl) (rv_move rfl (fr_eval rfl e6)) ?_
          refine lf_val (v := .int .i64 ((i : Nat) : Int)) (wantAll rfl) (rv_move rfl (fr_eval rfl e7)) ?_
          refine lf_val (v := .pointer (some ⟨g, 0, none⟩)) (wantAll rfl) (rv_move rfl (fr_eval rfl e0)) ?_
          refine lf_val (wantAll rfl) (rv_loadW rfl (hH.blk (i := 4) rfl) (fr_eval rfl e8) Try.underlying40 rfl (sz_len Try.sz40 zBa_l1)) ?_
          have hnd : (⟨(List.getD t i zN).k, (((List.getD (idsAt ns t i) (((List.getD t i zN).a).toNat) 0) : Nat) : Int), (List.getD t i zN).b⟩ : Nd) = nodeAt ns t i := (by
            unfold nodeAt subN
            first | rw [if_pos (by omega)] | rw [if_neg (by omega), if_pos (by omega), idsAt_get (by omega) (by unfold okN at hok; omega)] | rw [if_neg (by omega), if_neg (by omega), idsAt_get (by omega) (by unfold okN at hok; omega), idsAt_get (by omega) (by unfold okN at hok; omega)])
          replace hH : Heap _ _ _ [_, _, _, _, _] := hH.perm (.trans (.swap _ _ _) (.cons _ (.trans (.swap _ _ _) (.cons _ (.trans (.swap _ _ _) (.cons _ (.refl _)))))))
          replace hH : Heap _ _ _ [_, _, _, _, _] := hH.perm (.cons _ (.trans (.swap _ _ _) (.cons _ (.trans (.swap _ _ _) (.cons _ (.trans (.swap _ _ _) (.cons _ (.refl _))))))))
          refine lf_call (wantAll rfl) (rv_call (args := [.pointer (some ⟨g, 0, none⟩), .agg (cNd (nodeAt ns t i)).toArray]) rfl (evc (fr_eval rfl rfl) (evc ((show _ = Value.agg (cNd (⟨(List.getD t i zN).k, (((List.getD (idsAt ns t i) (((List.getD t i zN).a).toNat) 0) : Nat) : Int), (List.getD t i zN).b⟩ : Nd)).toArray from (fr_eval rfl rfl)).trans (congrArg (fun n => Value.agg (cNd n).toArray) hnd)) evn)) Try.call19) (one_m hkv (bnk ns t i) (by have := bnk_le ns t i; have := ht.2.1; omega) (nodeAt ns t i) _ (Heap.part (L := [_, _]) (M := [_, _, _]) hH)) ?_
          rintro _ w27 ⟨y7, rfl, hP⟩
          refine ⟨_, rfl, ?_⟩
          have hx := hH.callChg (L := [_, _]) (M := [_, _, _]) (fun _ h => h) hP
          replace hH : Heap _ _ _ [_, _, _, _, _] := hH.call (L := [_, _]) (M := [_, _, _]) (fun _ h => h) hP (Stays.blk (hP.blk (i := 0) rfl) (Stays.own (hP.own (i := 1) rfl) (Stays.mp (hP.mp (i := 2) rfl) Stays.nil)))
          clear hP
          clear hx
          clear hnd
          rw [bnk_next (by omega : i < t.length)] at hH
          refine lf_val (v := .pointer (some (elemA y5 (i * 1)))) (wantAll rfl) (rv_index rfl (fr_eval rfl rfl) (fr_eval rfl rfl) (rdN (Own.rd (hH.own (i := 0) rfl) (row_one cNu_one)) (idsAt_len ns t pi0)) (show i < t.length from (by omega)) Try.underlying31 Try.sz3 (by decide)) ?_
          refine lf_sk (wantAll rfl) (hx_setC hH (i := 0) (nm := List.length (List.set (idsAt ns t i) i ((oneN (bnk ns t i) (nodeAt ns t i)).2))) (j := i) (xs' := (List.set (idsAt ns t i) i ((oneN (bnk ns t i) (nodeAt ns t i)).2)).flatMap cNu) rfl rfl rfl (List.length_set ..).symm (Nat.lt_of_lt_of_eq (by omega) ((idsAt_len ns t pi0)).symm) (flat_set1 cNu_len rfl (Nat.lt_of_lt_of_eq (by omega) ((idsAt_len ns t pi0)).symm)) (fr_eval rfl rfl) (fr_eval rfl rfl) Try.sz3 rfl) ?_
          clear hH
          rintro w29 ⟨hH, hx⟩
          replace hH : Heap _ _ _ [_, _, _, _, _] := hH
          rw [show List.set (idsAt ns t i) i ((oneN (bnk ns t i) (nodeAt ns t i)).2) = idsAt ns t (i + 1) from idsAt_next (by omega)] at hH
          clear hx
          refine lf_nil ?_
          refine blk_n ?_
          refine then_n ?_
          refine wp_gen (fun F' => F' 0 = .pointer (some ⟨g, 0, none⟩) ∧ F' 1 = tv ∧ F' 4 = .int .i64 0 ∧ F' 5 = .int .i64 0 ∧ F' 6 = y5 ∧ F' 7 = .int .i64 ((i : Nat) : Int) ∧ F' 8 = .pointer (some ⟨g2, 0, none⟩) ∧ F' 15 = .bool false ∧ F' 20 = .bool false ∧ F' 28 = tv ∧ F' 29 = .int .i64 ((t.length : Nat) : Int) ∧ F' 30 = .int .i64 ((i : Nat) : Int) ∧ F' 31 = .bool true ∧ F' 37 = .bool true ∧ F' 46 = .bool false) ⟨e0, e1, e4, e5, e6, e7, e8, e15, e20, e28, e29, e30, e31, e37, (e46.trans (congrArg Value.bool (decide_eq_false (not_not_intro hc6))))⟩ ?_
          clear e0 e1 e4 e5 e6 e7 e8 e15 e20 e28 e29 e30 e31 e37 e46
          clear F
          rintro F ⟨e0, e1, e4, e5, e6, e7, e8, e15, e20, e28, e29, e30, e31, e37, e46⟩
          refine wp_regionF ?_
          refine lf_val (v := .int .i64 ((i + 1 : Nat) : Int)) (wantAll rfl) (rv_add rfl (fr_eval rfl e30) rfl (wrap_i64 (by omega) (by omega) (by omega))) ?_
          refine lf_val (v := .int .i64 ((i + 1 : Nat) : Int)) (wantAll rfl) (rv_move rfl (fr_eval rfl rfl)) ?_
          refine lf_nil ?_
          refine then_n ?_
          replace hH : Heap _ _ _ [_, _, _, _] := hH.drop (.cons_cons _ (.cons _ (.cons_cons _ (.cons_cons _ (.cons_cons _ .slnil)))))
          replace hH : Heap _ _ _ [_, _, _, _] := hH.perm (.trans (.swap _ _ _) (.cons _ (.refl _)))
          replace hH : Heap _ _ _ [_, _, _, _] := hH.perm (.cons _ (.trans (.swap _ _ _) (.cons _ (.refl _))))
          replace hH : Heap _ _ _ [_, _, _, _] := hH.perm (.cons _ (.cons _ (.trans (.swap _ _ _) (.cons _ (.refl _)))))
          exact ⟨_, _, (by omega), rfl, i + 1, _, rfl, (by omega), e0, e1, e4, e5, e6, e15, e20, e28, e29, rfl, hH⟩
        · refine wp_cond_true (fr_eval rfl (e46.trans (congrArg Value.bool (decide_eq_true hc6)))) ?_
          refine wp_regionF ?_
          refine lf_val (v := y5) (wantAll rfl) (rv_move rfl (fr_eval rfl e6)) ?_
          refine lf_val (v := .pointer (some ⟨g2, 2, none⟩)) (wantAll rfl) (rv_fieldAddr (n := 0) rfl (fr_eval rfl e8) Try.underlying40 rfl rfl (by kernel_rfl)) ?_
          refine lf_val (v := .int .i64 ((List.getD t i zN).b)) (wantAll rfl) (rv_load1 rfl (hH.blk (i := 4) rfl) zBa_g6 (fr_eval rfl rfl) Try.underlying3 rfl Try.sz3) ?_
          refine lf_val (v := .pointer (some (elemA y5 ((((List.getD t i zN).b).toNat) * 1)))) (wantAll rfl) (rv_index rfl (fr_eval rfl rfl) (((fr_eval rfl rfl)).trans (congrArg (Value.int .i64) (Int.toNat_of_nonneg (by unfold okN at hok; omega)).symm)) (rdN (Own.rd (hH.own (i := 3) rfl) (row_one cNu_one)) (idsAt_len ns t pi0)) (show ((List.getD t i zN).b).toNat < t.length from (by unfold okN at hok; omega)) Try.underlying31 Try.sz3 (by decide)) ?_
          refine lf_val (wantAll rfl) (rv_loadCell rfl (fr_eval rfl rfl) (Nat.mul_one _) (Own.rd (hH.own (i := 3) rfl) (row_one cNu_one)) (flat_get1 0 cNu_len (Nat.lt_of_lt_of_eq (show ((List.getD t i zN).b).toNat < t.length from (by unfold okN at hok; omega)) ((idsAt_len ns t pi0)).symm) rfl) Try.underlying3 rfl Try.sz3) ?_
          refine lf_val (v := .pointer (some ⟨g2, 2, none⟩)) (wantAll rfl) (rv_fieldAddr (n := 0) rfl (fr_eval rfl e8) Try.underlying40 rfl rfl (by kernel_rfl)) ?_
          refine lf_sk (wantAll rfl) (hx_storeC hH (i := 4) (j := 2) (v := .int .i64 (((List.getD (idsAt ns t i) (((List.getD t i zN).b).toNat) 0) : Nat) : Int)) rfl rfl rfl (show 2 < 3 by decide) rfl (fr_eval rfl rfl) (fr_eval rfl rfl) Try.sz3 rfl) ?_
          clear hH
          rintro w30 ⟨hH, hx⟩
          replace hH : Heap _ _ _ [_, _, _, _, _] := hH
          clear hx
          refine lf_nil ?_
          refine then_n ?_
          refine wp_gen (fun F' => F' 0 = .pointer (some ⟨g, 0, none⟩) ∧ F' 1 = tv ∧ F' 4 = .int .i64 0 ∧ F' 5 = .int .i64 0 ∧ F' 6 = y5 ∧ F' 7 = .int .i64 ((i : Nat) : Int) ∧ F' 8 = .pointer (some ⟨g2, 0, none⟩) ∧ F' 15 = .bool false ∧ F' 20 = .bool false ∧ F' 28 = tv ∧ F' 29 = .int .i64 ((t.length : Nat) : Int) ∧ F' 30 = .int .i64 ((i : Nat) : Int) ∧ F' 31 = .bool true ∧ F' 37 = .bool true ∧ F' 46 = .bool true) ⟨e0, e1, e4, e5, e6, e7, e8, e15, e20, e28, e29, e30, e31, e37, (e46.trans (congrArg Value.bool (decide_eq_true hc6)))⟩ ?_
          clear e0 e1 e4 e5 e6 e7 e8 e15 e20 e28 e29 e30 e31 e37 e46
          clear F
          rintro F ⟨e0, e1, e4, e5, e6, e7, e8, e15, e20, e28, e29, e30, e31, e37, e46⟩
          refine wp_regionF ?_
          refine lf_val (v := y5) (wantAll rfl) (rv_move rfl (fr_eval rfl e6)) ?_
          refine lf_val (v := .int .i64 ((i : Nat) : Int)) (wantAll rfl) (rv_move rfl (fr_eval rfl e7)) ?_
          refine lf_val (v := .pointer (some ⟨g, 0, none⟩)) (wantAll rfl) (rv_move rfl (fr_eval rfl e0)) ?_
          refine lf_val (wantAll rfl) (rv_loadW rfl (hH.blk (i := 4) rfl) (fr_eval rfl e8) Try.underlying40 rfl (sz_len Try.sz40 zBa_l1)) ?_
          have hnd : (⟨(List.getD t i zN).k, (((List.getD (idsAt ns t i) (((List.getD t i zN).a).toNat) 0) : Nat) : Int), (((List.getD (idsAt ns t i) (((List.getD t i zN).b).toNat) 0) : Nat) : Int)⟩ : Nd) = nodeAt ns t i := (by
            unfold nodeAt subN
            first | rw [if_pos (by omega)] | rw [if_neg (by omega), if_pos (by omega), idsAt_get (by omega) (by unfold okN at hok; omega)] | rw [if_neg (by omega), if_neg (by omega), idsAt_get (by omega) (by unfold okN at hok; omega), idsAt_get (by omega) (by unfold okN at hok; omega)])
          replace hH : Heap _ _ _ [_, _, _, _, _] := hH.perm (.trans (.swap _ _ _) (.cons _ (.trans (.swap _ _ _) (.cons _ (.trans (.swap _ _ _) (.cons _ (.refl _)))))))
          replace hH : Heap _ _ _ [_, _, _, _, _] := hH.perm (.cons _ (.trans (.swap _ _ _) (.cons _ (.trans (.swap _ _ _) (.cons _ (.trans (.swap _ _ _) (.cons _ (.refl _))))))))
          refine lf_call (wantAll rfl) (rv_call (args := [.pointer (some ⟨g, 0, none⟩), .agg (cNd (nodeAt ns t i)).toArray]) rfl (evc (fr_eval rfl rfl) (evc ((show _ = Value.agg (cNd (⟨(List.getD t i zN).k, (((List.getD (idsAt ns t i) (((List.getD t i zN).a).toNat) 0) : Nat) : Int), (((List.getD (idsAt ns t i) (((List.getD t i zN).b).toNat) 0) : Nat) : Int)⟩ : Nd)).toArray from (fr_eval rfl rfl)).trans (congrArg (fun n => Value.agg (cNd n).toArray) hnd)) evn)) Try.call19) (one_m hkv (bnk ns t i) (by have := bnk_le ns t i; have := ht.2.1; omega) (nodeAt ns t i) _ (Heap.part (L := [_, _]) (M := [_, _, _]) hH)) ?_
          rintro _ w31 ⟨y8, rfl, hP⟩
          refine ⟨_, rfl, ?_⟩
          have hx := hH.callChg (L := [_, _]) (M := [_, _, _]) (fun _ h => h) hP
          replace hH : Heap _ _ _ [_, _, _, _, _] := hH.call (L := [_, _]) (M := [_, _, _]) (fun _ h => h) hP (Stays.blk (hP.blk (i := 0) rfl) (Stays.own (hP.own (i := 1) rfl) (Stays.mp (hP.mp (i := 2) rfl) Stays.nil)))
          clear hP
          clear hx
          clear hnd
          rw [bnk_next (by omega : i < t.length)] at hH
          refine lf_val (v := .pointer (some (elemA y5 (i * 1)))) (wantAll rfl) (rv_index rfl (fr_eval rfl rfl) (fr_eval rfl rfl) (rdN (Own.rd (hH.own (i := 0) rfl) (row_one cNu_one)) (idsAt_len ns t pi0)) (show i < t.length from (by omega)) Try.underlying31 Try.sz3 (by decide)) ?_
          refine lf_sk (wantAll rfl) (hx_setC hH (i := 0) (nm := List.length (List.set (idsAt ns t i) i ((oneN (bnk ns t i) (nodeAt ns t i)).2))) (j := i) (xs' := (List.set (idsAt ns t i) i ((oneN (bnk ns t i) (nodeAt ns t i)).2)).flatMap cNu) rfl rfl rfl (List.length_set ..).symm (Nat.lt_of_lt_of_eq (by omega) ((idsAt_len ns t pi0)).symm) (flat_set1 cNu_len rfl (Nat.lt_of_lt_of_eq (by omega) ((idsAt_len ns t pi0)).symm)) (fr_eval rfl rfl) (fr_eval rfl rfl) Try.sz3 rfl) ?_
          clear hH
          rintro w33 ⟨hH, hx⟩
          replace hH : Heap _ _ _ [_, _, _, _, _] := hH
          rw [show List.set (idsAt ns t i) i ((oneN (bnk ns t i) (nodeAt ns t i)).2) = idsAt ns t (i + 1) from idsAt_next (by omega)] at hH
          clear hx
          refine lf_nil ?_
          refine blk_n ?_
          refine then_n ?_
          refine wp_gen (fun F' => F' 0 = .pointer (some ⟨g, 0, none⟩) ∧ F' 1 = tv ∧ F' 4 = .int .i64 0 ∧ F' 5 = .int .i64 0 ∧ F' 6 = y5 ∧ F' 7 = .int .i64 ((i : Nat) : Int) ∧ F' 8 = .pointer (some ⟨g2, 0, none⟩) ∧ F' 15 = .bool false ∧ F' 20 = .bool false ∧ F' 28 = tv ∧ F' 29 = .int .i64 ((t.length : Nat) : Int) ∧ F' 30 = .int .i64 ((i : Nat) : Int) ∧ F' 31 = .bool true ∧ F' 37 = .bool true ∧ F' 46 = .bool true) ⟨e0, e1, e4, e5, e6, e7, e8, e15, e20, e28, e29, e30, e31, e37, e46⟩ ?_
          clear e0 e1 e4 e5 e6 e7 e8 e15 e20 e28 e29 e30 e31 e37 e46
          clear F
          rintro F ⟨e0, e1, e4, e5, e6, e7, e8, e15, e20, e28, e29, e30, e31, e37, e46⟩
          refine wp_regionF ?_
          refine lf_val (v := .int .i64 ((i + 1 : Nat) : Int)) (wantAll rfl) (rv_add rfl (fr_eval rfl e30) rfl (wrap_i64 (by omega) (by omega) (by omega))) ?_
          refine lf_val (v := .int .i64 ((i + 1 : Nat) : Int)) (wantAll rfl) (rv_move rfl (fr_eval rfl rfl)) ?_
          refine lf_nil ?_
          refine then_n ?_
          replace hH : Heap _ _ _ [_, _, _, _] := hH.drop (.cons_cons _ (.cons _ (.cons_cons _ (.cons_cons _ (.cons_cons _ .slnil)))))
          replace hH : Heap _ _ _ [_, _, _, _] := hH.perm (.trans (.swap _ _ _) (.cons _ (.refl _)))
          replace hH : Heap _ _ _ [_, _, _, _] := hH.perm (.cons _ (.trans (.swap _ _ _) (.cons _ (.refl _))))
          replace hH : Heap _ _ _ [_, _, _, _] := hH.perm (.cons _ (.cons _ (.trans (.swap _ _ _) (.cons _ (.refl _)))))
          exact ⟨_, _, (by omega), rfl, i + 1, _, rfl, (by omega), e0, e1, e4, e5, e6, e15, e20, e28, e29, rfl, hH⟩
    · refine wp_cond_false (fr_eval rfl (e31.trans (congrArg Value.bool (decide_eq_false hc4)))) ?_
      refine wp_exit ?_
      refine then_exit ?_
      refine then_exit ?_
      refine blk_exit ?_
      refine then_n ?_
      refine wp_seq ?_
      obtain rfl : i = t.length := by omega
      rw [bnk_end] at hH
      have ht1 := ht.1
      refine wp_regionF ?_
      refine lf_val (v := y5) (wantAll rfl) (rv_move rfl (fr_eval rfl e6)) ?_
      refine lf_val (v := tv) (wantAll rfl) (rv_move rfl (fr_eval rfl e1)) ?_
      refine lf_val (v := .int .i64 ((t.length : Nat) : Int)) (wantAll rfl) (rv_len rfl (fr_eval rfl rfl) (hs.rd _ hH.chg) Try.underlying24) ?_
      refine lf_val (v := .int .i64 ((t.length - 1 : Nat) : Int)) (wantAll rfl) (rv_sub rfl (fr_eval rfl rfl) rfl (wrap_i64 (by omega) (by omega) (by omega))) ?_
      refine lf_val (v := .pointer (some (elemA y5 ((t.length - 1) * 1)))) (wantAll rfl) (rv_index rfl (fr_eval rfl rfl) (fr_eval rfl rfl) (rdN (Own.rd (hH.own (i := 3) rfl) (row_one cNu_one)) (idsAt_len ns t pi0)) (show t.length - 1 < t.length from (by have := ht.1; omega)) Try.underlying31 Try.sz3 (by decide)) ?_
      refine lf_val (v := .int .i64 ((idT ns t : Nat) : Int)) (wantAll rfl) ((by rw [← ids_end ns t]; exact rv_loadCell rfl (fr_eval rfl rfl) (Nat.mul_one _) (Own.rd (hH.own (i := 3) rfl) (row_one cNu_one)) (flat_get1 0 cNu_len (Nat.lt_of_lt_of_eq (show t.length - 1 < t.length from (by have := ht.1; omega)) ((idsAt_len ns t pi0)).symm) rfl) Try.underlying3 rfl Try.sz3)) ?_
      refine lf_val (v := .int .i64 ((idT ns t : Nat) : Int)) (wantAll rfl) (rv_assign rfl (fr_eval rfl rfl)) ?_
      refine lf_val (v := .int .i64 0) (wantAll rfl) (rv_assign rfl rfl) ?_
      refine lf_nil ?_
      refine then_n ?_
      refine wp_gen (fun F' => F' 0 = .pointer (some ⟨g, 0, none⟩) ∧ F' 1 = tv ∧ F' 4 = .int .i64 ((idT ns t : Nat) : Int) ∧ F' 5 = .int .i64 0 ∧ F' 6 = y5 ∧ F' 15 = .bool false ∧ F' 20 = .bool false ∧ F' 28 = tv ∧ F' 29 = .int .i64 ((t.length : Nat) : Int) ∧ F' 30 = .int .i64 ((t.length : Nat) : Int) ∧ F' 31 = .bool false) ⟨e0, e1, rfl, rfl, e6, e15, e20, e28, e29, e30, (e31.trans (congrArg Value.bool (decide_eq_false hc4)))⟩ ?_
      clear e0 e1 e4 e5 e6 e15 e20 e28 e29 e30 e31
      clear F
      rintro F ⟨e0, e1, e4, e5, e6, e15, e20, e28, e29, e30, e31⟩
      refine wp_ret ?_
      have hF := hH
      replace hF : Heap _ _ _ [_, _, _] := hF.drop (.cons_cons _ (.cons_cons _ (.cons_cons _ (.cons _ .slnil))))
      exact bodyPost_ret (v := .tuple #[.int .i64 ((idT ns t : Nat) : Int), .int .i64 0]) (res2 rfl (ro_tmp rfl e4) (ro_tmp rfl e5)) rfl (⟨_, _, rfl, hF⟩)

end Go.Proofs.Ytdlliajghfflnaa
