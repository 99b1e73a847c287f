/- Nets of letters: the walks. -/
import Derived.Test.YtjgcjddaladgfaaNet
import Derived.Test.YtjgcjddaladgfaaTalks
namespace Go.Proofs.Ytjgcjddaladgfaa
open Go.RowKit Go.Bz Go.Bz.Wire Go.Bz.Rcpt Go.Bz.Talk
attribute [local irreducible] wpList Code.wp wpAnyX

theorem zNe_l0 {a0 : Value} {a1 : Value} {a2 : Value} {a3 : Value} {a4 : Value} {a5 : Value} {a6 : List UInt8} (ha6 : a6.length = 32) {a7 : List UInt8} (ha7 : a7.length = 32) {a8 : Value} {a9 : List UInt8} (ha9 : a9.length = 32) {a10 : Value} {a11 : List UInt8} (ha11 : a11.length = 32) {a12 : Value} {a13 : Value} {a14 : List UInt8} (ha14 : a14.length = 32) {a15 : Value} {a16 : Value} {a17 : Value} {a18 : Value} {a19 : List UInt8} (ha19 : a19.length = 32) {a20 : List UInt8} (ha20 : a20.length = 32) {a21 : Value} : List.length (([a0, a1, a2, a3, a4, a5] : List Value) ++ (cBs a6 ++ (cBs a7 ++ (([a8] : List Value) ++ (cBs a9 ++ (([a10] : List Value) ++ (cBs a11 ++ (([a12, a13] : List Value) ++ (cBs a14 ++ (([a15, a16, a17, a18] : List Value) ++ (cBs a19 ++ (cBs a20 ++ ([a21] : List Value))))))))))))) = 239 := (len_app (m := 6) (n := 233) (k := 239) rfl (len_app (m := 32) (n := 201) (k := 233) (cBs_len ha6) (len_app (m := 32) (n := 169) (k := 201) (cBs_len ha7) (len_app (m := 1) (n := 168) (k := 169) rfl (len_app (m := 32) (n := 136) (k := 168) (cBs_len ha9) (len_app (m := 1) (n := 135) (k := 136) rfl (len_app (m := 32) (n := 103) (k := 135) (cBs_len ha11) (len_app (m := 2) (n := 101) (k := 103) rfl (len_app (m := 32) (n := 69) (k := 101) (cBs_len ha14) (len_app (m := 4) (n := 65) (k := 69) rfl (len_app (m := 32) (n := 33) (k := 65) (cBs_len ha19) (len_app (m := 32) (n := 1) (k := 33) (cBs_len ha20) rfl rfl) rfl) rfl) rfl) rfl) rfl) rfl) rfl) rfl) rfl) rfl) rfl)
theorem zNe_o1 {a0 : Value} {a1 : Value} {a2 : Value} {a3 : Value} {a4 : Value} {a5 : Value} {a6 : List UInt8} {a7 : List UInt8} {a8 : Value} {a9 : List UInt8} {a10 : Value} {a11 : List UInt8} {a12 : Value} {a13 : Value} {a14 : List UInt8} {a15 : Value} {a16 : Value} {a17 : Value} {a18 : Value} {a19 : List UInt8} {a20 : List UInt8} {a21 : Value} (qa0 : a0.oneCell' = true) (qa1 : a1.oneCell' = true) (qa2 : a2.oneCell' = true) (qa3 : a3.oneCell' = true) (qa4 : a4.oneCell' = true) (qa5 : a5.oneCell' = true) (qa8 : a8.oneCell' = true) (qa10 : a10.oneCell' = true) (qa12 : a12.oneCell' = true) (qa13 : a13.oneCell' = true) (qa15 : a15.oneCell' = true) (qa16 : a16.oneCell' = true) (qa17 : a17.oneCell' = true) (qa18 : a18.oneCell' = true) (qa21 : a21.oneCell' = true) : ∀ u ∈ (([a0, a1, a2, a3, a4, a5] : List Value) ++ (cBs a6 ++ (cBs a7 ++ (([a8] : List Value) ++ (cBs a9 ++ (([a10] : List Value) ++ (cBs a11 ++ (([a12, a13] : List Value) ++ (cBs a14 ++ (([a15, a16, a17, a18] : List Value) ++ (cBs a19 ++ (cBs a20 ++ ([a21] : List Value))))))))))))), u.oneCell' = true := (ones_app (ones_cons qa0 (ones_cons qa1 (ones_cons qa2 (ones_cons qa3 (ones_cons qa4 (ones_cons qa5 ones_nil)))))) (ones_app (cBs_one _) (ones_app (cBs_one _) (ones_app (ones_cons qa8 ones_nil) (ones_app (cBs_one _) (ones_app (ones_cons qa10 ones_nil) (ones_app (cBs_one _) (ones_app (ones_cons qa12 (ones_cons qa13 ones_nil)) (ones_app (cBs_one _) (ones_app (ones_cons qa15 (ones_cons qa16 (ones_cons qa17 (ones_cons qa18 ones_nil)))) (ones_app (cBs_one _) (ones_app (cBs_one _) (ones_cons qa21 ones_nil)))))))))))))
theorem zNe_g2 {a0 : Value} {a1 : Value} : ([a0, a1])[0]? = some a0 := rfl
theorem zNe_g3 {a0 : Value} {a1 : Value} : ([a0, a1])[1]? = some a1 := rfl
theorem zNe_l4 {a0 : Value} {a1 : Value} : List.length ([a0, a1]) = 2 := (show List.length [a0, a1] = 2 from rfl)
theorem zNe_o5 {a0 : Value} {a1 : Value} (qa0 : a0.oneCell' = true) (qa1 : a1.oneCell' = true) : ∀ u ∈ ([a0, a1]), u.oneCell' = true := (ones_cons qa0 (ones_cons qa1 ones_nil))
theorem zNe_g6 {a0 : Value} {a1 : Value} {a2 : Value} {a3 : Value} {a4 : Value} {a5 : Value} {a6 : List UInt8} (_ : a6.length = 32) {a7 : List UInt8} (_ : a7.length = 32) {a8 : Value} {a9 : List UInt8} (_ : a9.length = 32) {a10 : Value} {a11 : List UInt8} (_ : a11.length = 32) {a12 : Value} {a13 : Value} {a14 : List UInt8} (_ : a14.length = 32) {a15 : Value} {a16 : Value} {a17 : Value} {a18 : Value} {a19 : List UInt8} (_ : a19.length = 32) {a20 : List UInt8} (_ : a20.length = 32) {a21 : Value} : (([a0, a1, a2, a3, a4, a5] : List Value) ++ (cBs a6 ++ (cBs a7 ++ (([a8] : List Value) ++ (cBs a9 ++ (([a10] : List Value) ++ (cBs a11 ++ (([a12, a13] : List Value) ++ (cBs a14 ++ (([a15, a16, a17, a18] : List Value) ++ (cBs a19 ++ (cBs a20 ++ ([a21] : List Value)))))))))))))[2]? = some a2 := (show (([a0, a1, a2, a3, a4, a5] : List Value) ++ (cBs a6 ++ (cBs a7 ++ (([a8] : List Value) ++ (cBs a9 ++ (([a10] : List Value) ++ (cBs a11 ++ (([a12, a13] : List Value) ++ (cBs a14 ++ (([a15, a16, a17, a18] : List Value) ++ (cBs a19 ++ (cBs a20 ++ ([a21] : List Value)))))))))))))[2]? = some (a2) from (get_l (C := cBs a6 ++ (cBs a7 ++ (([a8] : List Value) ++ (cBs a9 ++ (([a10] : List Value) ++ (cBs a11 ++ (([a12, a13] : List Value) ++ (cBs a14 ++ (([a15, a16, a17, a18] : List Value) ++ (cBs a19 ++ (cBs a20 ++ ([a21] : List Value)))))))))))) (show ([a0, a1, a2, a3, a4, a5] : List Value)[2]? = some (a2) from rfl)))
theorem Try.stLts : ST Try.prog 67 87 (.agg (cLt zLt).toArray) 2 32 := ⟨Try.underlying67, by kernel_rfl, rfl, by decide, by decide⟩
/-- A message and its slices. -/
structure Mg where
  u : Ms
  vb : V1
  vg : V1
  bl : List UInt8
  sg : List UInt8
def cMg (x : Mg) : List Value := ([.int .i64 x.u.k, .int .i64 x.u.a, .int .i64 x.u.b, .int .i64 x.u.c0, .int .i64 x.u.c1, .int .i64 x.u.c2] : List Value) ++ (cBs x.u.h0.1 ++ (cBs x.u.h1.1 ++ (([.int .i64 x.u.g] : List Value) ++ (cBs x.u.o.1 ++ (([.int .i64 x.u.n] : List Value) ++ (cBs x.u.x.1 ++ (([.int .i64 x.u.jc, .int .i64 x.u.js] : List Value) ++ (cBs x.u.jh.1 ++ (([x.vb.1, .int .i64 x.u.r.t, .int .i64 x.u.r.c, .int .i64 x.u.r.s] : List Value) ++ (cBs x.u.r.h.1 ++ (cBs x.u.r.b.1 ++ ([x.vg.1] : List Value))))))))))))
def zMg : Mg := ⟨zM, zV1, zV1, [], []⟩
theorem cMg_ln (x : Mg) : (cMg x).length = 239 := (zNe_l0 x.u.h0.2 x.u.h1.2 x.u.o.2 x.u.x.2 x.u.jh.2 x.u.r.h.2 x.u.r.b.2)
theorem cMg_len {l : List Mg} : ∀ x ∈ l, (cMg x).length = 239 := fun x _ => cMg_ln x
theorem cMg_one (x : Mg) : ∀ u ∈ cMg x, u.oneCell' = true := zNe_o1 rfl rfl rfl rfl rfl rfl rfl rfl rfl rfl x.vb.2 rfl rfl rfl x.vg.2
abbrev St := List (Int × List UInt8) × Nat
def putK (s : St) (k : Int × List UInt8) (p : Prop) [Decidable p] : St := if p ∧ s.1.length < 64 then (s.1 ++ [k], s.2) else (s.1, s.2 + 1)
theorem putK_yes {s : St} {k : Int × List UInt8} {p : Prop} [Decidable p] (h : p) (h2 : s.1.length < 64) : putK s k p = (s.1 ++ [k], s.2) := if_pos ⟨h, h2⟩
theorem putK_no {s : St} {k : Int × List UInt8} {p : Prop} [Decidable p] (h : ¬ (p ∧ s.1.length < 64)) : putK s k p = (s.1, s.2 + 1) := if_neg h
def stepK (s : St) (x : Mg) : St := putK s (x.u.b, textM x.u x.bl x.sg) (inM x.u)
def sendK (s : St) (ms : List Mg) : St := ms.foldl stepK s
abbrev kst (ls : List Lt) (lost : Nat) : St := (kys ls, lost)
theorem rv_eqsl {P : Program} {w : World} {a : Act} {o : Oper} {t e rt : TypeId} {x y : Operand} {ao : Option Addr} {n c : Nat} (ho : o.op = .binOp .eql t x y rt) (hx : a.eval x = .slice ao n c) (hy : a.eval y = .slice none 0 0) (ht : P.underlying t = some (.slice e)) : (execOp a.eval o).run P w = .ok (.value (.bool ao.isNone)) w := by
  unfold execOp
  have hg : (eqGuard .eql t x y (.slice ao n c) (.slice none 0 0)).run P w = .ok () w := rfl
  simp only [ho, hx, hy, Sem.run_bind, hg, Result.andThen_ok, Lib.run_eql_slice_nil w _ _ ao n c 0 0 ht, Sem.run_pure]

set_option maxRecDepth 100000 in
set_option maxHeartbeats 4000000 in
theorem netPut_calls {K : Nat → Prop} {g : Nat} {v : Value} (ls : List Lt) (hl : ls.length ≤ 64) (lost : Nat) (hlo : lost ≤ 1000000) (x : Lt) (p : Prop) [Decidable p] (w : World) (hh0 : Heap (newK w K) w w [oBlk g ([v, .int .i64 ((lost : Nat) : Int)]) 69, oRow cLt 87 2 v ls]) :
    Calls Try.prog 60 #[.pointer (some ⟨g, 0, none⟩), .agg #[.int .i64 x.to, x.v.1], .bool (decide (p))] w fun e'' w' => ∃ v', e'' = .returned (.tuple #[]) ∧ ((p ∧ ls.length < 64 → Heap (newK w K) w w' [oBlk g ([v', .int .i64 ((lost : Nat) : Int)]) 69, oRow cLt 87 2 v' (ls ++ [x])]) ∧ (¬ (p ∧ ls.length < 64) → Heap (newK w K) w w' [oBlk g ([v', .int .i64 (((lost + 1) : Nat) : Int)]) 69, oRow cLt 87 2 v' ls])) := by
  refine calls_fr (args := [.pointer (some ⟨g, 0, none⟩), .agg #[.int .i64 x.to, x.v.1], .bool (decide (p))]) (n := 33) Try.func60 rfl rfl (show 3 ≤ 33 by decide) ?_
  have hH : Heap (newK w K) w w [oBlk g ([v, .int .i64 ((lost : Nat) : Int)]) 69, oRow cLt 87 2 v ls] := hh0
  refine wp_seq ?_
  refine wp_gen (fun F' => F' 0 = .pointer (some ⟨g, 0, none⟩) ∧ F' 1 = .agg #[.int .i64 x.to, x.v.1] ∧ F' 2 = .bool (decide (p))) ⟨rfl, rfl, rfl⟩ ?_
  rintro F ⟨e0, e1, e2⟩
  refine wp_regionF ?_
  refine lf_ex (wantAll rfl) (hx_box hH 87 (cs := [.int .i64 x.to, x.v.1]) rfl (fr_eval rfl e1) (by rfl)) ?_
  clear hH
  rintro _ w1 ⟨g1, rfl, hH, hx⟩
  replace hH : Heap _ _ _ [_, _, _] := hH
  clear hx
  refine lf_nil ?_
  refine then_n ?_
  refine wp_seq ?_
  refine wp_seq ?_
  refine wp_gen (fun F' => F' 0 = .pointer (some ⟨g, 0, none⟩) ∧ F' 1 = .agg #[.int .i64 x.to, x.v.1] ∧ F' 2 = .bool (decide (p)) ∧ F' 4 = .pointer (some ⟨g1, 0, none⟩)) ⟨e0, e1, e2, rfl⟩ ?_
  clear e0 e1 e2
  clear F
  rintro F ⟨e0, e1, e2, e4⟩
  refine wp_regionF ?_
  refine lf_val (v := .bool (decide (p))) (wantAll rfl) (rv_move rfl (fr_eval rfl e2)) ?_
  refine lf_val (v := .bool (decide (¬ (p)))) (wantAll rfl) (rv_notP (q := ¬ (p)) rfl (fr_eval rfl rfl) Iff.rfl) ?_
  refine lf_val (v := .bool (decide (¬ (p)))) (wantAll rfl) (rv_move rfl (fr_eval rfl rfl)) ?_
  refine lf_joinP (fun F' => F' 0 = .pointer (some ⟨g, 0, none⟩) ∧ F' 1 = .agg #[.int .i64 x.to, x.v.1] ∧ F' 2 = .bool (decide (p)) ∧ F' 4 = .pointer (some ⟨g1, 0, none⟩) ∧ F' 15 = .bool (decide ((¬ (p)) ∨ (ls.length ≥ 64)))) 7 (fun hk => ?_) ?_
  · by_cases hc1 : p
    · refine lf_val (v := .pointer (some ⟨g, 0, none⟩)) (wantF (d := 8) rfl (by kernel_rfl) rfl (congrArg Value.bool (decide_eq_false (not_not_intro hc1)))) (rv_move rfl (fr_eval rfl e0)) ?_
      refine lf_val (v := .pointer (some ⟨g, 0, none⟩)) (wantF (d := 8) rfl (by kernel_rfl) rfl (congrArg Value.bool (decide_eq_false (not_not_intro hc1)))) (rv_nilCheck rfl (fr_eval rfl rfl)) ?_
      refine lf_val (v := .pointer (some ⟨g, 0, none⟩)) (wantF (d := 8) rfl (by kernel_rfl) rfl (congrArg Value.bool (decide_eq_false (not_not_intro hc1)))) (rv_fieldAddr (n := 0) rfl (fr_eval rfl rfl) Try.underlying69 rfl rfl (by kernel_rfl)) ?_
      refine lf_val (v := v) (wantF (d := 8) rfl (by kernel_rfl) rfl (congrArg Value.bool (decide_eq_false (not_not_intro hc1)))) (rv_load1 rfl (hH.blk (i := 0) rfl) zNe_g2 (fr_eval rfl rfl) Try.underlying67 rfl Try.sz67) ?_
      refine lf_val (v := .int .i64 ((ls.length : Nat) : Int)) (wantF (d := 8) rfl (by kernel_rfl) rfl (congrArg Value.bool (decide_eq_false (not_not_intro hc1)))) (rv_len rfl (fr_eval rfl rfl) (Own.rd (hH.own (i := 1) rfl) (row_one cLt_one)) Try.underlying67) ?_
      refine lf_val (v := .bool (decide (ls.length ≥ 64))) (wantF (d := 8) rfl (by kernel_rfl) rfl (congrArg Value.bool (decide_eq_false (not_not_intro hc1)))) (rv_geqP (p := ls.length ≥ 64) rfl (fr_eval rfl rfl) rfl (by omega)) ?_
      refine lf_val (v := .bool (decide (ls.length ≥ 64))) (wantAll rfl) (rv_pickF rfl (fr_eval rfl (congrArg Value.bool (decide_eq_false (not_not_intro hc1)))) (fr_eval rfl rfl)) ?_
      exact hk _ ⟨e0, e1, e2, e4, (congrArg Value.bool (dec_or (not_not_intro hc1)))⟩
    · refine lf_not (wantNot (d := 8) rfl (by kernel_rfl) rfl (congrArg Value.bool (decide_eq_true hc1))) ?_
      refine lf_not (wantNot (d := 8) rfl (by kernel_rfl) rfl (congrArg Value.bool (decide_eq_true hc1))) ?_
      refine lf_not (wantNot (d := 8) rfl (by kernel_rfl) rfl (congrArg Value.bool (decide_eq_true hc1))) ?_
      refine lf_not (wantNot (d := 8) rfl (by kernel_rfl) rfl (congrArg Value.bool (decide_eq_true hc1))) ?_
      refine lf_not (wantNot (d := 8) rfl (by kernel_rfl) rfl (congrArg Value.bool (decide_eq_true hc1))) ?_
      refine lf_not (wantNot (d := 8) rfl (by kernel_rfl) rfl (congrArg Value.bool (decide_eq_true hc1))) ?_
      refine lf_val (v := .bool true) (wantAll rfl) (rv_pickT rfl (fr_eval rfl (congrArg Value.bool (decide_eq_true hc1))) rfl) ?_
      exact hk _ ⟨e0, e1, e2, e4, (congrArg Value.bool (dec_orT hc1))⟩
  · clear e0 e1 e2 e4
    clear F
    rintro F ⟨e0, e1, e2, e4, e15⟩
    refine lf_nil ?_
    refine then_n ?_
    by_cases hc2 : (¬ (p)) ∨ (ls.length ≥ 64)
    · refine wp_cond_true (fr_eval rfl (e15.trans (congrArg Value.bool (decide_eq_true hc2)))) ?_
      refine wp_seq ?_
      refine wp_regionF ?_
      refine lf_val (v := .pointer (some ⟨g, 0, none⟩)) (wantAll rfl) (rv_move rfl (fr_eval rfl e0)) ?_
      refine lf_val (v := .pointer (some ⟨g, 0, none⟩)) (wantAll rfl) (rv_nilCheck rfl (fr_eval rfl rfl)) ?_
      refine lf_val (v := .pointer (some ⟨g, 1, none⟩)) (wantAll rfl) (rv_fieldAddr (n := 0) rfl (fr_eval rfl rfl) Try.underlying69 rfl rfl (by kernel_rfl)) ?_
      refine lf_val (v := .int .i64 ((lost : Nat) : Int)) (wantAll rfl) (rv_load1 rfl (hH.blk (i := 0) rfl) zNe_g3 (fr_eval rfl rfl) Try.underlying3 rfl Try.sz3) ?_
      refine lf_val (v := .int .i64 ((lost + 1 : Nat) : Int)) (wantAll rfl) (rv_add rfl (fr_eval rfl rfl) rfl (wrap_i64 (by omega) (by omega) (by omega))) ?_
      refine lf_val (v := .pointer (some ⟨g, 0, none⟩)) (wantAll rfl) (rv_nilCheck rfl (fr_eval rfl rfl)) ?_
      refine lf_val (v := .pointer (some ⟨g, 1, none⟩)) (wantAll rfl) (rv_fieldAddr (n := 0) rfl (fr_eval rfl rfl) Try.underlying69 rfl rfl (by kernel_rfl)) ?_
      refine lf_sk (wantAll rfl) (hx_storeC hH (i := 0) (j := 1) (v := .int .i64 ((lost + 1 : Nat) : Int)) rfl rfl rfl (show 1 < 2 by decide) rfl (fr_eval rfl rfl) (fr_eval rfl rfl) Try.sz3 rfl) ?_
      clear hH
      rintro w2 ⟨hH, hx⟩
      replace hH : Heap _ _ _ [_, _, _] := hH
      clear hx
      refine lf_nil ?_
      refine then_n ?_
      refine wp_gen (fun F' => F' 0 = .pointer (some ⟨g, 0, none⟩) ∧ F' 1 = .agg #[.int .i64 x.to, x.v.1] ∧ F' 2 = .bool (decide (p)) ∧ F' 4 = .pointer (some ⟨g1, 0, none⟩) ∧ F' 15 = .bool true) ⟨e0, e1, e2, e4, (e15.trans (congrArg Value.bool (decide_eq_true hc2)))⟩ ?_
      clear e0 e1 e2 e4 e15
      clear F
      rintro F ⟨e0, e1, e2, e4, e15⟩
      refine wp_ret ?_
      refine then_ret ?_
      have hF := hH
      replace hF : Heap _ _ _ [_, _] := hF.drop (.cons_cons _ (.cons_cons _ (.cons _ .slnil)))
      exact bodyPost_ret (v := .tuple #[]) (res0 rfl) rfl (⟨_, rfl, fun h => absurd h (by intro h; obtain ⟨h1, h2⟩ := h; simp_all; omega), fun _ => hF⟩)
    · refine wp_cond_false (fr_eval rfl (e15.trans (congrArg Value.bool (decide_eq_false hc2)))) ?_
      refine wp_skip ?_
      refine then_n ?_
      refine wp_regionX (newK w K) 8 (by kernel_rfl) (by kernel_rfl) ?_
      refine xl_take (i := 0) (v := .pointer (some ⟨g, 0, none⟩)) rfl (by kernel_rfl) (by kernel_rfl) (by kernel_rfl) (by kernel_rfl) (yx_val (wantAll rfl) (fun w' hx' => rv_move rfl (fr_eval rfl e0))) ?_
      refine xl_take (i := 1) (v := .pointer (some ⟨g, 0, none⟩)) rfl (by kernel_rfl) (by kernel_rfl) (by kernel_rfl) (by kernel_rfl) (yx_val (wantAll rfl) (fun w' hx' => rv_move rfl (fr_eval rfl e0))) ?_
      refine xl_take (i := 2) (v := .pointer (some ⟨g, 0, none⟩)) rfl (by kernel_rfl) (by kernel_rfl) (by kernel_rfl) (by kernel_rfl) (yx_val (wantAll rfl) (fun w' hx' => rv_nilCheck rfl (fr_eval rfl rfl))) ?_
      refine xl_take (i := 3) (v := .pointer (some ⟨g, 0, none⟩)) rfl (by kernel_rfl) (by kernel_rfl) (by kernel_rfl) (by kernel_rfl) (yx_val (wantAll rfl) (fun w' hx' => rv_fieldAddr (n := 0) rfl (fr_eval rfl rfl) Try.underlying69 rfl rfl (by kernel_rfl))) ?_
      refine anyX_ready (rs := [4, 5]) (by kernel_rfl) ?_
      intro w3 hx
      replace hH := hH.ext hx
      clear hx
      refine (anyX_cons ?_ (anyX_cons ?_ anyX_nil))
      · refine xl_step (i := 4) rfl (wantAll rfl) ?_
        refine of_val (v := v) (rv_load1 rfl (hH.blk (i := 0) rfl) zNe_g2 (fr_eval rfl rfl) Try.underlying67 rfl Try.sz67) ?_
        refine ⟨Chg.refl _ _, ?_⟩
        refine anyX_ready (rs := [5]) (by kernel_rfl) ?_
        intro w4 hx
        replace hH := hH.ext hx
        clear hx
        refine (anyX_cons ?_ anyX_nil)
        refine xl_step (i := 5) rfl (wantAll rfl) ?_
        refine of_val (v := .agg #[.int .i64 x.to, x.v.1]) (rv_loadW rfl (hH.blk (i := 2) rfl) (fr_eval rfl e4) Try.underlying87 rfl (sz_len Try.sz87 zNe_l4)) ?_
        refine ⟨Chg.refl _ _, ?_⟩
        refine anyX_ready (rs := [6]) (by kernel_rfl) ?_
        intro w5 hx
        replace hH := hH.ext hx
        clear hx
        refine (anyX_cons ?_ anyX_nil)
        refine xl_step (i := 6) rfl (wantAll rfl) ?_
        refine of_ex (hx_lit1 hH Try.stLts (cs := cLt x) (xs := List.flatMap cLt [x]) rfl (fr_eval rfl rfl) (cLt_ln x) (by decide) (List.flatMap_singleton ..).symm) ?_
        clear hH
        rintro y1 w6 ⟨hH, hx⟩
        replace hH : Heap _ _ _ [_, _, _, _] := hH
        refine ⟨(Ext.any hx), ?_⟩
        clear hx
        refine anyX_ready (rs := [7]) (by kernel_rfl) ?_
        intro w7 hx
        replace hH := hH.ext hx
        clear hx
        refine (anyX_cons ?_ anyX_nil)
        refine xl_step (i := 7) rfl (wantAll rfl) ?_
        refine of_ex (hx_append hH Try.stLts (i := 1) (xs' := (ls ++ [x]).flatMap cLt) (nm := (ls ++ [x]).length) rfl rfl (fun _ => rfl) List.length_append.symm List.flatMap_append.symm (Own.rd (hH.own (i := 3) rfl) (row_one cLt_one)) (fr_eval rfl rfl) (fr_eval rfl rfl) (by simp only [List.length_append, List.length_cons, List.length_nil]; omega)) ?_
        clear hH
        rintro y2 w8 ⟨hH, hx⟩
        replace hH : Heap _ _ _ [_, _, _, _] := hH
        refine ⟨hx, ?_⟩
        clear hx
        refine xl_tail (s := 8) rfl ?_
        intro w9 hx
        replace hH := hH.ext hx
        clear hx
        refine lf_val (v := .pointer (some ⟨g, 0, none⟩)) (wantAll rfl) (rv_nilCheck rfl (fr_eval rfl rfl)) ?_
        refine lf_val (v := .pointer (some ⟨g, 0, none⟩)) (wantAll rfl) (rv_fieldAddr (n := 0) rfl (fr_eval rfl rfl) Try.underlying69 rfl rfl (by kernel_rfl)) ?_
        refine lf_sk (wantAll rfl) (hx_storeC hH (i := 0) (j := 0) (v := y2) rfl rfl rfl (show 0 < 2 by decide) rfl (fr_eval rfl rfl) (fr_eval rfl rfl) Try.sz67 (Rd.oneV (Own.rd (hH.own (i := 1) rfl) (row_one cLt_one)))) ?_
        clear hH
        rintro w10 ⟨hH, hx⟩
        replace hH : Heap _ _ _ [_, _, _, _] := hH
        clear hx
        refine lf_nil ?_
        have hF := hH
        replace hF : Heap _ _ _ [_, _] := hF.drop (.cons_cons _ (.cons_cons _ (.cons _ (.cons _ .slnil))))
        exact bodyPost_end (v := .tuple #[]) (res0 rfl) rfl (⟨_, rfl, fun _ => hF, fun h => absurd ⟨by simp_all, by omega⟩ h⟩)
      · refine xl_step (i := 5) rfl (wantAll rfl) ?_
        refine of_val (v := .agg #[.int .i64 x.to, x.v.1]) (rv_loadW rfl (hH.blk (i := 2) rfl) (fr_eval rfl e4) Try.underlying87 rfl (sz_len Try.sz87 zNe_l4)) ?_
        refine ⟨Chg.refl _ _, ?_⟩
        refine anyX_ready (rs := [4, 6]) (by kernel_rfl) ?_
        intro w11 hx
        replace hH := hH.ext hx
        clear hx
        refine (anyX_cons ?_ (anyX_cons ?_ anyX_nil))
        · refine xl_step (i := 4) rfl (wantAll rfl) ?_
          refine of_val (v := v) (rv_load1 rfl (hH.blk (i := 0) rfl) zNe_g2 (fr_eval rfl rfl) Try.underlying67 rfl Try.sz67) ?_
          refine ⟨Chg.refl _ _, ?_⟩
          refine anyX_ready (rs := [6]) (by kernel_rfl) ?_
          intro w12 hx
          replace hH := hH.ext hx
          clear hx
          refine (anyX_cons ?_ anyX_nil)
          refine xl_step (i := 6) rfl (wantAll rfl) ?_
          refine of_ex (hx_lit1 hH Try.stLts (cs := cLt x) (xs := List.flatMap cLt [x]) rfl (fr_eval rfl rfl) (cLt_ln x) (by decide) (List.flatMap_singleton ..).symm) ?_
          clear hH
          rintro y3 w13 ⟨hH, hx⟩
          replace hH : Heap _ _ _ [_, _, _, _] := hH
          refine ⟨(Ext.any hx), ?_⟩
          clear hx
          refine anyX_ready (rs := [7]) (by kernel_rfl) ?_
          intro w14 hx
          replace hH := hH.ext hx
          clear hx
          refine (anyX_cons ?_ anyX_nil)
          refine xl_step (i := 7) rfl (wantAll rfl) ?_
          refine of_ex (hx_append hH Try.stLts (i := 1) (xs' := (ls ++ [x]).flatMap cLt) (nm := (ls ++ [x]).length) rfl rfl (fun _ => rfl) List.length_append.symm List.flatMap_append.symm (Own.rd (hH.own (i := 3) rfl) (row_one cLt_one)) (fr_eval rfl rfl) (fr_eval rfl rfl) (by simp only [List.length_append, List.length_cons, List.length_nil]; omega)) ?_
          clear hH
          rintro y4 w15 ⟨hH, hx⟩
          replace hH : Heap _ _ _ [_, _, _, _] := hH
          refine ⟨hx, ?_⟩
          clear hx
          refine xl_tail (s := 8) rfl ?_
          intro w16 hx
          replace hH := hH.ext hx
          clear hx
          refine lf_val (v := .pointer (some ⟨g, 0, none⟩)) (wantAll rfl) (rv_nilCheck rfl (fr_eval rfl rfl)) ?_
          refine lf_val (v := .pointer (some ⟨g, 0, none⟩)) (wantAll rfl) (rv_fieldAddr (n := 0) rfl (fr_eval rfl rfl) Try.underlying69 rfl rfl (by kernel_rfl)) ?_
          refine lf_sk (wantAll rfl) (hx_storeC hH (i := 0) (j := 0) (v := y4) rfl rfl rfl (show 0 < 2 by decide) rfl (fr_eval rfl rfl) (fr_eval rfl rfl) Try.sz67 (Rd.oneV (Own.rd (hH.own (i := 1) rfl) (row_one cLt_one)))) ?_
          clear hH
          rintro w17 ⟨hH, hx⟩
          replace hH : Heap _ _ _ [_, _, _, _] := hH
          clear hx
          refine lf_nil ?_
          have hF := hH
          replace hF : Heap _ _ _ [_, _] := hF.drop (.cons_cons _ (.cons_cons _ (.cons _ (.cons _ .slnil))))
          exact bodyPost_end (v := .tuple #[]) (res0 rfl) rfl (⟨_, rfl, fun _ => hF, fun h => absurd ⟨by simp_all, by omega⟩ h⟩)
        · refine xl_step (i := 6) rfl (wantAll rfl) ?_
          refine of_ex (hx_lit1 hH Try.stLts (cs := cLt x) (xs := List.flatMap cLt [x]) rfl (fr_eval rfl rfl) (cLt_ln x) (by decide) (List.flatMap_singleton ..).symm) ?_
          clear hH
          rintro y5 w18 ⟨hH, hx⟩
          replace hH : Heap _ _ _ [_, _, _, _] := hH
          refine ⟨(Ext.any hx), ?_⟩
          clear hx
          refine anyX_ready (rs := [4]) (by kernel_rfl) ?_
          intro w19 hx
          replace hH := hH.ext hx
          clear hx
          refine (anyX_cons ?_ anyX_nil)
          refine xl_step (i := 4) rfl (wantAll rfl) ?_
          refine of_val (v := v) (rv_load1 rfl (hH.blk (i := 0) rfl) zNe_g2 (fr_eval rfl rfl) Try.underlying67 rfl Try.sz67) ?_
          refine ⟨Chg.refl _ _, ?_⟩
          refine anyX_ready (rs := [7]) (by kernel_rfl) ?_
          intro w20 hx
          replace hH := hH.ext hx
          clear hx
          refine (anyX_cons ?_ anyX_nil)
          refine xl_step (i := 7) rfl (wantAll rfl) ?_
          refine of_ex (hx_append hH Try.stLts (i := 1) (xs' := (ls ++ [x]).flatMap cLt) (nm := (ls ++ [x]).length) rfl rfl (fun _ => rfl) List.length_append.symm List.flatMap_append.symm (Own.rd (hH.own (i := 3) rfl) (row_one cLt_one)) (fr_eval rfl rfl) (fr_eval rfl rfl) (by simp only [List.length_append, List.length_cons, List.length_nil]; omega)) ?_
          clear hH
          rintro y6 w21 ⟨hH, hx⟩
          replace hH : Heap _ _ _ [_, _, _, _] := hH
          refine ⟨hx, ?_⟩
          clear hx
          refine xl_tail (s := 8) rfl ?_
          intro w22 hx
          replace hH := hH.ext hx
          clear hx
          refine lf_val (v := .pointer (some ⟨g, 0, none⟩)) (wantAll rfl) (rv_nilCheck rfl (fr_eval rfl rfl)) ?_
          refine lf_val (v := .pointer (some ⟨g, 0, none⟩)) (wantAll rfl) (rv_fieldAddr (n := 0) rfl (fr_eval rfl rfl) Try.underlying69 rfl rfl (by kernel_rfl)) ?_
          refine lf_sk (wantAll rfl) (hx_storeC hH (i := 0) (j := 0) (v := y6) rfl rfl rfl (show 0 < 2 by decide) rfl (fr_eval rfl rfl) (fr_eval rfl rfl) Try.sz67 (Rd.oneV (Own.rd (hH.own (i := 1) rfl) (row_one cLt_one)))) ?_
          clear hH
          rintro w23 ⟨hH, hx⟩
          replace hH : Heap _ _ _ [_, _, _, _] := hH
          clear hx
          refine lf_nil ?_
          have hF := hH
          replace hF : Heap _ _ _ [_, _] := hF.drop (.cons_cons _ (.cons_cons _ (.cons _ (.cons _ .slnil))))
          exact bodyPost_end (v := .tuple #[]) (res0 rfl) rfl (⟨_, rfl, fun _ => hF, fun h => absurd ⟨by simp_all, by omega⟩ h⟩)

set_option maxRecDepth 100000 in
set_option maxHeartbeats 4000000 in
theorem plPut_calls {K : Nat → Prop} {g : Nat} {v : Value} (ls : List Lt) (hl : ls.length ≤ 64) (lost : Nat) (hlo : lost ≤ 1000000) (x : Lt) (p : Prop) [Decidable p] (w : World) (hh0 : Heap (newK w K) w w [oBlk g ([v, .int .i64 ((lost : Nat) : Int)]) 72, oRow cLt 87 2 v ls]) :
    Calls Try.prog 57 #[.pointer (some ⟨g, 0, none⟩), .agg #[.int .i64 x.to, x.v.1], .bool (decide (p))] w fun e'' w' => ∃ v', e'' = .returned (.tuple #[]) ∧ ((p ∧ ls.length < 64 → Heap (newK w K) w w' [oBlk g ([v', .int .i64 ((lost : Nat) : Int)]) 72, oRow cLt 87 2 v' (ls ++ [x])]) ∧ (¬ (p ∧ ls.length < 64) → Heap (newK w K) w w' [oBlk g ([v', .int .i64 (((lost + 1) : Nat) : Int)]) 72, oRow cLt 87 2 v' ls])) := by
  refine calls_fr (args := [.pointer (some ⟨g, 0, none⟩), .agg #[.int .i64 x.to, x.v.1], .bool (decide (p))]) (n := 34) Try.func57 rfl rfl (show 3 ≤ 34 by decide) ?_
  have hH : Heap (newK w K) w w [oBlk g ([v, .int .i64 ((lost : Nat) : Int)]) 72, oRow cLt 87 2 v ls] := hh0
  refine wp_seq ?_
  refine wp_gen (fun F' => F' 0 = .pointer (some ⟨g, 0, none⟩) ∧ F' 1 = .agg #[.int .i64 x.to, x.v.1] ∧ F' 2 = .bool (decide (p))) ⟨rfl, rfl, rfl⟩ ?_
  rintro F ⟨e0, e1, e2⟩
  refine wp_regionF ?_
  refine lf_ex (wantAll rfl) (hx_box hH 87 (cs := [.int .i64 x.to, x.v.1]) rfl (fr_eval rfl e1) (by rfl)) ?_
  clear hH
  rintro _ w1 ⟨g1, rfl, hH, hx⟩
  replace hH : Heap _ _ _ [_, _, _] := hH
  clear hx
  refine lf_nil ?_
  refine then_n ?_
  refine wp_seq ?_
  refine wp_seq ?_
  refine wp_gen (fun F' => F' 0 = .pointer (some ⟨g, 0, none⟩) ∧ F' 1 = .agg #[.int .i64 x.to, x.v.1] ∧ F' 2 = .bool (decide (p)) ∧ F' 4 = .pointer (some ⟨g1, 0, none⟩)) ⟨e0, e1, e2, rfl⟩ ?_
  clear e0 e1 e2
  clear F
  rintro F ⟨e0, e1, e2, e4⟩
  refine wp_regionF ?_
  refine lf_val (v := .bool (decide (p))) (wantAll rfl) (rv_move rfl (fr_eval rfl e2)) ?_
  refine lf_val (v := .bool (decide (¬ (p)))) (wantAll rfl) (rv_notP (q := ¬ (p)) rfl (fr_eval rfl rfl) Iff.rfl) ?_
  refine lf_val (v := .bool (decide (¬ (p)))) (wantAll rfl) (rv_move rfl (fr_eval rfl rfl)) ?_
  refine lf_joinP (fun F' => F' 0 = .pointer (some ⟨g, 0, none⟩) ∧ F' 1 = .agg #[.int .i64 x.to, x.v.1] ∧ F' 2 = .bool (decide (p)) ∧ F' 4 = .pointer (some ⟨g1, 0, none⟩) ∧ F' 15 = .bool (decide ((¬ (p)) ∨ (ls.length ≥ 64)))) 7 (fun hk => ?_) ?_
  · by_cases hc1 : p
    · refine lf_val (v := .pointer (some ⟨g, 0, none⟩)) (wantF (d := 8) rfl (by kernel_rfl) rfl (congrArg Value.bool (decide_eq_false (not_not_intro hc1)))) (rv_move rfl (fr_eval rfl e0)) ?_
      refine lf_val (v := .pointer (some ⟨g, 0, none⟩)) (wantF (d := 8) rfl (by kernel_rfl) rfl (congrArg Value.bool (decide_eq_false (not_not_intro hc1)))) (rv_nilCheck rfl (fr_eval rfl rfl)) ?_
      refine lf_val (v := .pointer (some ⟨g, 0, none⟩)) (wantF (d := 8) rfl (by kernel_rfl) rfl (congrArg Value.bool (decide_eq_false (not_not_intro hc1)))) (rv_fieldAddr (n := 0) rfl (fr_eval rfl rfl) Try.underlying72 rfl rfl (by kernel_rfl)) ?_
      refine lf_val (v := v) (wantF (d := 8) rfl (by kernel_rfl) rfl (congrArg Value.bool (decide_eq_false (not_not_intro hc1)))) (rv_load1 rfl (hH.blk (i := 0) rfl) zNe_g2 (fr_eval rfl rfl) Try.underlying67 rfl Try.sz67) ?_
      refine lf_val (v := .int .i64 ((ls.length : Nat) : Int)) (wantF (d := 8) rfl (by kernel_rfl) rfl (congrArg Value.bool (decide_eq_false (not_not_intro hc1)))) (rv_len rfl (fr_eval rfl rfl) (Own.rd (hH.own (i := 1) rfl) (row_one cLt_one)) Try.underlying67) ?_
      refine lf_val (v := .bool (decide (ls.length ≥ 64))) (wantF (d := 8) rfl (by kernel_rfl) rfl (congrArg Value.bool (decide_eq_false (not_not_intro hc1)))) (rv_geqP (p := ls.length ≥ 64) rfl (fr_eval rfl rfl) rfl (by omega)) ?_
      refine lf_val (v := .bool (decide (ls.length ≥ 64))) (wantAll rfl) (rv_pickF rfl (fr_eval rfl (congrArg Value.bool (decide_eq_false (not_not_intro hc1)))) (fr_eval rfl rfl)) ?_
      exact hk _ ⟨e0, e1, e2, e4, (congrArg Value.bool (dec_or (not_not_intro hc1)))⟩
    · refine lf_not (wantNot (d := 8) rfl (by kernel_rfl) rfl (congrArg Value.bool (decide_eq_true hc1))) ?_
      refine lf_not (wantNot (d := 8) rfl (by kernel_rfl) rfl (congrArg Value.bool (decide_eq_true hc1))) ?_
      refine lf_not (wantNot (d := 8) rfl (by kernel_rfl) rfl (congrArg Value.bool (decide_eq_true hc1))) ?_
      refine lf_not (wantNot (d := 8) rfl (by kernel_rfl) rfl (congrArg Value.bool (decide_eq_true hc1))) ?_
      refine lf_not (wantNot (d := 8) rfl (by kernel_rfl) rfl (congrArg Value.bool (decide_eq_true hc1))) ?_
      refine lf_not (wantNot (d := 8) rfl (by kernel_rfl) rfl (congrArg Value.bool (decide_eq_true hc1))) ?_
      refine lf_val (v := .bool true) (wantAll rfl) (rv_pickT rfl (fr_eval rfl (congrArg Value.bool (decide_eq_true hc1))) rfl) ?_
      exact hk _ ⟨e0, e1, e2, e4, (congrArg Value.bool (dec_orT hc1))⟩
  · clear e0 e1 e2 e4
    clear F
    rintro F ⟨e0, e1, e2, e4, e15⟩
    refine lf_nil ?_
    refine then_n ?_
    by_cases hc2 : (¬ (p)) ∨ (ls.length ≥ 64)
    · refine wp_cond_true (fr_eval rfl (e15.trans (congrArg Value.bool (decide_eq_true hc2)))) ?_
      refine wp_seq ?_
      refine wp_regionF ?_
      refine lf_val (v := .pointer (some ⟨g, 0, none⟩)) (wantAll rfl) (rv_move rfl (fr_eval rfl e0)) ?_
      refine lf_val (v := .pointer (some ⟨g, 0, none⟩)) (wantAll rfl) (rv_move rfl (fr_eval rfl e0)) ?_
      refine lf_val (v := .pointer (some ⟨g, 0, none⟩)) (wantAll rfl) (rv_nilCheck rfl (fr_eval rfl rfl)) ?_
      refine lf_val (v := .pointer (some ⟨g, 1, none⟩)) (wantAll rfl) (rv_fieldAddr (n := 0) rfl (fr_eval rfl rfl) Try.underlying72 rfl rfl (by kernel_rfl)) ?_
      refine lf_val (v := .int .i64 ((lost : Nat) : Int)) (wantAll rfl) (rv_load1 rfl (hH.blk (i := 0) rfl) zNe_g3 (fr_eval rfl rfl) Try.underlying3 rfl Try.sz3) ?_
      refine lf_val (v := .int .i64 ((lost + 1 : Nat) : Int)) (wantAll rfl) (rv_add rfl (fr_eval rfl rfl) rfl (wrap_i64 (by omega) (by omega) (by omega))) ?_
      refine lf_val (v := .pointer (some ⟨g, 0, none⟩)) (wantAll rfl) (rv_nilCheck rfl (fr_eval rfl rfl)) ?_
      refine lf_val (v := .pointer (some ⟨g, 1, none⟩)) (wantAll rfl) (rv_fieldAddr (n := 0) rfl (fr_eval rfl rfl) Try.underlying72 rfl rfl (by kernel_rfl)) ?_
      refine lf_sk (wantAll rfl) (hx_storeC hH (i := 0) (j := 1) (v := .int .i64 ((lost + 1 : Nat) : Int)) rfl rfl rfl (show 1 < 2 by decide) rfl (fr_eval rfl rfl) (fr_eval rfl rfl) Try.sz3 rfl) ?_
      clear hH
      rintro w2 ⟨hH, hx⟩
      replace hH : Heap _ _ _ [_, _, _] := hH
      clear hx
      refine lf_nil ?_
      refine then_n ?_
      refine wp_gen (fun F' => F' 0 = .pointer (some ⟨g, 0, none⟩) ∧ F' 1 = .agg #[.int .i64 x.to, x.v.1] ∧ F' 2 = .bool (decide (p)) ∧ F' 4 = .pointer (some ⟨g1, 0, none⟩) ∧ F' 15 = .bool true) ⟨e0, e1, e2, e4, (e15.trans (congrArg Value.bool (decide_eq_true hc2)))⟩ ?_
      clear e0 e1 e2 e4 e15
      clear F
      rintro F ⟨e0, e1, e2, e4, e15⟩
      refine wp_ret ?_
      refine then_ret ?_
      have hF := hH
      replace hF : Heap _ _ _ [_, _] := hF.drop (.cons_cons _ (.cons_cons _ (.cons _ .slnil)))
      exact bodyPost_ret (v := .tuple #[]) (res0 rfl) rfl (⟨_, rfl, fun h => absurd h (by intro h; obtain ⟨h1, h2⟩ := h; simp_all; omega), fun _ => hF⟩)
    · refine wp_cond_false (fr_eval rfl (e15.trans (congrArg Value.bool (decide_eq_false hc2)))) ?_
      refine wp_skip ?_
      refine then_n ?_
      refine wp_regionX (newK w K) 8 (by kernel_rfl) (by kernel_rfl) ?_
      refine xl_take (i := 0) (v := .pointer (some ⟨g, 0, none⟩)) rfl (by kernel_rfl) (by kernel_rfl) (by kernel_rfl) (by kernel_rfl) (yx_val (wantAll rfl) (fun w' hx' => rv_move rfl (fr_eval rfl e0))) ?_
      refine xl_take (i := 1) (v := .pointer (some ⟨g, 0, none⟩)) rfl (by kernel_rfl) (by kernel_rfl) (by kernel_rfl) (by kernel_rfl) (yx_val (wantAll rfl) (fun w' hx' => rv_move rfl (fr_eval rfl e0))) ?_
      refine xl_take (i := 2) (v := .pointer (some ⟨g, 0, none⟩)) rfl (by kernel_rfl) (by kernel_rfl) (by kernel_rfl) (by kernel_rfl) (yx_val (wantAll rfl) (fun w' hx' => rv_nilCheck rfl (fr_eval rfl rfl))) ?_
      refine xl_take (i := 3) (v := .pointer (some ⟨g, 0, none⟩)) rfl (by kernel_rfl) (by kernel_rfl) (by kernel_rfl) (by kernel_rfl) (yx_val (wantAll rfl) (fun w' hx' => rv_fieldAddr (n := 0) rfl (fr_eval rfl rfl) Try.underlying72 rfl rfl (by kernel_rfl))) ?_
      refine anyX_ready (rs := [4, 5]) (by kernel_rfl) ?_
      intro w3 hx
      replace hH := hH.ext hx
      clear hx
      refine (anyX_cons ?_ (anyX_cons ?_ anyX_nil))
      · refine xl_step (i := 4) rfl (wantAll rfl) ?_
        refine of_val (v := v) (rv_load1 rfl (hH.blk (i := 0) rfl) zNe_g2 (fr_eval rfl rfl) Try.underlying67 rfl Try.sz67) ?_
        refine ⟨Chg.refl _ _, ?_⟩
        refine anyX_ready (rs := [5]) (by kernel_rfl) ?_
        intro w4 hx
        replace hH := hH.ext hx
        clear hx
        refine (anyX_cons ?_ anyX_nil)
        refine xl_step (i := 5) rfl (wantAll rfl) ?_
        refine of_val (v := .agg #[.int .i64 x.to, x.v.1]) (rv_loadW rfl (hH.blk (i := 2) rfl) (fr_eval rfl e4) Try.underlying87 rfl (sz_len Try.sz87 zNe_l4)) ?_
        refine ⟨Chg.refl _ _, ?_⟩
        refine anyX_ready (rs := [6]) (by kernel_rfl) ?_
        intro w5 hx
        replace hH := hH.ext hx
        clear hx
        refine (anyX_cons ?_ anyX_nil)
        refine xl_step (i := 6) rfl (wantAll rfl) ?_
        refine of_ex (hx_lit1 hH Try.stLts (cs := cLt x) (xs := List.flatMap cLt [x]) rfl (fr_eval rfl rfl) (cLt_ln x) (by decide) (List.flatMap_singleton ..).symm) ?_
        clear hH
        rintro y1 w6 ⟨hH, hx⟩
        replace hH : Heap _ _ _ [_, _, _, _] := hH
        refine ⟨(Ext.any hx), ?_⟩
        clear hx
        refine anyX_ready (rs := [7]) (by kernel_rfl) ?_
        intro w7 hx
        replace hH := hH.ext hx
        clear hx
        refine (anyX_cons ?_ anyX_nil)
        refine xl_step (i := 7) rfl (wantAll rfl) ?_
        refine of_ex (hx_append hH Try.stLts (i := 1) (xs' := (ls ++ [x]).flatMap cLt) (nm := (ls ++ [x]).length) rfl rfl (fun _ => rfl) List.length_append.symm List.flatMap_append.symm (Own.rd (hH.own (i := 3) rfl) (row_one cLt_one)) (fr_eval rfl rfl) (fr_eval rfl rfl) (by simp only [List.length_append, List.length_cons, List.length_nil]; omega)) ?_
        clear hH
        rintro y2 w8 ⟨hH, hx⟩
        replace hH : Heap _ _ _ [_, _, _, _] := hH
        refine ⟨hx, ?_⟩
        clear hx
        refine xl_tail (s := 8) rfl ?_
        intro w9 hx
        replace hH := hH.ext hx
        clear hx
        refine lf_val (v := .pointer (some ⟨g, 0, none⟩)) (wantAll rfl) (rv_nilCheck rfl (fr_eval rfl rfl)) ?_
        refine lf_val (v := .pointer (some ⟨g, 0, none⟩)) (wantAll rfl) (rv_fieldAddr (n := 0) rfl (fr_eval rfl rfl) Try.underlying72 rfl rfl (by kernel_rfl)) ?_
        refine lf_sk (wantAll rfl) (hx_storeC hH (i := 0) (j := 0) (v := y2) rfl rfl rfl (show 0 < 2 by decide) rfl (fr_eval rfl rfl) (fr_eval rfl rfl) Try.sz67 (Rd.oneV (Own.rd (hH.own (i := 1) rfl) (row_one cLt_one)))) ?_
        clear hH
        rintro w10 ⟨hH, hx⟩
        replace hH : Heap _ _ _ [_, _, _, _] := hH
        clear hx
        refine lf_nil ?_
        have hF := hH
        replace hF : Heap _ _ _ [_, _] := hF.drop (.cons_cons _ (.cons_cons _ (.cons _ (.cons _ .slnil))))
        exact bodyPost_end (v := .tuple #[]) (res0 rfl) rfl (⟨_, rfl, fun _ => hF, fun h => absurd ⟨by simp_all, by omega⟩ h⟩)
      · refine xl_step (i := 5) rfl (wantAll rfl) ?_
        refine of_val (v := .agg #[.int .i64 x.to, x.v.1]) (rv_loadW rfl (hH.blk (i := 2) rfl) (fr_eval rfl e4) Try.underlying87 rfl (sz_len Try.sz87 zNe_l4)) ?_
        refine ⟨Chg.refl _ _, ?_⟩
        refine anyX_ready (rs := [4, 6]) (by kernel_rfl) ?_
        intro w11 hx
        replace hH := hH.ext hx
        clear hx
        refine (anyX_cons ?_ (anyX_cons ?_ anyX_nil))
        · refine xl_step (i := 4) rfl (wantAll rfl) ?_
          refine of_val (v := v) (rv_load1 rfl (hH.blk (i := 0) rfl) zNe_g2 (fr_eval rfl rfl) Try.underlying67 rfl Try.sz67) ?_
          refine ⟨Chg.refl _ _, ?_⟩
          refine anyX_ready (rs := [6]) (by kernel_rfl) ?_
          intro w12 hx
          replace hH := hH.ext hx
          clear hx
          refine (anyX_cons ?_ anyX_nil)
          refine xl_step (i := 6) rfl (wantAll rfl) ?_
          refine of_ex (hx_lit1 hH Try.stLts (cs := cLt x) (xs := List.flatMap cLt [x]) rfl (fr_eval rfl rfl) (cLt_ln x) (by decide) (List.flatMap_singleton ..).symm) ?_
          clear hH
          rintro y3 w13 ⟨hH, hx⟩
          replace hH : Heap _ _ _ [_, _, _, _] := hH
          refine ⟨(Ext.any hx), ?_⟩
          clear hx
          refine anyX_ready (rs := [7]) (by kernel_rfl) ?_
          intro w14 hx
          replace hH := hH.ext hx
          clear hx
          refine (anyX_cons ?_ anyX_nil)
          refine xl_step (i := 7) rfl (wantAll rfl) ?_
          refine of_ex (hx_append hH Try.stLts (i := 1) (xs' := (ls ++ [x]).flatMap cLt) (nm := (ls ++ [x]).length) rfl rfl (fun _ => rfl) List.length_append.symm List.flatMap_append.symm (Own.rd (hH.own (i := 3) rfl) (row_one cLt_one)) (fr_eval rfl rfl) (fr_eval rfl rfl) (by simp only [List.length_append, List.length_cons, List.length_nil]; omega)) ?_
          clear hH
          rintro y4 w15 ⟨hH, hx⟩
          replace hH : Heap _ _ _ [_, _, _, _] := hH
          refine ⟨hx, ?_⟩
          clear hx
          refine xl_tail (s := 8) rfl ?_
          intro w16 hx
          replace hH := hH.ext hx
          clear hx
          refine lf_val (v := .pointer (some ⟨g, 0, none⟩)) (wantAll rfl) (rv_nilCheck rfl (fr_eval rfl rfl)) ?_
          refine lf_val (v := .pointer (some ⟨g, 0, none⟩)) (wantAll rfl) (rv_fieldAddr (n := 0) rfl (fr_eval rfl rfl) Try.underlying72 rfl rfl (by kernel_rfl)) ?_
          refine lf_sk (wantAll rfl) (hx_storeC hH (i := 0) (j := 0) (v := y4) rfl rfl rfl (show 0 < 2 by decide) rfl (fr_eval rfl rfl) (fr_eval rfl rfl) Try.sz67 (Rd.oneV (Own.rd (hH.own (i := 1) rfl) (row_one cLt_one)))) ?_
          clear hH
          rintro w17 ⟨hH, hx⟩
          replace hH : Heap _ _ _ [_, _, _, _] := hH
          clear hx
          refine lf_nil ?_
          have hF := hH
          replace hF : Heap _ _ _ [_, _] := hF.drop (.cons_cons _ (.cons_cons _ (.cons _ (.cons _ .slnil))))
          exact bodyPost_end (v := .tuple #[]) (res0 rfl) rfl (⟨_, rfl, fun _ => hF, fun h => absurd ⟨by simp_all, by omega⟩ h⟩)
        · refine xl_step (i := 6) rfl (wantAll rfl) ?_
          refine of_ex (hx_lit1 hH Try.stLts (cs := cLt x) (xs := List.flatMap cLt [x]) rfl (fr_eval rfl rfl) (cLt_ln x) (by decide) (List.flatMap_singleton ..).symm) ?_
          clear hH
          rintro y5 w18 ⟨hH, hx⟩
          replace hH : Heap _ _ _ [_, _, _, _] := hH
          refine ⟨(Ext.any hx), ?_⟩
          clear hx
          refine anyX_ready (rs := [4]) (by kernel_rfl) ?_
          intro w19 hx
          replace hH := hH.ext hx
          clear hx
          refine (anyX_cons ?_ anyX_nil)
          refine xl_step (i := 4) rfl (wantAll rfl) ?_
          refine of_val (v := v) (rv_load1 rfl (hH.blk (i := 0) rfl) zNe_g2 (fr_eval rfl rfl) Try.underlying67 rfl Try.sz67) ?_
          refine ⟨Chg.refl _ _, ?_⟩
          refine anyX_ready (rs := [7]) (by kernel_rfl) ?_
          intro w20 hx
          replace hH := hH.ext hx
          clear hx
          refine (anyX_cons ?_ anyX_nil)
          refine xl_step (i := 7) rfl (wantAll rfl) ?_
          refine of_ex (hx_append hH Try.stLts (i := 1) (xs' := (ls ++ [x]).flatMap cLt) (nm := (ls ++ [x]).length) rfl rfl (fun _ => rfl) List.length_append.symm List.flatMap_append.symm (Own.rd (hH.own (i := 3) rfl) (row_one cLt_one)) (fr_eval rfl rfl) (fr_eval rfl rfl) (by simp only [List.length_append, List.length_cons, List.length_nil]; omega)) ?_
          clear hH
          rintro y6 w21 ⟨hH, hx⟩
          replace hH : Heap _ _ _ [_, _, _, _] := hH
          refine ⟨hx, ?_⟩
          clear hx
          refine xl_tail (s := 8) rfl ?_
          intro w22 hx
          replace hH := hH.ext hx
          clear hx
          refine lf_val (v := .pointer (some ⟨g, 0, none⟩)) (wantAll rfl) (rv_nilCheck rfl (fr_eval rfl rfl)) ?_
          refine lf_val (v := .pointer (some ⟨g, 0, none⟩)) (wantAll rfl) (rv_fieldAddr (n := 0) rfl (fr_eval rfl rfl) Try.underlying72 rfl rfl (by kernel_rfl)) ?_
          refine lf_sk (wantAll rfl) (hx_storeC hH (i := 0) (j := 0) (v := y6) rfl rfl rfl (show 0 < 2 by decide) rfl (fr_eval rfl rfl) (fr_eval rfl rfl) Try.sz67 (Rd.oneV (Own.rd (hH.own (i := 1) rfl) (row_one cLt_one)))) ?_
          clear hH
          rintro w23 ⟨hH, hx⟩
          replace hH : Heap _ _ _ [_, _, _, _] := hH
          clear hx
          refine lf_nil ?_
          have hF := hH
          replace hF : Heap _ _ _ [_, _] := hF.drop (.cons_cons _ (.cons_cons _ (.cons _ (.cons _ .slnil))))
          exact bodyPost_end (v := .tuple #[]) (res0 rfl) rfl (⟨_, rfl, fun _ => hF, fun h => absurd ⟨by simp_all, by omega⟩ h⟩)

set_option maxRecDepth 100000 in
set_option maxHeartbeats 4000000 in
theorem clone_calls (b : List UInt8) (hbl : b.length ≤ 100000000) (v : Value) (w : World) (hr0 : RdB w v b) :
    Calls Try.prog 59 #[v] w fun e'' w' => (∃ v', e'' = .returned v' ∧ OwnB w' v' b ∧ ∀ k, v'.ownBlock = some k → w.heap.size ≤ k) ∧ Ext w w' := by
  refine calls_fr (args := [v]) (n := 8) Try.func59 rfl rfl (show 1 ≤ 8 by decide) ?_
  have hr := Rd.stab hr0
  have hH : Heap (newN w) w w [] := Heap.fresh
  refine wp_seq ?_
  refine wp_gen (fun F' => F' 0 = v) rfl ?_
  rintro F e0
  obtain ⟨ao, cap, rfl, hao⟩ : ∃ ao cap, v = .slice ao b.length cap ∧ (ao = none → b.length = 0 ∧ cap = 0) := by
    obtain ⟨_, _, ao, cap, h1, _, _, h2, _⟩ := hr0
    exact ⟨ao, cap, h1, h2⟩
  refine wp_regionF ?_
  refine lf_val (v := .slice none 0 0) (wantAll rfl) (rv_assign rfl rfl) ?_
  refine lf_nil ?_
  refine then_n ?_
  refine wp_seq ?_
  refine wp_seq ?_
  refine wp_gen (fun F' => F' 0 = (.slice ao b.length cap) ∧ F' 2 = .slice none 0 0) ⟨e0, rfl⟩ ?_
  clear e0
  clear F
  rintro F ⟨e0, e2⟩
  by_cases hf1 : ao = none
  · subst hf1
    obtain ⟨hb0, rfl⟩ := hao rfl
    obtain rfl : b = [] := List.eq_nil_of_length_eq_zero hb0
    refine wp_regionF ?_
    refine lf_val (v := .slice none 0 0) (wantAll rfl) (rv_move rfl (fr_eval rfl (show _ = Value.slice none 0 0 from e0))) ?_
    refine lf_val (v := .bool true) (wantAll rfl) (rv_eqsl (ao := none) rfl (fr_eval rfl rfl) rfl Try.underlying22) ?_
    refine lf_nil ?_
    refine then_n ?_
    refine wp_gen (fun F' => F' 0 = .slice none 0 0 ∧ F' 2 = .slice none 0 0 ∧ F' 4 = .bool true) ⟨(show _ = Value.slice none 0 0 from e0), (show _ = Value.slice none 0 0 from e2), rfl⟩ ?_
    clear e0 e2
    clear F
    rintro F ⟨e0, e2, e4⟩
    refine wp_cond_true (fr_eval rfl e4) ?_
    refine wp_seq ?_
    refine wp_regionF ?_
    refine lf_val (v := .slice none 0 0) (wantAll rfl) (rv_assign rfl rfl) ?_
    refine lf_nil ?_
    refine then_n ?_
    refine wp_gen (fun F' => F' 0 = .slice none 0 0 ∧ F' 2 = .slice none 0 0 ∧ F' 4 = .bool true) ⟨e0, rfl, e4⟩ ?_
    clear e0 e2 e4
    clear F
    rintro F ⟨e0, e2, e4⟩
    refine wp_ret ?_
    refine then_ret ?_
    exact bodyPost_ret (v := (.slice none 0 0)) (res1 rfl (ro_tmp rfl e2)) rfl (⟨⟨_, rfl, OwnB.nil, ownBlock_nil⟩, hH.done⟩)
  · obtain ⟨a0, rfl⟩ : ∃ a0, ao = some a0 := Option.ne_none_iff_exists'.1 hf1
    refine wp_regionF ?_
    refine lf_val (v := (.slice (some a0) b.length cap)) (wantAll rfl) (rv_move rfl (fr_eval rfl e0)) ?_
    refine lf_val (v := .bool false) (wantAll rfl) (rv_eqsl (ao := some a0) rfl (fr_eval rfl rfl) rfl Try.underlying22) ?_
    refine lf_nil ?_
    refine then_n ?_
    refine wp_gen (fun F' => F' 0 = (.slice (some a0) b.length cap) ∧ F' 2 = .slice none 0 0 ∧ F' 4 = .bool false) ⟨e0, e2, rfl⟩ ?_
    clear e0 e2
    clear F
    rintro F ⟨e0, e2, e4⟩
    refine wp_cond_false (fr_eval rfl e4) ?_
    refine wp_skip ?_
    refine then_n ?_
    refine wp_seq ?_
    refine wp_regionF ?_
    refine lf_ex (wantAll rfl) (hx_lits hH Try.stB (n := 0) (nm := List.length ([] : List UInt8)) [] (vs := []) (cs := cBs []) rfl evn (cBs_one []) rfl (by decide) rfl rfl) ?_
    clear hH
    rintro y1 w1 ⟨hH, hx⟩
    replace hH : Heap _ _ _ [_] := hH
    clear hx
    refine lf_val (v := (.slice (some a0) b.length cap)) (wantAll rfl) (rv_move rfl (fr_eval rfl e0)) ?_
    refine lf_ex (wantAll rfl) (hx_append hH Try.stB (i := 0) (xs' := cBs (b)) (nm := (b).length) rfl rfl (fun _ => rfl) (Nat.zero_add _) (List.nil_append _) (hr.rd _ hH.chg) (fr_eval rfl rfl) (fr_eval rfl rfl) (by first | omega | (simp only [List.length_append, List.length_nil]; omega))) ?_
    clear hH
    rintro y2 w2 ⟨hH, hx⟩
    replace hH : Heap _ _ _ [_] := hH
    clear hx
    refine lf_val (v := y2) (wantAll rfl) (rv_assign rfl (fr_eval rfl rfl)) ?_
    refine lf_nil ?_
    refine then_n ?_
    refine wp_gen (fun F' => F' 0 = (.slice (some a0) b.length cap) ∧ F' 2 = y2 ∧ F' 4 = .bool false) ⟨e0, rfl, e4⟩ ?_
    clear e0 e2 e4
    clear F
    rintro F ⟨e0, e2, e4⟩
    refine wp_ret ?_
    exact bodyPost_ret (v := y2) (res1 rfl (ro_tmp rfl e2)) rfl (⟨⟨_, rfl, hH.own (i := 0) rfl, hH.ge (i := 0) rfl⟩, hH.done⟩)

set_option maxRecDepth 100000 in
set_option maxHeartbeats 4000000 in
theorem netLen_calls {g : Nat} {v : Value} (ls : List Lt) (lost : Nat) (w : World) (hB0 : Blk w g ([v, .int .i64 ((lost : Nat) : Int)]) 69) (hn0 : Rd w 2 v ls.length (ls.flatMap cLt)) :
    Calls Try.prog 40 #[.pointer (some ⟨g, 0, none⟩)] w fun e'' w' => e'' = .returned (.int .i64 ((ls.length : Nat) : Int)) ∧ Ext w w' := by
  refine calls_fr (args := [.pointer (some ⟨g, 0, none⟩)]) (n := 10) Try.func40 rfl rfl (show 1 ≤ 10 by decide) ?_
  have hn := Rd.stab hn0
  have hB := Blk.stab hB0
  have hH : Heap (newN w) w w [] := Heap.fresh
  refine wp_seq ?_
  refine wp_gen (fun F' => F' 0 = .pointer (some ⟨g, 0, none⟩)) rfl ?_
  rintro F e0
  refine wp_regionF ?_
  refine lf_val (v := .int .i64 0) (wantAll rfl) (rv_assign rfl rfl) ?_
  refine lf_nil ?_
  refine then_n ?_
  refine wp_seq ?_
  refine wp_seq ?_
  refine wp_gen (fun F' => F' 0 = .pointer (some ⟨g, 0, none⟩) ∧ F' 2 = .int .i64 0) ⟨e0, rfl⟩ ?_
  clear e0
  clear F
  rintro F ⟨e0, e2⟩
  refine wp_regionF ?_
  refine lf_val (v := .pointer (some ⟨g, 0, none⟩)) (wantAll rfl) (rv_move rfl (fr_eval rfl e0)) ?_
  refine lf_val (v := .bool false) (wantAll rfl) (rv_eqnil (p := (some ⟨g, 0, none⟩)) rfl (fr_eval rfl rfl) rfl Try.underlying66) ?_
  refine lf_nil ?_
  refine then_n ?_
  refine wp_gen (fun F' => F' 0 = .pointer (some ⟨g, 0, none⟩) ∧ F' 2 = .int .i64 0 ∧ F' 4 = .bool false) ⟨e0, e2, rfl⟩ ?_
  clear e0 e2
  clear F
  rintro F ⟨e0, e2, e4⟩
  refine wp_cond_false (fr_eval rfl e4) ?_
  refine wp_skip ?_
  refine then_n ?_
  refine wp_seq ?_
  refine wp_regionF ?_
  refine lf_val (v := .pointer (some ⟨g, 0, none⟩)) (wantAll rfl) (rv_move rfl (fr_eval rfl e0)) ?_
  refine lf_val (v := .pointer (some ⟨g, 0, none⟩)) (wantAll rfl) (rv_nilCheck rfl (fr_eval rfl rfl)) ?_
  refine lf_val (v := .pointer (some ⟨g, 0, none⟩)) (wantAll rfl) (rv_fieldAddr (n := 0) rfl (fr_eval rfl rfl) Try.underlying69 rfl rfl (by kernel_rfl)) ?_
  refine lf_val (v := v) (wantAll rfl) (rv_load1 rfl (hB _ hH.chg) zNe_g2 (fr_eval rfl rfl) Try.underlying67 rfl Try.sz67) ?_
  refine lf_val (v := .int .i64 ((ls.length : Nat) : Int)) (wantAll rfl) (rv_len rfl (fr_eval rfl rfl) (hn.rd _ hH.chg) Try.underlying67) ?_
  refine lf_val (v := .int .i64 ((ls.length : Nat) : Int)) (wantAll rfl) (rv_assign rfl (fr_eval rfl rfl)) ?_
  refine lf_nil ?_
  refine then_n ?_
  refine wp_gen (fun F' => F' 0 = .pointer (some ⟨g, 0, none⟩) ∧ F' 2 = .int .i64 ((ls.length : Nat) : Int) ∧ F' 4 = .bool false) ⟨e0, rfl, e4⟩ ?_
  clear e0 e2 e4
  clear F
  rintro F ⟨e0, e2, e4⟩
  refine wp_ret ?_
  exact bodyPost_ret (v := (.int .i64 ((ls.length : Nat) : Int))) (res1 rfl (ro_tmp rfl e2)) rfl (⟨rfl, hH.done⟩)

set_option maxRecDepth 100000 in
set_option maxHeartbeats 4000000 in
theorem netLen_calls_nil (w : World) :
    Calls Try.prog 40 #[.pointer none] w fun e'' w' => e'' = .returned (.int .i64 0) ∧ Ext w w' := by
  refine calls_fr (args := [.pointer none]) (n := 10) Try.func40 rfl rfl (show 1 ≤ 10 by decide) ?_
  have hH : Heap (newN w) w w [] := Heap.fresh
  refine wp_seq ?_
  refine wp_gen (fun F' => F' 0 = .pointer none) rfl ?_
  rintro F e0
  refine wp_regionF ?_
  refine lf_val (v := .int .i64 0) (wantAll rfl) (rv_assign rfl rfl) ?_
  refine lf_nil ?_
  refine then_n ?_
  refine wp_seq ?_
  refine wp_seq ?_
  refine wp_gen (fun F' => F' 0 = .pointer none ∧ F' 2 = .int .i64 0) ⟨e0, rfl⟩ ?_
  clear e0
  clear F
  rintro F ⟨e0, e2⟩
  refine wp_regionF ?_
  refine lf_val (v := .pointer none) (wantAll rfl) (rv_move rfl (fr_eval rfl e0)) ?_
  refine lf_val (v := .bool true) (wantAll rfl) (rv_eqnil (p := none) rfl (fr_eval rfl rfl) rfl Try.underlying66) ?_
  refine lf_nil ?_
  refine then_n ?_
  refine wp_gen (fun F' => F' 0 = .pointer none ∧ F' 2 = .int .i64 0 ∧ F' 4 = .bool true) ⟨e0, e2, rfl⟩ ?_
  clear e0 e2
  clear F
  rintro F ⟨e0, e2, e4⟩
  refine wp_cond_true (fr_eval rfl e4) ?_
  refine wp_seq ?_
  refine wp_regionF ?_
  refine lf_val (v := .int .i64 0) (wantAll rfl) (rv_assign rfl rfl) ?_
  refine lf_nil ?_
  refine then_n ?_
  refine wp_gen (fun F' => F' 0 = .pointer none ∧ F' 2 = .int .i64 0 ∧ F' 4 = .bool true) ⟨e0, rfl, e4⟩ ?_
  clear e0 e2 e4
  clear F
  rintro F ⟨e0, e2, e4⟩
  refine wp_ret ?_
  refine then_ret ?_
  exact bodyPost_ret (v := (.int .i64 0)) (res1 rfl (ro_tmp rfl e2)) rfl (⟨rfl, hH.done⟩)

set_option maxRecDepth 100000 in
set_option maxHeartbeats 4000000 in
theorem netLost_calls {g : Nat} {v : Value} (ls : List Lt) (lost : Nat) (w : World) (hB0 : Blk w g ([v, .int .i64 ((lost : Nat) : Int)]) 69) (hn0 : Rd w 2 v ls.length (ls.flatMap cLt)) :
    Calls Try.prog 41 #[.pointer (some ⟨g, 0, none⟩)] w fun e'' w' => e'' = .returned (.int .i64 ((lost : Nat) : Int)) ∧ Ext w w' := by
  refine calls_fr (args := [.pointer (some ⟨g, 0, none⟩)]) (n := 9) Try.func41 rfl rfl (show 1 ≤ 9 by decide) ?_
  have hn := Rd.stab hn0
  have hB := Blk.stab hB0
  have hH : Heap (newN w) w w [] := Heap.fresh
  refine wp_seq ?_
  refine wp_gen (fun F' => F' 0 = .pointer (some ⟨g, 0, none⟩)) rfl ?_
  rintro F e0
  refine wp_regionF ?_
  refine lf_val (v := .int .i64 0) (wantAll rfl) (rv_assign rfl rfl) ?_
  refine lf_nil ?_
  refine then_n ?_
  refine wp_seq ?_
  refine wp_seq ?_
  refine wp_gen (fun F' => F' 0 = .pointer (some ⟨g, 0, none⟩) ∧ F' 2 = .int .i64 0) ⟨e0, rfl⟩ ?_
  clear e0
  clear F
  rintro F ⟨e0, e2⟩
  refine wp_regionF ?_
  refine lf_val (v := .pointer (some ⟨g, 0, none⟩)) (wantAll rfl) (rv_move rfl (fr_eval rfl e0)) ?_
  refine lf_val (v := .bool false) (wantAll rfl) (rv_eqnil (p := (some ⟨g, 0, none⟩)) rfl (fr_eval rfl rfl) rfl Try.underlying66) ?_
  refine lf_nil ?_
  refine then_n ?_
  refine wp_gen (fun F' => F' 0 = .pointer (some ⟨g, 0, none⟩) ∧ F' 2 = .int .i64 0 ∧ F' 4 = .bool false) ⟨e0, e2, rfl⟩ ?_
  clear e0 e2
  clear F
  rintro F ⟨e0, e2, e4⟩
  refine wp_cond_false (fr_eval rfl e4) ?_
  refine wp_skip ?_
  refine then_n ?_
  refine wp_seq ?_
  refine wp_regionF ?_
  refine lf_val (v := .pointer (some ⟨g, 0, none⟩)) (wantAll rfl) (rv_move rfl (fr_eval rfl e0)) ?_
  refine lf_val (v := .pointer (some ⟨g, 0, none⟩)) (wantAll rfl) (rv_nilCheck rfl (fr_eval rfl rfl)) ?_
  refine lf_val (v := .pointer (some ⟨g, 1, none⟩)) (wantAll rfl) (rv_fieldAddr (n := 0) rfl (fr_eval rfl rfl) Try.underlying69 rfl rfl (by kernel_rfl)) ?_
  refine lf_val (v := .int .i64 ((lost : Nat) : Int)) (wantAll rfl) (rv_load1 rfl (hB _ hH.chg) zNe_g3 (fr_eval rfl rfl) Try.underlying3 rfl Try.sz3) ?_
  refine lf_val (v := .int .i64 ((lost : Nat) : Int)) (wantAll rfl) (rv_assign rfl (fr_eval rfl rfl)) ?_
  refine lf_nil ?_
  refine then_n ?_
  refine wp_gen (fun F' => F' 0 = .pointer (some ⟨g, 0, none⟩) ∧ F' 2 = .int .i64 ((lost : Nat) : Int) ∧ F' 4 = .bool false) ⟨e0, rfl, e4⟩ ?_
  clear e0 e2 e4
  clear F
  rintro F ⟨e0, e2, e4⟩
  refine wp_ret ?_
  exact bodyPost_ret (v := (.int .i64 ((lost : Nat) : Int))) (res1 rfl (ro_tmp rfl e2)) rfl (⟨rfl, hH.done⟩)

set_option maxRecDepth 100000 in
set_option maxHeartbeats 4000000 in
theorem netLost_calls_nil (w : World) :
    Calls Try.prog 41 #[.pointer none] w fun e'' w' => e'' = .returned (.int .i64 0) ∧ Ext w w' := by
  refine calls_fr (args := [.pointer none]) (n := 9) Try.func41 rfl rfl (show 1 ≤ 9 by decide) ?_
  have hH : Heap (newN w) w w [] := Heap.fresh
  refine wp_seq ?_
  refine wp_gen (fun F' => F' 0 = .pointer none) rfl ?_
  rintro F e0
  refine wp_regionF ?_
  refine lf_val (v := .int .i64 0) (wantAll rfl) (rv_assign rfl rfl) ?_
  refine lf_nil ?_
  refine then_n ?_
  refine wp_seq ?_
  refine wp_seq ?_
  refine wp_gen (fun F' => F' 0 = .pointer none ∧ F' 2 = .int .i64 0) ⟨e0, rfl⟩ ?_
  clear e0
  clear F
  rintro F ⟨e0, e2⟩
  refine wp_regionF ?_
  refine lf_val (v := .pointer none) (wantAll rfl) (rv_move rfl (fr_eval rfl e0)) ?_
  refine lf_val (v := .bool true) (wantAll rfl) (rv_eqnil (p := none) rfl (fr_eval rfl rfl) rfl Try.underlying66) ?_
  refine lf_nil ?_
  refine then_n ?_
  refine wp_gen (fun F' => F' 0 = .pointer none ∧ F' 2 = .int .i64 0 ∧ F' 4 = .bool true) ⟨e0, e2, rfl⟩ ?_
  clear e0 e2
  clear F
  rintro F ⟨e0, e2, e4⟩
  refine wp_cond_true (fr_eval rfl e4) ?_
  refine wp_seq ?_
  refine wp_regionF ?_
  refine lf_val (v := .int .i64 0) (wantAll rfl) (rv_assign rfl rfl) ?_
  refine lf_nil ?_
  refine then_n ?_
  refine wp_gen (fun F' => F' 0 = .pointer none ∧ F' 2 = .int .i64 0 ∧ F' 4 = .bool true) ⟨e0, rfl, e4⟩ ?_
  clear e0 e2 e4
  clear F
  rintro F ⟨e0, e2, e4⟩
  refine wp_ret ?_
  refine then_ret ?_
  exact bodyPost_ret (v := (.int .i64 0)) (res1 rfl (ro_tmp rfl e2)) rfl (⟨rfl, hH.done⟩)

set_option maxRecDepth 100000 in
set_option maxHeartbeats 4000000 in
theorem netThrow_nil (z : Int) (v : Value) (w : World) :
    Calls Try.prog 46 #[.pointer none, .int .i64 z, v] w fun e'' w' => e'' = .returned (.tuple #[]) ∧ Ext w w' := by
  refine calls_fr (args := [.pointer none, .int .i64 z, v]) (n := 17) Try.func46 rfl rfl (show 3 ≤ 17 by decide) ?_
  have hH : Heap (newN w) w w [] := Heap.fresh
  refine wp_seq ?_
  refine wp_gen (fun F' => F' 0 = .pointer none ∧ F' 1 = .int .i64 z ∧ F' 2 = v) ⟨rfl, rfl, rfl⟩ ?_
  rintro F ⟨e0, e1, e2⟩
  refine wp_regionF ?_
  refine lf_val (v := .pointer none) (wantAll rfl) (rv_move rfl (fr_eval rfl e0)) ?_
  refine lf_val (v := .bool false) (wantAll rfl) (rv_nenil (p := none) rfl (fr_eval rfl rfl) rfl Try.underlying66) ?_
  refine lf_nil ?_
  refine then_n ?_
  refine wp_gen (fun F' => F' 0 = .pointer none ∧ F' 1 = .int .i64 z ∧ F' 2 = v ∧ F' 7 = .bool false) ⟨e0, e1, e2, rfl⟩ ?_
  clear e0 e1 e2
  clear F
  rintro F ⟨e0, e1, e2, e7⟩
  refine wp_cond_false (fr_eval rfl e7) ?_
  refine wp_skip ?_
  exact bodyPost_end (v := .tuple #[]) (res0 rfl) rfl (⟨rfl, hH.done⟩)

set_option maxRecDepth 100000 in
set_option maxHeartbeats 4000000 in
theorem netThrow_calls {w : World} {K Z S : Nat → Prop} {g : Nat} {v : Value} (hZ : ∀ k, newK w K k → ¬ Z k) (ls : List Lt) (hl : ls.length ≤ 64) (lost : Nat) (hlo : lost ≤ 900000) (z : Int) (b : List UInt8) (hbl : b.length ≤ 100000000) (tv : Value) (hs0 : Stab (newK w K) w 1 tv b.length (cBs b)) (hh0 : Heap (newK w K) w w [oBlk g ([v, .int .i64 ((lost : Nat) : Int)]) 69, oRow cLt 87 2 v ls, oBag Z S ls]) :
    Calls Try.prog 46 #[.pointer (some ⟨g, 0, none⟩), .int .i64 z, tv] w fun e'' w' => ∃ v' ls' lost' S', e'' = .returned (.tuple #[]) ∧ kst ls' lost' = putK (kst ls lost) (z, b) (b.length ≤ 65536) ∧ Heap (newK w K) w w' [oBlk g ([v', .int .i64 ((lost' : Nat) : Int)]) 69, oRow cLt 87 2 v' ls', oBag Z S' ls'] := by
  refine calls_fr (args := [.pointer (some ⟨g, 0, none⟩), .int .i64 z, tv]) (n := 17) Try.func46 rfl rfl (show 3 ≤ 17 by decide) ?_
  have hs := hs0
  have hH : Heap (newK w K) w w [oBlk g ([v, .int .i64 ((lost : Nat) : Int)]) 69, oRow cLt 87 2 v ls, oBag Z S ls] := hh0
  refine wp_seq ?_
  refine wp_gen (fun F' => F' 0 = .pointer (some ⟨g, 0, none⟩) ∧ F' 1 = .int .i64 z ∧ F' 2 = tv) ⟨rfl, rfl, rfl⟩ ?_
  rintro F ⟨e0, e1, e2⟩
  refine wp_regionF ?_
  refine lf_val (v := .pointer (some ⟨g, 0, none⟩)) (wantAll rfl) (rv_move rfl (fr_eval rfl e0)) ?_
  refine lf_val (v := .bool true) (wantAll rfl) (rv_nenil (p := (some ⟨g, 0, none⟩)) rfl (fr_eval rfl rfl) rfl Try.underlying66) ?_
  refine lf_nil ?_
  refine then_n ?_
  refine wp_gen (fun F' => F' 0 = .pointer (some ⟨g, 0, none⟩) ∧ F' 1 = .int .i64 z ∧ F' 2 = tv ∧ F' 7 = .bool true) ⟨e0, e1, e2, rfl⟩ ?_
  clear e0 e1 e2
  clear F
  rintro F ⟨e0, e1, e2, e7⟩
  refine wp_cond_true (fr_eval rfl e7) ?_
  by_cases hf1 : b.length ≤ 65536 ∧ ls.length < 64
  · refine wp_regionF ?_
    refine lf_val (v := .pointer (some ⟨g, 0, none⟩)) (wantAll rfl) (rv_move rfl (fr_eval rfl e0)) ?_
    refine lf_val (v := .int .i64 z) (wantAll rfl) (rv_move rfl (fr_eval rfl e1)) ?_
    refine lf_val (v := tv) (wantAll rfl) (rv_move rfl (fr_eval rfl e2)) ?_
    refine lf_call (wantAll rfl) (rv_call (args := [tv]) rfl (evc (fr_eval rfl rfl) evn) Try.call59) (clone_calls b (by omega) _ _ (hs.rd _ hH.chg)) ?_
    rintro _ w1 ⟨⟨y1, rfl, ho, hg⟩, hx⟩
    refine ⟨_, rfl, ?_⟩
    replace hH : Heap _ _ _ [_, _, _, _] := hH.addOwn hx hg ho
    clear ho hg
    clear hx
    have qy1 : y1.oneCell' = true := Rd.oneV (OwnB.rd (hH.own (i := 3) rfl))
    refine lf_val (v := .agg #[.int .i64 z, y1]) (wantAll rfl) (rv_buildS (ps := [(0, (.tmp 9)), (1, (.tmp 11))]) (places := #[(0, 1), (1, 1)]) (z := .agg #[.int .i64 0, .slice none 0 0]) (zc := [.int .i64 0, .slice none 0 0]) (cs := [.int .i64 z, y1]) rfl (evpc (fr_eval rfl rfl) (evpc (fr_eval rfl rfl) evpn)) (by kernel_rfl) rfl Try.underlying87 (fun _ => by kernel_rfl) (fill1 rfl rfl (by first | decide | simp) (show _ = [.int .i64 z, .slice none 0 0] from rfl) (fill1 rfl qy1 (by first | decide | simp) (show _ = [.int .i64 z, y1] from rfl) fill0))) ?_
    refine lf_val (v := tv) (wantAll rfl) (rv_move rfl (fr_eval rfl e2)) ?_
    refine lf_val (v := .int .i64 ((b.length : Nat) : Int)) (wantAll rfl) (rv_len rfl (fr_eval rfl rfl) (RdB.rn (hs.rd _ hH.chg) rfl) Try.underlying22) ?_
    refine lf_val (v := .bool (decide (b.length ≤ 65536))) (wantAll rfl) (rv_leqP (p := b.length ≤ 65536) rfl (fr_eval rfl rfl) rfl (by omega)) ?_
    replace hH : Heap _ _ _ [_, _, _, _] := hH.perm (.trans (.swap _ _ _) (.cons _ (.trans (.swap _ _ _) (.cons _ (.refl _)))))
    replace hH : Heap _ _ _ [_, _, _, _] := hH.perm (.cons _ (.trans (.swap _ _ _) (.cons _ (.trans (.swap _ _ _) (.cons _ (.refl _))))))
    refine lf_call (wantAll rfl) (rv_call (args := [.pointer (some ⟨g, 0, none⟩), .agg (cLt (⟨z, ⟨y1, qy1⟩, b⟩ : Lt)).toArray, .bool (decide (b.length ≤ 65536))]) rfl (evc (fr_eval rfl rfl) (evc (show _ = Value.agg (cLt (⟨z, ⟨y1, qy1⟩, b⟩ : Lt)).toArray from (fr_eval rfl rfl)) (evc (fr_eval rfl rfl) evn))) Try.call60) (netPut_calls ls (by omega) lost (by omega) (⟨z, ⟨y1, qy1⟩, b⟩ : Lt) (b.length ≤ 65536) _ (Heap.part (L := [_, _]) (M := [_, _]) hH)) ?_
    rintro _ w2 ⟨y2, rfl, hQ⟩
    have hP := hQ.1 hf1
    clear hQ
    refine ⟨_, rfl, ?_⟩
    have hx := hH.callChg (L := [_, _]) (M := [_, _]) (fun _ h => h) hP
    replace hH : Heap _ _ _ [_, _, _, _] := hH.call (L := [_, _]) (M := [_, _]) (fun _ h => h) hP (Stays.blk (hP.blk (i := 0) rfl) (Stays.own (hP.own (i := 1) rfl) Stays.nil))
    clear hP
    clear hx
    refine lf_nil ?_
    replace hH : Heap _ _ _ [_, _, _] := hH.bagOwn (x := (⟨z, ⟨y1, qy1⟩, b⟩ : Lt)) (i := 0) (j := 1) rfl rfl (by decide) rfl
    have hF := hH
    replace hF : Heap _ _ _ [_, _, _] := hF.perm (.trans (.swap _ _ _) (.cons _ (.refl _)))
    replace hF : Heap _ _ _ [_, _, _] := hF.perm (.cons _ (.trans (.swap _ _ _) (.cons _ (.refl _))))
    exact bodyPost_end (v := .tuple #[]) (res0 rfl) rfl (⟨_, _, _, _, rfl, (by rw [putK_yes hf1.1 (by simpa using hf1.2)]; simp [kst, ky]), hF⟩)
  · refine wp_regionF ?_
    refine lf_val (v := .pointer (some ⟨g, 0, none⟩)) (wantAll rfl) (rv_move rfl (fr_eval rfl e0)) ?_
    refine lf_val (v := .int .i64 z) (wantAll rfl) (rv_move rfl (fr_eval rfl e1)) ?_
    refine lf_val (v := tv) (wantAll rfl) (rv_move rfl (fr_eval rfl e2)) ?_
    refine lf_call (wantAll rfl) (rv_call (args := [tv]) rfl (evc (fr_eval rfl rfl) evn) Try.call59) (clone_calls b (by omega) _ _ (hs.rd _ hH.chg)) ?_
    rintro _ w3 ⟨⟨y3, rfl, ho, hg⟩, hx⟩
    refine ⟨_, rfl, ?_⟩
    replace hH : Heap _ _ _ [_, _, _, _] := hH.addOwn hx hg ho
    clear ho hg
    clear hx
    have qy2 : y3.oneCell' = true := Rd.oneV (OwnB.rd (hH.own (i := 3) rfl))
    refine lf_val (v := .agg #[.int .i64 z, y3]) (wantAll rfl) (rv_buildS (ps := [(0, (.tmp 9)), (1, (.tmp 11))]) (places := #[(0, 1), (1, 1)]) (z := .agg #[.int .i64 0, .slice none 0 0]) (zc := [.int .i64 0, .slice none 0 0]) (cs := [.int .i64 z, y3]) rfl (evpc (fr_eval rfl rfl) (evpc (fr_eval rfl rfl) evpn)) (by kernel_rfl) rfl Try.underlying87 (fun _ => by kernel_rfl) (fill1 rfl rfl (by first | decide | simp) (show _ = [.int .i64 z, .slice none 0 0] from rfl) (fill1 rfl qy2 (by first | decide | simp) (show _ = [.int .i64 z, y3] from rfl) fill0))) ?_
    refine lf_val (v := tv) (wantAll rfl) (rv_move rfl (fr_eval rfl e2)) ?_
    refine lf_val (v := .int .i64 ((b.length : Nat) : Int)) (wantAll rfl) (rv_len rfl (fr_eval rfl rfl) (RdB.rn (hs.rd _ hH.chg) rfl) Try.underlying22) ?_
    refine lf_val (v := .bool (decide (b.length ≤ 65536))) (wantAll rfl) (rv_leqP (p := b.length ≤ 65536) rfl (fr_eval rfl rfl) rfl (by omega)) ?_
    replace hH : Heap _ _ _ [_, _, _, _] := hH.perm (.trans (.swap _ _ _) (.cons _ (.trans (.swap _ _ _) (.cons _ (.refl _)))))
    replace hH : Heap _ _ _ [_, _, _, _] := hH.perm (.cons _ (.trans (.swap _ _ _) (.cons _ (.trans (.swap _ _ _) (.cons _ (.refl _))))))
    refine lf_call (wantAll rfl) (rv_call (args := [.pointer (some ⟨g, 0, none⟩), .agg (cLt (⟨z, ⟨y3, qy2⟩, b⟩ : Lt)).toArray, .bool (decide (b.length ≤ 65536))]) rfl (evc (fr_eval rfl rfl) (evc (show _ = Value.agg (cLt (⟨z, ⟨y3, qy2⟩, b⟩ : Lt)).toArray from (fr_eval rfl rfl)) (evc (fr_eval rfl rfl) evn))) Try.call60) (netPut_calls ls (by omega) lost (by omega) (⟨z, ⟨y3, qy2⟩, b⟩ : Lt) (b.length ≤ 65536) _ (Heap.part (L := [_, _]) (M := [_, _]) hH)) ?_
    rintro _ w4 ⟨y4, rfl, hQ⟩
    have hP := hQ.2 hf1
    clear hQ
    refine ⟨_, rfl, ?_⟩
    have hx := hH.callChg (L := [_, _]) (M := [_, _]) (fun _ h => h) hP
    replace hH : Heap _ _ _ [_, _, _, _] := hH.call (L := [_, _]) (M := [_, _]) (fun _ h => h) hP (Stays.blk (hP.blk (i := 0) rfl) (Stays.own (hP.own (i := 1) rfl) Stays.nil))
    clear hP
    clear hx
    refine lf_nil ?_
    have hF := hH
    replace hF : Heap _ _ _ [_, _, _] := hF.drop (.cons_cons _ (.cons _ (.cons_cons _ (.cons_cons _ .slnil))))
    replace hF : Heap _ _ _ [_, _, _] := hF.perm (.trans (.swap _ _ _) (.cons _ (.refl _)))
    replace hF : Heap _ _ _ [_, _, _] := hF.perm (.cons _ (.trans (.swap _ _ _) (.cons _ (.refl _))))
    exact bodyPost_end (v := .tuple #[]) (res0 rfl) rfl (⟨_, _, _, _, rfl, (by rw [putK_no (by simpa using hf1)]), hF⟩)

def forK (ls : List Lt) (z : Int) (n : Nat) : List Nat := (List.range n).filter (fun i => decide ((ls.getD i zLt).to = z))
theorem forK_yes {ls : List Lt} {z : Int} {n : Nat} (h : (ls.getD n zLt).to = z) : forK ls z n ++ [n] = forK ls z (n + 1) := by
  unfold forK; rw [List.range_succ, List.filter_append]
  rw [List.filter_cons_of_pos (p := fun i => decide ((ls.getD i zLt).to = z)) (decide_eq_true h), List.filter_nil]
theorem forK_no {ls : List Lt} {z : Int} {n : Nat} (h : ¬ (ls.getD n zLt).to = z) : forK ls z n = forK ls z (n + 1) := by
  unfold forK; rw [List.range_succ, List.filter_append]
  rw [List.filter_cons_of_neg (p := fun i => decide ((ls.getD i zLt).to = z)) (by simpa using h), List.filter_nil, List.append_nil]
theorem forK_le (ls : List Lt) (z : Int) (n : Nat) : (forK ls z n).length ≤ n := by
  have := List.length_filter_le (fun i => decide ((ls.getD i zLt).to = z)) (List.range n)
  rw [List.length_range] at this; exact this

set_option maxRecDepth 100000 in
set_option maxHeartbeats 4000000 in
theorem netFor_nil (z : Int) (w : World) :
    Calls Try.prog 42 #[.pointer none, .int .i64 z] w fun e'' w' => e'' = .returned (.slice none 0 0) ∧ Ext w w' := by
  refine calls_fr (args := [.pointer none, .int .i64 z]) (n := 28) Try.func42 rfl rfl (show 2 ≤ 28 by decide) ?_
  have hH : Heap (newN w) w w [] := Heap.fresh
  refine wp_seq ?_
  refine wp_gen (fun F' => F' 0 = .pointer none ∧ F' 1 = .int .i64 z) ⟨rfl, rfl⟩ ?_
  rintro F ⟨e0, e1⟩
  refine wp_regionF ?_
  refine lf_val (v := .slice none 0 0) (wantAll rfl) (rv_assign rfl rfl) ?_
  refine lf_nil ?_
  refine then_n ?_
  refine wp_seq ?_
  refine wp_gen (fun F' => F' 0 = .pointer none ∧ F' 1 = .int .i64 z ∧ F' 4 = .slice none 0 0) ⟨e0, e1, rfl⟩ ?_
  clear e0 e1
  clear F
  rintro F ⟨e0, e1, e4⟩
  refine wp_regionF ?_
  refine lf_val (v := .slice none 0 0) (wantAll rfl) (rv_assign rfl rfl) ?_
  refine lf_nil ?_
  refine then_n ?_
  refine wp_seq ?_
  refine wp_seq ?_
  refine wp_gen (fun F' => F' 0 = .pointer none ∧ F' 1 = .int .i64 z ∧ F' 4 = .slice none 0 0 ∧ F' 5 = .slice none 0 0) ⟨e0, e1, e4, rfl⟩ ?_
  clear e0 e1 e4
  clear F
  rintro F ⟨e0, e1, e4, e5⟩
  refine wp_regionF ?_
  refine lf_val (v := .pointer none) (wantAll rfl) (rv_move rfl (fr_eval rfl e0)) ?_
  refine lf_call (wantAll rfl) (rv_call (args := [.pointer none]) rfl (evc (fr_eval rfl rfl) evn) Try.call40) (netLen_calls_nil _) ?_
  rintro _ w1 ⟨rfl, hx⟩
  refine ⟨_, rfl, ?_⟩
  replace hH := hH.ext hx
  clear hx
  refine lf_val (v := .int .i64 0) (wantAll rfl) (rv_move rfl rfl) ?_
  refine lf_nil ?_
  refine then_n ?_
  refine wp_block ?_
  refine wp_gen (fun F' => F' 0 = .pointer none ∧ F' 1 = .int .i64 z ∧ F' 4 = .slice none 0 0 ∧ F' 5 = .slice none 0 0 ∧ F' 8 = .int .i64 0 ∧ F' 9 = .int .i64 0) ⟨e0, e1, e4, e5, rfl, rfl⟩ ?_
  clear e0 e1 e4 e5
  clear F
  rintro F ⟨e0, e1, e4, e5, e8, e9⟩
  refine wp_loopF (fun m F wr => ∃ i : Nat, m = 1 - i ∧ i = 0 ∧ F 0 = .pointer none ∧ F 1 = .int .i64 z ∧ F 4 = .slice none 0 0 ∧ F 5 = .slice none 0 0 ∧ F 8 = .int .i64 0 ∧ F 9 = .int .i64 ((i : Nat) : Int) ∧ Heap (newN w) w wr []) ⟨0, rfl, rfl, e0, e1, e4, e5, e8, e9, hH⟩ ?_
  clear e0 e1 e4 e5 e8 e9 hH
  clear F
  rintro m F w2 ⟨i, rfl, pi0, e0, e1, e4, e5, e8, e9, hH⟩
  refine wp_seq ?_
  refine wp_regionF ?_
  refine lf_val (v := .bool false) (wantAll rfl) (rv_lss rfl (fr_eval rfl e9) (fr_eval rfl e8) (decide_eq_false (by omega))) ?_
  refine lf_nil ?_
  refine then_n ?_
  refine wp_seq ?_
  refine wp_gen (fun F' => F' 0 = .pointer none ∧ F' 1 = .int .i64 z ∧ F' 4 = .slice none 0 0 ∧ F' 5 = .slice none 0 0 ∧ F' 8 = .int .i64 0 ∧ F' 9 = .int .i64 ((i : Nat) : Int) ∧ F' 10 = .bool false) ⟨e0, e1, e4, e5, e8, e9, rfl⟩ ?_
  clear e0 e1 e4 e5 e8 e9
  clear F
  rintro F ⟨e0, e1, e4, e5, e8, e9, e10⟩
  refine wp_cond_false (fr_eval rfl e10) ?_
  refine wp_exit ?_
  refine then_exit ?_
  refine then_exit ?_
  refine blk_exit ?_
  refine then_n ?_
  refine wp_seq ?_
  refine wp_regionF ?_
  refine lf_val (v := .slice none 0 0) (wantAll rfl) (rv_move rfl (fr_eval rfl e5)) ?_
  refine lf_val (v := .slice none 0 0) (wantAll rfl) (rv_assign rfl (fr_eval rfl rfl)) ?_
  refine lf_nil ?_
  refine then_n ?_
  refine wp_gen (fun F' => F' 0 = .pointer none ∧ F' 1 = .int .i64 z ∧ F' 4 = .slice none 0 0 ∧ F' 5 = .slice none 0 0 ∧ F' 8 = .int .i64 0 ∧ F' 9 = .int .i64 ((i : Nat) : Int) ∧ F' 10 = .bool false) ⟨e0, e1, rfl, e5, e8, e9, e10⟩ ?_
  clear e0 e1 e4 e5 e8 e9 e10
  clear F
  rintro F ⟨e0, e1, e4, e5, e8, e9, e10⟩
  refine wp_ret ?_
  exact bodyPost_ret (v := (.slice none 0 0)) (res1 rfl (ro_tmp rfl e4)) rfl (⟨rfl, hH.done⟩)

set_option maxRecDepth 100000 in
set_option maxHeartbeats 4000000 in
theorem netFor_calls {g : Nat} {v : Value} (ls : List Lt) (hl : ls.length ≤ 64) (lost : Nat) (z : Int) (w : World) (hB0 : Blk w g ([v, .int .i64 ((lost : Nat) : Int)]) 69) (hn0 : Rd w 2 v ls.length (ls.flatMap cLt)) :
    Calls Try.prog 42 #[.pointer (some ⟨g, 0, none⟩), .int .i64 z] w fun e'' w' => (∃ v', e'' = .returned v' ∧ Own w' 3 1 v' (forK ls z ls.length).length ((forK ls z ls.length).flatMap cNu) ∧ ∀ k, v'.ownBlock = some k → w.heap.size ≤ k) ∧ Ext w w' := by
  refine calls_fr (args := [.pointer (some ⟨g, 0, none⟩), .int .i64 z]) (n := 28) Try.func42 rfl rfl (show 2 ≤ 28 by decide) ?_
  have hn := Rd.stab hn0
  have hB := Blk.stab hB0
  have hH : Heap (newN w) w w [] := Heap.fresh
  refine wp_seq ?_
  refine wp_gen (fun F' => F' 0 = .pointer (some ⟨g, 0, none⟩) ∧ F' 1 = .int .i64 z) ⟨rfl, rfl⟩ ?_
  rintro F ⟨e0, e1⟩
  refine wp_regionF ?_
  refine lf_val (v := .slice none 0 0) (wantAll rfl) (rv_assign rfl rfl) ?_
  refine lf_nil ?_
  refine then_n ?_
  refine wp_seq ?_
  refine wp_gen (fun F' => F' 0 = .pointer (some ⟨g, 0, none⟩) ∧ F' 1 = .int .i64 z ∧ F' 4 = .slice none 0 0) ⟨e0, e1, rfl⟩ ?_
  clear e0 e1
  clear F
  rintro F ⟨e0, e1, e4⟩
  refine wp_regionF ?_
  refine lf_val (v := .slice none 0 0) (wantAll rfl) (rv_assign rfl rfl) ?_
  refine lf_nil ?_
  refine then_n ?_
  refine wp_seq ?_
  refine wp_seq ?_
  refine wp_gen (fun F' => F' 0 = .pointer (some ⟨g, 0, none⟩) ∧ F' 1 = .int .i64 z ∧ F' 4 = .slice none 0 0 ∧ F' 5 = .slice none 0 0) ⟨e0, e1, e4, rfl⟩ ?_
  clear e0 e1 e4
  clear F
  rintro F ⟨e0, e1, e4, e5⟩
  refine wp_regionF ?_
  refine lf_val (v := .pointer (some ⟨g, 0, none⟩)) (wantAll rfl) (rv_move rfl (fr_eval rfl e0)) ?_
  refine lf_call (wantAll rfl) (rv_call (args := [.pointer (some ⟨g, 0, none⟩)]) rfl (evc (fr_eval rfl rfl) evn) Try.call40) (netLen_calls ls lost _ (hB _ hH.chg) (hn.rd _ hH.chg)) ?_
  rintro _ w1 ⟨rfl, hx⟩
  refine ⟨_, rfl, ?_⟩
  replace hH := hH.ext hx
  clear hx
  refine lf_val (v := .int .i64 0) (wantAll rfl) (rv_move rfl rfl) ?_
  refine lf_nil ?_
  refine then_n ?_
  refine wp_block ?_
  replace hH : Heap _ _ _ [_] := hH.addNil 3 1
  replace hH : Heap (newN w) w w1 [oRow cNu 3 1 (.slice none 0 0) (forK ls z 0)] := hH
  refine wp_gen (fun F' => F' 0 = .pointer (some ⟨g, 0, none⟩) ∧ F' 1 = .int .i64 z ∧ F' 4 = .slice none 0 0 ∧ F' 5 = (.slice none 0 0) ∧ F' 8 = .int .i64 ((ls.length : Nat) : Int) ∧ F' 9 = .int .i64 0) ⟨e0, e1, e4, e5, rfl, rfl⟩ ?_
  clear e0 e1 e4 e5
  clear F
  rintro F ⟨e0, e1, e4, e5, e8, e9⟩
  refine wp_loopF (fun m F wr => ∃ i : Nat, ∃ u : Value, m = ls.length - i ∧ i ≤ ls.length ∧ F 0 = .pointer (some ⟨g, 0, none⟩) ∧ F 1 = .int .i64 z ∧ F 4 = .slice none 0 0 ∧ F 5 = u ∧ F 8 = .int .i64 ((ls.length : Nat) : Int) ∧ F 9 = .int .i64 ((i : Nat) : Int) ∧ Heap (newN w) w wr [oRow cNu 3 1 u (forK ls z i)]) ⟨0, _, rfl, Nat.zero_le _, e0, e1, e4, e5, e8, e9, hH⟩ ?_
  clear e0 e1 e4 e5 e8 e9 hH
  clear F
  rintro m F w2 ⟨i, u, rfl, pi0, e0, e1, e4, e5, e8, e9, hH⟩
  refine wp_seq ?_
  refine wp_regionF ?_
  refine lf_val (v := .bool (decide (i < ls.length))) (wantAll rfl) (rv_lssP (p := i < ls.length) rfl (fr_eval rfl e9) (fr_eval rfl e8) (by omega)) ?_
  refine lf_nil ?_
  refine then_n ?_
  refine wp_seq ?_
  refine wp_gen (fun F' => F' 0 = .pointer (some ⟨g, 0, none⟩) ∧ F' 1 = .int .i64 z ∧ F' 4 = .slice none 0 0 ∧ F' 5 = u ∧ F' 8 = .int .i64 ((ls.length : Nat) : Int) ∧ F' 9 = .int .i64 ((i : Nat) : Int) ∧ F' 10 = .bool (decide (i < ls.length))) ⟨e0, e1, e4, e5, e8, e9, rfl⟩ ?_
  clear e0 e1 e4 e5 e8 e9
  clear F
  rintro F ⟨e0, e1, e4, e5, e8, e9, e10⟩
  by_cases hc1 : i < ls.length
  · refine wp_cond_true (fr_eval rfl (e10.trans (congrArg Value.bool (decide_eq_true hc1)))) ?_
    refine wp_skip ?_
    refine then_n ?_
    refine wp_seq ?_
    refine wp_block ?_
    refine wp_seq ?_
    refine wp_regionF ?_
    refine lf_val (v := .int .i64 ((i : Nat) : Int)) (wantAll rfl) (rv_move rfl (fr_eval rfl e9)) ?_
    refine lf_val (v := .int .i64 ((i : Nat) : Int)) (wantAll rfl) (rv_assign rfl (fr_eval rfl rfl)) ?_
    refine lf_nil ?_
    refine then_n ?_
    refine wp_seq ?_
    refine wp_gen (fun F' => F' 0 = .pointer (some ⟨g, 0, none⟩) ∧ F' 1 = .int .i64 z ∧ F' 4 = .slice none 0 0 ∧ F' 5 = u ∧ F' 6 = .int .i64 ((i : Nat) : Int) ∧ F' 8 = .int .i64 ((ls.length : Nat) : Int) ∧ F' 9 = .int .i64 ((i : Nat) : Int) ∧ F' 10 = .bool true) ⟨e0, e1, e4, e5, rfl, e8, e9, (e10.trans (congrArg Value.bool (decide_eq_true hc1)))⟩ ?_
    clear e0 e1 e4 e5 e8 e9 e10
    clear F
    rintro F ⟨e0, e1, e4, e5, e6, e8, e9, e10⟩
    refine wp_regionF ?_
    refine lf_val (v := .pointer (some ⟨g, 0, none⟩)) (wantAll rfl) (rv_move rfl (fr_eval rfl e0)) ?_
    refine lf_val (v := .pointer (some ⟨g, 0, none⟩)) (wantAll rfl) (rv_nilCheck rfl (fr_eval rfl rfl)) ?_
    refine lf_val (v := .pointer (some ⟨g, 0, none⟩)) (wantAll rfl) (rv_fieldAddr (n := 0) rfl (fr_eval rfl rfl) Try.underlying69 rfl rfl (by kernel_rfl)) ?_
    refine lf_val (v := v) (wantAll rfl) (rv_load1 rfl (hB _ hH.chg) zNe_g2 (fr_eval rfl rfl) Try.underlying67 rfl Try.sz67) ?_
    refine lf_val (v := .int .i64 ((i : Nat) : Int)) (wantAll rfl) (rv_move rfl (fr_eval rfl e6)) ?_
    refine lf_val (v := .pointer (some (elemA v (i * 2)))) (wantAll rfl) (rv_index rfl (fr_eval rfl rfl) (fr_eval rfl rfl) (rdN (hn.rd _ hH.chg) rfl) (show i < ls.length from (by omega)) Try.underlying67 Try.sz87 (by decide)) ?_
    refine lf_val (v := .pointer (some (elemA v (i * 2 + 0)))) (wantAll rfl) (rv_fieldElem (nn := 0) rfl (fr_eval rfl rfl) (hn.rd _ hH.chg) (by omega) (by decide) Try.underlying87 rfl rfl (by kernel_rfl)) ?_
    refine lf_val (v := .int .i64 ((List.getD ls i zLt).to)) (wantAll rfl) (rv_loadCell rfl (fr_eval rfl rfl) rfl (hn.rd _ hH.chg) (flat_get zLt cLt_len (by omega) (show (cLt (List.getD ls i zLt))[0]? = some (.int .i64 ((List.getD ls i zLt).to)) from zNe_g2) (by decide)) Try.underlying3 rfl Try.sz3) ?_
    refine lf_val (v := .int .i64 z) (wantAll rfl) (rv_move rfl (fr_eval rfl e1)) ?_
    refine lf_val (v := .bool (decide ((List.getD ls i zLt).to = z))) (wantAll rfl) (rv_eqlP (p := (List.getD ls i zLt).to = z) rfl (fr_eval rfl rfl) (fr_eval rfl rfl) Iff.rfl) ?_
    refine lf_nil ?_
    refine then_n ?_
    refine wp_gen (fun F' => F' 0 = .pointer (some ⟨g, 0, none⟩) ∧ F' 1 = .int .i64 z ∧ F' 4 = .slice none 0 0 ∧ F' 5 = u ∧ F' 6 = .int .i64 ((i : Nat) : Int) ∧ F' 8 = .int .i64 ((ls.length : Nat) : Int) ∧ F' 9 = .int .i64 ((i : Nat) : Int) ∧ F' 10 = .bool true ∧ F' 21 = .bool (decide ((List.getD ls i zLt).to = z))) ⟨e0, e1, e4, e5, e6, e8, e9, e10, rfl⟩ ?_
    clear e0 e1 e4 e5 e6 e8 e9 e10
    clear F
    rintro F ⟨e0, e1, e4, e5, e6, e8, e9, e10, e21⟩
    by_cases hc2 : (List.getD ls i zLt).to = z
    · refine wp_cond_true (fr_eval rfl (e21.trans (congrArg Value.bool (decide_eq_true hc2)))) ?_
      refine wp_regionF ?_
      refine lf_val (v := u) (wantAll rfl) (rv_move rfl (fr_eval rfl e5)) ?_
      refine lf_val (v := .int .i64 ((i : Nat) : Int)) (wantAll rfl) (rv_move rfl (fr_eval rfl e6)) ?_
      refine lf_ex (wantAll rfl) (hx_lits hH Try.stInt (n := 1) (nm := List.length [i]) [(.tmp 23)] (vs := [(.int .i64 ((i : Nat) : Int))]) (cs := List.flatMap cNu [i]) rfl (evc (fr_eval rfl rfl) evn) (row_one (l := [i]) cNu_one) rfl (by decide) rfl rfl) ?_
      clear hH
      rintro y1 w3 ⟨hH, hx⟩
      replace hH : Heap _ _ _ [_, _] := hH
      clear hx
      refine lf_ex (wantAll rfl) (hx_append hH Try.stInt (i := 0) (xs' := ((forK ls z i) ++ [i]).flatMap cNu) (nm := ((forK ls z i) ++ [i]).length) rfl rfl (fun _ => rfl) List.length_append.symm List.flatMap_append.symm (Own.rd (hH.own (i := 1) rfl) (row_one cNu_one)) (fr_eval rfl rfl) (fr_eval rfl rfl) (by have := forK_le ls z i; simp only [List.length_append, List.length_cons, List.length_nil]; omega)) ?_
      clear hH
      rintro y2 w4 ⟨hH, hx⟩
      replace hH : Heap _ _ _ [_, _] := hH
      clear hx
      refine lf_val (v := y2) (wantAll rfl) (rv_assign rfl (fr_eval rfl rfl)) ?_
      refine lf_nil ?_
      refine blk_n ?_
      refine then_n ?_
      replace hH : Heap _ _ _ [_] := hH.drop (.cons_cons _ (.cons _ .slnil))
      refine wp_gen (fun F' => F' 0 = .pointer (some ⟨g, 0, none⟩) ∧ F' 1 = .int .i64 z ∧ F' 4 = .slice none 0 0 ∧ F' 5 = y2 ∧ F' 6 = .int .i64 ((i : Nat) : Int) ∧ F' 8 = .int .i64 ((ls.length : Nat) : Int) ∧ F' 9 = .int .i64 ((i : Nat) : Int) ∧ F' 10 = .bool true ∧ F' 21 = .bool true) ⟨e0, e1, e4, rfl, e6, e8, e9, e10, (e21.trans (congrArg Value.bool (decide_eq_true hc2)))⟩ ?_
      clear e0 e1 e4 e5 e6 e8 e9 e10 e21
      clear F
      rintro F ⟨e0, e1, e4, e5, e6, e8, e9, e10, e21⟩
      refine wp_regionF ?_
      refine lf_val (v := .int .i64 ((i + 1 : Nat) : Int)) (wantAll rfl) (rv_add rfl (fr_eval rfl e9) rfl (wrap_i64 (by omega) (by omega) (by omega))) ?_
      refine lf_val (v := .int .i64 ((i + 1 : Nat) : Int)) (wantAll rfl) (rv_move rfl (fr_eval rfl rfl)) ?_
      refine lf_nil ?_
      refine then_n ?_
      rw [show (forK ls z i) ++ [i] = forK ls z (i + 1) from forK_yes hc2] at hH
      exact ⟨_, _, (by omega), rfl, i + 1, _, rfl, (by omega), e0, e1, e4, e5, e8, rfl, hH⟩
    · refine wp_cond_false (fr_eval rfl (e21.trans (congrArg Value.bool (decide_eq_false hc2)))) ?_
      refine wp_skip ?_
      refine blk_n ?_
      refine then_n ?_
      refine wp_regionF ?_
      refine lf_val (v := .int .i64 ((i + 1 : Nat) : Int)) (wantAll rfl) (rv_add rfl (fr_eval rfl e9) rfl (wrap_i64 (by omega) (by omega) (by omega))) ?_
      refine lf_val (v := .int .i64 ((i + 1 : Nat) : Int)) (wantAll rfl) (rv_move rfl (fr_eval rfl rfl)) ?_
      refine lf_nil ?_
      refine then_n ?_
      rw [show forK ls z i = forK ls z (i + 1) from forK_no hc2] at hH
      exact ⟨_, _, (by omega), rfl, i + 1, _, rfl, (by omega), e0, e1, e4, e5, e8, rfl, hH⟩
  · refine wp_cond_false (fr_eval rfl (e10.trans (congrArg Value.bool (decide_eq_false hc1)))) ?_
    refine wp_exit ?_
    refine then_exit ?_
    refine then_exit ?_
    refine blk_exit ?_
    refine then_n ?_
    refine wp_seq ?_
    obtain rfl : i = ls.length := by omega
    refine wp_regionF ?_
    refine lf_val (v := u) (wantAll rfl) (rv_move rfl (fr_eval rfl e5)) ?_
    refine lf_val (v := u) (wantAll rfl) (rv_assign rfl (fr_eval rfl rfl)) ?_
    refine lf_nil ?_
    refine then_n ?_
    refine wp_gen (fun F' => F' 0 = .pointer (some ⟨g, 0, none⟩) ∧ F' 1 = .int .i64 z ∧ F' 4 = u ∧ F' 5 = u ∧ F' 8 = .int .i64 ((ls.length : Nat) : Int) ∧ F' 9 = .int .i64 ((ls.length : Nat) : Int) ∧ F' 10 = .bool false) ⟨e0, e1, rfl, e5, e8, e9, (e10.trans (congrArg Value.bool (decide_eq_false hc1)))⟩ ?_
    clear e0 e1 e4 e5 e8 e9 e10
    clear F
    rintro F ⟨e0, e1, e4, e5, e8, e9, e10⟩
    refine wp_ret ?_
    exact bodyPost_ret (v := u) (res1 rfl (ro_tmp rfl e4)) rfl (⟨⟨_, rfl, hH.own (i := 0) rfl, hH.ge (i := 0) rfl⟩, hH.done⟩)

set_option maxRecDepth 100000 in
set_option maxHeartbeats 4000000 in
theorem netPeek_nil (z : Int) (w : World) :
    Calls Try.prog 43 #[.pointer none, .int .i64 z] w fun e'' w' => e'' = .returned (.tuple #[.agg #[.int .i64 0, .slice none 0 0], .int .i64 7]) ∧ Ext w w' := by
  refine calls_fr (args := [.pointer none, .int .i64 z]) (n := 28) Try.func43 rfl rfl (show 2 ≤ 28 by decide) ?_
  have hH : Heap (newN w) w w [] := Heap.fresh
  refine wp_seq ?_
  refine wp_gen (fun F' => F' 0 = .pointer none ∧ F' 1 = .int .i64 z) ⟨rfl, rfl⟩ ?_
  rintro F ⟨e0, e1⟩
  refine wp_regionF ?_
  refine lf_ex (wantAll rfl) (hx_alloc hH 87 (z := .agg ([.int .i64 0, .slice none 0 0]).toArray) (n := 2) (cs := [.int .i64 0, .slice none 0 0]) rfl (by kernel_rfl) (by rfl)) ?_
  clear hH
  rintro _ w1 ⟨g1, rfl, hH, hx⟩
  replace hH : Heap _ _ _ [_] := hH
  clear hx
  refine lf_val (v := .int .i64 0) (wantAll rfl) (rv_assign rfl rfl) ?_
  refine lf_nil ?_
  refine then_n ?_
  refine wp_seq ?_
  refine wp_seq ?_
  refine wp_gen (fun F' => F' 0 = .pointer none ∧ F' 1 = .int .i64 z ∧ F' 4 = .pointer (some ⟨g1, 0, none⟩) ∧ F' 5 = .int .i64 0) ⟨e0, e1, rfl, rfl⟩ ?_
  clear e0 e1
  clear F
  rintro F ⟨e0, e1, e4, e5⟩
  refine wp_regionF ?_
  refine lf_val (v := .int .i64 z) (wantAll rfl) (rv_move rfl (fr_eval rfl e1)) ?_
  refine lf_val (v := .bool (decide (z < 0))) (wantAll rfl) (rv_lssP (p := z < 0) rfl (fr_eval rfl rfl) rfl Iff.rfl) ?_
  refine lf_val (v := .bool (decide (z < 0))) (wantAll rfl) (rv_move rfl (fr_eval rfl rfl)) ?_
  by_cases hc1 : z < 0
  · refine lf_not (wantNot (d := 9) rfl (by kernel_rfl) rfl (congrArg Value.bool (decide_eq_true hc1))) ?_
    refine lf_not (wantNot (d := 9) rfl (by kernel_rfl) rfl (congrArg Value.bool (decide_eq_true hc1))) ?_
    refine lf_not (wantNot (d := 9) rfl (by kernel_rfl) rfl (congrArg Value.bool (decide_eq_true hc1))) ?_
    refine lf_not (wantNot (d := 9) rfl (by kernel_rfl) rfl (congrArg Value.bool (decide_eq_true hc1))) ?_
    refine lf_val (v := .bool true) (wantAll rfl) (rv_pickT rfl (fr_eval rfl (congrArg Value.bool (decide_eq_true hc1))) rfl) ?_
    refine lf_nil ?_
    refine then_n ?_
    refine wp_gen (fun F' => F' 0 = .pointer none ∧ F' 1 = .int .i64 z ∧ F' 4 = .pointer (some ⟨g1, 0, none⟩) ∧ F' 5 = .int .i64 0 ∧ F' 14 = .bool true) ⟨e0, e1, e4, e5, rfl⟩ ?_
    clear e0 e1 e4 e5
    clear F
    rintro F ⟨e0, e1, e4, e5, e14⟩
    refine wp_cond_true (fr_eval rfl e14) ?_
    refine wp_seq ?_
    refine wp_regionF ?_
    refine lf_val (v := .agg #[.int .i64 0, .slice none 0 0]) (wantAll rfl) (rv_buildS (ps := []) (places := #[(0, 1), (1, 1)]) (z := .agg #[.int .i64 0, .slice none 0 0]) (zc := [.int .i64 0, .slice none 0 0]) (cs := [.int .i64 0, .slice none 0 0]) rfl evpn (by kernel_rfl) rfl Try.underlying87 (fun _ => by kernel_rfl) fill0) ?_
    refine lf_sk (wantAll rfl) (hx_storeW hH (i := 0) (cs := [.int .i64 0, .slice none 0 0]) rfl rfl rfl (fr_eval rfl e4) (fr_eval rfl rfl) (sz_len Try.sz87 zNe_l4) ((zNe_l4).trans (zNe_l4).symm) (zNe_o5 rfl rfl)) ?_
    clear hH
    rintro w2 ⟨hH, hx⟩
    replace hH : Heap _ _ _ [_] := hH
    clear hx
    refine lf_val (v := .int .i64 7) (wantAll rfl) (rv_assign rfl rfl) ?_
    refine lf_nil ?_
    refine then_n ?_
    refine wp_gen (fun F' => F' 0 = .pointer none ∧ F' 1 = .int .i64 z ∧ F' 4 = .pointer (some ⟨g1, 0, none⟩) ∧ F' 5 = .int .i64 7 ∧ F' 14 = .bool true) ⟨e0, e1, e4, rfl, e14⟩ ?_
    clear e0 e1 e4 e5 e14
    clear F
    rintro F ⟨e0, e1, e4, e5, e14⟩
    refine wp_ret ?_
    refine then_ret ?_
    exact bodyPost_ret (v := .tuple #[.agg #[.int .i64 0, .slice none 0 0], .int .i64 7]) (res2 rfl (ro_cell rfl e4 (hH.blk (i := 0) rfl) Try.underlying87 rfl (sz_len Try.sz87 zNe_l4)) (ro_tmp rfl e5)) rfl (⟨rfl, hH.done⟩)
  · refine lf_val (v := .int .i64 z) (wantF (d := 9) rfl (by kernel_rfl) rfl (congrArg Value.bool (decide_eq_false hc1))) (rv_move rfl (fr_eval rfl e1)) ?_
    refine lf_val (v := .pointer none) (wantF (d := 9) rfl (by kernel_rfl) rfl (congrArg Value.bool (decide_eq_false hc1))) (rv_move rfl (fr_eval rfl e0)) ?_
    refine lf_call (wantF (d := 9) rfl (by kernel_rfl) rfl (congrArg Value.bool (decide_eq_false hc1))) (rv_call (args := [.pointer none]) rfl (evc (fr_eval rfl rfl) evn) Try.call40) (netLen_calls_nil _) ?_
    rintro _ w3 ⟨rfl, hx⟩
    refine ⟨_, rfl, ?_⟩
    replace hH := hH.ext hx
    clear hx
    refine lf_val (v := .bool true) (wantF (d := 9) rfl (by kernel_rfl) rfl (congrArg Value.bool (decide_eq_false hc1))) (rv_geq rfl (fr_eval rfl rfl) (fr_eval rfl rfl) (decide_eq_true (by omega))) ?_
    refine lf_val (v := .bool true) (wantAll rfl) (rv_pickF rfl (fr_eval rfl (congrArg Value.bool (decide_eq_false hc1))) (fr_eval rfl rfl)) ?_
    refine lf_nil ?_
    refine then_n ?_
    refine wp_gen (fun F' => F' 0 = .pointer none ∧ F' 1 = .int .i64 z ∧ F' 4 = .pointer (some ⟨g1, 0, none⟩) ∧ F' 5 = .int .i64 0 ∧ F' 14 = .bool true) ⟨e0, e1, e4, e5, rfl⟩ ?_
    clear e0 e1 e4 e5
    clear F
    rintro F ⟨e0, e1, e4, e5, e14⟩
    refine wp_cond_true (fr_eval rfl e14) ?_
    refine wp_seq ?_
    refine wp_regionF ?_
    refine lf_val (v := .agg #[.int .i64 0, .slice none 0 0]) (wantAll rfl) (rv_buildS (ps := []) (places := #[(0, 1), (1, 1)]) (z := .agg #[.int .i64 0, .slice none 0 0]) (zc := [.int .i64 0, .slice none 0 0]) (cs := [.int .i64 0, .slice none 0 0]) rfl evpn (by kernel_rfl) rfl Try.underlying87 (fun _ => by kernel_rfl) fill0) ?_
    refine lf_sk (wantAll rfl) (hx_storeW hH (i := 0) (cs := [.int .i64 0, .slice none 0 0]) rfl rfl rfl (fr_eval rfl e4) (fr_eval rfl rfl) (sz_len Try.sz87 zNe_l4) ((zNe_l4).trans (zNe_l4).symm) (zNe_o5 rfl rfl)) ?_
    clear hH
    rintro w4 ⟨hH, hx⟩
    replace hH : Heap _ _ _ [_] := hH
    clear hx
    refine lf_val (v := .int .i64 7) (wantAll rfl) (rv_assign rfl rfl) ?_
    refine lf_nil ?_
    refine then_n ?_
    refine wp_gen (fun F' => F' 0 = .pointer none ∧ F' 1 = .int .i64 z ∧ F' 4 = .pointer (some ⟨g1, 0, none⟩) ∧ F' 5 = .int .i64 7 ∧ F' 14 = .bool true) ⟨e0, e1, e4, rfl, e14⟩ ?_
    clear e0 e1 e4 e5 e14
    clear F
    rintro F ⟨e0, e1, e4, e5, e14⟩
    refine wp_ret ?_
    refine then_ret ?_
    exact bodyPost_ret (v := .tuple #[.agg #[.int .i64 0, .slice none 0 0], .int .i64 7]) (res2 rfl (ro_cell rfl e4 (hH.blk (i := 0) rfl) Try.underlying87 rfl (sz_len Try.sz87 zNe_l4)) (ro_tmp rfl e5)) rfl (⟨rfl, hH.done⟩)

set_option maxRecDepth 100000 in
set_option maxHeartbeats 4000000 in
theorem netPeek_no {g : Nat} {v : Value} (ls : List Lt) (hl : ls.length ≤ 64) (lost : Nat) (z : Int) (ho : ¬ (0 ≤ z ∧ z < (ls.length : Int))) (w : World) (hB0 : Blk w g ([v, .int .i64 ((lost : Nat) : Int)]) 69) (hn0 : Rd w 2 v ls.length (ls.flatMap cLt)) :
    Calls Try.prog 43 #[.pointer (some ⟨g, 0, none⟩), .int .i64 z] w fun e'' w' => e'' = .returned (.tuple #[.agg #[.int .i64 0, .slice none 0 0], .int .i64 7]) ∧ Ext w w' := by
  refine calls_fr (args := [.pointer (some ⟨g, 0, none⟩), .int .i64 z]) (n := 28) Try.func43 rfl rfl (show 2 ≤ 28 by decide) ?_
  have hn := Rd.stab hn0
  have hB := Blk.stab hB0
  have hH : Heap (newN w) w w [] := Heap.fresh
  refine wp_seq ?_
  refine wp_gen (fun F' => F' 0 = .pointer (some ⟨g, 0, none⟩) ∧ F' 1 = .int .i64 z) ⟨rfl, rfl⟩ ?_
  rintro F ⟨e0, e1⟩
  refine wp_regionF ?_
  refine lf_ex (wantAll rfl) (hx_alloc hH 87 (z := .agg ([.int .i64 0, .slice none 0 0]).toArray) (n := 2) (cs := [.int .i64 0, .slice none 0 0]) rfl (by kernel_rfl) (by rfl)) ?_
  clear hH
  rintro _ w1 ⟨g1, rfl, hH, hx⟩
  replace hH : Heap _ _ _ [_] := hH
  clear hx
  refine lf_val (v := .int .i64 0) (wantAll rfl) (rv_assign rfl rfl) ?_
  refine lf_nil ?_
  refine then_n ?_
  refine wp_seq ?_
  refine wp_seq ?_
  refine wp_gen (fun F' => F' 0 = .pointer (some ⟨g, 0, none⟩) ∧ F' 1 = .int .i64 z ∧ F' 4 = .pointer (some ⟨g1, 0, none⟩) ∧ F' 5 = .int .i64 0) ⟨e0, e1, rfl, rfl⟩ ?_
  clear e0 e1
  clear F
  rintro F ⟨e0, e1, e4, e5⟩
  refine wp_regionF ?_
  refine lf_val (v := .int .i64 z) (wantAll rfl) (rv_move rfl (fr_eval rfl e1)) ?_
  refine lf_val (v := .bool (decide (z < 0))) (wantAll rfl) (rv_lssP (p := z < 0) rfl (fr_eval rfl rfl) rfl Iff.rfl) ?_
  refine lf_val (v := .bool (decide (z < 0))) (wantAll rfl) (rv_move rfl (fr_eval rfl rfl)) ?_
  by_cases hc1 : z < 0
  · refine lf_not (wantNot (d := 9) rfl (by kernel_rfl) rfl (congrArg Value.bool (decide_eq_true hc1))) ?_
    refine lf_not (wantNot (d := 9) rfl (by kernel_rfl) rfl (congrArg Value.bool (decide_eq_true hc1))) ?_
    refine lf_not (wantNot (d := 9) rfl (by kernel_rfl) rfl (congrArg Value.bool (decide_eq_true hc1))) ?_
    refine lf_not (wantNot (d := 9) rfl (by kernel_rfl) rfl (congrArg Value.bool (decide_eq_true hc1))) ?_
    refine lf_val (v := .bool true) (wantAll rfl) (rv_pickT rfl (fr_eval rfl (congrArg Value.bool (decide_eq_true hc1))) rfl) ?_
    refine lf_nil ?_
    refine then_n ?_
    refine wp_gen (fun F' => F' 0 = .pointer (some ⟨g, 0, none⟩) ∧ F' 1 = .int .i64 z ∧ F' 4 = .pointer (some ⟨g1, 0, none⟩) ∧ F' 5 = .int .i64 0 ∧ F' 14 = .bool true) ⟨e0, e1, e4, e5, rfl⟩ ?_
    clear e0 e1 e4 e5
    clear F
    rintro F ⟨e0, e1, e4, e5, e14⟩
    refine wp_cond_true (fr_eval rfl e14) ?_
    refine wp_seq ?_
    refine wp_regionF ?_
    refine lf_val (v := .agg #[.int .i64 0, .slice none 0 0]) (wantAll rfl) (rv_buildS (ps := []) (places := #[(0, 1), (1, 1)]) (z := .agg #[.int .i64 0, .slice none 0 0]) (zc := [.int .i64 0, .slice none 0 0]) (cs := [.int .i64 0, .slice none 0 0]) rfl evpn (by kernel_rfl) rfl Try.underlying87 (fun _ => by kernel_rfl) fill0) ?_
    refine lf_sk (wantAll rfl) (hx_storeW hH (i := 0) (cs := [.int .i64 0, .slice none 0 0]) rfl rfl rfl (fr_eval rfl e4) (fr_eval rfl rfl) (sz_len Try.sz87 zNe_l4) ((zNe_l4).trans (zNe_l4).symm) (zNe_o5 rfl rfl)) ?_
    clear hH
    rintro w2 ⟨hH, hx⟩
    replace hH : Heap _ _ _ [_] := hH
    clear hx
    refine lf_val (v := .int .i64 7) (wantAll rfl) (rv_assign rfl rfl) ?_
    refine lf_nil ?_
    refine then_n ?_
    refine wp_gen (fun F' => F' 0 = .pointer (some ⟨g, 0, none⟩) ∧ F' 1 = .int .i64 z ∧ F' 4 = .pointer (some ⟨g1, 0, none⟩) ∧ F' 5 = .int .i64 7 ∧ F' 14 = .bool true) ⟨e0, e1, e4, rfl, e14⟩ ?_
    clear e0 e1 e4 e5 e14
    clear F
    rintro F ⟨e0, e1, e4, e5, e14⟩
    refine wp_ret ?_
    refine then_ret ?_
    exact bodyPost_ret (v := .tuple #[.agg #[.int .i64 0, .slice none 0 0], .int .i64 7]) (res2 rfl (ro_cell rfl e4 (hH.blk (i := 0) rfl) Try.underlying87 rfl (sz_len Try.sz87 zNe_l4)) (ro_tmp rfl e5)) rfl (⟨rfl, hH.done⟩)
  · refine lf_val (v := .int .i64 z) (wantF (d := 9) rfl (by kernel_rfl) rfl (congrArg Value.bool (decide_eq_false hc1))) (rv_move rfl (fr_eval rfl e1)) ?_
    refine lf_val (v := .pointer (some ⟨g, 0, none⟩)) (wantF (d := 9) rfl (by kernel_rfl) rfl (congrArg Value.bool (decide_eq_false hc1))) (rv_move rfl (fr_eval rfl e0)) ?_
    refine lf_call (wantF (d := 9) rfl (by kernel_rfl) rfl (congrArg Value.bool (decide_eq_false hc1))) (rv_call (args := [.pointer (some ⟨g, 0, none⟩)]) rfl (evc (fr_eval rfl rfl) evn) Try.call40) (netLen_calls ls lost _ (hB _ hH.chg) (hn.rd _ hH.chg)) ?_
    rintro _ w3 ⟨rfl, hx⟩
    refine ⟨_, rfl, ?_⟩
    replace hH := hH.ext hx
    clear hx
    refine lf_val (v := .bool true) (wantF (d := 9) rfl (by kernel_rfl) rfl (congrArg Value.bool (decide_eq_false hc1))) (rv_geq rfl (fr_eval rfl rfl) (fr_eval rfl rfl) (decide_eq_true (by omega))) ?_
    refine lf_val (v := .bool true) (wantAll rfl) (rv_pickF rfl (fr_eval rfl (congrArg Value.bool (decide_eq_false hc1))) (fr_eval rfl rfl)) ?_
    refine lf_nil ?_
    refine then_n ?_
    refine wp_gen (fun F' => F' 0 = .pointer (some ⟨g, 0, none⟩) ∧ F' 1 = .int .i64 z ∧ F' 4 = .pointer (some ⟨g1, 0, none⟩) ∧ F' 5 = .int .i64 0 ∧ F' 14 = .bool true) ⟨e0, e1, e4, e5, rfl⟩ ?_
    clear e0 e1 e4 e5
    clear F
    rintro F ⟨e0, e1, e4, e5, e14⟩
    refine wp_cond_true (fr_eval rfl e14) ?_
    refine wp_seq ?_
    refine wp_regionF ?_
    refine lf_val (v := .agg #[.int .i64 0, .slice none 0 0]) (wantAll rfl) (rv_buildS (ps := []) (places := #[(0, 1), (1, 1)]) (z := .agg #[.int .i64 0, .slice none 0 0]) (zc := [.int .i64 0, .slice none 0 0]) (cs := [.int .i64 0, .slice none 0 0]) rfl evpn (by kernel_rfl) rfl Try.underlying87 (fun _ => by kernel_rfl) fill0) ?_
    refine lf_sk (wantAll rfl) (hx_storeW hH (i := 0) (cs := [.int .i64 0, .slice none 0 0]) rfl rfl rfl (fr_eval rfl e4) (fr_eval rfl rfl) (sz_len Try.sz87 zNe_l4) ((zNe_l4).trans (zNe_l4).symm) (zNe_o5 rfl rfl)) ?_
    clear hH
    rintro w4 ⟨hH, hx⟩
    replace hH : Heap _ _ _ [_] := hH
    clear hx
    refine lf_val (v := .int .i64 7) (wantAll rfl) (rv_assign rfl rfl) ?_
    refine lf_nil ?_
    refine then_n ?_
    refine wp_gen (fun F' => F' 0 = .pointer (some ⟨g, 0, none⟩) ∧ F' 1 = .int .i64 z ∧ F' 4 = .pointer (some ⟨g1, 0, none⟩) ∧ F' 5 = .int .i64 7 ∧ F' 14 = .bool true) ⟨e0, e1, e4, rfl, e14⟩ ?_
    clear e0 e1 e4 e5 e14
    clear F
    rintro F ⟨e0, e1, e4, e5, e14⟩
    refine wp_ret ?_
    refine then_ret ?_
    exact bodyPost_ret (v := .tuple #[.agg #[.int .i64 0, .slice none 0 0], .int .i64 7]) (res2 rfl (ro_cell rfl e4 (hH.blk (i := 0) rfl) Try.underlying87 rfl (sz_len Try.sz87 zNe_l4)) (ro_tmp rfl e5)) rfl (⟨rfl, hH.done⟩)

set_option maxRecDepth 100000 in
set_option maxHeartbeats 4000000 in
theorem netPeek_yes {g : Nat} {v : Value} (ls : List Lt) (hl : ls.length ≤ 64) (lost : Nat) (i : Nat) (hi : i < ls.length) (hbl : (List.getD ls i zLt).b.length ≤ 100000000) (w : World) (hB0 : Blk w g ([v, .int .i64 ((lost : Nat) : Int)]) 69) (hn0 : Rd w 2 v ls.length (ls.flatMap cLt)) (hb0 : RdB w (List.getD ls i zLt).v.1 (List.getD ls i zLt).b) :
    Calls Try.prog 43 #[.pointer (some ⟨g, 0, none⟩), .int .i64 ((i : Nat) : Int)] w fun e'' w' => (∃ v', e'' = .returned (.tuple #[.agg ([.int .i64 (List.getD ls i zLt).to, v']).toArray, .int .i64 0]) ∧ OwnB w' v' (List.getD ls i zLt).b ∧ ∀ k, v'.ownBlock = some k → w.heap.size ≤ k) ∧ Ext w w' := by
  refine calls_fr (args := [.pointer (some ⟨g, 0, none⟩), .int .i64 ((i : Nat) : Int)]) (n := 28) Try.func43 rfl rfl (show 2 ≤ 28 by decide) ?_
  have hn := Rd.stab hn0
  have hb := Rd.stab hb0
  have hB := Blk.stab hB0
  have hH : Heap (newN w) w w [] := Heap.fresh
  refine wp_seq ?_
  refine wp_gen (fun F' => F' 0 = .pointer (some ⟨g, 0, none⟩) ∧ F' 1 = .int .i64 ((i : Nat) : Int)) ⟨rfl, rfl⟩ ?_
  rintro F ⟨e0, e1⟩
  refine wp_regionF ?_
  refine lf_ex (wantAll rfl) (hx_alloc hH 87 (z := .agg ([.int .i64 0, .slice none 0 0]).toArray) (n := 2) (cs := [.int .i64 0, .slice none 0 0]) rfl (by kernel_rfl) (by rfl)) ?_
  clear hH
  rintro _ w1 ⟨g1, rfl, hH, hx⟩
  replace hH : Heap _ _ _ [_] := hH
  clear hx
  refine lf_val (v := .int .i64 0) (wantAll rfl) (rv_assign rfl rfl) ?_
  refine lf_nil ?_
  refine then_n ?_
  refine wp_seq ?_
  refine wp_seq ?_
  refine wp_gen (fun F' => F' 0 = .pointer (some ⟨g, 0, none⟩) ∧ F' 1 = .int .i64 ((i : Nat) : Int) ∧ F' 4 = .pointer (some ⟨g1, 0, none⟩) ∧ F' 5 = .int .i64 0) ⟨e0, e1, rfl, rfl⟩ ?_
  clear e0 e1
  clear F
  rintro F ⟨e0, e1, e4, e5⟩
  refine wp_regionF ?_
  refine lf_val (v := .int .i64 ((i : Nat) : Int)) (wantAll rfl) (rv_move rfl (fr_eval rfl e1)) ?_
  refine lf_val (v := .bool false) (wantAll rfl) (rv_lss rfl (fr_eval rfl rfl) rfl (decide_eq_false (by omega))) ?_
  refine lf_val (v := .bool false) (wantAll rfl) (rv_move rfl (fr_eval rfl rfl)) ?_
  refine lf_val (v := .int .i64 ((i : Nat) : Int)) (wantF (d := 9) rfl (by kernel_rfl) rfl rfl) (rv_move rfl (fr_eval rfl e1)) ?_
  refine lf_val (v := .pointer (some ⟨g, 0, none⟩)) (wantF (d := 9) rfl (by kernel_rfl) rfl rfl) (rv_move rfl (fr_eval rfl e0)) ?_
  refine lf_call (wantF (d := 9) rfl (by kernel_rfl) rfl rfl) (rv_call (args := [.pointer (some ⟨g, 0, none⟩)]) rfl (evc (fr_eval rfl rfl) evn) Try.call40) (netLen_calls ls lost _ (hB _ hH.chg) (hn.rd _ hH.chg)) ?_
  rintro _ w2 ⟨rfl, hx⟩
  refine ⟨_, rfl, ?_⟩
  replace hH := hH.ext hx
  clear hx
  refine lf_val (v := .bool false) (wantF (d := 9) rfl (by kernel_rfl) rfl rfl) (rv_geq rfl (fr_eval rfl rfl) (fr_eval rfl rfl) (decide_eq_false (by omega))) ?_
  refine lf_val (v := .bool false) (wantAll rfl) (rv_pickF rfl (fr_eval rfl rfl) (fr_eval rfl rfl)) ?_
  refine lf_nil ?_
  refine then_n ?_
  refine wp_gen (fun F' => F' 0 = .pointer (some ⟨g, 0, none⟩) ∧ F' 1 = .int .i64 ((i : Nat) : Int) ∧ F' 4 = .pointer (some ⟨g1, 0, none⟩) ∧ F' 5 = .int .i64 0 ∧ F' 14 = .bool false) ⟨e0, e1, e4, e5, rfl⟩ ?_
  clear e0 e1 e4 e5
  clear F
  rintro F ⟨e0, e1, e4, e5, e14⟩
  refine wp_cond_false (fr_eval rfl e14) ?_
  refine wp_skip ?_
  refine then_n ?_
  refine wp_seq ?_
  refine wp_regionF ?_
  refine lf_val (v := .pointer (some ⟨g, 0, none⟩)) (wantAll rfl) (rv_move rfl (fr_eval rfl e0)) ?_
  refine lf_val (v := .pointer (some ⟨g, 0, none⟩)) (wantAll rfl) (rv_nilCheck rfl (fr_eval rfl rfl)) ?_
  refine lf_val (v := .pointer (some ⟨g, 0, none⟩)) (wantAll rfl) (rv_fieldAddr (n := 0) rfl (fr_eval rfl rfl) Try.underlying69 rfl rfl (by kernel_rfl)) ?_
  refine lf_val (v := v) (wantAll rfl) (rv_load1 rfl (hB _ hH.chg) zNe_g2 (fr_eval rfl rfl) Try.underlying67 rfl Try.sz67) ?_
  refine lf_val (v := .int .i64 ((i : Nat) : Int)) (wantAll rfl) (rv_move rfl (fr_eval rfl e1)) ?_
  refine lf_val (v := .pointer (some (elemA v (i * 2)))) (wantAll rfl) (rv_index rfl (fr_eval rfl rfl) (fr_eval rfl rfl) (rdN (hn.rd _ hH.chg) rfl) (show i < ls.length from hi) Try.underlying67 Try.sz87 (by decide)) ?_
  refine lf_val (wantAll rfl) (rv_loadElem rfl (fr_eval rfl rfl) (rdN (hn.rd _ hH.chg) rfl) (show i < ls.length from hi) (by decide) (flat_part zLt cLt_len (show i < ls.length from hi)) Try.underlying87 rfl Try.sz87) ?_
  refine lf_ex (wantAll rfl) (hx_alloc hH 87 (z := .agg ([.int .i64 0, .slice none 0 0]).toArray) (n := 2) (cs := [.int .i64 0, .slice none 0 0]) rfl (by kernel_rfl) (by rfl)) ?_
  clear hH
  rintro _ w3 ⟨g2, rfl, hH, hx⟩
  replace hH : Heap _ _ _ [_, _] := hH
  clear hx
  refine lf_sk (wantAll rfl) (hx_storeW hH (i := 1) (cs := [.int .i64 ((List.getD ls i zLt).to), (List.getD ls i zLt).v.1]) rfl rfl rfl (fr_eval rfl rfl) (fr_eval rfl rfl) (sz_len Try.sz87 zNe_l4) ((zNe_l4).trans (zNe_l4).symm) (zNe_o5 rfl (List.getD ls i zLt).v.2)) ?_
  clear hH
  rintro w4 ⟨hH, hx⟩
  replace hH : Heap _ _ _ [_, _] := hH
  clear hx
  refine lf_nil ?_
  refine then_n ?_
  refine wp_seq ?_
  refine wp_gen (fun F' => F' 0 = .pointer (some ⟨g, 0, none⟩) ∧ F' 1 = .int .i64 ((i : Nat) : Int) ∧ F' 4 = .pointer (some ⟨g1, 0, none⟩) ∧ F' 5 = .int .i64 0 ∧ F' 6 = .pointer (some ⟨g2, 0, none⟩) ∧ F' 14 = .bool false) ⟨e0, e1, e4, e5, rfl, e14⟩ ?_
  clear e0 e1 e4 e5 e14
  clear F
  rintro F ⟨e0, e1, e4, e5, e6, e14⟩
  refine wp_regionF ?_
  refine lf_val (v := .pointer (some ⟨g2, 1, none⟩)) (wantAll rfl) (rv_fieldAddr (n := 0) rfl (fr_eval rfl e6) Try.underlying87 rfl rfl (by kernel_rfl)) ?_
  refine lf_val (v := (List.getD ls i zLt).v.1) (wantAll rfl) (rv_load1 rfl (hH.blk (i := 1) rfl) zNe_g3 (fr_eval rfl rfl) Try.underlying22 rfl Try.sz22) ?_
  refine lf_call (wantAll rfl) (rv_call (args := [(List.getD ls i zLt).v.1]) rfl (evc (fr_eval rfl rfl) evn) Try.call59) (clone_calls ((List.getD ls i zLt).b) (by omega) _ _ (hb.rd _ hH.chg)) ?_
  rintro _ w5 ⟨⟨y1, rfl, ho, hg⟩, hx⟩
  refine ⟨_, rfl, ?_⟩
  replace hH : Heap _ _ _ [_, _, _] := hH.addOwn hx hg ho
  clear ho hg
  clear hx
  have qy1 : y1.oneCell' = true := Rd.oneV (OwnB.rd (hH.own (i := 2) rfl))
  refine lf_val (v := .pointer (some ⟨g2, 1, none⟩)) (wantAll rfl) (rv_fieldAddr (n := 0) rfl (fr_eval rfl e6) Try.underlying87 rfl rfl (by kernel_rfl)) ?_
  refine lf_sk (wantAll rfl) (hx_storeC hH (i := 1) (j := 1) (v := y1) rfl rfl rfl (show 1 < 2 by decide) rfl (fr_eval rfl rfl) (fr_eval rfl rfl) Try.sz22 qy1) ?_
  clear hH
  rintro w6 ⟨hH, hx⟩
  replace hH : Heap _ _ _ [_, _, _] := hH
  clear hx
  refine lf_nil ?_
  refine then_n ?_
  refine wp_seq ?_
  refine wp_gen (fun F' => F' 0 = .pointer (some ⟨g, 0, none⟩) ∧ F' 1 = .int .i64 ((i : Nat) : Int) ∧ F' 4 = .pointer (some ⟨g1, 0, none⟩) ∧ F' 5 = .int .i64 0 ∧ F' 6 = .pointer (some ⟨g2, 0, none⟩) ∧ F' 14 = .bool false) ⟨e0, e1, e4, e5, e6, e14⟩ ?_
  clear e0 e1 e4 e5 e6 e14
  clear F
  rintro F ⟨e0, e1, e4, e5, e6, e14⟩
  refine wp_regionF ?_
  refine lf_val (wantAll rfl) (rv_loadW rfl (hH.blk (i := 1) rfl) (fr_eval rfl e6) Try.underlying87 rfl (sz_len Try.sz87 zNe_l4)) ?_
  refine lf_sk (wantAll rfl) (hx_storeW hH (i := 0) (cs := [.int .i64 ((List.getD ls i zLt).to), y1]) rfl rfl rfl (fr_eval rfl e4) (fr_eval rfl rfl) (sz_len Try.sz87 zNe_l4) ((zNe_l4).trans (zNe_l4).symm) (zNe_o5 rfl qy1)) ?_
  clear hH
  rintro w7 ⟨hH, hx⟩
  replace hH : Heap _ _ _ [_, _, _] := hH
  clear hx
  refine lf_val (v := .int .i64 0) (wantAll rfl) (rv_assign rfl rfl) ?_
  refine lf_nil ?_
  refine then_n ?_
  refine wp_gen (fun F' => F' 0 = .pointer (some ⟨g, 0, none⟩) ∧ F' 1 = .int .i64 ((i : Nat) : Int) ∧ F' 4 = .pointer (some ⟨g1, 0, none⟩) ∧ F' 5 = .int .i64 0 ∧ F' 6 = .pointer (some ⟨g2, 0, none⟩) ∧ F' 14 = .bool false) ⟨e0, e1, e4, rfl, e6, e14⟩ ?_
  clear e0 e1 e4 e5 e6 e14
  clear F
  rintro F ⟨e0, e1, e4, e5, e6, e14⟩
  refine wp_ret ?_
  exact bodyPost_ret (res2 rfl (ro_cell rfl e4 (hH.blk (i := 0) rfl) Try.underlying87 rfl (sz_len Try.sz87 zNe_l4)) (ro_tmp rfl e5)) rfl (⟨⟨_, rfl, hH.own (i := 2) rfl, hH.ge (i := 2) rfl⟩, hH.done⟩)

theorem send_next {s : St} {ms : List Mg} {i : Nat} (h : i < ms.length) : sendK s (ms.take (i + 1)) = stepK (sendK s (ms.take i)) (ms.getD i zMg) := by
  unfold sendK
  rw [List.take_succ_eq_append_getElem h, List.foldl_append]
  simp [List.getD_eq_getElem?_getD, h]
def okMg (x : Mg) : Prop := inMs x.u ∧ x.bl.length ≤ 10000000 ∧ x.sg.length ≤ 10000000

set_option maxRecDepth 100000 in
set_option maxHeartbeats 4000000 in
theorem netSend_nil (mv : Value) (w : World) :
    Calls Try.prog 45 #[.pointer none, mv] w fun e'' w' => e'' = .returned (.tuple #[]) ∧ Ext w w' := by
  refine calls_fr (args := [.pointer none, mv]) (n := 30) Try.func45 rfl rfl (show 2 ≤ 30 by decide) ?_
  have hH : Heap (newN w) w w [] := Heap.fresh
  refine wp_seq ?_
  refine wp_seq ?_
  refine wp_gen (fun F' => F' 0 = .pointer none ∧ F' 1 = mv) ⟨rfl, rfl⟩ ?_
  rintro F ⟨e0, e1⟩
  refine wp_regionF ?_
  refine lf_val (v := .pointer none) (wantAll rfl) (rv_move rfl (fr_eval rfl e0)) ?_
  refine lf_val (v := .bool true) (wantAll rfl) (rv_eqnil (p := none) rfl (fr_eval rfl rfl) rfl Try.underlying66) ?_
  refine lf_nil ?_
  refine then_n ?_
  refine wp_gen (fun F' => F' 0 = .pointer none ∧ F' 1 = mv ∧ F' 9 = .bool true) ⟨e0, e1, rfl⟩ ?_
  clear e0 e1
  clear F
  rintro F ⟨e0, e1, e9⟩
  refine wp_cond_true (fr_eval rfl e9) ?_
  refine wp_ret ?_
  refine then_ret ?_
  exact bodyPost_ret (v := .tuple #[]) (res0 rfl) rfl (⟨rfl, hH.done⟩)

set_option maxRecDepth 100000 in
set_option maxHeartbeats 4000000 in
theorem netSend_calls {w : World} {K Z S : Nat → Prop} {g : Nat} {v : Value} (hZ : ∀ k, newK w K k → ¬ Z k) (ls : List Lt) (hl : ls.length ≤ 64) (lost : Nat) (hlo : lost ≤ 900000) (ms : List Mg) (hml : ms.length ≤ 1000) (hok : ∀ x ∈ ms, okMg x) (mv : Value) (hm0 : Stab (newK w K) w 239 mv ms.length (ms.flatMap cMg)) (hy0 : ∀ x ∈ ms, Stab (newK w K) w 1 x.vb.1 x.bl.length (cBs x.bl) ∧ Stab (newK w K) w 1 x.vg.1 x.sg.length (cBs x.sg)) (hh0 : Heap (newK w K) w w [oBlk g ([v, .int .i64 ((lost : Nat) : Int)]) 69, oRow cLt 87 2 v ls, oBag Z S ls]) :
    Calls Try.prog 45 #[.pointer (some ⟨g, 0, none⟩), mv] w fun e'' w' => ∃ v' ls' lost' S', e'' = .returned (.tuple #[]) ∧ kst ls' lost' = sendK (kst ls lost) ms ∧ Heap (newK w K) w w' [oBlk g ([v', .int .i64 ((lost' : Nat) : Int)]) 69, oRow cLt 87 2 v' ls', oBag Z S' ls'] := by
  refine calls_fr (args := [.pointer (some ⟨g, 0, none⟩), mv]) (n := 30) Try.func45 rfl rfl (show 2 ≤ 30 by decide) ?_
  have hm := hm0
  have hy := hy0
  have hH : Heap (newK w K) w w [oBlk g ([v, .int .i64 ((lost : Nat) : Int)]) 69, oRow cLt 87 2 v ls, oBag Z S ls] := hh0
  refine wp_seq ?_
  refine wp_seq ?_
  refine wp_gen (fun F' => F' 0 = .pointer (some ⟨g, 0, none⟩) ∧ F' 1 = mv) ⟨rfl, rfl⟩ ?_
  rintro F ⟨e0, e1⟩
  refine wp_regionF ?_
  refine lf_val (v := .pointer (some ⟨g, 0, none⟩)) (wantAll rfl) (rv_move rfl (fr_eval rfl e0)) ?_
  refine lf_val (v := .bool false) (wantAll rfl) (rv_eqnil (p := (some ⟨g, 0, none⟩)) rfl (fr_eval rfl rfl) rfl Try.underlying66) ?_
  refine lf_nil ?_
  refine then_n ?_
  refine wp_gen (fun F' => F' 0 = .pointer (some ⟨g, 0, none⟩) ∧ F' 1 = mv ∧ F' 9 = .bool false) ⟨e0, e1, rfl⟩ ?_
  clear e0 e1
  clear F
  rintro F ⟨e0, e1, e9⟩
  refine wp_cond_false (fr_eval rfl e9) ?_
  refine wp_skip ?_
  refine then_n ?_
  refine wp_seq ?_
  refine wp_regionF ?_
  refine lf_val (v := mv) (wantAll rfl) (rv_move rfl (fr_eval rfl e1)) ?_
  refine lf_val (v := .int .i64 ((ms.length : Nat) : Int)) (wantAll rfl) (rv_len rfl (fr_eval rfl rfl) (hm.rd _ hH.chg) Try.underlying108) ?_
  refine lf_val (v := .int .i64 0) (wantAll rfl) (rv_move rfl rfl) ?_
  refine lf_nil ?_
  refine then_n ?_
  refine wp_block ?_
  refine wp_gen (fun F' => F' 0 = .pointer (some ⟨g, 0, none⟩) ∧ F' 1 = mv ∧ F' 9 = .bool false ∧ F' 10 = mv ∧ F' 11 = .int .i64 ((ms.length : Nat) : Int) ∧ F' 12 = .int .i64 0) ⟨e0, e1, e9, rfl, rfl, rfl⟩ ?_
  clear e0 e1 e9
  clear F
  rintro F ⟨e0, e1, e9, e10, e11, e12⟩
  refine wp_loopF (fun m F wr => ∃ i : Nat, ∃ u : Value, ∃ l2 : List Lt, ∃ lo2 : Nat, ∃ S2 : Nat → Prop, m = ms.length - i ∧ i ≤ ms.length ∧ l2.length ≤ 64 ∧ lo2 ≤ lost + i ∧ kst l2 lo2 = sendK (kst ls lost) (ms.take i) ∧ F 0 = .pointer (some ⟨g, 0, none⟩) ∧ F 1 = mv ∧ F 9 = .bool false ∧ F 10 = mv ∧ F 11 = .int .i64 ((ms.length : Nat) : Int) ∧ F 12 = .int .i64 ((i : Nat) : Int) ∧ Heap (newK w K) w wr [oBlk g ([u, .int .i64 ((lo2 : Nat) : Int)]) 69, oRow cLt 87 2 u l2, oBag Z S2 l2]) ⟨0, _, ls, lost, _, rfl, Nat.zero_le _, hl, (by omega), rfl, e0, e1, e9, e10, e11, e12, hH⟩ ?_
  clear e0 e1 e9 e10 e11 e12 hH
  clear F
  rintro m F w1 ⟨i, u, l2, lo2, S2, rfl, pi0, pi1, pi2, pi3, e0, e1, e9, e10, e11, e12, hH⟩
  refine wp_seq ?_
  refine wp_regionF ?_
  refine lf_val (v := .bool (decide (i < ms.length))) (wantAll rfl) (rv_lssP (p := i < ms.length) rfl (fr_eval rfl e12) (fr_eval rfl e11) (by omega)) ?_
  refine lf_nil ?_
  refine then_n ?_
  refine wp_seq ?_
  refine wp_gen (fun F' => F' 0 = .pointer (some ⟨g, 0, none⟩) ∧ F' 1 = mv ∧ F' 9 = .bool false ∧ F' 10 = mv ∧ F' 11 = .int .i64 ((ms.length : Nat) : Int) ∧ F' 12 = .int .i64 ((i : Nat) : Int) ∧ F' 13 = .bool (decide (i < ms.length))) ⟨e0, e1, e9, e10, e11, e12, rfl⟩ ?_
  clear e0 e1 e9 e10 e11 e12
  clear F
  rintro F ⟨e0, e1, e9, e10, e11, e12, e13⟩
  by_cases hc1 : i < ms.length
  · refine wp_cond_true (fr_eval rfl (e13.trans (congrArg Value.bool (decide_eq_true hc1)))) ?_
    refine wp_skip ?_
    refine then_n ?_
    refine wp_seq ?_
    refine wp_block ?_
    refine wp_seq ?_
    by_cases hf1 : inM (List.getD ms i zMg).u
    · refine wp_regionF ?_
      refine lf_val (v := .pointer (some (elemA mv (i * 239)))) (wantAll rfl) (rv_index rfl (fr_eval rfl e10) (fr_eval rfl e12) (rdN (hm.rd _ hH.chg) rfl) (show i < ms.length from (by omega)) Try.underlying108 Try.sz81 (by decide)) ?_
      refine lf_val (wantAll rfl) (rv_loadElem rfl (fr_eval rfl rfl) (rdN (hm.rd _ hH.chg) rfl) (show i < ms.length from (by omega)) (by decide) (flat_part zMg cMg_len (show i < ms.length from (by omega))) Try.underlying81 rfl Try.sz81) ?_
      refine lf_ex (wantAll rfl) (hx_alloc hH 81 (z := .agg (([.int .i64 0, .int .i64 0, .int .i64 0, .int .i64 0, .int .i64 0, .int .i64 0] : List Value) ++ (cBs (List.replicate 32 0) ++ (cBs (List.replicate 32 0) ++ (([.int .i64 0] : List Value) ++ (cBs (List.replicate 32 0) ++ (([.int .i64 0] : List Value) ++ (cBs (List.replicate 32 0) ++ (([.int .i64 0, .int .i64 0] : List Value) ++ (cBs (List.replicate 32 0) ++ (([.slice none 0 0, .int .i64 0, .int .i64 0, .int .i64 0] : List Value) ++ (cBs (List.replicate 32 0) ++ (cBs (List.replicate 32 0) ++ ([.slice none 0 0] : List Value))))))))))))).toArray) (n := 239) (cs := ([.int .i64 0, .int .i64 0, .int .i64 0, .int .i64 0, .int .i64 0, .int .i64 0] : List Value) ++ (cBs (List.replicate 32 0) ++ (cBs (List.replicate 32 0) ++ (([.int .i64 0] : List Value) ++ (cBs (List.replicate 32 0) ++ (([.int .i64 0] : List Value) ++ (cBs (List.replicate 32 0) ++ (([.int .i64 0, .int .i64 0] : List Value) ++ (cBs (List.replicate 32 0) ++ (([.slice none 0 0, .int .i64 0, .int .i64 0, .int .i64 0] : List Value) ++ (cBs (List.replicate 32 0) ++ (cBs (List.replicate 32 0) ++ ([.slice none 0 0] : List Value))))))))))))) rfl (by kernel_rfl) (by rfl)) ?_
      clear hH
      rintro _ w2 ⟨g1, rfl, hH, hx⟩
      replace hH : Heap _ _ _ [_, _, _, _] := hH
      clear hx
      refine lf_sk (wantAll rfl) (hx_storeW hH (i := 3) (cs := ([.int .i64 ((List.getD ms i zMg).u.k), .int .i64 ((List.getD ms i zMg).u.a), .int .i64 ((List.getD ms i zMg).u.b), .int .i64 ((List.getD ms i zMg).u.c0), .int .i64 ((List.getD ms i zMg).u.c1), .int .i64 ((List.getD ms i zMg).u.c2)] : List Value) ++ (cBs ((List.getD ms i zMg).u.h0.1) ++ (cBs ((List.getD ms i zMg).u.h1.1) ++ (([.int .i64 ((List.getD ms i zMg).u.g)] : List Value) ++ (cBs ((List.getD ms i zMg).u.o.1) ++ (([.int .i64 ((List.getD ms i zMg).u.n)] : List Value) ++ (cBs ((List.getD ms i zMg).u.x.1) ++ (([.int .i64 ((List.getD ms i zMg).u.jc), .int .i64 ((List.getD ms i zMg).u.js)] : List Value) ++ (cBs ((List.getD ms i zMg).u.jh.1) ++ (([(List.getD ms i zMg).vb.1, .int .i64 ((List.getD ms i zMg).u.r.t), .int .i64 ((List.getD ms i zMg).u.r.c), .int .i64 ((List.getD ms i zMg).u.r.s)] : List Value) ++ (cBs ((List.getD ms i zMg).u.r.h.1) ++ (cBs ((List.getD ms i zMg).u.r.b.1) ++ ([(List.getD ms i zMg).vg.1] : List Value))))))))))))) rfl rfl rfl (fr_eval rfl rfl) (fr_eval rfl rfl) (sz_len Try.sz81 (zNe_l0 ((List.getD ms i zMg).u.h0.2) ((List.getD ms i zMg).u.h1.2) ((List.getD ms i zMg).u.o.2) ((List.getD ms i zMg).u.x.2) ((List.getD ms i zMg).u.jh.2) ((List.getD ms i zMg).u.r.h.2) ((List.getD ms i zMg).u.r.b.2))) (((zNe_l0 (List.length_replicate ..) (List.length_replicate ..) (List.length_replicate ..) (List.length_replicate ..) (List.length_replicate ..) (List.length_replicate ..) (List.length_replicate ..))).trans ((zNe_l0 ((List.getD ms i zMg).u.h0.2) ((List.getD ms i zMg).u.h1.2) ((List.getD ms i zMg).u.o.2) ((List.getD ms i zMg).u.x.2) ((List.getD ms i zMg).u.jh.2) ((List.getD ms i zMg).u.r.h.2) ((List.getD ms i zMg).u.r.b.2))).symm) (zNe_o1 rfl rfl rfl rfl rfl rfl rfl rfl rfl rfl (List.getD ms i zMg).vb.2 rfl rfl rfl (List.getD ms i zMg).vg.2)) ?_
      clear hH
      rintro w3 ⟨hH, hx⟩
      replace hH : Heap _ _ _ [_, _, _, _] := hH
      clear hx
      refine lf_nil ?_
      refine then_n ?_
      refine wp_seq ?_
      refine wp_gen (fun F' => F' 0 = .pointer (some ⟨g, 0, none⟩) ∧ F' 1 = mv ∧ F' 5 = .pointer (some ⟨g1, 0, none⟩) ∧ F' 9 = .bool false ∧ F' 10 = mv ∧ F' 11 = .int .i64 ((ms.length : Nat) : Int) ∧ F' 12 = .int .i64 ((i : Nat) : Int) ∧ F' 13 = .bool true) ⟨e0, e1, rfl, e9, e10, e11, e12, (e13.trans (congrArg Value.bool (decide_eq_true hc1)))⟩ ?_
      clear e0 e1 e9 e10 e11 e12 e13
      clear F
      rintro F ⟨e0, e1, e5, e9, e10, e11, e12, e13⟩
      refine wp_regionF ?_
      refine lf_val (wantAll rfl) (rv_loadW rfl (hH.blk (i := 3) rfl) (fr_eval rfl e5) Try.underlying81 rfl (sz_len Try.sz81 (zNe_l0 ((List.getD ms i zMg).u.h0.2) ((List.getD ms i zMg).u.h1.2) ((List.getD ms i zMg).u.o.2) ((List.getD ms i zMg).u.x.2) ((List.getD ms i zMg).u.jh.2) ((List.getD ms i zMg).u.r.h.2) ((List.getD ms i zMg).u.r.b.2)))) ?_
      refine lf_call (wantAll rfl) (rv_call (args := [.agg (([.int .i64 ((List.getD ms i zMg).u.k), .int .i64 ((List.getD ms i zMg).u.a), .int .i64 ((List.getD ms i zMg).u.b), .int .i64 ((List.getD ms i zMg).u.c0), .int .i64 ((List.getD ms i zMg).u.c1), .int .i64 ((List.getD ms i zMg).u.c2)] : List Value) ++ (cBs ((List.getD ms i zMg).u.h0.1) ++ (cBs ((List.getD ms i zMg).u.h1.1) ++ (([.int .i64 ((List.getD ms i zMg).u.g)] : List Value) ++ (cBs ((List.getD ms i zMg).u.o.1) ++ (([.int .i64 ((List.getD ms i zMg).u.n)] : List Value) ++ (cBs ((List.getD ms i zMg).u.x.1) ++ (([.int .i64 ((List.getD ms i zMg).u.jc), .int .i64 ((List.getD ms i zMg).u.js)] : List Value) ++ (cBs ((List.getD ms i zMg).u.jh.1) ++ (([(List.getD ms i zMg).vb.1, .int .i64 ((List.getD ms i zMg).u.r.t), .int .i64 ((List.getD ms i zMg).u.r.c), .int .i64 ((List.getD ms i zMg).u.r.s)] : List Value) ++ (cBs ((List.getD ms i zMg).u.r.h.1) ++ (cBs ((List.getD ms i zMg).u.r.b.1) ++ ([(List.getD ms i zMg).vg.1] : List Value))))))))))))).toArray]) rfl (evc (fr_eval rfl rfl) evn) Try.call51) (msPut_yes (List.getD ms i zMg).u (hok _ (memL (by omega))).1 ((List.getD ms i zMg).bl) ((List.getD ms i zMg).sg) (hok _ (memL (by omega))).2.1 (hok _ (memL (by omega))).2.2 _ _ _ ((hy _ (memL (by omega))).1.rd _ hH.chg) ((hy _ (memL (by omega))).2.rd _ hH.chg) hf1) ?_
      rintro _ w4 ⟨⟨y1, rfl, ho, hg⟩, hx⟩
      refine ⟨_, rfl, ?_⟩
      replace hH : Heap _ _ _ [_, _, _, _, _] := hH.addOwn hx hg ho
      clear ho hg
      have qy1 : y1.oneCell' = true := Rd.oneV (OwnB.rd (hH.own (i := 4) rfl))
      clear hx
      refine lf_val (v := .tuple #[y1, .int .i64 0]) (wantAll rfl) (rv_move rfl (fr_eval rfl rfl)) ?_
      refine lf_val (v := y1) (wantAll rfl) (rv_extract rfl (fr_eval rfl rfl) rfl) ?_
      refine lf_val (v := .int .i64 0) (wantAll rfl) (rv_extract rfl (fr_eval rfl rfl) rfl) ?_
      refine lf_val (v := y1) (wantAll rfl) (rv_assign rfl (fr_eval rfl rfl)) ?_
      refine lf_val (v := .int .i64 0) (wantAll rfl) (rv_assign rfl (fr_eval rfl rfl)) ?_
      refine lf_nil ?_
      refine then_n ?_
      refine wp_gen (fun F' => F' 0 = .pointer (some ⟨g, 0, none⟩) ∧ F' 1 = mv ∧ F' 5 = .pointer (some ⟨g1, 0, none⟩) ∧ F' 6 = y1 ∧ F' 7 = .int .i64 0 ∧ F' 9 = .bool false ∧ F' 10 = mv ∧ F' 11 = .int .i64 ((ms.length : Nat) : Int) ∧ F' 12 = .int .i64 ((i : Nat) : Int) ∧ F' 13 = .bool true) ⟨e0, e1, e5, rfl, rfl, e9, e10, e11, e12, e13⟩ ?_
      clear e0 e1 e5 e9 e10 e11 e12 e13
      clear F
      rintro F ⟨e0, e1, e5, e6, e7, e9, e10, e11, e12, e13⟩
      by_cases hf2 : l2.length < 64
      · refine wp_regionF ?_
        refine lf_val (v := .pointer (some ⟨g, 0, none⟩)) (wantAll rfl) (rv_move rfl (fr_eval rfl e0)) ?_
        refine lf_val (v := .pointer (some ⟨g1, 2, none⟩)) (wantAll rfl) (rv_fieldAddr (n := 0) rfl (fr_eval rfl e5) Try.underlying81 rfl rfl (by kernel_rfl)) ?_
        refine lf_val (v := .int .i64 ((List.getD ms i zMg).u.b)) (wantAll rfl) (rv_load1 rfl (hH.blk (i := 3) rfl) (zNe_g6 ((List.getD ms i zMg).u.h0.2) ((List.getD ms i zMg).u.h1.2) ((List.getD ms i zMg).u.o.2) ((List.getD ms i zMg).u.x.2) ((List.getD ms i zMg).u.jh.2) ((List.getD ms i zMg).u.r.h.2) ((List.getD ms i zMg).u.r.b.2)) (fr_eval rfl rfl) Try.underlying3 rfl Try.sz3) ?_
        refine lf_val (v := y1) (wantAll rfl) (rv_move rfl (fr_eval rfl e6)) ?_
        refine lf_val (wantAll rfl) (rv_buildS (ps := [(0, (.tmp 23)), (1, (.tmp 24))]) (places := #[(0, 1), (1, 1)]) (z := .agg #[.int .i64 0, .slice none 0 0]) (zc := [.int .i64 0, .slice none 0 0]) (cs := [.int .i64 ((List.getD ms i zMg).u.b), y1]) rfl (evpc (fr_eval rfl rfl) (evpc (fr_eval rfl rfl) evpn)) (by kernel_rfl) rfl Try.underlying87 (fun _ => by kernel_rfl) (fill1 rfl rfl (by first | decide | simp) (show _ = [.int .i64 ((List.getD ms i zMg).u.b), .slice none 0 0] from rfl) (fill1 rfl qy1 (by first | decide | simp) (show _ = [.int .i64 ((List.getD ms i zMg).u.b), y1] from rfl) fill0))) ?_
        refine lf_val (v := .int .i64 0) (wantAll rfl) (rv_move rfl (fr_eval rfl e7)) ?_
        refine lf_val (v := .bool true) (wantAll rfl) (rv_eql rfl (fr_eval rfl rfl) rfl (by decide)) ?_
        replace hH : Heap _ _ _ [_, _, _, _, _] := hH.perm (.trans (.swap _ _ _) (.cons _ (.trans (.swap _ _ _) (.cons _ (.refl _)))))
        replace hH : Heap _ _ _ [_, _, _, _, _] := hH.perm (.cons _ (.trans (.swap _ _ _) (.cons _ (.trans (.swap _ _ _) (.cons _ (.refl _))))))
        replace hH : Heap _ _ _ [_, _, _, _, _] := hH.perm (.cons _ (.cons _ (.trans (.swap _ _ _) (.cons _ (.trans (.swap _ _ _) (.cons _ (.refl _)))))))
        refine lf_call (wantAll rfl) (rv_call (args := [.pointer (some ⟨g, 0, none⟩), .agg (cLt (⟨(List.getD ms i zMg).u.b, ⟨y1, qy1⟩, textM (List.getD ms i zMg).u ((List.getD ms i zMg).bl) ((List.getD ms i zMg).sg)⟩ : Lt)).toArray, .bool (decide True)]) rfl (evc (fr_eval rfl rfl) (evc (show _ = Value.agg (cLt (⟨(List.getD ms i zMg).u.b, ⟨y1, qy1⟩, textM (List.getD ms i zMg).u ((List.getD ms i zMg).bl) ((List.getD ms i zMg).sg)⟩ : Lt)).toArray from (fr_eval rfl rfl)) (evc ((fr_eval rfl rfl).trans (congrArg Value.bool (decide_eq_true trivial).symm)) evn))) Try.call60) (netPut_calls l2 (by omega) lo2 (by omega) (⟨(List.getD ms i zMg).u.b, ⟨y1, qy1⟩, textM (List.getD ms i zMg).u ((List.getD ms i zMg).bl) ((List.getD ms i zMg).sg)⟩ : Lt) True _ (Heap.part (L := [_, _, _]) (M := [_, _]) hH)) ?_
        rintro _ w5 ⟨y2, rfl, hQ⟩
        have hP := hQ.1 ⟨trivial, hf2⟩
        clear hQ
        refine ⟨_, rfl, ?_⟩
        have hx := hH.callChg (L := [_, _, _]) (M := [_, _]) (fun _ h => h) hP
        replace hH : Heap _ _ _ [_, _, _, _, _] := hH.call (L := [_, _, _]) (M := [_, _]) (fun _ h => h) hP (Stays.blk (hP.blk (i := 0) rfl) (Stays.own (hP.own (i := 1) rfl) Stays.nil))
        clear hP
        clear hx
        refine lf_nil ?_
        refine blk_n ?_
        refine then_n ?_
        refine wp_gen (fun F' => F' 0 = .pointer (some ⟨g, 0, none⟩) ∧ F' 1 = mv ∧ F' 5 = .pointer (some ⟨g1, 0, none⟩) ∧ F' 6 = y1 ∧ F' 7 = .int .i64 0 ∧ F' 9 = .bool false ∧ F' 10 = mv ∧ F' 11 = .int .i64 ((ms.length : Nat) : Int) ∧ F' 12 = .int .i64 ((i : Nat) : Int) ∧ F' 13 = .bool true) ⟨e0, e1, e5, e6, e7, e9, e10, e11, e12, e13⟩ ?_
        clear e0 e1 e5 e6 e7 e9 e10 e11 e12 e13
        clear F
        rintro F ⟨e0, e1, e5, e6, e7, e9, e10, e11, e12, e13⟩
        refine wp_regionF ?_
        refine lf_val (v := .int .i64 ((i + 1 : Nat) : Int)) (wantAll rfl) (rv_add rfl (fr_eval rfl e12) rfl (wrap_i64 (by omega) (by omega) (by omega))) ?_
        refine lf_val (v := .int .i64 ((i + 1 : Nat) : Int)) (wantAll rfl) (rv_move rfl (fr_eval rfl rfl)) ?_
        refine lf_nil ?_
        refine then_n ?_
        replace hH : Heap _ _ _ [_, _, _, _] := hH.bagOwn (x := (⟨(List.getD ms i zMg).u.b, ⟨y1, qy1⟩, textM (List.getD ms i zMg).u ((List.getD ms i zMg).bl) ((List.getD ms i zMg).sg)⟩ : Lt)) (i := 0) (j := 2) rfl rfl (by decide) rfl
        replace hH : Heap _ _ _ [_, _, _] := hH.drop (.cons_cons _ (.cons _ (.cons_cons _ (.cons_cons _ .slnil))))
        replace hH : Heap _ _ _ [_, _, _] := hH.perm (.trans (.swap _ _ _) (.cons _ (.refl _)))
        replace hH : Heap _ _ _ [_, _, _] := hH.perm (.cons _ (.trans (.swap _ _ _) (.cons _ (.refl _))))
        exact ⟨_, _, (by omega), rfl, i + 1, _, _, _, _, rfl, (by omega), (by simp only [List.length_append, List.length_cons, List.length_nil]; omega), (by omega), (by rw [send_next (by omega), ← pi3]; unfold stepK; rw [putK_yes hf1 (by simpa using hf2)]; simp [kst, ky]), e0, e1, e9, e10, e11, rfl, hH⟩
      · refine wp_regionF ?_
        refine lf_val (v := .pointer (some ⟨g, 0, none⟩)) (wantAll rfl) (rv_move rfl (fr_eval rfl e0)) ?_
        refine lf_val (v := .pointer (some ⟨g1, 2, none⟩)) (wantAll rfl) (rv_fieldAddr (n := 0) rfl (fr_eval rfl e5) Try.underlying81 rfl rfl (by kernel_rfl)) ?_
        refine lf_val (v := .int .i64 ((List.getD ms i zMg).u.b)) (wantAll rfl) (rv_load1 rfl (hH.blk (i := 3) rfl) (zNe_g6 ((List.getD ms i zMg).u.h0.2) ((List.getD ms i zMg).u.h1.2) ((List.getD ms i zMg).u.o.2) ((List.getD ms i zMg).u.x.2) ((List.getD ms i zMg).u.jh.2) ((List.getD ms i zMg).u.r.h.2) ((List.getD ms i zMg).u.r.b.2)) (fr_eval rfl rfl) Try.underlying3 rfl Try.sz3) ?_
        refine lf_val (v := y1) (wantAll rfl) (rv_move rfl (fr_eval rfl e6)) ?_
        refine lf_val (wantAll rfl) (rv_buildS (ps := [(0, (.tmp 23)), (1, (.tmp 24))]) (places := #[(0, 1), (1, 1)]) (z := .agg #[.int .i64 0, .slice none 0 0]) (zc := [.int .i64 0, .slice none 0 0]) (cs := [.int .i64 ((List.getD ms i zMg).u.b), y1]) rfl (evpc (fr_eval rfl rfl) (evpc (fr_eval rfl rfl) evpn)) (by kernel_rfl) rfl Try.underlying87 (fun _ => by kernel_rfl) (fill1 rfl rfl (by first | decide | simp) (show _ = [.int .i64 ((List.getD ms i zMg).u.b), .slice none 0 0] from rfl) (fill1 rfl qy1 (by first | decide | simp) (show _ = [.int .i64 ((List.getD ms i zMg).u.b), y1] from rfl) fill0))) ?_
        refine lf_val (v := .int .i64 0) (wantAll rfl) (rv_move rfl (fr_eval rfl e7)) ?_
        refine lf_val (v := .bool true) (wantAll rfl) (rv_eql rfl (fr_eval rfl rfl) rfl (by decide)) ?_
        replace hH : Heap _ _ _ [_, _, _, _, _] := hH.perm (.trans (.swap _ _ _) (.cons _ (.trans (.swap _ _ _) (.cons _ (.refl _)))))
        replace hH : Heap _ _ _ [_, _, _, _, _] := hH.perm (.cons _ (.trans (.swap _ _ _) (.cons _ (.trans (.swap _ _ _) (.cons _ (.refl _))))))
        replace hH : Heap _ _ _ [_, _, _, _, _] := hH.perm (.cons _ (.cons _ (.trans (.swap _ _ _) (.cons _ (.trans (.swap _ _ _) (.cons _ (.refl _)))))))
        refine lf_call (wantAll rfl) (rv_call (args := [.pointer (some ⟨g, 0, none⟩), .agg (cLt (⟨(List.getD ms i zMg).u.b, ⟨y1, qy1⟩, textM (List.getD ms i zMg).u ((List.getD ms i zMg).bl) ((List.getD ms i zMg).sg)⟩ : Lt)).toArray, .bool (decide True)]) rfl (evc (fr_eval rfl rfl) (evc (show _ = Value.agg (cLt (⟨(List.getD ms i zMg).u.b, ⟨y1, qy1⟩, textM (List.getD ms i zMg).u ((List.getD ms i zMg).bl) ((List.getD ms i zMg).sg)⟩ : Lt)).toArray from (fr_eval rfl rfl)) (evc ((fr_eval rfl rfl).trans (congrArg Value.bool (decide_eq_true trivial).symm)) evn))) Try.call60) (netPut_calls l2 (by omega) lo2 (by omega) (⟨(List.getD ms i zMg).u.b, ⟨y1, qy1⟩, textM (List.getD ms i zMg).u ((List.getD ms i zMg).bl) ((List.getD ms i zMg).sg)⟩ : Lt) True _ (Heap.part (L := [_, _, _]) (M := [_, _]) hH)) ?_
        rintro _ w6 ⟨y3, rfl, hQ⟩
        have hP := hQ.2 (fun h => hf2 h.2)
        clear hQ
        refine ⟨_, rfl, ?_⟩
        have hx := hH.callChg (L := [_, _, _]) (M := [_, _]) (fun _ h => h) hP
        replace hH : Heap _ _ _ [_, _, _, _, _] := hH.call (L := [_, _, _]) (M := [_, _]) (fun _ h => h) hP (Stays.blk (hP.blk (i := 0) rfl) (Stays.own (hP.own (i := 1) rfl) Stays.nil))
        clear hP
        clear hx
        refine lf_nil ?_
        refine blk_n ?_
        refine then_n ?_
        refine wp_gen (fun F' => F' 0 = .pointer (some ⟨g, 0, none⟩) ∧ F' 1 = mv ∧ F' 5 = .pointer (some ⟨g1, 0, none⟩) ∧ F' 6 = y1 ∧ F' 7 = .int .i64 0 ∧ F' 9 = .bool false ∧ F' 10 = mv ∧ F' 11 = .int .i64 ((ms.length : Nat) : Int) ∧ F' 12 = .int .i64 ((i : Nat) : Int) ∧ F' 13 = .bool true) ⟨e0, e1, e5, e6, e7, e9, e10, e11, e12, e13⟩ ?_
        clear e0 e1 e5 e6 e7 e9 e10 e11 e12 e13
        clear F
        rintro F ⟨e0, e1, e5, e6, e7, e9, e10, e11, e12, e13⟩
        refine wp_regionF ?_
        refine lf_val (v := .int .i64 ((i + 1 : Nat) : Int)) (wantAll rfl) (rv_add rfl (fr_eval rfl e12) rfl (wrap_i64 (by omega) (by omega) (by omega))) ?_
        refine lf_val (v := .int .i64 ((i + 1 : Nat) : Int)) (wantAll rfl) (rv_move rfl (fr_eval rfl rfl)) ?_
        refine lf_nil ?_
        refine then_n ?_
        replace hH : Heap _ _ _ [_, _, _] := hH.drop (.cons_cons _ (.cons _ (.cons _ (.cons_cons _ (.cons_cons _ .slnil)))))
        replace hH : Heap _ _ _ [_, _, _] := hH.perm (.trans (.swap _ _ _) (.cons _ (.refl _)))
        replace hH : Heap _ _ _ [_, _, _] := hH.perm (.cons _ (.trans (.swap _ _ _) (.cons _ (.refl _))))
        exact ⟨_, _, (by omega), rfl, i + 1, _, _, _, _, rfl, (by omega), pi1, (by omega), (by rw [send_next (by omega), ← pi3]; unfold stepK; rw [putK_no (fun h => hf2 (by simpa using h.2))]), e0, e1, e9, e10, e11, rfl, hH⟩
    · refine wp_regionF ?_
      refine lf_val (v := .pointer (some (elemA mv (i * 239)))) (wantAll rfl) (rv_index rfl (fr_eval rfl e10) (fr_eval rfl e12) (rdN (hm.rd _ hH.chg) rfl) (show i < ms.length from (by omega)) Try.underlying108 Try.sz81 (by decide)) ?_
      refine lf_val (wantAll rfl) (rv_loadElem rfl (fr_eval rfl rfl) (rdN (hm.rd _ hH.chg) rfl) (show i < ms.length from (by omega)) (by decide) (flat_part zMg cMg_len (show i < ms.length from (by omega))) Try.underlying81 rfl Try.sz81) ?_
      refine lf_ex (wantAll rfl) (hx_alloc hH 81 (z := .agg (([.int .i64 0, .int .i64 0, .int .i64 0, .int .i64 0, .int .i64 0, .int .i64 0] : List Value) ++ (cBs (List.replicate 32 0) ++ (cBs (List.replicate 32 0) ++ (([.int .i64 0] : List Value) ++ (cBs (List.replicate 32 0) ++ (([.int .i64 0] : List Value) ++ (cBs (List.replicate 32 0) ++ (([.int .i64 0, .int .i64 0] : List Value) ++ (cBs (List.replicate 32 0) ++ (([.slice none 0 0, .int .i64 0, .int .i64 0, .int .i64 0] : List Value) ++ (cBs (List.replicate 32 0) ++ (cBs (List.replicate 32 0) ++ ([.slice none 0 0] : List Value))))))))))))).toArray) (n := 239) (cs := ([.int .i64 0, .int .i64 0, .int .i64 0, .int .i64 0, .int .i64 0, .int .i64 0] : List Value) ++ (cBs (List.replicate 32 0) ++ (cBs (List.replicate 32 0) ++ (([.int .i64 0] : List Value) ++ (cBs (List.replicate 32 0) ++ (([.int .i64 0] : List Value) ++ (cBs (List.replicate 32 0) ++ (([.int .i64 0, .int .i64 0] : List Value) ++ (cBs (List.replicate 32 0) ++ (([.slice none 0 0, .int .i64 0, .int .i64 0, .int .i64 0] : List Value) ++ (cBs (List.replicate 32 0) ++ (cBs (List.replicate 32 0) ++ ([.slice none 0 0] : List Value))))))))))))) rfl (by kernel_rfl) (by rfl)) ?_
      clear hH
      rintro _ w7 ⟨g2, rfl, hH, hx⟩
      replace hH : Heap _ _ _ [_, _, _, _] := hH
      clear hx
      refine lf_sk (wantAll rfl) (hx_storeW hH (i := 3) (cs := ([.int .i64 ((List.getD ms i zMg).u.k), .int .i64 ((List.getD ms i zMg).u.a), .int .i64 ((List.getD ms i zMg).u.b), .int .i64 ((List.getD ms i zMg).u.c0), .int .i64 ((List.getD ms i zMg).u.c1), .int .i64 ((List.getD ms i zMg).u.c2)] : List Value) ++ (cBs ((List.getD ms i zMg).u.h0.1) ++ (cBs ((List.getD ms i zMg).u.h1.1) ++ (([.int .i64 ((List.getD ms i zMg).u.g)] : List Value) ++ (cBs ((List.getD ms i zMg).u.o.1) ++ (([.int .i64 ((List.getD ms i zMg).u.n)] : List Value) ++ (cBs ((List.getD ms i zMg).u.x.1) ++ (([.int .i64 ((List.getD ms i zMg).u.jc), .int .i64 ((List.getD ms i zMg).u.js)] : List Value) ++ (cBs ((List.getD ms i zMg).u.jh.1) ++ (([(List.getD ms i zMg).vb.1, .int .i64 ((List.getD ms i zMg).u.r.t), .int .i64 ((List.getD ms i zMg).u.r.c), .int .i64 ((List.getD ms i zMg).u.r.s)] : List Value) ++ (cBs ((List.getD ms i zMg).u.r.h.1) ++ (cBs ((List.getD ms i zMg).u.r.b.1) ++ ([(List.getD ms i zMg).vg.1] : List Value))))))))))))) rfl rfl rfl (fr_eval rfl rfl) (fr_eval rfl rfl) (sz_len Try.sz81 (zNe_l0 ((List.getD ms i zMg).u.h0.2) ((List.getD ms i zMg).u.h1.2) ((List.getD ms i zMg).u.o.2) ((List.getD ms i zMg).u.x.2) ((List.getD ms i zMg).u.jh.2) ((List.getD ms i zMg).u.r.h.2) ((List.getD ms i zMg).u.r.b.2))) (((zNe_l0 (List.length_replicate ..) (List.length_replicate ..) (List.length_replicate ..) (List.length_replicate ..) (List.length_replicate ..) (List.length_replicate ..) (List.length_replicate ..))).trans ((zNe_l0 ((List.getD ms i zMg).u.h0.2) ((List.getD ms i zMg).u.h1.2) ((List.getD ms i zMg).u.o.2) ((List.getD ms i zMg).u.x.2) ((List.getD ms i zMg).u.jh.2) ((List.getD ms i zMg).u.r.h.2) ((List.getD ms i zMg).u.r.b.2))).symm) (zNe_o1 rfl rfl rfl rfl rfl rfl rfl rfl rfl rfl (List.getD ms i zMg).vb.2 rfl rfl rfl (List.getD ms i zMg).vg.2)) ?_
      clear hH
      rintro w8 ⟨hH, hx⟩
      replace hH : Heap _ _ _ [_, _, _, _] := hH
      clear hx
      refine lf_nil ?_
      refine then_n ?_
      refine wp_seq ?_
      refine wp_gen (fun F' => F' 0 = .pointer (some ⟨g, 0, none⟩) ∧ F' 1 = mv ∧ F' 5 = .pointer (some ⟨g2, 0, none⟩) ∧ F' 9 = .bool false ∧ F' 10 = mv ∧ F' 11 = .int .i64 ((ms.length : Nat) : Int) ∧ F' 12 = .int .i64 ((i : Nat) : Int) ∧ F' 13 = .bool true) ⟨e0, e1, rfl, e9, e10, e11, e12, (e13.trans (congrArg Value.bool (decide_eq_true hc1)))⟩ ?_
      clear e0 e1 e9 e10 e11 e12 e13
      clear F
      rintro F ⟨e0, e1, e5, e9, e10, e11, e12, e13⟩
      refine wp_regionF ?_
      refine lf_val (wantAll rfl) (rv_loadW rfl (hH.blk (i := 3) rfl) (fr_eval rfl e5) Try.underlying81 rfl (sz_len Try.sz81 (zNe_l0 ((List.getD ms i zMg).u.h0.2) ((List.getD ms i zMg).u.h1.2) ((List.getD ms i zMg).u.o.2) ((List.getD ms i zMg).u.x.2) ((List.getD ms i zMg).u.jh.2) ((List.getD ms i zMg).u.r.h.2) ((List.getD ms i zMg).u.r.b.2)))) ?_
      refine lf_call (wantAll rfl) (rv_call (args := [.agg (([.int .i64 ((List.getD ms i zMg).u.k), .int .i64 ((List.getD ms i zMg).u.a), .int .i64 ((List.getD ms i zMg).u.b), .int .i64 ((List.getD ms i zMg).u.c0), .int .i64 ((List.getD ms i zMg).u.c1), .int .i64 ((List.getD ms i zMg).u.c2)] : List Value) ++ (cBs ((List.getD ms i zMg).u.h0.1) ++ (cBs ((List.getD ms i zMg).u.h1.1) ++ (([.int .i64 ((List.getD ms i zMg).u.g)] : List Value) ++ (cBs ((List.getD ms i zMg).u.o.1) ++ (([.int .i64 ((List.getD ms i zMg).u.n)] : List Value) ++ (cBs ((List.getD ms i zMg).u.x.1) ++ (([.int .i64 ((List.getD ms i zMg).u.jc), .int .i64 ((List.getD ms i zMg).u.js)] : List Value) ++ (cBs ((List.getD ms i zMg).u.jh.1) ++ (([(List.getD ms i zMg).vb.1, .int .i64 ((List.getD ms i zMg).u.r.t), .int .i64 ((List.getD ms i zMg).u.r.c), .int .i64 ((List.getD ms i zMg).u.r.s)] : List Value) ++ (cBs ((List.getD ms i zMg).u.r.h.1) ++ (cBs ((List.getD ms i zMg).u.r.b.1) ++ ([(List.getD ms i zMg).vg.1] : List Value))))))))))))).toArray]) rfl (evc (fr_eval rfl rfl) evn) Try.call51) (msPut_no (List.getD ms i zMg).u _ _ _ hf1) ?_
      rintro _ w10 ⟨rfl, hx⟩
      refine ⟨_, rfl, ?_⟩
      replace hH := hH.ext hx
      clear hx
      refine lf_val (v := .tuple #[.slice none 0 0, .int .i64 1]) (wantAll rfl) (rv_move rfl (fr_eval rfl rfl)) ?_
      refine lf_val (v := .slice none 0 0) (wantAll rfl) (rv_extract rfl (fr_eval rfl rfl) rfl) ?_
      refine lf_val (v := .int .i64 1) (wantAll rfl) (rv_extract rfl (fr_eval rfl rfl) rfl) ?_
      refine lf_val (v := .slice none 0 0) (wantAll rfl) (rv_assign rfl (fr_eval rfl rfl)) ?_
      refine lf_val (v := .int .i64 1) (wantAll rfl) (rv_assign rfl (fr_eval rfl rfl)) ?_
      refine lf_nil ?_
      refine then_n ?_
      refine wp_gen (fun F' => F' 0 = .pointer (some ⟨g, 0, none⟩) ∧ F' 1 = mv ∧ F' 5 = .pointer (some ⟨g2, 0, none⟩) ∧ F' 6 = .slice none 0 0 ∧ F' 7 = .int .i64 1 ∧ F' 9 = .bool false ∧ F' 10 = mv ∧ F' 11 = .int .i64 ((ms.length : Nat) : Int) ∧ F' 12 = .int .i64 ((i : Nat) : Int) ∧ F' 13 = .bool true) ⟨e0, e1, e5, rfl, rfl, e9, e10, e11, e12, e13⟩ ?_
      clear e0 e1 e5 e9 e10 e11 e12 e13
      clear F
      rintro F ⟨e0, e1, e5, e6, e7, e9, e10, e11, e12, e13⟩
      refine wp_regionF ?_
      refine lf_val (v := .pointer (some ⟨g, 0, none⟩)) (wantAll rfl) (rv_move rfl (fr_eval rfl e0)) ?_
      refine lf_val (v := .pointer (some ⟨g2, 2, none⟩)) (wantAll rfl) (rv_fieldAddr (n := 0) rfl (fr_eval rfl e5) Try.underlying81 rfl rfl (by kernel_rfl)) ?_
      refine lf_val (v := .int .i64 ((List.getD ms i zMg).u.b)) (wantAll rfl) (rv_load1 rfl (hH.blk (i := 3) rfl) (zNe_g6 ((List.getD ms i zMg).u.h0.2) ((List.getD ms i zMg).u.h1.2) ((List.getD ms i zMg).u.o.2) ((List.getD ms i zMg).u.x.2) ((List.getD ms i zMg).u.jh.2) ((List.getD ms i zMg).u.r.h.2) ((List.getD ms i zMg).u.r.b.2)) (fr_eval rfl rfl) Try.underlying3 rfl Try.sz3) ?_
      refine lf_val (v := .slice none 0 0) (wantAll rfl) (rv_move rfl (fr_eval rfl e6)) ?_
      refine lf_val (wantAll rfl) (rv_buildS (ps := [(0, (.tmp 23)), (1, (.tmp 24))]) (places := #[(0, 1), (1, 1)]) (z := .agg #[.int .i64 0, .slice none 0 0]) (zc := [.int .i64 0, .slice none 0 0]) (cs := [.int .i64 ((List.getD ms i zMg).u.b), .slice none 0 0]) rfl (evpc (fr_eval rfl rfl) (evpc (fr_eval rfl rfl) evpn)) (by kernel_rfl) rfl Try.underlying87 (fun _ => by kernel_rfl) (fill1 rfl rfl (by first | decide | simp) (show _ = [.int .i64 ((List.getD ms i zMg).u.b), .slice none 0 0] from rfl) (fill1 rfl rfl (by first | decide | simp) (show _ = [.int .i64 ((List.getD ms i zMg).u.b), .slice none 0 0] from rfl) fill0))) ?_
      refine lf_val (v := .int .i64 1) (wantAll rfl) (rv_move rfl (fr_eval rfl e7)) ?_
      refine lf_val (v := .bool false) (wantAll rfl) (rv_eql rfl (fr_eval rfl rfl) rfl (by decide)) ?_
      replace hH : Heap _ _ _ [_, _, _, _] := hH.perm (.trans (.swap _ _ _) (.cons _ (.trans (.swap _ _ _) (.cons _ (.refl _)))))
      replace hH : Heap _ _ _ [_, _, _, _] := hH.perm (.cons _ (.trans (.swap _ _ _) (.cons _ (.trans (.swap _ _ _) (.cons _ (.refl _))))))
      refine lf_call (wantAll rfl) (rv_call (args := [.pointer (some ⟨g, 0, none⟩), .agg (cLt (⟨(List.getD ms i zMg).u.b, ⟨.slice none 0 0, rfl⟩, []⟩ : Lt)).toArray, .bool (decide False)]) rfl (evc (fr_eval rfl rfl) (evc (show _ = Value.agg (cLt (⟨(List.getD ms i zMg).u.b, ⟨.slice none 0 0, rfl⟩, []⟩ : Lt)).toArray from (fr_eval rfl rfl)) (evc ((fr_eval rfl rfl).trans (congrArg Value.bool (decide_eq_false id).symm)) evn))) Try.call60) (netPut_calls l2 (by omega) lo2 (by omega) (⟨(List.getD ms i zMg).u.b, ⟨.slice none 0 0, rfl⟩, []⟩ : Lt) False _ (Heap.part (L := [_, _]) (M := [_, _]) hH)) ?_
      rintro _ w11 ⟨y4, rfl, hQ⟩
      have hP := hQ.2 (fun h => h.1)
      clear hQ
      refine ⟨_, rfl, ?_⟩
      have hx := hH.callChg (L := [_, _]) (M := [_, _]) (fun _ h => h) hP
      replace hH : Heap _ _ _ [_, _, _, _] := hH.call (L := [_, _]) (M := [_, _]) (fun _ h => h) hP (Stays.blk (hP.blk (i := 0) rfl) (Stays.own (hP.own (i := 1) rfl) Stays.nil))
      clear hP
      clear hx
      refine lf_nil ?_
      refine blk_n ?_
      refine then_n ?_
      refine wp_gen (fun F' => F' 0 = .pointer (some ⟨g, 0, none⟩) ∧ F' 1 = mv ∧ F' 5 = .pointer (some ⟨g2, 0, none⟩) ∧ F' 6 = .slice none 0 0 ∧ F' 7 = .int .i64 1 ∧ F' 9 = .bool false ∧ F' 10 = mv ∧ F' 11 = .int .i64 ((ms.length : Nat) : Int) ∧ F' 12 = .int .i64 ((i : Nat) : Int) ∧ F' 13 = .bool true) ⟨e0, e1, e5, e6, e7, e9, e10, e11, e12, e13⟩ ?_
      clear e0 e1 e5 e6 e7 e9 e10 e11 e12 e13
      clear F
      rintro F ⟨e0, e1, e5, e6, e7, e9, e10, e11, e12, e13⟩
      refine wp_regionF ?_
      refine lf_val (v := .int .i64 ((i + 1 : Nat) : Int)) (wantAll rfl) (rv_add rfl (fr_eval rfl e12) rfl (wrap_i64 (by omega) (by omega) (by omega))) ?_
      refine lf_val (v := .int .i64 ((i + 1 : Nat) : Int)) (wantAll rfl) (rv_move rfl (fr_eval rfl rfl)) ?_
      refine lf_nil ?_
      refine then_n ?_
      replace hH : Heap _ _ _ [_, _, _] := hH.drop (.cons_cons _ (.cons _ (.cons_cons _ (.cons_cons _ .slnil))))
      replace hH : Heap _ _ _ [_, _, _] := hH.perm (.trans (.swap _ _ _) (.cons _ (.refl _)))
      replace hH : Heap _ _ _ [_, _, _] := hH.perm (.cons _ (.trans (.swap _ _ _) (.cons _ (.refl _))))
      exact ⟨_, _, (by omega), rfl, i + 1, _, _, _, _, rfl, (by omega), pi1, (by omega), (by rw [send_next (by omega), ← pi3]; unfold stepK; rw [putK_no (fun h => hf1 h.1)]), e0, e1, e9, e10, e11, rfl, hH⟩
  · refine wp_cond_false (fr_eval rfl (e13.trans (congrArg Value.bool (decide_eq_false hc1)))) ?_
    refine wp_exit ?_
    refine then_exit ?_
    refine then_exit ?_
    refine blk_exit ?_
    have hF := hH
    exact bodyPost_end (v := .tuple #[]) (res0 rfl) rfl (⟨_, _, _, _, rfl, (by rw [pi3, show i = ms.length by omega, List.take_length]), hF⟩)

end Go.Proofs.Ytjgcjddaladgfaa
