/- Chapter 37's laws: the walk of TermJoins. -/
import Derived.Test.YtdlliajghfflnaaLaw37
namespace Go.Proofs.Ytdlliajghfflnaa
open Go.RowKit Go.Bz Go.Bz.Term
attribute [local irreducible] wpList Code.wp wpAnyX

theorem zL8_l0 {a0 : Value} {a1 : Value} {a2 : Value} : List.length ([a0, a1, a2]) = 3 := (show List.length [a0, a1, a2] = 3 from rfl)
theorem zL8_o1 {a0 : Value} {a1 : Value} {a2 : Value} (qa0 : a0.oneCell' = true) (qa1 : a1.oneCell' = true) (qa2 : a2.oneCell' = true) : ∀ u ∈ ([a0, a1, a2]), u.oneCell' = true := (ones_cons qa0 (ones_cons qa1 (ones_cons qa2 ones_nil)))
theorem zL8_g2 {a0 : Value} {a1 : Value} {a2 : Value} : ([a0, a1, a2])[0]? = some a0 := rfl
theorem zL8_g3 {a0 : Value} {a1 : Value} {a2 : Value} : ([a0, a1, a2])[1]? = some a1 := rfl
theorem zL8_g4 {a0 : Value} {a1 : Value} {a2 : Value} : ([a0, a1, a2])[2]? = some a2 := rfl
set_option maxRecDepth 100000 in
set_option maxHeartbeats 4000000 in
theorem termJoins_walk (z : Int) (a b : List Nd) (va vb : Value) (w : World) (ha0 : Rd w 3 va a.length (a.flatMap cNd)) (hb0 : Rd w 3 vb b.length (b.flatMap cNd)) :
    Calls Try.prog 5 #[.int .i64 z, va, vb] w fun e'' w' => e'' = .returned (.bool true) ∧ Ext w w' := by
  refine calls_fr (args := [.int .i64 z, va, vb]) (n := 222) Try.func5 rfl rfl (show 3 ≤ 222 by decide) ?_
  have h00 : ([] : List Nd).length = 0 := rfl
  have ha := Rd.stab ha0
  have hb := Rd.stab hb0
  have hH : Heap (newN w) w w [] := Heap.fresh
  refine wp_seq ?_
  refine wp_gen (fun F' => F' 0 = .int .i64 z ∧ F' 1 = va ∧ F' 2 = vb) ⟨rfl, rfl, rfl⟩ ?_
  rintro F ⟨e0, e1, e2⟩
  refine wp_regionF ?_
  refine lf_val (v := .bool false) (wantAll rfl) (rv_assign rfl rfl) ?_
  refine lf_nil ?_
  refine then_n ?_
  refine wp_seq ?_
  refine wp_seq ?_
  refine wp_gen (fun F' => F' 0 = .int .i64 z ∧ F' 1 = va ∧ F' 2 = vb ∧ F' 6 = .bool false) ⟨e0, e1, e2, rfl⟩ ?_
  clear e0 e1 e2
  clear F
  rintro F ⟨e0, e1, e2, e6⟩
  refine wp_regionF ?_
  refine lf_val (v := va) (wantAll rfl) (rv_move rfl (fr_eval rfl e1)) ?_
  refine lf_val (v := .int .i64 ((a.length : Nat) : Int)) (wantAll rfl) (rv_len rfl (fr_eval rfl rfl) (ha.rd _ hH.chg) Try.underlying24) ?_
  refine lf_val (v := .bool (decide (a.length > 20))) (wantAll rfl) (rv_gtrP (p := a.length > 20) rfl (fr_eval rfl rfl) rfl (by omega)) ?_
  refine lf_val (v := .bool (decide (a.length > 20))) (wantAll rfl) (rv_move rfl (fr_eval rfl rfl)) ?_
  refine lf_joinP (fun F' => F' 0 = .int .i64 z ∧ F' 1 = va ∧ F' 2 = vb ∧ F' 6 = .bool false ∧ F' 30 = .bool (decide ((a.length > 20) ∨ (b.length > 20)))) 4 (fun hk => ?_) ?_
  · by_cases hc1 : a.length > 20
    · refine lf_not (wantNot (d := 26) rfl (by kernel_rfl) rfl (congrArg Value.bool (decide_eq_true hc1))) ?_
      refine lf_not (wantNot (d := 26) rfl (by kernel_rfl) rfl (congrArg Value.bool (decide_eq_true hc1))) ?_
      refine lf_not (wantNot (d := 26) rfl (by kernel_rfl) rfl (congrArg Value.bool (decide_eq_true hc1))) ?_
      refine lf_val (v := .bool true) (wantAll rfl) (rv_pickT rfl (fr_eval rfl (congrArg Value.bool (decide_eq_true hc1))) rfl) ?_
      exact hk _ ⟨e0, e1, e2, e6, (congrArg Value.bool (dec_orT hc1))⟩
    · refine lf_val (v := vb) (wantF (d := 26) rfl (by kernel_rfl) rfl (congrArg Value.bool (decide_eq_false hc1))) (rv_move rfl (fr_eval rfl e2)) ?_
      refine lf_val (v := .int .i64 ((b.length : Nat) : Int)) (wantF (d := 26) rfl (by kernel_rfl) rfl (congrArg Value.bool (decide_eq_false hc1))) (rv_len rfl (fr_eval rfl rfl) (hb.rd _ hH.chg) Try.underlying24) ?_
      refine lf_val (v := .bool (decide (b.length > 20))) (wantF (d := 26) rfl (by kernel_rfl) rfl (congrArg Value.bool (decide_eq_false hc1))) (rv_gtrP (p := b.length > 20) rfl (fr_eval rfl rfl) rfl (by omega)) ?_
      refine lf_val (v := .bool (decide (b.length > 20))) (wantAll rfl) (rv_pickF rfl (fr_eval rfl (congrArg Value.bool (decide_eq_false hc1))) (fr_eval rfl rfl)) ?_
      exact hk _ ⟨e0, e1, e2, e6, (congrArg Value.bool (dec_or hc1))⟩
  · clear e0 e1 e2 e6
    clear F
    rintro F ⟨e0, e1, e2, e6, e30⟩
    refine lf_val (wantAll rfl) (rv_move rfl (fr_eval rfl e30)) ?_
    refine lf_join (fun F' w' => F' 0 = .int .i64 z ∧ F' 1 = va ∧ F' 2 = vb ∧ F' 6 = .bool false ∧ F' 35 = .bool (decide (((a.length > 20) ∨ (b.length > 20)) ∨ (¬ (okT a)))) ∧ Heap (newN w) w w' []) 4 (fun hk => ?_) ?_
    · by_cases hc2 : (a.length > 20) ∨ (b.length > 20)
      · refine lf_not (wantNot (d := 31) rfl (by kernel_rfl) rfl (congrArg Value.bool (decide_eq_true hc2))) ?_
        refine lf_not (wantNot (d := 31) rfl (by kernel_rfl) rfl (congrArg Value.bool (decide_eq_true hc2))) ?_
        refine lf_not (wantNot (d := 31) rfl (by kernel_rfl) rfl (congrArg Value.bool (decide_eq_true hc2))) ?_
        refine lf_val (v := .bool true) (wantAll rfl) (rv_pickT rfl (fr_eval rfl (congrArg Value.bool (decide_eq_true hc2))) rfl) ?_
        exact hk _ _ ⟨e0, e1, e2, e6, (congrArg Value.bool (dec_orT hc2)), hH⟩
      · refine lf_val (v := va) (wantF (d := 31) rfl (by kernel_rfl) rfl (congrArg Value.bool (decide_eq_false hc2))) (rv_move rfl (fr_eval rfl e1)) ?_
        refine lf_call (wantF (d := 31) rfl (by kernel_rfl) rfl (congrArg Value.bool (decide_eq_false hc2))) (rv_call (args := [va]) rfl (evc (fr_eval rfl rfl) evn) Try.call11) (lawRight_calls a _ _ (ha.rd _ hH.chg)) ?_
        rintro _ w1 ⟨rfl, hx⟩
        refine ⟨_, rfl, ?_⟩
        replace hH := hH.ext hx
        clear hx
        refine lf_val (v := .bool (decide (¬ (okT a)))) (wantF (d := 31) rfl (by kernel_rfl) rfl (congrArg Value.bool (decide_eq_false hc2))) (rv_notP (q := ¬ (okT a)) rfl (fr_eval rfl rfl) Iff.rfl) ?_
        refine lf_val (v := .bool (decide (¬ (okT a)))) (wantAll rfl) (rv_pickF rfl (fr_eval rfl (congrArg Value.bool (decide_eq_false hc2))) (fr_eval rfl rfl)) ?_
        exact hk _ _ ⟨e0, e1, e2, e6, (congrArg Value.bool (dec_or hc2)), hH⟩
    · clear e0 e1 e2 e6 e30 hH
      clear F
      rintro F w2 ⟨e0, e1, e2, e6, e35, hH⟩
      refine lf_val (wantAll rfl) (rv_move rfl (fr_eval rfl e35)) ?_
      refine lf_join (fun F' w' => F' 0 = .int .i64 z ∧ F' 1 = va ∧ F' 2 = vb ∧ F' 6 = .bool false ∧ F' 40 = .bool (decide ((((a.length > 20) ∨ (b.length > 20)) ∨ (¬ (okT a))) ∨ (¬ (okT b)))) ∧ Heap (newN w) w w' []) 4 (fun hk => ?_) ?_
      · by_cases hc3 : ((a.length > 20) ∨ (b.length > 20)) ∨ (¬ (okT a))
        · refine lf_not (wantNot (d := 36) rfl (by kernel_rfl) rfl (congrArg Value.bool (decide_eq_true hc3))) ?_
          refine lf_not (wantNot (d := 36) rfl (by kernel_rfl) rfl (congrArg Value.bool (decide_eq_true hc3))) ?_
          refine lf_not (wantNot (d := 36) rfl (by kernel_rfl) rfl (congrArg Value.bool (decide_eq_true hc3))) ?_
          refine lf_val (v := .bool true) (wantAll rfl) (rv_pickT rfl (fr_eval rfl (congrArg Value.bool (decide_eq_true hc3))) rfl) ?_
          exact hk _ _ ⟨e0, e1, e2, e6, (congrArg Value.bool (dec_orT hc3)), hH⟩
        · refine lf_val (v := vb) (wantF (d := 36) rfl (by kernel_rfl) rfl (congrArg Value.bool (decide_eq_false hc3))) (rv_move rfl (fr_eval rfl e2)) ?_
          refine lf_call (wantF (d := 36) rfl (by kernel_rfl) rfl (congrArg Value.bool (decide_eq_false hc3))) (rv_call (args := [vb]) rfl (evc (fr_eval rfl rfl) evn) Try.call11) (lawRight_calls b _ _ (hb.rd _ hH.chg)) ?_
          rintro _ w3 ⟨rfl, hx⟩
          refine ⟨_, rfl, ?_⟩
          replace hH := hH.ext hx
          clear hx
          refine lf_val (v := .bool (decide (¬ (okT b)))) (wantF (d := 36) rfl (by kernel_rfl) rfl (congrArg Value.bool (decide_eq_false hc3))) (rv_notP (q := ¬ (okT b)) rfl (fr_eval rfl rfl) Iff.rfl) ?_
          refine lf_val (v := .bool (decide (¬ (okT b)))) (wantAll rfl) (rv_pickF rfl (fr_eval rfl (congrArg Value.bool (decide_eq_false hc3))) (fr_eval rfl rfl)) ?_
          exact hk _ _ ⟨e0, e1, e2, e6, (congrArg Value.bool (dec_or hc3)), hH⟩
      · clear e0 e1 e2 e6 e35 hH
        clear F
        rintro F w4 ⟨e0, e1, e2, e6, e40, hH⟩
        refine lf_nil ?_
        refine then_n ?_
        by_cases hc4 : (((a.length > 20) ∨ (b.length > 20)) ∨ (¬ (okT a))) ∨ (¬ (okT b))
        · refine wp_cond_true (fr_eval rfl (e40.trans (congrArg Value.bool (decide_eq_true hc4)))) ?_
          refine wp_seq ?_
          refine wp_regionF ?_
          refine lf_call (wantAll rfl) (rv_call (args := []) rfl evn Try.call7) (awake37_calls _) ?_
          rintro _ w5 ⟨rfl, hx⟩
          refine ⟨_, rfl, ?_⟩
          replace hH := hH.ext hx
          clear hx
          refine lf_val (v := .bool true) (wantAll rfl) (rv_assign rfl (fr_eval rfl rfl)) ?_
          refine lf_nil ?_
          refine then_n ?_
          refine wp_gen (fun F' => F' 0 = .int .i64 z ∧ F' 1 = va ∧ F' 2 = vb ∧ F' 6 = .bool true ∧ F' 40 = .bool true) ⟨e0, e1, e2, rfl, (e40.trans (congrArg Value.bool (decide_eq_true hc4)))⟩ ?_
          clear e0 e1 e2 e6 e40
          clear F
          rintro F ⟨e0, e1, e2, e6, e40⟩
          refine wp_ret ?_
          refine then_ret ?_
          exact bodyPost_ret (v := (.bool true)) (res1 rfl (ro_tmp rfl e6)) rfl (⟨rfl, hH.done⟩)
        · refine wp_cond_false (fr_eval rfl (e40.trans (congrArg Value.bool (decide_eq_false hc4)))) ?_
          refine wp_skip ?_
          refine then_n ?_
          refine wp_seq ?_
          have hta : okT a := Classical.byContradiction fun h => hc4 (Or.inl (Or.inr h))
          have htb : okT b := Classical.byContradiction fun h => hc4 (Or.inr h)
          have ha1 := hta.1
          have hb1 := htb.1
          refine wp_regionF ?_
          refine lf_val (v := .pointer none) (wantAll rfl) (rv_assign rfl rfl) ?_
          refine lf_nil ?_
          refine then_n ?_
          refine wp_seq ?_
          refine wp_gen (fun F' => F' 0 = .int .i64 z ∧ F' 1 = va ∧ F' 2 = vb ∧ F' 6 = .bool false ∧ F' 7 = .pointer none ∧ F' 40 = .bool false) ⟨e0, e1, e2, e6, rfl, (e40.trans (congrArg Value.bool (decide_eq_false hc4)))⟩ ?_
          clear e0 e1 e2 e6 e40
          clear F
          rintro F ⟨e0, e1, e2, e6, e7, e40⟩
          refine wp_regionF ?_
          refine lf_val (v := .pointer none) (wantAll rfl) (rv_assign rfl rfl) ?_
          refine lf_nil ?_
          refine then_n ?_
          refine wp_seq ?_
          refine wp_gen (fun F' => F' 0 = .int .i64 z ∧ F' 1 = va ∧ F' 2 = vb ∧ F' 6 = .bool false ∧ F' 7 = .pointer none ∧ F' 8 = .pointer none ∧ F' 40 = .bool false) ⟨e0, e1, e2, e6, e7, rfl, e40⟩ ?_
          clear e0 e1 e2 e6 e7 e40
          clear F
          rintro F ⟨e0, e1, e2, e6, e7, e8, e40⟩
          refine wp_regionF ?_
          refine lf_val (v := .pointer none) (wantAll rfl) (rv_move rfl (fr_eval rfl e8)) ?_
          refine lf_val (v := va) (wantAll rfl) (rv_move rfl (fr_eval rfl e1)) ?_
          refine lf_call (wantAll rfl) (rv_call (args := [.pointer none, va]) rfl (evc (fr_eval rfl rfl) (evc (fr_eval rfl rfl) evn)) Try.call13) (into_nil a _ _ (ha.rd _ hH.chg)) ?_
          rintro _ w6 ⟨rfl, hx⟩
          refine ⟨_, rfl, ?_⟩
          replace hH := hH.ext hx
          clear hx
          refine lf_val (v := .tuple #[.int .i64 0, .int .i64 1]) (wantAll rfl) (rv_move rfl (fr_eval rfl rfl)) ?_
          refine lf_val (v := .int .i64 0) (wantAll rfl) (rv_extract rfl (fr_eval rfl rfl) rfl) ?_
          refine lf_val (v := .int .i64 1) (wantAll rfl) (rv_extract rfl (fr_eval rfl rfl) rfl) ?_
          refine lf_val (v := .int .i64 0) (wantAll rfl) (rv_assign rfl (fr_eval rfl rfl)) ?_
          refine lf_val (v := .int .i64 1) (wantAll rfl) (rv_assign rfl (fr_eval rfl rfl)) ?_
          refine lf_nil ?_
          refine then_n ?_
          refine wp_seq ?_
          refine wp_seq ?_
          refine wp_gen (fun F' => F' 0 = .int .i64 z ∧ F' 1 = va ∧ F' 2 = vb ∧ F' 6 = .bool false ∧ F' 7 = .pointer none ∧ F' 8 = .pointer none ∧ F' 10 = .int .i64 1 ∧ F' 40 = .bool false) ⟨e0, e1, e2, e6, e7, e8, rfl, e40⟩ ?_
          clear e0 e1 e2 e6 e7 e8 e40
          clear F
          rintro F ⟨e0, e1, e2, e6, e7, e8, e10, e40⟩
          refine wp_regionF ?_
          refine lf_val (v := .pointer none) (wantAll rfl) (rv_move rfl (fr_eval rfl e7)) ?_
          refine lf_val (v := va) (wantAll rfl) (rv_move rfl (fr_eval rfl e1)) ?_
          refine lf_call (wantAll rfl) (rv_call (args := [.pointer none, va]) rfl (evc (fr_eval rfl rfl) (evc (fr_eval rfl rfl) evn)) Try.call9) (can_nil a _ _ (ha.rd _ hH.chg)) ?_
          rintro _ w7 ⟨rfl, hx⟩
          refine ⟨_, rfl, ?_⟩
          replace hH := hH.ext hx
          clear hx
          refine lf_val (v := .bool false) (wantAll rfl) (rv_move rfl (fr_eval rfl rfl)) ?_
          refine lf_val (v := .pointer none) (wantF (d := 51) rfl (by kernel_rfl) rfl rfl) (rv_move rfl (fr_eval rfl e7)) ?_
          refine lf_val (v := va) (wantF (d := 51) rfl (by kernel_rfl) rfl rfl) (rv_move rfl (fr_eval rfl e1)) ?_
          refine lf_ex (wantF (d := 51) rfl (by kernel_rfl) rfl rfl) (hx_lits hH Try.stTerms (n := 1) (nm := 1) [(.tmp 53)] (vs := [va]) rfl (evc (fr_eval rfl rfl) evn) (ones_cons (Rd.oneV (ha.rd _ hH.chg)) ones_nil) rfl (by decide) rfl rfl) ?_
          clear hH
          rintro y1 w8 ⟨hH, hx⟩
          replace hH : Heap _ _ _ [_] := hH
          clear hx
          refine lf_call (wantF (d := 51) rfl (by kernel_rfl) rfl rfl) (rv_call (args := [.pointer none, y1]) rfl (evc (fr_eval rfl rfl) (evc (fr_eval rfl rfl) evn)) Try.call8) (learn_nil (⟨⟨va, (Rd.oneV (ha.rd _ hH.chg))⟩, a⟩ : Tm) _ _ (Own.rd (hH.own (i := 0) rfl) (ones_cons (Rd.oneV (ha.rd _ hH.chg)) ones_nil))) ?_
          rintro _ w9 ⟨rfl, hx⟩
          refine ⟨_, rfl, ?_⟩
          replace hH := hH.ext hx
          clear hx
          refine lf_val (v := .bool false) (wantF (d := 51) rfl (by kernel_rfl) rfl rfl) (rv_neq rfl (fr_eval rfl rfl) rfl (show decide ((1 : Int) = 1) = true from by decide)) ?_
          refine lf_val (v := .bool false) (wantAll rfl) (rv_pickF rfl (fr_eval rfl rfl) (fr_eval rfl rfl)) ?_
          refine lf_val (v := .bool false) (wantAll rfl) (rv_move rfl (fr_eval rfl rfl)) ?_
          refine lf_val (v := .pointer none) (wantF (d := 58) rfl (by kernel_rfl) rfl rfl) (rv_move rfl (fr_eval rfl e7)) ?_
          refine lf_call (wantF (d := 58) rfl (by kernel_rfl) rfl rfl) (rv_call (args := [.pointer none]) rfl (evc (fr_eval rfl rfl) evn) Try.call14) (knows_nil _) ?_
          rintro _ w10 ⟨rfl, hx⟩
          refine ⟨_, rfl, ?_⟩
          replace hH := hH.ext hx
          clear hx
          refine lf_val (v := .pointer none) (wantF (d := 58) rfl (by kernel_rfl) rfl rfl) (rv_move rfl (fr_eval rfl e8)) ?_
          refine lf_call (wantF (d := 58) rfl (by kernel_rfl) rfl rfl) (rv_call (args := [.pointer none]) rfl (evc (fr_eval rfl rfl) evn) Try.call15) (len_nil _) ?_
          rintro _ w11 ⟨rfl, hx⟩
          refine ⟨_, rfl, ?_⟩
          replace hH := hH.ext hx
          clear hx
          refine lf_val (v := .int .i64 0) (wantF (d := 58) rfl (by kernel_rfl) rfl rfl) (rv_add rfl (fr_eval rfl rfl) (fr_eval rfl rfl) (wrap_i64 (by omega) (by omega) (by omega))) ?_
          refine lf_val (v := .bool false) (wantF (d := 58) rfl (by kernel_rfl) rfl rfl) (rv_neq rfl (fr_eval rfl rfl) rfl (show decide ((0 : Int) = 0) = true from by decide)) ?_
          refine lf_val (v := .bool false) (wantAll rfl) (rv_pickF rfl (fr_eval rfl rfl) (fr_eval rfl rfl)) ?_
          refine lf_val (v := .bool false) (wantAll rfl) (rv_move rfl (fr_eval rfl rfl)) ?_
          refine lf_val (v := .int .i64 1) (wantF (d := 66) rfl (by kernel_rfl) rfl rfl) (rv_move rfl (fr_eval rfl e10)) ?_
          refine lf_val (v := .bool false) (wantF (d := 66) rfl (by kernel_rfl) rfl rfl) (rv_neq rfl (fr_eval rfl rfl) rfl (show decide ((1 : Int) = 1) = true from by decide)) ?_
          refine lf_val (v := .bool false) (wantAll rfl) (rv_pickF rfl (fr_eval rfl rfl) (fr_eval rfl rfl)) ?_
          refine lf_nil ?_
          refine then_n ?_
          replace hH : Heap _ _ _ [] := hH.drop (.cons _ .slnil)
          refine wp_gen (fun F' => F' 0 = .int .i64 z ∧ F' 1 = va ∧ F' 2 = vb ∧ F' 6 = .bool false ∧ F' 7 = .pointer none ∧ F' 8 = .pointer none ∧ F' 10 = .int .i64 1 ∧ F' 40 = .bool false ∧ F' 69 = .bool false) ⟨e0, e1, e2, e6, e7, e8, e10, e40, rfl⟩ ?_
          clear e0 e1 e2 e6 e7 e8 e10 e40
          clear F
          rintro F ⟨e0, e1, e2, e6, e7, e8, e10, e40, e69⟩
          refine wp_cond_false (fr_eval rfl e69) ?_
          refine wp_skip ?_
          refine then_n ?_
          refine wp_seq ?_
          refine wp_regionF ?_
          refine lf_val (v := .int .i64 z) (wantAll rfl) (rv_move rfl (fr_eval rfl e0)) ?_
          refine lf_val (v := va) (wantAll rfl) (rv_move rfl (fr_eval rfl e1)) ?_
          refine lf_val (v := vb) (wantAll rfl) (rv_move rfl (fr_eval rfl e2)) ?_
          refine lf_call (wantAll rfl) (rv_call (args := [.int .i64 z, va, vb]) rfl (evc (fr_eval rfl rfl) (evc (fr_eval rfl rfl) (evc (fr_eval rfl rfl) evn))) Try.call10) (join_calls z a b hta htb _ _ _ (ha.rd _ hH.chg) (hb.rd _ hH.chg)) ?_
          rintro _ w12 ⟨⟨y2, rfl, ho, hg⟩, hx⟩
          refine ⟨_, rfl, ?_⟩
          replace hH : Heap _ _ _ [_] := hH.addOwn hx hg ho
          clear ho hg
          clear hx
          refine lf_val (v := y2) (wantAll rfl) (rv_assign rfl (fr_eval rfl rfl)) ?_
          refine lf_nil ?_
          refine then_n ?_
          refine wp_seq ?_
          refine wp_gen (fun F' => F' 0 = .int .i64 z ∧ F' 1 = va ∧ F' 2 = vb ∧ F' 6 = .bool false ∧ F' 7 = .pointer none ∧ F' 8 = .pointer none ∧ F' 10 = .int .i64 1 ∧ F' 11 = y2 ∧ F' 40 = .bool false ∧ F' 69 = .bool false) ⟨e0, e1, e2, e6, e7, e8, e10, rfl, e40, e69⟩ ?_
          clear e0 e1 e2 e6 e7 e8 e10 e40 e69
          clear F
          rintro F ⟨e0, e1, e2, e6, e7, e8, e10, e11, e40, e69⟩
          have hj3 : z = 3 → (joinT z a b).length = a.length + 1 := fun h => by subst h; exact joinT_len3
          have hjn : ¬ z = 3 → (joinT z a b).length = a.length + b.length + 1 := fun h => joinT_len h
          have hb0' := okB_nil
          have hba := bank_ok hb0' hta
          have hbb := bank_ok hba htb
          have hla := bankT_le (ns := []) hta
          have hlb := bankT_le (ns := bankT [] a) htb
          refine wp_regionF ?_
          refine lf_val (v := .agg #[.slice none 0 0, .map none]) (wantAll rfl) (rv_buildS (ps := []) (places := #[(0, 1), (1, 1)]) (z := .agg #[.slice none 0 0, .map none]) (zc := [.slice none 0 0, .map none]) (cs := [.slice none 0 0, .map none]) rfl evpn (by kernel_rfl) rfl Try.underlying30 (fun _ => by kernel_rfl) fill0) ?_
          refine lf_ex (wantAll rfl) (hx_box hH 30 (cs := [.slice none 0 0, .map none]) rfl (fr_eval rfl rfl) (by rfl)) ?_
          clear hH
          rintro _ w13 ⟨g1, rfl, hH, hx⟩
          replace hH : Heap _ _ _ [_, _] := hH
          clear hx
          refine lf_val (v := .pointer (some ⟨g1, 0, none⟩)) (wantAll rfl) (rv_assign rfl (fr_eval rfl rfl)) ?_
          refine lf_nil ?_
          refine then_n ?_
          refine wp_seq ?_
          refine wp_gen (fun F' => F' 0 = .int .i64 z ∧ F' 1 = va ∧ F' 2 = vb ∧ F' 6 = .bool false ∧ F' 7 = .pointer none ∧ F' 8 = .pointer none ∧ F' 10 = .int .i64 1 ∧ F' 11 = y2 ∧ F' 12 = .pointer (some ⟨g1, 0, none⟩) ∧ F' 40 = .bool false ∧ F' 69 = .bool false) ⟨e0, e1, e2, e6, e7, e8, e10, e11, rfl, e40, e69⟩ ?_
          clear e0 e1 e2 e6 e7 e8 e10 e11 e40 e69
          clear F
          rintro F ⟨e0, e1, e2, e6, e7, e8, e10, e11, e12, e40, e69⟩
          replace hH : Heap _ _ _ [_, _, _] := hH.addNil 40 3
          replace hH : Heap (newN w) w w13 [oRow cNd 40 3 y2 (joinT z a b), oBlk g1 ([(.slice none 0 0), .map none]) 30, oRow cNd 40 3 (.slice none 0 0) [], oMp none []] := hH.addMp0
          refine wp_regionF ?_
          refine lf_val (v := .pointer (some ⟨g1, 0, none⟩)) (wantAll rfl) (rv_move rfl (fr_eval rfl e12)) ?_
          refine lf_val (v := va) (wantAll rfl) (rv_move rfl (fr_eval rfl e1)) ?_
          refine lf_call (wantAll rfl) (rv_call (args := [.pointer (some ⟨g1, 0, none⟩), va]) rfl (evc (fr_eval rfl rfl) (evc (fr_eval rfl rfl) evn)) Try.call13) (into_b [] (by omega) hb0' a hta _ _ (Stab.part (L := [_]) (M := [_, _, _]) ha hH) (Heap.part (L := [_]) (M := [_, _, _]) hH)) ?_
          rintro _ w14 ⟨y3, q1, rfl, hP⟩
          refine ⟨_, rfl, ?_⟩
          have hx := hH.callChg (L := [_]) (M := [_, _, _]) (fun _ h => h) hP
          replace hH : Heap _ _ _ [_, _, _, _] := hH.call (L := [_]) (M := [_, _, _]) (fun _ h => h) hP (Stays.blk (hP.blk (i := 0) rfl) (Stays.own (hP.own (i := 1) rfl) (Stays.mp (hP.mp (i := 2) rfl) Stays.nil)))
          clear hP
          clear hx
          refine lf_val (v := .tuple #[.int .i64 ((idT [] a : Nat) : Int), .int .i64 0]) (wantAll rfl) (rv_move rfl (fr_eval rfl rfl)) ?_
          refine lf_val (v := .int .i64 ((idT [] a : Nat) : Int)) (wantAll rfl) (rv_extract rfl (fr_eval rfl rfl) rfl) ?_
          refine lf_val (v := .int .i64 0) (wantAll rfl) (rv_extract rfl (fr_eval rfl rfl) rfl) ?_
          refine lf_val (v := .int .i64 ((idT [] a : Nat) : Int)) (wantAll rfl) (rv_assign rfl (fr_eval rfl rfl)) ?_
          refine lf_val (v := .int .i64 0) (wantAll rfl) (rv_assign rfl (fr_eval rfl rfl)) ?_
          refine lf_nil ?_
          refine then_n ?_
          refine wp_seq ?_
          refine wp_gen (fun F' => F' 0 = .int .i64 z ∧ F' 1 = va ∧ F' 2 = vb ∧ F' 6 = .bool false ∧ F' 7 = .pointer none ∧ F' 8 = .pointer none ∧ F' 10 = .int .i64 1 ∧ F' 11 = y2 ∧ F' 12 = .pointer (some ⟨g1, 0, none⟩) ∧ F' 13 = .int .i64 ((idT [] a : Nat) : Int) ∧ F' 40 = .bool false ∧ F' 69 = .bool false) ⟨e0, e1, e2, e6, e7, e8, e10, e11, e12, rfl, e40, e69⟩ ?_
          clear e0 e1 e2 e6 e7 e8 e10 e11 e12 e40 e69
          clear F
          rintro F ⟨e0, e1, e2, e6, e7, e8, e10, e11, e12, e13, e40, e69⟩
          refine wp_regionF ?_
          refine lf_val (v := .pointer (some ⟨g1, 0, none⟩)) (wantAll rfl) (rv_move rfl (fr_eval rfl e12)) ?_
          refine lf_val (v := vb) (wantAll rfl) (rv_move rfl (fr_eval rfl e2)) ?_
          refine lf_call (wantAll rfl) (rv_call (args := [.pointer (some ⟨g1, 0, none⟩), vb]) rfl (evc (fr_eval rfl rfl) (evc (fr_eval rfl rfl) evn)) Try.call13) (into_b (bankT [] a) (by omega) hba b htb _ _ (Stab.part (L := [_]) (M := [_, _, _]) hb hH) (Heap.part (L := [_]) (M := [_, _, _]) hH)) ?_
          rintro _ w15 ⟨y4, q2, rfl, hP⟩
          refine ⟨_, rfl, ?_⟩
          have hx := hH.callChg (L := [_]) (M := [_, _, _]) (fun _ h => h) hP
          replace hH : Heap _ _ _ [_, _, _, _] := hH.call (L := [_]) (M := [_, _, _]) (fun _ h => h) hP (Stays.blk (hP.blk (i := 0) rfl) (Stays.own (hP.own (i := 1) rfl) (Stays.mp (hP.mp (i := 2) rfl) Stays.nil)))
          clear hP
          clear hx
          refine lf_val (v := .tuple #[.int .i64 ((idT (bankT [] a) b : Nat) : Int), .int .i64 0]) (wantAll rfl) (rv_move rfl (fr_eval rfl rfl)) ?_
          refine lf_val (v := .int .i64 ((idT (bankT [] a) b : Nat) : Int)) (wantAll rfl) (rv_extract rfl (fr_eval rfl rfl) rfl) ?_
          refine lf_val (v := .int .i64 0) (wantAll rfl) (rv_extract rfl (fr_eval rfl rfl) rfl) ?_
          refine lf_val (v := .int .i64 ((idT (bankT [] a) b : Nat) : Int)) (wantAll rfl) (rv_assign rfl (fr_eval rfl rfl)) ?_
          refine lf_val (v := .int .i64 0) (wantAll rfl) (rv_assign rfl (fr_eval rfl rfl)) ?_
          refine lf_nil ?_
          refine then_n ?_
          refine wp_seq ?_
          refine wp_gen (fun F' => F' 0 = .int .i64 z ∧ F' 1 = va ∧ F' 2 = vb ∧ F' 6 = .bool false ∧ F' 7 = .pointer none ∧ F' 8 = .pointer none ∧ F' 10 = .int .i64 1 ∧ F' 11 = y2 ∧ F' 12 = .pointer (some ⟨g1, 0, none⟩) ∧ F' 13 = .int .i64 ((idT [] a : Nat) : Int) ∧ F' 15 = .int .i64 ((idT (bankT [] a) b : Nat) : Int) ∧ F' 40 = .bool false ∧ F' 69 = .bool false) ⟨e0, e1, e2, e6, e7, e8, e10, e11, e12, e13, rfl, e40, e69⟩ ?_
          clear e0 e1 e2 e6 e7 e8 e10 e11 e12 e13 e40 e69
          clear F
          rintro F ⟨e0, e1, e2, e6, e7, e8, e10, e11, e12, e13, e15, e40, e69⟩
          by_cases hf1 : okT (joinT z a b)
          · refine wp_regionF ?_
            refine lf_val (v := .pointer (some ⟨g1, 0, none⟩)) (wantAll rfl) (rv_move rfl (fr_eval rfl e12)) ?_
            refine lf_val (v := y2) (wantAll rfl) (rv_move rfl (fr_eval rfl e11)) ?_
            refine lf_call (wantAll rfl) (rv_call (args := [.pointer (some ⟨g1, 0, none⟩), y2]) rfl (evc (fr_eval rfl rfl) (evc (fr_eval rfl rfl) evn)) Try.call13) (into_b (bankT (bankT [] a) b) (by omega) hbb (joinT z a b) hf1 _ _ (Heap.rowStab (L := [_]) (M := [_, _, _]) hH (i := 0) rfl (row_one cNd_one)) (Heap.part (L := [_]) (M := [_, _, _]) hH)) ?_
            rintro _ w16 ⟨y5, q3, rfl, hP⟩
            refine ⟨_, rfl, ?_⟩
            have hx := hH.callChg (L := [_]) (M := [_, _, _]) (fun _ h => h) hP
            replace hH : Heap _ _ _ [_, _, _, _] := hH.call (L := [_]) (M := [_, _, _]) (fun _ h => h) hP (Stays.blk (hP.blk (i := 0) rfl) (Stays.own (hP.own (i := 1) rfl) (Stays.mp (hP.mp (i := 2) rfl) Stays.nil)))
            clear hP
            clear hx
            refine lf_val (v := .tuple #[.int .i64 ((idT (bankT (bankT [] a) b) (joinT z a b) : Nat) : Int), .int .i64 0]) (wantAll rfl) (rv_move rfl (fr_eval rfl rfl)) ?_
            refine lf_val (v := .int .i64 ((idT (bankT (bankT [] a) b) (joinT z a b) : Nat) : Int)) (wantAll rfl) (rv_extract rfl (fr_eval rfl rfl) rfl) ?_
            refine lf_val (v := .int .i64 0) (wantAll rfl) (rv_extract rfl (fr_eval rfl rfl) rfl) ?_
            refine lf_val (v := .int .i64 ((idT (bankT (bankT [] a) b) (joinT z a b) : Nat) : Int)) (wantAll rfl) (rv_assign rfl (fr_eval rfl rfl)) ?_
            refine lf_val (v := .int .i64 0) (wantAll rfl) (rv_assign rfl (fr_eval rfl rfl)) ?_
            refine lf_nil ?_
            refine then_n ?_
            refine wp_seq ?_
            refine wp_seq ?_
            refine wp_gen (fun F' => F' 0 = .int .i64 z ∧ F' 1 = va ∧ F' 2 = vb ∧ F' 6 = .bool false ∧ F' 7 = .pointer none ∧ F' 8 = .pointer none ∧ F' 10 = .int .i64 1 ∧ F' 11 = y2 ∧ F' 12 = .pointer (some ⟨g1, 0, none⟩) ∧ F' 13 = .int .i64 ((idT [] a : Nat) : Int) ∧ F' 15 = .int .i64 ((idT (bankT [] a) b : Nat) : Int) ∧ F' 17 = .int .i64 ((idT (bankT (bankT [] a) b) (joinT z a b) : Nat) : Int) ∧ F' 18 = .int .i64 0 ∧ F' 40 = .bool false ∧ F' 69 = .bool false) ⟨e0, e1, e2, e6, e7, e8, e10, e11, e12, e13, e15, rfl, rfl, e40, e69⟩ ?_
            clear e0 e1 e2 e6 e7 e8 e10 e11 e12 e13 e15 e40 e69
            clear F
            rintro F ⟨e0, e1, e2, e6, e7, e8, e10, e11, e12, e13, e15, e17, e18, e40, e69⟩
            refine wp_regionF ?_
            refine lf_val (v := .int .i64 z) (wantAll rfl) (rv_move rfl (fr_eval rfl e0)) ?_
            refine lf_val (v := .bool (decide (z = 3))) (wantAll rfl) (rv_eqlP (p := z = 3) rfl (fr_eval rfl rfl) rfl Iff.rfl) ?_
            refine lf_nil ?_
            refine then_n ?_
            refine wp_gen (fun F' => F' 0 = .int .i64 z ∧ F' 1 = va ∧ F' 2 = vb ∧ F' 6 = .bool false ∧ F' 7 = .pointer none ∧ F' 8 = .pointer none ∧ F' 10 = .int .i64 1 ∧ F' 11 = y2 ∧ F' 12 = .pointer (some ⟨g1, 0, none⟩) ∧ F' 13 = .int .i64 ((idT [] a : Nat) : Int) ∧ F' 15 = .int .i64 ((idT (bankT [] a) b : Nat) : Int) ∧ F' 17 = .int .i64 ((idT (bankT (bankT [] a) b) (joinT z a b) : Nat) : Int) ∧ F' 18 = .int .i64 0 ∧ F' 40 = .bool false ∧ F' 69 = .bool false ∧ F' 95 = .bool (decide (z = 3))) ⟨e0, e1, e2, e6, e7, e8, e10, e11, e12, e13, e15, e17, e18, e40, e69, rfl⟩ ?_
            clear e0 e1 e2 e6 e7 e8 e10 e11 e12 e13 e15 e17 e18 e40 e69
            clear F
            rintro F ⟨e0, e1, e2, e6, e7, e8, e10, e11, e12, e13, e15, e17, e18, e40, e69, e95⟩
            by_cases hc5 : z = 3
            · refine wp_cond_true (fr_eval rfl (e95.trans (congrArg Value.bool (decide_eq_true hc5)))) ?_
              refine wp_seq ?_
              refine wp_regionF ?_
              refine lf_val (v := .int .i64 0) (wantAll rfl) (rv_move rfl (fr_eval rfl e18)) ?_
              refine lf_val (v := .bool true) (wantAll rfl) (rv_eql rfl (fr_eval rfl rfl) rfl (by decide)) ?_
              refine lf_val (v := .bool true) (wantAll rfl) (rv_move rfl (fr_eval rfl rfl)) ?_
              refine lf_val (v := y2) (wantF (d := 98) rfl (by kernel_rfl) rfl rfl) (rv_move rfl (fr_eval rfl e11)) ?_
              refine lf_val (v := .int .i64 (((joinT z a b).length : Nat) : Int)) (wantF (d := 98) rfl (by kernel_rfl) rfl rfl) (rv_len rfl (fr_eval rfl rfl) (Own.rd (hH.own (i := 0) rfl) (row_one cNd_one)) Try.underlying24) ?_
              refine lf_val (v := va) (wantF (d := 98) rfl (by kernel_rfl) rfl rfl) (rv_move rfl (fr_eval rfl e1)) ?_
              refine lf_val (v := .int .i64 ((a.length : Nat) : Int)) (wantF (d := 98) rfl (by kernel_rfl) rfl rfl) (rv_len rfl (fr_eval rfl rfl) (ha.rd _ hH.chg) Try.underlying24) ?_
              refine lf_val (v := .int .i64 ((a.length + 1 : Nat) : Int)) (wantF (d := 98) rfl (by kernel_rfl) rfl rfl) (rv_add rfl (fr_eval rfl rfl) rfl (wrap_i64 (by omega) (by omega) (by omega))) ?_
              refine lf_val (v := .bool (decide ((joinT z a b).length = a.length + 1))) (wantF (d := 98) rfl (by kernel_rfl) rfl rfl) (rv_eqlP (p := (joinT z a b).length = a.length + 1) rfl (fr_eval rfl rfl) (fr_eval rfl rfl) (by omega)) ?_
              refine lf_val (v := .bool (decide ((joinT z a b).length = a.length + 1))) (wantAll rfl) (rv_pickT rfl (fr_eval rfl rfl) (fr_eval rfl rfl)) ?_
              refine lf_val (v := .bool (decide ((joinT z a b).length = a.length + 1))) (wantAll rfl) (rv_move rfl (fr_eval rfl rfl)) ?_
              by_cases hc6 : (joinT z a b).length = a.length + 1
              · refine lf_val (wantF (d := 106) rfl (by kernel_rfl) rfl (congrArg Value.bool (decide_eq_true hc6))) (rv_move rfl (fr_eval rfl e17)) ?_
                refine lf_val (v := .bool (decide (idT (bankT (bankT [] a) b) (joinT z a b) ≥ 0))) (wantF (d := 106) rfl (by kernel_rfl) rfl (congrArg Value.bool (decide_eq_true hc6))) (rv_geqP (p := idT (bankT (bankT [] a) b) (joinT z a b) ≥ 0) rfl (fr_eval rfl rfl) rfl (by omega)) ?_
                refine lf_val (v := .bool (decide (idT (bankT (bankT [] a) b) (joinT z a b) ≥ 0))) (wantAll rfl) (rv_pickT rfl (fr_eval rfl (congrArg Value.bool (decide_eq_true hc6))) (fr_eval rfl rfl)) ?_
                refine lf_val (v := .bool (decide (idT (bankT (bankT [] a) b) (joinT z a b) ≥ 0))) (wantAll rfl) (rv_move rfl (fr_eval rfl rfl)) ?_
                by_cases hc7 : idT (bankT (bankT [] a) b) (joinT z a b) ≥ 0
                · refine lf_val (v := y2) (wantF (d := 110) rfl (by kernel_rfl) rfl (congrArg Value.bool (decide_eq_true hc7))) (rv_move rfl (fr_eval rfl e11)) ?_
                  refine lf_val (v := va) (wantF (d := 110) rfl (by kernel_rfl) rfl (congrArg Value.bool (decide_eq_true hc7))) (rv_move rfl (fr_eval rfl e1)) ?_
                  refine lf_val (v := .int .i64 ((a.length : Nat) : Int)) (wantF (d := 110) rfl (by kernel_rfl) rfl (congrArg Value.bool (decide_eq_true hc7))) (rv_len rfl (fr_eval rfl rfl) (ha.rd _ hH.chg) Try.underlying24) ?_
                  refine lf_val (v := .pointer (some (elemA y2 (a.length * 3)))) (wantF (d := 110) rfl (by kernel_rfl) rfl (congrArg Value.bool (decide_eq_true hc7))) (rv_index rfl (fr_eval rfl rfl) (fr_eval rfl rfl) (rdN (Own.rd (hH.own (i := 0) rfl) (row_one cNd_one)) rfl) (show a.length < (joinT z a b).length from (by omega)) Try.underlying24 Try.sz40 (by decide)) ?_
                  refine lf_val (wantF (d := 110) rfl (by kernel_rfl) rfl (congrArg Value.bool (decide_eq_true hc7))) (rv_loadElem rfl (fr_eval rfl rfl) (rdN (Own.rd (hH.own (i := 0) rfl) (row_one cNd_one)) rfl) (show a.length < (joinT z a b).length from (by omega)) (by decide) (flat_part zN cNd_len (show a.length < (joinT z a b).length from (by omega))) Try.underlying40 rfl Try.sz40) ?_
                  refine lf_val (v := va) (wantF (d := 110) rfl (by kernel_rfl) rfl (congrArg Value.bool (decide_eq_true hc7))) (rv_move rfl (fr_eval rfl e1)) ?_
                  refine lf_val (v := .int .i64 ((a.length : Nat) : Int)) (wantF (d := 110) rfl (by kernel_rfl) rfl (congrArg Value.bool (decide_eq_true hc7))) (rv_len rfl (fr_eval rfl rfl) (ha.rd _ hH.chg) Try.underlying24) ?_
                  refine lf_val (v := .int .i64 ((a.length - 1 : Nat) : Int)) (wantF (d := 110) rfl (by kernel_rfl) rfl (congrArg Value.bool (decide_eq_true hc7))) (rv_sub rfl (fr_eval rfl rfl) rfl (wrap_i64 (by omega) (by omega) (by omega))) ?_
                  refine lf_val (wantF (d := 110) rfl (by kernel_rfl) rfl (congrArg Value.bool (decide_eq_true hc7))) (rv_buildS (ps := [(0, (.const (.int .i64 3))), (1, (.tmp 118))]) (places := #[(0, 1), (1, 1), (2, 1)]) (z := .agg #[.int .i64 0, .int .i64 0, .int .i64 0]) (zc := [.int .i64 0, .int .i64 0, .int .i64 0]) (cs := [.int .i64 3, .int .i64 ((a.length - 1 : Nat) : Int), .int .i64 0]) rfl (evpc rfl (evpc (fr_eval rfl rfl) evpn)) (by kernel_rfl) rfl Try.underlying40 (fun _ => by kernel_rfl) (fill1 rfl rfl (by first | decide | simp) (show _ = [.int .i64 3, .int .i64 0, .int .i64 0] from rfl) (fill1 rfl rfl (by first | decide | simp) (show _ = [.int .i64 3, .int .i64 ((a.length - 1 : Nat) : Int), .int .i64 0] from rfl) fill0))) ?_
                  refine lf_val (v := .bool true) (wantF (d := 110) rfl (by kernel_rfl) rfl (congrArg Value.bool (decide_eq_true hc7))) (rv_known (rv_eqNd (r := (List.getD (joinT z a b) a.length zN)) (q := (⟨3, ((a.length - 1 : Nat) : Int), 0⟩ : Nd)) rfl (fr_eval rfl rfl) (fr_eval rfl rfl)) (decide_eq_true (by rw [show z = 3 by assumption]; refine join3_at.trans ?_; simp only [Nd.mk.injEq, true_and, and_true]; omega))) ?_
                  refine lf_val (v := .bool true) (wantAll rfl) (rv_pickT rfl (fr_eval rfl (congrArg Value.bool (decide_eq_true hc7))) (fr_eval rfl rfl)) ?_
                  refine lf_val (v := .bool true) (wantAll rfl) (rv_move rfl (fr_eval rfl rfl)) ?_
                  refine lf_call (wantF (d := 122) rfl (by kernel_rfl) rfl rfl) (rv_call (args := []) rfl evn Try.call7) (awake37_calls _) ?_
                  rintro _ w17 ⟨rfl, hx⟩
                  refine ⟨_, rfl, ?_⟩
                  replace hH := hH.ext hx
                  clear hx
                  refine lf_val (v := .bool true) (wantAll rfl) (rv_pickT rfl (fr_eval rfl rfl) (fr_eval rfl rfl)) ?_
                  refine lf_val (v := .bool true) (wantAll rfl) (rv_assign rfl (fr_eval rfl rfl)) ?_
                  refine lf_nil ?_
                  refine then_n ?_
                  refine wp_gen (fun F' => F' 0 = .int .i64 z ∧ F' 1 = va ∧ F' 2 = vb ∧ F' 6 = .bool true ∧ F' 7 = .pointer none ∧ F' 8 = .pointer none ∧ F' 10 = .int .i64 1 ∧ F' 11 = y2 ∧ F' 12 = .pointer (some ⟨g1, 0, none⟩) ∧ F' 13 = .int .i64 ((idT [] a : Nat) : Int) ∧ F' 15 = .int .i64 ((idT (bankT [] a) b : Nat) : Int) ∧ F' 17 = .int .i64 ((idT (bankT (bankT [] a) b) (joinT z a b) : Nat) : Int) ∧ F' 18 = .int .i64 0 ∧ F' 40 = .bool false ∧ F' 69 = .bool false ∧ F' 95 = .bool true) ⟨e0, e1, e2, rfl, e7, e8, e10, e11, e12, e13, e15, e17, e18, e40, e69, (e95.trans (congrArg Value.bool (decide_eq_true hc5)))⟩ ?_
                  clear e0 e1 e2 e6 e7 e8 e10 e11 e12 e13 e15 e17 e18 e40 e69 e95
                  clear F
                  rintro F ⟨e0, e1, e2, e6, e7, e8, e10, e11, e12, e13, e15, e17, e18, e40, e69, e95⟩
                  refine wp_ret ?_
                  refine then_ret ?_
                  exact bodyPost_ret (v := (.bool true)) (res1 rfl (ro_tmp rfl e6)) rfl (⟨rfl, hH.done⟩)
                · refine lf_not (wantNot (d := 110) rfl (by kernel_rfl) rfl (congrArg Value.bool (decide_eq_false hc7))) ?_
                  refine lf_not (wantNot (d := 110) rfl (by kernel_rfl) rfl (congrArg Value.bool (decide_eq_false hc7))) ?_
                  refine lf_not (wantNot (d := 110) rfl (by kernel_rfl) rfl (congrArg Value.bool (decide_eq_false hc7))) ?_
                  refine lf_not (wantNot (d := 110) rfl (by kernel_rfl) rfl (congrArg Value.bool (decide_eq_false hc7))) ?_
                  refine lf_not (wantNot (d := 110) rfl (by kernel_rfl) rfl (congrArg Value.bool (decide_eq_false hc7))) ?_
                  refine lf_not (wantNot (d := 110) rfl (by kernel_rfl) rfl (congrArg Value.bool (decide_eq_false hc7))) ?_
                  refine lf_not (wantNot (d := 110) rfl (by kernel_rfl) rfl (congrArg Value.bool (decide_eq_false hc7))) ?_
                  refine lf_not (wantNot (d := 110) rfl (by kernel_rfl) rfl (congrArg Value.bool (decide_eq_false hc7))) ?_
                  refine lf_not (wantNot (d := 110) rfl (by kernel_rfl) rfl (congrArg Value.bool (decide_eq_false hc7))) ?_
                  refine lf_not (wantNot (d := 110) rfl (by kernel_rfl) rfl (congrArg Value.bool (decide_eq_false hc7))) ?_
                  refine lf_val (v := .bool false) (wantAll rfl) (rv_pickF rfl (fr_eval rfl (congrArg Value.bool (decide_eq_false hc7))) rfl) ?_
                  refine lf_val (v := .bool false) (wantAll rfl) (rv_move rfl (fr_eval rfl rfl)) ?_
                  refine lf_not (wantNot (d := 122) rfl (by kernel_rfl) rfl rfl) ?_
                  refine lf_val (v := .bool false) (wantAll rfl) (rv_pickF rfl (fr_eval rfl rfl) rfl) ?_
                  refine lf_val (v := .bool false) (wantAll rfl) (rv_assign rfl (fr_eval rfl rfl)) ?_
                  refine lf_nil ?_
                  refine then_n ?_
                  refine wp_gen (fun F' => F' 0 = .int .i64 z ∧ F' 1 = va ∧ F' 2 = vb ∧ F' 6 = .bool false ∧ F' 7 = .pointer none ∧ F' 8 = .pointer none ∧ F' 10 = .int .i64 1 ∧ F' 11 = y2 ∧ F' 12 = .pointer (some ⟨g1, 0, none⟩) ∧ F' 13 = .int .i64 ((idT [] a : Nat) : Int) ∧ F' 15 = .int .i64 ((idT (bankT [] a) b : Nat) : Int) ∧ F' 17 = .int .i64 ((idT (bankT (bankT [] a) b) (joinT z a b) : Nat) : Int) ∧ F' 18 = .int .i64 0 ∧ F' 40 = .bool false ∧ F' 69 = .bool false ∧ F' 95 = .bool true) ⟨e0, e1, e2, rfl, e7, e8, e10, e11, e12, e13, e15, e17, e18, e40, e69, (e95.trans (congrArg Value.bool (decide_eq_true hc5)))⟩ ?_
                  clear e0 e1 e2 e6 e7 e8 e10 e11 e12 e13 e15 e17 e18 e40 e69 e95
                  clear F
                  rintro F ⟨e0, e1, e2, e6, e7, e8, e10, e11, e12, e13, e15, e17, e18, e40, e69, e95⟩
                  refine wp_ret ?_
                  refine then_ret ?_
                  exact bodyPost_ret (v := (.bool false)) (res1 rfl (ro_tmp rfl e6)) rfl (by exfalso; omega)
              · refine lf_not (wantNot (d := 106) rfl (by kernel_rfl) rfl (congrArg Value.bool (decide_eq_false hc6))) ?_
                refine lf_not (wantNot (d := 106) rfl (by kernel_rfl) rfl (congrArg Value.bool (decide_eq_false hc6))) ?_
                refine lf_val (v := .bool false) (wantAll rfl) (rv_pickF rfl (fr_eval rfl (congrArg Value.bool (decide_eq_false hc6))) rfl) ?_
                refine lf_val (v := .bool false) (wantAll rfl) (rv_move rfl (fr_eval rfl rfl)) ?_
                refine lf_not (wantNot (d := 110) rfl (by kernel_rfl) rfl rfl) ?_
                refine lf_not (wantNot (d := 110) rfl (by kernel_rfl) rfl rfl) ?_
                refine lf_not (wantNot (d := 110) rfl (by kernel_rfl) rfl rfl) ?_
                refine lf_not (wantNot (d := 110) rfl (by kernel_rfl) rfl rfl) ?_
                refine lf_not (wantNot (d := 110) rfl (by kernel_rfl) rfl rfl) ?_
                refine lf_not (wantNot (d := 110) rfl (by kernel_rfl) rfl rfl) ?_
                refine lf_not (wantNot (d := 110) rfl (by kernel_rfl) rfl rfl) ?_
                refine lf_not (wantNot (d := 110) rfl (by kernel_rfl) rfl rfl) ?_
                refine lf_not (wantNot (d := 110) rfl (by kernel_rfl) rfl rfl) ?_
                refine lf_not (wantNot (d := 110) rfl (by kernel_rfl) rfl rfl) ?_
                refine lf_val (v := .bool false) (wantAll rfl) (rv_pickF rfl (fr_eval rfl rfl) rfl) ?_
                refine lf_val (v := .bool false) (wantAll rfl) (rv_move rfl (fr_eval rfl rfl)) ?_
                refine lf_not (wantNot (d := 122) rfl (by kernel_rfl) rfl rfl) ?_
                refine lf_val (v := .bool false) (wantAll rfl) (rv_pickF rfl (fr_eval rfl rfl) rfl) ?_
                refine lf_val (v := .bool false) (wantAll rfl) (rv_assign rfl (fr_eval rfl rfl)) ?_
                refine lf_nil ?_
                refine then_n ?_
                refine wp_gen (fun F' => F' 0 = .int .i64 z ∧ F' 1 = va ∧ F' 2 = vb ∧ F' 6 = .bool false ∧ F' 7 = .pointer none ∧ F' 8 = .pointer none ∧ F' 10 = .int .i64 1 ∧ F' 11 = y2 ∧ F' 12 = .pointer (some ⟨g1, 0, none⟩) ∧ F' 13 = .int .i64 ((idT [] a : Nat) : Int) ∧ F' 15 = .int .i64 ((idT (bankT [] a) b : Nat) : Int) ∧ F' 17 = .int .i64 ((idT (bankT (bankT [] a) b) (joinT z a b) : Nat) : Int) ∧ F' 18 = .int .i64 0 ∧ F' 40 = .bool false ∧ F' 69 = .bool false ∧ F' 95 = .bool true) ⟨e0, e1, e2, rfl, e7, e8, e10, e11, e12, e13, e15, e17, e18, e40, e69, (e95.trans (congrArg Value.bool (decide_eq_true hc5)))⟩ ?_
                clear e0 e1 e2 e6 e7 e8 e10 e11 e12 e13 e15 e17 e18 e40 e69 e95
                clear F
                rintro F ⟨e0, e1, e2, e6, e7, e8, e10, e11, e12, e13, e15, e17, e18, e40, e69, e95⟩
                refine wp_ret ?_
                refine then_ret ?_
                exact bodyPost_ret (v := (.bool false)) (res1 rfl (ro_tmp rfl e6)) rfl (by exfalso; omega)
            · refine wp_cond_false (fr_eval rfl (e95.trans (congrArg Value.bool (decide_eq_false hc5)))) ?_
              refine wp_skip ?_
              refine then_n ?_
              refine wp_seq ?_
              refine wp_seq ?_
              refine wp_regionF ?_
              refine lf_val (v := y2) (wantAll rfl) (rv_move rfl (fr_eval rfl e11)) ?_
              refine lf_val (v := .int .i64 (((joinT z a b).length : Nat) : Int)) (wantAll rfl) (rv_len rfl (fr_eval rfl rfl) (Own.rd (hH.own (i := 0) rfl) (row_one cNd_one)) Try.underlying24) ?_
              refine lf_val (v := va) (wantAll rfl) (rv_move rfl (fr_eval rfl e1)) ?_
              refine lf_val (v := .int .i64 ((a.length : Nat) : Int)) (wantAll rfl) (rv_len rfl (fr_eval rfl rfl) (ha.rd _ hH.chg) Try.underlying24) ?_
              refine lf_val (v := vb) (wantAll rfl) (rv_move rfl (fr_eval rfl e2)) ?_
              refine lf_val (v := .int .i64 ((b.length : Nat) : Int)) (wantAll rfl) (rv_len rfl (fr_eval rfl rfl) (hb.rd _ hH.chg) Try.underlying24) ?_
              refine lf_val (v := .int .i64 ((a.length + b.length : Nat) : Int)) (wantAll rfl) (rv_add rfl (fr_eval rfl rfl) (fr_eval rfl rfl) (wrap_i64 (by omega) (by omega) (by omega))) ?_
              refine lf_val (v := .int .i64 (((a.length + b.length) + 1 : Nat) : Int)) (wantAll rfl) (rv_add rfl (fr_eval rfl rfl) rfl (wrap_i64 (by omega) (by omega) (by omega))) ?_
              refine lf_val (v := .bool (decide (¬ (joinT z a b).length = (a.length + b.length) + 1))) (wantAll rfl) (rv_neqP (p := ¬ (joinT z a b).length = (a.length + b.length) + 1) rfl (fr_eval rfl rfl) (fr_eval rfl rfl) (by omega)) ?_
              refine lf_nil ?_
              refine then_n ?_
              refine wp_gen (fun F' => F' 0 = .int .i64 z ∧ F' 1 = va ∧ F' 2 = vb ∧ F' 6 = .bool false ∧ F' 7 = .pointer none ∧ F' 8 = .pointer none ∧ F' 10 = .int .i64 1 ∧ F' 11 = y2 ∧ F' 12 = .pointer (some ⟨g1, 0, none⟩) ∧ F' 13 = .int .i64 ((idT [] a : Nat) : Int) ∧ F' 15 = .int .i64 ((idT (bankT [] a) b : Nat) : Int) ∧ F' 17 = .int .i64 ((idT (bankT (bankT [] a) b) (joinT z a b) : Nat) : Int) ∧ F' 18 = .int .i64 0 ∧ F' 40 = .bool false ∧ F' 69 = .bool false ∧ F' 95 = .bool false ∧ F' 133 = .bool (decide (¬ (joinT z a b).length = (a.length + b.length) + 1))) ⟨e0, e1, e2, e6, e7, e8, e10, e11, e12, e13, e15, e17, e18, e40, e69, (e95.trans (congrArg Value.bool (decide_eq_false hc5))), rfl⟩ ?_
              clear e0 e1 e2 e6 e7 e8 e10 e11 e12 e13 e15 e17 e18 e40 e69 e95
              clear F
              rintro F ⟨e0, e1, e2, e6, e7, e8, e10, e11, e12, e13, e15, e17, e18, e40, e69, e95, e133⟩
              by_cases hc8 : (joinT z a b).length = (a.length + b.length) + 1
              · refine wp_cond_false (fr_eval rfl (e133.trans (congrArg Value.bool (decide_eq_false (not_not_intro hc8))))) ?_
                refine wp_skip ?_
                refine then_n ?_
                refine wp_seq ?_
                refine wp_regionF ?_
                refine lf_val (v := y2) (wantAll rfl) (rv_move rfl (fr_eval rfl e11)) ?_
                refine lf_val (v := y2) (wantAll rfl) (rv_move rfl (fr_eval rfl e11)) ?_
                refine lf_val (v := .int .i64 (((joinT z a b).length : Nat) : Int)) (wantAll rfl) (rv_len rfl (fr_eval rfl rfl) (Own.rd (hH.own (i := 0) rfl) (row_one cNd_one)) Try.underlying24) ?_
                refine lf_val (v := .int .i64 ((((joinT z a b).length) - 1 : Nat) : Int)) (wantAll rfl) (rv_sub rfl (fr_eval rfl rfl) rfl (wrap_i64 (by omega) (by omega) (by omega))) ?_
                refine lf_val (v := .pointer (some (elemA y2 ((((joinT z a b).length) - 1) * 3)))) (wantAll rfl) (rv_index rfl (fr_eval rfl rfl) (fr_eval rfl rfl) (rdN (Own.rd (hH.own (i := 0) rfl) (row_one cNd_one)) rfl) (show ((joinT z a b).length) - 1 < (joinT z a b).length from (by omega)) Try.underlying24 Try.sz40 (by decide)) ?_
                refine lf_val (wantAll rfl) (rv_loadElem rfl (fr_eval rfl rfl) (rdN (Own.rd (hH.own (i := 0) rfl) (row_one cNd_one)) rfl) (show ((joinT z a b).length) - 1 < (joinT z a b).length from (by omega)) (by decide) (flat_part zN cNd_len (show ((joinT z a b).length) - 1 < (joinT z a b).length from (by omega))) Try.underlying40 rfl Try.sz40) ?_
                refine lf_ex (wantAll rfl) (hx_alloc hH 40 (z := .agg ([.int .i64 0, .int .i64 0, .int .i64 0]).toArray) (n := 3) (cs := [.int .i64 0, .int .i64 0, .int .i64 0]) rfl (by kernel_rfl) (by rfl)) ?_
                clear hH
                rintro _ w18 ⟨g2, rfl, hH, hx⟩
                replace hH : Heap _ _ _ [_, _, _, _, _] := hH
                clear hx
                refine lf_sk (wantAll rfl) (hx_storeW hH (i := 4) (cs := [.int .i64 ((List.getD (joinT z a b) (((joinT z a b).length) - 1) zN).k), .int .i64 ((List.getD (joinT z a b) (((joinT z a b).length) - 1) zN).a), .int .i64 ((List.getD (joinT z a b) (((joinT z a b).length) - 1) zN).b)]) rfl rfl rfl (fr_eval rfl rfl) (fr_eval rfl rfl) (sz_len Try.sz40 zL8_l0) ((zL8_l0).trans (zL8_l0).symm) (zL8_o1 rfl rfl rfl)) ?_
                clear hH
                rintro w19 ⟨hH, hx⟩
                replace hH : Heap _ _ _ [_, _, _, _, _] := hH
                clear hx
                refine lf_nil ?_
                refine then_n ?_
                refine wp_seq ?_
                refine wp_seq ?_
                refine wp_gen (fun F' => F' 0 = .int .i64 z ∧ F' 1 = va ∧ F' 2 = vb ∧ F' 6 = .bool false ∧ F' 7 = .pointer none ∧ F' 8 = .pointer none ∧ F' 10 = .int .i64 1 ∧ F' 11 = y2 ∧ F' 12 = .pointer (some ⟨g1, 0, none⟩) ∧ F' 13 = .int .i64 ((idT [] a : Nat) : Int) ∧ F' 15 = .int .i64 ((idT (bankT [] a) b : Nat) : Int) ∧ F' 17 = .int .i64 ((idT (bankT (bankT [] a) b) (joinT z a b) : Nat) : Int) ∧ F' 18 = .int .i64 0 ∧ F' 19 = .pointer (some ⟨g2, 0, none⟩) ∧ F' 40 = .bool false ∧ F' 69 = .bool false ∧ F' 95 = .bool false ∧ F' 133 = .bool false) ⟨e0, e1, e2, e6, e7, e8, e10, e11, e12, e13, e15, e17, e18, rfl, e40, e69, e95, (e133.trans (congrArg Value.bool (decide_eq_false (not_not_intro hc8))))⟩ ?_
                clear e0 e1 e2 e6 e7 e8 e10 e11 e12 e13 e15 e17 e18 e40 e69 e95 e133
                clear F
                rintro F ⟨e0, e1, e2, e6, e7, e8, e10, e11, e12, e13, e15, e17, e18, e19, e40, e69, e95, e133⟩
                have hjl := join_last (z := z) (a := a) (b := b) (by assumption)
                have hjk := congrArg Nd.k hjl
                have hja := congrArg Nd.a hjl
                have hjb := congrArg Nd.b hjl
                simp only at hjk hja hjb
                refine wp_regionF ?_
                refine lf_val (v := .pointer (some ⟨g2, 0, none⟩)) (wantAll rfl) (rv_fieldAddr (n := 0) rfl (fr_eval rfl e19) Try.underlying40 rfl rfl (by kernel_rfl)) ?_
                refine lf_val (wantAll rfl) (rv_load1 rfl (hH.blk (i := 4) rfl) zL8_g2 (fr_eval rfl rfl) Try.underlying3 rfl Try.sz3) ?_
                refine lf_val (v := .int .i64 z) (wantAll rfl) (rv_move rfl (fr_eval rfl e0)) ?_
                refine lf_val (v := .bool (decide (¬ (List.getD (joinT z a b) (((joinT z a b).length) - 1) zN).k = z))) (wantAll rfl) (rv_neqP (p := ¬ (List.getD (joinT z a b) (((joinT z a b).length) - 1) zN).k = z) rfl (fr_eval rfl rfl) (fr_eval rfl rfl) Iff.rfl) ?_
                refine lf_val (v := .bool (decide (¬ (List.getD (joinT z a b) (((joinT z a b).length) - 1) zN).k = z))) (wantAll rfl) (rv_move rfl (fr_eval rfl rfl)) ?_
                refine lf_joinP (fun F' => F' 0 = .int .i64 z ∧ F' 1 = va ∧ F' 2 = vb ∧ F' 6 = .bool false ∧ F' 7 = .pointer none ∧ F' 8 = .pointer none ∧ F' 10 = .int .i64 1 ∧ F' 11 = y2 ∧ F' 12 = .pointer (some ⟨g1, 0, none⟩) ∧ F' 13 = .int .i64 ((idT [] a : Nat) : Int) ∧ F' 15 = .int .i64 ((idT (bankT [] a) b : Nat) : Int) ∧ F' 17 = .int .i64 ((idT (bankT (bankT [] a) b) (joinT z a b) : Nat) : Int) ∧ F' 18 = .int .i64 0 ∧ F' 19 = .pointer (some ⟨g2, 0, none⟩) ∧ F' 40 = .bool false ∧ F' 69 = .bool false ∧ F' 95 = .bool false ∧ F' 133 = .bool false ∧ F' 151 = .bool (decide ((¬ (List.getD (joinT z a b) (((joinT z a b).length) - 1) zN).k = z) ∨ (¬ (List.getD (joinT z a b) (((joinT z a b).length) - 1) zN).a = ((a.length - 1 : Nat) : Int))))) 7 (fun hk => ?_) ?_
                · by_cases hc9 : (List.getD (joinT z a b) (((joinT z a b).length) - 1) zN).k = z
                  · refine lf_val (v := .pointer (some ⟨g2, 1, none⟩)) (wantF (d := 144) rfl (by kernel_rfl) rfl (congrArg Value.bool (decide_eq_false (not_not_intro hc9)))) (rv_fieldAddr (n := 0) rfl (fr_eval rfl e19) Try.underlying40 rfl rfl (by kernel_rfl)) ?_
                    refine lf_val (wantF (d := 144) rfl (by kernel_rfl) rfl (congrArg Value.bool (decide_eq_false (not_not_intro hc9)))) (rv_load1 rfl (hH.blk (i := 4) rfl) zL8_g3 (fr_eval rfl rfl) Try.underlying3 rfl Try.sz3) ?_
                    refine lf_val (v := va) (wantF (d := 144) rfl (by kernel_rfl) rfl (congrArg Value.bool (decide_eq_false (not_not_intro hc9)))) (rv_move rfl (fr_eval rfl e1)) ?_
                    refine lf_val (v := .int .i64 ((a.length : Nat) : Int)) (wantF (d := 144) rfl (by kernel_rfl) rfl (congrArg Value.bool (decide_eq_false (not_not_intro hc9)))) (rv_len rfl (fr_eval rfl rfl) (ha.rd _ hH.chg) Try.underlying24) ?_
                    refine lf_val (v := .int .i64 ((a.length - 1 : Nat) : Int)) (wantF (d := 144) rfl (by kernel_rfl) rfl (congrArg Value.bool (decide_eq_false (not_not_intro hc9)))) (rv_sub rfl (fr_eval rfl rfl) rfl (wrap_i64 (by omega) (by omega) (by omega))) ?_
                    refine lf_val (v := .bool (decide (¬ (List.getD (joinT z a b) (((joinT z a b).length) - 1) zN).a = ((a.length - 1 : Nat) : Int)))) (wantF (d := 144) rfl (by kernel_rfl) rfl (congrArg Value.bool (decide_eq_false (not_not_intro hc9)))) (rv_neqP (p := ¬ (List.getD (joinT z a b) (((joinT z a b).length) - 1) zN).a = ((a.length - 1 : Nat) : Int)) rfl (fr_eval rfl rfl) (fr_eval rfl rfl) Iff.rfl) ?_
                    refine lf_val (v := .bool (decide (¬ (List.getD (joinT z a b) (((joinT z a b).length) - 1) zN).a = ((a.length - 1 : Nat) : Int)))) (wantAll rfl) (rv_pickF rfl (fr_eval rfl (congrArg Value.bool (decide_eq_false (not_not_intro hc9)))) (fr_eval rfl rfl)) ?_
                    exact hk _ ⟨e0, e1, e2, e6, e7, e8, e10, e11, e12, e13, e15, e17, e18, e19, e40, e69, e95, e133, (congrArg Value.bool (dec_or (not_not_intro hc9)))⟩
                  · refine lf_not (wantNot (d := 144) rfl (by kernel_rfl) rfl (congrArg Value.bool (decide_eq_true hc9))) ?_
                    refine lf_not (wantNot (d := 144) rfl (by kernel_rfl) rfl (congrArg Value.bool (decide_eq_true hc9))) ?_
                    refine lf_not (wantNot (d := 144) rfl (by kernel_rfl) rfl (congrArg Value.bool (decide_eq_true hc9))) ?_
                    refine lf_not (wantNot (d := 144) rfl (by kernel_rfl) rfl (congrArg Value.bool (decide_eq_true hc9))) ?_
                    refine lf_not (wantNot (d := 144) rfl (by kernel_rfl) rfl (congrArg Value.bool (decide_eq_true hc9))) ?_
                    refine lf_not (wantNot (d := 144) rfl (by kernel_rfl) rfl (congrArg Value.bool (decide_eq_true hc9))) ?_
                    refine lf_val (v := .bool true) (wantAll rfl) (rv_pickT rfl (fr_eval rfl (congrArg Value.bool (decide_eq_true hc9))) rfl) ?_
                    exact hk _ ⟨e0, e1, e2, e6, e7, e8, e10, e11, e12, e13, e15, e17, e18, e19, e40, e69, e95, e133, (congrArg Value.bool (dec_orT hc9))⟩
                · clear e0 e1 e2 e6 e7 e8 e10 e11 e12 e13 e15 e17 e18 e19 e40 e69 e95 e133
                  clear F
                  rintro F ⟨e0, e1, e2, e6, e7, e8, e10, e11, e12, e13, e15, e17, e18, e19, e40, e69, e95, e133, e151⟩
                  refine lf_val (wantAll rfl) (rv_move rfl (fr_eval rfl e151)) ?_
                  refine lf_joinP (fun F' => F' 0 = .int .i64 z ∧ F' 1 = va ∧ F' 2 = vb ∧ F' 6 = .bool false ∧ F' 7 = .pointer none ∧ F' 8 = .pointer none ∧ F' 10 = .int .i64 1 ∧ F' 11 = y2 ∧ F' 12 = .pointer (some ⟨g1, 0, none⟩) ∧ F' 13 = .int .i64 ((idT [] a : Nat) : Int) ∧ F' 15 = .int .i64 ((idT (bankT [] a) b : Nat) : Int) ∧ F' 17 = .int .i64 ((idT (bankT (bankT [] a) b) (joinT z a b) : Nat) : Int) ∧ F' 18 = .int .i64 0 ∧ F' 19 = .pointer (some ⟨g2, 0, none⟩) ∧ F' 40 = .bool false ∧ F' 69 = .bool false ∧ F' 95 = .bool false ∧ F' 133 = .bool false ∧ F' 162 = .bool (decide (((¬ (List.getD (joinT z a b) (((joinT z a b).length) - 1) zN).k = z) ∨ (¬ (List.getD (joinT z a b) (((joinT z a b).length) - 1) zN).a = ((a.length - 1 : Nat) : Int))) ∨ (¬ (List.getD (joinT z a b) (((joinT z a b).length) - 1) zN).b = (((a.length + b.length) - 1 : Nat) : Int))))) 10 (fun hk => ?_) ?_
                  · by_cases hc10 : (¬ (List.getD (joinT z a b) (((joinT z a b).length) - 1) zN).k = z) ∨ (¬ (List.getD (joinT z a b) (((joinT z a b).length) - 1) zN).a = ((a.length - 1 : Nat) : Int))
                    · refine lf_not (wantNot (d := 152) rfl (by kernel_rfl) rfl (congrArg Value.bool (decide_eq_true hc10))) ?_
                      refine lf_not (wantNot (d := 152) rfl (by kernel_rfl) rfl (congrArg Value.bool (decide_eq_true hc10))) ?_
                      refine lf_not (wantNot (d := 152) rfl (by kernel_rfl) rfl (congrArg Value.bool (decide_eq_true hc10))) ?_
                      refine lf_not (wantNot (d := 152) rfl (by kernel_rfl) rfl (congrArg Value.bool (decide_eq_true hc10))) ?_
                      refine lf_not (wantNot (d := 152) rfl (by kernel_rfl) rfl (congrArg Value.bool (decide_eq_true hc10))) ?_
                      refine lf_not (wantNot (d := 152) rfl (by kernel_rfl) rfl (congrArg Value.bool (decide_eq_true hc10))) ?_
                      refine lf_not (wantNot (d := 152) rfl (by kernel_rfl) rfl (congrArg Value.bool (decide_eq_true hc10))) ?_
                      refine lf_not (wantNot (d := 152) rfl (by kernel_rfl) rfl (congrArg Value.bool (decide_eq_true hc10))) ?_
                      refine lf_not (wantNot (d := 152) rfl (by kernel_rfl) rfl (congrArg Value.bool (decide_eq_true hc10))) ?_
                      refine lf_val (v := .bool true) (wantAll rfl) (rv_pickT rfl (fr_eval rfl (congrArg Value.bool (decide_eq_true hc10))) rfl) ?_
                      exact hk _ ⟨e0, e1, e2, e6, e7, e8, e10, e11, e12, e13, e15, e17, e18, e19, e40, e69, e95, e133, (congrArg Value.bool (dec_orT hc10))⟩
                    · refine lf_val (v := .pointer (some ⟨g2, 2, none⟩)) (wantF (d := 152) rfl (by kernel_rfl) rfl (congrArg Value.bool (decide_eq_false hc10))) (rv_fieldAddr (n := 0) rfl (fr_eval rfl e19) Try.underlying40 rfl rfl (by kernel_rfl)) ?_
                      refine lf_val (wantF (d := 152) rfl (by kernel_rfl) rfl (congrArg Value.bool (decide_eq_false hc10))) (rv_load1 rfl (hH.blk (i := 4) rfl) zL8_g4 (fr_eval rfl rfl) Try.underlying3 rfl Try.sz3) ?_
                      refine lf_val (v := va) (wantF (d := 152) rfl (by kernel_rfl) rfl (congrArg Value.bool (decide_eq_false hc10))) (rv_move rfl (fr_eval rfl e1)) ?_
                      refine lf_val (v := .int .i64 ((a.length : Nat) : Int)) (wantF (d := 152) rfl (by kernel_rfl) rfl (congrArg Value.bool (decide_eq_false hc10))) (rv_len rfl (fr_eval rfl rfl) (ha.rd _ hH.chg) Try.underlying24) ?_
                      refine lf_val (v := vb) (wantF (d := 152) rfl (by kernel_rfl) rfl (congrArg Value.bool (decide_eq_false hc10))) (rv_move rfl (fr_eval rfl e2)) ?_
                      refine lf_val (v := .int .i64 ((b.length : Nat) : Int)) (wantF (d := 152) rfl (by kernel_rfl) rfl (congrArg Value.bool (decide_eq_false hc10))) (rv_len rfl (fr_eval rfl rfl) (hb.rd _ hH.chg) Try.underlying24) ?_
                      refine lf_val (v := .int .i64 ((a.length + b.length : Nat) : Int)) (wantF (d := 152) rfl (by kernel_rfl) rfl (congrArg Value.bool (decide_eq_false hc10))) (rv_add rfl (fr_eval rfl rfl) (fr_eval rfl rfl) (wrap_i64 (by omega) (by omega) (by omega))) ?_
                      refine lf_val (v := .int .i64 (((a.length + b.length) - 1 : Nat) : Int)) (wantF (d := 152) rfl (by kernel_rfl) rfl (congrArg Value.bool (decide_eq_false hc10))) (rv_sub rfl (fr_eval rfl rfl) rfl (wrap_i64 (by omega) (by omega) (by omega))) ?_
                      refine lf_val (v := .bool (decide (¬ (List.getD (joinT z a b) (((joinT z a b).length) - 1) zN).b = (((a.length + b.length) - 1 : Nat) : Int)))) (wantF (d := 152) rfl (by kernel_rfl) rfl (congrArg Value.bool (decide_eq_false hc10))) (rv_neqP (p := ¬ (List.getD (joinT z a b) (((joinT z a b).length) - 1) zN).b = (((a.length + b.length) - 1 : Nat) : Int)) rfl (fr_eval rfl rfl) (fr_eval rfl rfl) Iff.rfl) ?_
                      refine lf_val (v := .bool (decide (¬ (List.getD (joinT z a b) (((joinT z a b).length) - 1) zN).b = (((a.length + b.length) - 1 : Nat) : Int)))) (wantAll rfl) (rv_pickF rfl (fr_eval rfl (congrArg Value.bool (decide_eq_false hc10))) (fr_eval rfl rfl)) ?_
                      exact hk _ ⟨e0, e1, e2, e6, e7, e8, e10, e11, e12, e13, e15, e17, e18, e19, e40, e69, e95, e133, (congrArg Value.bool (dec_or hc10))⟩
                  · clear e0 e1 e2 e6 e7 e8 e10 e11 e12 e13 e15 e17 e18 e19 e40 e69 e95 e133 e151
                    clear F
                    rintro F ⟨e0, e1, e2, e6, e7, e8, e10, e11, e12, e13, e15, e17, e18, e19, e40, e69, e95, e133, e162⟩
                    refine lf_nil ?_
                    refine then_n ?_
                    by_cases hc11 : ((¬ (List.getD (joinT z a b) (((joinT z a b).length) - 1) zN).k = z) ∨ (¬ (List.getD (joinT z a b) (((joinT z a b).length) - 1) zN).a = ((a.length - 1 : Nat) : Int))) ∨ (¬ (List.getD (joinT z a b) (((joinT z a b).length) - 1) zN).b = (((a.length + b.length) - 1 : Nat) : Int))
                    · refine wp_cond_true (fr_eval rfl (e162.trans (congrArg Value.bool (decide_eq_true hc11)))) ?_
                      refine wp_seq ?_
                      refine wp_regionF ?_
                      refine lf_val (v := .bool false) (wantAll rfl) (rv_assign rfl rfl) ?_
                      refine lf_nil ?_
                      refine then_n ?_
                      refine wp_gen (fun F' => F' 0 = .int .i64 z ∧ F' 1 = va ∧ F' 2 = vb ∧ F' 6 = .bool false ∧ F' 7 = .pointer none ∧ F' 8 = .pointer none ∧ F' 10 = .int .i64 1 ∧ F' 11 = y2 ∧ F' 12 = .pointer (some ⟨g1, 0, none⟩) ∧ F' 13 = .int .i64 ((idT [] a : Nat) : Int) ∧ F' 15 = .int .i64 ((idT (bankT [] a) b : Nat) : Int) ∧ F' 17 = .int .i64 ((idT (bankT (bankT [] a) b) (joinT z a b) : Nat) : Int) ∧ F' 18 = .int .i64 0 ∧ F' 19 = .pointer (some ⟨g2, 0, none⟩) ∧ F' 40 = .bool false ∧ F' 69 = .bool false ∧ F' 95 = .bool false ∧ F' 133 = .bool false ∧ F' 162 = .bool true) ⟨e0, e1, e2, rfl, e7, e8, e10, e11, e12, e13, e15, e17, e18, e19, e40, e69, e95, e133, (e162.trans (congrArg Value.bool (decide_eq_true hc11)))⟩ ?_
                      clear e0 e1 e2 e6 e7 e8 e10 e11 e12 e13 e15 e17 e18 e19 e40 e69 e95 e133 e162
                      clear F
                      rintro F ⟨e0, e1, e2, e6, e7, e8, e10, e11, e12, e13, e15, e17, e18, e19, e40, e69, e95, e133, e162⟩
                      refine wp_ret ?_
                      refine then_ret ?_
                      exact bodyPost_ret (v := (.bool false)) (res1 rfl (ro_tmp rfl e6)) rfl (by exfalso; omega)
                    · refine wp_cond_false (fr_eval rfl (e162.trans (congrArg Value.bool (decide_eq_false hc11)))) ?_
                      refine wp_skip ?_
                      refine then_n ?_
                      refine wp_seq ?_
                      refine wp_seq ?_
                      refine wp_regionF ?_
                      refine lf_val (v := .int .i64 z) (wantAll rfl) (rv_move rfl (fr_eval rfl e0)) ?_
                      refine lf_val (v := .bool (decide (¬ z = 2))) (wantAll rfl) (rv_neqP (p := ¬ z = 2) rfl (fr_eval rfl rfl) rfl Iff.rfl) ?_
                      refine lf_val (v := .bool (decide (¬ z = 2))) (wantAll rfl) (rv_move rfl (fr_eval rfl rfl)) ?_
                      refine lf_joinP (fun F' => F' 0 = .int .i64 z ∧ F' 1 = va ∧ F' 2 = vb ∧ F' 6 = .bool false ∧ F' 7 = .pointer none ∧ F' 8 = .pointer none ∧ F' 10 = .int .i64 1 ∧ F' 11 = y2 ∧ F' 12 = .pointer (some ⟨g1, 0, none⟩) ∧ F' 13 = .int .i64 ((idT [] a : Nat) : Int) ∧ F' 15 = .int .i64 ((idT (bankT [] a) b : Nat) : Int) ∧ F' 17 = .int .i64 ((idT (bankT (bankT [] a) b) (joinT z a b) : Nat) : Int) ∧ F' 18 = .int .i64 0 ∧ F' 19 = .pointer (some ⟨g2, 0, none⟩) ∧ F' 40 = .bool false ∧ F' 69 = .bool false ∧ F' 95 = .bool false ∧ F' 133 = .bool false ∧ F' 162 = .bool false ∧ F' 168 = .bool (decide ((¬ z = 2) ∧ (¬ z = 4)))) 3 (fun hk => ?_) ?_
                      · by_cases hc12 : z = 2
                        · refine lf_not (wantNot (d := 165) rfl (by kernel_rfl) rfl (congrArg Value.bool (decide_eq_false (not_not_intro hc12)))) ?_
                          refine lf_not (wantNot (d := 165) rfl (by kernel_rfl) rfl (congrArg Value.bool (decide_eq_false (not_not_intro hc12)))) ?_
                          refine lf_val (v := .bool false) (wantAll rfl) (rv_pickF rfl (fr_eval rfl (congrArg Value.bool (decide_eq_false (not_not_intro hc12)))) rfl) ?_
                          exact hk _ ⟨e0, e1, e2, e6, e7, e8, e10, e11, e12, e13, e15, e17, e18, e19, e40, e69, e95, e133, (e162.trans (congrArg Value.bool (decide_eq_false hc11))), (congrArg Value.bool (dec_andF (not_not_intro hc12)))⟩
                        · refine lf_val (v := .int .i64 z) (wantF (d := 165) rfl (by kernel_rfl) rfl (congrArg Value.bool (decide_eq_true hc12))) (rv_move rfl (fr_eval rfl e0)) ?_
                          refine lf_val (v := .bool (decide (¬ z = 4))) (wantF (d := 165) rfl (by kernel_rfl) rfl (congrArg Value.bool (decide_eq_true hc12))) (rv_neqP (p := ¬ z = 4) rfl (fr_eval rfl rfl) rfl Iff.rfl) ?_
                          refine lf_val (v := .bool (decide (¬ z = 4))) (wantAll rfl) (rv_pickT rfl (fr_eval rfl (congrArg Value.bool (decide_eq_true hc12))) (fr_eval rfl rfl)) ?_
                          exact hk _ ⟨e0, e1, e2, e6, e7, e8, e10, e11, e12, e13, e15, e17, e18, e19, e40, e69, e95, e133, (e162.trans (congrArg Value.bool (decide_eq_false hc11))), (congrArg Value.bool (dec_and hc12))⟩
                      · clear e0 e1 e2 e6 e7 e8 e10 e11 e12 e13 e15 e17 e18 e19 e40 e69 e95 e133 e162
                        clear F
                        rintro F ⟨e0, e1, e2, e6, e7, e8, e10, e11, e12, e13, e15, e17, e18, e19, e40, e69, e95, e133, e162, e168⟩
                        refine lf_val (v := .bool (decide ((¬ z = 2) ∧ (¬ z = 4)))) (wantAll rfl) (rv_move rfl (fr_eval rfl e168)) ?_
                        refine lf_joinP (fun F' => F' 0 = .int .i64 z ∧ F' 1 = va ∧ F' 2 = vb ∧ F' 6 = .bool false ∧ F' 7 = .pointer none ∧ F' 8 = .pointer none ∧ F' 10 = .int .i64 1 ∧ F' 11 = y2 ∧ F' 12 = .pointer (some ⟨g1, 0, none⟩) ∧ F' 13 = .int .i64 ((idT [] a : Nat) : Int) ∧ F' 15 = .int .i64 ((idT (bankT [] a) b : Nat) : Int) ∧ F' 17 = .int .i64 ((idT (bankT (bankT [] a) b) (joinT z a b) : Nat) : Int) ∧ F' 18 = .int .i64 0 ∧ F' 19 = .pointer (some ⟨g2, 0, none⟩) ∧ F' 40 = .bool false ∧ F' 69 = .bool false ∧ F' 95 = .bool false ∧ F' 133 = .bool false ∧ F' 162 = .bool false ∧ F' 172 = .bool (decide (((¬ z = 2) ∧ (¬ z = 4)) ∧ (¬ z = 5)))) 3 (fun hk => ?_) ?_
                        · by_cases hc13 : (¬ z = 2) ∧ (¬ z = 4)
                          · refine lf_val (v := .int .i64 z) (wantF (d := 169) rfl (by kernel_rfl) rfl (congrArg Value.bool (decide_eq_true hc13))) (rv_move rfl (fr_eval rfl e0)) ?_
                            refine lf_val (v := .bool (decide (¬ z = 5))) (wantF (d := 169) rfl (by kernel_rfl) rfl (congrArg Value.bool (decide_eq_true hc13))) (rv_neqP (p := ¬ z = 5) rfl (fr_eval rfl rfl) rfl Iff.rfl) ?_
                            refine lf_val (v := .bool (decide (¬ z = 5))) (wantAll rfl) (rv_pickT rfl (fr_eval rfl (congrArg Value.bool (decide_eq_true hc13))) (fr_eval rfl rfl)) ?_
                            exact hk _ ⟨e0, e1, e2, e6, e7, e8, e10, e11, e12, e13, e15, e17, e18, e19, e40, e69, e95, e133, e162, (congrArg Value.bool (dec_and hc13))⟩
                          · refine lf_not (wantNot (d := 169) rfl (by kernel_rfl) rfl (congrArg Value.bool (decide_eq_false hc13))) ?_
                            refine lf_not (wantNot (d := 169) rfl (by kernel_rfl) rfl (congrArg Value.bool (decide_eq_false hc13))) ?_
                            refine lf_val (v := .bool false) (wantAll rfl) (rv_pickF rfl (fr_eval rfl (congrArg Value.bool (decide_eq_false hc13))) rfl) ?_
                            exact hk _ ⟨e0, e1, e2, e6, e7, e8, e10, e11, e12, e13, e15, e17, e18, e19, e40, e69, e95, e133, e162, (congrArg Value.bool (dec_andF hc13))⟩
                        · clear e0 e1 e2 e6 e7 e8 e10 e11 e12 e13 e15 e17 e18 e19 e40 e69 e95 e133 e162 e168
                          clear F
                          rintro F ⟨e0, e1, e2, e6, e7, e8, e10, e11, e12, e13, e15, e17, e18, e19, e40, e69, e95, e133, e162, e172⟩
                          refine lf_nil ?_
                          refine then_n ?_
                          by_cases hc14 : ((¬ z = 2) ∧ (¬ z = 4)) ∧ (¬ z = 5)
                          · refine wp_cond_true (fr_eval rfl (e172.trans (congrArg Value.bool (decide_eq_true hc14)))) ?_
                            refine wp_seq ?_
                            refine wp_regionF ?_
                            refine lf_val (v := .int .i64 0) (wantAll rfl) (rv_move rfl (fr_eval rfl e18)) ?_
                            refine lf_val (v := .bool true) (wantAll rfl) (rv_eql rfl (fr_eval rfl rfl) rfl (by decide)) ?_
                            refine lf_val (v := y2) (wantAll rfl) (rv_move rfl (fr_eval rfl e11)) ?_
                            refine lf_call (wantAll rfl) (rv_call (args := [y2]) rfl (evc (fr_eval rfl rfl) evn) Try.call11) (calls_known (b' := true) (lawRight_calls (joinT z a b) _ _ (Own.rd (hH.own (i := 0) rfl) (row_one cNd_one))) (decide_eq_true hf1)) ?_
                            rintro _ w20 ⟨rfl, hx⟩
                            refine ⟨_, rfl, ?_⟩
                            replace hH := hH.ext hx
                            clear hx
                            refine lf_val (v := .bool true) (wantAll rfl) (rv_eqb (d := true) rfl (fr_eval rfl rfl) (fr_eval rfl rfl) Try.underlying4 (beq_self_eq_true _)) ?_
                            refine lf_val (v := .bool true) (wantAll rfl) (rv_move rfl (fr_eval rfl rfl)) ?_
                            refine lf_call (wantF (d := 178) rfl (by kernel_rfl) rfl rfl) (rv_call (args := []) rfl evn Try.call7) (awake37_calls _) ?_
                            rintro _ w21 ⟨rfl, hx⟩
                            refine ⟨_, rfl, ?_⟩
                            replace hH := hH.ext hx
                            clear hx
                            refine lf_val (v := .bool true) (wantAll rfl) (rv_pickT rfl (fr_eval rfl rfl) (fr_eval rfl rfl)) ?_
                            refine lf_val (v := .bool true) (wantAll rfl) (rv_assign rfl (fr_eval rfl rfl)) ?_
                            refine lf_nil ?_
                            refine then_n ?_
                            refine wp_gen (fun F' => F' 0 = .int .i64 z ∧ F' 1 = va ∧ F' 2 = vb ∧ F' 6 = .bool true ∧ F' 7 = .pointer none ∧ F' 8 = .pointer none ∧ F' 10 = .int .i64 1 ∧ F' 11 = y2 ∧ F' 12 = .pointer (some ⟨g1, 0, none⟩) ∧ F' 13 = .int .i64 ((idT [] a : Nat) : Int) ∧ F' 15 = .int .i64 ((idT (bankT [] a) b : Nat) : Int) ∧ F' 17 = .int .i64 ((idT (bankT (bankT [] a) b) (joinT z a b) : Nat) : Int) ∧ F' 18 = .int .i64 0 ∧ F' 19 = .pointer (some ⟨g2, 0, none⟩) ∧ F' 40 = .bool false ∧ F' 69 = .bool false ∧ F' 95 = .bool false ∧ F' 133 = .bool false ∧ F' 162 = .bool false ∧ F' 172 = .bool true) ⟨e0, e1, e2, rfl, e7, e8, e10, e11, e12, e13, e15, e17, e18, e19, e40, e69, e95, e133, e162, (e172.trans (congrArg Value.bool (decide_eq_true hc14)))⟩ ?_
                            clear e0 e1 e2 e6 e7 e8 e10 e11 e12 e13 e15 e17 e18 e19 e40 e69 e95 e133 e162 e172
                            clear F
                            rintro F ⟨e0, e1, e2, e6, e7, e8, e10, e11, e12, e13, e15, e17, e18, e19, e40, e69, e95, e133, e162, e172⟩
                            refine wp_ret ?_
                            refine then_ret ?_
                            exact bodyPost_ret (v := (.bool true)) (res1 rfl (ro_tmp rfl e6)) rfl (⟨rfl, hH.done⟩)
                          · refine wp_cond_false (fr_eval rfl (e172.trans (congrArg Value.bool (decide_eq_false hc14)))) ?_
                            refine wp_skip ?_
                            refine then_n ?_
                            refine wp_seq ?_
                            refine wp_regionF ?_
                            refine lf_val (v := .agg #[.slice none 0 0, .map none]) (wantAll rfl) (rv_buildS (ps := []) (places := #[(0, 1), (1, 1)]) (z := .agg #[.slice none 0 0, .map none]) (zc := [.slice none 0 0, .map none]) (cs := [.slice none 0 0, .map none]) rfl evpn (by kernel_rfl) rfl Try.underlying30 (fun _ => by kernel_rfl) fill0) ?_
                            refine lf_ex (wantAll rfl) (hx_box hH 30 (cs := [.slice none 0 0, .map none]) rfl (fr_eval rfl rfl) (by rfl)) ?_
                            clear hH
                            rintro _ w22 ⟨g3, rfl, hH, hx⟩
                            replace hH : Heap _ _ _ [_, _, _, _, _, _] := hH
                            clear hx
                            refine lf_val (v := .pointer (some ⟨g3, 0, none⟩)) (wantAll rfl) (rv_assign rfl (fr_eval rfl rfl)) ?_
                            refine lf_nil ?_
                            refine then_n ?_
                            refine wp_seq ?_
                            refine wp_gen (fun F' => F' 0 = .int .i64 z ∧ F' 1 = va ∧ F' 2 = vb ∧ F' 6 = .bool false ∧ F' 7 = .pointer none ∧ F' 8 = .pointer none ∧ F' 10 = .int .i64 1 ∧ F' 11 = y2 ∧ F' 12 = .pointer (some ⟨g1, 0, none⟩) ∧ F' 13 = .int .i64 ((idT [] a : Nat) : Int) ∧ F' 15 = .int .i64 ((idT (bankT [] a) b : Nat) : Int) ∧ F' 17 = .int .i64 ((idT (bankT (bankT [] a) b) (joinT z a b) : Nat) : Int) ∧ F' 18 = .int .i64 0 ∧ F' 19 = .pointer (some ⟨g2, 0, none⟩) ∧ F' 20 = .pointer (some ⟨g3, 0, none⟩) ∧ F' 40 = .bool false ∧ F' 69 = .bool false ∧ F' 95 = .bool false ∧ F' 133 = .bool false ∧ F' 162 = .bool false ∧ F' 172 = .bool false) ⟨e0, e1, e2, e6, e7, e8, e10, e11, e12, e13, e15, e17, e18, e19, rfl, e40, e69, e95, e133, e162, (e172.trans (congrArg Value.bool (decide_eq_false hc14)))⟩ ?_
                            clear e0 e1 e2 e6 e7 e8 e10 e11 e12 e13 e15 e17 e18 e19 e40 e69 e95 e133 e162 e172
                            clear F
                            rintro F ⟨e0, e1, e2, e6, e7, e8, e10, e11, e12, e13, e15, e17, e18, e19, e20, e40, e69, e95, e133, e162, e172⟩
                            replace hH : Heap _ _ _ [_, _, _, _, _, _, _] := hH.addNil 40 3
                            replace hH : Heap (newN w) w w22 [oRow cNd 40 3 y2 (joinT z a b), oBlk g1 ([y5, .map (some q3)]) 30, oRow cNd 40 3 y5 (bankT (bankT (bankT [] a) b) (joinT z a b)), oMp (some q3) (bankT (bankT (bankT [] a) b) (joinT z a b)), oBlk g2 ([.int .i64 ((List.getD (joinT z a b) (((joinT z a b).length) - 1) zN).k), .int .i64 ((List.getD (joinT z a b) (((joinT z a b).length) - 1) zN).a), .int .i64 ((List.getD (joinT z a b) (((joinT z a b).length) - 1) zN).b)]) 40, oBlk g3 ([(.slice none 0 0), .map none]) 30, oRow cNd 40 3 (.slice none 0 0) [], oMp none []] := hH.addMp0
                            refine wp_regionF ?_
                            refine lf_val (v := .pointer (some ⟨g3, 0, none⟩)) (wantAll rfl) (rv_move rfl (fr_eval rfl e20)) ?_
                            refine lf_val (v := va) (wantAll rfl) (rv_move rfl (fr_eval rfl e1)) ?_
                            refine lf_call (wantAll rfl) (rv_call (args := [.pointer (some ⟨g3, 0, none⟩), va]) rfl (evc (fr_eval rfl rfl) (evc (fr_eval rfl rfl) evn)) Try.call13) (into_b [] (by omega) hb0' a hta _ _ (Stab.part (L := [_, _, _, _, _]) (M := [_, _, _]) ha hH) (Heap.part (L := [_, _, _, _, _]) (M := [_, _, _]) hH)) ?_
                            rintro _ w23 ⟨y6, q4, rfl, hP⟩
                            refine ⟨_, rfl, ?_⟩
                            have hx := hH.callChg (L := [_, _, _, _, _]) (M := [_, _, _]) (fun _ h => h) hP
                            replace hH : Heap _ _ _ [_, _, _, _, _, _, _, _] := hH.call (L := [_, _, _, _, _]) (M := [_, _, _]) (fun _ h => h) hP (Stays.blk (hP.blk (i := 0) rfl) (Stays.own (hP.own (i := 1) rfl) (Stays.mp (hP.mp (i := 2) rfl) Stays.nil)))
                            clear hP
                            clear hx
                            refine lf_nil ?_
                            refine then_n ?_
                            refine wp_seq ?_
                            refine wp_gen (fun F' => F' 0 = .int .i64 z ∧ F' 1 = va ∧ F' 2 = vb ∧ F' 6 = .bool false ∧ F' 7 = .pointer none ∧ F' 8 = .pointer none ∧ F' 10 = .int .i64 1 ∧ F' 11 = y2 ∧ F' 12 = .pointer (some ⟨g1, 0, none⟩) ∧ F' 13 = .int .i64 ((idT [] a : Nat) : Int) ∧ F' 15 = .int .i64 ((idT (bankT [] a) b : Nat) : Int) ∧ F' 17 = .int .i64 ((idT (bankT (bankT [] a) b) (joinT z a b) : Nat) : Int) ∧ F' 18 = .int .i64 0 ∧ F' 19 = .pointer (some ⟨g2, 0, none⟩) ∧ F' 20 = .pointer (some ⟨g3, 0, none⟩) ∧ F' 40 = .bool false ∧ F' 69 = .bool false ∧ F' 95 = .bool false ∧ F' 133 = .bool false ∧ F' 162 = .bool false ∧ F' 172 = .bool false) ⟨e0, e1, e2, e6, e7, e8, e10, e11, e12, e13, e15, e17, e18, e19, e20, e40, e69, e95, e133, e162, e172⟩ ?_
                            clear e0 e1 e2 e6 e7 e8 e10 e11 e12 e13 e15 e17 e18 e19 e20 e40 e69 e95 e133 e162 e172
                            clear F
                            rintro F ⟨e0, e1, e2, e6, e7, e8, e10, e11, e12, e13, e15, e17, e18, e19, e20, e40, e69, e95, e133, e162, e172⟩
                            refine wp_regionF ?_
                            refine lf_val (v := .pointer (some ⟨g3, 0, none⟩)) (wantAll rfl) (rv_move rfl (fr_eval rfl e20)) ?_
                            refine lf_val (v := vb) (wantAll rfl) (rv_move rfl (fr_eval rfl e2)) ?_
                            refine lf_call (wantAll rfl) (rv_call (args := [.pointer (some ⟨g3, 0, none⟩), vb]) rfl (evc (fr_eval rfl rfl) (evc (fr_eval rfl rfl) evn)) Try.call13) (into_b (bankT [] a) (by omega) hba b htb _ _ (Stab.part (L := [_, _, _, _, _]) (M := [_, _, _]) hb hH) (Heap.part (L := [_, _, _, _, _]) (M := [_, _, _]) hH)) ?_
                            rintro _ w24 ⟨y7, q5, rfl, hP⟩
                            refine ⟨_, rfl, ?_⟩
                            have hx := hH.callChg (L := [_, _, _, _, _]) (M := [_, _, _]) (fun _ h => h) hP
                            replace hH : Heap _ _ _ [_, _, _, _, _, _, _, _] := hH.call (L := [_, _, _, _, _]) (M := [_, _, _]) (fun _ h => h) hP (Stays.blk (hP.blk (i := 0) rfl) (Stays.own (hP.own (i := 1) rfl) (Stays.mp (hP.mp (i := 2) rfl) Stays.nil)))
                            clear hP
                            clear hx
                            refine lf_nil ?_
                            refine then_n ?_
                            refine wp_seq ?_
                            refine wp_gen (fun F' => F' 0 = .int .i64 z ∧ F' 1 = va ∧ F' 2 = vb ∧ F' 6 = .bool false ∧ F' 7 = .pointer none ∧ F' 8 = .pointer none ∧ F' 10 = .int .i64 1 ∧ F' 11 = y2 ∧ F' 12 = .pointer (some ⟨g1, 0, none⟩) ∧ F' 13 = .int .i64 ((idT [] a : Nat) : Int) ∧ F' 15 = .int .i64 ((idT (bankT [] a) b : Nat) : Int) ∧ F' 17 = .int .i64 ((idT (bankT (bankT [] a) b) (joinT z a b) : Nat) : Int) ∧ F' 18 = .int .i64 0 ∧ F' 19 = .pointer (some ⟨g2, 0, none⟩) ∧ F' 20 = .pointer (some ⟨g3, 0, none⟩) ∧ F' 40 = .bool false ∧ F' 69 = .bool false ∧ F' 95 = .bool false ∧ F' 133 = .bool false ∧ F' 162 = .bool false ∧ F' 172 = .bool false) ⟨e0, e1, e2, e6, e7, e8, e10, e11, e12, e13, e15, e17, e18, e19, e20, e40, e69, e95, e133, e162, e172⟩ ?_
                            clear e0 e1 e2 e6 e7 e8 e10 e11 e12 e13 e15 e17 e18 e19 e20 e40 e69 e95 e133 e162 e172
                            clear F
                            rintro F ⟨e0, e1, e2, e6, e7, e8, e10, e11, e12, e13, e15, e17, e18, e19, e20, e40, e69, e95, e133, e162, e172⟩
                            refine wp_regionF ?_
                            refine lf_val (v := .pointer (some ⟨g3, 0, none⟩)) (wantAll rfl) (rv_move rfl (fr_eval rfl e20)) ?_
                            refine lf_val (v := y2) (wantAll rfl) (rv_move rfl (fr_eval rfl e11)) ?_
                            refine lf_call (wantAll rfl) (rv_call (args := [.pointer (some ⟨g3, 0, none⟩), y2]) rfl (evc (fr_eval rfl rfl) (evc (fr_eval rfl rfl) evn)) Try.call13) (into_b (bankT (bankT [] a) b) (by omega) hbb (joinT z a b) hf1 _ _ (Heap.rowStab (L := [_, _, _, _, _]) (M := [_, _, _]) hH (i := 0) rfl (row_one cNd_one)) (Heap.part (L := [_, _, _, _, _]) (M := [_, _, _]) hH)) ?_
                            rintro _ w25 ⟨y8, q6, rfl, hP⟩
                            refine ⟨_, rfl, ?_⟩
                            have hx := hH.callChg (L := [_, _, _, _, _]) (M := [_, _, _]) (fun _ h => h) hP
                            replace hH : Heap _ _ _ [_, _, _, _, _, _, _, _] := hH.call (L := [_, _, _, _, _]) (M := [_, _, _]) (fun _ h => h) hP (Stays.blk (hP.blk (i := 0) rfl) (Stays.own (hP.own (i := 1) rfl) (Stays.mp (hP.mp (i := 2) rfl) Stays.nil)))
                            clear hP
                            clear hx
                            refine lf_val (v := .tuple #[.int .i64 ((idT (bankT (bankT [] a) b) (joinT z a b) : Nat) : Int), .int .i64 0]) (wantAll rfl) (rv_move rfl (fr_eval rfl rfl)) ?_
                            refine lf_val (v := .int .i64 ((idT (bankT (bankT [] a) b) (joinT z a b) : Nat) : Int)) (wantAll rfl) (rv_extract rfl (fr_eval rfl rfl) rfl) ?_
                            refine lf_val (v := .int .i64 0) (wantAll rfl) (rv_extract rfl (fr_eval rfl rfl) rfl) ?_
                            refine lf_val (v := .int .i64 ((idT (bankT (bankT [] a) b) (joinT z a b) : Nat) : Int)) (wantAll rfl) (rv_assign rfl (fr_eval rfl rfl)) ?_
                            refine lf_val (v := .int .i64 0) (wantAll rfl) (rv_assign rfl (fr_eval rfl rfl)) ?_
                            refine lf_nil ?_
                            refine then_n ?_
                            refine wp_seq ?_
                            refine wp_gen (fun F' => F' 0 = .int .i64 z ∧ F' 1 = va ∧ F' 2 = vb ∧ F' 6 = .bool false ∧ F' 7 = .pointer none ∧ F' 8 = .pointer none ∧ F' 10 = .int .i64 1 ∧ F' 11 = y2 ∧ F' 12 = .pointer (some ⟨g1, 0, none⟩) ∧ F' 13 = .int .i64 ((idT [] a : Nat) : Int) ∧ F' 15 = .int .i64 ((idT (bankT [] a) b : Nat) : Int) ∧ F' 17 = .int .i64 ((idT (bankT (bankT [] a) b) (joinT z a b) : Nat) : Int) ∧ F' 18 = .int .i64 0 ∧ F' 19 = .pointer (some ⟨g2, 0, none⟩) ∧ F' 20 = .pointer (some ⟨g3, 0, none⟩) ∧ F' 21 = .int .i64 ((idT (bankT (bankT [] a) b) (joinT z a b) : Nat) : Int) ∧ F' 22 = .int .i64 0 ∧ F' 40 = .bool false ∧ F' 69 = .bool false ∧ F' 95 = .bool false ∧ F' 133 = .bool false ∧ F' 162 = .bool false ∧ F' 172 = .bool false) ⟨e0, e1, e2, e6, e7, e8, e10, e11, e12, e13, e15, e17, e18, e19, e20, rfl, rfl, e40, e69, e95, e133, e162, e172⟩ ?_
                            clear e0 e1 e2 e6 e7 e8 e10 e11 e12 e13 e15 e17 e18 e19 e20 e40 e69 e95 e133 e162 e172
                            clear F
                            rintro F ⟨e0, e1, e2, e6, e7, e8, e10, e11, e12, e13, e15, e17, e18, e19, e20, e21, e22, e40, e69, e95, e133, e162, e172⟩
                            have hn5 : (nameT 5).length = 1 := rfl
                            refine wp_regionF ?_
                            refine lf_val (v := .int .i64 0) (wantAll rfl) (rv_move rfl (fr_eval rfl e18)) ?_
                            refine lf_val (v := .bool true) (wantAll rfl) (rv_eql rfl (fr_eval rfl rfl) rfl (by decide)) ?_
                            refine lf_val (v := .bool true) (wantAll rfl) (rv_move rfl (fr_eval rfl rfl)) ?_
                            refine lf_val (v := .int .i64 0) (wantF (d := 197) rfl (by kernel_rfl) rfl rfl) (rv_move rfl (fr_eval rfl e22)) ?_
                            refine lf_val (v := .bool true) (wantF (d := 197) rfl (by kernel_rfl) rfl rfl) (rv_eql rfl (fr_eval rfl rfl) rfl (by decide)) ?_
                            refine lf_val (v := .bool true) (wantAll rfl) (rv_pickT rfl (fr_eval rfl rfl) (fr_eval rfl rfl)) ?_
                            refine lf_val (v := .bool true) (wantAll rfl) (rv_move rfl (fr_eval rfl rfl)) ?_
                            refine lf_val (wantF (d := 201) rfl (by kernel_rfl) rfl rfl) (rv_move rfl (fr_eval rfl e21)) ?_
                            refine lf_val (wantF (d := 201) rfl (by kernel_rfl) rfl rfl) (rv_move rfl (fr_eval rfl e17)) ?_
                            refine lf_val (v := .bool true) (wantF (d := 201) rfl (by kernel_rfl) rfl rfl) (rv_known (rv_eqlP (p := True) rfl (fr_eval rfl rfl) (fr_eval rfl rfl) (by simp)) (decide_eq_true trivial)) ?_
                            refine lf_val (v := .bool true) (wantAll rfl) (rv_pickT rfl (fr_eval rfl rfl) (fr_eval rfl rfl)) ?_
                            refine lf_val (v := .bool true) (wantAll rfl) (rv_move rfl (fr_eval rfl rfl)) ?_
                            refine lf_val (v := .int .i64 ((idT [] a : Nat) : Int)) (wantF (d := 206) rfl (by kernel_rfl) rfl rfl) (rv_move rfl (fr_eval rfl e13)) ?_
                            refine lf_val (v := .bool (decide (idT [] a ≥ 0))) (wantF (d := 206) rfl (by kernel_rfl) rfl rfl) (rv_geqP (p := idT [] a ≥ 0) rfl (fr_eval rfl rfl) rfl (by omega)) ?_
                            refine lf_val (v := .bool (decide (idT [] a ≥ 0))) (wantAll rfl) (rv_pickT rfl (fr_eval rfl rfl) (fr_eval rfl rfl)) ?_
                            refine lf_val (v := .bool (decide (idT [] a ≥ 0))) (wantAll rfl) (rv_move rfl (fr_eval rfl rfl)) ?_
                            by_cases hc15 : idT [] a ≥ 0
                            · refine lf_val (wantF (d := 210) rfl (by kernel_rfl) rfl (congrArg Value.bool (decide_eq_true hc15))) (rv_move rfl (fr_eval rfl e15)) ?_
                              refine lf_val (v := .bool (decide (idT (bankT [] a) b ≥ 0))) (wantF (d := 210) rfl (by kernel_rfl) rfl (congrArg Value.bool (decide_eq_true hc15))) (rv_geqP (p := idT (bankT [] a) b ≥ 0) rfl (fr_eval rfl rfl) rfl (by omega)) ?_
                              refine lf_val (v := .bool (decide (idT (bankT [] a) b ≥ 0))) (wantAll rfl) (rv_pickT rfl (fr_eval rfl (congrArg Value.bool (decide_eq_true hc15))) (fr_eval rfl rfl)) ?_
                              refine lf_val (v := .bool (decide (idT (bankT [] a) b ≥ 0))) (wantAll rfl) (rv_move rfl (fr_eval rfl rfl)) ?_
                              by_cases hc16 : idT (bankT [] a) b ≥ 0
                              · refine lf_call (wantF (d := 214) rfl (by kernel_rfl) rfl (congrArg Value.bool (decide_eq_true hc16))) (rv_call (args := [.int .i64 5]) rfl (evc rfl evn) Try.call12) (of_calls 5 _) ?_
                                rintro _ w26 ⟨⟨y9, rfl, ho, hg⟩, hx⟩
                                refine ⟨_, rfl, ?_⟩
                                replace hH : Heap _ _ _ [_, _, _, _, _, _, _, _, _] := hH.addOwn hx hg ho
                                clear ho hg
                                clear hx
                                refine lf_val (v := .int .i64 (((nameT 5).length : Nat) : Int)) (wantF (d := 214) rfl (by kernel_rfl) rfl (congrArg Value.bool (decide_eq_true hc16))) (rv_len rfl (fr_eval rfl rfl) (Own.rd (hH.own (i := 8) rfl) (row_one cNd_one)) Try.underlying24) ?_
                                refine lf_val (v := .bool (decide ((nameT 5).length = 1))) (wantF (d := 214) rfl (by kernel_rfl) rfl (congrArg Value.bool (decide_eq_true hc16))) (rv_eqlP (p := (nameT 5).length = 1) rfl (fr_eval rfl rfl) rfl (by omega)) ?_
                                refine lf_val (v := .bool (decide ((nameT 5).length = 1))) (wantAll rfl) (rv_pickT rfl (fr_eval rfl (congrArg Value.bool (decide_eq_true hc16))) (fr_eval rfl rfl)) ?_
                                refine lf_val (v := .bool (decide ((nameT 5).length = 1))) (wantAll rfl) (rv_move rfl (fr_eval rfl rfl)) ?_
                                by_cases hc17 : (nameT 5).length = 1
                                · refine lf_call (wantF (d := 219) rfl (by kernel_rfl) rfl (congrArg Value.bool (decide_eq_true hc17))) (rv_call (args := []) rfl evn Try.call7) (awake37_calls _) ?_
                                  rintro _ w27 ⟨rfl, hx⟩
                                  refine ⟨_, rfl, ?_⟩
                                  replace hH := hH.ext hx
                                  clear hx
                                  refine lf_val (v := .bool true) (wantAll rfl) (rv_pickT rfl (fr_eval rfl (congrArg Value.bool (decide_eq_true hc17))) (fr_eval rfl rfl)) ?_
                                  refine lf_val (v := .bool true) (wantAll rfl) (rv_assign rfl (fr_eval rfl rfl)) ?_
                                  refine lf_nil ?_
                                  refine then_n ?_
                                  replace hH : Heap _ _ _ [_, _, _, _, _, _, _, _] := hH.drop (.cons_cons _ (.cons_cons _ (.cons_cons _ (.cons_cons _ (.cons_cons _ (.cons_cons _ (.cons_cons _ (.cons_cons _ (.cons _ .slnil)))))))))
                                  refine wp_gen (fun F' => F' 0 = .int .i64 z ∧ F' 1 = va ∧ F' 2 = vb ∧ F' 6 = .bool true ∧ F' 7 = .pointer none ∧ F' 8 = .pointer none ∧ F' 10 = .int .i64 1 ∧ F' 11 = y2 ∧ F' 12 = .pointer (some ⟨g1, 0, none⟩) ∧ F' 13 = .int .i64 ((idT [] a : Nat) : Int) ∧ F' 15 = .int .i64 ((idT (bankT [] a) b : Nat) : Int) ∧ F' 17 = .int .i64 ((idT (bankT (bankT [] a) b) (joinT z a b) : Nat) : Int) ∧ F' 18 = .int .i64 0 ∧ F' 19 = .pointer (some ⟨g2, 0, none⟩) ∧ F' 20 = .pointer (some ⟨g3, 0, none⟩) ∧ F' 21 = .int .i64 ((idT (bankT (bankT [] a) b) (joinT z a b) : Nat) : Int) ∧ F' 22 = .int .i64 0 ∧ F' 40 = .bool false ∧ F' 69 = .bool false ∧ F' 95 = .bool false ∧ F' 133 = .bool false ∧ F' 162 = .bool false ∧ F' 172 = .bool false) ⟨e0, e1, e2, rfl, e7, e8, e10, e11, e12, e13, e15, e17, e18, e19, e20, e21, e22, e40, e69, e95, e133, e162, e172⟩ ?_
                                  clear e0 e1 e2 e6 e7 e8 e10 e11 e12 e13 e15 e17 e18 e19 e20 e21 e22 e40 e69 e95 e133 e162 e172
                                  clear F
                                  rintro F ⟨e0, e1, e2, e6, e7, e8, e10, e11, e12, e13, e15, e17, e18, e19, e20, e21, e22, e40, e69, e95, e133, e162, e172⟩
                                  refine wp_ret ?_
                                  exact bodyPost_ret (v := (.bool true)) (res1 rfl (ro_tmp rfl e6)) rfl (⟨rfl, hH.done⟩)
                                · refine lf_not (wantNot (d := 219) rfl (by kernel_rfl) rfl (congrArg Value.bool (decide_eq_false hc17))) ?_
                                  refine lf_val (v := .bool false) (wantAll rfl) (rv_pickF rfl (fr_eval rfl (congrArg Value.bool (decide_eq_false hc17))) rfl) ?_
                                  refine lf_val (v := .bool false) (wantAll rfl) (rv_assign rfl (fr_eval rfl rfl)) ?_
                                  refine lf_nil ?_
                                  refine then_n ?_
                                  replace hH : Heap _ _ _ [_, _, _, _, _, _, _, _] := hH.drop (.cons_cons _ (.cons_cons _ (.cons_cons _ (.cons_cons _ (.cons_cons _ (.cons_cons _ (.cons_cons _ (.cons_cons _ (.cons _ .slnil)))))))))
                                  refine wp_gen (fun F' => F' 0 = .int .i64 z ∧ F' 1 = va ∧ F' 2 = vb ∧ F' 6 = .bool false ∧ F' 7 = .pointer none ∧ F' 8 = .pointer none ∧ F' 10 = .int .i64 1 ∧ F' 11 = y2 ∧ F' 12 = .pointer (some ⟨g1, 0, none⟩) ∧ F' 13 = .int .i64 ((idT [] a : Nat) : Int) ∧ F' 15 = .int .i64 ((idT (bankT [] a) b : Nat) : Int) ∧ F' 17 = .int .i64 ((idT (bankT (bankT [] a) b) (joinT z a b) : Nat) : Int) ∧ F' 18 = .int .i64 0 ∧ F' 19 = .pointer (some ⟨g2, 0, none⟩) ∧ F' 20 = .pointer (some ⟨g3, 0, none⟩) ∧ F' 21 = .int .i64 ((idT (bankT (bankT [] a) b) (joinT z a b) : Nat) : Int) ∧ F' 22 = .int .i64 0 ∧ F' 40 = .bool false ∧ F' 69 = .bool false ∧ F' 95 = .bool false ∧ F' 133 = .bool false ∧ F' 162 = .bool false ∧ F' 172 = .bool false) ⟨e0, e1, e2, rfl, e7, e8, e10, e11, e12, e13, e15, e17, e18, e19, e20, e21, e22, e40, e69, e95, e133, e162, e172⟩ ?_
                                  clear e0 e1 e2 e6 e7 e8 e10 e11 e12 e13 e15 e17 e18 e19 e20 e21 e22 e40 e69 e95 e133 e162 e172
                                  clear F
                                  rintro F ⟨e0, e1, e2, e6, e7, e8, e10, e11, e12, e13, e15, e17, e18, e19, e20, e21, e22, e40, e69, e95, e133, e162, e172⟩
                                  refine wp_ret ?_
                                  exact bodyPost_ret (v := (.bool false)) (res1 rfl (ro_tmp rfl e6)) rfl (by exfalso; omega)
                              · refine lf_not (wantNot (d := 214) rfl (by kernel_rfl) rfl (congrArg Value.bool (decide_eq_false hc16))) ?_
                                refine lf_not (wantNot (d := 214) rfl (by kernel_rfl) rfl (congrArg Value.bool (decide_eq_false hc16))) ?_
                                refine lf_not (wantNot (d := 214) rfl (by kernel_rfl) rfl (congrArg Value.bool (decide_eq_false hc16))) ?_
                                refine lf_val (v := .bool false) (wantAll rfl) (rv_pickF rfl (fr_eval rfl (congrArg Value.bool (decide_eq_false hc16))) rfl) ?_
                                refine lf_val (v := .bool false) (wantAll rfl) (rv_move rfl (fr_eval rfl rfl)) ?_
                                refine lf_not (wantNot (d := 219) rfl (by kernel_rfl) rfl rfl) ?_
                                refine lf_val (v := .bool false) (wantAll rfl) (rv_pickF rfl (fr_eval rfl rfl) rfl) ?_
                                refine lf_val (v := .bool false) (wantAll rfl) (rv_assign rfl (fr_eval rfl rfl)) ?_
                                refine lf_nil ?_
                                refine then_n ?_
                                refine wp_gen (fun F' => F' 0 = .int .i64 z ∧ F' 1 = va ∧ F' 2 = vb ∧ F' 6 = .bool false ∧ F' 7 = .pointer none ∧ F' 8 = .pointer none ∧ F' 10 = .int .i64 1 ∧ F' 11 = y2 ∧ F' 12 = .pointer (some ⟨g1, 0, none⟩) ∧ F' 13 = .int .i64 ((idT [] a : Nat) : Int) ∧ F' 15 = .int .i64 ((idT (bankT [] a) b : Nat) : Int) ∧ F' 17 = .int .i64 ((idT (bankT (bankT [] a) b) (joinT z a b) : Nat) : Int) ∧ F' 18 = .int .i64 0 ∧ F' 19 = .pointer (some ⟨g2, 0, none⟩) ∧ F' 20 = .pointer (some ⟨g3, 0, none⟩) ∧ F' 21 = .int .i64 ((idT (bankT (bankT [] a) b) (joinT z a b) : Nat) : Int) ∧ F' 22 = .int .i64 0 ∧ F' 40 = .bool false ∧ F' 69 = .bool false ∧ F' 95 = .bool false ∧ F' 133 = .bool false ∧ F' 162 = .bool false ∧ F' 172 = .bool false) ⟨e0, e1, e2, rfl, e7, e8, e10, e11, e12, e13, e15, e17, e18, e19, e20, e21, e22, e40, e69, e95, e133, e162, e172⟩ ?_
                                clear e0 e1 e2 e6 e7 e8 e10 e11 e12 e13 e15 e17 e18 e19 e20 e21 e22 e40 e69 e95 e133 e162 e172
                                clear F
                                rintro F ⟨e0, e1, e2, e6, e7, e8, e10, e11, e12, e13, e15, e17, e18, e19, e20, e21, e22, e40, e69, e95, e133, e162, e172⟩
                                refine wp_ret ?_
                                exact bodyPost_ret (v := (.bool false)) (res1 rfl (ro_tmp rfl e6)) rfl (by exfalso; omega)
                            · refine lf_not (wantNot (d := 210) rfl (by kernel_rfl) rfl (congrArg Value.bool (decide_eq_false hc15))) ?_
                              refine lf_not (wantNot (d := 210) rfl (by kernel_rfl) rfl (congrArg Value.bool (decide_eq_false hc15))) ?_
                              refine lf_val (v := .bool false) (wantAll rfl) (rv_pickF rfl (fr_eval rfl (congrArg Value.bool (decide_eq_false hc15))) rfl) ?_
                              refine lf_val (v := .bool false) (wantAll rfl) (rv_move rfl (fr_eval rfl rfl)) ?_
                              refine lf_not (wantNot (d := 214) rfl (by kernel_rfl) rfl rfl) ?_
                              refine lf_not (wantNot (d := 214) rfl (by kernel_rfl) rfl rfl) ?_
                              refine lf_not (wantNot (d := 214) rfl (by kernel_rfl) rfl rfl) ?_
                              refine lf_val (v := .bool false) (wantAll rfl) (rv_pickF rfl (fr_eval rfl rfl) rfl) ?_
                              refine lf_val (v := .bool false) (wantAll rfl) (rv_move rfl (fr_eval rfl rfl)) ?_
                              refine lf_not (wantNot (d := 219) rfl (by kernel_rfl) rfl rfl) ?_
                              refine lf_val (v := .bool false) (wantAll rfl) (rv_pickF rfl (fr_eval rfl rfl) rfl) ?_
                              refine lf_val (v := .bool false) (wantAll rfl) (rv_assign rfl (fr_eval rfl rfl)) ?_
                              refine lf_nil ?_
                              refine then_n ?_
                              refine wp_gen (fun F' => F' 0 = .int .i64 z ∧ F' 1 = va ∧ F' 2 = vb ∧ F' 6 = .bool false ∧ F' 7 = .pointer none ∧ F' 8 = .pointer none ∧ F' 10 = .int .i64 1 ∧ F' 11 = y2 ∧ F' 12 = .pointer (some ⟨g1, 0, none⟩) ∧ F' 13 = .int .i64 ((idT [] a : Nat) : Int) ∧ F' 15 = .int .i64 ((idT (bankT [] a) b : Nat) : Int) ∧ F' 17 = .int .i64 ((idT (bankT (bankT [] a) b) (joinT z a b) : Nat) : Int) ∧ F' 18 = .int .i64 0 ∧ F' 19 = .pointer (some ⟨g2, 0, none⟩) ∧ F' 20 = .pointer (some ⟨g3, 0, none⟩) ∧ F' 21 = .int .i64 ((idT (bankT (bankT [] a) b) (joinT z a b) : Nat) : Int) ∧ F' 22 = .int .i64 0 ∧ F' 40 = .bool false ∧ F' 69 = .bool false ∧ F' 95 = .bool false ∧ F' 133 = .bool false ∧ F' 162 = .bool false ∧ F' 172 = .bool false) ⟨e0, e1, e2, rfl, e7, e8, e10, e11, e12, e13, e15, e17, e18, e19, e20, e21, e22, e40, e69, e95, e133, e162, e172⟩ ?_
                              clear e0 e1 e2 e6 e7 e8 e10 e11 e12 e13 e15 e17 e18 e19 e20 e21 e22 e40 e69 e95 e133 e162 e172
                              clear F
                              rintro F ⟨e0, e1, e2, e6, e7, e8, e10, e11, e12, e13, e15, e17, e18, e19, e20, e21, e22, e40, e69, e95, e133, e162, e172⟩
                              refine wp_ret ?_
                              exact bodyPost_ret (v := (.bool false)) (res1 rfl (ro_tmp rfl e6)) rfl (by exfalso; omega)
              · refine wp_cond_true (fr_eval rfl (e133.trans (congrArg Value.bool (decide_eq_true hc8)))) ?_
                refine wp_seq ?_
                refine wp_regionF ?_
                refine lf_val (v := .bool false) (wantAll rfl) (rv_assign rfl rfl) ?_
                refine lf_nil ?_
                refine then_n ?_
                refine wp_gen (fun F' => F' 0 = .int .i64 z ∧ F' 1 = va ∧ F' 2 = vb ∧ F' 6 = .bool false ∧ F' 7 = .pointer none ∧ F' 8 = .pointer none ∧ F' 10 = .int .i64 1 ∧ F' 11 = y2 ∧ F' 12 = .pointer (some ⟨g1, 0, none⟩) ∧ F' 13 = .int .i64 ((idT [] a : Nat) : Int) ∧ F' 15 = .int .i64 ((idT (bankT [] a) b : Nat) : Int) ∧ F' 17 = .int .i64 ((idT (bankT (bankT [] a) b) (joinT z a b) : Nat) : Int) ∧ F' 18 = .int .i64 0 ∧ F' 40 = .bool false ∧ F' 69 = .bool false ∧ F' 95 = .bool false ∧ F' 133 = .bool true) ⟨e0, e1, e2, rfl, e7, e8, e10, e11, e12, e13, e15, e17, e18, e40, e69, e95, (e133.trans (congrArg Value.bool (decide_eq_true hc8)))⟩ ?_
                clear e0 e1 e2 e6 e7 e8 e10 e11 e12 e13 e15 e17 e18 e40 e69 e95 e133
                clear F
                rintro F ⟨e0, e1, e2, e6, e7, e8, e10, e11, e12, e13, e15, e17, e18, e40, e69, e95, e133⟩
                refine wp_ret ?_
                refine then_ret ?_
                exact bodyPost_ret (v := (.bool false)) (res1 rfl (ro_tmp rfl e6)) rfl (by exfalso; omega)
          · refine wp_regionF ?_
            refine lf_val (v := .pointer (some ⟨g1, 0, none⟩)) (wantAll rfl) (rv_move rfl (fr_eval rfl e12)) ?_
            refine lf_val (v := y2) (wantAll rfl) (rv_move rfl (fr_eval rfl e11)) ?_
            refine lf_call (wantAll rfl) (rv_call (args := [.pointer (some ⟨g1, 0, none⟩), y2]) rfl (evc (fr_eval rfl rfl) (evc (fr_eval rfl rfl) evn)) Try.call13) (into_no g1 (joinT z a b) hf1 _ _ (Own.rd (hH.own (i := 0) rfl) (row_one cNd_one))) ?_
            rintro _ w28 ⟨rfl, hx⟩
            refine ⟨_, rfl, ?_⟩
            replace hH := hH.ext hx
            clear hx
            refine lf_val (v := .tuple #[.int .i64 0, .int .i64 1]) (wantAll rfl) (rv_move rfl (fr_eval rfl rfl)) ?_
            refine lf_val (v := .int .i64 0) (wantAll rfl) (rv_extract rfl (fr_eval rfl rfl) rfl) ?_
            refine lf_val (v := .int .i64 1) (wantAll rfl) (rv_extract rfl (fr_eval rfl rfl) rfl) ?_
            refine lf_val (v := .int .i64 0) (wantAll rfl) (rv_assign rfl (fr_eval rfl rfl)) ?_
            refine lf_val (v := .int .i64 1) (wantAll rfl) (rv_assign rfl (fr_eval rfl rfl)) ?_
            refine lf_nil ?_
            refine then_n ?_
            refine wp_seq ?_
            refine wp_seq ?_
            refine wp_gen (fun F' => F' 0 = .int .i64 z ∧ F' 1 = va ∧ F' 2 = vb ∧ F' 6 = .bool false ∧ F' 7 = .pointer none ∧ F' 8 = .pointer none ∧ F' 10 = .int .i64 1 ∧ F' 11 = y2 ∧ F' 12 = .pointer (some ⟨g1, 0, none⟩) ∧ F' 13 = .int .i64 ((idT [] a : Nat) : Int) ∧ F' 15 = .int .i64 ((idT (bankT [] a) b : Nat) : Int) ∧ F' 17 = .int .i64 0 ∧ F' 18 = .int .i64 1 ∧ F' 40 = .bool false ∧ F' 69 = .bool false) ⟨e0, e1, e2, e6, e7, e8, e10, e11, e12, e13, e15, rfl, rfl, e40, e69⟩ ?_
            clear e0 e1 e2 e6 e7 e8 e10 e11 e12 e13 e15 e40 e69
            clear F
            rintro F ⟨e0, e1, e2, e6, e7, e8, e10, e11, e12, e13, e15, e17, e18, e40, e69⟩
            refine wp_regionF ?_
            refine lf_val (v := .int .i64 z) (wantAll rfl) (rv_move rfl (fr_eval rfl e0)) ?_
            refine lf_val (v := .bool (decide (z = 3))) (wantAll rfl) (rv_eqlP (p := z = 3) rfl (fr_eval rfl rfl) rfl Iff.rfl) ?_
            refine lf_nil ?_
            refine then_n ?_
            refine wp_gen (fun F' => F' 0 = .int .i64 z ∧ F' 1 = va ∧ F' 2 = vb ∧ F' 6 = .bool false ∧ F' 7 = .pointer none ∧ F' 8 = .pointer none ∧ F' 10 = .int .i64 1 ∧ F' 11 = y2 ∧ F' 12 = .pointer (some ⟨g1, 0, none⟩) ∧ F' 13 = .int .i64 ((idT [] a : Nat) : Int) ∧ F' 15 = .int .i64 ((idT (bankT [] a) b : Nat) : Int) ∧ F' 17 = .int .i64 0 ∧ F' 18 = .int .i64 1 ∧ F' 40 = .bool false ∧ F' 69 = .bool false ∧ F' 95 = .bool (decide (z = 3))) ⟨e0, e1, e2, e6, e7, e8, e10, e11, e12, e13, e15, e17, e18, e40, e69, rfl⟩ ?_
            clear e0 e1 e2 e6 e7 e8 e10 e11 e12 e13 e15 e17 e18 e40 e69
            clear F
            rintro F ⟨e0, e1, e2, e6, e7, e8, e10, e11, e12, e13, e15, e17, e18, e40, e69, e95⟩
            by_cases hc18 : z = 3
            · refine wp_cond_true (fr_eval rfl (e95.trans (congrArg Value.bool (decide_eq_true hc18)))) ?_
              refine wp_seq ?_
              refine wp_regionF ?_
              refine lf_val (v := .int .i64 1) (wantAll rfl) (rv_move rfl (fr_eval rfl e18)) ?_
              refine lf_val (v := .bool false) (wantAll rfl) (rv_eql rfl (fr_eval rfl rfl) rfl (by decide)) ?_
              refine lf_val (v := .bool false) (wantAll rfl) (rv_move rfl (fr_eval rfl rfl)) ?_
              refine lf_not (wantNot (d := 98) rfl (by kernel_rfl) rfl rfl) ?_
              refine lf_not (wantNot (d := 98) rfl (by kernel_rfl) rfl rfl) ?_
              refine lf_not (wantNot (d := 98) rfl (by kernel_rfl) rfl rfl) ?_
              refine lf_not (wantNot (d := 98) rfl (by kernel_rfl) rfl rfl) ?_
              refine lf_not (wantNot (d := 98) rfl (by kernel_rfl) rfl rfl) ?_
              refine lf_not (wantNot (d := 98) rfl (by kernel_rfl) rfl rfl) ?_
              refine lf_val (v := .bool false) (wantAll rfl) (rv_pickF rfl (fr_eval rfl rfl) rfl) ?_
              refine lf_val (v := .bool false) (wantAll rfl) (rv_move rfl (fr_eval rfl rfl)) ?_
              refine lf_not (wantNot (d := 106) rfl (by kernel_rfl) rfl rfl) ?_
              refine lf_not (wantNot (d := 106) rfl (by kernel_rfl) rfl rfl) ?_
              refine lf_val (v := .bool false) (wantAll rfl) (rv_pickF rfl (fr_eval rfl rfl) rfl) ?_
              refine lf_val (v := .bool false) (wantAll rfl) (rv_move rfl (fr_eval rfl rfl)) ?_
              refine lf_not (wantNot (d := 110) rfl (by kernel_rfl) rfl rfl) ?_
              refine lf_not (wantNot (d := 110) rfl (by kernel_rfl) rfl rfl) ?_
              refine lf_not (wantNot (d := 110) rfl (by kernel_rfl) rfl rfl) ?_
              refine lf_not (wantNot (d := 110) rfl (by kernel_rfl) rfl rfl) ?_
              refine lf_not (wantNot (d := 110) rfl (by kernel_rfl) rfl rfl) ?_
              refine lf_not (wantNot (d := 110) rfl (by kernel_rfl) rfl rfl) ?_
              refine lf_not (wantNot (d := 110) rfl (by kernel_rfl) rfl rfl) ?_
              refine lf_not (wantNot (d := 110) rfl (by kernel_rfl) rfl rfl) ?_
              refine lf_not (wantNot (d := 110) rfl (by kernel_rfl) rfl rfl) ?_
              refine lf_not (wantNot (d := 110) rfl (by kernel_rfl) rfl rfl) ?_
              refine lf_val (v := .bool false) (wantAll rfl) (rv_pickF rfl (fr_eval rfl rfl) rfl) ?_
              refine lf_val (v := .bool false) (wantAll rfl) (rv_move rfl (fr_eval rfl rfl)) ?_
              refine lf_not (wantNot (d := 122) rfl (by kernel_rfl) rfl rfl) ?_
              refine lf_val (v := .bool false) (wantAll rfl) (rv_pickF rfl (fr_eval rfl rfl) rfl) ?_
              refine lf_val (v := .bool false) (wantAll rfl) (rv_assign rfl (fr_eval rfl rfl)) ?_
              refine lf_nil ?_
              refine then_n ?_
              refine wp_gen (fun F' => F' 0 = .int .i64 z ∧ F' 1 = va ∧ F' 2 = vb ∧ F' 6 = .bool false ∧ F' 7 = .pointer none ∧ F' 8 = .pointer none ∧ F' 10 = .int .i64 1 ∧ F' 11 = y2 ∧ F' 12 = .pointer (some ⟨g1, 0, none⟩) ∧ F' 13 = .int .i64 ((idT [] a : Nat) : Int) ∧ F' 15 = .int .i64 ((idT (bankT [] a) b : Nat) : Int) ∧ F' 17 = .int .i64 0 ∧ F' 18 = .int .i64 1 ∧ F' 40 = .bool false ∧ F' 69 = .bool false ∧ F' 95 = .bool true) ⟨e0, e1, e2, rfl, e7, e8, e10, e11, e12, e13, e15, e17, e18, e40, e69, (e95.trans (congrArg Value.bool (decide_eq_true hc18)))⟩ ?_
              clear e0 e1 e2 e6 e7 e8 e10 e11 e12 e13 e15 e17 e18 e40 e69 e95
              clear F
              rintro F ⟨e0, e1, e2, e6, e7, e8, e10, e11, e12, e13, e15, e17, e18, e40, e69, e95⟩
              refine wp_ret ?_
              refine then_ret ?_
              exact bodyPost_ret (v := (.bool false)) (res1 rfl (ro_tmp rfl e6)) rfl (by exfalso; first | omega | exact hf1 (okT_join (by omega) hta htb (by omega) (by omega)))
            · refine wp_cond_false (fr_eval rfl (e95.trans (congrArg Value.bool (decide_eq_false hc18)))) ?_
              refine wp_skip ?_
              refine then_n ?_
              refine wp_seq ?_
              refine wp_seq ?_
              refine wp_regionF ?_
              refine lf_val (v := y2) (wantAll rfl) (rv_move rfl (fr_eval rfl e11)) ?_
              refine lf_val (v := .int .i64 (((joinT z a b).length : Nat) : Int)) (wantAll rfl) (rv_len rfl (fr_eval rfl rfl) (Own.rd (hH.own (i := 0) rfl) (row_one cNd_one)) Try.underlying24) ?_
              refine lf_val (v := va) (wantAll rfl) (rv_move rfl (fr_eval rfl e1)) ?_
              refine lf_val (v := .int .i64 ((a.length : Nat) : Int)) (wantAll rfl) (rv_len rfl (fr_eval rfl rfl) (ha.rd _ hH.chg) Try.underlying24) ?_
              refine lf_val (v := vb) (wantAll rfl) (rv_move rfl (fr_eval rfl e2)) ?_
              refine lf_val (v := .int .i64 ((b.length : Nat) : Int)) (wantAll rfl) (rv_len rfl (fr_eval rfl rfl) (hb.rd _ hH.chg) Try.underlying24) ?_
              refine lf_val (v := .int .i64 ((a.length + b.length : Nat) : Int)) (wantAll rfl) (rv_add rfl (fr_eval rfl rfl) (fr_eval rfl rfl) (wrap_i64 (by omega) (by omega) (by omega))) ?_
              refine lf_val (v := .int .i64 (((a.length + b.length) + 1 : Nat) : Int)) (wantAll rfl) (rv_add rfl (fr_eval rfl rfl) rfl (wrap_i64 (by omega) (by omega) (by omega))) ?_
              refine lf_val (v := .bool (decide (¬ (joinT z a b).length = (a.length + b.length) + 1))) (wantAll rfl) (rv_neqP (p := ¬ (joinT z a b).length = (a.length + b.length) + 1) rfl (fr_eval rfl rfl) (fr_eval rfl rfl) (by omega)) ?_
              refine lf_nil ?_
              refine then_n ?_
              refine wp_gen (fun F' => F' 0 = .int .i64 z ∧ F' 1 = va ∧ F' 2 = vb ∧ F' 6 = .bool false ∧ F' 7 = .pointer none ∧ F' 8 = .pointer none ∧ F' 10 = .int .i64 1 ∧ F' 11 = y2 ∧ F' 12 = .pointer (some ⟨g1, 0, none⟩) ∧ F' 13 = .int .i64 ((idT [] a : Nat) : Int) ∧ F' 15 = .int .i64 ((idT (bankT [] a) b : Nat) : Int) ∧ F' 17 = .int .i64 0 ∧ F' 18 = .int .i64 1 ∧ F' 40 = .bool false ∧ F' 69 = .bool false ∧ F' 95 = .bool false ∧ F' 133 = .bool (decide (¬ (joinT z a b).length = (a.length + b.length) + 1))) ⟨e0, e1, e2, e6, e7, e8, e10, e11, e12, e13, e15, e17, e18, e40, e69, (e95.trans (congrArg Value.bool (decide_eq_false hc18))), rfl⟩ ?_
              clear e0 e1 e2 e6 e7 e8 e10 e11 e12 e13 e15 e17 e18 e40 e69 e95
              clear F
              rintro F ⟨e0, e1, e2, e6, e7, e8, e10, e11, e12, e13, e15, e17, e18, e40, e69, e95, e133⟩
              by_cases hc19 : (joinT z a b).length = (a.length + b.length) + 1
              · refine wp_cond_false (fr_eval rfl (e133.trans (congrArg Value.bool (decide_eq_false (not_not_intro hc19))))) ?_
                refine wp_skip ?_
                refine then_n ?_
                refine wp_seq ?_
                refine wp_regionF ?_
                refine lf_val (v := y2) (wantAll rfl) (rv_move rfl (fr_eval rfl e11)) ?_
                refine lf_val (v := y2) (wantAll rfl) (rv_move rfl (fr_eval rfl e11)) ?_
                refine lf_val (v := .int .i64 (((joinT z a b).length : Nat) : Int)) (wantAll rfl) (rv_len rfl (fr_eval rfl rfl) (Own.rd (hH.own (i := 0) rfl) (row_one cNd_one)) Try.underlying24) ?_
                refine lf_val (v := .int .i64 ((((joinT z a b).length) - 1 : Nat) : Int)) (wantAll rfl) (rv_sub rfl (fr_eval rfl rfl) rfl (wrap_i64 (by omega) (by omega) (by omega))) ?_
                refine lf_val (v := .pointer (some (elemA y2 ((((joinT z a b).length) - 1) * 3)))) (wantAll rfl) (rv_index rfl (fr_eval rfl rfl) (fr_eval rfl rfl) (rdN (Own.rd (hH.own (i := 0) rfl) (row_one cNd_one)) rfl) (show ((joinT z a b).length) - 1 < (joinT z a b).length from (by omega)) Try.underlying24 Try.sz40 (by decide)) ?_
                refine lf_val (wantAll rfl) (rv_loadElem rfl (fr_eval rfl rfl) (rdN (Own.rd (hH.own (i := 0) rfl) (row_one cNd_one)) rfl) (show ((joinT z a b).length) - 1 < (joinT z a b).length from (by omega)) (by decide) (flat_part zN cNd_len (show ((joinT z a b).length) - 1 < (joinT z a b).length from (by omega))) Try.underlying40 rfl Try.sz40) ?_
                refine lf_ex (wantAll rfl) (hx_alloc hH 40 (z := .agg ([.int .i64 0, .int .i64 0, .int .i64 0]).toArray) (n := 3) (cs := [.int .i64 0, .int .i64 0, .int .i64 0]) rfl (by kernel_rfl) (by rfl)) ?_
                clear hH
                rintro _ w29 ⟨g4, rfl, hH, hx⟩
                replace hH : Heap _ _ _ [_, _, _, _, _] := hH
                clear hx
                refine lf_sk (wantAll rfl) (hx_storeW hH (i := 4) (cs := [.int .i64 ((List.getD (joinT z a b) (((joinT z a b).length) - 1) zN).k), .int .i64 ((List.getD (joinT z a b) (((joinT z a b).length) - 1) zN).a), .int .i64 ((List.getD (joinT z a b) (((joinT z a b).length) - 1) zN).b)]) rfl rfl rfl (fr_eval rfl rfl) (fr_eval rfl rfl) (sz_len Try.sz40 zL8_l0) ((zL8_l0).trans (zL8_l0).symm) (zL8_o1 rfl rfl rfl)) ?_
                clear hH
                rintro w30 ⟨hH, hx⟩
                replace hH : Heap _ _ _ [_, _, _, _, _] := hH
                clear hx
                refine lf_nil ?_
                refine then_n ?_
                refine wp_seq ?_
                refine wp_seq ?_
                refine wp_gen (fun F' => F' 0 = .int .i64 z ∧ F' 1 = va ∧ F' 2 = vb ∧ F' 6 = .bool false ∧ F' 7 = .pointer none ∧ F' 8 = .pointer none ∧ F' 10 = .int .i64 1 ∧ F' 11 = y2 ∧ F' 12 = .pointer (some ⟨g1, 0, none⟩) ∧ F' 13 = .int .i64 ((idT [] a : Nat) : Int) ∧ F' 15 = .int .i64 ((idT (bankT [] a) b : Nat) : Int) ∧ F' 17 = .int .i64 0 ∧ F' 18 = .int .i64 1 ∧ F' 19 = .pointer (some ⟨g4, 0, none⟩) ∧ F' 40 = .bool false ∧ F' 69 = .bool false ∧ F' 95 = .bool false ∧ F' 133 = .bool false) ⟨e0, e1, e2, e6, e7, e8, e10, e11, e12, e13, e15, e17, e18, rfl, e40, e69, e95, (e133.trans (congrArg Value.bool (decide_eq_false (not_not_intro hc19))))⟩ ?_
                clear e0 e1 e2 e6 e7 e8 e10 e11 e12 e13 e15 e17 e18 e40 e69 e95 e133
                clear F
                rintro F ⟨e0, e1, e2, e6, e7, e8, e10, e11, e12, e13, e15, e17, e18, e19, e40, e69, e95, e133⟩
                have hjl := join_last (z := z) (a := a) (b := b) (by assumption)
                have hjk := congrArg Nd.k hjl
                have hja := congrArg Nd.a hjl
                have hjb := congrArg Nd.b hjl
                simp only at hjk hja hjb
                refine wp_regionF ?_
                refine lf_val (v := .pointer (some ⟨g4, 0, none⟩)) (wantAll rfl) (rv_fieldAddr (n := 0) rfl (fr_eval rfl e19) Try.underlying40 rfl rfl (by kernel_rfl)) ?_
                refine lf_val (wantAll rfl) (rv_load1 rfl (hH.blk (i := 4) rfl) zL8_g2 (fr_eval rfl rfl) Try.underlying3 rfl Try.sz3) ?_
                refine lf_val (v := .int .i64 z) (wantAll rfl) (rv_move rfl (fr_eval rfl e0)) ?_
                refine lf_val (v := .bool (decide (¬ (List.getD (joinT z a b) (((joinT z a b).length) - 1) zN).k = z))) (wantAll rfl) (rv_neqP (p := ¬ (List.getD (joinT z a b) (((joinT z a b).length) - 1) zN).k = z) rfl (fr_eval rfl rfl) (fr_eval rfl rfl) Iff.rfl) ?_
                refine lf_val (v := .bool (decide (¬ (List.getD (joinT z a b) (((joinT z a b).length) - 1) zN).k = z))) (wantAll rfl) (rv_move rfl (fr_eval rfl rfl)) ?_
                refine lf_joinP (fun F' => F' 0 = .int .i64 z ∧ F' 1 = va ∧ F' 2 = vb ∧ F' 6 = .bool false ∧ F' 7 = .pointer none ∧ F' 8 = .pointer none ∧ F' 10 = .int .i64 1 ∧ F' 11 = y2 ∧ F' 12 = .pointer (some ⟨g1, 0, none⟩) ∧ F' 13 = .int .i64 ((idT [] a : Nat) : Int) ∧ F' 15 = .int .i64 ((idT (bankT [] a) b : Nat) : Int) ∧ F' 17 = .int .i64 0 ∧ F' 18 = .int .i64 1 ∧ F' 19 = .pointer (some ⟨g4, 0, none⟩) ∧ F' 40 = .bool false ∧ F' 69 = .bool false ∧ F' 95 = .bool false ∧ F' 133 = .bool false ∧ F' 151 = .bool (decide ((¬ (List.getD (joinT z a b) (((joinT z a b).length) - 1) zN).k = z) ∨ (¬ (List.getD (joinT z a b) (((joinT z a b).length) - 1) zN).a = ((a.length - 1 : Nat) : Int))))) 7 (fun hk => ?_) ?_
                · by_cases hc20 : (List.getD (joinT z a b) (((joinT z a b).length) - 1) zN).k = z
                  · refine lf_val (v := .pointer (some ⟨g4, 1, none⟩)) (wantF (d := 144) rfl (by kernel_rfl) rfl (congrArg Value.bool (decide_eq_false (not_not_intro hc20)))) (rv_fieldAddr (n := 0) rfl (fr_eval rfl e19) Try.underlying40 rfl rfl (by kernel_rfl)) ?_
                    refine lf_val (wantF (d := 144) rfl (by kernel_rfl) rfl (congrArg Value.bool (decide_eq_false (not_not_intro hc20)))) (rv_load1 rfl (hH.blk (i := 4) rfl) zL8_g3 (fr_eval rfl rfl) Try.underlying3 rfl Try.sz3) ?_
                    refine lf_val (v := va) (wantF (d := 144) rfl (by kernel_rfl) rfl (congrArg Value.bool (decide_eq_false (not_not_intro hc20)))) (rv_move rfl (fr_eval rfl e1)) ?_
                    refine lf_val (v := .int .i64 ((a.length : Nat) : Int)) (wantF (d := 144) rfl (by kernel_rfl) rfl (congrArg Value.bool (decide_eq_false (not_not_intro hc20)))) (rv_len rfl (fr_eval rfl rfl) (ha.rd _ hH.chg) Try.underlying24) ?_
                    refine lf_val (v := .int .i64 ((a.length - 1 : Nat) : Int)) (wantF (d := 144) rfl (by kernel_rfl) rfl (congrArg Value.bool (decide_eq_false (not_not_intro hc20)))) (rv_sub rfl (fr_eval rfl rfl) rfl (wrap_i64 (by omega) (by omega) (by omega))) ?_
                    refine lf_val (v := .bool (decide (¬ (List.getD (joinT z a b) (((joinT z a b).length) - 1) zN).a = ((a.length - 1 : Nat) : Int)))) (wantF (d := 144) rfl (by kernel_rfl) rfl (congrArg Value.bool (decide_eq_false (not_not_intro hc20)))) (rv_neqP (p := ¬ (List.getD (joinT z a b) (((joinT z a b).length) - 1) zN).a = ((a.length - 1 : Nat) : Int)) rfl (fr_eval rfl rfl) (fr_eval rfl rfl) Iff.rfl) ?_
                    refine lf_val (v := .bool (decide (¬ (List.getD (joinT z a b) (((joinT z a b).length) - 1) zN).a = ((a.length - 1 : Nat) : Int)))) (wantAll rfl) (rv_pickF rfl (fr_eval rfl (congrArg Value.bool (decide_eq_false (not_not_intro hc20)))) (fr_eval rfl rfl)) ?_
                    exact hk _ ⟨e0, e1, e2, e6, e7, e8, e10, e11, e12, e13, e15, e17, e18, e19, e40, e69, e95, e133, (congrArg Value.bool (dec_or (not_not_intro hc20)))⟩
                  · refine lf_not (wantNot (d := 144) rfl (by kernel_rfl) rfl (congrArg Value.bool (decide_eq_true hc20))) ?_
                    refine lf_not (wantNot (d := 144) rfl (by kernel_rfl) rfl (congrArg Value.bool (decide_eq_true hc20))) ?_
                    refine lf_not (wantNot (d := 144) rfl (by kernel_rfl) rfl (congrArg Value.bool (decide_eq_true hc20))) ?_
                    refine lf_not (wantNot (d := 144) rfl (by kernel_rfl) rfl (congrArg Value.bool (decide_eq_true hc20))) ?_
                    refine lf_not (wantNot (d := 144) rfl (by kernel_rfl) rfl (congrArg Value.bool (decide_eq_true hc20))) ?_
                    refine lf_not (wantNot (d := 144) rfl (by kernel_rfl) rfl (congrArg Value.bool (decide_eq_true hc20))) ?_
                    refine lf_val (v := .bool true) (wantAll rfl) (rv_pickT rfl (fr_eval rfl (congrArg Value.bool (decide_eq_true hc20))) rfl) ?_
                    exact hk _ ⟨e0, e1, e2, e6, e7, e8, e10, e11, e12, e13, e15, e17, e18, e19, e40, e69, e95, e133, (congrArg Value.bool (dec_orT hc20))⟩
                · clear e0 e1 e2 e6 e7 e8 e10 e11 e12 e13 e15 e17 e18 e19 e40 e69 e95 e133
                  clear F
                  rintro F ⟨e0, e1, e2, e6, e7, e8, e10, e11, e12, e13, e15, e17, e18, e19, e40, e69, e95, e133, e151⟩
                  refine lf_val (wantAll rfl) (rv_move rfl (fr_eval rfl e151)) ?_
                  refine lf_joinP (fun F' => F' 0 = .int .i64 z ∧ F' 1 = va ∧ F' 2 = vb ∧ F' 6 = .bool false ∧ F' 7 = .pointer none ∧ F' 8 = .pointer none ∧ F' 10 = .int .i64 1 ∧ F' 11 = y2 ∧ F' 12 = .pointer (some ⟨g1, 0, none⟩) ∧ F' 13 = .int .i64 ((idT [] a : Nat) : Int) ∧ F' 15 = .int .i64 ((idT (bankT [] a) b : Nat) : Int) ∧ F' 17 = .int .i64 0 ∧ F' 18 = .int .i64 1 ∧ F' 19 = .pointer (some ⟨g4, 0, none⟩) ∧ F' 40 = .bool false ∧ F' 69 = .bool false ∧ F' 95 = .bool false ∧ F' 133 = .bool false ∧ F' 162 = .bool (decide (((¬ (List.getD (joinT z a b) (((joinT z a b).length) - 1) zN).k = z) ∨ (¬ (List.getD (joinT z a b) (((joinT z a b).length) - 1) zN).a = ((a.length - 1 : Nat) : Int))) ∨ (¬ (List.getD (joinT z a b) (((joinT z a b).length) - 1) zN).b = (((a.length + b.length) - 1 : Nat) : Int))))) 10 (fun hk => ?_) ?_
                  · by_cases hc21 : (¬ (List.getD (joinT z a b) (((joinT z a b).length) - 1) zN).k = z) ∨ (¬ (List.getD (joinT z a b) (((joinT z a b).length) - 1) zN).a = ((a.length - 1 : Nat) : Int))
                    · refine lf_not (wantNot (d := 152) rfl (by kernel_rfl) rfl (congrArg Value.bool (decide_eq_true hc21))) ?_
                      refine lf_not (wantNot (d := 152) rfl (by kernel_rfl) rfl (congrArg Value.bool (decide_eq_true hc21))) ?_
                      refine lf_not (wantNot (d := 152) rfl (by kernel_rfl) rfl (congrArg Value.bool (decide_eq_true hc21))) ?_
                      refine lf_not (wantNot (d := 152) rfl (by kernel_rfl) rfl (congrArg Value.bool (decide_eq_true hc21))) ?_
                      refine lf_not (wantNot (d := 152) rfl (by kernel_rfl) rfl (congrArg Value.bool (decide_eq_true hc21))) ?_
                      refine lf_not (wantNot (d := 152) rfl (by kernel_rfl) rfl (congrArg Value.bool (decide_eq_true hc21))) ?_
                      refine lf_not (wantNot (d := 152) rfl (by kernel_rfl) rfl (congrArg Value.bool (decide_eq_true hc21))) ?_
                      refine lf_not (wantNot (d := 152) rfl (by kernel_rfl) rfl (congrArg Value.bool (decide_eq_true hc21))) ?_
                      refine lf_not (wantNot (d := 152) rfl (by kernel_rfl) rfl (congrArg Value.bool (decide_eq_true hc21))) ?_
                      refine lf_val (v := .bool true) (wantAll rfl) (rv_pickT rfl (fr_eval rfl (congrArg Value.bool (decide_eq_true hc21))) rfl) ?_
                      exact hk _ ⟨e0, e1, e2, e6, e7, e8, e10, e11, e12, e13, e15, e17, e18, e19, e40, e69, e95, e133, (congrArg Value.bool (dec_orT hc21))⟩
                    · refine lf_val (v := .pointer (some ⟨g4, 2, none⟩)) (wantF (d := 152) rfl (by kernel_rfl) rfl (congrArg Value.bool (decide_eq_false hc21))) (rv_fieldAddr (n := 0) rfl (fr_eval rfl e19) Try.underlying40 rfl rfl (by kernel_rfl)) ?_
                      refine lf_val (wantF (d := 152) rfl (by kernel_rfl) rfl (congrArg Value.bool (decide_eq_false hc21))) (rv_load1 rfl (hH.blk (i := 4) rfl) zL8_g4 (fr_eval rfl rfl) Try.underlying3 rfl Try.sz3) ?_
                      refine lf_val (v := va) (wantF (d := 152) rfl (by kernel_rfl) rfl (congrArg Value.bool (decide_eq_false hc21))) (rv_move rfl (fr_eval rfl e1)) ?_
                      refine lf_val (v := .int .i64 ((a.length : Nat) : Int)) (wantF (d := 152) rfl (by kernel_rfl) rfl (congrArg Value.bool (decide_eq_false hc21))) (rv_len rfl (fr_eval rfl rfl) (ha.rd _ hH.chg) Try.underlying24) ?_
                      refine lf_val (v := vb) (wantF (d := 152) rfl (by kernel_rfl) rfl (congrArg Value.bool (decide_eq_false hc21))) (rv_move rfl (fr_eval rfl e2)) ?_
                      refine lf_val (v := .int .i64 ((b.length : Nat) : Int)) (wantF (d := 152) rfl (by kernel_rfl) rfl (congrArg Value.bool (decide_eq_false hc21))) (rv_len rfl (fr_eval rfl rfl) (hb.rd _ hH.chg) Try.underlying24) ?_
                      refine lf_val (v := .int .i64 ((a.length + b.length : Nat) : Int)) (wantF (d := 152) rfl (by kernel_rfl) rfl (congrArg Value.bool (decide_eq_false hc21))) (rv_add rfl (fr_eval rfl rfl) (fr_eval rfl rfl) (wrap_i64 (by omega) (by omega) (by omega))) ?_
                      refine lf_val (v := .int .i64 (((a.length + b.length) - 1 : Nat) : Int)) (wantF (d := 152) rfl (by kernel_rfl) rfl (congrArg Value.bool (decide_eq_false hc21))) (rv_sub rfl (fr_eval rfl rfl) rfl (wrap_i64 (by omega) (by omega) (by omega))) ?_
                      refine lf_val (v := .bool (decide (¬ (List.getD (joinT z a b) (((joinT z a b).length) - 1) zN).b = (((a.length + b.length) - 1 : Nat) : Int)))) (wantF (d := 152) rfl (by kernel_rfl) rfl (congrArg Value.bool (decide_eq_false hc21))) (rv_neqP (p := ¬ (List.getD (joinT z a b) (((joinT z a b).length) - 1) zN).b = (((a.length + b.length) - 1 : Nat) : Int)) rfl (fr_eval rfl rfl) (fr_eval rfl rfl) Iff.rfl) ?_
                      refine lf_val (v := .bool (decide (¬ (List.getD (joinT z a b) (((joinT z a b).length) - 1) zN).b = (((a.length + b.length) - 1 : Nat) : Int)))) (wantAll rfl) (rv_pickF rfl (fr_eval rfl (congrArg Value.bool (decide_eq_false hc21))) (fr_eval rfl rfl)) ?_
                      exact hk _ ⟨e0, e1, e2, e6, e7, e8, e10, e11, e12, e13, e15, e17, e18, e19, e40, e69, e95, e133, (congrArg Value.bool (dec_or hc21))⟩
                  · clear e0 e1 e2 e6 e7 e8 e10 e11 e12 e13 e15 e17 e18 e19 e40 e69 e95 e133 e151
                    clear F
                    rintro F ⟨e0, e1, e2, e6, e7, e8, e10, e11, e12, e13, e15, e17, e18, e19, e40, e69, e95, e133, e162⟩
                    refine lf_nil ?_
                    refine then_n ?_
                    by_cases hc22 : ((¬ (List.getD (joinT z a b) (((joinT z a b).length) - 1) zN).k = z) ∨ (¬ (List.getD (joinT z a b) (((joinT z a b).length) - 1) zN).a = ((a.length - 1 : Nat) : Int))) ∨ (¬ (List.getD (joinT z a b) (((joinT z a b).length) - 1) zN).b = (((a.length + b.length) - 1 : Nat) : Int))
                    · refine wp_cond_true (fr_eval rfl (e162.trans (congrArg Value.bool (decide_eq_true hc22)))) ?_
                      refine wp_seq ?_
                      refine wp_regionF ?_
                      refine lf_val (v := .bool false) (wantAll rfl) (rv_assign rfl rfl) ?_
                      refine lf_nil ?_
                      refine then_n ?_
                      refine wp_gen (fun F' => F' 0 = .int .i64 z ∧ F' 1 = va ∧ F' 2 = vb ∧ F' 6 = .bool false ∧ F' 7 = .pointer none ∧ F' 8 = .pointer none ∧ F' 10 = .int .i64 1 ∧ F' 11 = y2 ∧ F' 12 = .pointer (some ⟨g1, 0, none⟩) ∧ F' 13 = .int .i64 ((idT [] a : Nat) : Int) ∧ F' 15 = .int .i64 ((idT (bankT [] a) b : Nat) : Int) ∧ F' 17 = .int .i64 0 ∧ F' 18 = .int .i64 1 ∧ F' 19 = .pointer (some ⟨g4, 0, none⟩) ∧ F' 40 = .bool false ∧ F' 69 = .bool false ∧ F' 95 = .bool false ∧ F' 133 = .bool false ∧ F' 162 = .bool true) ⟨e0, e1, e2, rfl, e7, e8, e10, e11, e12, e13, e15, e17, e18, e19, e40, e69, e95, e133, (e162.trans (congrArg Value.bool (decide_eq_true hc22)))⟩ ?_
                      clear e0 e1 e2 e6 e7 e8 e10 e11 e12 e13 e15 e17 e18 e19 e40 e69 e95 e133 e162
                      clear F
                      rintro F ⟨e0, e1, e2, e6, e7, e8, e10, e11, e12, e13, e15, e17, e18, e19, e40, e69, e95, e133, e162⟩
                      refine wp_ret ?_
                      refine then_ret ?_
                      exact bodyPost_ret (v := (.bool false)) (res1 rfl (ro_tmp rfl e6)) rfl (by exfalso; first | omega | exact hf1 (okT_join (by omega) hta htb (by omega) (by omega)))
                    · refine wp_cond_false (fr_eval rfl (e162.trans (congrArg Value.bool (decide_eq_false hc22)))) ?_
                      refine wp_skip ?_
                      refine then_n ?_
                      refine wp_seq ?_
                      refine wp_seq ?_
                      refine wp_regionF ?_
                      refine lf_val (v := .int .i64 z) (wantAll rfl) (rv_move rfl (fr_eval rfl e0)) ?_
                      refine lf_val (v := .bool (decide (¬ z = 2))) (wantAll rfl) (rv_neqP (p := ¬ z = 2) rfl (fr_eval rfl rfl) rfl Iff.rfl) ?_
                      refine lf_val (v := .bool (decide (¬ z = 2))) (wantAll rfl) (rv_move rfl (fr_eval rfl rfl)) ?_
                      refine lf_joinP (fun F' => F' 0 = .int .i64 z ∧ F' 1 = va ∧ F' 2 = vb ∧ F' 6 = .bool false ∧ F' 7 = .pointer none ∧ F' 8 = .pointer none ∧ F' 10 = .int .i64 1 ∧ F' 11 = y2 ∧ F' 12 = .pointer (some ⟨g1, 0, none⟩) ∧ F' 13 = .int .i64 ((idT [] a : Nat) : Int) ∧ F' 15 = .int .i64 ((idT (bankT [] a) b : Nat) : Int) ∧ F' 17 = .int .i64 0 ∧ F' 18 = .int .i64 1 ∧ F' 19 = .pointer (some ⟨g4, 0, none⟩) ∧ F' 40 = .bool false ∧ F' 69 = .bool false ∧ F' 95 = .bool false ∧ F' 133 = .bool false ∧ F' 162 = .bool false ∧ F' 168 = .bool (decide ((¬ z = 2) ∧ (¬ z = 4)))) 3 (fun hk => ?_) ?_
                      · by_cases hc23 : z = 2
                        · refine lf_not (wantNot (d := 165) rfl (by kernel_rfl) rfl (congrArg Value.bool (decide_eq_false (not_not_intro hc23)))) ?_
                          refine lf_not (wantNot (d := 165) rfl (by kernel_rfl) rfl (congrArg Value.bool (decide_eq_false (not_not_intro hc23)))) ?_
                          refine lf_val (v := .bool false) (wantAll rfl) (rv_pickF rfl (fr_eval rfl (congrArg Value.bool (decide_eq_false (not_not_intro hc23)))) rfl) ?_
                          exact hk _ ⟨e0, e1, e2, e6, e7, e8, e10, e11, e12, e13, e15, e17, e18, e19, e40, e69, e95, e133, (e162.trans (congrArg Value.bool (decide_eq_false hc22))), (congrArg Value.bool (dec_andF (not_not_intro hc23)))⟩
                        · refine lf_val (v := .int .i64 z) (wantF (d := 165) rfl (by kernel_rfl) rfl (congrArg Value.bool (decide_eq_true hc23))) (rv_move rfl (fr_eval rfl e0)) ?_
                          refine lf_val (v := .bool (decide (¬ z = 4))) (wantF (d := 165) rfl (by kernel_rfl) rfl (congrArg Value.bool (decide_eq_true hc23))) (rv_neqP (p := ¬ z = 4) rfl (fr_eval rfl rfl) rfl Iff.rfl) ?_
                          refine lf_val (v := .bool (decide (¬ z = 4))) (wantAll rfl) (rv_pickT rfl (fr_eval rfl (congrArg Value.bool (decide_eq_true hc23))) (fr_eval rfl rfl)) ?_
                          exact hk _ ⟨e0, e1, e2, e6, e7, e8, e10, e11, e12, e13, e15, e17, e18, e19, e40, e69, e95, e133, (e162.trans (congrArg Value.bool (decide_eq_false hc22))), (congrArg Value.bool (dec_and hc23))⟩
                      · clear e0 e1 e2 e6 e7 e8 e10 e11 e12 e13 e15 e17 e18 e19 e40 e69 e95 e133 e162
                        clear F
                        rintro F ⟨e0, e1, e2, e6, e7, e8, e10, e11, e12, e13, e15, e17, e18, e19, e40, e69, e95, e133, e162, e168⟩
                        refine lf_val (v := .bool (decide ((¬ z = 2) ∧ (¬ z = 4)))) (wantAll rfl) (rv_move rfl (fr_eval rfl e168)) ?_
                        refine lf_joinP (fun F' => F' 0 = .int .i64 z ∧ F' 1 = va ∧ F' 2 = vb ∧ F' 6 = .bool false ∧ F' 7 = .pointer none ∧ F' 8 = .pointer none ∧ F' 10 = .int .i64 1 ∧ F' 11 = y2 ∧ F' 12 = .pointer (some ⟨g1, 0, none⟩) ∧ F' 13 = .int .i64 ((idT [] a : Nat) : Int) ∧ F' 15 = .int .i64 ((idT (bankT [] a) b : Nat) : Int) ∧ F' 17 = .int .i64 0 ∧ F' 18 = .int .i64 1 ∧ F' 19 = .pointer (some ⟨g4, 0, none⟩) ∧ F' 40 = .bool false ∧ F' 69 = .bool false ∧ F' 95 = .bool false ∧ F' 133 = .bool false ∧ F' 162 = .bool false ∧ F' 172 = .bool (decide (((¬ z = 2) ∧ (¬ z = 4)) ∧ (¬ z = 5)))) 3 (fun hk => ?_) ?_
                        · by_cases hc24 : (¬ z = 2) ∧ (¬ z = 4)
                          · refine lf_val (v := .int .i64 z) (wantF (d := 169) rfl (by kernel_rfl) rfl (congrArg Value.bool (decide_eq_true hc24))) (rv_move rfl (fr_eval rfl e0)) ?_
                            refine lf_val (v := .bool (decide (¬ z = 5))) (wantF (d := 169) rfl (by kernel_rfl) rfl (congrArg Value.bool (decide_eq_true hc24))) (rv_neqP (p := ¬ z = 5) rfl (fr_eval rfl rfl) rfl Iff.rfl) ?_
                            refine lf_val (v := .bool (decide (¬ z = 5))) (wantAll rfl) (rv_pickT rfl (fr_eval rfl (congrArg Value.bool (decide_eq_true hc24))) (fr_eval rfl rfl)) ?_
                            exact hk _ ⟨e0, e1, e2, e6, e7, e8, e10, e11, e12, e13, e15, e17, e18, e19, e40, e69, e95, e133, e162, (congrArg Value.bool (dec_and hc24))⟩
                          · refine lf_not (wantNot (d := 169) rfl (by kernel_rfl) rfl (congrArg Value.bool (decide_eq_false hc24))) ?_
                            refine lf_not (wantNot (d := 169) rfl (by kernel_rfl) rfl (congrArg Value.bool (decide_eq_false hc24))) ?_
                            refine lf_val (v := .bool false) (wantAll rfl) (rv_pickF rfl (fr_eval rfl (congrArg Value.bool (decide_eq_false hc24))) rfl) ?_
                            exact hk _ ⟨e0, e1, e2, e6, e7, e8, e10, e11, e12, e13, e15, e17, e18, e19, e40, e69, e95, e133, e162, (congrArg Value.bool (dec_andF hc24))⟩
                        · clear e0 e1 e2 e6 e7 e8 e10 e11 e12 e13 e15 e17 e18 e19 e40 e69 e95 e133 e162 e168
                          clear F
                          rintro F ⟨e0, e1, e2, e6, e7, e8, e10, e11, e12, e13, e15, e17, e18, e19, e40, e69, e95, e133, e162, e172⟩
                          refine lf_nil ?_
                          refine then_n ?_
                          by_cases hc25 : ((¬ z = 2) ∧ (¬ z = 4)) ∧ (¬ z = 5)
                          · refine wp_cond_true (fr_eval rfl (e172.trans (congrArg Value.bool (decide_eq_true hc25)))) ?_
                            refine wp_seq ?_
                            refine wp_regionF ?_
                            refine lf_val (v := .int .i64 1) (wantAll rfl) (rv_move rfl (fr_eval rfl e18)) ?_
                            refine lf_val (v := .bool false) (wantAll rfl) (rv_eql rfl (fr_eval rfl rfl) rfl (by decide)) ?_
                            refine lf_val (v := y2) (wantAll rfl) (rv_move rfl (fr_eval rfl e11)) ?_
                            refine lf_call (wantAll rfl) (rv_call (args := [y2]) rfl (evc (fr_eval rfl rfl) evn) Try.call11) (calls_known (b' := false) (lawRight_calls (joinT z a b) _ _ (Own.rd (hH.own (i := 0) rfl) (row_one cNd_one))) (decide_eq_false hf1)) ?_
                            rintro _ w31 ⟨rfl, hx⟩
                            refine ⟨_, rfl, ?_⟩
                            replace hH := hH.ext hx
                            clear hx
                            refine lf_val (v := .bool true) (wantAll rfl) (rv_eqb (d := true) rfl (fr_eval rfl rfl) (fr_eval rfl rfl) Try.underlying4 (beq_self_eq_true _)) ?_
                            refine lf_val (v := .bool true) (wantAll rfl) (rv_move rfl (fr_eval rfl rfl)) ?_
                            refine lf_call (wantF (d := 178) rfl (by kernel_rfl) rfl rfl) (rv_call (args := []) rfl evn Try.call7) (awake37_calls _) ?_
                            rintro _ w32 ⟨rfl, hx⟩
                            refine ⟨_, rfl, ?_⟩
                            replace hH := hH.ext hx
                            clear hx
                            refine lf_val (v := .bool true) (wantAll rfl) (rv_pickT rfl (fr_eval rfl rfl) (fr_eval rfl rfl)) ?_
                            refine lf_val (v := .bool true) (wantAll rfl) (rv_assign rfl (fr_eval rfl rfl)) ?_
                            refine lf_nil ?_
                            refine then_n ?_
                            refine wp_gen (fun F' => F' 0 = .int .i64 z ∧ F' 1 = va ∧ F' 2 = vb ∧ F' 6 = .bool true ∧ F' 7 = .pointer none ∧ F' 8 = .pointer none ∧ F' 10 = .int .i64 1 ∧ F' 11 = y2 ∧ F' 12 = .pointer (some ⟨g1, 0, none⟩) ∧ F' 13 = .int .i64 ((idT [] a : Nat) : Int) ∧ F' 15 = .int .i64 ((idT (bankT [] a) b : Nat) : Int) ∧ F' 17 = .int .i64 0 ∧ F' 18 = .int .i64 1 ∧ F' 19 = .pointer (some ⟨g4, 0, none⟩) ∧ F' 40 = .bool false ∧ F' 69 = .bool false ∧ F' 95 = .bool false ∧ F' 133 = .bool false ∧ F' 162 = .bool false ∧ F' 172 = .bool true) ⟨e0, e1, e2, rfl, e7, e8, e10, e11, e12, e13, e15, e17, e18, e19, e40, e69, e95, e133, e162, (e172.trans (congrArg Value.bool (decide_eq_true hc25)))⟩ ?_
                            clear e0 e1 e2 e6 e7 e8 e10 e11 e12 e13 e15 e17 e18 e19 e40 e69 e95 e133 e162 e172
                            clear F
                            rintro F ⟨e0, e1, e2, e6, e7, e8, e10, e11, e12, e13, e15, e17, e18, e19, e40, e69, e95, e133, e162, e172⟩
                            refine wp_ret ?_
                            refine then_ret ?_
                            exact bodyPost_ret (v := (.bool true)) (res1 rfl (ro_tmp rfl e6)) rfl (⟨rfl, hH.done⟩)
                          · refine wp_cond_false (fr_eval rfl (e172.trans (congrArg Value.bool (decide_eq_false hc25)))) ?_
                            refine wp_skip ?_
                            refine then_n ?_
                            refine wp_seq ?_
                            refine wp_regionF ?_
                            refine lf_val (v := .agg #[.slice none 0 0, .map none]) (wantAll rfl) (rv_buildS (ps := []) (places := #[(0, 1), (1, 1)]) (z := .agg #[.slice none 0 0, .map none]) (zc := [.slice none 0 0, .map none]) (cs := [.slice none 0 0, .map none]) rfl evpn (by kernel_rfl) rfl Try.underlying30 (fun _ => by kernel_rfl) fill0) ?_
                            refine lf_ex (wantAll rfl) (hx_box hH 30 (cs := [.slice none 0 0, .map none]) rfl (fr_eval rfl rfl) (by rfl)) ?_
                            clear hH
                            rintro _ w33 ⟨g5, rfl, hH, hx⟩
                            replace hH : Heap _ _ _ [_, _, _, _, _, _] := hH
                            clear hx
                            refine lf_val (v := .pointer (some ⟨g5, 0, none⟩)) (wantAll rfl) (rv_assign rfl (fr_eval rfl rfl)) ?_
                            refine lf_nil ?_
                            refine then_n ?_
                            refine wp_seq ?_
                            refine wp_gen (fun F' => F' 0 = .int .i64 z ∧ F' 1 = va ∧ F' 2 = vb ∧ F' 6 = .bool false ∧ F' 7 = .pointer none ∧ F' 8 = .pointer none ∧ F' 10 = .int .i64 1 ∧ F' 11 = y2 ∧ F' 12 = .pointer (some ⟨g1, 0, none⟩) ∧ F' 13 = .int .i64 ((idT [] a : Nat) : Int) ∧ F' 15 = .int .i64 ((idT (bankT [] a) b : Nat) : Int) ∧ F' 17 = .int .i64 0 ∧ F' 18 = .int .i64 1 ∧ F' 19 = .pointer (some ⟨g4, 0, none⟩) ∧ F' 20 = .pointer (some ⟨g5, 0, none⟩) ∧ F' 40 = .bool false ∧ F' 69 = .bool false ∧ F' 95 = .bool false ∧ F' 133 = .bool false ∧ F' 162 = .bool false ∧ F' 172 = .bool false) ⟨e0, e1, e2, e6, e7, e8, e10, e11, e12, e13, e15, e17, e18, e19, rfl, e40, e69, e95, e133, e162, (e172.trans (congrArg Value.bool (decide_eq_false hc25)))⟩ ?_
                            clear e0 e1 e2 e6 e7 e8 e10 e11 e12 e13 e15 e17 e18 e19 e40 e69 e95 e133 e162 e172
                            clear F
                            rintro F ⟨e0, e1, e2, e6, e7, e8, e10, e11, e12, e13, e15, e17, e18, e19, e20, e40, e69, e95, e133, e162, e172⟩
                            replace hH : Heap _ _ _ [_, _, _, _, _, _, _] := hH.addNil 40 3
                            replace hH : Heap (newN w) w w33 [oRow cNd 40 3 y2 (joinT z a b), oBlk g1 ([y4, .map (some q2)]) 30, oRow cNd 40 3 y4 (bankT (bankT [] a) b), oMp (some q2) (bankT (bankT [] a) b), oBlk g4 ([.int .i64 ((List.getD (joinT z a b) (((joinT z a b).length) - 1) zN).k), .int .i64 ((List.getD (joinT z a b) (((joinT z a b).length) - 1) zN).a), .int .i64 ((List.getD (joinT z a b) (((joinT z a b).length) - 1) zN).b)]) 40, oBlk g5 ([(.slice none 0 0), .map none]) 30, oRow cNd 40 3 (.slice none 0 0) [], oMp none []] := hH.addMp0
                            refine wp_regionF ?_
                            refine lf_val (v := .pointer (some ⟨g5, 0, none⟩)) (wantAll rfl) (rv_move rfl (fr_eval rfl e20)) ?_
                            refine lf_val (v := va) (wantAll rfl) (rv_move rfl (fr_eval rfl e1)) ?_
                            refine lf_call (wantAll rfl) (rv_call (args := [.pointer (some ⟨g5, 0, none⟩), va]) rfl (evc (fr_eval rfl rfl) (evc (fr_eval rfl rfl) evn)) Try.call13) (into_b [] (by omega) hb0' a hta _ _ (Stab.part (L := [_, _, _, _, _]) (M := [_, _, _]) ha hH) (Heap.part (L := [_, _, _, _, _]) (M := [_, _, _]) hH)) ?_
                            rintro _ w34 ⟨y10, q7, rfl, hP⟩
                            refine ⟨_, rfl, ?_⟩
                            have hx := hH.callChg (L := [_, _, _, _, _]) (M := [_, _, _]) (fun _ h => h) hP
                            replace hH : Heap _ _ _ [_, _, _, _, _, _, _, _] := hH.call (L := [_, _, _, _, _]) (M := [_, _, _]) (fun _ h => h) hP (Stays.blk (hP.blk (i := 0) rfl) (Stays.own (hP.own (i := 1) rfl) (Stays.mp (hP.mp (i := 2) rfl) Stays.nil)))
                            clear hP
                            clear hx
                            refine lf_nil ?_
                            refine then_n ?_
                            refine wp_seq ?_
                            refine wp_gen (fun F' => F' 0 = .int .i64 z ∧ F' 1 = va ∧ F' 2 = vb ∧ F' 6 = .bool false ∧ F' 7 = .pointer none ∧ F' 8 = .pointer none ∧ F' 10 = .int .i64 1 ∧ F' 11 = y2 ∧ F' 12 = .pointer (some ⟨g1, 0, none⟩) ∧ F' 13 = .int .i64 ((idT [] a : Nat) : Int) ∧ F' 15 = .int .i64 ((idT (bankT [] a) b : Nat) : Int) ∧ F' 17 = .int .i64 0 ∧ F' 18 = .int .i64 1 ∧ F' 19 = .pointer (some ⟨g4, 0, none⟩) ∧ F' 20 = .pointer (some ⟨g5, 0, none⟩) ∧ F' 40 = .bool false ∧ F' 69 = .bool false ∧ F' 95 = .bool false ∧ F' 133 = .bool false ∧ F' 162 = .bool false ∧ F' 172 = .bool false) ⟨e0, e1, e2, e6, e7, e8, e10, e11, e12, e13, e15, e17, e18, e19, e20, e40, e69, e95, e133, e162, e172⟩ ?_
                            clear e0 e1 e2 e6 e7 e8 e10 e11 e12 e13 e15 e17 e18 e19 e20 e40 e69 e95 e133 e162 e172
                            clear F
                            rintro F ⟨e0, e1, e2, e6, e7, e8, e10, e11, e12, e13, e15, e17, e18, e19, e20, e40, e69, e95, e133, e162, e172⟩
                            refine wp_regionF ?_
                            refine lf_val (v := .pointer (some ⟨g5, 0, none⟩)) (wantAll rfl) (rv_move rfl (fr_eval rfl e20)) ?_
                            refine lf_val (v := vb) (wantAll rfl) (rv_move rfl (fr_eval rfl e2)) ?_
                            refine lf_call (wantAll rfl) (rv_call (args := [.pointer (some ⟨g5, 0, none⟩), vb]) rfl (evc (fr_eval rfl rfl) (evc (fr_eval rfl rfl) evn)) Try.call13) (into_b (bankT [] a) (by omega) hba b htb _ _ (Stab.part (L := [_, _, _, _, _]) (M := [_, _, _]) hb hH) (Heap.part (L := [_, _, _, _, _]) (M := [_, _, _]) hH)) ?_
                            rintro _ w35 ⟨y11, q8, rfl, hP⟩
                            refine ⟨_, rfl, ?_⟩
                            have hx := hH.callChg (L := [_, _, _, _, _]) (M := [_, _, _]) (fun _ h => h) hP
                            replace hH : Heap _ _ _ [_, _, _, _, _, _, _, _] := hH.call (L := [_, _, _, _, _]) (M := [_, _, _]) (fun _ h => h) hP (Stays.blk (hP.blk (i := 0) rfl) (Stays.own (hP.own (i := 1) rfl) (Stays.mp (hP.mp (i := 2) rfl) Stays.nil)))
                            clear hP
                            clear hx
                            refine lf_nil ?_
                            refine then_n ?_
                            refine wp_seq ?_
                            refine wp_gen (fun F' => F' 0 = .int .i64 z ∧ F' 1 = va ∧ F' 2 = vb ∧ F' 6 = .bool false ∧ F' 7 = .pointer none ∧ F' 8 = .pointer none ∧ F' 10 = .int .i64 1 ∧ F' 11 = y2 ∧ F' 12 = .pointer (some ⟨g1, 0, none⟩) ∧ F' 13 = .int .i64 ((idT [] a : Nat) : Int) ∧ F' 15 = .int .i64 ((idT (bankT [] a) b : Nat) : Int) ∧ F' 17 = .int .i64 0 ∧ F' 18 = .int .i64 1 ∧ F' 19 = .pointer (some ⟨g4, 0, none⟩) ∧ F' 20 = .pointer (some ⟨g5, 0, none⟩) ∧ F' 40 = .bool false ∧ F' 69 = .bool false ∧ F' 95 = .bool false ∧ F' 133 = .bool false ∧ F' 162 = .bool false ∧ F' 172 = .bool false) ⟨e0, e1, e2, e6, e7, e8, e10, e11, e12, e13, e15, e17, e18, e19, e20, e40, e69, e95, e133, e162, e172⟩ ?_
                            clear e0 e1 e2 e6 e7 e8 e10 e11 e12 e13 e15 e17 e18 e19 e20 e40 e69 e95 e133 e162 e172
                            clear F
                            rintro F ⟨e0, e1, e2, e6, e7, e8, e10, e11, e12, e13, e15, e17, e18, e19, e20, e40, e69, e95, e133, e162, e172⟩
                            refine wp_regionF ?_
                            refine lf_val (v := .pointer (some ⟨g5, 0, none⟩)) (wantAll rfl) (rv_move rfl (fr_eval rfl e20)) ?_
                            refine lf_val (v := y2) (wantAll rfl) (rv_move rfl (fr_eval rfl e11)) ?_
                            refine lf_call (wantAll rfl) (rv_call (args := [.pointer (some ⟨g5, 0, none⟩), y2]) rfl (evc (fr_eval rfl rfl) (evc (fr_eval rfl rfl) evn)) Try.call13) (into_no g5 (joinT z a b) hf1 _ _ (Own.rd (hH.own (i := 0) rfl) (row_one cNd_one))) ?_
                            rintro _ w36 ⟨rfl, hx⟩
                            refine ⟨_, rfl, ?_⟩
                            replace hH := hH.ext hx
                            clear hx
                            refine lf_val (v := .tuple #[.int .i64 0, .int .i64 1]) (wantAll rfl) (rv_move rfl (fr_eval rfl rfl)) ?_
                            refine lf_val (v := .int .i64 0) (wantAll rfl) (rv_extract rfl (fr_eval rfl rfl) rfl) ?_
                            refine lf_val (v := .int .i64 1) (wantAll rfl) (rv_extract rfl (fr_eval rfl rfl) rfl) ?_
                            refine lf_val (v := .int .i64 0) (wantAll rfl) (rv_assign rfl (fr_eval rfl rfl)) ?_
                            refine lf_val (v := .int .i64 1) (wantAll rfl) (rv_assign rfl (fr_eval rfl rfl)) ?_
                            refine lf_nil ?_
                            refine then_n ?_
                            refine wp_seq ?_
                            refine wp_gen (fun F' => F' 0 = .int .i64 z ∧ F' 1 = va ∧ F' 2 = vb ∧ F' 6 = .bool false ∧ F' 7 = .pointer none ∧ F' 8 = .pointer none ∧ F' 10 = .int .i64 1 ∧ F' 11 = y2 ∧ F' 12 = .pointer (some ⟨g1, 0, none⟩) ∧ F' 13 = .int .i64 ((idT [] a : Nat) : Int) ∧ F' 15 = .int .i64 ((idT (bankT [] a) b : Nat) : Int) ∧ F' 17 = .int .i64 0 ∧ F' 18 = .int .i64 1 ∧ F' 19 = .pointer (some ⟨g4, 0, none⟩) ∧ F' 20 = .pointer (some ⟨g5, 0, none⟩) ∧ F' 21 = .int .i64 0 ∧ F' 22 = .int .i64 1 ∧ F' 40 = .bool false ∧ F' 69 = .bool false ∧ F' 95 = .bool false ∧ F' 133 = .bool false ∧ F' 162 = .bool false ∧ F' 172 = .bool false) ⟨e0, e1, e2, e6, e7, e8, e10, e11, e12, e13, e15, e17, e18, e19, e20, rfl, rfl, e40, e69, e95, e133, e162, e172⟩ ?_
                            clear e0 e1 e2 e6 e7 e8 e10 e11 e12 e13 e15 e17 e18 e19 e20 e40 e69 e95 e133 e162 e172
                            clear F
                            rintro F ⟨e0, e1, e2, e6, e7, e8, e10, e11, e12, e13, e15, e17, e18, e19, e20, e21, e22, e40, e69, e95, e133, e162, e172⟩
                            have hn5 : (nameT 5).length = 1 := rfl
                            refine wp_regionF ?_
                            refine lf_val (v := .int .i64 1) (wantAll rfl) (rv_move rfl (fr_eval rfl e18)) ?_
                            refine lf_val (v := .bool false) (wantAll rfl) (rv_eql rfl (fr_eval rfl rfl) rfl (by decide)) ?_
                            refine lf_val (v := .bool false) (wantAll rfl) (rv_move rfl (fr_eval rfl rfl)) ?_
                            refine lf_not (wantNot (d := 197) rfl (by kernel_rfl) rfl rfl) ?_
                            refine lf_not (wantNot (d := 197) rfl (by kernel_rfl) rfl rfl) ?_
                            refine lf_val (v := .bool false) (wantAll rfl) (rv_pickF rfl (fr_eval rfl rfl) rfl) ?_
                            refine lf_val (v := .bool false) (wantAll rfl) (rv_move rfl (fr_eval rfl rfl)) ?_
                            refine lf_not (wantNot (d := 201) rfl (by kernel_rfl) rfl rfl) ?_
                            refine lf_not (wantNot (d := 201) rfl (by kernel_rfl) rfl rfl) ?_
                            refine lf_not (wantNot (d := 201) rfl (by kernel_rfl) rfl rfl) ?_
                            refine lf_val (v := .bool false) (wantAll rfl) (rv_pickF rfl (fr_eval rfl rfl) rfl) ?_
                            refine lf_val (v := .bool false) (wantAll rfl) (rv_move rfl (fr_eval rfl rfl)) ?_
                            refine lf_not (wantNot (d := 206) rfl (by kernel_rfl) rfl rfl) ?_
                            refine lf_not (wantNot (d := 206) rfl (by kernel_rfl) rfl rfl) ?_
                            refine lf_val (v := .bool false) (wantAll rfl) (rv_pickF rfl (fr_eval rfl rfl) rfl) ?_
                            refine lf_val (v := .bool false) (wantAll rfl) (rv_move rfl (fr_eval rfl rfl)) ?_
                            refine lf_not (wantNot (d := 210) rfl (by kernel_rfl) rfl rfl) ?_
                            refine lf_not (wantNot (d := 210) rfl (by kernel_rfl) rfl rfl) ?_
                            refine lf_val (v := .bool false) (wantAll rfl) (rv_pickF rfl (fr_eval rfl rfl) rfl) ?_
                            refine lf_val (v := .bool false) (wantAll rfl) (rv_move rfl (fr_eval rfl rfl)) ?_
                            refine lf_not (wantNot (d := 214) rfl (by kernel_rfl) rfl rfl) ?_
                            refine lf_not (wantNot (d := 214) rfl (by kernel_rfl) rfl rfl) ?_
                            refine lf_not (wantNot (d := 214) rfl (by kernel_rfl) rfl rfl) ?_
                            refine lf_val (v := .bool false) (wantAll rfl) (rv_pickF rfl (fr_eval rfl rfl) rfl) ?_
                            refine lf_val (v := .bool false) (wantAll rfl) (rv_move rfl (fr_eval rfl rfl)) ?_
                            refine lf_not (wantNot (d := 219) rfl (by kernel_rfl) rfl rfl) ?_
                            refine lf_val (v := .bool false) (wantAll rfl) (rv_pickF rfl (fr_eval rfl rfl) rfl) ?_
                            refine lf_val (v := .bool false) (wantAll rfl) (rv_assign rfl (fr_eval rfl rfl)) ?_
                            refine lf_nil ?_
                            refine then_n ?_
                            refine wp_gen (fun F' => F' 0 = .int .i64 z ∧ F' 1 = va ∧ F' 2 = vb ∧ F' 6 = .bool false ∧ F' 7 = .pointer none ∧ F' 8 = .pointer none ∧ F' 10 = .int .i64 1 ∧ F' 11 = y2 ∧ F' 12 = .pointer (some ⟨g1, 0, none⟩) ∧ F' 13 = .int .i64 ((idT [] a : Nat) : Int) ∧ F' 15 = .int .i64 ((idT (bankT [] a) b : Nat) : Int) ∧ F' 17 = .int .i64 0 ∧ F' 18 = .int .i64 1 ∧ F' 19 = .pointer (some ⟨g4, 0, none⟩) ∧ F' 20 = .pointer (some ⟨g5, 0, none⟩) ∧ F' 21 = .int .i64 0 ∧ F' 22 = .int .i64 1 ∧ F' 40 = .bool false ∧ F' 69 = .bool false ∧ F' 95 = .bool false ∧ F' 133 = .bool false ∧ F' 162 = .bool false ∧ F' 172 = .bool false) ⟨e0, e1, e2, rfl, e7, e8, e10, e11, e12, e13, e15, e17, e18, e19, e20, e21, e22, e40, e69, e95, e133, e162, e172⟩ ?_
                            clear e0 e1 e2 e6 e7 e8 e10 e11 e12 e13 e15 e17 e18 e19 e20 e21 e22 e40 e69 e95 e133 e162 e172
                            clear F
                            rintro F ⟨e0, e1, e2, e6, e7, e8, e10, e11, e12, e13, e15, e17, e18, e19, e20, e21, e22, e40, e69, e95, e133, e162, e172⟩
                            refine wp_ret ?_
                            exact bodyPost_ret (v := (.bool false)) (res1 rfl (ro_tmp rfl e6)) rfl (by exfalso; first | omega | exact hf1 (okT_join (by omega) hta htb (by omega) (by omega)))
              · refine wp_cond_true (fr_eval rfl (e133.trans (congrArg Value.bool (decide_eq_true hc19)))) ?_
                refine wp_seq ?_
                refine wp_regionF ?_
                refine lf_val (v := .bool false) (wantAll rfl) (rv_assign rfl rfl) ?_
                refine lf_nil ?_
                refine then_n ?_
                refine wp_gen (fun F' => F' 0 = .int .i64 z ∧ F' 1 = va ∧ F' 2 = vb ∧ F' 6 = .bool false ∧ F' 7 = .pointer none ∧ F' 8 = .pointer none ∧ F' 10 = .int .i64 1 ∧ F' 11 = y2 ∧ F' 12 = .pointer (some ⟨g1, 0, none⟩) ∧ F' 13 = .int .i64 ((idT [] a : Nat) : Int) ∧ F' 15 = .int .i64 ((idT (bankT [] a) b : Nat) : Int) ∧ F' 17 = .int .i64 0 ∧ F' 18 = .int .i64 1 ∧ F' 40 = .bool false ∧ F' 69 = .bool false ∧ F' 95 = .bool false ∧ F' 133 = .bool true) ⟨e0, e1, e2, rfl, e7, e8, e10, e11, e12, e13, e15, e17, e18, e40, e69, e95, (e133.trans (congrArg Value.bool (decide_eq_true hc19)))⟩ ?_
                clear e0 e1 e2 e6 e7 e8 e10 e11 e12 e13 e15 e17 e18 e40 e69 e95 e133
                clear F
                rintro F ⟨e0, e1, e2, e6, e7, e8, e10, e11, e12, e13, e15, e17, e18, e40, e69, e95, e133⟩
                refine wp_ret ?_
                refine then_ret ?_
                exact bodyPost_ret (v := (.bool false)) (res1 rfl (ro_tmp rfl e6)) rfl (by exfalso; first | omega | exact hf1 (okT_join (by omega) hta htb (by omega) (by omega)))

end Go.Proofs.Ytdlliajghfflnaa
