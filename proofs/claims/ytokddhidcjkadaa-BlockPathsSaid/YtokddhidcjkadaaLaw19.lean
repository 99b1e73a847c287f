/- Chapter 19's laws: the walks. -/
import Derived.Test.YtokddhidcjkadaaBlks
namespace Go.Proofs.Ytokddhidcjkadaa
open Go.RowKit Go.Bz Go.Bz.Sha Go.Bz.Wire Go.Bz.Merkle Go.Bz.Txs
attribute [local irreducible] wpList Code.wp wpAnyX
theorem take_all {α : Type} {p : α → Prop} {l : List α} {i : Nat} {d : α} (h : ∀ x ∈ l.take i, p x) (hi : i < l.length) (hp : p (l.getD i d)) : ∀ x ∈ l.take (i + 1), p x := fun x hx => by
  rw [List.take_succ_eq_append_getElem hi] at hx
  rcases List.mem_append.1 hx with hx | hx
  · exact h x hx
  · rw [List.mem_singleton.1 hx]; simpa [List.getD_eq_getElem?_getD, hi] using hp
theorem take_full {α : Type} {p : α → Prop} {l : List α} {i : Nat} (h : ∀ x ∈ l.take i, p x) (hi : l.length ≤ i) : ∀ x ∈ l, p x := by rwa [List.take_of_length_le hi] at h
theorem take_none {α : Type} {p : α → Prop} {l : List α} : ∀ x ∈ l.take 0, p x := fun x hx => by simp at hx

theorem zLk_g0 {a0 : Value} {a1 : Value} {a2 : Value} {a3 : Value} {a4 : Value} {a5 : Value} {a6 : List UInt8} (_ : a6.length = 32) {a7 : Value} {a8 : Value} : (([a0, a1, a2, a3, a4, a5] : List Value) ++ (cBs a6 ++ ([a7, a8] : List Value)))[0]? = some a0 := (show (([a0, a1, a2, a3, a4, a5] : List Value) ++ (cBs a6 ++ ([a7, a8] : List Value)))[0]? = some (a0) from (get_l (C := cBs a6 ++ ([a7, a8] : List Value)) (show ([a0, a1, a2, a3, a4, a5] : List Value)[0]? = some (a0) from rfl)))
theorem zLk_g1 {a0 : Value} {a1 : Value} {a2 : Value} {a3 : Value} {a4 : Value} {a5 : Value} {a6 : List UInt8} (_ : a6.length = 32) {a7 : Value} {a8 : Value} : (([a0, a1, a2, a3, a4, a5] : List Value) ++ (cBs a6 ++ ([a7, a8] : List Value)))[1]? = some a1 := (show (([a0, a1, a2, a3, a4, a5] : List Value) ++ (cBs a6 ++ ([a7, a8] : List Value)))[1]? = some (a1) from (get_l (C := cBs a6 ++ ([a7, a8] : List Value)) (show ([a0, a1, a2, a3, a4, a5] : List Value)[1]? = some (a1) from rfl)))
theorem zLk_g2 {a0 : Value} {a1 : Value} {a2 : Value} {a3 : Value} {a4 : Value} {a5 : Value} {a6 : List UInt8} (ha6 : a6.length = 32) {a7 : Value} {a8 : Value} : (([a0, a1, a2, a3, a4, a5] : List Value) ++ (cBs a6 ++ ([a7, a8] : List Value)))[39]? = some a8 := (get_of (cs := ([a0, a1, a2, a3, a4, a5] : List Value) ++ (cBs a6 ++ ([a7, a8] : List Value))) (A := (([a0, a1, a2, a3, a4, a5] : List Value) ++ cBs a6 : List Value)) (D := ([a7, a8] : List Value)) (C := ([] : List Value)) (o := 38) (j := 1) (by simp) (len_app (m := 6) (n := 32) (k := 38) rfl (cBs_len ha6) rfl) rfl (show ([a7, a8] : List Value)[1]? = some (a8) from rfl))
theorem zLk_g3 {a0 : Value} {a1 : Value} {a2 : Value} {a3 : Value} {a4 : Value} {a5 : Value} {a6 : List UInt8} (ha6 : a6.length = 32) {a7 : Value} {a8 : Value} : (([a0, a1, a2, a3, a4, a5] : List Value) ++ (cBs a6 ++ ([a7, a8] : List Value)))[38]? = some a7 := (get_of (cs := ([a0, a1, a2, a3, a4, a5] : List Value) ++ (cBs a6 ++ ([a7, a8] : List Value))) (A := (([a0, a1, a2, a3, a4, a5] : List Value) ++ cBs a6 : List Value)) (D := ([a7, a8] : List Value)) (C := ([] : List Value)) (o := 38) (j := 0) (by simp) (len_app (m := 6) (n := 32) (k := 38) rfl (cBs_len ha6) rfl) rfl (show ([a7, a8] : List Value)[0]? = some (a7) from rfl))
theorem zLk_g4 {a0 : List UInt8} (ha0 : a0.length = 32) {a1 : Value} {a2 : Value} {a3 : Value} : (cBs a0 ++ ([a1, a2, a3] : List Value))[34]? = some a3 := (show (cBs a0 ++ ([a1, a2, a3]))[34]? = some (a3) from get_r (n := 32) (j := 2) rfl (cBs_len ha0) rfl)
theorem zLk_g5 {a0 : Value} {a1 : Value} : ([a0, a1])[1]? = some a1 := rfl
theorem zLk_g6 {a0 : Value} {a1 : List UInt8} (_ : a1.length = 32) {a2 : Value} {a3 : Value} : (([a0] : List Value) ++ (cBs a1 ++ ([a2, a3] : List Value)))[0]? = some a0 := (show (([a0] : List Value) ++ (cBs a1 ++ ([a2, a3] : List Value)))[0]? = some (a0) from (get_l (C := cBs a1 ++ ([a2, a3] : List Value)) (show ([a0] : List Value)[0]? = some (a0) from rfl)))
theorem zLk_l7 {a0 : List UInt8} (ha0 : a0.length = 32) {a1 : Value} {a2 : List UInt8} (ha2 : a2.length = 32) {a3 : Value} {a4 : Value} : List.length (cBs a0 ++ (([a1] : List Value) ++ (cBs a2 ++ ([a3, a4] : List Value)))) = 67 := (len_app (m := 32) (n := 35) (k := 67) (cBs_len ha0) (len_app (m := 1) (n := 34) (k := 35) rfl (len_app (m := 32) (n := 2) (k := 34) (cBs_len ha2) rfl rfl) rfl) rfl)
theorem zLk_o8 {a0 : List UInt8} {a1 : Value} {a2 : List UInt8} {a3 : Value} {a4 : Value} (qa1 : a1.oneCell' = true) (qa3 : a3.oneCell' = true) (qa4 : a4.oneCell' = true) : ∀ u ∈ (cBs a0 ++ (([a1] : List Value) ++ (cBs a2 ++ ([a3, a4] : List Value)))), u.oneCell' = true := (ones_app (cBs_one _) (ones_app (ones_cons qa1 ones_nil) (ones_app (cBs_one _) (ones_cons qa3 (ones_cons qa4 ones_nil)))))
theorem zLk_g9 {a0 : List UInt8} (ha0 : a0.length = 32) {a1 : Value} {a2 : List UInt8} (_ : a2.length = 32) {a3 : Value} {a4 : Value} : (cBs a0 ++ (([a1] : List Value) ++ (cBs a2 ++ ([a3, a4] : List Value))))[32]? = some a1 := (show (cBs a0 ++ (([a1] : List Value) ++ (cBs a2 ++ ([a3, a4] : List Value))))[32]? = some (a1) from get_r (n := 32) (j := 0) rfl (cBs_len ha0) (get_l (C := cBs a2 ++ ([a3, a4] : List Value)) (show ([a1] : List Value)[0]? = some (a1) from rfl)))
theorem zLk_y10 {a0 : List UInt8} (ha0 : a0.length = 32) {a1 : Value} {a2 : List UInt8} (ha2 : a2.length = 32) {a3 : Value} {a4 : Value} {n0 : Value} : lay (cBs a0 ++ (([a1] : List Value) ++ (cBs a2 ++ ([a3, a4] : List Value)))) 66 ([n0]) = cBs a0 ++ (([a1] : List Value) ++ (cBs a2 ++ ([a3, n0] : List Value))) := (lay_of (cur := cBs a0 ++ (([a1] : List Value) ++ (cBs a2 ++ ([a3, a4] : List Value)))) (cs := [n0]) (cur' := cBs a0 ++ (([a1] : List Value) ++ (cBs a2 ++ ([a3, n0] : List Value)))) (A := (cBs a0 ++ (([a1] : List Value) ++ (cBs a2 ++ ([a3] : List Value))) : List Value)) (D := ([a4] : List Value)) (C := ([] : List Value)) (by simp) (by simp) (len_app (m := 32) (n := 34) (k := 66) (cBs_len ha0) (len_app (m := 1) (n := 33) (k := 34) rfl (len_app (m := 32) (n := 1) (k := 33) (cBs_len ha2) rfl rfl) rfl) rfl) ((show List.length [a4] = 1 from rfl).trans (show List.length [n0] = 1 from rfl).symm))
theorem zLk_g11 {a0 : List UInt8} (ha0 : a0.length = 32) {a1 : Value} {a2 : List UInt8} (ha2 : a2.length = 32) {a3 : Value} {a4 : Value} : (cBs a0 ++ (([a1] : List Value) ++ (cBs a2 ++ ([a3, a4] : List Value))))[66]? = some a4 := (get_of (cs := cBs a0 ++ (([a1] : List Value) ++ (cBs a2 ++ ([a3, a4] : List Value)))) (A := (cBs a0 ++ (([a1] : List Value) ++ cBs a2) : List Value)) (D := ([a3, a4] : List Value)) (C := ([] : List Value)) (o := 65) (j := 1) (by simp) (len_app (m := 32) (n := 33) (k := 65) (cBs_len ha0) (len_app (m := 1) (n := 32) (k := 33) rfl (cBs_len ha2) rfl) rfl) rfl (show ([a3, a4] : List Value)[1]? = some (a4) from rfl))
theorem zLk_g12 {a0 : List UInt8} (ha0 : a0.length = 32) {a1 : Value} {a2 : List UInt8} (ha2 : a2.length = 32) {a3 : Value} {a4 : Value} : (cBs a0 ++ (([a1] : List Value) ++ (cBs a2 ++ ([a3, a4] : List Value))))[65]? = some a3 := (get_of (cs := cBs a0 ++ (([a1] : List Value) ++ (cBs a2 ++ ([a3, a4] : List Value)))) (A := (cBs a0 ++ (([a1] : List Value) ++ cBs a2) : List Value)) (D := ([a3, a4] : List Value)) (C := ([] : List Value)) (o := 65) (j := 0) (by simp) (len_app (m := 32) (n := 33) (k := 65) (cBs_len ha0) (len_app (m := 1) (n := 32) (k := 33) rfl (cBs_len ha2) rfl) rfl) rfl (show ([a3, a4] : List Value)[0]? = some (a3) from rfl))
theorem zLk_p13 {a0 : List UInt8} (ha0 : a0.length = 32) {a1 : Value} {a2 : List UInt8} (ha2 : a2.length = 32) {a3 : Value} {a4 : Value} : List.take 32 (List.drop 33 (cBs a0 ++ (([a1] : List Value) ++ (cBs a2 ++ ([a3, a4] : List Value))))) = cBs a2 := (part_of (cs := cBs a0 ++ (([a1] : List Value) ++ (cBs a2 ++ ([a3, a4] : List Value)))) (A := (cBs a0 ++ ([a1] : List Value) : List Value)) (D := (cBs a2 : List Value)) (C := ([a3, a4] : List Value)) (by simp) (len_app (m := 32) (n := 1) (k := 33) (cBs_len ha0) rfl rfl) (cBs_len ha2))
theorem zLk_l14 {a0 : List UInt8} (ha0 : a0.length = 32) {a1 : Value} {a2 : List UInt8} (ha2 : a2.length = 32) {a3 : Value} : List.length (cBs a0 ++ (([a1] : List Value) ++ (cBs a2 ++ ([a3] : List Value)))) = 66 := (len_app (m := 32) (n := 34) (k := 66) (cBs_len ha0) (len_app (m := 1) (n := 33) (k := 34) rfl (len_app (m := 32) (n := 1) (k := 33) (cBs_len ha2) rfl rfl) rfl) rfl)
theorem zLk_g15 {a0 : List UInt8} (ha0 : a0.length = 32) {a1 : Value} {a2 : List UInt8} (_ : a2.length = 32) {a3 : Value} : (cBs a0 ++ (([a1] : List Value) ++ (cBs a2 ++ ([a3] : List Value))))[32]? = some a1 := (show (cBs a0 ++ (([a1] : List Value) ++ (cBs a2 ++ ([a3] : List Value))))[32]? = some (a1) from get_r (n := 32) (j := 0) rfl (cBs_len ha0) (get_l (C := cBs a2 ++ ([a3] : List Value)) (show ([a1] : List Value)[0]? = some (a1) from rfl)))
theorem zLk_p16 {a0 : List UInt8} (ha0 : a0.length = 32) {a1 : Value} {a2 : List UInt8} (ha2 : a2.length = 32) {a3 : Value} {a4 : Value} : List.take 66 (List.drop 0 (cBs a0 ++ (([a1] : List Value) ++ (cBs a2 ++ ([a3, a4] : List Value))))) = cBs a0 ++ (([a1] : List Value) ++ (cBs a2 ++ ([a3] : List Value))) := (part_of (cs := cBs a0 ++ (([a1] : List Value) ++ (cBs a2 ++ ([a3, a4] : List Value)))) (A := ([] : List Value)) (D := (cBs a0 ++ (([a1] : List Value) ++ (cBs a2 ++ ([a3] : List Value))) : List Value)) (C := ([a4] : List Value)) (by simp) (show List.length ([] : List Value) = 0 from rfl) (len_app (m := 32) (n := 34) (k := 66) (cBs_len ha0) (len_app (m := 1) (n := 33) (k := 34) rfl (len_app (m := 32) (n := 1) (k := 33) (cBs_len ha2) rfl rfl) rfl) rfl))
theorem zLk_y17 {a0 : List UInt8} (ha0 : a0.length = 32) {a1 : Value} {a2 : List UInt8} (_ : a2.length = 32) {a3 : Value} {n0 : List UInt8} (hn0 : n0.length = 32) : lay (cBs a0 ++ (([a1] : List Value) ++ (cBs a2 ++ ([a3] : List Value)))) 0 (cBs n0) = cBs n0 ++ (([a1] : List Value) ++ (cBs a2 ++ ([a3] : List Value))) := (show lay ([] ++ ((cBs a0) ++ (([a1] : List Value) ++ (cBs a2 ++ ([a3] : List Value))))) 0 (cBs n0) = [] ++ ((cBs n0) ++ (([a1] : List Value) ++ (cBs a2 ++ ([a3] : List Value)))) from lay_app (show List.length ([] : List Value) = 0 from rfl) ((cBs_len ha0).trans (cBs_len hn0).symm))
theorem zLk_y18 {a0 : List UInt8} (ha0 : a0.length = 32) {a1 : Value} {a2 : List UInt8} (_ : a2.length = 32) {a3 : Value} {n0 : Value} : lay (cBs a0 ++ (([a1] : List Value) ++ (cBs a2 ++ ([a3] : List Value)))) 32 ([n0]) = cBs a0 ++ (([n0] : List Value) ++ (cBs a2 ++ ([a3] : List Value))) := (show lay (cBs a0 ++ (([a1]) ++ (cBs a2 ++ ([a3] : List Value)))) 32 ([n0]) = cBs a0 ++ (([n0]) ++ (cBs a2 ++ ([a3] : List Value))) from lay_app (cBs_len ha0) ((show List.length [a1] = 1 from rfl).trans (show List.length [n0] = 1 from rfl).symm))
theorem zLk_y19 {a0 : List UInt8} (ha0 : a0.length = 32) {a1 : Value} {a2 : List UInt8} (ha2 : a2.length = 32) {a3 : Value} {n0 : List UInt8} (hn0 : n0.length = 32) : lay (cBs a0 ++ (([a1] : List Value) ++ (cBs a2 ++ ([a3] : List Value)))) 33 (cBs n0) = cBs a0 ++ (([a1] : List Value) ++ (cBs n0 ++ ([a3] : List Value))) := (lay_of (cur := cBs a0 ++ (([a1] : List Value) ++ (cBs a2 ++ ([a3] : List Value)))) (cs := cBs n0) (cur' := cBs a0 ++ (([a1] : List Value) ++ (cBs n0 ++ ([a3] : List Value)))) (A := (cBs a0 ++ ([a1] : List Value) : List Value)) (D := (cBs a2 : List Value)) (C := ([a3] : List Value)) (by simp) (by simp) (len_app (m := 32) (n := 1) (k := 33) (cBs_len ha0) rfl rfl) ((cBs_len ha2).trans (cBs_len hn0).symm))
theorem zLk_y20 {a0 : List UInt8} (ha0 : a0.length = 32) {a1 : Value} {a2 : List UInt8} (ha2 : a2.length = 32) {a3 : Value} {n0 : Value} : lay (cBs a0 ++ (([a1] : List Value) ++ (cBs a2 ++ ([a3] : List Value)))) 65 ([n0]) = cBs a0 ++ (([a1] : List Value) ++ (cBs a2 ++ ([n0] : List Value))) := (lay_of (cur := cBs a0 ++ (([a1] : List Value) ++ (cBs a2 ++ ([a3] : List Value)))) (cs := [n0]) (cur' := cBs a0 ++ (([a1] : List Value) ++ (cBs a2 ++ ([n0] : List Value)))) (A := (cBs a0 ++ (([a1] : List Value) ++ cBs a2) : List Value)) (D := ([a3] : List Value)) (C := ([] : List Value)) (by simp) (by simp) (len_app (m := 32) (n := 33) (k := 65) (cBs_len ha0) (len_app (m := 1) (n := 32) (k := 33) rfl (cBs_len ha2) rfl) rfl) ((show List.length [a3] = 1 from rfl).trans (show List.length [n0] = 1 from rfl).symm))
set_option maxRecDepth 100000 in
set_option maxHeartbeats 4000000 in
theorem small08_calls (t : TxG) (w : World) (ht : StTx (newN w) w t) :
    Calls Try.prog 63 #[.agg (([t.vi.1, t.vo.1, .int .i64 t.kd, .int .i64 t.tw, .int .i64 t.ch, .int .i64 t.am] : List Value) ++ (cBs t.root.1 ++ ([t.vd.1, t.vs.1] : List Value))).toArray] w fun e'' w' => e'' = .returned (.int .i64 (if smT t then 0 else 1)) ∧ Ext w w' := by
  refine calls_fr (args := [.agg (([t.vi.1, t.vo.1, .int .i64 t.kd, .int .i64 t.tw, .int .i64 t.ch, .int .i64 t.am] : List Value) ++ (cBs t.root.1 ++ ([t.vd.1, t.vs.1] : List Value))).toArray]) (n := 82) Try.func63 rfl rfl (show 1 ≤ 82 by decide) ?_
  have hH : Heap (newN w) w w [] := Heap.fresh
  refine wp_seq ?_
  refine wp_gen (fun F' => F' 0 = .agg (([t.vi.1, t.vo.1, .int .i64 t.kd, .int .i64 t.tw, .int .i64 t.ch, .int .i64 t.am] : List Value) ++ (cBs t.root.1 ++ ([t.vd.1, t.vs.1] : List Value))).toArray) rfl ?_
  rintro F e0
  refine wp_regionF ?_
  refine lf_ex (wantAll rfl) (hx_box hH 63 (cs := ([t.vi.1, t.vo.1, .int .i64 t.kd, .int .i64 t.tw, .int .i64 t.ch, .int .i64 t.am] : List Value) ++ (cBs t.root.1 ++ ([t.vd.1, t.vs.1] : List Value))) rfl (fr_eval rfl e0) (by rfl)) ?_
  clear hH
  rintro _ w1 ⟨g1, rfl, hH, hx⟩
  replace hH : Heap _ _ _ [_] := hH
  clear hx
  refine lf_val (v := .int .i64 0) (wantAll rfl) (rv_assign rfl rfl) ?_
  refine lf_nil ?_
  refine then_n ?_
  refine wp_seq ?_
  refine wp_seq ?_
  refine wp_gen (fun F' => F' 0 = .agg (([t.vi.1, t.vo.1, .int .i64 t.kd, .int .i64 t.tw, .int .i64 t.ch, .int .i64 t.am] : List Value) ++ (cBs t.root.1 ++ ([t.vd.1, t.vs.1] : List Value))).toArray ∧ F' 1 = .pointer (some ⟨g1, 0, none⟩) ∧ F' 2 = .int .i64 0) ⟨e0, rfl, rfl⟩ ?_
  clear e0
  clear F
  rintro F ⟨e0, e1, e2⟩
  refine wp_regionF ?_
  refine lf_val (v := .pointer (some ⟨g1, 0, none⟩)) (wantAll rfl) (rv_fieldAddr (n := 0) rfl (fr_eval rfl e1) Try.underlying63 rfl rfl (by kernel_rfl)) ?_
  refine lf_val (v := t.vi.1) (wantAll rfl) (rv_load1 rfl (hH.blk (i := 0) rfl) (zLk_g0 t.root.2) (fr_eval rfl rfl) Try.underlying56 rfl Try.sz56) ?_
  refine lf_val (v := .int .i64 ((t.ins.length : Nat) : Int)) (wantAll rfl) (rv_len rfl (fr_eval rfl rfl) ((ht.ins).rd _ hH.chg) Try.underlying56) ?_
  refine lf_val (v := .bool (decide (t.ins.length > 20))) (wantAll rfl) (rv_gtrP (p := t.ins.length > 20) rfl (fr_eval rfl rfl) rfl (by omega)) ?_
  refine lf_val (v := .bool (decide (t.ins.length > 20))) (wantAll rfl) (rv_move rfl (fr_eval rfl rfl)) ?_
  refine lf_joinP (fun F' => F' 0 = .agg (([t.vi.1, t.vo.1, .int .i64 t.kd, .int .i64 t.tw, .int .i64 t.ch, .int .i64 t.am] : List Value) ++ (cBs t.root.1 ++ ([t.vd.1, t.vs.1] : List Value))).toArray ∧ F' 1 = .pointer (some ⟨g1, 0, none⟩) ∧ F' 2 = .int .i64 0 ∧ F' 15 = .bool (decide ((t.ins.length > 20) ∨ (t.outs.length > 20)))) 5 (fun hk => ?_) ?_
  · by_cases hc1 : t.ins.length > 20
    · refine lf_not (wantNot (d := 10) rfl (by kernel_rfl) rfl (congrArg Value.bool (decide_eq_true hc1))) ?_
      refine lf_not (wantNot (d := 10) rfl (by kernel_rfl) rfl (congrArg Value.bool (decide_eq_true hc1))) ?_
      refine lf_not (wantNot (d := 10) rfl (by kernel_rfl) rfl (congrArg Value.bool (decide_eq_true hc1))) ?_
      refine lf_not (wantNot (d := 10) rfl (by kernel_rfl) rfl (congrArg Value.bool (decide_eq_true hc1))) ?_
      refine lf_val (v := .bool true) (wantAll rfl) (rv_pickT rfl (fr_eval rfl (congrArg Value.bool (decide_eq_true hc1))) rfl) ?_
      exact hk _ ⟨e0, e1, e2, (congrArg Value.bool (dec_orT hc1))⟩
    · refine lf_val (v := .pointer (some ⟨g1, 1, none⟩)) (wantF (d := 10) rfl (by kernel_rfl) rfl (congrArg Value.bool (decide_eq_false hc1))) (rv_fieldAddr (n := 0) rfl (fr_eval rfl e1) Try.underlying63 rfl rfl (by kernel_rfl)) ?_
      refine lf_val (v := t.vo.1) (wantF (d := 10) rfl (by kernel_rfl) rfl (congrArg Value.bool (decide_eq_false hc1))) (rv_load1 rfl (hH.blk (i := 0) rfl) (zLk_g1 t.root.2) (fr_eval rfl rfl) Try.underlying57 rfl Try.sz57) ?_
      refine lf_val (v := .int .i64 ((t.outs.length : Nat) : Int)) (wantF (d := 10) rfl (by kernel_rfl) rfl (congrArg Value.bool (decide_eq_false hc1))) (rv_len rfl (fr_eval rfl rfl) ((ht.outs).rd _ hH.chg) Try.underlying57) ?_
      refine lf_val (v := .bool (decide (t.outs.length > 20))) (wantF (d := 10) rfl (by kernel_rfl) rfl (congrArg Value.bool (decide_eq_false hc1))) (rv_gtrP (p := t.outs.length > 20) rfl (fr_eval rfl rfl) rfl (by omega)) ?_
      refine lf_val (v := .bool (decide (t.outs.length > 20))) (wantAll rfl) (rv_pickF rfl (fr_eval rfl (congrArg Value.bool (decide_eq_false hc1))) (fr_eval rfl rfl)) ?_
      exact hk _ ⟨e0, e1, e2, (congrArg Value.bool (dec_or hc1))⟩
  · clear e0 e1 e2
    clear F
    rintro F ⟨e0, e1, e2, e15⟩
    refine lf_val (wantAll rfl) (rv_move rfl (fr_eval rfl e15)) ?_
    refine lf_joinP (fun F' => F' 0 = .agg (([t.vi.1, t.vo.1, .int .i64 t.kd, .int .i64 t.tw, .int .i64 t.ch, .int .i64 t.am] : List Value) ++ (cBs t.root.1 ++ ([t.vd.1, t.vs.1] : List Value))).toArray ∧ F' 1 = .pointer (some ⟨g1, 0, none⟩) ∧ F' 2 = .int .i64 0 ∧ F' 21 = .bool (decide (((t.ins.length > 20) ∨ (t.outs.length > 20)) ∨ (t.sgs.length > 20)))) 5 (fun hk => ?_) ?_
    · by_cases hc2 : (t.ins.length > 20) ∨ (t.outs.length > 20)
      · refine lf_not (wantNot (d := 16) rfl (by kernel_rfl) rfl (congrArg Value.bool (decide_eq_true hc2))) ?_
        refine lf_not (wantNot (d := 16) rfl (by kernel_rfl) rfl (congrArg Value.bool (decide_eq_true hc2))) ?_
        refine lf_not (wantNot (d := 16) rfl (by kernel_rfl) rfl (congrArg Value.bool (decide_eq_true hc2))) ?_
        refine lf_not (wantNot (d := 16) rfl (by kernel_rfl) rfl (congrArg Value.bool (decide_eq_true hc2))) ?_
        refine lf_val (v := .bool true) (wantAll rfl) (rv_pickT rfl (fr_eval rfl (congrArg Value.bool (decide_eq_true hc2))) rfl) ?_
        exact hk _ ⟨e0, e1, e2, (congrArg Value.bool (dec_orT hc2))⟩
      · refine lf_val (v := .pointer (some ⟨g1, 39, none⟩)) (wantF (d := 16) rfl (by kernel_rfl) rfl (congrArg Value.bool (decide_eq_false hc2))) (rv_fieldAddr (n := 0) rfl (fr_eval rfl e1) Try.underlying63 rfl rfl (by kernel_rfl)) ?_
        refine lf_val (v := t.vs.1) (wantF (d := 16) rfl (by kernel_rfl) rfl (congrArg Value.bool (decide_eq_false hc2))) (rv_load1 rfl (hH.blk (i := 0) rfl) (zLk_g2 t.root.2) (fr_eval rfl rfl) Try.underlying61 rfl Try.sz61) ?_
        refine lf_val (v := .int .i64 ((t.sgs.length : Nat) : Int)) (wantF (d := 16) rfl (by kernel_rfl) rfl (congrArg Value.bool (decide_eq_false hc2))) (rv_len rfl (fr_eval rfl rfl) ((ht.sgs).rd _ hH.chg) Try.underlying61) ?_
        refine lf_val (v := .bool (decide (t.sgs.length > 20))) (wantF (d := 16) rfl (by kernel_rfl) rfl (congrArg Value.bool (decide_eq_false hc2))) (rv_gtrP (p := t.sgs.length > 20) rfl (fr_eval rfl rfl) rfl (by omega)) ?_
        refine lf_val (v := .bool (decide (t.sgs.length > 20))) (wantAll rfl) (rv_pickF rfl (fr_eval rfl (congrArg Value.bool (decide_eq_false hc2))) (fr_eval rfl rfl)) ?_
        exact hk _ ⟨e0, e1, e2, (congrArg Value.bool (dec_or hc2))⟩
    · clear e0 e1 e2 e15
      clear F
      rintro F ⟨e0, e1, e2, e21⟩
      refine lf_val (wantAll rfl) (rv_move rfl (fr_eval rfl e21)) ?_
      refine lf_joinP (fun F' => F' 0 = .agg (([t.vi.1, t.vo.1, .int .i64 t.kd, .int .i64 t.tw, .int .i64 t.ch, .int .i64 t.am] : List Value) ++ (cBs t.root.1 ++ ([t.vd.1, t.vs.1] : List Value))).toArray ∧ F' 1 = .pointer (some ⟨g1, 0, none⟩) ∧ F' 2 = .int .i64 0 ∧ F' 28 = .bool (decide ((((t.ins.length > 20) ∨ (t.outs.length > 20)) ∨ (t.sgs.length > 20)) ∨ (t.data.length > 6000)))) 6 (fun hk => ?_) ?_
      · by_cases hc3 : ((t.ins.length > 20) ∨ (t.outs.length > 20)) ∨ (t.sgs.length > 20)
        · refine lf_not (wantNot (d := 22) rfl (by kernel_rfl) rfl (congrArg Value.bool (decide_eq_true hc3))) ?_
          refine lf_not (wantNot (d := 22) rfl (by kernel_rfl) rfl (congrArg Value.bool (decide_eq_true hc3))) ?_
          refine lf_not (wantNot (d := 22) rfl (by kernel_rfl) rfl (congrArg Value.bool (decide_eq_true hc3))) ?_
          refine lf_not (wantNot (d := 22) rfl (by kernel_rfl) rfl (congrArg Value.bool (decide_eq_true hc3))) ?_
          refine lf_not (wantNot (d := 22) rfl (by kernel_rfl) rfl (congrArg Value.bool (decide_eq_true hc3))) ?_
          refine lf_val (v := .bool true) (wantAll rfl) (rv_pickT rfl (fr_eval rfl (congrArg Value.bool (decide_eq_true hc3))) rfl) ?_
          exact hk _ ⟨e0, e1, e2, (congrArg Value.bool (dec_orT hc3))⟩
        · refine lf_val (v := .pointer (some ⟨g1, 2, none⟩)) (wantF (d := 22) rfl (by kernel_rfl) rfl (congrArg Value.bool (decide_eq_false hc3))) (rv_fieldAddr (n := 36) rfl (fr_eval rfl e1) Try.underlying63 rfl rfl (by kernel_rfl)) ?_
          refine lf_val (v := .pointer (some ⟨g1, 38, none⟩)) (wantF (d := 22) rfl (by kernel_rfl) rfl (congrArg Value.bool (decide_eq_false hc3))) (rv_fieldAddr (n := 0) rfl (fr_eval rfl rfl) Try.underlying60 rfl rfl (by kernel_rfl)) ?_
          refine lf_val (v := t.vd.1) (wantF (d := 22) rfl (by kernel_rfl) rfl (congrArg Value.bool (decide_eq_false hc3))) (rv_load1 rfl (hH.blk (i := 0) rfl) (zLk_g3 t.root.2) (fr_eval rfl rfl) Try.underlying58 rfl Try.sz58) ?_
          refine lf_val (v := .int .i64 ((t.data.length : Nat) : Int)) (wantF (d := 22) rfl (by kernel_rfl) rfl (congrArg Value.bool (decide_eq_false hc3))) (rv_len rfl (fr_eval rfl rfl) (RdB.rn ((ht.data).rd _ hH.chg) rfl) Try.underlying58) ?_
          refine lf_val (v := .bool (decide (t.data.length > 6000))) (wantF (d := 22) rfl (by kernel_rfl) rfl (congrArg Value.bool (decide_eq_false hc3))) (rv_gtrP (p := t.data.length > 6000) rfl (fr_eval rfl rfl) rfl (by omega)) ?_
          refine lf_val (v := .bool (decide (t.data.length > 6000))) (wantAll rfl) (rv_pickF rfl (fr_eval rfl (congrArg Value.bool (decide_eq_false hc3))) (fr_eval rfl rfl)) ?_
          exact hk _ ⟨e0, e1, e2, (congrArg Value.bool (dec_or hc3))⟩
      · clear e0 e1 e2 e21
        clear F
        rintro F ⟨e0, e1, e2, e28⟩
        refine lf_nil ?_
        refine then_n ?_
        by_cases hc4 : (((t.ins.length > 20) ∨ (t.outs.length > 20)) ∨ (t.sgs.length > 20)) ∨ (t.data.length > 6000)
        · refine wp_cond_true (fr_eval rfl (e28.trans (congrArg Value.bool (decide_eq_true hc4)))) ?_
          refine wp_seq ?_
          refine wp_regionF ?_
          refine lf_val (v := .int .i64 1) (wantAll rfl) (rv_assign rfl rfl) ?_
          refine lf_nil ?_
          refine then_n ?_
          refine wp_gen (fun F' => F' 0 = .agg (([t.vi.1, t.vo.1, .int .i64 t.kd, .int .i64 t.tw, .int .i64 t.ch, .int .i64 t.am] : List Value) ++ (cBs t.root.1 ++ ([t.vd.1, t.vs.1] : List Value))).toArray ∧ F' 1 = .pointer (some ⟨g1, 0, none⟩) ∧ F' 2 = .int .i64 1 ∧ F' 28 = .bool true) ⟨e0, e1, rfl, (e28.trans (congrArg Value.bool (decide_eq_true hc4)))⟩ ?_
          clear e0 e1 e2 e28
          clear F
          rintro F ⟨e0, e1, e2, e28⟩
          refine wp_ret ?_
          refine then_ret ?_
          exact bodyPost_ret (v := (.int .i64 1)) (res1 rfl (ro_tmp rfl e2)) rfl (⟨by rw [if_neg (fun h : smT t => by have := h.1; omega)], hH.done⟩)
        · refine wp_cond_false (fr_eval rfl (e28.trans (congrArg Value.bool (decide_eq_false hc4)))) ?_
          refine wp_skip ?_
          refine then_n ?_
          refine wp_seq ?_
          refine wp_seq ?_
          refine wp_regionF ?_
          refine lf_val (v := .int .i64 0) (wantAll rfl) (rv_assign rfl rfl) ?_
          refine lf_nil ?_
          refine then_n ?_
          refine wp_block ?_
          refine wp_gen (fun F' => F' 0 = .agg (([t.vi.1, t.vo.1, .int .i64 t.kd, .int .i64 t.tw, .int .i64 t.ch, .int .i64 t.am] : List Value) ++ (cBs t.root.1 ++ ([t.vd.1, t.vs.1] : List Value))).toArray ∧ F' 1 = .pointer (some ⟨g1, 0, none⟩) ∧ F' 2 = .int .i64 0 ∧ F' 3 = .int .i64 0 ∧ F' 28 = .bool false) ⟨e0, e1, e2, rfl, (e28.trans (congrArg Value.bool (decide_eq_false hc4)))⟩ ?_
          clear e0 e1 e2 e28
          clear F
          rintro F ⟨e0, e1, e2, e3, e28⟩
          refine wp_loopF (fun m F wr => ∃ i : Nat, m = t.ins.length - i ∧ i ≤ t.ins.length ∧ (∀ x ∈ t.ins.take i, x.pre.length ≤ 100) ∧ F 0 = .agg (([t.vi.1, t.vo.1, .int .i64 t.kd, .int .i64 t.tw, .int .i64 t.ch, .int .i64 t.am] : List Value) ++ (cBs t.root.1 ++ ([t.vd.1, t.vs.1] : List Value))).toArray ∧ F 1 = .pointer (some ⟨g1, 0, none⟩) ∧ F 3 = .int .i64 ((i : Nat) : Int) ∧ F 28 = .bool false ∧ Heap (newN w) w wr [oBlk g1 (([t.vi.1, t.vo.1, .int .i64 t.kd, .int .i64 t.tw, .int .i64 t.ch, .int .i64 t.am] : List Value) ++ (cBs t.root.1 ++ ([t.vd.1, t.vs.1] : List Value))) 63]) ⟨0, rfl, Nat.zero_le _, take_none, e0, e1, e3, e28, hH⟩ ?_
          clear e0 e1 e2 e3 e28 hH
          clear F
          rintro m F w2 ⟨i, rfl, pi0, pi1, e0, e1, e3, e28, hH⟩
          refine wp_seq ?_
          refine wp_seq ?_
          refine wp_regionF ?_
          refine lf_val (v := .int .i64 ((i : Nat) : Int)) (wantAll rfl) (rv_move rfl (fr_eval rfl e3)) ?_
          refine lf_val (v := .pointer (some ⟨g1, 0, none⟩)) (wantAll rfl) (rv_fieldAddr (n := 0) rfl (fr_eval rfl e1) Try.underlying63 rfl rfl (by kernel_rfl)) ?_
          refine lf_val (v := t.vi.1) (wantAll rfl) (rv_load1 rfl (hH.blk (i := 0) rfl) (zLk_g0 t.root.2) (fr_eval rfl rfl) Try.underlying56 rfl Try.sz56) ?_
          refine lf_val (v := .int .i64 ((t.ins.length : Nat) : Int)) (wantAll rfl) (rv_len rfl (fr_eval rfl rfl) ((ht.ins).rd _ hH.chg) Try.underlying56) ?_
          refine lf_val (v := .bool (decide (i < t.ins.length))) (wantAll rfl) (rv_lssP (p := i < t.ins.length) rfl (fr_eval rfl rfl) (fr_eval rfl rfl) (by omega)) ?_
          refine lf_nil ?_
          refine then_n ?_
          refine wp_gen (fun F' => F' 0 = .agg (([t.vi.1, t.vo.1, .int .i64 t.kd, .int .i64 t.tw, .int .i64 t.ch, .int .i64 t.am] : List Value) ++ (cBs t.root.1 ++ ([t.vd.1, t.vs.1] : List Value))).toArray ∧ F' 1 = .pointer (some ⟨g1, 0, none⟩) ∧ F' 3 = .int .i64 ((i : Nat) : Int) ∧ F' 28 = .bool false ∧ F' 33 = .bool (decide (i < t.ins.length))) ⟨e0, e1, e3, e28, rfl⟩ ?_
          clear e0 e1 e3 e28
          clear F
          rintro F ⟨e0, e1, e3, e28, e33⟩
          by_cases hc5 : i < t.ins.length
          · refine wp_cond_true (fr_eval rfl (e33.trans (congrArg Value.bool (decide_eq_true hc5)))) ?_
            refine wp_skip ?_
            refine then_n ?_
            refine wp_seq ?_
            refine wp_block ?_
            refine wp_seq ?_
            refine wp_regionF ?_
            refine lf_val (v := .pointer (some ⟨g1, 0, none⟩)) (wantAll rfl) (rv_fieldAddr (n := 0) rfl (fr_eval rfl e1) Try.underlying63 rfl rfl (by kernel_rfl)) ?_
            refine lf_val (v := t.vi.1) (wantAll rfl) (rv_load1 rfl (hH.blk (i := 0) rfl) (zLk_g0 t.root.2) (fr_eval rfl rfl) Try.underlying56 rfl Try.sz56) ?_
            refine lf_val (v := .int .i64 ((i : Nat) : Int)) (wantAll rfl) (rv_move rfl (fr_eval rfl e3)) ?_
            refine lf_val (v := .pointer (some (elemA t.vi.1 (i * 35)))) (wantAll rfl) (rv_index rfl (fr_eval rfl rfl) (fr_eval rfl rfl) (rdN ((ht.ins).rd _ hH.chg) rfl) (show i < t.ins.length from (by omega)) Try.underlying56 Try.sz130 (by decide)) ?_
            refine lf_val (v := .pointer (some (elemA t.vi.1 (i * 35 + 34)))) (wantAll rfl) (rv_fieldElem (nn := 0) rfl (fr_eval rfl rfl) ((ht.ins).rd _ hH.chg) (by omega) (by decide) Try.underlying130 rfl rfl (by kernel_rfl)) ?_
            refine lf_val (v := (List.getD t.ins i zIn).v.1) (wantAll rfl) (rv_loadCell rfl (fr_eval rfl rfl) rfl ((ht.ins).rd _ hH.chg) (flat_get zIn cIn_len (by omega) (show (cIn (List.getD t.ins i zIn))[34]? = some ((List.getD t.ins i zIn).v.1) from (zLk_g4 ((List.getD t.ins i zIn).tx.2))) (by decide)) Try.underlying58 rfl Try.sz58) ?_
            refine lf_val (v := .int .i64 ((((List.getD t.ins i zIn).pre).length : Nat) : Int)) (wantAll rfl) (rv_len rfl (fr_eval rfl rfl) (RdB.rn (((ht.eachI _ (getD_memX (by omega))).pre).rd _ hH.chg) rfl) Try.underlying58) ?_
            refine lf_val (v := .bool (decide (((List.getD t.ins i zIn).pre).length > 100))) (wantAll rfl) (rv_gtrP (p := ((List.getD t.ins i zIn).pre).length > 100) rfl (fr_eval rfl rfl) rfl (by omega)) ?_
            refine lf_nil ?_
            refine then_n ?_
            refine wp_gen (fun F' => F' 0 = .agg (([t.vi.1, t.vo.1, .int .i64 t.kd, .int .i64 t.tw, .int .i64 t.ch, .int .i64 t.am] : List Value) ++ (cBs t.root.1 ++ ([t.vd.1, t.vs.1] : List Value))).toArray ∧ F' 1 = .pointer (some ⟨g1, 0, none⟩) ∧ F' 3 = .int .i64 ((i : Nat) : Int) ∧ F' 28 = .bool false ∧ F' 33 = .bool true ∧ F' 43 = .bool (decide (((List.getD t.ins i zIn).pre).length > 100))) ⟨e0, e1, e3, e28, (e33.trans (congrArg Value.bool (decide_eq_true hc5))), rfl⟩ ?_
            clear e0 e1 e3 e28 e33
            clear F
            rintro F ⟨e0, e1, e3, e28, e33, e43⟩
            by_cases hc6 : ((List.getD t.ins i zIn).pre).length > 100
            · refine wp_cond_true (fr_eval rfl (e43.trans (congrArg Value.bool (decide_eq_true hc6)))) ?_
              refine wp_seq ?_
              refine wp_regionF ?_
              refine lf_val (v := .int .i64 1) (wantAll rfl) (rv_assign rfl rfl) ?_
              refine lf_nil ?_
              refine then_n ?_
              refine wp_gen (fun F' => F' 0 = .agg (([t.vi.1, t.vo.1, .int .i64 t.kd, .int .i64 t.tw, .int .i64 t.ch, .int .i64 t.am] : List Value) ++ (cBs t.root.1 ++ ([t.vd.1, t.vs.1] : List Value))).toArray ∧ F' 1 = .pointer (some ⟨g1, 0, none⟩) ∧ F' 2 = .int .i64 1 ∧ F' 3 = .int .i64 ((i : Nat) : Int) ∧ F' 28 = .bool false ∧ F' 33 = .bool true ∧ F' 43 = .bool true) ⟨e0, e1, rfl, e3, e28, e33, (e43.trans (congrArg Value.bool (decide_eq_true hc6)))⟩ ?_
              clear e0 e1 e3 e28 e33 e43
              clear F
              rintro F ⟨e0, e1, e2, e3, e28, e33, e43⟩
              refine wp_ret ?_
              refine blk_ret ?_
              refine then_ret ?_
              refine then_ret ?_
              refine blk_ret ?_
              refine then_ret ?_
              exact bodyPost_ret (v := (.int .i64 1)) (res1 rfl (ro_tmp rfl e2)) rfl (⟨by rw [if_neg (fun h : smT t => by have := h.2.1 _ (getD_memX (l := t.ins) (i := i) (d := zIn) (by omega)); omega)], hH.done⟩)
            · refine wp_cond_false (fr_eval rfl (e43.trans (congrArg Value.bool (decide_eq_false hc6)))) ?_
              refine wp_skip ?_
              refine blk_n ?_
              refine then_n ?_
              refine wp_regionF ?_
              refine lf_val (v := .int .i64 ((i : Nat) : Int)) (wantAll rfl) (rv_move rfl (fr_eval rfl e3)) ?_
              refine lf_val (v := .int .i64 ((i + 1 : Nat) : Int)) (wantAll rfl) (rv_add rfl (fr_eval rfl rfl) rfl (wrap_i64 (by omega) (by omega) (by omega))) ?_
              refine lf_val (v := .int .i64 ((i + 1 : Nat) : Int)) (wantAll rfl) (rv_assign rfl (fr_eval rfl rfl)) ?_
              refine lf_nil ?_
              refine then_n ?_
              exact ⟨_, _, (by omega), rfl, i + 1, rfl, (by omega), (take_all (d := zIn) pi1 (by omega) (by omega)), e0, e1, rfl, e28, hH⟩
          · refine wp_cond_false (fr_eval rfl (e33.trans (congrArg Value.bool (decide_eq_false hc5)))) ?_
            refine wp_exit ?_
            refine then_exit ?_
            refine then_exit ?_
            refine blk_exit ?_
            refine then_n ?_
            refine wp_seq ?_
            refine wp_seq ?_
            refine wp_regionF ?_
            refine lf_val (v := .int .i64 0) (wantAll rfl) (rv_assign rfl rfl) ?_
            refine lf_nil ?_
            refine then_n ?_
            refine wp_block ?_
            refine wp_gen (fun F' => F' 0 = .agg (([t.vi.1, t.vo.1, .int .i64 t.kd, .int .i64 t.tw, .int .i64 t.ch, .int .i64 t.am] : List Value) ++ (cBs t.root.1 ++ ([t.vd.1, t.vs.1] : List Value))).toArray ∧ F' 1 = .pointer (some ⟨g1, 0, none⟩) ∧ F' 3 = .int .i64 ((i : Nat) : Int) ∧ F' 4 = .int .i64 0 ∧ F' 28 = .bool false ∧ F' 33 = .bool false) ⟨e0, e1, e3, rfl, e28, (e33.trans (congrArg Value.bool (decide_eq_false hc5)))⟩ ?_
            clear e0 e1 e3 e28 e33
            clear F
            rintro F ⟨e0, e1, e3, e4, e28, e33⟩
            refine wp_loopF (fun m F wr => ∃ j : Nat, m = t.outs.length - j ∧ j ≤ t.outs.length ∧ (∀ o ∈ t.outs.take j, smO o) ∧ F 0 = .agg (([t.vi.1, t.vo.1, .int .i64 t.kd, .int .i64 t.tw, .int .i64 t.ch, .int .i64 t.am] : List Value) ++ (cBs t.root.1 ++ ([t.vd.1, t.vs.1] : List Value))).toArray ∧ F 1 = .pointer (some ⟨g1, 0, none⟩) ∧ F 3 = .int .i64 ((i : Nat) : Int) ∧ F 4 = .int .i64 ((j : Nat) : Int) ∧ F 28 = .bool false ∧ F 33 = .bool false ∧ Heap (newN w) w wr [oBlk g1 (([t.vi.1, t.vo.1, .int .i64 t.kd, .int .i64 t.tw, .int .i64 t.ch, .int .i64 t.am] : List Value) ++ (cBs t.root.1 ++ ([t.vd.1, t.vs.1] : List Value))) 63]) ⟨0, rfl, Nat.zero_le _, take_none, e0, e1, e3, e4, e28, e33, hH⟩ ?_
            clear e0 e1 e3 e4 e28 e33 hH
            clear F
            rintro m F w3 ⟨j, rfl, pj0, pj1, e0, e1, e3, e4, e28, e33, hH⟩
            refine wp_seq ?_
            refine wp_seq ?_
            refine wp_regionF ?_
            refine lf_val (v := .int .i64 ((j : Nat) : Int)) (wantAll rfl) (rv_move rfl (fr_eval rfl e4)) ?_
            refine lf_val (v := .pointer (some ⟨g1, 1, none⟩)) (wantAll rfl) (rv_fieldAddr (n := 0) rfl (fr_eval rfl e1) Try.underlying63 rfl rfl (by kernel_rfl)) ?_
            refine lf_val (v := t.vo.1) (wantAll rfl) (rv_load1 rfl (hH.blk (i := 0) rfl) (zLk_g1 t.root.2) (fr_eval rfl rfl) Try.underlying57 rfl Try.sz57) ?_
            refine lf_val (v := .int .i64 ((t.outs.length : Nat) : Int)) (wantAll rfl) (rv_len rfl (fr_eval rfl rfl) ((ht.outs).rd _ hH.chg) Try.underlying57) ?_
            refine lf_val (v := .bool (decide (j < t.outs.length))) (wantAll rfl) (rv_lssP (p := j < t.outs.length) rfl (fr_eval rfl rfl) (fr_eval rfl rfl) (by omega)) ?_
            refine lf_nil ?_
            refine then_n ?_
            refine wp_gen (fun F' => F' 0 = .agg (([t.vi.1, t.vo.1, .int .i64 t.kd, .int .i64 t.tw, .int .i64 t.ch, .int .i64 t.am] : List Value) ++ (cBs t.root.1 ++ ([t.vd.1, t.vs.1] : List Value))).toArray ∧ F' 1 = .pointer (some ⟨g1, 0, none⟩) ∧ F' 3 = .int .i64 ((i : Nat) : Int) ∧ F' 4 = .int .i64 ((j : Nat) : Int) ∧ F' 28 = .bool false ∧ F' 33 = .bool false ∧ F' 48 = .bool (decide (j < t.outs.length))) ⟨e0, e1, e3, e4, e28, e33, rfl⟩ ?_
            clear e0 e1 e3 e4 e28 e33
            clear F
            rintro F ⟨e0, e1, e3, e4, e28, e33, e48⟩
            by_cases hc7 : j < t.outs.length
            · refine wp_cond_true (fr_eval rfl (e48.trans (congrArg Value.bool (decide_eq_true hc7)))) ?_
              refine wp_skip ?_
              refine then_n ?_
              refine wp_seq ?_
              refine wp_block ?_
              refine wp_seq ?_
              refine wp_seq ?_
              refine wp_regionF ?_
              refine lf_val (v := .pointer (some ⟨g1, 1, none⟩)) (wantAll rfl) (rv_fieldAddr (n := 0) rfl (fr_eval rfl e1) Try.underlying63 rfl rfl (by kernel_rfl)) ?_
              refine lf_val (v := t.vo.1) (wantAll rfl) (rv_load1 rfl (hH.blk (i := 0) rfl) (zLk_g1 t.root.2) (fr_eval rfl rfl) Try.underlying57 rfl Try.sz57) ?_
              refine lf_val (v := .int .i64 ((j : Nat) : Int)) (wantAll rfl) (rv_move rfl (fr_eval rfl e4)) ?_
              refine lf_val (v := .pointer (some (elemA t.vo.1 (j * 2)))) (wantAll rfl) (rv_index rfl (fr_eval rfl rfl) (fr_eval rfl rfl) (rdN ((ht.outs).rd _ hH.chg) rfl) (show j < t.outs.length from (by omega)) Try.underlying57 Try.sz133 (by decide)) ?_
              refine lf_val (v := .pointer (some (elemA t.vo.1 (j * 2 + 1)))) (wantAll rfl) (rv_fieldElem (nn := 0) rfl (fr_eval rfl rfl) ((ht.outs).rd _ hH.chg) (by omega) (by decide) Try.underlying133 rfl rfl (by kernel_rfl)) ?_
              refine lf_val (v := (List.getD t.outs j zOut).v.1) (wantAll rfl) (rv_loadCell rfl (fr_eval rfl rfl) rfl ((ht.outs).rd _ hH.chg) (flat_get zOut cOut_len (by omega) (show (cOut (List.getD t.outs j zOut))[1]? = some ((List.getD t.outs j zOut).v.1) from zLk_g5) (by decide)) Try.underlying131 rfl Try.sz131) ?_
              refine lf_val (v := .int .i64 ((((List.getD t.outs j zOut).ws).length : Nat) : Int)) (wantAll rfl) (rv_len rfl (fr_eval rfl rfl) (((ht.eachO _ (getD_memX (by omega))).ws).rd _ hH.chg) Try.underlying131) ?_
              refine lf_val (v := .bool (decide (((List.getD t.outs j zOut).ws).length > 20))) (wantAll rfl) (rv_gtrP (p := ((List.getD t.outs j zOut).ws).length > 20) rfl (fr_eval rfl rfl) rfl (by omega)) ?_
              refine lf_nil ?_
              refine then_n ?_
              refine wp_gen (fun F' => F' 0 = .agg (([t.vi.1, t.vo.1, .int .i64 t.kd, .int .i64 t.tw, .int .i64 t.ch, .int .i64 t.am] : List Value) ++ (cBs t.root.1 ++ ([t.vd.1, t.vs.1] : List Value))).toArray ∧ F' 1 = .pointer (some ⟨g1, 0, none⟩) ∧ F' 3 = .int .i64 ((i : Nat) : Int) ∧ F' 4 = .int .i64 ((j : Nat) : Int) ∧ F' 28 = .bool false ∧ F' 33 = .bool false ∧ F' 48 = .bool true ∧ F' 58 = .bool (decide (((List.getD t.outs j zOut).ws).length > 20))) ⟨e0, e1, e3, e4, e28, e33, (e48.trans (congrArg Value.bool (decide_eq_true hc7))), rfl⟩ ?_
              clear e0 e1 e3 e4 e28 e33 e48
              clear F
              rintro F ⟨e0, e1, e3, e4, e28, e33, e48, e58⟩
              by_cases hc8 : ((List.getD t.outs j zOut).ws).length > 20
              · refine wp_cond_true (fr_eval rfl (e58.trans (congrArg Value.bool (decide_eq_true hc8)))) ?_
                refine wp_seq ?_
                refine wp_regionF ?_
                refine lf_val (v := .int .i64 1) (wantAll rfl) (rv_assign rfl rfl) ?_
                refine lf_nil ?_
                refine then_n ?_
                refine wp_gen (fun F' => F' 0 = .agg (([t.vi.1, t.vo.1, .int .i64 t.kd, .int .i64 t.tw, .int .i64 t.ch, .int .i64 t.am] : List Value) ++ (cBs t.root.1 ++ ([t.vd.1, t.vs.1] : List Value))).toArray ∧ F' 1 = .pointer (some ⟨g1, 0, none⟩) ∧ F' 2 = .int .i64 1 ∧ F' 3 = .int .i64 ((i : Nat) : Int) ∧ F' 4 = .int .i64 ((j : Nat) : Int) ∧ F' 28 = .bool false ∧ F' 33 = .bool false ∧ F' 48 = .bool true ∧ F' 58 = .bool true) ⟨e0, e1, rfl, e3, e4, e28, e33, e48, (e58.trans (congrArg Value.bool (decide_eq_true hc8)))⟩ ?_
                clear e0 e1 e3 e4 e28 e33 e48 e58
                clear F
                rintro F ⟨e0, e1, e2, e3, e4, e28, e33, e48, e58⟩
                refine wp_ret ?_
                refine then_ret ?_
                refine blk_ret ?_
                refine then_ret ?_
                refine then_ret ?_
                refine blk_ret ?_
                refine then_ret ?_
                exact bodyPost_ret (v := (.int .i64 1)) (res1 rfl (ro_tmp rfl e2)) rfl (⟨by rw [if_neg (fun h : smT t => by have := (h.2.2 _ (getD_memX (l := t.outs) (i := j) (d := zOut) (by omega))).1; omega)], hH.done⟩)
              · refine wp_cond_false (fr_eval rfl (e58.trans (congrArg Value.bool (decide_eq_false hc8)))) ?_
                refine wp_skip ?_
                refine then_n ?_
                refine wp_seq ?_
                refine wp_regionF ?_
                refine lf_val (v := .int .i64 0) (wantAll rfl) (rv_assign rfl rfl) ?_
                refine lf_nil ?_
                refine then_n ?_
                refine wp_block ?_
                refine wp_gen (fun F' => F' 0 = .agg (([t.vi.1, t.vo.1, .int .i64 t.kd, .int .i64 t.tw, .int .i64 t.ch, .int .i64 t.am] : List Value) ++ (cBs t.root.1 ++ ([t.vd.1, t.vs.1] : List Value))).toArray ∧ F' 1 = .pointer (some ⟨g1, 0, none⟩) ∧ F' 3 = .int .i64 ((i : Nat) : Int) ∧ F' 4 = .int .i64 ((j : Nat) : Int) ∧ F' 5 = .int .i64 0 ∧ F' 28 = .bool false ∧ F' 33 = .bool false ∧ F' 48 = .bool true ∧ F' 58 = .bool false) ⟨e0, e1, e3, e4, rfl, e28, e33, e48, (e58.trans (congrArg Value.bool (decide_eq_false hc8)))⟩ ?_
                clear e0 e1 e3 e4 e28 e33 e48 e58
                clear F
                rintro F ⟨e0, e1, e3, e4, e5, e28, e33, e48, e58⟩
                refine wp_loopF (fun m F wr => ∃ k : Nat, m = (List.getD t.outs j zOut).ws.length - k ∧ k ≤ (List.getD t.outs j zOut).ws.length ∧ (∀ y ∈ (List.getD t.outs j zOut).ws.take k, y.ks.length ≤ 20) ∧ F 0 = .agg (([t.vi.1, t.vo.1, .int .i64 t.kd, .int .i64 t.tw, .int .i64 t.ch, .int .i64 t.am] : List Value) ++ (cBs t.root.1 ++ ([t.vd.1, t.vs.1] : List Value))).toArray ∧ F 1 = .pointer (some ⟨g1, 0, none⟩) ∧ F 3 = .int .i64 ((i : Nat) : Int) ∧ F 4 = .int .i64 ((j : Nat) : Int) ∧ F 5 = .int .i64 ((k : Nat) : Int) ∧ F 28 = .bool false ∧ F 33 = .bool false ∧ F 48 = .bool true ∧ F 58 = .bool false ∧ Heap (newN w) w wr [oBlk g1 (([t.vi.1, t.vo.1, .int .i64 t.kd, .int .i64 t.tw, .int .i64 t.ch, .int .i64 t.am] : List Value) ++ (cBs t.root.1 ++ ([t.vd.1, t.vs.1] : List Value))) 63]) ⟨0, rfl, Nat.zero_le _, take_none, e0, e1, e3, e4, e5, e28, e33, e48, e58, hH⟩ ?_
                clear e0 e1 e3 e4 e5 e28 e33 e48 e58 hH
                clear F
                rintro m F w4 ⟨k, rfl, pk0, pk1, e0, e1, e3, e4, e5, e28, e33, e48, e58, hH⟩
                refine wp_seq ?_
                refine wp_seq ?_
                refine wp_regionF ?_
                refine lf_val (v := .int .i64 ((k : Nat) : Int)) (wantAll rfl) (rv_move rfl (fr_eval rfl e5)) ?_
                refine lf_val (v := .pointer (some ⟨g1, 1, none⟩)) (wantAll rfl) (rv_fieldAddr (n := 0) rfl (fr_eval rfl e1) Try.underlying63 rfl rfl (by kernel_rfl)) ?_
                refine lf_val (v := t.vo.1) (wantAll rfl) (rv_load1 rfl (hH.blk (i := 0) rfl) (zLk_g1 t.root.2) (fr_eval rfl rfl) Try.underlying57 rfl Try.sz57) ?_
                refine lf_val (v := .int .i64 ((j : Nat) : Int)) (wantAll rfl) (rv_move rfl (fr_eval rfl e4)) ?_
                refine lf_val (v := .pointer (some (elemA t.vo.1 (j * 2)))) (wantAll rfl) (rv_index rfl (fr_eval rfl rfl) (fr_eval rfl rfl) (rdN ((ht.outs).rd _ hH.chg) rfl) (show j < t.outs.length from (by omega)) Try.underlying57 Try.sz133 (by decide)) ?_
                refine lf_val (v := .pointer (some (elemA t.vo.1 (j * 2 + 1)))) (wantAll rfl) (rv_fieldElem (nn := 0) rfl (fr_eval rfl rfl) ((ht.outs).rd _ hH.chg) (by omega) (by decide) Try.underlying133 rfl rfl (by kernel_rfl)) ?_
                refine lf_val (v := (List.getD t.outs j zOut).v.1) (wantAll rfl) (rv_loadCell rfl (fr_eval rfl rfl) rfl ((ht.outs).rd _ hH.chg) (flat_get zOut cOut_len (by omega) (show (cOut (List.getD t.outs j zOut))[1]? = some ((List.getD t.outs j zOut).v.1) from zLk_g5) (by decide)) Try.underlying131 rfl Try.sz131) ?_
                refine lf_val (v := .int .i64 ((((List.getD t.outs j zOut).ws).length : Nat) : Int)) (wantAll rfl) (rv_len rfl (fr_eval rfl rfl) (((ht.eachO _ (getD_memX (by omega))).ws).rd _ hH.chg) Try.underlying131) ?_
                refine lf_val (v := .bool (decide (k < ((List.getD t.outs j zOut).ws).length))) (wantAll rfl) (rv_lssP (p := k < ((List.getD t.outs j zOut).ws).length) rfl (fr_eval rfl rfl) (fr_eval rfl rfl) (by omega)) ?_
                refine lf_nil ?_
                refine then_n ?_
                refine wp_gen (fun F' => F' 0 = .agg (([t.vi.1, t.vo.1, .int .i64 t.kd, .int .i64 t.tw, .int .i64 t.ch, .int .i64 t.am] : List Value) ++ (cBs t.root.1 ++ ([t.vd.1, t.vs.1] : List Value))).toArray ∧ F' 1 = .pointer (some ⟨g1, 0, none⟩) ∧ F' 3 = .int .i64 ((i : Nat) : Int) ∧ F' 4 = .int .i64 ((j : Nat) : Int) ∧ F' 5 = .int .i64 ((k : Nat) : Int) ∧ F' 28 = .bool false ∧ F' 33 = .bool false ∧ F' 48 = .bool true ∧ F' 58 = .bool false ∧ F' 67 = .bool (decide (k < ((List.getD t.outs j zOut).ws).length))) ⟨e0, e1, e3, e4, e5, e28, e33, e48, e58, rfl⟩ ?_
                clear e0 e1 e3 e4 e5 e28 e33 e48 e58
                clear F
                rintro F ⟨e0, e1, e3, e4, e5, e28, e33, e48, e58, e67⟩
                by_cases hc9 : k < ((List.getD t.outs j zOut).ws).length
                · refine wp_cond_true (fr_eval rfl (e67.trans (congrArg Value.bool (decide_eq_true hc9)))) ?_
                  refine wp_skip ?_
                  refine then_n ?_
                  refine wp_seq ?_
                  refine wp_block ?_
                  refine wp_seq ?_
                  refine wp_regionF ?_
                  refine lf_val (v := .pointer (some ⟨g1, 1, none⟩)) (wantAll rfl) (rv_fieldAddr (n := 0) rfl (fr_eval rfl e1) Try.underlying63 rfl rfl (by kernel_rfl)) ?_
                  refine lf_val (v := t.vo.1) (wantAll rfl) (rv_load1 rfl (hH.blk (i := 0) rfl) (zLk_g1 t.root.2) (fr_eval rfl rfl) Try.underlying57 rfl Try.sz57) ?_
                  refine lf_val (v := .int .i64 ((j : Nat) : Int)) (wantAll rfl) (rv_move rfl (fr_eval rfl e4)) ?_
                  refine lf_val (v := .pointer (some (elemA t.vo.1 (j * 2)))) (wantAll rfl) (rv_index rfl (fr_eval rfl rfl) (fr_eval rfl rfl) (rdN ((ht.outs).rd _ hH.chg) rfl) (show j < t.outs.length from (by omega)) Try.underlying57 Try.sz133 (by decide)) ?_
                  refine lf_val (v := .pointer (some (elemA t.vo.1 (j * 2 + 1)))) (wantAll rfl) (rv_fieldElem (nn := 0) rfl (fr_eval rfl rfl) ((ht.outs).rd _ hH.chg) (by omega) (by decide) Try.underlying133 rfl rfl (by kernel_rfl)) ?_
                  refine lf_val (v := (List.getD t.outs j zOut).v.1) (wantAll rfl) (rv_loadCell rfl (fr_eval rfl rfl) rfl ((ht.outs).rd _ hH.chg) (flat_get zOut cOut_len (by omega) (show (cOut (List.getD t.outs j zOut))[1]? = some ((List.getD t.outs j zOut).v.1) from zLk_g5) (by decide)) Try.underlying131 rfl Try.sz131) ?_
                  refine lf_val (v := .int .i64 ((k : Nat) : Int)) (wantAll rfl) (rv_move rfl (fr_eval rfl e5)) ?_
                  refine lf_val (v := .pointer (some (elemA ((List.getD t.outs j zOut).v.1) (k * 35)))) (wantAll rfl) (rv_index rfl (fr_eval rfl rfl) (fr_eval rfl rfl) (rdN (((ht.eachO _ (getD_memX (by omega))).ws).rd _ hH.chg) rfl) (show k < ((List.getD t.outs j zOut).ws).length from (by omega)) Try.underlying131 Try.sz135 (by decide)) ?_
                  refine lf_val (v := .pointer (some (elemA ((List.getD t.outs j zOut).v.1) (k * 35 + 0)))) (wantAll rfl) (rv_fieldElem (nn := 0) rfl (fr_eval rfl rfl) (((ht.eachO _ (getD_memX (by omega))).ws).rd _ hH.chg) (by omega) (by decide) Try.underlying135 rfl rfl (by kernel_rfl)) ?_
                  refine lf_val (wantAll rfl) (rv_loadCell rfl (fr_eval rfl rfl) rfl (((ht.eachO _ (getD_memX (by omega))).ws).rd _ hH.chg) (flat_get zWay cWay_len (by omega) (show (cWay (List.getD ((List.getD t.outs j zOut).ws) k zWay))[0]? = some ((List.getD ((List.getD t.outs j zOut).ws) k zWay).v.1) from (zLk_g6 ((List.getD ((List.getD t.outs j zOut).ws) k zWay).h.2))) (by decide)) Try.underlying109 rfl Try.sz109) ?_
                  refine lf_val (v := .int .i64 ((((List.getD ((List.getD t.outs j zOut).ws) k zWay).ks).length : Nat) : Int)) (wantAll rfl) (rv_len rfl (fr_eval rfl rfl) ((((ht.eachO _ (getD_memX (by omega))).each _ (getD_memX (by omega))).ks).rd _ hH.chg) Try.underlying109) ?_
                  refine lf_val (v := .bool (decide (((List.getD ((List.getD t.outs j zOut).ws) k zWay).ks).length > 20))) (wantAll rfl) (rv_gtrP (p := ((List.getD ((List.getD t.outs j zOut).ws) k zWay).ks).length > 20) rfl (fr_eval rfl rfl) rfl (by omega)) ?_
                  refine lf_nil ?_
                  refine then_n ?_
                  refine wp_gen (fun F' => F' 0 = .agg (([t.vi.1, t.vo.1, .int .i64 t.kd, .int .i64 t.tw, .int .i64 t.ch, .int .i64 t.am] : List Value) ++ (cBs t.root.1 ++ ([t.vd.1, t.vs.1] : List Value))).toArray ∧ F' 1 = .pointer (some ⟨g1, 0, none⟩) ∧ F' 3 = .int .i64 ((i : Nat) : Int) ∧ F' 4 = .int .i64 ((j : Nat) : Int) ∧ F' 5 = .int .i64 ((k : Nat) : Int) ∧ F' 28 = .bool false ∧ F' 33 = .bool false ∧ F' 48 = .bool true ∧ F' 58 = .bool false ∧ F' 67 = .bool true ∧ F' 81 = .bool (decide (((List.getD ((List.getD t.outs j zOut).ws) k zWay).ks).length > 20))) ⟨e0, e1, e3, e4, e5, e28, e33, e48, e58, (e67.trans (congrArg Value.bool (decide_eq_true hc9))), rfl⟩ ?_
                  clear e0 e1 e3 e4 e5 e28 e33 e48 e58 e67
                  clear F
                  rintro F ⟨e0, e1, e3, e4, e5, e28, e33, e48, e58, e67, e81⟩
                  by_cases hc10 : ((List.getD ((List.getD t.outs j zOut).ws) k zWay).ks).length > 20
                  · refine wp_cond_true (fr_eval rfl (e81.trans (congrArg Value.bool (decide_eq_true hc10)))) ?_
                    refine wp_seq ?_
                    refine wp_regionF ?_
                    refine lf_val (v := .int .i64 1) (wantAll rfl) (rv_assign rfl rfl) ?_
                    refine lf_nil ?_
                    refine then_n ?_
                    refine wp_gen (fun F' => F' 0 = .agg (([t.vi.1, t.vo.1, .int .i64 t.kd, .int .i64 t.tw, .int .i64 t.ch, .int .i64 t.am] : List Value) ++ (cBs t.root.1 ++ ([t.vd.1, t.vs.1] : List Value))).toArray ∧ F' 1 = .pointer (some ⟨g1, 0, none⟩) ∧ F' 2 = .int .i64 1 ∧ F' 3 = .int .i64 ((i : Nat) : Int) ∧ F' 4 = .int .i64 ((j : Nat) : Int) ∧ F' 5 = .int .i64 ((k : Nat) : Int) ∧ F' 28 = .bool false ∧ F' 33 = .bool false ∧ F' 48 = .bool true ∧ F' 58 = .bool false ∧ F' 67 = .bool true ∧ F' 81 = .bool true) ⟨e0, e1, rfl, e3, e4, e5, e28, e33, e48, e58, e67, (e81.trans (congrArg Value.bool (decide_eq_true hc10)))⟩ ?_
                    clear e0 e1 e3 e4 e5 e28 e33 e48 e58 e67 e81
                    clear F
                    rintro F ⟨e0, e1, e2, e3, e4, e5, e28, e33, e48, e58, e67, e81⟩
                    refine wp_ret ?_
                    refine blk_ret ?_
                    refine then_ret ?_
                    refine then_ret ?_
                    refine blk_ret ?_
                    refine blk_ret ?_
                    refine then_ret ?_
                    refine then_ret ?_
                    refine blk_ret ?_
                    refine then_ret ?_
                    exact bodyPost_ret (v := (.int .i64 1)) (res1 rfl (ro_tmp rfl e2)) rfl (⟨by rw [if_neg (fun h : smT t => by have := (h.2.2 _ (getD_memX (l := t.outs) (i := j) (d := zOut) (by omega))).2 _ (getD_memX (i := k) (d := zWay) (by omega)); omega)], hH.done⟩)
                  · refine wp_cond_false (fr_eval rfl (e81.trans (congrArg Value.bool (decide_eq_false hc10)))) ?_
                    refine wp_skip ?_
                    refine blk_n ?_
                    refine then_n ?_
                    refine wp_regionF ?_
                    refine lf_val (v := .int .i64 ((k : Nat) : Int)) (wantAll rfl) (rv_move rfl (fr_eval rfl e5)) ?_
                    refine lf_val (v := .int .i64 ((k + 1 : Nat) : Int)) (wantAll rfl) (rv_add rfl (fr_eval rfl rfl) rfl (wrap_i64 (by omega) (by omega) (by omega))) ?_
                    refine lf_val (v := .int .i64 ((k + 1 : Nat) : Int)) (wantAll rfl) (rv_assign rfl (fr_eval rfl rfl)) ?_
                    refine lf_nil ?_
                    refine then_n ?_
                    exact ⟨_, _, (by omega), rfl, k + 1, rfl, (by omega), (take_all (d := zWay) pk1 (by omega) (by omega)), e0, e1, e3, e4, rfl, e28, e33, e48, e58, hH⟩
                · refine wp_cond_false (fr_eval rfl (e67.trans (congrArg Value.bool (decide_eq_false hc9)))) ?_
                  refine wp_exit ?_
                  refine then_exit ?_
                  refine then_exit ?_
                  refine blk_exit ?_
                  refine blk_n ?_
                  refine then_n ?_
                  refine wp_regionF ?_
                  refine lf_val (v := .int .i64 ((j : Nat) : Int)) (wantAll rfl) (rv_move rfl (fr_eval rfl e4)) ?_
                  refine lf_val (v := .int .i64 ((j + 1 : Nat) : Int)) (wantAll rfl) (rv_add rfl (fr_eval rfl rfl) rfl (wrap_i64 (by omega) (by omega) (by omega))) ?_
                  refine lf_val (v := .int .i64 ((j + 1 : Nat) : Int)) (wantAll rfl) (rv_assign rfl (fr_eval rfl rfl)) ?_
                  refine lf_nil ?_
                  refine then_n ?_
                  exact ⟨_, _, (by omega), rfl, j + 1, rfl, (by omega), (take_all (d := zOut) pj1 (by omega) ⟨by omega, take_full pk1 (by omega)⟩), e0, e1, e3, rfl, e28, e33, hH⟩
            · refine wp_cond_false (fr_eval rfl (e48.trans (congrArg Value.bool (decide_eq_false hc7)))) ?_
              refine wp_exit ?_
              refine then_exit ?_
              refine then_exit ?_
              refine blk_exit ?_
              refine then_n ?_
              refine wp_seq ?_
              refine wp_regionF ?_
              refine lf_val (v := .int .i64 0) (wantAll rfl) (rv_assign rfl rfl) ?_
              refine lf_nil ?_
              refine then_n ?_
              refine wp_gen (fun F' => F' 0 = .agg (([t.vi.1, t.vo.1, .int .i64 t.kd, .int .i64 t.tw, .int .i64 t.ch, .int .i64 t.am] : List Value) ++ (cBs t.root.1 ++ ([t.vd.1, t.vs.1] : List Value))).toArray ∧ F' 1 = .pointer (some ⟨g1, 0, none⟩) ∧ F' 2 = .int .i64 0 ∧ F' 3 = .int .i64 ((i : Nat) : Int) ∧ F' 4 = .int .i64 ((j : Nat) : Int) ∧ F' 28 = .bool false ∧ F' 33 = .bool false ∧ F' 48 = .bool false) ⟨e0, e1, rfl, e3, e4, e28, e33, (e48.trans (congrArg Value.bool (decide_eq_false hc7)))⟩ ?_
              clear e0 e1 e3 e4 e28 e33 e48
              clear F
              rintro F ⟨e0, e1, e2, e3, e4, e28, e33, e48⟩
              refine wp_ret ?_
              exact bodyPost_ret (v := (.int .i64 0)) (res1 rfl (ro_tmp rfl e2)) rfl (⟨by rw [if_pos (show smT t from ⟨by omega, take_full pi1 (by omega), take_full pj1 (by omega)⟩)], hH.done⟩)

set_option maxRecDepth 100000 in
set_option maxHeartbeats 4000000 in
theorem small19_calls (l : List TxG) (v : Value) (w : World) (hts : ∀ t ∈ l, StTx (newN w) w t) (hr0 : Rd w 40 v l.length (l.flatMap cTx)) :
    Calls Try.prog 25 #[v] w fun e'' w' => e'' = .returned (.bool (decide (smL l))) ∧ Ext w w' := by
  refine calls_fr (args := [v]) (n := 19) Try.func25 rfl rfl (show 1 ≤ 19 by decide) ?_
  have hr := Rd.stab hr0
  have hH : Heap (newN w) w w [] := Heap.fresh
  refine wp_seq ?_
  refine wp_gen (fun F' => F' 0 = v) rfl ?_
  rintro F e0
  refine wp_regionF ?_
  refine lf_val (v := .bool false) (wantAll rfl) (rv_assign rfl rfl) ?_
  refine lf_nil ?_
  refine then_n ?_
  refine wp_seq ?_
  refine wp_seq ?_
  refine wp_gen (fun F' => F' 0 = v ∧ F' 2 = .bool false) ⟨e0, rfl⟩ ?_
  clear e0
  clear F
  rintro F ⟨e0, e2⟩
  refine wp_regionF ?_
  refine lf_val (v := v) (wantAll rfl) (rv_move rfl (fr_eval rfl e0)) ?_
  refine lf_val (v := .int .i64 ((l.length : Nat) : Int)) (wantAll rfl) (rv_len rfl (fr_eval rfl rfl) (hr.rd _ hH.chg) Try.underlying41) ?_
  refine lf_val (v := .bool (decide (l.length > 20))) (wantAll rfl) (rv_gtrP (p := l.length > 20) rfl (fr_eval rfl rfl) rfl (by omega)) ?_
  refine lf_nil ?_
  refine then_n ?_
  refine wp_gen (fun F' => F' 0 = v ∧ F' 2 = .bool false ∧ F' 6 = .bool (decide (l.length > 20))) ⟨e0, e2, rfl⟩ ?_
  clear e0 e2
  clear F
  rintro F ⟨e0, e2, e6⟩
  by_cases hc1 : l.length > 20
  · refine wp_cond_true (fr_eval rfl (e6.trans (congrArg Value.bool (decide_eq_true hc1)))) ?_
    refine wp_seq ?_
    refine wp_regionF ?_
    refine lf_val (v := .bool false) (wantAll rfl) (rv_assign rfl rfl) ?_
    refine lf_nil ?_
    refine then_n ?_
    refine wp_gen (fun F' => F' 0 = v ∧ F' 2 = .bool false ∧ F' 6 = .bool true) ⟨e0, rfl, (e6.trans (congrArg Value.bool (decide_eq_true hc1)))⟩ ?_
    clear e0 e2 e6
    clear F
    rintro F ⟨e0, e2, e6⟩
    refine wp_ret ?_
    refine then_ret ?_
    exact bodyPost_ret (v := (.bool false)) (res1 rfl (ro_tmp rfl e2)) rfl (⟨congrArg (fun b => Ending.returned (.bool b)) (decide_eq_false (fun h : smL l => by have := h.1; first | omega | contradiction)).symm, hH.done⟩)
  · refine wp_cond_false (fr_eval rfl (e6.trans (congrArg Value.bool (decide_eq_false hc1)))) ?_
    refine wp_skip ?_
    refine then_n ?_
    refine wp_seq ?_
    refine wp_seq ?_
    refine wp_regionF ?_
    refine lf_val (v := .int .i64 0) (wantAll rfl) (rv_assign rfl rfl) ?_
    refine lf_nil ?_
    refine then_n ?_
    refine wp_block ?_
    refine wp_gen (fun F' => F' 0 = v ∧ F' 2 = .bool false ∧ F' 3 = .int .i64 0 ∧ F' 6 = .bool false) ⟨e0, e2, rfl, (e6.trans (congrArg Value.bool (decide_eq_false hc1)))⟩ ?_
    clear e0 e2 e6
    clear F
    rintro F ⟨e0, e2, e3, e6⟩
    refine wp_loopF (fun m F wr => ∃ i : Nat, m = l.length - i ∧ i ≤ l.length ∧ (∀ t ∈ l.take i, smT t) ∧ F 0 = v ∧ F 3 = .int .i64 ((i : Nat) : Int) ∧ F 6 = .bool false ∧ Heap (newN w) w wr []) ⟨0, rfl, Nat.zero_le _, take_none, e0, e3, e6, hH⟩ ?_
    clear e0 e2 e3 e6 hH
    clear F
    rintro m F w1 ⟨i, rfl, pi0, pi1, e0, e3, e6, hH⟩
    refine wp_seq ?_
    refine wp_seq ?_
    refine wp_regionF ?_
    refine lf_val (v := .int .i64 ((i : Nat) : Int)) (wantAll rfl) (rv_move rfl (fr_eval rfl e3)) ?_
    refine lf_val (v := v) (wantAll rfl) (rv_move rfl (fr_eval rfl e0)) ?_
    refine lf_val (v := .int .i64 ((l.length : Nat) : Int)) (wantAll rfl) (rv_len rfl (fr_eval rfl rfl) (hr.rd _ hH.chg) Try.underlying41) ?_
    refine lf_val (v := .bool (decide (i < l.length))) (wantAll rfl) (rv_lssP (p := i < l.length) rfl (fr_eval rfl rfl) (fr_eval rfl rfl) (by omega)) ?_
    refine lf_nil ?_
    refine then_n ?_
    refine wp_gen (fun F' => F' 0 = v ∧ F' 3 = .int .i64 ((i : Nat) : Int) ∧ F' 6 = .bool false ∧ F' 10 = .bool (decide (i < l.length))) ⟨e0, e3, e6, rfl⟩ ?_
    clear e0 e3 e6
    clear F
    rintro F ⟨e0, e3, e6, e10⟩
    by_cases hc2 : i < l.length
    · refine wp_cond_true (fr_eval rfl (e10.trans (congrArg Value.bool (decide_eq_true hc2)))) ?_
      refine wp_skip ?_
      refine then_n ?_
      refine wp_seq ?_
      refine wp_block ?_
      refine wp_seq ?_
      refine wp_regionF ?_
      refine lf_val (v := v) (wantAll rfl) (rv_move rfl (fr_eval rfl e0)) ?_
      refine lf_val (v := .int .i64 ((i : Nat) : Int)) (wantAll rfl) (rv_move rfl (fr_eval rfl e3)) ?_
      refine lf_val (v := .pointer (some (elemA v (i * 40)))) (wantAll rfl) (rv_index rfl (fr_eval rfl rfl) (fr_eval rfl rfl) (rdN (hr.rd _ hH.chg) rfl) (show i < l.length from (by omega)) Try.underlying41 Try.sz63 (by decide)) ?_
      refine lf_val (wantAll rfl) (rv_loadElem rfl (fr_eval rfl rfl) (rdN (hr.rd _ hH.chg) rfl) (show i < l.length from (by omega)) (by decide) (flat_part zTx cTx_len (show i < l.length from (by omega))) Try.underlying63 rfl Try.sz63) ?_
      refine lf_call (wantAll rfl) (rv_call (args := [.agg (([(List.getD l i zTx).vi.1, (List.getD l i zTx).vo.1, .int .i64 ((List.getD l i zTx).kd), .int .i64 ((List.getD l i zTx).tw), .int .i64 ((List.getD l i zTx).ch), .int .i64 ((List.getD l i zTx).am)] : List Value) ++ (cBs ((List.getD l i zTx).root.1) ++ ([(List.getD l i zTx).vd.1, (List.getD l i zTx).vs.1] : List Value))).toArray]) rfl (evc (fr_eval rfl rfl) evn) Try.call63) (small08_calls (List.getD l i zTx) _ ((hts _ (getD_memX (by omega))).later hH.chg (newN_up hH.chg hH.up))) ?_
      rintro _ w2 ⟨rfl, hx⟩
      refine ⟨_, rfl, ?_⟩
      replace hH := hH.ext hx
      clear hx
      refine lf_val (v := .bool (decide (¬ smT (List.getD l i zTx)))) (wantAll rfl) (rv_neqP (p := ¬ smT (List.getD l i zTx)) rfl (fr_eval rfl rfl) rfl (by split <;> simp_all)) ?_
      refine lf_nil ?_
      refine then_n ?_
      refine wp_gen (fun F' => F' 0 = v ∧ F' 3 = .int .i64 ((i : Nat) : Int) ∧ F' 6 = .bool false ∧ F' 10 = .bool true ∧ F' 18 = .bool (decide (¬ smT (List.getD l i zTx)))) ⟨e0, e3, e6, (e10.trans (congrArg Value.bool (decide_eq_true hc2))), rfl⟩ ?_
      clear e0 e3 e6 e10
      clear F
      rintro F ⟨e0, e3, e6, e10, e18⟩
      by_cases hc3 : smT (List.getD l i zTx)
      · refine wp_cond_false (fr_eval rfl (e18.trans (congrArg Value.bool (decide_eq_false (not_not_intro hc3))))) ?_
        refine wp_skip ?_
        refine blk_n ?_
        refine then_n ?_
        refine wp_regionF ?_
        refine lf_val (v := .int .i64 ((i : Nat) : Int)) (wantAll rfl) (rv_move rfl (fr_eval rfl e3)) ?_
        refine lf_val (v := .int .i64 ((i + 1 : Nat) : Int)) (wantAll rfl) (rv_add rfl (fr_eval rfl rfl) rfl (wrap_i64 (by omega) (by omega) (by omega))) ?_
        refine lf_val (v := .int .i64 ((i + 1 : Nat) : Int)) (wantAll rfl) (rv_assign rfl (fr_eval rfl rfl)) ?_
        refine lf_nil ?_
        refine then_n ?_
        exact ⟨_, _, (by omega), rfl, i + 1, rfl, (by omega), (take_all (d := zTx) pi1 (by omega) (Decidable.not_not.1 (not_not_intro hc3))), e0, rfl, e6, hH⟩
      · refine wp_cond_true (fr_eval rfl (e18.trans (congrArg Value.bool (decide_eq_true hc3)))) ?_
        refine wp_seq ?_
        refine wp_regionF ?_
        refine lf_val (v := .bool false) (wantAll rfl) (rv_assign rfl rfl) ?_
        refine lf_nil ?_
        refine then_n ?_
        refine wp_gen (fun F' => F' 0 = v ∧ F' 2 = .bool false ∧ F' 3 = .int .i64 ((i : Nat) : Int) ∧ F' 6 = .bool false ∧ F' 10 = .bool true ∧ F' 18 = .bool true) ⟨e0, rfl, e3, e6, e10, (e18.trans (congrArg Value.bool (decide_eq_true hc3)))⟩ ?_
        clear e0 e3 e6 e10 e18
        clear F
        rintro F ⟨e0, e2, e3, e6, e10, e18⟩
        refine wp_ret ?_
        refine blk_ret ?_
        refine then_ret ?_
        refine then_ret ?_
        refine blk_ret ?_
        refine then_ret ?_
        exact bodyPost_ret (v := (.bool false)) (res1 rfl (ro_tmp rfl e2)) rfl (⟨congrArg (fun b => Ending.returned (.bool b)) (decide_eq_false (fun h : smL l => by have := h.2 _ (getD_memX (l := l) (i := i) (d := zTx) (by omega)); first | omega | contradiction)).symm, hH.done⟩)
    · refine wp_cond_false (fr_eval rfl (e10.trans (congrArg Value.bool (decide_eq_false hc2)))) ?_
      refine wp_exit ?_
      refine then_exit ?_
      refine then_exit ?_
      refine blk_exit ?_
      refine then_n ?_
      refine wp_seq ?_
      refine wp_regionF ?_
      refine lf_val (v := .bool true) (wantAll rfl) (rv_assign rfl rfl) ?_
      refine lf_nil ?_
      refine then_n ?_
      refine wp_gen (fun F' => F' 0 = v ∧ F' 2 = .bool true ∧ F' 3 = .int .i64 ((i : Nat) : Int) ∧ F' 6 = .bool false ∧ F' 10 = .bool false) ⟨e0, rfl, e3, e6, (e10.trans (congrArg Value.bool (decide_eq_false hc2)))⟩ ?_
      clear e0 e3 e6 e10
      clear F
      rintro F ⟨e0, e2, e3, e6, e10⟩
      refine wp_ret ?_
      exact bodyPost_ret (v := (.bool true)) (res1 rfl (ro_tmp rfl e2)) rfl (⟨congrArg (fun b => Ending.returned (.bool b)) (decide_eq_true (show smL l from ⟨by omega, take_full pi1 (by omega)⟩)).symm, hH.done⟩)

set_option maxRecDepth 100000 in
set_option maxHeartbeats 4000000 in
theorem awake19_calls (w : World) :
    Calls Try.prog 26 #[] w fun e'' w' => e'' = .returned (.bool true) ∧ Ext w w' := by
  refine calls_fr (args := []) (n := 29) Try.func26 rfl rfl (show 0 ≤ 29 by decide) ?_
  have hH : Heap (newN w) w w [] := Heap.fresh
  refine wp_seq ?_
  refine wp_gen (fun F' => True) trivial ?_
  rintro F _
  refine wp_regionF ?_
  refine lf_val (v := .bool false) (wantAll rfl) (rv_assign rfl rfl) ?_
  refine lf_nil ?_
  refine then_n ?_
  refine wp_seq ?_
  refine wp_gen (fun F' => F' 0 = .bool false) rfl ?_
  clear F
  rintro F e0
  refine wp_regionF ?_
  refine lf_val (wantAll rfl) (rv_buildS (ps := []) (places := #[(0, 32), (32, 1), (33, 32), (65, 1)]) (z := .agg (cBs (List.replicate 32 0) ++ (([.int .i64 0] : List Value) ++ (cBs (List.replicate 32 0) ++ ([.int .i64 0] : List Value)))).toArray) (zc := cBs (List.replicate 32 0) ++ (([.int .i64 0] : List Value) ++ (cBs (List.replicate 32 0) ++ ([.int .i64 0] : List Value)))) (cs := cBs (List.replicate 32 0) ++ (([.int .i64 0] : List Value) ++ (cBs (List.replicate 32 0) ++ ([.int .i64 0] : List Value)))) rfl evpn (by kernel_rfl) rfl Try.underlying40 (fun _ => by kernel_rfl) fill0) ?_
  refine lf_call (wantAll rfl) (rv_call (args := [.agg (cBs (List.replicate 32 0) ++ (([.int .i64 0] : List Value) ++ (cBs (List.replicate 32 0) ++ ([.int .i64 0] : List Value)))).toArray, .slice none 0 0]) rfl (evc (fr_eval rfl rfl) (evc rfl evn)) Try.call29) (bMake_yes zHd (by refine ⟨⟨?_, ?_⟩, ?_, ?_⟩ <;> decide) (by decide) [] (by decide) (fun t h => absurd h List.not_mem_nil) (by decide) _ _ (fun t h => absurd h List.not_mem_nil) Rd.nil) ?_
  rintro _ w1 ⟨y1, rfl, hP⟩
  refine ⟨_, rfl, ?_⟩
  have hx := hP.done
  replace hH : Heap _ _ _ [_] := hH.joinN hP (Stays.own (hP.own (i := 0) rfl) Stays.nil)
  clear hP
  clear hx
  refine lf_val (v := .tuple #[.agg (cBs ((headS zHd).1) ++ (([.int .i64 (zHd.h + 1)] : List Value) ++ (cBs ((rootS (List.map sumT [])).1) ++ ([.int .i64 ((([] : List TxG).length : Nat) : Int), y1] : List Value)))).toArray, .int .i64 0]) (wantAll rfl) (rv_move rfl (fr_eval rfl rfl)) ?_
  refine lf_val (v := .agg (cBs ((headS zHd).1) ++ (([.int .i64 (zHd.h + 1)] : List Value) ++ (cBs ((rootS (List.map sumT [])).1) ++ ([.int .i64 ((([] : List TxG).length : Nat) : Int), y1] : List Value)))).toArray) (wantAll rfl) (rv_extract rfl (fr_eval rfl rfl) rfl) ?_
  refine lf_val (v := .int .i64 0) (wantAll rfl) (rv_extract rfl (fr_eval rfl rfl) rfl) ?_
  refine lf_ex (wantAll rfl) (hx_alloc hH 43 (z := .agg (cBs (List.replicate 32 0) ++ (([.int .i64 0] : List Value) ++ (cBs (List.replicate 32 0) ++ ([.int .i64 0, .slice none 0 0] : List Value)))).toArray) (n := 67) (cs := cBs (List.replicate 32 0) ++ (([.int .i64 0] : List Value) ++ (cBs (List.replicate 32 0) ++ ([.int .i64 0, .slice none 0 0] : List Value)))) rfl (by kernel_rfl) (by rfl)) ?_
  clear hH
  rintro _ w2 ⟨g1, rfl, hH, hx⟩
  replace hH : Heap _ _ _ [_, _] := hH
  clear hx
  refine lf_sk (wantAll rfl) (hx_storeW hH (i := 1) (cs := cBs ((headS zHd).1) ++ (([.int .i64 (zHd.h + 1)] : List Value) ++ (cBs ((rootS (List.map sumT [])).1) ++ ([.int .i64 ((([] : List TxG).length : Nat) : Int), y1] : List Value)))) rfl rfl rfl (fr_eval rfl rfl) (fr_eval rfl rfl) (sz_len Try.sz43 (zLk_l7 ((headS zHd).2) ((rootS (List.map sumT [])).2))) (((zLk_l7 (List.length_replicate ..) (List.length_replicate ..))).trans ((zLk_l7 ((headS zHd).2) ((rootS (List.map sumT [])).2))).symm) (zLk_o8 rfl rfl (Rd.oneV (Own.rd (hH.own (i := 0) rfl) (row_one cTx_one))))) ?_
  clear hH
  rintro w3 ⟨hH, hx⟩
  replace hH : Heap _ _ _ [_, _] := hH
  clear hx
  refine lf_val (v := .int .i64 0) (wantAll rfl) (rv_assign rfl (fr_eval rfl rfl)) ?_
  refine lf_nil ?_
  refine then_n ?_
  refine wp_seq ?_
  refine wp_gen (fun F' => F' 0 = .bool false ∧ F' 1 = .pointer (some ⟨g1, 0, none⟩) ∧ F' 2 = .int .i64 0) ⟨e0, rfl, rfl⟩ ?_
  clear e0
  clear F
  rintro F ⟨e0, e1, e2⟩
  refine wp_regionF ?_
  refine lf_val (v := .int .i64 0) (wantAll rfl) (rv_move rfl (fr_eval rfl e2)) ?_
  refine lf_val (v := .bool true) (wantAll rfl) (rv_eql rfl (fr_eval rfl rfl) rfl (by decide)) ?_
  refine lf_val (v := .bool true) (wantAll rfl) (rv_move rfl (fr_eval rfl rfl)) ?_
  refine lf_val (wantF (d := 10) rfl (by kernel_rfl) rfl rfl) (rv_loadW rfl (hH.blk (i := 1) rfl) (fr_eval rfl e1) Try.underlying43 rfl (sz_len Try.sz43 (zLk_l7 ((headS zHd).2) ((rootS (List.map sumT [])).2)))) ?_
  refine lf_call (wantF (d := 10) rfl (by kernel_rfl) rfl rfl) (rv_call (args := [.agg (cBs ((headS zHd).1) ++ (([.int .i64 (zHd.h + 1)] : List Value) ++ (cBs ((rootS (List.map sumT [])).1) ++ ([.int .i64 ((([] : List TxG).length : Nat) : Int), y1] : List Value)))).toArray]) rfl (evc (fr_eval rfl rfl) evn) Try.call28) (calls_known (b' := true) (bRight_calls (⟨(headS zHd), zHd.h + 1, (rootS (List.map sumT [])), ((([] : List TxG).length : Nat) : Int)⟩ : Hd) (by refine ⟨⟨?_, ?_⟩, ?_, ?_⟩ <;> first | omega | decide | (simp only [List.length_replicate]; omega)) [] (by decide) (fun t h => absurd h List.not_mem_nil) _ _ (fun t h => absurd h List.not_mem_nil) (Own.rd (hH.own (i := 0) rfl) (row_one cTx_one))) (decide_eq_true ⟨⟨⟨⟨rfl, by decide⟩, by decide⟩, by decide⟩, rfl⟩)) ?_
  rintro _ w4 ⟨rfl, hx⟩
  refine ⟨_, rfl, ?_⟩
  replace hH := hH.ext hx
  clear hx
  refine lf_val (v := .bool true) (wantAll rfl) (rv_pickT rfl (fr_eval rfl rfl) (fr_eval rfl rfl)) ?_
  refine lf_val (v := .bool true) (wantAll rfl) (rv_move rfl (fr_eval rfl rfl)) ?_
  refine lf_val (v := .pointer (some ⟨g1, 0, none⟩)) (wantF (d := 14) rfl (by kernel_rfl) rfl rfl) (rv_fieldAddr (n := 65) rfl (fr_eval rfl e1) Try.underlying43 rfl rfl (by kernel_rfl)) ?_
  refine lf_val (v := .pointer (some ⟨g1, 32, none⟩)) (wantF (d := 14) rfl (by kernel_rfl) rfl rfl) (rv_fieldAddr (n := 0) rfl (fr_eval rfl rfl) Try.underlying40 rfl rfl (by kernel_rfl)) ?_
  refine lf_val (v := .int .i64 (zHd.h + 1)) (wantF (d := 14) rfl (by kernel_rfl) rfl rfl) (rv_load1 rfl (hH.blk (i := 1) rfl) (zLk_g9 ((headS zHd).2) ((rootS (List.map sumT [])).2)) (fr_eval rfl rfl) Try.underlying3 rfl Try.sz3) ?_
  refine lf_val (v := .bool true) (wantF (d := 14) rfl (by kernel_rfl) rfl rfl) (rv_eql rfl (fr_eval rfl rfl) rfl (by decide)) ?_
  refine lf_val (v := .bool true) (wantAll rfl) (rv_pickT rfl (fr_eval rfl rfl) (fr_eval rfl rfl)) ?_
  refine lf_val (v := .bool true) (wantAll rfl) (rv_move rfl (fr_eval rfl rfl)) ?_
  refine lf_val (wantF (d := 20) rfl (by kernel_rfl) rfl rfl) (rv_buildS (ps := []) (places := #[(0, 1), (1, 1), (2, 37), (39, 1)]) (z := .agg (([.slice none 0 0, .slice none 0 0, .int .i64 0, .int .i64 0, .int .i64 0, .int .i64 0] : List Value) ++ (cBs (List.replicate 32 0) ++ ([.slice none 0 0, .slice none 0 0] : List Value))).toArray) (zc := ([.slice none 0 0, .slice none 0 0, .int .i64 0, .int .i64 0, .int .i64 0, .int .i64 0] : List Value) ++ (cBs (List.replicate 32 0) ++ ([.slice none 0 0, .slice none 0 0] : List Value))) (cs := ([.slice none 0 0, .slice none 0 0, .int .i64 0, .int .i64 0, .int .i64 0, .int .i64 0] : List Value) ++ (cBs (List.replicate 32 0) ++ ([.slice none 0 0, .slice none 0 0] : List Value))) rfl evpn (by kernel_rfl) rfl Try.underlying63 (fun _ => by kernel_rfl) fill0) ?_
  refine lf_ex (wantF (d := 20) rfl (by kernel_rfl) rfl rfl) (hx_lit1 hH Try.stTx (cs := cTx zTx) (xs := List.flatMap cTx [zTx]) rfl (fr_eval rfl rfl) (cTx_ln zTx) (by decide) (List.flatMap_singleton ..).symm) ?_
  clear hH
  rintro y2 w5 ⟨hH, hx⟩
  replace hH : Heap _ _ _ [_, _, _] := hH
  clear hx
  refine lf_val (wantF (d := 20) rfl (by kernel_rfl) rfl rfl) (rv_buildS (ps := [(1, (.tmp 22))]) (places := #[(0, 66), (66, 1)]) (z := .agg (cBs (List.replicate 32 0) ++ (([.int .i64 0] : List Value) ++ (cBs (List.replicate 32 0) ++ ([.int .i64 0, .slice none 0 0] : List Value)))).toArray) (zc := cBs (List.replicate 32 0) ++ (([.int .i64 0] : List Value) ++ (cBs (List.replicate 32 0) ++ ([.int .i64 0, .slice none 0 0] : List Value)))) (cs := cBs (List.replicate 32 0) ++ (([.int .i64 0] : List Value) ++ (cBs (List.replicate 32 0) ++ ([.int .i64 0, y2] : List Value)))) rfl (evpc (fr_eval rfl rfl) evpn) (by kernel_rfl) rfl Try.underlying43 (fun _ => by kernel_rfl) (fillM (cells' := _) (cs := [y2]) (off := 66) (n := 1) rfl (cells_one (Rd.oneV (Own.rd (hH.own (i := 2) rfl) (row_one cTx_one)))) (show List.length [y2] = 1 from rfl) (le_of_len2 (zLk_l7 (List.length_replicate ..) (List.length_replicate ..)) (by decide)) (zLk_y10 (List.length_replicate ..) (List.length_replicate ..)) fill0)) ?_
  refine lf_call (wantF (d := 20) rfl (by kernel_rfl) rfl rfl) (rv_call (args := [.agg (cBs (List.replicate 32 0) ++ (([.int .i64 0] : List Value) ++ (cBs (List.replicate 32 0) ++ ([.int .i64 0, y2] : List Value)))).toArray]) rfl (evc (fr_eval rfl rfl) evn) Try.call28) (calls_known (b' := false) (bRight_calls zHd (by refine ⟨⟨?_, ?_⟩, ?_, ?_⟩ <;> decide) [zTx] (by decide) (fun t h => by rw [List.mem_singleton.1 h]; exact smT_zero) _ _ (fun t h => by rw [List.mem_singleton.1 h]; exact StTx.zero) (Own.rd (hH.own (i := 2) rfl) (row_one cTx_one))) (decide_eq_false (fun h => absurd h.1.1.1.1 (by decide)))) ?_
  rintro _ w6 ⟨rfl, hx⟩
  refine ⟨_, rfl, ?_⟩
  replace hH := hH.ext hx
  clear hx
  refine lf_val (v := .bool true) (wantF (d := 20) rfl (by kernel_rfl) rfl rfl) (rv_not (b := false) rfl (fr_eval rfl rfl)) ?_
  refine lf_val (v := .bool true) (wantAll rfl) (rv_pickT rfl (fr_eval rfl rfl) (fr_eval rfl rfl)) ?_
  refine lf_val (v := .bool true) (wantAll rfl) (rv_move rfl (fr_eval rfl rfl)) ?_
  refine lf_val (v := .bool true) (wantAll rfl) (rv_pickT rfl (fr_eval rfl rfl) rfl) ?_
  refine lf_val (v := .bool true) (wantAll rfl) (rv_assign rfl (fr_eval rfl rfl)) ?_
  refine lf_nil ?_
  refine then_n ?_
  replace hH : Heap _ _ _ [_, _] := hH.drop (.cons_cons _ (.cons_cons _ (.cons _ .slnil)))
  refine wp_gen (fun F' => F' 0 = .bool true ∧ F' 1 = .pointer (some ⟨g1, 0, none⟩) ∧ F' 2 = .int .i64 0) ⟨rfl, e1, e2⟩ ?_
  clear e0 e1 e2
  clear F
  rintro F ⟨e0, e1, e2⟩
  refine wp_ret ?_
  exact bodyPost_ret (v := (.bool true)) (res1 rfl (ro_tmp rfl e0)) rfl (⟨rfl, hH.done⟩)

set_option maxRecDepth 100000 in
set_option maxHeartbeats 4000000 in
theorem blockRights_walk (x : Hd) (hin : inHd x) (l : List TxG) (v : Value) (w : World) (hts : ∀ t ∈ l, StTx (newN w) w t) (hr0 : Rd w 40 v l.length (l.flatMap cTx)) :
    Calls Try.prog 6 #[.agg (cBs x.a.1 ++ (([.int .i64 x.h] : List Value) ++ (cBs x.r.1 ++ ([.int .i64 x.m, v] : List Value)))).toArray] w fun e'' w' => e'' = .returned (.bool true) ∧ Ext w w' := by
  refine calls_fr (args := [.agg (cBs x.a.1 ++ (([.int .i64 x.h] : List Value) ++ (cBs x.r.1 ++ ([.int .i64 x.m, v] : List Value)))).toArray]) (n := 45) Try.func6 rfl rfl (show 1 ≤ 45 by decide) ?_
  obtain ⟨⟨hi1, hi2⟩, hi3, hi4⟩ := id hin
  have hr := Rd.stab hr0
  have hH : Heap (newN w) w w [] := Heap.fresh
  refine wp_seq ?_
  refine wp_gen (fun F' => F' 0 = .agg (cBs x.a.1 ++ (([.int .i64 x.h] : List Value) ++ (cBs x.r.1 ++ ([.int .i64 x.m, v] : List Value)))).toArray) rfl ?_
  rintro F e0
  refine wp_regionF ?_
  refine lf_ex (wantAll rfl) (hx_box hH 43 (cs := cBs x.a.1 ++ (([.int .i64 x.h] : List Value) ++ (cBs x.r.1 ++ ([.int .i64 x.m, v] : List Value)))) rfl (fr_eval rfl e0) (by rfl)) ?_
  clear hH
  rintro _ w1 ⟨g1, rfl, hH, hx⟩
  replace hH : Heap _ _ _ [_] := hH
  clear hx
  refine lf_val (v := .bool false) (wantAll rfl) (rv_assign rfl rfl) ?_
  refine lf_nil ?_
  refine then_n ?_
  refine wp_seq ?_
  refine wp_seq ?_
  refine wp_gen (fun F' => F' 0 = .agg (cBs x.a.1 ++ (([.int .i64 x.h] : List Value) ++ (cBs x.r.1 ++ ([.int .i64 x.m, v] : List Value)))).toArray ∧ F' 1 = .pointer (some ⟨g1, 0, none⟩) ∧ F' 2 = .bool false) ⟨e0, rfl, rfl⟩ ?_
  clear e0
  clear F
  rintro F ⟨e0, e1, e2⟩
  by_cases hf1 : smL l
  · refine wp_regionF ?_
    refine lf_val (v := .pointer (some ⟨g1, 66, none⟩)) (wantAll rfl) (rv_fieldAddr (n := 0) rfl (fr_eval rfl e1) Try.underlying43 rfl rfl (by kernel_rfl)) ?_
    refine lf_val (v := v) (wantAll rfl) (rv_load1 rfl (hH.blk (i := 0) rfl) (zLk_g11 x.a.2 x.r.2) (fr_eval rfl rfl) Try.underlying41 rfl Try.sz41) ?_
    refine lf_call (wantAll rfl) (rv_call (args := [v]) rfl (evc (fr_eval rfl rfl) evn) Try.call25) (calls_known (b' := true) (small19_calls l _ _ (fun t ht => (hts t ht).later hH.chg (newN_up hH.chg hH.up)) (hr.rd _ hH.chg)) (decide_eq_true hf1)) ?_
    rintro _ w2 ⟨rfl, hx⟩
    refine ⟨_, rfl, ?_⟩
    replace hH := hH.ext hx
    clear hx
    refine lf_val (v := .bool false) (wantAll rfl) (rv_not (b := true) rfl (fr_eval rfl rfl)) ?_
    refine lf_nil ?_
    refine then_n ?_
    refine wp_gen (fun F' => F' 0 = .agg (cBs x.a.1 ++ (([.int .i64 x.h] : List Value) ++ (cBs x.r.1 ++ ([.int .i64 x.m, v] : List Value)))).toArray ∧ F' 1 = .pointer (some ⟨g1, 0, none⟩) ∧ F' 2 = .bool false ∧ F' 7 = .bool false) ⟨e0, e1, e2, rfl⟩ ?_
    clear e0 e1 e2
    clear F
    rintro F ⟨e0, e1, e2, e7⟩
    refine wp_cond_false (fr_eval rfl e7) ?_
    refine wp_skip ?_
    refine then_n ?_
    refine wp_seq ?_
    have hs := (hf1 : smL l).2
    have hl20 : l.length ≤ 20 := (hf1 : smL l).1
    have hml : (List.map sumT l).length = l.length := List.length_map ..
    refine wp_regionX (fun _ => False) 27 (by kernel_rfl) (by kernel_rfl) ?_
    refine xl_take (i := 0) (v := .pointer (some ⟨g1, 0, none⟩)) rfl (by kernel_rfl) (by kernel_rfl) (by kernel_rfl) (by kernel_rfl) (yx_val (wantAll rfl) (fun w' hx' => rv_fieldAddr (n := 65) rfl (fr_eval rfl e1) Try.underlying43 rfl rfl (by kernel_rfl))) ?_
    refine xl_take (i := 1) (v := .pointer (some ⟨g1, 65, none⟩)) rfl (by kernel_rfl) (by kernel_rfl) (by kernel_rfl) (by kernel_rfl) (yx_val (wantAll rfl) (fun w' hx' => rv_fieldAddr (n := 0) rfl (fr_eval rfl rfl) Try.underlying40 rfl rfl (by kernel_rfl))) ?_
    refine xl_take (i := 2) (v := .int .i64 x.m) rfl (by kernel_rfl) (by kernel_rfl) (by kernel_rfl) (by kernel_rfl) (yx_val (wantAll rfl) (fun w' hx' => rv_load1 rfl ((hH.ext hx').blk (i := 0) rfl) (zLk_g12 x.a.2 x.r.2) (fr_eval rfl rfl) Try.underlying3 rfl Try.sz3)) ?_
    refine xl_take (i := 3) (v := .pointer (some ⟨g1, 66, none⟩)) rfl (by kernel_rfl) (by kernel_rfl) (by kernel_rfl) (by kernel_rfl) (yx_val (wantAll rfl) (fun w' hx' => rv_fieldAddr (n := 0) rfl (fr_eval rfl e1) Try.underlying43 rfl rfl (by kernel_rfl))) ?_
    refine xl_take (i := 4) (v := v) rfl (by kernel_rfl) (by kernel_rfl) (by kernel_rfl) (by kernel_rfl) (yx_val (wantAll rfl) (fun w' hx' => rv_load1 rfl ((hH.ext hx').blk (i := 0) rfl) (zLk_g11 x.a.2 x.r.2) (fr_eval rfl rfl) Try.underlying41 rfl Try.sz41)) ?_
    refine xl_take (i := 5) (v := .int .i64 ((l.length : Nat) : Int)) rfl (by kernel_rfl) (by kernel_rfl) (by kernel_rfl) (by kernel_rfl) (yx_val (wantAll rfl) (fun w' hx' => rv_len rfl (fr_eval rfl rfl) (hr.rd _ (hH.chg.trans (Ext.any hx'))) Try.underlying41)) ?_
    refine xl_take (i := 6) (v := .bool (decide (x.m = ((l.length : Nat) : Int)))) rfl (by kernel_rfl) (by kernel_rfl) (by kernel_rfl) (by kernel_rfl) (yx_val (wantAll rfl) (fun w' hx' => rv_eqlP (p := x.m = ((l.length : Nat) : Int)) rfl (fr_eval rfl rfl) (fr_eval rfl rfl) Iff.rfl)) ?_
    refine xl_take (i := 7) (v := .bool (decide (x.m = ((l.length : Nat) : Int)))) rfl (by kernel_rfl) (by kernel_rfl) (by kernel_rfl) (by kernel_rfl) (yx_val (wantAll rfl) (fun w' hx' => rv_move rfl (fr_eval rfl rfl))) ?_
    by_cases hc1 : x.m = ((l.length : Nat) : Int)
    · refine xl_take (i := 8) (v := .pointer (some ⟨g1, 0, none⟩)) rfl (by kernel_rfl) (by kernel_rfl) (by kernel_rfl) (by kernel_rfl) (yx_val (wantF (d := 16) rfl (by kernel_rfl) rfl (congrArg Value.bool (decide_eq_true hc1))) (fun w' hx' => rv_fieldAddr (n := 65) rfl (fr_eval rfl e1) Try.underlying43 rfl rfl (by kernel_rfl))) ?_
      refine xl_take (i := 9) (v := .pointer (some ⟨g1, 32, none⟩)) rfl (by kernel_rfl) (by kernel_rfl) (by kernel_rfl) (by kernel_rfl) (yx_val (wantF (d := 16) rfl (by kernel_rfl) rfl (congrArg Value.bool (decide_eq_true hc1))) (fun w' hx' => rv_fieldAddr (n := 0) rfl (fr_eval rfl rfl) Try.underlying40 rfl rfl (by kernel_rfl))) ?_
      refine xl_take (i := 10) (v := .int .i64 x.h) rfl (by kernel_rfl) (by kernel_rfl) (by kernel_rfl) (by kernel_rfl) (yx_val (wantF (d := 16) rfl (by kernel_rfl) rfl (congrArg Value.bool (decide_eq_true hc1))) (fun w' hx' => rv_load1 rfl ((hH.ext hx').blk (i := 0) rfl) (zLk_g9 x.a.2 x.r.2) (fr_eval rfl rfl) Try.underlying3 rfl Try.sz3)) ?_
      refine xl_take (i := 11) (v := .bool (decide (x.h ≥ 0))) rfl (by kernel_rfl) (by kernel_rfl) (by kernel_rfl) (by kernel_rfl) (yx_val (wantF (d := 16) rfl (by kernel_rfl) rfl (congrArg Value.bool (decide_eq_true hc1))) (fun w' hx' => rv_geqP (p := x.h ≥ 0) rfl (fr_eval rfl rfl) rfl Iff.rfl)) ?_
      refine xl_take (i := 12) (v := .bool (decide (x.h ≥ 0))) rfl (by kernel_rfl) (by kernel_rfl) (by kernel_rfl) (by kernel_rfl) (yx_val (wantAll rfl) (fun w' hx' => rv_pickT rfl (fr_eval rfl (congrArg Value.bool (decide_eq_true hc1))) (fr_eval rfl rfl))) ?_
      refine xl_take (i := 13) (v := .bool (decide (x.h ≥ 0))) rfl (by kernel_rfl) (by kernel_rfl) (by kernel_rfl) (by kernel_rfl) (yx_val (wantAll rfl) (fun w' hx' => rv_move rfl (fr_eval rfl rfl))) ?_
      by_cases hc2 : x.h ≥ 0
      · refine xl_take (i := 14) (v := .pointer (some ⟨g1, 0, none⟩)) rfl (by kernel_rfl) (by kernel_rfl) (by kernel_rfl) (by kernel_rfl) (yx_val (wantF (d := 22) rfl (by kernel_rfl) rfl (congrArg Value.bool (decide_eq_true hc2))) (fun w' hx' => rv_fieldAddr (n := 65) rfl (fr_eval rfl e1) Try.underlying43 rfl rfl (by kernel_rfl))) ?_
        refine xl_take (i := 15) (v := .pointer (some ⟨g1, 32, none⟩)) rfl (by kernel_rfl) (by kernel_rfl) (by kernel_rfl) (by kernel_rfl) (yx_val (wantF (d := 22) rfl (by kernel_rfl) rfl (congrArg Value.bool (decide_eq_true hc2))) (fun w' hx' => rv_fieldAddr (n := 0) rfl (fr_eval rfl rfl) Try.underlying40 rfl rfl (by kernel_rfl))) ?_
        refine xl_take (i := 16) (v := .int .i64 x.h) rfl (by kernel_rfl) (by kernel_rfl) (by kernel_rfl) (by kernel_rfl) (yx_val (wantF (d := 22) rfl (by kernel_rfl) rfl (congrArg Value.bool (decide_eq_true hc2))) (fun w' hx' => rv_load1 rfl ((hH.ext hx').blk (i := 0) rfl) (zLk_g9 x.a.2 x.r.2) (fr_eval rfl rfl) Try.underlying3 rfl Try.sz3)) ?_
        refine xl_take (i := 17) (v := .bool (decide (x.h ≤ 1073741824))) rfl (by kernel_rfl) (by kernel_rfl) (by kernel_rfl) (by kernel_rfl) (yx_val (wantF (d := 22) rfl (by kernel_rfl) rfl (congrArg Value.bool (decide_eq_true hc2))) (fun w' hx' => rv_leqP (p := x.h ≤ 1073741824) rfl (fr_eval rfl rfl) rfl Iff.rfl)) ?_
        refine xl_take (i := 18) (v := .bool (decide (x.h ≤ 1073741824))) rfl (by kernel_rfl) (by kernel_rfl) (by kernel_rfl) (by kernel_rfl) (yx_val (wantAll rfl) (fun w' hx' => rv_pickT rfl (fr_eval rfl (congrArg Value.bool (decide_eq_true hc2))) (fr_eval rfl rfl))) ?_
        refine xl_take (i := 19) (v := .bool (decide (x.h ≤ 1073741824))) rfl (by kernel_rfl) (by kernel_rfl) (by kernel_rfl) (by kernel_rfl) (yx_val (wantAll rfl) (fun w' hx' => rv_move rfl (fr_eval rfl rfl))) ?_
        by_cases hc3 : x.h ≤ 1073741824
        · refine xl_take (i := 20) (v := .pointer (some ⟨g1, 0, none⟩)) rfl (by kernel_rfl) (by kernel_rfl) (by kernel_rfl) (by kernel_rfl) (yx_val (wantF (d := 28) rfl (by kernel_rfl) rfl (congrArg Value.bool (decide_eq_true hc3))) (fun w' hx' => rv_fieldAddr (n := 65) rfl (fr_eval rfl e1) Try.underlying43 rfl rfl (by kernel_rfl))) ?_
          refine xl_take (i := 21) (v := .pointer (some ⟨g1, 33, none⟩)) rfl (by kernel_rfl) (by kernel_rfl) (by kernel_rfl) (by kernel_rfl) (yx_val (wantF (d := 28) rfl (by kernel_rfl) rfl (congrArg Value.bool (decide_eq_true hc3))) (fun w' hx' => rv_fieldAddr (n := 31) rfl (fr_eval rfl rfl) Try.underlying40 rfl rfl (by kernel_rfl))) ?_
          refine xl_take (i := 22) (v := .agg (cBs x.r.1).toArray) rfl (by kernel_rfl) (by kernel_rfl) (by kernel_rfl) (by kernel_rfl) (yx_val (wantF (d := 28) rfl (by kernel_rfl) rfl (congrArg Value.bool (decide_eq_true hc3))) (fun w' hx' => rv_loadP rfl ((hH.ext hx').blk (i := 0) rfl) (zLk_p13 x.a.2 x.r.2) (cBs_len x.r.2) (fr_eval rfl rfl) Try.underlying23 rfl Try.sz23)) ?_
          refine xl_take (i := 23) (v := .pointer (some ⟨g1, 66, none⟩)) rfl (by kernel_rfl) (by kernel_rfl) (by kernel_rfl) (by kernel_rfl) (yx_val (wantF (d := 28) rfl (by kernel_rfl) rfl (congrArg Value.bool (decide_eq_true hc3))) (fun w' hx' => rv_fieldAddr (n := 0) rfl (fr_eval rfl e1) Try.underlying43 rfl rfl (by kernel_rfl))) ?_
          refine xl_take (i := 24) (v := v) rfl (by kernel_rfl) (by kernel_rfl) (by kernel_rfl) (by kernel_rfl) (yx_val (wantF (d := 28) rfl (by kernel_rfl) rfl (congrArg Value.bool (decide_eq_true hc3))) (fun w' hx' => rv_load1 rfl ((hH.ext hx').blk (i := 0) rfl) (zLk_g11 x.a.2 x.r.2) (fr_eval rfl rfl) Try.underlying41 rfl Try.sz41)) ?_
          refine anyX_ready (rs := [25]) (by kernel_rfl) ?_
          intro w3 hx
          replace hH := hH.ext hx
          clear hx
          refine (anyX_cons ?_ anyX_nil)
          refine xl_step (i := 25) rfl (wantF (d := 28) rfl (by kernel_rfl) rfl (congrArg Value.bool (decide_eq_true hc3))) ?_
          refine of_call (rv_call (args := [v]) rfl (evc (fr_eval rfl rfl) evn) Try.call27) (sums19_calls l (by omega) hs _ _ (fun t ht => (hts t ht).later hH.chg (newN_up hH.chg hH.up)) (hr.rd _ hH.chg)) ?_
          rintro _ w4 ⟨⟨y1, rfl, ho, hg⟩, hx⟩
          refine ⟨_, rfl, ?_⟩
          replace hH : Heap _ _ _ [_, _] := hH.addOwn hx hg ho
          clear ho hg
          refine ⟨hx, ?_⟩
          clear hx
          refine xl_take (i := 26) (v := .agg (cBs ((rootS (List.map sumT l)).1)).toArray) rfl (by kernel_rfl) (by kernel_rfl) (by kernel_rfl) (by kernel_rfl) (yx_call (wantF (d := 28) rfl (by kernel_rfl) rfl (congrArg Value.bool (decide_eq_true hc3))) (fun w' => rv_call (args := [y1]) rfl (evc (fr_eval rfl rfl) evn) Try.call19) (fun w' hx' => root_calls (List.map sumT l) (by first | omega | (simp only [List.length_map]; omega) | decide | (simp only [List.length_map, List.length_replicate]; omega)) _ _ (Own.rd ((hH.ext hx').own (i := 1) rfl) (row_one cS_one)))) ?_
          refine xl_tail (s := 27) rfl ?_
          intro w5 hx
          replace hH := hH.ext hx
          clear hx
          refine lf_val (v := .bool (decide (x.r.1 = (rootS (List.map sumT l)).1))) (wantF (d := 28) rfl (by kernel_rfl) rfl (congrArg Value.bool (decide_eq_true hc3))) (eqT rfl (fr_eval rfl rfl) (fr_eval rfl rfl) x.r.2 (rootS (List.map sumT l)).2 (beq_dec _ _)) ?_
          refine lf_val (v := .bool (decide (x.r.1 = (rootS (List.map sumT l)).1))) (wantAll rfl) (rv_pickT rfl (fr_eval rfl (congrArg Value.bool (decide_eq_true hc3))) (fr_eval rfl rfl)) ?_
          refine lf_val (v := .bool (decide (x.r.1 = (rootS (List.map sumT l)).1))) (wantAll rfl) (rv_assign rfl (fr_eval rfl rfl)) ?_
          refine lf_nil ?_
          refine then_n ?_
          refine wp_seq ?_
          replace hH : Heap _ _ _ [_] := hH.drop (.cons_cons _ (.cons _ .slnil))
          refine wp_gen (fun F' => F' 0 = .agg (cBs x.a.1 ++ (([.int .i64 x.h] : List Value) ++ (cBs x.r.1 ++ ([.int .i64 x.m, v] : List Value)))).toArray ∧ F' 1 = .pointer (some ⟨g1, 0, none⟩) ∧ F' 2 = .bool false ∧ F' 3 = .bool (decide (x.r.1 = (rootS (List.map sumT l)).1)) ∧ F' 7 = .bool false) ⟨e0, e1, e2, rfl, e7⟩ ?_
          clear e0 e1 e2 e7
          clear F
          rintro F ⟨e0, e1, e2, e3, e7⟩
          refine wp_regionF ?_
          refine lf_val (wantAll rfl) (rv_loadW rfl (hH.blk (i := 0) rfl) (fr_eval rfl e1) Try.underlying43 rfl (sz_len Try.sz43 (zLk_l7 x.a.2 x.r.2))) ?_
          refine lf_call (wantAll rfl) (rv_call (args := [.agg (cBs x.a.1 ++ (([.int .i64 x.h] : List Value) ++ (cBs x.r.1 ++ ([.int .i64 x.m, v] : List Value)))).toArray]) rfl (evc (fr_eval rfl rfl) evn) Try.call28) (bRight_calls x hin l (by omega) hs _ _ (fun t ht => (hts t ht).later hH.chg (newN_up hH.chg hH.up)) (hr.rd _ hH.chg)) ?_
          rintro _ w6 ⟨rfl, hx⟩
          refine ⟨_, rfl, ?_⟩
          replace hH := hH.ext hx
          clear hx
          refine lf_val (wantAll rfl) (rv_move rfl (fr_eval rfl e3)) ?_
          refine lf_val (v := .bool true) (wantAll rfl) (rv_eqb (d := true) rfl (fr_eval rfl rfl) (fr_eval rfl rfl) Try.underlying4 (beq_iff_eq.2 (decide_eq_decide.2 ⟨fun h => h.2, fun h => ⟨by omega, h⟩⟩))) ?_
          refine lf_val (v := .bool true) (wantAll rfl) (rv_move rfl (fr_eval rfl rfl)) ?_
          refine lf_call (wantF (d := 42) rfl (by kernel_rfl) rfl rfl) (rv_call (args := []) rfl evn Try.call26) (awake19_calls _) ?_
          rintro _ w7 ⟨rfl, hx⟩
          refine ⟨_, rfl, ?_⟩
          replace hH := hH.ext hx
          clear hx
          refine lf_val (v := .bool true) (wantAll rfl) (rv_pickT rfl (fr_eval rfl rfl) (fr_eval rfl rfl)) ?_
          refine lf_val (v := .bool true) (wantAll rfl) (rv_assign rfl (fr_eval rfl rfl)) ?_
          refine lf_nil ?_
          refine then_n ?_
          refine wp_gen (fun F' => F' 0 = .agg (cBs x.a.1 ++ (([.int .i64 x.h] : List Value) ++ (cBs x.r.1 ++ ([.int .i64 x.m, v] : List Value)))).toArray ∧ F' 1 = .pointer (some ⟨g1, 0, none⟩) ∧ F' 2 = .bool true ∧ F' 3 = .bool (decide (x.r.1 = (rootS (List.map sumT l)).1)) ∧ F' 7 = .bool false) ⟨e0, e1, rfl, e3, e7⟩ ?_
          clear e0 e1 e2 e3 e7
          clear F
          rintro F ⟨e0, e1, e2, e3, e7⟩
          refine wp_ret ?_
          exact bodyPost_ret (v := (.bool true)) (res1 rfl (ro_tmp rfl e2)) rfl (⟨rfl, hH.done⟩)
        · refine xl_take (i := 20) (v := undef) rfl (by kernel_rfl) (by kernel_rfl) (by kernel_rfl) (by kernel_rfl) (yx_not (wantNot (d := 28) rfl (by kernel_rfl) rfl (congrArg Value.bool (decide_eq_false hc3)))) ?_
          refine xl_take (i := 21) (v := undef) rfl (by kernel_rfl) (by kernel_rfl) (by kernel_rfl) (by kernel_rfl) (yx_not (wantNot (d := 28) rfl (by kernel_rfl) rfl (congrArg Value.bool (decide_eq_false hc3)))) ?_
          refine xl_take (i := 22) (v := undef) rfl (by kernel_rfl) (by kernel_rfl) (by kernel_rfl) (by kernel_rfl) (yx_not (wantNot (d := 28) rfl (by kernel_rfl) rfl (congrArg Value.bool (decide_eq_false hc3)))) ?_
          refine xl_take (i := 23) (v := undef) rfl (by kernel_rfl) (by kernel_rfl) (by kernel_rfl) (by kernel_rfl) (yx_not (wantNot (d := 28) rfl (by kernel_rfl) rfl (congrArg Value.bool (decide_eq_false hc3)))) ?_
          refine xl_take (i := 24) (v := undef) rfl (by kernel_rfl) (by kernel_rfl) (by kernel_rfl) (by kernel_rfl) (yx_not (wantNot (d := 28) rfl (by kernel_rfl) rfl (congrArg Value.bool (decide_eq_false hc3)))) ?_
          refine xl_take (i := 25) (v := undef) rfl (by kernel_rfl) (by kernel_rfl) (by kernel_rfl) (by kernel_rfl) (yx_not (wantNot (d := 28) rfl (by kernel_rfl) rfl (congrArg Value.bool (decide_eq_false hc3)))) ?_
          refine xl_take (i := 26) (v := undef) rfl (by kernel_rfl) (by kernel_rfl) (by kernel_rfl) (by kernel_rfl) (yx_not (wantNot (d := 28) rfl (by kernel_rfl) rfl (congrArg Value.bool (decide_eq_false hc3)))) ?_
          refine xl_tail (s := 27) rfl ?_
          intro w8 hx
          replace hH := hH.ext hx
          clear hx
          refine lf_not (wantNot (d := 28) rfl (by kernel_rfl) rfl (congrArg Value.bool (decide_eq_false hc3))) ?_
          refine lf_val (v := .bool false) (wantAll rfl) (rv_pickF rfl (fr_eval rfl (congrArg Value.bool (decide_eq_false hc3))) rfl) ?_
          refine lf_val (v := .bool false) (wantAll rfl) (rv_assign rfl (fr_eval rfl rfl)) ?_
          refine lf_nil ?_
          refine then_n ?_
          refine wp_seq ?_
          refine wp_gen (fun F' => F' 0 = .agg (cBs x.a.1 ++ (([.int .i64 x.h] : List Value) ++ (cBs x.r.1 ++ ([.int .i64 x.m, v] : List Value)))).toArray ∧ F' 1 = .pointer (some ⟨g1, 0, none⟩) ∧ F' 2 = .bool false ∧ F' 3 = .bool false ∧ F' 7 = .bool false) ⟨e0, e1, e2, rfl, e7⟩ ?_
          clear e0 e1 e2 e7
          clear F
          rintro F ⟨e0, e1, e2, e3, e7⟩
          refine wp_regionF ?_
          refine lf_val (wantAll rfl) (rv_loadW rfl (hH.blk (i := 0) rfl) (fr_eval rfl e1) Try.underlying43 rfl (sz_len Try.sz43 (zLk_l7 x.a.2 x.r.2))) ?_
          refine lf_call (wantAll rfl) (rv_call (args := [.agg (cBs x.a.1 ++ (([.int .i64 x.h] : List Value) ++ (cBs x.r.1 ++ ([.int .i64 x.m, v] : List Value)))).toArray]) rfl (evc (fr_eval rfl rfl) evn) Try.call28) (bRight_calls x hin l (by omega) hs _ _ (fun t ht => (hts t ht).later hH.chg (newN_up hH.chg hH.up)) (hr.rd _ hH.chg)) ?_
          rintro _ w9 ⟨rfl, hx⟩
          refine ⟨_, rfl, ?_⟩
          replace hH := hH.ext hx
          clear hx
          refine lf_val (v := .bool false) (wantAll rfl) (rv_move rfl (fr_eval rfl e3)) ?_
          refine lf_val (v := .bool true) (wantAll rfl) (rv_eqb (d := true) rfl (fr_eval rfl rfl) (fr_eval rfl rfl) Try.underlying4 (beq_iff_eq.2 (decide_eq_false (fun h => by unfold RightP at h; omega)))) ?_
          refine lf_val (v := .bool true) (wantAll rfl) (rv_move rfl (fr_eval rfl rfl)) ?_
          refine lf_call (wantF (d := 42) rfl (by kernel_rfl) rfl rfl) (rv_call (args := []) rfl evn Try.call26) (awake19_calls _) ?_
          rintro _ w10 ⟨rfl, hx⟩
          refine ⟨_, rfl, ?_⟩
          replace hH := hH.ext hx
          clear hx
          refine lf_val (v := .bool true) (wantAll rfl) (rv_pickT rfl (fr_eval rfl rfl) (fr_eval rfl rfl)) ?_
          refine lf_val (v := .bool true) (wantAll rfl) (rv_assign rfl (fr_eval rfl rfl)) ?_
          refine lf_nil ?_
          refine then_n ?_
          refine wp_gen (fun F' => F' 0 = .agg (cBs x.a.1 ++ (([.int .i64 x.h] : List Value) ++ (cBs x.r.1 ++ ([.int .i64 x.m, v] : List Value)))).toArray ∧ F' 1 = .pointer (some ⟨g1, 0, none⟩) ∧ F' 2 = .bool true ∧ F' 3 = .bool false ∧ F' 7 = .bool false) ⟨e0, e1, rfl, e3, e7⟩ ?_
          clear e0 e1 e2 e3 e7
          clear F
          rintro F ⟨e0, e1, e2, e3, e7⟩
          refine wp_ret ?_
          exact bodyPost_ret (v := (.bool true)) (res1 rfl (ro_tmp rfl e2)) rfl (⟨rfl, hH.done⟩)
      · refine xl_take (i := 14) (v := undef) rfl (by kernel_rfl) (by kernel_rfl) (by kernel_rfl) (by kernel_rfl) (yx_not (wantNot (d := 22) rfl (by kernel_rfl) rfl (congrArg Value.bool (decide_eq_false hc2)))) ?_
        refine xl_take (i := 15) (v := undef) rfl (by kernel_rfl) (by kernel_rfl) (by kernel_rfl) (by kernel_rfl) (yx_not (wantNot (d := 22) rfl (by kernel_rfl) rfl (congrArg Value.bool (decide_eq_false hc2)))) ?_
        refine xl_take (i := 16) (v := undef) rfl (by kernel_rfl) (by kernel_rfl) (by kernel_rfl) (by kernel_rfl) (yx_not (wantNot (d := 22) rfl (by kernel_rfl) rfl (congrArg Value.bool (decide_eq_false hc2)))) ?_
        refine xl_take (i := 17) (v := undef) rfl (by kernel_rfl) (by kernel_rfl) (by kernel_rfl) (by kernel_rfl) (yx_not (wantNot (d := 22) rfl (by kernel_rfl) rfl (congrArg Value.bool (decide_eq_false hc2)))) ?_
        refine xl_take (i := 18) (v := .bool false) rfl (by kernel_rfl) (by kernel_rfl) (by kernel_rfl) (by kernel_rfl) (yx_val (wantAll rfl) (fun w' hx' => rv_pickF rfl (fr_eval rfl (congrArg Value.bool (decide_eq_false hc2))) rfl)) ?_
        refine xl_take (i := 19) (v := .bool false) rfl (by kernel_rfl) (by kernel_rfl) (by kernel_rfl) (by kernel_rfl) (yx_val (wantAll rfl) (fun w' hx' => rv_move rfl (fr_eval rfl rfl))) ?_
        refine xl_take (i := 20) (v := undef) rfl (by kernel_rfl) (by kernel_rfl) (by kernel_rfl) (by kernel_rfl) (yx_not (wantNot (d := 28) rfl (by kernel_rfl) rfl rfl)) ?_
        refine xl_take (i := 21) (v := undef) rfl (by kernel_rfl) (by kernel_rfl) (by kernel_rfl) (by kernel_rfl) (yx_not (wantNot (d := 28) rfl (by kernel_rfl) rfl rfl)) ?_
        refine xl_take (i := 22) (v := undef) rfl (by kernel_rfl) (by kernel_rfl) (by kernel_rfl) (by kernel_rfl) (yx_not (wantNot (d := 28) rfl (by kernel_rfl) rfl rfl)) ?_
        refine xl_take (i := 23) (v := undef) rfl (by kernel_rfl) (by kernel_rfl) (by kernel_rfl) (by kernel_rfl) (yx_not (wantNot (d := 28) rfl (by kernel_rfl) rfl rfl)) ?_
        refine xl_take (i := 24) (v := undef) rfl (by kernel_rfl) (by kernel_rfl) (by kernel_rfl) (by kernel_rfl) (yx_not (wantNot (d := 28) rfl (by kernel_rfl) rfl rfl)) ?_
        refine xl_take (i := 25) (v := undef) rfl (by kernel_rfl) (by kernel_rfl) (by kernel_rfl) (by kernel_rfl) (yx_not (wantNot (d := 28) rfl (by kernel_rfl) rfl rfl)) ?_
        refine xl_take (i := 26) (v := undef) rfl (by kernel_rfl) (by kernel_rfl) (by kernel_rfl) (by kernel_rfl) (yx_not (wantNot (d := 28) rfl (by kernel_rfl) rfl rfl)) ?_
        refine xl_tail (s := 27) rfl ?_
        intro w11 hx
        replace hH := hH.ext hx
        clear hx
        refine lf_not (wantNot (d := 28) rfl (by kernel_rfl) rfl rfl) ?_
        refine lf_val (v := .bool false) (wantAll rfl) (rv_pickF rfl (fr_eval rfl rfl) rfl) ?_
        refine lf_val (v := .bool false) (wantAll rfl) (rv_assign rfl (fr_eval rfl rfl)) ?_
        refine lf_nil ?_
        refine then_n ?_
        refine wp_seq ?_
        refine wp_gen (fun F' => F' 0 = .agg (cBs x.a.1 ++ (([.int .i64 x.h] : List Value) ++ (cBs x.r.1 ++ ([.int .i64 x.m, v] : List Value)))).toArray ∧ F' 1 = .pointer (some ⟨g1, 0, none⟩) ∧ F' 2 = .bool false ∧ F' 3 = .bool false ∧ F' 7 = .bool false) ⟨e0, e1, e2, rfl, e7⟩ ?_
        clear e0 e1 e2 e7
        clear F
        rintro F ⟨e0, e1, e2, e3, e7⟩
        refine wp_regionF ?_
        refine lf_val (wantAll rfl) (rv_loadW rfl (hH.blk (i := 0) rfl) (fr_eval rfl e1) Try.underlying43 rfl (sz_len Try.sz43 (zLk_l7 x.a.2 x.r.2))) ?_
        refine lf_call (wantAll rfl) (rv_call (args := [.agg (cBs x.a.1 ++ (([.int .i64 x.h] : List Value) ++ (cBs x.r.1 ++ ([.int .i64 x.m, v] : List Value)))).toArray]) rfl (evc (fr_eval rfl rfl) evn) Try.call28) (bRight_calls x hin l (by omega) hs _ _ (fun t ht => (hts t ht).later hH.chg (newN_up hH.chg hH.up)) (hr.rd _ hH.chg)) ?_
        rintro _ w12 ⟨rfl, hx⟩
        refine ⟨_, rfl, ?_⟩
        replace hH := hH.ext hx
        clear hx
        refine lf_val (v := .bool false) (wantAll rfl) (rv_move rfl (fr_eval rfl e3)) ?_
        refine lf_val (v := .bool true) (wantAll rfl) (rv_eqb (d := true) rfl (fr_eval rfl rfl) (fr_eval rfl rfl) Try.underlying4 (beq_iff_eq.2 (decide_eq_false (fun h => by unfold RightP at h; omega)))) ?_
        refine lf_val (v := .bool true) (wantAll rfl) (rv_move rfl (fr_eval rfl rfl)) ?_
        refine lf_call (wantF (d := 42) rfl (by kernel_rfl) rfl rfl) (rv_call (args := []) rfl evn Try.call26) (awake19_calls _) ?_
        rintro _ w13 ⟨rfl, hx⟩
        refine ⟨_, rfl, ?_⟩
        replace hH := hH.ext hx
        clear hx
        refine lf_val (v := .bool true) (wantAll rfl) (rv_pickT rfl (fr_eval rfl rfl) (fr_eval rfl rfl)) ?_
        refine lf_val (v := .bool true) (wantAll rfl) (rv_assign rfl (fr_eval rfl rfl)) ?_
        refine lf_nil ?_
        refine then_n ?_
        refine wp_gen (fun F' => F' 0 = .agg (cBs x.a.1 ++ (([.int .i64 x.h] : List Value) ++ (cBs x.r.1 ++ ([.int .i64 x.m, v] : List Value)))).toArray ∧ F' 1 = .pointer (some ⟨g1, 0, none⟩) ∧ F' 2 = .bool true ∧ F' 3 = .bool false ∧ F' 7 = .bool false) ⟨e0, e1, rfl, e3, e7⟩ ?_
        clear e0 e1 e2 e3 e7
        clear F
        rintro F ⟨e0, e1, e2, e3, e7⟩
        refine wp_ret ?_
        exact bodyPost_ret (v := (.bool true)) (res1 rfl (ro_tmp rfl e2)) rfl (⟨rfl, hH.done⟩)
    · refine xl_take (i := 8) (v := undef) rfl (by kernel_rfl) (by kernel_rfl) (by kernel_rfl) (by kernel_rfl) (yx_not (wantNot (d := 16) rfl (by kernel_rfl) rfl (congrArg Value.bool (decide_eq_false hc1)))) ?_
      refine xl_take (i := 9) (v := undef) rfl (by kernel_rfl) (by kernel_rfl) (by kernel_rfl) (by kernel_rfl) (yx_not (wantNot (d := 16) rfl (by kernel_rfl) rfl (congrArg Value.bool (decide_eq_false hc1)))) ?_
      refine xl_take (i := 10) (v := undef) rfl (by kernel_rfl) (by kernel_rfl) (by kernel_rfl) (by kernel_rfl) (yx_not (wantNot (d := 16) rfl (by kernel_rfl) rfl (congrArg Value.bool (decide_eq_false hc1)))) ?_
      refine xl_take (i := 11) (v := undef) rfl (by kernel_rfl) (by kernel_rfl) (by kernel_rfl) (by kernel_rfl) (yx_not (wantNot (d := 16) rfl (by kernel_rfl) rfl (congrArg Value.bool (decide_eq_false hc1)))) ?_
      refine xl_take (i := 12) (v := .bool false) rfl (by kernel_rfl) (by kernel_rfl) (by kernel_rfl) (by kernel_rfl) (yx_val (wantAll rfl) (fun w' hx' => rv_pickF rfl (fr_eval rfl (congrArg Value.bool (decide_eq_false hc1))) rfl)) ?_
      refine xl_take (i := 13) (v := .bool false) rfl (by kernel_rfl) (by kernel_rfl) (by kernel_rfl) (by kernel_rfl) (yx_val (wantAll rfl) (fun w' hx' => rv_move rfl (fr_eval rfl rfl))) ?_
      refine xl_take (i := 14) (v := undef) rfl (by kernel_rfl) (by kernel_rfl) (by kernel_rfl) (by kernel_rfl) (yx_not (wantNot (d := 22) rfl (by kernel_rfl) rfl rfl)) ?_
      refine xl_take (i := 15) (v := undef) rfl (by kernel_rfl) (by kernel_rfl) (by kernel_rfl) (by kernel_rfl) (yx_not (wantNot (d := 22) rfl (by kernel_rfl) rfl rfl)) ?_
      refine xl_take (i := 16) (v := undef) rfl (by kernel_rfl) (by kernel_rfl) (by kernel_rfl) (by kernel_rfl) (yx_not (wantNot (d := 22) rfl (by kernel_rfl) rfl rfl)) ?_
      refine xl_take (i := 17) (v := undef) rfl (by kernel_rfl) (by kernel_rfl) (by kernel_rfl) (by kernel_rfl) (yx_not (wantNot (d := 22) rfl (by kernel_rfl) rfl rfl)) ?_
      refine xl_take (i := 18) (v := .bool false) rfl (by kernel_rfl) (by kernel_rfl) (by kernel_rfl) (by kernel_rfl) (yx_val (wantAll rfl) (fun w' hx' => rv_pickF rfl (fr_eval rfl rfl) rfl)) ?_
      refine xl_take (i := 19) (v := .bool false) rfl (by kernel_rfl) (by kernel_rfl) (by kernel_rfl) (by kernel_rfl) (yx_val (wantAll rfl) (fun w' hx' => rv_move rfl (fr_eval rfl rfl))) ?_
      refine xl_take (i := 20) (v := undef) rfl (by kernel_rfl) (by kernel_rfl) (by kernel_rfl) (by kernel_rfl) (yx_not (wantNot (d := 28) rfl (by kernel_rfl) rfl rfl)) ?_
      refine xl_take (i := 21) (v := undef) rfl (by kernel_rfl) (by kernel_rfl) (by kernel_rfl) (by kernel_rfl) (yx_not (wantNot (d := 28) rfl (by kernel_rfl) rfl rfl)) ?_
      refine xl_take (i := 22) (v := undef) rfl (by kernel_rfl) (by kernel_rfl) (by kernel_rfl) (by kernel_rfl) (yx_not (wantNot (d := 28) rfl (by kernel_rfl) rfl rfl)) ?_
      refine xl_take (i := 23) (v := undef) rfl (by kernel_rfl) (by kernel_rfl) (by kernel_rfl) (by kernel_rfl) (yx_not (wantNot (d := 28) rfl (by kernel_rfl) rfl rfl)) ?_
      refine xl_take (i := 24) (v := undef) rfl (by kernel_rfl) (by kernel_rfl) (by kernel_rfl) (by kernel_rfl) (yx_not (wantNot (d := 28) rfl (by kernel_rfl) rfl rfl)) ?_
      refine xl_take (i := 25) (v := undef) rfl (by kernel_rfl) (by kernel_rfl) (by kernel_rfl) (by kernel_rfl) (yx_not (wantNot (d := 28) rfl (by kernel_rfl) rfl rfl)) ?_
      refine xl_take (i := 26) (v := undef) rfl (by kernel_rfl) (by kernel_rfl) (by kernel_rfl) (by kernel_rfl) (yx_not (wantNot (d := 28) rfl (by kernel_rfl) rfl rfl)) ?_
      refine xl_tail (s := 27) rfl ?_
      intro w14 hx
      replace hH := hH.ext hx
      clear hx
      refine lf_not (wantNot (d := 28) rfl (by kernel_rfl) rfl rfl) ?_
      refine lf_val (v := .bool false) (wantAll rfl) (rv_pickF rfl (fr_eval rfl rfl) rfl) ?_
      refine lf_val (v := .bool false) (wantAll rfl) (rv_assign rfl (fr_eval rfl rfl)) ?_
      refine lf_nil ?_
      refine then_n ?_
      refine wp_seq ?_
      refine wp_gen (fun F' => F' 0 = .agg (cBs x.a.1 ++ (([.int .i64 x.h] : List Value) ++ (cBs x.r.1 ++ ([.int .i64 x.m, v] : List Value)))).toArray ∧ F' 1 = .pointer (some ⟨g1, 0, none⟩) ∧ F' 2 = .bool false ∧ F' 3 = .bool false ∧ F' 7 = .bool false) ⟨e0, e1, e2, rfl, e7⟩ ?_
      clear e0 e1 e2 e7
      clear F
      rintro F ⟨e0, e1, e2, e3, e7⟩
      refine wp_regionF ?_
      refine lf_val (wantAll rfl) (rv_loadW rfl (hH.blk (i := 0) rfl) (fr_eval rfl e1) Try.underlying43 rfl (sz_len Try.sz43 (zLk_l7 x.a.2 x.r.2))) ?_
      refine lf_call (wantAll rfl) (rv_call (args := [.agg (cBs x.a.1 ++ (([.int .i64 x.h] : List Value) ++ (cBs x.r.1 ++ ([.int .i64 x.m, v] : List Value)))).toArray]) rfl (evc (fr_eval rfl rfl) evn) Try.call28) (bRight_calls x hin l (by omega) hs _ _ (fun t ht => (hts t ht).later hH.chg (newN_up hH.chg hH.up)) (hr.rd _ hH.chg)) ?_
      rintro _ w15 ⟨rfl, hx⟩
      refine ⟨_, rfl, ?_⟩
      replace hH := hH.ext hx
      clear hx
      refine lf_val (v := .bool false) (wantAll rfl) (rv_move rfl (fr_eval rfl e3)) ?_
      refine lf_val (v := .bool true) (wantAll rfl) (rv_eqb (d := true) rfl (fr_eval rfl rfl) (fr_eval rfl rfl) Try.underlying4 (beq_iff_eq.2 (decide_eq_false (fun h => by unfold RightP at h; omega)))) ?_
      refine lf_val (v := .bool true) (wantAll rfl) (rv_move rfl (fr_eval rfl rfl)) ?_
      refine lf_call (wantF (d := 42) rfl (by kernel_rfl) rfl rfl) (rv_call (args := []) rfl evn Try.call26) (awake19_calls _) ?_
      rintro _ w16 ⟨rfl, hx⟩
      refine ⟨_, rfl, ?_⟩
      replace hH := hH.ext hx
      clear hx
      refine lf_val (v := .bool true) (wantAll rfl) (rv_pickT rfl (fr_eval rfl rfl) (fr_eval rfl rfl)) ?_
      refine lf_val (v := .bool true) (wantAll rfl) (rv_assign rfl (fr_eval rfl rfl)) ?_
      refine lf_nil ?_
      refine then_n ?_
      refine wp_gen (fun F' => F' 0 = .agg (cBs x.a.1 ++ (([.int .i64 x.h] : List Value) ++ (cBs x.r.1 ++ ([.int .i64 x.m, v] : List Value)))).toArray ∧ F' 1 = .pointer (some ⟨g1, 0, none⟩) ∧ F' 2 = .bool true ∧ F' 3 = .bool false ∧ F' 7 = .bool false) ⟨e0, e1, rfl, e3, e7⟩ ?_
      clear e0 e1 e2 e3 e7
      clear F
      rintro F ⟨e0, e1, e2, e3, e7⟩
      refine wp_ret ?_
      exact bodyPost_ret (v := (.bool true)) (res1 rfl (ro_tmp rfl e2)) rfl (⟨rfl, hH.done⟩)
  · refine wp_regionF ?_
    refine lf_val (v := .pointer (some ⟨g1, 66, none⟩)) (wantAll rfl) (rv_fieldAddr (n := 0) rfl (fr_eval rfl e1) Try.underlying43 rfl rfl (by kernel_rfl)) ?_
    refine lf_val (v := v) (wantAll rfl) (rv_load1 rfl (hH.blk (i := 0) rfl) (zLk_g11 x.a.2 x.r.2) (fr_eval rfl rfl) Try.underlying41 rfl Try.sz41) ?_
    refine lf_call (wantAll rfl) (rv_call (args := [v]) rfl (evc (fr_eval rfl rfl) evn) Try.call25) (calls_known (b' := false) (small19_calls l _ _ (fun t ht => (hts t ht).later hH.chg (newN_up hH.chg hH.up)) (hr.rd _ hH.chg)) (decide_eq_false hf1)) ?_
    rintro _ w17 ⟨rfl, hx⟩
    refine ⟨_, rfl, ?_⟩
    replace hH := hH.ext hx
    clear hx
    refine lf_val (v := .bool true) (wantAll rfl) (rv_not (b := false) rfl (fr_eval rfl rfl)) ?_
    refine lf_nil ?_
    refine then_n ?_
    refine wp_gen (fun F' => F' 0 = .agg (cBs x.a.1 ++ (([.int .i64 x.h] : List Value) ++ (cBs x.r.1 ++ ([.int .i64 x.m, v] : List Value)))).toArray ∧ F' 1 = .pointer (some ⟨g1, 0, none⟩) ∧ F' 2 = .bool false ∧ F' 7 = .bool true) ⟨e0, e1, e2, rfl⟩ ?_
    clear e0 e1 e2
    clear F
    rintro F ⟨e0, e1, e2, e7⟩
    refine wp_cond_true (fr_eval rfl e7) ?_
    refine wp_seq ?_
    refine wp_regionF ?_
    refine lf_call (wantAll rfl) (rv_call (args := []) rfl evn Try.call26) (awake19_calls _) ?_
    rintro _ w18 ⟨rfl, hx⟩
    refine ⟨_, rfl, ?_⟩
    replace hH := hH.ext hx
    clear hx
    refine lf_val (v := .bool true) (wantAll rfl) (rv_assign rfl (fr_eval rfl rfl)) ?_
    refine lf_nil ?_
    refine then_n ?_
    refine wp_gen (fun F' => F' 0 = .agg (cBs x.a.1 ++ (([.int .i64 x.h] : List Value) ++ (cBs x.r.1 ++ ([.int .i64 x.m, v] : List Value)))).toArray ∧ F' 1 = .pointer (some ⟨g1, 0, none⟩) ∧ F' 2 = .bool true ∧ F' 7 = .bool true) ⟨e0, e1, rfl, e7⟩ ?_
    clear e0 e1 e2 e7
    clear F
    rintro F ⟨e0, e1, e2, e7⟩
    refine wp_ret ?_
    refine then_ret ?_
    exact bodyPost_ret (v := (.bool true)) (res1 rfl (ro_tmp rfl e2)) rfl (⟨rfl, hH.done⟩)

set_option maxRecDepth 100000 in
set_option maxHeartbeats 4000000 in
theorem blockFull_walk (z : Int) (hz : -9223372036854775808 ≤ z ∧ z ≤ 9223372036854775807) (w : World) :
    Calls Try.prog 7 #[.int .i64 z] w fun e'' w' => e'' = .returned (.bool true) ∧ Ext w w' := by
  refine calls_fr (args := [.int .i64 z]) (n := 44) Try.func7 rfl rfl (show 1 ≤ 44 by decide) ?_
  have hH : Heap (newN w) w w [] := Heap.fresh
  refine wp_seq ?_
  refine wp_gen (fun F' => F' 0 = .int .i64 z) rfl ?_
  rintro F e0
  refine wp_regionF ?_
  refine lf_val (v := .bool false) (wantAll rfl) (rv_assign rfl rfl) ?_
  refine lf_nil ?_
  refine then_n ?_
  refine wp_seq ?_
  refine wp_seq ?_
  refine wp_gen (fun F' => F' 0 = .int .i64 z ∧ F' 2 = .bool false) ⟨e0, rfl⟩ ?_
  clear e0
  clear F
  rintro F ⟨e0, e2⟩
  refine wp_regionF ?_
  refine lf_val (v := .int .i64 z) (wantAll rfl) (rv_move rfl (fr_eval rfl e0)) ?_
  refine lf_val (v := .bool (decide (z < 60))) (wantAll rfl) (rv_lssP (p := z < 60) rfl (fr_eval rfl rfl) rfl Iff.rfl) ?_
  refine lf_val (v := .bool (decide (z < 60))) (wantAll rfl) (rv_move rfl (fr_eval rfl rfl)) ?_
  refine lf_joinP (fun F' => F' 0 = .int .i64 z ∧ F' 2 = .bool false ∧ F' 10 = .bool (decide ((z < 60) ∨ (z > 70)))) 3 (fun hk => ?_) ?_
  · by_cases hc1 : z < 60
    · refine lf_not (wantNot (d := 7) rfl (by kernel_rfl) rfl (congrArg Value.bool (decide_eq_true hc1))) ?_
      refine lf_not (wantNot (d := 7) rfl (by kernel_rfl) rfl (congrArg Value.bool (decide_eq_true hc1))) ?_
      refine lf_val (v := .bool true) (wantAll rfl) (rv_pickT rfl (fr_eval rfl (congrArg Value.bool (decide_eq_true hc1))) rfl) ?_
      exact hk _ ⟨e0, e2, (congrArg Value.bool (dec_orT hc1))⟩
    · refine lf_val (v := .int .i64 z) (wantF (d := 7) rfl (by kernel_rfl) rfl (congrArg Value.bool (decide_eq_false hc1))) (rv_move rfl (fr_eval rfl e0)) ?_
      refine lf_val (v := .bool (decide (z > 70))) (wantF (d := 7) rfl (by kernel_rfl) rfl (congrArg Value.bool (decide_eq_false hc1))) (rv_gtrP (p := z > 70) rfl (fr_eval rfl rfl) rfl Iff.rfl) ?_
      refine lf_val (v := .bool (decide (z > 70))) (wantAll rfl) (rv_pickF rfl (fr_eval rfl (congrArg Value.bool (decide_eq_false hc1))) (fr_eval rfl rfl)) ?_
      exact hk _ ⟨e0, e2, (congrArg Value.bool (dec_or hc1))⟩
  · clear e0 e2
    clear F
    rintro F ⟨e0, e2, e10⟩
    refine lf_nil ?_
    refine then_n ?_
    by_cases hc2 : (z < 60) ∨ (z > 70)
    · refine wp_cond_true (fr_eval rfl (e10.trans (congrArg Value.bool (decide_eq_true hc2)))) ?_
      refine wp_seq ?_
      refine wp_regionF ?_
      refine lf_call (wantAll rfl) (rv_call (args := []) rfl evn Try.call26) (awake19_calls _) ?_
      rintro _ w1 ⟨rfl, hx⟩
      refine ⟨_, rfl, ?_⟩
      replace hH := hH.ext hx
      clear hx
      refine lf_val (v := .bool true) (wantAll rfl) (rv_assign rfl (fr_eval rfl rfl)) ?_
      refine lf_nil ?_
      refine then_n ?_
      refine wp_gen (fun F' => F' 0 = .int .i64 z ∧ F' 2 = .bool true ∧ F' 10 = .bool true) ⟨e0, rfl, (e10.trans (congrArg Value.bool (decide_eq_true hc2)))⟩ ?_
      clear e0 e2 e10
      clear F
      rintro F ⟨e0, e2, e10⟩
      refine wp_ret ?_
      refine then_ret ?_
      exact bodyPost_ret (v := (.bool true)) (res1 rfl (ro_tmp rfl e2)) rfl (⟨rfl, hH.done⟩)
    · refine wp_cond_false (fr_eval rfl (e10.trans (congrArg Value.bool (decide_eq_false hc2)))) ?_
      refine wp_skip ?_
      refine then_n ?_
      refine wp_seq ?_
      by_cases hf1 : z > 64
      · obtain ⟨n, rfl⟩ : ∃ n : Nat, z = (n : Int) := ⟨z.toNat, by omega⟩
        have hf64 : n > 64 := by omega
        refine wp_regionF ?_
        refine lf_val (wantAll rfl) (rv_buildS (ps := []) (places := #[(0, 32), (32, 1), (33, 32), (65, 1)]) (z := .agg (cBs (List.replicate 32 0) ++ (([.int .i64 0] : List Value) ++ (cBs (List.replicate 32 0) ++ ([.int .i64 0] : List Value)))).toArray) (zc := cBs (List.replicate 32 0) ++ (([.int .i64 0] : List Value) ++ (cBs (List.replicate 32 0) ++ ([.int .i64 0] : List Value)))) (cs := cBs (List.replicate 32 0) ++ (([.int .i64 0] : List Value) ++ (cBs (List.replicate 32 0) ++ ([.int .i64 0] : List Value)))) rfl evpn (by kernel_rfl) rfl Try.underlying40 (fun _ => by kernel_rfl) fill0) ?_
        refine lf_val (v := .int .i64 ((n : Nat) : Int)) (wantAll rfl) (rv_move rfl (fr_eval rfl e0)) ?_
        refine lf_ex (wantAll rfl) (hx_makeM hH (f := cTx) (d := zTx) (n := n) Try.stTx rfl (fr_eval rfl rfl) (fr_eval rfl rfl) (by omega) rfl (cTx_ln zTx)) ?_
        clear hH
        rintro y1 w2 ⟨hH, hx⟩
        replace hH : Heap _ _ _ [_] := hH
        clear hx
        refine lf_call (wantAll rfl) (rv_call (args := [.agg (cBs (List.replicate 32 0) ++ (([.int .i64 0] : List Value) ++ (cBs (List.replicate 32 0) ++ ([.int .i64 0] : List Value)))).toArray, y1]) rfl (evc (fr_eval rfl rfl) (evc (fr_eval rfl rfl) evn)) Try.call29) (bMake_full zHd (by refine ⟨⟨?_, ?_⟩, ?_, ?_⟩ <;> decide) (List.replicate n zTx) (by rw [List.length_replicate]; omega) (fun t h => by rw [List.eq_of_mem_replicate h]; exact smT_zero) (by decide) (by rw [List.length_replicate]; omega) _ _ (fun t h => by rw [List.eq_of_mem_replicate h]; exact StTx.zero) (Own.rd (hH.own (i := 0) rfl) (row_one cTx_one))) ?_
        rintro _ w3 ⟨rfl, hx⟩
        refine ⟨_, rfl, ?_⟩
        replace hH := hH.ext hx
        clear hx
        refine lf_val (v := .tuple #[.agg (cBs (List.replicate 32 0) ++ (([.int .i64 0] : List Value) ++ (cBs (List.replicate 32 0) ++ ([.int .i64 0, .slice none 0 0] : List Value)))).toArray, .int .i64 6]) (wantAll rfl) (rv_move rfl (fr_eval rfl rfl)) ?_
        refine lf_val (v := .agg (cBs (List.replicate 32 0) ++ (([.int .i64 0] : List Value) ++ (cBs (List.replicate 32 0) ++ ([.int .i64 0, .slice none 0 0] : List Value)))).toArray) (wantAll rfl) (rv_extract rfl (fr_eval rfl rfl) rfl) ?_
        refine lf_val (v := .int .i64 6) (wantAll rfl) (rv_extract rfl (fr_eval rfl rfl) rfl) ?_
        refine lf_ex (wantAll rfl) (hx_alloc hH 43 (z := .agg (cBs (List.replicate 32 0) ++ (([.int .i64 0] : List Value) ++ (cBs (List.replicate 32 0) ++ ([.int .i64 0, .slice none 0 0] : List Value)))).toArray) (n := 67) (cs := cBs (List.replicate 32 0) ++ (([.int .i64 0] : List Value) ++ (cBs (List.replicate 32 0) ++ ([.int .i64 0, .slice none 0 0] : List Value)))) rfl (by kernel_rfl) (by rfl)) ?_
        clear hH
        rintro _ w4 ⟨g1, rfl, hH, hx⟩
        replace hH : Heap _ _ _ [_, _] := hH
        clear hx
        refine lf_sk (wantAll rfl) (hx_storeW hH (i := 1) (cs := cBs (List.replicate 32 0) ++ (([.int .i64 0] : List Value) ++ (cBs (List.replicate 32 0) ++ ([.int .i64 0, .slice none 0 0] : List Value)))) rfl rfl rfl (fr_eval rfl rfl) (fr_eval rfl rfl) (sz_len Try.sz43 (zLk_l7 (List.length_replicate ..) (List.length_replicate ..))) (((zLk_l7 (List.length_replicate ..) (List.length_replicate ..))).trans ((zLk_l7 (List.length_replicate ..) (List.length_replicate ..))).symm) (zLk_o8 rfl rfl rfl)) ?_
        clear hH
        rintro w5 ⟨hH, hx⟩
        replace hH : Heap _ _ _ [_, _] := hH
        clear hx
        refine lf_val (v := .int .i64 6) (wantAll rfl) (rv_assign rfl (fr_eval rfl rfl)) ?_
        refine lf_nil ?_
        refine then_n ?_
        refine wp_seq ?_
        refine wp_seq ?_
        replace hH : Heap _ _ _ [_] := hH.drop (.cons _ (.cons_cons _ .slnil))
        refine wp_gen (fun F' => F' 0 = .int .i64 ((n : Nat) : Int) ∧ F' 2 = .bool false ∧ F' 3 = .pointer (some ⟨g1, 0, none⟩) ∧ F' 4 = .int .i64 6 ∧ F' 10 = .bool false) ⟨e0, e2, rfl, rfl, (e10.trans (congrArg Value.bool (decide_eq_false hc2)))⟩ ?_
        clear e0 e2 e10
        clear F
        rintro F ⟨e0, e2, e3, e4, e10⟩
        refine wp_regionF ?_
        refine lf_val (v := .int .i64 ((n : Nat) : Int)) (wantAll rfl) (rv_move rfl (fr_eval rfl e0)) ?_
        refine lf_val (v := .bool true) (wantAll rfl) (rv_known (rv_gtrP (p := n > 64) rfl (fr_eval rfl rfl) rfl (by omega)) (decide_eq_true hf64)) ?_
        refine lf_nil ?_
        refine then_n ?_
        refine wp_gen (fun F' => F' 0 = .int .i64 ((n : Nat) : Int) ∧ F' 2 = .bool false ∧ F' 3 = .pointer (some ⟨g1, 0, none⟩) ∧ F' 4 = .int .i64 6 ∧ F' 10 = .bool false ∧ F' 20 = .bool true) ⟨e0, e2, e3, e4, e10, rfl⟩ ?_
        clear e0 e2 e3 e4 e10
        clear F
        rintro F ⟨e0, e2, e3, e4, e10, e20⟩
        refine wp_cond_true (fr_eval rfl e20) ?_
        refine wp_seq ?_
        refine wp_regionF ?_
        refine lf_val (v := .pointer (some ⟨g1, 66, none⟩)) (wantAll rfl) (rv_fieldAddr (n := 0) rfl (fr_eval rfl e3) Try.underlying43 rfl rfl (by kernel_rfl)) ?_
        refine lf_val (v := .slice none 0 0) (wantAll rfl) (rv_load1 rfl (hH.blk (i := 0) rfl) (zLk_g11 (List.length_replicate ..) (List.length_replicate ..)) (fr_eval rfl rfl) Try.underlying41 rfl Try.sz41) ?_
        refine lf_val (v := .int .i64 0) (wantAll rfl) (rv_len rfl (fr_eval rfl rfl) (Rd.nil (size := 1)) Try.underlying41) ?_
        refine lf_val (v := .bool true) (wantAll rfl) (rv_eql rfl (fr_eval rfl rfl) rfl (by decide)) ?_
        refine lf_val (v := .bool true) (wantAll rfl) (rv_move rfl (fr_eval rfl rfl)) ?_
        refine lf_val (v := .int .i64 6) (wantF (d := 25) rfl (by kernel_rfl) rfl rfl) (rv_move rfl (fr_eval rfl e4)) ?_
        refine lf_val (v := .bool true) (wantF (d := 25) rfl (by kernel_rfl) rfl rfl) (rv_eql rfl (fr_eval rfl rfl) rfl (by decide)) ?_
        refine lf_val (v := .bool true) (wantAll rfl) (rv_pickT rfl (fr_eval rfl rfl) (fr_eval rfl rfl)) ?_
        refine lf_val (v := .bool true) (wantAll rfl) (rv_move rfl (fr_eval rfl rfl)) ?_
        refine lf_call (wantF (d := 29) rfl (by kernel_rfl) rfl rfl) (rv_call (args := []) rfl evn Try.call26) (awake19_calls _) ?_
        rintro _ w6 ⟨rfl, hx⟩
        refine ⟨_, rfl, ?_⟩
        replace hH := hH.ext hx
        clear hx
        refine lf_val (v := .bool true) (wantAll rfl) (rv_pickT rfl (fr_eval rfl rfl) (fr_eval rfl rfl)) ?_
        refine lf_val (v := .bool true) (wantAll rfl) (rv_assign rfl (fr_eval rfl rfl)) ?_
        refine lf_nil ?_
        refine then_n ?_
        refine wp_gen (fun F' => F' 0 = .int .i64 ((n : Nat) : Int) ∧ F' 2 = .bool true ∧ F' 3 = .pointer (some ⟨g1, 0, none⟩) ∧ F' 4 = .int .i64 6 ∧ F' 10 = .bool false ∧ F' 20 = .bool true) ⟨e0, rfl, e3, e4, e10, e20⟩ ?_
        clear e0 e2 e3 e4 e10 e20
        clear F
        rintro F ⟨e0, e2, e3, e4, e10, e20⟩
        refine wp_ret ?_
        refine then_ret ?_
        exact bodyPost_ret (v := (.bool true)) (res1 rfl (ro_tmp rfl e2)) rfl (⟨rfl, hH.done⟩)
      · obtain ⟨n, rfl⟩ : ∃ n : Nat, z = (n : Int) := ⟨z.toNat, by omega⟩
        have hf64 : ¬ n > 64 := by omega
        refine wp_regionF ?_
        refine lf_val (wantAll rfl) (rv_buildS (ps := []) (places := #[(0, 32), (32, 1), (33, 32), (65, 1)]) (z := .agg (cBs (List.replicate 32 0) ++ (([.int .i64 0] : List Value) ++ (cBs (List.replicate 32 0) ++ ([.int .i64 0] : List Value)))).toArray) (zc := cBs (List.replicate 32 0) ++ (([.int .i64 0] : List Value) ++ (cBs (List.replicate 32 0) ++ ([.int .i64 0] : List Value)))) (cs := cBs (List.replicate 32 0) ++ (([.int .i64 0] : List Value) ++ (cBs (List.replicate 32 0) ++ ([.int .i64 0] : List Value)))) rfl evpn (by kernel_rfl) rfl Try.underlying40 (fun _ => by kernel_rfl) fill0) ?_
        refine lf_val (v := .int .i64 ((n : Nat) : Int)) (wantAll rfl) (rv_move rfl (fr_eval rfl e0)) ?_
        refine lf_ex (wantAll rfl) (hx_makeM hH (f := cTx) (d := zTx) (n := n) Try.stTx rfl (fr_eval rfl rfl) (fr_eval rfl rfl) (by omega) rfl (cTx_ln zTx)) ?_
        clear hH
        rintro y2 w7 ⟨hH, hx⟩
        replace hH : Heap _ _ _ [_] := hH
        clear hx
        refine lf_call (wantAll rfl) (rv_call (args := [.agg (cBs (List.replicate 32 0) ++ (([.int .i64 0] : List Value) ++ (cBs (List.replicate 32 0) ++ ([.int .i64 0] : List Value)))).toArray, y2]) rfl (evc (fr_eval rfl rfl) (evc (fr_eval rfl rfl) evn)) Try.call29) (bMake_yes zHd (by refine ⟨⟨?_, ?_⟩, ?_, ?_⟩ <;> decide) (by decide) (List.replicate n zTx) (by rw [List.length_replicate]; omega) (fun t h => by rw [List.eq_of_mem_replicate h]; exact smT_zero) (by rw [List.length_replicate]; omega) _ _ (fun t h => by rw [List.eq_of_mem_replicate h]; exact StTx.zero) (Own.rd (hH.own (i := 0) rfl) (row_one cTx_one))) ?_
        rintro _ w8 ⟨y3, rfl, hP⟩
        refine ⟨_, rfl, ?_⟩
        have hx := hP.done
        replace hH : Heap _ _ _ [_, _] := hH.joinN hP (Stays.own (hP.own (i := 0) rfl) Stays.nil)
        clear hP
        clear hx
        refine lf_val (v := .tuple #[.agg (cBs ((headS zHd).1) ++ (([.int .i64 (zHd.h + 1)] : List Value) ++ (cBs ((rootS (List.map sumT (List.replicate n zTx))).1) ++ ([.int .i64 (((List.replicate n zTx).length : Nat) : Int), y3] : List Value)))).toArray, .int .i64 0]) (wantAll rfl) (rv_move rfl (fr_eval rfl rfl)) ?_
        refine lf_val (v := .agg (cBs ((headS zHd).1) ++ (([.int .i64 (zHd.h + 1)] : List Value) ++ (cBs ((rootS (List.map sumT (List.replicate n zTx))).1) ++ ([.int .i64 (((List.replicate n zTx).length : Nat) : Int), y3] : List Value)))).toArray) (wantAll rfl) (rv_extract rfl (fr_eval rfl rfl) rfl) ?_
        refine lf_val (v := .int .i64 0) (wantAll rfl) (rv_extract rfl (fr_eval rfl rfl) rfl) ?_
        refine lf_ex (wantAll rfl) (hx_alloc hH 43 (z := .agg (cBs (List.replicate 32 0) ++ (([.int .i64 0] : List Value) ++ (cBs (List.replicate 32 0) ++ ([.int .i64 0, .slice none 0 0] : List Value)))).toArray) (n := 67) (cs := cBs (List.replicate 32 0) ++ (([.int .i64 0] : List Value) ++ (cBs (List.replicate 32 0) ++ ([.int .i64 0, .slice none 0 0] : List Value)))) rfl (by kernel_rfl) (by rfl)) ?_
        clear hH
        rintro _ w9 ⟨g2, rfl, hH, hx⟩
        replace hH : Heap _ _ _ [_, _, _] := hH
        clear hx
        refine lf_sk (wantAll rfl) (hx_storeW hH (i := 2) (cs := cBs ((headS zHd).1) ++ (([.int .i64 (zHd.h + 1)] : List Value) ++ (cBs ((rootS (List.map sumT (List.replicate n zTx))).1) ++ ([.int .i64 (((List.replicate n zTx).length : Nat) : Int), y3] : List Value)))) rfl rfl rfl (fr_eval rfl rfl) (fr_eval rfl rfl) (sz_len Try.sz43 (zLk_l7 ((headS zHd).2) ((rootS (List.map sumT (List.replicate n zTx))).2))) (((zLk_l7 (List.length_replicate ..) (List.length_replicate ..))).trans ((zLk_l7 ((headS zHd).2) ((rootS (List.map sumT (List.replicate n zTx))).2))).symm) (zLk_o8 rfl rfl (Rd.oneV (Own.rd (hH.own (i := 1) rfl) (row_one cTx_one))))) ?_
        clear hH
        rintro w10 ⟨hH, hx⟩
        replace hH : Heap _ _ _ [_, _, _] := hH
        clear hx
        refine lf_val (v := .int .i64 0) (wantAll rfl) (rv_assign rfl (fr_eval rfl rfl)) ?_
        refine lf_nil ?_
        refine then_n ?_
        refine wp_seq ?_
        refine wp_seq ?_
        replace hH : Heap _ _ _ [_, _] := hH.drop (.cons _ (.cons_cons _ (.cons_cons _ .slnil)))
        refine wp_gen (fun F' => F' 0 = .int .i64 ((n : Nat) : Int) ∧ F' 2 = .bool false ∧ F' 3 = .pointer (some ⟨g2, 0, none⟩) ∧ F' 4 = .int .i64 0 ∧ F' 10 = .bool false) ⟨e0, e2, rfl, rfl, (e10.trans (congrArg Value.bool (decide_eq_false hc2)))⟩ ?_
        clear e0 e2 e10
        clear F
        rintro F ⟨e0, e2, e3, e4, e10⟩
        refine wp_regionF ?_
        refine lf_val (v := .int .i64 ((n : Nat) : Int)) (wantAll rfl) (rv_move rfl (fr_eval rfl e0)) ?_
        refine lf_val (v := .bool false) (wantAll rfl) (rv_known (rv_gtrP (p := n > 64) rfl (fr_eval rfl rfl) rfl (by omega)) (decide_eq_false hf64)) ?_
        refine lf_nil ?_
        refine then_n ?_
        refine wp_gen (fun F' => F' 0 = .int .i64 ((n : Nat) : Int) ∧ F' 2 = .bool false ∧ F' 3 = .pointer (some ⟨g2, 0, none⟩) ∧ F' 4 = .int .i64 0 ∧ F' 10 = .bool false ∧ F' 20 = .bool false) ⟨e0, e2, e3, e4, e10, rfl⟩ ?_
        clear e0 e2 e3 e4 e10
        clear F
        rintro F ⟨e0, e2, e3, e4, e10, e20⟩
        refine wp_cond_false (fr_eval rfl e20) ?_
        refine wp_skip ?_
        refine then_n ?_
        refine wp_seq ?_
        refine wp_regionF ?_
        refine lf_val (v := .pointer (some ⟨g2, 66, none⟩)) (wantAll rfl) (rv_fieldAddr (n := 0) rfl (fr_eval rfl e3) Try.underlying43 rfl rfl (by kernel_rfl)) ?_
        refine lf_val (v := y3) (wantAll rfl) (rv_load1 rfl (hH.blk (i := 1) rfl) (zLk_g11 ((headS zHd).2) ((rootS (List.map sumT (List.replicate n zTx))).2)) (fr_eval rfl rfl) Try.underlying41 rfl Try.sz41) ?_
        refine lf_val (v := .int .i64 (((List.replicate n zTx).length : Nat) : Int)) (wantAll rfl) (rv_len rfl (fr_eval rfl rfl) (Own.rd (hH.own (i := 0) rfl) (row_one cTx_one)) Try.underlying41) ?_
        refine lf_val (v := .int .i64 ((n : Nat) : Int)) (wantAll rfl) (rv_move rfl (fr_eval rfl e0)) ?_
        refine lf_val (v := .bool true) (wantAll rfl) (rv_eql rfl (fr_eval rfl rfl) (fr_eval rfl rfl) (decide_eq_true (by rw [List.length_replicate]))) ?_
        refine lf_val (v := .bool true) (wantAll rfl) (rv_move rfl (fr_eval rfl rfl)) ?_
        refine lf_val (v := .int .i64 0) (wantF (d := 37) rfl (by kernel_rfl) rfl rfl) (rv_move rfl (fr_eval rfl e4)) ?_
        refine lf_val (v := .bool true) (wantF (d := 37) rfl (by kernel_rfl) rfl rfl) (rv_eql rfl (fr_eval rfl rfl) rfl (by decide)) ?_
        refine lf_val (v := .bool true) (wantAll rfl) (rv_pickT rfl (fr_eval rfl rfl) (fr_eval rfl rfl)) ?_
        refine lf_val (v := .bool true) (wantAll rfl) (rv_move rfl (fr_eval rfl rfl)) ?_
        refine lf_call (wantF (d := 41) rfl (by kernel_rfl) rfl rfl) (rv_call (args := []) rfl evn Try.call26) (awake19_calls _) ?_
        rintro _ w11 ⟨rfl, hx⟩
        refine ⟨_, rfl, ?_⟩
        replace hH := hH.ext hx
        clear hx
        refine lf_val (v := .bool true) (wantAll rfl) (rv_pickT rfl (fr_eval rfl rfl) (fr_eval rfl rfl)) ?_
        refine lf_val (v := .bool true) (wantAll rfl) (rv_assign rfl (fr_eval rfl rfl)) ?_
        refine lf_nil ?_
        refine then_n ?_
        refine wp_gen (fun F' => F' 0 = .int .i64 ((n : Nat) : Int) ∧ F' 2 = .bool true ∧ F' 3 = .pointer (some ⟨g2, 0, none⟩) ∧ F' 4 = .int .i64 0 ∧ F' 10 = .bool false ∧ F' 20 = .bool false) ⟨e0, rfl, e3, e4, e10, e20⟩ ?_
        clear e0 e2 e3 e4 e10 e20
        clear F
        rintro F ⟨e0, e2, e3, e4, e10, e20⟩
        refine wp_ret ?_
        exact bodyPost_ret (v := (.bool true)) (res1 rfl (ro_tmp rfl e2)) rfl (⟨rfl, hH.done⟩)

set_option maxRecDepth 100000 in
set_option maxHeartbeats 4000000 in
theorem blockMakes_walk (x : Hd) (hin : inHd x) (l : List TxG) (v : Value) (w : World) (hts : ∀ t ∈ l, StTx (newN w) w t) (hr0 : Rd w 40 v l.length (l.flatMap cTx)) :
    Calls Try.prog 8 #[.agg (cBs x.a.1 ++ (([.int .i64 x.h] : List Value) ++ (cBs x.r.1 ++ ([.int .i64 x.m] : List Value)))).toArray, v] w fun e'' w' => e'' = .returned (.bool true) ∧ Ext w w' := by
  refine calls_fr (args := [.agg (cBs x.a.1 ++ (([.int .i64 x.h] : List Value) ++ (cBs x.r.1 ++ ([.int .i64 x.m] : List Value)))).toArray, v]) (n := 123) Try.func8 rfl rfl (show 2 ≤ 123 by decide) ?_
  obtain ⟨⟨hi1, hi2⟩, hi3, hi4⟩ := id hin
  have hr := Rd.stab hr0
  have hH : Heap (newN w) w w [] := Heap.fresh
  refine wp_seq ?_
  refine wp_gen (fun F' => F' 0 = .agg (cBs x.a.1 ++ (([.int .i64 x.h] : List Value) ++ (cBs x.r.1 ++ ([.int .i64 x.m] : List Value)))).toArray ∧ F' 1 = v) ⟨rfl, rfl⟩ ?_
  rintro F ⟨e0, e1⟩
  refine wp_regionF ?_
  refine lf_ex (wantAll rfl) (hx_box hH 40 (cs := cBs x.a.1 ++ (([.int .i64 x.h] : List Value) ++ (cBs x.r.1 ++ ([.int .i64 x.m] : List Value)))) rfl (fr_eval rfl e0) (by rfl)) ?_
  clear hH
  rintro _ w1 ⟨g1, rfl, hH, hx⟩
  replace hH : Heap _ _ _ [_] := hH
  clear hx
  refine lf_val (v := .bool false) (wantAll rfl) (rv_assign rfl rfl) ?_
  refine lf_nil ?_
  refine then_n ?_
  refine wp_seq ?_
  refine wp_seq ?_
  refine wp_gen (fun F' => F' 0 = .agg (cBs x.a.1 ++ (([.int .i64 x.h] : List Value) ++ (cBs x.r.1 ++ ([.int .i64 x.m] : List Value)))).toArray ∧ F' 1 = v ∧ F' 2 = .pointer (some ⟨g1, 0, none⟩) ∧ F' 4 = .bool false) ⟨e0, e1, rfl, rfl⟩ ?_
  clear e0 e1
  clear F
  rintro F ⟨e0, e1, e2, e4⟩
  by_cases hf1 : smL l
  · refine wp_regionF ?_
    refine lf_val (v := v) (wantAll rfl) (rv_move rfl (fr_eval rfl e1)) ?_
    refine lf_call (wantAll rfl) (rv_call (args := [v]) rfl (evc (fr_eval rfl rfl) evn) Try.call25) (calls_known (b' := true) (small19_calls l _ _ (fun t ht => (hts t ht).later hH.chg (newN_up hH.chg hH.up)) (hr.rd _ hH.chg)) (decide_eq_true hf1)) ?_
    rintro _ w2 ⟨rfl, hx⟩
    refine ⟨_, rfl, ?_⟩
    replace hH := hH.ext hx
    clear hx
    refine lf_val (v := .bool false) (wantAll rfl) (rv_not (b := true) rfl (fr_eval rfl rfl)) ?_
    refine lf_nil ?_
    refine then_n ?_
    refine wp_gen (fun F' => F' 0 = .agg (cBs x.a.1 ++ (([.int .i64 x.h] : List Value) ++ (cBs x.r.1 ++ ([.int .i64 x.m] : List Value)))).toArray ∧ F' 1 = v ∧ F' 2 = .pointer (some ⟨g1, 0, none⟩) ∧ F' 4 = .bool false ∧ F' 13 = .bool false) ⟨e0, e1, e2, e4, rfl⟩ ?_
    clear e0 e1 e2 e4
    clear F
    rintro F ⟨e0, e1, e2, e4, e13⟩
    refine wp_cond_false (fr_eval rfl e13) ?_
    refine wp_skip ?_
    refine then_n ?_
    refine wp_seq ?_
    by_cases hf2 : 0 ≤ x.h ∧ x.h < 1073741824
    · have hs := (hf1 : smL l).2
      have hl20 : l.length ≤ 20 := (hf1 : smL l).1
      have hml : (List.map sumT l).length = l.length := List.length_map ..
      refine wp_regionF ?_
      refine lf_val (wantAll rfl) (rv_loadW rfl (hH.blk (i := 0) rfl) (fr_eval rfl e2) Try.underlying40 rfl (sz_len Try.sz40 (zLk_l14 x.a.2 x.r.2))) ?_
      refine lf_val (v := v) (wantAll rfl) (rv_move rfl (fr_eval rfl e1)) ?_
      refine lf_call (wantAll rfl) (rv_call (args := [.agg (cBs x.a.1 ++ (([.int .i64 x.h] : List Value) ++ (cBs x.r.1 ++ ([.int .i64 x.m] : List Value)))).toArray, v]) rfl (evc (fr_eval rfl rfl) (evc (fr_eval rfl rfl) evn)) Try.call29) (bMake_yes x hin hf2 l (by omega) hs (by omega) _ _ (fun t ht => (hts t ht).later hH.chg (newN_up hH.chg hH.up)) (hr.rd _ hH.chg)) ?_
      rintro _ w3 ⟨y1, rfl, hP⟩
      refine ⟨_, rfl, ?_⟩
      have hx := hP.done
      replace hH : Heap _ _ _ [_, _] := hH.joinN hP (Stays.own (hP.own (i := 0) rfl) Stays.nil)
      clear hP
      clear hx
      refine lf_val (v := .tuple #[.agg (cBs ((headS x).1) ++ (([.int .i64 (x.h + 1)] : List Value) ++ (cBs ((rootS (List.map sumT l)).1) ++ ([.int .i64 ((l.length : Nat) : Int), y1] : List Value)))).toArray, .int .i64 0]) (wantAll rfl) (rv_move rfl (fr_eval rfl rfl)) ?_
      refine lf_val (v := .agg (cBs ((headS x).1) ++ (([.int .i64 (x.h + 1)] : List Value) ++ (cBs ((rootS (List.map sumT l)).1) ++ ([.int .i64 ((l.length : Nat) : Int), y1] : List Value)))).toArray) (wantAll rfl) (rv_extract rfl (fr_eval rfl rfl) rfl) ?_
      refine lf_val (v := .int .i64 0) (wantAll rfl) (rv_extract rfl (fr_eval rfl rfl) rfl) ?_
      refine lf_ex (wantAll rfl) (hx_alloc hH 43 (z := .agg (cBs (List.replicate 32 0) ++ (([.int .i64 0] : List Value) ++ (cBs (List.replicate 32 0) ++ ([.int .i64 0, .slice none 0 0] : List Value)))).toArray) (n := 67) (cs := cBs (List.replicate 32 0) ++ (([.int .i64 0] : List Value) ++ (cBs (List.replicate 32 0) ++ ([.int .i64 0, .slice none 0 0] : List Value)))) rfl (by kernel_rfl) (by rfl)) ?_
      clear hH
      rintro _ w4 ⟨g2, rfl, hH, hx⟩
      replace hH : Heap _ _ _ [_, _, _] := hH
      clear hx
      refine lf_sk (wantAll rfl) (hx_storeW hH (i := 2) (cs := cBs ((headS x).1) ++ (([.int .i64 (x.h + 1)] : List Value) ++ (cBs ((rootS (List.map sumT l)).1) ++ ([.int .i64 ((l.length : Nat) : Int), y1] : List Value)))) rfl rfl rfl (fr_eval rfl rfl) (fr_eval rfl rfl) (sz_len Try.sz43 (zLk_l7 ((headS x).2) ((rootS (List.map sumT l)).2))) (((zLk_l7 (List.length_replicate ..) (List.length_replicate ..))).trans ((zLk_l7 ((headS x).2) ((rootS (List.map sumT l)).2))).symm) (zLk_o8 rfl rfl (Rd.oneV (Own.rd (hH.own (i := 1) rfl) (row_one cTx_one))))) ?_
      clear hH
      rintro w5 ⟨hH, hx⟩
      replace hH : Heap _ _ _ [_, _, _] := hH
      clear hx
      refine lf_val (v := .int .i64 0) (wantAll rfl) (rv_assign rfl (fr_eval rfl rfl)) ?_
      refine lf_nil ?_
      refine then_n ?_
      refine wp_seq ?_
      refine wp_seq ?_
      refine wp_gen (fun F' => F' 0 = .agg (cBs x.a.1 ++ (([.int .i64 x.h] : List Value) ++ (cBs x.r.1 ++ ([.int .i64 x.m] : List Value)))).toArray ∧ F' 1 = v ∧ F' 2 = .pointer (some ⟨g1, 0, none⟩) ∧ F' 4 = .bool false ∧ F' 5 = .pointer (some ⟨g2, 0, none⟩) ∧ F' 6 = .int .i64 0 ∧ F' 13 = .bool false) ⟨e0, e1, e2, e4, rfl, rfl, e13⟩ ?_
      clear e0 e1 e2 e4 e13
      clear F
      rintro F ⟨e0, e1, e2, e4, e5, e6, e13⟩
      refine wp_regionX (fun _ => False) 3 (by kernel_rfl) (by kernel_rfl) ?_
      refine xl_take (i := 0) (v := .agg (cBs x.a.1 ++ (([.int .i64 x.h] : List Value) ++ (cBs x.r.1 ++ ([.int .i64 x.m] : List Value)))).toArray) rfl (by kernel_rfl) (by kernel_rfl) (by kernel_rfl) (by kernel_rfl) (yx_val (wantAll rfl) (fun w' hx' => rv_loadW rfl ((hH.ext hx').blk (i := 0) rfl) (fr_eval rfl e2) Try.underlying40 rfl (sz_len Try.sz40 (zLk_l14 x.a.2 x.r.2)))) ?_
      refine xl_take (i := 1) (v := .agg (cBs ((headS x).1)).toArray) rfl (by kernel_rfl) (by kernel_rfl) (by kernel_rfl) (by kernel_rfl) (yx_call (wantAll rfl) (fun w' => rv_call (args := [.agg (cBs x.a.1 ++ (([.int .i64 x.h] : List Value) ++ (cBs x.r.1 ++ ([.int .i64 x.m] : List Value)))).toArray]) rfl (evc (fr_eval rfl rfl) evn) Try.call30) (fun w' hx' => headSum_calls x hin _)) ?_
      refine xl_take (i := 2) (v := .agg (cBs x.a.1 ++ (([.int .i64 x.h] : List Value) ++ (cBs x.r.1 ++ ([.int .i64 x.m] : List Value)))).toArray) rfl (by kernel_rfl) (by kernel_rfl) (by kernel_rfl) (by kernel_rfl) (yx_val (wantAll rfl) (fun w' hx' => rv_loadW rfl ((hH.ext hx').blk (i := 0) rfl) (fr_eval rfl e2) Try.underlying40 rfl (sz_len Try.sz40 (zLk_l14 x.a.2 x.r.2)))) ?_
      refine xl_tail (s := 3) rfl ?_
      intro w6 hx
      replace hH := hH.ext hx
      clear hx
      refine lf_call (wantAll rfl) (rv_call (args := [.agg (cBs x.a.1 ++ (([.int .i64 x.h] : List Value) ++ (cBs x.r.1 ++ ([.int .i64 x.m] : List Value)))).toArray]) rfl (evc (fr_eval rfl rfl) evn) Try.call31) (head19_calls x hin _) ?_
      rintro _ w7 ⟨rfl, hx⟩
      refine ⟨_, rfl, ?_⟩
      replace hH := hH.ext hx
      clear hx
      refine lf_val (v := .bool false) (wantAll rfl) (neT (b := true) rfl (fr_eval rfl rfl) (fr_eval rfl rfl) (headS x).2 (headS x).2 (beq_self_eq_true _)) ?_
      refine lf_nil ?_
      refine then_n ?_
      refine wp_gen (fun F' => F' 0 = .agg (cBs x.a.1 ++ (([.int .i64 x.h] : List Value) ++ (cBs x.r.1 ++ ([.int .i64 x.m] : List Value)))).toArray ∧ F' 1 = v ∧ F' 2 = .pointer (some ⟨g1, 0, none⟩) ∧ F' 4 = .bool false ∧ F' 5 = .pointer (some ⟨g2, 0, none⟩) ∧ F' 6 = .int .i64 0 ∧ F' 13 = .bool false ∧ F' 25 = .bool false) ⟨e0, e1, e2, e4, e5, e6, e13, rfl⟩ ?_
      clear e0 e1 e2 e4 e5 e6 e13
      clear F
      rintro F ⟨e0, e1, e2, e4, e5, e6, e13, e25⟩
      refine wp_cond_false (fr_eval rfl e25) ?_
      refine wp_skip ?_
      refine then_n ?_
      refine wp_seq ?_
      refine wp_seq ?_
      refine wp_regionF ?_
      refine lf_val (v := .pointer (some ⟨g1, 32, none⟩)) (wantAll rfl) (rv_fieldAddr (n := 0) rfl (fr_eval rfl e2) Try.underlying40 rfl rfl (by kernel_rfl)) ?_
      refine lf_val (v := .int .i64 x.h) (wantAll rfl) (rv_load1 rfl (hH.blk (i := 0) rfl) (zLk_g15 x.a.2 x.r.2) (fr_eval rfl rfl) Try.underlying3 rfl Try.sz3) ?_
      refine lf_val (v := .bool (decide (x.h < 0))) (wantAll rfl) (rv_lssP (p := x.h < 0) rfl (fr_eval rfl rfl) rfl Iff.rfl) ?_
      refine lf_val (v := .bool (decide (x.h < 0))) (wantAll rfl) (rv_move rfl (fr_eval rfl rfl)) ?_
      refine lf_joinP (fun F' => F' 0 = .agg (cBs x.a.1 ++ (([.int .i64 x.h] : List Value) ++ (cBs x.r.1 ++ ([.int .i64 x.m] : List Value)))).toArray ∧ F' 1 = v ∧ F' 2 = .pointer (some ⟨g1, 0, none⟩) ∧ F' 4 = .bool false ∧ F' 5 = .pointer (some ⟨g2, 0, none⟩) ∧ F' 6 = .int .i64 0 ∧ F' 13 = .bool false ∧ F' 25 = .bool false ∧ F' 33 = .bool (decide ((x.h < 0) ∨ (x.h > 1073741823)))) 4 (fun hk => ?_) ?_
      · by_cases hc1 : x.h < 0
        · refine lf_not (wantNot (d := 29) rfl (by kernel_rfl) rfl (congrArg Value.bool (decide_eq_true hc1))) ?_
          refine lf_not (wantNot (d := 29) rfl (by kernel_rfl) rfl (congrArg Value.bool (decide_eq_true hc1))) ?_
          refine lf_not (wantNot (d := 29) rfl (by kernel_rfl) rfl (congrArg Value.bool (decide_eq_true hc1))) ?_
          refine lf_val (v := .bool true) (wantAll rfl) (rv_pickT rfl (fr_eval rfl (congrArg Value.bool (decide_eq_true hc1))) rfl) ?_
          exact hk _ ⟨e0, e1, e2, e4, e5, e6, e13, e25, (congrArg Value.bool (dec_orT hc1))⟩
        · refine lf_val (v := .pointer (some ⟨g1, 32, none⟩)) (wantF (d := 29) rfl (by kernel_rfl) rfl (congrArg Value.bool (decide_eq_false hc1))) (rv_fieldAddr (n := 0) rfl (fr_eval rfl e2) Try.underlying40 rfl rfl (by kernel_rfl)) ?_
          refine lf_val (v := .int .i64 x.h) (wantF (d := 29) rfl (by kernel_rfl) rfl (congrArg Value.bool (decide_eq_false hc1))) (rv_load1 rfl (hH.blk (i := 0) rfl) (zLk_g15 x.a.2 x.r.2) (fr_eval rfl rfl) Try.underlying3 rfl Try.sz3) ?_
          refine lf_val (v := .bool (decide (x.h > 1073741823))) (wantF (d := 29) rfl (by kernel_rfl) rfl (congrArg Value.bool (decide_eq_false hc1))) (rv_gtrP (p := x.h > 1073741823) rfl (fr_eval rfl rfl) rfl Iff.rfl) ?_
          refine lf_val (v := .bool (decide (x.h > 1073741823))) (wantAll rfl) (rv_pickF rfl (fr_eval rfl (congrArg Value.bool (decide_eq_false hc1))) (fr_eval rfl rfl)) ?_
          exact hk _ ⟨e0, e1, e2, e4, e5, e6, e13, e25, (congrArg Value.bool (dec_or hc1))⟩
      · clear e0 e1 e2 e4 e5 e6 e13 e25
        clear F
        rintro F ⟨e0, e1, e2, e4, e5, e6, e13, e25, e33⟩
        refine lf_nil ?_
        refine then_n ?_
        by_cases hc2 : (x.h < 0) ∨ (x.h > 1073741823)
        · refine wp_cond_true (fr_eval rfl (e33.trans (congrArg Value.bool (decide_eq_true hc2)))) ?_
          refine wp_seq ?_
          refine wp_regionF ?_
          refine lf_val (v := .pointer (some ⟨g2, 66, none⟩)) (wantAll rfl) (rv_fieldAddr (n := 0) rfl (fr_eval rfl e5) Try.underlying43 rfl rfl (by kernel_rfl)) ?_
          refine lf_val (v := y1) (wantAll rfl) (rv_load1 rfl (hH.blk (i := 2) rfl) (zLk_g11 ((headS x).2) ((rootS (List.map sumT l)).2)) (fr_eval rfl rfl) Try.underlying41 rfl Try.sz41) ?_
          refine lf_val (v := .int .i64 ((l.length : Nat) : Int)) (wantAll rfl) (rv_len rfl (fr_eval rfl rfl) (Own.rd (hH.own (i := 1) rfl) (row_one cTx_one)) Try.underlying41) ?_
          refine lf_val (v := .bool (decide (l.length = 0))) (wantAll rfl) (rv_eqlP (p := l.length = 0) rfl (fr_eval rfl rfl) rfl (by omega)) ?_
          refine lf_val (v := .bool (decide (l.length = 0))) (wantAll rfl) (rv_move rfl (fr_eval rfl rfl)) ?_
          refine lf_joinP (fun F' => F' 0 = .agg (cBs x.a.1 ++ (([.int .i64 x.h] : List Value) ++ (cBs x.r.1 ++ ([.int .i64 x.m] : List Value)))).toArray ∧ F' 1 = v ∧ F' 2 = .pointer (some ⟨g1, 0, none⟩) ∧ F' 4 = .bool false ∧ F' 5 = .pointer (some ⟨g2, 0, none⟩) ∧ F' 6 = .int .i64 0 ∧ F' 13 = .bool false ∧ F' 25 = .bool false ∧ F' 33 = .bool true ∧ F' 41 = .bool false) 3 (fun hk => ?_) ?_
          · by_cases hc3 : l.length = 0
            · refine lf_val (v := .int .i64 0) (wantF (d := 38) rfl (by kernel_rfl) rfl (congrArg Value.bool (decide_eq_true hc3))) (rv_move rfl (fr_eval rfl e6)) ?_
              refine lf_val (v := .bool false) (wantF (d := 38) rfl (by kernel_rfl) rfl (congrArg Value.bool (decide_eq_true hc3))) (rv_eql rfl (fr_eval rfl rfl) rfl (by decide)) ?_
              refine lf_val (v := .bool false) (wantAll rfl) (rv_pickT rfl (fr_eval rfl (congrArg Value.bool (decide_eq_true hc3))) (fr_eval rfl rfl)) ?_
              exact hk _ ⟨e0, e1, e2, e4, e5, e6, e13, e25, (e33.trans (congrArg Value.bool (decide_eq_true hc2))), rfl⟩
            · refine lf_not (wantNot (d := 38) rfl (by kernel_rfl) rfl (congrArg Value.bool (decide_eq_false hc3))) ?_
              refine lf_not (wantNot (d := 38) rfl (by kernel_rfl) rfl (congrArg Value.bool (decide_eq_false hc3))) ?_
              refine lf_val (v := .bool false) (wantAll rfl) (rv_pickF rfl (fr_eval rfl (congrArg Value.bool (decide_eq_false hc3))) rfl) ?_
              exact hk _ ⟨e0, e1, e2, e4, e5, e6, e13, e25, (e33.trans (congrArg Value.bool (decide_eq_true hc2))), rfl⟩
          · clear e0 e1 e2 e4 e5 e6 e13 e25 e33
            clear F
            rintro F ⟨e0, e1, e2, e4, e5, e6, e13, e25, e33, e41⟩
            refine lf_val (v := .bool false) (wantAll rfl) (rv_move rfl (fr_eval rfl e41)) ?_
            refine lf_not (wantNot (d := 42) rfl (by kernel_rfl) rfl rfl) ?_
            refine lf_not (wantNot (d := 42) rfl (by kernel_rfl) rfl rfl) ?_
            refine lf_not (wantNot (d := 42) rfl (by kernel_rfl) rfl rfl) ?_
            refine lf_not (wantNot (d := 42) rfl (by kernel_rfl) rfl rfl) ?_
            refine lf_val (v := .bool false) (wantAll rfl) (rv_pickF rfl (fr_eval rfl rfl) rfl) ?_
            refine lf_val (v := .bool false) (wantAll rfl) (rv_move rfl (fr_eval rfl rfl)) ?_
            refine lf_not (wantNot (d := 48) rfl (by kernel_rfl) rfl rfl) ?_
            refine lf_val (v := .bool false) (wantAll rfl) (rv_pickF rfl (fr_eval rfl rfl) rfl) ?_
            refine lf_val (v := .bool false) (wantAll rfl) (rv_assign rfl (fr_eval rfl rfl)) ?_
            refine lf_nil ?_
            refine then_n ?_
            refine wp_gen (fun F' => F' 0 = .agg (cBs x.a.1 ++ (([.int .i64 x.h] : List Value) ++ (cBs x.r.1 ++ ([.int .i64 x.m] : List Value)))).toArray ∧ F' 1 = v ∧ F' 2 = .pointer (some ⟨g1, 0, none⟩) ∧ F' 4 = .bool false ∧ F' 5 = .pointer (some ⟨g2, 0, none⟩) ∧ F' 6 = .int .i64 0 ∧ F' 13 = .bool false ∧ F' 25 = .bool false ∧ F' 33 = .bool true) ⟨e0, e1, e2, rfl, e5, e6, e13, e25, e33⟩ ?_
            clear e0 e1 e2 e4 e5 e6 e13 e25 e33 e41
            clear F
            rintro F ⟨e0, e1, e2, e4, e5, e6, e13, e25, e33⟩
            refine wp_ret ?_
            refine then_ret ?_
            exact bodyPost_ret (v := (.bool false)) (res1 rfl (ro_tmp rfl e4)) rfl (by exfalso; omega)
        · refine wp_cond_false (fr_eval rfl (e33.trans (congrArg Value.bool (decide_eq_false hc2)))) ?_
          refine wp_skip ?_
          refine then_n ?_
          refine wp_seq ?_
          refine wp_regionF ?_
          refine lf_val (v := v) (wantAll rfl) (rv_move rfl (fr_eval rfl e1)) ?_
          refine lf_call (wantAll rfl) (rv_call (args := [v]) rfl (evc (fr_eval rfl rfl) evn) Try.call27) (sums19_calls l (by omega) hs _ _ (fun t ht => (hts t ht).later hH.chg (newN_up hH.chg hH.up)) (hr.rd _ hH.chg)) ?_
          rintro _ w8 ⟨⟨y2, rfl, ho, hg⟩, hx⟩
          refine ⟨_, rfl, ?_⟩
          replace hH : Heap _ _ _ [_, _, _, _] := hH.addOwn hx hg ho
          clear ho hg
          clear hx
          refine lf_val (v := y2) (wantAll rfl) (rv_assign rfl (fr_eval rfl rfl)) ?_
          refine lf_nil ?_
          refine then_n ?_
          refine wp_seq ?_
          refine wp_seq ?_
          refine wp_gen (fun F' => F' 0 = .agg (cBs x.a.1 ++ (([.int .i64 x.h] : List Value) ++ (cBs x.r.1 ++ ([.int .i64 x.m] : List Value)))).toArray ∧ F' 1 = v ∧ F' 2 = .pointer (some ⟨g1, 0, none⟩) ∧ F' 4 = .bool false ∧ F' 5 = .pointer (some ⟨g2, 0, none⟩) ∧ F' 6 = .int .i64 0 ∧ F' 7 = y2 ∧ F' 13 = .bool false ∧ F' 25 = .bool false ∧ F' 33 = .bool false) ⟨e0, e1, e2, e4, e5, e6, rfl, e13, e25, (e33.trans (congrArg Value.bool (decide_eq_false hc2)))⟩ ?_
          clear e0 e1 e2 e4 e5 e6 e13 e25 e33
          clear F
          rintro F ⟨e0, e1, e2, e4, e5, e6, e7, e13, e25, e33⟩
          refine wp_regionX (fun _ => False) 28 (by kernel_rfl) (by kernel_rfl) ?_
          refine xl_take (i := 0) (v := .int .i64 0) rfl (by kernel_rfl) (by kernel_rfl) (by kernel_rfl) (by kernel_rfl) (yx_val (wantAll rfl) (fun w' hx' => rv_move rfl (fr_eval rfl e6))) ?_
          refine xl_take (i := 1) (v := .bool false) rfl (by kernel_rfl) (by kernel_rfl) (by kernel_rfl) (by kernel_rfl) (yx_val (wantAll rfl) (fun w' hx' => rv_neq rfl (fr_eval rfl rfl) rfl (show decide ((0 : Int) = 0) = true from by decide))) ?_
          refine xl_take (i := 2) (v := .bool false) rfl (by kernel_rfl) (by kernel_rfl) (by kernel_rfl) (by kernel_rfl) (yx_val (wantAll rfl) (fun w' hx' => rv_move rfl (fr_eval rfl rfl))) ?_
          refine xl_take (i := 3) (v := .pointer (some ⟨g2, 0, none⟩)) rfl (by kernel_rfl) (by kernel_rfl) (by kernel_rfl) (by kernel_rfl) (yx_val (wantF (d := 55) rfl (by kernel_rfl) rfl rfl) (fun w' hx' => rv_fieldAddr (n := 65) rfl (fr_eval rfl e5) Try.underlying43 rfl rfl (by kernel_rfl))) ?_
          refine xl_take (i := 4) (v := .agg (cBs ((headS x).1) ++ (([.int .i64 (x.h + 1)] : List Value) ++ (cBs ((rootS (List.map sumT l)).1) ++ ([.int .i64 ((l.length : Nat) : Int)] : List Value)))).toArray) rfl (by kernel_rfl) (by kernel_rfl) (by kernel_rfl) (by kernel_rfl) (yx_val (wantF (d := 55) rfl (by kernel_rfl) rfl rfl) (fun w' hx' => rv_loadP rfl ((hH.ext hx').blk (i := 2) rfl) (zLk_p16 ((headS x).2) ((rootS (List.map sumT l)).2)) (zLk_l14 ((headS x).2) ((rootS (List.map sumT l)).2)) (fr_eval rfl rfl) Try.underlying40 rfl Try.sz40)) ?_
          refine xl_take (i := 5) (v := .agg (cBs x.a.1 ++ (([.int .i64 x.h] : List Value) ++ (cBs x.r.1 ++ ([.int .i64 x.m] : List Value)))).toArray) rfl (by kernel_rfl) (by kernel_rfl) (by kernel_rfl) (by kernel_rfl) (yx_val (wantF (d := 55) rfl (by kernel_rfl) rfl rfl) (fun w' hx' => rv_loadW rfl ((hH.ext hx').blk (i := 0) rfl) (fr_eval rfl e2) Try.underlying40 rfl (sz_len Try.sz40 (zLk_l14 x.a.2 x.r.2)))) ?_
          refine xl_take (i := 6) (v := .agg (cBs ((headS x).1)).toArray) rfl (by kernel_rfl) (by kernel_rfl) (by kernel_rfl) (by kernel_rfl) (yx_call (wantF (d := 55) rfl (by kernel_rfl) rfl rfl) (fun w' => rv_call (args := [.agg (cBs x.a.1 ++ (([.int .i64 x.h] : List Value) ++ (cBs x.r.1 ++ ([.int .i64 x.m] : List Value)))).toArray]) rfl (evc (fr_eval rfl rfl) evn) Try.call31) (fun w' hx' => head19_calls x hin _)) ?_
          refine xl_take (i := 7) (v := .pointer (some ⟨g1, 32, none⟩)) rfl (by kernel_rfl) (by kernel_rfl) (by kernel_rfl) (by kernel_rfl) (yx_val (wantF (d := 55) rfl (by kernel_rfl) rfl rfl) (fun w' hx' => rv_fieldAddr (n := 0) rfl (fr_eval rfl e2) Try.underlying40 rfl rfl (by kernel_rfl))) ?_
          refine xl_take (i := 8) (v := .int .i64 x.h) rfl (by kernel_rfl) (by kernel_rfl) (by kernel_rfl) (by kernel_rfl) (yx_val (wantF (d := 55) rfl (by kernel_rfl) rfl rfl) (fun w' hx' => rv_load1 rfl ((hH.ext hx').blk (i := 0) rfl) (zLk_g15 x.a.2 x.r.2) (fr_eval rfl rfl) Try.underlying3 rfl Try.sz3)) ?_
          refine xl_take (i := 9) (v := .int .i64 (x.h + 1)) rfl (by kernel_rfl) (by kernel_rfl) (by kernel_rfl) (by kernel_rfl) (yx_val (wantF (d := 55) rfl (by kernel_rfl) rfl rfl) (fun w' hx' => rv_add rfl (fr_eval rfl rfl) rfl (wrap_i64 (by omega) (by omega) (by omega)))) ?_
          refine xl_take (i := 10) (v := y2) rfl (by kernel_rfl) (by kernel_rfl) (by kernel_rfl) (by kernel_rfl) (yx_val (wantF (d := 55) rfl (by kernel_rfl) rfl rfl) (fun w' hx' => rv_move rfl (fr_eval rfl e7))) ?_
          refine xl_take (i := 11) (v := .agg (cBs ((rootS (List.map sumT l)).1)).toArray) rfl (by kernel_rfl) (by kernel_rfl) (by kernel_rfl) (by kernel_rfl) (yx_call (wantF (d := 55) rfl (by kernel_rfl) rfl rfl) (fun w' => rv_call (args := [y2]) rfl (evc (fr_eval rfl rfl) evn) Try.call19) (fun w' hx' => root_calls (List.map sumT l) (by first | omega | (simp only [List.length_map]; omega) | decide | (simp only [List.length_map, List.length_replicate]; omega)) _ _ (Own.rd ((hH.ext hx').own (i := 3) rfl) (row_one cS_one)))) ?_
          refine xl_take (i := 12) (v := v) rfl (by kernel_rfl) (by kernel_rfl) (by kernel_rfl) (by kernel_rfl) (yx_val (wantF (d := 55) rfl (by kernel_rfl) rfl rfl) (fun w' hx' => rv_move rfl (fr_eval rfl e1))) ?_
          refine xl_take (i := 13) (v := .int .i64 ((l.length : Nat) : Int)) rfl (by kernel_rfl) (by kernel_rfl) (by kernel_rfl) (by kernel_rfl) (yx_val (wantF (d := 55) rfl (by kernel_rfl) rfl rfl) (fun w' hx' => rv_len rfl (fr_eval rfl rfl) (hr.rd _ (hH.chg.trans (Ext.any hx'))) Try.underlying41)) ?_
          refine xl_take (i := 14) (v := .agg (cBs ((headS x).1) ++ (([.int .i64 (x.h + 1)] : List Value) ++ (cBs ((rootS (List.map sumT l)).1) ++ ([.int .i64 ((l.length : Nat) : Int)] : List Value)))).toArray) rfl (by kernel_rfl) (by kernel_rfl) (by kernel_rfl) (by kernel_rfl) (yx_val (wantF (d := 55) rfl (by kernel_rfl) rfl rfl) (fun w' hx' => rv_buildS (ps := [(0, (.tmp 59)), (1, (.tmp 62)), (2, (.tmp 64)), (3, (.tmp 66))]) (places := #[(0, 32), (32, 1), (33, 32), (65, 1)]) (z := .agg (cBs (List.replicate 32 0) ++ (([.int .i64 0] : List Value) ++ (cBs (List.replicate 32 0) ++ ([.int .i64 0] : List Value)))).toArray) (zc := cBs (List.replicate 32 0) ++ (([.int .i64 0] : List Value) ++ (cBs (List.replicate 32 0) ++ ([.int .i64 0] : List Value)))) (cs := cBs ((headS x).1) ++ (([.int .i64 (x.h + 1)] : List Value) ++ (cBs ((rootS (List.map sumT l)).1) ++ ([.int .i64 ((l.length : Nat) : Int)] : List Value)))) rfl (evpc (fr_eval rfl rfl) (evpc (fr_eval rfl rfl) (evpc (fr_eval rfl rfl) (evpc (fr_eval rfl rfl) evpn)))) (by kernel_rfl) rfl Try.underlying40 (fun _ => by kernel_rfl) (fillM (cells' := _) (cs := cBs ((headS x).1)) (off := 0) (n := 32) rfl (cells_agg _) (cBs_len (headS x).2) (le_of_len2 (zLk_l14 (List.length_replicate ..) (List.length_replicate ..)) (by decide)) (zLk_y17 (List.length_replicate ..) (List.length_replicate ..) ((headS x).2)) (fillM (cells' := _) (cs := [.int .i64 (x.h + 1)]) (off := 32) (n := 1) rfl (cells_one rfl) (show List.length [.int .i64 (x.h + 1)] = 1 from rfl) (le_of_len2 (zLk_l14 ((headS x).2) (List.length_replicate ..)) (by decide)) (zLk_y18 ((headS x).2) (List.length_replicate ..)) (fillM (cells' := _) (cs := cBs ((rootS (List.map sumT l)).1)) (off := 33) (n := 32) rfl (cells_agg _) (cBs_len (rootS (List.map sumT l)).2) (le_of_len2 (zLk_l14 ((headS x).2) (List.length_replicate ..)) (by decide)) (zLk_y19 ((headS x).2) (List.length_replicate ..) ((rootS (List.map sumT l)).2)) (fillM (cells' := _) (cs := [.int .i64 ((l.length : Nat) : Int)]) (off := 65) (n := 1) rfl (cells_one rfl) (show List.length [.int .i64 ((l.length : Nat) : Int)] = 1 from rfl) (le_of_len2 (zLk_l14 ((headS x).2) ((rootS (List.map sumT l)).2)) (by decide)) (zLk_y20 ((headS x).2) ((rootS (List.map sumT l)).2)) fill0)))))) ?_
          refine xl_take (i := 15) (v := .bool false) rfl (by kernel_rfl) (by kernel_rfl) (by kernel_rfl) (by kernel_rfl) (yx_val (wantF (d := 55) rfl (by kernel_rfl) rfl rfl) (fun w' hx' => rv_neHd (r := (⟨(headS x), x.h + 1, (rootS (List.map sumT l)), ((l.length : Nat) : Int)⟩ : Hd)) rfl (fr_eval rfl rfl) (fr_eval rfl rfl))) ?_
          refine xl_take (i := 16) (v := .bool false) rfl (by kernel_rfl) (by kernel_rfl) (by kernel_rfl) (by kernel_rfl) (yx_val (wantAll rfl) (fun w' hx' => rv_pickF rfl (fr_eval rfl rfl) (fr_eval rfl rfl))) ?_
          refine xl_take (i := 17) (v := .bool false) rfl (by kernel_rfl) (by kernel_rfl) (by kernel_rfl) (by kernel_rfl) (yx_val (wantAll rfl) (fun w' hx' => rv_move rfl (fr_eval rfl rfl))) ?_
          refine xl_take (i := 18) (v := .agg (cBs ((headS x).1) ++ (([.int .i64 (x.h + 1)] : List Value) ++ (cBs ((rootS (List.map sumT l)).1) ++ ([.int .i64 ((l.length : Nat) : Int), y1] : List Value)))).toArray) rfl (by kernel_rfl) (by kernel_rfl) (by kernel_rfl) (by kernel_rfl) (yx_val (wantF (d := 70) rfl (by kernel_rfl) rfl rfl) (fun w' hx' => rv_loadW rfl ((hH.ext hx').blk (i := 2) rfl) (fr_eval rfl e5) Try.underlying43 rfl (sz_len Try.sz43 (zLk_l7 ((headS x).2) ((rootS (List.map sumT l)).2))))) ?_
          refine xl_take (i := 19) (v := .bool true) rfl (by kernel_rfl) (by kernel_rfl) (by kernel_rfl) (by kernel_rfl) (yx_call (wantF (d := 70) rfl (by kernel_rfl) rfl rfl) (fun w' => rv_call (args := [.agg (cBs ((headS x).1) ++ (([.int .i64 (x.h + 1)] : List Value) ++ (cBs ((rootS (List.map sumT l)).1) ++ ([.int .i64 ((l.length : Nat) : Int), y1] : List Value)))).toArray]) rfl (evc (fr_eval rfl rfl) evn) Try.call28) (fun w' hx' => calls_known (b' := true) (bRight_calls (⟨(headS x), x.h + 1, (rootS (List.map sumT l)), ((l.length : Nat) : Int)⟩ : Hd) (by refine ⟨⟨?_, ?_⟩, ?_, ?_⟩ <;> first | omega | decide | (simp only [List.length_replicate]; omega)) l (by omega) hs _ _ (fun t ht => (hts t ht).later (hH.chg.trans (Ext.any hx')) (newN_up (hH.chg.trans (Ext.any hx')) hH.up)) (Own.rd ((hH.ext hx').own (i := 1) rfl) (row_one cTx_one))) (decide_eq_true ⟨⟨⟨⟨rfl, by show ((l.length : Nat) : Int) ≤ 64; omega⟩, by show x.h + 1 ≥ 0; omega⟩, by show x.h + 1 ≤ 1073741824; omega⟩, rfl⟩))) ?_
          refine xl_take (i := 20) (v := .bool false) rfl (by kernel_rfl) (by kernel_rfl) (by kernel_rfl) (by kernel_rfl) (yx_val (wantF (d := 70) rfl (by kernel_rfl) rfl rfl) (fun w' hx' => rv_not (b := true) rfl (fr_eval rfl rfl))) ?_
          refine xl_take (i := 21) (v := .bool false) rfl (by kernel_rfl) (by kernel_rfl) (by kernel_rfl) (by kernel_rfl) (yx_val (wantAll rfl) (fun w' hx' => rv_pickF rfl (fr_eval rfl rfl) (fr_eval rfl rfl))) ?_
          refine xl_take (i := 22) (v := .bool false) rfl (by kernel_rfl) (by kernel_rfl) (by kernel_rfl) (by kernel_rfl) (yx_val (wantAll rfl) (fun w' hx' => rv_move rfl (fr_eval rfl rfl))) ?_
          refine xl_take (i := 23) (v := .pointer (some ⟨g2, 66, none⟩)) rfl (by kernel_rfl) (by kernel_rfl) (by kernel_rfl) (by kernel_rfl) (yx_val (wantF (d := 75) rfl (by kernel_rfl) rfl rfl) (fun w' hx' => rv_fieldAddr (n := 0) rfl (fr_eval rfl e5) Try.underlying43 rfl rfl (by kernel_rfl))) ?_
          refine xl_take (i := 24) (v := y1) rfl (by kernel_rfl) (by kernel_rfl) (by kernel_rfl) (by kernel_rfl) (yx_val (wantF (d := 75) rfl (by kernel_rfl) rfl rfl) (fun w' hx' => rv_load1 rfl ((hH.ext hx').blk (i := 2) rfl) (zLk_g11 ((headS x).2) ((rootS (List.map sumT l)).2)) (fr_eval rfl rfl) Try.underlying41 rfl Try.sz41)) ?_
          refine xl_take (i := 25) (v := .int .i64 ((l.length : Nat) : Int)) rfl (by kernel_rfl) (by kernel_rfl) (by kernel_rfl) (by kernel_rfl) (yx_val (wantF (d := 75) rfl (by kernel_rfl) rfl rfl) (fun w' hx' => rv_len rfl (fr_eval rfl rfl) (Own.rd ((hH.ext hx').own (i := 1) rfl) (row_one cTx_one)) Try.underlying41)) ?_
          refine xl_take (i := 26) (v := v) rfl (by kernel_rfl) (by kernel_rfl) (by kernel_rfl) (by kernel_rfl) (yx_val (wantF (d := 75) rfl (by kernel_rfl) rfl rfl) (fun w' hx' => rv_move rfl (fr_eval rfl e1))) ?_
          refine xl_take (i := 27) (v := .int .i64 ((l.length : Nat) : Int)) rfl (by kernel_rfl) (by kernel_rfl) (by kernel_rfl) (by kernel_rfl) (yx_val (wantF (d := 75) rfl (by kernel_rfl) rfl rfl) (fun w' hx' => rv_len rfl (fr_eval rfl rfl) (hr.rd _ (hH.chg.trans (Ext.any hx'))) Try.underlying41)) ?_
          refine xl_tail (s := 28) rfl ?_
          intro w9 hx
          replace hH := hH.ext hx
          clear hx
          refine lf_val (v := .bool false) (wantF (d := 75) rfl (by kernel_rfl) rfl rfl) (rv_known (rv_neqP (p := False) rfl (fr_eval rfl rfl) (fr_eval rfl rfl) (by simp)) (decide_eq_false id)) ?_
          refine lf_val (v := .bool false) (wantAll rfl) (rv_pickF rfl (fr_eval rfl rfl) (fr_eval rfl rfl)) ?_
          refine lf_nil ?_
          refine then_n ?_
          refine wp_gen (fun F' => F' 0 = .agg (cBs x.a.1 ++ (([.int .i64 x.h] : List Value) ++ (cBs x.r.1 ++ ([.int .i64 x.m] : List Value)))).toArray ∧ F' 1 = v ∧ F' 2 = .pointer (some ⟨g1, 0, none⟩) ∧ F' 4 = .bool false ∧ F' 5 = .pointer (some ⟨g2, 0, none⟩) ∧ F' 6 = .int .i64 0 ∧ F' 7 = y2 ∧ F' 13 = .bool false ∧ F' 25 = .bool false ∧ F' 33 = .bool false ∧ F' 82 = .bool false) ⟨e0, e1, e2, e4, e5, e6, e7, e13, e25, e33, rfl⟩ ?_
          clear e0 e1 e2 e4 e5 e6 e7 e13 e25 e33
          clear F
          rintro F ⟨e0, e1, e2, e4, e5, e6, e7, e13, e25, e33, e82⟩
          refine wp_cond_false (fr_eval rfl e82) ?_
          refine wp_skip ?_
          refine then_n ?_
          refine wp_seq ?_
          refine wp_seq ?_
          refine wp_regionF ?_
          refine lf_val (v := .int .i64 0) (wantAll rfl) (rv_assign rfl rfl) ?_
          refine lf_nil ?_
          refine then_n ?_
          refine wp_block ?_
          refine wp_gen (fun F' => F' 0 = .agg (cBs x.a.1 ++ (([.int .i64 x.h] : List Value) ++ (cBs x.r.1 ++ ([.int .i64 x.m] : List Value)))).toArray ∧ F' 1 = v ∧ F' 2 = .pointer (some ⟨g1, 0, none⟩) ∧ F' 4 = .bool false ∧ F' 5 = .pointer (some ⟨g2, 0, none⟩) ∧ F' 6 = .int .i64 0 ∧ F' 7 = y2 ∧ F' 8 = .int .i64 0 ∧ F' 13 = .bool false ∧ F' 25 = .bool false ∧ F' 33 = .bool false ∧ F' 82 = .bool false) ⟨e0, e1, e2, e4, e5, e6, e7, rfl, e13, e25, e33, e82⟩ ?_
          clear e0 e1 e2 e4 e5 e6 e7 e13 e25 e33 e82
          clear F
          rintro F ⟨e0, e1, e2, e4, e5, e6, e7, e8, e13, e25, e33, e82⟩
          refine wp_loopF (fun m F wr => ∃ i : Nat, m = l.length - i ∧ i ≤ l.length ∧ F 0 = .agg (cBs x.a.1 ++ (([.int .i64 x.h] : List Value) ++ (cBs x.r.1 ++ ([.int .i64 x.m] : List Value)))).toArray ∧ F 1 = v ∧ F 2 = .pointer (some ⟨g1, 0, none⟩) ∧ F 5 = .pointer (some ⟨g2, 0, none⟩) ∧ F 6 = .int .i64 0 ∧ F 7 = y2 ∧ F 8 = .int .i64 ((i : Nat) : Int) ∧ F 13 = .bool false ∧ F 25 = .bool false ∧ F 33 = .bool false ∧ F 82 = .bool false ∧ Heap (newN w) w wr [oBlk g1 (cBs x.a.1 ++ (([.int .i64 x.h] : List Value) ++ (cBs x.r.1 ++ ([.int .i64 x.m] : List Value)))) 40, oRow cTx 63 40 y1 l, oBlk g2 (cBs ((headS x).1) ++ (([.int .i64 (x.h + 1)] : List Value) ++ (cBs ((rootS (List.map sumT l)).1) ++ ([.int .i64 ((l.length : Nat) : Int), y1] : List Value)))) 43, oRow cS 23 32 y2 (List.map sumT l)]) ⟨0, rfl, Nat.zero_le _, e0, e1, e2, e5, e6, e7, e8, e13, e25, e33, e82, hH⟩ ?_
          clear e0 e1 e2 e4 e5 e6 e7 e8 e13 e25 e33 e82 hH
          clear F
          rintro m F w10 ⟨i, rfl, pi0, e0, e1, e2, e5, e6, e7, e8, e13, e25, e33, e82, hH⟩
          refine wp_seq ?_
          refine wp_seq ?_
          refine wp_regionF ?_
          refine lf_val (v := .int .i64 ((i : Nat) : Int)) (wantAll rfl) (rv_move rfl (fr_eval rfl e8)) ?_
          refine lf_val (v := v) (wantAll rfl) (rv_move rfl (fr_eval rfl e1)) ?_
          refine lf_val (v := .int .i64 ((l.length : Nat) : Int)) (wantAll rfl) (rv_len rfl (fr_eval rfl rfl) (hr.rd _ hH.chg) Try.underlying41) ?_
          refine lf_val (v := .bool (decide (i < l.length))) (wantAll rfl) (rv_lssP (p := i < l.length) rfl (fr_eval rfl rfl) (fr_eval rfl rfl) (by omega)) ?_
          refine lf_nil ?_
          refine then_n ?_
          refine wp_gen (fun F' => F' 0 = .agg (cBs x.a.1 ++ (([.int .i64 x.h] : List Value) ++ (cBs x.r.1 ++ ([.int .i64 x.m] : List Value)))).toArray ∧ F' 1 = v ∧ F' 2 = .pointer (some ⟨g1, 0, none⟩) ∧ F' 5 = .pointer (some ⟨g2, 0, none⟩) ∧ F' 6 = .int .i64 0 ∧ F' 7 = y2 ∧ F' 8 = .int .i64 ((i : Nat) : Int) ∧ F' 13 = .bool false ∧ F' 25 = .bool false ∧ F' 33 = .bool false ∧ F' 82 = .bool false ∧ F' 86 = .bool (decide (i < l.length))) ⟨e0, e1, e2, e5, e6, e7, e8, e13, e25, e33, e82, rfl⟩ ?_
          clear e0 e1 e2 e5 e6 e7 e8 e13 e25 e33 e82
          clear F
          rintro F ⟨e0, e1, e2, e5, e6, e7, e8, e13, e25, e33, e82, e86⟩
          by_cases hc4 : i < l.length
          · refine wp_cond_true (fr_eval rfl (e86.trans (congrArg Value.bool (decide_eq_true hc4)))) ?_
            refine wp_skip ?_
            refine then_n ?_
            refine wp_seq ?_
            refine wp_block ?_
            refine wp_seq ?_
            refine wp_regionF ?_
            refine lf_val (wantAll rfl) (rv_loadW rfl (hH.blk (i := 2) rfl) (fr_eval rfl e5) Try.underlying43 rfl (sz_len Try.sz43 (zLk_l7 ((headS x).2) ((rootS (List.map sumT l)).2)))) ?_
            refine lf_val (v := .int .i64 ((i : Nat) : Int)) (wantAll rfl) (rv_move rfl (fr_eval rfl e8)) ?_
            refine lf_call (wantAll rfl) (rv_call (args := [.agg (cBs ((headS x).1) ++ (([.int .i64 (x.h + 1)] : List Value) ++ (cBs ((rootS (List.map sumT l)).1) ++ ([.int .i64 ((l.length : Nat) : Int), y1] : List Value)))).toArray, .int .i64 ((i : Nat) : Int)]) rfl (evc (fr_eval rfl rfl) (evc (fr_eval rfl rfl) evn)) Try.call32) (bPath_in (⟨(headS x), x.h + 1, (rootS (List.map sumT l)), ((l.length : Nat) : Int)⟩ : Hd) i l (by omega) hs (by omega) _ _ (fun t ht => (hts t ht).later hH.chg (newN_up hH.chg hH.up)) (Own.rd (hH.own (i := 1) rfl) (row_one cTx_one))) ?_
            rintro _ w11 ⟨⟨y3, rfl, ho, hg⟩, hx⟩
            refine ⟨_, rfl, ?_⟩
            replace hH : Heap _ _ _ [_, _, _, _, _] := hH.addOwn hx hg ho
            clear ho hg
            clear hx
            refine lf_val (v := .tuple #[y3, .bool true]) (wantAll rfl) (rv_move rfl (fr_eval rfl rfl)) ?_
            refine lf_val (v := y3) (wantAll rfl) (rv_extract rfl (fr_eval rfl rfl) rfl) ?_
            refine lf_val (v := .bool true) (wantAll rfl) (rv_extract rfl (fr_eval rfl rfl) rfl) ?_
            refine lf_val (v := y3) (wantAll rfl) (rv_assign rfl (fr_eval rfl rfl)) ?_
            refine lf_val (v := .bool true) (wantAll rfl) (rv_assign rfl (fr_eval rfl rfl)) ?_
            refine lf_nil ?_
            refine then_n ?_
            refine wp_seq ?_
            refine wp_gen (fun F' => F' 0 = .agg (cBs x.a.1 ++ (([.int .i64 x.h] : List Value) ++ (cBs x.r.1 ++ ([.int .i64 x.m] : List Value)))).toArray ∧ F' 1 = v ∧ F' 2 = .pointer (some ⟨g1, 0, none⟩) ∧ F' 5 = .pointer (some ⟨g2, 0, none⟩) ∧ F' 6 = .int .i64 0 ∧ F' 7 = y2 ∧ F' 8 = .int .i64 ((i : Nat) : Int) ∧ F' 9 = y3 ∧ F' 10 = .bool true ∧ F' 13 = .bool false ∧ F' 25 = .bool false ∧ F' 33 = .bool false ∧ F' 82 = .bool false ∧ F' 86 = .bool true) ⟨e0, e1, e2, e5, e6, e7, e8, rfl, rfl, e13, e25, e33, e82, (e86.trans (congrArg Value.bool (decide_eq_true hc4)))⟩ ?_
            clear e0 e1 e2 e5 e6 e7 e8 e13 e25 e33 e82 e86
            clear F
            rintro F ⟨e0, e1, e2, e5, e6, e7, e8, e9, e10, e13, e25, e33, e82, e86⟩
            refine wp_regionX (fun _ => False) 25 (by kernel_rfl) (by kernel_rfl) ?_
            refine xl_take (i := 0) (v := .bool true) rfl (by kernel_rfl) (by kernel_rfl) (by kernel_rfl) (by kernel_rfl) (yx_val (wantAll rfl) (fun w' hx' => rv_move rfl (fr_eval rfl e10))) ?_
            refine xl_take (i := 1) (v := .bool false) rfl (by kernel_rfl) (by kernel_rfl) (by kernel_rfl) (by kernel_rfl) (yx_val (wantAll rfl) (fun w' hx' => rv_not (b := true) rfl (fr_eval rfl rfl))) ?_
            refine xl_take (i := 2) (v := .bool false) rfl (by kernel_rfl) (by kernel_rfl) (by kernel_rfl) (by kernel_rfl) (yx_val (wantAll rfl) (fun w' hx' => rv_move rfl (fr_eval rfl rfl))) ?_
            refine xl_take (i := 3) (v := .pointer (some ⟨g2, 0, none⟩)) rfl (by kernel_rfl) (by kernel_rfl) (by kernel_rfl) (by kernel_rfl) (yx_val (wantF (d := 97) rfl (by kernel_rfl) rfl rfl) (fun w' hx' => rv_fieldAddr (n := 65) rfl (fr_eval rfl e5) Try.underlying43 rfl rfl (by kernel_rfl))) ?_
            refine xl_take (i := 4) (v := .agg (cBs ((headS x).1) ++ (([.int .i64 (x.h + 1)] : List Value) ++ (cBs ((rootS (List.map sumT l)).1) ++ ([.int .i64 ((l.length : Nat) : Int)] : List Value)))).toArray) rfl (by kernel_rfl) (by kernel_rfl) (by kernel_rfl) (by kernel_rfl) (yx_val (wantF (d := 97) rfl (by kernel_rfl) rfl rfl) (fun w' hx' => rv_loadP rfl ((hH.ext hx').blk (i := 2) rfl) (zLk_p16 ((headS x).2) ((rootS (List.map sumT l)).2)) (zLk_l14 ((headS x).2) ((rootS (List.map sumT l)).2)) (fr_eval rfl rfl) Try.underlying40 rfl Try.sz40)) ?_
            refine xl_take (i := 5) (v := y2) rfl (by kernel_rfl) (by kernel_rfl) (by kernel_rfl) (by kernel_rfl) (yx_val (wantF (d := 97) rfl (by kernel_rfl) rfl rfl) (fun w' hx' => rv_move rfl (fr_eval rfl e7))) ?_
            refine xl_take (i := 6) (v := .int .i64 ((i : Nat) : Int)) rfl (by kernel_rfl) (by kernel_rfl) (by kernel_rfl) (by kernel_rfl) (yx_val (wantF (d := 97) rfl (by kernel_rfl) rfl rfl) (fun w' hx' => rv_move rfl (fr_eval rfl e8))) ?_
            refine xl_take (i := 7) (v := .pointer (some (elemA y2 (i * 32)))) rfl (by kernel_rfl) (by kernel_rfl) (by kernel_rfl) (by kernel_rfl) (yx_val (wantF (d := 97) rfl (by kernel_rfl) rfl rfl) (fun w' hx' => rv_index rfl (fr_eval rfl rfl) (fr_eval rfl rfl) (rdN (Own.rd ((hH.ext hx').own (i := 3) rfl) (row_one cS_one)) rfl) (show i < (List.map sumT l).length from (by omega)) Try.underlying24 Try.sz23 (by decide))) ?_
            refine xl_take (i := 8) (v := .agg (cBs (((List.getD (List.map sumT l) i zS)).1)).toArray) rfl (by kernel_rfl) (by kernel_rfl) (by kernel_rfl) (by kernel_rfl) (yx_val (wantF (d := 97) rfl (by kernel_rfl) rfl rfl) (fun w' hx' => rv_loadElem rfl (fr_eval rfl rfl) (rdN (Own.rd ((hH.ext hx').own (i := 3) rfl) (row_one cS_one)) rfl) (show i < (List.map sumT l).length from (by omega)) (by decide) (flat_part zS cS_len (show i < (List.map sumT l).length from (by omega))) Try.underlying23 rfl Try.sz23)) ?_
            refine xl_take (i := 9) (v := .int .i64 ((i : Nat) : Int)) rfl (by kernel_rfl) (by kernel_rfl) (by kernel_rfl) (by kernel_rfl) (yx_val (wantF (d := 97) rfl (by kernel_rfl) rfl rfl) (fun w' hx' => rv_move rfl (fr_eval rfl e8))) ?_
            refine xl_take (i := 10) (v := y3) rfl (by kernel_rfl) (by kernel_rfl) (by kernel_rfl) (by kernel_rfl) (yx_val (wantF (d := 97) rfl (by kernel_rfl) rfl rfl) (fun w' hx' => rv_move rfl (fr_eval rfl e9))) ?_
            refine xl_take (i := 11) (v := .bool true) rfl (by kernel_rfl) (by kernel_rfl) (by kernel_rfl) (by kernel_rfl) (yx_call (wantF (d := 97) rfl (by kernel_rfl) rfl rfl) (fun w' => rv_call (args := [.agg (cBs ((headS x).1) ++ (([.int .i64 (x.h + 1)] : List Value) ++ (cBs ((rootS (List.map sumT l)).1) ++ ([.int .i64 ((l.length : Nat) : Int)] : List Value)))).toArray, .agg (cBs (((List.getD (List.map sumT l) i zS)).1)).toArray, .int .i64 ((i : Nat) : Int), y3]) rfl (evc (fr_eval rfl rfl) (evc (fr_eval rfl rfl) (evc (fr_eval rfl rfl) (evc (fr_eval rfl rfl) evn)))) Try.call33) (fun w' hx' => calls_known (b' := true) (bHas_calls (⟨(headS x), x.h + 1, (rootS (List.map sumT l)), ((l.length : Nat) : Int)⟩ : Hd) (by refine ⟨⟨?_, ?_⟩, ?_, ?_⟩ <;> first | omega | decide | (simp only [List.length_replicate]; omega)) ((List.getD (List.map sumT l) i zS)) ((i : Nat) : Int) (by omega) (pathT (List.map leafS (List.map sumT l)) i) _ _ (Own.rd ((hH.ext hx').own (i := 4) rfl) (row_one cS_one))) ((has_own (by omega) (by omega) (by omega) rfl)))) ?_
            refine xl_take (i := 12) (v := .bool false) rfl (by kernel_rfl) (by kernel_rfl) (by kernel_rfl) (by kernel_rfl) (yx_val (wantF (d := 97) rfl (by kernel_rfl) rfl rfl) (fun w' hx' => rv_not (b := true) rfl (fr_eval rfl rfl))) ?_
            refine xl_take (i := 13) (v := .bool false) rfl (by kernel_rfl) (by kernel_rfl) (by kernel_rfl) (by kernel_rfl) (yx_val (wantAll rfl) (fun w' hx' => rv_pickF rfl (fr_eval rfl rfl) (fr_eval rfl rfl))) ?_
            refine xl_take (i := 14) (v := .bool false) rfl (by kernel_rfl) (by kernel_rfl) (by kernel_rfl) (by kernel_rfl) (yx_val (wantAll rfl) (fun w' hx' => rv_move rfl (fr_eval rfl rfl))) ?_
            refine xl_take (i := 15) (v := .pointer (some ⟨g2, 66, none⟩)) rfl (by kernel_rfl) (by kernel_rfl) (by kernel_rfl) (by kernel_rfl) (yx_val (wantF (d := 109) rfl (by kernel_rfl) rfl rfl) (fun w' hx' => rv_fieldAddr (n := 0) rfl (fr_eval rfl e5) Try.underlying43 rfl rfl (by kernel_rfl))) ?_
            refine xl_take (i := 16) (v := y1) rfl (by kernel_rfl) (by kernel_rfl) (by kernel_rfl) (by kernel_rfl) (yx_val (wantF (d := 109) rfl (by kernel_rfl) rfl rfl) (fun w' hx' => rv_load1 rfl ((hH.ext hx').blk (i := 2) rfl) (zLk_g11 ((headS x).2) ((rootS (List.map sumT l)).2)) (fr_eval rfl rfl) Try.underlying41 rfl Try.sz41)) ?_
            refine xl_take (i := 17) (v := .int .i64 ((i : Nat) : Int)) rfl (by kernel_rfl) (by kernel_rfl) (by kernel_rfl) (by kernel_rfl) (yx_val (wantF (d := 109) rfl (by kernel_rfl) rfl rfl) (fun w' hx' => rv_move rfl (fr_eval rfl e8))) ?_
            refine xl_take (i := 18) (v := .pointer (some (elemA y1 (i * 40)))) rfl (by kernel_rfl) (by kernel_rfl) (by kernel_rfl) (by kernel_rfl) (yx_val (wantF (d := 109) rfl (by kernel_rfl) rfl rfl) (fun w' hx' => rv_index rfl (fr_eval rfl rfl) (fr_eval rfl rfl) (rdN (Own.rd ((hH.ext hx').own (i := 1) rfl) (row_one cTx_one)) rfl) (show i < l.length from (by omega)) Try.underlying41 Try.sz63 (by decide))) ?_
            refine xl_take (i := 19) (v := .agg (([(List.getD l i zTx).vi.1, (List.getD l i zTx).vo.1, .int .i64 ((List.getD l i zTx).kd), .int .i64 ((List.getD l i zTx).tw), .int .i64 ((List.getD l i zTx).ch), .int .i64 ((List.getD l i zTx).am)] : List Value) ++ (cBs ((List.getD l i zTx).root.1) ++ ([(List.getD l i zTx).vd.1, (List.getD l i zTx).vs.1] : List Value))).toArray) rfl (by kernel_rfl) (by kernel_rfl) (by kernel_rfl) (by kernel_rfl) (yx_val (wantF (d := 109) rfl (by kernel_rfl) rfl rfl) (fun w' hx' => rv_loadElem rfl (fr_eval rfl rfl) (rdN (Own.rd ((hH.ext hx').own (i := 1) rfl) (row_one cTx_one)) rfl) (show i < l.length from (by omega)) (by decide) (flat_part zTx cTx_len (show i < l.length from (by omega))) Try.underlying63 rfl Try.sz63)) ?_
            refine xl_take (i := 20) (v := .agg (cBs ((sumT (List.getD l i zTx)).1)).toArray) rfl (by kernel_rfl) (by kernel_rfl) (by kernel_rfl) (by kernel_rfl) (yx_call (wantF (d := 109) rfl (by kernel_rfl) rfl rfl) (fun w' => rv_call (args := [.agg (([(List.getD l i zTx).vi.1, (List.getD l i zTx).vo.1, .int .i64 ((List.getD l i zTx).kd), .int .i64 ((List.getD l i zTx).tw), .int .i64 ((List.getD l i zTx).ch), .int .i64 ((List.getD l i zTx).am)] : List Value) ++ (cBs ((List.getD l i zTx).root.1) ++ ([(List.getD l i zTx).vd.1, (List.getD l i zTx).vs.1] : List Value))).toArray]) rfl (evc (fr_eval rfl rfl) evn) Try.call34) (fun w' hx' => txSum_calls (List.getD l i zTx) (hs _ (getD_memX (by omega))) _ ((hts _ (getD_memX (by omega))).later (hH.chg.trans (Ext.any hx')) (newN_up (hH.chg.trans (Ext.any hx')) hH.up)))) ?_
            refine xl_take (i := 21) (v := y2) rfl (by kernel_rfl) (by kernel_rfl) (by kernel_rfl) (by kernel_rfl) (yx_val (wantF (d := 109) rfl (by kernel_rfl) rfl rfl) (fun w' hx' => rv_move rfl (fr_eval rfl e7))) ?_
            refine xl_take (i := 22) (v := .int .i64 ((i : Nat) : Int)) rfl (by kernel_rfl) (by kernel_rfl) (by kernel_rfl) (by kernel_rfl) (yx_val (wantF (d := 109) rfl (by kernel_rfl) rfl rfl) (fun w' hx' => rv_move rfl (fr_eval rfl e8))) ?_
            refine xl_take (i := 23) (v := .pointer (some (elemA y2 (i * 32)))) rfl (by kernel_rfl) (by kernel_rfl) (by kernel_rfl) (by kernel_rfl) (yx_val (wantF (d := 109) rfl (by kernel_rfl) rfl rfl) (fun w' hx' => rv_index rfl (fr_eval rfl rfl) (fr_eval rfl rfl) (rdN (Own.rd ((hH.ext hx').own (i := 3) rfl) (row_one cS_one)) rfl) (show i < (List.map sumT l).length from (by omega)) Try.underlying24 Try.sz23 (by decide))) ?_
            refine xl_take (i := 24) (v := .agg (cBs (((List.getD (List.map sumT l) i zS)).1)).toArray) rfl (by kernel_rfl) (by kernel_rfl) (by kernel_rfl) (by kernel_rfl) (yx_val (wantF (d := 109) rfl (by kernel_rfl) rfl rfl) (fun w' hx' => rv_loadElem rfl (fr_eval rfl rfl) (rdN (Own.rd ((hH.ext hx').own (i := 3) rfl) (row_one cS_one)) rfl) (show i < (List.map sumT l).length from (by omega)) (by decide) (flat_part zS cS_len (show i < (List.map sumT l).length from (by omega))) Try.underlying23 rfl Try.sz23)) ?_
            refine xl_tail (s := 25) rfl ?_
            intro w12 hx
            replace hH := hH.ext hx
            clear hx
            refine lf_val (v := .bool false) (wantF (d := 109) rfl (by kernel_rfl) rfl rfl) (neT (b := true) rfl (fr_eval rfl rfl) (fr_eval rfl rfl) (sumT (List.getD l i zTx)).2 ((List.getD (List.map sumT l) i zS)).2 (by rw [sums_get (by omega)]; exact beq_self_eq_true _)) ?_
            refine lf_val (v := .bool false) (wantAll rfl) (rv_pickF rfl (fr_eval rfl rfl) (fr_eval rfl rfl)) ?_
            refine lf_nil ?_
            refine then_n ?_
            refine wp_gen (fun F' => F' 0 = .agg (cBs x.a.1 ++ (([.int .i64 x.h] : List Value) ++ (cBs x.r.1 ++ ([.int .i64 x.m] : List Value)))).toArray ∧ F' 1 = v ∧ F' 2 = .pointer (some ⟨g1, 0, none⟩) ∧ F' 5 = .pointer (some ⟨g2, 0, none⟩) ∧ F' 6 = .int .i64 0 ∧ F' 7 = y2 ∧ F' 8 = .int .i64 ((i : Nat) : Int) ∧ F' 9 = y3 ∧ F' 10 = .bool true ∧ F' 13 = .bool false ∧ F' 25 = .bool false ∧ F' 33 = .bool false ∧ F' 82 = .bool false ∧ F' 86 = .bool true ∧ F' 121 = .bool false) ⟨e0, e1, e2, e5, e6, e7, e8, e9, e10, e13, e25, e33, e82, e86, rfl⟩ ?_
            clear e0 e1 e2 e5 e6 e7 e8 e9 e10 e13 e25 e33 e82 e86
            clear F
            rintro F ⟨e0, e1, e2, e5, e6, e7, e8, e9, e10, e13, e25, e33, e82, e86, e121⟩
            refine wp_cond_false (fr_eval rfl e121) ?_
            refine wp_skip ?_
            refine blk_n ?_
            refine then_n ?_
            refine wp_regionF ?_
            refine lf_val (v := .int .i64 ((i : Nat) : Int)) (wantAll rfl) (rv_move rfl (fr_eval rfl e8)) ?_
            refine lf_val (v := .int .i64 ((i + 1 : Nat) : Int)) (wantAll rfl) (rv_add rfl (fr_eval rfl rfl) rfl (wrap_i64 (by omega) (by omega) (by omega))) ?_
            refine lf_val (v := .int .i64 ((i + 1 : Nat) : Int)) (wantAll rfl) (rv_assign rfl (fr_eval rfl rfl)) ?_
            refine lf_nil ?_
            refine then_n ?_
            replace hH : Heap _ _ _ [_, _, _, _] := hH.drop (.cons_cons _ (.cons_cons _ (.cons_cons _ (.cons_cons _ (.cons _ .slnil)))))
            exact ⟨_, _, (by omega), rfl, i + 1, rfl, (by omega), e0, e1, e2, e5, e6, e7, rfl, e13, e25, e33, e82, hH⟩
          · refine wp_cond_false (fr_eval rfl (e86.trans (congrArg Value.bool (decide_eq_false hc4)))) ?_
            refine wp_exit ?_
            refine then_exit ?_
            refine then_exit ?_
            refine blk_exit ?_
            refine then_n ?_
            refine wp_seq ?_
            refine wp_regionF ?_
            refine lf_call (wantAll rfl) (rv_call (args := []) rfl evn Try.call26) (awake19_calls _) ?_
            rintro _ w13 ⟨rfl, hx⟩
            refine ⟨_, rfl, ?_⟩
            replace hH := hH.ext hx
            clear hx
            refine lf_val (v := .bool true) (wantAll rfl) (rv_assign rfl (fr_eval rfl rfl)) ?_
            refine lf_nil ?_
            refine then_n ?_
            refine wp_gen (fun F' => F' 0 = .agg (cBs x.a.1 ++ (([.int .i64 x.h] : List Value) ++ (cBs x.r.1 ++ ([.int .i64 x.m] : List Value)))).toArray ∧ F' 1 = v ∧ F' 2 = .pointer (some ⟨g1, 0, none⟩) ∧ F' 4 = .bool true ∧ F' 5 = .pointer (some ⟨g2, 0, none⟩) ∧ F' 6 = .int .i64 0 ∧ F' 7 = y2 ∧ F' 8 = .int .i64 ((i : Nat) : Int) ∧ F' 13 = .bool false ∧ F' 25 = .bool false ∧ F' 33 = .bool false ∧ F' 82 = .bool false ∧ F' 86 = .bool false) ⟨e0, e1, e2, rfl, e5, e6, e7, e8, e13, e25, e33, e82, (e86.trans (congrArg Value.bool (decide_eq_false hc4)))⟩ ?_
            clear e0 e1 e2 e5 e6 e7 e8 e13 e25 e33 e82 e86
            clear F
            rintro F ⟨e0, e1, e2, e4, e5, e6, e7, e8, e13, e25, e33, e82, e86⟩
            refine wp_ret ?_
            exact bodyPost_ret (v := (.bool true)) (res1 rfl (ro_tmp rfl e4)) rfl (⟨rfl, hH.done⟩)
    · have hs := (hf1 : smL l).2
      have hl20 : l.length ≤ 20 := (hf1 : smL l).1
      have hml : (List.map sumT l).length = l.length := List.length_map ..
      refine wp_regionF ?_
      refine lf_val (wantAll rfl) (rv_loadW rfl (hH.blk (i := 0) rfl) (fr_eval rfl e2) Try.underlying40 rfl (sz_len Try.sz40 (zLk_l14 x.a.2 x.r.2))) ?_
      refine lf_val (v := v) (wantAll rfl) (rv_move rfl (fr_eval rfl e1)) ?_
      refine lf_call (wantAll rfl) (rv_call (args := [.agg (cBs x.a.1 ++ (([.int .i64 x.h] : List Value) ++ (cBs x.r.1 ++ ([.int .i64 x.m] : List Value)))).toArray, v]) rfl (evc (fr_eval rfl rfl) (evc (fr_eval rfl rfl) evn)) Try.call29) (bMake_range x hin l (by omega) hs hf2 _ _ (fun t ht => (hts t ht).later hH.chg (newN_up hH.chg hH.up)) (hr.rd _ hH.chg)) ?_
      rintro _ w14 ⟨rfl, hx⟩
      refine ⟨_, rfl, ?_⟩
      replace hH := hH.ext hx
      clear hx
      refine lf_val (v := .tuple #[.agg (cBs (List.replicate 32 0) ++ (([.int .i64 0] : List Value) ++ (cBs (List.replicate 32 0) ++ ([.int .i64 0, .slice none 0 0] : List Value)))).toArray, .int .i64 5]) (wantAll rfl) (rv_move rfl (fr_eval rfl rfl)) ?_
      refine lf_val (v := .agg (cBs (List.replicate 32 0) ++ (([.int .i64 0] : List Value) ++ (cBs (List.replicate 32 0) ++ ([.int .i64 0, .slice none 0 0] : List Value)))).toArray) (wantAll rfl) (rv_extract rfl (fr_eval rfl rfl) rfl) ?_
      refine lf_val (v := .int .i64 5) (wantAll rfl) (rv_extract rfl (fr_eval rfl rfl) rfl) ?_
      refine lf_ex (wantAll rfl) (hx_alloc hH 43 (z := .agg (cBs (List.replicate 32 0) ++ (([.int .i64 0] : List Value) ++ (cBs (List.replicate 32 0) ++ ([.int .i64 0, .slice none 0 0] : List Value)))).toArray) (n := 67) (cs := cBs (List.replicate 32 0) ++ (([.int .i64 0] : List Value) ++ (cBs (List.replicate 32 0) ++ ([.int .i64 0, .slice none 0 0] : List Value)))) rfl (by kernel_rfl) (by rfl)) ?_
      clear hH
      rintro _ w15 ⟨g3, rfl, hH, hx⟩
      replace hH : Heap _ _ _ [_, _] := hH
      clear hx
      refine lf_sk (wantAll rfl) (hx_storeW hH (i := 1) (cs := cBs (List.replicate 32 0) ++ (([.int .i64 0] : List Value) ++ (cBs (List.replicate 32 0) ++ ([.int .i64 0, .slice none 0 0] : List Value)))) rfl rfl rfl (fr_eval rfl rfl) (fr_eval rfl rfl) (sz_len Try.sz43 (zLk_l7 (List.length_replicate ..) (List.length_replicate ..))) (((zLk_l7 (List.length_replicate ..) (List.length_replicate ..))).trans ((zLk_l7 (List.length_replicate ..) (List.length_replicate ..))).symm) (zLk_o8 rfl rfl rfl)) ?_
      clear hH
      rintro w16 ⟨hH, hx⟩
      replace hH : Heap _ _ _ [_, _] := hH
      clear hx
      refine lf_val (v := .int .i64 5) (wantAll rfl) (rv_assign rfl (fr_eval rfl rfl)) ?_
      refine lf_nil ?_
      refine then_n ?_
      refine wp_seq ?_
      refine wp_seq ?_
      refine wp_gen (fun F' => F' 0 = .agg (cBs x.a.1 ++ (([.int .i64 x.h] : List Value) ++ (cBs x.r.1 ++ ([.int .i64 x.m] : List Value)))).toArray ∧ F' 1 = v ∧ F' 2 = .pointer (some ⟨g1, 0, none⟩) ∧ F' 4 = .bool false ∧ F' 5 = .pointer (some ⟨g3, 0, none⟩) ∧ F' 6 = .int .i64 5 ∧ F' 13 = .bool false) ⟨e0, e1, e2, e4, rfl, rfl, e13⟩ ?_
      clear e0 e1 e2 e4 e13
      clear F
      rintro F ⟨e0, e1, e2, e4, e5, e6, e13⟩
      refine wp_regionX (fun _ => False) 3 (by kernel_rfl) (by kernel_rfl) ?_
      refine xl_take (i := 0) (v := .agg (cBs x.a.1 ++ (([.int .i64 x.h] : List Value) ++ (cBs x.r.1 ++ ([.int .i64 x.m] : List Value)))).toArray) rfl (by kernel_rfl) (by kernel_rfl) (by kernel_rfl) (by kernel_rfl) (yx_val (wantAll rfl) (fun w' hx' => rv_loadW rfl ((hH.ext hx').blk (i := 0) rfl) (fr_eval rfl e2) Try.underlying40 rfl (sz_len Try.sz40 (zLk_l14 x.a.2 x.r.2)))) ?_
      refine xl_take (i := 1) (v := .agg (cBs ((headS x).1)).toArray) rfl (by kernel_rfl) (by kernel_rfl) (by kernel_rfl) (by kernel_rfl) (yx_call (wantAll rfl) (fun w' => rv_call (args := [.agg (cBs x.a.1 ++ (([.int .i64 x.h] : List Value) ++ (cBs x.r.1 ++ ([.int .i64 x.m] : List Value)))).toArray]) rfl (evc (fr_eval rfl rfl) evn) Try.call30) (fun w' hx' => headSum_calls x hin _)) ?_
      refine xl_take (i := 2) (v := .agg (cBs x.a.1 ++ (([.int .i64 x.h] : List Value) ++ (cBs x.r.1 ++ ([.int .i64 x.m] : List Value)))).toArray) rfl (by kernel_rfl) (by kernel_rfl) (by kernel_rfl) (by kernel_rfl) (yx_val (wantAll rfl) (fun w' hx' => rv_loadW rfl ((hH.ext hx').blk (i := 0) rfl) (fr_eval rfl e2) Try.underlying40 rfl (sz_len Try.sz40 (zLk_l14 x.a.2 x.r.2)))) ?_
      refine xl_tail (s := 3) rfl ?_
      intro w17 hx
      replace hH := hH.ext hx
      clear hx
      refine lf_call (wantAll rfl) (rv_call (args := [.agg (cBs x.a.1 ++ (([.int .i64 x.h] : List Value) ++ (cBs x.r.1 ++ ([.int .i64 x.m] : List Value)))).toArray]) rfl (evc (fr_eval rfl rfl) evn) Try.call31) (head19_calls x hin _) ?_
      rintro _ w18 ⟨rfl, hx⟩
      refine ⟨_, rfl, ?_⟩
      replace hH := hH.ext hx
      clear hx
      refine lf_val (v := .bool false) (wantAll rfl) (neT (b := true) rfl (fr_eval rfl rfl) (fr_eval rfl rfl) (headS x).2 (headS x).2 (beq_self_eq_true _)) ?_
      refine lf_nil ?_
      refine then_n ?_
      refine wp_gen (fun F' => F' 0 = .agg (cBs x.a.1 ++ (([.int .i64 x.h] : List Value) ++ (cBs x.r.1 ++ ([.int .i64 x.m] : List Value)))).toArray ∧ F' 1 = v ∧ F' 2 = .pointer (some ⟨g1, 0, none⟩) ∧ F' 4 = .bool false ∧ F' 5 = .pointer (some ⟨g3, 0, none⟩) ∧ F' 6 = .int .i64 5 ∧ F' 13 = .bool false ∧ F' 25 = .bool false) ⟨e0, e1, e2, e4, e5, e6, e13, rfl⟩ ?_
      clear e0 e1 e2 e4 e5 e6 e13
      clear F
      rintro F ⟨e0, e1, e2, e4, e5, e6, e13, e25⟩
      refine wp_cond_false (fr_eval rfl e25) ?_
      refine wp_skip ?_
      refine then_n ?_
      refine wp_seq ?_
      refine wp_seq ?_
      refine wp_regionF ?_
      refine lf_val (v := .pointer (some ⟨g1, 32, none⟩)) (wantAll rfl) (rv_fieldAddr (n := 0) rfl (fr_eval rfl e2) Try.underlying40 rfl rfl (by kernel_rfl)) ?_
      refine lf_val (v := .int .i64 x.h) (wantAll rfl) (rv_load1 rfl (hH.blk (i := 0) rfl) (zLk_g15 x.a.2 x.r.2) (fr_eval rfl rfl) Try.underlying3 rfl Try.sz3) ?_
      refine lf_val (v := .bool (decide (x.h < 0))) (wantAll rfl) (rv_lssP (p := x.h < 0) rfl (fr_eval rfl rfl) rfl Iff.rfl) ?_
      refine lf_val (v := .bool (decide (x.h < 0))) (wantAll rfl) (rv_move rfl (fr_eval rfl rfl)) ?_
      refine lf_joinP (fun F' => F' 0 = .agg (cBs x.a.1 ++ (([.int .i64 x.h] : List Value) ++ (cBs x.r.1 ++ ([.int .i64 x.m] : List Value)))).toArray ∧ F' 1 = v ∧ F' 2 = .pointer (some ⟨g1, 0, none⟩) ∧ F' 4 = .bool false ∧ F' 5 = .pointer (some ⟨g3, 0, none⟩) ∧ F' 6 = .int .i64 5 ∧ F' 13 = .bool false ∧ F' 25 = .bool false ∧ F' 33 = .bool (decide ((x.h < 0) ∨ (x.h > 1073741823)))) 4 (fun hk => ?_) ?_
      · by_cases hc5 : x.h < 0
        · refine lf_not (wantNot (d := 29) rfl (by kernel_rfl) rfl (congrArg Value.bool (decide_eq_true hc5))) ?_
          refine lf_not (wantNot (d := 29) rfl (by kernel_rfl) rfl (congrArg Value.bool (decide_eq_true hc5))) ?_
          refine lf_not (wantNot (d := 29) rfl (by kernel_rfl) rfl (congrArg Value.bool (decide_eq_true hc5))) ?_
          refine lf_val (v := .bool true) (wantAll rfl) (rv_pickT rfl (fr_eval rfl (congrArg Value.bool (decide_eq_true hc5))) rfl) ?_
          exact hk _ ⟨e0, e1, e2, e4, e5, e6, e13, e25, (congrArg Value.bool (dec_orT hc5))⟩
        · refine lf_val (v := .pointer (some ⟨g1, 32, none⟩)) (wantF (d := 29) rfl (by kernel_rfl) rfl (congrArg Value.bool (decide_eq_false hc5))) (rv_fieldAddr (n := 0) rfl (fr_eval rfl e2) Try.underlying40 rfl rfl (by kernel_rfl)) ?_
          refine lf_val (v := .int .i64 x.h) (wantF (d := 29) rfl (by kernel_rfl) rfl (congrArg Value.bool (decide_eq_false hc5))) (rv_load1 rfl (hH.blk (i := 0) rfl) (zLk_g15 x.a.2 x.r.2) (fr_eval rfl rfl) Try.underlying3 rfl Try.sz3) ?_
          refine lf_val (v := .bool (decide (x.h > 1073741823))) (wantF (d := 29) rfl (by kernel_rfl) rfl (congrArg Value.bool (decide_eq_false hc5))) (rv_gtrP (p := x.h > 1073741823) rfl (fr_eval rfl rfl) rfl Iff.rfl) ?_
          refine lf_val (v := .bool (decide (x.h > 1073741823))) (wantAll rfl) (rv_pickF rfl (fr_eval rfl (congrArg Value.bool (decide_eq_false hc5))) (fr_eval rfl rfl)) ?_
          exact hk _ ⟨e0, e1, e2, e4, e5, e6, e13, e25, (congrArg Value.bool (dec_or hc5))⟩
      · clear e0 e1 e2 e4 e5 e6 e13 e25
        clear F
        rintro F ⟨e0, e1, e2, e4, e5, e6, e13, e25, e33⟩
        refine lf_nil ?_
        refine then_n ?_
        by_cases hc6 : (x.h < 0) ∨ (x.h > 1073741823)
        · refine wp_cond_true (fr_eval rfl (e33.trans (congrArg Value.bool (decide_eq_true hc6)))) ?_
          refine wp_seq ?_
          refine wp_regionF ?_
          refine lf_val (v := .pointer (some ⟨g3, 66, none⟩)) (wantAll rfl) (rv_fieldAddr (n := 0) rfl (fr_eval rfl e5) Try.underlying43 rfl rfl (by kernel_rfl)) ?_
          refine lf_val (v := .slice none 0 0) (wantAll rfl) (rv_load1 rfl (hH.blk (i := 1) rfl) (zLk_g11 (List.length_replicate ..) (List.length_replicate ..)) (fr_eval rfl rfl) Try.underlying41 rfl Try.sz41) ?_
          refine lf_val (v := .int .i64 0) (wantAll rfl) (rv_len rfl (fr_eval rfl rfl) (Rd.nil (size := 1)) Try.underlying41) ?_
          refine lf_val (v := .bool true) (wantAll rfl) (rv_eql rfl (fr_eval rfl rfl) rfl (by decide)) ?_
          refine lf_val (v := .bool true) (wantAll rfl) (rv_move rfl (fr_eval rfl rfl)) ?_
          refine lf_val (v := .int .i64 5) (wantF (d := 38) rfl (by kernel_rfl) rfl rfl) (rv_move rfl (fr_eval rfl e6)) ?_
          refine lf_val (v := .bool true) (wantF (d := 38) rfl (by kernel_rfl) rfl rfl) (rv_eql rfl (fr_eval rfl rfl) rfl (by decide)) ?_
          refine lf_val (v := .bool true) (wantAll rfl) (rv_pickT rfl (fr_eval rfl rfl) (fr_eval rfl rfl)) ?_
          refine lf_val (v := .bool true) (wantAll rfl) (rv_move rfl (fr_eval rfl rfl)) ?_
          refine lf_val (v := .pointer (some ⟨g3, 0, none⟩)) (wantF (d := 42) rfl (by kernel_rfl) rfl rfl) (rv_fieldAddr (n := 65) rfl (fr_eval rfl e5) Try.underlying43 rfl rfl (by kernel_rfl)) ?_
          refine lf_val (wantF (d := 42) rfl (by kernel_rfl) rfl rfl) (rv_loadP rfl (hH.blk (i := 1) rfl) (zLk_p16 (List.length_replicate ..) (List.length_replicate ..)) (zLk_l14 (List.length_replicate ..) (List.length_replicate ..)) (fr_eval rfl rfl) Try.underlying40 rfl Try.sz40) ?_
          refine lf_val (wantF (d := 42) rfl (by kernel_rfl) rfl rfl) (rv_buildS (ps := []) (places := #[(0, 32), (32, 1), (33, 32), (65, 1)]) (z := .agg (cBs (List.replicate 32 0) ++ (([.int .i64 0] : List Value) ++ (cBs (List.replicate 32 0) ++ ([.int .i64 0] : List Value)))).toArray) (zc := cBs (List.replicate 32 0) ++ (([.int .i64 0] : List Value) ++ (cBs (List.replicate 32 0) ++ ([.int .i64 0] : List Value)))) (cs := cBs (List.replicate 32 0) ++ (([.int .i64 0] : List Value) ++ (cBs (List.replicate 32 0) ++ ([.int .i64 0] : List Value)))) rfl evpn (by kernel_rfl) rfl Try.underlying40 (fun _ => by kernel_rfl) fill0) ?_
          refine lf_val (v := .bool true) (wantF (d := 42) rfl (by kernel_rfl) rfl rfl) (rv_eqHd (r := zHd) rfl (fr_eval rfl rfl) (fr_eval rfl rfl)) ?_
          refine lf_val (v := .bool true) (wantAll rfl) (rv_pickT rfl (fr_eval rfl rfl) (fr_eval rfl rfl)) ?_
          refine lf_val (v := .bool true) (wantAll rfl) (rv_move rfl (fr_eval rfl rfl)) ?_
          refine lf_call (wantF (d := 48) rfl (by kernel_rfl) rfl rfl) (rv_call (args := []) rfl evn Try.call26) (awake19_calls _) ?_
          rintro _ w19 ⟨rfl, hx⟩
          refine ⟨_, rfl, ?_⟩
          replace hH := hH.ext hx
          clear hx
          refine lf_val (v := .bool true) (wantAll rfl) (rv_pickT rfl (fr_eval rfl rfl) (fr_eval rfl rfl)) ?_
          refine lf_val (v := .bool true) (wantAll rfl) (rv_assign rfl (fr_eval rfl rfl)) ?_
          refine lf_nil ?_
          refine then_n ?_
          refine wp_gen (fun F' => F' 0 = .agg (cBs x.a.1 ++ (([.int .i64 x.h] : List Value) ++ (cBs x.r.1 ++ ([.int .i64 x.m] : List Value)))).toArray ∧ F' 1 = v ∧ F' 2 = .pointer (some ⟨g1, 0, none⟩) ∧ F' 4 = .bool true ∧ F' 5 = .pointer (some ⟨g3, 0, none⟩) ∧ F' 6 = .int .i64 5 ∧ F' 13 = .bool false ∧ F' 25 = .bool false ∧ F' 33 = .bool true) ⟨e0, e1, e2, rfl, e5, e6, e13, e25, (e33.trans (congrArg Value.bool (decide_eq_true hc6)))⟩ ?_
          clear e0 e1 e2 e4 e5 e6 e13 e25 e33
          clear F
          rintro F ⟨e0, e1, e2, e4, e5, e6, e13, e25, e33⟩
          refine wp_ret ?_
          refine then_ret ?_
          exact bodyPost_ret (v := (.bool true)) (res1 rfl (ro_tmp rfl e4)) rfl (⟨rfl, hH.done⟩)
        · refine wp_cond_false (fr_eval rfl (e33.trans (congrArg Value.bool (decide_eq_false hc6)))) ?_
          refine wp_skip ?_
          refine then_n ?_
          refine wp_seq ?_
          refine wp_regionF ?_
          refine lf_val (v := v) (wantAll rfl) (rv_move rfl (fr_eval rfl e1)) ?_
          refine lf_call (wantAll rfl) (rv_call (args := [v]) rfl (evc (fr_eval rfl rfl) evn) Try.call27) (sums19_calls l (by omega) hs _ _ (fun t ht => (hts t ht).later hH.chg (newN_up hH.chg hH.up)) (hr.rd _ hH.chg)) ?_
          rintro _ w20 ⟨⟨y4, rfl, ho, hg⟩, hx⟩
          refine ⟨_, rfl, ?_⟩
          replace hH : Heap _ _ _ [_, _, _] := hH.addOwn hx hg ho
          clear ho hg
          clear hx
          refine lf_val (v := y4) (wantAll rfl) (rv_assign rfl (fr_eval rfl rfl)) ?_
          refine lf_nil ?_
          refine then_n ?_
          refine wp_seq ?_
          refine wp_seq ?_
          refine wp_gen (fun F' => F' 0 = .agg (cBs x.a.1 ++ (([.int .i64 x.h] : List Value) ++ (cBs x.r.1 ++ ([.int .i64 x.m] : List Value)))).toArray ∧ F' 1 = v ∧ F' 2 = .pointer (some ⟨g1, 0, none⟩) ∧ F' 4 = .bool false ∧ F' 5 = .pointer (some ⟨g3, 0, none⟩) ∧ F' 6 = .int .i64 5 ∧ F' 7 = y4 ∧ F' 13 = .bool false ∧ F' 25 = .bool false ∧ F' 33 = .bool false) ⟨e0, e1, e2, e4, e5, e6, rfl, e13, e25, (e33.trans (congrArg Value.bool (decide_eq_false hc6)))⟩ ?_
          clear e0 e1 e2 e4 e5 e6 e13 e25 e33
          clear F
          rintro F ⟨e0, e1, e2, e4, e5, e6, e7, e13, e25, e33⟩
          refine wp_regionX (fun _ => False) 28 (by kernel_rfl) (by kernel_rfl) ?_
          refine xl_take (i := 0) (v := .int .i64 5) rfl (by kernel_rfl) (by kernel_rfl) (by kernel_rfl) (by kernel_rfl) (yx_val (wantAll rfl) (fun w' hx' => rv_move rfl (fr_eval rfl e6))) ?_
          refine xl_take (i := 1) (v := .bool true) rfl (by kernel_rfl) (by kernel_rfl) (by kernel_rfl) (by kernel_rfl) (yx_val (wantAll rfl) (fun w' hx' => rv_neq rfl (fr_eval rfl rfl) rfl (show decide ((5 : Int) = 0) = false from by decide))) ?_
          refine xl_take (i := 2) (v := .bool true) rfl (by kernel_rfl) (by kernel_rfl) (by kernel_rfl) (by kernel_rfl) (yx_val (wantAll rfl) (fun w' hx' => rv_move rfl (fr_eval rfl rfl))) ?_
          refine xl_take (i := 3) (v := undef) rfl (by kernel_rfl) (by kernel_rfl) (by kernel_rfl) (by kernel_rfl) (yx_not (wantNot (d := 55) rfl (by kernel_rfl) rfl rfl)) ?_
          refine xl_take (i := 4) (v := undef) rfl (by kernel_rfl) (by kernel_rfl) (by kernel_rfl) (by kernel_rfl) (yx_not (wantNot (d := 55) rfl (by kernel_rfl) rfl rfl)) ?_
          refine xl_take (i := 5) (v := undef) rfl (by kernel_rfl) (by kernel_rfl) (by kernel_rfl) (by kernel_rfl) (yx_not (wantNot (d := 55) rfl (by kernel_rfl) rfl rfl)) ?_
          refine xl_take (i := 6) (v := undef) rfl (by kernel_rfl) (by kernel_rfl) (by kernel_rfl) (by kernel_rfl) (yx_not (wantNot (d := 55) rfl (by kernel_rfl) rfl rfl)) ?_
          refine xl_take (i := 7) (v := undef) rfl (by kernel_rfl) (by kernel_rfl) (by kernel_rfl) (by kernel_rfl) (yx_not (wantNot (d := 55) rfl (by kernel_rfl) rfl rfl)) ?_
          refine xl_take (i := 8) (v := undef) rfl (by kernel_rfl) (by kernel_rfl) (by kernel_rfl) (by kernel_rfl) (yx_not (wantNot (d := 55) rfl (by kernel_rfl) rfl rfl)) ?_
          refine xl_take (i := 9) (v := undef) rfl (by kernel_rfl) (by kernel_rfl) (by kernel_rfl) (by kernel_rfl) (yx_not (wantNot (d := 55) rfl (by kernel_rfl) rfl rfl)) ?_
          refine xl_take (i := 10) (v := undef) rfl (by kernel_rfl) (by kernel_rfl) (by kernel_rfl) (by kernel_rfl) (yx_not (wantNot (d := 55) rfl (by kernel_rfl) rfl rfl)) ?_
          refine xl_take (i := 11) (v := undef) rfl (by kernel_rfl) (by kernel_rfl) (by kernel_rfl) (by kernel_rfl) (yx_not (wantNot (d := 55) rfl (by kernel_rfl) rfl rfl)) ?_
          refine xl_take (i := 12) (v := undef) rfl (by kernel_rfl) (by kernel_rfl) (by kernel_rfl) (by kernel_rfl) (yx_not (wantNot (d := 55) rfl (by kernel_rfl) rfl rfl)) ?_
          refine xl_take (i := 13) (v := undef) rfl (by kernel_rfl) (by kernel_rfl) (by kernel_rfl) (by kernel_rfl) (yx_not (wantNot (d := 55) rfl (by kernel_rfl) rfl rfl)) ?_
          refine xl_take (i := 14) (v := undef) rfl (by kernel_rfl) (by kernel_rfl) (by kernel_rfl) (by kernel_rfl) (yx_not (wantNot (d := 55) rfl (by kernel_rfl) rfl rfl)) ?_
          refine xl_take (i := 15) (v := undef) rfl (by kernel_rfl) (by kernel_rfl) (by kernel_rfl) (by kernel_rfl) (yx_not (wantNot (d := 55) rfl (by kernel_rfl) rfl rfl)) ?_
          refine xl_take (i := 16) (v := .bool true) rfl (by kernel_rfl) (by kernel_rfl) (by kernel_rfl) (by kernel_rfl) (yx_val (wantAll rfl) (fun w' hx' => rv_pickT rfl (fr_eval rfl rfl) rfl)) ?_
          refine xl_take (i := 17) (v := .bool true) rfl (by kernel_rfl) (by kernel_rfl) (by kernel_rfl) (by kernel_rfl) (yx_val (wantAll rfl) (fun w' hx' => rv_move rfl (fr_eval rfl rfl))) ?_
          refine xl_take (i := 18) (v := undef) rfl (by kernel_rfl) (by kernel_rfl) (by kernel_rfl) (by kernel_rfl) (yx_not (wantNot (d := 70) rfl (by kernel_rfl) rfl rfl)) ?_
          refine xl_take (i := 19) (v := undef) rfl (by kernel_rfl) (by kernel_rfl) (by kernel_rfl) (by kernel_rfl) (yx_not (wantNot (d := 70) rfl (by kernel_rfl) rfl rfl)) ?_
          refine xl_take (i := 20) (v := undef) rfl (by kernel_rfl) (by kernel_rfl) (by kernel_rfl) (by kernel_rfl) (yx_not (wantNot (d := 70) rfl (by kernel_rfl) rfl rfl)) ?_
          refine xl_take (i := 21) (v := .bool true) rfl (by kernel_rfl) (by kernel_rfl) (by kernel_rfl) (by kernel_rfl) (yx_val (wantAll rfl) (fun w' hx' => rv_pickT rfl (fr_eval rfl rfl) rfl)) ?_
          refine xl_take (i := 22) (v := .bool true) rfl (by kernel_rfl) (by kernel_rfl) (by kernel_rfl) (by kernel_rfl) (yx_val (wantAll rfl) (fun w' hx' => rv_move rfl (fr_eval rfl rfl))) ?_
          refine xl_take (i := 23) (v := undef) rfl (by kernel_rfl) (by kernel_rfl) (by kernel_rfl) (by kernel_rfl) (yx_not (wantNot (d := 75) rfl (by kernel_rfl) rfl rfl)) ?_
          refine xl_take (i := 24) (v := undef) rfl (by kernel_rfl) (by kernel_rfl) (by kernel_rfl) (by kernel_rfl) (yx_not (wantNot (d := 75) rfl (by kernel_rfl) rfl rfl)) ?_
          refine xl_take (i := 25) (v := undef) rfl (by kernel_rfl) (by kernel_rfl) (by kernel_rfl) (by kernel_rfl) (yx_not (wantNot (d := 75) rfl (by kernel_rfl) rfl rfl)) ?_
          refine xl_take (i := 26) (v := undef) rfl (by kernel_rfl) (by kernel_rfl) (by kernel_rfl) (by kernel_rfl) (yx_not (wantNot (d := 75) rfl (by kernel_rfl) rfl rfl)) ?_
          refine xl_take (i := 27) (v := undef) rfl (by kernel_rfl) (by kernel_rfl) (by kernel_rfl) (by kernel_rfl) (yx_not (wantNot (d := 75) rfl (by kernel_rfl) rfl rfl)) ?_
          refine xl_tail (s := 28) rfl ?_
          intro w21 hx
          replace hH := hH.ext hx
          clear hx
          refine lf_not (wantNot (d := 75) rfl (by kernel_rfl) rfl rfl) ?_
          refine lf_val (v := .bool true) (wantAll rfl) (rv_pickT rfl (fr_eval rfl rfl) rfl) ?_
          refine lf_nil ?_
          refine then_n ?_
          refine wp_gen (fun F' => F' 0 = .agg (cBs x.a.1 ++ (([.int .i64 x.h] : List Value) ++ (cBs x.r.1 ++ ([.int .i64 x.m] : List Value)))).toArray ∧ F' 1 = v ∧ F' 2 = .pointer (some ⟨g1, 0, none⟩) ∧ F' 4 = .bool false ∧ F' 5 = .pointer (some ⟨g3, 0, none⟩) ∧ F' 6 = .int .i64 5 ∧ F' 7 = y4 ∧ F' 13 = .bool false ∧ F' 25 = .bool false ∧ F' 33 = .bool false ∧ F' 82 = .bool true) ⟨e0, e1, e2, e4, e5, e6, e7, e13, e25, e33, rfl⟩ ?_
          clear e0 e1 e2 e4 e5 e6 e7 e13 e25 e33
          clear F
          rintro F ⟨e0, e1, e2, e4, e5, e6, e7, e13, e25, e33, e82⟩
          refine wp_cond_true (fr_eval rfl e82) ?_
          refine wp_seq ?_
          refine wp_regionF ?_
          refine lf_val (v := .bool false) (wantAll rfl) (rv_assign rfl rfl) ?_
          refine lf_nil ?_
          refine then_n ?_
          refine wp_gen (fun F' => F' 0 = .agg (cBs x.a.1 ++ (([.int .i64 x.h] : List Value) ++ (cBs x.r.1 ++ ([.int .i64 x.m] : List Value)))).toArray ∧ F' 1 = v ∧ F' 2 = .pointer (some ⟨g1, 0, none⟩) ∧ F' 4 = .bool false ∧ F' 5 = .pointer (some ⟨g3, 0, none⟩) ∧ F' 6 = .int .i64 5 ∧ F' 7 = y4 ∧ F' 13 = .bool false ∧ F' 25 = .bool false ∧ F' 33 = .bool false ∧ F' 82 = .bool true) ⟨e0, e1, e2, rfl, e5, e6, e7, e13, e25, e33, e82⟩ ?_
          clear e0 e1 e2 e4 e5 e6 e7 e13 e25 e33 e82
          clear F
          rintro F ⟨e0, e1, e2, e4, e5, e6, e7, e13, e25, e33, e82⟩
          refine wp_ret ?_
          refine then_ret ?_
          exact bodyPost_ret (v := (.bool false)) (res1 rfl (ro_tmp rfl e4)) rfl (by exfalso; omega)
  · refine wp_regionF ?_
    refine lf_val (v := v) (wantAll rfl) (rv_move rfl (fr_eval rfl e1)) ?_
    refine lf_call (wantAll rfl) (rv_call (args := [v]) rfl (evc (fr_eval rfl rfl) evn) Try.call25) (calls_known (b' := false) (small19_calls l _ _ (fun t ht => (hts t ht).later hH.chg (newN_up hH.chg hH.up)) (hr.rd _ hH.chg)) (decide_eq_false hf1)) ?_
    rintro _ w22 ⟨rfl, hx⟩
    refine ⟨_, rfl, ?_⟩
    replace hH := hH.ext hx
    clear hx
    refine lf_val (v := .bool true) (wantAll rfl) (rv_not (b := false) rfl (fr_eval rfl rfl)) ?_
    refine lf_nil ?_
    refine then_n ?_
    refine wp_gen (fun F' => F' 0 = .agg (cBs x.a.1 ++ (([.int .i64 x.h] : List Value) ++ (cBs x.r.1 ++ ([.int .i64 x.m] : List Value)))).toArray ∧ F' 1 = v ∧ F' 2 = .pointer (some ⟨g1, 0, none⟩) ∧ F' 4 = .bool false ∧ F' 13 = .bool true) ⟨e0, e1, e2, e4, rfl⟩ ?_
    clear e0 e1 e2 e4
    clear F
    rintro F ⟨e0, e1, e2, e4, e13⟩
    refine wp_cond_true (fr_eval rfl e13) ?_
    refine wp_seq ?_
    refine wp_regionF ?_
    refine lf_call (wantAll rfl) (rv_call (args := []) rfl evn Try.call26) (awake19_calls _) ?_
    rintro _ w23 ⟨rfl, hx⟩
    refine ⟨_, rfl, ?_⟩
    replace hH := hH.ext hx
    clear hx
    refine lf_val (v := .bool true) (wantAll rfl) (rv_assign rfl (fr_eval rfl rfl)) ?_
    refine lf_nil ?_
    refine then_n ?_
    refine wp_gen (fun F' => F' 0 = .agg (cBs x.a.1 ++ (([.int .i64 x.h] : List Value) ++ (cBs x.r.1 ++ ([.int .i64 x.m] : List Value)))).toArray ∧ F' 1 = v ∧ F' 2 = .pointer (some ⟨g1, 0, none⟩) ∧ F' 4 = .bool true ∧ F' 13 = .bool true) ⟨e0, e1, e2, rfl, e13⟩ ?_
    clear e0 e1 e2 e4 e13
    clear F
    rintro F ⟨e0, e1, e2, e4, e13⟩
    refine wp_ret ?_
    refine then_ret ?_
    exact bodyPost_ret (v := (.bool true)) (res1 rfl (ro_tmp rfl e4)) rfl (⟨rfl, hH.done⟩)

set_option maxRecDepth 100000 in
set_option maxHeartbeats 4000000 in
theorem blockPaths_walk (x : Hd) (hin : inHd x) (l : List TxG) (s : S32) (at' : Int) (hn : -9223372036854775808 ≤ at' ∧ at' ≤ 9223372036854775807) (p : List S32) (v vp : Value) (w : World) (hts : ∀ t ∈ l, StTx (newN w) w t) (hr0 : Rd w 40 v l.length (l.flatMap cTx)) (hp0 : Rd w 32 vp p.length (p.flatMap cS)) :
    Calls Try.prog 9 #[.agg (cBs x.a.1 ++ (([.int .i64 x.h] : List Value) ++ (cBs x.r.1 ++ ([.int .i64 x.m, v] : List Value)))).toArray, .agg (cBs s.1).toArray, .int .i64 at', vp] w fun e'' w' => e'' = .returned (.bool true) ∧ Ext w w' := by
  refine calls_fr (args := [.agg (cBs x.a.1 ++ (([.int .i64 x.h] : List Value) ++ (cBs x.r.1 ++ ([.int .i64 x.m, v] : List Value)))).toArray, .agg (cBs s.1).toArray, .int .i64 at', vp]) (n := 83) Try.func9 rfl rfl (show 4 ≤ 83 by decide) ?_
  obtain ⟨⟨hi1, hi2⟩, hi3, hi4⟩ := id hin
  have hr := Rd.stab hr0
  have hp := Rd.stab hp0
  have hH : Heap (newN w) w w [] := Heap.fresh
  refine wp_seq ?_
  refine wp_gen (fun F' => F' 0 = .agg (cBs x.a.1 ++ (([.int .i64 x.h] : List Value) ++ (cBs x.r.1 ++ ([.int .i64 x.m, v] : List Value)))).toArray ∧ F' 1 = .agg (cBs s.1).toArray ∧ F' 2 = .int .i64 at' ∧ F' 3 = vp) ⟨rfl, rfl, rfl, rfl⟩ ?_
  rintro F ⟨e0, e1, e2, e3⟩
  refine wp_regionF ?_
  refine lf_ex (wantAll rfl) (hx_box hH 43 (cs := cBs x.a.1 ++ (([.int .i64 x.h] : List Value) ++ (cBs x.r.1 ++ ([.int .i64 x.m, v] : List Value)))) rfl (fr_eval rfl e0) (by rfl)) ?_
  clear hH
  rintro _ w1 ⟨g1, rfl, hH, hx⟩
  replace hH : Heap _ _ _ [_] := hH
  clear hx
  refine lf_ex (wantAll rfl) (hx_box hH 23 (cs := cBs s.1) rfl (fr_eval rfl e1) (by rfl)) ?_
  clear hH
  rintro _ w2 ⟨g2, rfl, hH, hx⟩
  replace hH : Heap _ _ _ [_, _] := hH
  clear hx
  refine lf_val (v := .bool false) (wantAll rfl) (rv_assign rfl rfl) ?_
  refine lf_nil ?_
  refine then_n ?_
  refine wp_seq ?_
  refine wp_seq ?_
  refine wp_gen (fun F' => F' 0 = .agg (cBs x.a.1 ++ (([.int .i64 x.h] : List Value) ++ (cBs x.r.1 ++ ([.int .i64 x.m, v] : List Value)))).toArray ∧ F' 1 = .agg (cBs s.1).toArray ∧ F' 2 = .int .i64 at' ∧ F' 3 = vp ∧ F' 4 = .pointer (some ⟨g1, 0, none⟩) ∧ F' 5 = .pointer (some ⟨g2, 0, none⟩) ∧ F' 8 = .bool false) ⟨e0, e1, e2, e3, rfl, rfl, rfl⟩ ?_
  clear e0 e1 e2 e3
  clear F
  rintro F ⟨e0, e1, e2, e3, e4, e5, e8⟩
  by_cases hf1 : smL l
  · refine wp_regionF ?_
    refine lf_val (v := .pointer (some ⟨g1, 66, none⟩)) (wantAll rfl) (rv_fieldAddr (n := 0) rfl (fr_eval rfl e4) Try.underlying43 rfl rfl (by kernel_rfl)) ?_
    refine lf_val (v := v) (wantAll rfl) (rv_load1 rfl (hH.blk (i := 0) rfl) (zLk_g11 x.a.2 x.r.2) (fr_eval rfl rfl) Try.underlying41 rfl Try.sz41) ?_
    refine lf_call (wantAll rfl) (rv_call (args := [v]) rfl (evc (fr_eval rfl rfl) evn) Try.call25) (calls_known (b' := true) (small19_calls l _ _ (fun t ht => (hts t ht).later hH.chg (newN_up hH.chg hH.up)) (hr.rd _ hH.chg)) (decide_eq_true hf1)) ?_
    rintro _ w3 ⟨rfl, hx⟩
    refine ⟨_, rfl, ?_⟩
    replace hH := hH.ext hx
    clear hx
    refine lf_val (v := .bool false) (wantAll rfl) (rv_not (b := true) rfl (fr_eval rfl rfl)) ?_
    refine lf_val (v := .bool false) (wantAll rfl) (rv_move rfl (fr_eval rfl rfl)) ?_
    refine lf_val (v := vp) (wantF (d := 18) rfl (by kernel_rfl) rfl rfl) (rv_move rfl (fr_eval rfl e3)) ?_
    refine lf_val (v := .int .i64 ((p.length : Nat) : Int)) (wantF (d := 18) rfl (by kernel_rfl) rfl rfl) (rv_len rfl (fr_eval rfl rfl) (hp.rd _ hH.chg) Try.underlying24) ?_
    refine lf_val (v := .bool (decide (p.length > 20))) (wantF (d := 18) rfl (by kernel_rfl) rfl rfl) (rv_gtrP (p := p.length > 20) rfl (fr_eval rfl rfl) rfl (by omega)) ?_
    refine lf_val (v := .bool (decide (p.length > 20))) (wantAll rfl) (rv_pickF rfl (fr_eval rfl rfl) (fr_eval rfl rfl)) ?_
    refine lf_nil ?_
    refine then_n ?_
    refine wp_gen (fun F' => F' 0 = .agg (cBs x.a.1 ++ (([.int .i64 x.h] : List Value) ++ (cBs x.r.1 ++ ([.int .i64 x.m, v] : List Value)))).toArray ∧ F' 1 = .agg (cBs s.1).toArray ∧ F' 2 = .int .i64 at' ∧ F' 3 = vp ∧ F' 4 = .pointer (some ⟨g1, 0, none⟩) ∧ F' 5 = .pointer (some ⟨g2, 0, none⟩) ∧ F' 8 = .bool false ∧ F' 22 = .bool (decide (p.length > 20))) ⟨e0, e1, e2, e3, e4, e5, e8, rfl⟩ ?_
    clear e0 e1 e2 e3 e4 e5 e8
    clear F
    rintro F ⟨e0, e1, e2, e3, e4, e5, e8, e22⟩
    by_cases hc1 : p.length > 20
    · refine wp_cond_true (fr_eval rfl (e22.trans (congrArg Value.bool (decide_eq_true hc1)))) ?_
      refine wp_seq ?_
      refine wp_regionF ?_
      refine lf_call (wantAll rfl) (rv_call (args := []) rfl evn Try.call26) (awake19_calls _) ?_
      rintro _ w4 ⟨rfl, hx⟩
      refine ⟨_, rfl, ?_⟩
      replace hH := hH.ext hx
      clear hx
      refine lf_val (v := .bool true) (wantAll rfl) (rv_assign rfl (fr_eval rfl rfl)) ?_
      refine lf_nil ?_
      refine then_n ?_
      refine wp_gen (fun F' => F' 0 = .agg (cBs x.a.1 ++ (([.int .i64 x.h] : List Value) ++ (cBs x.r.1 ++ ([.int .i64 x.m, v] : List Value)))).toArray ∧ F' 1 = .agg (cBs s.1).toArray ∧ F' 2 = .int .i64 at' ∧ F' 3 = vp ∧ F' 4 = .pointer (some ⟨g1, 0, none⟩) ∧ F' 5 = .pointer (some ⟨g2, 0, none⟩) ∧ F' 8 = .bool true ∧ F' 22 = .bool true) ⟨e0, e1, e2, e3, e4, e5, rfl, (e22.trans (congrArg Value.bool (decide_eq_true hc1)))⟩ ?_
      clear e0 e1 e2 e3 e4 e5 e8 e22
      clear F
      rintro F ⟨e0, e1, e2, e3, e4, e5, e8, e22⟩
      refine wp_ret ?_
      refine then_ret ?_
      exact bodyPost_ret (v := (.bool true)) (res1 rfl (ro_tmp rfl e8)) rfl (⟨rfl, hH.done⟩)
    · refine wp_cond_false (fr_eval rfl (e22.trans (congrArg Value.bool (decide_eq_false hc1)))) ?_
      refine wp_skip ?_
      refine then_n ?_
      refine wp_seq ?_
      by_cases hf2 : 0 ≤ at' ∧ at' < (l.length : Int)
      · have hs := (hf1 : smL l).2
        have hl20 : l.length ≤ 20 := (hf1 : smL l).1
        have hml : (List.map sumT l).length = l.length := List.length_map ..
        obtain ⟨a0, rfl⟩ : ∃ a0 : Nat, at' = (a0 : Int) := ⟨at'.toNat, by omega⟩
        have hpl := path_len (List.map leafS (List.map sumT l)) a0
        simp only [List.length_map] at hpl
        refine wp_regionF ?_
        refine lf_val (wantAll rfl) (rv_loadW rfl (hH.blk (i := 0) rfl) (fr_eval rfl e4) Try.underlying43 rfl (sz_len Try.sz43 (zLk_l7 x.a.2 x.r.2))) ?_
        refine lf_val (v := .int .i64 ((a0 : Nat) : Int)) (wantAll rfl) (rv_move rfl (fr_eval rfl e2)) ?_
        refine lf_call (wantAll rfl) (rv_call (args := [.agg (cBs x.a.1 ++ (([.int .i64 x.h] : List Value) ++ (cBs x.r.1 ++ ([.int .i64 x.m, v] : List Value)))).toArray, .int .i64 ((a0 : Nat) : Int)]) rfl (evc (fr_eval rfl rfl) (evc (fr_eval rfl rfl) evn)) Try.call32) (bPath_in x a0 l (by omega) hs (by omega) _ _ (fun t ht => (hts t ht).later hH.chg (newN_up hH.chg hH.up)) (hr.rd _ hH.chg)) ?_
        rintro _ w5 ⟨⟨y1, rfl, ho, hg⟩, hx⟩
        refine ⟨_, rfl, ?_⟩
        replace hH : Heap _ _ _ [_, _, _] := hH.addOwn hx hg ho
        clear ho hg
        clear hx
        refine lf_val (v := .tuple #[y1, .bool true]) (wantAll rfl) (rv_move rfl (fr_eval rfl rfl)) ?_
        refine lf_val (v := y1) (wantAll rfl) (rv_extract rfl (fr_eval rfl rfl) rfl) ?_
        refine lf_val (v := .bool true) (wantAll rfl) (rv_extract rfl (fr_eval rfl rfl) rfl) ?_
        refine lf_val (v := y1) (wantAll rfl) (rv_assign rfl (fr_eval rfl rfl)) ?_
        refine lf_val (v := .bool true) (wantAll rfl) (rv_assign rfl (fr_eval rfl rfl)) ?_
        refine lf_nil ?_
        refine then_n ?_
        refine wp_seq ?_
        refine wp_gen (fun F' => F' 0 = .agg (cBs x.a.1 ++ (([.int .i64 x.h] : List Value) ++ (cBs x.r.1 ++ ([.int .i64 x.m, v] : List Value)))).toArray ∧ F' 1 = .agg (cBs s.1).toArray ∧ F' 2 = .int .i64 ((a0 : Nat) : Int) ∧ F' 3 = vp ∧ F' 4 = .pointer (some ⟨g1, 0, none⟩) ∧ F' 5 = .pointer (some ⟨g2, 0, none⟩) ∧ F' 8 = .bool false ∧ F' 9 = y1 ∧ F' 10 = .bool true ∧ F' 22 = .bool false) ⟨e0, e1, e2, e3, e4, e5, e8, rfl, rfl, (e22.trans (congrArg Value.bool (decide_eq_false hc1)))⟩ ?_
        clear e0 e1 e2 e3 e4 e5 e8 e22
        clear F
        rintro F ⟨e0, e1, e2, e3, e4, e5, e8, e9, e10, e22⟩
        refine wp_regionF ?_
        refine lf_val (v := .int .i64 ((a0 : Nat) : Int)) (wantAll rfl) (rv_move rfl (fr_eval rfl e2)) ?_
        refine lf_val (v := .pointer (some ⟨g1, 66, none⟩)) (wantAll rfl) (rv_fieldAddr (n := 0) rfl (fr_eval rfl e4) Try.underlying43 rfl rfl (by kernel_rfl)) ?_
        refine lf_val (v := v) (wantAll rfl) (rv_load1 rfl (hH.blk (i := 0) rfl) (zLk_g11 x.a.2 x.r.2) (fr_eval rfl rfl) Try.underlying41 rfl Try.sz41) ?_
        refine lf_call (wantAll rfl) (rv_call (args := [v]) rfl (evc (fr_eval rfl rfl) evn) Try.call27) (sums19_calls l (by omega) hs _ _ (fun t ht => (hts t ht).later hH.chg (newN_up hH.chg hH.up)) (hr.rd _ hH.chg)) ?_
        rintro _ w6 ⟨⟨y2, rfl, ho, hg⟩, hx⟩
        refine ⟨_, rfl, ?_⟩
        replace hH : Heap _ _ _ [_, _, _, _] := hH.addOwn hx hg ho
        clear ho hg
        clear hx
        refine lf_call (wantAll rfl) (rv_call (args := [.int .i64 ((a0 : Nat) : Int), y2]) rfl (evc (fr_eval rfl rfl) (evc (fr_eval rfl rfl) evn)) Try.call18) (path_in a0 (List.map sumT l) (by omega) (by omega) _ _ (Own.rd (hH.own (i := 3) rfl) (row_one cS_one))) ?_
        rintro _ w7 ⟨⟨y3, rfl, ho, hg⟩, hx⟩
        refine ⟨_, rfl, ?_⟩
        replace hH : Heap (newN w) w w7 [oBlk g1 (cBs x.a.1 ++ (([.int .i64 x.h] : List Value) ++ (cBs x.r.1 ++ ([.int .i64 x.m, v] : List Value)))) 43, oBlk g2 (cBs s.1) 23, oRow cS 23 32 y1 (pathT (List.map leafS (List.map sumT l)) a0), oRow cS 23 32 y2 (List.map sumT l), oRow cS 23 32 y3 (pathT (List.map leafS (List.map sumT l)) a0)] := hH.addOwn hx hg ho
        clear ho hg
        clear hx
        refine lf_val (v := .tuple #[y3, .bool true]) (wantAll rfl) (rv_move rfl (fr_eval rfl rfl)) ?_
        refine lf_val (v := y3) (wantAll rfl) (rv_extract rfl (fr_eval rfl rfl) rfl) ?_
        refine lf_val (v := .bool true) (wantAll rfl) (rv_extract rfl (fr_eval rfl rfl) rfl) ?_
        refine lf_val (v := y3) (wantAll rfl) (rv_assign rfl (fr_eval rfl rfl)) ?_
        refine lf_val (v := .bool true) (wantAll rfl) (rv_assign rfl (fr_eval rfl rfl)) ?_
        refine lf_nil ?_
        refine then_n ?_
        refine wp_seq ?_
        refine wp_seq ?_
        replace hH : Heap _ _ _ [_, _, _, _] := hH.drop (.cons_cons _ (.cons_cons _ (.cons_cons _ (.cons _ (.cons_cons _ .slnil)))))
        refine wp_gen (fun F' => F' 0 = .agg (cBs x.a.1 ++ (([.int .i64 x.h] : List Value) ++ (cBs x.r.1 ++ ([.int .i64 x.m, v] : List Value)))).toArray ∧ F' 1 = .agg (cBs s.1).toArray ∧ F' 2 = .int .i64 ((a0 : Nat) : Int) ∧ F' 3 = vp ∧ F' 4 = .pointer (some ⟨g1, 0, none⟩) ∧ F' 5 = .pointer (some ⟨g2, 0, none⟩) ∧ F' 8 = .bool false ∧ F' 9 = y1 ∧ F' 10 = .bool true ∧ F' 11 = y3 ∧ F' 12 = .bool true ∧ F' 22 = .bool false) ⟨e0, e1, e2, e3, e4, e5, e8, e9, e10, rfl, rfl, e22⟩ ?_
        clear e0 e1 e2 e3 e4 e5 e8 e9 e10 e22
        clear F
        rintro F ⟨e0, e1, e2, e3, e4, e5, e8, e9, e10, e11, e12, e22⟩
        refine wp_regionF ?_
        refine lf_val (v := .bool true) (wantAll rfl) (rv_move rfl (fr_eval rfl e10)) ?_
        refine lf_val (v := .bool true) (wantAll rfl) (rv_move rfl (fr_eval rfl e12)) ?_
        refine lf_val (v := .bool false) (wantAll rfl) (rv_neb (d := true) rfl (fr_eval rfl rfl) (fr_eval rfl rfl) Try.underlying4 (beq_self_eq_true _)) ?_
        refine lf_val (v := .bool false) (wantAll rfl) (rv_move rfl (fr_eval rfl rfl)) ?_
        refine lf_val (v := y1) (wantF (d := 41) rfl (by kernel_rfl) rfl rfl) (rv_move rfl (fr_eval rfl e9)) ?_
        refine lf_val (v := .int .i64 (((pathT (List.map leafS (List.map sumT l)) a0).length : Nat) : Int)) (wantF (d := 41) rfl (by kernel_rfl) rfl rfl) (rv_len rfl (fr_eval rfl rfl) (Own.rd (hH.own (i := 2) rfl) (row_one cS_one)) Try.underlying24) ?_
        refine lf_val (v := y3) (wantF (d := 41) rfl (by kernel_rfl) rfl rfl) (rv_move rfl (fr_eval rfl e11)) ?_
        refine lf_val (v := .int .i64 (((pathT (List.map leafS (List.map sumT l)) a0).length : Nat) : Int)) (wantF (d := 41) rfl (by kernel_rfl) rfl rfl) (rv_len rfl (fr_eval rfl rfl) (Own.rd (hH.own (i := 3) rfl) (row_one cS_one)) Try.underlying24) ?_
        refine lf_val (v := .bool false) (wantF (d := 41) rfl (by kernel_rfl) rfl rfl) (rv_known (rv_neqP (p := False) rfl (fr_eval rfl rfl) (fr_eval rfl rfl) (by simp)) (decide_eq_false id)) ?_
        refine lf_val (v := .bool false) (wantAll rfl) (rv_pickF rfl (fr_eval rfl rfl) (fr_eval rfl rfl)) ?_
        refine lf_nil ?_
        refine then_n ?_
        refine wp_gen (fun F' => F' 0 = .agg (cBs x.a.1 ++ (([.int .i64 x.h] : List Value) ++ (cBs x.r.1 ++ ([.int .i64 x.m, v] : List Value)))).toArray ∧ F' 1 = .agg (cBs s.1).toArray ∧ F' 2 = .int .i64 ((a0 : Nat) : Int) ∧ F' 3 = vp ∧ F' 4 = .pointer (some ⟨g1, 0, none⟩) ∧ F' 5 = .pointer (some ⟨g2, 0, none⟩) ∧ F' 8 = .bool false ∧ F' 9 = y1 ∧ F' 10 = .bool true ∧ F' 11 = y3 ∧ F' 12 = .bool true ∧ F' 22 = .bool false ∧ F' 47 = .bool false) ⟨e0, e1, e2, e3, e4, e5, e8, e9, e10, e11, e12, e22, rfl⟩ ?_
        clear e0 e1 e2 e3 e4 e5 e8 e9 e10 e11 e12 e22
        clear F
        rintro F ⟨e0, e1, e2, e3, e4, e5, e8, e9, e10, e11, e12, e22, e47⟩
        refine wp_cond_false (fr_eval rfl e47) ?_
        refine wp_skip ?_
        refine then_n ?_
        refine wp_seq ?_
        refine wp_seq ?_
        refine wp_regionF ?_
        refine lf_val (v := .int .i64 0) (wantAll rfl) (rv_assign rfl rfl) ?_
        refine lf_nil ?_
        refine then_n ?_
        refine wp_block ?_
        refine wp_gen (fun F' => F' 0 = .agg (cBs x.a.1 ++ (([.int .i64 x.h] : List Value) ++ (cBs x.r.1 ++ ([.int .i64 x.m, v] : List Value)))).toArray ∧ F' 1 = .agg (cBs s.1).toArray ∧ F' 2 = .int .i64 ((a0 : Nat) : Int) ∧ F' 3 = vp ∧ F' 4 = .pointer (some ⟨g1, 0, none⟩) ∧ F' 5 = .pointer (some ⟨g2, 0, none⟩) ∧ F' 8 = .bool false ∧ F' 9 = y1 ∧ F' 10 = .bool true ∧ F' 11 = y3 ∧ F' 12 = .bool true ∧ F' 13 = .int .i64 0 ∧ F' 22 = .bool false ∧ F' 47 = .bool false) ⟨e0, e1, e2, e3, e4, e5, e8, e9, e10, e11, e12, rfl, e22, e47⟩ ?_
        clear e0 e1 e2 e3 e4 e5 e8 e9 e10 e11 e12 e22 e47
        clear F
        rintro F ⟨e0, e1, e2, e3, e4, e5, e8, e9, e10, e11, e12, e13, e22, e47⟩
        refine wp_loopF (fun m F wr => ∃ i : Nat, m = (pathT (List.map leafS (List.map sumT l)) a0).length - i ∧ i ≤ (pathT (List.map leafS (List.map sumT l)) a0).length ∧ F 0 = .agg (cBs x.a.1 ++ (([.int .i64 x.h] : List Value) ++ (cBs x.r.1 ++ ([.int .i64 x.m, v] : List Value)))).toArray ∧ F 1 = .agg (cBs s.1).toArray ∧ F 2 = .int .i64 ((a0 : Nat) : Int) ∧ F 3 = vp ∧ F 4 = .pointer (some ⟨g1, 0, none⟩) ∧ F 5 = .pointer (some ⟨g2, 0, none⟩) ∧ F 9 = y1 ∧ F 10 = .bool true ∧ F 11 = y3 ∧ F 12 = .bool true ∧ F 13 = .int .i64 ((i : Nat) : Int) ∧ F 22 = .bool false ∧ F 47 = .bool false ∧ Heap (newN w) w wr [oBlk g1 (cBs x.a.1 ++ (([.int .i64 x.h] : List Value) ++ (cBs x.r.1 ++ ([.int .i64 x.m, v] : List Value)))) 43, oBlk g2 (cBs s.1) 23, oRow cS 23 32 y1 (pathT (List.map leafS (List.map sumT l)) a0), oRow cS 23 32 y3 (pathT (List.map leafS (List.map sumT l)) a0)]) ⟨0, rfl, Nat.zero_le _, e0, e1, e2, e3, e4, e5, e9, e10, e11, e12, e13, e22, e47, hH⟩ ?_
        clear e0 e1 e2 e3 e4 e5 e8 e9 e10 e11 e12 e13 e22 e47 hH
        clear F
        rintro m F w8 ⟨i, rfl, pi0, e0, e1, e2, e3, e4, e5, e9, e10, e11, e12, e13, e22, e47, hH⟩
        refine wp_seq ?_
        refine wp_seq ?_
        refine wp_regionF ?_
        refine lf_val (v := .int .i64 ((i : Nat) : Int)) (wantAll rfl) (rv_move rfl (fr_eval rfl e13)) ?_
        refine lf_val (v := y1) (wantAll rfl) (rv_move rfl (fr_eval rfl e9)) ?_
        refine lf_val (v := .int .i64 (((pathT (List.map leafS (List.map sumT l)) a0).length : Nat) : Int)) (wantAll rfl) (rv_len rfl (fr_eval rfl rfl) (Own.rd (hH.own (i := 2) rfl) (row_one cS_one)) Try.underlying24) ?_
        refine lf_val (v := .bool (decide (i < (pathT (List.map leafS (List.map sumT l)) a0).length))) (wantAll rfl) (rv_lssP (p := i < (pathT (List.map leafS (List.map sumT l)) a0).length) rfl (fr_eval rfl rfl) (fr_eval rfl rfl) (by omega)) ?_
        refine lf_nil ?_
        refine then_n ?_
        refine wp_gen (fun F' => F' 0 = .agg (cBs x.a.1 ++ (([.int .i64 x.h] : List Value) ++ (cBs x.r.1 ++ ([.int .i64 x.m, v] : List Value)))).toArray ∧ F' 1 = .agg (cBs s.1).toArray ∧ F' 2 = .int .i64 ((a0 : Nat) : Int) ∧ F' 3 = vp ∧ F' 4 = .pointer (some ⟨g1, 0, none⟩) ∧ F' 5 = .pointer (some ⟨g2, 0, none⟩) ∧ F' 9 = y1 ∧ F' 10 = .bool true ∧ F' 11 = y3 ∧ F' 12 = .bool true ∧ F' 13 = .int .i64 ((i : Nat) : Int) ∧ F' 22 = .bool false ∧ F' 47 = .bool false ∧ F' 51 = .bool (decide (i < (pathT (List.map leafS (List.map sumT l)) a0).length))) ⟨e0, e1, e2, e3, e4, e5, e9, e10, e11, e12, e13, e22, e47, rfl⟩ ?_
        clear e0 e1 e2 e3 e4 e5 e9 e10 e11 e12 e13 e22 e47
        clear F
        rintro F ⟨e0, e1, e2, e3, e4, e5, e9, e10, e11, e12, e13, e22, e47, e51⟩
        by_cases hc2 : i < (pathT (List.map leafS (List.map sumT l)) a0).length
        · refine wp_cond_true (fr_eval rfl (e51.trans (congrArg Value.bool (decide_eq_true hc2)))) ?_
          refine wp_skip ?_
          refine then_n ?_
          refine wp_seq ?_
          refine wp_block ?_
          refine wp_seq ?_
          refine wp_regionX (fun _ => False) 8 (by kernel_rfl) (by kernel_rfl) ?_
          refine xl_take (i := 0) (v := y1) rfl (by kernel_rfl) (by kernel_rfl) (by kernel_rfl) (by kernel_rfl) (yx_val (wantAll rfl) (fun w' hx' => rv_move rfl (fr_eval rfl e9))) ?_
          refine xl_take (i := 1) (v := .int .i64 ((i : Nat) : Int)) rfl (by kernel_rfl) (by kernel_rfl) (by kernel_rfl) (by kernel_rfl) (yx_val (wantAll rfl) (fun w' hx' => rv_move rfl (fr_eval rfl e13))) ?_
          refine xl_take (i := 2) (v := .pointer (some (elemA y1 (i * 32)))) rfl (by kernel_rfl) (by kernel_rfl) (by kernel_rfl) (by kernel_rfl) (yx_val (wantAll rfl) (fun w' hx' => rv_index rfl (fr_eval rfl rfl) (fr_eval rfl rfl) (rdN (Own.rd ((hH.ext hx').own (i := 2) rfl) (row_one cS_one)) rfl) (show i < (pathT (List.map leafS (List.map sumT l)) a0).length from (by omega)) Try.underlying24 Try.sz23 (by decide))) ?_
          refine xl_take (i := 3) (v := .agg (cBs (((List.getD (pathT (List.map leafS (List.map sumT l)) a0) i zS)).1)).toArray) rfl (by kernel_rfl) (by kernel_rfl) (by kernel_rfl) (by kernel_rfl) (yx_val (wantAll rfl) (fun w' hx' => rv_loadElem rfl (fr_eval rfl rfl) (rdN (Own.rd ((hH.ext hx').own (i := 2) rfl) (row_one cS_one)) rfl) (show i < (pathT (List.map leafS (List.map sumT l)) a0).length from (by omega)) (by decide) (flat_part zS cS_len (show i < (pathT (List.map leafS (List.map sumT l)) a0).length from (by omega))) Try.underlying23 rfl Try.sz23)) ?_
          refine xl_take (i := 4) (v := y3) rfl (by kernel_rfl) (by kernel_rfl) (by kernel_rfl) (by kernel_rfl) (yx_val (wantAll rfl) (fun w' hx' => rv_move rfl (fr_eval rfl e11))) ?_
          refine xl_take (i := 5) (v := .int .i64 ((i : Nat) : Int)) rfl (by kernel_rfl) (by kernel_rfl) (by kernel_rfl) (by kernel_rfl) (yx_val (wantAll rfl) (fun w' hx' => rv_move rfl (fr_eval rfl e13))) ?_
          refine xl_take (i := 6) (v := .pointer (some (elemA y3 (i * 32)))) rfl (by kernel_rfl) (by kernel_rfl) (by kernel_rfl) (by kernel_rfl) (yx_val (wantAll rfl) (fun w' hx' => rv_index rfl (fr_eval rfl rfl) (fr_eval rfl rfl) (rdN (Own.rd ((hH.ext hx').own (i := 3) rfl) (row_one cS_one)) rfl) (show i < (pathT (List.map leafS (List.map sumT l)) a0).length from (by omega)) Try.underlying24 Try.sz23 (by decide))) ?_
          refine xl_take (i := 7) (v := .agg (cBs (((List.getD (pathT (List.map leafS (List.map sumT l)) a0) i zS)).1)).toArray) rfl (by kernel_rfl) (by kernel_rfl) (by kernel_rfl) (by kernel_rfl) (yx_val (wantAll rfl) (fun w' hx' => rv_loadElem rfl (fr_eval rfl rfl) (rdN (Own.rd ((hH.ext hx').own (i := 3) rfl) (row_one cS_one)) rfl) (show i < (pathT (List.map leafS (List.map sumT l)) a0).length from (by omega)) (by decide) (flat_part zS cS_len (show i < (pathT (List.map leafS (List.map sumT l)) a0).length from (by omega))) Try.underlying23 rfl Try.sz23)) ?_
          refine xl_tail (s := 8) rfl ?_
          intro w9 hx
          replace hH := hH.ext hx
          clear hx
          refine lf_val (v := .bool false) (wantAll rfl) (neT (b := true) rfl (fr_eval rfl rfl) (fr_eval rfl rfl) ((List.getD (pathT (List.map leafS (List.map sumT l)) a0) i zS)).2 ((List.getD (pathT (List.map leafS (List.map sumT l)) a0) i zS)).2 (beq_self_eq_true _)) ?_
          refine lf_nil ?_
          refine then_n ?_
          refine wp_gen (fun F' => F' 0 = .agg (cBs x.a.1 ++ (([.int .i64 x.h] : List Value) ++ (cBs x.r.1 ++ ([.int .i64 x.m, v] : List Value)))).toArray ∧ F' 1 = .agg (cBs s.1).toArray ∧ F' 2 = .int .i64 ((a0 : Nat) : Int) ∧ F' 3 = vp ∧ F' 4 = .pointer (some ⟨g1, 0, none⟩) ∧ F' 5 = .pointer (some ⟨g2, 0, none⟩) ∧ F' 9 = y1 ∧ F' 10 = .bool true ∧ F' 11 = y3 ∧ F' 12 = .bool true ∧ F' 13 = .int .i64 ((i : Nat) : Int) ∧ F' 22 = .bool false ∧ F' 47 = .bool false ∧ F' 51 = .bool true ∧ F' 62 = .bool false) ⟨e0, e1, e2, e3, e4, e5, e9, e10, e11, e12, e13, e22, e47, (e51.trans (congrArg Value.bool (decide_eq_true hc2))), rfl⟩ ?_
          clear e0 e1 e2 e3 e4 e5 e9 e10 e11 e12 e13 e22 e47 e51
          clear F
          rintro F ⟨e0, e1, e2, e3, e4, e5, e9, e10, e11, e12, e13, e22, e47, e51, e62⟩
          refine wp_cond_false (fr_eval rfl e62) ?_
          refine wp_skip ?_
          refine blk_n ?_
          refine then_n ?_
          refine wp_regionF ?_
          refine lf_val (v := .int .i64 ((i : Nat) : Int)) (wantAll rfl) (rv_move rfl (fr_eval rfl e13)) ?_
          refine lf_val (v := .int .i64 ((i + 1 : Nat) : Int)) (wantAll rfl) (rv_add rfl (fr_eval rfl rfl) rfl (wrap_i64 (by omega) (by omega) (by omega))) ?_
          refine lf_val (v := .int .i64 ((i + 1 : Nat) : Int)) (wantAll rfl) (rv_assign rfl (fr_eval rfl rfl)) ?_
          refine lf_nil ?_
          refine then_n ?_
          exact ⟨_, _, (by omega), rfl, i + 1, rfl, (by omega), e0, e1, e2, e3, e4, e5, e9, e10, e11, e12, rfl, e22, e47, hH⟩
        · refine wp_cond_false (fr_eval rfl (e51.trans (congrArg Value.bool (decide_eq_false hc2)))) ?_
          refine wp_exit ?_
          refine then_exit ?_
          refine then_exit ?_
          refine blk_exit ?_
          refine then_n ?_
          refine wp_seq ?_
          refine wp_regionX (fun _ => False) 15 (by kernel_rfl) (by kernel_rfl) ?_
          refine xl_take (i := 0) (v := .pointer (some ⟨g1, 0, none⟩)) rfl (by kernel_rfl) (by kernel_rfl) (by kernel_rfl) (by kernel_rfl) (yx_val (wantAll rfl) (fun w' hx' => rv_fieldAddr (n := 65) rfl (fr_eval rfl e4) Try.underlying43 rfl rfl (by kernel_rfl))) ?_
          refine xl_take (i := 1) (v := .agg (cBs x.a.1 ++ (([.int .i64 x.h] : List Value) ++ (cBs x.r.1 ++ ([.int .i64 x.m] : List Value)))).toArray) rfl (by kernel_rfl) (by kernel_rfl) (by kernel_rfl) (by kernel_rfl) (yx_val (wantAll rfl) (fun w' hx' => rv_loadP rfl ((hH.ext hx').blk (i := 0) rfl) (zLk_p16 x.a.2 x.r.2) (zLk_l14 x.a.2 x.r.2) (fr_eval rfl rfl) Try.underlying40 rfl Try.sz40)) ?_
          refine xl_take (i := 2) (v := .agg (cBs s.1).toArray) rfl (by kernel_rfl) (by kernel_rfl) (by kernel_rfl) (by kernel_rfl) (yx_val (wantAll rfl) (fun w' hx' => rv_loadW rfl ((hH.ext hx').blk (i := 1) rfl) (fr_eval rfl e5) Try.underlying23 rfl (sz_len Try.sz23 (cBs_len s.2)))) ?_
          refine xl_take (i := 3) (v := .int .i64 ((a0 : Nat) : Int)) rfl (by kernel_rfl) (by kernel_rfl) (by kernel_rfl) (by kernel_rfl) (yx_val (wantAll rfl) (fun w' hx' => rv_move rfl (fr_eval rfl e2))) ?_
          refine xl_take (i := 4) (v := vp) rfl (by kernel_rfl) (by kernel_rfl) (by kernel_rfl) (by kernel_rfl) (yx_val (wantAll rfl) (fun w' hx' => rv_move rfl (fr_eval rfl e3))) ?_
          refine xl_take (i := 5) (v := .bool (checkB x.r s ((a0 : Nat) : Int) x.m p)) rfl (by kernel_rfl) (by kernel_rfl) (by kernel_rfl) (by kernel_rfl) (yx_call (wantAll rfl) (fun w' => rv_call (args := [.agg (cBs x.a.1 ++ (([.int .i64 x.h] : List Value) ++ (cBs x.r.1 ++ ([.int .i64 x.m] : List Value)))).toArray, .agg (cBs s.1).toArray, .int .i64 ((a0 : Nat) : Int), vp]) rfl (evc (fr_eval rfl rfl) (evc (fr_eval rfl rfl) (evc (fr_eval rfl rfl) (evc (fr_eval rfl rfl) evn)))) Try.call33) (fun w' hx' => bHas_calls x hin s ((a0 : Nat) : Int) (by omega) p _ _ (hp.rd _ (hH.chg.trans (Ext.any hx'))))) ?_
          refine xl_take (i := 6) (v := .pointer (some ⟨g1, 0, none⟩)) rfl (by kernel_rfl) (by kernel_rfl) (by kernel_rfl) (by kernel_rfl) (yx_val (wantAll rfl) (fun w' hx' => rv_fieldAddr (n := 65) rfl (fr_eval rfl e4) Try.underlying43 rfl rfl (by kernel_rfl))) ?_
          refine xl_take (i := 7) (v := .pointer (some ⟨g1, 33, none⟩)) rfl (by kernel_rfl) (by kernel_rfl) (by kernel_rfl) (by kernel_rfl) (yx_val (wantAll rfl) (fun w' hx' => rv_fieldAddr (n := 31) rfl (fr_eval rfl rfl) Try.underlying40 rfl rfl (by kernel_rfl))) ?_
          refine xl_take (i := 8) (v := .agg (cBs x.r.1).toArray) rfl (by kernel_rfl) (by kernel_rfl) (by kernel_rfl) (by kernel_rfl) (yx_val (wantAll rfl) (fun w' hx' => rv_loadP rfl ((hH.ext hx').blk (i := 0) rfl) (zLk_p13 x.a.2 x.r.2) (cBs_len x.r.2) (fr_eval rfl rfl) Try.underlying23 rfl Try.sz23)) ?_
          refine xl_take (i := 9) (v := .agg (cBs s.1).toArray) rfl (by kernel_rfl) (by kernel_rfl) (by kernel_rfl) (by kernel_rfl) (yx_val (wantAll rfl) (fun w' hx' => rv_loadW rfl ((hH.ext hx').blk (i := 1) rfl) (fr_eval rfl e5) Try.underlying23 rfl (sz_len Try.sz23 (cBs_len s.2)))) ?_
          refine xl_take (i := 10) (v := .int .i64 ((a0 : Nat) : Int)) rfl (by kernel_rfl) (by kernel_rfl) (by kernel_rfl) (by kernel_rfl) (yx_val (wantAll rfl) (fun w' hx' => rv_move rfl (fr_eval rfl e2))) ?_
          refine xl_take (i := 11) (v := .pointer (some ⟨g1, 0, none⟩)) rfl (by kernel_rfl) (by kernel_rfl) (by kernel_rfl) (by kernel_rfl) (yx_val (wantAll rfl) (fun w' hx' => rv_fieldAddr (n := 65) rfl (fr_eval rfl e4) Try.underlying43 rfl rfl (by kernel_rfl))) ?_
          refine xl_take (i := 12) (v := .pointer (some ⟨g1, 65, none⟩)) rfl (by kernel_rfl) (by kernel_rfl) (by kernel_rfl) (by kernel_rfl) (yx_val (wantAll rfl) (fun w' hx' => rv_fieldAddr (n := 0) rfl (fr_eval rfl rfl) Try.underlying40 rfl rfl (by kernel_rfl))) ?_
          refine xl_take (i := 13) (v := .int .i64 x.m) rfl (by kernel_rfl) (by kernel_rfl) (by kernel_rfl) (by kernel_rfl) (yx_val (wantAll rfl) (fun w' hx' => rv_load1 rfl ((hH.ext hx').blk (i := 0) rfl) (zLk_g12 x.a.2 x.r.2) (fr_eval rfl rfl) Try.underlying3 rfl Try.sz3)) ?_
          refine xl_take (i := 14) (v := vp) rfl (by kernel_rfl) (by kernel_rfl) (by kernel_rfl) (by kernel_rfl) (yx_val (wantAll rfl) (fun w' hx' => rv_move rfl (fr_eval rfl e3))) ?_
          refine xl_tail (s := 15) rfl ?_
          intro w10 hx
          replace hH := hH.ext hx
          clear hx
          refine lf_call (wantAll rfl) (rv_call (args := [.agg (cBs x.r.1).toArray, .agg (cBs s.1).toArray, .int .i64 ((a0 : Nat) : Int), .int .i64 x.m, vp]) rfl (evc (fr_eval rfl rfl) (evc (fr_eval rfl rfl) (evc (fr_eval rfl rfl) (evc (fr_eval rfl rfl) (evc (fr_eval rfl rfl) evn))))) Try.call15) (check_calls x.r s ((a0 : Nat) : Int) x.m (by omega) (by omega) p _ _ (hp.rd _ hH.chg)) ?_
          rintro _ w11 ⟨rfl, hx⟩
          refine ⟨_, rfl, ?_⟩
          replace hH := hH.ext hx
          clear hx
          refine lf_val (v := .bool true) (wantAll rfl) (rv_eqb (d := true) rfl (fr_eval rfl rfl) (fr_eval rfl rfl) Try.underlying4 (beq_self_eq_true _)) ?_
          refine lf_val (v := .bool true) (wantAll rfl) (rv_move rfl (fr_eval rfl rfl)) ?_
          refine lf_call (wantF (d := 80) rfl (by kernel_rfl) rfl rfl) (rv_call (args := []) rfl evn Try.call26) (awake19_calls _) ?_
          rintro _ w12 ⟨rfl, hx⟩
          refine ⟨_, rfl, ?_⟩
          replace hH := hH.ext hx
          clear hx
          refine lf_val (v := .bool true) (wantAll rfl) (rv_pickT rfl (fr_eval rfl rfl) (fr_eval rfl rfl)) ?_
          refine lf_val (v := .bool true) (wantAll rfl) (rv_assign rfl (fr_eval rfl rfl)) ?_
          refine lf_nil ?_
          refine then_n ?_
          refine wp_gen (fun F' => F' 0 = .agg (cBs x.a.1 ++ (([.int .i64 x.h] : List Value) ++ (cBs x.r.1 ++ ([.int .i64 x.m, v] : List Value)))).toArray ∧ F' 1 = .agg (cBs s.1).toArray ∧ F' 2 = .int .i64 ((a0 : Nat) : Int) ∧ F' 3 = vp ∧ F' 4 = .pointer (some ⟨g1, 0, none⟩) ∧ F' 5 = .pointer (some ⟨g2, 0, none⟩) ∧ F' 8 = .bool true ∧ F' 9 = y1 ∧ F' 10 = .bool true ∧ F' 11 = y3 ∧ F' 12 = .bool true ∧ F' 13 = .int .i64 ((i : Nat) : Int) ∧ F' 22 = .bool false ∧ F' 47 = .bool false ∧ F' 51 = .bool false) ⟨e0, e1, e2, e3, e4, e5, rfl, e9, e10, e11, e12, e13, e22, e47, (e51.trans (congrArg Value.bool (decide_eq_false hc2)))⟩ ?_
          clear e0 e1 e2 e3 e4 e5 e9 e10 e11 e12 e13 e22 e47 e51
          clear F
          rintro F ⟨e0, e1, e2, e3, e4, e5, e8, e9, e10, e11, e12, e13, e22, e47, e51⟩
          refine wp_ret ?_
          exact bodyPost_ret (v := (.bool true)) (res1 rfl (ro_tmp rfl e8)) rfl (⟨rfl, hH.done⟩)
      · have hs := (hf1 : smL l).2
        have hl20 : l.length ≤ 20 := (hf1 : smL l).1
        have hml : (List.map sumT l).length = l.length := List.length_map ..
        have ho : ¬ (0 ≤ at' ∧ at' < ((List.map sumT l).length : Int)) := by rw [hml]; exact hf2
        refine wp_regionF ?_
        refine lf_val (wantAll rfl) (rv_loadW rfl (hH.blk (i := 0) rfl) (fr_eval rfl e4) Try.underlying43 rfl (sz_len Try.sz43 (zLk_l7 x.a.2 x.r.2))) ?_
        refine lf_val (v := .int .i64 at') (wantAll rfl) (rv_move rfl (fr_eval rfl e2)) ?_
        refine lf_call (wantAll rfl) (rv_call (args := [.agg (cBs x.a.1 ++ (([.int .i64 x.h] : List Value) ++ (cBs x.r.1 ++ ([.int .i64 x.m, v] : List Value)))).toArray, .int .i64 at']) rfl (evc (fr_eval rfl rfl) (evc (fr_eval rfl rfl) evn)) Try.call32) (bPath_out x at' (by omega) l (by omega) hs hf2 _ _ (fun t ht => (hts t ht).later hH.chg (newN_up hH.chg hH.up)) (hr.rd _ hH.chg)) ?_
        rintro _ w13 ⟨rfl, hx⟩
        refine ⟨_, rfl, ?_⟩
        replace hH := hH.ext hx
        clear hx
        refine lf_val (v := .tuple #[.slice none 0 0, .bool false]) (wantAll rfl) (rv_move rfl (fr_eval rfl rfl)) ?_
        refine lf_val (v := .slice none 0 0) (wantAll rfl) (rv_extract rfl (fr_eval rfl rfl) rfl) ?_
        refine lf_val (v := .bool false) (wantAll rfl) (rv_extract rfl (fr_eval rfl rfl) rfl) ?_
        refine lf_val (v := .slice none 0 0) (wantAll rfl) (rv_assign rfl (fr_eval rfl rfl)) ?_
        refine lf_val (v := .bool false) (wantAll rfl) (rv_assign rfl (fr_eval rfl rfl)) ?_
        refine lf_nil ?_
        refine then_n ?_
        refine wp_seq ?_
        refine wp_gen (fun F' => F' 0 = .agg (cBs x.a.1 ++ (([.int .i64 x.h] : List Value) ++ (cBs x.r.1 ++ ([.int .i64 x.m, v] : List Value)))).toArray ∧ F' 1 = .agg (cBs s.1).toArray ∧ F' 2 = .int .i64 at' ∧ F' 3 = vp ∧ F' 4 = .pointer (some ⟨g1, 0, none⟩) ∧ F' 5 = .pointer (some ⟨g2, 0, none⟩) ∧ F' 8 = .bool false ∧ F' 9 = .slice none 0 0 ∧ F' 10 = .bool false ∧ F' 22 = .bool false) ⟨e0, e1, e2, e3, e4, e5, e8, rfl, rfl, (e22.trans (congrArg Value.bool (decide_eq_false hc1)))⟩ ?_
        clear e0 e1 e2 e3 e4 e5 e8 e22
        clear F
        rintro F ⟨e0, e1, e2, e3, e4, e5, e8, e9, e10, e22⟩
        refine wp_regionF ?_
        refine lf_val (v := .int .i64 at') (wantAll rfl) (rv_move rfl (fr_eval rfl e2)) ?_
        refine lf_val (v := .pointer (some ⟨g1, 66, none⟩)) (wantAll rfl) (rv_fieldAddr (n := 0) rfl (fr_eval rfl e4) Try.underlying43 rfl rfl (by kernel_rfl)) ?_
        refine lf_val (v := v) (wantAll rfl) (rv_load1 rfl (hH.blk (i := 0) rfl) (zLk_g11 x.a.2 x.r.2) (fr_eval rfl rfl) Try.underlying41 rfl Try.sz41) ?_
        refine lf_call (wantAll rfl) (rv_call (args := [v]) rfl (evc (fr_eval rfl rfl) evn) Try.call27) (sums19_calls l (by omega) hs _ _ (fun t ht => (hts t ht).later hH.chg (newN_up hH.chg hH.up)) (hr.rd _ hH.chg)) ?_
        rintro _ w14 ⟨⟨y4, rfl, ho, hg⟩, hx⟩
        refine ⟨_, rfl, ?_⟩
        replace hH : Heap _ _ _ [_, _, _] := hH.addOwn hx hg ho
        clear ho hg
        clear hx
        refine lf_call (wantAll rfl) (rv_call (args := [.int .i64 at', y4]) rfl (evc (fr_eval rfl rfl) (evc (fr_eval rfl rfl) evn)) Try.call18) (path_out at' (by omega) (List.map sumT l) ho _ _ (Own.rd (hH.own (i := 2) rfl) (row_one cS_one))) ?_
        rintro _ w15 ⟨rfl, hx⟩
        refine ⟨_, rfl, ?_⟩
        replace hH := hH.ext hx
        clear hx
        refine lf_val (v := .tuple #[.slice none 0 0, .bool false]) (wantAll rfl) (rv_move rfl (fr_eval rfl rfl)) ?_
        refine lf_val (v := .slice none 0 0) (wantAll rfl) (rv_extract rfl (fr_eval rfl rfl) rfl) ?_
        refine lf_val (v := .bool false) (wantAll rfl) (rv_extract rfl (fr_eval rfl rfl) rfl) ?_
        refine lf_val (v := .slice none 0 0) (wantAll rfl) (rv_assign rfl (fr_eval rfl rfl)) ?_
        refine lf_val (v := .bool false) (wantAll rfl) (rv_assign rfl (fr_eval rfl rfl)) ?_
        refine lf_nil ?_
        refine then_n ?_
        refine wp_seq ?_
        refine wp_seq ?_
        replace hH : Heap _ _ _ [_, _] := hH.drop (.cons_cons _ (.cons_cons _ (.cons _ .slnil)))
        refine wp_gen (fun F' => F' 0 = .agg (cBs x.a.1 ++ (([.int .i64 x.h] : List Value) ++ (cBs x.r.1 ++ ([.int .i64 x.m, v] : List Value)))).toArray ∧ F' 1 = .agg (cBs s.1).toArray ∧ F' 2 = .int .i64 at' ∧ F' 3 = vp ∧ F' 4 = .pointer (some ⟨g1, 0, none⟩) ∧ F' 5 = .pointer (some ⟨g2, 0, none⟩) ∧ F' 8 = .bool false ∧ F' 9 = .slice none 0 0 ∧ F' 10 = .bool false ∧ F' 11 = .slice none 0 0 ∧ F' 12 = .bool false ∧ F' 22 = .bool false) ⟨e0, e1, e2, e3, e4, e5, e8, e9, e10, rfl, rfl, e22⟩ ?_
        clear e0 e1 e2 e3 e4 e5 e8 e9 e10 e22
        clear F
        rintro F ⟨e0, e1, e2, e3, e4, e5, e8, e9, e10, e11, e12, e22⟩
        refine wp_regionF ?_
        refine lf_val (v := .bool false) (wantAll rfl) (rv_move rfl (fr_eval rfl e10)) ?_
        refine lf_val (v := .bool false) (wantAll rfl) (rv_move rfl (fr_eval rfl e12)) ?_
        refine lf_val (v := .bool false) (wantAll rfl) (rv_neb (d := true) rfl (fr_eval rfl rfl) (fr_eval rfl rfl) Try.underlying4 (beq_self_eq_true _)) ?_
        refine lf_val (v := .bool false) (wantAll rfl) (rv_move rfl (fr_eval rfl rfl)) ?_
        refine lf_val (v := .slice none 0 0) (wantF (d := 41) rfl (by kernel_rfl) rfl rfl) (rv_move rfl (fr_eval rfl e9)) ?_
        refine lf_val (v := .int .i64 0) (wantF (d := 41) rfl (by kernel_rfl) rfl rfl) (rv_len rfl (fr_eval rfl rfl) (Rd.nil (size := 1)) Try.underlying24) ?_
        refine lf_val (v := .slice none 0 0) (wantF (d := 41) rfl (by kernel_rfl) rfl rfl) (rv_move rfl (fr_eval rfl e11)) ?_
        refine lf_val (v := .int .i64 0) (wantF (d := 41) rfl (by kernel_rfl) rfl rfl) (rv_len rfl (fr_eval rfl rfl) (Rd.nil (size := 1)) Try.underlying24) ?_
        refine lf_val (v := .bool false) (wantF (d := 41) rfl (by kernel_rfl) rfl rfl) (rv_neq rfl (fr_eval rfl rfl) (fr_eval rfl rfl) (show decide ((0 : Int) = 0) = true from by decide)) ?_
        refine lf_val (v := .bool false) (wantAll rfl) (rv_pickF rfl (fr_eval rfl rfl) (fr_eval rfl rfl)) ?_
        refine lf_nil ?_
        refine then_n ?_
        refine wp_gen (fun F' => F' 0 = .agg (cBs x.a.1 ++ (([.int .i64 x.h] : List Value) ++ (cBs x.r.1 ++ ([.int .i64 x.m, v] : List Value)))).toArray ∧ F' 1 = .agg (cBs s.1).toArray ∧ F' 2 = .int .i64 at' ∧ F' 3 = vp ∧ F' 4 = .pointer (some ⟨g1, 0, none⟩) ∧ F' 5 = .pointer (some ⟨g2, 0, none⟩) ∧ F' 8 = .bool false ∧ F' 9 = .slice none 0 0 ∧ F' 10 = .bool false ∧ F' 11 = .slice none 0 0 ∧ F' 12 = .bool false ∧ F' 22 = .bool false ∧ F' 47 = .bool false) ⟨e0, e1, e2, e3, e4, e5, e8, e9, e10, e11, e12, e22, rfl⟩ ?_
        clear e0 e1 e2 e3 e4 e5 e8 e9 e10 e11 e12 e22
        clear F
        rintro F ⟨e0, e1, e2, e3, e4, e5, e8, e9, e10, e11, e12, e22, e47⟩
        refine wp_cond_false (fr_eval rfl e47) ?_
        refine wp_skip ?_
        refine then_n ?_
        refine wp_seq ?_
        refine wp_seq ?_
        refine wp_regionF ?_
        refine lf_val (v := .int .i64 0) (wantAll rfl) (rv_assign rfl rfl) ?_
        refine lf_nil ?_
        refine then_n ?_
        refine wp_block ?_
        refine wp_gen (fun F' => F' 0 = .agg (cBs x.a.1 ++ (([.int .i64 x.h] : List Value) ++ (cBs x.r.1 ++ ([.int .i64 x.m, v] : List Value)))).toArray ∧ F' 1 = .agg (cBs s.1).toArray ∧ F' 2 = .int .i64 at' ∧ F' 3 = vp ∧ F' 4 = .pointer (some ⟨g1, 0, none⟩) ∧ F' 5 = .pointer (some ⟨g2, 0, none⟩) ∧ F' 8 = .bool false ∧ F' 9 = .slice none 0 0 ∧ F' 10 = .bool false ∧ F' 11 = .slice none 0 0 ∧ F' 12 = .bool false ∧ F' 13 = .int .i64 0 ∧ F' 22 = .bool false ∧ F' 47 = .bool false) ⟨e0, e1, e2, e3, e4, e5, e8, e9, e10, e11, e12, rfl, e22, e47⟩ ?_
        clear e0 e1 e2 e3 e4 e5 e8 e9 e10 e11 e12 e22 e47
        clear F
        rintro F ⟨e0, e1, e2, e3, e4, e5, e8, e9, e10, e11, e12, e13, e22, e47⟩
        refine wp_loopF (fun m F wr => ∃ u : Nat, m = u + 1 ∧ u ≤ 0 ∧ F 0 = .agg (cBs x.a.1 ++ (([.int .i64 x.h] : List Value) ++ (cBs x.r.1 ++ ([.int .i64 x.m, v] : List Value)))).toArray ∧ F 1 = .agg (cBs s.1).toArray ∧ F 2 = .int .i64 at' ∧ F 3 = vp ∧ F 4 = .pointer (some ⟨g1, 0, none⟩) ∧ F 5 = .pointer (some ⟨g2, 0, none⟩) ∧ F 9 = .slice none 0 0 ∧ F 10 = .bool false ∧ F 11 = .slice none 0 0 ∧ F 12 = .bool false ∧ F 13 = .int .i64 0 ∧ F 22 = .bool false ∧ F 47 = .bool false ∧ Heap (newN w) w wr [oBlk g1 (cBs x.a.1 ++ (([.int .i64 x.h] : List Value) ++ (cBs x.r.1 ++ ([.int .i64 x.m, v] : List Value)))) 43, oBlk g2 (cBs s.1) 23]) ⟨0, rfl, (Nat.le_refl _), e0, e1, e2, e3, e4, e5, e9, e10, e11, e12, e13, e22, e47, hH⟩ ?_
        clear e0 e1 e2 e3 e4 e5 e8 e9 e10 e11 e12 e13 e22 e47 hH
        clear F
        rintro m F w16 ⟨u, rfl, pu0, e0, e1, e2, e3, e4, e5, e9, e10, e11, e12, e13, e22, e47, hH⟩
        refine wp_seq ?_
        refine wp_seq ?_
        refine wp_regionF ?_
        refine lf_val (v := .int .i64 0) (wantAll rfl) (rv_move rfl (fr_eval rfl e13)) ?_
        refine lf_val (v := .slice none 0 0) (wantAll rfl) (rv_move rfl (fr_eval rfl e9)) ?_
        refine lf_val (v := .int .i64 0) (wantAll rfl) (rv_len rfl (fr_eval rfl rfl) (Rd.nil (size := 1)) Try.underlying24) ?_
        refine lf_val (v := .bool false) (wantAll rfl) (rv_lss rfl (fr_eval rfl rfl) (fr_eval rfl rfl) (by decide)) ?_
        refine lf_nil ?_
        refine then_n ?_
        refine wp_gen (fun F' => F' 0 = .agg (cBs x.a.1 ++ (([.int .i64 x.h] : List Value) ++ (cBs x.r.1 ++ ([.int .i64 x.m, v] : List Value)))).toArray ∧ F' 1 = .agg (cBs s.1).toArray ∧ F' 2 = .int .i64 at' ∧ F' 3 = vp ∧ F' 4 = .pointer (some ⟨g1, 0, none⟩) ∧ F' 5 = .pointer (some ⟨g2, 0, none⟩) ∧ F' 9 = .slice none 0 0 ∧ F' 10 = .bool false ∧ F' 11 = .slice none 0 0 ∧ F' 12 = .bool false ∧ F' 13 = .int .i64 0 ∧ F' 22 = .bool false ∧ F' 47 = .bool false ∧ F' 51 = .bool false) ⟨e0, e1, e2, e3, e4, e5, e9, e10, e11, e12, e13, e22, e47, rfl⟩ ?_
        clear e0 e1 e2 e3 e4 e5 e9 e10 e11 e12 e13 e22 e47
        clear F
        rintro F ⟨e0, e1, e2, e3, e4, e5, e9, e10, e11, e12, e13, e22, e47, e51⟩
        refine wp_cond_false (fr_eval rfl e51) ?_
        refine wp_exit ?_
        refine then_exit ?_
        refine then_exit ?_
        refine blk_exit ?_
        refine then_n ?_
        refine wp_seq ?_
        refine wp_regionX (fun _ => False) 15 (by kernel_rfl) (by kernel_rfl) ?_
        refine xl_take (i := 0) (v := .pointer (some ⟨g1, 0, none⟩)) rfl (by kernel_rfl) (by kernel_rfl) (by kernel_rfl) (by kernel_rfl) (yx_val (wantAll rfl) (fun w' hx' => rv_fieldAddr (n := 65) rfl (fr_eval rfl e4) Try.underlying43 rfl rfl (by kernel_rfl))) ?_
        refine xl_take (i := 1) (v := .agg (cBs x.a.1 ++ (([.int .i64 x.h] : List Value) ++ (cBs x.r.1 ++ ([.int .i64 x.m] : List Value)))).toArray) rfl (by kernel_rfl) (by kernel_rfl) (by kernel_rfl) (by kernel_rfl) (yx_val (wantAll rfl) (fun w' hx' => rv_loadP rfl ((hH.ext hx').blk (i := 0) rfl) (zLk_p16 x.a.2 x.r.2) (zLk_l14 x.a.2 x.r.2) (fr_eval rfl rfl) Try.underlying40 rfl Try.sz40)) ?_
        refine xl_take (i := 2) (v := .agg (cBs s.1).toArray) rfl (by kernel_rfl) (by kernel_rfl) (by kernel_rfl) (by kernel_rfl) (yx_val (wantAll rfl) (fun w' hx' => rv_loadW rfl ((hH.ext hx').blk (i := 1) rfl) (fr_eval rfl e5) Try.underlying23 rfl (sz_len Try.sz23 (cBs_len s.2)))) ?_
        refine xl_take (i := 3) (v := .int .i64 at') rfl (by kernel_rfl) (by kernel_rfl) (by kernel_rfl) (by kernel_rfl) (yx_val (wantAll rfl) (fun w' hx' => rv_move rfl (fr_eval rfl e2))) ?_
        refine xl_take (i := 4) (v := vp) rfl (by kernel_rfl) (by kernel_rfl) (by kernel_rfl) (by kernel_rfl) (yx_val (wantAll rfl) (fun w' hx' => rv_move rfl (fr_eval rfl e3))) ?_
        refine xl_take (i := 5) (v := .bool (checkB x.r s at' x.m p)) rfl (by kernel_rfl) (by kernel_rfl) (by kernel_rfl) (by kernel_rfl) (yx_call (wantAll rfl) (fun w' => rv_call (args := [.agg (cBs x.a.1 ++ (([.int .i64 x.h] : List Value) ++ (cBs x.r.1 ++ ([.int .i64 x.m] : List Value)))).toArray, .agg (cBs s.1).toArray, .int .i64 at', vp]) rfl (evc (fr_eval rfl rfl) (evc (fr_eval rfl rfl) (evc (fr_eval rfl rfl) (evc (fr_eval rfl rfl) evn)))) Try.call33) (fun w' hx' => bHas_calls x hin s at' (by omega) p _ _ (hp.rd _ (hH.chg.trans (Ext.any hx'))))) ?_
        refine xl_take (i := 6) (v := .pointer (some ⟨g1, 0, none⟩)) rfl (by kernel_rfl) (by kernel_rfl) (by kernel_rfl) (by kernel_rfl) (yx_val (wantAll rfl) (fun w' hx' => rv_fieldAddr (n := 65) rfl (fr_eval rfl e4) Try.underlying43 rfl rfl (by kernel_rfl))) ?_
        refine xl_take (i := 7) (v := .pointer (some ⟨g1, 33, none⟩)) rfl (by kernel_rfl) (by kernel_rfl) (by kernel_rfl) (by kernel_rfl) (yx_val (wantAll rfl) (fun w' hx' => rv_fieldAddr (n := 31) rfl (fr_eval rfl rfl) Try.underlying40 rfl rfl (by kernel_rfl))) ?_
        refine xl_take (i := 8) (v := .agg (cBs x.r.1).toArray) rfl (by kernel_rfl) (by kernel_rfl) (by kernel_rfl) (by kernel_rfl) (yx_val (wantAll rfl) (fun w' hx' => rv_loadP rfl ((hH.ext hx').blk (i := 0) rfl) (zLk_p13 x.a.2 x.r.2) (cBs_len x.r.2) (fr_eval rfl rfl) Try.underlying23 rfl Try.sz23)) ?_
        refine xl_take (i := 9) (v := .agg (cBs s.1).toArray) rfl (by kernel_rfl) (by kernel_rfl) (by kernel_rfl) (by kernel_rfl) (yx_val (wantAll rfl) (fun w' hx' => rv_loadW rfl ((hH.ext hx').blk (i := 1) rfl) (fr_eval rfl e5) Try.underlying23 rfl (sz_len Try.sz23 (cBs_len s.2)))) ?_
        refine xl_take (i := 10) (v := .int .i64 at') rfl (by kernel_rfl) (by kernel_rfl) (by kernel_rfl) (by kernel_rfl) (yx_val (wantAll rfl) (fun w' hx' => rv_move rfl (fr_eval rfl e2))) ?_
        refine xl_take (i := 11) (v := .pointer (some ⟨g1, 0, none⟩)) rfl (by kernel_rfl) (by kernel_rfl) (by kernel_rfl) (by kernel_rfl) (yx_val (wantAll rfl) (fun w' hx' => rv_fieldAddr (n := 65) rfl (fr_eval rfl e4) Try.underlying43 rfl rfl (by kernel_rfl))) ?_
        refine xl_take (i := 12) (v := .pointer (some ⟨g1, 65, none⟩)) rfl (by kernel_rfl) (by kernel_rfl) (by kernel_rfl) (by kernel_rfl) (yx_val (wantAll rfl) (fun w' hx' => rv_fieldAddr (n := 0) rfl (fr_eval rfl rfl) Try.underlying40 rfl rfl (by kernel_rfl))) ?_
        refine xl_take (i := 13) (v := .int .i64 x.m) rfl (by kernel_rfl) (by kernel_rfl) (by kernel_rfl) (by kernel_rfl) (yx_val (wantAll rfl) (fun w' hx' => rv_load1 rfl ((hH.ext hx').blk (i := 0) rfl) (zLk_g12 x.a.2 x.r.2) (fr_eval rfl rfl) Try.underlying3 rfl Try.sz3)) ?_
        refine xl_take (i := 14) (v := vp) rfl (by kernel_rfl) (by kernel_rfl) (by kernel_rfl) (by kernel_rfl) (yx_val (wantAll rfl) (fun w' hx' => rv_move rfl (fr_eval rfl e3))) ?_
        refine xl_tail (s := 15) rfl ?_
        intro w17 hx
        replace hH := hH.ext hx
        clear hx
        refine lf_call (wantAll rfl) (rv_call (args := [.agg (cBs x.r.1).toArray, .agg (cBs s.1).toArray, .int .i64 at', .int .i64 x.m, vp]) rfl (evc (fr_eval rfl rfl) (evc (fr_eval rfl rfl) (evc (fr_eval rfl rfl) (evc (fr_eval rfl rfl) (evc (fr_eval rfl rfl) evn))))) Try.call15) (check_calls x.r s at' x.m (by omega) (by omega) p _ _ (hp.rd _ hH.chg)) ?_
        rintro _ w18 ⟨rfl, hx⟩
        refine ⟨_, rfl, ?_⟩
        replace hH := hH.ext hx
        clear hx
        refine lf_val (v := .bool true) (wantAll rfl) (rv_eqb (d := true) rfl (fr_eval rfl rfl) (fr_eval rfl rfl) Try.underlying4 (beq_self_eq_true _)) ?_
        refine lf_val (v := .bool true) (wantAll rfl) (rv_move rfl (fr_eval rfl rfl)) ?_
        refine lf_call (wantF (d := 80) rfl (by kernel_rfl) rfl rfl) (rv_call (args := []) rfl evn Try.call26) (awake19_calls _) ?_
        rintro _ w19 ⟨rfl, hx⟩
        refine ⟨_, rfl, ?_⟩
        replace hH := hH.ext hx
        clear hx
        refine lf_val (v := .bool true) (wantAll rfl) (rv_pickT rfl (fr_eval rfl rfl) (fr_eval rfl rfl)) ?_
        refine lf_val (v := .bool true) (wantAll rfl) (rv_assign rfl (fr_eval rfl rfl)) ?_
        refine lf_nil ?_
        refine then_n ?_
        refine wp_gen (fun F' => F' 0 = .agg (cBs x.a.1 ++ (([.int .i64 x.h] : List Value) ++ (cBs x.r.1 ++ ([.int .i64 x.m, v] : List Value)))).toArray ∧ F' 1 = .agg (cBs s.1).toArray ∧ F' 2 = .int .i64 at' ∧ F' 3 = vp ∧ F' 4 = .pointer (some ⟨g1, 0, none⟩) ∧ F' 5 = .pointer (some ⟨g2, 0, none⟩) ∧ F' 8 = .bool true ∧ F' 9 = .slice none 0 0 ∧ F' 10 = .bool false ∧ F' 11 = .slice none 0 0 ∧ F' 12 = .bool false ∧ F' 13 = .int .i64 0 ∧ F' 22 = .bool false ∧ F' 47 = .bool false ∧ F' 51 = .bool false) ⟨e0, e1, e2, e3, e4, e5, rfl, e9, e10, e11, e12, e13, e22, e47, e51⟩ ?_
        clear e0 e1 e2 e3 e4 e5 e9 e10 e11 e12 e13 e22 e47 e51
        clear F
        rintro F ⟨e0, e1, e2, e3, e4, e5, e8, e9, e10, e11, e12, e13, e22, e47, e51⟩
        refine wp_ret ?_
        exact bodyPost_ret (v := (.bool true)) (res1 rfl (ro_tmp rfl e8)) rfl (⟨rfl, hH.done⟩)
  · refine wp_regionF ?_
    refine lf_val (v := .pointer (some ⟨g1, 66, none⟩)) (wantAll rfl) (rv_fieldAddr (n := 0) rfl (fr_eval rfl e4) Try.underlying43 rfl rfl (by kernel_rfl)) ?_
    refine lf_val (v := v) (wantAll rfl) (rv_load1 rfl (hH.blk (i := 0) rfl) (zLk_g11 x.a.2 x.r.2) (fr_eval rfl rfl) Try.underlying41 rfl Try.sz41) ?_
    refine lf_call (wantAll rfl) (rv_call (args := [v]) rfl (evc (fr_eval rfl rfl) evn) Try.call25) (calls_known (b' := false) (small19_calls l _ _ (fun t ht => (hts t ht).later hH.chg (newN_up hH.chg hH.up)) (hr.rd _ hH.chg)) (decide_eq_false hf1)) ?_
    rintro _ w20 ⟨rfl, hx⟩
    refine ⟨_, rfl, ?_⟩
    replace hH := hH.ext hx
    clear hx
    refine lf_val (v := .bool true) (wantAll rfl) (rv_not (b := false) rfl (fr_eval rfl rfl)) ?_
    refine lf_val (v := .bool true) (wantAll rfl) (rv_move rfl (fr_eval rfl rfl)) ?_
    refine lf_not (wantNot (d := 18) rfl (by kernel_rfl) rfl rfl) ?_
    refine lf_not (wantNot (d := 18) rfl (by kernel_rfl) rfl rfl) ?_
    refine lf_not (wantNot (d := 18) rfl (by kernel_rfl) rfl rfl) ?_
    refine lf_val (v := .bool true) (wantAll rfl) (rv_pickT rfl (fr_eval rfl rfl) rfl) ?_
    refine lf_nil ?_
    refine then_n ?_
    refine wp_gen (fun F' => F' 0 = .agg (cBs x.a.1 ++ (([.int .i64 x.h] : List Value) ++ (cBs x.r.1 ++ ([.int .i64 x.m, v] : List Value)))).toArray ∧ F' 1 = .agg (cBs s.1).toArray ∧ F' 2 = .int .i64 at' ∧ F' 3 = vp ∧ F' 4 = .pointer (some ⟨g1, 0, none⟩) ∧ F' 5 = .pointer (some ⟨g2, 0, none⟩) ∧ F' 8 = .bool false ∧ F' 22 = .bool true) ⟨e0, e1, e2, e3, e4, e5, e8, rfl⟩ ?_
    clear e0 e1 e2 e3 e4 e5 e8
    clear F
    rintro F ⟨e0, e1, e2, e3, e4, e5, e8, e22⟩
    refine wp_cond_true (fr_eval rfl e22) ?_
    refine wp_seq ?_
    refine wp_regionF ?_
    refine lf_call (wantAll rfl) (rv_call (args := []) rfl evn Try.call26) (awake19_calls _) ?_
    rintro _ w21 ⟨rfl, hx⟩
    refine ⟨_, rfl, ?_⟩
    replace hH := hH.ext hx
    clear hx
    refine lf_val (v := .bool true) (wantAll rfl) (rv_assign rfl (fr_eval rfl rfl)) ?_
    refine lf_nil ?_
    refine then_n ?_
    refine wp_gen (fun F' => F' 0 = .agg (cBs x.a.1 ++ (([.int .i64 x.h] : List Value) ++ (cBs x.r.1 ++ ([.int .i64 x.m, v] : List Value)))).toArray ∧ F' 1 = .agg (cBs s.1).toArray ∧ F' 2 = .int .i64 at' ∧ F' 3 = vp ∧ F' 4 = .pointer (some ⟨g1, 0, none⟩) ∧ F' 5 = .pointer (some ⟨g2, 0, none⟩) ∧ F' 8 = .bool true ∧ F' 22 = .bool true) ⟨e0, e1, e2, e3, e4, e5, rfl, e22⟩ ?_
    clear e0 e1 e2 e3 e4 e5 e8 e22
    clear F
    rintro F ⟨e0, e1, e2, e3, e4, e5, e8, e22⟩
    refine wp_ret ?_
    refine then_ret ?_
    exact bodyPost_ret (v := (.bool true)) (res1 rfl (ro_tmp rfl e8)) rfl (⟨rfl, hH.done⟩)

end Go.Proofs.Ytokddhidcjkadaa
