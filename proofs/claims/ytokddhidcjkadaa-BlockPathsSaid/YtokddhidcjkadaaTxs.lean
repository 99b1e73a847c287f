/- Transactions: the walks of what writes them, and of their sums. -/
import Derived.Test.YtokddhidcjkadaaTx
import Derived.Test.YtokddhidcjkadaaShaJoin
import Derived.Test.YtokddhidcjkadaaHeapW
import Derived.Test.YtokddhidcjkadaaSym
namespace Go.Proofs.Ytokddhidcjkadaa
open Go.RowKit Go.Bz Go.Bz.Sha Go.Bz.Wire Go.Bz.Txs
attribute [local irreducible] wpList Code.wp wpAnyX
theorem flat_le1 {l : List UInt8} (h : l.length ≤ 1099511620000) : (flat [l]).length ≤ 1099511627000 := by simp [flat]; omega
theorem in2J {a b : Int} (h1 : inJ a) (h2 : inJ b) : ∀ i, i < List.length [a, b] → -9223372036854775808 ≤ List.getD [a, b] i 0 ∧ List.getD [a, b] i 0 ≤ 9223372036854775807 := fun i hi => by
  match i, hi with
  | 0, _ => exact h1
  | 1, _ => exact h2
theorem in4J {a b c d : Int} (h1 : inJ a) (h2 : inJ b) (h3 : inJ c) (h4 : inJ d) : ∀ i, i < List.length [a, b, c, d] → -9223372036854775808 ≤ List.getD [a, b, c, d] i 0 ∧ List.getD [a, b, c, d] i 0 ≤ 9223372036854775807 := fun i hi => by
  match i, hi with
  | 0, _ => exact h1
  | 1, _ => exact h2
  | 2, _ => exact h3
  | 3, _ => exact h4
theorem lenJ {n : Nat} (h : n ≤ 1000000) : inJ (n : Int) := ⟨by omega, by omega⟩
theorem _root_.Go.Bz.Heap.startPen {w : World} {g : Nat} {v : Value} {l : List UInt8} (hp : PenAt w g v l) : Heap (newK w (holdK g v)) w w [oPen g v l] :=
  ⟨Chg.refl _ _, fun k h => .inl h, fun O hO => by
    obtain rfl : O = oPen g v l := by simpa using hO
    exact ⟨fun k hk => .inr hk, fun k hk => hk.elim (fun h => by subst h; exact hp.blk.lt) (fun h => own_lt hp.own k h), stay_pen hp⟩, List.pairwise_singleton _ _⟩
theorem _root_.Go.Bz.Heap.endPen {w w' : World} {g : Nat} {v v' : Value} {l : List UInt8} {L : List MemO} {i : Nat} (hH : Heap (newK w (holdK g v)) w w' L) (hi : L[i]? = some (oPen g v' l)) : PenPost w w' g v l :=
  ⟨v', hH.pen hi, hH.doneK, fun k hk => ((hH.one hi).sub k (.inr hk)).elim .inl fun h => h.elim (fun e => by
    have hp := hH.pen hi
    exact absurd (e ▸ hk) (Own.neType hp.own hp.blk (by decide))) .inr⟩
theorem newN_up {N : Nat → Prop} {w0 w : World} (hc : Chg N w0 w) (hup : ∀ k, w0.heap.size ≤ k → N k) : ∀ k, newN w k → N k := fun k h => hup k (Nat.le_trans hc.size h)
theorem pen_up {N : Nat → Prop} {w0 w : World} {L : List MemO} {i g : Nat} {v : Value} {l : List UInt8} (hH : Heap N w0 w L) (hi : L[i]? = some (oPen g v l)) : ∀ k, newK w (holdK g v) k → N k :=
  fun k h => h.elim (fun h => hH.up k (Nat.le_trans hH.size h)) fun h => (hH.one hi).sub k h

theorem zTx_g0 {a0 : Value} {a1 : Value} : ([a0, a1])[0]? = some a0 := rfl
theorem zTx_g1 {a0 : Value} {a1 : Value} : ([a0, a1])[1]? = some a1 := rfl
theorem zTx_l2 {a0 : Value} {a1 : List UInt8} (ha1 : a1.length = 32) {a2 : Value} {a3 : Value} : List.length (([a0] : List Value) ++ (cBs a1 ++ ([a2, a3] : List Value))) = 35 := (len_app (m := 1) (n := 34) (k := 35) rfl (len_app (m := 32) (n := 2) (k := 34) (cBs_len ha1) rfl rfl) rfl)
theorem zTx_o3 {a0 : Value} {a1 : List UInt8} {a2 : Value} {a3 : Value} (qa0 : a0.oneCell' = true) (qa2 : a2.oneCell' = true) (qa3 : a3.oneCell' = true) : ∀ u ∈ (([a0] : List Value) ++ (cBs a1 ++ ([a2, a3] : List Value))), u.oneCell' = true := (ones_app (ones_cons qa0 ones_nil) (ones_app (cBs_one _) (ones_cons qa2 (ones_cons qa3 ones_nil))))
theorem zTx_g4 {a0 : Value} {a1 : List UInt8} (_ : a1.length = 32) {a2 : Value} {a3 : Value} : (([a0] : List Value) ++ (cBs a1 ++ ([a2, a3] : List Value)))[0]? = some a0 := (show (([a0] : List Value) ++ (cBs a1 ++ ([a2, a3] : List Value)))[0]? = some (a0) from (get_l (C := cBs a1 ++ ([a2, a3] : List Value)) (show ([a0] : List Value)[0]? = some (a0) from rfl)))
theorem zTx_p5 {a0 : Value} {a1 : List UInt8} (ha1 : a1.length = 32) {a2 : Value} {a3 : Value} : List.take 32 (List.drop 1 (([a0] : List Value) ++ (cBs a1 ++ ([a2, a3] : List Value)))) = cBs a1 := (show List.take 32 (List.drop 1 ([a0] ++ ((cBs a1) ++ ([a2, a3])))) = cBs a1 from part_app (show List.length [a0] = 1 from rfl) (cBs_len ha1))
theorem zTx_g6 {a0 : Value} {a1 : List UInt8} (ha1 : a1.length = 32) {a2 : Value} {a3 : Value} : (([a0] : List Value) ++ (cBs a1 ++ ([a2, a3] : List Value)))[33]? = some a2 := (get_of (cs := ([a0] : List Value) ++ (cBs a1 ++ ([a2, a3] : List Value))) (A := (([a0] : List Value) ++ cBs a1 : List Value)) (D := ([a2, a3] : List Value)) (C := ([] : List Value)) (o := 33) (j := 0) (by simp) (len_app (m := 1) (n := 32) (k := 33) rfl (cBs_len ha1) rfl) rfl (show ([a2, a3] : List Value)[0]? = some (a2) from rfl))
theorem zTx_g7 {a0 : Value} {a1 : List UInt8} (ha1 : a1.length = 32) {a2 : Value} {a3 : Value} : (([a0] : List Value) ++ (cBs a1 ++ ([a2, a3] : List Value)))[34]? = some a3 := (get_of (cs := ([a0] : List Value) ++ (cBs a1 ++ ([a2, a3] : List Value))) (A := (([a0] : List Value) ++ cBs a1 : List Value)) (D := ([a2, a3] : List Value)) (C := ([] : List Value)) (o := 33) (j := 1) (by simp) (len_app (m := 1) (n := 32) (k := 33) rfl (cBs_len ha1) rfl) rfl (show ([a2, a3] : List Value)[1]? = some (a3) from rfl))
theorem zTx_g8 {a0 : Value} {a1 : Value} {a2 : Value} {a3 : Value} {a4 : Value} {a5 : Value} {a6 : List UInt8} (_ : a6.length = 32) {a7 : Value} {a8 : Value} : (([a0, a1, a2, a3, a4, a5] : List Value) ++ (cBs a6 ++ ([a7, a8] : List Value)))[0]? = some a0 := (show (([a0, a1, a2, a3, a4, a5] : List Value) ++ (cBs a6 ++ ([a7, a8] : List Value)))[0]? = some (a0) from (get_l (C := cBs a6 ++ ([a7, a8] : List Value)) (show ([a0, a1, a2, a3, a4, a5] : List Value)[0]? = some (a0) from rfl)))
theorem zTx_l9 {a0 : List UInt8} (ha0 : a0.length = 32) {a1 : Value} {a2 : Value} {a3 : Value} : List.length (cBs a0 ++ ([a1, a2, a3] : List Value)) = 35 := (len_app (m := 32) (n := 3) (k := 35) (cBs_len ha0) rfl rfl)
theorem zTx_o10 {a0 : List UInt8} {a1 : Value} {a2 : Value} {a3 : Value} (qa1 : a1.oneCell' = true) (qa2 : a2.oneCell' = true) (qa3 : a3.oneCell' = true) : ∀ u ∈ (cBs a0 ++ ([a1, a2, a3] : List Value)), u.oneCell' = true := (ones_app (cBs_one _) (ones_cons qa1 (ones_cons qa2 (ones_cons qa3 ones_nil))))
theorem zTx_p11 {a0 : List UInt8} (ha0 : a0.length = 32) {a1 : Value} {a2 : Value} {a3 : Value} : List.take 32 (List.drop 0 (cBs a0 ++ ([a1, a2, a3] : List Value))) = cBs a0 := (show List.take 32 (List.drop 0 ([] ++ ((cBs a0) ++ ([a1, a2, a3])))) = cBs a0 from part_app (show List.length ([] : List Value) = 0 from rfl) (cBs_len ha0))
theorem zTx_g12 {a0 : List UInt8} (ha0 : a0.length = 32) {a1 : Value} {a2 : Value} {a3 : Value} : (cBs a0 ++ ([a1, a2, a3] : List Value))[32]? = some a1 := (show (cBs a0 ++ ([a1, a2, a3]))[32]? = some (a1) from get_r (n := 32) (j := 0) rfl (cBs_len ha0) rfl)
theorem zTx_g13 {a0 : List UInt8} (ha0 : a0.length = 32) {a1 : Value} {a2 : Value} {a3 : Value} : (cBs a0 ++ ([a1, a2, a3] : List Value))[33]? = some a2 := (show (cBs a0 ++ ([a1, a2, a3]))[33]? = some (a2) from get_r (n := 32) (j := 1) rfl (cBs_len ha0) rfl)
theorem zTx_g14 {a0 : Value} {a1 : Value} {a2 : Value} {a3 : Value} {a4 : Value} {a5 : Value} {a6 : List UInt8} (_ : a6.length = 32) {a7 : Value} {a8 : Value} : (([a0, a1, a2, a3, a4, a5] : List Value) ++ (cBs a6 ++ ([a7, a8] : List Value)))[1]? = some a1 := (show (([a0, a1, a2, a3, a4, a5] : List Value) ++ (cBs a6 ++ ([a7, a8] : List Value)))[1]? = some (a1) from (get_l (C := cBs a6 ++ ([a7, a8] : List Value)) (show ([a0, a1, a2, a3, a4, a5] : List Value)[1]? = some (a1) from rfl)))
theorem zTx_l15 {a0 : Value} {a1 : Value} : List.length ([a0, a1]) = 2 := (show List.length [a0, a1] = 2 from rfl)
theorem zTx_o16 {a0 : Value} {a1 : Value} (qa0 : a0.oneCell' = true) (qa1 : a1.oneCell' = true) : ∀ u ∈ ([a0, a1]), u.oneCell' = true := (ones_cons qa0 (ones_cons qa1 ones_nil))
theorem zTx_l17 {a0 : Value} {a1 : Value} {a2 : Value} {a3 : Value} {a4 : List UInt8} (ha4 : a4.length = 32) {a5 : Value} : List.length (([a0, a1, a2, a3] : List Value) ++ (cBs a4 ++ ([a5] : List Value))) = 37 := (len_app (m := 4) (n := 33) (k := 37) rfl (len_app (m := 32) (n := 1) (k := 33) (cBs_len ha4) rfl rfl) rfl)
theorem zTx_p18 {a0 : Value} {a1 : Value} {a2 : Value} {a3 : Value} {a4 : Value} {a5 : Value} {a6 : List UInt8} (ha6 : a6.length = 32) {a7 : Value} {a8 : Value} : List.take 37 (List.drop 2 (([a0, a1, a2, a3, a4, a5] : List Value) ++ (cBs a6 ++ ([a7, a8] : List Value)))) = ([a2, a3, a4, a5] : List Value) ++ (cBs a6 ++ ([a7] : List Value)) := (part_of (cs := ([a0, a1, a2, a3, a4, a5] : List Value) ++ (cBs a6 ++ ([a7, a8] : List Value))) (A := ([a0, a1] : List Value)) (D := (([a2, a3, a4, a5] : List Value) ++ (cBs a6 ++ ([a7] : List Value)) : List Value)) (C := ([a8] : List Value)) (by simp) (show List.length [a0, a1] = 2 from rfl) (len_app (m := 4) (n := 33) (k := 37) rfl (len_app (m := 32) (n := 1) (k := 33) (cBs_len ha6) rfl rfl) rfl))
theorem zTx_o19 {a0 : Value} {a1 : Value} {a2 : Value} {a3 : Value} {a4 : List UInt8} {a5 : Value} (qa0 : a0.oneCell' = true) (qa1 : a1.oneCell' = true) (qa2 : a2.oneCell' = true) (qa3 : a3.oneCell' = true) (qa5 : a5.oneCell' = true) : ∀ u ∈ (([a0, a1, a2, a3] : List Value) ++ (cBs a4 ++ ([a5] : List Value))), u.oneCell' = true := (ones_app (ones_cons qa0 (ones_cons qa1 (ones_cons qa2 (ones_cons qa3 ones_nil)))) (ones_app (cBs_one _) (ones_cons qa5 ones_nil)))
theorem zTx_g20 {a0 : Value} {a1 : Value} {a2 : Value} {a3 : Value} {a4 : List UInt8} (_ : a4.length = 32) {a5 : Value} : (([a0, a1, a2, a3] : List Value) ++ (cBs a4 ++ ([a5] : List Value)))[0]? = some a0 := (show (([a0, a1, a2, a3] : List Value) ++ (cBs a4 ++ ([a5] : List Value)))[0]? = some (a0) from (get_l (C := cBs a4 ++ ([a5] : List Value)) (show ([a0, a1, a2, a3] : List Value)[0]? = some (a0) from rfl)))
theorem zTx_g21 {a0 : Value} {a1 : Value} {a2 : Value} {a3 : Value} {a4 : List UInt8} (_ : a4.length = 32) {a5 : Value} : (([a0, a1, a2, a3] : List Value) ++ (cBs a4 ++ ([a5] : List Value)))[1]? = some a1 := (show (([a0, a1, a2, a3] : List Value) ++ (cBs a4 ++ ([a5] : List Value)))[1]? = some (a1) from (get_l (C := cBs a4 ++ ([a5] : List Value)) (show ([a0, a1, a2, a3] : List Value)[1]? = some (a1) from rfl)))
theorem zTx_g22 {a0 : Value} {a1 : Value} {a2 : Value} {a3 : Value} {a4 : List UInt8} (_ : a4.length = 32) {a5 : Value} : (([a0, a1, a2, a3] : List Value) ++ (cBs a4 ++ ([a5] : List Value)))[2]? = some a2 := (show (([a0, a1, a2, a3] : List Value) ++ (cBs a4 ++ ([a5] : List Value)))[2]? = some (a2) from (get_l (C := cBs a4 ++ ([a5] : List Value)) (show ([a0, a1, a2, a3] : List Value)[2]? = some (a2) from rfl)))
theorem zTx_g23 {a0 : Value} {a1 : Value} {a2 : Value} {a3 : Value} {a4 : List UInt8} (_ : a4.length = 32) {a5 : Value} : (([a0, a1, a2, a3] : List Value) ++ (cBs a4 ++ ([a5] : List Value)))[3]? = some a3 := (show (([a0, a1, a2, a3] : List Value) ++ (cBs a4 ++ ([a5] : List Value)))[3]? = some (a3) from (get_l (C := cBs a4 ++ ([a5] : List Value)) (show ([a0, a1, a2, a3] : List Value)[3]? = some (a3) from rfl)))
theorem zTx_p24 {a0 : Value} {a1 : Value} {a2 : Value} {a3 : Value} {a4 : List UInt8} (ha4 : a4.length = 32) {a5 : Value} : List.take 32 (List.drop 4 (([a0, a1, a2, a3] : List Value) ++ (cBs a4 ++ ([a5] : List Value)))) = cBs a4 := (show List.take 32 (List.drop 4 ([a0, a1, a2, a3] ++ ((cBs a4) ++ ([a5])))) = cBs a4 from part_app (show List.length [a0, a1, a2, a3] = 4 from rfl) (cBs_len ha4))
theorem zTx_g25 {a0 : Value} {a1 : Value} {a2 : Value} {a3 : Value} {a4 : List UInt8} (ha4 : a4.length = 32) {a5 : Value} : (([a0, a1, a2, a3] : List Value) ++ (cBs a4 ++ ([a5] : List Value)))[36]? = some a5 := (get_of (cs := ([a0, a1, a2, a3] : List Value) ++ (cBs a4 ++ ([a5] : List Value))) (A := (([a0, a1, a2, a3] : List Value) ++ cBs a4 : List Value)) (D := ([a5] : List Value)) (C := ([] : List Value)) (o := 36) (j := 0) (by simp) (len_app (m := 4) (n := 32) (k := 36) rfl (cBs_len ha4) rfl) rfl (show ([a5] : List Value)[0]? = some (a5) from rfl))
theorem zTx_l26 {a0 : Value} {a1 : Value} {a2 : Value} {a3 : Value} {a4 : Value} {a5 : Value} {a6 : List UInt8} (ha6 : a6.length = 32) {a7 : Value} {a8 : Value} : List.length (([a0, a1, a2, a3, a4, a5] : List Value) ++ (cBs a6 ++ ([a7, a8] : List Value))) = 40 := (len_app (m := 6) (n := 34) (k := 40) rfl (len_app (m := 32) (n := 2) (k := 34) (cBs_len ha6) rfl rfl) rfl)
set_option maxRecDepth 100000 in
set_option maxHeartbeats 4000000 in
theorem lockPut_calls {g : Nat} {v : Value} (l0 : List UInt8) (hl0 : l0.length ≤ 90000000) (o : OutG) (hs : smO o) (w : World) (ho : StOut (newK w (holdK g v)) w o) (hp0 : PenAt w g v l0) :
    Calls Try.prog 82 #[.pointer (some ⟨g, 0, none⟩), .agg #[.int .i64 o.am, o.v.1]] w fun e'' w' => e'' = .returned (.tuple #[]) ∧ PenPost w w' g v (l0 ++ outB o) := by
  refine calls_fr (args := [.pointer (some ⟨g, 0, none⟩), .agg #[.int .i64 o.am, o.v.1]]) (n := 42) Try.func82 rfl rfl (show 2 ≤ 42 by decide) ?_
  have hs1 := hs.1
  have hs2 := hs.2
  have hH : Heap (newK w (holdK g v)) w w [oPen g v l0] := Heap.startPen hp0
  refine wp_seq ?_
  refine wp_gen (fun F' => F' 0 = .pointer (some ⟨g, 0, none⟩) ∧ F' 1 = .agg #[.int .i64 o.am, o.v.1]) ⟨rfl, rfl⟩ ?_
  rintro F ⟨e0, e1⟩
  refine wp_regionF ?_
  refine lf_ex (wantAll rfl) (hx_box hH 133 (cs := [.int .i64 o.am, o.v.1]) rfl (fr_eval rfl e1) (by rfl)) ?_
  clear hH
  rintro _ w1 ⟨g1, rfl, hH, hx⟩
  replace hH : Heap _ _ _ [_, _] := hH
  clear hx
  refine lf_nil ?_
  refine then_n ?_
  refine wp_seq ?_
  refine wp_gen (fun F' => F' 0 = .pointer (some ⟨g, 0, none⟩) ∧ F' 1 = .agg #[.int .i64 o.am, o.v.1] ∧ F' 3 = .pointer (some ⟨g1, 0, none⟩)) ⟨e0, e1, rfl⟩ ?_
  clear e0 e1
  clear F
  rintro F ⟨e0, e1, e3⟩
  refine wp_regionF ?_
  refine lf_val (v := .pointer (some ⟨g, 0, none⟩)) (wantAll rfl) (rv_move rfl (fr_eval rfl e0)) ?_
  refine lf_val (v := .pointer (some ⟨g1, 0, none⟩)) (wantAll rfl) (rv_fieldAddr (n := 0) rfl (fr_eval rfl e3) Try.underlying133 rfl rfl (by kernel_rfl)) ?_
  refine lf_val (v := .int .i64 o.am) (wantAll rfl) (rv_load1 rfl (hH.blk (i := 1) rfl) zTx_g0 (fr_eval rfl rfl) Try.underlying2 rfl Try.sz2) ?_
  refine lf_val (v := .pointer (some ⟨g1, 1, none⟩)) (wantAll rfl) (rv_fieldAddr (n := 0) rfl (fr_eval rfl e3) Try.underlying133 rfl rfl (by kernel_rfl)) ?_
  refine lf_val (v := o.v.1) (wantAll rfl) (rv_load1 rfl (hH.blk (i := 1) rfl) zTx_g1 (fr_eval rfl rfl) Try.underlying131 rfl Try.sz131) ?_
  refine lf_val (v := .int .i64 ((o.ws.length : Nat) : Int)) (wantAll rfl) (rv_len rfl (fr_eval rfl rfl) ((ho.ws).rd _ hH.chg) Try.underlying131) ?_
  refine lf_ex (wantAll rfl) (hx_lits hH Try.stInt (n := 2) (nm := List.length [o.am, ((o.ws.length : Nat) : Int)]) [(.tmp 8), (.tmp 11)] (vs := [(.int .i64 o.am), (.int .i64 ((o.ws.length : Nat) : Int))]) (cs := List.flatMap cI [o.am, ((o.ws.length : Nat) : Int)]) rfl (evc (fr_eval rfl rfl) (evc (fr_eval rfl rfl) evn)) (row_one (l := [o.am, ((o.ws.length : Nat) : Int)]) cI_one) rfl (by decide) rfl rfl) ?_
  clear hH
  rintro y1 w2 ⟨hH, hx⟩
  replace hH : Heap _ _ _ [_, _, _] := hH
  clear hx
  refine lf_call (wantAll rfl) (rv_call (args := [.pointer (some ⟨g, 0, none⟩), y1]) rfl (evc (fr_eval rfl rfl) (evc (fr_eval rfl rfl) evn)) Try.call41) (penNums_calls (in2J ho.i1 (lenJ (by omega))) _ (Own.rd (hH.own (i := 2) rfl) (row_one cI_one)) (fun k hk h0 e => apart_at hH.apart (i := 2) (j := 0) rfl rfl (by decide) k hk (Or.inl e)) (fun k hk h0 h => apart_at hH.apart (i := 2) (j := 0) rfl rfl (by decide) k hk (Or.inr h)) (hH.pen (i := 0) rfl) (by (first | omega | (simp only [List.length_append] at *; omega) | (simp only [List.length_append, List.length_cons, List.length_nil] at *; omega)))) ?_
  rintro _ w3 ⟨rfl, hp⟩
  refine ⟨_, rfl, ?_⟩
  obtain ⟨y2, hH', hx, hxf, hgr⟩ := hH.penPost (i := 0) (l2 := l0 ++ puts [o.am, ((o.ws.length : Nat) : Int)]) rfl (fun _ => rfl) hp
  clear hH hp
  have hH : Heap _ _ _ [_, _, _] := hH'
  clear hH'
  clear hxf hgr hx
  refine lf_nil ?_
  refine then_n ?_
  refine wp_seq ?_
  replace hH : Heap _ _ _ [_, _] := hH.drop (.cons_cons _ (.cons_cons _ (.cons _ .slnil)))
  refine wp_gen (fun F' => F' 0 = .pointer (some ⟨g, 0, none⟩) ∧ F' 1 = .agg #[.int .i64 o.am, o.v.1] ∧ F' 3 = .pointer (some ⟨g1, 0, none⟩)) ⟨e0, e1, e3⟩ ?_
  clear e0 e1 e3
  clear F
  rintro F ⟨e0, e1, e3⟩
  refine wp_regionF ?_
  refine lf_val (v := .pointer (some ⟨g1, 1, none⟩)) (wantAll rfl) (rv_fieldAddr (n := 0) rfl (fr_eval rfl e3) Try.underlying133 rfl rfl (by kernel_rfl)) ?_
  refine lf_val (v := o.v.1) (wantAll rfl) (rv_load1 rfl (hH.blk (i := 1) rfl) zTx_g1 (fr_eval rfl rfl) Try.underlying131 rfl Try.sz131) ?_
  refine lf_val (v := .int .i64 ((o.ws.length : Nat) : Int)) (wantAll rfl) (rv_len rfl (fr_eval rfl rfl) ((ho.ws).rd _ hH.chg) Try.underlying131) ?_
  refine lf_val (v := .int .i64 0) (wantAll rfl) (rv_move rfl rfl) ?_
  refine lf_nil ?_
  refine then_n ?_
  refine wp_block ?_
  rw [show l0 ++ puts [o.am, ((o.ws.length : Nat) : Int)] = l0 ++ puts [o.am, ((o.ws.length : Nat) : Int)] ++ List.flatMap wayB (List.take 0 o.ws) from (by simp)] at hH
  refine wp_gen (fun F' => F' 0 = .pointer (some ⟨g, 0, none⟩) ∧ F' 1 = .agg #[.int .i64 o.am, o.v.1] ∧ F' 3 = .pointer (some ⟨g1, 0, none⟩) ∧ F' 15 = o.v.1 ∧ F' 16 = .int .i64 ((o.ws.length : Nat) : Int) ∧ F' 17 = .int .i64 0) ⟨e0, e1, e3, rfl, rfl, rfl⟩ ?_
  clear e0 e1 e3
  clear F
  rintro F ⟨e0, e1, e3, e15, e16, e17⟩
  refine wp_loopF (fun m F wr => ∃ j : Nat, ∃ yp : Value, m = o.ws.length - j ∧ j ≤ o.ws.length ∧ F 0 = .pointer (some ⟨g, 0, none⟩) ∧ F 1 = .agg #[.int .i64 o.am, o.v.1] ∧ F 3 = .pointer (some ⟨g1, 0, none⟩) ∧ F 15 = o.v.1 ∧ F 16 = .int .i64 ((o.ws.length : Nat) : Int) ∧ F 17 = .int .i64 ((j : Nat) : Int) ∧ Heap (newK w (holdK g v)) w wr [oPen g yp (l0 ++ puts [o.am, ((o.ws.length : Nat) : Int)] ++ List.flatMap wayB (List.take j o.ws)), oBlk g1 ([.int .i64 o.am, o.v.1]) 133]) ⟨0, _, rfl, Nat.zero_le _, e0, e1, e3, e15, e16, e17, hH⟩ ?_
  clear e0 e1 e3 e15 e16 e17 hH
  clear F
  rintro m F w4 ⟨j, yp, rfl, pj0, e0, e1, e3, e15, e16, e17, hH⟩
  have qj := ways_len hs j
  have qp := puts_len [o.am, ((o.ws.length : Nat) : Int)]
  refine wp_seq ?_
  refine wp_regionF ?_
  refine lf_val (v := .bool (decide (j < o.ws.length))) (wantAll rfl) (rv_lssP (p := j < o.ws.length) rfl (fr_eval rfl e17) (fr_eval rfl e16) (by omega)) ?_
  refine lf_nil ?_
  refine then_n ?_
  refine wp_seq ?_
  refine wp_gen (fun F' => F' 0 = .pointer (some ⟨g, 0, none⟩) ∧ F' 1 = .agg #[.int .i64 o.am, o.v.1] ∧ F' 3 = .pointer (some ⟨g1, 0, none⟩) ∧ F' 15 = o.v.1 ∧ F' 16 = .int .i64 ((o.ws.length : Nat) : Int) ∧ F' 17 = .int .i64 ((j : Nat) : Int) ∧ F' 18 = .bool (decide (j < o.ws.length))) ⟨e0, e1, e3, e15, e16, e17, rfl⟩ ?_
  clear e0 e1 e3 e15 e16 e17
  clear F
  rintro F ⟨e0, e1, e3, e15, e16, e17, e18⟩
  by_cases hc1 : j < o.ws.length
  · refine wp_cond_true (fr_eval rfl (e18.trans (congrArg Value.bool (decide_eq_true hc1)))) ?_
    refine wp_skip ?_
    refine then_n ?_
    refine wp_seq ?_
    refine wp_block ?_
    refine wp_seq ?_
    refine wp_regionF ?_
    refine lf_val (v := .pointer (some (elemA o.v.1 (j * 35)))) (wantAll rfl) (rv_index rfl (fr_eval rfl e15) (fr_eval rfl e17) (rdN ((ho.ws).rd _ hH.chg) rfl) (show j < o.ws.length from (by omega)) Try.underlying131 Try.sz135 (by decide)) ?_
    refine lf_val (wantAll rfl) (rv_loadElem rfl (fr_eval rfl rfl) (rdN ((ho.ws).rd _ hH.chg) rfl) (show j < o.ws.length from (by omega)) (by decide) (flat_part zWay cWay_len (show j < o.ws.length from (by omega))) Try.underlying135 rfl Try.sz135) ?_
    refine lf_ex (wantAll rfl) (hx_alloc hH 135 (z := .agg (([.slice none 0 0] : List Value) ++ (cBs (List.replicate 32 0) ++ ([.int .i64 0, .int .i64 0] : List Value))).toArray) (n := 35) (cs := ([.slice none 0 0] : List Value) ++ (cBs (List.replicate 32 0) ++ ([.int .i64 0, .int .i64 0] : List Value))) rfl (by kernel_rfl) (by rfl)) ?_
    clear hH
    rintro _ w5 ⟨g2, rfl, hH, hx⟩
    replace hH : Heap _ _ _ [_, _, _] := hH
    clear hx
    refine lf_sk (wantAll rfl) (hx_storeW hH (i := 2) (cs := ([(List.getD o.ws j zWay).v.1] : List Value) ++ (cBs ((List.getD o.ws j zWay).h.1) ++ ([.int .i64 ((List.getD o.ws j zWay).after), .int .i64 ((List.getD o.ws j zWay).wait)] : List Value))) rfl rfl rfl (fr_eval rfl rfl) (fr_eval rfl rfl) (sz_len Try.sz135 (zTx_l2 ((List.getD o.ws j zWay).h.2))) (((zTx_l2 (List.length_replicate ..))).trans ((zTx_l2 ((List.getD o.ws j zWay).h.2))).symm) (zTx_o3 (Rd.oneV (((ho.each _ (getD_memX (by omega))).ks).rd _ hH.chg)) rfl rfl)) ?_
    clear hH
    rintro w6 ⟨hH, hx⟩
    replace hH : Heap _ _ _ [_, _, _] := hH
    clear hx
    refine lf_nil ?_
    refine then_n ?_
    refine wp_seq ?_
    refine wp_gen (fun F' => F' 0 = .pointer (some ⟨g, 0, none⟩) ∧ F' 1 = .agg #[.int .i64 o.am, o.v.1] ∧ F' 3 = .pointer (some ⟨g1, 0, none⟩) ∧ F' 5 = .pointer (some ⟨g2, 0, none⟩) ∧ F' 15 = o.v.1 ∧ F' 16 = .int .i64 ((o.ws.length : Nat) : Int) ∧ F' 17 = .int .i64 ((j : Nat) : Int) ∧ F' 18 = .bool true) ⟨e0, e1, e3, rfl, e15, e16, e17, (e18.trans (congrArg Value.bool (decide_eq_true hc1)))⟩ ?_
    clear e0 e1 e3 e15 e16 e17 e18
    clear F
    rintro F ⟨e0, e1, e3, e5, e15, e16, e17, e18⟩
    have qk : (List.getD o.ws j zWay).ks.length ≤ 20 := hs2 _ (getD_memX (by omega))
    have qn := put_len (((List.getD o.ws j zWay).ks.length : Nat) : Int)
    have qm := puts_len (List.getD o.ws j zWay).ks
    have qh := (List.getD o.ws j zWay).h.2
    refine wp_regionF ?_
    refine lf_val (v := .pointer (some ⟨g, 0, none⟩)) (wantAll rfl) (rv_move rfl (fr_eval rfl e0)) ?_
    refine lf_val (v := .pointer (some ⟨g2, 0, none⟩)) (wantAll rfl) (rv_fieldAddr (n := 0) rfl (fr_eval rfl e5) Try.underlying135 rfl rfl (by kernel_rfl)) ?_
    refine lf_val (v := (List.getD o.ws j zWay).v.1) (wantAll rfl) (rv_load1 rfl (hH.blk (i := 2) rfl) (zTx_g4 ((List.getD o.ws j zWay).h.2)) (fr_eval rfl rfl) Try.underlying109 rfl Try.sz109) ?_
    refine lf_val (v := .int .i64 ((((List.getD o.ws j zWay).ks).length : Nat) : Int)) (wantAll rfl) (rv_len rfl (fr_eval rfl rfl) (((ho.each _ (getD_memX (by omega))).ks).rd _ hH.chg) Try.underlying109) ?_
    refine lf_call (wantAll rfl) (rv_call (args := [.pointer (some ⟨g, 0, none⟩), .int .i64 ((((List.getD o.ws j zWay).ks).length : Nat) : Int)]) rfl (evc (fr_eval rfl rfl) (evc (fr_eval rfl rfl) evn)) Try.call65) (penNum_calls ((((List.getD o.ws j zWay).ks).length : Nat) : Int) (by omega) _ (hH.pen (i := 0) rfl) (by (first | omega | (simp only [List.length_append] at *; omega) | (simp only [List.length_append, List.length_cons, List.length_nil] at *; omega)))) ?_
    rintro _ w7 ⟨rfl, hp⟩
    refine ⟨_, rfl, ?_⟩
    obtain ⟨y3, hH', hx, hxf, hgr⟩ := hH.penPost (i := 0) (l2 := l0 ++ puts [o.am, ((o.ws.length : Nat) : Int)] ++ List.flatMap wayB (List.take j o.ws) ++ put ((((List.getD o.ws j zWay).ks).length : Nat) : Int)) rfl (fun _ => rfl) hp
    clear hH hp
    have hH : Heap _ _ _ [_, _, _] := hH'
    clear hH'
    clear hxf hgr hx
    refine lf_nil ?_
    refine then_n ?_
    refine wp_seq ?_
    refine wp_gen (fun F' => F' 0 = .pointer (some ⟨g, 0, none⟩) ∧ F' 1 = .agg #[.int .i64 o.am, o.v.1] ∧ F' 3 = .pointer (some ⟨g1, 0, none⟩) ∧ F' 5 = .pointer (some ⟨g2, 0, none⟩) ∧ F' 15 = o.v.1 ∧ F' 16 = .int .i64 ((o.ws.length : Nat) : Int) ∧ F' 17 = .int .i64 ((j : Nat) : Int) ∧ F' 18 = .bool true) ⟨e0, e1, e3, e5, e15, e16, e17, e18⟩ ?_
    clear e0 e1 e3 e5 e15 e16 e17 e18
    clear F
    rintro F ⟨e0, e1, e3, e5, e15, e16, e17, e18⟩
    refine wp_regionF ?_
    refine lf_val (v := .pointer (some ⟨g, 0, none⟩)) (wantAll rfl) (rv_move rfl (fr_eval rfl e0)) ?_
    refine lf_val (v := .pointer (some ⟨g2, 0, none⟩)) (wantAll rfl) (rv_fieldAddr (n := 0) rfl (fr_eval rfl e5) Try.underlying135 rfl rfl (by kernel_rfl)) ?_
    refine lf_val (v := (List.getD o.ws j zWay).v.1) (wantAll rfl) (rv_load1 rfl (hH.blk (i := 2) rfl) (zTx_g4 ((List.getD o.ws j zWay).h.2)) (fr_eval rfl rfl) Try.underlying109 rfl Try.sz109) ?_
    refine lf_call (wantAll rfl) (rv_call (args := [.pointer (some ⟨g, 0, none⟩), (List.getD o.ws j zWay).v.1]) rfl (evc (fr_eval rfl rfl) (evc (fr_eval rfl rfl) evn)) Try.call41) (penNums_calls (getD_in (ho.each _ (getD_memX (by omega))).ik) _ (((ho.each _ (getD_memX (by omega))).ks).rd _ hH.chg) (fun k hk h0 e => ((ho.each _ (getD_memX (by omega))).ks).out _ hk h0 ((hH.one (i := 0) rfl).sub k (Or.inl e))) (fun k hk h0 h => ((ho.each _ (getD_memX (by omega))).ks).out _ hk h0 ((hH.one (i := 0) rfl).sub k (Or.inr h))) (hH.pen (i := 0) rfl) (by (first | omega | (simp only [List.length_append] at *; omega) | (simp only [List.length_append, List.length_cons, List.length_nil] at *; omega)))) ?_
    rintro _ w8 ⟨rfl, hp⟩
    refine ⟨_, rfl, ?_⟩
    obtain ⟨y4, hH', hx, hxf, hgr⟩ := hH.penPost (i := 0) (l2 := l0 ++ puts [o.am, ((o.ws.length : Nat) : Int)] ++ List.flatMap wayB (List.take j o.ws) ++ put ((((List.getD o.ws j zWay).ks).length : Nat) : Int) ++ puts ((List.getD o.ws j zWay).ks)) rfl (fun _ => rfl) hp
    clear hH hp
    have hH : Heap _ _ _ [_, _, _] := hH'
    clear hH'
    clear hxf hgr hx
    refine lf_nil ?_
    refine then_n ?_
    refine wp_seq ?_
    refine wp_gen (fun F' => F' 0 = .pointer (some ⟨g, 0, none⟩) ∧ F' 1 = .agg #[.int .i64 o.am, o.v.1] ∧ F' 3 = .pointer (some ⟨g1, 0, none⟩) ∧ F' 5 = .pointer (some ⟨g2, 0, none⟩) ∧ F' 15 = o.v.1 ∧ F' 16 = .int .i64 ((o.ws.length : Nat) : Int) ∧ F' 17 = .int .i64 ((j : Nat) : Int) ∧ F' 18 = .bool true) ⟨e0, e1, e3, e5, e15, e16, e17, e18⟩ ?_
    clear e0 e1 e3 e5 e15 e16 e17 e18
    clear F
    rintro F ⟨e0, e1, e3, e5, e15, e16, e17, e18⟩
    refine wp_regionF ?_
    refine lf_val (v := .pointer (some ⟨g, 0, none⟩)) (wantAll rfl) (rv_move rfl (fr_eval rfl e0)) ?_
    refine lf_val (v := .pointer (some ⟨g2, 1, none⟩)) (wantAll rfl) (rv_fieldAddr (n := 31) rfl (fr_eval rfl e5) Try.underlying135 rfl rfl (by kernel_rfl)) ?_
    refine lf_val (wantAll rfl) (rv_loadP rfl (hH.blk (i := 2) rfl) (zTx_p5 ((List.getD o.ws j zWay).h.2)) (cBs_len (List.getD o.ws j zWay).h.2) (fr_eval rfl rfl) Try.underlying23 rfl Try.sz23) ?_
    refine lf_call (wantAll rfl) (rv_call (args := [.pointer (some ⟨g, 0, none⟩), .agg (cBs ((List.getD o.ws j zWay).h.1)).toArray]) rfl (evc (fr_eval rfl rfl) (evc (fr_eval rfl rfl) evn)) Try.call42) (penSum_calls ((List.getD o.ws j zWay).h.1) ((List.getD o.ws j zWay).h.2) _ (hH.pen (i := 0) rfl) (by (first | omega | (simp only [List.length_append] at *; omega) | (simp only [List.length_append, List.length_cons, List.length_nil] at *; omega)))) ?_
    rintro _ w9 ⟨rfl, hp⟩
    refine ⟨_, rfl, ?_⟩
    obtain ⟨y5, hH', hx, hxf, hgr⟩ := hH.penPost (i := 0) (l2 := l0 ++ puts [o.am, ((o.ws.length : Nat) : Int)] ++ List.flatMap wayB (List.take j o.ws) ++ put ((((List.getD o.ws j zWay).ks).length : Nat) : Int) ++ puts ((List.getD o.ws j zWay).ks) ++ ((List.getD o.ws j zWay).h.1)) rfl (fun _ => rfl) hp
    clear hH hp
    have hH : Heap _ _ _ [_, _, _] := hH'
    clear hH'
    clear hxf hgr hx
    refine lf_nil ?_
    refine then_n ?_
    refine wp_gen (fun F' => F' 0 = .pointer (some ⟨g, 0, none⟩) ∧ F' 1 = .agg #[.int .i64 o.am, o.v.1] ∧ F' 3 = .pointer (some ⟨g1, 0, none⟩) ∧ F' 5 = .pointer (some ⟨g2, 0, none⟩) ∧ F' 15 = o.v.1 ∧ F' 16 = .int .i64 ((o.ws.length : Nat) : Int) ∧ F' 17 = .int .i64 ((j : Nat) : Int) ∧ F' 18 = .bool true) ⟨e0, e1, e3, e5, e15, e16, e17, e18⟩ ?_
    clear e0 e1 e3 e5 e15 e16 e17 e18
    clear F
    rintro F ⟨e0, e1, e3, e5, e15, e16, e17, e18⟩
    refine wp_regionF ?_
    refine lf_val (v := .pointer (some ⟨g, 0, none⟩)) (wantAll rfl) (rv_move rfl (fr_eval rfl e0)) ?_
    refine lf_val (v := .pointer (some ⟨g2, 33, none⟩)) (wantAll rfl) (rv_fieldAddr (n := 0) rfl (fr_eval rfl e5) Try.underlying135 rfl rfl (by kernel_rfl)) ?_
    refine lf_val (wantAll rfl) (rv_load1 rfl (hH.blk (i := 2) rfl) (zTx_g6 ((List.getD o.ws j zWay).h.2)) (fr_eval rfl rfl) Try.underlying3 rfl Try.sz3) ?_
    refine lf_val (v := .pointer (some ⟨g2, 34, none⟩)) (wantAll rfl) (rv_fieldAddr (n := 0) rfl (fr_eval rfl e5) Try.underlying135 rfl rfl (by kernel_rfl)) ?_
    refine lf_val (v := .int .i64 ((List.getD o.ws j zWay).wait)) (wantAll rfl) (rv_load1 rfl (hH.blk (i := 2) rfl) (zTx_g7 ((List.getD o.ws j zWay).h.2)) (fr_eval rfl rfl) Try.underlying3 rfl Try.sz3) ?_
    refine lf_ex (wantAll rfl) (hx_lits hH Try.stInt (n := 2) (nm := List.length [(List.getD o.ws j zWay).after, (List.getD o.ws j zWay).wait]) [(.tmp 36), (.tmp 38)] (vs := [(.int .i64 ((List.getD o.ws j zWay).after)), (.int .i64 ((List.getD o.ws j zWay).wait))]) (cs := List.flatMap cI [(List.getD o.ws j zWay).after, (List.getD o.ws j zWay).wait]) rfl (evc (fr_eval rfl rfl) (evc (fr_eval rfl rfl) evn)) (row_one (l := [(List.getD o.ws j zWay).after, (List.getD o.ws j zWay).wait]) cI_one) rfl (by decide) rfl rfl) ?_
    clear hH
    rintro y6 w10 ⟨hH, hx⟩
    replace hH : Heap _ _ _ [_, _, _, _] := hH
    clear hx
    refine lf_call (wantAll rfl) (rv_call (args := [.pointer (some ⟨g, 0, none⟩), y6]) rfl (evc (fr_eval rfl rfl) (evc (fr_eval rfl rfl) evn)) Try.call41) (penNums_calls (in2J (ho.each _ (getD_memX (by omega))).i1 (ho.each _ (getD_memX (by omega))).i2) _ (Own.rd (hH.own (i := 3) rfl) (row_one cI_one)) (fun k hk h0 e => apart_at hH.apart (i := 3) (j := 0) rfl rfl (by decide) k hk (Or.inl e)) (fun k hk h0 h => apart_at hH.apart (i := 3) (j := 0) rfl rfl (by decide) k hk (Or.inr h)) (hH.pen (i := 0) rfl) (by (first | omega | (simp only [List.length_append] at *; omega) | (simp only [List.length_append, List.length_cons, List.length_nil] at *; omega)))) ?_
    rintro _ w11 ⟨rfl, hp⟩
    refine ⟨_, rfl, ?_⟩
    obtain ⟨y7, hH', hx, hxf, hgr⟩ := hH.penPost (i := 0) (l2 := l0 ++ puts [o.am, ((o.ws.length : Nat) : Int)] ++ List.flatMap wayB (List.take j o.ws) ++ put ((((List.getD o.ws j zWay).ks).length : Nat) : Int) ++ puts ((List.getD o.ws j zWay).ks) ++ ((List.getD o.ws j zWay).h.1) ++ puts [(List.getD o.ws j zWay).after, (List.getD o.ws j zWay).wait]) rfl (fun _ => rfl) hp
    clear hH hp
    have hH : Heap _ _ _ [_, _, _, _] := hH'
    clear hH'
    clear hxf hgr hx
    refine lf_nil ?_
    refine blk_n ?_
    refine then_n ?_
    replace hH : Heap _ _ _ [_, _, _] := hH.drop (.cons_cons _ (.cons_cons _ (.cons_cons _ (.cons _ .slnil))))
    refine wp_gen (fun F' => F' 0 = .pointer (some ⟨g, 0, none⟩) ∧ F' 1 = .agg #[.int .i64 o.am, o.v.1] ∧ F' 3 = .pointer (some ⟨g1, 0, none⟩) ∧ F' 5 = .pointer (some ⟨g2, 0, none⟩) ∧ F' 15 = o.v.1 ∧ F' 16 = .int .i64 ((o.ws.length : Nat) : Int) ∧ F' 17 = .int .i64 ((j : Nat) : Int) ∧ F' 18 = .bool true) ⟨e0, e1, e3, e5, e15, e16, e17, e18⟩ ?_
    clear e0 e1 e3 e5 e15 e16 e17 e18
    clear F
    rintro F ⟨e0, e1, e3, e5, e15, e16, e17, e18⟩
    refine wp_regionF ?_
    refine lf_val (v := .int .i64 ((j + 1 : Nat) : Int)) (wantAll rfl) (rv_add rfl (fr_eval rfl e17) rfl (wrap_i64 (by omega) (by omega) (by omega))) ?_
    refine lf_val (v := .int .i64 ((j + 1 : Nat) : Int)) (wantAll rfl) (rv_move rfl (fr_eval rfl rfl)) ?_
    refine lf_nil ?_
    refine then_n ?_
    rw [show l0 ++ puts [o.am, ((o.ws.length : Nat) : Int)] ++ List.flatMap wayB (List.take j o.ws) ++ put ((((List.getD o.ws j zWay).ks).length : Nat) : Int) ++ puts ((List.getD o.ws j zWay).ks) ++ ((List.getD o.ws j zWay).h.1) ++ puts [(List.getD o.ws j zWay).after, (List.getD o.ws j zWay).wait] = l0 ++ puts [o.am, ((o.ws.length : Nat) : Int)] ++ List.flatMap wayB (List.take (j + 1) o.ws) from (by rw [← flat_next (f := wayB) (d := zWay) (by omega : j < o.ws.length)]; simp only [wayB, List.append_assoc])] at hH
    replace hH : Heap _ _ _ [_, _] := hH.drop (.cons_cons _ (.cons_cons _ (.cons _ .slnil)))
    exact ⟨_, _, (by omega), rfl, j + 1, _, rfl, (by omega), e0, e1, e3, e15, e16, rfl, hH⟩
  · refine wp_cond_false (fr_eval rfl (e18.trans (congrArg Value.bool (decide_eq_false hc1)))) ?_
    refine wp_exit ?_
    refine then_exit ?_
    refine then_exit ?_
    refine blk_exit ?_
    exact bodyPost_end (v := .tuple #[]) (res0 rfl) rfl (⟨rfl, by have h := hH.endPen (i := 0) rfl; have e : j = o.ws.length := (by omega); rw [e, List.take_length, List.append_assoc] at h; exact h⟩)

set_option maxRecDepth 100000 in
set_option maxHeartbeats 4000000 in
theorem txBody_calls {g : Nat} {v : Value} (l0 : List UInt8) (hl0 : l0.length ≤ 1000000) (t : TxG) (hs : smT t) (w : World) (ht : StTx (newK w (holdK g v)) w t) (hp0 : PenAt w g v l0) :
    Calls Try.prog 66 #[.pointer (some ⟨g, 0, none⟩), .agg (([t.vi.1, t.vo.1, .int .i64 t.kd, .int .i64 t.tw, .int .i64 t.ch, .int .i64 t.am] : List Value) ++ (cBs t.root.1 ++ ([t.vd.1, t.vs.1] : List Value))).toArray, .bool false] w fun e'' w' => e'' = .returned (.tuple #[]) ∧ PenPost w w' g v (l0 ++ bodyB t) := by
  refine calls_fr (args := [.pointer (some ⟨g, 0, none⟩), .agg (([t.vi.1, t.vo.1, .int .i64 t.kd, .int .i64 t.tw, .int .i64 t.ch, .int .i64 t.am] : List Value) ++ (cBs t.root.1 ++ ([t.vd.1, t.vs.1] : List Value))).toArray, .bool false]) (n := 76) Try.func66 rfl rfl (show 3 ≤ 76 by decide) ?_
  obtain ⟨hs1, hs2, hs3, hs4⟩ := hs.1
  have qa := put_len ((t.ins.length : Nat) : Int)
  have qb := put_len ((t.outs.length : Nat) : Int)
  have hH : Heap (newK w (holdK g v)) w w [oPen g v l0] := Heap.startPen hp0
  refine wp_seq ?_
  refine wp_gen (fun F' => F' 0 = .pointer (some ⟨g, 0, none⟩) ∧ F' 1 = .agg (([t.vi.1, t.vo.1, .int .i64 t.kd, .int .i64 t.tw, .int .i64 t.ch, .int .i64 t.am] : List Value) ++ (cBs t.root.1 ++ ([t.vd.1, t.vs.1] : List Value))).toArray ∧ F' 2 = .bool false) ⟨rfl, rfl, rfl⟩ ?_
  rintro F ⟨e0, e1, e2⟩
  refine wp_regionF ?_
  refine lf_ex (wantAll rfl) (hx_box hH 63 (cs := ([t.vi.1, t.vo.1, .int .i64 t.kd, .int .i64 t.tw, .int .i64 t.ch, .int .i64 t.am] : List Value) ++ (cBs t.root.1 ++ ([t.vd.1, t.vs.1] : List Value))) rfl (fr_eval rfl e1) (by rfl)) ?_
  clear hH
  rintro _ w1 ⟨g1, rfl, hH, hx⟩
  replace hH : Heap _ _ _ [_, _] := hH
  clear hx
  refine lf_nil ?_
  refine then_n ?_
  refine wp_seq ?_
  refine wp_gen (fun F' => F' 0 = .pointer (some ⟨g, 0, none⟩) ∧ F' 1 = .agg (([t.vi.1, t.vo.1, .int .i64 t.kd, .int .i64 t.tw, .int .i64 t.ch, .int .i64 t.am] : List Value) ++ (cBs t.root.1 ++ ([t.vd.1, t.vs.1] : List Value))).toArray ∧ F' 2 = .bool false ∧ F' 4 = .pointer (some ⟨g1, 0, none⟩)) ⟨e0, e1, e2, rfl⟩ ?_
  clear e0 e1 e2
  clear F
  rintro F ⟨e0, e1, e2, e4⟩
  refine wp_regionF ?_
  refine lf_val (v := .pointer (some ⟨g, 0, none⟩)) (wantAll rfl) (rv_move rfl (fr_eval rfl e0)) ?_
  refine lf_val (v := .pointer (some ⟨g1, 0, none⟩)) (wantAll rfl) (rv_fieldAddr (n := 0) rfl (fr_eval rfl e4) Try.underlying63 rfl rfl (by kernel_rfl)) ?_
  refine lf_val (v := t.vi.1) (wantAll rfl) (rv_load1 rfl (hH.blk (i := 1) rfl) (zTx_g8 t.root.2) (fr_eval rfl rfl) Try.underlying56 rfl Try.sz56) ?_
  refine lf_val (v := .int .i64 ((t.ins.length : Nat) : Int)) (wantAll rfl) (rv_len rfl (fr_eval rfl rfl) ((ht.ins).rd _ hH.chg) Try.underlying56) ?_
  refine lf_call (wantAll rfl) (rv_call (args := [.pointer (some ⟨g, 0, none⟩), .int .i64 ((t.ins.length : Nat) : Int)]) rfl (evc (fr_eval rfl rfl) (evc (fr_eval rfl rfl) evn)) Try.call65) (penNum_calls ((t.ins.length : Nat) : Int) (by omega) _ (hH.pen (i := 0) rfl) (by (first | omega | (simp only [List.length_append] at *; omega) | (simp only [List.length_append, List.length_cons, List.length_nil] at *; omega)))) ?_
  rintro _ w2 ⟨rfl, hp⟩
  refine ⟨_, rfl, ?_⟩
  obtain ⟨y1, hH', hx, hxf, hgr⟩ := hH.penPost (i := 0) (l2 := l0 ++ put ((t.ins.length : Nat) : Int)) rfl (fun _ => rfl) hp
  clear hH hp
  have hH : Heap _ _ _ [_, _] := hH'
  clear hH'
  clear hxf hgr hx
  refine lf_nil ?_
  refine then_n ?_
  refine wp_seq ?_
  refine wp_seq ?_
  refine wp_gen (fun F' => F' 0 = .pointer (some ⟨g, 0, none⟩) ∧ F' 1 = .agg (([t.vi.1, t.vo.1, .int .i64 t.kd, .int .i64 t.tw, .int .i64 t.ch, .int .i64 t.am] : List Value) ++ (cBs t.root.1 ++ ([t.vd.1, t.vs.1] : List Value))).toArray ∧ F' 2 = .bool false ∧ F' 4 = .pointer (some ⟨g1, 0, none⟩)) ⟨e0, e1, e2, e4⟩ ?_
  clear e0 e1 e2 e4
  clear F
  rintro F ⟨e0, e1, e2, e4⟩
  refine wp_regionF ?_
  refine lf_val (v := .pointer (some ⟨g1, 0, none⟩)) (wantAll rfl) (rv_fieldAddr (n := 0) rfl (fr_eval rfl e4) Try.underlying63 rfl rfl (by kernel_rfl)) ?_
  refine lf_val (v := t.vi.1) (wantAll rfl) (rv_load1 rfl (hH.blk (i := 1) rfl) (zTx_g8 t.root.2) (fr_eval rfl rfl) Try.underlying56 rfl Try.sz56) ?_
  refine lf_val (v := .int .i64 ((t.ins.length : Nat) : Int)) (wantAll rfl) (rv_len rfl (fr_eval rfl rfl) ((ht.ins).rd _ hH.chg) Try.underlying56) ?_
  refine lf_val (v := .int .i64 0) (wantAll rfl) (rv_move rfl rfl) ?_
  refine lf_nil ?_
  refine then_n ?_
  refine wp_block ?_
  rw [show l0 ++ put ((t.ins.length : Nat) : Int) = l0 ++ put ((t.ins.length : Nat) : Int) ++ List.flatMap inB (List.take 0 t.ins) from (by simp)] at hH
  refine wp_gen (fun F' => F' 0 = .pointer (some ⟨g, 0, none⟩) ∧ F' 1 = .agg (([t.vi.1, t.vo.1, .int .i64 t.kd, .int .i64 t.tw, .int .i64 t.ch, .int .i64 t.am] : List Value) ++ (cBs t.root.1 ++ ([t.vd.1, t.vs.1] : List Value))).toArray ∧ F' 2 = .bool false ∧ F' 4 = .pointer (some ⟨g1, 0, none⟩) ∧ F' 17 = t.vi.1 ∧ F' 18 = .int .i64 ((t.ins.length : Nat) : Int) ∧ F' 19 = .int .i64 0) ⟨e0, e1, e2, e4, rfl, rfl, rfl⟩ ?_
  clear e0 e1 e2 e4
  clear F
  rintro F ⟨e0, e1, e2, e4, e17, e18, e19⟩
  refine wp_loopF (fun m F wr => ∃ j : Nat, ∃ yp : Value, m = t.ins.length - j ∧ j ≤ t.ins.length ∧ F 0 = .pointer (some ⟨g, 0, none⟩) ∧ F 1 = .agg (([t.vi.1, t.vo.1, .int .i64 t.kd, .int .i64 t.tw, .int .i64 t.ch, .int .i64 t.am] : List Value) ++ (cBs t.root.1 ++ ([t.vd.1, t.vs.1] : List Value))).toArray ∧ F 2 = .bool false ∧ F 4 = .pointer (some ⟨g1, 0, none⟩) ∧ F 17 = t.vi.1 ∧ F 18 = .int .i64 ((t.ins.length : Nat) : Int) ∧ F 19 = .int .i64 ((j : Nat) : Int) ∧ Heap (newK w (holdK g v)) w wr [oPen g yp (l0 ++ put ((t.ins.length : Nat) : Int) ++ List.flatMap inB (List.take j t.ins)), oBlk g1 (([t.vi.1, t.vo.1, .int .i64 t.kd, .int .i64 t.tw, .int .i64 t.ch, .int .i64 t.am] : List Value) ++ (cBs t.root.1 ++ ([t.vd.1, t.vs.1] : List Value))) 63]) ⟨0, _, rfl, Nat.zero_le _, e0, e1, e2, e4, e17, e18, e19, hH⟩ ?_
  clear e0 e1 e2 e4 e17 e18 e19 hH
  clear F
  rintro m F w3 ⟨j, yp, rfl, pj0, e0, e1, e2, e4, e17, e18, e19, hH⟩
  have qj := insB_len hs j
  refine wp_seq ?_
  refine wp_regionF ?_
  refine lf_val (v := .bool (decide (j < t.ins.length))) (wantAll rfl) (rv_lssP (p := j < t.ins.length) rfl (fr_eval rfl e19) (fr_eval rfl e18) (by omega)) ?_
  refine lf_nil ?_
  refine then_n ?_
  refine wp_seq ?_
  refine wp_gen (fun F' => F' 0 = .pointer (some ⟨g, 0, none⟩) ∧ F' 1 = .agg (([t.vi.1, t.vo.1, .int .i64 t.kd, .int .i64 t.tw, .int .i64 t.ch, .int .i64 t.am] : List Value) ++ (cBs t.root.1 ++ ([t.vd.1, t.vs.1] : List Value))).toArray ∧ F' 2 = .bool false ∧ F' 4 = .pointer (some ⟨g1, 0, none⟩) ∧ F' 17 = t.vi.1 ∧ F' 18 = .int .i64 ((t.ins.length : Nat) : Int) ∧ F' 19 = .int .i64 ((j : Nat) : Int) ∧ F' 20 = .bool (decide (j < t.ins.length))) ⟨e0, e1, e2, e4, e17, e18, e19, rfl⟩ ?_
  clear e0 e1 e2 e4 e17 e18 e19
  clear F
  rintro F ⟨e0, e1, e2, e4, e17, e18, e19, e20⟩
  by_cases hc1 : j < t.ins.length
  · refine wp_cond_true (fr_eval rfl (e20.trans (congrArg Value.bool (decide_eq_true hc1)))) ?_
    refine wp_skip ?_
    refine then_n ?_
    refine wp_seq ?_
    refine wp_block ?_
    refine wp_seq ?_
    refine wp_regionF ?_
    refine lf_val (v := .pointer (some (elemA t.vi.1 (j * 35)))) (wantAll rfl) (rv_index rfl (fr_eval rfl e17) (fr_eval rfl e19) (rdN ((ht.ins).rd _ hH.chg) rfl) (show j < t.ins.length from (by omega)) Try.underlying56 Try.sz130 (by decide)) ?_
    refine lf_val (wantAll rfl) (rv_loadElem rfl (fr_eval rfl rfl) (rdN ((ht.ins).rd _ hH.chg) rfl) (show j < t.ins.length from (by omega)) (by decide) (flat_part zIn cIn_len (show j < t.ins.length from (by omega))) Try.underlying130 rfl Try.sz130) ?_
    refine lf_ex (wantAll rfl) (hx_alloc hH 130 (z := .agg (cBs (List.replicate 32 0) ++ ([.int .i64 0, .int .i64 0, .slice none 0 0] : List Value)).toArray) (n := 35) (cs := cBs (List.replicate 32 0) ++ ([.int .i64 0, .int .i64 0, .slice none 0 0] : List Value)) rfl (by kernel_rfl) (by rfl)) ?_
    clear hH
    rintro _ w4 ⟨g2, rfl, hH, hx⟩
    replace hH : Heap _ _ _ [_, _, _] := hH
    clear hx
    refine lf_sk (wantAll rfl) (hx_storeW hH (i := 2) (cs := cBs ((List.getD t.ins j zIn).tx.1) ++ ([.int .i64 ((List.getD t.ins j zIn).at'), .int .i64 ((List.getD t.ins j zIn).way), (List.getD t.ins j zIn).v.1] : List Value)) rfl rfl rfl (fr_eval rfl rfl) (fr_eval rfl rfl) (sz_len Try.sz130 (zTx_l9 ((List.getD t.ins j zIn).tx.2))) (((zTx_l9 (List.length_replicate ..))).trans ((zTx_l9 ((List.getD t.ins j zIn).tx.2))).symm) (zTx_o10 rfl rfl (Rd.oneV (((ht.eachI _ (getD_memX (by omega))).pre).rd _ hH.chg)))) ?_
    clear hH
    rintro w5 ⟨hH, hx⟩
    replace hH : Heap _ _ _ [_, _, _] := hH
    clear hx
    refine lf_nil ?_
    refine then_n ?_
    refine wp_seq ?_
    refine wp_gen (fun F' => F' 0 = .pointer (some ⟨g, 0, none⟩) ∧ F' 1 = .agg (([t.vi.1, t.vo.1, .int .i64 t.kd, .int .i64 t.tw, .int .i64 t.ch, .int .i64 t.am] : List Value) ++ (cBs t.root.1 ++ ([t.vd.1, t.vs.1] : List Value))).toArray ∧ F' 2 = .bool false ∧ F' 4 = .pointer (some ⟨g1, 0, none⟩) ∧ F' 7 = .pointer (some ⟨g2, 0, none⟩) ∧ F' 17 = t.vi.1 ∧ F' 18 = .int .i64 ((t.ins.length : Nat) : Int) ∧ F' 19 = .int .i64 ((j : Nat) : Int) ∧ F' 20 = .bool true) ⟨e0, e1, e2, e4, rfl, e17, e18, e19, (e20.trans (congrArg Value.bool (decide_eq_true hc1)))⟩ ?_
    clear e0 e1 e2 e4 e17 e18 e19 e20
    clear F
    rintro F ⟨e0, e1, e2, e4, e7, e17, e18, e19, e20⟩
    have qh := (List.getD t.ins j zIn).tx.2
    have hs_2 := hH.fixed1 (j := 1) (i := 0) rfl rfl (by decide)
    have hs_3 := hH.fixed1 (j := 2) (i := 0) rfl rfl (by decide)
    have hKN := hH.sub1 (i := 0) rfl
    have hcK : Chg (newK w5 (oPen g yp (l0 ++ put ((t.ins.length : Nat) : Int) ++ List.flatMap inB (List.take j t.ins))).fp) w5 w5 := Chg.refl _ _
    have hfM : ∀ k, (oPen g yp (l0 ++ put ((t.ins.length : Nat) : Int) ++ List.flatMap inB (List.take j t.ins))).fp k → (newK w5 (oPen g yp (l0 ++ put ((t.ins.length : Nat) : Int) ++ List.flatMap inB (List.take j t.ins))).fp) k := fun k h => Or.inr h
    refine wp_regionX (newK w5 (oPen g yp (l0 ++ put ((t.ins.length : Nat) : Int) ++ List.flatMap inB (List.take j t.ins))).fp) 11 (by kernel_rfl) (by kernel_rfl) ?_
    refine xl_take (i := 0) (v := .pointer (some ⟨g, 0, none⟩)) rfl (by kernel_rfl) (by kernel_rfl) (by kernel_rfl) (by kernel_rfl) (yx_val (wantAll rfl) (fun w' hx' => rv_move rfl (fr_eval rfl e0))) ?_
    refine xl_take (i := 1) (v := .pointer (some ⟨g2, 0, none⟩)) rfl (by kernel_rfl) (by kernel_rfl) (by kernel_rfl) (by kernel_rfl) (yx_val (wantAll rfl) (fun w' hx' => rv_fieldAddr (n := 32) rfl (fr_eval rfl e7) Try.underlying130 rfl rfl (by kernel_rfl))) ?_
    refine xl_take (i := 2) (v := .pointer (some ⟨g2, 0, none⟩)) rfl (by kernel_rfl) (by kernel_rfl) (by kernel_rfl) (by kernel_rfl) (yx_val (wantAll rfl) (fun w' hx' => rv_fieldAddr (n := 31) rfl (fr_eval rfl rfl) Try.underlying128 rfl rfl (by kernel_rfl))) ?_
    refine xl_take (i := 3) (v := .agg (cBs ((List.getD t.ins j zIn).tx.1)).toArray) rfl (by kernel_rfl) (by kernel_rfl) (by kernel_rfl) (by kernel_rfl) (yx_val (wantAll rfl) (fun w' hx' => rv_loadP rfl (hs_3 _ (hcK.trans hx')) (zTx_p11 ((List.getD t.ins j zIn).tx.2)) (cBs_len (List.getD t.ins j zIn).tx.2) (fr_eval rfl rfl) Try.underlying23 rfl Try.sz23)) ?_
    refine xl_take (i := 5) (v := .pointer (some ⟨g2, 0, none⟩)) rfl (by kernel_rfl) (by kernel_rfl) (by kernel_rfl) (by kernel_rfl) (yx_val (wantAll rfl) (fun w' hx' => rv_fieldAddr (n := 32) rfl (fr_eval rfl e7) Try.underlying130 rfl rfl (by kernel_rfl))) ?_
    refine xl_take (i := 6) (v := .pointer (some ⟨g2, 32, none⟩)) rfl (by kernel_rfl) (by kernel_rfl) (by kernel_rfl) (by kernel_rfl) (yx_val (wantAll rfl) (fun w' hx' => rv_fieldAddr (n := 0) rfl (fr_eval rfl rfl) Try.underlying128 rfl rfl (by kernel_rfl))) ?_
    refine xl_take (i := 7) (v := .int .i64 ((List.getD t.ins j zIn).at')) rfl (by kernel_rfl) (by kernel_rfl) (by kernel_rfl) (by kernel_rfl) (yx_val (wantAll rfl) (fun w' hx' => rv_load1 rfl (hs_3 _ (hcK.trans hx')) (zTx_g12 ((List.getD t.ins j zIn).tx.2)) (fr_eval rfl rfl) Try.underlying3 rfl Try.sz3)) ?_
    refine xl_take (i := 8) (v := .pointer (some ⟨g2, 33, none⟩)) rfl (by kernel_rfl) (by kernel_rfl) (by kernel_rfl) (by kernel_rfl) (yx_val (wantAll rfl) (fun w' hx' => rv_fieldAddr (n := 0) rfl (fr_eval rfl e7) Try.underlying130 rfl rfl (by kernel_rfl))) ?_
    refine xl_take (i := 9) (v := .int .i64 ((List.getD t.ins j zIn).way)) rfl (by kernel_rfl) (by kernel_rfl) (by kernel_rfl) (by kernel_rfl) (yx_val (wantAll rfl) (fun w' hx' => rv_load1 rfl (hs_3 _ (hcK.trans hx')) (zTx_g13 ((List.getD t.ins j zIn).tx.2)) (fr_eval rfl rfl) Try.underlying3 rfl Try.sz3)) ?_
    refine anyX_ready (rs := [4, 10]) (by kernel_rfl) ?_
    intro w6 hx
    replace hH := hH.ext hx
    replace hcK := hcK.trans (Ext.any hx)
    clear hx
    refine (anyX_cons ?_ (anyX_cons ?_ anyX_nil))
    · refine xl_step (i := 4) rfl (wantAll rfl) ?_
      refine of_call (rv_call (args := [.pointer (some ⟨g, 0, none⟩), .agg (cBs ((List.getD t.ins j zIn).tx.1)).toArray]) rfl (evc (fr_eval rfl rfl) (evc (fr_eval rfl rfl) evn)) Try.call42) (penSum_calls ((List.getD t.ins j zIn).tx.1) ((List.getD t.ins j zIn).tx.2) _ (hH.pen (i := 0) rfl) (by (first | omega | (simp only [List.length_append] at *; omega) | (simp only [List.length_append, List.length_cons, List.length_nil] at *; omega)))) ?_
      rintro _ w7 ⟨rfl, hp⟩
      refine ⟨_, rfl, ?_⟩
      obtain ⟨y2, hH', hx, hxf, hgr⟩ := hH.penPost (i := 0) (l2 := l0 ++ put ((t.ins.length : Nat) : Int) ++ List.flatMap inB (List.take j t.ins) ++ ((List.getD t.ins j zIn).tx.1)) rfl (fun _ => rfl) hp
      clear hH hp
      have hH : Heap _ _ _ [_, _, _] := hH'
      clear hH'
      have hcx := hxf.mono (fun k _ hk => hfM k hk)
      replace hfM := grow1 (fun k h => Or.inl h) hcK.size hfM hgr
      replace hcK := hcK.trans hcx
      refine ⟨hcx, ?_⟩
      clear hcx hxf hgr hx
      refine anyX_ready (rs := [10]) (by kernel_rfl) ?_
      intro w8 hx
      replace hH := hH.ext hx
      replace hcK := hcK.trans (Ext.any hx)
      clear hx
      refine (anyX_cons ?_ anyX_nil)
      refine xl_step (i := 10) rfl (wantAll rfl) ?_
      refine of_ex (hx_lits hH Try.stInt (n := 2) (nm := List.length [(List.getD t.ins j zIn).at', (List.getD t.ins j zIn).way]) [(.tmp 30), (.tmp 32)] (vs := [(.int .i64 ((List.getD t.ins j zIn).at')), (.int .i64 ((List.getD t.ins j zIn).way))]) (cs := List.flatMap cI [(List.getD t.ins j zIn).at', (List.getD t.ins j zIn).way]) rfl (evc (fr_eval rfl rfl) (evc (fr_eval rfl rfl) evn)) (row_one (l := [(List.getD t.ins j zIn).at', (List.getD t.ins j zIn).way]) cI_one) rfl (by decide) rfl rfl) ?_
      clear hH
      rintro y3 w9 ⟨hH, hx⟩
      replace hH : Heap _ _ _ [_, _, _, _] := hH
      replace hcK := hcK.trans (Ext.any hx)
      refine ⟨(Ext.any hx), ?_⟩
      clear hx
      refine xl_tail (s := 11) rfl ?_
      intro w10 hx
      replace hH := hH.ext hx
      clear hx
      clear hs_2 hs_3 hKN hcK hfM
      refine lf_call (wantAll rfl) (rv_call (args := [.pointer (some ⟨g, 0, none⟩), y3]) rfl (evc (fr_eval rfl rfl) (evc (fr_eval rfl rfl) evn)) Try.call41) (penNums_calls (in2J (ht.eachI _ (getD_memX (by omega))).i1 (ht.eachI _ (getD_memX (by omega))).i2) _ (Own.rd (hH.own (i := 3) rfl) (row_one cI_one)) (fun k hk h0 e => apart_at hH.apart (i := 3) (j := 0) rfl rfl (by decide) k hk (Or.inl e)) (fun k hk h0 h => apart_at hH.apart (i := 3) (j := 0) rfl rfl (by decide) k hk (Or.inr h)) (hH.pen (i := 0) rfl) (by (first | omega | (simp only [List.length_append] at *; omega) | (simp only [List.length_append, List.length_cons, List.length_nil] at *; omega)))) ?_
      rintro _ w11 ⟨rfl, hp⟩
      refine ⟨_, rfl, ?_⟩
      obtain ⟨y4, hH', hx, hxf, hgr⟩ := hH.penPost (i := 0) (l2 := l0 ++ put ((t.ins.length : Nat) : Int) ++ List.flatMap inB (List.take j t.ins) ++ ((List.getD t.ins j zIn).tx.1) ++ puts [(List.getD t.ins j zIn).at', (List.getD t.ins j zIn).way]) rfl (fun _ => rfl) hp
      clear hH hp
      have hH : Heap _ _ _ [_, _, _, _] := hH'
      clear hH'
      clear hxf hgr hx
      refine lf_nil ?_
      refine then_n ?_
      refine wp_seq ?_
      replace hH : Heap _ _ _ [_, _, _] := hH.drop (.cons_cons _ (.cons_cons _ (.cons_cons _ (.cons _ .slnil))))
      refine wp_gen (fun F' => F' 0 = .pointer (some ⟨g, 0, none⟩) ∧ F' 1 = .agg (([t.vi.1, t.vo.1, .int .i64 t.kd, .int .i64 t.tw, .int .i64 t.ch, .int .i64 t.am] : List Value) ++ (cBs t.root.1 ++ ([t.vd.1, t.vs.1] : List Value))).toArray ∧ F' 2 = .bool false ∧ F' 4 = .pointer (some ⟨g1, 0, none⟩) ∧ F' 7 = .pointer (some ⟨g2, 0, none⟩) ∧ F' 17 = t.vi.1 ∧ F' 18 = .int .i64 ((t.ins.length : Nat) : Int) ∧ F' 19 = .int .i64 ((j : Nat) : Int) ∧ F' 20 = .bool true) ⟨e0, e1, e2, e4, e7, e17, e18, e19, e20⟩ ?_
      clear e0 e1 e2 e4 e7 e17 e18 e19 e20
      clear F
      rintro F ⟨e0, e1, e2, e4, e7, e17, e18, e19, e20⟩
      refine wp_regionF ?_
      refine lf_val (v := .bool false) (wantAll rfl) (rv_move rfl (fr_eval rfl e2)) ?_
      refine lf_nil ?_
      refine then_n ?_
      refine wp_gen (fun F' => F' 0 = .pointer (some ⟨g, 0, none⟩) ∧ F' 1 = .agg (([t.vi.1, t.vo.1, .int .i64 t.kd, .int .i64 t.tw, .int .i64 t.ch, .int .i64 t.am] : List Value) ++ (cBs t.root.1 ++ ([t.vd.1, t.vs.1] : List Value))).toArray ∧ F' 2 = .bool false ∧ F' 4 = .pointer (some ⟨g1, 0, none⟩) ∧ F' 7 = .pointer (some ⟨g2, 0, none⟩) ∧ F' 17 = t.vi.1 ∧ F' 18 = .int .i64 ((t.ins.length : Nat) : Int) ∧ F' 19 = .int .i64 ((j : Nat) : Int) ∧ F' 20 = .bool true ∧ F' 35 = .bool false) ⟨e0, e1, e2, e4, e7, e17, e18, e19, e20, rfl⟩ ?_
      clear e0 e1 e2 e4 e7 e17 e18 e19 e20
      clear F
      rintro F ⟨e0, e1, e2, e4, e7, e17, e18, e19, e20, e35⟩
      refine wp_cond_false (fr_eval rfl e35) ?_
      refine wp_skip ?_
      refine blk_n ?_
      refine then_n ?_
      refine wp_regionF ?_
      refine lf_val (v := .int .i64 ((j + 1 : Nat) : Int)) (wantAll rfl) (rv_add rfl (fr_eval rfl e19) rfl (wrap_i64 (by omega) (by omega) (by omega))) ?_
      refine lf_val (v := .int .i64 ((j + 1 : Nat) : Int)) (wantAll rfl) (rv_move rfl (fr_eval rfl rfl)) ?_
      refine lf_nil ?_
      refine then_n ?_
      rw [show l0 ++ put ((t.ins.length : Nat) : Int) ++ List.flatMap inB (List.take j t.ins) ++ ((List.getD t.ins j zIn).tx.1) ++ puts [(List.getD t.ins j zIn).at', (List.getD t.ins j zIn).way] = l0 ++ put ((t.ins.length : Nat) : Int) ++ List.flatMap inB (List.take (j + 1) t.ins) from (by rw [← flat_next (f := inB) (d := zIn) (by omega : j < t.ins.length)]; simp only [inB, List.append_assoc])] at hH
      replace hH : Heap _ _ _ [_, _] := hH.drop (.cons_cons _ (.cons_cons _ (.cons _ .slnil)))
      exact ⟨_, _, (by omega), rfl, j + 1, _, rfl, (by omega), e0, e1, e2, e4, e17, e18, rfl, hH⟩
    · refine xl_step (i := 10) rfl (wantAll rfl) ?_
      refine of_ex (hx_lits hH Try.stInt (n := 2) (nm := List.length [(List.getD t.ins j zIn).at', (List.getD t.ins j zIn).way]) [(.tmp 30), (.tmp 32)] (vs := [(.int .i64 ((List.getD t.ins j zIn).at')), (.int .i64 ((List.getD t.ins j zIn).way))]) (cs := List.flatMap cI [(List.getD t.ins j zIn).at', (List.getD t.ins j zIn).way]) rfl (evc (fr_eval rfl rfl) (evc (fr_eval rfl rfl) evn)) (row_one (l := [(List.getD t.ins j zIn).at', (List.getD t.ins j zIn).way]) cI_one) rfl (by decide) rfl rfl) ?_
      clear hH
      rintro y5 w12 ⟨hH, hx⟩
      replace hH : Heap _ _ _ [_, _, _, _] := hH
      replace hcK := hcK.trans (Ext.any hx)
      refine ⟨(Ext.any hx), ?_⟩
      clear hx
      refine anyX_ready (rs := [4]) (by kernel_rfl) ?_
      intro w13 hx
      replace hH := hH.ext hx
      replace hcK := hcK.trans (Ext.any hx)
      clear hx
      refine (anyX_cons ?_ anyX_nil)
      refine xl_step (i := 4) rfl (wantAll rfl) ?_
      refine of_call (rv_call (args := [.pointer (some ⟨g, 0, none⟩), .agg (cBs ((List.getD t.ins j zIn).tx.1)).toArray]) rfl (evc (fr_eval rfl rfl) (evc (fr_eval rfl rfl) evn)) Try.call42) (penSum_calls ((List.getD t.ins j zIn).tx.1) ((List.getD t.ins j zIn).tx.2) _ (hH.pen (i := 0) rfl) (by (first | omega | (simp only [List.length_append] at *; omega) | (simp only [List.length_append, List.length_cons, List.length_nil] at *; omega)))) ?_
      rintro _ w14 ⟨rfl, hp⟩
      refine ⟨_, rfl, ?_⟩
      obtain ⟨y6, hH', hx, hxf, hgr⟩ := hH.penPost (i := 0) (l2 := l0 ++ put ((t.ins.length : Nat) : Int) ++ List.flatMap inB (List.take j t.ins) ++ ((List.getD t.ins j zIn).tx.1)) rfl (fun _ => rfl) hp
      clear hH hp
      have hH : Heap _ _ _ [_, _, _, _] := hH'
      clear hH'
      have hcx := hxf.mono (fun k _ hk => hfM k hk)
      replace hfM := grow1 (fun k h => Or.inl h) hcK.size hfM hgr
      replace hcK := hcK.trans hcx
      refine ⟨hcx, ?_⟩
      clear hcx hxf hgr hx
      refine xl_tail (s := 11) rfl ?_
      intro w15 hx
      replace hH := hH.ext hx
      clear hx
      clear hs_2 hs_3 hKN hcK hfM
      refine lf_call (wantAll rfl) (rv_call (args := [.pointer (some ⟨g, 0, none⟩), y5]) rfl (evc (fr_eval rfl rfl) (evc (fr_eval rfl rfl) evn)) Try.call41) (penNums_calls (in2J (ht.eachI _ (getD_memX (by omega))).i1 (ht.eachI _ (getD_memX (by omega))).i2) _ (Own.rd (hH.own (i := 3) rfl) (row_one cI_one)) (fun k hk h0 e => apart_at hH.apart (i := 3) (j := 0) rfl rfl (by decide) k hk (Or.inl e)) (fun k hk h0 h => apart_at hH.apart (i := 3) (j := 0) rfl rfl (by decide) k hk (Or.inr h)) (hH.pen (i := 0) rfl) (by (first | omega | (simp only [List.length_append] at *; omega) | (simp only [List.length_append, List.length_cons, List.length_nil] at *; omega)))) ?_
      rintro _ w16 ⟨rfl, hp⟩
      refine ⟨_, rfl, ?_⟩
      obtain ⟨y7, hH', hx, hxf, hgr⟩ := hH.penPost (i := 0) (l2 := l0 ++ put ((t.ins.length : Nat) : Int) ++ List.flatMap inB (List.take j t.ins) ++ ((List.getD t.ins j zIn).tx.1) ++ puts [(List.getD t.ins j zIn).at', (List.getD t.ins j zIn).way]) rfl (fun _ => rfl) hp
      clear hH hp
      have hH : Heap _ _ _ [_, _, _, _] := hH'
      clear hH'
      clear hxf hgr hx
      refine lf_nil ?_
      refine then_n ?_
      refine wp_seq ?_
      replace hH : Heap _ _ _ [_, _, _] := hH.drop (.cons_cons _ (.cons_cons _ (.cons_cons _ (.cons _ .slnil))))
      refine wp_gen (fun F' => F' 0 = .pointer (some ⟨g, 0, none⟩) ∧ F' 1 = .agg (([t.vi.1, t.vo.1, .int .i64 t.kd, .int .i64 t.tw, .int .i64 t.ch, .int .i64 t.am] : List Value) ++ (cBs t.root.1 ++ ([t.vd.1, t.vs.1] : List Value))).toArray ∧ F' 2 = .bool false ∧ F' 4 = .pointer (some ⟨g1, 0, none⟩) ∧ F' 7 = .pointer (some ⟨g2, 0, none⟩) ∧ F' 17 = t.vi.1 ∧ F' 18 = .int .i64 ((t.ins.length : Nat) : Int) ∧ F' 19 = .int .i64 ((j : Nat) : Int) ∧ F' 20 = .bool true) ⟨e0, e1, e2, e4, e7, e17, e18, e19, e20⟩ ?_
      clear e0 e1 e2 e4 e7 e17 e18 e19 e20
      clear F
      rintro F ⟨e0, e1, e2, e4, e7, e17, e18, e19, e20⟩
      refine wp_regionF ?_
      refine lf_val (v := .bool false) (wantAll rfl) (rv_move rfl (fr_eval rfl e2)) ?_
      refine lf_nil ?_
      refine then_n ?_
      refine wp_gen (fun F' => F' 0 = .pointer (some ⟨g, 0, none⟩) ∧ F' 1 = .agg (([t.vi.1, t.vo.1, .int .i64 t.kd, .int .i64 t.tw, .int .i64 t.ch, .int .i64 t.am] : List Value) ++ (cBs t.root.1 ++ ([t.vd.1, t.vs.1] : List Value))).toArray ∧ F' 2 = .bool false ∧ F' 4 = .pointer (some ⟨g1, 0, none⟩) ∧ F' 7 = .pointer (some ⟨g2, 0, none⟩) ∧ F' 17 = t.vi.1 ∧ F' 18 = .int .i64 ((t.ins.length : Nat) : Int) ∧ F' 19 = .int .i64 ((j : Nat) : Int) ∧ F' 20 = .bool true ∧ F' 35 = .bool false) ⟨e0, e1, e2, e4, e7, e17, e18, e19, e20, rfl⟩ ?_
      clear e0 e1 e2 e4 e7 e17 e18 e19 e20
      clear F
      rintro F ⟨e0, e1, e2, e4, e7, e17, e18, e19, e20, e35⟩
      refine wp_cond_false (fr_eval rfl e35) ?_
      refine wp_skip ?_
      refine blk_n ?_
      refine then_n ?_
      refine wp_regionF ?_
      refine lf_val (v := .int .i64 ((j + 1 : Nat) : Int)) (wantAll rfl) (rv_add rfl (fr_eval rfl e19) rfl (wrap_i64 (by omega) (by omega) (by omega))) ?_
      refine lf_val (v := .int .i64 ((j + 1 : Nat) : Int)) (wantAll rfl) (rv_move rfl (fr_eval rfl rfl)) ?_
      refine lf_nil ?_
      refine then_n ?_
      rw [show l0 ++ put ((t.ins.length : Nat) : Int) ++ List.flatMap inB (List.take j t.ins) ++ ((List.getD t.ins j zIn).tx.1) ++ puts [(List.getD t.ins j zIn).at', (List.getD t.ins j zIn).way] = l0 ++ put ((t.ins.length : Nat) : Int) ++ List.flatMap inB (List.take (j + 1) t.ins) from (by rw [← flat_next (f := inB) (d := zIn) (by omega : j < t.ins.length)]; simp only [inB, List.append_assoc])] at hH
      replace hH : Heap _ _ _ [_, _] := hH.drop (.cons_cons _ (.cons_cons _ (.cons _ .slnil)))
      exact ⟨_, _, (by omega), rfl, j + 1, _, rfl, (by omega), e0, e1, e2, e4, e17, e18, rfl, hH⟩
  · refine wp_cond_false (fr_eval rfl (e20.trans (congrArg Value.bool (decide_eq_false hc1)))) ?_
    refine wp_exit ?_
    refine then_exit ?_
    refine then_exit ?_
    refine blk_exit ?_
    refine then_n ?_
    refine wp_seq ?_
    have qj2 := insB_len hs t.ins.length
    rw [List.take_length] at qj2
    rw [show l0 ++ put ((t.ins.length : Nat) : Int) ++ List.flatMap inB (List.take j t.ins) = l0 ++ put ((t.ins.length : Nat) : Int) ++ List.flatMap inB t.ins from (by rw [List.take_of_length_le (by omega)])] at hH
    refine wp_regionF ?_
    refine lf_val (v := .pointer (some ⟨g, 0, none⟩)) (wantAll rfl) (rv_move rfl (fr_eval rfl e0)) ?_
    refine lf_val (v := .pointer (some ⟨g1, 1, none⟩)) (wantAll rfl) (rv_fieldAddr (n := 0) rfl (fr_eval rfl e4) Try.underlying63 rfl rfl (by kernel_rfl)) ?_
    refine lf_val (v := t.vo.1) (wantAll rfl) (rv_load1 rfl (hH.blk (i := 1) rfl) (zTx_g14 t.root.2) (fr_eval rfl rfl) Try.underlying57 rfl Try.sz57) ?_
    refine lf_val (v := .int .i64 ((t.outs.length : Nat) : Int)) (wantAll rfl) (rv_len rfl (fr_eval rfl rfl) ((ht.outs).rd _ hH.chg) Try.underlying57) ?_
    refine lf_call (wantAll rfl) (rv_call (args := [.pointer (some ⟨g, 0, none⟩), .int .i64 ((t.outs.length : Nat) : Int)]) rfl (evc (fr_eval rfl rfl) (evc (fr_eval rfl rfl) evn)) Try.call65) (penNum_calls ((t.outs.length : Nat) : Int) (by omega) _ (hH.pen (i := 0) rfl) (by (first | omega | (simp only [List.length_append] at *; omega) | (simp only [List.length_append, List.length_cons, List.length_nil] at *; omega)))) ?_
    rintro _ w17 ⟨rfl, hp⟩
    refine ⟨_, rfl, ?_⟩
    obtain ⟨y8, hH', hx, hxf, hgr⟩ := hH.penPost (i := 0) (l2 := l0 ++ put ((t.ins.length : Nat) : Int) ++ List.flatMap inB t.ins ++ put ((t.outs.length : Nat) : Int)) rfl (fun _ => rfl) hp
    clear hH hp
    have hH : Heap _ _ _ [_, _] := hH'
    clear hH'
    clear hxf hgr hx
    refine lf_nil ?_
    refine then_n ?_
    refine wp_seq ?_
    refine wp_seq ?_
    refine wp_gen (fun F' => F' 0 = .pointer (some ⟨g, 0, none⟩) ∧ F' 1 = .agg (([t.vi.1, t.vo.1, .int .i64 t.kd, .int .i64 t.tw, .int .i64 t.ch, .int .i64 t.am] : List Value) ++ (cBs t.root.1 ++ ([t.vd.1, t.vs.1] : List Value))).toArray ∧ F' 2 = .bool false ∧ F' 4 = .pointer (some ⟨g1, 0, none⟩) ∧ F' 17 = t.vi.1 ∧ F' 18 = .int .i64 ((t.ins.length : Nat) : Int) ∧ F' 19 = .int .i64 ((j : Nat) : Int) ∧ F' 20 = .bool false) ⟨e0, e1, e2, e4, e17, e18, e19, (e20.trans (congrArg Value.bool (decide_eq_false hc1)))⟩ ?_
    clear e0 e1 e2 e4 e17 e18 e19 e20
    clear F
    rintro F ⟨e0, e1, e2, e4, e17, e18, e19, e20⟩
    refine wp_regionF ?_
    refine lf_val (v := .pointer (some ⟨g1, 1, none⟩)) (wantAll rfl) (rv_fieldAddr (n := 0) rfl (fr_eval rfl e4) Try.underlying63 rfl rfl (by kernel_rfl)) ?_
    refine lf_val (v := t.vo.1) (wantAll rfl) (rv_load1 rfl (hH.blk (i := 1) rfl) (zTx_g14 t.root.2) (fr_eval rfl rfl) Try.underlying57 rfl Try.sz57) ?_
    refine lf_val (v := .int .i64 ((t.outs.length : Nat) : Int)) (wantAll rfl) (rv_len rfl (fr_eval rfl rfl) ((ht.outs).rd _ hH.chg) Try.underlying57) ?_
    refine lf_val (v := .int .i64 0) (wantAll rfl) (rv_move rfl rfl) ?_
    refine lf_nil ?_
    refine then_n ?_
    refine wp_block ?_
    rw [show l0 ++ put ((t.ins.length : Nat) : Int) ++ List.flatMap inB t.ins ++ put ((t.outs.length : Nat) : Int) = l0 ++ put ((t.ins.length : Nat) : Int) ++ List.flatMap inB t.ins ++ put ((t.outs.length : Nat) : Int) ++ List.flatMap outB (List.take 0 t.outs) from (by simp)] at hH
    refine wp_gen (fun F' => F' 0 = .pointer (some ⟨g, 0, none⟩) ∧ F' 1 = .agg (([t.vi.1, t.vo.1, .int .i64 t.kd, .int .i64 t.tw, .int .i64 t.ch, .int .i64 t.am] : List Value) ++ (cBs t.root.1 ++ ([t.vd.1, t.vs.1] : List Value))).toArray ∧ F' 2 = .bool false ∧ F' 4 = .pointer (some ⟨g1, 0, none⟩) ∧ F' 17 = t.vi.1 ∧ F' 18 = .int .i64 ((t.ins.length : Nat) : Int) ∧ F' 19 = .int .i64 ((j : Nat) : Int) ∧ F' 20 = .bool false ∧ F' 47 = t.vo.1 ∧ F' 48 = .int .i64 ((t.outs.length : Nat) : Int) ∧ F' 49 = .int .i64 0) ⟨e0, e1, e2, e4, e17, e18, e19, e20, rfl, rfl, rfl⟩ ?_
    clear e0 e1 e2 e4 e17 e18 e19 e20
    clear F
    rintro F ⟨e0, e1, e2, e4, e17, e18, e19, e20, e47, e48, e49⟩
    refine wp_loopF (fun m F wr => ∃ k : Nat, ∃ yp : Value, m = t.outs.length - k ∧ k ≤ t.outs.length ∧ F 0 = .pointer (some ⟨g, 0, none⟩) ∧ F 1 = .agg (([t.vi.1, t.vo.1, .int .i64 t.kd, .int .i64 t.tw, .int .i64 t.ch, .int .i64 t.am] : List Value) ++ (cBs t.root.1 ++ ([t.vd.1, t.vs.1] : List Value))).toArray ∧ F 2 = .bool false ∧ F 4 = .pointer (some ⟨g1, 0, none⟩) ∧ F 17 = t.vi.1 ∧ F 18 = .int .i64 ((t.ins.length : Nat) : Int) ∧ F 19 = .int .i64 ((j : Nat) : Int) ∧ F 20 = .bool false ∧ F 47 = t.vo.1 ∧ F 48 = .int .i64 ((t.outs.length : Nat) : Int) ∧ F 49 = .int .i64 ((k : Nat) : Int) ∧ Heap (newK w (holdK g v)) w wr [oPen g yp (l0 ++ put ((t.ins.length : Nat) : Int) ++ List.flatMap inB t.ins ++ put ((t.outs.length : Nat) : Int) ++ List.flatMap outB (List.take k t.outs)), oBlk g1 (([t.vi.1, t.vo.1, .int .i64 t.kd, .int .i64 t.tw, .int .i64 t.ch, .int .i64 t.am] : List Value) ++ (cBs t.root.1 ++ ([t.vd.1, t.vs.1] : List Value))) 63]) ⟨0, _, rfl, Nat.zero_le _, e0, e1, e2, e4, e17, e18, e19, e20, e47, e48, e49, hH⟩ ?_
    clear e0 e1 e2 e4 e17 e18 e19 e20 e47 e48 e49 hH
    clear F
    rintro m F w18 ⟨k, yp, rfl, pk0, e0, e1, e2, e4, e17, e18, e19, e20, e47, e48, e49, hH⟩
    have qk := outsB_len hs k
    refine wp_seq ?_
    refine wp_regionF ?_
    refine lf_val (v := .bool (decide (k < t.outs.length))) (wantAll rfl) (rv_lssP (p := k < t.outs.length) rfl (fr_eval rfl e49) (fr_eval rfl e48) (by omega)) ?_
    refine lf_nil ?_
    refine then_n ?_
    refine wp_seq ?_
    refine wp_gen (fun F' => F' 0 = .pointer (some ⟨g, 0, none⟩) ∧ F' 1 = .agg (([t.vi.1, t.vo.1, .int .i64 t.kd, .int .i64 t.tw, .int .i64 t.ch, .int .i64 t.am] : List Value) ++ (cBs t.root.1 ++ ([t.vd.1, t.vs.1] : List Value))).toArray ∧ F' 2 = .bool false ∧ F' 4 = .pointer (some ⟨g1, 0, none⟩) ∧ F' 17 = t.vi.1 ∧ F' 18 = .int .i64 ((t.ins.length : Nat) : Int) ∧ F' 19 = .int .i64 ((j : Nat) : Int) ∧ F' 20 = .bool false ∧ F' 47 = t.vo.1 ∧ F' 48 = .int .i64 ((t.outs.length : Nat) : Int) ∧ F' 49 = .int .i64 ((k : Nat) : Int) ∧ F' 50 = .bool (decide (k < t.outs.length))) ⟨e0, e1, e2, e4, e17, e18, e19, e20, e47, e48, e49, rfl⟩ ?_
    clear e0 e1 e2 e4 e17 e18 e19 e20 e47 e48 e49
    clear F
    rintro F ⟨e0, e1, e2, e4, e17, e18, e19, e20, e47, e48, e49, e50⟩
    by_cases hc2 : k < t.outs.length
    · refine wp_cond_true (fr_eval rfl (e50.trans (congrArg Value.bool (decide_eq_true hc2)))) ?_
      refine wp_skip ?_
      refine then_n ?_
      refine wp_seq ?_
      refine wp_block ?_
      refine wp_seq ?_
      refine wp_regionF ?_
      refine lf_val (v := .pointer (some (elemA t.vo.1 (k * 2)))) (wantAll rfl) (rv_index rfl (fr_eval rfl e47) (fr_eval rfl e49) (rdN ((ht.outs).rd _ hH.chg) rfl) (show k < t.outs.length from (by omega)) Try.underlying57 Try.sz133 (by decide)) ?_
      refine lf_val (wantAll rfl) (rv_loadElem rfl (fr_eval rfl rfl) (rdN ((ht.outs).rd _ hH.chg) rfl) (show k < t.outs.length from (by omega)) (by decide) (flat_part zOut cOut_len (show k < t.outs.length from (by omega))) Try.underlying133 rfl Try.sz133) ?_
      refine lf_ex (wantAll rfl) (hx_alloc hH 133 (z := .agg ([.int .i64 0, .slice none 0 0]).toArray) (n := 2) (cs := [.int .i64 0, .slice none 0 0]) rfl (by kernel_rfl) (by rfl)) ?_
      clear hH
      rintro _ w19 ⟨g3, rfl, hH, hx⟩
      replace hH : Heap _ _ _ [_, _, _] := hH
      clear hx
      refine lf_sk (wantAll rfl) (hx_storeW hH (i := 2) (cs := [.int .i64 ((List.getD t.outs k zOut).am), (List.getD t.outs k zOut).v.1]) rfl rfl rfl (fr_eval rfl rfl) (fr_eval rfl rfl) (sz_len Try.sz133 zTx_l15) ((zTx_l15).trans (zTx_l15).symm) (zTx_o16 rfl (Rd.oneV (((ht.eachO _ (getD_memX (by omega))).ws).rd _ hH.chg)))) ?_
      clear hH
      rintro w20 ⟨hH, hx⟩
      replace hH : Heap _ _ _ [_, _, _] := hH
      clear hx
      refine lf_nil ?_
      refine then_n ?_
      refine wp_gen (fun F' => F' 0 = .pointer (some ⟨g, 0, none⟩) ∧ F' 1 = .agg (([t.vi.1, t.vo.1, .int .i64 t.kd, .int .i64 t.tw, .int .i64 t.ch, .int .i64 t.am] : List Value) ++ (cBs t.root.1 ++ ([t.vd.1, t.vs.1] : List Value))).toArray ∧ F' 2 = .bool false ∧ F' 4 = .pointer (some ⟨g1, 0, none⟩) ∧ F' 9 = .pointer (some ⟨g3, 0, none⟩) ∧ F' 17 = t.vi.1 ∧ F' 18 = .int .i64 ((t.ins.length : Nat) : Int) ∧ F' 19 = .int .i64 ((j : Nat) : Int) ∧ F' 20 = .bool false ∧ F' 47 = t.vo.1 ∧ F' 48 = .int .i64 ((t.outs.length : Nat) : Int) ∧ F' 49 = .int .i64 ((k : Nat) : Int) ∧ F' 50 = .bool true) ⟨e0, e1, e2, e4, rfl, e17, e18, e19, e20, e47, e48, e49, (e50.trans (congrArg Value.bool (decide_eq_true hc2)))⟩ ?_
      clear e0 e1 e2 e4 e17 e18 e19 e20 e47 e48 e49 e50
      clear F
      rintro F ⟨e0, e1, e2, e4, e9, e17, e18, e19, e20, e47, e48, e49, e50⟩
      refine wp_regionF ?_
      refine lf_val (v := .pointer (some ⟨g, 0, none⟩)) (wantAll rfl) (rv_move rfl (fr_eval rfl e0)) ?_
      refine lf_val (wantAll rfl) (rv_loadW rfl (hH.blk (i := 2) rfl) (fr_eval rfl e9) Try.underlying133 rfl (sz_len Try.sz133 zTx_l15)) ?_
      refine lf_call (wantAll rfl) (rv_call (args := [.pointer (some ⟨g, 0, none⟩), .agg #[.int .i64 ((List.getD t.outs k zOut).am), (List.getD t.outs k zOut).v.1]]) rfl (evc (fr_eval rfl rfl) (evc (fr_eval rfl rfl) evn)) Try.call82) (lockPut_calls (l0 ++ put ((t.ins.length : Nat) : Int) ++ List.flatMap inB t.ins ++ put ((t.outs.length : Nat) : Int) ++ List.flatMap outB (List.take k t.outs)) (by (first | omega | (simp only [List.length_append] at *; omega) | (simp only [List.length_append, List.length_cons, List.length_nil] at *; omega))) (List.getD t.outs k zOut) (hs.2.2 _ (getD_memX (by omega))) _ ((ht.eachO _ (getD_memX (by omega))).later hH.chg (pen_up hH (i := 0) rfl)) (hH.pen (i := 0) rfl)) ?_
      rintro _ w21 ⟨rfl, hp⟩
      refine ⟨_, rfl, ?_⟩
      obtain ⟨y9, hH', hx, hxf, hgr⟩ := hH.penPost (i := 0) (l2 := l0 ++ put ((t.ins.length : Nat) : Int) ++ List.flatMap inB t.ins ++ put ((t.outs.length : Nat) : Int) ++ List.flatMap outB (List.take k t.outs) ++ outB (List.getD t.outs k zOut)) rfl (fun _ => rfl) hp
      clear hH hp
      have hH : Heap _ _ _ [_, _, _] := hH'
      clear hH'
      clear hxf hgr hx
      refine lf_nil ?_
      refine blk_n ?_
      refine then_n ?_
      refine wp_gen (fun F' => F' 0 = .pointer (some ⟨g, 0, none⟩) ∧ F' 1 = .agg (([t.vi.1, t.vo.1, .int .i64 t.kd, .int .i64 t.tw, .int .i64 t.ch, .int .i64 t.am] : List Value) ++ (cBs t.root.1 ++ ([t.vd.1, t.vs.1] : List Value))).toArray ∧ F' 2 = .bool false ∧ F' 4 = .pointer (some ⟨g1, 0, none⟩) ∧ F' 9 = .pointer (some ⟨g3, 0, none⟩) ∧ F' 17 = t.vi.1 ∧ F' 18 = .int .i64 ((t.ins.length : Nat) : Int) ∧ F' 19 = .int .i64 ((j : Nat) : Int) ∧ F' 20 = .bool false ∧ F' 47 = t.vo.1 ∧ F' 48 = .int .i64 ((t.outs.length : Nat) : Int) ∧ F' 49 = .int .i64 ((k : Nat) : Int) ∧ F' 50 = .bool true) ⟨e0, e1, e2, e4, e9, e17, e18, e19, e20, e47, e48, e49, e50⟩ ?_
      clear e0 e1 e2 e4 e9 e17 e18 e19 e20 e47 e48 e49 e50
      clear F
      rintro F ⟨e0, e1, e2, e4, e9, e17, e18, e19, e20, e47, e48, e49, e50⟩
      refine wp_regionF ?_
      refine lf_val (v := .int .i64 ((k + 1 : Nat) : Int)) (wantAll rfl) (rv_add rfl (fr_eval rfl e49) rfl (wrap_i64 (by omega) (by omega) (by omega))) ?_
      refine lf_val (v := .int .i64 ((k + 1 : Nat) : Int)) (wantAll rfl) (rv_move rfl (fr_eval rfl rfl)) ?_
      refine lf_nil ?_
      refine then_n ?_
      rw [show l0 ++ put ((t.ins.length : Nat) : Int) ++ List.flatMap inB t.ins ++ put ((t.outs.length : Nat) : Int) ++ List.flatMap outB (List.take k t.outs) ++ outB (List.getD t.outs k zOut) = l0 ++ put ((t.ins.length : Nat) : Int) ++ List.flatMap inB t.ins ++ put ((t.outs.length : Nat) : Int) ++ List.flatMap outB (List.take (k + 1) t.outs) from (by rw [← flat_next (f := outB) (d := zOut) (by omega : k < t.outs.length)]; simp only [List.append_assoc])] at hH
      replace hH : Heap _ _ _ [_, _] := hH.drop (.cons_cons _ (.cons_cons _ (.cons _ .slnil)))
      exact ⟨_, _, (by omega), rfl, k + 1, _, rfl, (by omega), e0, e1, e2, e4, e17, e18, e19, e20, e47, e48, rfl, hH⟩
    · refine wp_cond_false (fr_eval rfl (e50.trans (congrArg Value.bool (decide_eq_false hc2)))) ?_
      refine wp_exit ?_
      refine then_exit ?_
      refine then_exit ?_
      refine blk_exit ?_
      refine then_n ?_
      refine wp_seq ?_
      have qk2 := outsB_len hs t.outs.length
      rw [List.take_length] at qk2
      have qo := puts_len [t.kd, t.tw, t.ch, t.am]
      have qd := put_len ((t.data.length : Nat) : Int)
      have qr := t.root.2
      rw [show l0 ++ put ((t.ins.length : Nat) : Int) ++ List.flatMap inB t.ins ++ put ((t.outs.length : Nat) : Int) ++ List.flatMap outB (List.take k t.outs) = l0 ++ put ((t.ins.length : Nat) : Int) ++ List.flatMap inB t.ins ++ put ((t.outs.length : Nat) : Int) ++ List.flatMap outB t.outs from (by rw [List.take_of_length_le (by omega)])] at hH
      refine wp_regionF ?_
      refine lf_val (v := .pointer (some ⟨g1, 2, none⟩)) (wantAll rfl) (rv_fieldAddr (n := 36) rfl (fr_eval rfl e4) Try.underlying63 rfl rfl (by kernel_rfl)) ?_
      refine lf_val (wantAll rfl) (rv_loadP rfl (hH.blk (i := 1) rfl) (zTx_p18 t.root.2) (zTx_l17 t.root.2) (fr_eval rfl rfl) Try.underlying60 rfl Try.sz60) ?_
      refine lf_ex (wantAll rfl) (hx_alloc hH 60 (z := .agg (([.int .i64 0, .int .i64 0, .int .i64 0, .int .i64 0] : List Value) ++ (cBs (List.replicate 32 0) ++ ([.slice none 0 0] : List Value))).toArray) (n := 37) (cs := ([.int .i64 0, .int .i64 0, .int .i64 0, .int .i64 0] : List Value) ++ (cBs (List.replicate 32 0) ++ ([.slice none 0 0] : List Value))) rfl (by kernel_rfl) (by rfl)) ?_
      clear hH
      rintro _ w22 ⟨g4, rfl, hH, hx⟩
      replace hH : Heap _ _ _ [_, _, _] := hH
      clear hx
      refine lf_sk (wantAll rfl) (hx_storeW hH (i := 2) (cs := ([.int .i64 t.kd, .int .i64 t.tw, .int .i64 t.ch, .int .i64 t.am] : List Value) ++ (cBs t.root.1 ++ ([t.vd.1] : List Value))) rfl rfl rfl (fr_eval rfl rfl) (fr_eval rfl rfl) (sz_len Try.sz60 (zTx_l17 t.root.2)) (((zTx_l17 (List.length_replicate ..))).trans ((zTx_l17 t.root.2)).symm) (zTx_o19 rfl rfl rfl rfl (Rd.oneV ((ht.data).rd _ hH.chg)))) ?_
      clear hH
      rintro w23 ⟨hH, hx⟩
      replace hH : Heap _ _ _ [_, _, _] := hH
      clear hx
      refine lf_nil ?_
      refine then_n ?_
      refine wp_gen (fun F' => F' 0 = .pointer (some ⟨g, 0, none⟩) ∧ F' 1 = .agg (([t.vi.1, t.vo.1, .int .i64 t.kd, .int .i64 t.tw, .int .i64 t.ch, .int .i64 t.am] : List Value) ++ (cBs t.root.1 ++ ([t.vd.1, t.vs.1] : List Value))).toArray ∧ F' 2 = .bool false ∧ F' 4 = .pointer (some ⟨g1, 0, none⟩) ∧ F' 10 = .pointer (some ⟨g4, 0, none⟩) ∧ F' 17 = t.vi.1 ∧ F' 18 = .int .i64 ((t.ins.length : Nat) : Int) ∧ F' 19 = .int .i64 ((j : Nat) : Int) ∧ F' 20 = .bool false ∧ F' 47 = t.vo.1 ∧ F' 48 = .int .i64 ((t.outs.length : Nat) : Int) ∧ F' 49 = .int .i64 ((k : Nat) : Int) ∧ F' 50 = .bool false) ⟨e0, e1, e2, e4, rfl, e17, e18, e19, e20, e47, e48, e49, (e50.trans (congrArg Value.bool (decide_eq_false hc2)))⟩ ?_
      clear e0 e1 e2 e4 e17 e18 e19 e20 e47 e48 e49 e50
      clear F
      rintro F ⟨e0, e1, e2, e4, e10, e17, e18, e19, e20, e47, e48, e49, e50⟩
      have hs_2 := hH.fixed1 (j := 1) (i := 0) rfl rfl (by decide)
      have hs_7 := hH.fixed1 (j := 2) (i := 0) rfl rfl (by decide)
      have hKN := hH.sub1 (i := 0) rfl
      have hcK : Chg (newK w23 (oPen g yp (l0 ++ put ((t.ins.length : Nat) : Int) ++ List.flatMap inB t.ins ++ put ((t.outs.length : Nat) : Int) ++ List.flatMap outB t.outs)).fp) w23 w23 := Chg.refl _ _
      have hfM : ∀ k, (oPen g yp (l0 ++ put ((t.ins.length : Nat) : Int) ++ List.flatMap inB t.ins ++ put ((t.outs.length : Nat) : Int) ++ List.flatMap outB t.outs)).fp k → (newK w23 (oPen g yp (l0 ++ put ((t.ins.length : Nat) : Int) ++ List.flatMap inB t.ins ++ put ((t.outs.length : Nat) : Int) ++ List.flatMap outB t.outs)).fp) k := fun k h => Or.inr h
      refine wp_regionX (newK w23 (oPen g yp (l0 ++ put ((t.ins.length : Nat) : Int) ++ List.flatMap inB t.ins ++ put ((t.outs.length : Nat) : Int) ++ List.flatMap outB t.outs)).fp) 16 (by kernel_rfl) (by kernel_rfl) ?_
      refine xl_take (i := 0) (v := .pointer (some ⟨g, 0, none⟩)) rfl (by kernel_rfl) (by kernel_rfl) (by kernel_rfl) (by kernel_rfl) (yx_val (wantAll rfl) (fun w' hx' => rv_move rfl (fr_eval rfl e0))) ?_
      refine xl_take (i := 1) (v := .pointer (some ⟨g4, 0, none⟩)) rfl (by kernel_rfl) (by kernel_rfl) (by kernel_rfl) (by kernel_rfl) (yx_val (wantAll rfl) (fun w' hx' => rv_fieldAddr (n := 0) rfl (fr_eval rfl e10) Try.underlying60 rfl rfl (by kernel_rfl))) ?_
      refine xl_take (i := 2) (v := .int .i64 t.kd) rfl (by kernel_rfl) (by kernel_rfl) (by kernel_rfl) (by kernel_rfl) (yx_val (wantAll rfl) (fun w' hx' => rv_load1 rfl (hs_7 _ (hcK.trans hx')) (zTx_g20 t.root.2) (fr_eval rfl rfl) Try.underlying3 rfl Try.sz3)) ?_
      refine xl_take (i := 3) (v := .pointer (some ⟨g4, 1, none⟩)) rfl (by kernel_rfl) (by kernel_rfl) (by kernel_rfl) (by kernel_rfl) (yx_val (wantAll rfl) (fun w' hx' => rv_fieldAddr (n := 0) rfl (fr_eval rfl e10) Try.underlying60 rfl rfl (by kernel_rfl))) ?_
      refine xl_take (i := 4) (v := .int .i64 t.tw) rfl (by kernel_rfl) (by kernel_rfl) (by kernel_rfl) (by kernel_rfl) (yx_val (wantAll rfl) (fun w' hx' => rv_load1 rfl (hs_7 _ (hcK.trans hx')) (zTx_g21 t.root.2) (fr_eval rfl rfl) Try.underlying3 rfl Try.sz3)) ?_
      refine xl_take (i := 5) (v := .pointer (some ⟨g4, 2, none⟩)) rfl (by kernel_rfl) (by kernel_rfl) (by kernel_rfl) (by kernel_rfl) (yx_val (wantAll rfl) (fun w' hx' => rv_fieldAddr (n := 0) rfl (fr_eval rfl e10) Try.underlying60 rfl rfl (by kernel_rfl))) ?_
      refine xl_take (i := 6) (v := .int .i64 t.ch) rfl (by kernel_rfl) (by kernel_rfl) (by kernel_rfl) (by kernel_rfl) (yx_val (wantAll rfl) (fun w' hx' => rv_load1 rfl (hs_7 _ (hcK.trans hx')) (zTx_g22 t.root.2) (fr_eval rfl rfl) Try.underlying3 rfl Try.sz3)) ?_
      refine xl_take (i := 7) (v := .pointer (some ⟨g4, 3, none⟩)) rfl (by kernel_rfl) (by kernel_rfl) (by kernel_rfl) (by kernel_rfl) (yx_val (wantAll rfl) (fun w' hx' => rv_fieldAddr (n := 0) rfl (fr_eval rfl e10) Try.underlying60 rfl rfl (by kernel_rfl))) ?_
      refine xl_take (i := 8) (v := .int .i64 t.am) rfl (by kernel_rfl) (by kernel_rfl) (by kernel_rfl) (by kernel_rfl) (yx_val (wantAll rfl) (fun w' hx' => rv_load1 rfl (hs_7 _ (hcK.trans hx')) (zTx_g23 t.root.2) (fr_eval rfl rfl) Try.underlying2 rfl Try.sz2)) ?_
      refine xl_take (i := 11) (v := .pointer (some ⟨g4, 4, none⟩)) rfl (by kernel_rfl) (by kernel_rfl) (by kernel_rfl) (by kernel_rfl) (yx_val (wantAll rfl) (fun w' hx' => rv_fieldAddr (n := 31) rfl (fr_eval rfl e10) Try.underlying60 rfl rfl (by kernel_rfl))) ?_
      refine xl_take (i := 12) (v := .agg (cBs t.root.1).toArray) rfl (by kernel_rfl) (by kernel_rfl) (by kernel_rfl) (by kernel_rfl) (yx_val (wantAll rfl) (fun w' hx' => rv_loadP rfl (hs_7 _ (hcK.trans hx')) (zTx_p24 t.root.2) (cBs_len t.root.2) (fr_eval rfl rfl) Try.underlying23 rfl Try.sz23)) ?_
      refine xl_take (i := 14) (v := .pointer (some ⟨g4, 36, none⟩)) rfl (by kernel_rfl) (by kernel_rfl) (by kernel_rfl) (by kernel_rfl) (yx_val (wantAll rfl) (fun w' hx' => rv_fieldAddr (n := 0) rfl (fr_eval rfl e10) Try.underlying60 rfl rfl (by kernel_rfl))) ?_
      refine xl_take (i := 15) (v := t.vd.1) rfl (by kernel_rfl) (by kernel_rfl) (by kernel_rfl) (by kernel_rfl) (yx_val (wantAll rfl) (fun w' hx' => rv_load1 rfl (hs_7 _ (hcK.trans hx')) (zTx_g25 t.root.2) (fr_eval rfl rfl) Try.underlying58 rfl Try.sz58)) ?_
      refine anyX_ready (rs := [9]) (by kernel_rfl) ?_
      intro w24 hx
      replace hH := hH.ext hx
      replace hcK := hcK.trans (Ext.any hx)
      clear hx
      refine (anyX_cons ?_ anyX_nil)
      refine xl_step (i := 9) rfl (wantAll rfl) ?_
      refine of_ex (hx_lits hH Try.stInt (n := 4) (nm := List.length [t.kd, t.tw, t.ch, t.am]) [(.tmp 61), (.tmp 63), (.tmp 65), (.tmp 67)] (vs := [(.int .i64 t.kd), (.int .i64 t.tw), (.int .i64 t.ch), (.int .i64 t.am)]) (cs := List.flatMap cI [t.kd, t.tw, t.ch, t.am]) rfl (evc (fr_eval rfl rfl) (evc (fr_eval rfl rfl) (evc (fr_eval rfl rfl) (evc (fr_eval rfl rfl) evn)))) (row_one (l := [t.kd, t.tw, t.ch, t.am]) cI_one) rfl (by decide) rfl rfl) ?_
      clear hH
      rintro y10 w25 ⟨hH, hx⟩
      replace hH : Heap _ _ _ [_, _, _, _] := hH
      replace hcK := hcK.trans (Ext.any hx)
      refine ⟨(Ext.any hx), ?_⟩
      clear hx
      refine anyX_ready (rs := [10]) (by kernel_rfl) ?_
      intro w26 hx
      replace hH := hH.ext hx
      replace hcK := hcK.trans (Ext.any hx)
      clear hx
      refine (anyX_cons ?_ anyX_nil)
      refine xl_step (i := 10) rfl (wantAll rfl) ?_
      refine of_call (rv_call (args := [.pointer (some ⟨g, 0, none⟩), y10]) rfl (evc (fr_eval rfl rfl) (evc (fr_eval rfl rfl) evn)) Try.call41) (penNums_calls (in4J ht.i1 ht.i2 ht.i3 ht.i4) _ (Own.rd (hH.own (i := 3) rfl) (row_one cI_one)) (fun k hk h0 e => apart_at hH.apart (i := 3) (j := 0) rfl rfl (by decide) k hk (Or.inl e)) (fun k hk h0 h => apart_at hH.apart (i := 3) (j := 0) rfl rfl (by decide) k hk (Or.inr h)) (hH.pen (i := 0) rfl) (by (first | omega | (simp only [List.length_append] at *; omega) | (simp only [List.length_append, List.length_cons, List.length_nil] at *; omega)))) ?_
      rintro _ w27 ⟨rfl, hp⟩
      refine ⟨_, rfl, ?_⟩
      obtain ⟨y11, hH', hx, hxf, hgr⟩ := hH.penPost (i := 0) (l2 := l0 ++ put ((t.ins.length : Nat) : Int) ++ List.flatMap inB t.ins ++ put ((t.outs.length : Nat) : Int) ++ List.flatMap outB t.outs ++ puts [t.kd, t.tw, t.ch, t.am]) rfl (fun _ => rfl) hp
      clear hH hp
      have hH : Heap _ _ _ [_, _, _, _] := hH'
      clear hH'
      have hcx := hxf.mono (fun k _ hk => hfM k hk)
      replace hfM := grow1 (fun k h => Or.inl h) hcK.size hfM hgr
      replace hcK := hcK.trans hcx
      refine ⟨hcx, ?_⟩
      clear hcx hxf hgr hx
      refine anyX_ready (rs := [13]) (by kernel_rfl) ?_
      intro w28 hx
      replace hH := hH.ext hx
      replace hcK := hcK.trans (Ext.any hx)
      clear hx
      refine (anyX_cons ?_ anyX_nil)
      refine xl_step (i := 13) rfl (wantAll rfl) ?_
      refine of_call (rv_call (args := [.pointer (some ⟨g, 0, none⟩), .agg (cBs t.root.1).toArray]) rfl (evc (fr_eval rfl rfl) (evc (fr_eval rfl rfl) evn)) Try.call42) (penSum_calls t.root.1 t.root.2 _ (hH.pen (i := 0) rfl) (by (first | omega | (simp only [List.length_append] at *; omega) | (simp only [List.length_append, List.length_cons, List.length_nil] at *; omega)))) ?_
      rintro _ w29 ⟨rfl, hp⟩
      refine ⟨_, rfl, ?_⟩
      obtain ⟨y12, hH', hx, hxf, hgr⟩ := hH.penPost (i := 0) (l2 := l0 ++ put ((t.ins.length : Nat) : Int) ++ List.flatMap inB t.ins ++ put ((t.outs.length : Nat) : Int) ++ List.flatMap outB t.outs ++ puts [t.kd, t.tw, t.ch, t.am] ++ t.root.1) rfl (fun _ => rfl) hp
      clear hH hp
      have hH : Heap _ _ _ [_, _, _, _] := hH'
      clear hH'
      have hcx := hxf.mono (fun k _ hk => hfM k hk)
      replace hfM := grow1 (fun k h => Or.inl h) hcK.size hfM hgr
      replace hcK := hcK.trans hcx
      refine ⟨hcx, ?_⟩
      clear hcx hxf hgr hx
      refine xl_tail (s := 16) rfl ?_
      intro w30 hx
      replace hH := hH.ext hx
      clear hx
      clear hs_2 hs_7 hKN hcK hfM
      refine lf_call (wantAll rfl) (rv_call (args := [.pointer (some ⟨g, 0, none⟩), t.vd.1]) rfl (evc (fr_eval rfl rfl) (evc (fr_eval rfl rfl) evn)) Try.call43) (penText_calls (by omega) _ ((ht.data).rd _ hH.chg) (fun k hk h0 e => (ht.data).out _ hk h0 ((hH.one (i := 0) rfl).sub k (Or.inl e))) (fun k hk h0 h => (ht.data).out _ hk h0 ((hH.one (i := 0) rfl).sub k (Or.inr h))) (hH.pen (i := 0) rfl) (by (first | omega | (simp only [List.length_append] at *; omega) | (simp only [List.length_append, List.length_cons, List.length_nil] at *; omega)))) ?_
      rintro _ w31 ⟨rfl, hp⟩
      refine ⟨_, rfl, ?_⟩
      obtain ⟨y13, hH', hx, hxf, hgr⟩ := hH.penPost (i := 0) (l2 := l0 ++ put ((t.ins.length : Nat) : Int) ++ List.flatMap inB t.ins ++ put ((t.outs.length : Nat) : Int) ++ List.flatMap outB t.outs ++ puts [t.kd, t.tw, t.ch, t.am] ++ t.root.1 ++ put ((t.data.length : Nat) : Int) ++ t.data) rfl (fun _ => rfl) hp
      clear hH hp
      have hH : Heap _ _ _ [_, _, _, _] := hH'
      clear hH'
      clear hxf hgr hx
      refine lf_nil ?_
      exact bodyPost_end (v := .tuple #[]) (res0 rfl) rfl (⟨rfl, by have h := hH.endPen (i := 0) rfl; rw [show l0 ++ bodyB t = l0 ++ put ((t.ins.length : Nat) : Int) ++ List.flatMap inB t.ins ++ put ((t.outs.length : Nat) : Int) ++ List.flatMap outB t.outs ++ puts [t.kd, t.tw, t.ch, t.am] ++ t.root.1 ++ put ((t.data.length : Nat) : Int) ++ t.data from by simp only [bodyB, opB, List.append_assoc]]; exact h⟩)

def sumT (t : TxG) : S32 := ⟨join 41 [bodyB t], join_length _ _⟩

set_option maxRecDepth 100000 in
set_option maxHeartbeats 4000000 in
theorem txSum_calls (t : TxG) (hs : smT t) (w : World) (ht : StTx (newN w) w t) :
    Calls Try.prog 34 #[.agg (([t.vi.1, t.vo.1, .int .i64 t.kd, .int .i64 t.tw, .int .i64 t.ch, .int .i64 t.am] : List Value) ++ (cBs t.root.1 ++ ([t.vd.1, t.vs.1] : List Value))).toArray] w fun e'' w' => e'' = .returned (.agg (cBs (sumT t).1).toArray) ∧ Ext w w' := by
  refine calls_fr (args := [.agg (([t.vi.1, t.vo.1, .int .i64 t.kd, .int .i64 t.tw, .int .i64 t.ch, .int .i64 t.am] : List Value) ++ (cBs t.root.1 ++ ([t.vd.1, t.vs.1] : List Value))).toArray]) (n := 9) Try.func34 rfl rfl (show 1 ≤ 9 by decide) ?_
  have qb := bodyB_len hs
  have hH : Heap (newN w) w w [] := Heap.fresh
  refine wp_seq ?_
  refine wp_gen (fun F' => F' 0 = .agg (([t.vi.1, t.vo.1, .int .i64 t.kd, .int .i64 t.tw, .int .i64 t.ch, .int .i64 t.am] : List Value) ++ (cBs t.root.1 ++ ([t.vd.1, t.vs.1] : List Value))).toArray) rfl ?_
  rintro F e0
  refine wp_regionF ?_
  refine lf_ex (wantAll rfl) (hx_box hH 63 (cs := ([t.vi.1, t.vo.1, .int .i64 t.kd, .int .i64 t.tw, .int .i64 t.ch, .int .i64 t.am] : List Value) ++ (cBs t.root.1 ++ ([t.vd.1, t.vs.1] : List Value))) rfl (fr_eval rfl e0) (by rfl)) ?_
  clear hH
  rintro _ w1 ⟨g1, rfl, hH, hx⟩
  replace hH : Heap _ _ _ [_] := hH
  clear hx
  refine lf_ex (wantAll rfl) (hx_alloc hH 23 (z := .agg (cBs (List.replicate 32 0)).toArray) (n := 32) (cs := cBs (List.replicate 32 0)) rfl (by kernel_rfl) (by rfl)) ?_
  clear hH
  rintro _ w2 ⟨g2, rfl, hH, hx⟩
  replace hH : Heap _ _ _ [_, _] := hH
  clear hx
  refine lf_nil ?_
  refine then_n ?_
  refine wp_seq ?_
  refine wp_gen (fun F' => F' 0 = .agg (([t.vi.1, t.vo.1, .int .i64 t.kd, .int .i64 t.tw, .int .i64 t.ch, .int .i64 t.am] : List Value) ++ (cBs t.root.1 ++ ([t.vd.1, t.vs.1] : List Value))).toArray ∧ F' 1 = .pointer (some ⟨g1, 0, none⟩) ∧ F' 2 = .pointer (some ⟨g2, 0, none⟩)) ⟨e0, rfl, rfl⟩ ?_
  clear e0
  clear F
  rintro F ⟨e0, e1, e2⟩
  refine wp_regionF ?_
  refine lf_ex (wantAll rfl) (hx_alloc hH 76 (z := .agg ([.slice none 0 0]).toArray) (n := 1) (cs := [.slice none 0 0]) rfl (by kernel_rfl) (by rfl)) ?_
  clear hH
  rintro _ w3 ⟨g3, rfl, hH, hx⟩
  replace hH : Heap _ _ _ [_, _, _] := hH
  clear hx
  refine lf_nil ?_
  refine then_n ?_
  refine wp_seq ?_
  refine wp_gen (fun F' => F' 0 = .agg (([t.vi.1, t.vo.1, .int .i64 t.kd, .int .i64 t.tw, .int .i64 t.ch, .int .i64 t.am] : List Value) ++ (cBs t.root.1 ++ ([t.vd.1, t.vs.1] : List Value))).toArray ∧ F' 1 = .pointer (some ⟨g1, 0, none⟩) ∧ F' 2 = .pointer (some ⟨g2, 0, none⟩) ∧ F' 3 = .pointer (some ⟨g3, 0, none⟩)) ⟨e0, e1, e2, rfl⟩ ?_
  clear e0 e1 e2
  clear F
  rintro F ⟨e0, e1, e2, e3⟩
  refine wp_regionF ?_
  refine lf_val (wantAll rfl) (rv_loadW rfl (hH.blk (i := 0) rfl) (fr_eval rfl e1) Try.underlying63 rfl (sz_len Try.sz63 (zTx_l26 t.root.2))) ?_
  replace hH : Heap _ _ _ [_, _, _] := hH.toPen (i := 2) rfl rfl
  refine lf_call (wantAll rfl) (rv_call (args := [.pointer (some ⟨g3, 0, none⟩), .agg (([t.vi.1, t.vo.1, .int .i64 t.kd, .int .i64 t.tw, .int .i64 t.ch, .int .i64 t.am] : List Value) ++ (cBs t.root.1 ++ ([t.vd.1, t.vs.1] : List Value))).toArray, .bool false]) rfl (evc (fr_eval rfl e3) (evc (fr_eval rfl rfl) (evc rfl evn))) Try.call66) (txBody_calls [] (by decide) t hs _ (ht.later hH.chg (pen_up hH (i := 2) rfl)) (hH.pen (i := 2) rfl)) ?_
  rintro _ w4 ⟨rfl, hp⟩
  refine ⟨_, rfl, ?_⟩
  obtain ⟨y1, hH', hx, hxf, hgr⟩ := hH.penPost (i := 2) (l2 := [] ++ bodyB t) rfl (fun _ => rfl) hp
  clear hH hp
  have hH : Heap _ _ _ [_, _, _] := hH'
  clear hH'
  clear hxf hgr hx
  refine lf_nil ?_
  refine then_n ?_
  refine wp_seq ?_
  refine wp_gen (fun F' => F' 0 = .agg (([t.vi.1, t.vo.1, .int .i64 t.kd, .int .i64 t.tw, .int .i64 t.ch, .int .i64 t.am] : List Value) ++ (cBs t.root.1 ++ ([t.vd.1, t.vs.1] : List Value))).toArray ∧ F' 1 = .pointer (some ⟨g1, 0, none⟩) ∧ F' 2 = .pointer (some ⟨g2, 0, none⟩) ∧ F' 3 = .pointer (some ⟨g3, 0, none⟩)) ⟨e0, e1, e2, e3⟩ ?_
  clear e0 e1 e2 e3
  clear F
  rintro F ⟨e0, e1, e2, e3⟩
  refine wp_regionF ?_
  refine lf_call (wantAll rfl) (rv_call (args := [.pointer (some ⟨g3, 0, none⟩)]) rfl (evc (fr_eval rfl e3) evn) Try.call46) (penBytes_calls _ (hH.pen (i := 2) rfl) (by simp only [List.nil_append]; omega)) ?_
  rintro _ w5 ⟨⟨y2, rfl, ho, hg⟩, hx⟩
  refine ⟨_, rfl, ?_⟩
  replace hH : Heap _ _ _ [_, _, _, _] := hH.addOwn hx hg ho
  clear ho hg
  clear hx
  refine lf_ex (wantAll rfl) (hx_lits hH Try.stBB (n := 1) (nm := 1) [(.tmp 6)] (vs := [y2]) rfl (evc (fr_eval rfl rfl) evn) (ones_cons (Rd.oneV (OwnB.rd (hH.own (i := 3) rfl))) ones_nil) rfl (by decide) rfl rfl) ?_
  clear hH
  rintro y3 w6 ⟨hH, hx⟩
  replace hH : Heap _ _ _ [_, _, _, _, _] := hH
  clear hx
  refine lf_call (wantAll rfl) (rv_call (args := [cB 41, y3]) rfl (evc rfl (evc (fr_eval rfl rfl) evn)) Try.call45) (join_calls 41 [[] ++ bodyB t] (flat_le1 (by simp only [List.nil_append]; omega)) _ _ (rdP_own (hH.own (i := 4) rfl) (.cons (OwnB.rd (hH.own (i := 3) rfl)) .nil) rfl)) ?_
  rintro _ w7 ⟨rfl, hx⟩
  refine ⟨_, rfl, ?_⟩
  replace hH := hH.ext hx
  clear hx
  refine lf_sk (wantAll rfl) (hx_storeW hH (i := 1) (cs := cBs (join 41 [[] ++ bodyB t])) rfl rfl rfl (fr_eval rfl e2) (fr_eval rfl rfl) (sz_len Try.sz23 (cBs_len (join_length _ _))) (((cBs_len (List.length_replicate ..))).trans ((cBs_len (join_length _ _))).symm) ((cBs_one _))) ?_
  clear hH
  rintro w8 ⟨hH, hx⟩
  replace hH : Heap _ _ _ [_, _, _, _, _] := hH
  clear hx
  refine lf_nil ?_
  refine then_n ?_
  replace hH : Heap _ _ _ [_, _, _] := hH.drop (.cons_cons _ (.cons_cons _ (.cons_cons _ (.cons _ (.cons _ .slnil)))))
  refine wp_gen (fun F' => F' 0 = .agg (([t.vi.1, t.vo.1, .int .i64 t.kd, .int .i64 t.tw, .int .i64 t.ch, .int .i64 t.am] : List Value) ++ (cBs t.root.1 ++ ([t.vd.1, t.vs.1] : List Value))).toArray ∧ F' 1 = .pointer (some ⟨g1, 0, none⟩) ∧ F' 2 = .pointer (some ⟨g2, 0, none⟩) ∧ F' 3 = .pointer (some ⟨g3, 0, none⟩)) ⟨e0, e1, e2, e3⟩ ?_
  clear e0 e1 e2 e3
  clear F
  rintro F ⟨e0, e1, e2, e3⟩
  refine wp_ret ?_
  exact bodyPost_ret (v := (.agg (cBs (join 41 [[] ++ bodyB t])).toArray)) (res1 rfl (ro_cell rfl e2 (hH.blk (i := 1) rfl) Try.underlying23 rfl (sz_len Try.sz23 (cBs_len (join_length _ _))))) rfl (⟨rfl, hH.done⟩)

end Go.Proofs.Ytokddhidcjkadaa
