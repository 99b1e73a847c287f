/- Chapter 29's laws: the walk of NetPlays. -/
import Derived.Test.YtjgcjddaladgfaaLaw29b
namespace Go.Proofs.Ytjgcjddaladgfaa
open Go.RowKit Go.Bz Go.Bz.Wire Go.Bz.Rcpt Go.Bz.Talk
attribute [local irreducible] wpList Code.wp wpAnyX

theorem zLp_l0 {a0 : Value} {a1 : Value} {a2 : Value} {a3 : Value} {a4 : Value} {a5 : Value} {a6 : Value} {a7 : Value} {a8 : Value} {a9 : List UInt8} (ha9 : a9.length = 32) {a10 : List UInt8} (ha10 : a10.length = 32) {a11 : Value} {a12 : List UInt8} (ha12 : a12.length = 32) {a13 : Value} {a14 : List UInt8} (ha14 : a14.length = 32) {a15 : Value} {a16 : Value} {a17 : List UInt8} (ha17 : a17.length = 32) {a18 : Value} {a19 : Value} {a20 : Value} {a21 : Value} {a22 : List UInt8} (ha22 : a22.length = 32) {a23 : List UInt8} (ha23 : a23.length = 32) {a24 : Value} {a25 : Value} : List.length (([a0, a1, a2, a3, a4, a5, a6, a7, a8] : List Value) ++ (cBs a9 ++ (cBs a10 ++ (([a11] : List Value) ++ (cBs a12 ++ (([a13] : List Value) ++ (cBs a14 ++ (([a15, a16] : List Value) ++ (cBs a17 ++ (([a18, a19, a20, a21] : List Value) ++ (cBs a22 ++ (cBs a23 ++ ([a24, a25] : List Value))))))))))))) = 243 := (len_app (m := 9) (n := 234) (k := 243) rfl (len_app (m := 32) (n := 202) (k := 234) (cBs_len ha9) (len_app (m := 32) (n := 170) (k := 202) (cBs_len ha10) (len_app (m := 1) (n := 169) (k := 170) rfl (len_app (m := 32) (n := 137) (k := 169) (cBs_len ha12) (len_app (m := 1) (n := 136) (k := 137) rfl (len_app (m := 32) (n := 104) (k := 136) (cBs_len ha14) (len_app (m := 2) (n := 102) (k := 104) rfl (len_app (m := 32) (n := 70) (k := 102) (cBs_len ha17) (len_app (m := 4) (n := 66) (k := 70) rfl (len_app (m := 32) (n := 34) (k := 66) (cBs_len ha22) (len_app (m := 32) (n := 2) (k := 34) (cBs_len ha23) rfl rfl) rfl) rfl) rfl) rfl) rfl) rfl) rfl) rfl) rfl) rfl) rfl)
theorem zLp_o1 {a0 : Value} {a1 : Value} {a2 : Value} {a3 : Value} {a4 : Value} {a5 : Value} {a6 : Value} {a7 : Value} {a8 : Value} {a9 : List UInt8} {a10 : List UInt8} {a11 : Value} {a12 : List UInt8} {a13 : Value} {a14 : List UInt8} {a15 : Value} {a16 : Value} {a17 : List UInt8} {a18 : Value} {a19 : Value} {a20 : Value} {a21 : Value} {a22 : List UInt8} {a23 : List UInt8} {a24 : Value} {a25 : Value} (qa0 : a0.oneCell' = true) (qa1 : a1.oneCell' = true) (qa2 : a2.oneCell' = true) (qa3 : a3.oneCell' = true) (qa4 : a4.oneCell' = true) (qa5 : a5.oneCell' = true) (qa6 : a6.oneCell' = true) (qa7 : a7.oneCell' = true) (qa8 : a8.oneCell' = true) (qa11 : a11.oneCell' = true) (qa13 : a13.oneCell' = true) (qa15 : a15.oneCell' = true) (qa16 : a16.oneCell' = true) (qa18 : a18.oneCell' = true) (qa19 : a19.oneCell' = true) (qa20 : a20.oneCell' = true) (qa21 : a21.oneCell' = true) (qa24 : a24.oneCell' = true) (qa25 : a25.oneCell' = true) : ∀ u ∈ (([a0, a1, a2, a3, a4, a5, a6, a7, a8] : List Value) ++ (cBs a9 ++ (cBs a10 ++ (([a11] : List Value) ++ (cBs a12 ++ (([a13] : List Value) ++ (cBs a14 ++ (([a15, a16] : List Value) ++ (cBs a17 ++ (([a18, a19, a20, a21] : List Value) ++ (cBs a22 ++ (cBs a23 ++ ([a24, a25] : List Value))))))))))))), u.oneCell' = true := (ones_app (ones_cons qa0 (ones_cons qa1 (ones_cons qa2 (ones_cons qa3 (ones_cons qa4 (ones_cons qa5 (ones_cons qa6 (ones_cons qa7 (ones_cons qa8 ones_nil))))))))) (ones_app (cBs_one _) (ones_app (cBs_one _) (ones_app (ones_cons qa11 ones_nil) (ones_app (cBs_one _) (ones_app (ones_cons qa13 ones_nil) (ones_app (cBs_one _) (ones_app (ones_cons qa15 (ones_cons qa16 ones_nil)) (ones_app (cBs_one _) (ones_app (ones_cons qa18 (ones_cons qa19 (ones_cons qa20 (ones_cons qa21 ones_nil)))) (ones_app (cBs_one _) (ones_app (cBs_one _) (ones_cons qa24 (ones_cons qa25 ones_nil))))))))))))))
theorem zLp_g2 {a0 : Value} {a1 : Value} {a2 : Value} {a3 : Value} {a4 : Value} {a5 : Value} {a6 : Value} {a7 : Value} {a8 : Value} {a9 : List UInt8} (ha9 : a9.length = 32) {a10 : List UInt8} (ha10 : a10.length = 32) {a11 : Value} {a12 : List UInt8} (ha12 : a12.length = 32) {a13 : Value} {a14 : List UInt8} (ha14 : a14.length = 32) {a15 : Value} {a16 : Value} {a17 : List UInt8} (ha17 : a17.length = 32) {a18 : Value} {a19 : Value} {a20 : Value} {a21 : Value} {a22 : List UInt8} (_ : a22.length = 32) {a23 : List UInt8} (_ : a23.length = 32) {a24 : Value} {a25 : Value} : (([a0, a1, a2, a3, a4, a5, a6, a7, a8] : List Value) ++ (cBs a9 ++ (cBs a10 ++ (([a11] : List Value) ++ (cBs a12 ++ (([a13] : List Value) ++ (cBs a14 ++ (([a15, a16] : List Value) ++ (cBs a17 ++ (([a18, a19, a20, a21] : List Value) ++ (cBs a22 ++ (cBs a23 ++ ([a24, a25] : List Value)))))))))))))[173]? = some a18 := (get_of (cs := ([a0, a1, a2, a3, a4, a5, a6, a7, a8] : List Value) ++ (cBs a9 ++ (cBs a10 ++ (([a11] : List Value) ++ (cBs a12 ++ (([a13] : List Value) ++ (cBs a14 ++ (([a15, a16] : List Value) ++ (cBs a17 ++ (([a18, a19, a20, a21] : List Value) ++ (cBs a22 ++ (cBs a23 ++ ([a24, a25] : List Value))))))))))))) (A := (([a0, a1, a2, a3, a4, a5, a6, a7, a8] : List Value) ++ (cBs a9 ++ (cBs a10 ++ (([a11] : List Value) ++ (cBs a12 ++ (([a13] : List Value) ++ (cBs a14 ++ (([a15, a16] : List Value) ++ cBs a17))))))) : List Value)) (D := ([a18, a19, a20, a21] : List Value)) (C := (cBs a22 ++ (cBs a23 ++ ([a24, a25] : List Value)) : List Value)) (o := 173) (j := 0) (by simp) (len_app (m := 9) (n := 164) (k := 173) rfl (len_app (m := 32) (n := 132) (k := 164) (cBs_len ha9) (len_app (m := 32) (n := 100) (k := 132) (cBs_len ha10) (len_app (m := 1) (n := 99) (k := 100) rfl (len_app (m := 32) (n := 67) (k := 99) (cBs_len ha12) (len_app (m := 1) (n := 66) (k := 67) rfl (len_app (m := 32) (n := 34) (k := 66) (cBs_len ha14) (len_app (m := 2) (n := 32) (k := 34) rfl (cBs_len ha17) rfl) rfl) rfl) rfl) rfl) rfl) rfl) rfl) rfl (show ([a18, a19, a20, a21] : List Value)[0]? = some (a18) from rfl))
theorem zLp_g3 {a0 : Value} {a1 : Value} {a2 : Value} {a3 : Value} {a4 : Value} {a5 : Value} {a6 : Value} {a7 : Value} {a8 : Value} {a9 : List UInt8} (ha9 : a9.length = 32) {a10 : List UInt8} (ha10 : a10.length = 32) {a11 : Value} {a12 : List UInt8} (ha12 : a12.length = 32) {a13 : Value} {a14 : List UInt8} (ha14 : a14.length = 32) {a15 : Value} {a16 : Value} {a17 : List UInt8} (ha17 : a17.length = 32) {a18 : Value} {a19 : Value} {a20 : Value} {a21 : Value} {a22 : List UInt8} (ha22 : a22.length = 32) {a23 : List UInt8} (ha23 : a23.length = 32) {a24 : Value} {a25 : Value} : (([a0, a1, a2, a3, a4, a5, a6, a7, a8] : List Value) ++ (cBs a9 ++ (cBs a10 ++ (([a11] : List Value) ++ (cBs a12 ++ (([a13] : List Value) ++ (cBs a14 ++ (([a15, a16] : List Value) ++ (cBs a17 ++ (([a18, a19, a20, a21] : List Value) ++ (cBs a22 ++ (cBs a23 ++ ([a24, a25] : List Value)))))))))))))[241]? = some a24 := (get_of (cs := ([a0, a1, a2, a3, a4, a5, a6, a7, a8] : List Value) ++ (cBs a9 ++ (cBs a10 ++ (([a11] : List Value) ++ (cBs a12 ++ (([a13] : List Value) ++ (cBs a14 ++ (([a15, a16] : List Value) ++ (cBs a17 ++ (([a18, a19, a20, a21] : List Value) ++ (cBs a22 ++ (cBs a23 ++ ([a24, a25] : List Value))))))))))))) (A := (([a0, a1, a2, a3, a4, a5, a6, a7, a8] : List Value) ++ (cBs a9 ++ (cBs a10 ++ (([a11] : List Value) ++ (cBs a12 ++ (([a13] : List Value) ++ (cBs a14 ++ (([a15, a16] : List Value) ++ (cBs a17 ++ (([a18, a19, a20, a21] : List Value) ++ (cBs a22 ++ cBs a23)))))))))) : List Value)) (D := ([a24, a25] : List Value)) (C := ([] : List Value)) (o := 241) (j := 0) (by simp) (len_app (m := 9) (n := 232) (k := 241) rfl (len_app (m := 32) (n := 200) (k := 232) (cBs_len ha9) (len_app (m := 32) (n := 168) (k := 200) (cBs_len ha10) (len_app (m := 1) (n := 167) (k := 168) rfl (len_app (m := 32) (n := 135) (k := 167) (cBs_len ha12) (len_app (m := 1) (n := 134) (k := 135) rfl (len_app (m := 32) (n := 102) (k := 134) (cBs_len ha14) (len_app (m := 2) (n := 100) (k := 102) rfl (len_app (m := 32) (n := 68) (k := 100) (cBs_len ha17) (len_app (m := 4) (n := 64) (k := 68) rfl (len_app (m := 32) (n := 32) (k := 64) (cBs_len ha22) (cBs_len ha23) rfl) rfl) rfl) rfl) rfl) rfl) rfl) rfl) rfl) rfl) rfl) rfl (show ([a24, a25] : List Value)[0]? = some (a24) from rfl))
theorem zLp_g4 {a0 : Value} {a1 : Value} {a2 : Value} {a3 : Value} {a4 : Value} {a5 : Value} {a6 : Value} {a7 : Value} {a8 : Value} {a9 : List UInt8} (ha9 : a9.length = 32) {a10 : List UInt8} (ha10 : a10.length = 32) {a11 : Value} {a12 : List UInt8} (ha12 : a12.length = 32) {a13 : Value} {a14 : List UInt8} (ha14 : a14.length = 32) {a15 : Value} {a16 : Value} {a17 : List UInt8} (ha17 : a17.length = 32) {a18 : Value} {a19 : Value} {a20 : Value} {a21 : Value} {a22 : List UInt8} (ha22 : a22.length = 32) {a23 : List UInt8} (ha23 : a23.length = 32) {a24 : Value} {a25 : Value} : (([a0, a1, a2, a3, a4, a5, a6, a7, a8] : List Value) ++ (cBs a9 ++ (cBs a10 ++ (([a11] : List Value) ++ (cBs a12 ++ (([a13] : List Value) ++ (cBs a14 ++ (([a15, a16] : List Value) ++ (cBs a17 ++ (([a18, a19, a20, a21] : List Value) ++ (cBs a22 ++ (cBs a23 ++ ([a24, a25] : List Value)))))))))))))[242]? = some a25 := (get_of (cs := ([a0, a1, a2, a3, a4, a5, a6, a7, a8] : List Value) ++ (cBs a9 ++ (cBs a10 ++ (([a11] : List Value) ++ (cBs a12 ++ (([a13] : List Value) ++ (cBs a14 ++ (([a15, a16] : List Value) ++ (cBs a17 ++ (([a18, a19, a20, a21] : List Value) ++ (cBs a22 ++ (cBs a23 ++ ([a24, a25] : List Value))))))))))))) (A := (([a0, a1, a2, a3, a4, a5, a6, a7, a8] : List Value) ++ (cBs a9 ++ (cBs a10 ++ (([a11] : List Value) ++ (cBs a12 ++ (([a13] : List Value) ++ (cBs a14 ++ (([a15, a16] : List Value) ++ (cBs a17 ++ (([a18, a19, a20, a21] : List Value) ++ (cBs a22 ++ cBs a23)))))))))) : List Value)) (D := ([a24, a25] : List Value)) (C := ([] : List Value)) (o := 241) (j := 1) (by simp) (len_app (m := 9) (n := 232) (k := 241) rfl (len_app (m := 32) (n := 200) (k := 232) (cBs_len ha9) (len_app (m := 32) (n := 168) (k := 200) (cBs_len ha10) (len_app (m := 1) (n := 167) (k := 168) rfl (len_app (m := 32) (n := 135) (k := 167) (cBs_len ha12) (len_app (m := 1) (n := 134) (k := 135) rfl (len_app (m := 32) (n := 102) (k := 134) (cBs_len ha14) (len_app (m := 2) (n := 100) (k := 102) rfl (len_app (m := 32) (n := 68) (k := 100) (cBs_len ha17) (len_app (m := 4) (n := 64) (k := 68) rfl (len_app (m := 32) (n := 32) (k := 64) (cBs_len ha22) (cBs_len ha23) rfl) rfl) rfl) rfl) rfl) rfl) rfl) rfl) rfl) rfl) rfl) rfl (show ([a24, a25] : List Value)[1]? = some (a25) from rfl))
theorem zLp_g5 {a0 : Value} {a1 : Value} : ([a0, a1])[0]? = some a0 := rfl
theorem zLp_g6 {a0 : Value} {a1 : Value} : ([a0, a1])[1]? = some a1 := rfl
theorem zLp_l7 {a0 : Value} {a1 : Value} : List.length ([a0, a1]) = 2 := (show List.length [a0, a1] = 2 from rfl)
theorem zLp_o8 {a0 : Value} {a1 : Value} (qa0 : a0.oneCell' = true) (qa1 : a1.oneCell' = true) : ∀ u ∈ ([a0, a1]), u.oneCell' = true := (ones_cons qa0 (ones_cons qa1 ones_nil))
/-- A call. -/
structure O29 where
  k : Int
  i : Int
  t : Int
  u : Ms
  vb : V1
  vg : V1
  dv : V1
  bl : List UInt8
  sg : List UInt8
  d : List UInt8
def cO29 (x : O29) : List Value := ([.int .i64 x.k, .int .i64 x.i, .int .i64 x.t, .int .i64 x.u.k, .int .i64 x.u.a, .int .i64 x.u.b, .int .i64 x.u.c0, .int .i64 x.u.c1, .int .i64 x.u.c2] : List Value) ++ (cBs x.u.h0.1 ++ (cBs x.u.h1.1 ++ (([.int .i64 x.u.g] : List Value) ++ (cBs x.u.o.1 ++ (([.int .i64 x.u.n] : List Value) ++ (cBs x.u.x.1 ++ (([.int .i64 x.u.jc, .int .i64 x.u.js] : List Value) ++ (cBs x.u.jh.1 ++ (([x.vb.1, .int .i64 x.u.r.t, .int .i64 x.u.r.c, .int .i64 x.u.r.s] : List Value) ++ (cBs x.u.r.h.1 ++ (cBs x.u.r.b.1 ++ ([x.vg.1, x.dv.1] : List Value))))))))))))
def zO29 : O29 := ⟨0, 0, 0, zM, zV1, zV1, zV1, [], [], []⟩
theorem cO29_ln (x : O29) : (cO29 x).length = 243 := (zLp_l0 x.u.h0.2 x.u.h1.2 x.u.o.2 x.u.x.2 x.u.jh.2 x.u.r.h.2 x.u.r.b.2)
theorem cO29_len {l : List O29} : ∀ x ∈ l, (cO29 x).length = 243 := fun x _ => cO29_ln x
theorem cO29_one (x : O29) : ∀ u ∈ cO29 x, u.oneCell' = true := zLp_o1 rfl rfl rfl rfl rfl rfl rfl rfl rfl rfl rfl rfl rfl x.vb.2 rfl rfl rfl x.vg.2 x.dv.2
theorem forK_pre (ls : List Lt) (z : Int) : ∀ n m, n ≤ m → ∃ r, forK ls z m = forK ls z n ++ r := by
  intro n m
  induction m with
  | zero => intro h; obtain rfl : n = 0 := by omega
            exact ⟨[], by simp⟩
  | succ m ih =>
    intro h
    by_cases e : n = m + 1
    · subst e; exact ⟨[], by simp⟩
    · obtain ⟨r, hr⟩ := ih (by omega)
      by_cases hz : (ls.getD m zLt).to = z
      · exact ⟨r ++ [m], by rw [← forK_yes hz, hr, List.append_assoc]⟩
      · exact ⟨r, by rw [← forK_no hz, hr]⟩
theorem forK_at {ls : List Lt} {z : Int} {j n : Nat} (hj : j < n) (h : (ls.getD j zLt).to = z) : (forK ls z j).length < (forK ls z n).length ∧ (forK ls z n).getD (forK ls z j).length 0 = j := by
  obtain ⟨r, hr⟩ := forK_pre ls z (j + 1) n (by omega)
  rw [← forK_yes h] at hr
  rw [hr]
  refine ⟨by simp, ?_⟩
  simp [List.getD_eq_getElem?_getD, List.getElem?_append]

set_option maxRecDepth 100000 in
set_option maxHeartbeats 4000000 in
theorem netPlays_walk (l : List O29) (v : Value) (z : Int) (w : World) (hr0 : Rd w 243 v l.length (l.flatMap cO29)) (hy0 : ∀ x ∈ l, Rd w 1 x.vb.1 x.bl.length (cBs x.bl) ∧ Rd w 1 x.vg.1 x.sg.length (cBs x.sg) ∧ Rd w 1 x.dv.1 x.d.length (cBs x.d)) (hin : ∀ x ∈ l, inMs x.u) :
    Calls Try.prog 9 #[v, .int .i64 z] w fun e'' w' => e'' = .returned (.bool true) ∧ Ext w w' := by
  refine calls_fr (args := [v, .int .i64 z]) (n := 149) Try.func9 rfl rfl (show 2 ≤ 149 by decide) ?_
  have hr := Rd.stab hr0
  have hy := fun x hx => (⟨Rd.stab (hy0 x hx).1, Rd.stab (hy0 x hx).2.1, Rd.stab (hy0 x hx).2.2⟩ : Stab (newN w) w 1 x.vb.1 x.bl.length (cBs x.bl) ∧ Stab (newN w) w 1 x.vg.1 x.sg.length (cBs x.sg) ∧ Stab (newN w) w 1 x.dv.1 x.d.length (cBs x.d))
  have hzd : ∀ x ∈ l, ∀ k, x.dv.1.ownBlock = some k → 0 < x.d.length → (fun k => k < w.heap.size) k := fun x hx k h1 h2 => Rd.lt (hy0 x hx).2.2 (by simpa using h2) k h1
  have hZ : ∀ k, newN w k → ¬ (fun k => k < w.heap.size) k := fun k h1 h2 => absurd h2 (Nat.not_lt.2 h1)
  have h00 : ([] : List Lt).length = 0 := rfl
  have hH : Heap (newN w) w w [] := Heap.fresh
  refine wp_seq ?_
  refine wp_gen (fun F' => F' 0 = v ∧ F' 1 = .int .i64 z) ⟨rfl, rfl⟩ ?_
  rintro F ⟨e0, e1⟩
  refine wp_regionF ?_
  refine lf_val (v := .bool false) (wantAll rfl) (rv_assign rfl rfl) ?_
  refine lf_nil ?_
  refine then_n ?_
  refine wp_seq ?_
  refine wp_gen (fun F' => F' 0 = v ∧ F' 1 = .int .i64 z ∧ F' 4 = .bool false) ⟨e0, e1, rfl⟩ ?_
  clear e0 e1
  clear F
  rintro F ⟨e0, e1, e4⟩
  refine wp_regionF ?_
  refine lf_val (v := .agg #[.slice none 0 0, .int .i64 0]) (wantAll rfl) (rv_buildS (ps := []) (places := #[(0, 1), (1, 1)]) (z := .agg #[.slice none 0 0, .int .i64 0]) (zc := [.slice none 0 0, .int .i64 0]) (cs := [.slice none 0 0, .int .i64 0]) rfl evpn (by kernel_rfl) rfl Try.underlying69 (fun _ => by kernel_rfl) fill0) ?_
  refine lf_ex (wantAll rfl) (hx_box hH 69 (cs := [.slice none 0 0, .int .i64 0]) rfl (fr_eval rfl rfl) (by rfl)) ?_
  clear hH
  rintro _ w1 ⟨g1, rfl, hH, hx⟩
  replace hH : Heap _ _ _ [_] := hH
  clear hx
  refine lf_val (v := .pointer (some ⟨g1, 0, none⟩)) (wantAll rfl) (rv_assign rfl (fr_eval rfl rfl)) ?_
  refine lf_nil ?_
  refine then_n ?_
  refine wp_seq ?_
  refine wp_gen (fun F' => F' 0 = v ∧ F' 1 = .int .i64 z ∧ F' 4 = .bool false ∧ F' 5 = .pointer (some ⟨g1, 0, none⟩)) ⟨e0, e1, e4, rfl⟩ ?_
  clear e0 e1 e4
  clear F
  rintro F ⟨e0, e1, e4, e5⟩
  refine wp_regionF ?_
  refine lf_val (v := .agg #[.slice none 0 0, .int .i64 0]) (wantAll rfl) (rv_buildS (ps := []) (places := #[(0, 1), (1, 1)]) (z := .agg #[.slice none 0 0, .int .i64 0]) (zc := [.slice none 0 0, .int .i64 0]) (cs := [.slice none 0 0, .int .i64 0]) rfl evpn (by kernel_rfl) rfl Try.underlying72 (fun _ => by kernel_rfl) fill0) ?_
  refine lf_ex (wantAll rfl) (hx_box hH 72 (cs := [.slice none 0 0, .int .i64 0]) rfl (fr_eval rfl rfl) (by rfl)) ?_
  clear hH
  rintro _ w2 ⟨g2, rfl, hH, hx⟩
  replace hH : Heap _ _ _ [_, _] := hH
  clear hx
  refine lf_val (v := .pointer (some ⟨g2, 0, none⟩)) (wantAll rfl) (rv_assign rfl (fr_eval rfl rfl)) ?_
  refine lf_nil ?_
  refine then_n ?_
  refine wp_seq ?_
  refine wp_seq ?_
  refine wp_gen (fun F' => F' 0 = v ∧ F' 1 = .int .i64 z ∧ F' 4 = .bool false ∧ F' 5 = .pointer (some ⟨g1, 0, none⟩) ∧ F' 6 = .pointer (some ⟨g2, 0, none⟩)) ⟨e0, e1, e4, e5, rfl⟩ ?_
  clear e0 e1 e4 e5
  clear F
  rintro F ⟨e0, e1, e4, e5, e6⟩
  replace hH : Heap _ _ _ [_, _, _] := hH.addNil 87 2
  replace hH : Heap (newN w) w w2 [oBlk g1 ([(.slice none 0 0), .int .i64 0]) 69, oBlk g2 ([.slice none 0 0, .int .i64 0]) 72, oRow cLt 87 2 (.slice none 0 0) [], oBag (fun k => k < w.heap.size) (fun _ => False) []] := hH.addBag0 (fun k => k < w.heap.size)
  replace hH : Heap (newN w) w w2 [oBlk g1 ([(.slice none 0 0), .int .i64 ((0 : Nat) : Int)]) 69, oBlk g2 ([.slice none 0 0, .int .i64 0]) 72, oRow cLt 87 2 (.slice none 0 0) [], oBag (fun k => k < w.heap.size) (fun _ => False) []] := hH
  replace hH : Heap _ _ _ [_, _, _, _, _] := hH.addNil 87 2
  replace hH : Heap (newN w) w w2 [oBlk g1 ([(.slice none 0 0), .int .i64 ((0 : Nat) : Int)]) 69, oBlk g2 ([(.slice none 0 0), .int .i64 0]) 72, oRow cLt 87 2 (.slice none 0 0) [], oBag (fun k => k < w.heap.size) (fun _ => False) [], oRow cLt 87 2 (.slice none 0 0) [], oBag (fun k => k < w.heap.size) (fun _ => False) []] := hH.addBag0 (fun k => k < w.heap.size)
  replace hH : Heap (newN w) w w2 [oBlk g1 ([(.slice none 0 0), .int .i64 ((0 : Nat) : Int)]) 69, oBlk g2 ([(.slice none 0 0), .int .i64 ((0 : Nat) : Int)]) 72, oRow cLt 87 2 (.slice none 0 0) [], oBag (fun k => k < w.heap.size) (fun _ => False) [], oRow cLt 87 2 (.slice none 0 0) [], oBag (fun k => k < w.heap.size) (fun _ => False) []] := hH
  refine wp_regionF ?_
  refine lf_val (v := .int .i64 0) (wantAll rfl) (rv_assign rfl rfl) ?_
  refine lf_nil ?_
  refine then_n ?_
  refine wp_block ?_
  refine wp_gen (fun F' => F' 0 = v ∧ F' 1 = .int .i64 z ∧ F' 4 = .bool false ∧ F' 5 = .pointer (some ⟨g1, 0, none⟩) ∧ F' 6 = .pointer (some ⟨g2, 0, none⟩) ∧ F' 7 = .int .i64 0) ⟨e0, e1, e4, e5, e6, rfl⟩ ?_
  clear e0 e1 e4 e5 e6
  clear F
  rintro F ⟨e0, e1, e4, e5, e6, e7⟩
  refine wp_loopF (fun m F wr => ∃ i : Nat, ∃ ls : List Lt, ∃ lost : Nat, ∃ v1 : Value, ∃ S1 : Nat → Prop, ∃ ps : List Lt, ∃ plost : Nat, ∃ v2 : Value, ∃ S2 : Nat → Prop, m = l.length - i ∧ i ≤ l.length ∧ i ≤ 100 ∧ ls.length ≤ 64 ∧ lost ≤ i ∧ kst ls lost = kst ps plost ∧ Bd (kys ls) ∧ F 0 = v ∧ F 1 = .int .i64 z ∧ F 5 = .pointer (some ⟨g1, 0, none⟩) ∧ F 6 = .pointer (some ⟨g2, 0, none⟩) ∧ F 7 = .int .i64 ((i : Nat) : Int) ∧ Heap (newN w) w wr [oBlk g1 ([v1, .int .i64 ((lost : Nat) : Int)]) 69, oBlk g2 ([v2, .int .i64 ((plost : Nat) : Int)]) 72, oRow cLt 87 2 v1 ls, oBag (fun k => k < w.heap.size) S1 ls, oRow cLt 87 2 v2 ps, oBag (fun k => k < w.heap.size) S2 ps]) ⟨0, [], 0, _, _, [], 0, _, _, rfl, Nat.zero_le _, Nat.zero_le _, (by omega), Nat.zero_le _, rfl, (fun k hk => by simp at hk), e0, e1, e5, e6, e7, hH⟩ ?_
  clear e0 e1 e4 e5 e6 e7 hH
  clear F
  rintro m F w3 ⟨i, ls, lost, v1, S1, ps, plost, v2, S2, rfl, pi0, pi1, pi2, pi3, pi4, pi5, e0, e1, e5, e6, e7, hH⟩
  refine wp_seq ?_
  refine wp_seq ?_
  refine wp_regionF ?_
  refine lf_val (v := .int .i64 ((i : Nat) : Int)) (wantAll rfl) (rv_move rfl (fr_eval rfl e7)) ?_
  refine lf_val (v := v) (wantAll rfl) (rv_move rfl (fr_eval rfl e0)) ?_
  refine lf_val (v := .int .i64 ((l.length : Nat) : Int)) (wantAll rfl) (rv_len rfl (fr_eval rfl rfl) (hr.rd _ hH.chg) Try.underlying65) ?_
  refine lf_val (v := .bool (decide (i < l.length))) (wantAll rfl) (rv_lssP (p := i < l.length) rfl (fr_eval rfl rfl) (fr_eval rfl rfl) (by omega)) ?_
  refine lf_val (v := .bool (decide (i < l.length))) (wantAll rfl) (rv_move rfl (fr_eval rfl rfl)) ?_
  refine lf_joinP (fun F' => F' 0 = v ∧ F' 1 = .int .i64 z ∧ F' 5 = .pointer (some ⟨g1, 0, none⟩) ∧ F' 6 = .pointer (some ⟨g2, 0, none⟩) ∧ F' 7 = .int .i64 ((i : Nat) : Int) ∧ F' 25 = .bool (decide ((i < l.length) ∧ (i < 100)))) 3 (fun hk => ?_) ?_
  · by_cases hc1 : i < l.length
    · refine lf_val (v := .int .i64 ((i : Nat) : Int)) (wantF (d := 22) rfl (by kernel_rfl) rfl (congrArg Value.bool (decide_eq_true hc1))) (rv_move rfl (fr_eval rfl e7)) ?_
      refine lf_val (v := .bool (decide (i < 100))) (wantF (d := 22) rfl (by kernel_rfl) rfl (congrArg Value.bool (decide_eq_true hc1))) (rv_lssP (p := i < 100) rfl (fr_eval rfl rfl) rfl (by omega)) ?_
      refine lf_val (v := .bool (decide (i < 100))) (wantAll rfl) (rv_pickT rfl (fr_eval rfl (congrArg Value.bool (decide_eq_true hc1))) (fr_eval rfl rfl)) ?_
      exact hk _ ⟨e0, e1, e5, e6, e7, (congrArg Value.bool (dec_and hc1))⟩
    · refine lf_not (wantNot (d := 22) rfl (by kernel_rfl) rfl (congrArg Value.bool (decide_eq_false hc1))) ?_
      refine lf_not (wantNot (d := 22) rfl (by kernel_rfl) rfl (congrArg Value.bool (decide_eq_false hc1))) ?_
      refine lf_val (v := .bool false) (wantAll rfl) (rv_pickF rfl (fr_eval rfl (congrArg Value.bool (decide_eq_false hc1))) rfl) ?_
      exact hk _ ⟨e0, e1, e5, e6, e7, (congrArg Value.bool (dec_andF hc1))⟩
  · clear e0 e1 e5 e6 e7
    clear F
    rintro F ⟨e0, e1, e5, e6, e7, e25⟩
    refine lf_nil ?_
    refine then_n ?_
    by_cases hc2 : (i < l.length) ∧ (i < 100)
    · refine wp_cond_true (fr_eval rfl (e25.trans (congrArg Value.bool (decide_eq_true hc2)))) ?_
      refine wp_skip ?_
      refine then_n ?_
      refine wp_seq ?_
      refine wp_block ?_
      refine wp_seq ?_
      refine wp_regionF ?_
      refine lf_val (v := v) (wantAll rfl) (rv_move rfl (fr_eval rfl e0)) ?_
      refine lf_val (v := .int .i64 ((i : Nat) : Int)) (wantAll rfl) (rv_move rfl (fr_eval rfl e7)) ?_
      refine lf_val (v := .pointer (some (elemA v (i * 243)))) (wantAll rfl) (rv_index rfl (fr_eval rfl rfl) (fr_eval rfl rfl) (rdN (hr.rd _ hH.chg) rfl) (show i < l.length from (by omega)) Try.underlying65 Try.sz83 (by decide)) ?_
      refine lf_val (wantAll rfl) (rv_loadElem rfl (fr_eval rfl rfl) (rdN (hr.rd _ hH.chg) rfl) (show i < l.length from (by omega)) (by decide) (flat_part zO29 cO29_len (show i < l.length from (by omega))) Try.underlying83 rfl Try.sz83) ?_
      refine lf_ex (wantAll rfl) (hx_alloc hH 83 (z := .agg (([.int .i64 0, .int .i64 0, .int .i64 0, .int .i64 0, .int .i64 0, .int .i64 0, .int .i64 0, .int .i64 0, .int .i64 0] : List Value) ++ (cBs (List.replicate 32 0) ++ (cBs (List.replicate 32 0) ++ (([.int .i64 0] : List Value) ++ (cBs (List.replicate 32 0) ++ (([.int .i64 0] : List Value) ++ (cBs (List.replicate 32 0) ++ (([.int .i64 0, .int .i64 0] : List Value) ++ (cBs (List.replicate 32 0) ++ (([.slice none 0 0, .int .i64 0, .int .i64 0, .int .i64 0] : List Value) ++ (cBs (List.replicate 32 0) ++ (cBs (List.replicate 32 0) ++ ([.slice none 0 0, .slice none 0 0] : List Value))))))))))))).toArray) (n := 243) (cs := ([.int .i64 0, .int .i64 0, .int .i64 0, .int .i64 0, .int .i64 0, .int .i64 0, .int .i64 0, .int .i64 0, .int .i64 0] : List Value) ++ (cBs (List.replicate 32 0) ++ (cBs (List.replicate 32 0) ++ (([.int .i64 0] : List Value) ++ (cBs (List.replicate 32 0) ++ (([.int .i64 0] : List Value) ++ (cBs (List.replicate 32 0) ++ (([.int .i64 0, .int .i64 0] : List Value) ++ (cBs (List.replicate 32 0) ++ (([.slice none 0 0, .int .i64 0, .int .i64 0, .int .i64 0] : List Value) ++ (cBs (List.replicate 32 0) ++ (cBs (List.replicate 32 0) ++ ([.slice none 0 0, .slice none 0 0] : List Value))))))))))))) rfl (by kernel_rfl) (by rfl)) ?_
      clear hH
      rintro _ w4 ⟨g3, rfl, hH, hx⟩
      replace hH : Heap _ _ _ [_, _, _, _, _, _, _] := hH
      clear hx
      refine lf_sk (wantAll rfl) (hx_storeW hH (i := 6) (cs := ([.int .i64 ((List.getD l i zO29).k), .int .i64 ((List.getD l i zO29).i), .int .i64 ((List.getD l i zO29).t), .int .i64 ((List.getD l i zO29).u.k), .int .i64 ((List.getD l i zO29).u.a), .int .i64 ((List.getD l i zO29).u.b), .int .i64 ((List.getD l i zO29).u.c0), .int .i64 ((List.getD l i zO29).u.c1), .int .i64 ((List.getD l i zO29).u.c2)] : List Value) ++ (cBs ((List.getD l i zO29).u.h0.1) ++ (cBs ((List.getD l i zO29).u.h1.1) ++ (([.int .i64 ((List.getD l i zO29).u.g)] : List Value) ++ (cBs ((List.getD l i zO29).u.o.1) ++ (([.int .i64 ((List.getD l i zO29).u.n)] : List Value) ++ (cBs ((List.getD l i zO29).u.x.1) ++ (([.int .i64 ((List.getD l i zO29).u.jc), .int .i64 ((List.getD l i zO29).u.js)] : List Value) ++ (cBs ((List.getD l i zO29).u.jh.1) ++ (([(List.getD l i zO29).vb.1, .int .i64 ((List.getD l i zO29).u.r.t), .int .i64 ((List.getD l i zO29).u.r.c), .int .i64 ((List.getD l i zO29).u.r.s)] : List Value) ++ (cBs ((List.getD l i zO29).u.r.h.1) ++ (cBs ((List.getD l i zO29).u.r.b.1) ++ ([(List.getD l i zO29).vg.1, (List.getD l i zO29).dv.1] : List Value))))))))))))) rfl rfl rfl (fr_eval rfl rfl) (fr_eval rfl rfl) (sz_len Try.sz83 (zLp_l0 ((List.getD l i zO29).u.h0.2) ((List.getD l i zO29).u.h1.2) ((List.getD l i zO29).u.o.2) ((List.getD l i zO29).u.x.2) ((List.getD l i zO29).u.jh.2) ((List.getD l i zO29).u.r.h.2) ((List.getD l i zO29).u.r.b.2))) (((zLp_l0 (List.length_replicate ..) (List.length_replicate ..) (List.length_replicate ..) (List.length_replicate ..) (List.length_replicate ..) (List.length_replicate ..) (List.length_replicate ..))).trans ((zLp_l0 ((List.getD l i zO29).u.h0.2) ((List.getD l i zO29).u.h1.2) ((List.getD l i zO29).u.o.2) ((List.getD l i zO29).u.x.2) ((List.getD l i zO29).u.jh.2) ((List.getD l i zO29).u.r.h.2) ((List.getD l i zO29).u.r.b.2))).symm) (zLp_o1 rfl rfl rfl rfl rfl rfl rfl rfl rfl rfl rfl rfl rfl (List.getD l i zO29).vb.2 rfl rfl rfl (List.getD l i zO29).vg.2 (List.getD l i zO29).dv.2)) ?_
      clear hH
      rintro w5 ⟨hH, hx⟩
      replace hH : Heap _ _ _ [_, _, _, _, _, _, _] := hH
      clear hx
      refine lf_nil ?_
      refine then_n ?_
      refine wp_seq ?_
      refine wp_seq ?_
      refine wp_gen (fun F' => F' 0 = v ∧ F' 1 = .int .i64 z ∧ F' 5 = .pointer (some ⟨g1, 0, none⟩) ∧ F' 6 = .pointer (some ⟨g2, 0, none⟩) ∧ F' 7 = .int .i64 ((i : Nat) : Int) ∧ F' 8 = .pointer (some ⟨g3, 0, none⟩) ∧ F' 25 = .bool true) ⟨e0, e1, e5, e6, e7, rfl, (e25.trans (congrArg Value.bool (decide_eq_true hc2)))⟩ ?_
      clear e0 e1 e5 e6 e7 e25
      clear F
      rintro F ⟨e0, e1, e5, e6, e7, e8, e25⟩
      refine wp_regionF ?_
      refine lf_val (v := .pointer (some ⟨g3, 3, none⟩)) (wantAll rfl) (rv_fieldAddr (n := 238) rfl (fr_eval rfl e8) Try.underlying83 rfl rfl (by kernel_rfl)) ?_
      refine lf_val (v := .pointer (some ⟨g3, 139, none⟩)) (wantAll rfl) (rv_fieldAddr (n := 34) rfl (fr_eval rfl rfl) Try.underlying81 rfl rfl (by kernel_rfl)) ?_
      refine lf_val (v := .pointer (some ⟨g3, 173, none⟩)) (wantAll rfl) (rv_fieldAddr (n := 0) rfl (fr_eval rfl rfl) Try.underlying79 rfl rfl (by kernel_rfl)) ?_
      refine lf_val (v := (List.getD l i zO29).vb.1) (wantAll rfl) (rv_load1 rfl (hH.blk (i := 6) rfl) (zLp_g2 ((List.getD l i zO29).u.h0.2) ((List.getD l i zO29).u.h1.2) ((List.getD l i zO29).u.o.2) ((List.getD l i zO29).u.x.2) ((List.getD l i zO29).u.jh.2) ((List.getD l i zO29).u.r.h.2) ((List.getD l i zO29).u.r.b.2)) (fr_eval rfl rfl) Try.underlying22 rfl Try.sz22) ?_
      refine lf_val (v := .int .i64 (((List.getD l i zO29).bl.length : Nat) : Int)) (wantAll rfl) (rv_len rfl (fr_eval rfl rfl) (RdB.rn ((hy _ (memL (by omega))).1.rd _ hH.chg) rfl) Try.underlying22) ?_
      refine lf_val (v := .bool (decide ((List.getD l i zO29).bl.length > 1000))) (wantAll rfl) (rv_gtrP (p := (List.getD l i zO29).bl.length > 1000) rfl (fr_eval rfl rfl) rfl (by omega)) ?_
      refine lf_val (v := .bool (decide ((List.getD l i zO29).bl.length > 1000))) (wantAll rfl) (rv_move rfl (fr_eval rfl rfl)) ?_
      refine lf_joinP (fun F' => F' 0 = v ∧ F' 1 = .int .i64 z ∧ F' 5 = .pointer (some ⟨g1, 0, none⟩) ∧ F' 6 = .pointer (some ⟨g2, 0, none⟩) ∧ F' 7 = .int .i64 ((i : Nat) : Int) ∧ F' 8 = .pointer (some ⟨g3, 0, none⟩) ∧ F' 25 = .bool true ∧ F' 45 = .bool (decide (((List.getD l i zO29).bl.length > 1000) ∨ ((List.getD l i zO29).sg.length > 6000)))) 7 (fun hk => ?_) ?_
      · by_cases hc3 : (List.getD l i zO29).bl.length > 1000
        · refine lf_not (wantNot (d := 38) rfl (by kernel_rfl) rfl (congrArg Value.bool (decide_eq_true hc3))) ?_
          refine lf_not (wantNot (d := 38) rfl (by kernel_rfl) rfl (congrArg Value.bool (decide_eq_true hc3))) ?_
          refine lf_not (wantNot (d := 38) rfl (by kernel_rfl) rfl (congrArg Value.bool (decide_eq_true hc3))) ?_
          refine lf_not (wantNot (d := 38) rfl (by kernel_rfl) rfl (congrArg Value.bool (decide_eq_true hc3))) ?_
          refine lf_not (wantNot (d := 38) rfl (by kernel_rfl) rfl (congrArg Value.bool (decide_eq_true hc3))) ?_
          refine lf_not (wantNot (d := 38) rfl (by kernel_rfl) rfl (congrArg Value.bool (decide_eq_true hc3))) ?_
          refine lf_val (v := .bool true) (wantAll rfl) (rv_pickT rfl (fr_eval rfl (congrArg Value.bool (decide_eq_true hc3))) rfl) ?_
          exact hk _ ⟨e0, e1, e5, e6, e7, e8, e25, (congrArg Value.bool (dec_orT hc3))⟩
        · refine lf_val (v := .pointer (some ⟨g3, 3, none⟩)) (wantF (d := 38) rfl (by kernel_rfl) rfl (congrArg Value.bool (decide_eq_false hc3))) (rv_fieldAddr (n := 238) rfl (fr_eval rfl e8) Try.underlying83 rfl rfl (by kernel_rfl)) ?_
          refine lf_val (v := .pointer (some ⟨g3, 174, none⟩)) (wantF (d := 38) rfl (by kernel_rfl) rfl (congrArg Value.bool (decide_eq_false hc3))) (rv_fieldAddr (n := 67) rfl (fr_eval rfl rfl) Try.underlying81 rfl rfl (by kernel_rfl)) ?_
          refine lf_val (v := .pointer (some ⟨g3, 241, none⟩)) (wantF (d := 38) rfl (by kernel_rfl) rfl (congrArg Value.bool (decide_eq_false hc3))) (rv_fieldAddr (n := 0) rfl (fr_eval rfl rfl) Try.underlying61 rfl rfl (by kernel_rfl)) ?_
          refine lf_val (v := (List.getD l i zO29).vg.1) (wantF (d := 38) rfl (by kernel_rfl) rfl (congrArg Value.bool (decide_eq_false hc3))) (rv_load1 rfl (hH.blk (i := 6) rfl) (zLp_g3 ((List.getD l i zO29).u.h0.2) ((List.getD l i zO29).u.h1.2) ((List.getD l i zO29).u.o.2) ((List.getD l i zO29).u.x.2) ((List.getD l i zO29).u.jh.2) ((List.getD l i zO29).u.r.h.2) ((List.getD l i zO29).u.r.b.2)) (fr_eval rfl rfl) Try.underlying22 rfl Try.sz22) ?_
          refine lf_val (v := .int .i64 (((List.getD l i zO29).sg.length : Nat) : Int)) (wantF (d := 38) rfl (by kernel_rfl) rfl (congrArg Value.bool (decide_eq_false hc3))) (rv_len rfl (fr_eval rfl rfl) (RdB.rn ((hy _ (memL (by omega))).2.1.rd _ hH.chg) rfl) Try.underlying22) ?_
          refine lf_val (v := .bool (decide ((List.getD l i zO29).sg.length > 6000))) (wantF (d := 38) rfl (by kernel_rfl) rfl (congrArg Value.bool (decide_eq_false hc3))) (rv_gtrP (p := (List.getD l i zO29).sg.length > 6000) rfl (fr_eval rfl rfl) rfl (by omega)) ?_
          refine lf_val (v := .bool (decide ((List.getD l i zO29).sg.length > 6000))) (wantAll rfl) (rv_pickF rfl (fr_eval rfl (congrArg Value.bool (decide_eq_false hc3))) (fr_eval rfl rfl)) ?_
          exact hk _ ⟨e0, e1, e5, e6, e7, e8, e25, (congrArg Value.bool (dec_or hc3))⟩
      · clear e0 e1 e5 e6 e7 e8 e25
        clear F
        rintro F ⟨e0, e1, e5, e6, e7, e8, e25, e45⟩
        refine lf_val (wantAll rfl) (rv_move rfl (fr_eval rfl e45)) ?_
        refine lf_joinP (fun F' => F' 0 = v ∧ F' 1 = .int .i64 z ∧ F' 5 = .pointer (some ⟨g1, 0, none⟩) ∧ F' 6 = .pointer (some ⟨g2, 0, none⟩) ∧ F' 7 = .int .i64 ((i : Nat) : Int) ∧ F' 8 = .pointer (some ⟨g3, 0, none⟩) ∧ F' 25 = .bool true ∧ F' 51 = .bool (decide ((((List.getD l i zO29).bl.length > 1000) ∨ ((List.getD l i zO29).sg.length > 6000)) ∨ ((List.getD l i zO29).d.length > 1000)))) 5 (fun hk => ?_) ?_
        · by_cases hc4 : ((List.getD l i zO29).bl.length > 1000) ∨ ((List.getD l i zO29).sg.length > 6000)
          · refine lf_not (wantNot (d := 46) rfl (by kernel_rfl) rfl (congrArg Value.bool (decide_eq_true hc4))) ?_
            refine lf_not (wantNot (d := 46) rfl (by kernel_rfl) rfl (congrArg Value.bool (decide_eq_true hc4))) ?_
            refine lf_not (wantNot (d := 46) rfl (by kernel_rfl) rfl (congrArg Value.bool (decide_eq_true hc4))) ?_
            refine lf_not (wantNot (d := 46) rfl (by kernel_rfl) rfl (congrArg Value.bool (decide_eq_true hc4))) ?_
            refine lf_val (v := .bool true) (wantAll rfl) (rv_pickT rfl (fr_eval rfl (congrArg Value.bool (decide_eq_true hc4))) rfl) ?_
            exact hk _ ⟨e0, e1, e5, e6, e7, e8, e25, (congrArg Value.bool (dec_orT hc4))⟩
          · refine lf_val (v := .pointer (some ⟨g3, 242, none⟩)) (wantF (d := 46) rfl (by kernel_rfl) rfl (congrArg Value.bool (decide_eq_false hc4))) (rv_fieldAddr (n := 0) rfl (fr_eval rfl e8) Try.underlying83 rfl rfl (by kernel_rfl)) ?_
            refine lf_val (v := (List.getD l i zO29).dv.1) (wantF (d := 46) rfl (by kernel_rfl) rfl (congrArg Value.bool (decide_eq_false hc4))) (rv_load1 rfl (hH.blk (i := 6) rfl) (zLp_g4 ((List.getD l i zO29).u.h0.2) ((List.getD l i zO29).u.h1.2) ((List.getD l i zO29).u.o.2) ((List.getD l i zO29).u.x.2) ((List.getD l i zO29).u.jh.2) ((List.getD l i zO29).u.r.h.2) ((List.getD l i zO29).u.r.b.2)) (fr_eval rfl rfl) Try.underlying22 rfl Try.sz22) ?_
            refine lf_val (v := .int .i64 (((List.getD l i zO29).d.length : Nat) : Int)) (wantF (d := 46) rfl (by kernel_rfl) rfl (congrArg Value.bool (decide_eq_false hc4))) (rv_len rfl (fr_eval rfl rfl) (RdB.rn ((hy _ (memL (by omega))).2.2.rd _ hH.chg) rfl) Try.underlying22) ?_
            refine lf_val (v := .bool (decide ((List.getD l i zO29).d.length > 1000))) (wantF (d := 46) rfl (by kernel_rfl) rfl (congrArg Value.bool (decide_eq_false hc4))) (rv_gtrP (p := (List.getD l i zO29).d.length > 1000) rfl (fr_eval rfl rfl) rfl (by omega)) ?_
            refine lf_val (v := .bool (decide ((List.getD l i zO29).d.length > 1000))) (wantAll rfl) (rv_pickF rfl (fr_eval rfl (congrArg Value.bool (decide_eq_false hc4))) (fr_eval rfl rfl)) ?_
            exact hk _ ⟨e0, e1, e5, e6, e7, e8, e25, (congrArg Value.bool (dec_or hc4))⟩
        · clear e0 e1 e5 e6 e7 e8 e25 e45
          clear F
          rintro F ⟨e0, e1, e5, e6, e7, e8, e25, e51⟩
          refine lf_nil ?_
          refine then_n ?_
          by_cases hc5 : (((List.getD l i zO29).bl.length > 1000) ∨ ((List.getD l i zO29).sg.length > 6000)) ∨ ((List.getD l i zO29).d.length > 1000)
          · refine wp_cond_true (fr_eval rfl (e51.trans (congrArg Value.bool (decide_eq_true hc5)))) ?_
            refine wp_exit ?_
            refine then_exit ?_
            refine blk_exit ?_
            refine then_n ?_
            refine wp_regionF ?_
            refine lf_val (v := .int .i64 ((i : Nat) : Int)) (wantAll rfl) (rv_move rfl (fr_eval rfl e7)) ?_
            refine lf_val (v := .int .i64 ((i + 1 : Nat) : Int)) (wantAll rfl) (rv_add rfl (fr_eval rfl rfl) rfl (wrap_i64 (by omega) (by omega) (by omega))) ?_
            refine lf_val (v := .int .i64 ((i + 1 : Nat) : Int)) (wantAll rfl) (rv_assign rfl (fr_eval rfl rfl)) ?_
            refine lf_nil ?_
            refine then_n ?_
            replace hH : Heap _ _ _ [_, _, _, _, _, _] := hH.drop (.cons_cons _ (.cons_cons _ (.cons_cons _ (.cons_cons _ (.cons_cons _ (.cons_cons _ (.cons _ .slnil)))))))
            exact ⟨_, _, (by omega), rfl, i + 1, _, _, _, _, _, _, _, _, rfl, (by omega), (by omega), pi2, (by omega), pi4, pi5, e0, e1, e5, e6, rfl, hH⟩
          · refine wp_cond_false (fr_eval rfl (e51.trans (congrArg Value.bool (decide_eq_false hc5)))) ?_
            refine wp_skip ?_
            refine then_n ?_
            refine wp_seq ?_
            refine wp_regionX (newN w) 22 (by kernel_rfl) (by kernel_rfl) ?_
            refine xl_take (i := 0) (v := .pointer (some ⟨g1, 0, none⟩)) rfl (by kernel_rfl) (by kernel_rfl) (by kernel_rfl) (by kernel_rfl) (yx_val (wantAll rfl) (fun w' hx' => rv_move rfl (fr_eval rfl e5))) ?_
            refine xl_take (i := 1) (v := .pointer (some ⟨g2, 0, none⟩)) rfl (by kernel_rfl) (by kernel_rfl) (by kernel_rfl) (by kernel_rfl) (yx_val (wantAll rfl) (fun w' hx' => rv_move rfl (fr_eval rfl e6))) ?_
            refine anyX_ready (rs := [2]) (by kernel_rfl) ?_
            intro w6 hx
            replace hH := hH.ext hx
            clear hx
            refine (anyX_cons ?_ anyX_nil)
            refine xl_step (i := 2) rfl (wantAll rfl) ?_
            refine of_val (v := .agg (([.int .i64 ((List.getD l i zO29).k), .int .i64 ((List.getD l i zO29).i), .int .i64 ((List.getD l i zO29).t), .int .i64 ((List.getD l i zO29).u.k), .int .i64 ((List.getD l i zO29).u.a), .int .i64 ((List.getD l i zO29).u.b), .int .i64 ((List.getD l i zO29).u.c0), .int .i64 ((List.getD l i zO29).u.c1), .int .i64 ((List.getD l i zO29).u.c2)] : List Value) ++ (cBs ((List.getD l i zO29).u.h0.1) ++ (cBs ((List.getD l i zO29).u.h1.1) ++ (([.int .i64 ((List.getD l i zO29).u.g)] : List Value) ++ (cBs ((List.getD l i zO29).u.o.1) ++ (([.int .i64 ((List.getD l i zO29).u.n)] : List Value) ++ (cBs ((List.getD l i zO29).u.x.1) ++ (([.int .i64 ((List.getD l i zO29).u.jc), .int .i64 ((List.getD l i zO29).u.js)] : List Value) ++ (cBs ((List.getD l i zO29).u.jh.1) ++ (([(List.getD l i zO29).vb.1, .int .i64 ((List.getD l i zO29).u.r.t), .int .i64 ((List.getD l i zO29).u.r.c), .int .i64 ((List.getD l i zO29).u.r.s)] : List Value) ++ (cBs ((List.getD l i zO29).u.r.h.1) ++ (cBs ((List.getD l i zO29).u.r.b.1) ++ ([(List.getD l i zO29).vg.1, (List.getD l i zO29).dv.1] : List Value))))))))))))).toArray) (rv_loadW rfl (hH.blk (i := 6) rfl) (fr_eval rfl e8) Try.underlying83 rfl (sz_len Try.sz83 (zLp_l0 ((List.getD l i zO29).u.h0.2) ((List.getD l i zO29).u.h1.2) ((List.getD l i zO29).u.o.2) ((List.getD l i zO29).u.x.2) ((List.getD l i zO29).u.jh.2) ((List.getD l i zO29).u.r.h.2) ((List.getD l i zO29).u.r.b.2)))) ?_
            refine ⟨Chg.refl _ _, ?_⟩
            refine anyX_ready (rs := [3]) (by kernel_rfl) ?_
            intro w7 hx
            replace hH := hH.ext hx
            clear hx
            refine (anyX_cons ?_ anyX_nil)
            replace hH : Heap _ _ _ [_, _, _, _, _, _, _] := hH.perm (.trans (.swap _ _ _) (.cons _ (.trans (.swap _ _ _) (.cons _ (.trans (.swap _ _ _) (.cons _ (.trans (.swap _ _ _) (.cons _ (.trans (.swap _ _ _) (.cons _ (.trans (.swap _ _ _) (.cons _ (.refl _)))))))))))))
            replace hH : Heap _ _ _ [_, _, _, _, _, _, _] := hH.perm (.cons _ (.cons _ (.trans (.swap _ _ _) (.cons _ (.refl _)))))
            replace hH : Heap _ _ _ [_, _, _, _, _, _, _] := hH.perm (.cons _ (.cons _ (.cons _ (.trans (.swap _ _ _) (.cons _ (.refl _))))))
            refine xl_step (i := 3) rfl (wantAll rfl) ?_
            refine of_call (rv_call (args := [.pointer (some ⟨g1, 0, none⟩), .pointer (some ⟨g2, 0, none⟩), .agg (([.int .i64 ((List.getD l i zO29).k), .int .i64 ((List.getD l i zO29).i), .int .i64 ((List.getD l i zO29).t), .int .i64 ((List.getD l i zO29).u.k), .int .i64 ((List.getD l i zO29).u.a), .int .i64 ((List.getD l i zO29).u.b), .int .i64 ((List.getD l i zO29).u.c0), .int .i64 ((List.getD l i zO29).u.c1), .int .i64 ((List.getD l i zO29).u.c2)] : List Value) ++ (cBs ((List.getD l i zO29).u.h0.1) ++ (cBs ((List.getD l i zO29).u.h1.1) ++ (([.int .i64 ((List.getD l i zO29).u.g)] : List Value) ++ (cBs ((List.getD l i zO29).u.o.1) ++ (([.int .i64 ((List.getD l i zO29).u.n)] : List Value) ++ (cBs ((List.getD l i zO29).u.x.1) ++ (([.int .i64 ((List.getD l i zO29).u.jc), .int .i64 ((List.getD l i zO29).u.js)] : List Value) ++ (cBs ((List.getD l i zO29).u.jh.1) ++ (([(List.getD l i zO29).vb.1, .int .i64 ((List.getD l i zO29).u.r.t), .int .i64 ((List.getD l i zO29).u.r.c), .int .i64 ((List.getD l i zO29).u.r.s)] : List Value) ++ (cBs ((List.getD l i zO29).u.r.h.1) ++ (cBs ((List.getD l i zO29).u.r.b.1) ++ ([(List.getD l i zO29).vg.1, (List.getD l i zO29).dv.1] : List Value))))))))))))).toArray]) rfl (evc (fr_eval rfl rfl) (evc (fr_eval rfl rfl) (evc (fr_eval rfl rfl) evn))) Try.call39) (step_calls (Heap.partZ (L := [_]) (M := [_, _, _, _, _, _]) hH hZ) ls (by omega) lost (by omega) ps plost pi4 pi5 (List.getD l i zO29).k (List.getD l i zO29).i (List.getD l i zO29).t (List.getD l i zO29).u (List.getD l i zO29).vb (List.getD l i zO29).vg (List.getD l i zO29).dv (List.getD l i zO29).bl (List.getD l i zO29).sg (List.getD l i zO29).d (hin _ (memL (by omega))) (by omega) (by omega) (by omega) (Stab.part (L := [_]) (M := [_, _, _, _, _, _]) (hy _ (memL (by omega))).1 hH) (Stab.part (L := [_]) (M := [_, _, _, _, _, _]) (hy _ (memL (by omega))).2.1 hH) (Stab.part (L := [_]) (M := [_, _, _, _, _, _]) (hy _ (memL (by omega))).2.2 hH) (hzd _ (memL (by omega))) (Heap.part (L := [_]) (M := [_, _, _, _, _, _]) hH)) ?_
            rintro _ w8 ⟨y1, ls1, lo1, S1, y2, ps1, pl1, Q1, rfl, hq1, hq2, hq3, hq4, hP⟩
            refine ⟨_, rfl, ?_⟩
            have hx := hH.callChg (L := [_]) (M := [_, _, _, _, _, _]) (fun _ h => h) hP
            replace hH : Heap _ _ _ [_, _, _, _, _, _, _] := hH.call (L := [_]) (M := [_, _, _, _, _, _]) (fun _ h => h) hP (Stays.blk (hP.blk (i := 0) rfl) (Stays.own (hP.own (i := 1) rfl) (Stays.bag hZ (hP.bag (i := 2) rfl) (Stays.blk (hP.blk (i := 3) rfl) (Stays.own (hP.own (i := 4) rfl) (Stays.bag hZ (hP.bag (i := 5) rfl) Stays.nil))))))
            clear hP
            refine ⟨hx, ?_⟩
            clear hx
            have hz1 := kys_len (congrArg Prod.fst hq1)
            have hz2 : lo1 = pl1 := congrArg Prod.snd hq1
            refine xl_take (i := 4) (v := .bool false) rfl (by kernel_rfl) (by kernel_rfl) (by kernel_rfl) (by kernel_rfl) (yx_val (wantAll rfl) (fun w' hx' => rv_not (b := true) rfl (fr_eval rfl rfl))) ?_
            refine xl_take (i := 5) (v := .bool false) rfl (by kernel_rfl) (by kernel_rfl) (by kernel_rfl) (by kernel_rfl) (yx_val (wantAll rfl) (fun w' hx' => rv_move rfl (fr_eval rfl rfl))) ?_
            refine xl_take (i := 6) (v := .pointer (some ⟨g1, 0, none⟩)) rfl (by kernel_rfl) (by kernel_rfl) (by kernel_rfl) (by kernel_rfl) (yx_val (wantF (d := 57) rfl (by kernel_rfl) rfl rfl) (fun w' hx' => rv_move rfl (fr_eval rfl e5))) ?_
            refine xl_take (i := 8) (v := .pointer (some ⟨g2, 0, none⟩)) rfl (by kernel_rfl) (by kernel_rfl) (by kernel_rfl) (by kernel_rfl) (yx_val (wantF (d := 57) rfl (by kernel_rfl) rfl rfl) (fun w' hx' => rv_move rfl (fr_eval rfl e6))) ?_
            refine xl_take (i := 9) (v := .pointer (some ⟨g2, 0, none⟩)) rfl (by kernel_rfl) (by kernel_rfl) (by kernel_rfl) (by kernel_rfl) (yx_val (wantF (d := 57) rfl (by kernel_rfl) rfl rfl) (fun w' hx' => rv_nilCheck rfl (fr_eval rfl rfl))) ?_
            refine xl_take (i := 10) (v := .pointer (some ⟨g2, 0, none⟩)) rfl (by kernel_rfl) (by kernel_rfl) (by kernel_rfl) (by kernel_rfl) (yx_val (wantF (d := 57) rfl (by kernel_rfl) rfl rfl) (fun w' hx' => rv_fieldAddr (n := 0) rfl (fr_eval rfl rfl) Try.underlying72 rfl rfl (by kernel_rfl))) ?_
            refine anyX_ready (rs := [7, 11]) (by kernel_rfl) ?_
            intro w9 hx
            replace hH := hH.ext hx
            clear hx
            refine (anyX_cons ?_ (anyX_cons ?_ anyX_nil))
            · refine xl_step (i := 7) rfl (wantF (d := 57) rfl (by kernel_rfl) rfl rfl) ?_
              refine of_call (rv_call (args := [.pointer (some ⟨g1, 0, none⟩)]) rfl (evc (fr_eval rfl rfl) evn) Try.call40) (netLen_calls ls1 lo1 _ (hH.blk (i := 1) rfl) (Own.rd (hH.own (i := 2) rfl) (row_one cLt_one))) ?_
              rintro _ w10 ⟨rfl, hx⟩
              refine ⟨_, rfl, ?_⟩
              refine ⟨Ext.any hx, ?_⟩
              replace hH := hH.ext hx
              clear hx
              refine anyX_ready (rs := [11]) (by kernel_rfl) ?_
              intro w11 hx
              replace hH := hH.ext hx
              clear hx
              refine (anyX_cons ?_ anyX_nil)
              refine xl_step (i := 11) rfl (wantF (d := 57) rfl (by kernel_rfl) rfl rfl) ?_
              refine of_val (v := y2) (rv_load1 rfl (hH.blk (i := 4) rfl) zLp_g5 (fr_eval rfl rfl) Try.underlying67 rfl Try.sz67) ?_
              refine ⟨Chg.refl _ _, ?_⟩
              refine anyX_ready (rs := [12]) (by kernel_rfl) ?_
              intro w12 hx
              replace hH := hH.ext hx
              clear hx
              refine (anyX_cons ?_ anyX_nil)
              refine xl_step (i := 12) rfl (wantF (d := 57) rfl (by kernel_rfl) rfl rfl) ?_
              refine of_val (v := .int .i64 ((ps1.length : Nat) : Int)) (rv_len rfl (fr_eval rfl rfl) (Own.rd (hH.own (i := 5) rfl) (row_one cLt_one)) Try.underlying67) ?_
              refine ⟨Chg.refl _ _, ?_⟩
              refine xl_take (i := 13) (v := .bool false) rfl (by kernel_rfl) (by kernel_rfl) (by kernel_rfl) (by kernel_rfl) (yx_val (wantF (d := 57) rfl (by kernel_rfl) rfl rfl) (fun w' hx' => rv_neq rfl (fr_eval rfl rfl) (fr_eval rfl rfl) (decide_eq_true (by omega)))) ?_
              refine xl_take (i := 14) (v := .bool false) rfl (by kernel_rfl) (by kernel_rfl) (by kernel_rfl) (by kernel_rfl) (yx_val (wantAll rfl) (fun w' hx' => rv_pickF rfl (fr_eval rfl rfl) (fr_eval rfl rfl))) ?_
              refine xl_take (i := 15) (v := .bool false) rfl (by kernel_rfl) (by kernel_rfl) (by kernel_rfl) (by kernel_rfl) (yx_val (wantAll rfl) (fun w' hx' => rv_move rfl (fr_eval rfl rfl))) ?_
              refine xl_take (i := 16) (v := .pointer (some ⟨g1, 0, none⟩)) rfl (by kernel_rfl) (by kernel_rfl) (by kernel_rfl) (by kernel_rfl) (yx_val (wantF (d := 67) rfl (by kernel_rfl) rfl rfl) (fun w' hx' => rv_move rfl (fr_eval rfl e5))) ?_
              refine xl_take (i := 18) (v := .pointer (some ⟨g2, 0, none⟩)) rfl (by kernel_rfl) (by kernel_rfl) (by kernel_rfl) (by kernel_rfl) (yx_val (wantF (d := 67) rfl (by kernel_rfl) rfl rfl) (fun w' hx' => rv_move rfl (fr_eval rfl e6))) ?_
              refine xl_take (i := 19) (v := .pointer (some ⟨g2, 0, none⟩)) rfl (by kernel_rfl) (by kernel_rfl) (by kernel_rfl) (by kernel_rfl) (yx_val (wantF (d := 67) rfl (by kernel_rfl) rfl rfl) (fun w' hx' => rv_nilCheck rfl (fr_eval rfl rfl))) ?_
              refine xl_take (i := 20) (v := .pointer (some ⟨g2, 1, none⟩)) rfl (by kernel_rfl) (by kernel_rfl) (by kernel_rfl) (by kernel_rfl) (yx_val (wantF (d := 67) rfl (by kernel_rfl) rfl rfl) (fun w' hx' => rv_fieldAddr (n := 0) rfl (fr_eval rfl rfl) Try.underlying72 rfl rfl (by kernel_rfl))) ?_
              refine anyX_ready (rs := [17, 21]) (by kernel_rfl) ?_
              intro w13 hx
              replace hH := hH.ext hx
              clear hx
              refine (anyX_cons ?_ (anyX_cons ?_ anyX_nil))
              · refine xl_step (i := 17) rfl (wantF (d := 67) rfl (by kernel_rfl) rfl rfl) ?_
                refine of_call (rv_call (args := [.pointer (some ⟨g1, 0, none⟩)]) rfl (evc (fr_eval rfl rfl) evn) Try.call41) (netLost_calls ls1 lo1 _ (hH.blk (i := 1) rfl) (Own.rd (hH.own (i := 2) rfl) (row_one cLt_one))) ?_
                rintro _ w14 ⟨rfl, hx⟩
                refine ⟨_, rfl, ?_⟩
                refine ⟨Ext.any hx, ?_⟩
                replace hH := hH.ext hx
                clear hx
                refine anyX_ready (rs := [21]) (by kernel_rfl) ?_
                intro w15 hx
                replace hH := hH.ext hx
                clear hx
                refine (anyX_cons ?_ anyX_nil)
                refine xl_step (i := 21) rfl (wantF (d := 67) rfl (by kernel_rfl) rfl rfl) ?_
                refine of_val (v := .int .i64 ((pl1 : Nat) : Int)) (rv_load1 rfl (hH.blk (i := 4) rfl) zLp_g6 (fr_eval rfl rfl) Try.underlying3 rfl Try.sz3) ?_
                refine ⟨Chg.refl _ _, ?_⟩
                refine xl_tail (s := 22) rfl ?_
                intro w16 hx
                replace hH := hH.ext hx
                clear hx
                refine lf_val (v := .bool false) (wantF (d := 67) rfl (by kernel_rfl) rfl rfl) (rv_neq rfl (fr_eval rfl rfl) (fr_eval rfl rfl) (decide_eq_true (by omega))) ?_
                refine lf_val (v := .bool false) (wantAll rfl) (rv_pickF rfl (fr_eval rfl rfl) (fr_eval rfl rfl)) ?_
                refine lf_nil ?_
                refine then_n ?_
                refine wp_gen (fun F' => F' 0 = v ∧ F' 1 = .int .i64 z ∧ F' 5 = .pointer (some ⟨g1, 0, none⟩) ∧ F' 6 = .pointer (some ⟨g2, 0, none⟩) ∧ F' 7 = .int .i64 ((i : Nat) : Int) ∧ F' 8 = .pointer (some ⟨g3, 0, none⟩) ∧ F' 25 = .bool true ∧ F' 51 = .bool false ∧ F' 75 = .bool false) ⟨e0, e1, e5, e6, e7, e8, e25, (e51.trans (congrArg Value.bool (decide_eq_false hc5))), rfl⟩ ?_
                clear e0 e1 e5 e6 e7 e8 e25 e51
                clear F
                rintro F ⟨e0, e1, e5, e6, e7, e8, e25, e51, e75⟩
                refine wp_cond_false (fr_eval rfl e75) ?_
                refine wp_skip ?_
                refine blk_n ?_
                refine then_n ?_
                refine wp_regionF ?_
                refine lf_val (v := .int .i64 ((i : Nat) : Int)) (wantAll rfl) (rv_move rfl (fr_eval rfl e7)) ?_
                refine lf_val (v := .int .i64 ((i + 1 : Nat) : Int)) (wantAll rfl) (rv_add rfl (fr_eval rfl rfl) rfl (wrap_i64 (by omega) (by omega) (by omega))) ?_
                refine lf_val (v := .int .i64 ((i + 1 : Nat) : Int)) (wantAll rfl) (rv_assign rfl (fr_eval rfl rfl)) ?_
                refine lf_nil ?_
                refine then_n ?_
                replace hH : Heap _ _ _ [_, _, _, _, _, _] := hH.drop (.cons _ (.cons_cons _ (.cons_cons _ (.cons_cons _ (.cons_cons _ (.cons_cons _ (.cons_cons _ .slnil)))))))
                replace hH : Heap _ _ _ [_, _, _, _, _, _] := hH.perm (.cons _ (.trans (.swap _ _ _) (.cons _ (.trans (.swap _ _ _) (.cons _ (.refl _))))))
                exact ⟨_, _, (by omega), rfl, i + 1, _, _, _, _, _, _, _, _, rfl, (by omega), (by omega), hq2, (by omega), hq1, hq4, e0, e1, e5, e6, rfl, hH⟩
              · refine xl_step (i := 21) rfl (wantF (d := 67) rfl (by kernel_rfl) rfl rfl) ?_
                refine of_val (v := .int .i64 ((pl1 : Nat) : Int)) (rv_load1 rfl (hH.blk (i := 4) rfl) zLp_g6 (fr_eval rfl rfl) Try.underlying3 rfl Try.sz3) ?_
                refine ⟨Chg.refl _ _, ?_⟩
                refine anyX_ready (rs := [17]) (by kernel_rfl) ?_
                intro w17 hx
                replace hH := hH.ext hx
                clear hx
                refine (anyX_cons ?_ anyX_nil)
                refine xl_step (i := 17) rfl (wantF (d := 67) rfl (by kernel_rfl) rfl rfl) ?_
                refine of_call (rv_call (args := [.pointer (some ⟨g1, 0, none⟩)]) rfl (evc (fr_eval rfl rfl) evn) Try.call41) (netLost_calls ls1 lo1 _ (hH.blk (i := 1) rfl) (Own.rd (hH.own (i := 2) rfl) (row_one cLt_one))) ?_
                rintro _ w18 ⟨rfl, hx⟩
                refine ⟨_, rfl, ?_⟩
                refine ⟨Ext.any hx, ?_⟩
                replace hH := hH.ext hx
                clear hx
                refine xl_tail (s := 22) rfl ?_
                intro w19 hx
                replace hH := hH.ext hx
                clear hx
                refine lf_val (v := .bool false) (wantF (d := 67) rfl (by kernel_rfl) rfl rfl) (rv_neq rfl (fr_eval rfl rfl) (fr_eval rfl rfl) (decide_eq_true (by omega))) ?_
                refine lf_val (v := .bool false) (wantAll rfl) (rv_pickF rfl (fr_eval rfl rfl) (fr_eval rfl rfl)) ?_
                refine lf_nil ?_
                refine then_n ?_
                refine wp_gen (fun F' => F' 0 = v ∧ F' 1 = .int .i64 z ∧ F' 5 = .pointer (some ⟨g1, 0, none⟩) ∧ F' 6 = .pointer (some ⟨g2, 0, none⟩) ∧ F' 7 = .int .i64 ((i : Nat) : Int) ∧ F' 8 = .pointer (some ⟨g3, 0, none⟩) ∧ F' 25 = .bool true ∧ F' 51 = .bool false ∧ F' 75 = .bool false) ⟨e0, e1, e5, e6, e7, e8, e25, (e51.trans (congrArg Value.bool (decide_eq_false hc5))), rfl⟩ ?_
                clear e0 e1 e5 e6 e7 e8 e25 e51
                clear F
                rintro F ⟨e0, e1, e5, e6, e7, e8, e25, e51, e75⟩
                refine wp_cond_false (fr_eval rfl e75) ?_
                refine wp_skip ?_
                refine blk_n ?_
                refine then_n ?_
                refine wp_regionF ?_
                refine lf_val (v := .int .i64 ((i : Nat) : Int)) (wantAll rfl) (rv_move rfl (fr_eval rfl e7)) ?_
                refine lf_val (v := .int .i64 ((i + 1 : Nat) : Int)) (wantAll rfl) (rv_add rfl (fr_eval rfl rfl) rfl (wrap_i64 (by omega) (by omega) (by omega))) ?_
                refine lf_val (v := .int .i64 ((i + 1 : Nat) : Int)) (wantAll rfl) (rv_assign rfl (fr_eval rfl rfl)) ?_
                refine lf_nil ?_
                refine then_n ?_
                replace hH : Heap _ _ _ [_, _, _, _, _, _] := hH.drop (.cons _ (.cons_cons _ (.cons_cons _ (.cons_cons _ (.cons_cons _ (.cons_cons _ (.cons_cons _ .slnil)))))))
                replace hH : Heap _ _ _ [_, _, _, _, _, _] := hH.perm (.cons _ (.trans (.swap _ _ _) (.cons _ (.trans (.swap _ _ _) (.cons _ (.refl _))))))
                exact ⟨_, _, (by omega), rfl, i + 1, _, _, _, _, _, _, _, _, rfl, (by omega), (by omega), hq2, (by omega), hq1, hq4, e0, e1, e5, e6, rfl, hH⟩
            · refine xl_step (i := 11) rfl (wantF (d := 57) rfl (by kernel_rfl) rfl rfl) ?_
              refine of_val (v := y2) (rv_load1 rfl (hH.blk (i := 4) rfl) zLp_g5 (fr_eval rfl rfl) Try.underlying67 rfl Try.sz67) ?_
              refine ⟨Chg.refl _ _, ?_⟩
              refine anyX_ready (rs := [7, 12]) (by kernel_rfl) ?_
              intro w20 hx
              replace hH := hH.ext hx
              clear hx
              refine (anyX_cons ?_ (anyX_cons ?_ anyX_nil))
              · refine xl_step (i := 7) rfl (wantF (d := 57) rfl (by kernel_rfl) rfl rfl) ?_
                refine of_call (rv_call (args := [.pointer (some ⟨g1, 0, none⟩)]) rfl (evc (fr_eval rfl rfl) evn) Try.call40) (netLen_calls ls1 lo1 _ (hH.blk (i := 1) rfl) (Own.rd (hH.own (i := 2) rfl) (row_one cLt_one))) ?_
                rintro _ w21 ⟨rfl, hx⟩
                refine ⟨_, rfl, ?_⟩
                refine ⟨Ext.any hx, ?_⟩
                replace hH := hH.ext hx
                clear hx
                refine anyX_ready (rs := [12]) (by kernel_rfl) ?_
                intro w22 hx
                replace hH := hH.ext hx
                clear hx
                refine (anyX_cons ?_ anyX_nil)
                refine xl_step (i := 12) rfl (wantF (d := 57) rfl (by kernel_rfl) rfl rfl) ?_
                refine of_val (v := .int .i64 ((ps1.length : Nat) : Int)) (rv_len rfl (fr_eval rfl rfl) (Own.rd (hH.own (i := 5) rfl) (row_one cLt_one)) Try.underlying67) ?_
                refine ⟨Chg.refl _ _, ?_⟩
                refine xl_take (i := 13) (v := .bool false) rfl (by kernel_rfl) (by kernel_rfl) (by kernel_rfl) (by kernel_rfl) (yx_val (wantF (d := 57) rfl (by kernel_rfl) rfl rfl) (fun w' hx' => rv_neq rfl (fr_eval rfl rfl) (fr_eval rfl rfl) (decide_eq_true (by omega)))) ?_
                refine xl_take (i := 14) (v := .bool false) rfl (by kernel_rfl) (by kernel_rfl) (by kernel_rfl) (by kernel_rfl) (yx_val (wantAll rfl) (fun w' hx' => rv_pickF rfl (fr_eval rfl rfl) (fr_eval rfl rfl))) ?_
                refine xl_take (i := 15) (v := .bool false) rfl (by kernel_rfl) (by kernel_rfl) (by kernel_rfl) (by kernel_rfl) (yx_val (wantAll rfl) (fun w' hx' => rv_move rfl (fr_eval rfl rfl))) ?_
                refine xl_take (i := 16) (v := .pointer (some ⟨g1, 0, none⟩)) rfl (by kernel_rfl) (by kernel_rfl) (by kernel_rfl) (by kernel_rfl) (yx_val (wantF (d := 67) rfl (by kernel_rfl) rfl rfl) (fun w' hx' => rv_move rfl (fr_eval rfl e5))) ?_
                refine xl_take (i := 18) (v := .pointer (some ⟨g2, 0, none⟩)) rfl (by kernel_rfl) (by kernel_rfl) (by kernel_rfl) (by kernel_rfl) (yx_val (wantF (d := 67) rfl (by kernel_rfl) rfl rfl) (fun w' hx' => rv_move rfl (fr_eval rfl e6))) ?_
                refine xl_take (i := 19) (v := .pointer (some ⟨g2, 0, none⟩)) rfl (by kernel_rfl) (by kernel_rfl) (by kernel_rfl) (by kernel_rfl) (yx_val (wantF (d := 67) rfl (by kernel_rfl) rfl rfl) (fun w' hx' => rv_nilCheck rfl (fr_eval rfl rfl))) ?_
                refine xl_take (i := 20) (v := .pointer (some ⟨g2, 1, none⟩)) rfl (by kernel_rfl) (by kernel_rfl) (by kernel_rfl) (by kernel_rfl) (yx_val (wantF (d := 67) rfl (by kernel_rfl) rfl rfl) (fun w' hx' => rv_fieldAddr (n := 0) rfl (fr_eval rfl rfl) Try.underlying72 rfl rfl (by kernel_rfl))) ?_
                refine anyX_ready (rs := [17, 21]) (by kernel_rfl) ?_
                intro w23 hx
                replace hH := hH.ext hx
                clear hx
                refine (anyX_cons ?_ (anyX_cons ?_ anyX_nil))
                · refine xl_step (i := 17) rfl (wantF (d := 67) rfl (by kernel_rfl) rfl rfl) ?_
                  refine of_call (rv_call (args := [.pointer (some ⟨g1, 0, none⟩)]) rfl (evc (fr_eval rfl rfl) evn) Try.call41) (netLost_calls ls1 lo1 _ (hH.blk (i := 1) rfl) (Own.rd (hH.own (i := 2) rfl) (row_one cLt_one))) ?_
                  rintro _ w24 ⟨rfl, hx⟩
                  refine ⟨_, rfl, ?_⟩
                  refine ⟨Ext.any hx, ?_⟩
                  replace hH := hH.ext hx
                  clear hx
                  refine anyX_ready (rs := [21]) (by kernel_rfl) ?_
                  intro w25 hx
                  replace hH := hH.ext hx
                  clear hx
                  refine (anyX_cons ?_ anyX_nil)
                  refine xl_step (i := 21) rfl (wantF (d := 67) rfl (by kernel_rfl) rfl rfl) ?_
                  refine of_val (v := .int .i64 ((pl1 : Nat) : Int)) (rv_load1 rfl (hH.blk (i := 4) rfl) zLp_g6 (fr_eval rfl rfl) Try.underlying3 rfl Try.sz3) ?_
                  refine ⟨Chg.refl _ _, ?_⟩
                  refine xl_tail (s := 22) rfl ?_
                  intro w26 hx
                  replace hH := hH.ext hx
                  clear hx
                  refine lf_val (v := .bool false) (wantF (d := 67) rfl (by kernel_rfl) rfl rfl) (rv_neq rfl (fr_eval rfl rfl) (fr_eval rfl rfl) (decide_eq_true (by omega))) ?_
                  refine lf_val (v := .bool false) (wantAll rfl) (rv_pickF rfl (fr_eval rfl rfl) (fr_eval rfl rfl)) ?_
                  refine lf_nil ?_
                  refine then_n ?_
                  refine wp_gen (fun F' => F' 0 = v ∧ F' 1 = .int .i64 z ∧ F' 5 = .pointer (some ⟨g1, 0, none⟩) ∧ F' 6 = .pointer (some ⟨g2, 0, none⟩) ∧ F' 7 = .int .i64 ((i : Nat) : Int) ∧ F' 8 = .pointer (some ⟨g3, 0, none⟩) ∧ F' 25 = .bool true ∧ F' 51 = .bool false ∧ F' 75 = .bool false) ⟨e0, e1, e5, e6, e7, e8, e25, (e51.trans (congrArg Value.bool (decide_eq_false hc5))), rfl⟩ ?_
                  clear e0 e1 e5 e6 e7 e8 e25 e51
                  clear F
                  rintro F ⟨e0, e1, e5, e6, e7, e8, e25, e51, e75⟩
                  refine wp_cond_false (fr_eval rfl e75) ?_
                  refine wp_skip ?_
                  refine blk_n ?_
                  refine then_n ?_
                  refine wp_regionF ?_
                  refine lf_val (v := .int .i64 ((i : Nat) : Int)) (wantAll rfl) (rv_move rfl (fr_eval rfl e7)) ?_
                  refine lf_val (v := .int .i64 ((i + 1 : Nat) : Int)) (wantAll rfl) (rv_add rfl (fr_eval rfl rfl) rfl (wrap_i64 (by omega) (by omega) (by omega))) ?_
                  refine lf_val (v := .int .i64 ((i + 1 : Nat) : Int)) (wantAll rfl) (rv_assign rfl (fr_eval rfl rfl)) ?_
                  refine lf_nil ?_
                  refine then_n ?_
                  replace hH : Heap _ _ _ [_, _, _, _, _, _] := hH.drop (.cons _ (.cons_cons _ (.cons_cons _ (.cons_cons _ (.cons_cons _ (.cons_cons _ (.cons_cons _ .slnil)))))))
                  replace hH : Heap _ _ _ [_, _, _, _, _, _] := hH.perm (.cons _ (.trans (.swap _ _ _) (.cons _ (.trans (.swap _ _ _) (.cons _ (.refl _))))))
                  exact ⟨_, _, (by omega), rfl, i + 1, _, _, _, _, _, _, _, _, rfl, (by omega), (by omega), hq2, (by omega), hq1, hq4, e0, e1, e5, e6, rfl, hH⟩
                · refine xl_step (i := 21) rfl (wantF (d := 67) rfl (by kernel_rfl) rfl rfl) ?_
                  refine of_val (v := .int .i64 ((pl1 : Nat) : Int)) (rv_load1 rfl (hH.blk (i := 4) rfl) zLp_g6 (fr_eval rfl rfl) Try.underlying3 rfl Try.sz3) ?_
                  refine ⟨Chg.refl _ _, ?_⟩
                  refine anyX_ready (rs := [17]) (by kernel_rfl) ?_
                  intro w27 hx
                  replace hH := hH.ext hx
                  clear hx
                  refine (anyX_cons ?_ anyX_nil)
                  refine xl_step (i := 17) rfl (wantF (d := 67) rfl (by kernel_rfl) rfl rfl) ?_
                  refine of_call (rv_call (args := [.pointer (some ⟨g1, 0, none⟩)]) rfl (evc (fr_eval rfl rfl) evn) Try.call41) (netLost_calls ls1 lo1 _ (hH.blk (i := 1) rfl) (Own.rd (hH.own (i := 2) rfl) (row_one cLt_one))) ?_
                  rintro _ w28 ⟨rfl, hx⟩
                  refine ⟨_, rfl, ?_⟩
                  refine ⟨Ext.any hx, ?_⟩
                  replace hH := hH.ext hx
                  clear hx
                  refine xl_tail (s := 22) rfl ?_
                  intro w29 hx
                  replace hH := hH.ext hx
                  clear hx
                  refine lf_val (v := .bool false) (wantF (d := 67) rfl (by kernel_rfl) rfl rfl) (rv_neq rfl (fr_eval rfl rfl) (fr_eval rfl rfl) (decide_eq_true (by omega))) ?_
                  refine lf_val (v := .bool false) (wantAll rfl) (rv_pickF rfl (fr_eval rfl rfl) (fr_eval rfl rfl)) ?_
                  refine lf_nil ?_
                  refine then_n ?_
                  refine wp_gen (fun F' => F' 0 = v ∧ F' 1 = .int .i64 z ∧ F' 5 = .pointer (some ⟨g1, 0, none⟩) ∧ F' 6 = .pointer (some ⟨g2, 0, none⟩) ∧ F' 7 = .int .i64 ((i : Nat) : Int) ∧ F' 8 = .pointer (some ⟨g3, 0, none⟩) ∧ F' 25 = .bool true ∧ F' 51 = .bool false ∧ F' 75 = .bool false) ⟨e0, e1, e5, e6, e7, e8, e25, (e51.trans (congrArg Value.bool (decide_eq_false hc5))), rfl⟩ ?_
                  clear e0 e1 e5 e6 e7 e8 e25 e51
                  clear F
                  rintro F ⟨e0, e1, e5, e6, e7, e8, e25, e51, e75⟩
                  refine wp_cond_false (fr_eval rfl e75) ?_
                  refine wp_skip ?_
                  refine blk_n ?_
                  refine then_n ?_
                  refine wp_regionF ?_
                  refine lf_val (v := .int .i64 ((i : Nat) : Int)) (wantAll rfl) (rv_move rfl (fr_eval rfl e7)) ?_
                  refine lf_val (v := .int .i64 ((i + 1 : Nat) : Int)) (wantAll rfl) (rv_add rfl (fr_eval rfl rfl) rfl (wrap_i64 (by omega) (by omega) (by omega))) ?_
                  refine lf_val (v := .int .i64 ((i + 1 : Nat) : Int)) (wantAll rfl) (rv_assign rfl (fr_eval rfl rfl)) ?_
                  refine lf_nil ?_
                  refine then_n ?_
                  replace hH : Heap _ _ _ [_, _, _, _, _, _] := hH.drop (.cons _ (.cons_cons _ (.cons_cons _ (.cons_cons _ (.cons_cons _ (.cons_cons _ (.cons_cons _ .slnil)))))))
                  replace hH : Heap _ _ _ [_, _, _, _, _, _] := hH.perm (.cons _ (.trans (.swap _ _ _) (.cons _ (.trans (.swap _ _ _) (.cons _ (.refl _))))))
                  exact ⟨_, _, (by omega), rfl, i + 1, _, _, _, _, _, _, _, _, rfl, (by omega), (by omega), hq2, (by omega), hq1, hq4, e0, e1, e5, e6, rfl, hH⟩
              · refine xl_step (i := 12) rfl (wantF (d := 57) rfl (by kernel_rfl) rfl rfl) ?_
                refine of_val (v := .int .i64 ((ps1.length : Nat) : Int)) (rv_len rfl (fr_eval rfl rfl) (Own.rd (hH.own (i := 5) rfl) (row_one cLt_one)) Try.underlying67) ?_
                refine ⟨Chg.refl _ _, ?_⟩
                refine anyX_ready (rs := [7]) (by kernel_rfl) ?_
                intro w30 hx
                replace hH := hH.ext hx
                clear hx
                refine (anyX_cons ?_ anyX_nil)
                refine xl_step (i := 7) rfl (wantF (d := 57) rfl (by kernel_rfl) rfl rfl) ?_
                refine of_call (rv_call (args := [.pointer (some ⟨g1, 0, none⟩)]) rfl (evc (fr_eval rfl rfl) evn) Try.call40) (netLen_calls ls1 lo1 _ (hH.blk (i := 1) rfl) (Own.rd (hH.own (i := 2) rfl) (row_one cLt_one))) ?_
                rintro _ w31 ⟨rfl, hx⟩
                refine ⟨_, rfl, ?_⟩
                refine ⟨Ext.any hx, ?_⟩
                replace hH := hH.ext hx
                clear hx
                refine xl_take (i := 13) (v := .bool false) rfl (by kernel_rfl) (by kernel_rfl) (by kernel_rfl) (by kernel_rfl) (yx_val (wantF (d := 57) rfl (by kernel_rfl) rfl rfl) (fun w' hx' => rv_neq rfl (fr_eval rfl rfl) (fr_eval rfl rfl) (decide_eq_true (by omega)))) ?_
                refine xl_take (i := 14) (v := .bool false) rfl (by kernel_rfl) (by kernel_rfl) (by kernel_rfl) (by kernel_rfl) (yx_val (wantAll rfl) (fun w' hx' => rv_pickF rfl (fr_eval rfl rfl) (fr_eval rfl rfl))) ?_
                refine xl_take (i := 15) (v := .bool false) rfl (by kernel_rfl) (by kernel_rfl) (by kernel_rfl) (by kernel_rfl) (yx_val (wantAll rfl) (fun w' hx' => rv_move rfl (fr_eval rfl rfl))) ?_
                refine xl_take (i := 16) (v := .pointer (some ⟨g1, 0, none⟩)) rfl (by kernel_rfl) (by kernel_rfl) (by kernel_rfl) (by kernel_rfl) (yx_val (wantF (d := 67) rfl (by kernel_rfl) rfl rfl) (fun w' hx' => rv_move rfl (fr_eval rfl e5))) ?_
                refine xl_take (i := 18) (v := .pointer (some ⟨g2, 0, none⟩)) rfl (by kernel_rfl) (by kernel_rfl) (by kernel_rfl) (by kernel_rfl) (yx_val (wantF (d := 67) rfl (by kernel_rfl) rfl rfl) (fun w' hx' => rv_move rfl (fr_eval rfl e6))) ?_
                refine xl_take (i := 19) (v := .pointer (some ⟨g2, 0, none⟩)) rfl (by kernel_rfl) (by kernel_rfl) (by kernel_rfl) (by kernel_rfl) (yx_val (wantF (d := 67) rfl (by kernel_rfl) rfl rfl) (fun w' hx' => rv_nilCheck rfl (fr_eval rfl rfl))) ?_
                refine xl_take (i := 20) (v := .pointer (some ⟨g2, 1, none⟩)) rfl (by kernel_rfl) (by kernel_rfl) (by kernel_rfl) (by kernel_rfl) (yx_val (wantF (d := 67) rfl (by kernel_rfl) rfl rfl) (fun w' hx' => rv_fieldAddr (n := 0) rfl (fr_eval rfl rfl) Try.underlying72 rfl rfl (by kernel_rfl))) ?_
                refine anyX_ready (rs := [17, 21]) (by kernel_rfl) ?_
                intro w32 hx
                replace hH := hH.ext hx
                clear hx
                refine (anyX_cons ?_ (anyX_cons ?_ anyX_nil))
                · refine xl_step (i := 17) rfl (wantF (d := 67) rfl (by kernel_rfl) rfl rfl) ?_
                  refine of_call (rv_call (args := [.pointer (some ⟨g1, 0, none⟩)]) rfl (evc (fr_eval rfl rfl) evn) Try.call41) (netLost_calls ls1 lo1 _ (hH.blk (i := 1) rfl) (Own.rd (hH.own (i := 2) rfl) (row_one cLt_one))) ?_
                  rintro _ w33 ⟨rfl, hx⟩
                  refine ⟨_, rfl, ?_⟩
                  refine ⟨Ext.any hx, ?_⟩
                  replace hH := hH.ext hx
                  clear hx
                  refine anyX_ready (rs := [21]) (by kernel_rfl) ?_
                  intro w34 hx
                  replace hH := hH.ext hx
                  clear hx
                  refine (anyX_cons ?_ anyX_nil)
                  refine xl_step (i := 21) rfl (wantF (d := 67) rfl (by kernel_rfl) rfl rfl) ?_
                  refine of_val (v := .int .i64 ((pl1 : Nat) : Int)) (rv_load1 rfl (hH.blk (i := 4) rfl) zLp_g6 (fr_eval rfl rfl) Try.underlying3 rfl Try.sz3) ?_
                  refine ⟨Chg.refl _ _, ?_⟩
                  refine xl_tail (s := 22) rfl ?_
                  intro w35 hx
                  replace hH := hH.ext hx
                  clear hx
                  refine lf_val (v := .bool false) (wantF (d := 67) rfl (by kernel_rfl) rfl rfl) (rv_neq rfl (fr_eval rfl rfl) (fr_eval rfl rfl) (decide_eq_true (by omega))) ?_
                  refine lf_val (v := .bool false) (wantAll rfl) (rv_pickF rfl (fr_eval rfl rfl) (fr_eval rfl rfl)) ?_
                  refine lf_nil ?_
                  refine then_n ?_
                  refine wp_gen (fun F' => F' 0 = v ∧ F' 1 = .int .i64 z ∧ F' 5 = .pointer (some ⟨g1, 0, none⟩) ∧ F' 6 = .pointer (some ⟨g2, 0, none⟩) ∧ F' 7 = .int .i64 ((i : Nat) : Int) ∧ F' 8 = .pointer (some ⟨g3, 0, none⟩) ∧ F' 25 = .bool true ∧ F' 51 = .bool false ∧ F' 75 = .bool false) ⟨e0, e1, e5, e6, e7, e8, e25, (e51.trans (congrArg Value.bool (decide_eq_false hc5))), rfl⟩ ?_
                  clear e0 e1 e5 e6 e7 e8 e25 e51
                  clear F
                  rintro F ⟨e0, e1, e5, e6, e7, e8, e25, e51, e75⟩
                  refine wp_cond_false (fr_eval rfl e75) ?_
                  refine wp_skip ?_
                  refine blk_n ?_
                  refine then_n ?_
                  refine wp_regionF ?_
                  refine lf_val (v := .int .i64 ((i : Nat) : Int)) (wantAll rfl) (rv_move rfl (fr_eval rfl e7)) ?_
                  refine lf_val (v := .int .i64 ((i + 1 : Nat) : Int)) (wantAll rfl) (rv_add rfl (fr_eval rfl rfl) rfl (wrap_i64 (by omega) (by omega) (by omega))) ?_
                  refine lf_val (v := .int .i64 ((i + 1 : Nat) : Int)) (wantAll rfl) (rv_assign rfl (fr_eval rfl rfl)) ?_
                  refine lf_nil ?_
                  refine then_n ?_
                  replace hH : Heap _ _ _ [_, _, _, _, _, _] := hH.drop (.cons _ (.cons_cons _ (.cons_cons _ (.cons_cons _ (.cons_cons _ (.cons_cons _ (.cons_cons _ .slnil)))))))
                  replace hH : Heap _ _ _ [_, _, _, _, _, _] := hH.perm (.cons _ (.trans (.swap _ _ _) (.cons _ (.trans (.swap _ _ _) (.cons _ (.refl _))))))
                  exact ⟨_, _, (by omega), rfl, i + 1, _, _, _, _, _, _, _, _, rfl, (by omega), (by omega), hq2, (by omega), hq1, hq4, e0, e1, e5, e6, rfl, hH⟩
                · refine xl_step (i := 21) rfl (wantF (d := 67) rfl (by kernel_rfl) rfl rfl) ?_
                  refine of_val (v := .int .i64 ((pl1 : Nat) : Int)) (rv_load1 rfl (hH.blk (i := 4) rfl) zLp_g6 (fr_eval rfl rfl) Try.underlying3 rfl Try.sz3) ?_
                  refine ⟨Chg.refl _ _, ?_⟩
                  refine anyX_ready (rs := [17]) (by kernel_rfl) ?_
                  intro w36 hx
                  replace hH := hH.ext hx
                  clear hx
                  refine (anyX_cons ?_ anyX_nil)
                  refine xl_step (i := 17) rfl (wantF (d := 67) rfl (by kernel_rfl) rfl rfl) ?_
                  refine of_call (rv_call (args := [.pointer (some ⟨g1, 0, none⟩)]) rfl (evc (fr_eval rfl rfl) evn) Try.call41) (netLost_calls ls1 lo1 _ (hH.blk (i := 1) rfl) (Own.rd (hH.own (i := 2) rfl) (row_one cLt_one))) ?_
                  rintro _ w37 ⟨rfl, hx⟩
                  refine ⟨_, rfl, ?_⟩
                  refine ⟨Ext.any hx, ?_⟩
                  replace hH := hH.ext hx
                  clear hx
                  refine xl_tail (s := 22) rfl ?_
                  intro w38 hx
                  replace hH := hH.ext hx
                  clear hx
                  refine lf_val (v := .bool false) (wantF (d := 67) rfl (by kernel_rfl) rfl rfl) (rv_neq rfl (fr_eval rfl rfl) (fr_eval rfl rfl) (decide_eq_true (by omega))) ?_
                  refine lf_val (v := .bool false) (wantAll rfl) (rv_pickF rfl (fr_eval rfl rfl) (fr_eval rfl rfl)) ?_
                  refine lf_nil ?_
                  refine then_n ?_
                  refine wp_gen (fun F' => F' 0 = v ∧ F' 1 = .int .i64 z ∧ F' 5 = .pointer (some ⟨g1, 0, none⟩) ∧ F' 6 = .pointer (some ⟨g2, 0, none⟩) ∧ F' 7 = .int .i64 ((i : Nat) : Int) ∧ F' 8 = .pointer (some ⟨g3, 0, none⟩) ∧ F' 25 = .bool true ∧ F' 51 = .bool false ∧ F' 75 = .bool false) ⟨e0, e1, e5, e6, e7, e8, e25, (e51.trans (congrArg Value.bool (decide_eq_false hc5))), rfl⟩ ?_
                  clear e0 e1 e5 e6 e7 e8 e25 e51
                  clear F
                  rintro F ⟨e0, e1, e5, e6, e7, e8, e25, e51, e75⟩
                  refine wp_cond_false (fr_eval rfl e75) ?_
                  refine wp_skip ?_
                  refine blk_n ?_
                  refine then_n ?_
                  refine wp_regionF ?_
                  refine lf_val (v := .int .i64 ((i : Nat) : Int)) (wantAll rfl) (rv_move rfl (fr_eval rfl e7)) ?_
                  refine lf_val (v := .int .i64 ((i + 1 : Nat) : Int)) (wantAll rfl) (rv_add rfl (fr_eval rfl rfl) rfl (wrap_i64 (by omega) (by omega) (by omega))) ?_
                  refine lf_val (v := .int .i64 ((i + 1 : Nat) : Int)) (wantAll rfl) (rv_assign rfl (fr_eval rfl rfl)) ?_
                  refine lf_nil ?_
                  refine then_n ?_
                  replace hH : Heap _ _ _ [_, _, _, _, _, _] := hH.drop (.cons _ (.cons_cons _ (.cons_cons _ (.cons_cons _ (.cons_cons _ (.cons_cons _ (.cons_cons _ .slnil)))))))
                  replace hH : Heap _ _ _ [_, _, _, _, _, _] := hH.perm (.cons _ (.trans (.swap _ _ _) (.cons _ (.trans (.swap _ _ _) (.cons _ (.refl _))))))
                  exact ⟨_, _, (by omega), rfl, i + 1, _, _, _, _, _, _, _, _, rfl, (by omega), (by omega), hq2, (by omega), hq1, hq4, e0, e1, e5, e6, rfl, hH⟩
    · refine wp_cond_false (fr_eval rfl (e25.trans (congrArg Value.bool (decide_eq_false hc2)))) ?_
      refine wp_exit ?_
      refine then_exit ?_
      refine then_exit ?_
      refine blk_exit ?_
      refine then_n ?_
      refine wp_seq ?_
      have hlen : ls.length = ps.length := kys_len (congrArg Prod.fst pi4)
      have hkk : kys ls = kys ps := congrArg Prod.fst pi4
      refine wp_regionF ?_
      refine lf_val (v := .pointer (some ⟨g1, 0, none⟩)) (wantAll rfl) (rv_move rfl (fr_eval rfl e5)) ?_
      refine lf_val (v := .int .i64 z) (wantAll rfl) (rv_move rfl (fr_eval rfl e1)) ?_
      refine lf_call (wantAll rfl) (rv_call (args := [.pointer (some ⟨g1, 0, none⟩), .int .i64 z]) rfl (evc (fr_eval rfl rfl) (evc (fr_eval rfl rfl) evn)) Try.call42) (netFor_calls ls (by omega) lost z _ (hH.blk (i := 0) rfl) (Own.rd (hH.own (i := 2) rfl) (row_one cLt_one))) ?_
      rintro _ w39 ⟨⟨y3, rfl, ho, hg⟩, hx⟩
      refine ⟨_, rfl, ?_⟩
      replace hH : Heap _ _ _ [_, _, _, _, _, _, _] := hH.addOwn hx hg ho
      clear ho hg
      clear hx
      refine lf_val (v := y3) (wantAll rfl) (rv_assign rfl (fr_eval rfl rfl)) ?_
      refine lf_nil ?_
      refine then_n ?_
      refine wp_seq ?_
      refine wp_gen (fun F' => F' 0 = v ∧ F' 1 = .int .i64 z ∧ F' 5 = .pointer (some ⟨g1, 0, none⟩) ∧ F' 6 = .pointer (some ⟨g2, 0, none⟩) ∧ F' 7 = .int .i64 ((i : Nat) : Int) ∧ F' 9 = y3 ∧ F' 25 = .bool false) ⟨e0, e1, e5, e6, e7, rfl, (e25.trans (congrArg Value.bool (decide_eq_false hc2)))⟩ ?_
      clear e0 e1 e5 e6 e7 e25
      clear F
      rintro F ⟨e0, e1, e5, e6, e7, e9, e25⟩
      refine wp_regionF ?_
      refine lf_val (v := .int .i64 0) (wantAll rfl) (rv_assign rfl rfl) ?_
      refine lf_nil ?_
      refine then_n ?_
      refine wp_seq ?_
      refine wp_seq ?_
      refine wp_gen (fun F' => F' 0 = v ∧ F' 1 = .int .i64 z ∧ F' 5 = .pointer (some ⟨g1, 0, none⟩) ∧ F' 6 = .pointer (some ⟨g2, 0, none⟩) ∧ F' 7 = .int .i64 ((i : Nat) : Int) ∧ F' 9 = y3 ∧ F' 10 = .int .i64 0 ∧ F' 25 = .bool false) ⟨e0, e1, e5, e6, e7, e9, rfl, e25⟩ ?_
      clear e0 e1 e5 e6 e7 e9 e25
      clear F
      rintro F ⟨e0, e1, e5, e6, e7, e9, e10, e25⟩
      refine wp_regionF ?_
      refine lf_val (v := .int .i64 0) (wantAll rfl) (rv_assign rfl rfl) ?_
      refine lf_nil ?_
      refine then_n ?_
      refine wp_block ?_
      refine wp_gen (fun F' => F' 0 = v ∧ F' 1 = .int .i64 z ∧ F' 5 = .pointer (some ⟨g1, 0, none⟩) ∧ F' 6 = .pointer (some ⟨g2, 0, none⟩) ∧ F' 7 = .int .i64 ((i : Nat) : Int) ∧ F' 9 = y3 ∧ F' 10 = .int .i64 0 ∧ F' 11 = .int .i64 0 ∧ F' 25 = .bool false) ⟨e0, e1, e5, e6, e7, e9, e10, rfl, e25⟩ ?_
      clear e0 e1 e5 e6 e7 e9 e10 e25
      clear F
      rintro F ⟨e0, e1, e5, e6, e7, e9, e10, e11, e25⟩
      refine wp_loopF (fun m F wr => ∃ j : Nat, m = ps.length - j ∧ j ≤ ps.length ∧ F 0 = v ∧ F 1 = .int .i64 z ∧ F 5 = .pointer (some ⟨g1, 0, none⟩) ∧ F 6 = .pointer (some ⟨g2, 0, none⟩) ∧ F 7 = .int .i64 ((i : Nat) : Int) ∧ F 9 = y3 ∧ F 10 = .int .i64 (((forK ls z j).length : Nat) : Int) ∧ F 11 = .int .i64 ((j : Nat) : Int) ∧ F 25 = .bool false ∧ Heap (newN w) w wr [oBlk g1 ([v1, .int .i64 ((lost : Nat) : Int)]) 69, oBlk g2 ([v2, .int .i64 ((plost : Nat) : Int)]) 72, oRow cLt 87 2 v1 ls, oBag (fun k => k < w.heap.size) S1 ls, oRow cLt 87 2 v2 ps, oBag (fun k => k < w.heap.size) S2 ps, oRow cNu 3 1 y3 (forK ls z ls.length)]) ⟨0, rfl, Nat.zero_le _, e0, e1, e5, e6, e7, e9, e10, e11, e25, hH⟩ ?_
      clear e0 e1 e5 e6 e7 e9 e10 e11 e25 hH
      clear F
      rintro m F w40 ⟨j, rfl, pj0, e0, e1, e5, e6, e7, e9, e10, e11, e25, hH⟩
      refine wp_seq ?_
      refine wp_seq ?_
      refine wp_regionF ?_
      refine lf_val (v := .int .i64 ((j : Nat) : Int)) (wantAll rfl) (rv_move rfl (fr_eval rfl e11)) ?_
      refine lf_val (v := .pointer (some ⟨g2, 0, none⟩)) (wantAll rfl) (rv_move rfl (fr_eval rfl e6)) ?_
      refine lf_val (v := .pointer (some ⟨g2, 0, none⟩)) (wantAll rfl) (rv_nilCheck rfl (fr_eval rfl rfl)) ?_
      refine lf_val (v := .pointer (some ⟨g2, 0, none⟩)) (wantAll rfl) (rv_fieldAddr (n := 0) rfl (fr_eval rfl rfl) Try.underlying72 rfl rfl (by kernel_rfl)) ?_
      refine lf_val (v := v2) (wantAll rfl) (rv_load1 rfl (hH.blk (i := 1) rfl) zLp_g5 (fr_eval rfl rfl) Try.underlying67 rfl Try.sz67) ?_
      refine lf_val (v := .int .i64 ((ps.length : Nat) : Int)) (wantAll rfl) (rv_len rfl (fr_eval rfl rfl) (Own.rd (hH.own (i := 4) rfl) (row_one cLt_one)) Try.underlying67) ?_
      refine lf_val (v := .bool (decide (j < ps.length))) (wantAll rfl) (rv_lssP (p := j < ps.length) rfl (fr_eval rfl rfl) (fr_eval rfl rfl) (by omega)) ?_
      refine lf_nil ?_
      refine then_n ?_
      refine wp_gen (fun F' => F' 0 = v ∧ F' 1 = .int .i64 z ∧ F' 5 = .pointer (some ⟨g1, 0, none⟩) ∧ F' 6 = .pointer (some ⟨g2, 0, none⟩) ∧ F' 7 = .int .i64 ((i : Nat) : Int) ∧ F' 9 = y3 ∧ F' 10 = .int .i64 (((forK ls z j).length : Nat) : Int) ∧ F' 11 = .int .i64 ((j : Nat) : Int) ∧ F' 25 = .bool false ∧ F' 85 = .bool (decide (j < ps.length))) ⟨e0, e1, e5, e6, e7, e9, e10, e11, e25, rfl⟩ ?_
      clear e0 e1 e5 e6 e7 e9 e10 e11 e25
      clear F
      rintro F ⟨e0, e1, e5, e6, e7, e9, e10, e11, e25, e85⟩
      by_cases hc6 : j < ps.length
      · refine wp_cond_true (fr_eval rfl (e85.trans (congrArg Value.bool (decide_eq_true hc6)))) ?_
        refine wp_skip ?_
        refine then_n ?_
        refine wp_seq ?_
        refine wp_block ?_
        refine wp_seq ?_
        obtain ⟨hat, hab⟩ := kys_at hkk j
        have hfl := forK_le ls z j
        refine wp_regionF ?_
        refine lf_val (v := .pointer (some ⟨g1, 0, none⟩)) (wantAll rfl) (rv_move rfl (fr_eval rfl e5)) ?_
        refine lf_val (v := .int .i64 ((j : Nat) : Int)) (wantAll rfl) (rv_move rfl (fr_eval rfl e11)) ?_
        refine lf_call (wantAll rfl) (rv_call (args := [.pointer (some ⟨g1, 0, none⟩), .int .i64 ((j : Nat) : Int)]) rfl (evc (fr_eval rfl rfl) (evc (fr_eval rfl rfl) evn)) Try.call43) (netPeek_yes ls (by omega) lost j (by omega) (Nat.le_trans (bd_at pi5 (by omega)) (by decide)) _ (hH.blk (i := 0) rfl) (Own.rd (hH.own (i := 2) rfl) (row_one cLt_one)) (BagAt.rd (hH.bag (i := 3) rfl) (memL (by omega)))) ?_
        rintro _ w41 ⟨⟨y4, rfl, ho, hg⟩, hx⟩
        refine ⟨_, rfl, ?_⟩
        replace hH : Heap _ _ _ [_, _, _, _, _, _, _, _] := hH.addOwn hx hg ho
        clear ho hg
        have qy1 : y4.oneCell' = true := Rd.oneV (OwnB.rd (hH.own (i := 7) rfl))
        clear hx
        refine lf_val (v := .tuple #[.agg #[.int .i64 ((List.getD ls j zLt).to), y4], .int .i64 0]) (wantAll rfl) (rv_move rfl (fr_eval rfl rfl)) ?_
        refine lf_val (v := .agg #[.int .i64 ((List.getD ls j zLt).to), y4]) (wantAll rfl) (rv_extract rfl (fr_eval rfl rfl) rfl) ?_
        refine lf_val (v := .int .i64 0) (wantAll rfl) (rv_extract rfl (fr_eval rfl rfl) rfl) ?_
        refine lf_ex (wantAll rfl) (hx_alloc hH 87 (z := .agg ([.int .i64 0, .slice none 0 0]).toArray) (n := 2) (cs := [.int .i64 0, .slice none 0 0]) rfl (by kernel_rfl) (by rfl)) ?_
        clear hH
        rintro _ w42 ⟨g4, rfl, hH, hx⟩
        replace hH : Heap _ _ _ [_, _, _, _, _, _, _, _, _] := hH
        clear hx
        refine lf_sk (wantAll rfl) (hx_storeW hH (i := 8) (cs := [.int .i64 ((List.getD ls j zLt).to), y4]) rfl rfl rfl (fr_eval rfl rfl) (fr_eval rfl rfl) (sz_len Try.sz87 zLp_l7) ((zLp_l7).trans (zLp_l7).symm) (zLp_o8 rfl qy1)) ?_
        clear hH
        rintro w43 ⟨hH, hx⟩
        replace hH : Heap _ _ _ [_, _, _, _, _, _, _, _, _] := hH
        clear hx
        refine lf_val (v := .int .i64 0) (wantAll rfl) (rv_assign rfl (fr_eval rfl rfl)) ?_
        refine lf_nil ?_
        refine then_n ?_
        refine wp_seq ?_
        refine wp_seq ?_
        refine wp_gen (fun F' => F' 0 = v ∧ F' 1 = .int .i64 z ∧ F' 5 = .pointer (some ⟨g1, 0, none⟩) ∧ F' 6 = .pointer (some ⟨g2, 0, none⟩) ∧ F' 7 = .int .i64 ((i : Nat) : Int) ∧ F' 9 = y3 ∧ F' 10 = .int .i64 (((forK ls z j).length : Nat) : Int) ∧ F' 11 = .int .i64 ((j : Nat) : Int) ∧ F' 12 = .pointer (some ⟨g4, 0, none⟩) ∧ F' 13 = .int .i64 0 ∧ F' 25 = .bool false ∧ F' 85 = .bool true) ⟨e0, e1, e5, e6, e7, e9, e10, e11, rfl, rfl, e25, (e85.trans (congrArg Value.bool (decide_eq_true hc6)))⟩ ?_
        clear e0 e1 e5 e6 e7 e9 e10 e11 e25 e85
        clear F
        rintro F ⟨e0, e1, e5, e6, e7, e9, e10, e11, e12, e13, e25, e85⟩
        refine wp_regionX (fun _ => False) 28 (by kernel_rfl) (by kernel_rfl) ?_
        refine xl_take (i := 0) (v := .int .i64 0) rfl (by kernel_rfl) (by kernel_rfl) (by kernel_rfl) (by kernel_rfl) (yx_val (wantAll rfl) (fun w' hx' => rv_move rfl (fr_eval rfl e13))) ?_
        refine xl_take (i := 1) (v := .bool false) rfl (by kernel_rfl) (by kernel_rfl) (by kernel_rfl) (by kernel_rfl) (yx_val (wantAll rfl) (fun w' hx' => rv_neq rfl (fr_eval rfl rfl) rfl (show decide ((0 : Int) = 0) = true from by decide))) ?_
        refine xl_take (i := 2) (v := .bool false) rfl (by kernel_rfl) (by kernel_rfl) (by kernel_rfl) (by kernel_rfl) (yx_val (wantAll rfl) (fun w' hx' => rv_move rfl (fr_eval rfl rfl))) ?_
        refine xl_take (i := 3) (v := .pointer (some ⟨g4, 0, none⟩)) rfl (by kernel_rfl) (by kernel_rfl) (by kernel_rfl) (by kernel_rfl) (yx_val (wantF (d := 96) rfl (by kernel_rfl) rfl rfl) (fun w' hx' => rv_fieldAddr (n := 0) rfl (fr_eval rfl e12) Try.underlying87 rfl rfl (by kernel_rfl))) ?_
        refine xl_take (i := 4) (v := .int .i64 ((List.getD ls j zLt).to)) rfl (by kernel_rfl) (by kernel_rfl) (by kernel_rfl) (by kernel_rfl) (yx_val (wantF (d := 96) rfl (by kernel_rfl) rfl rfl) (fun w' hx' => rv_load1 rfl ((hH.ext hx').blk (i := 8) rfl) zLp_g5 (fr_eval rfl rfl) Try.underlying3 rfl Try.sz3)) ?_
        refine xl_take (i := 5) (v := .pointer (some ⟨g2, 0, none⟩)) rfl (by kernel_rfl) (by kernel_rfl) (by kernel_rfl) (by kernel_rfl) (yx_val (wantF (d := 96) rfl (by kernel_rfl) rfl rfl) (fun w' hx' => rv_move rfl (fr_eval rfl e6))) ?_
        refine xl_take (i := 6) (v := .pointer (some ⟨g2, 0, none⟩)) rfl (by kernel_rfl) (by kernel_rfl) (by kernel_rfl) (by kernel_rfl) (yx_val (wantF (d := 96) rfl (by kernel_rfl) rfl rfl) (fun w' hx' => rv_nilCheck rfl (fr_eval rfl rfl))) ?_
        refine xl_take (i := 7) (v := .pointer (some ⟨g2, 0, none⟩)) rfl (by kernel_rfl) (by kernel_rfl) (by kernel_rfl) (by kernel_rfl) (yx_val (wantF (d := 96) rfl (by kernel_rfl) rfl rfl) (fun w' hx' => rv_fieldAddr (n := 0) rfl (fr_eval rfl rfl) Try.underlying72 rfl rfl (by kernel_rfl))) ?_
        refine xl_take (i := 8) (v := v2) rfl (by kernel_rfl) (by kernel_rfl) (by kernel_rfl) (by kernel_rfl) (yx_val (wantF (d := 96) rfl (by kernel_rfl) rfl rfl) (fun w' hx' => rv_load1 rfl ((hH.ext hx').blk (i := 1) rfl) zLp_g5 (fr_eval rfl rfl) Try.underlying67 rfl Try.sz67)) ?_
        refine xl_take (i := 9) (v := .int .i64 ((j : Nat) : Int)) rfl (by kernel_rfl) (by kernel_rfl) (by kernel_rfl) (by kernel_rfl) (yx_val (wantF (d := 96) rfl (by kernel_rfl) rfl rfl) (fun w' hx' => rv_move rfl (fr_eval rfl e11))) ?_
        refine xl_take (i := 10) (v := .pointer (some (elemA v2 (j * 2)))) rfl (by kernel_rfl) (by kernel_rfl) (by kernel_rfl) (by kernel_rfl) (yx_val (wantF (d := 96) rfl (by kernel_rfl) rfl rfl) (fun w' hx' => rv_index rfl (fr_eval rfl rfl) (fr_eval rfl rfl) (rdN (Own.rd ((hH.ext hx').own (i := 4) rfl) (row_one cLt_one)) rfl) (show j < ps.length from (by omega)) Try.underlying67 Try.sz87 (by decide))) ?_
        refine xl_take (i := 11) (v := .pointer (some (elemA v2 (j * 2 + 0)))) rfl (by kernel_rfl) (by kernel_rfl) (by kernel_rfl) (by kernel_rfl) (yx_val (wantF (d := 96) rfl (by kernel_rfl) rfl rfl) (fun w' hx' => rv_fieldElem (nn := 0) (n := ps.length) (i := j) rfl (fr_eval rfl rfl) (Own.rd ((hH.ext hx').own (i := 4) rfl) (row_one cLt_one)) (by omega) (by decide) Try.underlying87 rfl rfl (by kernel_rfl))) ?_
        refine xl_take (i := 12) (v := .int .i64 ((List.getD ps j zLt).to)) rfl (by kernel_rfl) (by kernel_rfl) (by kernel_rfl) (by kernel_rfl) (yx_val (wantF (d := 96) rfl (by kernel_rfl) rfl rfl) (fun w' hx' => rv_loadCell rfl (fr_eval rfl rfl) rfl (Own.rd ((hH.ext hx').own (i := 4) rfl) (row_one cLt_one)) (flat_get zLt cLt_len (by omega) (show (cLt (List.getD ps j zLt))[0]? = some (.int .i64 ((List.getD ps j zLt).to)) from zLp_g5) (by decide)) Try.underlying3 rfl Try.sz3)) ?_
        refine xl_take (i := 13) (v := .bool false) rfl (by kernel_rfl) (by kernel_rfl) (by kernel_rfl) (by kernel_rfl) (yx_val (wantF (d := 96) rfl (by kernel_rfl) rfl rfl) (fun w' hx' => rv_neq rfl (fr_eval rfl rfl) (fr_eval rfl rfl) (decide_eq_true (by omega)))) ?_
        refine xl_take (i := 14) (v := .bool false) rfl (by kernel_rfl) (by kernel_rfl) (by kernel_rfl) (by kernel_rfl) (yx_val (wantAll rfl) (fun w' hx' => rv_pickF rfl (fr_eval rfl rfl) (fr_eval rfl rfl))) ?_
        refine xl_take (i := 15) (v := .bool false) rfl (by kernel_rfl) (by kernel_rfl) (by kernel_rfl) (by kernel_rfl) (yx_val (wantAll rfl) (fun w' hx' => rv_move rfl (fr_eval rfl rfl))) ?_
        refine xl_take (i := 16) (v := .pointer (some ⟨g4, 1, none⟩)) rfl (by kernel_rfl) (by kernel_rfl) (by kernel_rfl) (by kernel_rfl) (yx_val (wantF (d := 109) rfl (by kernel_rfl) rfl rfl) (fun w' hx' => rv_fieldAddr (n := 0) rfl (fr_eval rfl e12) Try.underlying87 rfl rfl (by kernel_rfl))) ?_
        refine xl_take (i := 17) (v := y4) rfl (by kernel_rfl) (by kernel_rfl) (by kernel_rfl) (by kernel_rfl) (yx_val (wantF (d := 109) rfl (by kernel_rfl) rfl rfl) (fun w' hx' => rv_load1 rfl ((hH.ext hx').blk (i := 8) rfl) zLp_g6 (fr_eval rfl rfl) Try.underlying22 rfl Try.sz22)) ?_
        refine xl_take (i := 18) (v := .string ⟨((List.getD ls j zLt).b).toArray⟩) rfl (by kernel_rfl) (by kernel_rfl) (by kernel_rfl) (by kernel_rfl) (yx_val (wantF (d := 109) rfl (by kernel_rfl) rfl rfl) (fun w' hx' => rv_str rfl (fr_eval rfl rfl) (OwnB.rd ((hH.ext hx').own (i := 7) rfl)) Try.underlying22 Try.underlying5 Try.underlying9)) ?_
        refine xl_take (i := 19) (v := .pointer (some ⟨g2, 0, none⟩)) rfl (by kernel_rfl) (by kernel_rfl) (by kernel_rfl) (by kernel_rfl) (yx_val (wantF (d := 109) rfl (by kernel_rfl) rfl rfl) (fun w' hx' => rv_move rfl (fr_eval rfl e6))) ?_
        refine xl_take (i := 20) (v := .pointer (some ⟨g2, 0, none⟩)) rfl (by kernel_rfl) (by kernel_rfl) (by kernel_rfl) (by kernel_rfl) (yx_val (wantF (d := 109) rfl (by kernel_rfl) rfl rfl) (fun w' hx' => rv_nilCheck rfl (fr_eval rfl rfl))) ?_
        refine xl_take (i := 21) (v := .pointer (some ⟨g2, 0, none⟩)) rfl (by kernel_rfl) (by kernel_rfl) (by kernel_rfl) (by kernel_rfl) (yx_val (wantF (d := 109) rfl (by kernel_rfl) rfl rfl) (fun w' hx' => rv_fieldAddr (n := 0) rfl (fr_eval rfl rfl) Try.underlying72 rfl rfl (by kernel_rfl))) ?_
        refine xl_take (i := 22) (v := v2) rfl (by kernel_rfl) (by kernel_rfl) (by kernel_rfl) (by kernel_rfl) (yx_val (wantF (d := 109) rfl (by kernel_rfl) rfl rfl) (fun w' hx' => rv_load1 rfl ((hH.ext hx').blk (i := 1) rfl) zLp_g5 (fr_eval rfl rfl) Try.underlying67 rfl Try.sz67)) ?_
        refine xl_take (i := 23) (v := .int .i64 ((j : Nat) : Int)) rfl (by kernel_rfl) (by kernel_rfl) (by kernel_rfl) (by kernel_rfl) (yx_val (wantF (d := 109) rfl (by kernel_rfl) rfl rfl) (fun w' hx' => rv_move rfl (fr_eval rfl e11))) ?_
        refine xl_take (i := 24) (v := .pointer (some (elemA v2 (j * 2)))) rfl (by kernel_rfl) (by kernel_rfl) (by kernel_rfl) (by kernel_rfl) (yx_val (wantF (d := 109) rfl (by kernel_rfl) rfl rfl) (fun w' hx' => rv_index rfl (fr_eval rfl rfl) (fr_eval rfl rfl) (rdN (Own.rd ((hH.ext hx').own (i := 4) rfl) (row_one cLt_one)) rfl) (show j < ps.length from (by omega)) Try.underlying67 Try.sz87 (by decide))) ?_
        refine xl_take (i := 25) (v := .pointer (some (elemA v2 (j * 2 + 1)))) rfl (by kernel_rfl) (by kernel_rfl) (by kernel_rfl) (by kernel_rfl) (yx_val (wantF (d := 109) rfl (by kernel_rfl) rfl rfl) (fun w' hx' => rv_fieldElem (nn := 0) (n := ps.length) (i := j) rfl (fr_eval rfl rfl) (Own.rd ((hH.ext hx').own (i := 4) rfl) (row_one cLt_one)) (by omega) (by decide) Try.underlying87 rfl rfl (by kernel_rfl))) ?_
        refine xl_take (i := 26) (v := (List.getD ps j zLt).v.1) rfl (by kernel_rfl) (by kernel_rfl) (by kernel_rfl) (by kernel_rfl) (yx_val (wantF (d := 109) rfl (by kernel_rfl) rfl rfl) (fun w' hx' => rv_loadCell rfl (fr_eval rfl rfl) rfl (Own.rd ((hH.ext hx').own (i := 4) rfl) (row_one cLt_one)) (flat_get zLt cLt_len (by omega) (show (cLt (List.getD ps j zLt))[1]? = some ((List.getD ps j zLt).v.1) from zLp_g6) (by decide)) Try.underlying22 rfl Try.sz22)) ?_
        refine xl_take (i := 27) (v := .string ⟨((List.getD ps j zLt).b).toArray⟩) rfl (by kernel_rfl) (by kernel_rfl) (by kernel_rfl) (by kernel_rfl) (yx_val (wantF (d := 109) rfl (by kernel_rfl) rfl rfl) (fun w' hx' => rv_str rfl (fr_eval rfl rfl) (BagAt.rd ((hH.ext hx').bag (i := 5) rfl) (memL (l := ps) (by omega))) Try.underlying22 Try.underlying5 Try.underlying9)) ?_
        refine xl_tail (s := 28) rfl ?_
        intro w44 hx
        replace hH := hH.ext hx
        clear hx
        refine lf_val (v := .bool false) (wantF (d := 109) rfl (by kernel_rfl) rfl rfl) (rv_nes (b := true) rfl (fr_eval rfl rfl) (fr_eval rfl rfl) (by exact decide_eq_true hab)) ?_
        refine lf_val (v := .bool false) (wantAll rfl) (rv_pickF rfl (fr_eval rfl rfl) (fr_eval rfl rfl)) ?_
        refine lf_nil ?_
        refine then_n ?_
        refine wp_gen (fun F' => F' 0 = v ∧ F' 1 = .int .i64 z ∧ F' 5 = .pointer (some ⟨g1, 0, none⟩) ∧ F' 6 = .pointer (some ⟨g2, 0, none⟩) ∧ F' 7 = .int .i64 ((i : Nat) : Int) ∧ F' 9 = y3 ∧ F' 10 = .int .i64 (((forK ls z j).length : Nat) : Int) ∧ F' 11 = .int .i64 ((j : Nat) : Int) ∧ F' 12 = .pointer (some ⟨g4, 0, none⟩) ∧ F' 13 = .int .i64 0 ∧ F' 25 = .bool false ∧ F' 85 = .bool true ∧ F' 123 = .bool false) ⟨e0, e1, e5, e6, e7, e9, e10, e11, e12, e13, e25, e85, rfl⟩ ?_
        clear e0 e1 e5 e6 e7 e9 e10 e11 e12 e13 e25 e85
        clear F
        rintro F ⟨e0, e1, e5, e6, e7, e9, e10, e11, e12, e13, e25, e85, e123⟩
        refine wp_cond_false (fr_eval rfl e123) ?_
        refine wp_skip ?_
        refine then_n ?_
        refine wp_seq ?_
        refine wp_seq ?_
        refine wp_regionF ?_
        refine lf_val (v := .pointer (some ⟨g4, 0, none⟩)) (wantAll rfl) (rv_fieldAddr (n := 0) rfl (fr_eval rfl e12) Try.underlying87 rfl rfl (by kernel_rfl)) ?_
        refine lf_val (v := .int .i64 ((List.getD ls j zLt).to)) (wantAll rfl) (rv_load1 rfl (hH.blk (i := 8) rfl) zLp_g5 (fr_eval rfl rfl) Try.underlying3 rfl Try.sz3) ?_
        refine lf_val (v := .int .i64 z) (wantAll rfl) (rv_move rfl (fr_eval rfl e1)) ?_
        refine lf_val (v := .bool (decide (¬ (List.getD ls j zLt).to = z))) (wantAll rfl) (rv_neqP (p := ¬ (List.getD ls j zLt).to = z) rfl (fr_eval rfl rfl) (fr_eval rfl rfl) Iff.rfl) ?_
        refine lf_nil ?_
        refine then_n ?_
        refine wp_gen (fun F' => F' 0 = v ∧ F' 1 = .int .i64 z ∧ F' 5 = .pointer (some ⟨g1, 0, none⟩) ∧ F' 6 = .pointer (some ⟨g2, 0, none⟩) ∧ F' 7 = .int .i64 ((i : Nat) : Int) ∧ F' 9 = y3 ∧ F' 10 = .int .i64 (((forK ls z j).length : Nat) : Int) ∧ F' 11 = .int .i64 ((j : Nat) : Int) ∧ F' 12 = .pointer (some ⟨g4, 0, none⟩) ∧ F' 13 = .int .i64 0 ∧ F' 25 = .bool false ∧ F' 85 = .bool true ∧ F' 123 = .bool false ∧ F' 127 = .bool (decide (¬ (List.getD ls j zLt).to = z))) ⟨e0, e1, e5, e6, e7, e9, e10, e11, e12, e13, e25, e85, e123, rfl⟩ ?_
        clear e0 e1 e5 e6 e7 e9 e10 e11 e12 e13 e25 e85 e123
        clear F
        rintro F ⟨e0, e1, e5, e6, e7, e9, e10, e11, e12, e13, e25, e85, e123, e127⟩
        by_cases hc7 : (List.getD ls j zLt).to = z
        · refine wp_cond_false (fr_eval rfl (e127.trans (congrArg Value.bool (decide_eq_false (not_not_intro hc7))))) ?_
          refine wp_skip ?_
          refine then_n ?_
          refine wp_seq ?_
          refine wp_seq ?_
          obtain ⟨hfa, hfb⟩ := forK_at (n := ls.length) (by omega : j < ls.length) hc7
          refine wp_regionF ?_
          refine lf_val (wantAll rfl) (rv_move rfl (fr_eval rfl e10)) ?_
          refine lf_val (v := y3) (wantAll rfl) (rv_move rfl (fr_eval rfl e9)) ?_
          refine lf_val (v := .int .i64 (((forK ls z ls.length).length : Nat) : Int)) (wantAll rfl) (rv_len rfl (fr_eval rfl rfl) (Own.rd (hH.own (i := 6) rfl) (row_one cNu_one)) Try.underlying48) ?_
          refine lf_val (v := .bool false) (wantAll rfl) (rv_geq rfl (fr_eval rfl rfl) (fr_eval rfl rfl) (decide_eq_false (by omega))) ?_
          refine lf_val (v := .bool false) (wantAll rfl) (rv_move rfl (fr_eval rfl rfl)) ?_
          refine lf_val (v := y3) (wantF (d := 132) rfl (by kernel_rfl) rfl rfl) (rv_move rfl (fr_eval rfl e9)) ?_
          refine lf_val (wantF (d := 132) rfl (by kernel_rfl) rfl rfl) (rv_move rfl (fr_eval rfl e10)) ?_
          refine lf_val (v := .pointer (some (elemA y3 (((forK ls z j).length) * 1)))) (wantF (d := 132) rfl (by kernel_rfl) rfl rfl) (rv_index rfl (fr_eval rfl rfl) (fr_eval rfl rfl) (rdN (Own.rd (hH.own (i := 6) rfl) (row_one cNu_one)) rfl) (show (forK ls z j).length < (forK ls z ls.length).length from (by omega)) Try.underlying48 Try.sz3 (by decide)) ?_
          refine lf_val (wantF (d := 132) rfl (by kernel_rfl) rfl rfl) (rv_loadCell rfl (fr_eval rfl rfl) (Nat.mul_one _) (Own.rd (hH.own (i := 6) rfl) (row_one cNu_one)) (flat_get1 0 cNu_len (show (forK ls z j).length < (forK ls z ls.length).length from (by omega)) rfl) Try.underlying3 rfl Try.sz3) ?_
          refine lf_val (v := .int .i64 ((j : Nat) : Int)) (wantF (d := 132) rfl (by kernel_rfl) rfl rfl) (rv_move rfl (fr_eval rfl e11)) ?_
          refine lf_val (v := .bool false) (wantF (d := 132) rfl (by kernel_rfl) rfl rfl) (rv_neq rfl (fr_eval rfl rfl) (fr_eval rfl rfl) (decide_eq_true (by omega))) ?_
          refine lf_val (v := .bool false) (wantAll rfl) (rv_pickF rfl (fr_eval rfl rfl) (fr_eval rfl rfl)) ?_
          refine lf_nil ?_
          refine then_n ?_
          refine wp_gen (fun F' => F' 0 = v ∧ F' 1 = .int .i64 z ∧ F' 5 = .pointer (some ⟨g1, 0, none⟩) ∧ F' 6 = .pointer (some ⟨g2, 0, none⟩) ∧ F' 7 = .int .i64 ((i : Nat) : Int) ∧ F' 9 = y3 ∧ F' 10 = .int .i64 (((forK ls z j).length : Nat) : Int) ∧ F' 11 = .int .i64 ((j : Nat) : Int) ∧ F' 12 = .pointer (some ⟨g4, 0, none⟩) ∧ F' 13 = .int .i64 0 ∧ F' 25 = .bool false ∧ F' 85 = .bool true ∧ F' 123 = .bool false ∧ F' 127 = .bool false ∧ F' 139 = .bool false) ⟨e0, e1, e5, e6, e7, e9, e10, e11, e12, e13, e25, e85, e123, (e127.trans (congrArg Value.bool (decide_eq_false (not_not_intro hc7)))), rfl⟩ ?_
          clear e0 e1 e5 e6 e7 e9 e10 e11 e12 e13 e25 e85 e123 e127
          clear F
          rintro F ⟨e0, e1, e5, e6, e7, e9, e10, e11, e12, e13, e25, e85, e123, e127, e139⟩
          refine wp_cond_false (fr_eval rfl e139) ?_
          refine wp_skip ?_
          refine then_n ?_
          refine wp_regionF ?_
          refine lf_val (wantAll rfl) (rv_move rfl (fr_eval rfl e10)) ?_
          refine lf_val (v := .int .i64 ((((forK ls z j).length) + 1 : Nat) : Int)) (wantAll rfl) (rv_add rfl (fr_eval rfl rfl) rfl (wrap_i64 (by omega) (by omega) (by omega))) ?_
          refine lf_val (v := .int .i64 ((((forK ls z j).length) + 1 : Nat) : Int)) (wantAll rfl) (rv_assign rfl (fr_eval rfl rfl)) ?_
          refine lf_nil ?_
          refine blk_n ?_
          refine then_n ?_
          refine wp_gen (fun F' => F' 0 = v ∧ F' 1 = .int .i64 z ∧ F' 5 = .pointer (some ⟨g1, 0, none⟩) ∧ F' 6 = .pointer (some ⟨g2, 0, none⟩) ∧ F' 7 = .int .i64 ((i : Nat) : Int) ∧ F' 9 = y3 ∧ F' 10 = .int .i64 ((((forK ls z j).length) + 1 : Nat) : Int) ∧ F' 11 = .int .i64 ((j : Nat) : Int) ∧ F' 12 = .pointer (some ⟨g4, 0, none⟩) ∧ F' 13 = .int .i64 0 ∧ F' 25 = .bool false ∧ F' 85 = .bool true ∧ F' 123 = .bool false ∧ F' 127 = .bool false ∧ F' 139 = .bool false) ⟨e0, e1, e5, e6, e7, e9, rfl, e11, e12, e13, e25, e85, e123, e127, e139⟩ ?_
          clear e0 e1 e5 e6 e7 e9 e10 e11 e12 e13 e25 e85 e123 e127 e139
          clear F
          rintro F ⟨e0, e1, e5, e6, e7, e9, e10, e11, e12, e13, e25, e85, e123, e127, e139⟩
          refine wp_regionF ?_
          refine lf_val (v := .int .i64 ((j : Nat) : Int)) (wantAll rfl) (rv_move rfl (fr_eval rfl e11)) ?_
          refine lf_val (v := .int .i64 ((j + 1 : Nat) : Int)) (wantAll rfl) (rv_add rfl (fr_eval rfl rfl) rfl (wrap_i64 (by omega) (by omega) (by omega))) ?_
          refine lf_val (v := .int .i64 ((j + 1 : Nat) : Int)) (wantAll rfl) (rv_assign rfl (fr_eval rfl rfl)) ?_
          refine lf_nil ?_
          refine then_n ?_
          replace hH : Heap _ _ _ [_, _, _, _, _, _, _] := hH.drop (.cons_cons _ (.cons_cons _ (.cons_cons _ (.cons_cons _ (.cons_cons _ (.cons_cons _ (.cons_cons _ (.cons _ (.cons _ .slnil)))))))))
          exact ⟨_, _, (by omega), rfl, j + 1, rfl, (by omega), e0, e1, e5, e6, e7, e9, (e10.trans (congrArg (fun n : Nat => Value.int .i64 (n : Int)) (show (forK ls z j).length + 1 = (forK ls z (j + 1)).length by rw [← forK_yes hc7]; simp))), rfl, e25, hH⟩
        · refine wp_cond_true (fr_eval rfl (e127.trans (congrArg Value.bool (decide_eq_true hc7)))) ?_
          refine wp_exit ?_
          refine then_exit ?_
          refine blk_exit ?_
          refine then_n ?_
          refine wp_regionF ?_
          refine lf_val (v := .int .i64 ((j : Nat) : Int)) (wantAll rfl) (rv_move rfl (fr_eval rfl e11)) ?_
          refine lf_val (v := .int .i64 ((j + 1 : Nat) : Int)) (wantAll rfl) (rv_add rfl (fr_eval rfl rfl) rfl (wrap_i64 (by omega) (by omega) (by omega))) ?_
          refine lf_val (v := .int .i64 ((j + 1 : Nat) : Int)) (wantAll rfl) (rv_assign rfl (fr_eval rfl rfl)) ?_
          refine lf_nil ?_
          refine then_n ?_
          replace hH : Heap _ _ _ [_, _, _, _, _, _, _] := hH.drop (.cons_cons _ (.cons_cons _ (.cons_cons _ (.cons_cons _ (.cons_cons _ (.cons_cons _ (.cons_cons _ (.cons _ (.cons _ .slnil)))))))))
          exact ⟨_, _, (by omega), rfl, j + 1, rfl, (by omega), e0, e1, e5, e6, e7, e9, (e10.trans (congrArg (fun q : List Nat => Value.int .i64 ((q.length : Nat) : Int)) (forK_no hc7))), rfl, e25, hH⟩
      · refine wp_cond_false (fr_eval rfl (e85.trans (congrArg Value.bool (decide_eq_false hc6)))) ?_
        refine wp_exit ?_
        refine then_exit ?_
        refine then_exit ?_
        refine blk_exit ?_
        refine then_n ?_
        refine wp_seq ?_
        obtain ⟨n, hn⟩ : ∃ n, n = ls.length := ⟨_, rfl⟩
        have hfe : (forK ls z j).length = (forK ls z ls.length).length := by rw [show j = ls.length by omega]
        refine wp_regionF ?_
        refine lf_val (wantAll rfl) (rv_move rfl (fr_eval rfl e10)) ?_
        refine lf_val (v := y3) (wantAll rfl) (rv_move rfl (fr_eval rfl e9)) ?_
        refine lf_val (v := .int .i64 (((forK ls z ls.length).length : Nat) : Int)) (wantAll rfl) (rv_len rfl (fr_eval rfl rfl) (Own.rd (hH.own (i := 6) rfl) (row_one cNu_one)) Try.underlying48) ?_
        refine lf_val (v := .bool (decide ((forK ls z j).length = (forK ls z ls.length).length))) (wantAll rfl) (rv_eqlP (p := (forK ls z j).length = (forK ls z ls.length).length) rfl (fr_eval rfl rfl) (fr_eval rfl rfl) (by omega)) ?_
        refine lf_val (v := .bool (decide ((forK ls z j).length = (forK ls z ls.length).length))) (wantAll rfl) (rv_move rfl (fr_eval rfl rfl)) ?_
        refine lf_join (fun F' w' => F' 0 = v ∧ F' 1 = .int .i64 z ∧ F' 5 = .pointer (some ⟨g1, 0, none⟩) ∧ F' 6 = .pointer (some ⟨g2, 0, none⟩) ∧ F' 7 = .int .i64 ((i : Nat) : Int) ∧ F' 9 = y3 ∧ F' 10 = .int .i64 (((forK ls z j).length : Nat) : Int) ∧ F' 11 = .int .i64 ((j : Nat) : Int) ∧ F' 25 = .bool false ∧ F' 85 = .bool false ∧ F' 148 = .bool (decide ((forK ls z j).length = (forK ls z ls.length).length)) ∧ Heap (newN w) w w' [oBlk g1 ([v1, .int .i64 ((lost : Nat) : Int)]) 69, oBlk g2 ([v2, .int .i64 ((plost : Nat) : Int)]) 72, oRow cLt 87 2 v1 ls, oBag (fun k => k < w.heap.size) S1 ls, oRow cLt 87 2 v2 ps, oBag (fun k => k < w.heap.size) S2 ps, oRow cNu 3 1 y3 (forK ls z ls.length)]) 2 (fun hk => ?_) ?_
        · by_cases hc8 : (forK ls z j).length = (forK ls z ls.length).length
          · refine lf_call (wantF (d := 146) rfl (by kernel_rfl) rfl (congrArg Value.bool (decide_eq_true hc8))) (rv_call (args := []) rfl evn Try.call44) (awake29_calls _) ?_
            rintro _ w45 ⟨rfl, hx⟩
            refine ⟨_, rfl, ?_⟩
            replace hH := hH.ext hx
            clear hx
            refine lf_val (v := .bool true) (wantAll rfl) (rv_pickT rfl (fr_eval rfl (congrArg Value.bool (decide_eq_true hc8))) (fr_eval rfl rfl)) ?_
            exact hk _ _ ⟨e0, e1, e5, e6, e7, e9, e10, e11, e25, (e85.trans (congrArg Value.bool (decide_eq_false hc6))), (congrArg Value.bool (dec_t hc8)), hH⟩
          · refine lf_not (wantNot (d := 146) rfl (by kernel_rfl) rfl (congrArg Value.bool (decide_eq_false hc8))) ?_
            refine lf_val (v := .bool false) (wantAll rfl) (rv_pickF rfl (fr_eval rfl (congrArg Value.bool (decide_eq_false hc8))) rfl) ?_
            exact hk _ _ ⟨e0, e1, e5, e6, e7, e9, e10, e11, e25, (e85.trans (congrArg Value.bool (decide_eq_false hc6))), (congrArg Value.bool (dec_f hc8)), hH⟩
        · clear e0 e1 e5 e6 e7 e9 e10 e11 e25 e85 hH
          clear F
          rintro F w46 ⟨e0, e1, e5, e6, e7, e9, e10, e11, e25, e85, e148, hH⟩
          refine lf_val (wantAll rfl) (rv_assign rfl (fr_eval rfl e148)) ?_
          refine lf_nil ?_
          refine then_n ?_
          refine wp_gen (fun F' => F' 0 = v ∧ F' 1 = .int .i64 z ∧ F' 4 = .bool (decide ((forK ls z j).length = (forK ls z ls.length).length)) ∧ F' 5 = .pointer (some ⟨g1, 0, none⟩) ∧ F' 6 = .pointer (some ⟨g2, 0, none⟩) ∧ F' 7 = .int .i64 ((i : Nat) : Int) ∧ F' 9 = y3 ∧ F' 10 = .int .i64 (((forK ls z j).length : Nat) : Int) ∧ F' 11 = .int .i64 ((j : Nat) : Int) ∧ F' 25 = .bool false ∧ F' 85 = .bool false) ⟨e0, e1, rfl, e5, e6, e7, e9, e10, e11, e25, e85⟩ ?_
          clear e0 e1 e5 e6 e7 e9 e10 e11 e25 e85 e148
          clear F
          rintro F ⟨e0, e1, e4, e5, e6, e7, e9, e10, e11, e25, e85⟩
          refine wp_ret ?_
          exact bodyPost_ret (res1 rfl (ro_tmp rfl e4)) rfl (⟨congrArg (fun b => Ending.returned (.bool b)) (decide_eq_true (by omega)), hH.done⟩)

end Go.Proofs.Ytjgcjddaladgfaa
