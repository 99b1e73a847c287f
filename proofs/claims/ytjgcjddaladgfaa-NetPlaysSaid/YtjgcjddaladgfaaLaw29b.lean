/- Chapter 29's laws: the walk of a step. -/
import Derived.Test.YtjgcjddaladgfaaLaw29
namespace Go.Proofs.Ytjgcjddaladgfaa
open Go.RowKit Go.Bz Go.Bz.Wire Go.Bz.Rcpt Go.Bz.Talk
attribute [local irreducible] wpList Code.wp wpAnyX

theorem zLs_g0 {a0 : Value} {a1 : Value} {a2 : Value} {a3 : Value} {a4 : Value} {a5 : Value} {a6 : Value} {a7 : Value} {a8 : Value} {a9 : List UInt8} (_ : a9.length = 32) {a10 : List UInt8} (_ : a10.length = 32) {a11 : Value} {a12 : List UInt8} (_ : a12.length = 32) {a13 : Value} {a14 : List UInt8} (_ : a14.length = 32) {a15 : Value} {a16 : Value} {a17 : List UInt8} (_ : a17.length = 32) {a18 : Value} {a19 : Value} {a20 : Value} {a21 : Value} {a22 : List UInt8} (_ : a22.length = 32) {a23 : List UInt8} (_ : a23.length = 32) {a24 : Value} {a25 : Value} : (([a0, a1, a2, a3, a4, a5, a6, a7, a8] : List Value) ++ (cBs a9 ++ (cBs a10 ++ (([a11] : List Value) ++ (cBs a12 ++ (([a13] : List Value) ++ (cBs a14 ++ (([a15, a16] : List Value) ++ (cBs a17 ++ (([a18, a19, a20, a21] : List Value) ++ (cBs a22 ++ (cBs a23 ++ ([a24, a25] : List Value)))))))))))))[1]? = some a1 := (show (([a0, a1, a2, a3, a4, a5, a6, a7, a8] : List Value) ++ (cBs a9 ++ (cBs a10 ++ (([a11] : List Value) ++ (cBs a12 ++ (([a13] : List Value) ++ (cBs a14 ++ (([a15, a16] : List Value) ++ (cBs a17 ++ (([a18, a19, a20, a21] : List Value) ++ (cBs a22 ++ (cBs a23 ++ ([a24, a25] : List Value)))))))))))))[1]? = some (a1) from (get_l (C := cBs a9 ++ (cBs a10 ++ (([a11] : List Value) ++ (cBs a12 ++ (([a13] : List Value) ++ (cBs a14 ++ (([a15, a16] : List Value) ++ (cBs a17 ++ (([a18, a19, a20, a21] : List Value) ++ (cBs a22 ++ (cBs a23 ++ ([a24, a25] : List Value)))))))))))) (show ([a0, a1, a2, a3, a4, a5, a6, a7, a8] : List Value)[1]? = some (a1) from rfl)))
theorem zLs_g1 {a0 : Value} {a1 : Value} : ([a0, a1])[0]? = some a0 := rfl
theorem zLs_g2 {a0 : Value} {a1 : Value} {a2 : Value} {a3 : Value} {a4 : Value} {a5 : Value} {a6 : Value} {a7 : Value} {a8 : Value} {a9 : List UInt8} (_ : a9.length = 32) {a10 : List UInt8} (_ : a10.length = 32) {a11 : Value} {a12 : List UInt8} (_ : a12.length = 32) {a13 : Value} {a14 : List UInt8} (_ : a14.length = 32) {a15 : Value} {a16 : Value} {a17 : List UInt8} (_ : a17.length = 32) {a18 : Value} {a19 : Value} {a20 : Value} {a21 : Value} {a22 : List UInt8} (_ : a22.length = 32) {a23 : List UInt8} (_ : a23.length = 32) {a24 : Value} {a25 : Value} : (([a0, a1, a2, a3, a4, a5, a6, a7, a8] : List Value) ++ (cBs a9 ++ (cBs a10 ++ (([a11] : List Value) ++ (cBs a12 ++ (([a13] : List Value) ++ (cBs a14 ++ (([a15, a16] : List Value) ++ (cBs a17 ++ (([a18, a19, a20, a21] : List Value) ++ (cBs a22 ++ (cBs a23 ++ ([a24, a25] : List Value)))))))))))))[0]? = some a0 := (show (([a0, a1, a2, a3, a4, a5, a6, a7, a8] : List Value) ++ (cBs a9 ++ (cBs a10 ++ (([a11] : List Value) ++ (cBs a12 ++ (([a13] : List Value) ++ (cBs a14 ++ (([a15, a16] : List Value) ++ (cBs a17 ++ (([a18, a19, a20, a21] : List Value) ++ (cBs a22 ++ (cBs a23 ++ ([a24, a25] : List Value)))))))))))))[0]? = some (a0) from (get_l (C := cBs a9 ++ (cBs a10 ++ (([a11] : List Value) ++ (cBs a12 ++ (([a13] : List Value) ++ (cBs a14 ++ (([a15, a16] : List Value) ++ (cBs a17 ++ (([a18, a19, a20, a21] : List Value) ++ (cBs a22 ++ (cBs a23 ++ ([a24, a25] : List Value)))))))))))) (show ([a0, a1, a2, a3, a4, a5, a6, a7, a8] : List Value)[0]? = some (a0) from rfl)))
theorem zLs_g3 {a0 : Value} {a1 : Value} {a2 : Value} {a3 : Value} {a4 : Value} {a5 : Value} {a6 : Value} {a7 : Value} {a8 : Value} {a9 : List UInt8} (_ : a9.length = 32) {a10 : List UInt8} (_ : a10.length = 32) {a11 : Value} {a12 : List UInt8} (_ : a12.length = 32) {a13 : Value} {a14 : List UInt8} (_ : a14.length = 32) {a15 : Value} {a16 : Value} {a17 : List UInt8} (_ : a17.length = 32) {a18 : Value} {a19 : Value} {a20 : Value} {a21 : Value} {a22 : List UInt8} (_ : a22.length = 32) {a23 : List UInt8} (_ : a23.length = 32) {a24 : Value} {a25 : Value} : (([a0, a1, a2, a3, a4, a5, a6, a7, a8] : List Value) ++ (cBs a9 ++ (cBs a10 ++ (([a11] : List Value) ++ (cBs a12 ++ (([a13] : List Value) ++ (cBs a14 ++ (([a15, a16] : List Value) ++ (cBs a17 ++ (([a18, a19, a20, a21] : List Value) ++ (cBs a22 ++ (cBs a23 ++ ([a24, a25] : List Value)))))))))))))[2]? = some a2 := (show (([a0, a1, a2, a3, a4, a5, a6, a7, a8] : List Value) ++ (cBs a9 ++ (cBs a10 ++ (([a11] : List Value) ++ (cBs a12 ++ (([a13] : List Value) ++ (cBs a14 ++ (([a15, a16] : List Value) ++ (cBs a17 ++ (([a18, a19, a20, a21] : List Value) ++ (cBs a22 ++ (cBs a23 ++ ([a24, a25] : List Value)))))))))))))[2]? = some (a2) from (get_l (C := cBs a9 ++ (cBs a10 ++ (([a11] : List Value) ++ (cBs a12 ++ (([a13] : List Value) ++ (cBs a14 ++ (([a15, a16] : List Value) ++ (cBs a17 ++ (([a18, a19, a20, a21] : List Value) ++ (cBs a22 ++ (cBs a23 ++ ([a24, a25] : List Value)))))))))))) (show ([a0, a1, a2, a3, a4, a5, a6, a7, a8] : List Value)[2]? = some (a2) from rfl)))
theorem zLs_g4 {a0 : Value} {a1 : Value} {a2 : Value} {a3 : Value} {a4 : Value} {a5 : Value} {a6 : Value} {a7 : Value} {a8 : Value} {a9 : List UInt8} (ha9 : a9.length = 32) {a10 : List UInt8} (ha10 : a10.length = 32) {a11 : Value} {a12 : List UInt8} (ha12 : a12.length = 32) {a13 : Value} {a14 : List UInt8} (ha14 : a14.length = 32) {a15 : Value} {a16 : Value} {a17 : List UInt8} (ha17 : a17.length = 32) {a18 : Value} {a19 : Value} {a20 : Value} {a21 : Value} {a22 : List UInt8} (ha22 : a22.length = 32) {a23 : List UInt8} (ha23 : a23.length = 32) {a24 : Value} {a25 : Value} : (([a0, a1, a2, a3, a4, a5, a6, a7, a8] : List Value) ++ (cBs a9 ++ (cBs a10 ++ (([a11] : List Value) ++ (cBs a12 ++ (([a13] : List Value) ++ (cBs a14 ++ (([a15, a16] : List Value) ++ (cBs a17 ++ (([a18, a19, a20, a21] : List Value) ++ (cBs a22 ++ (cBs a23 ++ ([a24, a25] : List Value)))))))))))))[242]? = some a25 := (get_of (cs := ([a0, a1, a2, a3, a4, a5, a6, a7, a8] : List Value) ++ (cBs a9 ++ (cBs a10 ++ (([a11] : List Value) ++ (cBs a12 ++ (([a13] : List Value) ++ (cBs a14 ++ (([a15, a16] : List Value) ++ (cBs a17 ++ (([a18, a19, a20, a21] : List Value) ++ (cBs a22 ++ (cBs a23 ++ ([a24, a25] : List Value))))))))))))) (A := (([a0, a1, a2, a3, a4, a5, a6, a7, a8] : List Value) ++ (cBs a9 ++ (cBs a10 ++ (([a11] : List Value) ++ (cBs a12 ++ (([a13] : List Value) ++ (cBs a14 ++ (([a15, a16] : List Value) ++ (cBs a17 ++ (([a18, a19, a20, a21] : List Value) ++ (cBs a22 ++ cBs a23)))))))))) : List Value)) (D := ([a24, a25] : List Value)) (C := ([] : List Value)) (o := 241) (j := 1) (by simp) (len_app (m := 9) (n := 232) (k := 241) rfl (len_app (m := 32) (n := 200) (k := 232) (cBs_len ha9) (len_app (m := 32) (n := 168) (k := 200) (cBs_len ha10) (len_app (m := 1) (n := 167) (k := 168) rfl (len_app (m := 32) (n := 135) (k := 167) (cBs_len ha12) (len_app (m := 1) (n := 134) (k := 135) rfl (len_app (m := 32) (n := 102) (k := 134) (cBs_len ha14) (len_app (m := 2) (n := 100) (k := 102) rfl (len_app (m := 32) (n := 68) (k := 100) (cBs_len ha17) (len_app (m := 4) (n := 64) (k := 68) rfl (len_app (m := 32) (n := 32) (k := 64) (cBs_len ha22) (cBs_len ha23) rfl) rfl) rfl) rfl) rfl) rfl) rfl) rfl) rfl) rfl) rfl) rfl (show ([a24, a25] : List Value)[1]? = some (a25) from rfl))
theorem zLs_l5 {a0 : Value} {a1 : Value} {a2 : Value} {a3 : Value} {a4 : Value} {a5 : Value} {a6 : List UInt8} (ha6 : a6.length = 32) {a7 : List UInt8} (ha7 : a7.length = 32) {a8 : Value} {a9 : List UInt8} (ha9 : a9.length = 32) {a10 : Value} {a11 : List UInt8} (ha11 : a11.length = 32) {a12 : Value} {a13 : Value} {a14 : List UInt8} (ha14 : a14.length = 32) {a15 : Value} {a16 : Value} {a17 : Value} {a18 : Value} {a19 : List UInt8} (ha19 : a19.length = 32) {a20 : List UInt8} (ha20 : a20.length = 32) {a21 : Value} : List.length (([a0, a1, a2, a3, a4, a5] : List Value) ++ (cBs a6 ++ (cBs a7 ++ (([a8] : List Value) ++ (cBs a9 ++ (([a10] : List Value) ++ (cBs a11 ++ (([a12, a13] : List Value) ++ (cBs a14 ++ (([a15, a16, a17, a18] : List Value) ++ (cBs a19 ++ (cBs a20 ++ ([a21] : List Value))))))))))))) = 239 := (len_app (m := 6) (n := 233) (k := 239) rfl (len_app (m := 32) (n := 201) (k := 233) (cBs_len ha6) (len_app (m := 32) (n := 169) (k := 201) (cBs_len ha7) (len_app (m := 1) (n := 168) (k := 169) rfl (len_app (m := 32) (n := 136) (k := 168) (cBs_len ha9) (len_app (m := 1) (n := 135) (k := 136) rfl (len_app (m := 32) (n := 103) (k := 135) (cBs_len ha11) (len_app (m := 2) (n := 101) (k := 103) rfl (len_app (m := 32) (n := 69) (k := 101) (cBs_len ha14) (len_app (m := 4) (n := 65) (k := 69) rfl (len_app (m := 32) (n := 33) (k := 65) (cBs_len ha19) (len_app (m := 32) (n := 1) (k := 33) (cBs_len ha20) rfl rfl) rfl) rfl) rfl) rfl) rfl) rfl) rfl) rfl) rfl) rfl) rfl)
theorem zLs_p6 {a0 : Value} {a1 : Value} {a2 : Value} {a3 : Value} {a4 : Value} {a5 : Value} {a6 : Value} {a7 : Value} {a8 : Value} {a9 : List UInt8} (ha9 : a9.length = 32) {a10 : List UInt8} (ha10 : a10.length = 32) {a11 : Value} {a12 : List UInt8} (ha12 : a12.length = 32) {a13 : Value} {a14 : List UInt8} (ha14 : a14.length = 32) {a15 : Value} {a16 : Value} {a17 : List UInt8} (ha17 : a17.length = 32) {a18 : Value} {a19 : Value} {a20 : Value} {a21 : Value} {a22 : List UInt8} (ha22 : a22.length = 32) {a23 : List UInt8} (ha23 : a23.length = 32) {a24 : Value} {a25 : Value} : List.take 239 (List.drop 3 (([a0, a1, a2, a3, a4, a5, a6, a7, a8] : List Value) ++ (cBs a9 ++ (cBs a10 ++ (([a11] : List Value) ++ (cBs a12 ++ (([a13] : List Value) ++ (cBs a14 ++ (([a15, a16] : List Value) ++ (cBs a17 ++ (([a18, a19, a20, a21] : List Value) ++ (cBs a22 ++ (cBs a23 ++ ([a24, a25] : List Value)))))))))))))) = ([a3, a4, a5, a6, a7, a8] : List Value) ++ (cBs a9 ++ (cBs a10 ++ (([a11] : List Value) ++ (cBs a12 ++ (([a13] : List Value) ++ (cBs a14 ++ (([a15, a16] : List Value) ++ (cBs a17 ++ (([a18, a19, a20, a21] : List Value) ++ (cBs a22 ++ (cBs a23 ++ ([a24] : List Value)))))))))))) := (part_of (cs := ([a0, a1, a2, a3, a4, a5, a6, a7, a8] : List Value) ++ (cBs a9 ++ (cBs a10 ++ (([a11] : List Value) ++ (cBs a12 ++ (([a13] : List Value) ++ (cBs a14 ++ (([a15, a16] : List Value) ++ (cBs a17 ++ (([a18, a19, a20, a21] : List Value) ++ (cBs a22 ++ (cBs a23 ++ ([a24, a25] : List Value))))))))))))) (A := ([a0, a1, a2] : List Value)) (D := (([a3, a4, a5, a6, a7, a8] : List Value) ++ (cBs a9 ++ (cBs a10 ++ (([a11] : List Value) ++ (cBs a12 ++ (([a13] : List Value) ++ (cBs a14 ++ (([a15, a16] : List Value) ++ (cBs a17 ++ (([a18, a19, a20, a21] : List Value) ++ (cBs a22 ++ (cBs a23 ++ ([a24] : List Value)))))))))))) : List Value)) (C := ([a25] : List Value)) (by simp) (show List.length [a0, a1, a2] = 3 from rfl) (len_app (m := 6) (n := 233) (k := 239) rfl (len_app (m := 32) (n := 201) (k := 233) (cBs_len ha9) (len_app (m := 32) (n := 169) (k := 201) (cBs_len ha10) (len_app (m := 1) (n := 168) (k := 169) rfl (len_app (m := 32) (n := 136) (k := 168) (cBs_len ha12) (len_app (m := 1) (n := 135) (k := 136) rfl (len_app (m := 32) (n := 103) (k := 135) (cBs_len ha14) (len_app (m := 2) (n := 101) (k := 103) rfl (len_app (m := 32) (n := 69) (k := 101) (cBs_len ha17) (len_app (m := 4) (n := 65) (k := 69) rfl (len_app (m := 32) (n := 33) (k := 65) (cBs_len ha22) (len_app (m := 32) (n := 1) (k := 33) (cBs_len ha23) rfl rfl) rfl) rfl) rfl) rfl) rfl) rfl) rfl) rfl) rfl) rfl) rfl))
theorem zLs_g7 {a0 : Value} {a1 : Value} {a2 : Value} {a3 : Value} {a4 : Value} {a5 : Value} {a6 : Value} {a7 : Value} {a8 : Value} {a9 : List UInt8} (_ : a9.length = 32) {a10 : List UInt8} (_ : a10.length = 32) {a11 : Value} {a12 : List UInt8} (_ : a12.length = 32) {a13 : Value} {a14 : List UInt8} (_ : a14.length = 32) {a15 : Value} {a16 : Value} {a17 : List UInt8} (_ : a17.length = 32) {a18 : Value} {a19 : Value} {a20 : Value} {a21 : Value} {a22 : List UInt8} (_ : a22.length = 32) {a23 : List UInt8} (_ : a23.length = 32) {a24 : Value} {a25 : Value} : (([a0, a1, a2, a3, a4, a5, a6, a7, a8] : List Value) ++ (cBs a9 ++ (cBs a10 ++ (([a11] : List Value) ++ (cBs a12 ++ (([a13] : List Value) ++ (cBs a14 ++ (([a15, a16] : List Value) ++ (cBs a17 ++ (([a18, a19, a20, a21] : List Value) ++ (cBs a22 ++ (cBs a23 ++ ([a24, a25] : List Value)))))))))))))[5]? = some a5 := (show (([a0, a1, a2, a3, a4, a5, a6, a7, a8] : List Value) ++ (cBs a9 ++ (cBs a10 ++ (([a11] : List Value) ++ (cBs a12 ++ (([a13] : List Value) ++ (cBs a14 ++ (([a15, a16] : List Value) ++ (cBs a17 ++ (([a18, a19, a20, a21] : List Value) ++ (cBs a22 ++ (cBs a23 ++ ([a24, a25] : List Value)))))))))))))[5]? = some (a5) from (get_l (C := cBs a9 ++ (cBs a10 ++ (([a11] : List Value) ++ (cBs a12 ++ (([a13] : List Value) ++ (cBs a14 ++ (([a15, a16] : List Value) ++ (cBs a17 ++ (([a18, a19, a20, a21] : List Value) ++ (cBs a22 ++ (cBs a23 ++ ([a24, a25] : List Value)))))))))))) (show ([a0, a1, a2, a3, a4, a5, a6, a7, a8] : List Value)[5]? = some (a5) from rfl)))
theorem zLs_l8 {a0 : Value} {a1 : Value} : List.length ([a0, a1]) = 2 := (show List.length [a0, a1] = 2 from rfl)
theorem zLs_o9 {a0 : Value} {a1 : Value} (qa0 : a0.oneCell' = true) (qa1 : a1.oneCell' = true) : ∀ u ∈ ([a0, a1]), u.oneCell' = true := (ones_cons qa0 (ones_cons qa1 ones_nil))
theorem zLs_g10 {a0 : Value} {a1 : Value} : ([a0, a1])[1]? = some a1 := rfl
def Bd (l : List (Int × List UInt8)) : Prop := ∀ k ∈ l, k.2.length ≤ 10000
theorem bd_put {s : St} {k : Int × List UInt8} {p : Prop} [Decidable p] (h : Bd s.1) (hk : k.2.length ≤ 10000) : Bd (putK s k p).1 := by
  unfold putK; split
  · intro q hq
    rcases List.mem_append.1 hq with hq | hq
    · exact h q hq
    · obtain rfl : q = k := by simpa using hq
      exact hk
  · exact h
theorem bd_of {l : List Lt} {lo : Nat} {s : St} (h : kst l lo = s) (hb : Bd s.1) : Bd (kys l) := by rw [← h] at hb; exact hb
theorem bd_at {ls : List Lt} {i : Nat} (h : Bd (kys ls)) (hi : i < ls.length) : (ls.getD i zLt).b.length ≤ 10000 := h (ky (ls.getD i zLt)) (List.mem_map.2 ⟨_, memL hi, rfl⟩)
theorem bd_erase {ls : List Lt} {i : Nat} (h : Bd (kys ls)) : Bd (kys (ls.eraseIdx i)) := fun k hk => by
  obtain ⟨x, hx, rfl⟩ := List.mem_map.1 hk
  exact h _ (List.mem_map.2 ⟨x, (List.eraseIdx_sublist ls i).subset hx, rfl⟩)
theorem kys_erase (ls : List Lt) (i : Nat) : kys (ls.eraseIdx i) = (kys ls).eraseIdx i := by
  induction ls generalizing i with
  | nil => rfl
  | cons x ls ih =>
    cases i with
    | zero => rfl
    | succ i => show ky x :: kys (ls.eraseIdx i) = ky x :: (kys ls).eraseIdx i; rw [ih]
theorem kst_erase {ls ps : List Lt} {lost plost : Nat} (i : Nat) (h : kst ls lost = kst ps plost) : kst (ls.eraseIdx i) lost = kst (ps.eraseIdx i) plost := by
  have h1 : kys ls = kys ps := congrArg Prod.fst h
  have h2 : lost = plost := congrArg Prod.snd h
  unfold kst; rw [kys_erase, kys_erase, h1, h2]
theorem kst_eraseS {ls ps : List Lt} {lost plost : Nat} (i : Nat) (h : kst ls lost = kst ps plost) : kst (ls.eraseIdx i) (lost + 1) = kst (ps.eraseIdx i) (plost + 1) := by
  have h1 := kst_erase i h
  have h2 : lost = plost := congrArg Prod.snd h
  have h3 : kys (ls.eraseIdx i) = kys (ps.eraseIdx i) := congrArg Prod.fst h1
  unfold kst; rw [h3, h2]
theorem kst_in {s : St} {l ps : List Lt} {lo plost : Nat} {x : Lt} {k : Int × List UInt8} {p : Prop} [Decidable p] (h : kst l lo = putK s k p) (e : s = kst ps plost) (hk : k = ky x) (hp : p) (hl : ps.length < 64) : kst l lo = kst (ps ++ [x]) plost := by
  rw [h, e, putK_yes hp (by simpa using hl), hk]; simp [kst]
theorem kst_out {s : St} {l ps : List Lt} {lo plost : Nat} {k : Int × List UInt8} {p : Prop} [Decidable p] (h : kst l lo = putK s k p) (e : s = kst ps plost) (hn : ¬ (p ∧ ps.length < 64)) : kst l lo = kst ps (plost + 1) := by
  rw [h, e, putK_no (by simpa using hn)]

set_option maxRecDepth 100000 in
set_option maxHeartbeats 4000000 in
theorem step_a {w : World} {K Z S Q : Nat → Prop} {g h : Nat} {v pv : Value} (hZ : ∀ k, newK w K k → ¬ Z k) (ls : List Lt) (hl : ls.length ≤ 64) (lost : Nat) (hlo : lost ≤ 100000) (ps : List Lt) (plost : Nat) (heq : kst ls lost = kst ps plost) (hbd : Bd (kys ls)) (xk xi xt : Int) (u : Ms) (vb vg dv : V1) (bl sg d : List UInt8) (hxk : ¬ (xk = 4 ∨ xk = 5 ∨ xk = 6)) (him : inMs u) (hb1 : bl.length ≤ 1000) (hs1 : sg.length ≤ 6000) (hd1 : d.length ≤ 1000) (hsb : Stab (newK w K) w 1 vb.1 bl.length (cBs bl)) (hsg : Stab (newK w K) w 1 vg.1 sg.length (cBs sg)) (hsd : Stab (newK w K) w 1 dv.1 d.length (cBs d)) (hzd : ∀ k, dv.1.ownBlock = some k → 0 < d.length → Z k) (hh0 : Heap (newK w K) w w [oBlk g ([v, .int .i64 ((lost : Nat) : Int)]) 69, oRow cLt 87 2 v ls, oBag Z S ls, oBlk h ([pv, .int .i64 ((plost : Nat) : Int)]) 72, oRow cLt 87 2 pv ps, oBag Z Q ps]) :
    Calls Try.prog 39 #[.pointer (some ⟨g, 0, none⟩), .pointer (some ⟨h, 0, none⟩), .agg (([.int .i64 xk, .int .i64 xi, .int .i64 xt, .int .i64 u.k, .int .i64 u.a, .int .i64 u.b, .int .i64 u.c0, .int .i64 u.c1, .int .i64 u.c2] : List Value) ++ (cBs u.h0.1 ++ (cBs u.h1.1 ++ (([.int .i64 u.g] : List Value) ++ (cBs u.o.1 ++ (([.int .i64 u.n] : List Value) ++ (cBs u.x.1 ++ (([.int .i64 u.jc, .int .i64 u.js] : List Value) ++ (cBs u.jh.1 ++ (([vb.1, .int .i64 u.r.t, .int .i64 u.r.c, .int .i64 u.r.s] : List Value) ++ (cBs u.r.h.1 ++ (cBs u.r.b.1 ++ ([vg.1, dv.1] : List Value))))))))))))).toArray] w fun e'' w' => ∃ v' ls' lost' S' u' ps' plost' Q', e'' = .returned (.bool true) ∧ kst ls' lost' = kst ps' plost' ∧ ls'.length ≤ 64 ∧ lost' ≤ lost + 1 ∧ Bd (kys ls') ∧ Heap (newK w K) w w' [oBlk g ([v', .int .i64 ((lost' : Nat) : Int)]) 69, oRow cLt 87 2 v' ls', oBag Z S' ls', oBlk h ([u', .int .i64 ((plost' : Nat) : Int)]) 72, oRow cLt 87 2 u' ps', oBag Z Q' ps'] := by
  refine calls_fr (args := [.pointer (some ⟨g, 0, none⟩), .pointer (some ⟨h, 0, none⟩), .agg (([.int .i64 xk, .int .i64 xi, .int .i64 xt, .int .i64 u.k, .int .i64 u.a, .int .i64 u.b, .int .i64 u.c0, .int .i64 u.c1, .int .i64 u.c2] : List Value) ++ (cBs u.h0.1 ++ (cBs u.h1.1 ++ (([.int .i64 u.g] : List Value) ++ (cBs u.o.1 ++ (([.int .i64 u.n] : List Value) ++ (cBs u.x.1 ++ (([.int .i64 u.jc, .int .i64 u.js] : List Value) ++ (cBs u.jh.1 ++ (([vb.1, .int .i64 u.r.t, .int .i64 u.r.c, .int .i64 u.r.s] : List Value) ++ (cBs u.r.h.1 ++ (cBs u.r.b.1 ++ ([vg.1, dv.1] : List Value))))))))))))).toArray]) (n := 170) Try.func39 rfl rfl (show 3 ≤ 170 by decide) ?_
  have hlen : ls.length = ps.length := kys_len (congrArg Prod.fst heq)
  have hlq : lost = plost := congrArg Prod.snd heq
  have hH : Heap (newK w K) w w [oBlk g ([v, .int .i64 ((lost : Nat) : Int)]) 69, oRow cLt 87 2 v ls, oBag Z S ls, oBlk h ([pv, .int .i64 ((plost : Nat) : Int)]) 72, oRow cLt 87 2 pv ps, oBag Z Q ps] := hh0
  refine wp_seq ?_
  refine wp_gen (fun F' => F' 0 = .pointer (some ⟨g, 0, none⟩) ∧ F' 1 = .pointer (some ⟨h, 0, none⟩) ∧ F' 2 = .agg (([.int .i64 xk, .int .i64 xi, .int .i64 xt, .int .i64 u.k, .int .i64 u.a, .int .i64 u.b, .int .i64 u.c0, .int .i64 u.c1, .int .i64 u.c2] : List Value) ++ (cBs u.h0.1 ++ (cBs u.h1.1 ++ (([.int .i64 u.g] : List Value) ++ (cBs u.o.1 ++ (([.int .i64 u.n] : List Value) ++ (cBs u.x.1 ++ (([.int .i64 u.jc, .int .i64 u.js] : List Value) ++ (cBs u.jh.1 ++ (([vb.1, .int .i64 u.r.t, .int .i64 u.r.c, .int .i64 u.r.s] : List Value) ++ (cBs u.r.h.1 ++ (cBs u.r.b.1 ++ ([vg.1, dv.1] : List Value))))))))))))).toArray) ⟨rfl, rfl, rfl⟩ ?_
  rintro F ⟨e0, e1, e2⟩
  refine wp_regionF ?_
  refine lf_ex (wantAll rfl) (hx_box hH 83 (cs := ([.int .i64 xk, .int .i64 xi, .int .i64 xt, .int .i64 u.k, .int .i64 u.a, .int .i64 u.b, .int .i64 u.c0, .int .i64 u.c1, .int .i64 u.c2] : List Value) ++ (cBs u.h0.1 ++ (cBs u.h1.1 ++ (([.int .i64 u.g] : List Value) ++ (cBs u.o.1 ++ (([.int .i64 u.n] : List Value) ++ (cBs u.x.1 ++ (([.int .i64 u.jc, .int .i64 u.js] : List Value) ++ (cBs u.jh.1 ++ (([vb.1, .int .i64 u.r.t, .int .i64 u.r.c, .int .i64 u.r.s] : List Value) ++ (cBs u.r.h.1 ++ (cBs u.r.b.1 ++ ([vg.1, dv.1] : List Value))))))))))))) rfl (fr_eval rfl e2) (by rfl)) ?_
  clear hH
  rintro _ w1 ⟨g1, rfl, hH, hx⟩
  replace hH : Heap _ _ _ [_, _, _, _, _, _, _] := hH
  clear hx
  refine lf_val (v := .bool false) (wantAll rfl) (rv_assign rfl rfl) ?_
  refine lf_nil ?_
  refine then_n ?_
  refine wp_seq ?_
  refine wp_gen (fun F' => F' 0 = .pointer (some ⟨g, 0, none⟩) ∧ F' 1 = .pointer (some ⟨h, 0, none⟩) ∧ F' 2 = .agg (([.int .i64 xk, .int .i64 xi, .int .i64 xt, .int .i64 u.k, .int .i64 u.a, .int .i64 u.b, .int .i64 u.c0, .int .i64 u.c1, .int .i64 u.c2] : List Value) ++ (cBs u.h0.1 ++ (cBs u.h1.1 ++ (([.int .i64 u.g] : List Value) ++ (cBs u.o.1 ++ (([.int .i64 u.n] : List Value) ++ (cBs u.x.1 ++ (([.int .i64 u.jc, .int .i64 u.js] : List Value) ++ (cBs u.jh.1 ++ (([vb.1, .int .i64 u.r.t, .int .i64 u.r.c, .int .i64 u.r.s] : List Value) ++ (cBs u.r.h.1 ++ (cBs u.r.b.1 ++ ([vg.1, dv.1] : List Value))))))))))))).toArray ∧ F' 5 = .pointer (some ⟨g1, 0, none⟩) ∧ F' 6 = .bool false) ⟨e0, e1, e2, rfl, rfl⟩ ?_
  clear e0 e1 e2
  clear F
  rintro F ⟨e0, e1, e2, e5, e6⟩
  refine wp_cut (fun F wr => ∃ th : Bool, F 0 = .pointer (some ⟨g, 0, none⟩) ∧ F 1 = .pointer (some ⟨h, 0, none⟩) ∧ F 2 = .agg (([.int .i64 xk, .int .i64 xi, .int .i64 xt, .int .i64 u.k, .int .i64 u.a, .int .i64 u.b, .int .i64 u.c0, .int .i64 u.c1, .int .i64 u.c2] : List Value) ++ (cBs u.h0.1 ++ (cBs u.h1.1 ++ (([.int .i64 u.g] : List Value) ++ (cBs u.o.1 ++ (([.int .i64 u.n] : List Value) ++ (cBs u.x.1 ++ (([.int .i64 u.jc, .int .i64 u.js] : List Value) ++ (cBs u.jh.1 ++ (([vb.1, .int .i64 u.r.t, .int .i64 u.r.c, .int .i64 u.r.s] : List Value) ++ (cBs u.r.h.1 ++ (cBs u.r.b.1 ++ ([vg.1, dv.1] : List Value))))))))))))).toArray ∧ F 5 = .pointer (some ⟨g1, 0, none⟩) ∧ F 6 = .bool false ∧ F 7 = .bool (decide (th = true)) ∧ Heap (newK w K) w wr [oBlk g ([v, .int .i64 ((lost : Nat) : Int)]) 69, oRow cLt 87 2 v ls, oBag Z S ls, oBlk h ([pv, .int .i64 ((plost : Nat) : Int)]) 72, oRow cLt 87 2 pv ps, oBag Z Q ps, oBlk g1 (([.int .i64 xk, .int .i64 xi, .int .i64 xt, .int .i64 u.k, .int .i64 u.a, .int .i64 u.b, .int .i64 u.c0, .int .i64 u.c1, .int .i64 u.c2] : List Value) ++ (cBs u.h0.1 ++ (cBs u.h1.1 ++ (([.int .i64 u.g] : List Value) ++ (cBs u.o.1 ++ (([.int .i64 u.n] : List Value) ++ (cBs u.x.1 ++ (([.int .i64 u.jc, .int .i64 u.js] : List Value) ++ (cBs u.jh.1 ++ (([vb.1, .int .i64 u.r.t, .int .i64 u.r.c, .int .i64 u.r.s] : List Value) ++ (cBs u.r.h.1 ++ (cBs u.r.b.1 ++ ([vg.1, dv.1] : List Value))))))))))))) 83]) ?_ ?_
  · refine wp_regionX (fun _ => False) 11 (by kernel_rfl) (by kernel_rfl) ?_
    refine xl_take (i := 0) (v := .pointer (some ⟨g1, 1, none⟩)) rfl (by kernel_rfl) (by kernel_rfl) (by kernel_rfl) (by kernel_rfl) (yx_val (wantAll rfl) (fun w' hx' => rv_fieldAddr (n := 0) rfl (fr_eval rfl e5) Try.underlying83 rfl rfl (by kernel_rfl))) ?_
    refine xl_take (i := 1) (v := .int .i64 xi) rfl (by kernel_rfl) (by kernel_rfl) (by kernel_rfl) (by kernel_rfl) (yx_val (wantAll rfl) (fun w' hx' => rv_load1 rfl ((hH.ext hx').blk (i := 6) rfl) (zLs_g0 u.h0.2 u.h1.2 u.o.2 u.x.2 u.jh.2 u.r.h.2 u.r.b.2) (fr_eval rfl rfl) Try.underlying3 rfl Try.sz3)) ?_
    refine xl_take (i := 2) (v := .bool (decide (xi ≥ 0))) rfl (by kernel_rfl) (by kernel_rfl) (by kernel_rfl) (by kernel_rfl) (yx_val (wantAll rfl) (fun w' hx' => rv_geqP (p := xi ≥ 0) rfl (fr_eval rfl rfl) rfl Iff.rfl)) ?_
    refine xl_take (i := 3) (v := .bool (decide (xi ≥ 0))) rfl (by kernel_rfl) (by kernel_rfl) (by kernel_rfl) (by kernel_rfl) (yx_val (wantAll rfl) (fun w' hx' => rv_move rfl (fr_eval rfl rfl))) ?_
    by_cases hc1 : xi ≥ 0
    · refine xl_take (i := 4) (v := .pointer (some ⟨g1, 1, none⟩)) rfl (by kernel_rfl) (by kernel_rfl) (by kernel_rfl) (by kernel_rfl) (yx_val (wantF (d := 18) rfl (by kernel_rfl) rfl (congrArg Value.bool (decide_eq_true hc1))) (fun w' hx' => rv_fieldAddr (n := 0) rfl (fr_eval rfl e5) Try.underlying83 rfl rfl (by kernel_rfl))) ?_
      refine xl_take (i := 5) (v := .int .i64 xi) rfl (by kernel_rfl) (by kernel_rfl) (by kernel_rfl) (by kernel_rfl) (yx_val (wantF (d := 18) rfl (by kernel_rfl) rfl (congrArg Value.bool (decide_eq_true hc1))) (fun w' hx' => rv_load1 rfl ((hH.ext hx').blk (i := 6) rfl) (zLs_g0 u.h0.2 u.h1.2 u.o.2 u.x.2 u.jh.2 u.r.h.2 u.r.b.2) (fr_eval rfl rfl) Try.underlying3 rfl Try.sz3)) ?_
      refine xl_take (i := 6) (v := .pointer (some ⟨h, 0, none⟩)) rfl (by kernel_rfl) (by kernel_rfl) (by kernel_rfl) (by kernel_rfl) (yx_val (wantF (d := 18) rfl (by kernel_rfl) rfl (congrArg Value.bool (decide_eq_true hc1))) (fun w' hx' => rv_move rfl (fr_eval rfl e1))) ?_
      refine xl_take (i := 7) (v := .pointer (some ⟨h, 0, none⟩)) rfl (by kernel_rfl) (by kernel_rfl) (by kernel_rfl) (by kernel_rfl) (yx_val (wantF (d := 18) rfl (by kernel_rfl) rfl (congrArg Value.bool (decide_eq_true hc1))) (fun w' hx' => rv_nilCheck rfl (fr_eval rfl rfl))) ?_
      refine xl_take (i := 8) (v := .pointer (some ⟨h, 0, none⟩)) rfl (by kernel_rfl) (by kernel_rfl) (by kernel_rfl) (by kernel_rfl) (yx_val (wantF (d := 18) rfl (by kernel_rfl) rfl (congrArg Value.bool (decide_eq_true hc1))) (fun w' hx' => rv_fieldAddr (n := 0) rfl (fr_eval rfl rfl) Try.underlying72 rfl rfl (by kernel_rfl))) ?_
      refine xl_take (i := 9) (v := pv) rfl (by kernel_rfl) (by kernel_rfl) (by kernel_rfl) (by kernel_rfl) (yx_val (wantF (d := 18) rfl (by kernel_rfl) rfl (congrArg Value.bool (decide_eq_true hc1))) (fun w' hx' => rv_load1 rfl ((hH.ext hx').blk (i := 3) rfl) zLs_g1 (fr_eval rfl rfl) Try.underlying67 rfl Try.sz67)) ?_
      refine xl_take (i := 10) (v := .int .i64 ((ps.length : Nat) : Int)) rfl (by kernel_rfl) (by kernel_rfl) (by kernel_rfl) (by kernel_rfl) (yx_val (wantF (d := 18) rfl (by kernel_rfl) rfl (congrArg Value.bool (decide_eq_true hc1))) (fun w' hx' => rv_len rfl (fr_eval rfl rfl) (Own.rd ((hH.ext hx').own (i := 4) rfl) (row_one cLt_one)) Try.underlying67)) ?_
      refine xl_tail (s := 11) rfl ?_
      intro w2 hx
      replace hH := hH.ext hx
      clear hx
      refine lf_val (v := .bool (decide (xi < ((ps.length : Nat) : Int)))) (wantF (d := 18) rfl (by kernel_rfl) rfl (congrArg Value.bool (decide_eq_true hc1))) (rv_lssP (p := xi < ((ps.length : Nat) : Int)) rfl (fr_eval rfl rfl) (fr_eval rfl rfl) Iff.rfl) ?_
      refine lf_val (v := .bool (decide (xi < ((ps.length : Nat) : Int)))) (wantAll rfl) (rv_pickT rfl (fr_eval rfl (congrArg Value.bool (decide_eq_true hc1))) (fr_eval rfl rfl)) ?_
      refine lf_val (v := .bool (decide (xi < ((ps.length : Nat) : Int)))) (wantAll rfl) (rv_assign rfl (fr_eval rfl rfl)) ?_
      refine lf_nil ?_
      exact ⟨_, rfl, decide (xi < ((ps.length : Nat) : Int)), e0, e1, e2, e5, e6, (congrArg Value.bool Bool.decide_eq_true.symm), hH⟩
    · refine xl_take (i := 4) (v := undef) rfl (by kernel_rfl) (by kernel_rfl) (by kernel_rfl) (by kernel_rfl) (yx_not (wantNot (d := 18) rfl (by kernel_rfl) rfl (congrArg Value.bool (decide_eq_false hc1)))) ?_
      refine xl_take (i := 5) (v := undef) rfl (by kernel_rfl) (by kernel_rfl) (by kernel_rfl) (by kernel_rfl) (yx_not (wantNot (d := 18) rfl (by kernel_rfl) rfl (congrArg Value.bool (decide_eq_false hc1)))) ?_
      refine xl_take (i := 6) (v := undef) rfl (by kernel_rfl) (by kernel_rfl) (by kernel_rfl) (by kernel_rfl) (yx_not (wantNot (d := 18) rfl (by kernel_rfl) rfl (congrArg Value.bool (decide_eq_false hc1)))) ?_
      refine xl_take (i := 7) (v := undef) rfl (by kernel_rfl) (by kernel_rfl) (by kernel_rfl) (by kernel_rfl) (yx_not (wantNot (d := 18) rfl (by kernel_rfl) rfl (congrArg Value.bool (decide_eq_false hc1)))) ?_
      refine xl_take (i := 8) (v := undef) rfl (by kernel_rfl) (by kernel_rfl) (by kernel_rfl) (by kernel_rfl) (yx_not (wantNot (d := 18) rfl (by kernel_rfl) rfl (congrArg Value.bool (decide_eq_false hc1)))) ?_
      refine xl_take (i := 9) (v := undef) rfl (by kernel_rfl) (by kernel_rfl) (by kernel_rfl) (by kernel_rfl) (yx_not (wantNot (d := 18) rfl (by kernel_rfl) rfl (congrArg Value.bool (decide_eq_false hc1)))) ?_
      refine xl_take (i := 10) (v := undef) rfl (by kernel_rfl) (by kernel_rfl) (by kernel_rfl) (by kernel_rfl) (yx_not (wantNot (d := 18) rfl (by kernel_rfl) rfl (congrArg Value.bool (decide_eq_false hc1)))) ?_
      refine xl_tail (s := 11) rfl ?_
      intro w3 hx
      replace hH := hH.ext hx
      clear hx
      refine lf_not (wantNot (d := 18) rfl (by kernel_rfl) rfl (congrArg Value.bool (decide_eq_false hc1))) ?_
      refine lf_val (v := .bool false) (wantAll rfl) (rv_pickF rfl (fr_eval rfl (congrArg Value.bool (decide_eq_false hc1))) rfl) ?_
      refine lf_val (v := .bool false) (wantAll rfl) (rv_assign rfl (fr_eval rfl rfl)) ?_
      refine lf_nil ?_
      exact ⟨_, rfl, false, e0, e1, e2, e5, e6, rfl, hH⟩
  clear e0 e1 e2 e5 e6 hH
  clear F
  rintro F w4 ⟨th, e0, e1, e2, e5, e6, e7, hH⟩
  refine then_n ?_
  refine wp_seq ?_
  refine wp_regionF ?_
  refine lf_val (v := .int .i64 0) (wantAll rfl) (rv_assign rfl rfl) ?_
  refine lf_nil ?_
  refine then_n ?_
  refine wp_seq ?_
  refine wp_seq ?_
  refine wp_gen (fun F' => F' 0 = .pointer (some ⟨g, 0, none⟩) ∧ F' 1 = .pointer (some ⟨h, 0, none⟩) ∧ F' 2 = .agg (([.int .i64 xk, .int .i64 xi, .int .i64 xt, .int .i64 u.k, .int .i64 u.a, .int .i64 u.b, .int .i64 u.c0, .int .i64 u.c1, .int .i64 u.c2] : List Value) ++ (cBs u.h0.1 ++ (cBs u.h1.1 ++ (([.int .i64 u.g] : List Value) ++ (cBs u.o.1 ++ (([.int .i64 u.n] : List Value) ++ (cBs u.x.1 ++ (([.int .i64 u.jc, .int .i64 u.js] : List Value) ++ (cBs u.jh.1 ++ (([vb.1, .int .i64 u.r.t, .int .i64 u.r.c, .int .i64 u.r.s] : List Value) ++ (cBs u.r.h.1 ++ (cBs u.r.b.1 ++ ([vg.1, dv.1] : List Value))))))))))))).toArray ∧ F' 5 = .pointer (some ⟨g1, 0, none⟩) ∧ F' 6 = .bool false ∧ F' 7 = .bool (decide (th = true)) ∧ F' 8 = .int .i64 0) ⟨e0, e1, e2, e5, e6, e7, rfl⟩ ?_
  clear e0 e1 e2 e5 e6 e7
  clear F
  rintro F ⟨e0, e1, e2, e5, e6, e7, e8⟩
  refine wp_regionF ?_
  refine lf_val (v := .bool (decide (th = true))) (wantAll rfl) (rv_move rfl (fr_eval rfl e7)) ?_
  refine lf_val (v := .bool (decide (¬ (th = true)))) (wantAll rfl) (rv_notP (q := ¬ (th = true)) rfl (fr_eval rfl rfl) Iff.rfl) ?_
  refine lf_nil ?_
  refine then_n ?_
  refine wp_gen (fun F' => F' 0 = .pointer (some ⟨g, 0, none⟩) ∧ F' 1 = .pointer (some ⟨h, 0, none⟩) ∧ F' 2 = .agg (([.int .i64 xk, .int .i64 xi, .int .i64 xt, .int .i64 u.k, .int .i64 u.a, .int .i64 u.b, .int .i64 u.c0, .int .i64 u.c1, .int .i64 u.c2] : List Value) ++ (cBs u.h0.1 ++ (cBs u.h1.1 ++ (([.int .i64 u.g] : List Value) ++ (cBs u.o.1 ++ (([.int .i64 u.n] : List Value) ++ (cBs u.x.1 ++ (([.int .i64 u.jc, .int .i64 u.js] : List Value) ++ (cBs u.jh.1 ++ (([vb.1, .int .i64 u.r.t, .int .i64 u.r.c, .int .i64 u.r.s] : List Value) ++ (cBs u.r.h.1 ++ (cBs u.r.b.1 ++ ([vg.1, dv.1] : List Value))))))))))))).toArray ∧ F' 5 = .pointer (some ⟨g1, 0, none⟩) ∧ F' 6 = .bool false ∧ F' 7 = .bool (decide (th = true)) ∧ F' 8 = .int .i64 0 ∧ F' 29 = .bool (decide (¬ (th = true)))) ⟨e0, e1, e2, e5, e6, e7, e8, rfl⟩ ?_
  clear e0 e1 e2 e5 e6 e7 e8
  clear F
  rintro F ⟨e0, e1, e2, e5, e6, e7, e8, e29⟩
  refine wp_cut (fun F wr => ∃ wv : Int, F 0 = .pointer (some ⟨g, 0, none⟩) ∧ F 1 = .pointer (some ⟨h, 0, none⟩) ∧ F 2 = .agg (([.int .i64 xk, .int .i64 xi, .int .i64 xt, .int .i64 u.k, .int .i64 u.a, .int .i64 u.b, .int .i64 u.c0, .int .i64 u.c1, .int .i64 u.c2] : List Value) ++ (cBs u.h0.1 ++ (cBs u.h1.1 ++ (([.int .i64 u.g] : List Value) ++ (cBs u.o.1 ++ (([.int .i64 u.n] : List Value) ++ (cBs u.x.1 ++ (([.int .i64 u.jc, .int .i64 u.js] : List Value) ++ (cBs u.jh.1 ++ (([vb.1, .int .i64 u.r.t, .int .i64 u.r.c, .int .i64 u.r.s] : List Value) ++ (cBs u.r.h.1 ++ (cBs u.r.b.1 ++ ([vg.1, dv.1] : List Value))))))))))))).toArray ∧ F 5 = .pointer (some ⟨g1, 0, none⟩) ∧ F 6 = .bool false ∧ F 7 = .bool (decide (th = true)) ∧ F 8 = .int .i64 wv ∧ F 29 = .bool (decide (¬ (th = true))) ∧ Heap (newK w K) w wr [oBlk g ([v, .int .i64 ((lost : Nat) : Int)]) 69, oRow cLt 87 2 v ls, oBag Z S ls, oBlk h ([pv, .int .i64 ((plost : Nat) : Int)]) 72, oRow cLt 87 2 pv ps, oBag Z Q ps, oBlk g1 (([.int .i64 xk, .int .i64 xi, .int .i64 xt, .int .i64 u.k, .int .i64 u.a, .int .i64 u.b, .int .i64 u.c0, .int .i64 u.c1, .int .i64 u.c2] : List Value) ++ (cBs u.h0.1 ++ (cBs u.h1.1 ++ (([.int .i64 u.g] : List Value) ++ (cBs u.o.1 ++ (([.int .i64 u.n] : List Value) ++ (cBs u.x.1 ++ (([.int .i64 u.jc, .int .i64 u.js] : List Value) ++ (cBs u.jh.1 ++ (([vb.1, .int .i64 u.r.t, .int .i64 u.r.c, .int .i64 u.r.s] : List Value) ++ (cBs u.r.h.1 ++ (cBs u.r.b.1 ++ ([vg.1, dv.1] : List Value))))))))))))) 83]) ?_ ?_
  · by_cases hc2 : th = true
    · refine wp_cond_false (fr_eval rfl (e29.trans (congrArg Value.bool (decide_eq_false (not_not_intro hc2))))) ?_
      refine wp_skip ?_
      exact ⟨_, rfl, 0, e0, e1, e2, e5, e6, e7, e8, ((e29.trans (congrArg Value.bool (decide_eq_false (not_not_intro hc2)))).trans (congrArg Value.bool (decide_eq_false (not_not_intro hc2)).symm)), hH⟩
    · refine wp_cond_true (fr_eval rfl (e29.trans (congrArg Value.bool (decide_eq_true hc2)))) ?_
      refine wp_regionF ?_
      refine lf_val (v := .int .i64 7) (wantAll rfl) (rv_assign rfl rfl) ?_
      refine lf_nil ?_
      exact ⟨_, rfl, 7, e0, e1, e2, e5, e6, e7, rfl, ((e29.trans (congrArg Value.bool (decide_eq_true hc2))).trans (congrArg Value.bool (decide_eq_true hc2).symm)), hH⟩
  clear e0 e1 e2 e5 e6 e7 e8 e29 hH
  clear F
  rintro F w5 ⟨wv, e0, e1, e2, e5, e6, e7, e8, e29, hH⟩
  refine then_n ?_
  refine wp_seq ?_
  refine wp_seq ?_
  refine wp_regionF ?_
  refine lf_val (v := .pointer (some ⟨g1, 0, none⟩)) (wantAll rfl) (rv_fieldAddr (n := 0) rfl (fr_eval rfl e5) Try.underlying83 rfl rfl (by kernel_rfl)) ?_
  refine lf_val (v := .int .i64 xk) (wantAll rfl) (rv_load1 rfl (hH.blk (i := 6) rfl) (zLs_g2 u.h0.2 u.h1.2 u.o.2 u.x.2 u.jh.2 u.r.h.2 u.r.b.2) (fr_eval rfl rfl) Try.underlying3 rfl Try.sz3) ?_
  refine lf_nil ?_
  refine then_n ?_
  refine wp_block ?_
  refine wp_seq ?_
  refine wp_gen (fun F' => F' 0 = .pointer (some ⟨g, 0, none⟩) ∧ F' 1 = .pointer (some ⟨h, 0, none⟩) ∧ F' 2 = .agg (([.int .i64 xk, .int .i64 xi, .int .i64 xt, .int .i64 u.k, .int .i64 u.a, .int .i64 u.b, .int .i64 u.c0, .int .i64 u.c1, .int .i64 u.c2] : List Value) ++ (cBs u.h0.1 ++ (cBs u.h1.1 ++ (([.int .i64 u.g] : List Value) ++ (cBs u.o.1 ++ (([.int .i64 u.n] : List Value) ++ (cBs u.x.1 ++ (([.int .i64 u.jc, .int .i64 u.js] : List Value) ++ (cBs u.jh.1 ++ (([vb.1, .int .i64 u.r.t, .int .i64 u.r.c, .int .i64 u.r.s] : List Value) ++ (cBs u.r.h.1 ++ (cBs u.r.b.1 ++ ([vg.1, dv.1] : List Value))))))))))))).toArray ∧ F' 5 = .pointer (some ⟨g1, 0, none⟩) ∧ F' 6 = .bool false ∧ F' 7 = .bool (decide (th = true)) ∧ F' 8 = .int .i64 wv ∧ F' 29 = .bool (decide (¬ (th = true))) ∧ F' 31 = .int .i64 xk) ⟨e0, e1, e2, e5, e6, e7, e8, e29, rfl⟩ ?_
  clear e0 e1 e2 e5 e6 e7 e8 e29
  clear F
  rintro F ⟨e0, e1, e2, e5, e6, e7, e8, e29, e31⟩
  refine wp_regionF ?_
  refine lf_val (v := .bool (decide (xk = 3))) (wantAll rfl) (rv_eqlP (p := xk = 3) rfl (fr_eval rfl e31) rfl Iff.rfl) ?_
  refine lf_val (v := .bool (decide (xk = 3))) (wantAll rfl) (rv_assign rfl (fr_eval rfl rfl)) ?_
  refine lf_nil ?_
  refine then_n ?_
  refine wp_gen (fun F' => F' 0 = .pointer (some ⟨g, 0, none⟩) ∧ F' 1 = .pointer (some ⟨h, 0, none⟩) ∧ F' 2 = .agg (([.int .i64 xk, .int .i64 xi, .int .i64 xt, .int .i64 u.k, .int .i64 u.a, .int .i64 u.b, .int .i64 u.c0, .int .i64 u.c1, .int .i64 u.c2] : List Value) ++ (cBs u.h0.1 ++ (cBs u.h1.1 ++ (([.int .i64 u.g] : List Value) ++ (cBs u.o.1 ++ (([.int .i64 u.n] : List Value) ++ (cBs u.x.1 ++ (([.int .i64 u.jc, .int .i64 u.js] : List Value) ++ (cBs u.jh.1 ++ (([vb.1, .int .i64 u.r.t, .int .i64 u.r.c, .int .i64 u.r.s] : List Value) ++ (cBs u.r.h.1 ++ (cBs u.r.b.1 ++ ([vg.1, dv.1] : List Value))))))))))))).toArray ∧ F' 5 = .pointer (some ⟨g1, 0, none⟩) ∧ F' 6 = .bool false ∧ F' 7 = .bool (decide (th = true)) ∧ F' 8 = .int .i64 wv ∧ F' 29 = .bool (decide (¬ (th = true))) ∧ F' 31 = .int .i64 xk ∧ F' 32 = .bool (decide (xk = 3))) ⟨e0, e1, e2, e5, e6, e7, e8, e29, e31, rfl⟩ ?_
  clear e0 e1 e2 e5 e6 e7 e8 e29 e31
  clear F
  rintro F ⟨e0, e1, e2, e5, e6, e7, e8, e29, e31, e32⟩
  by_cases hc3 : xk = 3
  · refine wp_cond_true (fr_eval rfl (e32.trans (congrArg Value.bool (decide_eq_true hc3)))) ?_
    refine wp_seq ?_
    refine wp_regionF ?_
    refine lf_val (v := .pointer (some ⟨g, 0, none⟩)) (wantAll rfl) (rv_move rfl (fr_eval rfl e0)) ?_
    refine lf_val (v := .pointer (some ⟨g1, 2, none⟩)) (wantAll rfl) (rv_fieldAddr (n := 0) rfl (fr_eval rfl e5) Try.underlying83 rfl rfl (by kernel_rfl)) ?_
    refine lf_val (v := .int .i64 xt) (wantAll rfl) (rv_load1 rfl (hH.blk (i := 6) rfl) (zLs_g3 u.h0.2 u.h1.2 u.o.2 u.x.2 u.jh.2 u.r.h.2 u.r.b.2) (fr_eval rfl rfl) Try.underlying3 rfl Try.sz3) ?_
    refine lf_val (v := .pointer (some ⟨g1, 242, none⟩)) (wantAll rfl) (rv_fieldAddr (n := 0) rfl (fr_eval rfl e5) Try.underlying83 rfl rfl (by kernel_rfl)) ?_
    refine lf_val (v := dv.1) (wantAll rfl) (rv_load1 rfl (hH.blk (i := 6) rfl) (zLs_g4 u.h0.2 u.h1.2 u.o.2 u.x.2 u.jh.2 u.r.h.2 u.r.b.2) (fr_eval rfl rfl) Try.underlying22 rfl Try.sz22) ?_
    replace hH : Heap _ _ _ [_, _, _, _, _, _, _] := hH.perm (.trans (.swap _ _ _) (.cons _ (.trans (.swap _ _ _) (.cons _ (.trans (.swap _ _ _) (.cons _ (.refl _)))))))
    replace hH : Heap _ _ _ [_, _, _, _, _, _, _] := hH.perm (.cons _ (.trans (.swap _ _ _) (.cons _ (.trans (.swap _ _ _) (.cons _ (.trans (.swap _ _ _) (.cons _ (.refl _))))))))
    replace hH : Heap _ _ _ [_, _, _, _, _, _, _] := hH.perm (.cons _ (.cons _ (.trans (.swap _ _ _) (.cons _ (.trans (.swap _ _ _) (.cons _ (.trans (.swap _ _ _) (.cons _ (.refl _)))))))))
    replace hH : Heap _ _ _ [_, _, _, _, _, _, _] := hH.perm (.cons _ (.cons _ (.cons _ (.trans (.swap _ _ _) (.cons _ (.trans (.swap _ _ _) (.cons _ (.trans (.swap _ _ _) (.cons _ (.refl _))))))))))
    refine lf_call (wantAll rfl) (rv_call (args := [.pointer (some ⟨g, 0, none⟩), .int .i64 xt, dv.1]) rfl (evc (fr_eval rfl rfl) (evc (fr_eval rfl rfl) (evc (fr_eval rfl rfl) evn))) Try.call46) (netThrow_calls (Heap.partZ (L := [_, _, _, _]) (M := [_, _, _]) hH hZ) ls (by omega) lost (by omega) xt d (by omega) _ (Stab.part (L := [_, _, _, _]) (M := [_, _, _]) hsd hH) (Heap.part (L := [_, _, _, _]) (M := [_, _, _]) hH)) ?_
    rintro _ w6 ⟨y1, ls1, lo1, S1, rfl, hk1, hP⟩
    refine ⟨_, rfl, ?_⟩
    have hx := hH.callChg (L := [_, _, _, _]) (M := [_, _, _]) (fun _ h => h) hP
    replace hH : Heap _ _ _ [_, _, _, _, _, _, _] := hH.call (L := [_, _, _, _]) (M := [_, _, _]) (fun _ h => h) hP (Stays.blk (hP.blk (i := 0) rfl) (Stays.own (hP.own (i := 1) rfl) (Stays.bag hZ (hP.bag (i := 2) rfl) Stays.nil)))
    clear hP
    clear hx
    obtain ⟨hll1, hlo1⟩ := put_len (by omega) hk1
    refine lf_nil ?_
    refine then_n ?_
    refine wp_seq ?_
    refine wp_gen (fun F' => F' 0 = .pointer (some ⟨g, 0, none⟩) ∧ F' 1 = .pointer (some ⟨h, 0, none⟩) ∧ F' 2 = .agg (([.int .i64 xk, .int .i64 xi, .int .i64 xt, .int .i64 u.k, .int .i64 u.a, .int .i64 u.b, .int .i64 u.c0, .int .i64 u.c1, .int .i64 u.c2] : List Value) ++ (cBs u.h0.1 ++ (cBs u.h1.1 ++ (([.int .i64 u.g] : List Value) ++ (cBs u.o.1 ++ (([.int .i64 u.n] : List Value) ++ (cBs u.x.1 ++ (([.int .i64 u.jc, .int .i64 u.js] : List Value) ++ (cBs u.jh.1 ++ (([vb.1, .int .i64 u.r.t, .int .i64 u.r.c, .int .i64 u.r.s] : List Value) ++ (cBs u.r.h.1 ++ (cBs u.r.b.1 ++ ([vg.1, dv.1] : List Value))))))))))))).toArray ∧ F' 5 = .pointer (some ⟨g1, 0, none⟩) ∧ F' 6 = .bool false ∧ F' 7 = .bool (decide (th = true)) ∧ F' 8 = .int .i64 wv ∧ F' 29 = .bool (decide (¬ (th = true))) ∧ F' 31 = .int .i64 xk ∧ F' 32 = .bool true) ⟨e0, e1, e2, e5, e6, e7, e8, e29, e31, (e32.trans (congrArg Value.bool (decide_eq_true hc3)))⟩ ?_
    clear e0 e1 e2 e5 e6 e7 e8 e29 e31 e32
    clear F
    rintro F ⟨e0, e1, e2, e5, e6, e7, e8, e29, e31, e32⟩
    by_cases hf1 : d.length ≤ 65536 ∧ ps.length < 64
    · refine wp_regionF ?_
      refine lf_val (v := .pointer (some ⟨h, 0, none⟩)) (wantAll rfl) (rv_move rfl (fr_eval rfl e1)) ?_
      refine lf_val (v := .pointer (some ⟨g1, 2, none⟩)) (wantAll rfl) (rv_fieldAddr (n := 0) rfl (fr_eval rfl e5) Try.underlying83 rfl rfl (by kernel_rfl)) ?_
      refine lf_val (v := .int .i64 xt) (wantAll rfl) (rv_load1 rfl (hH.blk (i := 3) rfl) (zLs_g3 u.h0.2 u.h1.2 u.o.2 u.x.2 u.jh.2 u.r.h.2 u.r.b.2) (fr_eval rfl rfl) Try.underlying3 rfl Try.sz3) ?_
      refine lf_val (v := .pointer (some ⟨g1, 242, none⟩)) (wantAll rfl) (rv_fieldAddr (n := 0) rfl (fr_eval rfl e5) Try.underlying83 rfl rfl (by kernel_rfl)) ?_
      refine lf_val (v := dv.1) (wantAll rfl) (rv_load1 rfl (hH.blk (i := 3) rfl) (zLs_g4 u.h0.2 u.h1.2 u.o.2 u.x.2 u.jh.2 u.r.h.2 u.r.b.2) (fr_eval rfl rfl) Try.underlying22 rfl Try.sz22) ?_
      refine lf_val (v := .agg #[.int .i64 xt, dv.1]) (wantAll rfl) (rv_buildS (ps := [(0, (.tmp 42)), (1, (.tmp 44))]) (places := #[(0, 1), (1, 1)]) (z := .agg #[.int .i64 0, .slice none 0 0]) (zc := [.int .i64 0, .slice none 0 0]) (cs := [.int .i64 xt, dv.1]) rfl (evpc (fr_eval rfl rfl) (evpc (fr_eval rfl rfl) evpn)) (by kernel_rfl) rfl Try.underlying87 (fun _ => by kernel_rfl) (fill1 rfl rfl (by first | decide | simp) (show _ = [.int .i64 xt, .slice none 0 0] from rfl) (fill1 rfl dv.2 (by first | decide | simp) (show _ = [.int .i64 xt, dv.1] from rfl) fill0))) ?_
      refine lf_val (v := .pointer (some ⟨g1, 242, none⟩)) (wantAll rfl) (rv_fieldAddr (n := 0) rfl (fr_eval rfl e5) Try.underlying83 rfl rfl (by kernel_rfl)) ?_
      refine lf_val (v := dv.1) (wantAll rfl) (rv_load1 rfl (hH.blk (i := 3) rfl) (zLs_g4 u.h0.2 u.h1.2 u.o.2 u.x.2 u.jh.2 u.r.h.2 u.r.b.2) (fr_eval rfl rfl) Try.underlying22 rfl Try.sz22) ?_
      refine lf_val (v := .int .i64 ((d.length : Nat) : Int)) (wantAll rfl) (rv_len rfl (fr_eval rfl rfl) (RdB.rn (hsd.rd _ hH.chg) rfl) Try.underlying22) ?_
      refine lf_val (v := .bool (decide (d.length ≤ 65536))) (wantAll rfl) (rv_leqP (p := d.length ≤ 65536) rfl (fr_eval rfl rfl) rfl (by omega)) ?_
      replace hH : Heap _ _ _ [_, _, _, _, _, _, _] := hH.perm (.trans (.swap _ _ _) (.cons _ (.trans (.swap _ _ _) (.cons _ (.refl _)))))
      replace hH : Heap _ _ _ [_, _, _, _, _, _, _] := hH.perm (.cons _ (.trans (.swap _ _ _) (.cons _ (.trans (.swap _ _ _) (.cons _ (.refl _))))))
      replace hH : Heap _ _ _ [_, _, _, _, _, _, _] := hH.perm (.cons _ (.cons _ (.trans (.swap _ _ _) (.cons _ (.trans (.swap _ _ _) (.cons _ (.refl _)))))))
      replace hH : Heap _ _ _ [_, _, _, _, _, _, _] := hH.perm (.cons _ (.cons _ (.cons _ (.trans (.swap _ _ _) (.cons _ (.trans (.swap _ _ _) (.cons _ (.refl _))))))))
      replace hH : Heap _ _ _ [_, _, _, _, _, _, _] := hH.perm (.cons _ (.cons _ (.cons _ (.cons _ (.trans (.swap _ _ _) (.cons _ (.trans (.swap _ _ _) (.cons _ (.refl _)))))))))
      refine lf_call (wantAll rfl) (rv_call (args := [.pointer (some ⟨h, 0, none⟩), .agg (cLt (⟨xt, ⟨dv.1, dv.2⟩, d⟩ : Lt)).toArray, .bool (decide (d.length ≤ 65536))]) rfl (evc (fr_eval rfl rfl) (evc (show _ = Value.agg (cLt (⟨xt, ⟨dv.1, dv.2⟩, d⟩ : Lt)).toArray from (fr_eval rfl rfl)) (evc (fr_eval rfl rfl) evn))) Try.call57) (plPut_calls ps (by omega) plost (by omega) (⟨xt, ⟨dv.1, dv.2⟩, d⟩ : Lt) (d.length ≤ 65536) _ (Heap.part (L := [_, _, _, _, _]) (M := [_, _]) hH)) ?_
      rintro _ w7 ⟨y2, rfl, hQ⟩
      have hP := hQ.1 hf1
      clear hQ
      refine ⟨_, rfl, ?_⟩
      have hx := hH.callChg (L := [_, _, _, _, _]) (M := [_, _]) (fun _ h => h) hP
      replace hH : Heap _ _ _ [_, _, _, _, _, _, _] := hH.call (L := [_, _, _, _, _]) (M := [_, _]) (fun _ h => h) hP (Stays.blk (hP.blk (i := 0) rfl) (Stays.own (hP.own (i := 1) rfl) Stays.nil))
      clear hP
      clear hx
      refine lf_nil ?_
      refine then_n ?_
      refine wp_seq ?_
      refine wp_gen (fun F' => F' 0 = .pointer (some ⟨g, 0, none⟩) ∧ F' 1 = .pointer (some ⟨h, 0, none⟩) ∧ F' 2 = .agg (([.int .i64 xk, .int .i64 xi, .int .i64 xt, .int .i64 u.k, .int .i64 u.a, .int .i64 u.b, .int .i64 u.c0, .int .i64 u.c1, .int .i64 u.c2] : List Value) ++ (cBs u.h0.1 ++ (cBs u.h1.1 ++ (([.int .i64 u.g] : List Value) ++ (cBs u.o.1 ++ (([.int .i64 u.n] : List Value) ++ (cBs u.x.1 ++ (([.int .i64 u.jc, .int .i64 u.js] : List Value) ++ (cBs u.jh.1 ++ (([vb.1, .int .i64 u.r.t, .int .i64 u.r.c, .int .i64 u.r.s] : List Value) ++ (cBs u.r.h.1 ++ (cBs u.r.b.1 ++ ([vg.1, dv.1] : List Value))))))))))))).toArray ∧ F' 5 = .pointer (some ⟨g1, 0, none⟩) ∧ F' 6 = .bool false ∧ F' 7 = .bool (decide (th = true)) ∧ F' 8 = .int .i64 wv ∧ F' 29 = .bool (decide (¬ (th = true))) ∧ F' 31 = .int .i64 xk ∧ F' 32 = .bool true) ⟨e0, e1, e2, e5, e6, e7, e8, e29, e31, e32⟩ ?_
      clear e0 e1 e2 e5 e6 e7 e8 e29 e31 e32
      clear F
      rintro F ⟨e0, e1, e2, e5, e6, e7, e8, e29, e31, e32⟩
      refine wp_regionF ?_
      refine lf_val (v := .bool true) (wantAll rfl) (rv_assign rfl rfl) ?_
      refine lf_nil ?_
      refine then_n ?_
      refine wp_gen (fun F' => F' 0 = .pointer (some ⟨g, 0, none⟩) ∧ F' 1 = .pointer (some ⟨h, 0, none⟩) ∧ F' 2 = .agg (([.int .i64 xk, .int .i64 xi, .int .i64 xt, .int .i64 u.k, .int .i64 u.a, .int .i64 u.b, .int .i64 u.c0, .int .i64 u.c1, .int .i64 u.c2] : List Value) ++ (cBs u.h0.1 ++ (cBs u.h1.1 ++ (([.int .i64 u.g] : List Value) ++ (cBs u.o.1 ++ (([.int .i64 u.n] : List Value) ++ (cBs u.x.1 ++ (([.int .i64 u.jc, .int .i64 u.js] : List Value) ++ (cBs u.jh.1 ++ (([vb.1, .int .i64 u.r.t, .int .i64 u.r.c, .int .i64 u.r.s] : List Value) ++ (cBs u.r.h.1 ++ (cBs u.r.b.1 ++ ([vg.1, dv.1] : List Value))))))))))))).toArray ∧ F' 5 = .pointer (some ⟨g1, 0, none⟩) ∧ F' 6 = .bool true ∧ F' 7 = .bool (decide (th = true)) ∧ F' 8 = .int .i64 wv ∧ F' 29 = .bool (decide (¬ (th = true))) ∧ F' 31 = .int .i64 xk ∧ F' 32 = .bool true) ⟨e0, e1, e2, e5, rfl, e7, e8, e29, e31, e32⟩ ?_
      clear e0 e1 e2 e5 e6 e7 e8 e29 e31 e32
      clear F
      rintro F ⟨e0, e1, e2, e5, e6, e7, e8, e29, e31, e32⟩
      refine wp_ret ?_
      refine blk_ret ?_
      refine then_ret ?_
      replace hH : Heap _ _ _ [_, _, _, _, _, _, _] := hH.bagZ (x := (⟨xt, ⟨dv.1, dv.2⟩, d⟩ : Lt)) (i := 0) hZ rfl (hsd.rd _ hH.chg) hzd rfl
      have hF := hH
      replace hF : Heap _ _ _ [_, _, _, _, _, _] := hF.drop (.cons_cons _ (.cons _ (.cons_cons _ (.cons_cons _ (.cons_cons _ (.cons_cons _ (.cons_cons _ .slnil)))))))
      replace hF : Heap _ _ _ [_, _, _, _, _, _] := hF.perm (.trans (.swap _ _ _) (.cons _ (.refl _)))
      replace hF : Heap _ _ _ [_, _, _, _, _, _] := hF.perm (.cons _ (.trans (.swap _ _ _) (.cons _ (.refl _))))
      replace hF : Heap _ _ _ [_, _, _, _, _, _] := hF.perm (.cons _ (.cons _ (.trans (.swap _ _ _) (.cons _ (.refl _)))))
      replace hF : Heap _ _ _ [_, _, _, _, _, _] := hF.perm (.cons _ (.cons _ (.cons _ (.trans (.swap _ _ _) (.cons _ (.refl _))))))
      replace hF : Heap _ _ _ [_, _, _, _, _, _] := hF.perm (.cons _ (.cons _ (.cons _ (.cons _ (.trans (.swap _ _ _) (.cons _ (.refl _)))))))
      exact bodyPost_ret (v := (.bool true)) (res1 rfl (ro_tmp rfl e6)) rfl (⟨_, _, _, _, _, _, _, _, rfl, (kst_in hk1 heq rfl hf1.1 hf1.2), (by omega), (by first | omega | (simp only [List.length_cons, List.length_nil] at *; omega)), (bd_of hk1 (bd_put hbd (by show d.length ≤ _; omega))), hF⟩)
    · refine wp_regionF ?_
      refine lf_val (v := .pointer (some ⟨h, 0, none⟩)) (wantAll rfl) (rv_move rfl (fr_eval rfl e1)) ?_
      refine lf_val (v := .pointer (some ⟨g1, 2, none⟩)) (wantAll rfl) (rv_fieldAddr (n := 0) rfl (fr_eval rfl e5) Try.underlying83 rfl rfl (by kernel_rfl)) ?_
      refine lf_val (v := .int .i64 xt) (wantAll rfl) (rv_load1 rfl (hH.blk (i := 3) rfl) (zLs_g3 u.h0.2 u.h1.2 u.o.2 u.x.2 u.jh.2 u.r.h.2 u.r.b.2) (fr_eval rfl rfl) Try.underlying3 rfl Try.sz3) ?_
      refine lf_val (v := .pointer (some ⟨g1, 242, none⟩)) (wantAll rfl) (rv_fieldAddr (n := 0) rfl (fr_eval rfl e5) Try.underlying83 rfl rfl (by kernel_rfl)) ?_
      refine lf_val (v := dv.1) (wantAll rfl) (rv_load1 rfl (hH.blk (i := 3) rfl) (zLs_g4 u.h0.2 u.h1.2 u.o.2 u.x.2 u.jh.2 u.r.h.2 u.r.b.2) (fr_eval rfl rfl) Try.underlying22 rfl Try.sz22) ?_
      refine lf_val (v := .agg #[.int .i64 xt, dv.1]) (wantAll rfl) (rv_buildS (ps := [(0, (.tmp 42)), (1, (.tmp 44))]) (places := #[(0, 1), (1, 1)]) (z := .agg #[.int .i64 0, .slice none 0 0]) (zc := [.int .i64 0, .slice none 0 0]) (cs := [.int .i64 xt, dv.1]) rfl (evpc (fr_eval rfl rfl) (evpc (fr_eval rfl rfl) evpn)) (by kernel_rfl) rfl Try.underlying87 (fun _ => by kernel_rfl) (fill1 rfl rfl (by first | decide | simp) (show _ = [.int .i64 xt, .slice none 0 0] from rfl) (fill1 rfl dv.2 (by first | decide | simp) (show _ = [.int .i64 xt, dv.1] from rfl) fill0))) ?_
      refine lf_val (v := .pointer (some ⟨g1, 242, none⟩)) (wantAll rfl) (rv_fieldAddr (n := 0) rfl (fr_eval rfl e5) Try.underlying83 rfl rfl (by kernel_rfl)) ?_
      refine lf_val (v := dv.1) (wantAll rfl) (rv_load1 rfl (hH.blk (i := 3) rfl) (zLs_g4 u.h0.2 u.h1.2 u.o.2 u.x.2 u.jh.2 u.r.h.2 u.r.b.2) (fr_eval rfl rfl) Try.underlying22 rfl Try.sz22) ?_
      refine lf_val (v := .int .i64 ((d.length : Nat) : Int)) (wantAll rfl) (rv_len rfl (fr_eval rfl rfl) (RdB.rn (hsd.rd _ hH.chg) rfl) Try.underlying22) ?_
      refine lf_val (v := .bool (decide (d.length ≤ 65536))) (wantAll rfl) (rv_leqP (p := d.length ≤ 65536) rfl (fr_eval rfl rfl) rfl (by omega)) ?_
      replace hH : Heap _ _ _ [_, _, _, _, _, _, _] := hH.perm (.trans (.swap _ _ _) (.cons _ (.trans (.swap _ _ _) (.cons _ (.refl _)))))
      replace hH : Heap _ _ _ [_, _, _, _, _, _, _] := hH.perm (.cons _ (.trans (.swap _ _ _) (.cons _ (.trans (.swap _ _ _) (.cons _ (.refl _))))))
      replace hH : Heap _ _ _ [_, _, _, _, _, _, _] := hH.perm (.cons _ (.cons _ (.trans (.swap _ _ _) (.cons _ (.trans (.swap _ _ _) (.cons _ (.refl _)))))))
      replace hH : Heap _ _ _ [_, _, _, _, _, _, _] := hH.perm (.cons _ (.cons _ (.cons _ (.trans (.swap _ _ _) (.cons _ (.trans (.swap _ _ _) (.cons _ (.refl _))))))))
      replace hH : Heap _ _ _ [_, _, _, _, _, _, _] := hH.perm (.cons _ (.cons _ (.cons _ (.cons _ (.trans (.swap _ _ _) (.cons _ (.trans (.swap _ _ _) (.cons _ (.refl _)))))))))
      refine lf_call (wantAll rfl) (rv_call (args := [.pointer (some ⟨h, 0, none⟩), .agg (cLt (⟨xt, ⟨dv.1, dv.2⟩, d⟩ : Lt)).toArray, .bool (decide (d.length ≤ 65536))]) rfl (evc (fr_eval rfl rfl) (evc (show _ = Value.agg (cLt (⟨xt, ⟨dv.1, dv.2⟩, d⟩ : Lt)).toArray from (fr_eval rfl rfl)) (evc (fr_eval rfl rfl) evn))) Try.call57) (plPut_calls ps (by omega) plost (by omega) (⟨xt, ⟨dv.1, dv.2⟩, d⟩ : Lt) (d.length ≤ 65536) _ (Heap.part (L := [_, _, _, _, _]) (M := [_, _]) hH)) ?_
      rintro _ w8 ⟨y3, rfl, hQ⟩
      have hP := hQ.2 hf1
      clear hQ
      refine ⟨_, rfl, ?_⟩
      have hx := hH.callChg (L := [_, _, _, _, _]) (M := [_, _]) (fun _ h => h) hP
      replace hH : Heap _ _ _ [_, _, _, _, _, _, _] := hH.call (L := [_, _, _, _, _]) (M := [_, _]) (fun _ h => h) hP (Stays.blk (hP.blk (i := 0) rfl) (Stays.own (hP.own (i := 1) rfl) Stays.nil))
      clear hP
      clear hx
      refine lf_nil ?_
      refine then_n ?_
      refine wp_seq ?_
      refine wp_gen (fun F' => F' 0 = .pointer (some ⟨g, 0, none⟩) ∧ F' 1 = .pointer (some ⟨h, 0, none⟩) ∧ F' 2 = .agg (([.int .i64 xk, .int .i64 xi, .int .i64 xt, .int .i64 u.k, .int .i64 u.a, .int .i64 u.b, .int .i64 u.c0, .int .i64 u.c1, .int .i64 u.c2] : List Value) ++ (cBs u.h0.1 ++ (cBs u.h1.1 ++ (([.int .i64 u.g] : List Value) ++ (cBs u.o.1 ++ (([.int .i64 u.n] : List Value) ++ (cBs u.x.1 ++ (([.int .i64 u.jc, .int .i64 u.js] : List Value) ++ (cBs u.jh.1 ++ (([vb.1, .int .i64 u.r.t, .int .i64 u.r.c, .int .i64 u.r.s] : List Value) ++ (cBs u.r.h.1 ++ (cBs u.r.b.1 ++ ([vg.1, dv.1] : List Value))))))))))))).toArray ∧ F' 5 = .pointer (some ⟨g1, 0, none⟩) ∧ F' 6 = .bool false ∧ F' 7 = .bool (decide (th = true)) ∧ F' 8 = .int .i64 wv ∧ F' 29 = .bool (decide (¬ (th = true))) ∧ F' 31 = .int .i64 xk ∧ F' 32 = .bool true) ⟨e0, e1, e2, e5, e6, e7, e8, e29, e31, e32⟩ ?_
      clear e0 e1 e2 e5 e6 e7 e8 e29 e31 e32
      clear F
      rintro F ⟨e0, e1, e2, e5, e6, e7, e8, e29, e31, e32⟩
      refine wp_regionF ?_
      refine lf_val (v := .bool true) (wantAll rfl) (rv_assign rfl rfl) ?_
      refine lf_nil ?_
      refine then_n ?_
      refine wp_gen (fun F' => F' 0 = .pointer (some ⟨g, 0, none⟩) ∧ F' 1 = .pointer (some ⟨h, 0, none⟩) ∧ F' 2 = .agg (([.int .i64 xk, .int .i64 xi, .int .i64 xt, .int .i64 u.k, .int .i64 u.a, .int .i64 u.b, .int .i64 u.c0, .int .i64 u.c1, .int .i64 u.c2] : List Value) ++ (cBs u.h0.1 ++ (cBs u.h1.1 ++ (([.int .i64 u.g] : List Value) ++ (cBs u.o.1 ++ (([.int .i64 u.n] : List Value) ++ (cBs u.x.1 ++ (([.int .i64 u.jc, .int .i64 u.js] : List Value) ++ (cBs u.jh.1 ++ (([vb.1, .int .i64 u.r.t, .int .i64 u.r.c, .int .i64 u.r.s] : List Value) ++ (cBs u.r.h.1 ++ (cBs u.r.b.1 ++ ([vg.1, dv.1] : List Value))))))))))))).toArray ∧ F' 5 = .pointer (some ⟨g1, 0, none⟩) ∧ F' 6 = .bool true ∧ F' 7 = .bool (decide (th = true)) ∧ F' 8 = .int .i64 wv ∧ F' 29 = .bool (decide (¬ (th = true))) ∧ F' 31 = .int .i64 xk ∧ F' 32 = .bool true) ⟨e0, e1, e2, e5, rfl, e7, e8, e29, e31, e32⟩ ?_
      clear e0 e1 e2 e5 e6 e7 e8 e29 e31 e32
      clear F
      rintro F ⟨e0, e1, e2, e5, e6, e7, e8, e29, e31, e32⟩
      refine wp_ret ?_
      refine blk_ret ?_
      refine then_ret ?_
      have hF := hH
      replace hF : Heap _ _ _ [_, _, _, _, _, _] := hF.drop (.cons_cons _ (.cons _ (.cons_cons _ (.cons_cons _ (.cons_cons _ (.cons_cons _ (.cons_cons _ .slnil)))))))
      replace hF : Heap _ _ _ [_, _, _, _, _, _] := hF.perm (.trans (.swap _ _ _) (.cons _ (.refl _)))
      replace hF : Heap _ _ _ [_, _, _, _, _, _] := hF.perm (.cons _ (.trans (.swap _ _ _) (.cons _ (.refl _))))
      replace hF : Heap _ _ _ [_, _, _, _, _, _] := hF.perm (.cons _ (.cons _ (.trans (.swap _ _ _) (.cons _ (.refl _)))))
      replace hF : Heap _ _ _ [_, _, _, _, _, _] := hF.perm (.cons _ (.cons _ (.cons _ (.trans (.swap _ _ _) (.cons _ (.refl _))))))
      replace hF : Heap _ _ _ [_, _, _, _, _, _] := hF.perm (.cons _ (.cons _ (.cons _ (.cons _ (.trans (.swap _ _ _) (.cons _ (.refl _)))))))
      exact bodyPost_ret (v := (.bool true)) (res1 rfl (ro_tmp rfl e6)) rfl (⟨_, _, _, _, _, _, _, _, rfl, (kst_out hk1 heq hf1), (by omega), (by first | omega | (simp only [List.length_cons, List.length_nil] at *; omega)), (bd_of hk1 (bd_put hbd (by show d.length ≤ _; omega))), hF⟩)
  · refine wp_cond_false (fr_eval rfl (e32.trans (congrArg Value.bool (decide_eq_false hc3)))) ?_
    refine wp_seq ?_
    refine wp_regionF ?_
    refine lf_val (v := .bool false) (wantAll rfl) (rv_eql rfl (fr_eval rfl e31) rfl (decide_eq_false (by omega))) ?_
    refine lf_val (v := .bool false) (wantAll rfl) (rv_assign rfl (fr_eval rfl rfl)) ?_
    refine lf_nil ?_
    refine then_n ?_
    refine wp_gen (fun F' => F' 0 = .pointer (some ⟨g, 0, none⟩) ∧ F' 1 = .pointer (some ⟨h, 0, none⟩) ∧ F' 2 = .agg (([.int .i64 xk, .int .i64 xi, .int .i64 xt, .int .i64 u.k, .int .i64 u.a, .int .i64 u.b, .int .i64 u.c0, .int .i64 u.c1, .int .i64 u.c2] : List Value) ++ (cBs u.h0.1 ++ (cBs u.h1.1 ++ (([.int .i64 u.g] : List Value) ++ (cBs u.o.1 ++ (([.int .i64 u.n] : List Value) ++ (cBs u.x.1 ++ (([.int .i64 u.jc, .int .i64 u.js] : List Value) ++ (cBs u.jh.1 ++ (([vb.1, .int .i64 u.r.t, .int .i64 u.r.c, .int .i64 u.r.s] : List Value) ++ (cBs u.r.h.1 ++ (cBs u.r.b.1 ++ ([vg.1, dv.1] : List Value))))))))))))).toArray ∧ F' 5 = .pointer (some ⟨g1, 0, none⟩) ∧ F' 6 = .bool false ∧ F' 7 = .bool (decide (th = true)) ∧ F' 8 = .int .i64 wv ∧ F' 29 = .bool (decide (¬ (th = true))) ∧ F' 31 = .int .i64 xk ∧ F' 32 = .bool false ∧ F' 51 = .bool false) ⟨e0, e1, e2, e5, e6, e7, e8, e29, e31, (e32.trans (congrArg Value.bool (decide_eq_false hc3))), rfl⟩ ?_
    clear e0 e1 e2 e5 e6 e7 e8 e29 e31 e32
    clear F
    rintro F ⟨e0, e1, e2, e5, e6, e7, e8, e29, e31, e32, e51⟩
    refine wp_cond_false (fr_eval rfl e51) ?_
    refine wp_seq ?_
    refine wp_regionF ?_
    refine lf_val (v := .bool false) (wantAll rfl) (rv_eql rfl (fr_eval rfl e31) rfl (decide_eq_false (by omega))) ?_
    refine lf_val (v := .bool false) (wantAll rfl) (rv_assign rfl (fr_eval rfl rfl)) ?_
    refine lf_nil ?_
    refine then_n ?_
    refine wp_gen (fun F' => F' 0 = .pointer (some ⟨g, 0, none⟩) ∧ F' 1 = .pointer (some ⟨h, 0, none⟩) ∧ F' 2 = .agg (([.int .i64 xk, .int .i64 xi, .int .i64 xt, .int .i64 u.k, .int .i64 u.a, .int .i64 u.b, .int .i64 u.c0, .int .i64 u.c1, .int .i64 u.c2] : List Value) ++ (cBs u.h0.1 ++ (cBs u.h1.1 ++ (([.int .i64 u.g] : List Value) ++ (cBs u.o.1 ++ (([.int .i64 u.n] : List Value) ++ (cBs u.x.1 ++ (([.int .i64 u.jc, .int .i64 u.js] : List Value) ++ (cBs u.jh.1 ++ (([vb.1, .int .i64 u.r.t, .int .i64 u.r.c, .int .i64 u.r.s] : List Value) ++ (cBs u.r.h.1 ++ (cBs u.r.b.1 ++ ([vg.1, dv.1] : List Value))))))))))))).toArray ∧ F' 5 = .pointer (some ⟨g1, 0, none⟩) ∧ F' 6 = .bool false ∧ F' 7 = .bool (decide (th = true)) ∧ F' 8 = .int .i64 wv ∧ F' 29 = .bool (decide (¬ (th = true))) ∧ F' 31 = .int .i64 xk ∧ F' 32 = .bool false ∧ F' 51 = .bool false ∧ F' 108 = .bool false) ⟨e0, e1, e2, e5, e6, e7, e8, e29, e31, e32, e51, rfl⟩ ?_
    clear e0 e1 e2 e5 e6 e7 e8 e29 e31 e32 e51
    clear F
    rintro F ⟨e0, e1, e2, e5, e6, e7, e8, e29, e31, e32, e51, e108⟩
    refine wp_cond_false (fr_eval rfl e108) ?_
    refine wp_seq ?_
    refine wp_regionF ?_
    refine lf_val (v := .bool false) (wantAll rfl) (rv_eql rfl (fr_eval rfl e31) rfl (decide_eq_false (by omega))) ?_
    refine lf_val (v := .bool false) (wantAll rfl) (rv_assign rfl (fr_eval rfl rfl)) ?_
    refine lf_nil ?_
    refine then_n ?_
    refine wp_gen (fun F' => F' 0 = .pointer (some ⟨g, 0, none⟩) ∧ F' 1 = .pointer (some ⟨h, 0, none⟩) ∧ F' 2 = .agg (([.int .i64 xk, .int .i64 xi, .int .i64 xt, .int .i64 u.k, .int .i64 u.a, .int .i64 u.b, .int .i64 u.c0, .int .i64 u.c1, .int .i64 u.c2] : List Value) ++ (cBs u.h0.1 ++ (cBs u.h1.1 ++ (([.int .i64 u.g] : List Value) ++ (cBs u.o.1 ++ (([.int .i64 u.n] : List Value) ++ (cBs u.x.1 ++ (([.int .i64 u.jc, .int .i64 u.js] : List Value) ++ (cBs u.jh.1 ++ (([vb.1, .int .i64 u.r.t, .int .i64 u.r.c, .int .i64 u.r.s] : List Value) ++ (cBs u.r.h.1 ++ (cBs u.r.b.1 ++ ([vg.1, dv.1] : List Value))))))))))))).toArray ∧ F' 5 = .pointer (some ⟨g1, 0, none⟩) ∧ F' 6 = .bool false ∧ F' 7 = .bool (decide (th = true)) ∧ F' 8 = .int .i64 wv ∧ F' 29 = .bool (decide (¬ (th = true))) ∧ F' 31 = .int .i64 xk ∧ F' 32 = .bool false ∧ F' 51 = .bool false ∧ F' 108 = .bool false ∧ F' 130 = .bool false) ⟨e0, e1, e2, e5, e6, e7, e8, e29, e31, e32, e51, e108, rfl⟩ ?_
    clear e0 e1 e2 e5 e6 e7 e8 e29 e31 e32 e51 e108
    clear F
    rintro F ⟨e0, e1, e2, e5, e6, e7, e8, e29, e31, e32, e51, e108, e130⟩
    refine wp_cond_false (fr_eval rfl e130) ?_
    refine wp_skip ?_
    refine blk_n ?_
    refine then_n ?_
    refine wp_seq ?_
    refine wp_regionF ?_
    refine lf_val (v := .pointer (some ⟨g, 0, none⟩)) (wantAll rfl) (rv_move rfl (fr_eval rfl e0)) ?_
    refine lf_val (v := .pointer (some ⟨g1, 3, none⟩)) (wantAll rfl) (rv_fieldAddr (n := 238) rfl (fr_eval rfl e5) Try.underlying83 rfl rfl (by kernel_rfl)) ?_
    refine lf_val (wantAll rfl) (rv_loadP rfl (hH.blk (i := 6) rfl) (zLs_p6 u.h0.2 u.h1.2 u.o.2 u.x.2 u.jh.2 u.r.h.2 u.r.b.2) (zLs_l5 u.h0.2 u.h1.2 u.o.2 u.x.2 u.jh.2 u.r.h.2 u.r.b.2) (fr_eval rfl rfl) Try.underlying81 rfl Try.sz81) ?_
    refine lf_ex (wantAll rfl) (hx_lit1 hH Try.stMsgs (cs := cMg (⟨u, ⟨vb.1, vb.2⟩, ⟨vg.1, vg.2⟩, bl, sg⟩ : Mg)) (xs := List.flatMap cMg [(⟨u, ⟨vb.1, vb.2⟩, ⟨vg.1, vg.2⟩, bl, sg⟩ : Mg)]) rfl (fr_eval rfl rfl) (cMg_ln (⟨u, ⟨vb.1, vb.2⟩, ⟨vg.1, vg.2⟩, bl, sg⟩ : Mg)) (by decide) (List.flatMap_singleton ..).symm) ?_
    clear hH
    rintro y4 w9 ⟨hH, hx⟩
    replace hH : Heap _ _ _ [_, _, _, _, _, _, _, _] := hH
    clear hx
    replace hH : Heap _ _ _ [_, _, _, _, _, _, _, _] := hH.perm (.trans (.swap _ _ _) (.cons _ (.trans (.swap _ _ _) (.cons _ (.trans (.swap _ _ _) (.cons _ (.refl _)))))))
    replace hH : Heap _ _ _ [_, _, _, _, _, _, _, _] := hH.perm (.cons _ (.trans (.swap _ _ _) (.cons _ (.trans (.swap _ _ _) (.cons _ (.trans (.swap _ _ _) (.cons _ (.refl _))))))))
    replace hH : Heap _ _ _ [_, _, _, _, _, _, _, _] := hH.perm (.cons _ (.cons _ (.trans (.swap _ _ _) (.cons _ (.trans (.swap _ _ _) (.cons _ (.trans (.swap _ _ _) (.cons _ (.refl _)))))))))
    replace hH : Heap _ _ _ [_, _, _, _, _, _, _, _] := hH.perm (.cons _ (.cons _ (.cons _ (.trans (.swap _ _ _) (.cons _ (.trans (.swap _ _ _) (.cons _ (.trans (.swap _ _ _) (.cons _ (.refl _))))))))))
    replace hH : Heap _ _ _ [_, _, _, _, _, _, _, _] := hH.perm (.cons _ (.cons _ (.cons _ (.cons _ (.trans (.swap _ _ _) (.cons _ (.trans (.swap _ _ _) (.cons _ (.trans (.swap _ _ _) (.cons _ (.refl _)))))))))))
    refine lf_call (wantAll rfl) (rv_call (args := [.pointer (some ⟨g, 0, none⟩), y4]) rfl (evc (fr_eval rfl rfl) (evc (fr_eval rfl rfl) evn)) Try.call45) (netSend_calls (Heap.partZ (L := [_, _, _, _, _]) (M := [_, _, _]) hH hZ) ls (by omega) lost (by omega) [(⟨u, ⟨vb.1, vb.2⟩, ⟨vg.1, vg.2⟩, bl, sg⟩ : Mg)] (by simp) (all1 ⟨him, by show bl.length ≤ _; omega, by show sg.length ≤ _; omega⟩) _ (Heap.rowStab (L := [_, _, _, _, _]) (M := [_, _, _]) hH (i := 4) rfl (row_one cMg_one)) (all1 ⟨Stab.part (L := [_, _, _, _, _]) (M := [_, _, _]) hsb hH, Stab.part (L := [_, _, _, _, _]) (M := [_, _, _]) hsg hH⟩) (Heap.part (L := [_, _, _, _, _]) (M := [_, _, _]) hH)) ?_
    rintro _ w10 ⟨y5, ls2, lo2, S2, rfl, hk2, hP⟩
    refine ⟨_, rfl, ?_⟩
    have hx := hH.callChg (L := [_, _, _, _, _]) (M := [_, _, _]) (fun _ h => h) hP
    replace hH : Heap _ _ _ [_, _, _, _, _, _, _, _] := hH.call (L := [_, _, _, _, _]) (M := [_, _, _]) (fun _ h => h) hP (Stays.blk (hP.blk (i := 0) rfl) (Stays.own (hP.own (i := 1) rfl) (Stays.bag hZ (hP.bag (i := 2) rfl) Stays.nil)))
    clear hP
    clear hx
    obtain ⟨hll2, hlo2⟩ := send_len (by omega) hk2
    refine lf_nil ?_
    refine then_n ?_
    refine wp_seq ?_
    replace hH : Heap _ _ _ [_, _, _, _, _, _, _] := hH.drop (.cons_cons _ (.cons_cons _ (.cons_cons _ (.cons_cons _ (.cons _ (.cons_cons _ (.cons_cons _ (.cons_cons _ .slnil))))))))
    refine wp_gen (fun F' => F' 0 = .pointer (some ⟨g, 0, none⟩) ∧ F' 1 = .pointer (some ⟨h, 0, none⟩) ∧ F' 2 = .agg (([.int .i64 xk, .int .i64 xi, .int .i64 xt, .int .i64 u.k, .int .i64 u.a, .int .i64 u.b, .int .i64 u.c0, .int .i64 u.c1, .int .i64 u.c2] : List Value) ++ (cBs u.h0.1 ++ (cBs u.h1.1 ++ (([.int .i64 u.g] : List Value) ++ (cBs u.o.1 ++ (([.int .i64 u.n] : List Value) ++ (cBs u.x.1 ++ (([.int .i64 u.jc, .int .i64 u.js] : List Value) ++ (cBs u.jh.1 ++ (([vb.1, .int .i64 u.r.t, .int .i64 u.r.c, .int .i64 u.r.s] : List Value) ++ (cBs u.r.h.1 ++ (cBs u.r.b.1 ++ ([vg.1, dv.1] : List Value))))))))))))).toArray ∧ F' 5 = .pointer (some ⟨g1, 0, none⟩) ∧ F' 6 = .bool false ∧ F' 7 = .bool (decide (th = true)) ∧ F' 8 = .int .i64 wv ∧ F' 29 = .bool (decide (¬ (th = true))) ∧ F' 31 = .int .i64 xk ∧ F' 32 = .bool false ∧ F' 51 = .bool false ∧ F' 108 = .bool false ∧ F' 130 = .bool false) ⟨e0, e1, e2, e5, e6, e7, e8, e29, e31, e32, e51, e108, e130⟩ ?_
    clear e0 e1 e2 e5 e6 e7 e8 e29 e31 e32 e51 e108 e130
    clear F
    rintro F ⟨e0, e1, e2, e5, e6, e7, e8, e29, e31, e32, e51, e108, e130⟩
    by_cases hf2 : inM u
    · refine wp_regionF ?_
      refine lf_val (v := .pointer (some ⟨g1, 3, none⟩)) (wantAll rfl) (rv_fieldAddr (n := 238) rfl (fr_eval rfl e5) Try.underlying83 rfl rfl (by kernel_rfl)) ?_
      refine lf_val (wantAll rfl) (rv_loadP rfl (hH.blk (i := 3) rfl) (zLs_p6 u.h0.2 u.h1.2 u.o.2 u.x.2 u.jh.2 u.r.h.2 u.r.b.2) (zLs_l5 u.h0.2 u.h1.2 u.o.2 u.x.2 u.jh.2 u.r.h.2 u.r.b.2) (fr_eval rfl rfl) Try.underlying81 rfl Try.sz81) ?_
      refine lf_call (wantAll rfl) (rv_call (args := [.agg (([.int .i64 u.k, .int .i64 u.a, .int .i64 u.b, .int .i64 u.c0, .int .i64 u.c1, .int .i64 u.c2] : List Value) ++ (cBs u.h0.1 ++ (cBs u.h1.1 ++ (([.int .i64 u.g] : List Value) ++ (cBs u.o.1 ++ (([.int .i64 u.n] : List Value) ++ (cBs u.x.1 ++ (([.int .i64 u.jc, .int .i64 u.js] : List Value) ++ (cBs u.jh.1 ++ (([vb.1, .int .i64 u.r.t, .int .i64 u.r.c, .int .i64 u.r.s] : List Value) ++ (cBs u.r.h.1 ++ (cBs u.r.b.1 ++ ([vg.1] : List Value))))))))))))).toArray]) rfl (evc (fr_eval rfl rfl) evn) Try.call51) (msPut_yes u him bl sg (by omega) (by omega) _ _ _ (hsb.rd _ hH.chg) (hsg.rd _ hH.chg) hf2) ?_
      rintro _ w11 ⟨⟨y6, rfl, ho, hg⟩, hx⟩
      refine ⟨_, rfl, ?_⟩
      replace hH : Heap _ _ _ [_, _, _, _, _, _, _, _] := hH.addOwn hx hg ho
      clear ho hg
      have qy1 : y6.oneCell' = true := Rd.oneV (OwnB.rd (hH.own (i := 7) rfl))
      clear hx
      refine lf_val (v := .tuple #[y6, .int .i64 0]) (wantAll rfl) (rv_move rfl (fr_eval rfl rfl)) ?_
      refine lf_val (v := y6) (wantAll rfl) (rv_extract rfl (fr_eval rfl rfl) rfl) ?_
      refine lf_val (v := .int .i64 0) (wantAll rfl) (rv_extract rfl (fr_eval rfl rfl) rfl) ?_
      refine lf_val (v := y6) (wantAll rfl) (rv_assign rfl (fr_eval rfl rfl)) ?_
      refine lf_val (v := .int .i64 0) (wantAll rfl) (rv_assign rfl (fr_eval rfl rfl)) ?_
      refine lf_nil ?_
      refine then_n ?_
      refine wp_seq ?_
      refine wp_gen (fun F' => F' 0 = .pointer (some ⟨g, 0, none⟩) ∧ F' 1 = .pointer (some ⟨h, 0, none⟩) ∧ F' 2 = .agg (([.int .i64 xk, .int .i64 xi, .int .i64 xt, .int .i64 u.k, .int .i64 u.a, .int .i64 u.b, .int .i64 u.c0, .int .i64 u.c1, .int .i64 u.c2] : List Value) ++ (cBs u.h0.1 ++ (cBs u.h1.1 ++ (([.int .i64 u.g] : List Value) ++ (cBs u.o.1 ++ (([.int .i64 u.n] : List Value) ++ (cBs u.x.1 ++ (([.int .i64 u.jc, .int .i64 u.js] : List Value) ++ (cBs u.jh.1 ++ (([vb.1, .int .i64 u.r.t, .int .i64 u.r.c, .int .i64 u.r.s] : List Value) ++ (cBs u.r.h.1 ++ (cBs u.r.b.1 ++ ([vg.1, dv.1] : List Value))))))))))))).toArray ∧ F' 5 = .pointer (some ⟨g1, 0, none⟩) ∧ F' 6 = .bool false ∧ F' 7 = .bool (decide (th = true)) ∧ F' 8 = .int .i64 wv ∧ F' 13 = y6 ∧ F' 14 = .int .i64 0 ∧ F' 29 = .bool (decide (¬ (th = true))) ∧ F' 31 = .int .i64 xk ∧ F' 32 = .bool false ∧ F' 51 = .bool false ∧ F' 108 = .bool false ∧ F' 130 = .bool false) ⟨e0, e1, e2, e5, e6, e7, e8, rfl, rfl, e29, e31, e32, e51, e108, e130⟩ ?_
      clear e0 e1 e2 e5 e6 e7 e8 e29 e31 e32 e51 e108 e130
      clear F
      rintro F ⟨e0, e1, e2, e5, e6, e7, e8, e13, e14, e29, e31, e32, e51, e108, e130⟩
      by_cases hf3 : ps.length < 64
      · refine wp_regionF ?_
        refine lf_val (v := .pointer (some ⟨h, 0, none⟩)) (wantAll rfl) (rv_move rfl (fr_eval rfl e1)) ?_
        refine lf_val (v := .pointer (some ⟨g1, 3, none⟩)) (wantAll rfl) (rv_fieldAddr (n := 238) rfl (fr_eval rfl e5) Try.underlying83 rfl rfl (by kernel_rfl)) ?_
        refine lf_val (v := .pointer (some ⟨g1, 5, none⟩)) (wantAll rfl) (rv_fieldAddr (n := 0) rfl (fr_eval rfl rfl) Try.underlying81 rfl rfl (by kernel_rfl)) ?_
        refine lf_val (v := .int .i64 u.b) (wantAll rfl) (rv_load1 rfl (hH.blk (i := 3) rfl) (zLs_g7 u.h0.2 u.h1.2 u.o.2 u.x.2 u.jh.2 u.r.h.2 u.r.b.2) (fr_eval rfl rfl) Try.underlying3 rfl Try.sz3) ?_
        refine lf_val (v := y6) (wantAll rfl) (rv_move rfl (fr_eval rfl e13)) ?_
        refine lf_val (v := .agg #[.int .i64 u.b, y6]) (wantAll rfl) (rv_buildS (ps := [(0, (.tmp 164)), (1, (.tmp 165))]) (places := #[(0, 1), (1, 1)]) (z := .agg #[.int .i64 0, .slice none 0 0]) (zc := [.int .i64 0, .slice none 0 0]) (cs := [.int .i64 u.b, y6]) rfl (evpc (fr_eval rfl rfl) (evpc (fr_eval rfl rfl) evpn)) (by kernel_rfl) rfl Try.underlying87 (fun _ => by kernel_rfl) (fill1 rfl rfl (by first | decide | simp) (show _ = [.int .i64 u.b, .slice none 0 0] from rfl) (fill1 rfl qy1 (by first | decide | simp) (show _ = [.int .i64 u.b, y6] from rfl) fill0))) ?_
        refine lf_val (v := .int .i64 0) (wantAll rfl) (rv_move rfl (fr_eval rfl e14)) ?_
        refine lf_val (v := .bool true) (wantAll rfl) (rv_eql rfl (fr_eval rfl rfl) rfl (by decide)) ?_
        replace hH : Heap _ _ _ [_, _, _, _, _, _, _, _] := hH.perm (.trans (.swap _ _ _) (.cons _ (.trans (.swap _ _ _) (.cons _ (.refl _)))))
        replace hH : Heap _ _ _ [_, _, _, _, _, _, _, _] := hH.perm (.cons _ (.trans (.swap _ _ _) (.cons _ (.trans (.swap _ _ _) (.cons _ (.refl _))))))
        replace hH : Heap _ _ _ [_, _, _, _, _, _, _, _] := hH.perm (.cons _ (.cons _ (.trans (.swap _ _ _) (.cons _ (.trans (.swap _ _ _) (.cons _ (.refl _)))))))
        replace hH : Heap _ _ _ [_, _, _, _, _, _, _, _] := hH.perm (.cons _ (.cons _ (.cons _ (.trans (.swap _ _ _) (.cons _ (.trans (.swap _ _ _) (.cons _ (.refl _))))))))
        replace hH : Heap _ _ _ [_, _, _, _, _, _, _, _] := hH.perm (.cons _ (.cons _ (.cons _ (.cons _ (.trans (.swap _ _ _) (.cons _ (.trans (.swap _ _ _) (.cons _ (.refl _)))))))))
        replace hH : Heap _ _ _ [_, _, _, _, _, _, _, _] := hH.perm (.cons _ (.cons _ (.cons _ (.cons _ (.cons _ (.trans (.swap _ _ _) (.cons _ (.trans (.swap _ _ _) (.cons _ (.refl _))))))))))
        refine lf_call (wantAll rfl) (rv_call (args := [.pointer (some ⟨h, 0, none⟩), .agg (cLt (⟨u.b, ⟨y6, qy1⟩, textM u bl sg⟩ : Lt)).toArray, .bool (decide True)]) rfl (evc (fr_eval rfl rfl) (evc (show _ = Value.agg (cLt (⟨u.b, ⟨y6, qy1⟩, textM u bl sg⟩ : Lt)).toArray from (fr_eval rfl rfl)) (evc ((fr_eval rfl rfl).trans (congrArg Value.bool (decide_eq_true trivial).symm)) evn))) Try.call57) (plPut_calls ps (by omega) plost (by omega) (⟨u.b, ⟨y6, qy1⟩, textM u bl sg⟩ : Lt) True _ (Heap.part (L := [_, _, _, _, _, _]) (M := [_, _]) hH)) ?_
        rintro _ w12 ⟨y7, rfl, hQ⟩
        have hP := hQ.1 ⟨trivial, hf3⟩
        clear hQ
        refine ⟨_, rfl, ?_⟩
        have hx := hH.callChg (L := [_, _, _, _, _, _]) (M := [_, _]) (fun _ h => h) hP
        replace hH : Heap _ _ _ [_, _, _, _, _, _, _, _] := hH.call (L := [_, _, _, _, _, _]) (M := [_, _]) (fun _ h => h) hP (Stays.blk (hP.blk (i := 0) rfl) (Stays.own (hP.own (i := 1) rfl) Stays.nil))
        clear hP
        clear hx
        refine lf_nil ?_
        refine then_n ?_
        refine wp_seq ?_
        refine wp_gen (fun F' => F' 0 = .pointer (some ⟨g, 0, none⟩) ∧ F' 1 = .pointer (some ⟨h, 0, none⟩) ∧ F' 2 = .agg (([.int .i64 xk, .int .i64 xi, .int .i64 xt, .int .i64 u.k, .int .i64 u.a, .int .i64 u.b, .int .i64 u.c0, .int .i64 u.c1, .int .i64 u.c2] : List Value) ++ (cBs u.h0.1 ++ (cBs u.h1.1 ++ (([.int .i64 u.g] : List Value) ++ (cBs u.o.1 ++ (([.int .i64 u.n] : List Value) ++ (cBs u.x.1 ++ (([.int .i64 u.jc, .int .i64 u.js] : List Value) ++ (cBs u.jh.1 ++ (([vb.1, .int .i64 u.r.t, .int .i64 u.r.c, .int .i64 u.r.s] : List Value) ++ (cBs u.r.h.1 ++ (cBs u.r.b.1 ++ ([vg.1, dv.1] : List Value))))))))))))).toArray ∧ F' 5 = .pointer (some ⟨g1, 0, none⟩) ∧ F' 6 = .bool false ∧ F' 7 = .bool (decide (th = true)) ∧ F' 8 = .int .i64 wv ∧ F' 13 = y6 ∧ F' 14 = .int .i64 0 ∧ F' 29 = .bool (decide (¬ (th = true))) ∧ F' 31 = .int .i64 xk ∧ F' 32 = .bool false ∧ F' 51 = .bool false ∧ F' 108 = .bool false ∧ F' 130 = .bool false) ⟨e0, e1, e2, e5, e6, e7, e8, e13, e14, e29, e31, e32, e51, e108, e130⟩ ?_
        clear e0 e1 e2 e5 e6 e7 e8 e13 e14 e29 e31 e32 e51 e108 e130
        clear F
        rintro F ⟨e0, e1, e2, e5, e6, e7, e8, e13, e14, e29, e31, e32, e51, e108, e130⟩
        refine wp_regionF ?_
        refine lf_val (v := .bool true) (wantAll rfl) (rv_assign rfl rfl) ?_
        refine lf_nil ?_
        refine then_n ?_
        refine wp_gen (fun F' => F' 0 = .pointer (some ⟨g, 0, none⟩) ∧ F' 1 = .pointer (some ⟨h, 0, none⟩) ∧ F' 2 = .agg (([.int .i64 xk, .int .i64 xi, .int .i64 xt, .int .i64 u.k, .int .i64 u.a, .int .i64 u.b, .int .i64 u.c0, .int .i64 u.c1, .int .i64 u.c2] : List Value) ++ (cBs u.h0.1 ++ (cBs u.h1.1 ++ (([.int .i64 u.g] : List Value) ++ (cBs u.o.1 ++ (([.int .i64 u.n] : List Value) ++ (cBs u.x.1 ++ (([.int .i64 u.jc, .int .i64 u.js] : List Value) ++ (cBs u.jh.1 ++ (([vb.1, .int .i64 u.r.t, .int .i64 u.r.c, .int .i64 u.r.s] : List Value) ++ (cBs u.r.h.1 ++ (cBs u.r.b.1 ++ ([vg.1, dv.1] : List Value))))))))))))).toArray ∧ F' 5 = .pointer (some ⟨g1, 0, none⟩) ∧ F' 6 = .bool true ∧ F' 7 = .bool (decide (th = true)) ∧ F' 8 = .int .i64 wv ∧ F' 13 = y6 ∧ F' 14 = .int .i64 0 ∧ F' 29 = .bool (decide (¬ (th = true))) ∧ F' 31 = .int .i64 xk ∧ F' 32 = .bool false ∧ F' 51 = .bool false ∧ F' 108 = .bool false ∧ F' 130 = .bool false) ⟨e0, e1, e2, e5, rfl, e7, e8, e13, e14, e29, e31, e32, e51, e108, e130⟩ ?_
        clear e0 e1 e2 e5 e6 e7 e8 e13 e14 e29 e31 e32 e51 e108 e130
        clear F
        rintro F ⟨e0, e1, e2, e5, e6, e7, e8, e13, e14, e29, e31, e32, e51, e108, e130⟩
        refine wp_ret ?_
        replace hH : Heap _ _ _ [_, _, _, _, _, _, _] := hH.bagOwn (x := (⟨u.b, ⟨y6, qy1⟩, textM u bl sg⟩ : Lt)) (i := 0) (j := 5) rfl rfl (by decide) rfl
        have hF := hH
        replace hF : Heap _ _ _ [_, _, _, _, _, _] := hF.drop (.cons_cons _ (.cons _ (.cons_cons _ (.cons_cons _ (.cons_cons _ (.cons_cons _ (.cons_cons _ .slnil)))))))
        replace hF : Heap _ _ _ [_, _, _, _, _, _] := hF.perm (.trans (.swap _ _ _) (.cons _ (.refl _)))
        replace hF : Heap _ _ _ [_, _, _, _, _, _] := hF.perm (.cons _ (.trans (.swap _ _ _) (.cons _ (.refl _))))
        replace hF : Heap _ _ _ [_, _, _, _, _, _] := hF.perm (.cons _ (.cons _ (.trans (.swap _ _ _) (.cons _ (.refl _)))))
        replace hF : Heap _ _ _ [_, _, _, _, _, _] := hF.perm (.cons _ (.cons _ (.cons _ (.trans (.swap _ _ _) (.cons _ (.refl _))))))
        replace hF : Heap _ _ _ [_, _, _, _, _, _] := hF.perm (.cons _ (.cons _ (.cons _ (.cons _ (.trans (.swap _ _ _) (.cons _ (.refl _)))))))
        exact bodyPost_ret (v := (.bool true)) (res1 rfl (ro_tmp rfl e6)) rfl (⟨_, _, _, _, _, _, _, _, rfl, (kst_in (k := (u.b, textM u bl sg)) (p := inM u) hk2 heq rfl hf2 hf3), (by omega), (by first | omega | (simp only [List.length_cons, List.length_nil] at *; omega)), (bd_of hk2 (bd_put hbd (by have := textM_len u bl sg; show (textM u bl sg).length ≤ _; omega))), hF⟩)
      · refine wp_regionF ?_
        refine lf_val (v := .pointer (some ⟨h, 0, none⟩)) (wantAll rfl) (rv_move rfl (fr_eval rfl e1)) ?_
        refine lf_val (v := .pointer (some ⟨g1, 3, none⟩)) (wantAll rfl) (rv_fieldAddr (n := 238) rfl (fr_eval rfl e5) Try.underlying83 rfl rfl (by kernel_rfl)) ?_
        refine lf_val (v := .pointer (some ⟨g1, 5, none⟩)) (wantAll rfl) (rv_fieldAddr (n := 0) rfl (fr_eval rfl rfl) Try.underlying81 rfl rfl (by kernel_rfl)) ?_
        refine lf_val (v := .int .i64 u.b) (wantAll rfl) (rv_load1 rfl (hH.blk (i := 3) rfl) (zLs_g7 u.h0.2 u.h1.2 u.o.2 u.x.2 u.jh.2 u.r.h.2 u.r.b.2) (fr_eval rfl rfl) Try.underlying3 rfl Try.sz3) ?_
        refine lf_val (v := y6) (wantAll rfl) (rv_move rfl (fr_eval rfl e13)) ?_
        refine lf_val (v := .agg #[.int .i64 u.b, y6]) (wantAll rfl) (rv_buildS (ps := [(0, (.tmp 164)), (1, (.tmp 165))]) (places := #[(0, 1), (1, 1)]) (z := .agg #[.int .i64 0, .slice none 0 0]) (zc := [.int .i64 0, .slice none 0 0]) (cs := [.int .i64 u.b, y6]) rfl (evpc (fr_eval rfl rfl) (evpc (fr_eval rfl rfl) evpn)) (by kernel_rfl) rfl Try.underlying87 (fun _ => by kernel_rfl) (fill1 rfl rfl (by first | decide | simp) (show _ = [.int .i64 u.b, .slice none 0 0] from rfl) (fill1 rfl qy1 (by first | decide | simp) (show _ = [.int .i64 u.b, y6] from rfl) fill0))) ?_
        refine lf_val (v := .int .i64 0) (wantAll rfl) (rv_move rfl (fr_eval rfl e14)) ?_
        refine lf_val (v := .bool true) (wantAll rfl) (rv_eql rfl (fr_eval rfl rfl) rfl (by decide)) ?_
        replace hH : Heap _ _ _ [_, _, _, _, _, _, _, _] := hH.perm (.trans (.swap _ _ _) (.cons _ (.trans (.swap _ _ _) (.cons _ (.refl _)))))
        replace hH : Heap _ _ _ [_, _, _, _, _, _, _, _] := hH.perm (.cons _ (.trans (.swap _ _ _) (.cons _ (.trans (.swap _ _ _) (.cons _ (.refl _))))))
        replace hH : Heap _ _ _ [_, _, _, _, _, _, _, _] := hH.perm (.cons _ (.cons _ (.trans (.swap _ _ _) (.cons _ (.trans (.swap _ _ _) (.cons _ (.refl _)))))))
        replace hH : Heap _ _ _ [_, _, _, _, _, _, _, _] := hH.perm (.cons _ (.cons _ (.cons _ (.trans (.swap _ _ _) (.cons _ (.trans (.swap _ _ _) (.cons _ (.refl _))))))))
        replace hH : Heap _ _ _ [_, _, _, _, _, _, _, _] := hH.perm (.cons _ (.cons _ (.cons _ (.cons _ (.trans (.swap _ _ _) (.cons _ (.trans (.swap _ _ _) (.cons _ (.refl _)))))))))
        replace hH : Heap _ _ _ [_, _, _, _, _, _, _, _] := hH.perm (.cons _ (.cons _ (.cons _ (.cons _ (.cons _ (.trans (.swap _ _ _) (.cons _ (.trans (.swap _ _ _) (.cons _ (.refl _))))))))))
        refine lf_call (wantAll rfl) (rv_call (args := [.pointer (some ⟨h, 0, none⟩), .agg (cLt (⟨u.b, ⟨y6, qy1⟩, textM u bl sg⟩ : Lt)).toArray, .bool (decide True)]) rfl (evc (fr_eval rfl rfl) (evc (show _ = Value.agg (cLt (⟨u.b, ⟨y6, qy1⟩, textM u bl sg⟩ : Lt)).toArray from (fr_eval rfl rfl)) (evc ((fr_eval rfl rfl).trans (congrArg Value.bool (decide_eq_true trivial).symm)) evn))) Try.call57) (plPut_calls ps (by omega) plost (by omega) (⟨u.b, ⟨y6, qy1⟩, textM u bl sg⟩ : Lt) True _ (Heap.part (L := [_, _, _, _, _, _]) (M := [_, _]) hH)) ?_
        rintro _ w13 ⟨y8, rfl, hQ⟩
        have hP := hQ.2 (fun q => hf3 q.2)
        clear hQ
        refine ⟨_, rfl, ?_⟩
        have hx := hH.callChg (L := [_, _, _, _, _, _]) (M := [_, _]) (fun _ h => h) hP
        replace hH : Heap _ _ _ [_, _, _, _, _, _, _, _] := hH.call (L := [_, _, _, _, _, _]) (M := [_, _]) (fun _ h => h) hP (Stays.blk (hP.blk (i := 0) rfl) (Stays.own (hP.own (i := 1) rfl) Stays.nil))
        clear hP
        clear hx
        refine lf_nil ?_
        refine then_n ?_
        refine wp_seq ?_
        refine wp_gen (fun F' => F' 0 = .pointer (some ⟨g, 0, none⟩) ∧ F' 1 = .pointer (some ⟨h, 0, none⟩) ∧ F' 2 = .agg (([.int .i64 xk, .int .i64 xi, .int .i64 xt, .int .i64 u.k, .int .i64 u.a, .int .i64 u.b, .int .i64 u.c0, .int .i64 u.c1, .int .i64 u.c2] : List Value) ++ (cBs u.h0.1 ++ (cBs u.h1.1 ++ (([.int .i64 u.g] : List Value) ++ (cBs u.o.1 ++ (([.int .i64 u.n] : List Value) ++ (cBs u.x.1 ++ (([.int .i64 u.jc, .int .i64 u.js] : List Value) ++ (cBs u.jh.1 ++ (([vb.1, .int .i64 u.r.t, .int .i64 u.r.c, .int .i64 u.r.s] : List Value) ++ (cBs u.r.h.1 ++ (cBs u.r.b.1 ++ ([vg.1, dv.1] : List Value))))))))))))).toArray ∧ F' 5 = .pointer (some ⟨g1, 0, none⟩) ∧ F' 6 = .bool false ∧ F' 7 = .bool (decide (th = true)) ∧ F' 8 = .int .i64 wv ∧ F' 13 = y6 ∧ F' 14 = .int .i64 0 ∧ F' 29 = .bool (decide (¬ (th = true))) ∧ F' 31 = .int .i64 xk ∧ F' 32 = .bool false ∧ F' 51 = .bool false ∧ F' 108 = .bool false ∧ F' 130 = .bool false) ⟨e0, e1, e2, e5, e6, e7, e8, e13, e14, e29, e31, e32, e51, e108, e130⟩ ?_
        clear e0 e1 e2 e5 e6 e7 e8 e13 e14 e29 e31 e32 e51 e108 e130
        clear F
        rintro F ⟨e0, e1, e2, e5, e6, e7, e8, e13, e14, e29, e31, e32, e51, e108, e130⟩
        refine wp_regionF ?_
        refine lf_val (v := .bool true) (wantAll rfl) (rv_assign rfl rfl) ?_
        refine lf_nil ?_
        refine then_n ?_
        refine wp_gen (fun F' => F' 0 = .pointer (some ⟨g, 0, none⟩) ∧ F' 1 = .pointer (some ⟨h, 0, none⟩) ∧ F' 2 = .agg (([.int .i64 xk, .int .i64 xi, .int .i64 xt, .int .i64 u.k, .int .i64 u.a, .int .i64 u.b, .int .i64 u.c0, .int .i64 u.c1, .int .i64 u.c2] : List Value) ++ (cBs u.h0.1 ++ (cBs u.h1.1 ++ (([.int .i64 u.g] : List Value) ++ (cBs u.o.1 ++ (([.int .i64 u.n] : List Value) ++ (cBs u.x.1 ++ (([.int .i64 u.jc, .int .i64 u.js] : List Value) ++ (cBs u.jh.1 ++ (([vb.1, .int .i64 u.r.t, .int .i64 u.r.c, .int .i64 u.r.s] : List Value) ++ (cBs u.r.h.1 ++ (cBs u.r.b.1 ++ ([vg.1, dv.1] : List Value))))))))))))).toArray ∧ F' 5 = .pointer (some ⟨g1, 0, none⟩) ∧ F' 6 = .bool true ∧ F' 7 = .bool (decide (th = true)) ∧ F' 8 = .int .i64 wv ∧ F' 13 = y6 ∧ F' 14 = .int .i64 0 ∧ F' 29 = .bool (decide (¬ (th = true))) ∧ F' 31 = .int .i64 xk ∧ F' 32 = .bool false ∧ F' 51 = .bool false ∧ F' 108 = .bool false ∧ F' 130 = .bool false) ⟨e0, e1, e2, e5, rfl, e7, e8, e13, e14, e29, e31, e32, e51, e108, e130⟩ ?_
        clear e0 e1 e2 e5 e6 e7 e8 e13 e14 e29 e31 e32 e51 e108 e130
        clear F
        rintro F ⟨e0, e1, e2, e5, e6, e7, e8, e13, e14, e29, e31, e32, e51, e108, e130⟩
        refine wp_ret ?_
        have hF := hH
        replace hF : Heap _ _ _ [_, _, _, _, _, _] := hF.drop (.cons_cons _ (.cons _ (.cons_cons _ (.cons_cons _ (.cons_cons _ (.cons _ (.cons_cons _ (.cons_cons _ .slnil))))))))
        replace hF : Heap _ _ _ [_, _, _, _, _, _] := hF.perm (.trans (.swap _ _ _) (.cons _ (.refl _)))
        replace hF : Heap _ _ _ [_, _, _, _, _, _] := hF.perm (.cons _ (.trans (.swap _ _ _) (.cons _ (.refl _))))
        replace hF : Heap _ _ _ [_, _, _, _, _, _] := hF.perm (.cons _ (.cons _ (.trans (.swap _ _ _) (.cons _ (.refl _)))))
        replace hF : Heap _ _ _ [_, _, _, _, _, _] := hF.perm (.cons _ (.cons _ (.cons _ (.trans (.swap _ _ _) (.cons _ (.refl _))))))
        replace hF : Heap _ _ _ [_, _, _, _, _, _] := hF.perm (.cons _ (.cons _ (.cons _ (.cons _ (.trans (.swap _ _ _) (.cons _ (.refl _)))))))
        exact bodyPost_ret (v := (.bool true)) (res1 rfl (ro_tmp rfl e6)) rfl (⟨_, _, _, _, _, _, _, _, rfl, (kst_out (k := (u.b, textM u bl sg)) (p := inM u) hk2 heq (fun q => hf3 q.2)), (by omega), (by first | omega | (simp only [List.length_cons, List.length_nil] at *; omega)), (bd_of hk2 (bd_put hbd (by have := textM_len u bl sg; show (textM u bl sg).length ≤ _; omega))), hF⟩)
    · refine wp_regionF ?_
      refine lf_val (v := .pointer (some ⟨g1, 3, none⟩)) (wantAll rfl) (rv_fieldAddr (n := 238) rfl (fr_eval rfl e5) Try.underlying83 rfl rfl (by kernel_rfl)) ?_
      refine lf_val (wantAll rfl) (rv_loadP rfl (hH.blk (i := 3) rfl) (zLs_p6 u.h0.2 u.h1.2 u.o.2 u.x.2 u.jh.2 u.r.h.2 u.r.b.2) (zLs_l5 u.h0.2 u.h1.2 u.o.2 u.x.2 u.jh.2 u.r.h.2 u.r.b.2) (fr_eval rfl rfl) Try.underlying81 rfl Try.sz81) ?_
      refine lf_call (wantAll rfl) (rv_call (args := [.agg (([.int .i64 u.k, .int .i64 u.a, .int .i64 u.b, .int .i64 u.c0, .int .i64 u.c1, .int .i64 u.c2] : List Value) ++ (cBs u.h0.1 ++ (cBs u.h1.1 ++ (([.int .i64 u.g] : List Value) ++ (cBs u.o.1 ++ (([.int .i64 u.n] : List Value) ++ (cBs u.x.1 ++ (([.int .i64 u.jc, .int .i64 u.js] : List Value) ++ (cBs u.jh.1 ++ (([vb.1, .int .i64 u.r.t, .int .i64 u.r.c, .int .i64 u.r.s] : List Value) ++ (cBs u.r.h.1 ++ (cBs u.r.b.1 ++ ([vg.1] : List Value))))))))))))).toArray]) rfl (evc (fr_eval rfl rfl) evn) Try.call51) (msPut_no u _ _ _ hf2) ?_
      rintro _ w15 ⟨rfl, hx⟩
      refine ⟨_, rfl, ?_⟩
      replace hH := hH.ext hx
      clear hx
      refine lf_val (v := .tuple #[.slice none 0 0, .int .i64 1]) (wantAll rfl) (rv_move rfl (fr_eval rfl rfl)) ?_
      refine lf_val (v := .slice none 0 0) (wantAll rfl) (rv_extract rfl (fr_eval rfl rfl) rfl) ?_
      refine lf_val (v := .int .i64 1) (wantAll rfl) (rv_extract rfl (fr_eval rfl rfl) rfl) ?_
      refine lf_val (v := .slice none 0 0) (wantAll rfl) (rv_assign rfl (fr_eval rfl rfl)) ?_
      refine lf_val (v := .int .i64 1) (wantAll rfl) (rv_assign rfl (fr_eval rfl rfl)) ?_
      refine lf_nil ?_
      refine then_n ?_
      refine wp_seq ?_
      refine wp_gen (fun F' => F' 0 = .pointer (some ⟨g, 0, none⟩) ∧ F' 1 = .pointer (some ⟨h, 0, none⟩) ∧ F' 2 = .agg (([.int .i64 xk, .int .i64 xi, .int .i64 xt, .int .i64 u.k, .int .i64 u.a, .int .i64 u.b, .int .i64 u.c0, .int .i64 u.c1, .int .i64 u.c2] : List Value) ++ (cBs u.h0.1 ++ (cBs u.h1.1 ++ (([.int .i64 u.g] : List Value) ++ (cBs u.o.1 ++ (([.int .i64 u.n] : List Value) ++ (cBs u.x.1 ++ (([.int .i64 u.jc, .int .i64 u.js] : List Value) ++ (cBs u.jh.1 ++ (([vb.1, .int .i64 u.r.t, .int .i64 u.r.c, .int .i64 u.r.s] : List Value) ++ (cBs u.r.h.1 ++ (cBs u.r.b.1 ++ ([vg.1, dv.1] : List Value))))))))))))).toArray ∧ F' 5 = .pointer (some ⟨g1, 0, none⟩) ∧ F' 6 = .bool false ∧ F' 7 = .bool (decide (th = true)) ∧ F' 8 = .int .i64 wv ∧ F' 13 = .slice none 0 0 ∧ F' 14 = .int .i64 1 ∧ F' 29 = .bool (decide (¬ (th = true))) ∧ F' 31 = .int .i64 xk ∧ F' 32 = .bool false ∧ F' 51 = .bool false ∧ F' 108 = .bool false ∧ F' 130 = .bool false) ⟨e0, e1, e2, e5, e6, e7, e8, rfl, rfl, e29, e31, e32, e51, e108, e130⟩ ?_
      clear e0 e1 e2 e5 e6 e7 e8 e29 e31 e32 e51 e108 e130
      clear F
      rintro F ⟨e0, e1, e2, e5, e6, e7, e8, e13, e14, e29, e31, e32, e51, e108, e130⟩
      refine wp_regionF ?_
      refine lf_val (v := .pointer (some ⟨h, 0, none⟩)) (wantAll rfl) (rv_move rfl (fr_eval rfl e1)) ?_
      refine lf_val (v := .pointer (some ⟨g1, 3, none⟩)) (wantAll rfl) (rv_fieldAddr (n := 238) rfl (fr_eval rfl e5) Try.underlying83 rfl rfl (by kernel_rfl)) ?_
      refine lf_val (v := .pointer (some ⟨g1, 5, none⟩)) (wantAll rfl) (rv_fieldAddr (n := 0) rfl (fr_eval rfl rfl) Try.underlying81 rfl rfl (by kernel_rfl)) ?_
      refine lf_val (v := .int .i64 u.b) (wantAll rfl) (rv_load1 rfl (hH.blk (i := 3) rfl) (zLs_g7 u.h0.2 u.h1.2 u.o.2 u.x.2 u.jh.2 u.r.h.2 u.r.b.2) (fr_eval rfl rfl) Try.underlying3 rfl Try.sz3) ?_
      refine lf_val (v := .slice none 0 0) (wantAll rfl) (rv_move rfl (fr_eval rfl e13)) ?_
      refine lf_val (v := .agg #[.int .i64 u.b, .slice none 0 0]) (wantAll rfl) (rv_buildS (ps := [(0, (.tmp 164)), (1, (.tmp 165))]) (places := #[(0, 1), (1, 1)]) (z := .agg #[.int .i64 0, .slice none 0 0]) (zc := [.int .i64 0, .slice none 0 0]) (cs := [.int .i64 u.b, .slice none 0 0]) rfl (evpc (fr_eval rfl rfl) (evpc (fr_eval rfl rfl) evpn)) (by kernel_rfl) rfl Try.underlying87 (fun _ => by kernel_rfl) (fill1 rfl rfl (by first | decide | simp) (show _ = [.int .i64 u.b, .slice none 0 0] from rfl) (fill1 rfl rfl (by first | decide | simp) (show _ = [.int .i64 u.b, .slice none 0 0] from rfl) fill0))) ?_
      refine lf_val (v := .int .i64 1) (wantAll rfl) (rv_move rfl (fr_eval rfl e14)) ?_
      refine lf_val (v := .bool false) (wantAll rfl) (rv_eql rfl (fr_eval rfl rfl) rfl (by decide)) ?_
      replace hH : Heap _ _ _ [_, _, _, _, _, _, _] := hH.perm (.trans (.swap _ _ _) (.cons _ (.trans (.swap _ _ _) (.cons _ (.refl _)))))
      replace hH : Heap _ _ _ [_, _, _, _, _, _, _] := hH.perm (.cons _ (.trans (.swap _ _ _) (.cons _ (.trans (.swap _ _ _) (.cons _ (.refl _))))))
      replace hH : Heap _ _ _ [_, _, _, _, _, _, _] := hH.perm (.cons _ (.cons _ (.trans (.swap _ _ _) (.cons _ (.trans (.swap _ _ _) (.cons _ (.refl _)))))))
      replace hH : Heap _ _ _ [_, _, _, _, _, _, _] := hH.perm (.cons _ (.cons _ (.cons _ (.trans (.swap _ _ _) (.cons _ (.trans (.swap _ _ _) (.cons _ (.refl _))))))))
      replace hH : Heap _ _ _ [_, _, _, _, _, _, _] := hH.perm (.cons _ (.cons _ (.cons _ (.cons _ (.trans (.swap _ _ _) (.cons _ (.trans (.swap _ _ _) (.cons _ (.refl _)))))))))
      refine lf_call (wantAll rfl) (rv_call (args := [.pointer (some ⟨h, 0, none⟩), .agg (cLt (⟨u.b, ⟨.slice none 0 0, rfl⟩, []⟩ : Lt)).toArray, .bool (decide False)]) rfl (evc (fr_eval rfl rfl) (evc (show _ = Value.agg (cLt (⟨u.b, ⟨.slice none 0 0, rfl⟩, []⟩ : Lt)).toArray from (fr_eval rfl rfl)) (evc ((fr_eval rfl rfl).trans (congrArg Value.bool (decide_eq_false id).symm)) evn))) Try.call57) (plPut_calls ps (by omega) plost (by omega) (⟨u.b, ⟨.slice none 0 0, rfl⟩, []⟩ : Lt) False _ (Heap.part (L := [_, _, _, _, _]) (M := [_, _]) hH)) ?_
      rintro _ w16 ⟨y9, rfl, hQ⟩
      have hP := hQ.2 (fun q => q.1)
      clear hQ
      refine ⟨_, rfl, ?_⟩
      have hx := hH.callChg (L := [_, _, _, _, _]) (M := [_, _]) (fun _ h => h) hP
      replace hH : Heap _ _ _ [_, _, _, _, _, _, _] := hH.call (L := [_, _, _, _, _]) (M := [_, _]) (fun _ h => h) hP (Stays.blk (hP.blk (i := 0) rfl) (Stays.own (hP.own (i := 1) rfl) Stays.nil))
      clear hP
      clear hx
      refine lf_nil ?_
      refine then_n ?_
      refine wp_seq ?_
      refine wp_gen (fun F' => F' 0 = .pointer (some ⟨g, 0, none⟩) ∧ F' 1 = .pointer (some ⟨h, 0, none⟩) ∧ F' 2 = .agg (([.int .i64 xk, .int .i64 xi, .int .i64 xt, .int .i64 u.k, .int .i64 u.a, .int .i64 u.b, .int .i64 u.c0, .int .i64 u.c1, .int .i64 u.c2] : List Value) ++ (cBs u.h0.1 ++ (cBs u.h1.1 ++ (([.int .i64 u.g] : List Value) ++ (cBs u.o.1 ++ (([.int .i64 u.n] : List Value) ++ (cBs u.x.1 ++ (([.int .i64 u.jc, .int .i64 u.js] : List Value) ++ (cBs u.jh.1 ++ (([vb.1, .int .i64 u.r.t, .int .i64 u.r.c, .int .i64 u.r.s] : List Value) ++ (cBs u.r.h.1 ++ (cBs u.r.b.1 ++ ([vg.1, dv.1] : List Value))))))))))))).toArray ∧ F' 5 = .pointer (some ⟨g1, 0, none⟩) ∧ F' 6 = .bool false ∧ F' 7 = .bool (decide (th = true)) ∧ F' 8 = .int .i64 wv ∧ F' 13 = .slice none 0 0 ∧ F' 14 = .int .i64 1 ∧ F' 29 = .bool (decide (¬ (th = true))) ∧ F' 31 = .int .i64 xk ∧ F' 32 = .bool false ∧ F' 51 = .bool false ∧ F' 108 = .bool false ∧ F' 130 = .bool false) ⟨e0, e1, e2, e5, e6, e7, e8, e13, e14, e29, e31, e32, e51, e108, e130⟩ ?_
      clear e0 e1 e2 e5 e6 e7 e8 e13 e14 e29 e31 e32 e51 e108 e130
      clear F
      rintro F ⟨e0, e1, e2, e5, e6, e7, e8, e13, e14, e29, e31, e32, e51, e108, e130⟩
      refine wp_regionF ?_
      refine lf_val (v := .bool true) (wantAll rfl) (rv_assign rfl rfl) ?_
      refine lf_nil ?_
      refine then_n ?_
      refine wp_gen (fun F' => F' 0 = .pointer (some ⟨g, 0, none⟩) ∧ F' 1 = .pointer (some ⟨h, 0, none⟩) ∧ F' 2 = .agg (([.int .i64 xk, .int .i64 xi, .int .i64 xt, .int .i64 u.k, .int .i64 u.a, .int .i64 u.b, .int .i64 u.c0, .int .i64 u.c1, .int .i64 u.c2] : List Value) ++ (cBs u.h0.1 ++ (cBs u.h1.1 ++ (([.int .i64 u.g] : List Value) ++ (cBs u.o.1 ++ (([.int .i64 u.n] : List Value) ++ (cBs u.x.1 ++ (([.int .i64 u.jc, .int .i64 u.js] : List Value) ++ (cBs u.jh.1 ++ (([vb.1, .int .i64 u.r.t, .int .i64 u.r.c, .int .i64 u.r.s] : List Value) ++ (cBs u.r.h.1 ++ (cBs u.r.b.1 ++ ([vg.1, dv.1] : List Value))))))))))))).toArray ∧ F' 5 = .pointer (some ⟨g1, 0, none⟩) ∧ F' 6 = .bool true ∧ F' 7 = .bool (decide (th = true)) ∧ F' 8 = .int .i64 wv ∧ F' 13 = .slice none 0 0 ∧ F' 14 = .int .i64 1 ∧ F' 29 = .bool (decide (¬ (th = true))) ∧ F' 31 = .int .i64 xk ∧ F' 32 = .bool false ∧ F' 51 = .bool false ∧ F' 108 = .bool false ∧ F' 130 = .bool false) ⟨e0, e1, e2, e5, rfl, e7, e8, e13, e14, e29, e31, e32, e51, e108, e130⟩ ?_
      clear e0 e1 e2 e5 e6 e7 e8 e13 e14 e29 e31 e32 e51 e108 e130
      clear F
      rintro F ⟨e0, e1, e2, e5, e6, e7, e8, e13, e14, e29, e31, e32, e51, e108, e130⟩
      refine wp_ret ?_
      have hF := hH
      replace hF : Heap _ _ _ [_, _, _, _, _, _] := hF.drop (.cons_cons _ (.cons _ (.cons_cons _ (.cons_cons _ (.cons_cons _ (.cons_cons _ (.cons_cons _ .slnil)))))))
      replace hF : Heap _ _ _ [_, _, _, _, _, _] := hF.perm (.trans (.swap _ _ _) (.cons _ (.refl _)))
      replace hF : Heap _ _ _ [_, _, _, _, _, _] := hF.perm (.cons _ (.trans (.swap _ _ _) (.cons _ (.refl _))))
      replace hF : Heap _ _ _ [_, _, _, _, _, _] := hF.perm (.cons _ (.cons _ (.trans (.swap _ _ _) (.cons _ (.refl _)))))
      replace hF : Heap _ _ _ [_, _, _, _, _, _] := hF.perm (.cons _ (.cons _ (.cons _ (.trans (.swap _ _ _) (.cons _ (.refl _))))))
      replace hF : Heap _ _ _ [_, _, _, _, _, _] := hF.perm (.cons _ (.cons _ (.cons _ (.cons _ (.trans (.swap _ _ _) (.cons _ (.refl _)))))))
      exact bodyPost_ret (v := (.bool true)) (res1 rfl (ro_tmp rfl e6)) rfl (⟨_, _, _, _, _, _, _, _, rfl, (kst_out (k := (u.b, textM u bl sg)) (p := inM u) hk2 heq (fun q => hf2 q.1)), (by omega), (by first | omega | (simp only [List.length_cons, List.length_nil] at *; omega)), (bd_of hk2 (bd_put hbd (by have := textM_len u bl sg; show (textM u bl sg).length ≤ _; omega))), hF⟩)

set_option maxRecDepth 100000 in
set_option maxHeartbeats 4000000 in
theorem step_b {w : World} {K Z S Q : Nat → Prop} {g h : Nat} {v pv : Value} (hZ : ∀ k, newK w K k → ¬ Z k) (ls : List Lt) (hl : ls.length ≤ 64) (lost : Nat) (hlo : lost ≤ 100000) (ps : List Lt) (plost : Nat) (heq : kst ls lost = kst ps plost) (hbd : Bd (kys ls)) (xk xi xt : Int) (u : Ms) (vb vg dv : V1) (bl sg d : List UInt8) (hxk : xk = 4 ∨ xk = 5 ∨ xk = 6) (him : inMs u) (hb1 : bl.length ≤ 1000) (hs1 : sg.length ≤ 6000) (hd1 : d.length ≤ 1000) (hsb : Stab (newK w K) w 1 vb.1 bl.length (cBs bl)) (hsg : Stab (newK w K) w 1 vg.1 sg.length (cBs sg)) (hsd : Stab (newK w K) w 1 dv.1 d.length (cBs d)) (hzd : ∀ k, dv.1.ownBlock = some k → 0 < d.length → Z k) (hh0 : Heap (newK w K) w w [oBlk g ([v, .int .i64 ((lost : Nat) : Int)]) 69, oRow cLt 87 2 v ls, oBag Z S ls, oBlk h ([pv, .int .i64 ((plost : Nat) : Int)]) 72, oRow cLt 87 2 pv ps, oBag Z Q ps]) :
    Calls Try.prog 39 #[.pointer (some ⟨g, 0, none⟩), .pointer (some ⟨h, 0, none⟩), .agg (([.int .i64 xk, .int .i64 xi, .int .i64 xt, .int .i64 u.k, .int .i64 u.a, .int .i64 u.b, .int .i64 u.c0, .int .i64 u.c1, .int .i64 u.c2] : List Value) ++ (cBs u.h0.1 ++ (cBs u.h1.1 ++ (([.int .i64 u.g] : List Value) ++ (cBs u.o.1 ++ (([.int .i64 u.n] : List Value) ++ (cBs u.x.1 ++ (([.int .i64 u.jc, .int .i64 u.js] : List Value) ++ (cBs u.jh.1 ++ (([vb.1, .int .i64 u.r.t, .int .i64 u.r.c, .int .i64 u.r.s] : List Value) ++ (cBs u.r.h.1 ++ (cBs u.r.b.1 ++ ([vg.1, dv.1] : List Value))))))))))))).toArray] w fun e'' w' => ∃ v' ls' lost' S' u' ps' plost' Q', e'' = .returned (.bool true) ∧ kst ls' lost' = kst ps' plost' ∧ ls'.length ≤ 64 ∧ lost' ≤ lost + 1 ∧ Bd (kys ls') ∧ Heap (newK w K) w w' [oBlk g ([v', .int .i64 ((lost' : Nat) : Int)]) 69, oRow cLt 87 2 v' ls', oBag Z S' ls', oBlk h ([u', .int .i64 ((plost' : Nat) : Int)]) 72, oRow cLt 87 2 u' ps', oBag Z Q' ps'] := by
  refine calls_fr (args := [.pointer (some ⟨g, 0, none⟩), .pointer (some ⟨h, 0, none⟩), .agg (([.int .i64 xk, .int .i64 xi, .int .i64 xt, .int .i64 u.k, .int .i64 u.a, .int .i64 u.b, .int .i64 u.c0, .int .i64 u.c1, .int .i64 u.c2] : List Value) ++ (cBs u.h0.1 ++ (cBs u.h1.1 ++ (([.int .i64 u.g] : List Value) ++ (cBs u.o.1 ++ (([.int .i64 u.n] : List Value) ++ (cBs u.x.1 ++ (([.int .i64 u.jc, .int .i64 u.js] : List Value) ++ (cBs u.jh.1 ++ (([vb.1, .int .i64 u.r.t, .int .i64 u.r.c, .int .i64 u.r.s] : List Value) ++ (cBs u.r.h.1 ++ (cBs u.r.b.1 ++ ([vg.1, dv.1] : List Value))))))))))))).toArray]) (n := 170) Try.func39 rfl rfl (show 3 ≤ 170 by decide) ?_
  have hlen : ls.length = ps.length := kys_len (congrArg Prod.fst heq)
  have hlq : lost = plost := congrArg Prod.snd heq
  have hH : Heap (newK w K) w w [oBlk g ([v, .int .i64 ((lost : Nat) : Int)]) 69, oRow cLt 87 2 v ls, oBag Z S ls, oBlk h ([pv, .int .i64 ((plost : Nat) : Int)]) 72, oRow cLt 87 2 pv ps, oBag Z Q ps] := hh0
  refine wp_seq ?_
  refine wp_gen (fun F' => F' 0 = .pointer (some ⟨g, 0, none⟩) ∧ F' 1 = .pointer (some ⟨h, 0, none⟩) ∧ F' 2 = .agg (([.int .i64 xk, .int .i64 xi, .int .i64 xt, .int .i64 u.k, .int .i64 u.a, .int .i64 u.b, .int .i64 u.c0, .int .i64 u.c1, .int .i64 u.c2] : List Value) ++ (cBs u.h0.1 ++ (cBs u.h1.1 ++ (([.int .i64 u.g] : List Value) ++ (cBs u.o.1 ++ (([.int .i64 u.n] : List Value) ++ (cBs u.x.1 ++ (([.int .i64 u.jc, .int .i64 u.js] : List Value) ++ (cBs u.jh.1 ++ (([vb.1, .int .i64 u.r.t, .int .i64 u.r.c, .int .i64 u.r.s] : List Value) ++ (cBs u.r.h.1 ++ (cBs u.r.b.1 ++ ([vg.1, dv.1] : List Value))))))))))))).toArray) ⟨rfl, rfl, rfl⟩ ?_
  rintro F ⟨e0, e1, e2⟩
  by_cases hf1 : 0 ≤ xi ∧ xi < (ps.length : Int)
  · obtain ⟨i, rfl⟩ : ∃ i : Nat, xi = (i : Int) := ⟨xi.toNat, by omega⟩
    obtain ⟨hat, hab⟩ := kys_at (congrArg Prod.fst heq : kys ls = kys ps) i
    refine wp_regionF ?_
    refine lf_ex (wantAll rfl) (hx_box hH 83 (cs := ([.int .i64 xk, .int .i64 ((i : Nat) : Int), .int .i64 xt, .int .i64 u.k, .int .i64 u.a, .int .i64 u.b, .int .i64 u.c0, .int .i64 u.c1, .int .i64 u.c2] : List Value) ++ (cBs u.h0.1 ++ (cBs u.h1.1 ++ (([.int .i64 u.g] : List Value) ++ (cBs u.o.1 ++ (([.int .i64 u.n] : List Value) ++ (cBs u.x.1 ++ (([.int .i64 u.jc, .int .i64 u.js] : List Value) ++ (cBs u.jh.1 ++ (([vb.1, .int .i64 u.r.t, .int .i64 u.r.c, .int .i64 u.r.s] : List Value) ++ (cBs u.r.h.1 ++ (cBs u.r.b.1 ++ ([vg.1, dv.1] : List Value))))))))))))) rfl (fr_eval rfl e2) (by rfl)) ?_
    clear hH
    rintro _ w1 ⟨g1, rfl, hH, hx⟩
    replace hH : Heap _ _ _ [_, _, _, _, _, _, _] := hH
    clear hx
    refine lf_val (v := .bool false) (wantAll rfl) (rv_assign rfl rfl) ?_
    refine lf_nil ?_
    refine then_n ?_
    refine wp_seq ?_
    refine wp_gen (fun F' => F' 0 = .pointer (some ⟨g, 0, none⟩) ∧ F' 1 = .pointer (some ⟨h, 0, none⟩) ∧ F' 2 = .agg (([.int .i64 xk, .int .i64 ((i : Nat) : Int), .int .i64 xt, .int .i64 u.k, .int .i64 u.a, .int .i64 u.b, .int .i64 u.c0, .int .i64 u.c1, .int .i64 u.c2] : List Value) ++ (cBs u.h0.1 ++ (cBs u.h1.1 ++ (([.int .i64 u.g] : List Value) ++ (cBs u.o.1 ++ (([.int .i64 u.n] : List Value) ++ (cBs u.x.1 ++ (([.int .i64 u.jc, .int .i64 u.js] : List Value) ++ (cBs u.jh.1 ++ (([vb.1, .int .i64 u.r.t, .int .i64 u.r.c, .int .i64 u.r.s] : List Value) ++ (cBs u.r.h.1 ++ (cBs u.r.b.1 ++ ([vg.1, dv.1] : List Value))))))))))))).toArray ∧ F' 5 = .pointer (some ⟨g1, 0, none⟩) ∧ F' 6 = .bool false) ⟨e0, e1, e2, rfl, rfl⟩ ?_
    clear e0 e1 e2
    clear F
    rintro F ⟨e0, e1, e2, e5, e6⟩
    refine wp_cut (fun F wr => F 0 = .pointer (some ⟨g, 0, none⟩) ∧ F 1 = .pointer (some ⟨h, 0, none⟩) ∧ F 2 = .agg (([.int .i64 xk, .int .i64 ((i : Nat) : Int), .int .i64 xt, .int .i64 u.k, .int .i64 u.a, .int .i64 u.b, .int .i64 u.c0, .int .i64 u.c1, .int .i64 u.c2] : List Value) ++ (cBs u.h0.1 ++ (cBs u.h1.1 ++ (([.int .i64 u.g] : List Value) ++ (cBs u.o.1 ++ (([.int .i64 u.n] : List Value) ++ (cBs u.x.1 ++ (([.int .i64 u.jc, .int .i64 u.js] : List Value) ++ (cBs u.jh.1 ++ (([vb.1, .int .i64 u.r.t, .int .i64 u.r.c, .int .i64 u.r.s] : List Value) ++ (cBs u.r.h.1 ++ (cBs u.r.b.1 ++ ([vg.1, dv.1] : List Value))))))))))))).toArray ∧ F 5 = .pointer (some ⟨g1, 0, none⟩) ∧ F 6 = .bool false ∧ F 7 = .bool true ∧ Heap (newK w K) w wr [oBlk g ([v, .int .i64 ((lost : Nat) : Int)]) 69, oRow cLt 87 2 v ls, oBag Z S ls, oBlk h ([pv, .int .i64 ((plost : Nat) : Int)]) 72, oRow cLt 87 2 pv ps, oBag Z Q ps, oBlk g1 (([.int .i64 xk, .int .i64 ((i : Nat) : Int), .int .i64 xt, .int .i64 u.k, .int .i64 u.a, .int .i64 u.b, .int .i64 u.c0, .int .i64 u.c1, .int .i64 u.c2] : List Value) ++ (cBs u.h0.1 ++ (cBs u.h1.1 ++ (([.int .i64 u.g] : List Value) ++ (cBs u.o.1 ++ (([.int .i64 u.n] : List Value) ++ (cBs u.x.1 ++ (([.int .i64 u.jc, .int .i64 u.js] : List Value) ++ (cBs u.jh.1 ++ (([vb.1, .int .i64 u.r.t, .int .i64 u.r.c, .int .i64 u.r.s] : List Value) ++ (cBs u.r.h.1 ++ (cBs u.r.b.1 ++ ([vg.1, dv.1] : List Value))))))))))))) 83]) ?_ ?_
    · refine wp_regionX (fun _ => False) 11 (by kernel_rfl) (by kernel_rfl) ?_
      refine xl_take (i := 0) (v := .pointer (some ⟨g1, 1, none⟩)) rfl (by kernel_rfl) (by kernel_rfl) (by kernel_rfl) (by kernel_rfl) (yx_val (wantAll rfl) (fun w' hx' => rv_fieldAddr (n := 0) rfl (fr_eval rfl e5) Try.underlying83 rfl rfl (by kernel_rfl))) ?_
      refine xl_take (i := 1) (v := .int .i64 ((i : Nat) : Int)) rfl (by kernel_rfl) (by kernel_rfl) (by kernel_rfl) (by kernel_rfl) (yx_val (wantAll rfl) (fun w' hx' => rv_load1 rfl ((hH.ext hx').blk (i := 6) rfl) (zLs_g0 u.h0.2 u.h1.2 u.o.2 u.x.2 u.jh.2 u.r.h.2 u.r.b.2) (fr_eval rfl rfl) Try.underlying3 rfl Try.sz3)) ?_
      refine xl_take (i := 2) (v := .bool true) rfl (by kernel_rfl) (by kernel_rfl) (by kernel_rfl) (by kernel_rfl) (yx_val (wantAll rfl) (fun w' hx' => rv_geq rfl (fr_eval rfl rfl) rfl (decide_eq_true (by omega)))) ?_
      refine xl_take (i := 3) (v := .bool true) rfl (by kernel_rfl) (by kernel_rfl) (by kernel_rfl) (by kernel_rfl) (yx_val (wantAll rfl) (fun w' hx' => rv_move rfl (fr_eval rfl rfl))) ?_
      refine xl_take (i := 4) (v := .pointer (some ⟨g1, 1, none⟩)) rfl (by kernel_rfl) (by kernel_rfl) (by kernel_rfl) (by kernel_rfl) (yx_val (wantF (d := 18) rfl (by kernel_rfl) rfl rfl) (fun w' hx' => rv_fieldAddr (n := 0) rfl (fr_eval rfl e5) Try.underlying83 rfl rfl (by kernel_rfl))) ?_
      refine xl_take (i := 5) (v := .int .i64 ((i : Nat) : Int)) rfl (by kernel_rfl) (by kernel_rfl) (by kernel_rfl) (by kernel_rfl) (yx_val (wantF (d := 18) rfl (by kernel_rfl) rfl rfl) (fun w' hx' => rv_load1 rfl ((hH.ext hx').blk (i := 6) rfl) (zLs_g0 u.h0.2 u.h1.2 u.o.2 u.x.2 u.jh.2 u.r.h.2 u.r.b.2) (fr_eval rfl rfl) Try.underlying3 rfl Try.sz3)) ?_
      refine xl_take (i := 6) (v := .pointer (some ⟨h, 0, none⟩)) rfl (by kernel_rfl) (by kernel_rfl) (by kernel_rfl) (by kernel_rfl) (yx_val (wantF (d := 18) rfl (by kernel_rfl) rfl rfl) (fun w' hx' => rv_move rfl (fr_eval rfl e1))) ?_
      refine xl_take (i := 7) (v := .pointer (some ⟨h, 0, none⟩)) rfl (by kernel_rfl) (by kernel_rfl) (by kernel_rfl) (by kernel_rfl) (yx_val (wantF (d := 18) rfl (by kernel_rfl) rfl rfl) (fun w' hx' => rv_nilCheck rfl (fr_eval rfl rfl))) ?_
      refine xl_take (i := 8) (v := .pointer (some ⟨h, 0, none⟩)) rfl (by kernel_rfl) (by kernel_rfl) (by kernel_rfl) (by kernel_rfl) (yx_val (wantF (d := 18) rfl (by kernel_rfl) rfl rfl) (fun w' hx' => rv_fieldAddr (n := 0) rfl (fr_eval rfl rfl) Try.underlying72 rfl rfl (by kernel_rfl))) ?_
      refine xl_take (i := 9) (v := pv) rfl (by kernel_rfl) (by kernel_rfl) (by kernel_rfl) (by kernel_rfl) (yx_val (wantF (d := 18) rfl (by kernel_rfl) rfl rfl) (fun w' hx' => rv_load1 rfl ((hH.ext hx').blk (i := 3) rfl) zLs_g1 (fr_eval rfl rfl) Try.underlying67 rfl Try.sz67)) ?_
      refine xl_take (i := 10) (v := .int .i64 ((ps.length : Nat) : Int)) rfl (by kernel_rfl) (by kernel_rfl) (by kernel_rfl) (by kernel_rfl) (yx_val (wantF (d := 18) rfl (by kernel_rfl) rfl rfl) (fun w' hx' => rv_len rfl (fr_eval rfl rfl) (Own.rd ((hH.ext hx').own (i := 4) rfl) (row_one cLt_one)) Try.underlying67)) ?_
      refine xl_tail (s := 11) rfl ?_
      intro w2 hx
      replace hH := hH.ext hx
      clear hx
      refine lf_val (v := .bool true) (wantF (d := 18) rfl (by kernel_rfl) rfl rfl) (rv_lss rfl (fr_eval rfl rfl) (fr_eval rfl rfl) (decide_eq_true (by omega))) ?_
      refine lf_val (v := .bool true) (wantAll rfl) (rv_pickT rfl (fr_eval rfl rfl) (fr_eval rfl rfl)) ?_
      refine lf_val (v := .bool true) (wantAll rfl) (rv_assign rfl (fr_eval rfl rfl)) ?_
      refine lf_nil ?_
      exact ⟨_, rfl, e0, e1, e2, e5, e6, rfl, hH⟩
    clear e0 e1 e2 e5 e6 hH
    clear F
    rintro F w3 ⟨e0, e1, e2, e5, e6, e7, hH⟩
    refine then_n ?_
    refine wp_seq ?_
    refine wp_regionF ?_
    refine lf_val (v := .int .i64 0) (wantAll rfl) (rv_assign rfl rfl) ?_
    refine lf_nil ?_
    refine then_n ?_
    refine wp_seq ?_
    refine wp_seq ?_
    refine wp_gen (fun F' => F' 0 = .pointer (some ⟨g, 0, none⟩) ∧ F' 1 = .pointer (some ⟨h, 0, none⟩) ∧ F' 2 = .agg (([.int .i64 xk, .int .i64 ((i : Nat) : Int), .int .i64 xt, .int .i64 u.k, .int .i64 u.a, .int .i64 u.b, .int .i64 u.c0, .int .i64 u.c1, .int .i64 u.c2] : List Value) ++ (cBs u.h0.1 ++ (cBs u.h1.1 ++ (([.int .i64 u.g] : List Value) ++ (cBs u.o.1 ++ (([.int .i64 u.n] : List Value) ++ (cBs u.x.1 ++ (([.int .i64 u.jc, .int .i64 u.js] : List Value) ++ (cBs u.jh.1 ++ (([vb.1, .int .i64 u.r.t, .int .i64 u.r.c, .int .i64 u.r.s] : List Value) ++ (cBs u.r.h.1 ++ (cBs u.r.b.1 ++ ([vg.1, dv.1] : List Value))))))))))))).toArray ∧ F' 5 = .pointer (some ⟨g1, 0, none⟩) ∧ F' 6 = .bool false ∧ F' 7 = .bool true ∧ F' 8 = .int .i64 0) ⟨e0, e1, e2, e5, e6, e7, rfl⟩ ?_
    clear e0 e1 e2 e5 e6 e7
    clear F
    rintro F ⟨e0, e1, e2, e5, e6, e7, e8⟩
    refine wp_regionF ?_
    refine lf_val (v := .bool true) (wantAll rfl) (rv_move rfl (fr_eval rfl e7)) ?_
    refine lf_val (v := .bool false) (wantAll rfl) (rv_not (b := true) rfl (fr_eval rfl rfl)) ?_
    refine lf_nil ?_
    refine then_n ?_
    refine wp_gen (fun F' => F' 0 = .pointer (some ⟨g, 0, none⟩) ∧ F' 1 = .pointer (some ⟨h, 0, none⟩) ∧ F' 2 = .agg (([.int .i64 xk, .int .i64 ((i : Nat) : Int), .int .i64 xt, .int .i64 u.k, .int .i64 u.a, .int .i64 u.b, .int .i64 u.c0, .int .i64 u.c1, .int .i64 u.c2] : List Value) ++ (cBs u.h0.1 ++ (cBs u.h1.1 ++ (([.int .i64 u.g] : List Value) ++ (cBs u.o.1 ++ (([.int .i64 u.n] : List Value) ++ (cBs u.x.1 ++ (([.int .i64 u.jc, .int .i64 u.js] : List Value) ++ (cBs u.jh.1 ++ (([vb.1, .int .i64 u.r.t, .int .i64 u.r.c, .int .i64 u.r.s] : List Value) ++ (cBs u.r.h.1 ++ (cBs u.r.b.1 ++ ([vg.1, dv.1] : List Value))))))))))))).toArray ∧ F' 5 = .pointer (some ⟨g1, 0, none⟩) ∧ F' 6 = .bool false ∧ F' 7 = .bool true ∧ F' 8 = .int .i64 0 ∧ F' 29 = .bool false) ⟨e0, e1, e2, e5, e6, e7, e8, rfl⟩ ?_
    clear e0 e1 e2 e5 e6 e7 e8
    clear F
    rintro F ⟨e0, e1, e2, e5, e6, e7, e8, e29⟩
    refine wp_cond_false (fr_eval rfl e29) ?_
    refine wp_skip ?_
    refine then_n ?_
    refine wp_seq ?_
    refine wp_seq ?_
    refine wp_regionF ?_
    refine lf_val (v := .pointer (some ⟨g1, 0, none⟩)) (wantAll rfl) (rv_fieldAddr (n := 0) rfl (fr_eval rfl e5) Try.underlying83 rfl rfl (by kernel_rfl)) ?_
    refine lf_val (v := .int .i64 xk) (wantAll rfl) (rv_load1 rfl (hH.blk (i := 6) rfl) (zLs_g2 u.h0.2 u.h1.2 u.o.2 u.x.2 u.jh.2 u.r.h.2 u.r.b.2) (fr_eval rfl rfl) Try.underlying3 rfl Try.sz3) ?_
    refine lf_nil ?_
    refine then_n ?_
    refine wp_block ?_
    refine wp_seq ?_
    refine wp_gen (fun F' => F' 0 = .pointer (some ⟨g, 0, none⟩) ∧ F' 1 = .pointer (some ⟨h, 0, none⟩) ∧ F' 2 = .agg (([.int .i64 xk, .int .i64 ((i : Nat) : Int), .int .i64 xt, .int .i64 u.k, .int .i64 u.a, .int .i64 u.b, .int .i64 u.c0, .int .i64 u.c1, .int .i64 u.c2] : List Value) ++ (cBs u.h0.1 ++ (cBs u.h1.1 ++ (([.int .i64 u.g] : List Value) ++ (cBs u.o.1 ++ (([.int .i64 u.n] : List Value) ++ (cBs u.x.1 ++ (([.int .i64 u.jc, .int .i64 u.js] : List Value) ++ (cBs u.jh.1 ++ (([vb.1, .int .i64 u.r.t, .int .i64 u.r.c, .int .i64 u.r.s] : List Value) ++ (cBs u.r.h.1 ++ (cBs u.r.b.1 ++ ([vg.1, dv.1] : List Value))))))))))))).toArray ∧ F' 5 = .pointer (some ⟨g1, 0, none⟩) ∧ F' 6 = .bool false ∧ F' 7 = .bool true ∧ F' 8 = .int .i64 0 ∧ F' 29 = .bool false ∧ F' 31 = .int .i64 xk) ⟨e0, e1, e2, e5, e6, e7, e8, e29, rfl⟩ ?_
    clear e0 e1 e2 e5 e6 e7 e8 e29
    clear F
    rintro F ⟨e0, e1, e2, e5, e6, e7, e8, e29, e31⟩
    refine wp_regionF ?_
    refine lf_val (v := .bool false) (wantAll rfl) (rv_eql rfl (fr_eval rfl e31) rfl (decide_eq_false (by omega))) ?_
    refine lf_val (v := .bool false) (wantAll rfl) (rv_assign rfl (fr_eval rfl rfl)) ?_
    refine lf_nil ?_
    refine then_n ?_
    refine wp_gen (fun F' => F' 0 = .pointer (some ⟨g, 0, none⟩) ∧ F' 1 = .pointer (some ⟨h, 0, none⟩) ∧ F' 2 = .agg (([.int .i64 xk, .int .i64 ((i : Nat) : Int), .int .i64 xt, .int .i64 u.k, .int .i64 u.a, .int .i64 u.b, .int .i64 u.c0, .int .i64 u.c1, .int .i64 u.c2] : List Value) ++ (cBs u.h0.1 ++ (cBs u.h1.1 ++ (([.int .i64 u.g] : List Value) ++ (cBs u.o.1 ++ (([.int .i64 u.n] : List Value) ++ (cBs u.x.1 ++ (([.int .i64 u.jc, .int .i64 u.js] : List Value) ++ (cBs u.jh.1 ++ (([vb.1, .int .i64 u.r.t, .int .i64 u.r.c, .int .i64 u.r.s] : List Value) ++ (cBs u.r.h.1 ++ (cBs u.r.b.1 ++ ([vg.1, dv.1] : List Value))))))))))))).toArray ∧ F' 5 = .pointer (some ⟨g1, 0, none⟩) ∧ F' 6 = .bool false ∧ F' 7 = .bool true ∧ F' 8 = .int .i64 0 ∧ F' 29 = .bool false ∧ F' 31 = .int .i64 xk ∧ F' 32 = .bool false) ⟨e0, e1, e2, e5, e6, e7, e8, e29, e31, rfl⟩ ?_
    clear e0 e1 e2 e5 e6 e7 e8 e29 e31
    clear F
    rintro F ⟨e0, e1, e2, e5, e6, e7, e8, e29, e31, e32⟩
    refine wp_cond_false (fr_eval rfl e32) ?_
    refine wp_seq ?_
    refine wp_regionF ?_
    refine lf_val (v := .bool (decide (xk = 4))) (wantAll rfl) (rv_eqlP (p := xk = 4) rfl (fr_eval rfl e31) rfl Iff.rfl) ?_
    refine lf_val (v := .bool (decide (xk = 4))) (wantAll rfl) (rv_assign rfl (fr_eval rfl rfl)) ?_
    refine lf_nil ?_
    refine then_n ?_
    refine wp_gen (fun F' => F' 0 = .pointer (some ⟨g, 0, none⟩) ∧ F' 1 = .pointer (some ⟨h, 0, none⟩) ∧ F' 2 = .agg (([.int .i64 xk, .int .i64 ((i : Nat) : Int), .int .i64 xt, .int .i64 u.k, .int .i64 u.a, .int .i64 u.b, .int .i64 u.c0, .int .i64 u.c1, .int .i64 u.c2] : List Value) ++ (cBs u.h0.1 ++ (cBs u.h1.1 ++ (([.int .i64 u.g] : List Value) ++ (cBs u.o.1 ++ (([.int .i64 u.n] : List Value) ++ (cBs u.x.1 ++ (([.int .i64 u.jc, .int .i64 u.js] : List Value) ++ (cBs u.jh.1 ++ (([vb.1, .int .i64 u.r.t, .int .i64 u.r.c, .int .i64 u.r.s] : List Value) ++ (cBs u.r.h.1 ++ (cBs u.r.b.1 ++ ([vg.1, dv.1] : List Value))))))))))))).toArray ∧ F' 5 = .pointer (some ⟨g1, 0, none⟩) ∧ F' 6 = .bool false ∧ F' 7 = .bool true ∧ F' 8 = .int .i64 0 ∧ F' 29 = .bool false ∧ F' 31 = .int .i64 xk ∧ F' 32 = .bool false ∧ F' 51 = .bool (decide (xk = 4))) ⟨e0, e1, e2, e5, e6, e7, e8, e29, e31, e32, rfl⟩ ?_
    clear e0 e1 e2 e5 e6 e7 e8 e29 e31 e32
    clear F
    rintro F ⟨e0, e1, e2, e5, e6, e7, e8, e29, e31, e32, e51⟩
    by_cases hc1 : xk = 4
    · refine wp_cond_true (fr_eval rfl (e51.trans (congrArg Value.bool (decide_eq_true hc1)))) ?_
      refine wp_seq ?_
      refine wp_regionF ?_
      refine lf_val (v := .pointer (some ⟨g, 0, none⟩)) (wantAll rfl) (rv_move rfl (fr_eval rfl e0)) ?_
      refine lf_val (v := .pointer (some ⟨g1, 1, none⟩)) (wantAll rfl) (rv_fieldAddr (n := 0) rfl (fr_eval rfl e5) Try.underlying83 rfl rfl (by kernel_rfl)) ?_
      refine lf_val (v := .int .i64 ((i : Nat) : Int)) (wantAll rfl) (rv_load1 rfl (hH.blk (i := 6) rfl) (zLs_g0 u.h0.2 u.h1.2 u.o.2 u.x.2 u.jh.2 u.r.h.2 u.r.b.2) (fr_eval rfl rfl) Try.underlying3 rfl Try.sz3) ?_
      replace hH : Heap _ _ _ [_, _, _, _, _, _, _] := hH.perm (.trans (.swap _ _ _) (.cons _ (.trans (.swap _ _ _) (.cons _ (.trans (.swap _ _ _) (.cons _ (.refl _)))))))
      replace hH : Heap _ _ _ [_, _, _, _, _, _, _] := hH.perm (.cons _ (.trans (.swap _ _ _) (.cons _ (.trans (.swap _ _ _) (.cons _ (.trans (.swap _ _ _) (.cons _ (.refl _))))))))
      replace hH : Heap _ _ _ [_, _, _, _, _, _, _] := hH.perm (.cons _ (.cons _ (.trans (.swap _ _ _) (.cons _ (.trans (.swap _ _ _) (.cons _ (.trans (.swap _ _ _) (.cons _ (.refl _)))))))))
      replace hH : Heap _ _ _ [_, _, _, _, _, _, _] := hH.perm (.cons _ (.cons _ (.cons _ (.trans (.swap _ _ _) (.cons _ (.trans (.swap _ _ _) (.cons _ (.trans (.swap _ _ _) (.cons _ (.refl _))))))))))
      refine lf_call (wantAll rfl) (rv_call (args := [.pointer (some ⟨g, 0, none⟩), .int .i64 ((i : Nat) : Int)]) rfl (evc (fr_eval rfl rfl) (evc (fr_eval rfl rfl) evn)) Try.call47) (netTake_yes (Heap.partZ (L := [_, _, _, _]) (M := [_, _, _]) hH hZ) ls (by omega) lost (by omega) i (by omega) (Nat.le_trans (bd_at hbd (by omega)) (by decide)) (Heap.part (L := [_, _, _, _]) (M := [_, _, _]) hH)) ?_
      rintro _ w4 ⟨y1, y2, rfl, hP⟩
      refine ⟨_, rfl, ?_⟩
      have hx := hH.callChg (L := [_, _, _, _]) (M := [_, _, _]) (fun _ h => h) hP
      replace hH : Heap _ _ _ [_, _, _, _, _, _, _, _] := hH.call (L := [_, _, _, _]) (M := [_, _, _]) (fun _ h => h) hP (Stays.blk (hP.blk (i := 0) rfl) (Stays.own (hP.own (i := 1) rfl) (Stays.bag hZ (hP.bag (i := 2) rfl) (Stays.own (hP.own (i := 3) rfl) Stays.nil))))
      clear hP
      have qy1 : y2.oneCell' = true := Rd.oneV (OwnB.rd (hH.own (i := 7) rfl))
      clear hx
      refine lf_val (v := .tuple #[.agg #[.int .i64 ((List.getD ls i zLt).to), y2], .int .i64 0]) (wantAll rfl) (rv_move rfl (fr_eval rfl rfl)) ?_
      refine lf_val (v := .agg #[.int .i64 ((List.getD ls i zLt).to), y2]) (wantAll rfl) (rv_extract rfl (fr_eval rfl rfl) rfl) ?_
      refine lf_val (v := .int .i64 0) (wantAll rfl) (rv_extract rfl (fr_eval rfl rfl) rfl) ?_
      refine lf_ex (wantAll rfl) (hx_alloc hH 87 (z := .agg ([.int .i64 0, .slice none 0 0]).toArray) (n := 2) (cs := [.int .i64 0, .slice none 0 0]) rfl (by kernel_rfl) (by rfl)) ?_
      clear hH
      rintro _ w5 ⟨g2, rfl, hH, hx⟩
      replace hH : Heap _ _ _ [_, _, _, _, _, _, _, _, _] := hH
      clear hx
      refine lf_sk (wantAll rfl) (hx_storeW hH (i := 8) (cs := [.int .i64 ((List.getD ls i zLt).to), y2]) rfl rfl rfl (fr_eval rfl rfl) (fr_eval rfl rfl) (sz_len Try.sz87 zLs_l8) ((zLs_l8).trans (zLs_l8).symm) (zLs_o9 rfl qy1)) ?_
      clear hH
      rintro w6 ⟨hH, hx⟩
      replace hH : Heap _ _ _ [_, _, _, _, _, _, _, _, _] := hH
      clear hx
      refine lf_val (v := .int .i64 0) (wantAll rfl) (rv_assign rfl (fr_eval rfl rfl)) ?_
      refine lf_nil ?_
      refine then_n ?_
      refine wp_seq ?_
      refine wp_seq ?_
      refine wp_gen (fun F' => F' 0 = .pointer (some ⟨g, 0, none⟩) ∧ F' 1 = .pointer (some ⟨h, 0, none⟩) ∧ F' 2 = .agg (([.int .i64 xk, .int .i64 ((i : Nat) : Int), .int .i64 xt, .int .i64 u.k, .int .i64 u.a, .int .i64 u.b, .int .i64 u.c0, .int .i64 u.c1, .int .i64 u.c2] : List Value) ++ (cBs u.h0.1 ++ (cBs u.h1.1 ++ (([.int .i64 u.g] : List Value) ++ (cBs u.o.1 ++ (([.int .i64 u.n] : List Value) ++ (cBs u.x.1 ++ (([.int .i64 u.jc, .int .i64 u.js] : List Value) ++ (cBs u.jh.1 ++ (([vb.1, .int .i64 u.r.t, .int .i64 u.r.c, .int .i64 u.r.s] : List Value) ++ (cBs u.r.h.1 ++ (cBs u.r.b.1 ++ ([vg.1, dv.1] : List Value))))))))))))).toArray ∧ F' 5 = .pointer (some ⟨g1, 0, none⟩) ∧ F' 6 = .bool false ∧ F' 7 = .bool true ∧ F' 8 = .int .i64 0 ∧ F' 9 = .pointer (some ⟨g2, 0, none⟩) ∧ F' 10 = .int .i64 0 ∧ F' 29 = .bool false ∧ F' 31 = .int .i64 xk ∧ F' 32 = .bool false ∧ F' 51 = .bool true) ⟨e0, e1, e2, e5, e6, e7, e8, rfl, rfl, e29, e31, e32, (e51.trans (congrArg Value.bool (decide_eq_true hc1)))⟩ ?_
      clear e0 e1 e2 e5 e6 e7 e8 e29 e31 e32 e51
      clear F
      rintro F ⟨e0, e1, e2, e5, e6, e7, e8, e9, e10, e29, e31, e32, e51⟩
      refine wp_regionX (fun _ => False) 28 (by kernel_rfl) (by kernel_rfl) ?_
      refine xl_take (i := 0) (v := .bool true) rfl (by kernel_rfl) (by kernel_rfl) (by kernel_rfl) (by kernel_rfl) (yx_val (wantAll rfl) (fun w' hx' => rv_move rfl (fr_eval rfl e7))) ?_
      refine xl_take (i := 1) (v := .bool true) rfl (by kernel_rfl) (by kernel_rfl) (by kernel_rfl) (by kernel_rfl) (yx_val (wantAll rfl) (fun w' hx' => rv_move rfl (fr_eval rfl rfl))) ?_
      refine xl_take (i := 2) (v := .pointer (some ⟨g2, 0, none⟩)) rfl (by kernel_rfl) (by kernel_rfl) (by kernel_rfl) (by kernel_rfl) (yx_val (wantF (d := 61) rfl (by kernel_rfl) rfl rfl) (fun w' hx' => rv_fieldAddr (n := 0) rfl (fr_eval rfl e9) Try.underlying87 rfl rfl (by kernel_rfl))) ?_
      refine xl_take (i := 3) (v := .int .i64 ((List.getD ls i zLt).to)) rfl (by kernel_rfl) (by kernel_rfl) (by kernel_rfl) (by kernel_rfl) (yx_val (wantF (d := 61) rfl (by kernel_rfl) rfl rfl) (fun w' hx' => rv_load1 rfl ((hH.ext hx').blk (i := 8) rfl) zLs_g1 (fr_eval rfl rfl) Try.underlying3 rfl Try.sz3)) ?_
      refine xl_take (i := 4) (v := .pointer (some ⟨h, 0, none⟩)) rfl (by kernel_rfl) (by kernel_rfl) (by kernel_rfl) (by kernel_rfl) (yx_val (wantF (d := 61) rfl (by kernel_rfl) rfl rfl) (fun w' hx' => rv_move rfl (fr_eval rfl e1))) ?_
      refine xl_take (i := 5) (v := .pointer (some ⟨h, 0, none⟩)) rfl (by kernel_rfl) (by kernel_rfl) (by kernel_rfl) (by kernel_rfl) (yx_val (wantF (d := 61) rfl (by kernel_rfl) rfl rfl) (fun w' hx' => rv_nilCheck rfl (fr_eval rfl rfl))) ?_
      refine xl_take (i := 6) (v := .pointer (some ⟨h, 0, none⟩)) rfl (by kernel_rfl) (by kernel_rfl) (by kernel_rfl) (by kernel_rfl) (yx_val (wantF (d := 61) rfl (by kernel_rfl) rfl rfl) (fun w' hx' => rv_fieldAddr (n := 0) rfl (fr_eval rfl rfl) Try.underlying72 rfl rfl (by kernel_rfl))) ?_
      refine xl_take (i := 7) (v := pv) rfl (by kernel_rfl) (by kernel_rfl) (by kernel_rfl) (by kernel_rfl) (yx_val (wantF (d := 61) rfl (by kernel_rfl) rfl rfl) (fun w' hx' => rv_load1 rfl ((hH.ext hx').blk (i := 0) rfl) zLs_g1 (fr_eval rfl rfl) Try.underlying67 rfl Try.sz67)) ?_
      refine xl_take (i := 8) (v := .pointer (some ⟨g1, 1, none⟩)) rfl (by kernel_rfl) (by kernel_rfl) (by kernel_rfl) (by kernel_rfl) (yx_val (wantF (d := 61) rfl (by kernel_rfl) rfl rfl) (fun w' hx' => rv_fieldAddr (n := 0) rfl (fr_eval rfl e5) Try.underlying83 rfl rfl (by kernel_rfl))) ?_
      refine xl_take (i := 9) (v := .int .i64 ((i : Nat) : Int)) rfl (by kernel_rfl) (by kernel_rfl) (by kernel_rfl) (by kernel_rfl) (yx_val (wantF (d := 61) rfl (by kernel_rfl) rfl rfl) (fun w' hx' => rv_load1 rfl ((hH.ext hx').blk (i := 3) rfl) (zLs_g0 u.h0.2 u.h1.2 u.o.2 u.x.2 u.jh.2 u.r.h.2 u.r.b.2) (fr_eval rfl rfl) Try.underlying3 rfl Try.sz3)) ?_
      refine xl_take (i := 10) (v := .pointer (some (elemA pv (i * 2)))) rfl (by kernel_rfl) (by kernel_rfl) (by kernel_rfl) (by kernel_rfl) (yx_val (wantF (d := 61) rfl (by kernel_rfl) rfl rfl) (fun w' hx' => rv_index rfl (fr_eval rfl rfl) (fr_eval rfl rfl) (rdN (Own.rd ((hH.ext hx').own (i := 1) rfl) (row_one cLt_one)) rfl) (show i < ps.length from (by omega)) Try.underlying67 Try.sz87 (by decide))) ?_
      refine xl_take (i := 11) (v := .pointer (some (elemA pv (i * 2 + 0)))) rfl (by kernel_rfl) (by kernel_rfl) (by kernel_rfl) (by kernel_rfl) (yx_val (wantF (d := 61) rfl (by kernel_rfl) rfl rfl) (fun w' hx' => rv_fieldElem (nn := 0) (n := ps.length) (i := i) rfl (fr_eval rfl rfl) (Own.rd ((hH.ext hx').own (i := 1) rfl) (row_one cLt_one)) (by omega) (by decide) Try.underlying87 rfl rfl (by kernel_rfl))) ?_
      refine xl_take (i := 12) (v := .int .i64 ((List.getD ps i zLt).to)) rfl (by kernel_rfl) (by kernel_rfl) (by kernel_rfl) (by kernel_rfl) (yx_val (wantF (d := 61) rfl (by kernel_rfl) rfl rfl) (fun w' hx' => rv_loadCell rfl (fr_eval rfl rfl) rfl (Own.rd ((hH.ext hx').own (i := 1) rfl) (row_one cLt_one)) (flat_get zLt cLt_len (by omega) (show (cLt (List.getD ps i zLt))[0]? = some (.int .i64 ((List.getD ps i zLt).to)) from zLs_g1) (by decide)) Try.underlying3 rfl Try.sz3)) ?_
      refine xl_take (i := 13) (v := .bool false) rfl (by kernel_rfl) (by kernel_rfl) (by kernel_rfl) (by kernel_rfl) (yx_val (wantF (d := 61) rfl (by kernel_rfl) rfl rfl) (fun w' hx' => rv_neq rfl (fr_eval rfl rfl) (fr_eval rfl rfl) (decide_eq_true (by omega)))) ?_
      refine xl_take (i := 14) (v := .bool false) rfl (by kernel_rfl) (by kernel_rfl) (by kernel_rfl) (by kernel_rfl) (yx_val (wantF (d := 61) rfl (by kernel_rfl) rfl rfl) (fun w' hx' => rv_move rfl (fr_eval rfl rfl))) ?_
      refine xl_take (i := 15) (v := .pointer (some ⟨g2, 1, none⟩)) rfl (by kernel_rfl) (by kernel_rfl) (by kernel_rfl) (by kernel_rfl) (yx_val (wantF (d := 74) rfl (by kernel_rfl) rfl rfl) (fun w' hx' => rv_fieldAddr (n := 0) rfl (fr_eval rfl e9) Try.underlying87 rfl rfl (by kernel_rfl))) ?_
      refine xl_take (i := 16) (v := y2) rfl (by kernel_rfl) (by kernel_rfl) (by kernel_rfl) (by kernel_rfl) (yx_val (wantF (d := 74) rfl (by kernel_rfl) rfl rfl) (fun w' hx' => rv_load1 rfl ((hH.ext hx').blk (i := 8) rfl) zLs_g10 (fr_eval rfl rfl) Try.underlying22 rfl Try.sz22)) ?_
      refine xl_take (i := 17) (v := .string ⟨((List.getD ls i zLt).b).toArray⟩) rfl (by kernel_rfl) (by kernel_rfl) (by kernel_rfl) (by kernel_rfl) (yx_val (wantF (d := 74) rfl (by kernel_rfl) rfl rfl) (fun w' hx' => rv_str rfl (fr_eval rfl rfl) (OwnB.rd ((hH.ext hx').own (i := 7) rfl)) Try.underlying22 Try.underlying5 Try.underlying9)) ?_
      refine xl_take (i := 18) (v := .pointer (some ⟨h, 0, none⟩)) rfl (by kernel_rfl) (by kernel_rfl) (by kernel_rfl) (by kernel_rfl) (yx_val (wantF (d := 74) rfl (by kernel_rfl) rfl rfl) (fun w' hx' => rv_move rfl (fr_eval rfl e1))) ?_
      refine xl_take (i := 19) (v := .pointer (some ⟨h, 0, none⟩)) rfl (by kernel_rfl) (by kernel_rfl) (by kernel_rfl) (by kernel_rfl) (yx_val (wantF (d := 74) rfl (by kernel_rfl) rfl rfl) (fun w' hx' => rv_nilCheck rfl (fr_eval rfl rfl))) ?_
      refine xl_take (i := 20) (v := .pointer (some ⟨h, 0, none⟩)) rfl (by kernel_rfl) (by kernel_rfl) (by kernel_rfl) (by kernel_rfl) (yx_val (wantF (d := 74) rfl (by kernel_rfl) rfl rfl) (fun w' hx' => rv_fieldAddr (n := 0) rfl (fr_eval rfl rfl) Try.underlying72 rfl rfl (by kernel_rfl))) ?_
      refine xl_take (i := 21) (v := pv) rfl (by kernel_rfl) (by kernel_rfl) (by kernel_rfl) (by kernel_rfl) (yx_val (wantF (d := 74) rfl (by kernel_rfl) rfl rfl) (fun w' hx' => rv_load1 rfl ((hH.ext hx').blk (i := 0) rfl) zLs_g1 (fr_eval rfl rfl) Try.underlying67 rfl Try.sz67)) ?_
      refine xl_take (i := 22) (v := .pointer (some ⟨g1, 1, none⟩)) rfl (by kernel_rfl) (by kernel_rfl) (by kernel_rfl) (by kernel_rfl) (yx_val (wantF (d := 74) rfl (by kernel_rfl) rfl rfl) (fun w' hx' => rv_fieldAddr (n := 0) rfl (fr_eval rfl e5) Try.underlying83 rfl rfl (by kernel_rfl))) ?_
      refine xl_take (i := 23) (v := .int .i64 ((i : Nat) : Int)) rfl (by kernel_rfl) (by kernel_rfl) (by kernel_rfl) (by kernel_rfl) (yx_val (wantF (d := 74) rfl (by kernel_rfl) rfl rfl) (fun w' hx' => rv_load1 rfl ((hH.ext hx').blk (i := 3) rfl) (zLs_g0 u.h0.2 u.h1.2 u.o.2 u.x.2 u.jh.2 u.r.h.2 u.r.b.2) (fr_eval rfl rfl) Try.underlying3 rfl Try.sz3)) ?_
      refine xl_take (i := 24) (v := .pointer (some (elemA pv (i * 2)))) rfl (by kernel_rfl) (by kernel_rfl) (by kernel_rfl) (by kernel_rfl) (yx_val (wantF (d := 74) rfl (by kernel_rfl) rfl rfl) (fun w' hx' => rv_index rfl (fr_eval rfl rfl) (fr_eval rfl rfl) (rdN (Own.rd ((hH.ext hx').own (i := 1) rfl) (row_one cLt_one)) rfl) (show i < ps.length from (by omega)) Try.underlying67 Try.sz87 (by decide))) ?_
      refine xl_take (i := 25) (v := .pointer (some (elemA pv (i * 2 + 1)))) rfl (by kernel_rfl) (by kernel_rfl) (by kernel_rfl) (by kernel_rfl) (yx_val (wantF (d := 74) rfl (by kernel_rfl) rfl rfl) (fun w' hx' => rv_fieldElem (nn := 0) (n := ps.length) (i := i) rfl (fr_eval rfl rfl) (Own.rd ((hH.ext hx').own (i := 1) rfl) (row_one cLt_one)) (by omega) (by decide) Try.underlying87 rfl rfl (by kernel_rfl))) ?_
      refine xl_take (i := 26) (v := (List.getD ps i zLt).v.1) rfl (by kernel_rfl) (by kernel_rfl) (by kernel_rfl) (by kernel_rfl) (yx_val (wantF (d := 74) rfl (by kernel_rfl) rfl rfl) (fun w' hx' => rv_loadCell rfl (fr_eval rfl rfl) rfl (Own.rd ((hH.ext hx').own (i := 1) rfl) (row_one cLt_one)) (flat_get zLt cLt_len (by omega) (show (cLt (List.getD ps i zLt))[1]? = some ((List.getD ps i zLt).v.1) from zLs_g10) (by decide)) Try.underlying22 rfl Try.sz22)) ?_
      refine xl_take (i := 27) (v := .string ⟨((List.getD ps i zLt).b).toArray⟩) rfl (by kernel_rfl) (by kernel_rfl) (by kernel_rfl) (by kernel_rfl) (yx_val (wantF (d := 74) rfl (by kernel_rfl) rfl rfl) (fun w' hx' => rv_str rfl (fr_eval rfl rfl) (BagAt.rd ((hH.ext hx').bag (i := 2) rfl) (memL (l := ps) (by omega))) Try.underlying22 Try.underlying5 Try.underlying9)) ?_
      refine xl_tail (s := 28) rfl ?_
      intro w7 hx
      replace hH := hH.ext hx
      clear hx
      refine lf_val (v := .bool false) (wantF (d := 74) rfl (by kernel_rfl) rfl rfl) (rv_nes (b := true) rfl (fr_eval rfl rfl) (fr_eval rfl rfl) (by exact decide_eq_true hab)) ?_
      refine lf_val (v := .bool false) (wantF (d := 61) rfl (by kernel_rfl) rfl rfl) (rv_pickF rfl (fr_eval rfl rfl) (fr_eval rfl rfl)) ?_
      refine lf_val (v := .bool false) (wantAll rfl) (rv_pickT rfl (fr_eval rfl rfl) (fr_eval rfl rfl)) ?_
      refine lf_nil ?_
      refine then_n ?_
      refine wp_gen (fun F' => F' 0 = .pointer (some ⟨g, 0, none⟩) ∧ F' 1 = .pointer (some ⟨h, 0, none⟩) ∧ F' 2 = .agg (([.int .i64 xk, .int .i64 ((i : Nat) : Int), .int .i64 xt, .int .i64 u.k, .int .i64 u.a, .int .i64 u.b, .int .i64 u.c0, .int .i64 u.c1, .int .i64 u.c2] : List Value) ++ (cBs u.h0.1 ++ (cBs u.h1.1 ++ (([.int .i64 u.g] : List Value) ++ (cBs u.o.1 ++ (([.int .i64 u.n] : List Value) ++ (cBs u.x.1 ++ (([.int .i64 u.jc, .int .i64 u.js] : List Value) ++ (cBs u.jh.1 ++ (([vb.1, .int .i64 u.r.t, .int .i64 u.r.c, .int .i64 u.r.s] : List Value) ++ (cBs u.r.h.1 ++ (cBs u.r.b.1 ++ ([vg.1, dv.1] : List Value))))))))))))).toArray ∧ F' 5 = .pointer (some ⟨g1, 0, none⟩) ∧ F' 6 = .bool false ∧ F' 7 = .bool true ∧ F' 8 = .int .i64 0 ∧ F' 9 = .pointer (some ⟨g2, 0, none⟩) ∧ F' 10 = .int .i64 0 ∧ F' 29 = .bool false ∧ F' 31 = .int .i64 xk ∧ F' 32 = .bool false ∧ F' 51 = .bool true ∧ F' 90 = .bool false) ⟨e0, e1, e2, e5, e6, e7, e8, e9, e10, e29, e31, e32, e51, rfl⟩ ?_
      clear e0 e1 e2 e5 e6 e7 e8 e9 e10 e29 e31 e32 e51
      clear F
      rintro F ⟨e0, e1, e2, e5, e6, e7, e8, e9, e10, e29, e31, e32, e51, e90⟩
      refine wp_cond_false (fr_eval rfl e90) ?_
      refine wp_skip ?_
      refine then_n ?_
      refine wp_seq ?_
      refine wp_seq ?_
      refine wp_regionF ?_
      refine lf_val (v := .bool true) (wantAll rfl) (rv_move rfl (fr_eval rfl e7)) ?_
      refine lf_nil ?_
      refine then_n ?_
      refine wp_gen (fun F' => F' 0 = .pointer (some ⟨g, 0, none⟩) ∧ F' 1 = .pointer (some ⟨h, 0, none⟩) ∧ F' 2 = .agg (([.int .i64 xk, .int .i64 ((i : Nat) : Int), .int .i64 xt, .int .i64 u.k, .int .i64 u.a, .int .i64 u.b, .int .i64 u.c0, .int .i64 u.c1, .int .i64 u.c2] : List Value) ++ (cBs u.h0.1 ++ (cBs u.h1.1 ++ (([.int .i64 u.g] : List Value) ++ (cBs u.o.1 ++ (([.int .i64 u.n] : List Value) ++ (cBs u.x.1 ++ (([.int .i64 u.jc, .int .i64 u.js] : List Value) ++ (cBs u.jh.1 ++ (([vb.1, .int .i64 u.r.t, .int .i64 u.r.c, .int .i64 u.r.s] : List Value) ++ (cBs u.r.h.1 ++ (cBs u.r.b.1 ++ ([vg.1, dv.1] : List Value))))))))))))).toArray ∧ F' 5 = .pointer (some ⟨g1, 0, none⟩) ∧ F' 6 = .bool false ∧ F' 7 = .bool true ∧ F' 8 = .int .i64 0 ∧ F' 9 = .pointer (some ⟨g2, 0, none⟩) ∧ F' 10 = .int .i64 0 ∧ F' 29 = .bool false ∧ F' 31 = .int .i64 xk ∧ F' 32 = .bool false ∧ F' 51 = .bool true ∧ F' 90 = .bool false ∧ F' 91 = .bool true) ⟨e0, e1, e2, e5, e6, e7, e8, e9, e10, e29, e31, e32, e51, e90, rfl⟩ ?_
      clear e0 e1 e2 e5 e6 e7 e8 e9 e10 e29 e31 e32 e51 e90
      clear F
      rintro F ⟨e0, e1, e2, e5, e6, e7, e8, e9, e10, e29, e31, e32, e51, e90, e91⟩
      refine wp_cond_true (fr_eval rfl e91) ?_
      refine wp_regionF ?_
      refine lf_val (v := .pointer (some ⟨h, 0, none⟩)) (wantAll rfl) (rv_move rfl (fr_eval rfl e1)) ?_
      refine lf_val (v := .pointer (some ⟨g1, 1, none⟩)) (wantAll rfl) (rv_fieldAddr (n := 0) rfl (fr_eval rfl e5) Try.underlying83 rfl rfl (by kernel_rfl)) ?_
      refine lf_val (v := .int .i64 ((i : Nat) : Int)) (wantAll rfl) (rv_load1 rfl (hH.blk (i := 3) rfl) (zLs_g0 u.h0.2 u.h1.2 u.o.2 u.x.2 u.jh.2 u.r.h.2 u.r.b.2) (fr_eval rfl rfl) Try.underlying3 rfl Try.sz3) ?_
      replace hH : Heap _ _ _ [_, _, _, _, _, _, _, _, _] := hH.perm (.trans (.swap _ _ _) (.cons _ (.trans (.swap _ _ _) (.cons _ (.trans (.swap _ _ _) (.cons _ (.refl _)))))))
      replace hH : Heap _ _ _ [_, _, _, _, _, _, _, _, _] := hH.perm (.cons _ (.trans (.swap _ _ _) (.cons _ (.trans (.swap _ _ _) (.cons _ (.trans (.swap _ _ _) (.cons _ (.refl _))))))))
      replace hH : Heap _ _ _ [_, _, _, _, _, _, _, _, _] := hH.perm (.cons _ (.cons _ (.trans (.swap _ _ _) (.cons _ (.trans (.swap _ _ _) (.cons _ (.trans (.swap _ _ _) (.cons _ (.refl _)))))))))
      replace hH : Heap _ _ _ [_, _, _, _, _, _, _, _, _] := hH.perm (.cons _ (.cons _ (.cons _ (.trans (.swap _ _ _) (.cons _ (.trans (.swap _ _ _) (.cons _ (.trans (.swap _ _ _) (.cons _ (.refl _))))))))))
      replace hH : Heap _ _ _ [_, _, _, _, _, _, _, _, _] := hH.perm (.cons _ (.cons _ (.cons _ (.cons _ (.trans (.swap _ _ _) (.cons _ (.trans (.swap _ _ _) (.cons _ (.trans (.swap _ _ _) (.cons _ (.refl _)))))))))))
      replace hH : Heap _ _ _ [_, _, _, _, _, _, _, _, _] := hH.perm (.cons _ (.cons _ (.cons _ (.cons _ (.cons _ (.trans (.swap _ _ _) (.cons _ (.trans (.swap _ _ _) (.cons _ (.trans (.swap _ _ _) (.cons _ (.refl _))))))))))))
      refine lf_call (wantAll rfl) (rv_call (args := [.pointer (some ⟨h, 0, none⟩), .int .i64 ((i : Nat) : Int)]) rfl (evc (fr_eval rfl rfl) (evc (fr_eval rfl rfl) evn)) Try.call58) (plOut_calls (Heap.partZ (L := [_, _, _, _, _, _]) (M := [_, _, _]) hH hZ) ps (by omega) plost (by omega) i (by omega) (Heap.part (L := [_, _, _, _, _, _]) (M := [_, _, _]) hH)) ?_
      rintro _ w8 ⟨y3, rfl, hP⟩
      refine ⟨_, rfl, ?_⟩
      have hx := hH.callChg (L := [_, _, _, _, _, _]) (M := [_, _, _]) (fun _ h => h) hP
      replace hH : Heap _ _ _ [_, _, _, _, _, _, _, _, _] := hH.call (L := [_, _, _, _, _, _]) (M := [_, _, _]) (fun _ h => h) hP (Stays.blk (hP.blk (i := 0) rfl) (Stays.own (hP.own (i := 1) rfl) (Stays.bag hZ (hP.bag (i := 2) rfl) Stays.nil)))
      clear hP
      clear hx
      refine lf_nil ?_
      refine then_n ?_
      refine wp_seq ?_
      refine wp_gen (fun F' => F' 0 = .pointer (some ⟨g, 0, none⟩) ∧ F' 1 = .pointer (some ⟨h, 0, none⟩) ∧ F' 2 = .agg (([.int .i64 xk, .int .i64 ((i : Nat) : Int), .int .i64 xt, .int .i64 u.k, .int .i64 u.a, .int .i64 u.b, .int .i64 u.c0, .int .i64 u.c1, .int .i64 u.c2] : List Value) ++ (cBs u.h0.1 ++ (cBs u.h1.1 ++ (([.int .i64 u.g] : List Value) ++ (cBs u.o.1 ++ (([.int .i64 u.n] : List Value) ++ (cBs u.x.1 ++ (([.int .i64 u.jc, .int .i64 u.js] : List Value) ++ (cBs u.jh.1 ++ (([vb.1, .int .i64 u.r.t, .int .i64 u.r.c, .int .i64 u.r.s] : List Value) ++ (cBs u.r.h.1 ++ (cBs u.r.b.1 ++ ([vg.1, dv.1] : List Value))))))))))))).toArray ∧ F' 5 = .pointer (some ⟨g1, 0, none⟩) ∧ F' 6 = .bool false ∧ F' 7 = .bool true ∧ F' 8 = .int .i64 0 ∧ F' 9 = .pointer (some ⟨g2, 0, none⟩) ∧ F' 10 = .int .i64 0 ∧ F' 29 = .bool false ∧ F' 31 = .int .i64 xk ∧ F' 32 = .bool false ∧ F' 51 = .bool true ∧ F' 90 = .bool false ∧ F' 91 = .bool true) ⟨e0, e1, e2, e5, e6, e7, e8, e9, e10, e29, e31, e32, e51, e90, e91⟩ ?_
      clear e0 e1 e2 e5 e6 e7 e8 e9 e10 e29 e31 e32 e51 e90 e91
      clear F
      rintro F ⟨e0, e1, e2, e5, e6, e7, e8, e9, e10, e29, e31, e32, e51, e90, e91⟩
      refine wp_regionF ?_
      refine lf_val (v := .int .i64 0) (wantAll rfl) (rv_move rfl (fr_eval rfl e10)) ?_
      refine lf_val (v := .int .i64 0) (wantAll rfl) (rv_move rfl (fr_eval rfl e8)) ?_
      refine lf_val (v := .bool true) (wantAll rfl) (rv_eql rfl (fr_eval rfl rfl) (fr_eval rfl rfl) (by decide)) ?_
      refine lf_val (v := .bool true) (wantAll rfl) (rv_move rfl (fr_eval rfl rfl)) ?_
      refine lf_val (v := .bool true) (wantF (d := 99) rfl (by kernel_rfl) rfl rfl) (rv_move rfl (fr_eval rfl e7)) ?_
      refine lf_val (v := .bool true) (wantF (d := 99) rfl (by kernel_rfl) rfl rfl) (rv_move rfl (fr_eval rfl rfl)) ?_
      refine lf_not (wantNot (d := 101) rfl (by kernel_rfl) rfl rfl) ?_
      refine lf_not (wantNot (d := 101) rfl (by kernel_rfl) rfl rfl) ?_
      refine lf_not (wantNot (d := 101) rfl (by kernel_rfl) rfl rfl) ?_
      refine lf_not (wantNot (d := 101) rfl (by kernel_rfl) rfl rfl) ?_
      refine lf_val (v := .bool true) (wantF (d := 99) rfl (by kernel_rfl) rfl rfl) (rv_pickT rfl (fr_eval rfl rfl) rfl) ?_
      refine lf_val (v := .bool true) (wantAll rfl) (rv_pickT rfl (fr_eval rfl rfl) (fr_eval rfl rfl)) ?_
      refine lf_val (v := .bool true) (wantAll rfl) (rv_assign rfl (fr_eval rfl rfl)) ?_
      refine lf_nil ?_
      refine then_n ?_
      refine wp_gen (fun F' => F' 0 = .pointer (some ⟨g, 0, none⟩) ∧ F' 1 = .pointer (some ⟨h, 0, none⟩) ∧ F' 2 = .agg (([.int .i64 xk, .int .i64 ((i : Nat) : Int), .int .i64 xt, .int .i64 u.k, .int .i64 u.a, .int .i64 u.b, .int .i64 u.c0, .int .i64 u.c1, .int .i64 u.c2] : List Value) ++ (cBs u.h0.1 ++ (cBs u.h1.1 ++ (([.int .i64 u.g] : List Value) ++ (cBs u.o.1 ++ (([.int .i64 u.n] : List Value) ++ (cBs u.x.1 ++ (([.int .i64 u.jc, .int .i64 u.js] : List Value) ++ (cBs u.jh.1 ++ (([vb.1, .int .i64 u.r.t, .int .i64 u.r.c, .int .i64 u.r.s] : List Value) ++ (cBs u.r.h.1 ++ (cBs u.r.b.1 ++ ([vg.1, dv.1] : List Value))))))))))))).toArray ∧ F' 5 = .pointer (some ⟨g1, 0, none⟩) ∧ F' 6 = .bool true ∧ F' 7 = .bool true ∧ F' 8 = .int .i64 0 ∧ F' 9 = .pointer (some ⟨g2, 0, none⟩) ∧ F' 10 = .int .i64 0 ∧ F' 29 = .bool false ∧ F' 31 = .int .i64 xk ∧ F' 32 = .bool false ∧ F' 51 = .bool true ∧ F' 90 = .bool false ∧ F' 91 = .bool true) ⟨e0, e1, e2, e5, rfl, e7, e8, e9, e10, e29, e31, e32, e51, e90, e91⟩ ?_
      clear e0 e1 e2 e5 e6 e7 e8 e9 e10 e29 e31 e32 e51 e90 e91
      clear F
      rintro F ⟨e0, e1, e2, e5, e6, e7, e8, e9, e10, e29, e31, e32, e51, e90, e91⟩
      refine wp_ret ?_
      refine blk_ret ?_
      refine then_ret ?_
      have hF := hH
      replace hF : Heap _ _ _ [_, _, _, _, _, _] := hF.drop (.cons _ (.cons_cons _ (.cons_cons _ (.cons_cons _ (.cons _ (.cons _ (.cons_cons _ (.cons_cons _ (.cons_cons _ .slnil)))))))))
      exact bodyPost_ret (v := (.bool true)) (res1 rfl (ro_tmp rfl e6)) rfl (⟨_, _, _, _, _, _, _, _, rfl, (kst_erase i heq), (by rw [List.length_eraseIdx]; split <;> omega), (by omega), (bd_erase hbd), hF⟩)
    · refine wp_cond_false (fr_eval rfl (e51.trans (congrArg Value.bool (decide_eq_false hc1)))) ?_
      refine wp_seq ?_
      refine wp_regionF ?_
      refine lf_val (v := .bool (decide (xk = 5))) (wantAll rfl) (rv_eqlP (p := xk = 5) rfl (fr_eval rfl e31) rfl Iff.rfl) ?_
      refine lf_val (v := .bool (decide (xk = 5))) (wantAll rfl) (rv_assign rfl (fr_eval rfl rfl)) ?_
      refine lf_nil ?_
      refine then_n ?_
      refine wp_gen (fun F' => F' 0 = .pointer (some ⟨g, 0, none⟩) ∧ F' 1 = .pointer (some ⟨h, 0, none⟩) ∧ F' 2 = .agg (([.int .i64 xk, .int .i64 ((i : Nat) : Int), .int .i64 xt, .int .i64 u.k, .int .i64 u.a, .int .i64 u.b, .int .i64 u.c0, .int .i64 u.c1, .int .i64 u.c2] : List Value) ++ (cBs u.h0.1 ++ (cBs u.h1.1 ++ (([.int .i64 u.g] : List Value) ++ (cBs u.o.1 ++ (([.int .i64 u.n] : List Value) ++ (cBs u.x.1 ++ (([.int .i64 u.jc, .int .i64 u.js] : List Value) ++ (cBs u.jh.1 ++ (([vb.1, .int .i64 u.r.t, .int .i64 u.r.c, .int .i64 u.r.s] : List Value) ++ (cBs u.r.h.1 ++ (cBs u.r.b.1 ++ ([vg.1, dv.1] : List Value))))))))))))).toArray ∧ F' 5 = .pointer (some ⟨g1, 0, none⟩) ∧ F' 6 = .bool false ∧ F' 7 = .bool true ∧ F' 8 = .int .i64 0 ∧ F' 29 = .bool false ∧ F' 31 = .int .i64 xk ∧ F' 32 = .bool false ∧ F' 51 = .bool false ∧ F' 108 = .bool (decide (xk = 5))) ⟨e0, e1, e2, e5, e6, e7, e8, e29, e31, e32, (e51.trans (congrArg Value.bool (decide_eq_false hc1))), rfl⟩ ?_
      clear e0 e1 e2 e5 e6 e7 e8 e29 e31 e32 e51
      clear F
      rintro F ⟨e0, e1, e2, e5, e6, e7, e8, e29, e31, e32, e51, e108⟩
      by_cases hc2 : xk = 5
      · refine wp_cond_true (fr_eval rfl (e108.trans (congrArg Value.bool (decide_eq_true hc2)))) ?_
        refine wp_seq ?_
        refine wp_regionF ?_
        refine lf_val (v := .pointer (some ⟨g, 0, none⟩)) (wantAll rfl) (rv_move rfl (fr_eval rfl e0)) ?_
        refine lf_val (v := .pointer (some ⟨g1, 1, none⟩)) (wantAll rfl) (rv_fieldAddr (n := 0) rfl (fr_eval rfl e5) Try.underlying83 rfl rfl (by kernel_rfl)) ?_
        refine lf_val (v := .int .i64 ((i : Nat) : Int)) (wantAll rfl) (rv_load1 rfl (hH.blk (i := 6) rfl) (zLs_g0 u.h0.2 u.h1.2 u.o.2 u.x.2 u.jh.2 u.r.h.2 u.r.b.2) (fr_eval rfl rfl) Try.underlying3 rfl Try.sz3) ?_
        replace hH : Heap _ _ _ [_, _, _, _, _, _, _] := hH.perm (.trans (.swap _ _ _) (.cons _ (.trans (.swap _ _ _) (.cons _ (.trans (.swap _ _ _) (.cons _ (.refl _)))))))
        replace hH : Heap _ _ _ [_, _, _, _, _, _, _] := hH.perm (.cons _ (.trans (.swap _ _ _) (.cons _ (.trans (.swap _ _ _) (.cons _ (.trans (.swap _ _ _) (.cons _ (.refl _))))))))
        replace hH : Heap _ _ _ [_, _, _, _, _, _, _] := hH.perm (.cons _ (.cons _ (.trans (.swap _ _ _) (.cons _ (.trans (.swap _ _ _) (.cons _ (.trans (.swap _ _ _) (.cons _ (.refl _)))))))))
        replace hH : Heap _ _ _ [_, _, _, _, _, _, _] := hH.perm (.cons _ (.cons _ (.cons _ (.trans (.swap _ _ _) (.cons _ (.trans (.swap _ _ _) (.cons _ (.trans (.swap _ _ _) (.cons _ (.refl _))))))))))
        refine lf_call (wantAll rfl) (rv_call (args := [.pointer (some ⟨g, 0, none⟩), .int .i64 ((i : Nat) : Int)]) rfl (evc (fr_eval rfl rfl) (evc (fr_eval rfl rfl) evn)) Try.call48) (netLose_yes (Heap.partZ (L := [_, _, _, _]) (M := [_, _, _]) hH hZ) ls (by omega) lost (by omega) i (by omega) (Nat.le_trans (bd_at hbd (by omega)) (by decide)) (Heap.part (L := [_, _, _, _]) (M := [_, _, _]) hH)) ?_
        rintro _ w9 ⟨y4, rfl, hP⟩
        refine ⟨_, rfl, ?_⟩
        have hx := hH.callChg (L := [_, _, _, _]) (M := [_, _, _]) (fun _ h => h) hP
        replace hH : Heap _ _ _ [_, _, _, _, _, _, _] := hH.call (L := [_, _, _, _]) (M := [_, _, _]) (fun _ h => h) hP (Stays.blk (hP.blk (i := 0) rfl) (Stays.own (hP.own (i := 1) rfl) (Stays.bag hZ (hP.bag (i := 2) rfl) Stays.nil)))
        clear hP
        clear hx
        refine lf_val (v := .int .i64 0) (wantAll rfl) (rv_assign rfl (fr_eval rfl rfl)) ?_
        refine lf_nil ?_
        refine then_n ?_
        refine wp_seq ?_
        refine wp_seq ?_
        refine wp_gen (fun F' => F' 0 = .pointer (some ⟨g, 0, none⟩) ∧ F' 1 = .pointer (some ⟨h, 0, none⟩) ∧ F' 2 = .agg (([.int .i64 xk, .int .i64 ((i : Nat) : Int), .int .i64 xt, .int .i64 u.k, .int .i64 u.a, .int .i64 u.b, .int .i64 u.c0, .int .i64 u.c1, .int .i64 u.c2] : List Value) ++ (cBs u.h0.1 ++ (cBs u.h1.1 ++ (([.int .i64 u.g] : List Value) ++ (cBs u.o.1 ++ (([.int .i64 u.n] : List Value) ++ (cBs u.x.1 ++ (([.int .i64 u.jc, .int .i64 u.js] : List Value) ++ (cBs u.jh.1 ++ (([vb.1, .int .i64 u.r.t, .int .i64 u.r.c, .int .i64 u.r.s] : List Value) ++ (cBs u.r.h.1 ++ (cBs u.r.b.1 ++ ([vg.1, dv.1] : List Value))))))))))))).toArray ∧ F' 5 = .pointer (some ⟨g1, 0, none⟩) ∧ F' 6 = .bool false ∧ F' 7 = .bool true ∧ F' 8 = .int .i64 0 ∧ F' 11 = .int .i64 0 ∧ F' 29 = .bool false ∧ F' 31 = .int .i64 xk ∧ F' 32 = .bool false ∧ F' 51 = .bool false ∧ F' 108 = .bool true) ⟨e0, e1, e2, e5, e6, e7, e8, rfl, e29, e31, e32, e51, (e108.trans (congrArg Value.bool (decide_eq_true hc2)))⟩ ?_
        clear e0 e1 e2 e5 e6 e7 e8 e29 e31 e32 e51 e108
        clear F
        rintro F ⟨e0, e1, e2, e5, e6, e7, e8, e11, e29, e31, e32, e51, e108⟩
        refine wp_regionF ?_
        refine lf_val (v := .bool true) (wantAll rfl) (rv_move rfl (fr_eval rfl e7)) ?_
        refine lf_nil ?_
        refine then_n ?_
        refine wp_gen (fun F' => F' 0 = .pointer (some ⟨g, 0, none⟩) ∧ F' 1 = .pointer (some ⟨h, 0, none⟩) ∧ F' 2 = .agg (([.int .i64 xk, .int .i64 ((i : Nat) : Int), .int .i64 xt, .int .i64 u.k, .int .i64 u.a, .int .i64 u.b, .int .i64 u.c0, .int .i64 u.c1, .int .i64 u.c2] : List Value) ++ (cBs u.h0.1 ++ (cBs u.h1.1 ++ (([.int .i64 u.g] : List Value) ++ (cBs u.o.1 ++ (([.int .i64 u.n] : List Value) ++ (cBs u.x.1 ++ (([.int .i64 u.jc, .int .i64 u.js] : List Value) ++ (cBs u.jh.1 ++ (([vb.1, .int .i64 u.r.t, .int .i64 u.r.c, .int .i64 u.r.s] : List Value) ++ (cBs u.r.h.1 ++ (cBs u.r.b.1 ++ ([vg.1, dv.1] : List Value))))))))))))).toArray ∧ F' 5 = .pointer (some ⟨g1, 0, none⟩) ∧ F' 6 = .bool false ∧ F' 7 = .bool true ∧ F' 8 = .int .i64 0 ∧ F' 11 = .int .i64 0 ∧ F' 29 = .bool false ∧ F' 31 = .int .i64 xk ∧ F' 32 = .bool false ∧ F' 51 = .bool false ∧ F' 108 = .bool true ∧ F' 114 = .bool true) ⟨e0, e1, e2, e5, e6, e7, e8, e11, e29, e31, e32, e51, e108, rfl⟩ ?_
        clear e0 e1 e2 e5 e6 e7 e8 e11 e29 e31 e32 e51 e108
        clear F
        rintro F ⟨e0, e1, e2, e5, e6, e7, e8, e11, e29, e31, e32, e51, e108, e114⟩
        refine wp_cond_true (fr_eval rfl e114) ?_
        refine wp_seq ?_
        refine wp_regionF ?_
        refine lf_val (v := .pointer (some ⟨h, 0, none⟩)) (wantAll rfl) (rv_move rfl (fr_eval rfl e1)) ?_
        refine lf_val (v := .pointer (some ⟨g1, 1, none⟩)) (wantAll rfl) (rv_fieldAddr (n := 0) rfl (fr_eval rfl e5) Try.underlying83 rfl rfl (by kernel_rfl)) ?_
        refine lf_val (v := .int .i64 ((i : Nat) : Int)) (wantAll rfl) (rv_load1 rfl (hH.blk (i := 3) rfl) (zLs_g0 u.h0.2 u.h1.2 u.o.2 u.x.2 u.jh.2 u.r.h.2 u.r.b.2) (fr_eval rfl rfl) Try.underlying3 rfl Try.sz3) ?_
        replace hH : Heap _ _ _ [_, _, _, _, _, _, _] := hH.perm (.trans (.swap _ _ _) (.cons _ (.trans (.swap _ _ _) (.cons _ (.trans (.swap _ _ _) (.cons _ (.refl _)))))))
        replace hH : Heap _ _ _ [_, _, _, _, _, _, _] := hH.perm (.cons _ (.trans (.swap _ _ _) (.cons _ (.trans (.swap _ _ _) (.cons _ (.trans (.swap _ _ _) (.cons _ (.refl _))))))))
        replace hH : Heap _ _ _ [_, _, _, _, _, _, _] := hH.perm (.cons _ (.cons _ (.trans (.swap _ _ _) (.cons _ (.trans (.swap _ _ _) (.cons _ (.trans (.swap _ _ _) (.cons _ (.refl _)))))))))
        replace hH : Heap _ _ _ [_, _, _, _, _, _, _] := hH.perm (.cons _ (.cons _ (.cons _ (.trans (.swap _ _ _) (.cons _ (.trans (.swap _ _ _) (.cons _ (.trans (.swap _ _ _) (.cons _ (.refl _))))))))))
        refine lf_call (wantAll rfl) (rv_call (args := [.pointer (some ⟨h, 0, none⟩), .int .i64 ((i : Nat) : Int)]) rfl (evc (fr_eval rfl rfl) (evc (fr_eval rfl rfl) evn)) Try.call58) (plOut_calls (Heap.partZ (L := [_, _, _, _]) (M := [_, _, _]) hH hZ) ps (by omega) plost (by omega) i (by omega) (Heap.part (L := [_, _, _, _]) (M := [_, _, _]) hH)) ?_
        rintro _ w10 ⟨y5, rfl, hP⟩
        refine ⟨_, rfl, ?_⟩
        have hx := hH.callChg (L := [_, _, _, _]) (M := [_, _, _]) (fun _ h => h) hP
        replace hH : Heap _ _ _ [_, _, _, _, _, _, _] := hH.call (L := [_, _, _, _]) (M := [_, _, _]) (fun _ h => h) hP (Stays.blk (hP.blk (i := 0) rfl) (Stays.own (hP.own (i := 1) rfl) (Stays.bag hZ (hP.bag (i := 2) rfl) Stays.nil)))
        clear hP
        clear hx
        refine lf_nil ?_
        refine then_n ?_
        refine wp_gen (fun F' => F' 0 = .pointer (some ⟨g, 0, none⟩) ∧ F' 1 = .pointer (some ⟨h, 0, none⟩) ∧ F' 2 = .agg (([.int .i64 xk, .int .i64 ((i : Nat) : Int), .int .i64 xt, .int .i64 u.k, .int .i64 u.a, .int .i64 u.b, .int .i64 u.c0, .int .i64 u.c1, .int .i64 u.c2] : List Value) ++ (cBs u.h0.1 ++ (cBs u.h1.1 ++ (([.int .i64 u.g] : List Value) ++ (cBs u.o.1 ++ (([.int .i64 u.n] : List Value) ++ (cBs u.x.1 ++ (([.int .i64 u.jc, .int .i64 u.js] : List Value) ++ (cBs u.jh.1 ++ (([vb.1, .int .i64 u.r.t, .int .i64 u.r.c, .int .i64 u.r.s] : List Value) ++ (cBs u.r.h.1 ++ (cBs u.r.b.1 ++ ([vg.1, dv.1] : List Value))))))))))))).toArray ∧ F' 5 = .pointer (some ⟨g1, 0, none⟩) ∧ F' 6 = .bool false ∧ F' 7 = .bool true ∧ F' 8 = .int .i64 0 ∧ F' 11 = .int .i64 0 ∧ F' 29 = .bool false ∧ F' 31 = .int .i64 xk ∧ F' 32 = .bool false ∧ F' 51 = .bool false ∧ F' 108 = .bool true ∧ F' 114 = .bool true) ⟨e0, e1, e2, e5, e6, e7, e8, e11, e29, e31, e32, e51, e108, e114⟩ ?_
        clear e0 e1 e2 e5 e6 e7 e8 e11 e29 e31 e32 e51 e108 e114
        clear F
        rintro F ⟨e0, e1, e2, e5, e6, e7, e8, e11, e29, e31, e32, e51, e108, e114⟩
        refine wp_regionF ?_
        refine lf_val (v := .pointer (some ⟨h, 0, none⟩)) (wantAll rfl) (rv_move rfl (fr_eval rfl e1)) ?_
        refine lf_val (v := .pointer (some ⟨h, 0, none⟩)) (wantAll rfl) (rv_move rfl (fr_eval rfl e1)) ?_
        refine lf_val (v := .pointer (some ⟨h, 0, none⟩)) (wantAll rfl) (rv_nilCheck rfl (fr_eval rfl rfl)) ?_
        refine lf_val (v := .pointer (some ⟨h, 1, none⟩)) (wantAll rfl) (rv_fieldAddr (n := 0) rfl (fr_eval rfl rfl) Try.underlying72 rfl rfl (by kernel_rfl)) ?_
        refine lf_val (v := .int .i64 ((plost : Nat) : Int)) (wantAll rfl) (rv_load1 rfl (hH.blk (i := 4) rfl) zLs_g10 (fr_eval rfl rfl) Try.underlying3 rfl Try.sz3) ?_
        refine lf_val (v := .int .i64 ((plost + 1 : Nat) : Int)) (wantAll rfl) (rv_add rfl (fr_eval rfl rfl) rfl (wrap_i64 (by omega) (by omega) (by omega))) ?_
        refine lf_val (v := .pointer (some ⟨h, 0, none⟩)) (wantAll rfl) (rv_nilCheck rfl (fr_eval rfl rfl)) ?_
        refine lf_val (v := .pointer (some ⟨h, 1, none⟩)) (wantAll rfl) (rv_fieldAddr (n := 0) rfl (fr_eval rfl rfl) Try.underlying72 rfl rfl (by kernel_rfl)) ?_
        refine lf_sk (wantAll rfl) (hx_storeC hH (i := 4) (j := 1) (v := .int .i64 ((plost + 1 : Nat) : Int)) rfl rfl rfl (show 1 < 2 by decide) rfl (fr_eval rfl rfl) (fr_eval rfl rfl) Try.sz3 rfl) ?_
        clear hH
        rintro w11 ⟨hH, hx⟩
        replace hH : Heap _ _ _ [_, _, _, _, _, _, _] := hH
        clear hx
        refine lf_nil ?_
        refine then_n ?_
        refine wp_seq ?_
        refine wp_gen (fun F' => F' 0 = .pointer (some ⟨g, 0, none⟩) ∧ F' 1 = .pointer (some ⟨h, 0, none⟩) ∧ F' 2 = .agg (([.int .i64 xk, .int .i64 ((i : Nat) : Int), .int .i64 xt, .int .i64 u.k, .int .i64 u.a, .int .i64 u.b, .int .i64 u.c0, .int .i64 u.c1, .int .i64 u.c2] : List Value) ++ (cBs u.h0.1 ++ (cBs u.h1.1 ++ (([.int .i64 u.g] : List Value) ++ (cBs u.o.1 ++ (([.int .i64 u.n] : List Value) ++ (cBs u.x.1 ++ (([.int .i64 u.jc, .int .i64 u.js] : List Value) ++ (cBs u.jh.1 ++ (([vb.1, .int .i64 u.r.t, .int .i64 u.r.c, .int .i64 u.r.s] : List Value) ++ (cBs u.r.h.1 ++ (cBs u.r.b.1 ++ ([vg.1, dv.1] : List Value))))))))))))).toArray ∧ F' 5 = .pointer (some ⟨g1, 0, none⟩) ∧ F' 6 = .bool false ∧ F' 7 = .bool true ∧ F' 8 = .int .i64 0 ∧ F' 11 = .int .i64 0 ∧ F' 29 = .bool false ∧ F' 31 = .int .i64 xk ∧ F' 32 = .bool false ∧ F' 51 = .bool false ∧ F' 108 = .bool true ∧ F' 114 = .bool true) ⟨e0, e1, e2, e5, e6, e7, e8, e11, e29, e31, e32, e51, e108, e114⟩ ?_
        clear e0 e1 e2 e5 e6 e7 e8 e11 e29 e31 e32 e51 e108 e114
        clear F
        rintro F ⟨e0, e1, e2, e5, e6, e7, e8, e11, e29, e31, e32, e51, e108, e114⟩
        refine wp_regionF ?_
        refine lf_val (v := .int .i64 0) (wantAll rfl) (rv_move rfl (fr_eval rfl e11)) ?_
        refine lf_val (v := .int .i64 0) (wantAll rfl) (rv_move rfl (fr_eval rfl e8)) ?_
        refine lf_val (v := .bool true) (wantAll rfl) (rv_eql rfl (fr_eval rfl rfl) (fr_eval rfl rfl) (by decide)) ?_
        refine lf_val (v := .bool true) (wantAll rfl) (rv_assign rfl (fr_eval rfl rfl)) ?_
        refine lf_nil ?_
        refine then_n ?_
        refine wp_gen (fun F' => F' 0 = .pointer (some ⟨g, 0, none⟩) ∧ F' 1 = .pointer (some ⟨h, 0, none⟩) ∧ F' 2 = .agg (([.int .i64 xk, .int .i64 ((i : Nat) : Int), .int .i64 xt, .int .i64 u.k, .int .i64 u.a, .int .i64 u.b, .int .i64 u.c0, .int .i64 u.c1, .int .i64 u.c2] : List Value) ++ (cBs u.h0.1 ++ (cBs u.h1.1 ++ (([.int .i64 u.g] : List Value) ++ (cBs u.o.1 ++ (([.int .i64 u.n] : List Value) ++ (cBs u.x.1 ++ (([.int .i64 u.jc, .int .i64 u.js] : List Value) ++ (cBs u.jh.1 ++ (([vb.1, .int .i64 u.r.t, .int .i64 u.r.c, .int .i64 u.r.s] : List Value) ++ (cBs u.r.h.1 ++ (cBs u.r.b.1 ++ ([vg.1, dv.1] : List Value))))))))))))).toArray ∧ F' 5 = .pointer (some ⟨g1, 0, none⟩) ∧ F' 6 = .bool true ∧ F' 7 = .bool true ∧ F' 8 = .int .i64 0 ∧ F' 11 = .int .i64 0 ∧ F' 29 = .bool false ∧ F' 31 = .int .i64 xk ∧ F' 32 = .bool false ∧ F' 51 = .bool false ∧ F' 108 = .bool true ∧ F' 114 = .bool true) ⟨e0, e1, e2, e5, rfl, e7, e8, e11, e29, e31, e32, e51, e108, e114⟩ ?_
        clear e0 e1 e2 e5 e6 e7 e8 e11 e29 e31 e32 e51 e108 e114
        clear F
        rintro F ⟨e0, e1, e2, e5, e6, e7, e8, e11, e29, e31, e32, e51, e108, e114⟩
        refine wp_ret ?_
        refine blk_ret ?_
        refine then_ret ?_
        have hF := hH
        replace hF : Heap _ _ _ [_, _, _, _, _, _] := hF.drop (.cons _ (.cons_cons _ (.cons_cons _ (.cons_cons _ (.cons_cons _ (.cons_cons _ (.cons_cons _ .slnil)))))))
        exact bodyPost_ret (v := (.bool true)) (res1 rfl (ro_tmp rfl e6)) rfl (⟨_, _, _, _, _, _, _, _, rfl, (kst_eraseS i heq), (by rw [List.length_eraseIdx]; split <;> omega), (by omega), (bd_erase hbd), hF⟩)
      · refine wp_cond_false (fr_eval rfl (e108.trans (congrArg Value.bool (decide_eq_false hc2)))) ?_
        refine wp_seq ?_
        refine wp_regionF ?_
        refine lf_val (v := .bool true) (wantAll rfl) (rv_eql rfl (fr_eval rfl e31) rfl (decide_eq_true (by omega))) ?_
        refine lf_val (v := .bool true) (wantAll rfl) (rv_assign rfl (fr_eval rfl rfl)) ?_
        refine lf_nil ?_
        refine then_n ?_
        refine wp_gen (fun F' => F' 0 = .pointer (some ⟨g, 0, none⟩) ∧ F' 1 = .pointer (some ⟨h, 0, none⟩) ∧ F' 2 = .agg (([.int .i64 xk, .int .i64 ((i : Nat) : Int), .int .i64 xt, .int .i64 u.k, .int .i64 u.a, .int .i64 u.b, .int .i64 u.c0, .int .i64 u.c1, .int .i64 u.c2] : List Value) ++ (cBs u.h0.1 ++ (cBs u.h1.1 ++ (([.int .i64 u.g] : List Value) ++ (cBs u.o.1 ++ (([.int .i64 u.n] : List Value) ++ (cBs u.x.1 ++ (([.int .i64 u.jc, .int .i64 u.js] : List Value) ++ (cBs u.jh.1 ++ (([vb.1, .int .i64 u.r.t, .int .i64 u.r.c, .int .i64 u.r.s] : List Value) ++ (cBs u.r.h.1 ++ (cBs u.r.b.1 ++ ([vg.1, dv.1] : List Value))))))))))))).toArray ∧ F' 5 = .pointer (some ⟨g1, 0, none⟩) ∧ F' 6 = .bool false ∧ F' 7 = .bool true ∧ F' 8 = .int .i64 0 ∧ F' 29 = .bool false ∧ F' 31 = .int .i64 xk ∧ F' 32 = .bool false ∧ F' 51 = .bool false ∧ F' 108 = .bool false ∧ F' 130 = .bool true) ⟨e0, e1, e2, e5, e6, e7, e8, e29, e31, e32, e51, (e108.trans (congrArg Value.bool (decide_eq_false hc2))), rfl⟩ ?_
        clear e0 e1 e2 e5 e6 e7 e8 e29 e31 e32 e51 e108
        clear F
        rintro F ⟨e0, e1, e2, e5, e6, e7, e8, e29, e31, e32, e51, e108, e130⟩
        refine wp_cond_true (fr_eval rfl e130) ?_
        refine wp_seq ?_
        refine wp_regionF ?_
        refine lf_val (v := .pointer (some ⟨g, 0, none⟩)) (wantAll rfl) (rv_move rfl (fr_eval rfl e0)) ?_
        refine lf_val (v := .pointer (some ⟨g1, 1, none⟩)) (wantAll rfl) (rv_fieldAddr (n := 0) rfl (fr_eval rfl e5) Try.underlying83 rfl rfl (by kernel_rfl)) ?_
        refine lf_val (v := .int .i64 ((i : Nat) : Int)) (wantAll rfl) (rv_load1 rfl (hH.blk (i := 6) rfl) (zLs_g0 u.h0.2 u.h1.2 u.o.2 u.x.2 u.jh.2 u.r.h.2 u.r.b.2) (fr_eval rfl rfl) Try.underlying3 rfl Try.sz3) ?_
        replace hH : Heap _ _ _ [_, _, _, _, _, _, _] := hH.perm (.trans (.swap _ _ _) (.cons _ (.trans (.swap _ _ _) (.cons _ (.trans (.swap _ _ _) (.cons _ (.refl _)))))))
        replace hH : Heap _ _ _ [_, _, _, _, _, _, _] := hH.perm (.cons _ (.trans (.swap _ _ _) (.cons _ (.trans (.swap _ _ _) (.cons _ (.trans (.swap _ _ _) (.cons _ (.refl _))))))))
        replace hH : Heap _ _ _ [_, _, _, _, _, _, _] := hH.perm (.cons _ (.cons _ (.trans (.swap _ _ _) (.cons _ (.trans (.swap _ _ _) (.cons _ (.trans (.swap _ _ _) (.cons _ (.refl _)))))))))
        replace hH : Heap _ _ _ [_, _, _, _, _, _, _] := hH.perm (.cons _ (.cons _ (.cons _ (.trans (.swap _ _ _) (.cons _ (.trans (.swap _ _ _) (.cons _ (.trans (.swap _ _ _) (.cons _ (.refl _))))))))))
        refine lf_call (wantAll rfl) (rv_call (args := [.pointer (some ⟨g, 0, none⟩), .int .i64 ((i : Nat) : Int)]) rfl (evc (fr_eval rfl rfl) (evc (fr_eval rfl rfl) evn)) Try.call49) (netTwice_yes (Heap.partZ (L := [_, _, _, _]) (M := [_, _, _]) hH hZ) ls (by omega) lost (by omega) i (by omega) (Nat.le_trans (bd_at hbd (by omega)) (by decide)) (Heap.part (L := [_, _, _, _]) (M := [_, _, _]) hH)) ?_
        rintro _ w12 ⟨y6, ls1, lo1, S1, rfl, hk1, hP⟩
        refine ⟨_, rfl, ?_⟩
        have hx := hH.callChg (L := [_, _, _, _]) (M := [_, _, _]) (fun _ h => h) hP
        replace hH : Heap _ _ _ [_, _, _, _, _, _, _] := hH.call (L := [_, _, _, _]) (M := [_, _, _]) (fun _ h => h) hP (Stays.blk (hP.blk (i := 0) rfl) (Stays.own (hP.own (i := 1) rfl) (Stays.bag hZ (hP.bag (i := 2) rfl) Stays.nil)))
        clear hP
        clear hx
        obtain ⟨hll1, hlo1⟩ := put_len (by omega) hk1
        refine lf_val (v := .int .i64 0) (wantAll rfl) (rv_assign rfl (fr_eval rfl rfl)) ?_
        refine lf_nil ?_
        refine then_n ?_
        refine wp_seq ?_
        refine wp_seq ?_
        refine wp_gen (fun F' => F' 0 = .pointer (some ⟨g, 0, none⟩) ∧ F' 1 = .pointer (some ⟨h, 0, none⟩) ∧ F' 2 = .agg (([.int .i64 xk, .int .i64 ((i : Nat) : Int), .int .i64 xt, .int .i64 u.k, .int .i64 u.a, .int .i64 u.b, .int .i64 u.c0, .int .i64 u.c1, .int .i64 u.c2] : List Value) ++ (cBs u.h0.1 ++ (cBs u.h1.1 ++ (([.int .i64 u.g] : List Value) ++ (cBs u.o.1 ++ (([.int .i64 u.n] : List Value) ++ (cBs u.x.1 ++ (([.int .i64 u.jc, .int .i64 u.js] : List Value) ++ (cBs u.jh.1 ++ (([vb.1, .int .i64 u.r.t, .int .i64 u.r.c, .int .i64 u.r.s] : List Value) ++ (cBs u.r.h.1 ++ (cBs u.r.b.1 ++ ([vg.1, dv.1] : List Value))))))))))))).toArray ∧ F' 5 = .pointer (some ⟨g1, 0, none⟩) ∧ F' 6 = .bool false ∧ F' 7 = .bool true ∧ F' 8 = .int .i64 0 ∧ F' 12 = .int .i64 0 ∧ F' 29 = .bool false ∧ F' 31 = .int .i64 xk ∧ F' 32 = .bool false ∧ F' 51 = .bool false ∧ F' 108 = .bool false ∧ F' 130 = .bool true) ⟨e0, e1, e2, e5, e6, e7, e8, rfl, e29, e31, e32, e51, e108, e130⟩ ?_
        clear e0 e1 e2 e5 e6 e7 e8 e29 e31 e32 e51 e108 e130
        clear F
        rintro F ⟨e0, e1, e2, e5, e6, e7, e8, e12, e29, e31, e32, e51, e108, e130⟩
        refine wp_regionF ?_
        refine lf_val (v := .bool true) (wantAll rfl) (rv_move rfl (fr_eval rfl e7)) ?_
        refine lf_nil ?_
        refine then_n ?_
        refine wp_gen (fun F' => F' 0 = .pointer (some ⟨g, 0, none⟩) ∧ F' 1 = .pointer (some ⟨h, 0, none⟩) ∧ F' 2 = .agg (([.int .i64 xk, .int .i64 ((i : Nat) : Int), .int .i64 xt, .int .i64 u.k, .int .i64 u.a, .int .i64 u.b, .int .i64 u.c0, .int .i64 u.c1, .int .i64 u.c2] : List Value) ++ (cBs u.h0.1 ++ (cBs u.h1.1 ++ (([.int .i64 u.g] : List Value) ++ (cBs u.o.1 ++ (([.int .i64 u.n] : List Value) ++ (cBs u.x.1 ++ (([.int .i64 u.jc, .int .i64 u.js] : List Value) ++ (cBs u.jh.1 ++ (([vb.1, .int .i64 u.r.t, .int .i64 u.r.c, .int .i64 u.r.s] : List Value) ++ (cBs u.r.h.1 ++ (cBs u.r.b.1 ++ ([vg.1, dv.1] : List Value))))))))))))).toArray ∧ F' 5 = .pointer (some ⟨g1, 0, none⟩) ∧ F' 6 = .bool false ∧ F' 7 = .bool true ∧ F' 8 = .int .i64 0 ∧ F' 12 = .int .i64 0 ∧ F' 29 = .bool false ∧ F' 31 = .int .i64 xk ∧ F' 32 = .bool false ∧ F' 51 = .bool false ∧ F' 108 = .bool false ∧ F' 130 = .bool true ∧ F' 136 = .bool true) ⟨e0, e1, e2, e5, e6, e7, e8, e12, e29, e31, e32, e51, e108, e130, rfl⟩ ?_
        clear e0 e1 e2 e5 e6 e7 e8 e12 e29 e31 e32 e51 e108 e130
        clear F
        rintro F ⟨e0, e1, e2, e5, e6, e7, e8, e12, e29, e31, e32, e51, e108, e130, e136⟩
        refine wp_cond_true (fr_eval rfl e136) ?_
        by_cases hf2 : ps.length < 64
        · refine wp_regionX (fun _ => False) 9 (by kernel_rfl) (by kernel_rfl) ?_
          refine xl_take (i := 0) (v := .pointer (some ⟨h, 0, none⟩)) rfl (by kernel_rfl) (by kernel_rfl) (by kernel_rfl) (by kernel_rfl) (yx_val (wantAll rfl) (fun w' hx' => rv_move rfl (fr_eval rfl e1))) ?_
          refine xl_take (i := 1) (v := .pointer (some ⟨h, 0, none⟩)) rfl (by kernel_rfl) (by kernel_rfl) (by kernel_rfl) (by kernel_rfl) (yx_val (wantAll rfl) (fun w' hx' => rv_move rfl (fr_eval rfl e1))) ?_
          refine xl_take (i := 2) (v := .pointer (some ⟨h, 0, none⟩)) rfl (by kernel_rfl) (by kernel_rfl) (by kernel_rfl) (by kernel_rfl) (yx_val (wantAll rfl) (fun w' hx' => rv_nilCheck rfl (fr_eval rfl rfl))) ?_
          refine xl_take (i := 3) (v := .pointer (some ⟨h, 0, none⟩)) rfl (by kernel_rfl) (by kernel_rfl) (by kernel_rfl) (by kernel_rfl) (yx_val (wantAll rfl) (fun w' hx' => rv_fieldAddr (n := 0) rfl (fr_eval rfl rfl) Try.underlying72 rfl rfl (by kernel_rfl))) ?_
          refine xl_take (i := 4) (v := pv) rfl (by kernel_rfl) (by kernel_rfl) (by kernel_rfl) (by kernel_rfl) (yx_val (wantAll rfl) (fun w' hx' => rv_load1 rfl ((hH.ext hx').blk (i := 0) rfl) zLs_g1 (fr_eval rfl rfl) Try.underlying67 rfl Try.sz67)) ?_
          refine xl_take (i := 5) (v := .pointer (some ⟨g1, 1, none⟩)) rfl (by kernel_rfl) (by kernel_rfl) (by kernel_rfl) (by kernel_rfl) (yx_val (wantAll rfl) (fun w' hx' => rv_fieldAddr (n := 0) rfl (fr_eval rfl e5) Try.underlying83 rfl rfl (by kernel_rfl))) ?_
          refine xl_take (i := 6) (v := .int .i64 ((i : Nat) : Int)) rfl (by kernel_rfl) (by kernel_rfl) (by kernel_rfl) (by kernel_rfl) (yx_val (wantAll rfl) (fun w' hx' => rv_load1 rfl ((hH.ext hx').blk (i := 3) rfl) (zLs_g0 u.h0.2 u.h1.2 u.o.2 u.x.2 u.jh.2 u.r.h.2 u.r.b.2) (fr_eval rfl rfl) Try.underlying3 rfl Try.sz3)) ?_
          refine xl_take (i := 7) (v := .pointer (some (elemA pv (i * 2)))) rfl (by kernel_rfl) (by kernel_rfl) (by kernel_rfl) (by kernel_rfl) (yx_val (wantAll rfl) (fun w' hx' => rv_index rfl (fr_eval rfl rfl) (fr_eval rfl rfl) (rdN (Own.rd ((hH.ext hx').own (i := 1) rfl) (row_one cLt_one)) rfl) (show i < ps.length from (by omega)) Try.underlying67 Try.sz87 (by decide))) ?_
          refine xl_take (i := 8) (v := .agg #[.int .i64 ((List.getD ps i zLt).to), (List.getD ps i zLt).v.1]) rfl (by kernel_rfl) (by kernel_rfl) (by kernel_rfl) (by kernel_rfl) (yx_val (wantAll rfl) (fun w' hx' => rv_loadElem rfl (fr_eval rfl rfl) (rdN (Own.rd ((hH.ext hx').own (i := 1) rfl) (row_one cLt_one)) rfl) (show i < ps.length from (by omega)) (by decide) (flat_part zLt cLt_len (show i < ps.length from (by omega))) Try.underlying87 rfl Try.sz87)) ?_
          refine xl_tail (s := 9) rfl ?_
          intro w13 hx
          replace hH := hH.ext hx
          clear hx
          replace hH : Heap _ _ _ [_, _, _, _, _, _, _] := hH.perm (.trans (.swap _ _ _) (.cons _ (.trans (.swap _ _ _) (.cons _ (.refl _)))))
          replace hH : Heap _ _ _ [_, _, _, _, _, _, _] := hH.perm (.cons _ (.trans (.swap _ _ _) (.cons _ (.trans (.swap _ _ _) (.cons _ (.refl _))))))
          replace hH : Heap _ _ _ [_, _, _, _, _, _, _] := hH.perm (.cons _ (.cons _ (.trans (.swap _ _ _) (.cons _ (.trans (.swap _ _ _) (.cons _ (.refl _)))))))
          replace hH : Heap _ _ _ [_, _, _, _, _, _, _] := hH.perm (.cons _ (.cons _ (.cons _ (.trans (.swap _ _ _) (.cons _ (.trans (.swap _ _ _) (.cons _ (.refl _))))))))
          replace hH : Heap _ _ _ [_, _, _, _, _, _, _] := hH.perm (.cons _ (.cons _ (.cons _ (.cons _ (.trans (.swap _ _ _) (.cons _ (.trans (.swap _ _ _) (.cons _ (.refl _)))))))))
          refine lf_call (wantAll rfl) (rv_call (args := [.pointer (some ⟨h, 0, none⟩), .agg (cLt (List.getD ps i zLt)).toArray, .bool (decide True)]) rfl (evc (fr_eval rfl rfl) (evc (show _ = Value.agg (cLt (List.getD ps i zLt)).toArray from (fr_eval rfl rfl)) (evc (rfl.trans (congrArg Value.bool (decide_eq_true trivial).symm)) evn))) Try.call57) (plPut_calls ps (by omega) plost (by omega) (List.getD ps i zLt) True _ (Heap.part (L := [_, _, _, _, _]) (M := [_, _]) hH)) ?_
          rintro _ w14 ⟨y7, rfl, hQ⟩
          have hP := hQ.1 ⟨trivial, hf2⟩
          clear hQ
          refine ⟨_, rfl, ?_⟩
          have hx := hH.callChg (L := [_, _, _, _, _]) (M := [_, _]) (fun _ h => h) hP
          replace hH : Heap _ _ _ [_, _, _, _, _, _, _] := hH.call (L := [_, _, _, _, _]) (M := [_, _]) (fun _ h => h) hP (Stays.blk (hP.blk (i := 0) rfl) (Stays.own (hP.own (i := 1) rfl) Stays.nil))
          clear hP
          clear hx
          refine lf_nil ?_
          refine then_n ?_
          refine wp_seq ?_
          refine wp_gen (fun F' => F' 0 = .pointer (some ⟨g, 0, none⟩) ∧ F' 1 = .pointer (some ⟨h, 0, none⟩) ∧ F' 2 = .agg (([.int .i64 xk, .int .i64 ((i : Nat) : Int), .int .i64 xt, .int .i64 u.k, .int .i64 u.a, .int .i64 u.b, .int .i64 u.c0, .int .i64 u.c1, .int .i64 u.c2] : List Value) ++ (cBs u.h0.1 ++ (cBs u.h1.1 ++ (([.int .i64 u.g] : List Value) ++ (cBs u.o.1 ++ (([.int .i64 u.n] : List Value) ++ (cBs u.x.1 ++ (([.int .i64 u.jc, .int .i64 u.js] : List Value) ++ (cBs u.jh.1 ++ (([vb.1, .int .i64 u.r.t, .int .i64 u.r.c, .int .i64 u.r.s] : List Value) ++ (cBs u.r.h.1 ++ (cBs u.r.b.1 ++ ([vg.1, dv.1] : List Value))))))))))))).toArray ∧ F' 5 = .pointer (some ⟨g1, 0, none⟩) ∧ F' 6 = .bool false ∧ F' 7 = .bool true ∧ F' 8 = .int .i64 0 ∧ F' 12 = .int .i64 0 ∧ F' 29 = .bool false ∧ F' 31 = .int .i64 xk ∧ F' 32 = .bool false ∧ F' 51 = .bool false ∧ F' 108 = .bool false ∧ F' 130 = .bool true ∧ F' 136 = .bool true) ⟨e0, e1, e2, e5, e6, e7, e8, e12, e29, e31, e32, e51, e108, e130, e136⟩ ?_
          clear e0 e1 e2 e5 e6 e7 e8 e12 e29 e31 e32 e51 e108 e130 e136
          clear F
          rintro F ⟨e0, e1, e2, e5, e6, e7, e8, e12, e29, e31, e32, e51, e108, e130, e136⟩
          refine wp_regionF ?_
          refine lf_val (v := .int .i64 0) (wantAll rfl) (rv_move rfl (fr_eval rfl e12)) ?_
          refine lf_val (v := .int .i64 0) (wantAll rfl) (rv_move rfl (fr_eval rfl e8)) ?_
          refine lf_val (v := .bool true) (wantAll rfl) (rv_eql rfl (fr_eval rfl rfl) (fr_eval rfl rfl) (by decide)) ?_
          refine lf_val (v := .bool true) (wantAll rfl) (rv_assign rfl (fr_eval rfl rfl)) ?_
          refine lf_nil ?_
          refine then_n ?_
          refine wp_gen (fun F' => F' 0 = .pointer (some ⟨g, 0, none⟩) ∧ F' 1 = .pointer (some ⟨h, 0, none⟩) ∧ F' 2 = .agg (([.int .i64 xk, .int .i64 ((i : Nat) : Int), .int .i64 xt, .int .i64 u.k, .int .i64 u.a, .int .i64 u.b, .int .i64 u.c0, .int .i64 u.c1, .int .i64 u.c2] : List Value) ++ (cBs u.h0.1 ++ (cBs u.h1.1 ++ (([.int .i64 u.g] : List Value) ++ (cBs u.o.1 ++ (([.int .i64 u.n] : List Value) ++ (cBs u.x.1 ++ (([.int .i64 u.jc, .int .i64 u.js] : List Value) ++ (cBs u.jh.1 ++ (([vb.1, .int .i64 u.r.t, .int .i64 u.r.c, .int .i64 u.r.s] : List Value) ++ (cBs u.r.h.1 ++ (cBs u.r.b.1 ++ ([vg.1, dv.1] : List Value))))))))))))).toArray ∧ F' 5 = .pointer (some ⟨g1, 0, none⟩) ∧ F' 6 = .bool true ∧ F' 7 = .bool true ∧ F' 8 = .int .i64 0 ∧ F' 12 = .int .i64 0 ∧ F' 29 = .bool false ∧ F' 31 = .int .i64 xk ∧ F' 32 = .bool false ∧ F' 51 = .bool false ∧ F' 108 = .bool false ∧ F' 130 = .bool true ∧ F' 136 = .bool true) ⟨e0, e1, e2, e5, rfl, e7, e8, e12, e29, e31, e32, e51, e108, e130, e136⟩ ?_
          clear e0 e1 e2 e5 e6 e7 e8 e12 e29 e31 e32 e51 e108 e130 e136
          clear F
          rintro F ⟨e0, e1, e2, e5, e6, e7, e8, e12, e29, e31, e32, e51, e108, e130, e136⟩
          refine wp_ret ?_
          refine blk_ret ?_
          refine then_ret ?_
          replace hH : Heap _ _ _ [_, _, _, _, _, _, _] := hH.bagSub (ms := ps ++ [(List.getD ps i zLt)]) (i := 0) rfl (sub_dup (memL (by omega))) rfl
          have hF := hH
          replace hF : Heap _ _ _ [_, _, _, _, _, _] := hF.drop (.cons_cons _ (.cons _ (.cons_cons _ (.cons_cons _ (.cons_cons _ (.cons_cons _ (.cons_cons _ .slnil)))))))
          replace hF : Heap _ _ _ [_, _, _, _, _, _] := hF.perm (.trans (.swap _ _ _) (.cons _ (.refl _)))
          replace hF : Heap _ _ _ [_, _, _, _, _, _] := hF.perm (.cons _ (.trans (.swap _ _ _) (.cons _ (.refl _))))
          replace hF : Heap _ _ _ [_, _, _, _, _, _] := hF.perm (.cons _ (.cons _ (.trans (.swap _ _ _) (.cons _ (.refl _)))))
          replace hF : Heap _ _ _ [_, _, _, _, _, _] := hF.perm (.cons _ (.cons _ (.cons _ (.trans (.swap _ _ _) (.cons _ (.refl _))))))
          replace hF : Heap _ _ _ [_, _, _, _, _, _] := hF.perm (.cons _ (.cons _ (.cons _ (.cons _ (.trans (.swap _ _ _) (.cons _ (.refl _)))))))
          exact bodyPost_ret (v := (.bool true)) (res1 rfl (ro_tmp rfl e6)) rfl (⟨_, _, _, _, _, _, _, _, rfl, (kst_in hk1 heq (Prod.ext hat hab) trivial hf2), (by omega), (by first | omega | (simp only [List.length_cons, List.length_nil] at *; omega)), (bd_of hk1 (bd_put hbd (Nat.le_trans (bd_at hbd (by omega)) (Nat.le_refl _)))), hF⟩)
        · refine wp_regionX (fun _ => False) 9 (by kernel_rfl) (by kernel_rfl) ?_
          refine xl_take (i := 0) (v := .pointer (some ⟨h, 0, none⟩)) rfl (by kernel_rfl) (by kernel_rfl) (by kernel_rfl) (by kernel_rfl) (yx_val (wantAll rfl) (fun w' hx' => rv_move rfl (fr_eval rfl e1))) ?_
          refine xl_take (i := 1) (v := .pointer (some ⟨h, 0, none⟩)) rfl (by kernel_rfl) (by kernel_rfl) (by kernel_rfl) (by kernel_rfl) (yx_val (wantAll rfl) (fun w' hx' => rv_move rfl (fr_eval rfl e1))) ?_
          refine xl_take (i := 2) (v := .pointer (some ⟨h, 0, none⟩)) rfl (by kernel_rfl) (by kernel_rfl) (by kernel_rfl) (by kernel_rfl) (yx_val (wantAll rfl) (fun w' hx' => rv_nilCheck rfl (fr_eval rfl rfl))) ?_
          refine xl_take (i := 3) (v := .pointer (some ⟨h, 0, none⟩)) rfl (by kernel_rfl) (by kernel_rfl) (by kernel_rfl) (by kernel_rfl) (yx_val (wantAll rfl) (fun w' hx' => rv_fieldAddr (n := 0) rfl (fr_eval rfl rfl) Try.underlying72 rfl rfl (by kernel_rfl))) ?_
          refine xl_take (i := 4) (v := pv) rfl (by kernel_rfl) (by kernel_rfl) (by kernel_rfl) (by kernel_rfl) (yx_val (wantAll rfl) (fun w' hx' => rv_load1 rfl ((hH.ext hx').blk (i := 0) rfl) zLs_g1 (fr_eval rfl rfl) Try.underlying67 rfl Try.sz67)) ?_
          refine xl_take (i := 5) (v := .pointer (some ⟨g1, 1, none⟩)) rfl (by kernel_rfl) (by kernel_rfl) (by kernel_rfl) (by kernel_rfl) (yx_val (wantAll rfl) (fun w' hx' => rv_fieldAddr (n := 0) rfl (fr_eval rfl e5) Try.underlying83 rfl rfl (by kernel_rfl))) ?_
          refine xl_take (i := 6) (v := .int .i64 ((i : Nat) : Int)) rfl (by kernel_rfl) (by kernel_rfl) (by kernel_rfl) (by kernel_rfl) (yx_val (wantAll rfl) (fun w' hx' => rv_load1 rfl ((hH.ext hx').blk (i := 3) rfl) (zLs_g0 u.h0.2 u.h1.2 u.o.2 u.x.2 u.jh.2 u.r.h.2 u.r.b.2) (fr_eval rfl rfl) Try.underlying3 rfl Try.sz3)) ?_
          refine xl_take (i := 7) (v := .pointer (some (elemA pv (i * 2)))) rfl (by kernel_rfl) (by kernel_rfl) (by kernel_rfl) (by kernel_rfl) (yx_val (wantAll rfl) (fun w' hx' => rv_index rfl (fr_eval rfl rfl) (fr_eval rfl rfl) (rdN (Own.rd ((hH.ext hx').own (i := 1) rfl) (row_one cLt_one)) rfl) (show i < ps.length from (by omega)) Try.underlying67 Try.sz87 (by decide))) ?_
          refine xl_take (i := 8) (v := .agg #[.int .i64 ((List.getD ps i zLt).to), (List.getD ps i zLt).v.1]) rfl (by kernel_rfl) (by kernel_rfl) (by kernel_rfl) (by kernel_rfl) (yx_val (wantAll rfl) (fun w' hx' => rv_loadElem rfl (fr_eval rfl rfl) (rdN (Own.rd ((hH.ext hx').own (i := 1) rfl) (row_one cLt_one)) rfl) (show i < ps.length from (by omega)) (by decide) (flat_part zLt cLt_len (show i < ps.length from (by omega))) Try.underlying87 rfl Try.sz87)) ?_
          refine xl_tail (s := 9) rfl ?_
          intro w15 hx
          replace hH := hH.ext hx
          clear hx
          replace hH : Heap _ _ _ [_, _, _, _, _, _, _] := hH.perm (.trans (.swap _ _ _) (.cons _ (.trans (.swap _ _ _) (.cons _ (.refl _)))))
          replace hH : Heap _ _ _ [_, _, _, _, _, _, _] := hH.perm (.cons _ (.trans (.swap _ _ _) (.cons _ (.trans (.swap _ _ _) (.cons _ (.refl _))))))
          replace hH : Heap _ _ _ [_, _, _, _, _, _, _] := hH.perm (.cons _ (.cons _ (.trans (.swap _ _ _) (.cons _ (.trans (.swap _ _ _) (.cons _ (.refl _)))))))
          replace hH : Heap _ _ _ [_, _, _, _, _, _, _] := hH.perm (.cons _ (.cons _ (.cons _ (.trans (.swap _ _ _) (.cons _ (.trans (.swap _ _ _) (.cons _ (.refl _))))))))
          replace hH : Heap _ _ _ [_, _, _, _, _, _, _] := hH.perm (.cons _ (.cons _ (.cons _ (.cons _ (.trans (.swap _ _ _) (.cons _ (.trans (.swap _ _ _) (.cons _ (.refl _)))))))))
          refine lf_call (wantAll rfl) (rv_call (args := [.pointer (some ⟨h, 0, none⟩), .agg (cLt (List.getD ps i zLt)).toArray, .bool (decide True)]) rfl (evc (fr_eval rfl rfl) (evc (show _ = Value.agg (cLt (List.getD ps i zLt)).toArray from (fr_eval rfl rfl)) (evc (rfl.trans (congrArg Value.bool (decide_eq_true trivial).symm)) evn))) Try.call57) (plPut_calls ps (by omega) plost (by omega) (List.getD ps i zLt) True _ (Heap.part (L := [_, _, _, _, _]) (M := [_, _]) hH)) ?_
          rintro _ w16 ⟨y8, rfl, hQ⟩
          have hP := hQ.2 (fun q => hf2 q.2)
          clear hQ
          refine ⟨_, rfl, ?_⟩
          have hx := hH.callChg (L := [_, _, _, _, _]) (M := [_, _]) (fun _ h => h) hP
          replace hH : Heap _ _ _ [_, _, _, _, _, _, _] := hH.call (L := [_, _, _, _, _]) (M := [_, _]) (fun _ h => h) hP (Stays.blk (hP.blk (i := 0) rfl) (Stays.own (hP.own (i := 1) rfl) Stays.nil))
          clear hP
          clear hx
          refine lf_nil ?_
          refine then_n ?_
          refine wp_seq ?_
          refine wp_gen (fun F' => F' 0 = .pointer (some ⟨g, 0, none⟩) ∧ F' 1 = .pointer (some ⟨h, 0, none⟩) ∧ F' 2 = .agg (([.int .i64 xk, .int .i64 ((i : Nat) : Int), .int .i64 xt, .int .i64 u.k, .int .i64 u.a, .int .i64 u.b, .int .i64 u.c0, .int .i64 u.c1, .int .i64 u.c2] : List Value) ++ (cBs u.h0.1 ++ (cBs u.h1.1 ++ (([.int .i64 u.g] : List Value) ++ (cBs u.o.1 ++ (([.int .i64 u.n] : List Value) ++ (cBs u.x.1 ++ (([.int .i64 u.jc, .int .i64 u.js] : List Value) ++ (cBs u.jh.1 ++ (([vb.1, .int .i64 u.r.t, .int .i64 u.r.c, .int .i64 u.r.s] : List Value) ++ (cBs u.r.h.1 ++ (cBs u.r.b.1 ++ ([vg.1, dv.1] : List Value))))))))))))).toArray ∧ F' 5 = .pointer (some ⟨g1, 0, none⟩) ∧ F' 6 = .bool false ∧ F' 7 = .bool true ∧ F' 8 = .int .i64 0 ∧ F' 12 = .int .i64 0 ∧ F' 29 = .bool false ∧ F' 31 = .int .i64 xk ∧ F' 32 = .bool false ∧ F' 51 = .bool false ∧ F' 108 = .bool false ∧ F' 130 = .bool true ∧ F' 136 = .bool true) ⟨e0, e1, e2, e5, e6, e7, e8, e12, e29, e31, e32, e51, e108, e130, e136⟩ ?_
          clear e0 e1 e2 e5 e6 e7 e8 e12 e29 e31 e32 e51 e108 e130 e136
          clear F
          rintro F ⟨e0, e1, e2, e5, e6, e7, e8, e12, e29, e31, e32, e51, e108, e130, e136⟩
          refine wp_regionF ?_
          refine lf_val (v := .int .i64 0) (wantAll rfl) (rv_move rfl (fr_eval rfl e12)) ?_
          refine lf_val (v := .int .i64 0) (wantAll rfl) (rv_move rfl (fr_eval rfl e8)) ?_
          refine lf_val (v := .bool true) (wantAll rfl) (rv_eql rfl (fr_eval rfl rfl) (fr_eval rfl rfl) (by decide)) ?_
          refine lf_val (v := .bool true) (wantAll rfl) (rv_assign rfl (fr_eval rfl rfl)) ?_
          refine lf_nil ?_
          refine then_n ?_
          refine wp_gen (fun F' => F' 0 = .pointer (some ⟨g, 0, none⟩) ∧ F' 1 = .pointer (some ⟨h, 0, none⟩) ∧ F' 2 = .agg (([.int .i64 xk, .int .i64 ((i : Nat) : Int), .int .i64 xt, .int .i64 u.k, .int .i64 u.a, .int .i64 u.b, .int .i64 u.c0, .int .i64 u.c1, .int .i64 u.c2] : List Value) ++ (cBs u.h0.1 ++ (cBs u.h1.1 ++ (([.int .i64 u.g] : List Value) ++ (cBs u.o.1 ++ (([.int .i64 u.n] : List Value) ++ (cBs u.x.1 ++ (([.int .i64 u.jc, .int .i64 u.js] : List Value) ++ (cBs u.jh.1 ++ (([vb.1, .int .i64 u.r.t, .int .i64 u.r.c, .int .i64 u.r.s] : List Value) ++ (cBs u.r.h.1 ++ (cBs u.r.b.1 ++ ([vg.1, dv.1] : List Value))))))))))))).toArray ∧ F' 5 = .pointer (some ⟨g1, 0, none⟩) ∧ F' 6 = .bool true ∧ F' 7 = .bool true ∧ F' 8 = .int .i64 0 ∧ F' 12 = .int .i64 0 ∧ F' 29 = .bool false ∧ F' 31 = .int .i64 xk ∧ F' 32 = .bool false ∧ F' 51 = .bool false ∧ F' 108 = .bool false ∧ F' 130 = .bool true ∧ F' 136 = .bool true) ⟨e0, e1, e2, e5, rfl, e7, e8, e12, e29, e31, e32, e51, e108, e130, e136⟩ ?_
          clear e0 e1 e2 e5 e6 e7 e8 e12 e29 e31 e32 e51 e108 e130 e136
          clear F
          rintro F ⟨e0, e1, e2, e5, e6, e7, e8, e12, e29, e31, e32, e51, e108, e130, e136⟩
          refine wp_ret ?_
          refine blk_ret ?_
          refine then_ret ?_
          have hF := hH
          replace hF : Heap _ _ _ [_, _, _, _, _, _] := hF.drop (.cons_cons _ (.cons _ (.cons_cons _ (.cons_cons _ (.cons_cons _ (.cons_cons _ (.cons_cons _ .slnil)))))))
          replace hF : Heap _ _ _ [_, _, _, _, _, _] := hF.perm (.trans (.swap _ _ _) (.cons _ (.refl _)))
          replace hF : Heap _ _ _ [_, _, _, _, _, _] := hF.perm (.cons _ (.trans (.swap _ _ _) (.cons _ (.refl _))))
          replace hF : Heap _ _ _ [_, _, _, _, _, _] := hF.perm (.cons _ (.cons _ (.trans (.swap _ _ _) (.cons _ (.refl _)))))
          replace hF : Heap _ _ _ [_, _, _, _, _, _] := hF.perm (.cons _ (.cons _ (.cons _ (.trans (.swap _ _ _) (.cons _ (.refl _))))))
          replace hF : Heap _ _ _ [_, _, _, _, _, _] := hF.perm (.cons _ (.cons _ (.cons _ (.cons _ (.trans (.swap _ _ _) (.cons _ (.refl _)))))))
          exact bodyPost_ret (v := (.bool true)) (res1 rfl (ro_tmp rfl e6)) rfl (⟨_, _, _, _, _, _, _, _, rfl, (kst_out hk1 heq (fun q => hf2 q.2)), (by omega), (by first | omega | (simp only [List.length_cons, List.length_nil] at *; omega)), (bd_of hk1 (bd_put hbd (Nat.le_trans (bd_at hbd (by omega)) (Nat.le_refl _)))), hF⟩)
  · refine wp_regionF ?_
    refine lf_ex (wantAll rfl) (hx_box hH 83 (cs := ([.int .i64 xk, .int .i64 xi, .int .i64 xt, .int .i64 u.k, .int .i64 u.a, .int .i64 u.b, .int .i64 u.c0, .int .i64 u.c1, .int .i64 u.c2] : List Value) ++ (cBs u.h0.1 ++ (cBs u.h1.1 ++ (([.int .i64 u.g] : List Value) ++ (cBs u.o.1 ++ (([.int .i64 u.n] : List Value) ++ (cBs u.x.1 ++ (([.int .i64 u.jc, .int .i64 u.js] : List Value) ++ (cBs u.jh.1 ++ (([vb.1, .int .i64 u.r.t, .int .i64 u.r.c, .int .i64 u.r.s] : List Value) ++ (cBs u.r.h.1 ++ (cBs u.r.b.1 ++ ([vg.1, dv.1] : List Value))))))))))))) rfl (fr_eval rfl e2) (by rfl)) ?_
    clear hH
    rintro _ w17 ⟨g3, rfl, hH, hx⟩
    replace hH : Heap _ _ _ [_, _, _, _, _, _, _] := hH
    clear hx
    refine lf_val (v := .bool false) (wantAll rfl) (rv_assign rfl rfl) ?_
    refine lf_nil ?_
    refine then_n ?_
    refine wp_seq ?_
    refine wp_gen (fun F' => F' 0 = .pointer (some ⟨g, 0, none⟩) ∧ F' 1 = .pointer (some ⟨h, 0, none⟩) ∧ F' 2 = .agg (([.int .i64 xk, .int .i64 xi, .int .i64 xt, .int .i64 u.k, .int .i64 u.a, .int .i64 u.b, .int .i64 u.c0, .int .i64 u.c1, .int .i64 u.c2] : List Value) ++ (cBs u.h0.1 ++ (cBs u.h1.1 ++ (([.int .i64 u.g] : List Value) ++ (cBs u.o.1 ++ (([.int .i64 u.n] : List Value) ++ (cBs u.x.1 ++ (([.int .i64 u.jc, .int .i64 u.js] : List Value) ++ (cBs u.jh.1 ++ (([vb.1, .int .i64 u.r.t, .int .i64 u.r.c, .int .i64 u.r.s] : List Value) ++ (cBs u.r.h.1 ++ (cBs u.r.b.1 ++ ([vg.1, dv.1] : List Value))))))))))))).toArray ∧ F' 5 = .pointer (some ⟨g3, 0, none⟩) ∧ F' 6 = .bool false) ⟨e0, e1, e2, rfl, rfl⟩ ?_
    clear e0 e1 e2
    clear F
    rintro F ⟨e0, e1, e2, e5, e6⟩
    refine wp_cut (fun F wr => F 0 = .pointer (some ⟨g, 0, none⟩) ∧ F 1 = .pointer (some ⟨h, 0, none⟩) ∧ F 2 = .agg (([.int .i64 xk, .int .i64 xi, .int .i64 xt, .int .i64 u.k, .int .i64 u.a, .int .i64 u.b, .int .i64 u.c0, .int .i64 u.c1, .int .i64 u.c2] : List Value) ++ (cBs u.h0.1 ++ (cBs u.h1.1 ++ (([.int .i64 u.g] : List Value) ++ (cBs u.o.1 ++ (([.int .i64 u.n] : List Value) ++ (cBs u.x.1 ++ (([.int .i64 u.jc, .int .i64 u.js] : List Value) ++ (cBs u.jh.1 ++ (([vb.1, .int .i64 u.r.t, .int .i64 u.r.c, .int .i64 u.r.s] : List Value) ++ (cBs u.r.h.1 ++ (cBs u.r.b.1 ++ ([vg.1, dv.1] : List Value))))))))))))).toArray ∧ F 5 = .pointer (some ⟨g3, 0, none⟩) ∧ F 6 = .bool false ∧ F 7 = .bool false ∧ Heap (newK w K) w wr [oBlk g ([v, .int .i64 ((lost : Nat) : Int)]) 69, oRow cLt 87 2 v ls, oBag Z S ls, oBlk h ([pv, .int .i64 ((plost : Nat) : Int)]) 72, oRow cLt 87 2 pv ps, oBag Z Q ps, oBlk g3 (([.int .i64 xk, .int .i64 xi, .int .i64 xt, .int .i64 u.k, .int .i64 u.a, .int .i64 u.b, .int .i64 u.c0, .int .i64 u.c1, .int .i64 u.c2] : List Value) ++ (cBs u.h0.1 ++ (cBs u.h1.1 ++ (([.int .i64 u.g] : List Value) ++ (cBs u.o.1 ++ (([.int .i64 u.n] : List Value) ++ (cBs u.x.1 ++ (([.int .i64 u.jc, .int .i64 u.js] : List Value) ++ (cBs u.jh.1 ++ (([vb.1, .int .i64 u.r.t, .int .i64 u.r.c, .int .i64 u.r.s] : List Value) ++ (cBs u.r.h.1 ++ (cBs u.r.b.1 ++ ([vg.1, dv.1] : List Value))))))))))))) 83]) ?_ ?_
    · refine wp_regionX (fun _ => False) 11 (by kernel_rfl) (by kernel_rfl) ?_
      refine xl_take (i := 0) (v := .pointer (some ⟨g3, 1, none⟩)) rfl (by kernel_rfl) (by kernel_rfl) (by kernel_rfl) (by kernel_rfl) (yx_val (wantAll rfl) (fun w' hx' => rv_fieldAddr (n := 0) rfl (fr_eval rfl e5) Try.underlying83 rfl rfl (by kernel_rfl))) ?_
      refine xl_take (i := 1) (v := .int .i64 xi) rfl (by kernel_rfl) (by kernel_rfl) (by kernel_rfl) (by kernel_rfl) (yx_val (wantAll rfl) (fun w' hx' => rv_load1 rfl ((hH.ext hx').blk (i := 6) rfl) (zLs_g0 u.h0.2 u.h1.2 u.o.2 u.x.2 u.jh.2 u.r.h.2 u.r.b.2) (fr_eval rfl rfl) Try.underlying3 rfl Try.sz3)) ?_
      refine xl_take (i := 2) (v := .bool (decide (xi ≥ 0))) rfl (by kernel_rfl) (by kernel_rfl) (by kernel_rfl) (by kernel_rfl) (yx_val (wantAll rfl) (fun w' hx' => rv_geqP (p := xi ≥ 0) rfl (fr_eval rfl rfl) rfl Iff.rfl)) ?_
      refine xl_take (i := 3) (v := .bool (decide (xi ≥ 0))) rfl (by kernel_rfl) (by kernel_rfl) (by kernel_rfl) (by kernel_rfl) (yx_val (wantAll rfl) (fun w' hx' => rv_move rfl (fr_eval rfl rfl))) ?_
      by_cases hc3 : xi ≥ 0
      · refine xl_take (i := 4) (v := .pointer (some ⟨g3, 1, none⟩)) rfl (by kernel_rfl) (by kernel_rfl) (by kernel_rfl) (by kernel_rfl) (yx_val (wantF (d := 18) rfl (by kernel_rfl) rfl (congrArg Value.bool (decide_eq_true hc3))) (fun w' hx' => rv_fieldAddr (n := 0) rfl (fr_eval rfl e5) Try.underlying83 rfl rfl (by kernel_rfl))) ?_
        refine xl_take (i := 5) (v := .int .i64 xi) rfl (by kernel_rfl) (by kernel_rfl) (by kernel_rfl) (by kernel_rfl) (yx_val (wantF (d := 18) rfl (by kernel_rfl) rfl (congrArg Value.bool (decide_eq_true hc3))) (fun w' hx' => rv_load1 rfl ((hH.ext hx').blk (i := 6) rfl) (zLs_g0 u.h0.2 u.h1.2 u.o.2 u.x.2 u.jh.2 u.r.h.2 u.r.b.2) (fr_eval rfl rfl) Try.underlying3 rfl Try.sz3)) ?_
        refine xl_take (i := 6) (v := .pointer (some ⟨h, 0, none⟩)) rfl (by kernel_rfl) (by kernel_rfl) (by kernel_rfl) (by kernel_rfl) (yx_val (wantF (d := 18) rfl (by kernel_rfl) rfl (congrArg Value.bool (decide_eq_true hc3))) (fun w' hx' => rv_move rfl (fr_eval rfl e1))) ?_
        refine xl_take (i := 7) (v := .pointer (some ⟨h, 0, none⟩)) rfl (by kernel_rfl) (by kernel_rfl) (by kernel_rfl) (by kernel_rfl) (yx_val (wantF (d := 18) rfl (by kernel_rfl) rfl (congrArg Value.bool (decide_eq_true hc3))) (fun w' hx' => rv_nilCheck rfl (fr_eval rfl rfl))) ?_
        refine xl_take (i := 8) (v := .pointer (some ⟨h, 0, none⟩)) rfl (by kernel_rfl) (by kernel_rfl) (by kernel_rfl) (by kernel_rfl) (yx_val (wantF (d := 18) rfl (by kernel_rfl) rfl (congrArg Value.bool (decide_eq_true hc3))) (fun w' hx' => rv_fieldAddr (n := 0) rfl (fr_eval rfl rfl) Try.underlying72 rfl rfl (by kernel_rfl))) ?_
        refine xl_take (i := 9) (v := pv) rfl (by kernel_rfl) (by kernel_rfl) (by kernel_rfl) (by kernel_rfl) (yx_val (wantF (d := 18) rfl (by kernel_rfl) rfl (congrArg Value.bool (decide_eq_true hc3))) (fun w' hx' => rv_load1 rfl ((hH.ext hx').blk (i := 3) rfl) zLs_g1 (fr_eval rfl rfl) Try.underlying67 rfl Try.sz67)) ?_
        refine xl_take (i := 10) (v := .int .i64 ((ps.length : Nat) : Int)) rfl (by kernel_rfl) (by kernel_rfl) (by kernel_rfl) (by kernel_rfl) (yx_val (wantF (d := 18) rfl (by kernel_rfl) rfl (congrArg Value.bool (decide_eq_true hc3))) (fun w' hx' => rv_len rfl (fr_eval rfl rfl) (Own.rd ((hH.ext hx').own (i := 4) rfl) (row_one cLt_one)) Try.underlying67)) ?_
        refine xl_tail (s := 11) rfl ?_
        intro w18 hx
        replace hH := hH.ext hx
        clear hx
        refine lf_val (v := .bool false) (wantF (d := 18) rfl (by kernel_rfl) rfl (congrArg Value.bool (decide_eq_true hc3))) (rv_lss rfl (fr_eval rfl rfl) (fr_eval rfl rfl) (decide_eq_false (by omega))) ?_
        refine lf_val (v := .bool false) (wantAll rfl) (rv_pickT rfl (fr_eval rfl (congrArg Value.bool (decide_eq_true hc3))) (fr_eval rfl rfl)) ?_
        refine lf_val (v := .bool false) (wantAll rfl) (rv_assign rfl (fr_eval rfl rfl)) ?_
        refine lf_nil ?_
        exact ⟨_, rfl, e0, e1, e2, e5, e6, rfl, hH⟩
      · refine xl_take (i := 4) (v := undef) rfl (by kernel_rfl) (by kernel_rfl) (by kernel_rfl) (by kernel_rfl) (yx_not (wantNot (d := 18) rfl (by kernel_rfl) rfl (congrArg Value.bool (decide_eq_false hc3)))) ?_
        refine xl_take (i := 5) (v := undef) rfl (by kernel_rfl) (by kernel_rfl) (by kernel_rfl) (by kernel_rfl) (yx_not (wantNot (d := 18) rfl (by kernel_rfl) rfl (congrArg Value.bool (decide_eq_false hc3)))) ?_
        refine xl_take (i := 6) (v := undef) rfl (by kernel_rfl) (by kernel_rfl) (by kernel_rfl) (by kernel_rfl) (yx_not (wantNot (d := 18) rfl (by kernel_rfl) rfl (congrArg Value.bool (decide_eq_false hc3)))) ?_
        refine xl_take (i := 7) (v := undef) rfl (by kernel_rfl) (by kernel_rfl) (by kernel_rfl) (by kernel_rfl) (yx_not (wantNot (d := 18) rfl (by kernel_rfl) rfl (congrArg Value.bool (decide_eq_false hc3)))) ?_
        refine xl_take (i := 8) (v := undef) rfl (by kernel_rfl) (by kernel_rfl) (by kernel_rfl) (by kernel_rfl) (yx_not (wantNot (d := 18) rfl (by kernel_rfl) rfl (congrArg Value.bool (decide_eq_false hc3)))) ?_
        refine xl_take (i := 9) (v := undef) rfl (by kernel_rfl) (by kernel_rfl) (by kernel_rfl) (by kernel_rfl) (yx_not (wantNot (d := 18) rfl (by kernel_rfl) rfl (congrArg Value.bool (decide_eq_false hc3)))) ?_
        refine xl_take (i := 10) (v := undef) rfl (by kernel_rfl) (by kernel_rfl) (by kernel_rfl) (by kernel_rfl) (yx_not (wantNot (d := 18) rfl (by kernel_rfl) rfl (congrArg Value.bool (decide_eq_false hc3)))) ?_
        refine xl_tail (s := 11) rfl ?_
        intro w19 hx
        replace hH := hH.ext hx
        clear hx
        refine lf_not (wantNot (d := 18) rfl (by kernel_rfl) rfl (congrArg Value.bool (decide_eq_false hc3))) ?_
        refine lf_val (v := .bool false) (wantAll rfl) (rv_pickF rfl (fr_eval rfl (congrArg Value.bool (decide_eq_false hc3))) rfl) ?_
        refine lf_val (v := .bool false) (wantAll rfl) (rv_assign rfl (fr_eval rfl rfl)) ?_
        refine lf_nil ?_
        exact ⟨_, rfl, e0, e1, e2, e5, e6, rfl, hH⟩
    clear e0 e1 e2 e5 e6 hH
    clear F
    rintro F w20 ⟨e0, e1, e2, e5, e6, e7, hH⟩
    refine then_n ?_
    refine wp_seq ?_
    refine wp_regionF ?_
    refine lf_val (v := .int .i64 0) (wantAll rfl) (rv_assign rfl rfl) ?_
    refine lf_nil ?_
    refine then_n ?_
    refine wp_seq ?_
    refine wp_seq ?_
    refine wp_gen (fun F' => F' 0 = .pointer (some ⟨g, 0, none⟩) ∧ F' 1 = .pointer (some ⟨h, 0, none⟩) ∧ F' 2 = .agg (([.int .i64 xk, .int .i64 xi, .int .i64 xt, .int .i64 u.k, .int .i64 u.a, .int .i64 u.b, .int .i64 u.c0, .int .i64 u.c1, .int .i64 u.c2] : List Value) ++ (cBs u.h0.1 ++ (cBs u.h1.1 ++ (([.int .i64 u.g] : List Value) ++ (cBs u.o.1 ++ (([.int .i64 u.n] : List Value) ++ (cBs u.x.1 ++ (([.int .i64 u.jc, .int .i64 u.js] : List Value) ++ (cBs u.jh.1 ++ (([vb.1, .int .i64 u.r.t, .int .i64 u.r.c, .int .i64 u.r.s] : List Value) ++ (cBs u.r.h.1 ++ (cBs u.r.b.1 ++ ([vg.1, dv.1] : List Value))))))))))))).toArray ∧ F' 5 = .pointer (some ⟨g3, 0, none⟩) ∧ F' 6 = .bool false ∧ F' 7 = .bool false ∧ F' 8 = .int .i64 0) ⟨e0, e1, e2, e5, e6, e7, rfl⟩ ?_
    clear e0 e1 e2 e5 e6 e7
    clear F
    rintro F ⟨e0, e1, e2, e5, e6, e7, e8⟩
    refine wp_regionF ?_
    refine lf_val (v := .bool false) (wantAll rfl) (rv_move rfl (fr_eval rfl e7)) ?_
    refine lf_val (v := .bool true) (wantAll rfl) (rv_not (b := false) rfl (fr_eval rfl rfl)) ?_
    refine lf_nil ?_
    refine then_n ?_
    refine wp_gen (fun F' => F' 0 = .pointer (some ⟨g, 0, none⟩) ∧ F' 1 = .pointer (some ⟨h, 0, none⟩) ∧ F' 2 = .agg (([.int .i64 xk, .int .i64 xi, .int .i64 xt, .int .i64 u.k, .int .i64 u.a, .int .i64 u.b, .int .i64 u.c0, .int .i64 u.c1, .int .i64 u.c2] : List Value) ++ (cBs u.h0.1 ++ (cBs u.h1.1 ++ (([.int .i64 u.g] : List Value) ++ (cBs u.o.1 ++ (([.int .i64 u.n] : List Value) ++ (cBs u.x.1 ++ (([.int .i64 u.jc, .int .i64 u.js] : List Value) ++ (cBs u.jh.1 ++ (([vb.1, .int .i64 u.r.t, .int .i64 u.r.c, .int .i64 u.r.s] : List Value) ++ (cBs u.r.h.1 ++ (cBs u.r.b.1 ++ ([vg.1, dv.1] : List Value))))))))))))).toArray ∧ F' 5 = .pointer (some ⟨g3, 0, none⟩) ∧ F' 6 = .bool false ∧ F' 7 = .bool false ∧ F' 8 = .int .i64 0 ∧ F' 29 = .bool true) ⟨e0, e1, e2, e5, e6, e7, e8, rfl⟩ ?_
    clear e0 e1 e2 e5 e6 e7 e8
    clear F
    rintro F ⟨e0, e1, e2, e5, e6, e7, e8, e29⟩
    refine wp_cond_true (fr_eval rfl e29) ?_
    refine wp_regionF ?_
    refine lf_val (v := .int .i64 7) (wantAll rfl) (rv_assign rfl rfl) ?_
    refine lf_nil ?_
    refine then_n ?_
    refine wp_seq ?_
    refine wp_seq ?_
    refine wp_gen (fun F' => F' 0 = .pointer (some ⟨g, 0, none⟩) ∧ F' 1 = .pointer (some ⟨h, 0, none⟩) ∧ F' 2 = .agg (([.int .i64 xk, .int .i64 xi, .int .i64 xt, .int .i64 u.k, .int .i64 u.a, .int .i64 u.b, .int .i64 u.c0, .int .i64 u.c1, .int .i64 u.c2] : List Value) ++ (cBs u.h0.1 ++ (cBs u.h1.1 ++ (([.int .i64 u.g] : List Value) ++ (cBs u.o.1 ++ (([.int .i64 u.n] : List Value) ++ (cBs u.x.1 ++ (([.int .i64 u.jc, .int .i64 u.js] : List Value) ++ (cBs u.jh.1 ++ (([vb.1, .int .i64 u.r.t, .int .i64 u.r.c, .int .i64 u.r.s] : List Value) ++ (cBs u.r.h.1 ++ (cBs u.r.b.1 ++ ([vg.1, dv.1] : List Value))))))))))))).toArray ∧ F' 5 = .pointer (some ⟨g3, 0, none⟩) ∧ F' 6 = .bool false ∧ F' 7 = .bool false ∧ F' 8 = .int .i64 7 ∧ F' 29 = .bool true) ⟨e0, e1, e2, e5, e6, e7, rfl, e29⟩ ?_
    clear e0 e1 e2 e5 e6 e7 e8 e29
    clear F
    rintro F ⟨e0, e1, e2, e5, e6, e7, e8, e29⟩
    refine wp_regionF ?_
    refine lf_val (v := .pointer (some ⟨g3, 0, none⟩)) (wantAll rfl) (rv_fieldAddr (n := 0) rfl (fr_eval rfl e5) Try.underlying83 rfl rfl (by kernel_rfl)) ?_
    refine lf_val (v := .int .i64 xk) (wantAll rfl) (rv_load1 rfl (hH.blk (i := 6) rfl) (zLs_g2 u.h0.2 u.h1.2 u.o.2 u.x.2 u.jh.2 u.r.h.2 u.r.b.2) (fr_eval rfl rfl) Try.underlying3 rfl Try.sz3) ?_
    refine lf_nil ?_
    refine then_n ?_
    refine wp_block ?_
    refine wp_seq ?_
    refine wp_gen (fun F' => F' 0 = .pointer (some ⟨g, 0, none⟩) ∧ F' 1 = .pointer (some ⟨h, 0, none⟩) ∧ F' 2 = .agg (([.int .i64 xk, .int .i64 xi, .int .i64 xt, .int .i64 u.k, .int .i64 u.a, .int .i64 u.b, .int .i64 u.c0, .int .i64 u.c1, .int .i64 u.c2] : List Value) ++ (cBs u.h0.1 ++ (cBs u.h1.1 ++ (([.int .i64 u.g] : List Value) ++ (cBs u.o.1 ++ (([.int .i64 u.n] : List Value) ++ (cBs u.x.1 ++ (([.int .i64 u.jc, .int .i64 u.js] : List Value) ++ (cBs u.jh.1 ++ (([vb.1, .int .i64 u.r.t, .int .i64 u.r.c, .int .i64 u.r.s] : List Value) ++ (cBs u.r.h.1 ++ (cBs u.r.b.1 ++ ([vg.1, dv.1] : List Value))))))))))))).toArray ∧ F' 5 = .pointer (some ⟨g3, 0, none⟩) ∧ F' 6 = .bool false ∧ F' 7 = .bool false ∧ F' 8 = .int .i64 7 ∧ F' 29 = .bool true ∧ F' 31 = .int .i64 xk) ⟨e0, e1, e2, e5, e6, e7, e8, e29, rfl⟩ ?_
    clear e0 e1 e2 e5 e6 e7 e8 e29
    clear F
    rintro F ⟨e0, e1, e2, e5, e6, e7, e8, e29, e31⟩
    refine wp_regionF ?_
    refine lf_val (v := .bool false) (wantAll rfl) (rv_eql rfl (fr_eval rfl e31) rfl (decide_eq_false (by omega))) ?_
    refine lf_val (v := .bool false) (wantAll rfl) (rv_assign rfl (fr_eval rfl rfl)) ?_
    refine lf_nil ?_
    refine then_n ?_
    refine wp_gen (fun F' => F' 0 = .pointer (some ⟨g, 0, none⟩) ∧ F' 1 = .pointer (some ⟨h, 0, none⟩) ∧ F' 2 = .agg (([.int .i64 xk, .int .i64 xi, .int .i64 xt, .int .i64 u.k, .int .i64 u.a, .int .i64 u.b, .int .i64 u.c0, .int .i64 u.c1, .int .i64 u.c2] : List Value) ++ (cBs u.h0.1 ++ (cBs u.h1.1 ++ (([.int .i64 u.g] : List Value) ++ (cBs u.o.1 ++ (([.int .i64 u.n] : List Value) ++ (cBs u.x.1 ++ (([.int .i64 u.jc, .int .i64 u.js] : List Value) ++ (cBs u.jh.1 ++ (([vb.1, .int .i64 u.r.t, .int .i64 u.r.c, .int .i64 u.r.s] : List Value) ++ (cBs u.r.h.1 ++ (cBs u.r.b.1 ++ ([vg.1, dv.1] : List Value))))))))))))).toArray ∧ F' 5 = .pointer (some ⟨g3, 0, none⟩) ∧ F' 6 = .bool false ∧ F' 7 = .bool false ∧ F' 8 = .int .i64 7 ∧ F' 29 = .bool true ∧ F' 31 = .int .i64 xk ∧ F' 32 = .bool false) ⟨e0, e1, e2, e5, e6, e7, e8, e29, e31, rfl⟩ ?_
    clear e0 e1 e2 e5 e6 e7 e8 e29 e31
    clear F
    rintro F ⟨e0, e1, e2, e5, e6, e7, e8, e29, e31, e32⟩
    refine wp_cond_false (fr_eval rfl e32) ?_
    refine wp_seq ?_
    refine wp_regionF ?_
    refine lf_val (v := .bool (decide (xk = 4))) (wantAll rfl) (rv_eqlP (p := xk = 4) rfl (fr_eval rfl e31) rfl Iff.rfl) ?_
    refine lf_val (v := .bool (decide (xk = 4))) (wantAll rfl) (rv_assign rfl (fr_eval rfl rfl)) ?_
    refine lf_nil ?_
    refine then_n ?_
    refine wp_gen (fun F' => F' 0 = .pointer (some ⟨g, 0, none⟩) ∧ F' 1 = .pointer (some ⟨h, 0, none⟩) ∧ F' 2 = .agg (([.int .i64 xk, .int .i64 xi, .int .i64 xt, .int .i64 u.k, .int .i64 u.a, .int .i64 u.b, .int .i64 u.c0, .int .i64 u.c1, .int .i64 u.c2] : List Value) ++ (cBs u.h0.1 ++ (cBs u.h1.1 ++ (([.int .i64 u.g] : List Value) ++ (cBs u.o.1 ++ (([.int .i64 u.n] : List Value) ++ (cBs u.x.1 ++ (([.int .i64 u.jc, .int .i64 u.js] : List Value) ++ (cBs u.jh.1 ++ (([vb.1, .int .i64 u.r.t, .int .i64 u.r.c, .int .i64 u.r.s] : List Value) ++ (cBs u.r.h.1 ++ (cBs u.r.b.1 ++ ([vg.1, dv.1] : List Value))))))))))))).toArray ∧ F' 5 = .pointer (some ⟨g3, 0, none⟩) ∧ F' 6 = .bool false ∧ F' 7 = .bool false ∧ F' 8 = .int .i64 7 ∧ F' 29 = .bool true ∧ F' 31 = .int .i64 xk ∧ F' 32 = .bool false ∧ F' 51 = .bool (decide (xk = 4))) ⟨e0, e1, e2, e5, e6, e7, e8, e29, e31, e32, rfl⟩ ?_
    clear e0 e1 e2 e5 e6 e7 e8 e29 e31 e32
    clear F
    rintro F ⟨e0, e1, e2, e5, e6, e7, e8, e29, e31, e32, e51⟩
    by_cases hc4 : xk = 4
    · refine wp_cond_true (fr_eval rfl (e51.trans (congrArg Value.bool (decide_eq_true hc4)))) ?_
      refine wp_seq ?_
      refine wp_regionF ?_
      refine lf_val (v := .pointer (some ⟨g, 0, none⟩)) (wantAll rfl) (rv_move rfl (fr_eval rfl e0)) ?_
      refine lf_val (v := .pointer (some ⟨g3, 1, none⟩)) (wantAll rfl) (rv_fieldAddr (n := 0) rfl (fr_eval rfl e5) Try.underlying83 rfl rfl (by kernel_rfl)) ?_
      refine lf_val (v := .int .i64 xi) (wantAll rfl) (rv_load1 rfl (hH.blk (i := 6) rfl) (zLs_g0 u.h0.2 u.h1.2 u.o.2 u.x.2 u.jh.2 u.r.h.2 u.r.b.2) (fr_eval rfl rfl) Try.underlying3 rfl Try.sz3) ?_
      refine lf_call (wantAll rfl) (rv_call (args := [.pointer (some ⟨g, 0, none⟩), .int .i64 xi]) rfl (evc (fr_eval rfl rfl) (evc (fr_eval rfl rfl) evn)) Try.call47) (netTake_no ls (by omega) lost xi (by omega) _ (hH.blk (i := 0) rfl) (Own.rd (hH.own (i := 1) rfl) (row_one cLt_one))) ?_
      rintro _ w21 ⟨rfl, hx⟩
      refine ⟨_, rfl, ?_⟩
      replace hH := hH.ext hx
      clear hx
      refine lf_val (v := .tuple #[.agg #[.int .i64 0, .slice none 0 0], .int .i64 7]) (wantAll rfl) (rv_move rfl (fr_eval rfl rfl)) ?_
      refine lf_val (v := .agg #[.int .i64 0, .slice none 0 0]) (wantAll rfl) (rv_extract rfl (fr_eval rfl rfl) rfl) ?_
      refine lf_val (v := .int .i64 7) (wantAll rfl) (rv_extract rfl (fr_eval rfl rfl) rfl) ?_
      refine lf_ex (wantAll rfl) (hx_alloc hH 87 (z := .agg ([.int .i64 0, .slice none 0 0]).toArray) (n := 2) (cs := [.int .i64 0, .slice none 0 0]) rfl (by kernel_rfl) (by rfl)) ?_
      clear hH
      rintro _ w22 ⟨g4, rfl, hH, hx⟩
      replace hH : Heap _ _ _ [_, _, _, _, _, _, _, _] := hH
      clear hx
      refine lf_sk (wantAll rfl) (hx_storeW hH (i := 7) (cs := [.int .i64 0, .slice none 0 0]) rfl rfl rfl (fr_eval rfl rfl) (fr_eval rfl rfl) (sz_len Try.sz87 zLs_l8) ((zLs_l8).trans (zLs_l8).symm) (zLs_o9 rfl rfl)) ?_
      clear hH
      rintro w23 ⟨hH, hx⟩
      replace hH : Heap _ _ _ [_, _, _, _, _, _, _, _] := hH
      clear hx
      refine lf_val (v := .int .i64 7) (wantAll rfl) (rv_assign rfl (fr_eval rfl rfl)) ?_
      refine lf_nil ?_
      refine then_n ?_
      refine wp_seq ?_
      refine wp_seq ?_
      refine wp_gen (fun F' => F' 0 = .pointer (some ⟨g, 0, none⟩) ∧ F' 1 = .pointer (some ⟨h, 0, none⟩) ∧ F' 2 = .agg (([.int .i64 xk, .int .i64 xi, .int .i64 xt, .int .i64 u.k, .int .i64 u.a, .int .i64 u.b, .int .i64 u.c0, .int .i64 u.c1, .int .i64 u.c2] : List Value) ++ (cBs u.h0.1 ++ (cBs u.h1.1 ++ (([.int .i64 u.g] : List Value) ++ (cBs u.o.1 ++ (([.int .i64 u.n] : List Value) ++ (cBs u.x.1 ++ (([.int .i64 u.jc, .int .i64 u.js] : List Value) ++ (cBs u.jh.1 ++ (([vb.1, .int .i64 u.r.t, .int .i64 u.r.c, .int .i64 u.r.s] : List Value) ++ (cBs u.r.h.1 ++ (cBs u.r.b.1 ++ ([vg.1, dv.1] : List Value))))))))))))).toArray ∧ F' 5 = .pointer (some ⟨g3, 0, none⟩) ∧ F' 6 = .bool false ∧ F' 7 = .bool false ∧ F' 8 = .int .i64 7 ∧ F' 9 = .pointer (some ⟨g4, 0, none⟩) ∧ F' 10 = .int .i64 7 ∧ F' 29 = .bool true ∧ F' 31 = .int .i64 xk ∧ F' 32 = .bool false ∧ F' 51 = .bool true) ⟨e0, e1, e2, e5, e6, e7, e8, rfl, rfl, e29, e31, e32, (e51.trans (congrArg Value.bool (decide_eq_true hc4)))⟩ ?_
      clear e0 e1 e2 e5 e6 e7 e8 e29 e31 e32 e51
      clear F
      rintro F ⟨e0, e1, e2, e5, e6, e7, e8, e9, e10, e29, e31, e32, e51⟩
      refine wp_regionX (fun _ => False) 28 (by kernel_rfl) (by kernel_rfl) ?_
      refine xl_take (i := 0) (v := .bool false) rfl (by kernel_rfl) (by kernel_rfl) (by kernel_rfl) (by kernel_rfl) (yx_val (wantAll rfl) (fun w' hx' => rv_move rfl (fr_eval rfl e7))) ?_
      refine xl_take (i := 1) (v := .bool false) rfl (by kernel_rfl) (by kernel_rfl) (by kernel_rfl) (by kernel_rfl) (yx_val (wantAll rfl) (fun w' hx' => rv_move rfl (fr_eval rfl rfl))) ?_
      refine xl_take (i := 2) (v := undef) rfl (by kernel_rfl) (by kernel_rfl) (by kernel_rfl) (by kernel_rfl) (yx_not (wantNot (d := 61) rfl (by kernel_rfl) rfl rfl)) ?_
      refine xl_take (i := 3) (v := undef) rfl (by kernel_rfl) (by kernel_rfl) (by kernel_rfl) (by kernel_rfl) (yx_not (wantNot (d := 61) rfl (by kernel_rfl) rfl rfl)) ?_
      refine xl_take (i := 4) (v := undef) rfl (by kernel_rfl) (by kernel_rfl) (by kernel_rfl) (by kernel_rfl) (yx_not (wantNot (d := 61) rfl (by kernel_rfl) rfl rfl)) ?_
      refine xl_take (i := 5) (v := undef) rfl (by kernel_rfl) (by kernel_rfl) (by kernel_rfl) (by kernel_rfl) (yx_not (wantNot (d := 61) rfl (by kernel_rfl) rfl rfl)) ?_
      refine xl_take (i := 6) (v := undef) rfl (by kernel_rfl) (by kernel_rfl) (by kernel_rfl) (by kernel_rfl) (yx_not (wantNot (d := 61) rfl (by kernel_rfl) rfl rfl)) ?_
      refine xl_take (i := 7) (v := undef) rfl (by kernel_rfl) (by kernel_rfl) (by kernel_rfl) (by kernel_rfl) (yx_not (wantNot (d := 61) rfl (by kernel_rfl) rfl rfl)) ?_
      refine xl_take (i := 8) (v := undef) rfl (by kernel_rfl) (by kernel_rfl) (by kernel_rfl) (by kernel_rfl) (yx_not (wantNot (d := 61) rfl (by kernel_rfl) rfl rfl)) ?_
      refine xl_take (i := 9) (v := undef) rfl (by kernel_rfl) (by kernel_rfl) (by kernel_rfl) (by kernel_rfl) (yx_not (wantNot (d := 61) rfl (by kernel_rfl) rfl rfl)) ?_
      refine xl_take (i := 10) (v := undef) rfl (by kernel_rfl) (by kernel_rfl) (by kernel_rfl) (by kernel_rfl) (yx_not (wantNot (d := 61) rfl (by kernel_rfl) rfl rfl)) ?_
      refine xl_take (i := 11) (v := undef) rfl (by kernel_rfl) (by kernel_rfl) (by kernel_rfl) (by kernel_rfl) (yx_not (wantNot (d := 61) rfl (by kernel_rfl) rfl rfl)) ?_
      refine xl_take (i := 12) (v := undef) rfl (by kernel_rfl) (by kernel_rfl) (by kernel_rfl) (by kernel_rfl) (yx_not (wantNot (d := 61) rfl (by kernel_rfl) rfl rfl)) ?_
      refine xl_take (i := 13) (v := undef) rfl (by kernel_rfl) (by kernel_rfl) (by kernel_rfl) (by kernel_rfl) (yx_not (wantNot (d := 61) rfl (by kernel_rfl) rfl rfl)) ?_
      refine xl_take (i := 14) (v := undef) rfl (by kernel_rfl) (by kernel_rfl) (by kernel_rfl) (by kernel_rfl) (yx_not (wantNot (d := 61) rfl (by kernel_rfl) rfl rfl)) ?_
      refine xl_take (i := 15) (v := undef) rfl (by kernel_rfl) (by kernel_rfl) (by kernel_rfl) (by kernel_rfl) (yx_not (wantU (d := 74) rfl (by kernel_rfl) rfl rfl)) ?_
      refine xl_take (i := 16) (v := undef) rfl (by kernel_rfl) (by kernel_rfl) (by kernel_rfl) (by kernel_rfl) (yx_not (wantU (d := 74) rfl (by kernel_rfl) rfl rfl)) ?_
      refine xl_take (i := 17) (v := undef) rfl (by kernel_rfl) (by kernel_rfl) (by kernel_rfl) (by kernel_rfl) (yx_not (wantU (d := 74) rfl (by kernel_rfl) rfl rfl)) ?_
      refine xl_take (i := 18) (v := undef) rfl (by kernel_rfl) (by kernel_rfl) (by kernel_rfl) (by kernel_rfl) (yx_not (wantU (d := 74) rfl (by kernel_rfl) rfl rfl)) ?_
      refine xl_take (i := 19) (v := undef) rfl (by kernel_rfl) (by kernel_rfl) (by kernel_rfl) (by kernel_rfl) (yx_not (wantU (d := 74) rfl (by kernel_rfl) rfl rfl)) ?_
      refine xl_take (i := 20) (v := undef) rfl (by kernel_rfl) (by kernel_rfl) (by kernel_rfl) (by kernel_rfl) (yx_not (wantU (d := 74) rfl (by kernel_rfl) rfl rfl)) ?_
      refine xl_take (i := 21) (v := undef) rfl (by kernel_rfl) (by kernel_rfl) (by kernel_rfl) (by kernel_rfl) (yx_not (wantU (d := 74) rfl (by kernel_rfl) rfl rfl)) ?_
      refine xl_take (i := 22) (v := undef) rfl (by kernel_rfl) (by kernel_rfl) (by kernel_rfl) (by kernel_rfl) (yx_not (wantU (d := 74) rfl (by kernel_rfl) rfl rfl)) ?_
      refine xl_take (i := 23) (v := undef) rfl (by kernel_rfl) (by kernel_rfl) (by kernel_rfl) (by kernel_rfl) (yx_not (wantU (d := 74) rfl (by kernel_rfl) rfl rfl)) ?_
      refine xl_take (i := 24) (v := undef) rfl (by kernel_rfl) (by kernel_rfl) (by kernel_rfl) (by kernel_rfl) (yx_not (wantU (d := 74) rfl (by kernel_rfl) rfl rfl)) ?_
      refine xl_take (i := 25) (v := undef) rfl (by kernel_rfl) (by kernel_rfl) (by kernel_rfl) (by kernel_rfl) (yx_not (wantU (d := 74) rfl (by kernel_rfl) rfl rfl)) ?_
      refine xl_take (i := 26) (v := undef) rfl (by kernel_rfl) (by kernel_rfl) (by kernel_rfl) (by kernel_rfl) (yx_not (wantU (d := 74) rfl (by kernel_rfl) rfl rfl)) ?_
      refine xl_take (i := 27) (v := undef) rfl (by kernel_rfl) (by kernel_rfl) (by kernel_rfl) (by kernel_rfl) (yx_not (wantU (d := 74) rfl (by kernel_rfl) rfl rfl)) ?_
      refine xl_tail (s := 28) rfl ?_
      intro w24 hx
      replace hH := hH.ext hx
      clear hx
      refine lf_not (wantU (d := 74) rfl (by kernel_rfl) rfl rfl) ?_
      refine lf_not (wantNot (d := 61) rfl (by kernel_rfl) rfl rfl) ?_
      refine lf_val (v := .bool false) (wantAll rfl) (rv_pickF rfl (fr_eval rfl rfl) rfl) ?_
      refine lf_nil ?_
      refine then_n ?_
      refine wp_gen (fun F' => F' 0 = .pointer (some ⟨g, 0, none⟩) ∧ F' 1 = .pointer (some ⟨h, 0, none⟩) ∧ F' 2 = .agg (([.int .i64 xk, .int .i64 xi, .int .i64 xt, .int .i64 u.k, .int .i64 u.a, .int .i64 u.b, .int .i64 u.c0, .int .i64 u.c1, .int .i64 u.c2] : List Value) ++ (cBs u.h0.1 ++ (cBs u.h1.1 ++ (([.int .i64 u.g] : List Value) ++ (cBs u.o.1 ++ (([.int .i64 u.n] : List Value) ++ (cBs u.x.1 ++ (([.int .i64 u.jc, .int .i64 u.js] : List Value) ++ (cBs u.jh.1 ++ (([vb.1, .int .i64 u.r.t, .int .i64 u.r.c, .int .i64 u.r.s] : List Value) ++ (cBs u.r.h.1 ++ (cBs u.r.b.1 ++ ([vg.1, dv.1] : List Value))))))))))))).toArray ∧ F' 5 = .pointer (some ⟨g3, 0, none⟩) ∧ F' 6 = .bool false ∧ F' 7 = .bool false ∧ F' 8 = .int .i64 7 ∧ F' 9 = .pointer (some ⟨g4, 0, none⟩) ∧ F' 10 = .int .i64 7 ∧ F' 29 = .bool true ∧ F' 31 = .int .i64 xk ∧ F' 32 = .bool false ∧ F' 51 = .bool true ∧ F' 90 = .bool false) ⟨e0, e1, e2, e5, e6, e7, e8, e9, e10, e29, e31, e32, e51, rfl⟩ ?_
      clear e0 e1 e2 e5 e6 e7 e8 e9 e10 e29 e31 e32 e51
      clear F
      rintro F ⟨e0, e1, e2, e5, e6, e7, e8, e9, e10, e29, e31, e32, e51, e90⟩
      refine wp_cond_false (fr_eval rfl e90) ?_
      refine wp_skip ?_
      refine then_n ?_
      refine wp_seq ?_
      refine wp_seq ?_
      refine wp_regionF ?_
      refine lf_val (v := .bool false) (wantAll rfl) (rv_move rfl (fr_eval rfl e7)) ?_
      refine lf_nil ?_
      refine then_n ?_
      refine wp_gen (fun F' => F' 0 = .pointer (some ⟨g, 0, none⟩) ∧ F' 1 = .pointer (some ⟨h, 0, none⟩) ∧ F' 2 = .agg (([.int .i64 xk, .int .i64 xi, .int .i64 xt, .int .i64 u.k, .int .i64 u.a, .int .i64 u.b, .int .i64 u.c0, .int .i64 u.c1, .int .i64 u.c2] : List Value) ++ (cBs u.h0.1 ++ (cBs u.h1.1 ++ (([.int .i64 u.g] : List Value) ++ (cBs u.o.1 ++ (([.int .i64 u.n] : List Value) ++ (cBs u.x.1 ++ (([.int .i64 u.jc, .int .i64 u.js] : List Value) ++ (cBs u.jh.1 ++ (([vb.1, .int .i64 u.r.t, .int .i64 u.r.c, .int .i64 u.r.s] : List Value) ++ (cBs u.r.h.1 ++ (cBs u.r.b.1 ++ ([vg.1, dv.1] : List Value))))))))))))).toArray ∧ F' 5 = .pointer (some ⟨g3, 0, none⟩) ∧ F' 6 = .bool false ∧ F' 7 = .bool false ∧ F' 8 = .int .i64 7 ∧ F' 9 = .pointer (some ⟨g4, 0, none⟩) ∧ F' 10 = .int .i64 7 ∧ F' 29 = .bool true ∧ F' 31 = .int .i64 xk ∧ F' 32 = .bool false ∧ F' 51 = .bool true ∧ F' 90 = .bool false ∧ F' 91 = .bool false) ⟨e0, e1, e2, e5, e6, e7, e8, e9, e10, e29, e31, e32, e51, e90, rfl⟩ ?_
      clear e0 e1 e2 e5 e6 e7 e8 e9 e10 e29 e31 e32 e51 e90
      clear F
      rintro F ⟨e0, e1, e2, e5, e6, e7, e8, e9, e10, e29, e31, e32, e51, e90, e91⟩
      refine wp_cond_false (fr_eval rfl e91) ?_
      refine wp_skip ?_
      refine then_n ?_
      refine wp_seq ?_
      refine wp_regionF ?_
      refine lf_val (v := .int .i64 7) (wantAll rfl) (rv_move rfl (fr_eval rfl e10)) ?_
      refine lf_val (v := .int .i64 7) (wantAll rfl) (rv_move rfl (fr_eval rfl e8)) ?_
      refine lf_val (v := .bool true) (wantAll rfl) (rv_eql rfl (fr_eval rfl rfl) (fr_eval rfl rfl) (by decide)) ?_
      refine lf_val (v := .bool true) (wantAll rfl) (rv_move rfl (fr_eval rfl rfl)) ?_
      refine lf_val (v := .bool false) (wantF (d := 99) rfl (by kernel_rfl) rfl rfl) (rv_move rfl (fr_eval rfl e7)) ?_
      refine lf_val (v := .bool false) (wantF (d := 99) rfl (by kernel_rfl) rfl rfl) (rv_move rfl (fr_eval rfl rfl)) ?_
      refine lf_val (v := .pointer (some ⟨g4, 1, none⟩)) (wantF (d := 101) rfl (by kernel_rfl) rfl rfl) (rv_fieldAddr (n := 0) rfl (fr_eval rfl e9) Try.underlying87 rfl rfl (by kernel_rfl)) ?_
      refine lf_val (v := .slice none 0 0) (wantF (d := 101) rfl (by kernel_rfl) rfl rfl) (rv_load1 rfl (hH.blk (i := 7) rfl) zLs_g10 (fr_eval rfl rfl) Try.underlying22 rfl Try.sz22) ?_
      refine lf_val (v := .int .i64 0) (wantF (d := 101) rfl (by kernel_rfl) rfl rfl) (rv_len rfl (fr_eval rfl rfl) (Rd.nil (size := 1)) Try.underlying22) ?_
      refine lf_val (v := .bool true) (wantF (d := 101) rfl (by kernel_rfl) rfl rfl) (rv_eql rfl (fr_eval rfl rfl) rfl (by decide)) ?_
      refine lf_val (v := .bool true) (wantF (d := 99) rfl (by kernel_rfl) rfl rfl) (rv_pickF rfl (fr_eval rfl rfl) (fr_eval rfl rfl)) ?_
      refine lf_val (v := .bool true) (wantAll rfl) (rv_pickT rfl (fr_eval rfl rfl) (fr_eval rfl rfl)) ?_
      refine lf_val (v := .bool true) (wantAll rfl) (rv_assign rfl (fr_eval rfl rfl)) ?_
      refine lf_nil ?_
      refine then_n ?_
      refine wp_gen (fun F' => F' 0 = .pointer (some ⟨g, 0, none⟩) ∧ F' 1 = .pointer (some ⟨h, 0, none⟩) ∧ F' 2 = .agg (([.int .i64 xk, .int .i64 xi, .int .i64 xt, .int .i64 u.k, .int .i64 u.a, .int .i64 u.b, .int .i64 u.c0, .int .i64 u.c1, .int .i64 u.c2] : List Value) ++ (cBs u.h0.1 ++ (cBs u.h1.1 ++ (([.int .i64 u.g] : List Value) ++ (cBs u.o.1 ++ (([.int .i64 u.n] : List Value) ++ (cBs u.x.1 ++ (([.int .i64 u.jc, .int .i64 u.js] : List Value) ++ (cBs u.jh.1 ++ (([vb.1, .int .i64 u.r.t, .int .i64 u.r.c, .int .i64 u.r.s] : List Value) ++ (cBs u.r.h.1 ++ (cBs u.r.b.1 ++ ([vg.1, dv.1] : List Value))))))))))))).toArray ∧ F' 5 = .pointer (some ⟨g3, 0, none⟩) ∧ F' 6 = .bool true ∧ F' 7 = .bool false ∧ F' 8 = .int .i64 7 ∧ F' 9 = .pointer (some ⟨g4, 0, none⟩) ∧ F' 10 = .int .i64 7 ∧ F' 29 = .bool true ∧ F' 31 = .int .i64 xk ∧ F' 32 = .bool false ∧ F' 51 = .bool true ∧ F' 90 = .bool false ∧ F' 91 = .bool false) ⟨e0, e1, e2, e5, rfl, e7, e8, e9, e10, e29, e31, e32, e51, e90, e91⟩ ?_
      clear e0 e1 e2 e5 e6 e7 e8 e9 e10 e29 e31 e32 e51 e90 e91
      clear F
      rintro F ⟨e0, e1, e2, e5, e6, e7, e8, e9, e10, e29, e31, e32, e51, e90, e91⟩
      refine wp_ret ?_
      refine blk_ret ?_
      refine then_ret ?_
      have hF := hH
      replace hF : Heap _ _ _ [_, _, _, _, _, _] := hF.drop (.cons_cons _ (.cons_cons _ (.cons_cons _ (.cons_cons _ (.cons_cons _ (.cons_cons _ (.cons _ (.cons _ .slnil))))))))
      exact bodyPost_ret (v := (.bool true)) (res1 rfl (ro_tmp rfl e6)) rfl (⟨_, _, _, _, _, _, _, _, rfl, heq, (by omega), (by first | omega | (simp only [List.length_cons, List.length_nil] at *; omega)), hbd, hF⟩)
    · refine wp_cond_false (fr_eval rfl (e51.trans (congrArg Value.bool (decide_eq_false hc4)))) ?_
      refine wp_seq ?_
      refine wp_regionF ?_
      refine lf_val (v := .bool (decide (xk = 5))) (wantAll rfl) (rv_eqlP (p := xk = 5) rfl (fr_eval rfl e31) rfl Iff.rfl) ?_
      refine lf_val (v := .bool (decide (xk = 5))) (wantAll rfl) (rv_assign rfl (fr_eval rfl rfl)) ?_
      refine lf_nil ?_
      refine then_n ?_
      refine wp_gen (fun F' => F' 0 = .pointer (some ⟨g, 0, none⟩) ∧ F' 1 = .pointer (some ⟨h, 0, none⟩) ∧ F' 2 = .agg (([.int .i64 xk, .int .i64 xi, .int .i64 xt, .int .i64 u.k, .int .i64 u.a, .int .i64 u.b, .int .i64 u.c0, .int .i64 u.c1, .int .i64 u.c2] : List Value) ++ (cBs u.h0.1 ++ (cBs u.h1.1 ++ (([.int .i64 u.g] : List Value) ++ (cBs u.o.1 ++ (([.int .i64 u.n] : List Value) ++ (cBs u.x.1 ++ (([.int .i64 u.jc, .int .i64 u.js] : List Value) ++ (cBs u.jh.1 ++ (([vb.1, .int .i64 u.r.t, .int .i64 u.r.c, .int .i64 u.r.s] : List Value) ++ (cBs u.r.h.1 ++ (cBs u.r.b.1 ++ ([vg.1, dv.1] : List Value))))))))))))).toArray ∧ F' 5 = .pointer (some ⟨g3, 0, none⟩) ∧ F' 6 = .bool false ∧ F' 7 = .bool false ∧ F' 8 = .int .i64 7 ∧ F' 29 = .bool true ∧ F' 31 = .int .i64 xk ∧ F' 32 = .bool false ∧ F' 51 = .bool false ∧ F' 108 = .bool (decide (xk = 5))) ⟨e0, e1, e2, e5, e6, e7, e8, e29, e31, e32, (e51.trans (congrArg Value.bool (decide_eq_false hc4))), rfl⟩ ?_
      clear e0 e1 e2 e5 e6 e7 e8 e29 e31 e32 e51
      clear F
      rintro F ⟨e0, e1, e2, e5, e6, e7, e8, e29, e31, e32, e51, e108⟩
      by_cases hc5 : xk = 5
      · refine wp_cond_true (fr_eval rfl (e108.trans (congrArg Value.bool (decide_eq_true hc5)))) ?_
        refine wp_seq ?_
        refine wp_regionF ?_
        refine lf_val (v := .pointer (some ⟨g, 0, none⟩)) (wantAll rfl) (rv_move rfl (fr_eval rfl e0)) ?_
        refine lf_val (v := .pointer (some ⟨g3, 1, none⟩)) (wantAll rfl) (rv_fieldAddr (n := 0) rfl (fr_eval rfl e5) Try.underlying83 rfl rfl (by kernel_rfl)) ?_
        refine lf_val (v := .int .i64 xi) (wantAll rfl) (rv_load1 rfl (hH.blk (i := 6) rfl) (zLs_g0 u.h0.2 u.h1.2 u.o.2 u.x.2 u.jh.2 u.r.h.2 u.r.b.2) (fr_eval rfl rfl) Try.underlying3 rfl Try.sz3) ?_
        refine lf_call (wantAll rfl) (rv_call (args := [.pointer (some ⟨g, 0, none⟩), .int .i64 xi]) rfl (evc (fr_eval rfl rfl) (evc (fr_eval rfl rfl) evn)) Try.call48) (netLose_no ls (by omega) lost xi (by omega) _ (hH.blk (i := 0) rfl) (Own.rd (hH.own (i := 1) rfl) (row_one cLt_one))) ?_
        rintro _ w25 ⟨rfl, hx⟩
        refine ⟨_, rfl, ?_⟩
        replace hH := hH.ext hx
        clear hx
        refine lf_val (v := .int .i64 7) (wantAll rfl) (rv_assign rfl (fr_eval rfl rfl)) ?_
        refine lf_nil ?_
        refine then_n ?_
        refine wp_seq ?_
        refine wp_seq ?_
        refine wp_gen (fun F' => F' 0 = .pointer (some ⟨g, 0, none⟩) ∧ F' 1 = .pointer (some ⟨h, 0, none⟩) ∧ F' 2 = .agg (([.int .i64 xk, .int .i64 xi, .int .i64 xt, .int .i64 u.k, .int .i64 u.a, .int .i64 u.b, .int .i64 u.c0, .int .i64 u.c1, .int .i64 u.c2] : List Value) ++ (cBs u.h0.1 ++ (cBs u.h1.1 ++ (([.int .i64 u.g] : List Value) ++ (cBs u.o.1 ++ (([.int .i64 u.n] : List Value) ++ (cBs u.x.1 ++ (([.int .i64 u.jc, .int .i64 u.js] : List Value) ++ (cBs u.jh.1 ++ (([vb.1, .int .i64 u.r.t, .int .i64 u.r.c, .int .i64 u.r.s] : List Value) ++ (cBs u.r.h.1 ++ (cBs u.r.b.1 ++ ([vg.1, dv.1] : List Value))))))))))))).toArray ∧ F' 5 = .pointer (some ⟨g3, 0, none⟩) ∧ F' 6 = .bool false ∧ F' 7 = .bool false ∧ F' 8 = .int .i64 7 ∧ F' 11 = .int .i64 7 ∧ F' 29 = .bool true ∧ F' 31 = .int .i64 xk ∧ F' 32 = .bool false ∧ F' 51 = .bool false ∧ F' 108 = .bool true) ⟨e0, e1, e2, e5, e6, e7, e8, rfl, e29, e31, e32, e51, (e108.trans (congrArg Value.bool (decide_eq_true hc5)))⟩ ?_
        clear e0 e1 e2 e5 e6 e7 e8 e29 e31 e32 e51 e108
        clear F
        rintro F ⟨e0, e1, e2, e5, e6, e7, e8, e11, e29, e31, e32, e51, e108⟩
        refine wp_regionF ?_
        refine lf_val (v := .bool false) (wantAll rfl) (rv_move rfl (fr_eval rfl e7)) ?_
        refine lf_nil ?_
        refine then_n ?_
        refine wp_gen (fun F' => F' 0 = .pointer (some ⟨g, 0, none⟩) ∧ F' 1 = .pointer (some ⟨h, 0, none⟩) ∧ F' 2 = .agg (([.int .i64 xk, .int .i64 xi, .int .i64 xt, .int .i64 u.k, .int .i64 u.a, .int .i64 u.b, .int .i64 u.c0, .int .i64 u.c1, .int .i64 u.c2] : List Value) ++ (cBs u.h0.1 ++ (cBs u.h1.1 ++ (([.int .i64 u.g] : List Value) ++ (cBs u.o.1 ++ (([.int .i64 u.n] : List Value) ++ (cBs u.x.1 ++ (([.int .i64 u.jc, .int .i64 u.js] : List Value) ++ (cBs u.jh.1 ++ (([vb.1, .int .i64 u.r.t, .int .i64 u.r.c, .int .i64 u.r.s] : List Value) ++ (cBs u.r.h.1 ++ (cBs u.r.b.1 ++ ([vg.1, dv.1] : List Value))))))))))))).toArray ∧ F' 5 = .pointer (some ⟨g3, 0, none⟩) ∧ F' 6 = .bool false ∧ F' 7 = .bool false ∧ F' 8 = .int .i64 7 ∧ F' 11 = .int .i64 7 ∧ F' 29 = .bool true ∧ F' 31 = .int .i64 xk ∧ F' 32 = .bool false ∧ F' 51 = .bool false ∧ F' 108 = .bool true ∧ F' 114 = .bool false) ⟨e0, e1, e2, e5, e6, e7, e8, e11, e29, e31, e32, e51, e108, rfl⟩ ?_
        clear e0 e1 e2 e5 e6 e7 e8 e11 e29 e31 e32 e51 e108
        clear F
        rintro F ⟨e0, e1, e2, e5, e6, e7, e8, e11, e29, e31, e32, e51, e108, e114⟩
        refine wp_cond_false (fr_eval rfl e114) ?_
        refine wp_skip ?_
        refine then_n ?_
        refine wp_seq ?_
        refine wp_regionF ?_
        refine lf_val (v := .int .i64 7) (wantAll rfl) (rv_move rfl (fr_eval rfl e11)) ?_
        refine lf_val (v := .int .i64 7) (wantAll rfl) (rv_move rfl (fr_eval rfl e8)) ?_
        refine lf_val (v := .bool true) (wantAll rfl) (rv_eql rfl (fr_eval rfl rfl) (fr_eval rfl rfl) (by decide)) ?_
        refine lf_val (v := .bool true) (wantAll rfl) (rv_assign rfl (fr_eval rfl rfl)) ?_
        refine lf_nil ?_
        refine then_n ?_
        refine wp_gen (fun F' => F' 0 = .pointer (some ⟨g, 0, none⟩) ∧ F' 1 = .pointer (some ⟨h, 0, none⟩) ∧ F' 2 = .agg (([.int .i64 xk, .int .i64 xi, .int .i64 xt, .int .i64 u.k, .int .i64 u.a, .int .i64 u.b, .int .i64 u.c0, .int .i64 u.c1, .int .i64 u.c2] : List Value) ++ (cBs u.h0.1 ++ (cBs u.h1.1 ++ (([.int .i64 u.g] : List Value) ++ (cBs u.o.1 ++ (([.int .i64 u.n] : List Value) ++ (cBs u.x.1 ++ (([.int .i64 u.jc, .int .i64 u.js] : List Value) ++ (cBs u.jh.1 ++ (([vb.1, .int .i64 u.r.t, .int .i64 u.r.c, .int .i64 u.r.s] : List Value) ++ (cBs u.r.h.1 ++ (cBs u.r.b.1 ++ ([vg.1, dv.1] : List Value))))))))))))).toArray ∧ F' 5 = .pointer (some ⟨g3, 0, none⟩) ∧ F' 6 = .bool true ∧ F' 7 = .bool false ∧ F' 8 = .int .i64 7 ∧ F' 11 = .int .i64 7 ∧ F' 29 = .bool true ∧ F' 31 = .int .i64 xk ∧ F' 32 = .bool false ∧ F' 51 = .bool false ∧ F' 108 = .bool true ∧ F' 114 = .bool false) ⟨e0, e1, e2, e5, rfl, e7, e8, e11, e29, e31, e32, e51, e108, e114⟩ ?_
        clear e0 e1 e2 e5 e6 e7 e8 e11 e29 e31 e32 e51 e108 e114
        clear F
        rintro F ⟨e0, e1, e2, e5, e6, e7, e8, e11, e29, e31, e32, e51, e108, e114⟩
        refine wp_ret ?_
        refine blk_ret ?_
        refine then_ret ?_
        have hF := hH
        replace hF : Heap _ _ _ [_, _, _, _, _, _] := hF.drop (.cons_cons _ (.cons_cons _ (.cons_cons _ (.cons_cons _ (.cons_cons _ (.cons_cons _ (.cons _ .slnil)))))))
        exact bodyPost_ret (v := (.bool true)) (res1 rfl (ro_tmp rfl e6)) rfl (⟨_, _, _, _, _, _, _, _, rfl, heq, (by omega), (by first | omega | (simp only [List.length_cons, List.length_nil] at *; omega)), hbd, hF⟩)
      · refine wp_cond_false (fr_eval rfl (e108.trans (congrArg Value.bool (decide_eq_false hc5)))) ?_
        refine wp_seq ?_
        refine wp_regionF ?_
        refine lf_val (v := .bool true) (wantAll rfl) (rv_eql rfl (fr_eval rfl e31) rfl (decide_eq_true (by omega))) ?_
        refine lf_val (v := .bool true) (wantAll rfl) (rv_assign rfl (fr_eval rfl rfl)) ?_
        refine lf_nil ?_
        refine then_n ?_
        refine wp_gen (fun F' => F' 0 = .pointer (some ⟨g, 0, none⟩) ∧ F' 1 = .pointer (some ⟨h, 0, none⟩) ∧ F' 2 = .agg (([.int .i64 xk, .int .i64 xi, .int .i64 xt, .int .i64 u.k, .int .i64 u.a, .int .i64 u.b, .int .i64 u.c0, .int .i64 u.c1, .int .i64 u.c2] : List Value) ++ (cBs u.h0.1 ++ (cBs u.h1.1 ++ (([.int .i64 u.g] : List Value) ++ (cBs u.o.1 ++ (([.int .i64 u.n] : List Value) ++ (cBs u.x.1 ++ (([.int .i64 u.jc, .int .i64 u.js] : List Value) ++ (cBs u.jh.1 ++ (([vb.1, .int .i64 u.r.t, .int .i64 u.r.c, .int .i64 u.r.s] : List Value) ++ (cBs u.r.h.1 ++ (cBs u.r.b.1 ++ ([vg.1, dv.1] : List Value))))))))))))).toArray ∧ F' 5 = .pointer (some ⟨g3, 0, none⟩) ∧ F' 6 = .bool false ∧ F' 7 = .bool false ∧ F' 8 = .int .i64 7 ∧ F' 29 = .bool true ∧ F' 31 = .int .i64 xk ∧ F' 32 = .bool false ∧ F' 51 = .bool false ∧ F' 108 = .bool false ∧ F' 130 = .bool true) ⟨e0, e1, e2, e5, e6, e7, e8, e29, e31, e32, e51, (e108.trans (congrArg Value.bool (decide_eq_false hc5))), rfl⟩ ?_
        clear e0 e1 e2 e5 e6 e7 e8 e29 e31 e32 e51 e108
        clear F
        rintro F ⟨e0, e1, e2, e5, e6, e7, e8, e29, e31, e32, e51, e108, e130⟩
        refine wp_cond_true (fr_eval rfl e130) ?_
        refine wp_seq ?_
        refine wp_regionF ?_
        refine lf_val (v := .pointer (some ⟨g, 0, none⟩)) (wantAll rfl) (rv_move rfl (fr_eval rfl e0)) ?_
        refine lf_val (v := .pointer (some ⟨g3, 1, none⟩)) (wantAll rfl) (rv_fieldAddr (n := 0) rfl (fr_eval rfl e5) Try.underlying83 rfl rfl (by kernel_rfl)) ?_
        refine lf_val (v := .int .i64 xi) (wantAll rfl) (rv_load1 rfl (hH.blk (i := 6) rfl) (zLs_g0 u.h0.2 u.h1.2 u.o.2 u.x.2 u.jh.2 u.r.h.2 u.r.b.2) (fr_eval rfl rfl) Try.underlying3 rfl Try.sz3) ?_
        refine lf_call (wantAll rfl) (rv_call (args := [.pointer (some ⟨g, 0, none⟩), .int .i64 xi]) rfl (evc (fr_eval rfl rfl) (evc (fr_eval rfl rfl) evn)) Try.call49) (netTwice_no ls (by omega) lost xi (by omega) _ (hH.blk (i := 0) rfl) (Own.rd (hH.own (i := 1) rfl) (row_one cLt_one))) ?_
        rintro _ w26 ⟨rfl, hx⟩
        refine ⟨_, rfl, ?_⟩
        replace hH := hH.ext hx
        clear hx
        refine lf_val (v := .int .i64 7) (wantAll rfl) (rv_assign rfl (fr_eval rfl rfl)) ?_
        refine lf_nil ?_
        refine then_n ?_
        refine wp_seq ?_
        refine wp_seq ?_
        refine wp_gen (fun F' => F' 0 = .pointer (some ⟨g, 0, none⟩) ∧ F' 1 = .pointer (some ⟨h, 0, none⟩) ∧ F' 2 = .agg (([.int .i64 xk, .int .i64 xi, .int .i64 xt, .int .i64 u.k, .int .i64 u.a, .int .i64 u.b, .int .i64 u.c0, .int .i64 u.c1, .int .i64 u.c2] : List Value) ++ (cBs u.h0.1 ++ (cBs u.h1.1 ++ (([.int .i64 u.g] : List Value) ++ (cBs u.o.1 ++ (([.int .i64 u.n] : List Value) ++ (cBs u.x.1 ++ (([.int .i64 u.jc, .int .i64 u.js] : List Value) ++ (cBs u.jh.1 ++ (([vb.1, .int .i64 u.r.t, .int .i64 u.r.c, .int .i64 u.r.s] : List Value) ++ (cBs u.r.h.1 ++ (cBs u.r.b.1 ++ ([vg.1, dv.1] : List Value))))))))))))).toArray ∧ F' 5 = .pointer (some ⟨g3, 0, none⟩) ∧ F' 6 = .bool false ∧ F' 7 = .bool false ∧ F' 8 = .int .i64 7 ∧ F' 12 = .int .i64 7 ∧ F' 29 = .bool true ∧ F' 31 = .int .i64 xk ∧ F' 32 = .bool false ∧ F' 51 = .bool false ∧ F' 108 = .bool false ∧ F' 130 = .bool true) ⟨e0, e1, e2, e5, e6, e7, e8, rfl, e29, e31, e32, e51, e108, e130⟩ ?_
        clear e0 e1 e2 e5 e6 e7 e8 e29 e31 e32 e51 e108 e130
        clear F
        rintro F ⟨e0, e1, e2, e5, e6, e7, e8, e12, e29, e31, e32, e51, e108, e130⟩
        refine wp_regionF ?_
        refine lf_val (v := .bool false) (wantAll rfl) (rv_move rfl (fr_eval rfl e7)) ?_
        refine lf_nil ?_
        refine then_n ?_
        refine wp_gen (fun F' => F' 0 = .pointer (some ⟨g, 0, none⟩) ∧ F' 1 = .pointer (some ⟨h, 0, none⟩) ∧ F' 2 = .agg (([.int .i64 xk, .int .i64 xi, .int .i64 xt, .int .i64 u.k, .int .i64 u.a, .int .i64 u.b, .int .i64 u.c0, .int .i64 u.c1, .int .i64 u.c2] : List Value) ++ (cBs u.h0.1 ++ (cBs u.h1.1 ++ (([.int .i64 u.g] : List Value) ++ (cBs u.o.1 ++ (([.int .i64 u.n] : List Value) ++ (cBs u.x.1 ++ (([.int .i64 u.jc, .int .i64 u.js] : List Value) ++ (cBs u.jh.1 ++ (([vb.1, .int .i64 u.r.t, .int .i64 u.r.c, .int .i64 u.r.s] : List Value) ++ (cBs u.r.h.1 ++ (cBs u.r.b.1 ++ ([vg.1, dv.1] : List Value))))))))))))).toArray ∧ F' 5 = .pointer (some ⟨g3, 0, none⟩) ∧ F' 6 = .bool false ∧ F' 7 = .bool false ∧ F' 8 = .int .i64 7 ∧ F' 12 = .int .i64 7 ∧ F' 29 = .bool true ∧ F' 31 = .int .i64 xk ∧ F' 32 = .bool false ∧ F' 51 = .bool false ∧ F' 108 = .bool false ∧ F' 130 = .bool true ∧ F' 136 = .bool false) ⟨e0, e1, e2, e5, e6, e7, e8, e12, e29, e31, e32, e51, e108, e130, rfl⟩ ?_
        clear e0 e1 e2 e5 e6 e7 e8 e12 e29 e31 e32 e51 e108 e130
        clear F
        rintro F ⟨e0, e1, e2, e5, e6, e7, e8, e12, e29, e31, e32, e51, e108, e130, e136⟩
        refine wp_cond_false (fr_eval rfl e136) ?_
        refine wp_skip ?_
        refine then_n ?_
        refine wp_seq ?_
        refine wp_regionF ?_
        refine lf_val (v := .int .i64 7) (wantAll rfl) (rv_move rfl (fr_eval rfl e12)) ?_
        refine lf_val (v := .int .i64 7) (wantAll rfl) (rv_move rfl (fr_eval rfl e8)) ?_
        refine lf_val (v := .bool true) (wantAll rfl) (rv_eql rfl (fr_eval rfl rfl) (fr_eval rfl rfl) (by decide)) ?_
        refine lf_val (v := .bool true) (wantAll rfl) (rv_assign rfl (fr_eval rfl rfl)) ?_
        refine lf_nil ?_
        refine then_n ?_
        refine wp_gen (fun F' => F' 0 = .pointer (some ⟨g, 0, none⟩) ∧ F' 1 = .pointer (some ⟨h, 0, none⟩) ∧ F' 2 = .agg (([.int .i64 xk, .int .i64 xi, .int .i64 xt, .int .i64 u.k, .int .i64 u.a, .int .i64 u.b, .int .i64 u.c0, .int .i64 u.c1, .int .i64 u.c2] : List Value) ++ (cBs u.h0.1 ++ (cBs u.h1.1 ++ (([.int .i64 u.g] : List Value) ++ (cBs u.o.1 ++ (([.int .i64 u.n] : List Value) ++ (cBs u.x.1 ++ (([.int .i64 u.jc, .int .i64 u.js] : List Value) ++ (cBs u.jh.1 ++ (([vb.1, .int .i64 u.r.t, .int .i64 u.r.c, .int .i64 u.r.s] : List Value) ++ (cBs u.r.h.1 ++ (cBs u.r.b.1 ++ ([vg.1, dv.1] : List Value))))))))))))).toArray ∧ F' 5 = .pointer (some ⟨g3, 0, none⟩) ∧ F' 6 = .bool true ∧ F' 7 = .bool false ∧ F' 8 = .int .i64 7 ∧ F' 12 = .int .i64 7 ∧ F' 29 = .bool true ∧ F' 31 = .int .i64 xk ∧ F' 32 = .bool false ∧ F' 51 = .bool false ∧ F' 108 = .bool false ∧ F' 130 = .bool true ∧ F' 136 = .bool false) ⟨e0, e1, e2, e5, rfl, e7, e8, e12, e29, e31, e32, e51, e108, e130, e136⟩ ?_
        clear e0 e1 e2 e5 e6 e7 e8 e12 e29 e31 e32 e51 e108 e130 e136
        clear F
        rintro F ⟨e0, e1, e2, e5, e6, e7, e8, e12, e29, e31, e32, e51, e108, e130, e136⟩
        refine wp_ret ?_
        refine blk_ret ?_
        refine then_ret ?_
        have hF := hH
        replace hF : Heap _ _ _ [_, _, _, _, _, _] := hF.drop (.cons_cons _ (.cons_cons _ (.cons_cons _ (.cons_cons _ (.cons_cons _ (.cons_cons _ (.cons _ .slnil)))))))
        exact bodyPost_ret (v := (.bool true)) (res1 rfl (ro_tmp rfl e6)) rfl (⟨_, _, _, _, _, _, _, _, rfl, heq, (by omega), (by first | omega | (simp only [List.length_cons, List.length_nil] at *; omega)), hbd, hF⟩)

set_option maxRecDepth 100000 in
set_option maxHeartbeats 4000000 in
theorem step_calls {w : World} {K Z S Q : Nat → Prop} {g h : Nat} {v pv : Value} (hZ : ∀ k, newK w K k → ¬ Z k) (ls : List Lt) (hl : ls.length ≤ 64) (lost : Nat) (hlo : lost ≤ 100000) (ps : List Lt) (plost : Nat) (heq : kst ls lost = kst ps plost) (hbd : Bd (kys ls)) (xk xi xt : Int) (u : Ms) (vb vg dv : V1) (bl sg d : List UInt8) (him : inMs u) (hb1 : bl.length ≤ 1000) (hs1 : sg.length ≤ 6000) (hd1 : d.length ≤ 1000) (hsb : Stab (newK w K) w 1 vb.1 bl.length (cBs bl)) (hsg : Stab (newK w K) w 1 vg.1 sg.length (cBs sg)) (hsd : Stab (newK w K) w 1 dv.1 d.length (cBs d)) (hzd : ∀ k, dv.1.ownBlock = some k → 0 < d.length → Z k) (hh0 : Heap (newK w K) w w [oBlk g ([v, .int .i64 ((lost : Nat) : Int)]) 69, oRow cLt 87 2 v ls, oBag Z S ls, oBlk h ([pv, .int .i64 ((plost : Nat) : Int)]) 72, oRow cLt 87 2 pv ps, oBag Z Q ps]) :
    Calls Try.prog 39 #[.pointer (some ⟨g, 0, none⟩), .pointer (some ⟨h, 0, none⟩), .agg (([.int .i64 xk, .int .i64 xi, .int .i64 xt, .int .i64 u.k, .int .i64 u.a, .int .i64 u.b, .int .i64 u.c0, .int .i64 u.c1, .int .i64 u.c2] : List Value) ++ (cBs u.h0.1 ++ (cBs u.h1.1 ++ (([.int .i64 u.g] : List Value) ++ (cBs u.o.1 ++ (([.int .i64 u.n] : List Value) ++ (cBs u.x.1 ++ (([.int .i64 u.jc, .int .i64 u.js] : List Value) ++ (cBs u.jh.1 ++ (([vb.1, .int .i64 u.r.t, .int .i64 u.r.c, .int .i64 u.r.s] : List Value) ++ (cBs u.r.h.1 ++ (cBs u.r.b.1 ++ ([vg.1, dv.1] : List Value))))))))))))).toArray] w fun e'' w' => ∃ v' ls' lost' S' u' ps' plost' Q', e'' = .returned (.bool true) ∧ kst ls' lost' = kst ps' plost' ∧ ls'.length ≤ 64 ∧ lost' ≤ lost + 1 ∧ Bd (kys ls') ∧ Heap (newK w K) w w' [oBlk g ([v', .int .i64 ((lost' : Nat) : Int)]) 69, oRow cLt 87 2 v' ls', oBag Z S' ls', oBlk h ([u', .int .i64 ((plost' : Nat) : Int)]) 72, oRow cLt 87 2 u' ps', oBag Z Q' ps'] := by
  by_cases hxk : xk = 4 ∨ xk = 5 ∨ xk = 6
  · exact step_b hZ ls hl lost hlo ps plost heq hbd xk xi xt u vb vg dv bl sg d hxk him hb1 hs1 hd1 hsb hsg hsd hzd hh0
  · exact step_a hZ ls hl lost hlo ps plost heq hbd xk xi xt u vb vg dv bl sg d hxk him hb1 hs1 hd1 hsb hsg hsd hzd hh0

end Go.Proofs.Ytjgcjddaladgfaa
