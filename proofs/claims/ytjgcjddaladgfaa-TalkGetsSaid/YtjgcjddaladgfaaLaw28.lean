/- Chapter 28's laws: the walks of TalkPuts and TalkGets. -/
import Derived.Test.YtjgcjddaladgfaaTalkG
import Derived.Test.YtjgcjddaladgfaaTalkP
namespace Go.Proofs.Ytjgcjddaladgfaa
open Go.RowKit Go.Bz Go.Bz.Wire Go.Bz.Rcpt Go.Bz.Talk
attribute [local irreducible] wpList Code.wp wpAnyX
theorem inMs_of {u : Ms} (h : inM u) (hp : plainM u) : inMs u := by
  unfold inM at h
  obtain ⟨p1, p2, p3, p4, p5, p6, p7, p8, p9, p10, p11, p12, p13, p14, p15⟩ := hp
  have := inR_in p15
  unfold inMs inI
  refine ⟨⟨by omega, by omega⟩, ⟨by omega, by omega⟩, ⟨by omega, by omega⟩, ⟨by omega, by omega⟩, ⟨by omega, by omega⟩, ⟨by omega, by omega⟩, ⟨by omega, by omega⟩, ⟨by omega, by omega⟩, ⟨by omega, by omega⟩, ⟨by omega, by omega⟩, this⟩

theorem zL28_l0 {a0 : Value} {a1 : Value} {a2 : Value} {a3 : Value} {a4 : Value} {a5 : Value} {a6 : List UInt8} (ha6 : a6.length = 32) {a7 : List UInt8} (ha7 : a7.length = 32) {a8 : Value} {a9 : List UInt8} (ha9 : a9.length = 32) {a10 : Value} {a11 : List UInt8} (ha11 : a11.length = 32) {a12 : Value} {a13 : Value} {a14 : List UInt8} (ha14 : a14.length = 32) {a15 : Value} {a16 : Value} {a17 : Value} {a18 : Value} {a19 : List UInt8} (ha19 : a19.length = 32) {a20 : List UInt8} (ha20 : a20.length = 32) {a21 : Value} : List.length (([a0, a1, a2, a3, a4, a5] : List Value) ++ (cBs a6 ++ (cBs a7 ++ (([a8] : List Value) ++ (cBs a9 ++ (([a10] : List Value) ++ (cBs a11 ++ (([a12, a13] : List Value) ++ (cBs a14 ++ (([a15, a16, a17, a18] : List Value) ++ (cBs a19 ++ (cBs a20 ++ ([a21] : List Value))))))))))))) = 239 := (len_app (m := 6) (n := 233) (k := 239) rfl (len_app (m := 32) (n := 201) (k := 233) (cBs_len ha6) (len_app (m := 32) (n := 169) (k := 201) (cBs_len ha7) (len_app (m := 1) (n := 168) (k := 169) rfl (len_app (m := 32) (n := 136) (k := 168) (cBs_len ha9) (len_app (m := 1) (n := 135) (k := 136) rfl (len_app (m := 32) (n := 103) (k := 135) (cBs_len ha11) (len_app (m := 2) (n := 101) (k := 103) rfl (len_app (m := 32) (n := 69) (k := 101) (cBs_len ha14) (len_app (m := 4) (n := 65) (k := 69) rfl (len_app (m := 32) (n := 33) (k := 65) (cBs_len ha19) (len_app (m := 32) (n := 1) (k := 33) (cBs_len ha20) rfl rfl) rfl) rfl) rfl) rfl) rfl) rfl) rfl) rfl) rfl) rfl) rfl)
theorem zL28_y1 {a0 : Value} {a1 : Value} {a2 : Value} {a3 : Value} {a4 : Value} {a5 : Value} {a6 : List UInt8} (_ : a6.length = 32) {a7 : List UInt8} (_ : a7.length = 32) {a8 : Value} {a9 : List UInt8} (_ : a9.length = 32) {a10 : Value} {a11 : List UInt8} (_ : a11.length = 32) {a12 : Value} {a13 : Value} {a14 : List UInt8} (_ : a14.length = 32) {a15 : Value} {a16 : Value} {a17 : Value} {a18 : Value} {a19 : List UInt8} (_ : a19.length = 32) {a20 : List UInt8} (_ : a20.length = 32) {a21 : Value} {n0 : Value} : lay (([a0, a1, a2, a3, a4, a5] : List Value) ++ (cBs a6 ++ (cBs a7 ++ (([a8] : List Value) ++ (cBs a9 ++ (([a10] : List Value) ++ (cBs a11 ++ (([a12, a13] : List Value) ++ (cBs a14 ++ (([a15, a16, a17, a18] : List Value) ++ (cBs a19 ++ (cBs a20 ++ ([a21] : List Value))))))))))))) 0 ([n0]) = ([n0, a1, a2, a3, a4, a5] : List Value) ++ (cBs a6 ++ (cBs a7 ++ (([a8] : List Value) ++ (cBs a9 ++ (([a10] : List Value) ++ (cBs a11 ++ (([a12, a13] : List Value) ++ (cBs a14 ++ (([a15, a16, a17, a18] : List Value) ++ (cBs a19 ++ (cBs a20 ++ ([a21] : List Value)))))))))))) := (show lay ([] ++ (([a0]) ++ (([a1, a2, a3, a4, a5] : List Value) ++ (cBs a6 ++ (cBs a7 ++ (([a8] : List Value) ++ (cBs a9 ++ (([a10] : List Value) ++ (cBs a11 ++ (([a12, a13] : List Value) ++ (cBs a14 ++ (([a15, a16, a17, a18] : List Value) ++ (cBs a19 ++ (cBs a20 ++ ([a21] : List Value))))))))))))))) 0 ([n0]) = [] ++ (([n0]) ++ (([a1, a2, a3, a4, a5] : List Value) ++ (cBs a6 ++ (cBs a7 ++ (([a8] : List Value) ++ (cBs a9 ++ (([a10] : List Value) ++ (cBs a11 ++ (([a12, a13] : List Value) ++ (cBs a14 ++ (([a15, a16, a17, a18] : List Value) ++ (cBs a19 ++ (cBs a20 ++ ([a21] : List Value)))))))))))))) from lay_app (show List.length ([] : List Value) = 0 from rfl) ((show List.length [a0] = 1 from rfl).trans (show List.length [n0] = 1 from rfl).symm))
theorem zL28_y2 {a0 : Value} {a1 : Value} {a2 : Value} {a3 : Value} {a4 : Value} {a5 : Value} {a6 : List UInt8} (_ : a6.length = 32) {a7 : List UInt8} (_ : a7.length = 32) {a8 : Value} {a9 : List UInt8} (_ : a9.length = 32) {a10 : Value} {a11 : List UInt8} (_ : a11.length = 32) {a12 : Value} {a13 : Value} {a14 : List UInt8} (_ : a14.length = 32) {a15 : Value} {a16 : Value} {a17 : Value} {a18 : Value} {a19 : List UInt8} (_ : a19.length = 32) {a20 : List UInt8} (_ : a20.length = 32) {a21 : Value} {n0 : Value} : lay (([a0, a1, a2, a3, a4, a5] : List Value) ++ (cBs a6 ++ (cBs a7 ++ (([a8] : List Value) ++ (cBs a9 ++ (([a10] : List Value) ++ (cBs a11 ++ (([a12, a13] : List Value) ++ (cBs a14 ++ (([a15, a16, a17, a18] : List Value) ++ (cBs a19 ++ (cBs a20 ++ ([a21] : List Value))))))))))))) 1 ([n0]) = ([a0, n0, a2, a3, a4, a5] : List Value) ++ (cBs a6 ++ (cBs a7 ++ (([a8] : List Value) ++ (cBs a9 ++ (([a10] : List Value) ++ (cBs a11 ++ (([a12, a13] : List Value) ++ (cBs a14 ++ (([a15, a16, a17, a18] : List Value) ++ (cBs a19 ++ (cBs a20 ++ ([a21] : List Value)))))))))))) := (show lay ([a0] ++ (([a1]) ++ (([a2, a3, a4, a5] : List Value) ++ (cBs a6 ++ (cBs a7 ++ (([a8] : List Value) ++ (cBs a9 ++ (([a10] : List Value) ++ (cBs a11 ++ (([a12, a13] : List Value) ++ (cBs a14 ++ (([a15, a16, a17, a18] : List Value) ++ (cBs a19 ++ (cBs a20 ++ ([a21] : List Value))))))))))))))) 1 ([n0]) = [a0] ++ (([n0]) ++ (([a2, a3, a4, a5] : List Value) ++ (cBs a6 ++ (cBs a7 ++ (([a8] : List Value) ++ (cBs a9 ++ (([a10] : List Value) ++ (cBs a11 ++ (([a12, a13] : List Value) ++ (cBs a14 ++ (([a15, a16, a17, a18] : List Value) ++ (cBs a19 ++ (cBs a20 ++ ([a21] : List Value)))))))))))))) from lay_app (show List.length [a0] = 1 from rfl) ((show List.length [a1] = 1 from rfl).trans (show List.length [n0] = 1 from rfl).symm))
theorem zL28_y3 {a0 : Value} {a1 : Value} {a2 : Value} {a3 : Value} {a4 : Value} {a5 : Value} {a6 : List UInt8} (_ : a6.length = 32) {a7 : List UInt8} (_ : a7.length = 32) {a8 : Value} {a9 : List UInt8} (_ : a9.length = 32) {a10 : Value} {a11 : List UInt8} (_ : a11.length = 32) {a12 : Value} {a13 : Value} {a14 : List UInt8} (_ : a14.length = 32) {a15 : Value} {a16 : Value} {a17 : Value} {a18 : Value} {a19 : List UInt8} (_ : a19.length = 32) {a20 : List UInt8} (_ : a20.length = 32) {a21 : Value} {n0 : Value} : lay (([a0, a1, a2, a3, a4, a5] : List Value) ++ (cBs a6 ++ (cBs a7 ++ (([a8] : List Value) ++ (cBs a9 ++ (([a10] : List Value) ++ (cBs a11 ++ (([a12, a13] : List Value) ++ (cBs a14 ++ (([a15, a16, a17, a18] : List Value) ++ (cBs a19 ++ (cBs a20 ++ ([a21] : List Value))))))))))))) 2 ([n0]) = ([a0, a1, n0, a3, a4, a5] : List Value) ++ (cBs a6 ++ (cBs a7 ++ (([a8] : List Value) ++ (cBs a9 ++ (([a10] : List Value) ++ (cBs a11 ++ (([a12, a13] : List Value) ++ (cBs a14 ++ (([a15, a16, a17, a18] : List Value) ++ (cBs a19 ++ (cBs a20 ++ ([a21] : List Value)))))))))))) := (show lay ([a0, a1] ++ (([a2]) ++ (([a3, a4, a5] : List Value) ++ (cBs a6 ++ (cBs a7 ++ (([a8] : List Value) ++ (cBs a9 ++ (([a10] : List Value) ++ (cBs a11 ++ (([a12, a13] : List Value) ++ (cBs a14 ++ (([a15, a16, a17, a18] : List Value) ++ (cBs a19 ++ (cBs a20 ++ ([a21] : List Value))))))))))))))) 2 ([n0]) = [a0, a1] ++ (([n0]) ++ (([a3, a4, a5] : List Value) ++ (cBs a6 ++ (cBs a7 ++ (([a8] : List Value) ++ (cBs a9 ++ (([a10] : List Value) ++ (cBs a11 ++ (([a12, a13] : List Value) ++ (cBs a14 ++ (([a15, a16, a17, a18] : List Value) ++ (cBs a19 ++ (cBs a20 ++ ([a21] : List Value)))))))))))))) from lay_app (show List.length [a0, a1] = 2 from rfl) ((show List.length [a2] = 1 from rfl).trans (show List.length [n0] = 1 from rfl).symm))
theorem zL28_y4 {a0 : Value} {a1 : Value} {a2 : Value} {a3 : Value} {a4 : Value} {a5 : Value} {a6 : List UInt8} (ha6 : a6.length = 32) {a7 : List UInt8} (ha7 : a7.length = 32) {a8 : Value} {a9 : List UInt8} (ha9 : a9.length = 32) {a10 : Value} {a11 : List UInt8} (_ : a11.length = 32) {a12 : Value} {a13 : Value} {a14 : List UInt8} (_ : a14.length = 32) {a15 : Value} {a16 : Value} {a17 : Value} {a18 : Value} {a19 : List UInt8} (_ : a19.length = 32) {a20 : List UInt8} (_ : a20.length = 32) {a21 : Value} {n0 : Value} : lay (([a0, a1, a2, a3, a4, a5] : List Value) ++ (cBs a6 ++ (cBs a7 ++ (([a8] : List Value) ++ (cBs a9 ++ (([a10] : List Value) ++ (cBs a11 ++ (([a12, a13] : List Value) ++ (cBs a14 ++ (([a15, a16, a17, a18] : List Value) ++ (cBs a19 ++ (cBs a20 ++ ([a21] : List Value))))))))))))) 103 ([n0]) = ([a0, a1, a2, a3, a4, a5] : List Value) ++ (cBs a6 ++ (cBs a7 ++ (([a8] : List Value) ++ (cBs a9 ++ (([n0] : List Value) ++ (cBs a11 ++ (([a12, a13] : List Value) ++ (cBs a14 ++ (([a15, a16, a17, a18] : List Value) ++ (cBs a19 ++ (cBs a20 ++ ([a21] : List Value)))))))))))) := (lay_of (cur := ([a0, a1, a2, a3, a4, a5] : List Value) ++ (cBs a6 ++ (cBs a7 ++ (([a8] : List Value) ++ (cBs a9 ++ (([a10] : List Value) ++ (cBs a11 ++ (([a12, a13] : List Value) ++ (cBs a14 ++ (([a15, a16, a17, a18] : List Value) ++ (cBs a19 ++ (cBs a20 ++ ([a21] : List Value))))))))))))) (cs := [n0]) (cur' := ([a0, a1, a2, a3, a4, a5] : List Value) ++ (cBs a6 ++ (cBs a7 ++ (([a8] : List Value) ++ (cBs a9 ++ (([n0] : List Value) ++ (cBs a11 ++ (([a12, a13] : List Value) ++ (cBs a14 ++ (([a15, a16, a17, a18] : List Value) ++ (cBs a19 ++ (cBs a20 ++ ([a21] : List Value))))))))))))) (A := (([a0, a1, a2, a3, a4, a5] : List Value) ++ (cBs a6 ++ (cBs a7 ++ (([a8] : List Value) ++ cBs a9))) : List Value)) (D := ([a10] : List Value)) (C := (cBs a11 ++ (([a12, a13] : List Value) ++ (cBs a14 ++ (([a15, a16, a17, a18] : List Value) ++ (cBs a19 ++ (cBs a20 ++ ([a21] : List Value)))))) : List Value)) (by simp) (by simp) (len_app (m := 6) (n := 97) (k := 103) rfl (len_app (m := 32) (n := 65) (k := 97) (cBs_len ha6) (len_app (m := 32) (n := 33) (k := 65) (cBs_len ha7) (len_app (m := 1) (n := 32) (k := 33) rfl (cBs_len ha9) rfl) rfl) rfl) rfl) ((show List.length [a10] = 1 from rfl).trans (show List.length [n0] = 1 from rfl).symm))
theorem zL28_o5 {a0 : Value} {a1 : Value} {a2 : Value} {a3 : Value} {a4 : Value} {a5 : Value} {a6 : List UInt8} {a7 : List UInt8} {a8 : Value} {a9 : List UInt8} {a10 : Value} {a11 : List UInt8} {a12 : Value} {a13 : Value} {a14 : List UInt8} {a15 : Value} {a16 : Value} {a17 : Value} {a18 : Value} {a19 : List UInt8} {a20 : List UInt8} {a21 : Value} (qa0 : a0.oneCell' = true) (qa1 : a1.oneCell' = true) (qa2 : a2.oneCell' = true) (qa3 : a3.oneCell' = true) (qa4 : a4.oneCell' = true) (qa5 : a5.oneCell' = true) (qa8 : a8.oneCell' = true) (qa10 : a10.oneCell' = true) (qa12 : a12.oneCell' = true) (qa13 : a13.oneCell' = true) (qa15 : a15.oneCell' = true) (qa16 : a16.oneCell' = true) (qa17 : a17.oneCell' = true) (qa18 : a18.oneCell' = true) (qa21 : a21.oneCell' = true) : ∀ u ∈ (([a0, a1, a2, a3, a4, a5] : List Value) ++ (cBs a6 ++ (cBs a7 ++ (([a8] : List Value) ++ (cBs a9 ++ (([a10] : List Value) ++ (cBs a11 ++ (([a12, a13] : List Value) ++ (cBs a14 ++ (([a15, a16, a17, a18] : List Value) ++ (cBs a19 ++ (cBs a20 ++ ([a21] : List Value))))))))))))), u.oneCell' = true := (ones_app (ones_cons qa0 (ones_cons qa1 (ones_cons qa2 (ones_cons qa3 (ones_cons qa4 (ones_cons qa5 ones_nil)))))) (ones_app (cBs_one _) (ones_app (cBs_one _) (ones_app (ones_cons qa8 ones_nil) (ones_app (cBs_one _) (ones_app (ones_cons qa10 ones_nil) (ones_app (cBs_one _) (ones_app (ones_cons qa12 (ones_cons qa13 ones_nil)) (ones_app (cBs_one _) (ones_app (ones_cons qa15 (ones_cons qa16 (ones_cons qa17 (ones_cons qa18 ones_nil)))) (ones_app (cBs_one _) (ones_app (cBs_one _) (ones_cons qa21 ones_nil)))))))))))))
theorem zL28_g6 {a0 : Value} {a1 : Value} {a2 : Value} {a3 : Value} {a4 : Value} {a5 : Value} {a6 : List UInt8} (ha6 : a6.length = 32) {a7 : List UInt8} (ha7 : a7.length = 32) {a8 : Value} {a9 : List UInt8} (ha9 : a9.length = 32) {a10 : Value} {a11 : List UInt8} (_ : a11.length = 32) {a12 : Value} {a13 : Value} {a14 : List UInt8} (_ : a14.length = 32) {a15 : Value} {a16 : Value} {a17 : Value} {a18 : Value} {a19 : List UInt8} (_ : a19.length = 32) {a20 : List UInt8} (_ : a20.length = 32) {a21 : Value} : (([a0, a1, a2, a3, a4, a5] : List Value) ++ (cBs a6 ++ (cBs a7 ++ (([a8] : List Value) ++ (cBs a9 ++ (([a10] : List Value) ++ (cBs a11 ++ (([a12, a13] : List Value) ++ (cBs a14 ++ (([a15, a16, a17, a18] : List Value) ++ (cBs a19 ++ (cBs a20 ++ ([a21] : List Value)))))))))))))[103]? = some a10 := (get_of (cs := ([a0, a1, a2, a3, a4, a5] : List Value) ++ (cBs a6 ++ (cBs a7 ++ (([a8] : List Value) ++ (cBs a9 ++ (([a10] : List Value) ++ (cBs a11 ++ (([a12, a13] : List Value) ++ (cBs a14 ++ (([a15, a16, a17, a18] : List Value) ++ (cBs a19 ++ (cBs a20 ++ ([a21] : List Value))))))))))))) (A := (([a0, a1, a2, a3, a4, a5] : List Value) ++ (cBs a6 ++ (cBs a7 ++ (([a8] : List Value) ++ cBs a9))) : List Value)) (D := ([a10] : List Value)) (C := (cBs a11 ++ (([a12, a13] : List Value) ++ (cBs a14 ++ (([a15, a16, a17, a18] : List Value) ++ (cBs a19 ++ (cBs a20 ++ ([a21] : List Value)))))) : List Value)) (o := 103) (j := 0) (by simp) (len_app (m := 6) (n := 97) (k := 103) rfl (len_app (m := 32) (n := 65) (k := 97) (cBs_len ha6) (len_app (m := 32) (n := 33) (k := 65) (cBs_len ha7) (len_app (m := 1) (n := 32) (k := 33) rfl (cBs_len ha9) rfl) rfl) rfl) rfl) rfl (show ([a10] : List Value)[0]? = some (a10) from rfl))
theorem zL28_g7 {a0 : Value} {a1 : Value} {a2 : Value} {a3 : Value} {a4 : Value} {a5 : Value} {a6 : List UInt8} (_ : a6.length = 32) {a7 : List UInt8} (_ : a7.length = 32) {a8 : Value} {a9 : List UInt8} (_ : a9.length = 32) {a10 : Value} {a11 : List UInt8} (_ : a11.length = 32) {a12 : Value} {a13 : Value} {a14 : List UInt8} (_ : a14.length = 32) {a15 : Value} {a16 : Value} {a17 : Value} {a18 : Value} {a19 : List UInt8} (_ : a19.length = 32) {a20 : List UInt8} (_ : a20.length = 32) {a21 : Value} : (([a0, a1, a2, a3, a4, a5] : List Value) ++ (cBs a6 ++ (cBs a7 ++ (([a8] : List Value) ++ (cBs a9 ++ (([a10] : List Value) ++ (cBs a11 ++ (([a12, a13] : List Value) ++ (cBs a14 ++ (([a15, a16, a17, a18] : List Value) ++ (cBs a19 ++ (cBs a20 ++ ([a21] : List Value)))))))))))))[0]? = some a0 := (show (([a0, a1, a2, a3, a4, a5] : List Value) ++ (cBs a6 ++ (cBs a7 ++ (([a8] : List Value) ++ (cBs a9 ++ (([a10] : List Value) ++ (cBs a11 ++ (([a12, a13] : List Value) ++ (cBs a14 ++ (([a15, a16, a17, a18] : List Value) ++ (cBs a19 ++ (cBs a20 ++ ([a21] : List Value)))))))))))))[0]? = some (a0) from (get_l (C := cBs a6 ++ (cBs a7 ++ (([a8] : List Value) ++ (cBs a9 ++ (([a10] : List Value) ++ (cBs a11 ++ (([a12, a13] : List Value) ++ (cBs a14 ++ (([a15, a16, a17, a18] : List Value) ++ (cBs a19 ++ (cBs a20 ++ ([a21] : List Value)))))))))))) (show ([a0, a1, a2, a3, a4, a5] : List Value)[0]? = some (a0) from rfl)))
theorem zL28_g8 {a0 : Value} {a1 : Value} {a2 : Value} {a3 : Value} {a4 : Value} {a5 : Value} {a6 : List UInt8} (ha6 : a6.length = 32) {a7 : List UInt8} (ha7 : a7.length = 32) {a8 : Value} {a9 : List UInt8} (ha9 : a9.length = 32) {a10 : Value} {a11 : List UInt8} (ha11 : a11.length = 32) {a12 : Value} {a13 : Value} {a14 : List UInt8} (ha14 : a14.length = 32) {a15 : Value} {a16 : Value} {a17 : Value} {a18 : Value} {a19 : List UInt8} (_ : a19.length = 32) {a20 : List UInt8} (_ : a20.length = 32) {a21 : Value} : (([a0, a1, a2, a3, a4, a5] : List Value) ++ (cBs a6 ++ (cBs a7 ++ (([a8] : List Value) ++ (cBs a9 ++ (([a10] : List Value) ++ (cBs a11 ++ (([a12, a13] : List Value) ++ (cBs a14 ++ (([a15, a16, a17, a18] : List Value) ++ (cBs a19 ++ (cBs a20 ++ ([a21] : List Value)))))))))))))[170]? = some a15 := (get_of (cs := ([a0, a1, a2, a3, a4, a5] : List Value) ++ (cBs a6 ++ (cBs a7 ++ (([a8] : List Value) ++ (cBs a9 ++ (([a10] : List Value) ++ (cBs a11 ++ (([a12, a13] : List Value) ++ (cBs a14 ++ (([a15, a16, a17, a18] : List Value) ++ (cBs a19 ++ (cBs a20 ++ ([a21] : List Value))))))))))))) (A := (([a0, a1, a2, a3, a4, a5] : List Value) ++ (cBs a6 ++ (cBs a7 ++ (([a8] : List Value) ++ (cBs a9 ++ (([a10] : List Value) ++ (cBs a11 ++ (([a12, a13] : List Value) ++ cBs a14))))))) : List Value)) (D := ([a15, a16, a17, a18] : List Value)) (C := (cBs a19 ++ (cBs a20 ++ ([a21] : List Value)) : List Value)) (o := 170) (j := 0) (by simp) (len_app (m := 6) (n := 164) (k := 170) rfl (len_app (m := 32) (n := 132) (k := 164) (cBs_len ha6) (len_app (m := 32) (n := 100) (k := 132) (cBs_len ha7) (len_app (m := 1) (n := 99) (k := 100) rfl (len_app (m := 32) (n := 67) (k := 99) (cBs_len ha9) (len_app (m := 1) (n := 66) (k := 67) rfl (len_app (m := 32) (n := 34) (k := 66) (cBs_len ha11) (len_app (m := 2) (n := 32) (k := 34) rfl (cBs_len ha14) rfl) rfl) rfl) rfl) rfl) rfl) rfl) rfl) rfl (show ([a15, a16, a17, a18] : List Value)[0]? = some (a15) from rfl))
theorem zL28_g9 {a0 : Value} {a1 : Value} {a2 : Value} {a3 : Value} {a4 : Value} {a5 : Value} {a6 : List UInt8} (ha6 : a6.length = 32) {a7 : List UInt8} (ha7 : a7.length = 32) {a8 : Value} {a9 : List UInt8} (ha9 : a9.length = 32) {a10 : Value} {a11 : List UInt8} (ha11 : a11.length = 32) {a12 : Value} {a13 : Value} {a14 : List UInt8} (ha14 : a14.length = 32) {a15 : Value} {a16 : Value} {a17 : Value} {a18 : Value} {a19 : List UInt8} (ha19 : a19.length = 32) {a20 : List UInt8} (ha20 : a20.length = 32) {a21 : Value} : (([a0, a1, a2, a3, a4, a5] : List Value) ++ (cBs a6 ++ (cBs a7 ++ (([a8] : List Value) ++ (cBs a9 ++ (([a10] : List Value) ++ (cBs a11 ++ (([a12, a13] : List Value) ++ (cBs a14 ++ (([a15, a16, a17, a18] : List Value) ++ (cBs a19 ++ (cBs a20 ++ ([a21] : List Value)))))))))))))[238]? = some a21 := (get_of (cs := ([a0, a1, a2, a3, a4, a5] : List Value) ++ (cBs a6 ++ (cBs a7 ++ (([a8] : List Value) ++ (cBs a9 ++ (([a10] : List Value) ++ (cBs a11 ++ (([a12, a13] : List Value) ++ (cBs a14 ++ (([a15, a16, a17, a18] : List Value) ++ (cBs a19 ++ (cBs a20 ++ ([a21] : List Value))))))))))))) (A := (([a0, a1, a2, a3, a4, a5] : List Value) ++ (cBs a6 ++ (cBs a7 ++ (([a8] : List Value) ++ (cBs a9 ++ (([a10] : List Value) ++ (cBs a11 ++ (([a12, a13] : List Value) ++ (cBs a14 ++ (([a15, a16, a17, a18] : List Value) ++ (cBs a19 ++ cBs a20)))))))))) : List Value)) (D := ([a21] : List Value)) (C := ([] : List Value)) (o := 238) (j := 0) (by simp) (len_app (m := 6) (n := 232) (k := 238) rfl (len_app (m := 32) (n := 200) (k := 232) (cBs_len ha6) (len_app (m := 32) (n := 168) (k := 200) (cBs_len ha7) (len_app (m := 1) (n := 167) (k := 168) rfl (len_app (m := 32) (n := 135) (k := 167) (cBs_len ha9) (len_app (m := 1) (n := 134) (k := 135) rfl (len_app (m := 32) (n := 102) (k := 134) (cBs_len ha11) (len_app (m := 2) (n := 100) (k := 102) rfl (len_app (m := 32) (n := 68) (k := 100) (cBs_len ha14) (len_app (m := 4) (n := 64) (k := 68) rfl (len_app (m := 32) (n := 32) (k := 64) (cBs_len ha19) (cBs_len ha20) rfl) rfl) rfl) rfl) rfl) rfl) rfl) rfl) rfl) rfl) rfl) rfl (show ([a21] : List Value)[0]? = some (a21) from rfl))
theorem zL28_g10 {a0 : Value} {a1 : Value} {a2 : Value} {a3 : Value} {a4 : Value} {a5 : Value} {a6 : List UInt8} (_ : a6.length = 32) {a7 : List UInt8} (_ : a7.length = 32) {a8 : Value} {a9 : List UInt8} (_ : a9.length = 32) {a10 : Value} {a11 : List UInt8} (_ : a11.length = 32) {a12 : Value} {a13 : Value} {a14 : List UInt8} (_ : a14.length = 32) {a15 : Value} {a16 : Value} {a17 : Value} {a18 : Value} {a19 : List UInt8} (_ : a19.length = 32) {a20 : List UInt8} (_ : a20.length = 32) {a21 : Value} : (([a0, a1, a2, a3, a4, a5] : List Value) ++ (cBs a6 ++ (cBs a7 ++ (([a8] : List Value) ++ (cBs a9 ++ (([a10] : List Value) ++ (cBs a11 ++ (([a12, a13] : List Value) ++ (cBs a14 ++ (([a15, a16, a17, a18] : List Value) ++ (cBs a19 ++ (cBs a20 ++ ([a21] : List Value)))))))))))))[1]? = some a1 := (show (([a0, a1, a2, a3, a4, a5] : List Value) ++ (cBs a6 ++ (cBs a7 ++ (([a8] : List Value) ++ (cBs a9 ++ (([a10] : List Value) ++ (cBs a11 ++ (([a12, a13] : List Value) ++ (cBs a14 ++ (([a15, a16, a17, a18] : List Value) ++ (cBs a19 ++ (cBs a20 ++ ([a21] : List Value)))))))))))))[1]? = some (a1) from (get_l (C := cBs a6 ++ (cBs a7 ++ (([a8] : List Value) ++ (cBs a9 ++ (([a10] : List Value) ++ (cBs a11 ++ (([a12, a13] : List Value) ++ (cBs a14 ++ (([a15, a16, a17, a18] : List Value) ++ (cBs a19 ++ (cBs a20 ++ ([a21] : List Value)))))))))))) (show ([a0, a1, a2, a3, a4, a5] : List Value)[1]? = some (a1) from rfl)))
theorem zL28_g11 {a0 : Value} {a1 : Value} {a2 : Value} {a3 : Value} {a4 : Value} {a5 : Value} {a6 : List UInt8} (_ : a6.length = 32) {a7 : List UInt8} (_ : a7.length = 32) {a8 : Value} {a9 : List UInt8} (_ : a9.length = 32) {a10 : Value} {a11 : List UInt8} (_ : a11.length = 32) {a12 : Value} {a13 : Value} {a14 : List UInt8} (_ : a14.length = 32) {a15 : Value} {a16 : Value} {a17 : Value} {a18 : Value} {a19 : List UInt8} (_ : a19.length = 32) {a20 : List UInt8} (_ : a20.length = 32) {a21 : Value} : (([a0, a1, a2, a3, a4, a5] : List Value) ++ (cBs a6 ++ (cBs a7 ++ (([a8] : List Value) ++ (cBs a9 ++ (([a10] : List Value) ++ (cBs a11 ++ (([a12, a13] : List Value) ++ (cBs a14 ++ (([a15, a16, a17, a18] : List Value) ++ (cBs a19 ++ (cBs a20 ++ ([a21] : List Value)))))))))))))[2]? = some a2 := (show (([a0, a1, a2, a3, a4, a5] : List Value) ++ (cBs a6 ++ (cBs a7 ++ (([a8] : List Value) ++ (cBs a9 ++ (([a10] : List Value) ++ (cBs a11 ++ (([a12, a13] : List Value) ++ (cBs a14 ++ (([a15, a16, a17, a18] : List Value) ++ (cBs a19 ++ (cBs a20 ++ ([a21] : List Value)))))))))))))[2]? = some (a2) from (get_l (C := cBs a6 ++ (cBs a7 ++ (([a8] : List Value) ++ (cBs a9 ++ (([a10] : List Value) ++ (cBs a11 ++ (([a12, a13] : List Value) ++ (cBs a14 ++ (([a15, a16, a17, a18] : List Value) ++ (cBs a19 ++ (cBs a20 ++ ([a21] : List Value)))))))))))) (show ([a0, a1, a2, a3, a4, a5] : List Value)[2]? = some (a2) from rfl)))
set_option maxRecDepth 100000 in
set_option maxHeartbeats 4000000 in
theorem awake28_calls (w : World) :
    Calls Try.prog 50 #[] w fun e'' w' => e'' = .returned (.bool true) ∧ Ext w w' := by
  refine calls_fr (args := []) (n := 40) Try.func50 rfl rfl (show 0 ≤ 40 by decide) ?_
  have hH : Heap (newN w) w w [] := Heap.fresh
  refine wp_seq ?_
  refine wp_gen (fun F' => True) trivial ?_
  rintro F _
  refine wp_regionF ?_
  refine lf_val (v := .bool false) (wantAll rfl) (rv_assign rfl rfl) ?_
  refine lf_nil ?_
  refine then_n ?_
  refine wp_seq ?_
  refine wp_gen (fun F' => F' 0 = .bool false) rfl ?_
  clear F
  rintro F e0
  refine wp_regionF ?_
  refine lf_val (wantAll rfl) (rv_buildS (ps := [(0, (.const (.int .i64 3))), (1, (.const (.int .i64 1))), (2, (.const (.int .i64 2))), (5, (.const (.int .i64 5)))]) (places := #[(0, 1), (1, 1), (2, 1), (3, 67), (70, 33), (103, 1), (104, 32), (136, 35), (171, 68)]) (z := .agg (([.int .i64 0, .int .i64 0, .int .i64 0, .int .i64 0, .int .i64 0, .int .i64 0] : List Value) ++ (cBs (List.replicate 32 0) ++ (cBs (List.replicate 32 0) ++ (([.int .i64 0] : List Value) ++ (cBs (List.replicate 32 0) ++ (([.int .i64 0] : List Value) ++ (cBs (List.replicate 32 0) ++ (([.int .i64 0, .int .i64 0] : List Value) ++ (cBs (List.replicate 32 0) ++ (([.slice none 0 0, .int .i64 0, .int .i64 0, .int .i64 0] : List Value) ++ (cBs (List.replicate 32 0) ++ (cBs (List.replicate 32 0) ++ ([.slice none 0 0] : List Value))))))))))))).toArray) (zc := ([.int .i64 0, .int .i64 0, .int .i64 0, .int .i64 0, .int .i64 0, .int .i64 0] : List Value) ++ (cBs (List.replicate 32 0) ++ (cBs (List.replicate 32 0) ++ (([.int .i64 0] : List Value) ++ (cBs (List.replicate 32 0) ++ (([.int .i64 0] : List Value) ++ (cBs (List.replicate 32 0) ++ (([.int .i64 0, .int .i64 0] : List Value) ++ (cBs (List.replicate 32 0) ++ (([.slice none 0 0, .int .i64 0, .int .i64 0, .int .i64 0] : List Value) ++ (cBs (List.replicate 32 0) ++ (cBs (List.replicate 32 0) ++ ([.slice none 0 0] : List Value))))))))))))) (cs := ([.int .i64 3, .int .i64 1, .int .i64 2, .int .i64 0, .int .i64 0, .int .i64 0] : List Value) ++ (cBs (List.replicate 32 0) ++ (cBs (List.replicate 32 0) ++ (([.int .i64 0] : List Value) ++ (cBs (List.replicate 32 0) ++ (([.int .i64 5] : List Value) ++ (cBs (List.replicate 32 0) ++ (([.int .i64 0, .int .i64 0] : List Value) ++ (cBs (List.replicate 32 0) ++ (([.slice none 0 0, .int .i64 0, .int .i64 0, .int .i64 0] : List Value) ++ (cBs (List.replicate 32 0) ++ (cBs (List.replicate 32 0) ++ ([.slice none 0 0] : List Value))))))))))))) rfl (evpc rfl (evpc rfl (evpc rfl (evpc rfl evpn)))) (by kernel_rfl) rfl Try.underlying81 (fun _ => by kernel_rfl) (fillM (cells' := _) (cs := [.int .i64 3]) (off := 0) (n := 1) rfl (cells_one rfl) (show List.length [.int .i64 3] = 1 from rfl) (le_of_len2 (zL28_l0 (List.length_replicate ..) (List.length_replicate ..) (List.length_replicate ..) (List.length_replicate ..) (List.length_replicate ..) (List.length_replicate ..) (List.length_replicate ..)) (by decide)) (zL28_y1 (List.length_replicate ..) (List.length_replicate ..) (List.length_replicate ..) (List.length_replicate ..) (List.length_replicate ..) (List.length_replicate ..) (List.length_replicate ..)) (fillM (cells' := _) (cs := [.int .i64 1]) (off := 1) (n := 1) rfl (cells_one rfl) (show List.length [.int .i64 1] = 1 from rfl) (le_of_len2 (zL28_l0 (List.length_replicate ..) (List.length_replicate ..) (List.length_replicate ..) (List.length_replicate ..) (List.length_replicate ..) (List.length_replicate ..) (List.length_replicate ..)) (by decide)) (zL28_y2 (List.length_replicate ..) (List.length_replicate ..) (List.length_replicate ..) (List.length_replicate ..) (List.length_replicate ..) (List.length_replicate ..) (List.length_replicate ..)) (fillM (cells' := _) (cs := [.int .i64 2]) (off := 2) (n := 1) rfl (cells_one rfl) (show List.length [.int .i64 2] = 1 from rfl) (le_of_len2 (zL28_l0 (List.length_replicate ..) (List.length_replicate ..) (List.length_replicate ..) (List.length_replicate ..) (List.length_replicate ..) (List.length_replicate ..) (List.length_replicate ..)) (by decide)) (zL28_y3 (List.length_replicate ..) (List.length_replicate ..) (List.length_replicate ..) (List.length_replicate ..) (List.length_replicate ..) (List.length_replicate ..) (List.length_replicate ..)) (fillM (cells' := _) (cs := [.int .i64 5]) (off := 103) (n := 1) rfl (cells_one rfl) (show List.length [.int .i64 5] = 1 from rfl) (le_of_len2 (zL28_l0 (List.length_replicate ..) (List.length_replicate ..) (List.length_replicate ..) (List.length_replicate ..) (List.length_replicate ..) (List.length_replicate ..) (List.length_replicate ..)) (by decide)) (zL28_y4 (List.length_replicate ..) (List.length_replicate ..) (List.length_replicate ..) (List.length_replicate ..) (List.length_replicate ..) (List.length_replicate ..) (List.length_replicate ..)) fill0))))) ?_
  refine lf_ex (wantAll rfl) (hx_alloc hH 81 (z := .agg (([.int .i64 0, .int .i64 0, .int .i64 0, .int .i64 0, .int .i64 0, .int .i64 0] : List Value) ++ (cBs (List.replicate 32 0) ++ (cBs (List.replicate 32 0) ++ (([.int .i64 0] : List Value) ++ (cBs (List.replicate 32 0) ++ (([.int .i64 0] : List Value) ++ (cBs (List.replicate 32 0) ++ (([.int .i64 0, .int .i64 0] : List Value) ++ (cBs (List.replicate 32 0) ++ (([.slice none 0 0, .int .i64 0, .int .i64 0, .int .i64 0] : List Value) ++ (cBs (List.replicate 32 0) ++ (cBs (List.replicate 32 0) ++ ([.slice none 0 0] : List Value))))))))))))).toArray) (n := 239) (cs := ([.int .i64 0, .int .i64 0, .int .i64 0, .int .i64 0, .int .i64 0, .int .i64 0] : List Value) ++ (cBs (List.replicate 32 0) ++ (cBs (List.replicate 32 0) ++ (([.int .i64 0] : List Value) ++ (cBs (List.replicate 32 0) ++ (([.int .i64 0] : List Value) ++ (cBs (List.replicate 32 0) ++ (([.int .i64 0, .int .i64 0] : List Value) ++ (cBs (List.replicate 32 0) ++ (([.slice none 0 0, .int .i64 0, .int .i64 0, .int .i64 0] : List Value) ++ (cBs (List.replicate 32 0) ++ (cBs (List.replicate 32 0) ++ ([.slice none 0 0] : List Value))))))))))))) rfl (by kernel_rfl) (by rfl)) ?_
  clear hH
  rintro _ w1 ⟨g1, rfl, hH, hx⟩
  replace hH : Heap _ _ _ [_] := hH
  clear hx
  refine lf_sk (wantAll rfl) (hx_storeW hH (i := 0) (cs := ([.int .i64 3, .int .i64 1, .int .i64 2, .int .i64 0, .int .i64 0, .int .i64 0] : List Value) ++ (cBs (List.replicate 32 0) ++ (cBs (List.replicate 32 0) ++ (([.int .i64 0] : List Value) ++ (cBs (List.replicate 32 0) ++ (([.int .i64 5] : List Value) ++ (cBs (List.replicate 32 0) ++ (([.int .i64 0, .int .i64 0] : List Value) ++ (cBs (List.replicate 32 0) ++ (([.slice none 0 0, .int .i64 0, .int .i64 0, .int .i64 0] : List Value) ++ (cBs (List.replicate 32 0) ++ (cBs (List.replicate 32 0) ++ ([.slice none 0 0] : List Value))))))))))))) rfl rfl rfl (fr_eval rfl rfl) (fr_eval rfl rfl) (sz_len Try.sz81 (zL28_l0 (List.length_replicate ..) (List.length_replicate ..) (List.length_replicate ..) (List.length_replicate ..) (List.length_replicate ..) (List.length_replicate ..) (List.length_replicate ..))) (((zL28_l0 (List.length_replicate ..) (List.length_replicate ..) (List.length_replicate ..) (List.length_replicate ..) (List.length_replicate ..) (List.length_replicate ..) (List.length_replicate ..))).trans ((zL28_l0 (List.length_replicate ..) (List.length_replicate ..) (List.length_replicate ..) (List.length_replicate ..) (List.length_replicate ..) (List.length_replicate ..) (List.length_replicate ..))).symm) (zL28_o5 rfl rfl rfl rfl rfl rfl rfl rfl rfl rfl rfl rfl rfl rfl rfl)) ?_
  clear hH
  rintro w2 ⟨hH, hx⟩
  replace hH : Heap _ _ _ [_] := hH
  clear hx
  refine lf_nil ?_
  refine then_n ?_
  refine wp_seq ?_
  refine wp_gen (fun F' => F' 0 = .bool false ∧ F' 1 = .pointer (some ⟨g1, 0, none⟩)) ⟨e0, rfl⟩ ?_
  clear e0
  clear F
  rintro F ⟨e0, e1⟩
  refine wp_regionF ?_
  refine lf_val (wantAll rfl) (rv_loadW rfl (hH.blk (i := 0) rfl) (fr_eval rfl e1) Try.underlying81 rfl (sz_len Try.sz81 (zL28_l0 (List.length_replicate ..) (List.length_replicate ..) (List.length_replicate ..) (List.length_replicate ..) (List.length_replicate ..) (List.length_replicate ..) (List.length_replicate ..)))) ?_
  refine lf_call (wantAll rfl) (rv_call (args := [.agg (([.int .i64 3, .int .i64 1, .int .i64 2, .int .i64 0, .int .i64 0, .int .i64 0] : List Value) ++ (cBs (List.replicate 32 0) ++ (cBs (List.replicate 32 0) ++ (([.int .i64 0] : List Value) ++ (cBs (List.replicate 32 0) ++ (([.int .i64 5] : List Value) ++ (cBs (List.replicate 32 0) ++ (([.int .i64 0, .int .i64 0] : List Value) ++ (cBs (List.replicate 32 0) ++ (([.slice none 0 0, .int .i64 0, .int .i64 0, .int .i64 0] : List Value) ++ (cBs (List.replicate 32 0) ++ (cBs (List.replicate 32 0) ++ ([.slice none 0 0] : List Value))))))))))))).toArray]) rfl (evc (fr_eval rfl rfl) evn) Try.call51) (msPut_yes (⟨3, 1, 2, 0, 0, 0, ⟨List.replicate 32 0, (List.length_replicate ..)⟩, ⟨List.replicate 32 0, (List.length_replicate ..)⟩, 0, ⟨List.replicate 32 0, (List.length_replicate ..)⟩, 5, ⟨List.replicate 32 0, (List.length_replicate ..)⟩, 0, 0, ⟨List.replicate 32 0, (List.length_replicate ..)⟩, (⟨0, 0, 0, ⟨List.replicate 32 0, (List.length_replicate ..)⟩, ⟨List.replicate 32 0, (List.length_replicate ..)⟩⟩ : Rc)⟩ : Ms) (by unfold inMs inRc inI; refine ⟨⟨?_, ?_⟩, ⟨?_, ?_⟩, ⟨?_, ?_⟩, ⟨?_, ?_⟩, ⟨?_, ?_⟩, ⟨?_, ?_⟩, ⟨?_, ?_⟩, ⟨?_, ?_⟩, ⟨?_, ?_⟩, ⟨?_, ?_⟩, ⟨?_, ?_⟩, ⟨?_, ?_⟩, ⟨?_, ?_⟩⟩ <;> decide) [] [] (by decide) (by decide) _ _ _ RdB.nil RdB.nil (by unfold inM; decide)) ?_
  rintro _ w3 ⟨⟨y1, rfl, ho, hg⟩, hx⟩
  refine ⟨_, rfl, ?_⟩
  replace hH : Heap _ _ _ [_, _] := hH.addOwn hx hg ho
  clear ho hg
  clear hx
  refine lf_val (v := .tuple #[y1, .int .i64 0]) (wantAll rfl) (rv_move rfl (fr_eval rfl rfl)) ?_
  refine lf_val (v := y1) (wantAll rfl) (rv_extract rfl (fr_eval rfl rfl) rfl) ?_
  refine lf_val (v := .int .i64 0) (wantAll rfl) (rv_extract rfl (fr_eval rfl rfl) rfl) ?_
  refine lf_val (v := y1) (wantAll rfl) (rv_assign rfl (fr_eval rfl rfl)) ?_
  refine lf_val (v := .int .i64 0) (wantAll rfl) (rv_assign rfl (fr_eval rfl rfl)) ?_
  refine lf_nil ?_
  refine then_n ?_
  refine wp_seq ?_
  refine wp_gen (fun F' => F' 0 = .bool false ∧ F' 1 = .pointer (some ⟨g1, 0, none⟩) ∧ F' 2 = y1 ∧ F' 3 = .int .i64 0) ⟨e0, e1, rfl, rfl⟩ ?_
  clear e0 e1
  clear F
  rintro F ⟨e0, e1, e2, e3⟩
  refine wp_regionF ?_
  refine lf_val (v := y1) (wantAll rfl) (rv_move rfl (fr_eval rfl e2)) ?_
  refine lf_call (wantAll rfl) (rv_call (args := [y1]) rfl (evc (fr_eval rfl rfl) evn) Try.call54) (msGet_calls (textM (⟨3, 1, 2, 0, 0, 0, ⟨List.replicate 32 0, (List.length_replicate ..)⟩, ⟨List.replicate 32 0, (List.length_replicate ..)⟩, 0, ⟨List.replicate 32 0, (List.length_replicate ..)⟩, 5, ⟨List.replicate 32 0, (List.length_replicate ..)⟩, 0, 0, ⟨List.replicate 32 0, (List.length_replicate ..)⟩, (⟨0, 0, 0, ⟨List.replicate 32 0, (List.length_replicate ..)⟩, ⟨List.replicate 32 0, (List.length_replicate ..)⟩⟩ : Rc)⟩ : Ms) [] []) (by have := textM_len (⟨3, 1, 2, 0, 0, 0, ⟨List.replicate 32 0, (List.length_replicate ..)⟩, ⟨List.replicate 32 0, (List.length_replicate ..)⟩, 0, ⟨List.replicate 32 0, (List.length_replicate ..)⟩, 5, ⟨List.replicate 32 0, (List.length_replicate ..)⟩, 0, 0, ⟨List.replicate 32 0, (List.length_replicate ..)⟩, (⟨0, 0, 0, ⟨List.replicate 32 0, (List.length_replicate ..)⟩, ⟨List.replicate 32 0, (List.length_replicate ..)⟩⟩ : Rc)⟩ : Ms) [] []; simp only [List.length_nil] at this; omega) _ _ (OwnB.rd (hH.own (i := 1) rfl))) ?_
  rintro _ w4 ⟨mu_t14, mb_t14, mg_t14, y2, y3, me_t14, rfl, hM_t14, hP⟩
  refine ⟨_, rfl, ?_⟩
  have hx := hP.done
  replace hH : Heap _ _ _ [_, _, _, _] := hH.joinN hP (Stays.own (hP.own (i := 0) rfl) (Stays.own (hP.own (i := 1) rfl) Stays.nil))
  clear hP
  clear hx
  refine lf_val (v := .tuple #[.agg (([.int .i64 mu_t14.k, .int .i64 mu_t14.a, .int .i64 mu_t14.b, .int .i64 mu_t14.c0, .int .i64 mu_t14.c1, .int .i64 mu_t14.c2] : List Value) ++ (cBs mu_t14.h0.1 ++ (cBs mu_t14.h1.1 ++ (([.int .i64 mu_t14.g] : List Value) ++ (cBs mu_t14.o.1 ++ (([.int .i64 mu_t14.n] : List Value) ++ (cBs mu_t14.x.1 ++ (([.int .i64 mu_t14.jc, .int .i64 mu_t14.js] : List Value) ++ (cBs mu_t14.jh.1 ++ (([y2, .int .i64 mu_t14.r.t, .int .i64 mu_t14.r.c, .int .i64 mu_t14.r.s] : List Value) ++ (cBs mu_t14.r.h.1 ++ (cBs mu_t14.r.b.1 ++ ([y3] : List Value))))))))))))).toArray, .int .i64 me_t14]) (wantAll rfl) (rv_move rfl (fr_eval rfl rfl)) ?_
  refine lf_val (v := .agg (([.int .i64 mu_t14.k, .int .i64 mu_t14.a, .int .i64 mu_t14.b, .int .i64 mu_t14.c0, .int .i64 mu_t14.c1, .int .i64 mu_t14.c2] : List Value) ++ (cBs mu_t14.h0.1 ++ (cBs mu_t14.h1.1 ++ (([.int .i64 mu_t14.g] : List Value) ++ (cBs mu_t14.o.1 ++ (([.int .i64 mu_t14.n] : List Value) ++ (cBs mu_t14.x.1 ++ (([.int .i64 mu_t14.jc, .int .i64 mu_t14.js] : List Value) ++ (cBs mu_t14.jh.1 ++ (([y2, .int .i64 mu_t14.r.t, .int .i64 mu_t14.r.c, .int .i64 mu_t14.r.s] : List Value) ++ (cBs mu_t14.r.h.1 ++ (cBs mu_t14.r.b.1 ++ ([y3] : List Value))))))))))))).toArray) (wantAll rfl) (rv_extract rfl (fr_eval rfl rfl) rfl) ?_
  refine lf_val (v := .int .i64 me_t14) (wantAll rfl) (rv_extract rfl (fr_eval rfl rfl) rfl) ?_
  refine lf_ex (wantAll rfl) (hx_alloc hH 81 (z := .agg (([.int .i64 0, .int .i64 0, .int .i64 0, .int .i64 0, .int .i64 0, .int .i64 0] : List Value) ++ (cBs (List.replicate 32 0) ++ (cBs (List.replicate 32 0) ++ (([.int .i64 0] : List Value) ++ (cBs (List.replicate 32 0) ++ (([.int .i64 0] : List Value) ++ (cBs (List.replicate 32 0) ++ (([.int .i64 0, .int .i64 0] : List Value) ++ (cBs (List.replicate 32 0) ++ (([.slice none 0 0, .int .i64 0, .int .i64 0, .int .i64 0] : List Value) ++ (cBs (List.replicate 32 0) ++ (cBs (List.replicate 32 0) ++ ([.slice none 0 0] : List Value))))))))))))).toArray) (n := 239) (cs := ([.int .i64 0, .int .i64 0, .int .i64 0, .int .i64 0, .int .i64 0, .int .i64 0] : List Value) ++ (cBs (List.replicate 32 0) ++ (cBs (List.replicate 32 0) ++ (([.int .i64 0] : List Value) ++ (cBs (List.replicate 32 0) ++ (([.int .i64 0] : List Value) ++ (cBs (List.replicate 32 0) ++ (([.int .i64 0, .int .i64 0] : List Value) ++ (cBs (List.replicate 32 0) ++ (([.slice none 0 0, .int .i64 0, .int .i64 0, .int .i64 0] : List Value) ++ (cBs (List.replicate 32 0) ++ (cBs (List.replicate 32 0) ++ ([.slice none 0 0] : List Value))))))))))))) rfl (by kernel_rfl) (by rfl)) ?_
  clear hH
  rintro _ w5 ⟨g2, rfl, hH, hx⟩
  replace hH : Heap _ _ _ [_, _, _, _, _] := hH
  clear hx
  refine lf_sk (wantAll rfl) (hx_storeW hH (i := 4) (cs := ([.int .i64 mu_t14.k, .int .i64 mu_t14.a, .int .i64 mu_t14.b, .int .i64 mu_t14.c0, .int .i64 mu_t14.c1, .int .i64 mu_t14.c2] : List Value) ++ (cBs mu_t14.h0.1 ++ (cBs mu_t14.h1.1 ++ (([.int .i64 mu_t14.g] : List Value) ++ (cBs mu_t14.o.1 ++ (([.int .i64 mu_t14.n] : List Value) ++ (cBs mu_t14.x.1 ++ (([.int .i64 mu_t14.jc, .int .i64 mu_t14.js] : List Value) ++ (cBs mu_t14.jh.1 ++ (([y2, .int .i64 mu_t14.r.t, .int .i64 mu_t14.r.c, .int .i64 mu_t14.r.s] : List Value) ++ (cBs mu_t14.r.h.1 ++ (cBs mu_t14.r.b.1 ++ ([y3] : List Value))))))))))))) rfl rfl rfl (fr_eval rfl rfl) (fr_eval rfl rfl) (sz_len Try.sz81 (zL28_l0 mu_t14.h0.2 mu_t14.h1.2 mu_t14.o.2 mu_t14.x.2 mu_t14.jh.2 mu_t14.r.h.2 mu_t14.r.b.2)) (((zL28_l0 (List.length_replicate ..) (List.length_replicate ..) (List.length_replicate ..) (List.length_replicate ..) (List.length_replicate ..) (List.length_replicate ..) (List.length_replicate ..))).trans ((zL28_l0 mu_t14.h0.2 mu_t14.h1.2 mu_t14.o.2 mu_t14.x.2 mu_t14.jh.2 mu_t14.r.h.2 mu_t14.r.b.2)).symm) (zL28_o5 rfl rfl rfl rfl rfl rfl rfl rfl rfl rfl (Rd.oneV (OwnB.rd (hH.own (i := 2) rfl))) rfl rfl rfl (Rd.oneV (OwnB.rd (hH.own (i := 3) rfl))))) ?_
  clear hH
  rintro w6 ⟨hH, hx⟩
  replace hH : Heap _ _ _ [_, _, _, _, _] := hH
  clear hx
  refine lf_val (v := .int .i64 me_t14) (wantAll rfl) (rv_assign rfl (fr_eval rfl rfl)) ?_
  refine lf_nil ?_
  refine then_n ?_
  refine wp_seq ?_
  refine wp_gen (fun F' => F' 0 = .bool false ∧ F' 1 = .pointer (some ⟨g1, 0, none⟩) ∧ F' 2 = y1 ∧ F' 3 = .int .i64 0 ∧ F' 4 = .pointer (some ⟨g2, 0, none⟩) ∧ F' 5 = .int .i64 me_t14) ⟨e0, e1, e2, e3, rfl, rfl⟩ ?_
  clear e0 e1 e2 e3
  clear F
  rintro F ⟨e0, e1, e2, e3, e4, e5⟩
  obtain rfl : me_t14 = 0 := hM_t14.one (⟨3, 1, 2, 0, 0, 0, ⟨List.replicate 32 0, (List.length_replicate ..)⟩, ⟨List.replicate 32 0, (List.length_replicate ..)⟩, 0, ⟨List.replicate 32 0, (List.length_replicate ..)⟩, 5, ⟨List.replicate 32 0, (List.length_replicate ..)⟩, 0, 0, ⟨List.replicate 32 0, (List.length_replicate ..)⟩, (⟨0, 0, 0, ⟨List.replicate 32 0, (List.length_replicate ..)⟩, ⟨List.replicate 32 0, (List.length_replicate ..)⟩⟩ : Rc)⟩ : Ms) [] [] (by unfold inM; decide) (by unfold plainM inR; decide) (by decide) (by decide) rfl
  obtain ⟨mg1, mg2, mg3, _⟩ := hM_t14.good rfl
  have hn5 : mu_t14.n = 5 := textM_n3 mg1 (q := (⟨3, 1, 2, 0, 0, 0, ⟨List.replicate 32 0, (List.length_replicate ..)⟩, ⟨List.replicate 32 0, (List.length_replicate ..)⟩, 0, ⟨List.replicate 32 0, (List.length_replicate ..)⟩, 5, ⟨List.replicate 32 0, (List.length_replicate ..)⟩, 0, 0, ⟨List.replicate 32 0, (List.length_replicate ..)⟩, (⟨0, 0, 0, ⟨List.replicate 32 0, (List.length_replicate ..)⟩, ⟨List.replicate 32 0, (List.length_replicate ..)⟩⟩ : Rc)⟩ : Ms)) (by unfold inM; decide) mg2 (by unfold plainM inR; decide) mg3.symm rfl
  have hk3 : mu_t14.k = 3 := (textM_head mg1 (q := (⟨3, 1, 2, 0, 0, 0, ⟨List.replicate 32 0, (List.length_replicate ..)⟩, ⟨List.replicate 32 0, (List.length_replicate ..)⟩, 0, ⟨List.replicate 32 0, (List.length_replicate ..)⟩, 5, ⟨List.replicate 32 0, (List.length_replicate ..)⟩, 0, 0, ⟨List.replicate 32 0, (List.length_replicate ..)⟩, (⟨0, 0, 0, ⟨List.replicate 32 0, (List.length_replicate ..)⟩, ⟨List.replicate 32 0, (List.length_replicate ..)⟩⟩ : Rc)⟩ : Ms)) (by unfold inM; decide) mg3.symm).1
  refine wp_regionF ?_
  refine lf_val (wantAll rfl) (rv_buildS (ps := [(0, (.const (.int .i64 3))), (1, (.const (.int .i64 1))), (2, (.const (.int .i64 1)))]) (places := #[(0, 1), (1, 1), (2, 1), (3, 67), (70, 33), (103, 1), (104, 32), (136, 35), (171, 68)]) (z := .agg (([.int .i64 0, .int .i64 0, .int .i64 0, .int .i64 0, .int .i64 0, .int .i64 0] : List Value) ++ (cBs (List.replicate 32 0) ++ (cBs (List.replicate 32 0) ++ (([.int .i64 0] : List Value) ++ (cBs (List.replicate 32 0) ++ (([.int .i64 0] : List Value) ++ (cBs (List.replicate 32 0) ++ (([.int .i64 0, .int .i64 0] : List Value) ++ (cBs (List.replicate 32 0) ++ (([.slice none 0 0, .int .i64 0, .int .i64 0, .int .i64 0] : List Value) ++ (cBs (List.replicate 32 0) ++ (cBs (List.replicate 32 0) ++ ([.slice none 0 0] : List Value))))))))))))).toArray) (zc := ([.int .i64 0, .int .i64 0, .int .i64 0, .int .i64 0, .int .i64 0, .int .i64 0] : List Value) ++ (cBs (List.replicate 32 0) ++ (cBs (List.replicate 32 0) ++ (([.int .i64 0] : List Value) ++ (cBs (List.replicate 32 0) ++ (([.int .i64 0] : List Value) ++ (cBs (List.replicate 32 0) ++ (([.int .i64 0, .int .i64 0] : List Value) ++ (cBs (List.replicate 32 0) ++ (([.slice none 0 0, .int .i64 0, .int .i64 0, .int .i64 0] : List Value) ++ (cBs (List.replicate 32 0) ++ (cBs (List.replicate 32 0) ++ ([.slice none 0 0] : List Value))))))))))))) (cs := ([.int .i64 3, .int .i64 1, .int .i64 1, .int .i64 0, .int .i64 0, .int .i64 0] : List Value) ++ (cBs (List.replicate 32 0) ++ (cBs (List.replicate 32 0) ++ (([.int .i64 0] : List Value) ++ (cBs (List.replicate 32 0) ++ (([.int .i64 0] : List Value) ++ (cBs (List.replicate 32 0) ++ (([.int .i64 0, .int .i64 0] : List Value) ++ (cBs (List.replicate 32 0) ++ (([.slice none 0 0, .int .i64 0, .int .i64 0, .int .i64 0] : List Value) ++ (cBs (List.replicate 32 0) ++ (cBs (List.replicate 32 0) ++ ([.slice none 0 0] : List Value))))))))))))) rfl (evpc rfl (evpc rfl (evpc rfl evpn))) (by kernel_rfl) rfl Try.underlying81 (fun _ => by kernel_rfl) (fillM (cells' := _) (cs := [.int .i64 3]) (off := 0) (n := 1) rfl (cells_one rfl) (show List.length [.int .i64 3] = 1 from rfl) (le_of_len2 (zL28_l0 (List.length_replicate ..) (List.length_replicate ..) (List.length_replicate ..) (List.length_replicate ..) (List.length_replicate ..) (List.length_replicate ..) (List.length_replicate ..)) (by decide)) (zL28_y1 (List.length_replicate ..) (List.length_replicate ..) (List.length_replicate ..) (List.length_replicate ..) (List.length_replicate ..) (List.length_replicate ..) (List.length_replicate ..)) (fillM (cells' := _) (cs := [.int .i64 1]) (off := 1) (n := 1) rfl (cells_one rfl) (show List.length [.int .i64 1] = 1 from rfl) (le_of_len2 (zL28_l0 (List.length_replicate ..) (List.length_replicate ..) (List.length_replicate ..) (List.length_replicate ..) (List.length_replicate ..) (List.length_replicate ..) (List.length_replicate ..)) (by decide)) (zL28_y2 (List.length_replicate ..) (List.length_replicate ..) (List.length_replicate ..) (List.length_replicate ..) (List.length_replicate ..) (List.length_replicate ..) (List.length_replicate ..)) (fillM (cells' := _) (cs := [.int .i64 1]) (off := 2) (n := 1) rfl (cells_one rfl) (show List.length [.int .i64 1] = 1 from rfl) (le_of_len2 (zL28_l0 (List.length_replicate ..) (List.length_replicate ..) (List.length_replicate ..) (List.length_replicate ..) (List.length_replicate ..) (List.length_replicate ..) (List.length_replicate ..)) (by decide)) (zL28_y3 (List.length_replicate ..) (List.length_replicate ..) (List.length_replicate ..) (List.length_replicate ..) (List.length_replicate ..) (List.length_replicate ..) (List.length_replicate ..)) fill0)))) ?_
  refine lf_call (wantAll rfl) (rv_call (args := [.agg (([.int .i64 3, .int .i64 1, .int .i64 1, .int .i64 0, .int .i64 0, .int .i64 0] : List Value) ++ (cBs (List.replicate 32 0) ++ (cBs (List.replicate 32 0) ++ (([.int .i64 0] : List Value) ++ (cBs (List.replicate 32 0) ++ (([.int .i64 0] : List Value) ++ (cBs (List.replicate 32 0) ++ (([.int .i64 0, .int .i64 0] : List Value) ++ (cBs (List.replicate 32 0) ++ (([.slice none 0 0, .int .i64 0, .int .i64 0, .int .i64 0] : List Value) ++ (cBs (List.replicate 32 0) ++ (cBs (List.replicate 32 0) ++ ([.slice none 0 0] : List Value))))))))))))).toArray]) rfl (evc (fr_eval rfl rfl) evn) Try.call52) (calls_known (b' := false) (msRight_calls (⟨3, 1, 1, 0, 0, 0, ⟨List.replicate 32 0, (List.length_replicate ..)⟩, ⟨List.replicate 32 0, (List.length_replicate ..)⟩, 0, ⟨List.replicate 32 0, (List.length_replicate ..)⟩, 0, ⟨List.replicate 32 0, (List.length_replicate ..)⟩, 0, 0, ⟨List.replicate 32 0, (List.length_replicate ..)⟩, (⟨0, 0, 0, ⟨List.replicate 32 0, (List.length_replicate ..)⟩, ⟨List.replicate 32 0, (List.length_replicate ..)⟩⟩ : Rc)⟩ : Ms) _ _ _) (decide_eq_false (by unfold inM; decide))) ?_
  rintro _ w7 ⟨rfl, hx⟩
  refine ⟨_, rfl, ?_⟩
  replace hH := hH.ext hx
  clear hx
  refine lf_val (v := .bool true) (wantAll rfl) (rv_not (b := false) rfl (fr_eval rfl rfl)) ?_
  refine lf_val (v := .bool true) (wantAll rfl) (rv_move rfl (fr_eval rfl rfl)) ?_
  refine lf_val (v := .int .i64 0) (wantF (d := 20) rfl (by kernel_rfl) rfl rfl) (rv_move rfl (fr_eval rfl e3)) ?_
  refine lf_val (v := .bool true) (wantF (d := 20) rfl (by kernel_rfl) rfl rfl) (rv_eql rfl (fr_eval rfl rfl) rfl (by decide)) ?_
  refine lf_val (v := .bool true) (wantAll rfl) (rv_pickT rfl (fr_eval rfl rfl) (fr_eval rfl rfl)) ?_
  refine lf_val (v := .bool true) (wantAll rfl) (rv_move rfl (fr_eval rfl rfl)) ?_
  refine lf_val (v := .int .i64 0) (wantF (d := 24) rfl (by kernel_rfl) rfl rfl) (rv_move rfl (fr_eval rfl e5)) ?_
  refine lf_val (v := .bool true) (wantF (d := 24) rfl (by kernel_rfl) rfl rfl) (rv_eql rfl (fr_eval rfl rfl) rfl (by decide)) ?_
  refine lf_val (v := .bool true) (wantAll rfl) (rv_pickT rfl (fr_eval rfl rfl) (fr_eval rfl rfl)) ?_
  refine lf_val (v := .bool true) (wantAll rfl) (rv_move rfl (fr_eval rfl rfl)) ?_
  refine lf_val (v := .pointer (some ⟨g2, 103, none⟩)) (wantF (d := 28) rfl (by kernel_rfl) rfl rfl) (rv_fieldAddr (n := 0) rfl (fr_eval rfl e4) Try.underlying81 rfl rfl (by kernel_rfl)) ?_
  refine lf_val (v := .int .i64 mu_t14.n) (wantF (d := 28) rfl (by kernel_rfl) rfl rfl) (rv_load1 rfl (hH.blk (i := 4) rfl) (zL28_g6 mu_t14.h0.2 mu_t14.h1.2 mu_t14.o.2 mu_t14.x.2 mu_t14.jh.2 mu_t14.r.h.2 mu_t14.r.b.2) (fr_eval rfl rfl) Try.underlying3 rfl Try.sz3) ?_
  refine lf_val (v := .bool true) (wantF (d := 28) rfl (by kernel_rfl) rfl rfl) (rv_eql rfl (fr_eval rfl rfl) rfl (decide_eq_true (by omega))) ?_
  refine lf_val (v := .bool true) (wantAll rfl) (rv_pickT rfl (fr_eval rfl rfl) (fr_eval rfl rfl)) ?_
  refine lf_val (v := .bool true) (wantAll rfl) (rv_move rfl (fr_eval rfl rfl)) ?_
  refine lf_val (v := .pointer (some ⟨g2, 0, none⟩)) (wantF (d := 33) rfl (by kernel_rfl) rfl rfl) (rv_fieldAddr (n := 0) rfl (fr_eval rfl e4) Try.underlying81 rfl rfl (by kernel_rfl)) ?_
  refine lf_val (v := .int .i64 mu_t14.k) (wantF (d := 33) rfl (by kernel_rfl) rfl rfl) (rv_load1 rfl (hH.blk (i := 4) rfl) (zL28_g7 mu_t14.h0.2 mu_t14.h1.2 mu_t14.o.2 mu_t14.x.2 mu_t14.jh.2 mu_t14.r.h.2 mu_t14.r.b.2) (fr_eval rfl rfl) Try.underlying3 rfl Try.sz3) ?_
  refine lf_val (v := .bool true) (wantF (d := 33) rfl (by kernel_rfl) rfl rfl) (rv_eql rfl (fr_eval rfl rfl) rfl (decide_eq_true (by omega))) ?_
  refine lf_val (v := .bool true) (wantAll rfl) (rv_pickT rfl (fr_eval rfl rfl) (fr_eval rfl rfl)) ?_
  refine lf_val (v := .bool true) (wantAll rfl) (rv_move rfl (fr_eval rfl rfl)) ?_
  refine lf_val (v := .bool true) (wantAll rfl) (rv_pickT rfl (fr_eval rfl rfl) rfl) ?_
  refine lf_val (v := .bool true) (wantAll rfl) (rv_assign rfl (fr_eval rfl rfl)) ?_
  refine lf_nil ?_
  refine then_n ?_
  refine wp_gen (fun F' => F' 0 = .bool true ∧ F' 1 = .pointer (some ⟨g1, 0, none⟩) ∧ F' 2 = y1 ∧ F' 3 = .int .i64 0 ∧ F' 4 = .pointer (some ⟨g2, 0, none⟩) ∧ F' 5 = .int .i64 0) ⟨rfl, e1, e2, e3, e4, e5⟩ ?_
  clear e0 e1 e2 e3 e4 e5
  clear F
  rintro F ⟨e0, e1, e2, e3, e4, e5⟩
  refine wp_ret ?_
  exact bodyPost_ret (v := (.bool true)) (res1 rfl (ro_tmp rfl e0)) rfl (⟨rfl, hH.done⟩)

set_option maxRecDepth 100000 in
set_option maxHeartbeats 4000000 in
theorem talkPuts_walk (u : Ms) (hin : inMs u) (bl sg : List UInt8) (vb vg : Value) (w : World) (hbl0 : RdB w vb bl) (hsg0 : RdB w vg sg) :
    Calls Try.prog 11 #[.agg (([.int .i64 u.k, .int .i64 u.a, .int .i64 u.b, .int .i64 u.c0, .int .i64 u.c1, .int .i64 u.c2] : List Value) ++ (cBs u.h0.1 ++ (cBs u.h1.1 ++ (([.int .i64 u.g] : List Value) ++ (cBs u.o.1 ++ (([.int .i64 u.n] : List Value) ++ (cBs u.x.1 ++ (([.int .i64 u.jc, .int .i64 u.js] : List Value) ++ (cBs u.jh.1 ++ (([vb, .int .i64 u.r.t, .int .i64 u.r.c, .int .i64 u.r.s] : List Value) ++ (cBs u.r.h.1 ++ (cBs u.r.b.1 ++ ([vg] : List Value))))))))))))).toArray] w fun e'' w' => e'' = .returned (.bool true) ∧ Ext w w' := by
  refine calls_fr (args := [.agg (([.int .i64 u.k, .int .i64 u.a, .int .i64 u.b, .int .i64 u.c0, .int .i64 u.c1, .int .i64 u.c2] : List Value) ++ (cBs u.h0.1 ++ (cBs u.h1.1 ++ (([.int .i64 u.g] : List Value) ++ (cBs u.o.1 ++ (([.int .i64 u.n] : List Value) ++ (cBs u.x.1 ++ (([.int .i64 u.jc, .int .i64 u.js] : List Value) ++ (cBs u.jh.1 ++ (([vb, .int .i64 u.r.t, .int .i64 u.r.c, .int .i64 u.r.s] : List Value) ++ (cBs u.r.h.1 ++ (cBs u.r.b.1 ++ ([vg] : List Value))))))))))))).toArray]) (n := 101) Try.func11 rfl rfl (show 1 ≤ 101 by decide) ?_
  have hbl := Rd.stab hbl0
  have hsg := Rd.stab hsg0
  have hH : Heap (newN w) w w [] := Heap.fresh
  by_cases hM : inM u
  · refine wp_seq ?_
    refine wp_gen (fun F' => F' 0 = .agg (([.int .i64 u.k, .int .i64 u.a, .int .i64 u.b, .int .i64 u.c0, .int .i64 u.c1, .int .i64 u.c2] : List Value) ++ (cBs u.h0.1 ++ (cBs u.h1.1 ++ (([.int .i64 u.g] : List Value) ++ (cBs u.o.1 ++ (([.int .i64 u.n] : List Value) ++ (cBs u.x.1 ++ (([.int .i64 u.jc, .int .i64 u.js] : List Value) ++ (cBs u.jh.1 ++ (([vb, .int .i64 u.r.t, .int .i64 u.r.c, .int .i64 u.r.s] : List Value) ++ (cBs u.r.h.1 ++ (cBs u.r.b.1 ++ ([vg] : List Value))))))))))))).toArray) rfl ?_
    rintro F e0
    refine wp_regionF ?_
    refine lf_ex (wantAll rfl) (hx_box hH 81 (cs := ([.int .i64 u.k, .int .i64 u.a, .int .i64 u.b, .int .i64 u.c0, .int .i64 u.c1, .int .i64 u.c2] : List Value) ++ (cBs u.h0.1 ++ (cBs u.h1.1 ++ (([.int .i64 u.g] : List Value) ++ (cBs u.o.1 ++ (([.int .i64 u.n] : List Value) ++ (cBs u.x.1 ++ (([.int .i64 u.jc, .int .i64 u.js] : List Value) ++ (cBs u.jh.1 ++ (([vb, .int .i64 u.r.t, .int .i64 u.r.c, .int .i64 u.r.s] : List Value) ++ (cBs u.r.h.1 ++ (cBs u.r.b.1 ++ ([vg] : List Value))))))))))))) rfl (fr_eval rfl e0) (by rfl)) ?_
    clear hH
    rintro _ w1 ⟨g1, rfl, hH, hx⟩
    replace hH : Heap _ _ _ [_] := hH
    clear hx
    refine lf_val (v := .bool false) (wantAll rfl) (rv_assign rfl rfl) ?_
    refine lf_nil ?_
    refine then_n ?_
    refine wp_seq ?_
    refine wp_seq ?_
    refine wp_gen (fun F' => F' 0 = .agg (([.int .i64 u.k, .int .i64 u.a, .int .i64 u.b, .int .i64 u.c0, .int .i64 u.c1, .int .i64 u.c2] : List Value) ++ (cBs u.h0.1 ++ (cBs u.h1.1 ++ (([.int .i64 u.g] : List Value) ++ (cBs u.o.1 ++ (([.int .i64 u.n] : List Value) ++ (cBs u.x.1 ++ (([.int .i64 u.jc, .int .i64 u.js] : List Value) ++ (cBs u.jh.1 ++ (([vb, .int .i64 u.r.t, .int .i64 u.r.c, .int .i64 u.r.s] : List Value) ++ (cBs u.r.h.1 ++ (cBs u.r.b.1 ++ ([vg] : List Value))))))))))))).toArray ∧ F' 1 = .pointer (some ⟨g1, 0, none⟩) ∧ F' 2 = .bool false) ⟨e0, rfl, rfl⟩ ?_
    clear e0
    clear F
    rintro F ⟨e0, e1, e2⟩
    refine wp_regionF ?_
    refine lf_val (v := .pointer (some ⟨g1, 136, none⟩)) (wantAll rfl) (rv_fieldAddr (n := 34) rfl (fr_eval rfl e1) Try.underlying81 rfl rfl (by kernel_rfl)) ?_
    refine lf_val (v := .pointer (some ⟨g1, 170, none⟩)) (wantAll rfl) (rv_fieldAddr (n := 0) rfl (fr_eval rfl rfl) Try.underlying79 rfl rfl (by kernel_rfl)) ?_
    refine lf_val (v := vb) (wantAll rfl) (rv_load1 rfl (hH.blk (i := 0) rfl) (zL28_g8 u.h0.2 u.h1.2 u.o.2 u.x.2 u.jh.2 u.r.h.2 u.r.b.2) (fr_eval rfl rfl) Try.underlying22 rfl Try.sz22) ?_
    refine lf_val (v := .int .i64 ((bl.length : Nat) : Int)) (wantAll rfl) (rv_len rfl (fr_eval rfl rfl) (RdB.rn (hbl.rd _ hH.chg) rfl) Try.underlying22) ?_
    refine lf_val (v := .bool (decide (bl.length > 1000))) (wantAll rfl) (rv_gtrP (p := bl.length > 1000) rfl (fr_eval rfl rfl) rfl (by omega)) ?_
    refine lf_val (v := .bool (decide (bl.length > 1000))) (wantAll rfl) (rv_move rfl (fr_eval rfl rfl)) ?_
    refine lf_joinP (fun F' => F' 0 = .agg (([.int .i64 u.k, .int .i64 u.a, .int .i64 u.b, .int .i64 u.c0, .int .i64 u.c1, .int .i64 u.c2] : List Value) ++ (cBs u.h0.1 ++ (cBs u.h1.1 ++ (([.int .i64 u.g] : List Value) ++ (cBs u.o.1 ++ (([.int .i64 u.n] : List Value) ++ (cBs u.x.1 ++ (([.int .i64 u.jc, .int .i64 u.js] : List Value) ++ (cBs u.jh.1 ++ (([vb, .int .i64 u.r.t, .int .i64 u.r.c, .int .i64 u.r.s] : List Value) ++ (cBs u.r.h.1 ++ (cBs u.r.b.1 ++ ([vg] : List Value))))))))))))).toArray ∧ F' 1 = .pointer (some ⟨g1, 0, none⟩) ∧ F' 2 = .bool false ∧ F' 18 = .bool (decide ((bl.length > 1000) ∨ (sg.length > 6000)))) 6 (fun hk => ?_) ?_
    · by_cases hc1 : bl.length > 1000
      · refine lf_not (wantNot (d := 12) rfl (by kernel_rfl) rfl (congrArg Value.bool (decide_eq_true hc1))) ?_
        refine lf_not (wantNot (d := 12) rfl (by kernel_rfl) rfl (congrArg Value.bool (decide_eq_true hc1))) ?_
        refine lf_not (wantNot (d := 12) rfl (by kernel_rfl) rfl (congrArg Value.bool (decide_eq_true hc1))) ?_
        refine lf_not (wantNot (d := 12) rfl (by kernel_rfl) rfl (congrArg Value.bool (decide_eq_true hc1))) ?_
        refine lf_not (wantNot (d := 12) rfl (by kernel_rfl) rfl (congrArg Value.bool (decide_eq_true hc1))) ?_
        refine lf_val (v := .bool true) (wantAll rfl) (rv_pickT rfl (fr_eval rfl (congrArg Value.bool (decide_eq_true hc1))) rfl) ?_
        exact hk _ ⟨e0, e1, e2, (congrArg Value.bool (dec_orT hc1))⟩
      · refine lf_val (v := .pointer (some ⟨g1, 171, none⟩)) (wantF (d := 12) rfl (by kernel_rfl) rfl (congrArg Value.bool (decide_eq_false hc1))) (rv_fieldAddr (n := 67) rfl (fr_eval rfl e1) Try.underlying81 rfl rfl (by kernel_rfl)) ?_
        refine lf_val (v := .pointer (some ⟨g1, 238, none⟩)) (wantF (d := 12) rfl (by kernel_rfl) rfl (congrArg Value.bool (decide_eq_false hc1))) (rv_fieldAddr (n := 0) rfl (fr_eval rfl rfl) Try.underlying61 rfl rfl (by kernel_rfl)) ?_
        refine lf_val (v := vg) (wantF (d := 12) rfl (by kernel_rfl) rfl (congrArg Value.bool (decide_eq_false hc1))) (rv_load1 rfl (hH.blk (i := 0) rfl) (zL28_g9 u.h0.2 u.h1.2 u.o.2 u.x.2 u.jh.2 u.r.h.2 u.r.b.2) (fr_eval rfl rfl) Try.underlying22 rfl Try.sz22) ?_
        refine lf_val (v := .int .i64 ((sg.length : Nat) : Int)) (wantF (d := 12) rfl (by kernel_rfl) rfl (congrArg Value.bool (decide_eq_false hc1))) (rv_len rfl (fr_eval rfl rfl) (RdB.rn (hsg.rd _ hH.chg) rfl) Try.underlying22) ?_
        refine lf_val (v := .bool (decide (sg.length > 6000))) (wantF (d := 12) rfl (by kernel_rfl) rfl (congrArg Value.bool (decide_eq_false hc1))) (rv_gtrP (p := sg.length > 6000) rfl (fr_eval rfl rfl) rfl (by omega)) ?_
        refine lf_val (v := .bool (decide (sg.length > 6000))) (wantAll rfl) (rv_pickF rfl (fr_eval rfl (congrArg Value.bool (decide_eq_false hc1))) (fr_eval rfl rfl)) ?_
        exact hk _ ⟨e0, e1, e2, (congrArg Value.bool (dec_or hc1))⟩
    · clear e0 e1 e2
      clear F
      rintro F ⟨e0, e1, e2, e18⟩
      refine lf_nil ?_
      refine then_n ?_
      by_cases hc2 : (bl.length > 1000) ∨ (sg.length > 6000)
      · refine wp_cond_true (fr_eval rfl (e18.trans (congrArg Value.bool (decide_eq_true hc2)))) ?_
        refine wp_seq ?_
        refine wp_regionF ?_
        refine lf_call (wantAll rfl) (rv_call (args := []) rfl evn Try.call50) (awake28_calls _) ?_
        rintro _ w2 ⟨rfl, hx⟩
        refine ⟨_, rfl, ?_⟩
        replace hH := hH.ext hx
        clear hx
        refine lf_val (v := .bool true) (wantAll rfl) (rv_assign rfl (fr_eval rfl rfl)) ?_
        refine lf_nil ?_
        refine then_n ?_
        refine wp_gen (fun F' => F' 0 = .agg (([.int .i64 u.k, .int .i64 u.a, .int .i64 u.b, .int .i64 u.c0, .int .i64 u.c1, .int .i64 u.c2] : List Value) ++ (cBs u.h0.1 ++ (cBs u.h1.1 ++ (([.int .i64 u.g] : List Value) ++ (cBs u.o.1 ++ (([.int .i64 u.n] : List Value) ++ (cBs u.x.1 ++ (([.int .i64 u.jc, .int .i64 u.js] : List Value) ++ (cBs u.jh.1 ++ (([vb, .int .i64 u.r.t, .int .i64 u.r.c, .int .i64 u.r.s] : List Value) ++ (cBs u.r.h.1 ++ (cBs u.r.b.1 ++ ([vg] : List Value))))))))))))).toArray ∧ F' 1 = .pointer (some ⟨g1, 0, none⟩) ∧ F' 2 = .bool true ∧ F' 18 = .bool true) ⟨e0, e1, rfl, (e18.trans (congrArg Value.bool (decide_eq_true hc2)))⟩ ?_
        clear e0 e1 e2 e18
        clear F
        rintro F ⟨e0, e1, e2, e18⟩
        refine wp_ret ?_
        refine then_ret ?_
        exact bodyPost_ret (v := (.bool true)) (res1 rfl (ro_tmp rfl e2)) rfl (⟨rfl, hH.done⟩)
      · refine wp_cond_false (fr_eval rfl (e18.trans (congrArg Value.bool (decide_eq_false hc2)))) ?_
        refine wp_skip ?_
        refine then_n ?_
        refine wp_seq ?_
        refine wp_regionF ?_
        refine lf_val (wantAll rfl) (rv_loadW rfl (hH.blk (i := 0) rfl) (fr_eval rfl e1) Try.underlying81 rfl (sz_len Try.sz81 (zL28_l0 u.h0.2 u.h1.2 u.o.2 u.x.2 u.jh.2 u.r.h.2 u.r.b.2))) ?_
        refine lf_call (wantAll rfl) (rv_call (args := [.agg (([.int .i64 u.k, .int .i64 u.a, .int .i64 u.b, .int .i64 u.c0, .int .i64 u.c1, .int .i64 u.c2] : List Value) ++ (cBs u.h0.1 ++ (cBs u.h1.1 ++ (([.int .i64 u.g] : List Value) ++ (cBs u.o.1 ++ (([.int .i64 u.n] : List Value) ++ (cBs u.x.1 ++ (([.int .i64 u.jc, .int .i64 u.js] : List Value) ++ (cBs u.jh.1 ++ (([vb, .int .i64 u.r.t, .int .i64 u.r.c, .int .i64 u.r.s] : List Value) ++ (cBs u.r.h.1 ++ (cBs u.r.b.1 ++ ([vg] : List Value))))))))))))).toArray]) rfl (evc (fr_eval rfl rfl) evn) Try.call51) (msPut_yes u hin bl sg (by omega) (by omega) _ _ _ (hbl.rd _ hH.chg) (hsg.rd _ hH.chg) hM) ?_
        rintro _ w3 ⟨⟨y1, rfl, ho, hg⟩, hx⟩
        refine ⟨_, rfl, ?_⟩
        replace hH : Heap _ _ _ [_, _] := hH.addOwn hx hg ho
        clear ho hg
        clear hx
        refine lf_val (v := .tuple #[y1, .int .i64 0]) (wantAll rfl) (rv_move rfl (fr_eval rfl rfl)) ?_
        refine lf_val (v := y1) (wantAll rfl) (rv_extract rfl (fr_eval rfl rfl) rfl) ?_
        refine lf_val (v := .int .i64 0) (wantAll rfl) (rv_extract rfl (fr_eval rfl rfl) rfl) ?_
        refine lf_val (v := y1) (wantAll rfl) (rv_assign rfl (fr_eval rfl rfl)) ?_
        refine lf_val (v := .int .i64 0) (wantAll rfl) (rv_assign rfl (fr_eval rfl rfl)) ?_
        refine lf_nil ?_
        refine then_n ?_
        refine wp_seq ?_
        refine wp_seq ?_
        refine wp_gen (fun F' => F' 0 = .agg (([.int .i64 u.k, .int .i64 u.a, .int .i64 u.b, .int .i64 u.c0, .int .i64 u.c1, .int .i64 u.c2] : List Value) ++ (cBs u.h0.1 ++ (cBs u.h1.1 ++ (([.int .i64 u.g] : List Value) ++ (cBs u.o.1 ++ (([.int .i64 u.n] : List Value) ++ (cBs u.x.1 ++ (([.int .i64 u.jc, .int .i64 u.js] : List Value) ++ (cBs u.jh.1 ++ (([vb, .int .i64 u.r.t, .int .i64 u.r.c, .int .i64 u.r.s] : List Value) ++ (cBs u.r.h.1 ++ (cBs u.r.b.1 ++ ([vg] : List Value))))))))))))).toArray ∧ F' 1 = .pointer (some ⟨g1, 0, none⟩) ∧ F' 2 = .bool false ∧ F' 3 = y1 ∧ F' 4 = .int .i64 0 ∧ F' 18 = .bool false) ⟨e0, e1, e2, rfl, rfl, (e18.trans (congrArg Value.bool (decide_eq_false hc2)))⟩ ?_
        clear e0 e1 e2 e18
        clear F
        rintro F ⟨e0, e1, e2, e3, e4, e18⟩
        refine wp_regionX (fun _ => False) 3 (by kernel_rfl) (by kernel_rfl) ?_
        refine xl_take (i := 0) (v := .agg (([.int .i64 u.k, .int .i64 u.a, .int .i64 u.b, .int .i64 u.c0, .int .i64 u.c1, .int .i64 u.c2] : List Value) ++ (cBs u.h0.1 ++ (cBs u.h1.1 ++ (([.int .i64 u.g] : List Value) ++ (cBs u.o.1 ++ (([.int .i64 u.n] : List Value) ++ (cBs u.x.1 ++ (([.int .i64 u.jc, .int .i64 u.js] : List Value) ++ (cBs u.jh.1 ++ (([vb, .int .i64 u.r.t, .int .i64 u.r.c, .int .i64 u.r.s] : List Value) ++ (cBs u.r.h.1 ++ (cBs u.r.b.1 ++ ([vg] : List Value))))))))))))).toArray) rfl (by kernel_rfl) (by kernel_rfl) (by kernel_rfl) (by kernel_rfl) (yx_val (wantAll rfl) (fun w' hx' => rv_loadW rfl ((hH.ext hx').blk (i := 0) rfl) (fr_eval rfl e1) Try.underlying81 rfl (sz_len Try.sz81 (zL28_l0 u.h0.2 u.h1.2 u.o.2 u.x.2 u.jh.2 u.r.h.2 u.r.b.2)))) ?_
        refine xl_take (i := 1) (v := .bool true) rfl (by kernel_rfl) (by kernel_rfl) (by kernel_rfl) (by kernel_rfl) (yx_call (wantAll rfl) (fun w' => rv_call (args := [.agg (([.int .i64 u.k, .int .i64 u.a, .int .i64 u.b, .int .i64 u.c0, .int .i64 u.c1, .int .i64 u.c2] : List Value) ++ (cBs u.h0.1 ++ (cBs u.h1.1 ++ (([.int .i64 u.g] : List Value) ++ (cBs u.o.1 ++ (([.int .i64 u.n] : List Value) ++ (cBs u.x.1 ++ (([.int .i64 u.jc, .int .i64 u.js] : List Value) ++ (cBs u.jh.1 ++ (([vb, .int .i64 u.r.t, .int .i64 u.r.c, .int .i64 u.r.s] : List Value) ++ (cBs u.r.h.1 ++ (cBs u.r.b.1 ++ ([vg] : List Value))))))))))))).toArray]) rfl (evc (fr_eval rfl rfl) evn) Try.call52) (fun w' hx' => calls_known (b' := true) (msRight_calls u _ _ _) (decide_eq_true hM))) ?_
        refine xl_take (i := 2) (v := .agg (([.int .i64 u.k, .int .i64 u.a, .int .i64 u.b, .int .i64 u.c0, .int .i64 u.c1, .int .i64 u.c2] : List Value) ++ (cBs u.h0.1 ++ (cBs u.h1.1 ++ (([.int .i64 u.g] : List Value) ++ (cBs u.o.1 ++ (([.int .i64 u.n] : List Value) ++ (cBs u.x.1 ++ (([.int .i64 u.jc, .int .i64 u.js] : List Value) ++ (cBs u.jh.1 ++ (([vb, .int .i64 u.r.t, .int .i64 u.r.c, .int .i64 u.r.s] : List Value) ++ (cBs u.r.h.1 ++ (cBs u.r.b.1 ++ ([vg] : List Value))))))))))))).toArray) rfl (by kernel_rfl) (by kernel_rfl) (by kernel_rfl) (by kernel_rfl) (yx_val (wantAll rfl) (fun w' hx' => rv_loadW rfl ((hH.ext hx').blk (i := 0) rfl) (fr_eval rfl e1) Try.underlying81 rfl (sz_len Try.sz81 (zL28_l0 u.h0.2 u.h1.2 u.o.2 u.x.2 u.jh.2 u.r.h.2 u.r.b.2)))) ?_
        refine xl_tail (s := 3) rfl ?_
        intro w4 hx
        replace hH := hH.ext hx
        clear hx
        refine lf_call (wantAll rfl) (rv_call (args := [.agg (([.int .i64 u.k, .int .i64 u.a, .int .i64 u.b, .int .i64 u.c0, .int .i64 u.c1, .int .i64 u.c2] : List Value) ++ (cBs u.h0.1 ++ (cBs u.h1.1 ++ (([.int .i64 u.g] : List Value) ++ (cBs u.o.1 ++ (([.int .i64 u.n] : List Value) ++ (cBs u.x.1 ++ (([.int .i64 u.jc, .int .i64 u.js] : List Value) ++ (cBs u.jh.1 ++ (([vb, .int .i64 u.r.t, .int .i64 u.r.c, .int .i64 u.r.s] : List Value) ++ (cBs u.r.h.1 ++ (cBs u.r.b.1 ++ ([vg] : List Value))))))))))))).toArray]) rfl (evc (fr_eval rfl rfl) evn) Try.call53) (calls_known (b' := true) (msRight28_calls u _ _ _) (decide_eq_true hM)) ?_
        rintro _ w5 ⟨rfl, hx⟩
        refine ⟨_, rfl, ?_⟩
        replace hH := hH.ext hx
        clear hx
        refine lf_val (v := .bool false) (wantAll rfl) (rv_neb (d := true) rfl (fr_eval rfl rfl) (fr_eval rfl rfl) Try.underlying4 (beq_self_eq_true _)) ?_
        refine lf_nil ?_
        refine then_n ?_
        refine wp_gen (fun F' => F' 0 = .agg (([.int .i64 u.k, .int .i64 u.a, .int .i64 u.b, .int .i64 u.c0, .int .i64 u.c1, .int .i64 u.c2] : List Value) ++ (cBs u.h0.1 ++ (cBs u.h1.1 ++ (([.int .i64 u.g] : List Value) ++ (cBs u.o.1 ++ (([.int .i64 u.n] : List Value) ++ (cBs u.x.1 ++ (([.int .i64 u.jc, .int .i64 u.js] : List Value) ++ (cBs u.jh.1 ++ (([vb, .int .i64 u.r.t, .int .i64 u.r.c, .int .i64 u.r.s] : List Value) ++ (cBs u.r.h.1 ++ (cBs u.r.b.1 ++ ([vg] : List Value))))))))))))).toArray ∧ F' 1 = .pointer (some ⟨g1, 0, none⟩) ∧ F' 2 = .bool false ∧ F' 3 = y1 ∧ F' 4 = .int .i64 0 ∧ F' 18 = .bool false ∧ F' 29 = .bool false) ⟨e0, e1, e2, e3, e4, e18, rfl⟩ ?_
        clear e0 e1 e2 e3 e4 e18
        clear F
        rintro F ⟨e0, e1, e2, e3, e4, e18, e29⟩
        refine wp_cond_false (fr_eval rfl e29) ?_
        refine wp_skip ?_
        refine then_n ?_
        refine wp_seq ?_
        refine wp_seq ?_
        refine wp_regionF ?_
        refine lf_val (wantAll rfl) (rv_loadW rfl (hH.blk (i := 0) rfl) (fr_eval rfl e1) Try.underlying81 rfl (sz_len Try.sz81 (zL28_l0 u.h0.2 u.h1.2 u.o.2 u.x.2 u.jh.2 u.r.h.2 u.r.b.2))) ?_
        refine lf_call (wantAll rfl) (rv_call (args := [.agg (([.int .i64 u.k, .int .i64 u.a, .int .i64 u.b, .int .i64 u.c0, .int .i64 u.c1, .int .i64 u.c2] : List Value) ++ (cBs u.h0.1 ++ (cBs u.h1.1 ++ (([.int .i64 u.g] : List Value) ++ (cBs u.o.1 ++ (([.int .i64 u.n] : List Value) ++ (cBs u.x.1 ++ (([.int .i64 u.jc, .int .i64 u.js] : List Value) ++ (cBs u.jh.1 ++ (([vb, .int .i64 u.r.t, .int .i64 u.r.c, .int .i64 u.r.s] : List Value) ++ (cBs u.r.h.1 ++ (cBs u.r.b.1 ++ ([vg] : List Value))))))))))))).toArray]) rfl (evc (fr_eval rfl rfl) evn) Try.call53) (calls_known (b' := true) (msRight28_calls u _ _ _) (decide_eq_true hM)) ?_
        rintro _ w6 ⟨rfl, hx⟩
        refine ⟨_, rfl, ?_⟩
        replace hH := hH.ext hx
        clear hx
        refine lf_val (v := .bool false) (wantAll rfl) (rv_not (b := true) rfl (fr_eval rfl rfl)) ?_
        refine lf_nil ?_
        refine then_n ?_
        refine wp_gen (fun F' => F' 0 = .agg (([.int .i64 u.k, .int .i64 u.a, .int .i64 u.b, .int .i64 u.c0, .int .i64 u.c1, .int .i64 u.c2] : List Value) ++ (cBs u.h0.1 ++ (cBs u.h1.1 ++ (([.int .i64 u.g] : List Value) ++ (cBs u.o.1 ++ (([.int .i64 u.n] : List Value) ++ (cBs u.x.1 ++ (([.int .i64 u.jc, .int .i64 u.js] : List Value) ++ (cBs u.jh.1 ++ (([vb, .int .i64 u.r.t, .int .i64 u.r.c, .int .i64 u.r.s] : List Value) ++ (cBs u.r.h.1 ++ (cBs u.r.b.1 ++ ([vg] : List Value))))))))))))).toArray ∧ F' 1 = .pointer (some ⟨g1, 0, none⟩) ∧ F' 2 = .bool false ∧ F' 3 = y1 ∧ F' 4 = .int .i64 0 ∧ F' 18 = .bool false ∧ F' 29 = .bool false ∧ F' 32 = .bool false) ⟨e0, e1, e2, e3, e4, e18, e29, rfl⟩ ?_
        clear e0 e1 e2 e3 e4 e18 e29
        clear F
        rintro F ⟨e0, e1, e2, e3, e4, e18, e29, e32⟩
        refine wp_cond_false (fr_eval rfl e32) ?_
        refine wp_skip ?_
        refine then_n ?_
        refine wp_seq ?_
        refine wp_regionF ?_
        refine lf_val (v := y1) (wantAll rfl) (rv_move rfl (fr_eval rfl e3)) ?_
        refine lf_call (wantAll rfl) (rv_call (args := [y1]) rfl (evc (fr_eval rfl rfl) evn) Try.call54) (msGet_calls (textM u bl sg) (by have := textM_len u bl sg; omega) _ _ (OwnB.rd (hH.own (i := 1) rfl))) ?_
        rintro _ w7 ⟨mu_t45, mb_t45, mg_t45, y2, y3, me_t45, rfl, hM_t45, hP⟩
        refine ⟨_, rfl, ?_⟩
        have hx := hP.done
        replace hH : Heap _ _ _ [_, _, _, _] := hH.joinN hP (Stays.own (hP.own (i := 0) rfl) (Stays.own (hP.own (i := 1) rfl) Stays.nil))
        clear hP
        clear hx
        refine lf_val (v := .tuple #[.agg (([.int .i64 mu_t45.k, .int .i64 mu_t45.a, .int .i64 mu_t45.b, .int .i64 mu_t45.c0, .int .i64 mu_t45.c1, .int .i64 mu_t45.c2] : List Value) ++ (cBs mu_t45.h0.1 ++ (cBs mu_t45.h1.1 ++ (([.int .i64 mu_t45.g] : List Value) ++ (cBs mu_t45.o.1 ++ (([.int .i64 mu_t45.n] : List Value) ++ (cBs mu_t45.x.1 ++ (([.int .i64 mu_t45.jc, .int .i64 mu_t45.js] : List Value) ++ (cBs mu_t45.jh.1 ++ (([y2, .int .i64 mu_t45.r.t, .int .i64 mu_t45.r.c, .int .i64 mu_t45.r.s] : List Value) ++ (cBs mu_t45.r.h.1 ++ (cBs mu_t45.r.b.1 ++ ([y3] : List Value))))))))))))).toArray, .int .i64 me_t45]) (wantAll rfl) (rv_move rfl (fr_eval rfl rfl)) ?_
        refine lf_val (v := .agg (([.int .i64 mu_t45.k, .int .i64 mu_t45.a, .int .i64 mu_t45.b, .int .i64 mu_t45.c0, .int .i64 mu_t45.c1, .int .i64 mu_t45.c2] : List Value) ++ (cBs mu_t45.h0.1 ++ (cBs mu_t45.h1.1 ++ (([.int .i64 mu_t45.g] : List Value) ++ (cBs mu_t45.o.1 ++ (([.int .i64 mu_t45.n] : List Value) ++ (cBs mu_t45.x.1 ++ (([.int .i64 mu_t45.jc, .int .i64 mu_t45.js] : List Value) ++ (cBs mu_t45.jh.1 ++ (([y2, .int .i64 mu_t45.r.t, .int .i64 mu_t45.r.c, .int .i64 mu_t45.r.s] : List Value) ++ (cBs mu_t45.r.h.1 ++ (cBs mu_t45.r.b.1 ++ ([y3] : List Value))))))))))))).toArray) (wantAll rfl) (rv_extract rfl (fr_eval rfl rfl) rfl) ?_
        refine lf_val (v := .int .i64 me_t45) (wantAll rfl) (rv_extract rfl (fr_eval rfl rfl) rfl) ?_
        refine lf_ex (wantAll rfl) (hx_alloc hH 81 (z := .agg (([.int .i64 0, .int .i64 0, .int .i64 0, .int .i64 0, .int .i64 0, .int .i64 0] : List Value) ++ (cBs (List.replicate 32 0) ++ (cBs (List.replicate 32 0) ++ (([.int .i64 0] : List Value) ++ (cBs (List.replicate 32 0) ++ (([.int .i64 0] : List Value) ++ (cBs (List.replicate 32 0) ++ (([.int .i64 0, .int .i64 0] : List Value) ++ (cBs (List.replicate 32 0) ++ (([.slice none 0 0, .int .i64 0, .int .i64 0, .int .i64 0] : List Value) ++ (cBs (List.replicate 32 0) ++ (cBs (List.replicate 32 0) ++ ([.slice none 0 0] : List Value))))))))))))).toArray) (n := 239) (cs := ([.int .i64 0, .int .i64 0, .int .i64 0, .int .i64 0, .int .i64 0, .int .i64 0] : List Value) ++ (cBs (List.replicate 32 0) ++ (cBs (List.replicate 32 0) ++ (([.int .i64 0] : List Value) ++ (cBs (List.replicate 32 0) ++ (([.int .i64 0] : List Value) ++ (cBs (List.replicate 32 0) ++ (([.int .i64 0, .int .i64 0] : List Value) ++ (cBs (List.replicate 32 0) ++ (([.slice none 0 0, .int .i64 0, .int .i64 0, .int .i64 0] : List Value) ++ (cBs (List.replicate 32 0) ++ (cBs (List.replicate 32 0) ++ ([.slice none 0 0] : List Value))))))))))))) rfl (by kernel_rfl) (by rfl)) ?_
        clear hH
        rintro _ w8 ⟨g2, rfl, hH, hx⟩
        replace hH : Heap _ _ _ [_, _, _, _, _] := hH
        clear hx
        refine lf_sk (wantAll rfl) (hx_storeW hH (i := 4) (cs := ([.int .i64 mu_t45.k, .int .i64 mu_t45.a, .int .i64 mu_t45.b, .int .i64 mu_t45.c0, .int .i64 mu_t45.c1, .int .i64 mu_t45.c2] : List Value) ++ (cBs mu_t45.h0.1 ++ (cBs mu_t45.h1.1 ++ (([.int .i64 mu_t45.g] : List Value) ++ (cBs mu_t45.o.1 ++ (([.int .i64 mu_t45.n] : List Value) ++ (cBs mu_t45.x.1 ++ (([.int .i64 mu_t45.jc, .int .i64 mu_t45.js] : List Value) ++ (cBs mu_t45.jh.1 ++ (([y2, .int .i64 mu_t45.r.t, .int .i64 mu_t45.r.c, .int .i64 mu_t45.r.s] : List Value) ++ (cBs mu_t45.r.h.1 ++ (cBs mu_t45.r.b.1 ++ ([y3] : List Value))))))))))))) rfl rfl rfl (fr_eval rfl rfl) (fr_eval rfl rfl) (sz_len Try.sz81 (zL28_l0 mu_t45.h0.2 mu_t45.h1.2 mu_t45.o.2 mu_t45.x.2 mu_t45.jh.2 mu_t45.r.h.2 mu_t45.r.b.2)) (((zL28_l0 (List.length_replicate ..) (List.length_replicate ..) (List.length_replicate ..) (List.length_replicate ..) (List.length_replicate ..) (List.length_replicate ..) (List.length_replicate ..))).trans ((zL28_l0 mu_t45.h0.2 mu_t45.h1.2 mu_t45.o.2 mu_t45.x.2 mu_t45.jh.2 mu_t45.r.h.2 mu_t45.r.b.2)).symm) (zL28_o5 rfl rfl rfl rfl rfl rfl rfl rfl rfl rfl (Rd.oneV (OwnB.rd (hH.own (i := 2) rfl))) rfl rfl rfl (Rd.oneV (OwnB.rd (hH.own (i := 3) rfl))))) ?_
        clear hH
        rintro w9 ⟨hH, hx⟩
        replace hH : Heap _ _ _ [_, _, _, _, _] := hH
        clear hx
        refine lf_val (v := .int .i64 me_t45) (wantAll rfl) (rv_assign rfl (fr_eval rfl rfl)) ?_
        refine lf_nil ?_
        refine then_n ?_
        refine wp_seq ?_
        refine wp_seq ?_
        refine wp_gen (fun F' => F' 0 = .agg (([.int .i64 u.k, .int .i64 u.a, .int .i64 u.b, .int .i64 u.c0, .int .i64 u.c1, .int .i64 u.c2] : List Value) ++ (cBs u.h0.1 ++ (cBs u.h1.1 ++ (([.int .i64 u.g] : List Value) ++ (cBs u.o.1 ++ (([.int .i64 u.n] : List Value) ++ (cBs u.x.1 ++ (([.int .i64 u.jc, .int .i64 u.js] : List Value) ++ (cBs u.jh.1 ++ (([vb, .int .i64 u.r.t, .int .i64 u.r.c, .int .i64 u.r.s] : List Value) ++ (cBs u.r.h.1 ++ (cBs u.r.b.1 ++ ([vg] : List Value))))))))))))).toArray ∧ F' 1 = .pointer (some ⟨g1, 0, none⟩) ∧ F' 2 = .bool false ∧ F' 3 = y1 ∧ F' 4 = .int .i64 0 ∧ F' 5 = .pointer (some ⟨g2, 0, none⟩) ∧ F' 6 = .int .i64 me_t45 ∧ F' 18 = .bool false ∧ F' 29 = .bool false ∧ F' 32 = .bool false) ⟨e0, e1, e2, e3, e4, rfl, rfl, e18, e29, e32⟩ ?_
        clear e0 e1 e2 e3 e4 e18 e29 e32
        clear F
        rintro F ⟨e0, e1, e2, e3, e4, e5, e6, e18, e29, e32⟩
        refine wp_regionX (fun _ => False) 8 (by kernel_rfl) (by kernel_rfl) ?_
        refine xl_take (i := 0) (v := .int .i64 0) rfl (by kernel_rfl) (by kernel_rfl) (by kernel_rfl) (by kernel_rfl) (yx_val (wantAll rfl) (fun w' hx' => rv_move rfl (fr_eval rfl e4))) ?_
        refine xl_take (i := 1) (v := .bool false) rfl (by kernel_rfl) (by kernel_rfl) (by kernel_rfl) (by kernel_rfl) (yx_val (wantAll rfl) (fun w' hx' => rv_neq rfl (fr_eval rfl rfl) rfl (show decide ((0 : Int) = 0) = true from by decide))) ?_
        refine xl_take (i := 2) (v := .bool false) rfl (by kernel_rfl) (by kernel_rfl) (by kernel_rfl) (by kernel_rfl) (yx_val (wantAll rfl) (fun w' hx' => rv_move rfl (fr_eval rfl rfl))) ?_
        refine xl_take (i := 3) (v := y1) rfl (by kernel_rfl) (by kernel_rfl) (by kernel_rfl) (by kernel_rfl) (yx_val (wantF (d := 50) rfl (by kernel_rfl) rfl rfl) (fun w' hx' => rv_move rfl (fr_eval rfl e3))) ?_
        refine xl_take (i := 4) (v := .string ⟨(textM u bl sg).toArray⟩) rfl (by kernel_rfl) (by kernel_rfl) (by kernel_rfl) (by kernel_rfl) (yx_val (wantF (d := 50) rfl (by kernel_rfl) rfl rfl) (fun w' hx' => rv_str rfl (fr_eval rfl rfl) (OwnB.rd ((hH.ext hx').own (i := 1) rfl)) Try.underlying22 Try.underlying5 Try.underlying9)) ?_
        refine xl_take (i := 5) (v := .agg (([.int .i64 u.k, .int .i64 u.a, .int .i64 u.b, .int .i64 u.c0, .int .i64 u.c1, .int .i64 u.c2] : List Value) ++ (cBs u.h0.1 ++ (cBs u.h1.1 ++ (([.int .i64 u.g] : List Value) ++ (cBs u.o.1 ++ (([.int .i64 u.n] : List Value) ++ (cBs u.x.1 ++ (([.int .i64 u.jc, .int .i64 u.js] : List Value) ++ (cBs u.jh.1 ++ (([vb, .int .i64 u.r.t, .int .i64 u.r.c, .int .i64 u.r.s] : List Value) ++ (cBs u.r.h.1 ++ (cBs u.r.b.1 ++ ([vg] : List Value))))))))))))).toArray) rfl (by kernel_rfl) (by kernel_rfl) (by kernel_rfl) (by kernel_rfl) (yx_val (wantF (d := 50) rfl (by kernel_rfl) rfl rfl) (fun w' hx' => rv_loadW rfl ((hH.ext hx').blk (i := 0) rfl) (fr_eval rfl e1) Try.underlying81 rfl (sz_len Try.sz81 (zL28_l0 u.h0.2 u.h1.2 u.o.2 u.x.2 u.jh.2 u.r.h.2 u.r.b.2)))) ?_
        refine anyX_ready (rs := [6]) (by kernel_rfl) ?_
        intro w10 hx
        replace hH := hH.ext hx
        clear hx
        refine (anyX_cons ?_ anyX_nil)
        refine xl_step (i := 6) rfl (wantF (d := 50) rfl (by kernel_rfl) rfl rfl) ?_
        refine of_call (rv_call (args := [.agg (([.int .i64 u.k, .int .i64 u.a, .int .i64 u.b, .int .i64 u.c0, .int .i64 u.c1, .int .i64 u.c2] : List Value) ++ (cBs u.h0.1 ++ (cBs u.h1.1 ++ (([.int .i64 u.g] : List Value) ++ (cBs u.o.1 ++ (([.int .i64 u.n] : List Value) ++ (cBs u.x.1 ++ (([.int .i64 u.jc, .int .i64 u.js] : List Value) ++ (cBs u.jh.1 ++ (([vb, .int .i64 u.r.t, .int .i64 u.r.c, .int .i64 u.r.s] : List Value) ++ (cBs u.r.h.1 ++ (cBs u.r.b.1 ++ ([vg] : List Value))))))))))))).toArray]) rfl (evc (fr_eval rfl rfl) evn) Try.call55) (bytes28_calls u hin bl sg (by omega) (by omega) _ _ _ (hbl.rd _ hH.chg) (hsg.rd _ hH.chg)) ?_
        rintro _ w11 ⟨⟨y4, rfl, ho, hg⟩, hx⟩
        refine ⟨_, rfl, ?_⟩
        replace hH : Heap _ _ _ [_, _, _, _, _, _] := hH.addOwn hx hg ho
        clear ho hg
        refine ⟨hx, ?_⟩
        clear hx
        refine xl_take (i := 7) (v := .string ⟨(textM u bl sg).toArray⟩) rfl (by kernel_rfl) (by kernel_rfl) (by kernel_rfl) (by kernel_rfl) (yx_val (wantF (d := 50) rfl (by kernel_rfl) rfl rfl) (fun w' hx' => rv_str rfl (fr_eval rfl rfl) (OwnB.rd ((hH.ext hx').own (i := 5) rfl)) Try.underlying22 Try.underlying5 Try.underlying9)) ?_
        refine xl_tail (s := 8) rfl ?_
        intro w12 hx
        replace hH := hH.ext hx
        clear hx
        refine lf_val (v := .bool false) (wantF (d := 50) rfl (by kernel_rfl) rfl rfl) (rv_nes (b := true) rfl (fr_eval rfl rfl) (fr_eval rfl rfl) (by exact decide_eq_true rfl)) ?_
        refine lf_val (v := .bool false) (wantAll rfl) (rv_pickF rfl (fr_eval rfl rfl) (fr_eval rfl rfl)) ?_
        refine lf_nil ?_
        refine then_n ?_
        replace hH : Heap _ _ _ [_, _, _, _, _] := hH.drop (.cons_cons _ (.cons_cons _ (.cons_cons _ (.cons_cons _ (.cons_cons _ (.cons _ .slnil))))))
        refine wp_gen (fun F' => F' 0 = .agg (([.int .i64 u.k, .int .i64 u.a, .int .i64 u.b, .int .i64 u.c0, .int .i64 u.c1, .int .i64 u.c2] : List Value) ++ (cBs u.h0.1 ++ (cBs u.h1.1 ++ (([.int .i64 u.g] : List Value) ++ (cBs u.o.1 ++ (([.int .i64 u.n] : List Value) ++ (cBs u.x.1 ++ (([.int .i64 u.jc, .int .i64 u.js] : List Value) ++ (cBs u.jh.1 ++ (([vb, .int .i64 u.r.t, .int .i64 u.r.c, .int .i64 u.r.s] : List Value) ++ (cBs u.r.h.1 ++ (cBs u.r.b.1 ++ ([vg] : List Value))))))))))))).toArray ∧ F' 1 = .pointer (some ⟨g1, 0, none⟩) ∧ F' 2 = .bool false ∧ F' 3 = y1 ∧ F' 4 = .int .i64 0 ∧ F' 5 = .pointer (some ⟨g2, 0, none⟩) ∧ F' 6 = .int .i64 me_t45 ∧ F' 18 = .bool false ∧ F' 29 = .bool false ∧ F' 32 = .bool false ∧ F' 57 = .bool false) ⟨e0, e1, e2, e3, e4, e5, e6, e18, e29, e32, rfl⟩ ?_
        clear e0 e1 e2 e3 e4 e5 e6 e18 e29 e32
        clear F
        rintro F ⟨e0, e1, e2, e3, e4, e5, e6, e18, e29, e32, e57⟩
        refine wp_cond_false (fr_eval rfl e57) ?_
        refine wp_skip ?_
        refine then_n ?_
        refine wp_seq ?_
        refine wp_seq ?_
        refine wp_regionF ?_
        refine lf_val (v := .int .i64 me_t45) (wantAll rfl) (rv_move rfl (fr_eval rfl e6)) ?_
        refine lf_val (v := .bool (decide (¬ me_t45 = 0))) (wantAll rfl) (rv_neqP (p := ¬ me_t45 = 0) rfl (fr_eval rfl rfl) rfl Iff.rfl) ?_
        refine lf_nil ?_
        refine then_n ?_
        refine wp_gen (fun F' => F' 0 = .agg (([.int .i64 u.k, .int .i64 u.a, .int .i64 u.b, .int .i64 u.c0, .int .i64 u.c1, .int .i64 u.c2] : List Value) ++ (cBs u.h0.1 ++ (cBs u.h1.1 ++ (([.int .i64 u.g] : List Value) ++ (cBs u.o.1 ++ (([.int .i64 u.n] : List Value) ++ (cBs u.x.1 ++ (([.int .i64 u.jc, .int .i64 u.js] : List Value) ++ (cBs u.jh.1 ++ (([vb, .int .i64 u.r.t, .int .i64 u.r.c, .int .i64 u.r.s] : List Value) ++ (cBs u.r.h.1 ++ (cBs u.r.b.1 ++ ([vg] : List Value))))))))))))).toArray ∧ F' 1 = .pointer (some ⟨g1, 0, none⟩) ∧ F' 2 = .bool false ∧ F' 3 = y1 ∧ F' 4 = .int .i64 0 ∧ F' 5 = .pointer (some ⟨g2, 0, none⟩) ∧ F' 6 = .int .i64 me_t45 ∧ F' 18 = .bool false ∧ F' 29 = .bool false ∧ F' 32 = .bool false ∧ F' 57 = .bool false ∧ F' 59 = .bool (decide (¬ me_t45 = 0))) ⟨e0, e1, e2, e3, e4, e5, e6, e18, e29, e32, e57, rfl⟩ ?_
        clear e0 e1 e2 e3 e4 e5 e6 e18 e29 e32 e57
        clear F
        rintro F ⟨e0, e1, e2, e3, e4, e5, e6, e18, e29, e32, e57, e59⟩
        by_cases hc3 : me_t45 = 0
        · refine wp_cond_false (fr_eval rfl (e59.trans (congrArg Value.bool (decide_eq_false (not_not_intro hc3))))) ?_
          refine wp_skip ?_
          refine then_n ?_
          refine wp_seq ?_
          obtain ⟨mg1, mg2, mg3, _⟩ := hM_t45.good (by assumption)
          obtain ⟨q1, q2, q3, _⟩ := textM_head mg1 hM mg3.symm
          refine wp_regionX (fun _ => False) 25 (by kernel_rfl) (by kernel_rfl) ?_
          refine xl_take (i := 0) (v := .agg (([.int .i64 mu_t45.k, .int .i64 mu_t45.a, .int .i64 mu_t45.b, .int .i64 mu_t45.c0, .int .i64 mu_t45.c1, .int .i64 mu_t45.c2] : List Value) ++ (cBs mu_t45.h0.1 ++ (cBs mu_t45.h1.1 ++ (([.int .i64 mu_t45.g] : List Value) ++ (cBs mu_t45.o.1 ++ (([.int .i64 mu_t45.n] : List Value) ++ (cBs mu_t45.x.1 ++ (([.int .i64 mu_t45.jc, .int .i64 mu_t45.js] : List Value) ++ (cBs mu_t45.jh.1 ++ (([y2, .int .i64 mu_t45.r.t, .int .i64 mu_t45.r.c, .int .i64 mu_t45.r.s] : List Value) ++ (cBs mu_t45.r.h.1 ++ (cBs mu_t45.r.b.1 ++ ([y3] : List Value))))))))))))).toArray) rfl (by kernel_rfl) (by kernel_rfl) (by kernel_rfl) (by kernel_rfl) (yx_val (wantAll rfl) (fun w' hx' => rv_loadW rfl ((hH.ext hx').blk (i := 4) rfl) (fr_eval rfl e5) Try.underlying81 rfl (sz_len Try.sz81 (zL28_l0 mu_t45.h0.2 mu_t45.h1.2 mu_t45.o.2 mu_t45.x.2 mu_t45.jh.2 mu_t45.r.h.2 mu_t45.r.b.2)))) ?_
          refine xl_take (i := 3) (v := y1) rfl (by kernel_rfl) (by kernel_rfl) (by kernel_rfl) (by kernel_rfl) (yx_val (wantAll rfl) (fun w' hx' => rv_move rfl (fr_eval rfl e3))) ?_
          refine xl_take (i := 4) (v := .string ⟨(textM u bl sg).toArray⟩) rfl (by kernel_rfl) (by kernel_rfl) (by kernel_rfl) (by kernel_rfl) (yx_val (wantAll rfl) (fun w' hx' => rv_str rfl (fr_eval rfl rfl) (OwnB.rd ((hH.ext hx').own (i := 1) rfl)) Try.underlying22 Try.underlying5 Try.underlying9)) ?_
          refine anyX_ready (rs := [1]) (by kernel_rfl) ?_
          intro w13 hx
          replace hH := hH.ext hx
          clear hx
          refine (anyX_cons ?_ anyX_nil)
          refine xl_step (i := 1) rfl (wantAll rfl) ?_
          refine of_call (rv_call (args := [.agg (([.int .i64 mu_t45.k, .int .i64 mu_t45.a, .int .i64 mu_t45.b, .int .i64 mu_t45.c0, .int .i64 mu_t45.c1, .int .i64 mu_t45.c2] : List Value) ++ (cBs mu_t45.h0.1 ++ (cBs mu_t45.h1.1 ++ (([.int .i64 mu_t45.g] : List Value) ++ (cBs mu_t45.o.1 ++ (([.int .i64 mu_t45.n] : List Value) ++ (cBs mu_t45.x.1 ++ (([.int .i64 mu_t45.jc, .int .i64 mu_t45.js] : List Value) ++ (cBs mu_t45.jh.1 ++ (([y2, .int .i64 mu_t45.r.t, .int .i64 mu_t45.r.c, .int .i64 mu_t45.r.s] : List Value) ++ (cBs mu_t45.r.h.1 ++ (cBs mu_t45.r.b.1 ++ ([y3] : List Value))))))))))))).toArray]) rfl (evc (fr_eval rfl rfl) evn) Try.call55) (bytes28_calls mu_t45 (inMs_of (hM_t45.good (by assumption)).1 (hM_t45.good (by assumption)).2.1) mb_t45 mg_t45 (Nat.le_trans (hM_t45.good (by assumption)).2.2.2.1 (by decide)) (Nat.le_trans (hM_t45.good (by assumption)).2.2.2.2 (by decide)) _ _ _ (OwnB.rd (hH.own (i := 2) rfl)) (OwnB.rd (hH.own (i := 3) rfl))) ?_
          rintro _ w14 ⟨⟨y5, rfl, ho, hg⟩, hx⟩
          refine ⟨_, rfl, ?_⟩
          replace hH : Heap _ _ _ [_, _, _, _, _, _] := hH.addOwn hx hg ho
          clear ho hg
          refine ⟨hx, ?_⟩
          clear hx
          refine xl_take (i := 2) (v := .string ⟨(textM mu_t45 mb_t45 mg_t45).toArray⟩) rfl (by kernel_rfl) (by kernel_rfl) (by kernel_rfl) (by kernel_rfl) (yx_val (wantAll rfl) (fun w' hx' => rv_str rfl (fr_eval rfl rfl) (OwnB.rd ((hH.ext hx').own (i := 5) rfl)) Try.underlying22 Try.underlying5 Try.underlying9)) ?_
          refine xl_take (i := 5) (v := .bool true) rfl (by kernel_rfl) (by kernel_rfl) (by kernel_rfl) (by kernel_rfl) (yx_val (wantAll rfl) (fun w' hx' => rv_eqs (b := true) rfl (fr_eval rfl rfl) (fr_eval rfl rfl) (by exact decide_eq_true mg3.symm))) ?_
          refine xl_take (i := 6) (v := .bool true) rfl (by kernel_rfl) (by kernel_rfl) (by kernel_rfl) (by kernel_rfl) (yx_val (wantAll rfl) (fun w' hx' => rv_move rfl (fr_eval rfl rfl))) ?_
          refine xl_take (i := 7) (v := .pointer (some ⟨g2, 0, none⟩)) rfl (by kernel_rfl) (by kernel_rfl) (by kernel_rfl) (by kernel_rfl) (yx_val (wantF (d := 77) rfl (by kernel_rfl) rfl rfl) (fun w' hx' => rv_fieldAddr (n := 0) rfl (fr_eval rfl e5) Try.underlying81 rfl rfl (by kernel_rfl))) ?_
          refine xl_take (i := 8) (v := .int .i64 mu_t45.k) rfl (by kernel_rfl) (by kernel_rfl) (by kernel_rfl) (by kernel_rfl) (yx_val (wantF (d := 77) rfl (by kernel_rfl) rfl rfl) (fun w' hx' => rv_load1 rfl ((hH.ext hx').blk (i := 4) rfl) (zL28_g7 mu_t45.h0.2 mu_t45.h1.2 mu_t45.o.2 mu_t45.x.2 mu_t45.jh.2 mu_t45.r.h.2 mu_t45.r.b.2) (fr_eval rfl rfl) Try.underlying3 rfl Try.sz3)) ?_
          refine xl_take (i := 9) (v := .pointer (some ⟨g1, 0, none⟩)) rfl (by kernel_rfl) (by kernel_rfl) (by kernel_rfl) (by kernel_rfl) (yx_val (wantF (d := 77) rfl (by kernel_rfl) rfl rfl) (fun w' hx' => rv_fieldAddr (n := 0) rfl (fr_eval rfl e1) Try.underlying81 rfl rfl (by kernel_rfl))) ?_
          refine xl_take (i := 10) (v := .int .i64 u.k) rfl (by kernel_rfl) (by kernel_rfl) (by kernel_rfl) (by kernel_rfl) (yx_val (wantF (d := 77) rfl (by kernel_rfl) rfl rfl) (fun w' hx' => rv_load1 rfl ((hH.ext hx').blk (i := 0) rfl) (zL28_g7 u.h0.2 u.h1.2 u.o.2 u.x.2 u.jh.2 u.r.h.2 u.r.b.2) (fr_eval rfl rfl) Try.underlying3 rfl Try.sz3)) ?_
          refine xl_take (i := 11) (v := .bool true) rfl (by kernel_rfl) (by kernel_rfl) (by kernel_rfl) (by kernel_rfl) (yx_val (wantF (d := 77) rfl (by kernel_rfl) rfl rfl) (fun w' hx' => rv_eql rfl (fr_eval rfl rfl) (fr_eval rfl rfl) (decide_eq_true (by omega)))) ?_
          refine xl_take (i := 12) (v := .bool true) rfl (by kernel_rfl) (by kernel_rfl) (by kernel_rfl) (by kernel_rfl) (yx_val (wantAll rfl) (fun w' hx' => rv_pickT rfl (fr_eval rfl rfl) (fr_eval rfl rfl))) ?_
          refine xl_take (i := 13) (v := .bool true) rfl (by kernel_rfl) (by kernel_rfl) (by kernel_rfl) (by kernel_rfl) (yx_val (wantAll rfl) (fun w' hx' => rv_move rfl (fr_eval rfl rfl))) ?_
          refine xl_take (i := 14) (v := .pointer (some ⟨g2, 1, none⟩)) rfl (by kernel_rfl) (by kernel_rfl) (by kernel_rfl) (by kernel_rfl) (yx_val (wantF (d := 84) rfl (by kernel_rfl) rfl rfl) (fun w' hx' => rv_fieldAddr (n := 0) rfl (fr_eval rfl e5) Try.underlying81 rfl rfl (by kernel_rfl))) ?_
          refine xl_take (i := 15) (v := .int .i64 mu_t45.a) rfl (by kernel_rfl) (by kernel_rfl) (by kernel_rfl) (by kernel_rfl) (yx_val (wantF (d := 84) rfl (by kernel_rfl) rfl rfl) (fun w' hx' => rv_load1 rfl ((hH.ext hx').blk (i := 4) rfl) (zL28_g10 mu_t45.h0.2 mu_t45.h1.2 mu_t45.o.2 mu_t45.x.2 mu_t45.jh.2 mu_t45.r.h.2 mu_t45.r.b.2) (fr_eval rfl rfl) Try.underlying3 rfl Try.sz3)) ?_
          refine xl_take (i := 16) (v := .pointer (some ⟨g1, 1, none⟩)) rfl (by kernel_rfl) (by kernel_rfl) (by kernel_rfl) (by kernel_rfl) (yx_val (wantF (d := 84) rfl (by kernel_rfl) rfl rfl) (fun w' hx' => rv_fieldAddr (n := 0) rfl (fr_eval rfl e1) Try.underlying81 rfl rfl (by kernel_rfl))) ?_
          refine xl_take (i := 17) (v := .int .i64 u.a) rfl (by kernel_rfl) (by kernel_rfl) (by kernel_rfl) (by kernel_rfl) (yx_val (wantF (d := 84) rfl (by kernel_rfl) rfl rfl) (fun w' hx' => rv_load1 rfl ((hH.ext hx').blk (i := 0) rfl) (zL28_g10 u.h0.2 u.h1.2 u.o.2 u.x.2 u.jh.2 u.r.h.2 u.r.b.2) (fr_eval rfl rfl) Try.underlying3 rfl Try.sz3)) ?_
          refine xl_take (i := 18) (v := .bool true) rfl (by kernel_rfl) (by kernel_rfl) (by kernel_rfl) (by kernel_rfl) (yx_val (wantF (d := 84) rfl (by kernel_rfl) rfl rfl) (fun w' hx' => rv_eql rfl (fr_eval rfl rfl) (fr_eval rfl rfl) (decide_eq_true (by omega)))) ?_
          refine xl_take (i := 19) (v := .bool true) rfl (by kernel_rfl) (by kernel_rfl) (by kernel_rfl) (by kernel_rfl) (yx_val (wantAll rfl) (fun w' hx' => rv_pickT rfl (fr_eval rfl rfl) (fr_eval rfl rfl))) ?_
          refine xl_take (i := 20) (v := .bool true) rfl (by kernel_rfl) (by kernel_rfl) (by kernel_rfl) (by kernel_rfl) (yx_val (wantAll rfl) (fun w' hx' => rv_move rfl (fr_eval rfl rfl))) ?_
          refine xl_take (i := 21) (v := .pointer (some ⟨g2, 2, none⟩)) rfl (by kernel_rfl) (by kernel_rfl) (by kernel_rfl) (by kernel_rfl) (yx_val (wantF (d := 91) rfl (by kernel_rfl) rfl rfl) (fun w' hx' => rv_fieldAddr (n := 0) rfl (fr_eval rfl e5) Try.underlying81 rfl rfl (by kernel_rfl))) ?_
          refine xl_take (i := 22) (v := .int .i64 mu_t45.b) rfl (by kernel_rfl) (by kernel_rfl) (by kernel_rfl) (by kernel_rfl) (yx_val (wantF (d := 91) rfl (by kernel_rfl) rfl rfl) (fun w' hx' => rv_load1 rfl ((hH.ext hx').blk (i := 4) rfl) (zL28_g11 mu_t45.h0.2 mu_t45.h1.2 mu_t45.o.2 mu_t45.x.2 mu_t45.jh.2 mu_t45.r.h.2 mu_t45.r.b.2) (fr_eval rfl rfl) Try.underlying3 rfl Try.sz3)) ?_
          refine xl_take (i := 23) (v := .pointer (some ⟨g1, 2, none⟩)) rfl (by kernel_rfl) (by kernel_rfl) (by kernel_rfl) (by kernel_rfl) (yx_val (wantF (d := 91) rfl (by kernel_rfl) rfl rfl) (fun w' hx' => rv_fieldAddr (n := 0) rfl (fr_eval rfl e1) Try.underlying81 rfl rfl (by kernel_rfl))) ?_
          refine xl_take (i := 24) (v := .int .i64 u.b) rfl (by kernel_rfl) (by kernel_rfl) (by kernel_rfl) (by kernel_rfl) (yx_val (wantF (d := 91) rfl (by kernel_rfl) rfl rfl) (fun w' hx' => rv_load1 rfl ((hH.ext hx').blk (i := 0) rfl) (zL28_g11 u.h0.2 u.h1.2 u.o.2 u.x.2 u.jh.2 u.r.h.2 u.r.b.2) (fr_eval rfl rfl) Try.underlying3 rfl Try.sz3)) ?_
          refine xl_tail (s := 25) rfl ?_
          intro w15 hx
          replace hH := hH.ext hx
          clear hx
          refine lf_val (v := .bool true) (wantF (d := 91) rfl (by kernel_rfl) rfl rfl) (rv_eql rfl (fr_eval rfl rfl) (fr_eval rfl rfl) (decide_eq_true (by omega))) ?_
          refine lf_val (v := .bool true) (wantAll rfl) (rv_pickT rfl (fr_eval rfl rfl) (fr_eval rfl rfl)) ?_
          refine lf_val (v := .bool true) (wantAll rfl) (rv_move rfl (fr_eval rfl rfl)) ?_
          refine lf_call (wantF (d := 98) rfl (by kernel_rfl) rfl rfl) (rv_call (args := []) rfl evn Try.call50) (awake28_calls _) ?_
          rintro _ w16 ⟨rfl, hx⟩
          refine ⟨_, rfl, ?_⟩
          replace hH := hH.ext hx
          clear hx
          refine lf_val (v := .bool true) (wantAll rfl) (rv_pickT rfl (fr_eval rfl rfl) (fr_eval rfl rfl)) ?_
          refine lf_val (v := .bool true) (wantAll rfl) (rv_assign rfl (fr_eval rfl rfl)) ?_
          refine lf_nil ?_
          refine then_n ?_
          replace hH : Heap _ _ _ [_, _, _, _, _] := hH.drop (.cons_cons _ (.cons_cons _ (.cons_cons _ (.cons_cons _ (.cons_cons _ (.cons _ .slnil))))))
          refine wp_gen (fun F' => F' 0 = .agg (([.int .i64 u.k, .int .i64 u.a, .int .i64 u.b, .int .i64 u.c0, .int .i64 u.c1, .int .i64 u.c2] : List Value) ++ (cBs u.h0.1 ++ (cBs u.h1.1 ++ (([.int .i64 u.g] : List Value) ++ (cBs u.o.1 ++ (([.int .i64 u.n] : List Value) ++ (cBs u.x.1 ++ (([.int .i64 u.jc, .int .i64 u.js] : List Value) ++ (cBs u.jh.1 ++ (([vb, .int .i64 u.r.t, .int .i64 u.r.c, .int .i64 u.r.s] : List Value) ++ (cBs u.r.h.1 ++ (cBs u.r.b.1 ++ ([vg] : List Value))))))))))))).toArray ∧ F' 1 = .pointer (some ⟨g1, 0, none⟩) ∧ F' 2 = .bool true ∧ F' 3 = y1 ∧ F' 4 = .int .i64 0 ∧ F' 5 = .pointer (some ⟨g2, 0, none⟩) ∧ F' 6 = .int .i64 me_t45 ∧ F' 18 = .bool false ∧ F' 29 = .bool false ∧ F' 32 = .bool false ∧ F' 57 = .bool false ∧ F' 59 = .bool false) ⟨e0, e1, rfl, e3, e4, e5, e6, e18, e29, e32, e57, (e59.trans (congrArg Value.bool (decide_eq_false (not_not_intro hc3))))⟩ ?_
          clear e0 e1 e2 e3 e4 e5 e6 e18 e29 e32 e57 e59
          clear F
          rintro F ⟨e0, e1, e2, e3, e4, e5, e6, e18, e29, e32, e57, e59⟩
          refine wp_ret ?_
          exact bodyPost_ret (v := (.bool true)) (res1 rfl (ro_tmp rfl e2)) rfl (⟨rfl, hH.done⟩)
        · refine wp_cond_true (fr_eval rfl (e59.trans (congrArg Value.bool (decide_eq_true hc3)))) ?_
          refine wp_seq ?_
          obtain ⟨hz, _, _⟩ := hM_t45.bad (by assumption)
          have hk0 : mu_t45.k = 0 := by rw [hz]; rfl
          refine wp_regionF ?_
          refine lf_val (v := .pointer (some ⟨g2, 0, none⟩)) (wantAll rfl) (rv_fieldAddr (n := 0) rfl (fr_eval rfl e5) Try.underlying81 rfl rfl (by kernel_rfl)) ?_
          refine lf_val (v := .int .i64 mu_t45.k) (wantAll rfl) (rv_load1 rfl (hH.blk (i := 4) rfl) (zL28_g7 mu_t45.h0.2 mu_t45.h1.2 mu_t45.o.2 mu_t45.x.2 mu_t45.jh.2 mu_t45.r.h.2 mu_t45.r.b.2) (fr_eval rfl rfl) Try.underlying3 rfl Try.sz3) ?_
          refine lf_val (v := .bool true) (wantAll rfl) (rv_eql rfl (fr_eval rfl rfl) rfl (decide_eq_true (by omega))) ?_
          refine lf_val (v := .bool true) (wantAll rfl) (rv_move rfl (fr_eval rfl rfl)) ?_
          refine lf_val (wantF (d := 63) rfl (by kernel_rfl) rfl rfl) (rv_loadW rfl (hH.blk (i := 0) rfl) (fr_eval rfl e1) Try.underlying81 rfl (sz_len Try.sz81 (zL28_l0 u.h0.2 u.h1.2 u.o.2 u.x.2 u.jh.2 u.r.h.2 u.r.b.2))) ?_
          refine lf_call (wantF (d := 63) rfl (by kernel_rfl) rfl rfl) (rv_call (args := [.agg (([.int .i64 u.k, .int .i64 u.a, .int .i64 u.b, .int .i64 u.c0, .int .i64 u.c1, .int .i64 u.c2] : List Value) ++ (cBs u.h0.1 ++ (cBs u.h1.1 ++ (([.int .i64 u.g] : List Value) ++ (cBs u.o.1 ++ (([.int .i64 u.n] : List Value) ++ (cBs u.x.1 ++ (([.int .i64 u.jc, .int .i64 u.js] : List Value) ++ (cBs u.jh.1 ++ (([vb, .int .i64 u.r.t, .int .i64 u.r.c, .int .i64 u.r.s] : List Value) ++ (cBs u.r.h.1 ++ (cBs u.r.b.1 ++ ([vg] : List Value))))))))))))).toArray]) rfl (evc (fr_eval rfl rfl) evn) Try.call56) (calls_known (b' := false) (plain28_calls u bl sg _ _ _ (hbl.rd _ hH.chg) (hsg.rd _ hH.chg)) (decide_eq_false (fun hp => absurd (hM_t45.one u bl sg hM hp (by omega) (by omega) rfl) (by assumption)))) ?_
          rintro _ w17 ⟨rfl, hx⟩
          refine ⟨_, rfl, ?_⟩
          replace hH := hH.ext hx
          clear hx
          refine lf_val (v := .bool true) (wantF (d := 63) rfl (by kernel_rfl) rfl rfl) (rv_not (b := false) rfl (fr_eval rfl rfl)) ?_
          refine lf_val (v := .bool true) (wantAll rfl) (rv_pickT rfl (fr_eval rfl rfl) (fr_eval rfl rfl)) ?_
          refine lf_val (v := .bool true) (wantAll rfl) (rv_move rfl (fr_eval rfl rfl)) ?_
          refine lf_call (wantF (d := 68) rfl (by kernel_rfl) rfl rfl) (rv_call (args := []) rfl evn Try.call50) (awake28_calls _) ?_
          rintro _ w18 ⟨rfl, hx⟩
          refine ⟨_, rfl, ?_⟩
          replace hH := hH.ext hx
          clear hx
          refine lf_val (v := .bool true) (wantAll rfl) (rv_pickT rfl (fr_eval rfl rfl) (fr_eval rfl rfl)) ?_
          refine lf_val (v := .bool true) (wantAll rfl) (rv_assign rfl (fr_eval rfl rfl)) ?_
          refine lf_nil ?_
          refine then_n ?_
          refine wp_gen (fun F' => F' 0 = .agg (([.int .i64 u.k, .int .i64 u.a, .int .i64 u.b, .int .i64 u.c0, .int .i64 u.c1, .int .i64 u.c2] : List Value) ++ (cBs u.h0.1 ++ (cBs u.h1.1 ++ (([.int .i64 u.g] : List Value) ++ (cBs u.o.1 ++ (([.int .i64 u.n] : List Value) ++ (cBs u.x.1 ++ (([.int .i64 u.jc, .int .i64 u.js] : List Value) ++ (cBs u.jh.1 ++ (([vb, .int .i64 u.r.t, .int .i64 u.r.c, .int .i64 u.r.s] : List Value) ++ (cBs u.r.h.1 ++ (cBs u.r.b.1 ++ ([vg] : List Value))))))))))))).toArray ∧ F' 1 = .pointer (some ⟨g1, 0, none⟩) ∧ F' 2 = .bool true ∧ F' 3 = y1 ∧ F' 4 = .int .i64 0 ∧ F' 5 = .pointer (some ⟨g2, 0, none⟩) ∧ F' 6 = .int .i64 me_t45 ∧ F' 18 = .bool false ∧ F' 29 = .bool false ∧ F' 32 = .bool false ∧ F' 57 = .bool false ∧ F' 59 = .bool true) ⟨e0, e1, rfl, e3, e4, e5, e6, e18, e29, e32, e57, (e59.trans (congrArg Value.bool (decide_eq_true hc3)))⟩ ?_
          clear e0 e1 e2 e3 e4 e5 e6 e18 e29 e32 e57 e59
          clear F
          rintro F ⟨e0, e1, e2, e3, e4, e5, e6, e18, e29, e32, e57, e59⟩
          refine wp_ret ?_
          refine then_ret ?_
          exact bodyPost_ret (v := (.bool true)) (res1 rfl (ro_tmp rfl e2)) rfl (⟨rfl, hH.done⟩)
  · refine wp_seq ?_
    refine wp_gen (fun F' => F' 0 = .agg (([.int .i64 u.k, .int .i64 u.a, .int .i64 u.b, .int .i64 u.c0, .int .i64 u.c1, .int .i64 u.c2] : List Value) ++ (cBs u.h0.1 ++ (cBs u.h1.1 ++ (([.int .i64 u.g] : List Value) ++ (cBs u.o.1 ++ (([.int .i64 u.n] : List Value) ++ (cBs u.x.1 ++ (([.int .i64 u.jc, .int .i64 u.js] : List Value) ++ (cBs u.jh.1 ++ (([vb, .int .i64 u.r.t, .int .i64 u.r.c, .int .i64 u.r.s] : List Value) ++ (cBs u.r.h.1 ++ (cBs u.r.b.1 ++ ([vg] : List Value))))))))))))).toArray) rfl ?_
    rintro F e0
    refine wp_regionF ?_
    refine lf_ex (wantAll rfl) (hx_box hH 81 (cs := ([.int .i64 u.k, .int .i64 u.a, .int .i64 u.b, .int .i64 u.c0, .int .i64 u.c1, .int .i64 u.c2] : List Value) ++ (cBs u.h0.1 ++ (cBs u.h1.1 ++ (([.int .i64 u.g] : List Value) ++ (cBs u.o.1 ++ (([.int .i64 u.n] : List Value) ++ (cBs u.x.1 ++ (([.int .i64 u.jc, .int .i64 u.js] : List Value) ++ (cBs u.jh.1 ++ (([vb, .int .i64 u.r.t, .int .i64 u.r.c, .int .i64 u.r.s] : List Value) ++ (cBs u.r.h.1 ++ (cBs u.r.b.1 ++ ([vg] : List Value))))))))))))) rfl (fr_eval rfl e0) (by rfl)) ?_
    clear hH
    rintro _ w19 ⟨g3, rfl, hH, hx⟩
    replace hH : Heap _ _ _ [_] := hH
    clear hx
    refine lf_val (v := .bool false) (wantAll rfl) (rv_assign rfl rfl) ?_
    refine lf_nil ?_
    refine then_n ?_
    refine wp_seq ?_
    refine wp_seq ?_
    refine wp_gen (fun F' => F' 0 = .agg (([.int .i64 u.k, .int .i64 u.a, .int .i64 u.b, .int .i64 u.c0, .int .i64 u.c1, .int .i64 u.c2] : List Value) ++ (cBs u.h0.1 ++ (cBs u.h1.1 ++ (([.int .i64 u.g] : List Value) ++ (cBs u.o.1 ++ (([.int .i64 u.n] : List Value) ++ (cBs u.x.1 ++ (([.int .i64 u.jc, .int .i64 u.js] : List Value) ++ (cBs u.jh.1 ++ (([vb, .int .i64 u.r.t, .int .i64 u.r.c, .int .i64 u.r.s] : List Value) ++ (cBs u.r.h.1 ++ (cBs u.r.b.1 ++ ([vg] : List Value))))))))))))).toArray ∧ F' 1 = .pointer (some ⟨g3, 0, none⟩) ∧ F' 2 = .bool false) ⟨e0, rfl, rfl⟩ ?_
    clear e0
    clear F
    rintro F ⟨e0, e1, e2⟩
    refine wp_regionF ?_
    refine lf_val (v := .pointer (some ⟨g3, 136, none⟩)) (wantAll rfl) (rv_fieldAddr (n := 34) rfl (fr_eval rfl e1) Try.underlying81 rfl rfl (by kernel_rfl)) ?_
    refine lf_val (v := .pointer (some ⟨g3, 170, none⟩)) (wantAll rfl) (rv_fieldAddr (n := 0) rfl (fr_eval rfl rfl) Try.underlying79 rfl rfl (by kernel_rfl)) ?_
    refine lf_val (v := vb) (wantAll rfl) (rv_load1 rfl (hH.blk (i := 0) rfl) (zL28_g8 u.h0.2 u.h1.2 u.o.2 u.x.2 u.jh.2 u.r.h.2 u.r.b.2) (fr_eval rfl rfl) Try.underlying22 rfl Try.sz22) ?_
    refine lf_val (v := .int .i64 ((bl.length : Nat) : Int)) (wantAll rfl) (rv_len rfl (fr_eval rfl rfl) (RdB.rn (hbl.rd _ hH.chg) rfl) Try.underlying22) ?_
    refine lf_val (v := .bool (decide (bl.length > 1000))) (wantAll rfl) (rv_gtrP (p := bl.length > 1000) rfl (fr_eval rfl rfl) rfl (by omega)) ?_
    refine lf_val (v := .bool (decide (bl.length > 1000))) (wantAll rfl) (rv_move rfl (fr_eval rfl rfl)) ?_
    refine lf_joinP (fun F' => F' 0 = .agg (([.int .i64 u.k, .int .i64 u.a, .int .i64 u.b, .int .i64 u.c0, .int .i64 u.c1, .int .i64 u.c2] : List Value) ++ (cBs u.h0.1 ++ (cBs u.h1.1 ++ (([.int .i64 u.g] : List Value) ++ (cBs u.o.1 ++ (([.int .i64 u.n] : List Value) ++ (cBs u.x.1 ++ (([.int .i64 u.jc, .int .i64 u.js] : List Value) ++ (cBs u.jh.1 ++ (([vb, .int .i64 u.r.t, .int .i64 u.r.c, .int .i64 u.r.s] : List Value) ++ (cBs u.r.h.1 ++ (cBs u.r.b.1 ++ ([vg] : List Value))))))))))))).toArray ∧ F' 1 = .pointer (some ⟨g3, 0, none⟩) ∧ F' 2 = .bool false ∧ F' 18 = .bool (decide ((bl.length > 1000) ∨ (sg.length > 6000)))) 6 (fun hk => ?_) ?_
    · by_cases hc4 : bl.length > 1000
      · refine lf_not (wantNot (d := 12) rfl (by kernel_rfl) rfl (congrArg Value.bool (decide_eq_true hc4))) ?_
        refine lf_not (wantNot (d := 12) rfl (by kernel_rfl) rfl (congrArg Value.bool (decide_eq_true hc4))) ?_
        refine lf_not (wantNot (d := 12) rfl (by kernel_rfl) rfl (congrArg Value.bool (decide_eq_true hc4))) ?_
        refine lf_not (wantNot (d := 12) rfl (by kernel_rfl) rfl (congrArg Value.bool (decide_eq_true hc4))) ?_
        refine lf_not (wantNot (d := 12) rfl (by kernel_rfl) rfl (congrArg Value.bool (decide_eq_true hc4))) ?_
        refine lf_val (v := .bool true) (wantAll rfl) (rv_pickT rfl (fr_eval rfl (congrArg Value.bool (decide_eq_true hc4))) rfl) ?_
        exact hk _ ⟨e0, e1, e2, (congrArg Value.bool (dec_orT hc4))⟩
      · refine lf_val (v := .pointer (some ⟨g3, 171, none⟩)) (wantF (d := 12) rfl (by kernel_rfl) rfl (congrArg Value.bool (decide_eq_false hc4))) (rv_fieldAddr (n := 67) rfl (fr_eval rfl e1) Try.underlying81 rfl rfl (by kernel_rfl)) ?_
        refine lf_val (v := .pointer (some ⟨g3, 238, none⟩)) (wantF (d := 12) rfl (by kernel_rfl) rfl (congrArg Value.bool (decide_eq_false hc4))) (rv_fieldAddr (n := 0) rfl (fr_eval rfl rfl) Try.underlying61 rfl rfl (by kernel_rfl)) ?_
        refine lf_val (v := vg) (wantF (d := 12) rfl (by kernel_rfl) rfl (congrArg Value.bool (decide_eq_false hc4))) (rv_load1 rfl (hH.blk (i := 0) rfl) (zL28_g9 u.h0.2 u.h1.2 u.o.2 u.x.2 u.jh.2 u.r.h.2 u.r.b.2) (fr_eval rfl rfl) Try.underlying22 rfl Try.sz22) ?_
        refine lf_val (v := .int .i64 ((sg.length : Nat) : Int)) (wantF (d := 12) rfl (by kernel_rfl) rfl (congrArg Value.bool (decide_eq_false hc4))) (rv_len rfl (fr_eval rfl rfl) (RdB.rn (hsg.rd _ hH.chg) rfl) Try.underlying22) ?_
        refine lf_val (v := .bool (decide (sg.length > 6000))) (wantF (d := 12) rfl (by kernel_rfl) rfl (congrArg Value.bool (decide_eq_false hc4))) (rv_gtrP (p := sg.length > 6000) rfl (fr_eval rfl rfl) rfl (by omega)) ?_
        refine lf_val (v := .bool (decide (sg.length > 6000))) (wantAll rfl) (rv_pickF rfl (fr_eval rfl (congrArg Value.bool (decide_eq_false hc4))) (fr_eval rfl rfl)) ?_
        exact hk _ ⟨e0, e1, e2, (congrArg Value.bool (dec_or hc4))⟩
    · clear e0 e1 e2
      clear F
      rintro F ⟨e0, e1, e2, e18⟩
      refine lf_nil ?_
      refine then_n ?_
      by_cases hc5 : (bl.length > 1000) ∨ (sg.length > 6000)
      · refine wp_cond_true (fr_eval rfl (e18.trans (congrArg Value.bool (decide_eq_true hc5)))) ?_
        refine wp_seq ?_
        refine wp_regionF ?_
        refine lf_call (wantAll rfl) (rv_call (args := []) rfl evn Try.call50) (awake28_calls _) ?_
        rintro _ w20 ⟨rfl, hx⟩
        refine ⟨_, rfl, ?_⟩
        replace hH := hH.ext hx
        clear hx
        refine lf_val (v := .bool true) (wantAll rfl) (rv_assign rfl (fr_eval rfl rfl)) ?_
        refine lf_nil ?_
        refine then_n ?_
        refine wp_gen (fun F' => F' 0 = .agg (([.int .i64 u.k, .int .i64 u.a, .int .i64 u.b, .int .i64 u.c0, .int .i64 u.c1, .int .i64 u.c2] : List Value) ++ (cBs u.h0.1 ++ (cBs u.h1.1 ++ (([.int .i64 u.g] : List Value) ++ (cBs u.o.1 ++ (([.int .i64 u.n] : List Value) ++ (cBs u.x.1 ++ (([.int .i64 u.jc, .int .i64 u.js] : List Value) ++ (cBs u.jh.1 ++ (([vb, .int .i64 u.r.t, .int .i64 u.r.c, .int .i64 u.r.s] : List Value) ++ (cBs u.r.h.1 ++ (cBs u.r.b.1 ++ ([vg] : List Value))))))))))))).toArray ∧ F' 1 = .pointer (some ⟨g3, 0, none⟩) ∧ F' 2 = .bool true ∧ F' 18 = .bool true) ⟨e0, e1, rfl, (e18.trans (congrArg Value.bool (decide_eq_true hc5)))⟩ ?_
        clear e0 e1 e2 e18
        clear F
        rintro F ⟨e0, e1, e2, e18⟩
        refine wp_ret ?_
        refine then_ret ?_
        exact bodyPost_ret (v := (.bool true)) (res1 rfl (ro_tmp rfl e2)) rfl (⟨rfl, hH.done⟩)
      · refine wp_cond_false (fr_eval rfl (e18.trans (congrArg Value.bool (decide_eq_false hc5)))) ?_
        refine wp_skip ?_
        refine then_n ?_
        refine wp_seq ?_
        refine wp_regionF ?_
        refine lf_val (wantAll rfl) (rv_loadW rfl (hH.blk (i := 0) rfl) (fr_eval rfl e1) Try.underlying81 rfl (sz_len Try.sz81 (zL28_l0 u.h0.2 u.h1.2 u.o.2 u.x.2 u.jh.2 u.r.h.2 u.r.b.2))) ?_
        refine lf_call (wantAll rfl) (rv_call (args := [.agg (([.int .i64 u.k, .int .i64 u.a, .int .i64 u.b, .int .i64 u.c0, .int .i64 u.c1, .int .i64 u.c2] : List Value) ++ (cBs u.h0.1 ++ (cBs u.h1.1 ++ (([.int .i64 u.g] : List Value) ++ (cBs u.o.1 ++ (([.int .i64 u.n] : List Value) ++ (cBs u.x.1 ++ (([.int .i64 u.jc, .int .i64 u.js] : List Value) ++ (cBs u.jh.1 ++ (([vb, .int .i64 u.r.t, .int .i64 u.r.c, .int .i64 u.r.s] : List Value) ++ (cBs u.r.h.1 ++ (cBs u.r.b.1 ++ ([vg] : List Value))))))))))))).toArray]) rfl (evc (fr_eval rfl rfl) evn) Try.call51) (msPut_no u _ _ _ hM) ?_
        rintro _ w22 ⟨rfl, hx⟩
        refine ⟨_, rfl, ?_⟩
        replace hH := hH.ext hx
        clear hx
        refine lf_val (v := .tuple #[.slice none 0 0, .int .i64 1]) (wantAll rfl) (rv_move rfl (fr_eval rfl rfl)) ?_
        refine lf_val (v := .slice none 0 0) (wantAll rfl) (rv_extract rfl (fr_eval rfl rfl) rfl) ?_
        refine lf_val (v := .int .i64 1) (wantAll rfl) (rv_extract rfl (fr_eval rfl rfl) rfl) ?_
        refine lf_val (v := .slice none 0 0) (wantAll rfl) (rv_assign rfl (fr_eval rfl rfl)) ?_
        refine lf_val (v := .int .i64 1) (wantAll rfl) (rv_assign rfl (fr_eval rfl rfl)) ?_
        refine lf_nil ?_
        refine then_n ?_
        refine wp_seq ?_
        refine wp_seq ?_
        refine wp_gen (fun F' => F' 0 = .agg (([.int .i64 u.k, .int .i64 u.a, .int .i64 u.b, .int .i64 u.c0, .int .i64 u.c1, .int .i64 u.c2] : List Value) ++ (cBs u.h0.1 ++ (cBs u.h1.1 ++ (([.int .i64 u.g] : List Value) ++ (cBs u.o.1 ++ (([.int .i64 u.n] : List Value) ++ (cBs u.x.1 ++ (([.int .i64 u.jc, .int .i64 u.js] : List Value) ++ (cBs u.jh.1 ++ (([vb, .int .i64 u.r.t, .int .i64 u.r.c, .int .i64 u.r.s] : List Value) ++ (cBs u.r.h.1 ++ (cBs u.r.b.1 ++ ([vg] : List Value))))))))))))).toArray ∧ F' 1 = .pointer (some ⟨g3, 0, none⟩) ∧ F' 2 = .bool false ∧ F' 3 = .slice none 0 0 ∧ F' 4 = .int .i64 1 ∧ F' 18 = .bool false) ⟨e0, e1, e2, rfl, rfl, (e18.trans (congrArg Value.bool (decide_eq_false hc5)))⟩ ?_
        clear e0 e1 e2 e18
        clear F
        rintro F ⟨e0, e1, e2, e3, e4, e18⟩
        refine wp_regionX (fun _ => False) 3 (by kernel_rfl) (by kernel_rfl) ?_
        refine xl_take (i := 0) (v := .agg (([.int .i64 u.k, .int .i64 u.a, .int .i64 u.b, .int .i64 u.c0, .int .i64 u.c1, .int .i64 u.c2] : List Value) ++ (cBs u.h0.1 ++ (cBs u.h1.1 ++ (([.int .i64 u.g] : List Value) ++ (cBs u.o.1 ++ (([.int .i64 u.n] : List Value) ++ (cBs u.x.1 ++ (([.int .i64 u.jc, .int .i64 u.js] : List Value) ++ (cBs u.jh.1 ++ (([vb, .int .i64 u.r.t, .int .i64 u.r.c, .int .i64 u.r.s] : List Value) ++ (cBs u.r.h.1 ++ (cBs u.r.b.1 ++ ([vg] : List Value))))))))))))).toArray) rfl (by kernel_rfl) (by kernel_rfl) (by kernel_rfl) (by kernel_rfl) (yx_val (wantAll rfl) (fun w' hx' => rv_loadW rfl ((hH.ext hx').blk (i := 0) rfl) (fr_eval rfl e1) Try.underlying81 rfl (sz_len Try.sz81 (zL28_l0 u.h0.2 u.h1.2 u.o.2 u.x.2 u.jh.2 u.r.h.2 u.r.b.2)))) ?_
        refine xl_take (i := 1) (v := .bool false) rfl (by kernel_rfl) (by kernel_rfl) (by kernel_rfl) (by kernel_rfl) (yx_call (wantAll rfl) (fun w' => rv_call (args := [.agg (([.int .i64 u.k, .int .i64 u.a, .int .i64 u.b, .int .i64 u.c0, .int .i64 u.c1, .int .i64 u.c2] : List Value) ++ (cBs u.h0.1 ++ (cBs u.h1.1 ++ (([.int .i64 u.g] : List Value) ++ (cBs u.o.1 ++ (([.int .i64 u.n] : List Value) ++ (cBs u.x.1 ++ (([.int .i64 u.jc, .int .i64 u.js] : List Value) ++ (cBs u.jh.1 ++ (([vb, .int .i64 u.r.t, .int .i64 u.r.c, .int .i64 u.r.s] : List Value) ++ (cBs u.r.h.1 ++ (cBs u.r.b.1 ++ ([vg] : List Value))))))))))))).toArray]) rfl (evc (fr_eval rfl rfl) evn) Try.call52) (fun w' hx' => calls_known (b' := false) (msRight_calls u _ _ _) (decide_eq_false hM))) ?_
        refine xl_take (i := 2) (v := .agg (([.int .i64 u.k, .int .i64 u.a, .int .i64 u.b, .int .i64 u.c0, .int .i64 u.c1, .int .i64 u.c2] : List Value) ++ (cBs u.h0.1 ++ (cBs u.h1.1 ++ (([.int .i64 u.g] : List Value) ++ (cBs u.o.1 ++ (([.int .i64 u.n] : List Value) ++ (cBs u.x.1 ++ (([.int .i64 u.jc, .int .i64 u.js] : List Value) ++ (cBs u.jh.1 ++ (([vb, .int .i64 u.r.t, .int .i64 u.r.c, .int .i64 u.r.s] : List Value) ++ (cBs u.r.h.1 ++ (cBs u.r.b.1 ++ ([vg] : List Value))))))))))))).toArray) rfl (by kernel_rfl) (by kernel_rfl) (by kernel_rfl) (by kernel_rfl) (yx_val (wantAll rfl) (fun w' hx' => rv_loadW rfl ((hH.ext hx').blk (i := 0) rfl) (fr_eval rfl e1) Try.underlying81 rfl (sz_len Try.sz81 (zL28_l0 u.h0.2 u.h1.2 u.o.2 u.x.2 u.jh.2 u.r.h.2 u.r.b.2)))) ?_
        refine xl_tail (s := 3) rfl ?_
        intro w23 hx
        replace hH := hH.ext hx
        clear hx
        refine lf_call (wantAll rfl) (rv_call (args := [.agg (([.int .i64 u.k, .int .i64 u.a, .int .i64 u.b, .int .i64 u.c0, .int .i64 u.c1, .int .i64 u.c2] : List Value) ++ (cBs u.h0.1 ++ (cBs u.h1.1 ++ (([.int .i64 u.g] : List Value) ++ (cBs u.o.1 ++ (([.int .i64 u.n] : List Value) ++ (cBs u.x.1 ++ (([.int .i64 u.jc, .int .i64 u.js] : List Value) ++ (cBs u.jh.1 ++ (([vb, .int .i64 u.r.t, .int .i64 u.r.c, .int .i64 u.r.s] : List Value) ++ (cBs u.r.h.1 ++ (cBs u.r.b.1 ++ ([vg] : List Value))))))))))))).toArray]) rfl (evc (fr_eval rfl rfl) evn) Try.call53) (calls_known (b' := false) (msRight28_calls u _ _ _) (decide_eq_false hM)) ?_
        rintro _ w24 ⟨rfl, hx⟩
        refine ⟨_, rfl, ?_⟩
        replace hH := hH.ext hx
        clear hx
        refine lf_val (v := .bool false) (wantAll rfl) (rv_neb (d := true) rfl (fr_eval rfl rfl) (fr_eval rfl rfl) Try.underlying4 (beq_self_eq_true _)) ?_
        refine lf_nil ?_
        refine then_n ?_
        refine wp_gen (fun F' => F' 0 = .agg (([.int .i64 u.k, .int .i64 u.a, .int .i64 u.b, .int .i64 u.c0, .int .i64 u.c1, .int .i64 u.c2] : List Value) ++ (cBs u.h0.1 ++ (cBs u.h1.1 ++ (([.int .i64 u.g] : List Value) ++ (cBs u.o.1 ++ (([.int .i64 u.n] : List Value) ++ (cBs u.x.1 ++ (([.int .i64 u.jc, .int .i64 u.js] : List Value) ++ (cBs u.jh.1 ++ (([vb, .int .i64 u.r.t, .int .i64 u.r.c, .int .i64 u.r.s] : List Value) ++ (cBs u.r.h.1 ++ (cBs u.r.b.1 ++ ([vg] : List Value))))))))))))).toArray ∧ F' 1 = .pointer (some ⟨g3, 0, none⟩) ∧ F' 2 = .bool false ∧ F' 3 = .slice none 0 0 ∧ F' 4 = .int .i64 1 ∧ F' 18 = .bool false ∧ F' 29 = .bool false) ⟨e0, e1, e2, e3, e4, e18, rfl⟩ ?_
        clear e0 e1 e2 e3 e4 e18
        clear F
        rintro F ⟨e0, e1, e2, e3, e4, e18, e29⟩
        refine wp_cond_false (fr_eval rfl e29) ?_
        refine wp_skip ?_
        refine then_n ?_
        refine wp_seq ?_
        refine wp_seq ?_
        refine wp_regionF ?_
        refine lf_val (wantAll rfl) (rv_loadW rfl (hH.blk (i := 0) rfl) (fr_eval rfl e1) Try.underlying81 rfl (sz_len Try.sz81 (zL28_l0 u.h0.2 u.h1.2 u.o.2 u.x.2 u.jh.2 u.r.h.2 u.r.b.2))) ?_
        refine lf_call (wantAll rfl) (rv_call (args := [.agg (([.int .i64 u.k, .int .i64 u.a, .int .i64 u.b, .int .i64 u.c0, .int .i64 u.c1, .int .i64 u.c2] : List Value) ++ (cBs u.h0.1 ++ (cBs u.h1.1 ++ (([.int .i64 u.g] : List Value) ++ (cBs u.o.1 ++ (([.int .i64 u.n] : List Value) ++ (cBs u.x.1 ++ (([.int .i64 u.jc, .int .i64 u.js] : List Value) ++ (cBs u.jh.1 ++ (([vb, .int .i64 u.r.t, .int .i64 u.r.c, .int .i64 u.r.s] : List Value) ++ (cBs u.r.h.1 ++ (cBs u.r.b.1 ++ ([vg] : List Value))))))))))))).toArray]) rfl (evc (fr_eval rfl rfl) evn) Try.call53) (calls_known (b' := false) (msRight28_calls u _ _ _) (decide_eq_false hM)) ?_
        rintro _ w25 ⟨rfl, hx⟩
        refine ⟨_, rfl, ?_⟩
        replace hH := hH.ext hx
        clear hx
        refine lf_val (v := .bool true) (wantAll rfl) (rv_not (b := false) rfl (fr_eval rfl rfl)) ?_
        refine lf_nil ?_
        refine then_n ?_
        refine wp_gen (fun F' => F' 0 = .agg (([.int .i64 u.k, .int .i64 u.a, .int .i64 u.b, .int .i64 u.c0, .int .i64 u.c1, .int .i64 u.c2] : List Value) ++ (cBs u.h0.1 ++ (cBs u.h1.1 ++ (([.int .i64 u.g] : List Value) ++ (cBs u.o.1 ++ (([.int .i64 u.n] : List Value) ++ (cBs u.x.1 ++ (([.int .i64 u.jc, .int .i64 u.js] : List Value) ++ (cBs u.jh.1 ++ (([vb, .int .i64 u.r.t, .int .i64 u.r.c, .int .i64 u.r.s] : List Value) ++ (cBs u.r.h.1 ++ (cBs u.r.b.1 ++ ([vg] : List Value))))))))))))).toArray ∧ F' 1 = .pointer (some ⟨g3, 0, none⟩) ∧ F' 2 = .bool false ∧ F' 3 = .slice none 0 0 ∧ F' 4 = .int .i64 1 ∧ F' 18 = .bool false ∧ F' 29 = .bool false ∧ F' 32 = .bool true) ⟨e0, e1, e2, e3, e4, e18, e29, rfl⟩ ?_
        clear e0 e1 e2 e3 e4 e18 e29
        clear F
        rintro F ⟨e0, e1, e2, e3, e4, e18, e29, e32⟩
        refine wp_cond_true (fr_eval rfl e32) ?_
        refine wp_seq ?_
        refine wp_regionF ?_
        refine lf_val (v := .slice none 0 0) (wantAll rfl) (rv_move rfl (fr_eval rfl e3)) ?_
        refine lf_val (v := .int .i64 0) (wantAll rfl) (rv_len rfl (fr_eval rfl rfl) (Rd.nil (size := 1)) Try.underlying22) ?_
        refine lf_val (v := .bool true) (wantAll rfl) (rv_eql rfl (fr_eval rfl rfl) rfl (by decide)) ?_
        refine lf_val (v := .bool true) (wantAll rfl) (rv_move rfl (fr_eval rfl rfl)) ?_
        refine lf_val (v := .int .i64 1) (wantF (d := 36) rfl (by kernel_rfl) rfl rfl) (rv_move rfl (fr_eval rfl e4)) ?_
        refine lf_val (v := .bool true) (wantF (d := 36) rfl (by kernel_rfl) rfl rfl) (rv_eql rfl (fr_eval rfl rfl) rfl (by decide)) ?_
        refine lf_val (v := .bool true) (wantAll rfl) (rv_pickT rfl (fr_eval rfl rfl) (fr_eval rfl rfl)) ?_
        refine lf_val (v := .bool true) (wantAll rfl) (rv_move rfl (fr_eval rfl rfl)) ?_
        refine lf_call (wantF (d := 40) rfl (by kernel_rfl) rfl rfl) (rv_call (args := []) rfl evn Try.call50) (awake28_calls _) ?_
        rintro _ w26 ⟨rfl, hx⟩
        refine ⟨_, rfl, ?_⟩
        replace hH := hH.ext hx
        clear hx
        refine lf_val (v := .bool true) (wantAll rfl) (rv_pickT rfl (fr_eval rfl rfl) (fr_eval rfl rfl)) ?_
        refine lf_val (v := .bool true) (wantAll rfl) (rv_assign rfl (fr_eval rfl rfl)) ?_
        refine lf_nil ?_
        refine then_n ?_
        refine wp_gen (fun F' => F' 0 = .agg (([.int .i64 u.k, .int .i64 u.a, .int .i64 u.b, .int .i64 u.c0, .int .i64 u.c1, .int .i64 u.c2] : List Value) ++ (cBs u.h0.1 ++ (cBs u.h1.1 ++ (([.int .i64 u.g] : List Value) ++ (cBs u.o.1 ++ (([.int .i64 u.n] : List Value) ++ (cBs u.x.1 ++ (([.int .i64 u.jc, .int .i64 u.js] : List Value) ++ (cBs u.jh.1 ++ (([vb, .int .i64 u.r.t, .int .i64 u.r.c, .int .i64 u.r.s] : List Value) ++ (cBs u.r.h.1 ++ (cBs u.r.b.1 ++ ([vg] : List Value))))))))))))).toArray ∧ F' 1 = .pointer (some ⟨g3, 0, none⟩) ∧ F' 2 = .bool true ∧ F' 3 = .slice none 0 0 ∧ F' 4 = .int .i64 1 ∧ F' 18 = .bool false ∧ F' 29 = .bool false ∧ F' 32 = .bool true) ⟨e0, e1, rfl, e3, e4, e18, e29, e32⟩ ?_
        clear e0 e1 e2 e3 e4 e18 e29 e32
        clear F
        rintro F ⟨e0, e1, e2, e3, e4, e18, e29, e32⟩
        refine wp_ret ?_
        refine then_ret ?_
        exact bodyPost_ret (v := (.bool true)) (res1 rfl (ro_tmp rfl e2)) rfl (⟨rfl, hH.done⟩)

set_option maxRecDepth 100000 in
set_option maxHeartbeats 4000000 in
theorem talkGets_walk (b : List UInt8) (v : Value) (w : World) (hr0 : RdB w v b) :
    Calls Try.prog 12 #[v] w fun e'' w' => e'' = .returned (.bool true) ∧ Ext w w' := by
  refine calls_fr (args := [v]) (n := 63) Try.func12 rfl rfl (show 1 ≤ 63 by decide) ?_
  have hr := Rd.stab hr0
  have hH : Heap (newN w) w w [] := Heap.fresh
  refine wp_seq ?_
  refine wp_gen (fun F' => F' 0 = v) rfl ?_
  rintro F e0
  refine wp_regionF ?_
  refine lf_val (v := .bool false) (wantAll rfl) (rv_assign rfl rfl) ?_
  refine lf_nil ?_
  refine then_n ?_
  refine wp_seq ?_
  refine wp_seq ?_
  refine wp_gen (fun F' => F' 0 = v ∧ F' 2 = .bool false) ⟨e0, rfl⟩ ?_
  clear e0
  clear F
  rintro F ⟨e0, e2⟩
  refine wp_regionF ?_
  refine lf_val (v := v) (wantAll rfl) (rv_move rfl (fr_eval rfl e0)) ?_
  refine lf_val (v := .int .i64 ((b.length : Nat) : Int)) (wantAll rfl) (rv_len rfl (fr_eval rfl rfl) (RdB.rn (hr.rd _ hH.chg) rfl) Try.underlying22) ?_
  refine lf_val (v := .bool (decide (b.length > 6000))) (wantAll rfl) (rv_gtrP (p := b.length > 6000) rfl (fr_eval rfl rfl) rfl (by omega)) ?_
  refine lf_nil ?_
  refine then_n ?_
  refine wp_gen (fun F' => F' 0 = v ∧ F' 2 = .bool false ∧ F' 7 = .bool (decide (b.length > 6000))) ⟨e0, e2, rfl⟩ ?_
  clear e0 e2
  clear F
  rintro F ⟨e0, e2, e7⟩
  by_cases hc1 : b.length > 6000
  · refine wp_cond_true (fr_eval rfl (e7.trans (congrArg Value.bool (decide_eq_true hc1)))) ?_
    refine wp_regionF ?_
    refine lf_val (v := v) (wantAll rfl) (rv_move rfl (fr_eval rfl e0)) ?_
    refine lf_val (v := slcV v 1 0 6000) (wantAll rfl) (rv_slcH (h := 6000) Try.stB rfl (fr_eval rfl rfl) (RdB.rn (hr.rd _ hH.chg) rfl) (show _ = Value.int _ ((6000 : Nat) : Int) from rfl) (by omega)) ?_
    refine lf_val (v := slcV v 1 0 6000) (wantAll rfl) (rv_assign rfl (fr_eval rfl rfl)) ?_
    refine lf_nil ?_
    refine then_n ?_
    refine wp_seq ?_
    refine wp_gen (fun F' => F' 0 = slcV v 1 0 6000 ∧ F' 2 = .bool false ∧ F' 7 = .bool true) ⟨rfl, e2, (e7.trans (congrArg Value.bool (decide_eq_true hc1)))⟩ ?_
    clear e0 e2 e7
    clear F
    rintro F ⟨e0, e2, e7⟩
    refine wp_regionF ?_
    refine lf_val (v := slcV v 1 0 6000) (wantAll rfl) (rv_move rfl (fr_eval rfl e0)) ?_
    refine lf_call (wantAll rfl) (rv_call (args := [slcV v 1 0 6000]) rfl (evc (fr_eval rfl rfl) evn) Try.call54) (msGet_calls (List.take 6000 b) (by first | omega | (simp only [List.length_take]; omega)) _ _ (rdB_slcH (h := 6000) (RdB.rn (hr.rd _ hH.chg) rfl) (by omega))) ?_
    rintro _ w1 ⟨mu_t12, mb_t12, mg_t12, y1, y2, me_t12, rfl, hM_t12, hP⟩
    refine ⟨_, rfl, ?_⟩
    have hx := hP.done
    replace hH : Heap _ _ _ [_, _] := hH.joinN hP (Stays.own (hP.own (i := 0) rfl) (Stays.own (hP.own (i := 1) rfl) Stays.nil))
    clear hP
    clear hx
    refine lf_val (v := .tuple #[.agg (([.int .i64 mu_t12.k, .int .i64 mu_t12.a, .int .i64 mu_t12.b, .int .i64 mu_t12.c0, .int .i64 mu_t12.c1, .int .i64 mu_t12.c2] : List Value) ++ (cBs mu_t12.h0.1 ++ (cBs mu_t12.h1.1 ++ (([.int .i64 mu_t12.g] : List Value) ++ (cBs mu_t12.o.1 ++ (([.int .i64 mu_t12.n] : List Value) ++ (cBs mu_t12.x.1 ++ (([.int .i64 mu_t12.jc, .int .i64 mu_t12.js] : List Value) ++ (cBs mu_t12.jh.1 ++ (([y1, .int .i64 mu_t12.r.t, .int .i64 mu_t12.r.c, .int .i64 mu_t12.r.s] : List Value) ++ (cBs mu_t12.r.h.1 ++ (cBs mu_t12.r.b.1 ++ ([y2] : List Value))))))))))))).toArray, .int .i64 me_t12]) (wantAll rfl) (rv_move rfl (fr_eval rfl rfl)) ?_
    refine lf_val (v := .agg (([.int .i64 mu_t12.k, .int .i64 mu_t12.a, .int .i64 mu_t12.b, .int .i64 mu_t12.c0, .int .i64 mu_t12.c1, .int .i64 mu_t12.c2] : List Value) ++ (cBs mu_t12.h0.1 ++ (cBs mu_t12.h1.1 ++ (([.int .i64 mu_t12.g] : List Value) ++ (cBs mu_t12.o.1 ++ (([.int .i64 mu_t12.n] : List Value) ++ (cBs mu_t12.x.1 ++ (([.int .i64 mu_t12.jc, .int .i64 mu_t12.js] : List Value) ++ (cBs mu_t12.jh.1 ++ (([y1, .int .i64 mu_t12.r.t, .int .i64 mu_t12.r.c, .int .i64 mu_t12.r.s] : List Value) ++ (cBs mu_t12.r.h.1 ++ (cBs mu_t12.r.b.1 ++ ([y2] : List Value))))))))))))).toArray) (wantAll rfl) (rv_extract rfl (fr_eval rfl rfl) rfl) ?_
    refine lf_val (v := .int .i64 me_t12) (wantAll rfl) (rv_extract rfl (fr_eval rfl rfl) rfl) ?_
    refine lf_ex (wantAll rfl) (hx_alloc hH 81 (z := .agg (([.int .i64 0, .int .i64 0, .int .i64 0, .int .i64 0, .int .i64 0, .int .i64 0] : List Value) ++ (cBs (List.replicate 32 0) ++ (cBs (List.replicate 32 0) ++ (([.int .i64 0] : List Value) ++ (cBs (List.replicate 32 0) ++ (([.int .i64 0] : List Value) ++ (cBs (List.replicate 32 0) ++ (([.int .i64 0, .int .i64 0] : List Value) ++ (cBs (List.replicate 32 0) ++ (([.slice none 0 0, .int .i64 0, .int .i64 0, .int .i64 0] : List Value) ++ (cBs (List.replicate 32 0) ++ (cBs (List.replicate 32 0) ++ ([.slice none 0 0] : List Value))))))))))))).toArray) (n := 239) (cs := ([.int .i64 0, .int .i64 0, .int .i64 0, .int .i64 0, .int .i64 0, .int .i64 0] : List Value) ++ (cBs (List.replicate 32 0) ++ (cBs (List.replicate 32 0) ++ (([.int .i64 0] : List Value) ++ (cBs (List.replicate 32 0) ++ (([.int .i64 0] : List Value) ++ (cBs (List.replicate 32 0) ++ (([.int .i64 0, .int .i64 0] : List Value) ++ (cBs (List.replicate 32 0) ++ (([.slice none 0 0, .int .i64 0, .int .i64 0, .int .i64 0] : List Value) ++ (cBs (List.replicate 32 0) ++ (cBs (List.replicate 32 0) ++ ([.slice none 0 0] : List Value))))))))))))) rfl (by kernel_rfl) (by rfl)) ?_
    clear hH
    rintro _ w2 ⟨g1, rfl, hH, hx⟩
    replace hH : Heap _ _ _ [_, _, _] := hH
    clear hx
    refine lf_sk (wantAll rfl) (hx_storeW hH (i := 2) (cs := ([.int .i64 mu_t12.k, .int .i64 mu_t12.a, .int .i64 mu_t12.b, .int .i64 mu_t12.c0, .int .i64 mu_t12.c1, .int .i64 mu_t12.c2] : List Value) ++ (cBs mu_t12.h0.1 ++ (cBs mu_t12.h1.1 ++ (([.int .i64 mu_t12.g] : List Value) ++ (cBs mu_t12.o.1 ++ (([.int .i64 mu_t12.n] : List Value) ++ (cBs mu_t12.x.1 ++ (([.int .i64 mu_t12.jc, .int .i64 mu_t12.js] : List Value) ++ (cBs mu_t12.jh.1 ++ (([y1, .int .i64 mu_t12.r.t, .int .i64 mu_t12.r.c, .int .i64 mu_t12.r.s] : List Value) ++ (cBs mu_t12.r.h.1 ++ (cBs mu_t12.r.b.1 ++ ([y2] : List Value))))))))))))) rfl rfl rfl (fr_eval rfl rfl) (fr_eval rfl rfl) (sz_len Try.sz81 (zL28_l0 mu_t12.h0.2 mu_t12.h1.2 mu_t12.o.2 mu_t12.x.2 mu_t12.jh.2 mu_t12.r.h.2 mu_t12.r.b.2)) (((zL28_l0 (List.length_replicate ..) (List.length_replicate ..) (List.length_replicate ..) (List.length_replicate ..) (List.length_replicate ..) (List.length_replicate ..) (List.length_replicate ..))).trans ((zL28_l0 mu_t12.h0.2 mu_t12.h1.2 mu_t12.o.2 mu_t12.x.2 mu_t12.jh.2 mu_t12.r.h.2 mu_t12.r.b.2)).symm) (zL28_o5 rfl rfl rfl rfl rfl rfl rfl rfl rfl rfl (Rd.oneV (OwnB.rd (hH.own (i := 0) rfl))) rfl rfl rfl (Rd.oneV (OwnB.rd (hH.own (i := 1) rfl))))) ?_
    clear hH
    rintro w3 ⟨hH, hx⟩
    replace hH : Heap _ _ _ [_, _, _] := hH
    clear hx
    refine lf_val (v := .int .i64 me_t12) (wantAll rfl) (rv_assign rfl (fr_eval rfl rfl)) ?_
    refine lf_nil ?_
    refine then_n ?_
    refine wp_seq ?_
    refine wp_seq ?_
    refine wp_gen (fun F' => F' 0 = slcV v 1 0 6000 ∧ F' 2 = .bool false ∧ F' 3 = .pointer (some ⟨g1, 0, none⟩) ∧ F' 4 = .int .i64 me_t12 ∧ F' 7 = .bool true) ⟨e0, e2, rfl, rfl, e7⟩ ?_
    clear e0 e2 e7
    clear F
    rintro F ⟨e0, e2, e3, e4, e7⟩
    refine wp_regionF ?_
    refine lf_val (v := .int .i64 me_t12) (wantAll rfl) (rv_move rfl (fr_eval rfl e4)) ?_
    refine lf_val (v := .bool (decide (¬ me_t12 = 0))) (wantAll rfl) (rv_neqP (p := ¬ me_t12 = 0) rfl (fr_eval rfl rfl) rfl Iff.rfl) ?_
    refine lf_nil ?_
    refine then_n ?_
    refine wp_gen (fun F' => F' 0 = slcV v 1 0 6000 ∧ F' 2 = .bool false ∧ F' 3 = .pointer (some ⟨g1, 0, none⟩) ∧ F' 4 = .int .i64 me_t12 ∧ F' 7 = .bool true ∧ F' 16 = .bool (decide (¬ me_t12 = 0))) ⟨e0, e2, e3, e4, e7, rfl⟩ ?_
    clear e0 e2 e3 e4 e7
    clear F
    rintro F ⟨e0, e2, e3, e4, e7, e16⟩
    by_cases hc2 : me_t12 = 0
    · refine wp_cond_false (fr_eval rfl (e16.trans (congrArg Value.bool (decide_eq_false (not_not_intro hc2))))) ?_
      refine wp_skip ?_
      refine then_n ?_
      refine wp_seq ?_
      refine wp_regionX (fun _ => False) 12 (by kernel_rfl) (by kernel_rfl) ?_
      refine xl_take (i := 0) (v := .agg (([.int .i64 mu_t12.k, .int .i64 mu_t12.a, .int .i64 mu_t12.b, .int .i64 mu_t12.c0, .int .i64 mu_t12.c1, .int .i64 mu_t12.c2] : List Value) ++ (cBs mu_t12.h0.1 ++ (cBs mu_t12.h1.1 ++ (([.int .i64 mu_t12.g] : List Value) ++ (cBs mu_t12.o.1 ++ (([.int .i64 mu_t12.n] : List Value) ++ (cBs mu_t12.x.1 ++ (([.int .i64 mu_t12.jc, .int .i64 mu_t12.js] : List Value) ++ (cBs mu_t12.jh.1 ++ (([y1, .int .i64 mu_t12.r.t, .int .i64 mu_t12.r.c, .int .i64 mu_t12.r.s] : List Value) ++ (cBs mu_t12.r.h.1 ++ (cBs mu_t12.r.b.1 ++ ([y2] : List Value))))))))))))).toArray) rfl (by kernel_rfl) (by kernel_rfl) (by kernel_rfl) (by kernel_rfl) (yx_val (wantAll rfl) (fun w' hx' => rv_loadW rfl ((hH.ext hx').blk (i := 2) rfl) (fr_eval rfl e3) Try.underlying81 rfl (sz_len Try.sz81 (zL28_l0 mu_t12.h0.2 mu_t12.h1.2 mu_t12.o.2 mu_t12.x.2 mu_t12.jh.2 mu_t12.r.h.2 mu_t12.r.b.2)))) ?_
      refine xl_take (i := 1) (v := .bool true) rfl (by kernel_rfl) (by kernel_rfl) (by kernel_rfl) (by kernel_rfl) (yx_call (wantAll rfl) (fun w' => rv_call (args := [.agg (([.int .i64 mu_t12.k, .int .i64 mu_t12.a, .int .i64 mu_t12.b, .int .i64 mu_t12.c0, .int .i64 mu_t12.c1, .int .i64 mu_t12.c2] : List Value) ++ (cBs mu_t12.h0.1 ++ (cBs mu_t12.h1.1 ++ (([.int .i64 mu_t12.g] : List Value) ++ (cBs mu_t12.o.1 ++ (([.int .i64 mu_t12.n] : List Value) ++ (cBs mu_t12.x.1 ++ (([.int .i64 mu_t12.jc, .int .i64 mu_t12.js] : List Value) ++ (cBs mu_t12.jh.1 ++ (([y1, .int .i64 mu_t12.r.t, .int .i64 mu_t12.r.c, .int .i64 mu_t12.r.s] : List Value) ++ (cBs mu_t12.r.h.1 ++ (cBs mu_t12.r.b.1 ++ ([y2] : List Value))))))))))))).toArray]) rfl (evc (fr_eval rfl rfl) evn) Try.call53) (fun w' hx' => calls_known (b' := true) (msRight28_calls mu_t12 _ _ _) (decide_eq_true (hM_t12.good (by assumption)).1))) ?_
      refine xl_take (i := 2) (v := .bool true) rfl (by kernel_rfl) (by kernel_rfl) (by kernel_rfl) (by kernel_rfl) (yx_val (wantAll rfl) (fun w' hx' => rv_move rfl (fr_eval rfl rfl))) ?_
      refine xl_take (i := 3) (v := .agg (([.int .i64 mu_t12.k, .int .i64 mu_t12.a, .int .i64 mu_t12.b, .int .i64 mu_t12.c0, .int .i64 mu_t12.c1, .int .i64 mu_t12.c2] : List Value) ++ (cBs mu_t12.h0.1 ++ (cBs mu_t12.h1.1 ++ (([.int .i64 mu_t12.g] : List Value) ++ (cBs mu_t12.o.1 ++ (([.int .i64 mu_t12.n] : List Value) ++ (cBs mu_t12.x.1 ++ (([.int .i64 mu_t12.jc, .int .i64 mu_t12.js] : List Value) ++ (cBs mu_t12.jh.1 ++ (([y1, .int .i64 mu_t12.r.t, .int .i64 mu_t12.r.c, .int .i64 mu_t12.r.s] : List Value) ++ (cBs mu_t12.r.h.1 ++ (cBs mu_t12.r.b.1 ++ ([y2] : List Value))))))))))))).toArray) rfl (by kernel_rfl) (by kernel_rfl) (by kernel_rfl) (by kernel_rfl) (yx_val (wantF (d := 48) rfl (by kernel_rfl) rfl rfl) (fun w' hx' => rv_loadW rfl ((hH.ext hx').blk (i := 2) rfl) (fr_eval rfl e3) Try.underlying81 rfl (sz_len Try.sz81 (zL28_l0 mu_t12.h0.2 mu_t12.h1.2 mu_t12.o.2 mu_t12.x.2 mu_t12.jh.2 mu_t12.r.h.2 mu_t12.r.b.2)))) ?_
      refine xl_take (i := 4) (v := .bool true) rfl (by kernel_rfl) (by kernel_rfl) (by kernel_rfl) (by kernel_rfl) (yx_call (wantF (d := 48) rfl (by kernel_rfl) rfl rfl) (fun w' => rv_call (args := [.agg (([.int .i64 mu_t12.k, .int .i64 mu_t12.a, .int .i64 mu_t12.b, .int .i64 mu_t12.c0, .int .i64 mu_t12.c1, .int .i64 mu_t12.c2] : List Value) ++ (cBs mu_t12.h0.1 ++ (cBs mu_t12.h1.1 ++ (([.int .i64 mu_t12.g] : List Value) ++ (cBs mu_t12.o.1 ++ (([.int .i64 mu_t12.n] : List Value) ++ (cBs mu_t12.x.1 ++ (([.int .i64 mu_t12.jc, .int .i64 mu_t12.js] : List Value) ++ (cBs mu_t12.jh.1 ++ (([y1, .int .i64 mu_t12.r.t, .int .i64 mu_t12.r.c, .int .i64 mu_t12.r.s] : List Value) ++ (cBs mu_t12.r.h.1 ++ (cBs mu_t12.r.b.1 ++ ([y2] : List Value))))))))))))).toArray]) rfl (evc (fr_eval rfl rfl) evn) Try.call56) (fun w' hx' => calls_known (b' := true) (plain28_calls mu_t12 mb_t12 mg_t12 _ _ _ (OwnB.rd ((hH.ext hx').own (i := 0) rfl)) (OwnB.rd ((hH.ext hx').own (i := 1) rfl))) (decide_eq_true (hM_t12.good (by assumption)).2.1))) ?_
      refine xl_take (i := 5) (v := .bool true) rfl (by kernel_rfl) (by kernel_rfl) (by kernel_rfl) (by kernel_rfl) (yx_val (wantAll rfl) (fun w' hx' => rv_pickT rfl (fr_eval rfl rfl) (fr_eval rfl rfl))) ?_
      refine xl_take (i := 6) (v := .bool true) rfl (by kernel_rfl) (by kernel_rfl) (by kernel_rfl) (by kernel_rfl) (yx_val (wantAll rfl) (fun w' hx' => rv_move rfl (fr_eval rfl rfl))) ?_
      refine xl_take (i := 7) (v := .agg (([.int .i64 mu_t12.k, .int .i64 mu_t12.a, .int .i64 mu_t12.b, .int .i64 mu_t12.c0, .int .i64 mu_t12.c1, .int .i64 mu_t12.c2] : List Value) ++ (cBs mu_t12.h0.1 ++ (cBs mu_t12.h1.1 ++ (([.int .i64 mu_t12.g] : List Value) ++ (cBs mu_t12.o.1 ++ (([.int .i64 mu_t12.n] : List Value) ++ (cBs mu_t12.x.1 ++ (([.int .i64 mu_t12.jc, .int .i64 mu_t12.js] : List Value) ++ (cBs mu_t12.jh.1 ++ (([y1, .int .i64 mu_t12.r.t, .int .i64 mu_t12.r.c, .int .i64 mu_t12.r.s] : List Value) ++ (cBs mu_t12.r.h.1 ++ (cBs mu_t12.r.b.1 ++ ([y2] : List Value))))))))))))).toArray) rfl (by kernel_rfl) (by kernel_rfl) (by kernel_rfl) (by kernel_rfl) (yx_val (wantF (d := 52) rfl (by kernel_rfl) rfl rfl) (fun w' hx' => rv_loadW rfl ((hH.ext hx').blk (i := 2) rfl) (fr_eval rfl e3) Try.underlying81 rfl (sz_len Try.sz81 (zL28_l0 mu_t12.h0.2 mu_t12.h1.2 mu_t12.o.2 mu_t12.x.2 mu_t12.jh.2 mu_t12.r.h.2 mu_t12.r.b.2)))) ?_
      refine xl_take (i := 10) (v := slcV v 1 0 6000) rfl (by kernel_rfl) (by kernel_rfl) (by kernel_rfl) (by kernel_rfl) (yx_val (wantF (d := 52) rfl (by kernel_rfl) rfl rfl) (fun w' hx' => rv_move rfl (fr_eval rfl e0))) ?_
      refine xl_take (i := 11) (v := .string ⟨(List.take 6000 b).toArray⟩) rfl (by kernel_rfl) (by kernel_rfl) (by kernel_rfl) (by kernel_rfl) (yx_val (wantF (d := 52) rfl (by kernel_rfl) rfl rfl) (fun w' hx' => rv_str rfl (fr_eval rfl rfl) (rdB_slcH (h := 6000) (RdB.rn (hr.rd _ (hH.chg.trans (Ext.any hx'))) rfl) (by omega)) Try.underlying22 Try.underlying5 Try.underlying9)) ?_
      refine anyX_ready (rs := [8]) (by kernel_rfl) ?_
      intro w4 hx
      replace hH := hH.ext hx
      clear hx
      refine (anyX_cons ?_ anyX_nil)
      refine xl_step (i := 8) rfl (wantF (d := 52) rfl (by kernel_rfl) rfl rfl) ?_
      refine of_call (rv_call (args := [.agg (([.int .i64 mu_t12.k, .int .i64 mu_t12.a, .int .i64 mu_t12.b, .int .i64 mu_t12.c0, .int .i64 mu_t12.c1, .int .i64 mu_t12.c2] : List Value) ++ (cBs mu_t12.h0.1 ++ (cBs mu_t12.h1.1 ++ (([.int .i64 mu_t12.g] : List Value) ++ (cBs mu_t12.o.1 ++ (([.int .i64 mu_t12.n] : List Value) ++ (cBs mu_t12.x.1 ++ (([.int .i64 mu_t12.jc, .int .i64 mu_t12.js] : List Value) ++ (cBs mu_t12.jh.1 ++ (([y1, .int .i64 mu_t12.r.t, .int .i64 mu_t12.r.c, .int .i64 mu_t12.r.s] : List Value) ++ (cBs mu_t12.r.h.1 ++ (cBs mu_t12.r.b.1 ++ ([y2] : List Value))))))))))))).toArray]) rfl (evc (fr_eval rfl rfl) evn) Try.call55) (bytes28_calls mu_t12 (inMs_of (hM_t12.good (by assumption)).1 (hM_t12.good (by assumption)).2.1) mb_t12 mg_t12 (Nat.le_trans (hM_t12.good (by assumption)).2.2.2.1 (by decide)) (Nat.le_trans (hM_t12.good (by assumption)).2.2.2.2 (by decide)) _ _ _ (OwnB.rd (hH.own (i := 0) rfl)) (OwnB.rd (hH.own (i := 1) rfl))) ?_
      rintro _ w5 ⟨⟨y3, rfl, ho, hg⟩, hx⟩
      refine ⟨_, rfl, ?_⟩
      replace hH : Heap _ _ _ [_, _, _, _] := hH.addOwn hx hg ho
      clear ho hg
      refine ⟨hx, ?_⟩
      clear hx
      refine xl_take (i := 9) (v := .string ⟨(textM mu_t12 mb_t12 mg_t12).toArray⟩) rfl (by kernel_rfl) (by kernel_rfl) (by kernel_rfl) (by kernel_rfl) (yx_val (wantF (d := 52) rfl (by kernel_rfl) rfl rfl) (fun w' hx' => rv_str rfl (fr_eval rfl rfl) (OwnB.rd ((hH.ext hx').own (i := 3) rfl)) Try.underlying22 Try.underlying5 Try.underlying9)) ?_
      refine xl_tail (s := 12) rfl ?_
      intro w6 hx
      replace hH := hH.ext hx
      clear hx
      refine lf_val (v := .bool true) (wantF (d := 52) rfl (by kernel_rfl) rfl rfl) (rv_eqs (b := true) rfl (fr_eval rfl rfl) (fr_eval rfl rfl) (by exact decide_eq_true (hM_t12.good (by assumption)).2.2.1.symm)) ?_
      refine lf_val (v := .bool true) (wantAll rfl) (rv_pickT rfl (fr_eval rfl rfl) (fr_eval rfl rfl)) ?_
      refine lf_val (v := .bool true) (wantAll rfl) (rv_move rfl (fr_eval rfl rfl)) ?_
      refine lf_call (wantF (d := 60) rfl (by kernel_rfl) rfl rfl) (rv_call (args := []) rfl evn Try.call50) (awake28_calls _) ?_
      rintro _ w7 ⟨rfl, hx⟩
      refine ⟨_, rfl, ?_⟩
      replace hH := hH.ext hx
      clear hx
      refine lf_val (v := .bool true) (wantAll rfl) (rv_pickT rfl (fr_eval rfl rfl) (fr_eval rfl rfl)) ?_
      refine lf_val (v := .bool true) (wantAll rfl) (rv_assign rfl (fr_eval rfl rfl)) ?_
      refine lf_nil ?_
      refine then_n ?_
      replace hH : Heap _ _ _ [_, _, _] := hH.drop (.cons_cons _ (.cons_cons _ (.cons_cons _ (.cons _ .slnil))))
      refine wp_gen (fun F' => F' 0 = slcV v 1 0 6000 ∧ F' 2 = .bool true ∧ F' 3 = .pointer (some ⟨g1, 0, none⟩) ∧ F' 4 = .int .i64 me_t12 ∧ F' 7 = .bool true ∧ F' 16 = .bool false) ⟨e0, rfl, e3, e4, e7, (e16.trans (congrArg Value.bool (decide_eq_false (not_not_intro hc2))))⟩ ?_
      clear e0 e2 e3 e4 e7 e16
      clear F
      rintro F ⟨e0, e2, e3, e4, e7, e16⟩
      refine wp_ret ?_
      exact bodyPost_ret (v := (.bool true)) (res1 rfl (ro_tmp rfl e2)) rfl (⟨rfl, hH.done⟩)
    · refine wp_cond_true (fr_eval rfl (e16.trans (congrArg Value.bool (decide_eq_true hc2)))) ?_
      refine wp_seq ?_
      obtain ⟨hz, hz1, hz2⟩ := hM_t12.bad (by assumption)
      have hk0 : mu_t12.k = 0 := by rw [hz]; rfl
      have ha0 : mu_t12.a = 0 := by rw [hz]; rfl
      have hb0 : mu_t12.b = 0 := by rw [hz]; rfl
      have hn0 : mu_t12.n = 0 := by rw [hz]; rfl
      have hl0 : mb_t12.length = 0 := by rw [hz1]; rfl
      have hg0 : mg_t12.length = 0 := by rw [hz2]; rfl
      refine wp_regionF ?_
      refine lf_val (v := .pointer (some ⟨g1, 0, none⟩)) (wantAll rfl) (rv_fieldAddr (n := 0) rfl (fr_eval rfl e3) Try.underlying81 rfl rfl (by kernel_rfl)) ?_
      refine lf_val (v := .int .i64 mu_t12.k) (wantAll rfl) (rv_load1 rfl (hH.blk (i := 2) rfl) (zL28_g7 mu_t12.h0.2 mu_t12.h1.2 mu_t12.o.2 mu_t12.x.2 mu_t12.jh.2 mu_t12.r.h.2 mu_t12.r.b.2) (fr_eval rfl rfl) Try.underlying3 rfl Try.sz3) ?_
      refine lf_val (v := .bool true) (wantAll rfl) (rv_eql rfl (fr_eval rfl rfl) rfl (decide_eq_true (by omega))) ?_
      refine lf_val (v := .bool true) (wantAll rfl) (rv_move rfl (fr_eval rfl rfl)) ?_
      refine lf_val (v := .pointer (some ⟨g1, 1, none⟩)) (wantF (d := 20) rfl (by kernel_rfl) rfl rfl) (rv_fieldAddr (n := 0) rfl (fr_eval rfl e3) Try.underlying81 rfl rfl (by kernel_rfl)) ?_
      refine lf_val (v := .int .i64 mu_t12.a) (wantF (d := 20) rfl (by kernel_rfl) rfl rfl) (rv_load1 rfl (hH.blk (i := 2) rfl) (zL28_g10 mu_t12.h0.2 mu_t12.h1.2 mu_t12.o.2 mu_t12.x.2 mu_t12.jh.2 mu_t12.r.h.2 mu_t12.r.b.2) (fr_eval rfl rfl) Try.underlying3 rfl Try.sz3) ?_
      refine lf_val (v := .pointer (some ⟨g1, 2, none⟩)) (wantF (d := 20) rfl (by kernel_rfl) rfl rfl) (rv_fieldAddr (n := 0) rfl (fr_eval rfl e3) Try.underlying81 rfl rfl (by kernel_rfl)) ?_
      refine lf_val (v := .int .i64 mu_t12.b) (wantF (d := 20) rfl (by kernel_rfl) rfl rfl) (rv_load1 rfl (hH.blk (i := 2) rfl) (zL28_g11 mu_t12.h0.2 mu_t12.h1.2 mu_t12.o.2 mu_t12.x.2 mu_t12.jh.2 mu_t12.r.h.2 mu_t12.r.b.2) (fr_eval rfl rfl) Try.underlying3 rfl Try.sz3) ?_
      refine lf_val (v := .int .i64 (mu_t12.a + mu_t12.b)) (wantF (d := 20) rfl (by kernel_rfl) rfl rfl) (rv_add rfl (fr_eval rfl rfl) (fr_eval rfl rfl) (wrap_i64 (by omega) (by omega) (by omega))) ?_
      refine lf_val (v := .pointer (some ⟨g1, 103, none⟩)) (wantF (d := 20) rfl (by kernel_rfl) rfl rfl) (rv_fieldAddr (n := 0) rfl (fr_eval rfl e3) Try.underlying81 rfl rfl (by kernel_rfl)) ?_
      refine lf_val (v := .int .i64 mu_t12.n) (wantF (d := 20) rfl (by kernel_rfl) rfl rfl) (rv_load1 rfl (hH.blk (i := 2) rfl) (zL28_g6 mu_t12.h0.2 mu_t12.h1.2 mu_t12.o.2 mu_t12.x.2 mu_t12.jh.2 mu_t12.r.h.2 mu_t12.r.b.2) (fr_eval rfl rfl) Try.underlying3 rfl Try.sz3) ?_
      refine lf_val (v := .int .i64 ((mu_t12.a + mu_t12.b) + mu_t12.n)) (wantF (d := 20) rfl (by kernel_rfl) rfl rfl) (rv_add rfl (fr_eval rfl rfl) (fr_eval rfl rfl) (wrap_i64 (by omega) (by omega) (by omega))) ?_
      refine lf_val (v := .bool true) (wantF (d := 20) rfl (by kernel_rfl) rfl rfl) (rv_eql rfl (fr_eval rfl rfl) rfl (decide_eq_true (by omega))) ?_
      refine lf_val (v := .bool true) (wantAll rfl) (rv_pickT rfl (fr_eval rfl rfl) (fr_eval rfl rfl)) ?_
      refine lf_val (v := .bool true) (wantAll rfl) (rv_move rfl (fr_eval rfl rfl)) ?_
      refine lf_val (v := .pointer (some ⟨g1, 136, none⟩)) (wantF (d := 31) rfl (by kernel_rfl) rfl rfl) (rv_fieldAddr (n := 34) rfl (fr_eval rfl e3) Try.underlying81 rfl rfl (by kernel_rfl)) ?_
      refine lf_val (v := .pointer (some ⟨g1, 170, none⟩)) (wantF (d := 31) rfl (by kernel_rfl) rfl rfl) (rv_fieldAddr (n := 0) rfl (fr_eval rfl rfl) Try.underlying79 rfl rfl (by kernel_rfl)) ?_
      refine lf_val (v := y1) (wantF (d := 31) rfl (by kernel_rfl) rfl rfl) (rv_load1 rfl (hH.blk (i := 2) rfl) (zL28_g8 mu_t12.h0.2 mu_t12.h1.2 mu_t12.o.2 mu_t12.x.2 mu_t12.jh.2 mu_t12.r.h.2 mu_t12.r.b.2) (fr_eval rfl rfl) Try.underlying22 rfl Try.sz22) ?_
      refine lf_val (v := .int .i64 ((mb_t12.length : Nat) : Int)) (wantF (d := 31) rfl (by kernel_rfl) rfl rfl) (rv_len rfl (fr_eval rfl rfl) (RdB.rn (OwnB.rd (hH.own (i := 0) rfl)) rfl) Try.underlying22) ?_
      refine lf_val (v := .pointer (some ⟨g1, 171, none⟩)) (wantF (d := 31) rfl (by kernel_rfl) rfl rfl) (rv_fieldAddr (n := 67) rfl (fr_eval rfl e3) Try.underlying81 rfl rfl (by kernel_rfl)) ?_
      refine lf_val (v := .pointer (some ⟨g1, 238, none⟩)) (wantF (d := 31) rfl (by kernel_rfl) rfl rfl) (rv_fieldAddr (n := 0) rfl (fr_eval rfl rfl) Try.underlying61 rfl rfl (by kernel_rfl)) ?_
      refine lf_val (v := y2) (wantF (d := 31) rfl (by kernel_rfl) rfl rfl) (rv_load1 rfl (hH.blk (i := 2) rfl) (zL28_g9 mu_t12.h0.2 mu_t12.h1.2 mu_t12.o.2 mu_t12.x.2 mu_t12.jh.2 mu_t12.r.h.2 mu_t12.r.b.2) (fr_eval rfl rfl) Try.underlying22 rfl Try.sz22) ?_
      refine lf_val (v := .int .i64 ((mg_t12.length : Nat) : Int)) (wantF (d := 31) rfl (by kernel_rfl) rfl rfl) (rv_len rfl (fr_eval rfl rfl) (RdB.rn (OwnB.rd (hH.own (i := 1) rfl)) rfl) Try.underlying22) ?_
      refine lf_val (v := .int .i64 ((mb_t12.length + mg_t12.length : Nat) : Int)) (wantF (d := 31) rfl (by kernel_rfl) rfl rfl) (rv_add rfl (fr_eval rfl rfl) (fr_eval rfl rfl) (wrap_i64 (by omega) (by omega) (by omega))) ?_
      refine lf_val (v := .bool true) (wantF (d := 31) rfl (by kernel_rfl) rfl rfl) (rv_eql rfl (fr_eval rfl rfl) rfl (decide_eq_true (by omega))) ?_
      refine lf_val (v := .bool true) (wantAll rfl) (rv_pickT rfl (fr_eval rfl rfl) (fr_eval rfl rfl)) ?_
      refine lf_val (v := .bool true) (wantAll rfl) (rv_move rfl (fr_eval rfl rfl)) ?_
      refine lf_call (wantF (d := 43) rfl (by kernel_rfl) rfl rfl) (rv_call (args := []) rfl evn Try.call50) (awake28_calls _) ?_
      rintro _ w8 ⟨rfl, hx⟩
      refine ⟨_, rfl, ?_⟩
      replace hH := hH.ext hx
      clear hx
      refine lf_val (v := .bool true) (wantAll rfl) (rv_pickT rfl (fr_eval rfl rfl) (fr_eval rfl rfl)) ?_
      refine lf_val (v := .bool true) (wantAll rfl) (rv_assign rfl (fr_eval rfl rfl)) ?_
      refine lf_nil ?_
      refine then_n ?_
      refine wp_gen (fun F' => F' 0 = slcV v 1 0 6000 ∧ F' 2 = .bool true ∧ F' 3 = .pointer (some ⟨g1, 0, none⟩) ∧ F' 4 = .int .i64 me_t12 ∧ F' 7 = .bool true ∧ F' 16 = .bool true) ⟨e0, rfl, e3, e4, e7, (e16.trans (congrArg Value.bool (decide_eq_true hc2)))⟩ ?_
      clear e0 e2 e3 e4 e7 e16
      clear F
      rintro F ⟨e0, e2, e3, e4, e7, e16⟩
      refine wp_ret ?_
      refine then_ret ?_
      exact bodyPost_ret (v := (.bool true)) (res1 rfl (ro_tmp rfl e2)) rfl (⟨rfl, hH.done⟩)
  · refine wp_cond_false (fr_eval rfl (e7.trans (congrArg Value.bool (decide_eq_false hc1)))) ?_
    refine wp_skip ?_
    refine then_n ?_
    refine wp_seq ?_
    refine wp_regionF ?_
    refine lf_val (v := v) (wantAll rfl) (rv_move rfl (fr_eval rfl e0)) ?_
    refine lf_call (wantAll rfl) (rv_call (args := [v]) rfl (evc (fr_eval rfl rfl) evn) Try.call54) (msGet_calls b (by first | omega | (simp only [List.length_take]; omega)) _ _ (hr.rd _ hH.chg)) ?_
    rintro _ w9 ⟨mu_t12, mb_t12, mg_t12, y4, y5, me_t12, rfl, hM_t12, hP⟩
    refine ⟨_, rfl, ?_⟩
    have hx := hP.done
    replace hH : Heap _ _ _ [_, _] := hH.joinN hP (Stays.own (hP.own (i := 0) rfl) (Stays.own (hP.own (i := 1) rfl) Stays.nil))
    clear hP
    clear hx
    refine lf_val (v := .tuple #[.agg (([.int .i64 mu_t12.k, .int .i64 mu_t12.a, .int .i64 mu_t12.b, .int .i64 mu_t12.c0, .int .i64 mu_t12.c1, .int .i64 mu_t12.c2] : List Value) ++ (cBs mu_t12.h0.1 ++ (cBs mu_t12.h1.1 ++ (([.int .i64 mu_t12.g] : List Value) ++ (cBs mu_t12.o.1 ++ (([.int .i64 mu_t12.n] : List Value) ++ (cBs mu_t12.x.1 ++ (([.int .i64 mu_t12.jc, .int .i64 mu_t12.js] : List Value) ++ (cBs mu_t12.jh.1 ++ (([y4, .int .i64 mu_t12.r.t, .int .i64 mu_t12.r.c, .int .i64 mu_t12.r.s] : List Value) ++ (cBs mu_t12.r.h.1 ++ (cBs mu_t12.r.b.1 ++ ([y5] : List Value))))))))))))).toArray, .int .i64 me_t12]) (wantAll rfl) (rv_move rfl (fr_eval rfl rfl)) ?_
    refine lf_val (v := .agg (([.int .i64 mu_t12.k, .int .i64 mu_t12.a, .int .i64 mu_t12.b, .int .i64 mu_t12.c0, .int .i64 mu_t12.c1, .int .i64 mu_t12.c2] : List Value) ++ (cBs mu_t12.h0.1 ++ (cBs mu_t12.h1.1 ++ (([.int .i64 mu_t12.g] : List Value) ++ (cBs mu_t12.o.1 ++ (([.int .i64 mu_t12.n] : List Value) ++ (cBs mu_t12.x.1 ++ (([.int .i64 mu_t12.jc, .int .i64 mu_t12.js] : List Value) ++ (cBs mu_t12.jh.1 ++ (([y4, .int .i64 mu_t12.r.t, .int .i64 mu_t12.r.c, .int .i64 mu_t12.r.s] : List Value) ++ (cBs mu_t12.r.h.1 ++ (cBs mu_t12.r.b.1 ++ ([y5] : List Value))))))))))))).toArray) (wantAll rfl) (rv_extract rfl (fr_eval rfl rfl) rfl) ?_
    refine lf_val (v := .int .i64 me_t12) (wantAll rfl) (rv_extract rfl (fr_eval rfl rfl) rfl) ?_
    refine lf_ex (wantAll rfl) (hx_alloc hH 81 (z := .agg (([.int .i64 0, .int .i64 0, .int .i64 0, .int .i64 0, .int .i64 0, .int .i64 0] : List Value) ++ (cBs (List.replicate 32 0) ++ (cBs (List.replicate 32 0) ++ (([.int .i64 0] : List Value) ++ (cBs (List.replicate 32 0) ++ (([.int .i64 0] : List Value) ++ (cBs (List.replicate 32 0) ++ (([.int .i64 0, .int .i64 0] : List Value) ++ (cBs (List.replicate 32 0) ++ (([.slice none 0 0, .int .i64 0, .int .i64 0, .int .i64 0] : List Value) ++ (cBs (List.replicate 32 0) ++ (cBs (List.replicate 32 0) ++ ([.slice none 0 0] : List Value))))))))))))).toArray) (n := 239) (cs := ([.int .i64 0, .int .i64 0, .int .i64 0, .int .i64 0, .int .i64 0, .int .i64 0] : List Value) ++ (cBs (List.replicate 32 0) ++ (cBs (List.replicate 32 0) ++ (([.int .i64 0] : List Value) ++ (cBs (List.replicate 32 0) ++ (([.int .i64 0] : List Value) ++ (cBs (List.replicate 32 0) ++ (([.int .i64 0, .int .i64 0] : List Value) ++ (cBs (List.replicate 32 0) ++ (([.slice none 0 0, .int .i64 0, .int .i64 0, .int .i64 0] : List Value) ++ (cBs (List.replicate 32 0) ++ (cBs (List.replicate 32 0) ++ ([.slice none 0 0] : List Value))))))))))))) rfl (by kernel_rfl) (by rfl)) ?_
    clear hH
    rintro _ w10 ⟨g2, rfl, hH, hx⟩
    replace hH : Heap _ _ _ [_, _, _] := hH
    clear hx
    refine lf_sk (wantAll rfl) (hx_storeW hH (i := 2) (cs := ([.int .i64 mu_t12.k, .int .i64 mu_t12.a, .int .i64 mu_t12.b, .int .i64 mu_t12.c0, .int .i64 mu_t12.c1, .int .i64 mu_t12.c2] : List Value) ++ (cBs mu_t12.h0.1 ++ (cBs mu_t12.h1.1 ++ (([.int .i64 mu_t12.g] : List Value) ++ (cBs mu_t12.o.1 ++ (([.int .i64 mu_t12.n] : List Value) ++ (cBs mu_t12.x.1 ++ (([.int .i64 mu_t12.jc, .int .i64 mu_t12.js] : List Value) ++ (cBs mu_t12.jh.1 ++ (([y4, .int .i64 mu_t12.r.t, .int .i64 mu_t12.r.c, .int .i64 mu_t12.r.s] : List Value) ++ (cBs mu_t12.r.h.1 ++ (cBs mu_t12.r.b.1 ++ ([y5] : List Value))))))))))))) rfl rfl rfl (fr_eval rfl rfl) (fr_eval rfl rfl) (sz_len Try.sz81 (zL28_l0 mu_t12.h0.2 mu_t12.h1.2 mu_t12.o.2 mu_t12.x.2 mu_t12.jh.2 mu_t12.r.h.2 mu_t12.r.b.2)) (((zL28_l0 (List.length_replicate ..) (List.length_replicate ..) (List.length_replicate ..) (List.length_replicate ..) (List.length_replicate ..) (List.length_replicate ..) (List.length_replicate ..))).trans ((zL28_l0 mu_t12.h0.2 mu_t12.h1.2 mu_t12.o.2 mu_t12.x.2 mu_t12.jh.2 mu_t12.r.h.2 mu_t12.r.b.2)).symm) (zL28_o5 rfl rfl rfl rfl rfl rfl rfl rfl rfl rfl (Rd.oneV (OwnB.rd (hH.own (i := 0) rfl))) rfl rfl rfl (Rd.oneV (OwnB.rd (hH.own (i := 1) rfl))))) ?_
    clear hH
    rintro w11 ⟨hH, hx⟩
    replace hH : Heap _ _ _ [_, _, _] := hH
    clear hx
    refine lf_val (v := .int .i64 me_t12) (wantAll rfl) (rv_assign rfl (fr_eval rfl rfl)) ?_
    refine lf_nil ?_
    refine then_n ?_
    refine wp_seq ?_
    refine wp_seq ?_
    refine wp_gen (fun F' => F' 0 = v ∧ F' 2 = .bool false ∧ F' 3 = .pointer (some ⟨g2, 0, none⟩) ∧ F' 4 = .int .i64 me_t12 ∧ F' 7 = .bool false) ⟨e0, e2, rfl, rfl, (e7.trans (congrArg Value.bool (decide_eq_false hc1)))⟩ ?_
    clear e0 e2 e7
    clear F
    rintro F ⟨e0, e2, e3, e4, e7⟩
    refine wp_regionF ?_
    refine lf_val (v := .int .i64 me_t12) (wantAll rfl) (rv_move rfl (fr_eval rfl e4)) ?_
    refine lf_val (v := .bool (decide (¬ me_t12 = 0))) (wantAll rfl) (rv_neqP (p := ¬ me_t12 = 0) rfl (fr_eval rfl rfl) rfl Iff.rfl) ?_
    refine lf_nil ?_
    refine then_n ?_
    refine wp_gen (fun F' => F' 0 = v ∧ F' 2 = .bool false ∧ F' 3 = .pointer (some ⟨g2, 0, none⟩) ∧ F' 4 = .int .i64 me_t12 ∧ F' 7 = .bool false ∧ F' 16 = .bool (decide (¬ me_t12 = 0))) ⟨e0, e2, e3, e4, e7, rfl⟩ ?_
    clear e0 e2 e3 e4 e7
    clear F
    rintro F ⟨e0, e2, e3, e4, e7, e16⟩
    by_cases hc3 : me_t12 = 0
    · refine wp_cond_false (fr_eval rfl (e16.trans (congrArg Value.bool (decide_eq_false (not_not_intro hc3))))) ?_
      refine wp_skip ?_
      refine then_n ?_
      refine wp_seq ?_
      refine wp_regionX (fun _ => False) 12 (by kernel_rfl) (by kernel_rfl) ?_
      refine xl_take (i := 0) (v := .agg (([.int .i64 mu_t12.k, .int .i64 mu_t12.a, .int .i64 mu_t12.b, .int .i64 mu_t12.c0, .int .i64 mu_t12.c1, .int .i64 mu_t12.c2] : List Value) ++ (cBs mu_t12.h0.1 ++ (cBs mu_t12.h1.1 ++ (([.int .i64 mu_t12.g] : List Value) ++ (cBs mu_t12.o.1 ++ (([.int .i64 mu_t12.n] : List Value) ++ (cBs mu_t12.x.1 ++ (([.int .i64 mu_t12.jc, .int .i64 mu_t12.js] : List Value) ++ (cBs mu_t12.jh.1 ++ (([y4, .int .i64 mu_t12.r.t, .int .i64 mu_t12.r.c, .int .i64 mu_t12.r.s] : List Value) ++ (cBs mu_t12.r.h.1 ++ (cBs mu_t12.r.b.1 ++ ([y5] : List Value))))))))))))).toArray) rfl (by kernel_rfl) (by kernel_rfl) (by kernel_rfl) (by kernel_rfl) (yx_val (wantAll rfl) (fun w' hx' => rv_loadW rfl ((hH.ext hx').blk (i := 2) rfl) (fr_eval rfl e3) Try.underlying81 rfl (sz_len Try.sz81 (zL28_l0 mu_t12.h0.2 mu_t12.h1.2 mu_t12.o.2 mu_t12.x.2 mu_t12.jh.2 mu_t12.r.h.2 mu_t12.r.b.2)))) ?_
      refine xl_take (i := 1) (v := .bool true) rfl (by kernel_rfl) (by kernel_rfl) (by kernel_rfl) (by kernel_rfl) (yx_call (wantAll rfl) (fun w' => rv_call (args := [.agg (([.int .i64 mu_t12.k, .int .i64 mu_t12.a, .int .i64 mu_t12.b, .int .i64 mu_t12.c0, .int .i64 mu_t12.c1, .int .i64 mu_t12.c2] : List Value) ++ (cBs mu_t12.h0.1 ++ (cBs mu_t12.h1.1 ++ (([.int .i64 mu_t12.g] : List Value) ++ (cBs mu_t12.o.1 ++ (([.int .i64 mu_t12.n] : List Value) ++ (cBs mu_t12.x.1 ++ (([.int .i64 mu_t12.jc, .int .i64 mu_t12.js] : List Value) ++ (cBs mu_t12.jh.1 ++ (([y4, .int .i64 mu_t12.r.t, .int .i64 mu_t12.r.c, .int .i64 mu_t12.r.s] : List Value) ++ (cBs mu_t12.r.h.1 ++ (cBs mu_t12.r.b.1 ++ ([y5] : List Value))))))))))))).toArray]) rfl (evc (fr_eval rfl rfl) evn) Try.call53) (fun w' hx' => calls_known (b' := true) (msRight28_calls mu_t12 _ _ _) (decide_eq_true (hM_t12.good (by assumption)).1))) ?_
      refine xl_take (i := 2) (v := .bool true) rfl (by kernel_rfl) (by kernel_rfl) (by kernel_rfl) (by kernel_rfl) (yx_val (wantAll rfl) (fun w' hx' => rv_move rfl (fr_eval rfl rfl))) ?_
      refine xl_take (i := 3) (v := .agg (([.int .i64 mu_t12.k, .int .i64 mu_t12.a, .int .i64 mu_t12.b, .int .i64 mu_t12.c0, .int .i64 mu_t12.c1, .int .i64 mu_t12.c2] : List Value) ++ (cBs mu_t12.h0.1 ++ (cBs mu_t12.h1.1 ++ (([.int .i64 mu_t12.g] : List Value) ++ (cBs mu_t12.o.1 ++ (([.int .i64 mu_t12.n] : List Value) ++ (cBs mu_t12.x.1 ++ (([.int .i64 mu_t12.jc, .int .i64 mu_t12.js] : List Value) ++ (cBs mu_t12.jh.1 ++ (([y4, .int .i64 mu_t12.r.t, .int .i64 mu_t12.r.c, .int .i64 mu_t12.r.s] : List Value) ++ (cBs mu_t12.r.h.1 ++ (cBs mu_t12.r.b.1 ++ ([y5] : List Value))))))))))))).toArray) rfl (by kernel_rfl) (by kernel_rfl) (by kernel_rfl) (by kernel_rfl) (yx_val (wantF (d := 48) rfl (by kernel_rfl) rfl rfl) (fun w' hx' => rv_loadW rfl ((hH.ext hx').blk (i := 2) rfl) (fr_eval rfl e3) Try.underlying81 rfl (sz_len Try.sz81 (zL28_l0 mu_t12.h0.2 mu_t12.h1.2 mu_t12.o.2 mu_t12.x.2 mu_t12.jh.2 mu_t12.r.h.2 mu_t12.r.b.2)))) ?_
      refine xl_take (i := 4) (v := .bool true) rfl (by kernel_rfl) (by kernel_rfl) (by kernel_rfl) (by kernel_rfl) (yx_call (wantF (d := 48) rfl (by kernel_rfl) rfl rfl) (fun w' => rv_call (args := [.agg (([.int .i64 mu_t12.k, .int .i64 mu_t12.a, .int .i64 mu_t12.b, .int .i64 mu_t12.c0, .int .i64 mu_t12.c1, .int .i64 mu_t12.c2] : List Value) ++ (cBs mu_t12.h0.1 ++ (cBs mu_t12.h1.1 ++ (([.int .i64 mu_t12.g] : List Value) ++ (cBs mu_t12.o.1 ++ (([.int .i64 mu_t12.n] : List Value) ++ (cBs mu_t12.x.1 ++ (([.int .i64 mu_t12.jc, .int .i64 mu_t12.js] : List Value) ++ (cBs mu_t12.jh.1 ++ (([y4, .int .i64 mu_t12.r.t, .int .i64 mu_t12.r.c, .int .i64 mu_t12.r.s] : List Value) ++ (cBs mu_t12.r.h.1 ++ (cBs mu_t12.r.b.1 ++ ([y5] : List Value))))))))))))).toArray]) rfl (evc (fr_eval rfl rfl) evn) Try.call56) (fun w' hx' => calls_known (b' := true) (plain28_calls mu_t12 mb_t12 mg_t12 _ _ _ (OwnB.rd ((hH.ext hx').own (i := 0) rfl)) (OwnB.rd ((hH.ext hx').own (i := 1) rfl))) (decide_eq_true (hM_t12.good (by assumption)).2.1))) ?_
      refine xl_take (i := 5) (v := .bool true) rfl (by kernel_rfl) (by kernel_rfl) (by kernel_rfl) (by kernel_rfl) (yx_val (wantAll rfl) (fun w' hx' => rv_pickT rfl (fr_eval rfl rfl) (fr_eval rfl rfl))) ?_
      refine xl_take (i := 6) (v := .bool true) rfl (by kernel_rfl) (by kernel_rfl) (by kernel_rfl) (by kernel_rfl) (yx_val (wantAll rfl) (fun w' hx' => rv_move rfl (fr_eval rfl rfl))) ?_
      refine xl_take (i := 7) (v := .agg (([.int .i64 mu_t12.k, .int .i64 mu_t12.a, .int .i64 mu_t12.b, .int .i64 mu_t12.c0, .int .i64 mu_t12.c1, .int .i64 mu_t12.c2] : List Value) ++ (cBs mu_t12.h0.1 ++ (cBs mu_t12.h1.1 ++ (([.int .i64 mu_t12.g] : List Value) ++ (cBs mu_t12.o.1 ++ (([.int .i64 mu_t12.n] : List Value) ++ (cBs mu_t12.x.1 ++ (([.int .i64 mu_t12.jc, .int .i64 mu_t12.js] : List Value) ++ (cBs mu_t12.jh.1 ++ (([y4, .int .i64 mu_t12.r.t, .int .i64 mu_t12.r.c, .int .i64 mu_t12.r.s] : List Value) ++ (cBs mu_t12.r.h.1 ++ (cBs mu_t12.r.b.1 ++ ([y5] : List Value))))))))))))).toArray) rfl (by kernel_rfl) (by kernel_rfl) (by kernel_rfl) (by kernel_rfl) (yx_val (wantF (d := 52) rfl (by kernel_rfl) rfl rfl) (fun w' hx' => rv_loadW rfl ((hH.ext hx').blk (i := 2) rfl) (fr_eval rfl e3) Try.underlying81 rfl (sz_len Try.sz81 (zL28_l0 mu_t12.h0.2 mu_t12.h1.2 mu_t12.o.2 mu_t12.x.2 mu_t12.jh.2 mu_t12.r.h.2 mu_t12.r.b.2)))) ?_
      refine xl_take (i := 10) (v := v) rfl (by kernel_rfl) (by kernel_rfl) (by kernel_rfl) (by kernel_rfl) (yx_val (wantF (d := 52) rfl (by kernel_rfl) rfl rfl) (fun w' hx' => rv_move rfl (fr_eval rfl e0))) ?_
      refine xl_take (i := 11) (v := .string ⟨(b).toArray⟩) rfl (by kernel_rfl) (by kernel_rfl) (by kernel_rfl) (by kernel_rfl) (yx_val (wantF (d := 52) rfl (by kernel_rfl) rfl rfl) (fun w' hx' => rv_str rfl (fr_eval rfl rfl) (hr.rd _ (hH.chg.trans (Ext.any hx'))) Try.underlying22 Try.underlying5 Try.underlying9)) ?_
      refine anyX_ready (rs := [8]) (by kernel_rfl) ?_
      intro w12 hx
      replace hH := hH.ext hx
      clear hx
      refine (anyX_cons ?_ anyX_nil)
      refine xl_step (i := 8) rfl (wantF (d := 52) rfl (by kernel_rfl) rfl rfl) ?_
      refine of_call (rv_call (args := [.agg (([.int .i64 mu_t12.k, .int .i64 mu_t12.a, .int .i64 mu_t12.b, .int .i64 mu_t12.c0, .int .i64 mu_t12.c1, .int .i64 mu_t12.c2] : List Value) ++ (cBs mu_t12.h0.1 ++ (cBs mu_t12.h1.1 ++ (([.int .i64 mu_t12.g] : List Value) ++ (cBs mu_t12.o.1 ++ (([.int .i64 mu_t12.n] : List Value) ++ (cBs mu_t12.x.1 ++ (([.int .i64 mu_t12.jc, .int .i64 mu_t12.js] : List Value) ++ (cBs mu_t12.jh.1 ++ (([y4, .int .i64 mu_t12.r.t, .int .i64 mu_t12.r.c, .int .i64 mu_t12.r.s] : List Value) ++ (cBs mu_t12.r.h.1 ++ (cBs mu_t12.r.b.1 ++ ([y5] : List Value))))))))))))).toArray]) rfl (evc (fr_eval rfl rfl) evn) Try.call55) (bytes28_calls mu_t12 (inMs_of (hM_t12.good (by assumption)).1 (hM_t12.good (by assumption)).2.1) mb_t12 mg_t12 (Nat.le_trans (hM_t12.good (by assumption)).2.2.2.1 (by decide)) (Nat.le_trans (hM_t12.good (by assumption)).2.2.2.2 (by decide)) _ _ _ (OwnB.rd (hH.own (i := 0) rfl)) (OwnB.rd (hH.own (i := 1) rfl))) ?_
      rintro _ w13 ⟨⟨y6, rfl, ho, hg⟩, hx⟩
      refine ⟨_, rfl, ?_⟩
      replace hH : Heap _ _ _ [_, _, _, _] := hH.addOwn hx hg ho
      clear ho hg
      refine ⟨hx, ?_⟩
      clear hx
      refine xl_take (i := 9) (v := .string ⟨(textM mu_t12 mb_t12 mg_t12).toArray⟩) rfl (by kernel_rfl) (by kernel_rfl) (by kernel_rfl) (by kernel_rfl) (yx_val (wantF (d := 52) rfl (by kernel_rfl) rfl rfl) (fun w' hx' => rv_str rfl (fr_eval rfl rfl) (OwnB.rd ((hH.ext hx').own (i := 3) rfl)) Try.underlying22 Try.underlying5 Try.underlying9)) ?_
      refine xl_tail (s := 12) rfl ?_
      intro w14 hx
      replace hH := hH.ext hx
      clear hx
      refine lf_val (v := .bool true) (wantF (d := 52) rfl (by kernel_rfl) rfl rfl) (rv_eqs (b := true) rfl (fr_eval rfl rfl) (fr_eval rfl rfl) (by exact decide_eq_true (hM_t12.good (by assumption)).2.2.1.symm)) ?_
      refine lf_val (v := .bool true) (wantAll rfl) (rv_pickT rfl (fr_eval rfl rfl) (fr_eval rfl rfl)) ?_
      refine lf_val (v := .bool true) (wantAll rfl) (rv_move rfl (fr_eval rfl rfl)) ?_
      refine lf_call (wantF (d := 60) rfl (by kernel_rfl) rfl rfl) (rv_call (args := []) rfl evn Try.call50) (awake28_calls _) ?_
      rintro _ w15 ⟨rfl, hx⟩
      refine ⟨_, rfl, ?_⟩
      replace hH := hH.ext hx
      clear hx
      refine lf_val (v := .bool true) (wantAll rfl) (rv_pickT rfl (fr_eval rfl rfl) (fr_eval rfl rfl)) ?_
      refine lf_val (v := .bool true) (wantAll rfl) (rv_assign rfl (fr_eval rfl rfl)) ?_
      refine lf_nil ?_
      refine then_n ?_
      replace hH : Heap _ _ _ [_, _, _] := hH.drop (.cons_cons _ (.cons_cons _ (.cons_cons _ (.cons _ .slnil))))
      refine wp_gen (fun F' => F' 0 = v ∧ F' 2 = .bool true ∧ F' 3 = .pointer (some ⟨g2, 0, none⟩) ∧ F' 4 = .int .i64 me_t12 ∧ F' 7 = .bool false ∧ F' 16 = .bool false) ⟨e0, rfl, e3, e4, e7, (e16.trans (congrArg Value.bool (decide_eq_false (not_not_intro hc3))))⟩ ?_
      clear e0 e2 e3 e4 e7 e16
      clear F
      rintro F ⟨e0, e2, e3, e4, e7, e16⟩
      refine wp_ret ?_
      exact bodyPost_ret (v := (.bool true)) (res1 rfl (ro_tmp rfl e2)) rfl (⟨rfl, hH.done⟩)
    · refine wp_cond_true (fr_eval rfl (e16.trans (congrArg Value.bool (decide_eq_true hc3)))) ?_
      refine wp_seq ?_
      obtain ⟨hz, hz1, hz2⟩ := hM_t12.bad (by assumption)
      have hk0 : mu_t12.k = 0 := by rw [hz]; rfl
      have ha0 : mu_t12.a = 0 := by rw [hz]; rfl
      have hb0 : mu_t12.b = 0 := by rw [hz]; rfl
      have hn0 : mu_t12.n = 0 := by rw [hz]; rfl
      have hl0 : mb_t12.length = 0 := by rw [hz1]; rfl
      have hg0 : mg_t12.length = 0 := by rw [hz2]; rfl
      refine wp_regionF ?_
      refine lf_val (v := .pointer (some ⟨g2, 0, none⟩)) (wantAll rfl) (rv_fieldAddr (n := 0) rfl (fr_eval rfl e3) Try.underlying81 rfl rfl (by kernel_rfl)) ?_
      refine lf_val (v := .int .i64 mu_t12.k) (wantAll rfl) (rv_load1 rfl (hH.blk (i := 2) rfl) (zL28_g7 mu_t12.h0.2 mu_t12.h1.2 mu_t12.o.2 mu_t12.x.2 mu_t12.jh.2 mu_t12.r.h.2 mu_t12.r.b.2) (fr_eval rfl rfl) Try.underlying3 rfl Try.sz3) ?_
      refine lf_val (v := .bool true) (wantAll rfl) (rv_eql rfl (fr_eval rfl rfl) rfl (decide_eq_true (by omega))) ?_
      refine lf_val (v := .bool true) (wantAll rfl) (rv_move rfl (fr_eval rfl rfl)) ?_
      refine lf_val (v := .pointer (some ⟨g2, 1, none⟩)) (wantF (d := 20) rfl (by kernel_rfl) rfl rfl) (rv_fieldAddr (n := 0) rfl (fr_eval rfl e3) Try.underlying81 rfl rfl (by kernel_rfl)) ?_
      refine lf_val (v := .int .i64 mu_t12.a) (wantF (d := 20) rfl (by kernel_rfl) rfl rfl) (rv_load1 rfl (hH.blk (i := 2) rfl) (zL28_g10 mu_t12.h0.2 mu_t12.h1.2 mu_t12.o.2 mu_t12.x.2 mu_t12.jh.2 mu_t12.r.h.2 mu_t12.r.b.2) (fr_eval rfl rfl) Try.underlying3 rfl Try.sz3) ?_
      refine lf_val (v := .pointer (some ⟨g2, 2, none⟩)) (wantF (d := 20) rfl (by kernel_rfl) rfl rfl) (rv_fieldAddr (n := 0) rfl (fr_eval rfl e3) Try.underlying81 rfl rfl (by kernel_rfl)) ?_
      refine lf_val (v := .int .i64 mu_t12.b) (wantF (d := 20) rfl (by kernel_rfl) rfl rfl) (rv_load1 rfl (hH.blk (i := 2) rfl) (zL28_g11 mu_t12.h0.2 mu_t12.h1.2 mu_t12.o.2 mu_t12.x.2 mu_t12.jh.2 mu_t12.r.h.2 mu_t12.r.b.2) (fr_eval rfl rfl) Try.underlying3 rfl Try.sz3) ?_
      refine lf_val (v := .int .i64 (mu_t12.a + mu_t12.b)) (wantF (d := 20) rfl (by kernel_rfl) rfl rfl) (rv_add rfl (fr_eval rfl rfl) (fr_eval rfl rfl) (wrap_i64 (by omega) (by omega) (by omega))) ?_
      refine lf_val (v := .pointer (some ⟨g2, 103, none⟩)) (wantF (d := 20) rfl (by kernel_rfl) rfl rfl) (rv_fieldAddr (n := 0) rfl (fr_eval rfl e3) Try.underlying81 rfl rfl (by kernel_rfl)) ?_
      refine lf_val (v := .int .i64 mu_t12.n) (wantF (d := 20) rfl (by kernel_rfl) rfl rfl) (rv_load1 rfl (hH.blk (i := 2) rfl) (zL28_g6 mu_t12.h0.2 mu_t12.h1.2 mu_t12.o.2 mu_t12.x.2 mu_t12.jh.2 mu_t12.r.h.2 mu_t12.r.b.2) (fr_eval rfl rfl) Try.underlying3 rfl Try.sz3) ?_
      refine lf_val (v := .int .i64 ((mu_t12.a + mu_t12.b) + mu_t12.n)) (wantF (d := 20) rfl (by kernel_rfl) rfl rfl) (rv_add rfl (fr_eval rfl rfl) (fr_eval rfl rfl) (wrap_i64 (by omega) (by omega) (by omega))) ?_
      refine lf_val (v := .bool true) (wantF (d := 20) rfl (by kernel_rfl) rfl rfl) (rv_eql rfl (fr_eval rfl rfl) rfl (decide_eq_true (by omega))) ?_
      refine lf_val (v := .bool true) (wantAll rfl) (rv_pickT rfl (fr_eval rfl rfl) (fr_eval rfl rfl)) ?_
      refine lf_val (v := .bool true) (wantAll rfl) (rv_move rfl (fr_eval rfl rfl)) ?_
      refine lf_val (v := .pointer (some ⟨g2, 136, none⟩)) (wantF (d := 31) rfl (by kernel_rfl) rfl rfl) (rv_fieldAddr (n := 34) rfl (fr_eval rfl e3) Try.underlying81 rfl rfl (by kernel_rfl)) ?_
      refine lf_val (v := .pointer (some ⟨g2, 170, none⟩)) (wantF (d := 31) rfl (by kernel_rfl) rfl rfl) (rv_fieldAddr (n := 0) rfl (fr_eval rfl rfl) Try.underlying79 rfl rfl (by kernel_rfl)) ?_
      refine lf_val (v := y4) (wantF (d := 31) rfl (by kernel_rfl) rfl rfl) (rv_load1 rfl (hH.blk (i := 2) rfl) (zL28_g8 mu_t12.h0.2 mu_t12.h1.2 mu_t12.o.2 mu_t12.x.2 mu_t12.jh.2 mu_t12.r.h.2 mu_t12.r.b.2) (fr_eval rfl rfl) Try.underlying22 rfl Try.sz22) ?_
      refine lf_val (v := .int .i64 ((mb_t12.length : Nat) : Int)) (wantF (d := 31) rfl (by kernel_rfl) rfl rfl) (rv_len rfl (fr_eval rfl rfl) (RdB.rn (OwnB.rd (hH.own (i := 0) rfl)) rfl) Try.underlying22) ?_
      refine lf_val (v := .pointer (some ⟨g2, 171, none⟩)) (wantF (d := 31) rfl (by kernel_rfl) rfl rfl) (rv_fieldAddr (n := 67) rfl (fr_eval rfl e3) Try.underlying81 rfl rfl (by kernel_rfl)) ?_
      refine lf_val (v := .pointer (some ⟨g2, 238, none⟩)) (wantF (d := 31) rfl (by kernel_rfl) rfl rfl) (rv_fieldAddr (n := 0) rfl (fr_eval rfl rfl) Try.underlying61 rfl rfl (by kernel_rfl)) ?_
      refine lf_val (v := y5) (wantF (d := 31) rfl (by kernel_rfl) rfl rfl) (rv_load1 rfl (hH.blk (i := 2) rfl) (zL28_g9 mu_t12.h0.2 mu_t12.h1.2 mu_t12.o.2 mu_t12.x.2 mu_t12.jh.2 mu_t12.r.h.2 mu_t12.r.b.2) (fr_eval rfl rfl) Try.underlying22 rfl Try.sz22) ?_
      refine lf_val (v := .int .i64 ((mg_t12.length : Nat) : Int)) (wantF (d := 31) rfl (by kernel_rfl) rfl rfl) (rv_len rfl (fr_eval rfl rfl) (RdB.rn (OwnB.rd (hH.own (i := 1) rfl)) rfl) Try.underlying22) ?_
      refine lf_val (v := .int .i64 ((mb_t12.length + mg_t12.length : Nat) : Int)) (wantF (d := 31) rfl (by kernel_rfl) rfl rfl) (rv_add rfl (fr_eval rfl rfl) (fr_eval rfl rfl) (wrap_i64 (by omega) (by omega) (by omega))) ?_
      refine lf_val (v := .bool true) (wantF (d := 31) rfl (by kernel_rfl) rfl rfl) (rv_eql rfl (fr_eval rfl rfl) rfl (decide_eq_true (by omega))) ?_
      refine lf_val (v := .bool true) (wantAll rfl) (rv_pickT rfl (fr_eval rfl rfl) (fr_eval rfl rfl)) ?_
      refine lf_val (v := .bool true) (wantAll rfl) (rv_move rfl (fr_eval rfl rfl)) ?_
      refine lf_call (wantF (d := 43) rfl (by kernel_rfl) rfl rfl) (rv_call (args := []) rfl evn Try.call50) (awake28_calls _) ?_
      rintro _ w16 ⟨rfl, hx⟩
      refine ⟨_, rfl, ?_⟩
      replace hH := hH.ext hx
      clear hx
      refine lf_val (v := .bool true) (wantAll rfl) (rv_pickT rfl (fr_eval rfl rfl) (fr_eval rfl rfl)) ?_
      refine lf_val (v := .bool true) (wantAll rfl) (rv_assign rfl (fr_eval rfl rfl)) ?_
      refine lf_nil ?_
      refine then_n ?_
      refine wp_gen (fun F' => F' 0 = v ∧ F' 2 = .bool true ∧ F' 3 = .pointer (some ⟨g2, 0, none⟩) ∧ F' 4 = .int .i64 me_t12 ∧ F' 7 = .bool false ∧ F' 16 = .bool true) ⟨e0, rfl, e3, e4, e7, (e16.trans (congrArg Value.bool (decide_eq_true hc3)))⟩ ?_
      clear e0 e2 e3 e4 e7 e16
      clear F
      rintro F ⟨e0, e2, e3, e4, e7, e16⟩
      refine wp_ret ?_
      refine then_ret ?_
      exact bodyPost_ret (v := (.bool true)) (res1 rfl (ro_tmp rfl e2)) rfl (⟨rfl, hH.done⟩)

end Go.Proofs.Ytjgcjddaladgfaa
