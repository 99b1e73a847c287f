/- Messages: the walks of what writes them. -/
import Derived.Test.YtjgcjddaladgfaaTalk
import Derived.Test.YtjgcjddaladgfaaHeap3
import Derived.Test.YtjgcjddaladgfaaSym
namespace Go.Proofs.Ytjgcjddaladgfaa
open Go.RowKit Go.Bz Go.Bz.Wire Go.Bz.Rcpt Go.Bz.Talk
attribute [local irreducible] wpList Code.wp wpAnyX
theorem in2 {a b : Int} (h1 : inI a) (h2 : inI b) : ∀ i, i < List.length [a, b] → -9223372036854775808 ≤ List.getD [a, b] i 0 ∧ List.getD [a, b] i 0 ≤ 9223372036854775807 := fun i hi => by
  match i, hi with
  | 0, _ => exact h1
  | 1, _ => exact h2
def inMs (u : Ms) : Prop := inI u.k ∧ inI u.a ∧ inI u.b ∧ inI u.c0 ∧ inI u.c1 ∧ inI u.c2 ∧ inI u.g ∧ inI u.n ∧ inI u.jc ∧ inI u.js ∧ inRc u.r

theorem zT_g0 {a0 : Value} {a1 : Value} {a2 : Value} {a3 : Value} {a4 : Value} {a5 : Value} {a6 : List UInt8} (_ : a6.length = 32) {a7 : List UInt8} (_ : a7.length = 32) {a8 : Value} {a9 : List UInt8} (_ : a9.length = 32) {a10 : Value} {a11 : List UInt8} (_ : a11.length = 32) {a12 : Value} {a13 : Value} {a14 : List UInt8} (_ : a14.length = 32) {a15 : Value} {a16 : Value} {a17 : Value} {a18 : Value} {a19 : List UInt8} (_ : a19.length = 32) {a20 : List UInt8} (_ : a20.length = 32) {a21 : Value} : (([a0, a1, a2, a3, a4, a5] : List Value) ++ (cBs a6 ++ (cBs a7 ++ (([a8] : List Value) ++ (cBs a9 ++ (([a10] : List Value) ++ (cBs a11 ++ (([a12, a13] : List Value) ++ (cBs a14 ++ (([a15, a16, a17, a18] : List Value) ++ (cBs a19 ++ (cBs a20 ++ ([a21] : List Value)))))))))))))[0]? = some a0 := (show (([a0, a1, a2, a3, a4, a5] : List Value) ++ (cBs a6 ++ (cBs a7 ++ (([a8] : List Value) ++ (cBs a9 ++ (([a10] : List Value) ++ (cBs a11 ++ (([a12, a13] : List Value) ++ (cBs a14 ++ (([a15, a16, a17, a18] : List Value) ++ (cBs a19 ++ (cBs a20 ++ ([a21] : List Value)))))))))))))[0]? = some (a0) from (get_l (C := cBs a6 ++ (cBs a7 ++ (([a8] : List Value) ++ (cBs a9 ++ (([a10] : List Value) ++ (cBs a11 ++ (([a12, a13] : List Value) ++ (cBs a14 ++ (([a15, a16, a17, a18] : List Value) ++ (cBs a19 ++ (cBs a20 ++ ([a21] : List Value)))))))))))) (show ([a0, a1, a2, a3, a4, a5] : List Value)[0]? = some (a0) from rfl)))
theorem zT_g1 {a0 : Value} {a1 : Value} {a2 : Value} {a3 : Value} {a4 : Value} {a5 : Value} {a6 : List UInt8} (_ : a6.length = 32) {a7 : List UInt8} (_ : a7.length = 32) {a8 : Value} {a9 : List UInt8} (_ : a9.length = 32) {a10 : Value} {a11 : List UInt8} (_ : a11.length = 32) {a12 : Value} {a13 : Value} {a14 : List UInt8} (_ : a14.length = 32) {a15 : Value} {a16 : Value} {a17 : Value} {a18 : Value} {a19 : List UInt8} (_ : a19.length = 32) {a20 : List UInt8} (_ : a20.length = 32) {a21 : Value} : (([a0, a1, a2, a3, a4, a5] : List Value) ++ (cBs a6 ++ (cBs a7 ++ (([a8] : List Value) ++ (cBs a9 ++ (([a10] : List Value) ++ (cBs a11 ++ (([a12, a13] : List Value) ++ (cBs a14 ++ (([a15, a16, a17, a18] : List Value) ++ (cBs a19 ++ (cBs a20 ++ ([a21] : List Value)))))))))))))[1]? = some a1 := (show (([a0, a1, a2, a3, a4, a5] : List Value) ++ (cBs a6 ++ (cBs a7 ++ (([a8] : List Value) ++ (cBs a9 ++ (([a10] : List Value) ++ (cBs a11 ++ (([a12, a13] : List Value) ++ (cBs a14 ++ (([a15, a16, a17, a18] : List Value) ++ (cBs a19 ++ (cBs a20 ++ ([a21] : List Value)))))))))))))[1]? = some (a1) from (get_l (C := cBs a6 ++ (cBs a7 ++ (([a8] : List Value) ++ (cBs a9 ++ (([a10] : List Value) ++ (cBs a11 ++ (([a12, a13] : List Value) ++ (cBs a14 ++ (([a15, a16, a17, a18] : List Value) ++ (cBs a19 ++ (cBs a20 ++ ([a21] : List Value)))))))))))) (show ([a0, a1, a2, a3, a4, a5] : List Value)[1]? = some (a1) from rfl)))
theorem zT_g2 {a0 : Value} {a1 : Value} {a2 : Value} {a3 : Value} {a4 : Value} {a5 : Value} {a6 : List UInt8} (_ : a6.length = 32) {a7 : List UInt8} (_ : a7.length = 32) {a8 : Value} {a9 : List UInt8} (_ : a9.length = 32) {a10 : Value} {a11 : List UInt8} (_ : a11.length = 32) {a12 : Value} {a13 : Value} {a14 : List UInt8} (_ : a14.length = 32) {a15 : Value} {a16 : Value} {a17 : Value} {a18 : Value} {a19 : List UInt8} (_ : a19.length = 32) {a20 : List UInt8} (_ : a20.length = 32) {a21 : Value} : (([a0, a1, a2, a3, a4, a5] : List Value) ++ (cBs a6 ++ (cBs a7 ++ (([a8] : List Value) ++ (cBs a9 ++ (([a10] : List Value) ++ (cBs a11 ++ (([a12, a13] : List Value) ++ (cBs a14 ++ (([a15, a16, a17, a18] : List Value) ++ (cBs a19 ++ (cBs a20 ++ ([a21] : List Value)))))))))))))[2]? = some a2 := (show (([a0, a1, a2, a3, a4, a5] : List Value) ++ (cBs a6 ++ (cBs a7 ++ (([a8] : List Value) ++ (cBs a9 ++ (([a10] : List Value) ++ (cBs a11 ++ (([a12, a13] : List Value) ++ (cBs a14 ++ (([a15, a16, a17, a18] : List Value) ++ (cBs a19 ++ (cBs a20 ++ ([a21] : List Value)))))))))))))[2]? = some (a2) from (get_l (C := cBs a6 ++ (cBs a7 ++ (([a8] : List Value) ++ (cBs a9 ++ (([a10] : List Value) ++ (cBs a11 ++ (([a12, a13] : List Value) ++ (cBs a14 ++ (([a15, a16, a17, a18] : List Value) ++ (cBs a19 ++ (cBs a20 ++ ([a21] : List Value)))))))))))) (show ([a0, a1, a2, a3, a4, a5] : List Value)[2]? = some (a2) from rfl)))
theorem zT_g3 {a0 : Value} {a1 : Value} {a2 : List UInt8} (_ : a2.length = 32) {a3 : Value} : (([a0, a1] : List Value) ++ (cBs a2 ++ ([a3] : List Value)))[0]? = some a0 := (show (([a0, a1] : List Value) ++ (cBs a2 ++ ([a3] : List Value)))[0]? = some (a0) from (get_l (C := cBs a2 ++ ([a3] : List Value)) (show ([a0, a1] : List Value)[0]? = some (a0) from rfl)))
theorem zT_g4 {a0 : Value} {a1 : Value} {a2 : List UInt8} (_ : a2.length = 32) {a3 : Value} : (([a0, a1] : List Value) ++ (cBs a2 ++ ([a3] : List Value)))[1]? = some a1 := (show (([a0, a1] : List Value) ++ (cBs a2 ++ ([a3] : List Value)))[1]? = some (a1) from (get_l (C := cBs a2 ++ ([a3] : List Value)) (show ([a0, a1] : List Value)[1]? = some (a1) from rfl)))
theorem zT_p5 {a0 : Value} {a1 : Value} {a2 : List UInt8} (ha2 : a2.length = 32) {a3 : Value} : List.take 32 (List.drop 2 (([a0, a1] : List Value) ++ (cBs a2 ++ ([a3] : List Value)))) = cBs a2 := (show List.take 32 (List.drop 2 ([a0, a1] ++ ((cBs a2) ++ ([a3])))) = cBs a2 from part_app (show List.length [a0, a1] = 2 from rfl) (cBs_len ha2))
theorem zT_g6 {a0 : Value} {a1 : Value} {a2 : List UInt8} (ha2 : a2.length = 32) {a3 : Value} : (([a0, a1] : List Value) ++ (cBs a2 ++ ([a3] : List Value)))[34]? = some a3 := (get_of (cs := ([a0, a1] : List Value) ++ (cBs a2 ++ ([a3] : List Value))) (A := (([a0, a1] : List Value) ++ cBs a2 : List Value)) (D := ([a3] : List Value)) (C := ([] : List Value)) (o := 34) (j := 0) (by simp) (len_app (m := 2) (n := 32) (k := 34) rfl (cBs_len ha2) rfl) rfl (show ([a3] : List Value)[0]? = some (a3) from rfl))
theorem zT_g7 {a0 : Value} {a1 : Value} {a2 : Value} {a3 : Value} {a4 : Value} {a5 : Value} {a6 : List UInt8} (_ : a6.length = 32) {a7 : List UInt8} (_ : a7.length = 32) {a8 : Value} {a9 : List UInt8} (_ : a9.length = 32) {a10 : Value} {a11 : List UInt8} (_ : a11.length = 32) {a12 : Value} {a13 : Value} {a14 : List UInt8} (_ : a14.length = 32) {a15 : Value} {a16 : Value} {a17 : Value} {a18 : Value} {a19 : List UInt8} (_ : a19.length = 32) {a20 : List UInt8} (_ : a20.length = 32) {a21 : Value} : (([a0, a1, a2, a3, a4, a5] : List Value) ++ (cBs a6 ++ (cBs a7 ++ (([a8] : List Value) ++ (cBs a9 ++ (([a10] : List Value) ++ (cBs a11 ++ (([a12, a13] : List Value) ++ (cBs a14 ++ (([a15, a16, a17, a18] : List Value) ++ (cBs a19 ++ (cBs a20 ++ ([a21] : List Value)))))))))))))[3]? = some a3 := (show (([a0, a1, a2, a3, a4, a5] : List Value) ++ (cBs a6 ++ (cBs a7 ++ (([a8] : List Value) ++ (cBs a9 ++ (([a10] : List Value) ++ (cBs a11 ++ (([a12, a13] : List Value) ++ (cBs a14 ++ (([a15, a16, a17, a18] : List Value) ++ (cBs a19 ++ (cBs a20 ++ ([a21] : List Value)))))))))))))[3]? = some (a3) from (get_l (C := cBs a6 ++ (cBs a7 ++ (([a8] : List Value) ++ (cBs a9 ++ (([a10] : List Value) ++ (cBs a11 ++ (([a12, a13] : List Value) ++ (cBs a14 ++ (([a15, a16, a17, a18] : List Value) ++ (cBs a19 ++ (cBs a20 ++ ([a21] : List Value)))))))))))) (show ([a0, a1, a2, a3, a4, a5] : List Value)[3]? = some (a3) from rfl)))
theorem zT_g8 {a0 : Value} {a1 : Value} {a2 : Value} {a3 : Value} {a4 : Value} {a5 : Value} {a6 : List UInt8} (_ : a6.length = 32) {a7 : List UInt8} (_ : a7.length = 32) {a8 : Value} {a9 : List UInt8} (_ : a9.length = 32) {a10 : Value} {a11 : List UInt8} (_ : a11.length = 32) {a12 : Value} {a13 : Value} {a14 : List UInt8} (_ : a14.length = 32) {a15 : Value} {a16 : Value} {a17 : Value} {a18 : Value} {a19 : List UInt8} (_ : a19.length = 32) {a20 : List UInt8} (_ : a20.length = 32) {a21 : Value} : (([a0, a1, a2, a3, a4, a5] : List Value) ++ (cBs a6 ++ (cBs a7 ++ (([a8] : List Value) ++ (cBs a9 ++ (([a10] : List Value) ++ (cBs a11 ++ (([a12, a13] : List Value) ++ (cBs a14 ++ (([a15, a16, a17, a18] : List Value) ++ (cBs a19 ++ (cBs a20 ++ ([a21] : List Value)))))))))))))[4]? = some a4 := (show (([a0, a1, a2, a3, a4, a5] : List Value) ++ (cBs a6 ++ (cBs a7 ++ (([a8] : List Value) ++ (cBs a9 ++ (([a10] : List Value) ++ (cBs a11 ++ (([a12, a13] : List Value) ++ (cBs a14 ++ (([a15, a16, a17, a18] : List Value) ++ (cBs a19 ++ (cBs a20 ++ ([a21] : List Value)))))))))))))[4]? = some (a4) from (get_l (C := cBs a6 ++ (cBs a7 ++ (([a8] : List Value) ++ (cBs a9 ++ (([a10] : List Value) ++ (cBs a11 ++ (([a12, a13] : List Value) ++ (cBs a14 ++ (([a15, a16, a17, a18] : List Value) ++ (cBs a19 ++ (cBs a20 ++ ([a21] : List Value)))))))))))) (show ([a0, a1, a2, a3, a4, a5] : List Value)[4]? = some (a4) from rfl)))
theorem zT_g9 {a0 : Value} {a1 : Value} {a2 : Value} {a3 : Value} {a4 : Value} {a5 : Value} {a6 : List UInt8} (_ : a6.length = 32) {a7 : List UInt8} (_ : a7.length = 32) {a8 : Value} {a9 : List UInt8} (_ : a9.length = 32) {a10 : Value} {a11 : List UInt8} (_ : a11.length = 32) {a12 : Value} {a13 : Value} {a14 : List UInt8} (_ : a14.length = 32) {a15 : Value} {a16 : Value} {a17 : Value} {a18 : Value} {a19 : List UInt8} (_ : a19.length = 32) {a20 : List UInt8} (_ : a20.length = 32) {a21 : Value} : (([a0, a1, a2, a3, a4, a5] : List Value) ++ (cBs a6 ++ (cBs a7 ++ (([a8] : List Value) ++ (cBs a9 ++ (([a10] : List Value) ++ (cBs a11 ++ (([a12, a13] : List Value) ++ (cBs a14 ++ (([a15, a16, a17, a18] : List Value) ++ (cBs a19 ++ (cBs a20 ++ ([a21] : List Value)))))))))))))[5]? = some a5 := (show (([a0, a1, a2, a3, a4, a5] : List Value) ++ (cBs a6 ++ (cBs a7 ++ (([a8] : List Value) ++ (cBs a9 ++ (([a10] : List Value) ++ (cBs a11 ++ (([a12, a13] : List Value) ++ (cBs a14 ++ (([a15, a16, a17, a18] : List Value) ++ (cBs a19 ++ (cBs a20 ++ ([a21] : List Value)))))))))))))[5]? = some (a5) from (get_l (C := cBs a6 ++ (cBs a7 ++ (([a8] : List Value) ++ (cBs a9 ++ (([a10] : List Value) ++ (cBs a11 ++ (([a12, a13] : List Value) ++ (cBs a14 ++ (([a15, a16, a17, a18] : List Value) ++ (cBs a19 ++ (cBs a20 ++ ([a21] : List Value)))))))))))) (show ([a0, a1, a2, a3, a4, a5] : List Value)[5]? = some (a5) from rfl)))
theorem zT_p10 {a0 : Value} {a1 : Value} {a2 : Value} {a3 : Value} {a4 : Value} {a5 : Value} {a6 : List UInt8} (ha6 : a6.length = 32) {a7 : List UInt8} (_ : a7.length = 32) {a8 : Value} {a9 : List UInt8} (_ : a9.length = 32) {a10 : Value} {a11 : List UInt8} (_ : a11.length = 32) {a12 : Value} {a13 : Value} {a14 : List UInt8} (_ : a14.length = 32) {a15 : Value} {a16 : Value} {a17 : Value} {a18 : Value} {a19 : List UInt8} (_ : a19.length = 32) {a20 : List UInt8} (_ : a20.length = 32) {a21 : Value} : List.take 32 (List.drop 6 (([a0, a1, a2, a3, a4, a5] : List Value) ++ (cBs a6 ++ (cBs a7 ++ (([a8] : List Value) ++ (cBs a9 ++ (([a10] : List Value) ++ (cBs a11 ++ (([a12, a13] : List Value) ++ (cBs a14 ++ (([a15, a16, a17, a18] : List Value) ++ (cBs a19 ++ (cBs a20 ++ ([a21] : List Value)))))))))))))) = cBs a6 := (show List.take 32 (List.drop 6 ([a0, a1, a2, a3, a4, a5] ++ ((cBs a6) ++ (cBs a7 ++ (([a8] : List Value) ++ (cBs a9 ++ (([a10] : List Value) ++ (cBs a11 ++ (([a12, a13] : List Value) ++ (cBs a14 ++ (([a15, a16, a17, a18] : List Value) ++ (cBs a19 ++ (cBs a20 ++ ([a21] : List Value)))))))))))))) = cBs a6 from part_app (show List.length [a0, a1, a2, a3, a4, a5] = 6 from rfl) (cBs_len ha6))
theorem zT_p11 {a0 : Value} {a1 : Value} {a2 : Value} {a3 : Value} {a4 : Value} {a5 : Value} {a6 : List UInt8} (ha6 : a6.length = 32) {a7 : List UInt8} (ha7 : a7.length = 32) {a8 : Value} {a9 : List UInt8} (_ : a9.length = 32) {a10 : Value} {a11 : List UInt8} (_ : a11.length = 32) {a12 : Value} {a13 : Value} {a14 : List UInt8} (_ : a14.length = 32) {a15 : Value} {a16 : Value} {a17 : Value} {a18 : Value} {a19 : List UInt8} (_ : a19.length = 32) {a20 : List UInt8} (_ : a20.length = 32) {a21 : Value} : List.take 32 (List.drop 38 (([a0, a1, a2, a3, a4, a5] : List Value) ++ (cBs a6 ++ (cBs a7 ++ (([a8] : List Value) ++ (cBs a9 ++ (([a10] : List Value) ++ (cBs a11 ++ (([a12, a13] : List Value) ++ (cBs a14 ++ (([a15, a16, a17, a18] : List Value) ++ (cBs a19 ++ (cBs a20 ++ ([a21] : List Value)))))))))))))) = cBs a7 := (part_of (cs := ([a0, a1, a2, a3, a4, a5] : List Value) ++ (cBs a6 ++ (cBs a7 ++ (([a8] : List Value) ++ (cBs a9 ++ (([a10] : List Value) ++ (cBs a11 ++ (([a12, a13] : List Value) ++ (cBs a14 ++ (([a15, a16, a17, a18] : List Value) ++ (cBs a19 ++ (cBs a20 ++ ([a21] : List Value))))))))))))) (A := (([a0, a1, a2, a3, a4, a5] : List Value) ++ cBs a6 : List Value)) (D := (cBs a7 : List Value)) (C := (([a8] : List Value) ++ (cBs a9 ++ (([a10] : List Value) ++ (cBs a11 ++ (([a12, a13] : List Value) ++ (cBs a14 ++ (([a15, a16, a17, a18] : List Value) ++ (cBs a19 ++ (cBs a20 ++ ([a21] : List Value))))))))) : List Value)) (by simp) (len_app (m := 6) (n := 32) (k := 38) rfl (cBs_len ha6) rfl) (cBs_len ha7))
theorem zT_g12 {a0 : Value} {a1 : Value} {a2 : Value} {a3 : Value} {a4 : Value} {a5 : Value} {a6 : List UInt8} (ha6 : a6.length = 32) {a7 : List UInt8} (ha7 : a7.length = 32) {a8 : Value} {a9 : List UInt8} (_ : a9.length = 32) {a10 : Value} {a11 : List UInt8} (_ : a11.length = 32) {a12 : Value} {a13 : Value} {a14 : List UInt8} (_ : a14.length = 32) {a15 : Value} {a16 : Value} {a17 : Value} {a18 : Value} {a19 : List UInt8} (_ : a19.length = 32) {a20 : List UInt8} (_ : a20.length = 32) {a21 : Value} : (([a0, a1, a2, a3, a4, a5] : List Value) ++ (cBs a6 ++ (cBs a7 ++ (([a8] : List Value) ++ (cBs a9 ++ (([a10] : List Value) ++ (cBs a11 ++ (([a12, a13] : List Value) ++ (cBs a14 ++ (([a15, a16, a17, a18] : List Value) ++ (cBs a19 ++ (cBs a20 ++ ([a21] : List Value)))))))))))))[70]? = some a8 := (get_of (cs := ([a0, a1, a2, a3, a4, a5] : List Value) ++ (cBs a6 ++ (cBs a7 ++ (([a8] : List Value) ++ (cBs a9 ++ (([a10] : List Value) ++ (cBs a11 ++ (([a12, a13] : List Value) ++ (cBs a14 ++ (([a15, a16, a17, a18] : List Value) ++ (cBs a19 ++ (cBs a20 ++ ([a21] : List Value))))))))))))) (A := (([a0, a1, a2, a3, a4, a5] : List Value) ++ (cBs a6 ++ cBs a7) : List Value)) (D := ([a8] : List Value)) (C := (cBs a9 ++ (([a10] : List Value) ++ (cBs a11 ++ (([a12, a13] : List Value) ++ (cBs a14 ++ (([a15, a16, a17, a18] : List Value) ++ (cBs a19 ++ (cBs a20 ++ ([a21] : List Value)))))))) : List Value)) (o := 70) (j := 0) (by simp) (len_app (m := 6) (n := 64) (k := 70) rfl (len_app (m := 32) (n := 32) (k := 64) (cBs_len ha6) (cBs_len ha7) rfl) rfl) rfl (show ([a8] : List Value)[0]? = some (a8) from rfl))
theorem zT_p13 {a0 : Value} {a1 : Value} {a2 : Value} {a3 : Value} {a4 : Value} {a5 : Value} {a6 : List UInt8} (ha6 : a6.length = 32) {a7 : List UInt8} (ha7 : a7.length = 32) {a8 : Value} {a9 : List UInt8} (ha9 : a9.length = 32) {a10 : Value} {a11 : List UInt8} (_ : a11.length = 32) {a12 : Value} {a13 : Value} {a14 : List UInt8} (_ : a14.length = 32) {a15 : Value} {a16 : Value} {a17 : Value} {a18 : Value} {a19 : List UInt8} (_ : a19.length = 32) {a20 : List UInt8} (_ : a20.length = 32) {a21 : Value} : List.take 32 (List.drop 71 (([a0, a1, a2, a3, a4, a5] : List Value) ++ (cBs a6 ++ (cBs a7 ++ (([a8] : List Value) ++ (cBs a9 ++ (([a10] : List Value) ++ (cBs a11 ++ (([a12, a13] : List Value) ++ (cBs a14 ++ (([a15, a16, a17, a18] : List Value) ++ (cBs a19 ++ (cBs a20 ++ ([a21] : List Value)))))))))))))) = cBs a9 := (part_of (cs := ([a0, a1, a2, a3, a4, a5] : List Value) ++ (cBs a6 ++ (cBs a7 ++ (([a8] : List Value) ++ (cBs a9 ++ (([a10] : List Value) ++ (cBs a11 ++ (([a12, a13] : List Value) ++ (cBs a14 ++ (([a15, a16, a17, a18] : List Value) ++ (cBs a19 ++ (cBs a20 ++ ([a21] : List Value))))))))))))) (A := (([a0, a1, a2, a3, a4, a5] : List Value) ++ (cBs a6 ++ (cBs a7 ++ ([a8] : List Value))) : List Value)) (D := (cBs a9 : List Value)) (C := (([a10] : List Value) ++ (cBs a11 ++ (([a12, a13] : List Value) ++ (cBs a14 ++ (([a15, a16, a17, a18] : List Value) ++ (cBs a19 ++ (cBs a20 ++ ([a21] : List Value))))))) : List Value)) (by simp) (len_app (m := 6) (n := 65) (k := 71) rfl (len_app (m := 32) (n := 33) (k := 65) (cBs_len ha6) (len_app (m := 32) (n := 1) (k := 33) (cBs_len ha7) rfl rfl) rfl) rfl) (cBs_len ha9))
theorem zT_g14 {a0 : Value} {a1 : Value} {a2 : Value} {a3 : Value} {a4 : Value} {a5 : Value} {a6 : List UInt8} (ha6 : a6.length = 32) {a7 : List UInt8} (ha7 : a7.length = 32) {a8 : Value} {a9 : List UInt8} (ha9 : a9.length = 32) {a10 : Value} {a11 : List UInt8} (_ : a11.length = 32) {a12 : Value} {a13 : Value} {a14 : List UInt8} (_ : a14.length = 32) {a15 : Value} {a16 : Value} {a17 : Value} {a18 : Value} {a19 : List UInt8} (_ : a19.length = 32) {a20 : List UInt8} (_ : a20.length = 32) {a21 : Value} : (([a0, a1, a2, a3, a4, a5] : List Value) ++ (cBs a6 ++ (cBs a7 ++ (([a8] : List Value) ++ (cBs a9 ++ (([a10] : List Value) ++ (cBs a11 ++ (([a12, a13] : List Value) ++ (cBs a14 ++ (([a15, a16, a17, a18] : List Value) ++ (cBs a19 ++ (cBs a20 ++ ([a21] : List Value)))))))))))))[103]? = some a10 := (get_of (cs := ([a0, a1, a2, a3, a4, a5] : List Value) ++ (cBs a6 ++ (cBs a7 ++ (([a8] : List Value) ++ (cBs a9 ++ (([a10] : List Value) ++ (cBs a11 ++ (([a12, a13] : List Value) ++ (cBs a14 ++ (([a15, a16, a17, a18] : List Value) ++ (cBs a19 ++ (cBs a20 ++ ([a21] : List Value))))))))))))) (A := (([a0, a1, a2, a3, a4, a5] : List Value) ++ (cBs a6 ++ (cBs a7 ++ (([a8] : List Value) ++ cBs a9))) : List Value)) (D := ([a10] : List Value)) (C := (cBs a11 ++ (([a12, a13] : List Value) ++ (cBs a14 ++ (([a15, a16, a17, a18] : List Value) ++ (cBs a19 ++ (cBs a20 ++ ([a21] : List Value)))))) : List Value)) (o := 103) (j := 0) (by simp) (len_app (m := 6) (n := 97) (k := 103) rfl (len_app (m := 32) (n := 65) (k := 97) (cBs_len ha6) (len_app (m := 32) (n := 33) (k := 65) (cBs_len ha7) (len_app (m := 1) (n := 32) (k := 33) rfl (cBs_len ha9) rfl) rfl) rfl) rfl) rfl (show ([a10] : List Value)[0]? = some (a10) from rfl))
theorem zT_p15 {a0 : Value} {a1 : Value} {a2 : Value} {a3 : Value} {a4 : Value} {a5 : Value} {a6 : List UInt8} (ha6 : a6.length = 32) {a7 : List UInt8} (ha7 : a7.length = 32) {a8 : Value} {a9 : List UInt8} (ha9 : a9.length = 32) {a10 : Value} {a11 : List UInt8} (ha11 : a11.length = 32) {a12 : Value} {a13 : Value} {a14 : List UInt8} (_ : a14.length = 32) {a15 : Value} {a16 : Value} {a17 : Value} {a18 : Value} {a19 : List UInt8} (_ : a19.length = 32) {a20 : List UInt8} (_ : a20.length = 32) {a21 : Value} : List.take 32 (List.drop 104 (([a0, a1, a2, a3, a4, a5] : List Value) ++ (cBs a6 ++ (cBs a7 ++ (([a8] : List Value) ++ (cBs a9 ++ (([a10] : List Value) ++ (cBs a11 ++ (([a12, a13] : List Value) ++ (cBs a14 ++ (([a15, a16, a17, a18] : List Value) ++ (cBs a19 ++ (cBs a20 ++ ([a21] : List Value)))))))))))))) = cBs a11 := (part_of (cs := ([a0, a1, a2, a3, a4, a5] : List Value) ++ (cBs a6 ++ (cBs a7 ++ (([a8] : List Value) ++ (cBs a9 ++ (([a10] : List Value) ++ (cBs a11 ++ (([a12, a13] : List Value) ++ (cBs a14 ++ (([a15, a16, a17, a18] : List Value) ++ (cBs a19 ++ (cBs a20 ++ ([a21] : List Value))))))))))))) (A := (([a0, a1, a2, a3, a4, a5] : List Value) ++ (cBs a6 ++ (cBs a7 ++ (([a8] : List Value) ++ (cBs a9 ++ ([a10] : List Value))))) : List Value)) (D := (cBs a11 : List Value)) (C := (([a12, a13] : List Value) ++ (cBs a14 ++ (([a15, a16, a17, a18] : List Value) ++ (cBs a19 ++ (cBs a20 ++ ([a21] : List Value))))) : List Value)) (by simp) (len_app (m := 6) (n := 98) (k := 104) rfl (len_app (m := 32) (n := 66) (k := 98) (cBs_len ha6) (len_app (m := 32) (n := 34) (k := 66) (cBs_len ha7) (len_app (m := 1) (n := 33) (k := 34) rfl (len_app (m := 32) (n := 1) (k := 33) (cBs_len ha9) rfl rfl) rfl) rfl) rfl) rfl) (cBs_len ha11))
theorem zT_l16 {a0 : Value} {a1 : Value} {a2 : List UInt8} (ha2 : a2.length = 32) {a3 : Value} : List.length (([a0, a1] : List Value) ++ (cBs a2 ++ ([a3] : List Value))) = 35 := (len_app (m := 2) (n := 33) (k := 35) rfl (len_app (m := 32) (n := 1) (k := 33) (cBs_len ha2) rfl rfl) rfl)
theorem zT_p17 {a0 : Value} {a1 : Value} {a2 : Value} {a3 : Value} {a4 : Value} {a5 : Value} {a6 : List UInt8} (ha6 : a6.length = 32) {a7 : List UInt8} (ha7 : a7.length = 32) {a8 : Value} {a9 : List UInt8} (ha9 : a9.length = 32) {a10 : Value} {a11 : List UInt8} (ha11 : a11.length = 32) {a12 : Value} {a13 : Value} {a14 : List UInt8} (ha14 : a14.length = 32) {a15 : Value} {a16 : Value} {a17 : Value} {a18 : Value} {a19 : List UInt8} (_ : a19.length = 32) {a20 : List UInt8} (_ : a20.length = 32) {a21 : Value} : List.take 35 (List.drop 136 (([a0, a1, a2, a3, a4, a5] : List Value) ++ (cBs a6 ++ (cBs a7 ++ (([a8] : List Value) ++ (cBs a9 ++ (([a10] : List Value) ++ (cBs a11 ++ (([a12, a13] : List Value) ++ (cBs a14 ++ (([a15, a16, a17, a18] : List Value) ++ (cBs a19 ++ (cBs a20 ++ ([a21] : List Value)))))))))))))) = ([a12, a13] : List Value) ++ (cBs a14 ++ ([a15] : List Value)) := (part_of (cs := ([a0, a1, a2, a3, a4, a5] : List Value) ++ (cBs a6 ++ (cBs a7 ++ (([a8] : List Value) ++ (cBs a9 ++ (([a10] : List Value) ++ (cBs a11 ++ (([a12, a13] : List Value) ++ (cBs a14 ++ (([a15, a16, a17, a18] : List Value) ++ (cBs a19 ++ (cBs a20 ++ ([a21] : List Value))))))))))))) (A := (([a0, a1, a2, a3, a4, a5] : List Value) ++ (cBs a6 ++ (cBs a7 ++ (([a8] : List Value) ++ (cBs a9 ++ (([a10] : List Value) ++ cBs a11))))) : List Value)) (D := (([a12, a13] : List Value) ++ (cBs a14 ++ ([a15] : List Value)) : List Value)) (C := (([a16, a17, a18] : List Value) ++ (cBs a19 ++ (cBs a20 ++ ([a21] : List Value))) : List Value)) (by simp) (len_app (m := 6) (n := 130) (k := 136) rfl (len_app (m := 32) (n := 98) (k := 130) (cBs_len ha6) (len_app (m := 32) (n := 66) (k := 98) (cBs_len ha7) (len_app (m := 1) (n := 65) (k := 66) rfl (len_app (m := 32) (n := 33) (k := 65) (cBs_len ha9) (len_app (m := 1) (n := 32) (k := 33) rfl (cBs_len ha11) rfl) rfl) rfl) rfl) rfl) rfl) (len_app (m := 2) (n := 33) (k := 35) rfl (len_app (m := 32) (n := 1) (k := 33) (cBs_len ha14) rfl rfl) rfl))
theorem zT_l18 {a0 : Value} {a1 : Value} {a2 : Value} {a3 : List UInt8} (ha3 : a3.length = 32) {a4 : List UInt8} (ha4 : a4.length = 32) {a5 : Value} : List.length (([a0, a1, a2] : List Value) ++ (cBs a3 ++ (cBs a4 ++ ([a5] : List Value)))) = 68 := (len_app (m := 3) (n := 65) (k := 68) rfl (len_app (m := 32) (n := 33) (k := 65) (cBs_len ha3) (len_app (m := 32) (n := 1) (k := 33) (cBs_len ha4) rfl rfl) rfl) rfl)
theorem zT_p19 {a0 : Value} {a1 : Value} {a2 : Value} {a3 : Value} {a4 : Value} {a5 : Value} {a6 : List UInt8} (ha6 : a6.length = 32) {a7 : List UInt8} (ha7 : a7.length = 32) {a8 : Value} {a9 : List UInt8} (ha9 : a9.length = 32) {a10 : Value} {a11 : List UInt8} (ha11 : a11.length = 32) {a12 : Value} {a13 : Value} {a14 : List UInt8} (ha14 : a14.length = 32) {a15 : Value} {a16 : Value} {a17 : Value} {a18 : Value} {a19 : List UInt8} (ha19 : a19.length = 32) {a20 : List UInt8} (ha20 : a20.length = 32) {a21 : Value} : List.take 68 (List.drop 171 (([a0, a1, a2, a3, a4, a5] : List Value) ++ (cBs a6 ++ (cBs a7 ++ (([a8] : List Value) ++ (cBs a9 ++ (([a10] : List Value) ++ (cBs a11 ++ (([a12, a13] : List Value) ++ (cBs a14 ++ (([a15, a16, a17, a18] : List Value) ++ (cBs a19 ++ (cBs a20 ++ ([a21] : List Value)))))))))))))) = ([a16, a17, a18] : List Value) ++ (cBs a19 ++ (cBs a20 ++ ([a21] : List Value))) := (part_of (cs := ([a0, a1, a2, a3, a4, a5] : List Value) ++ (cBs a6 ++ (cBs a7 ++ (([a8] : List Value) ++ (cBs a9 ++ (([a10] : List Value) ++ (cBs a11 ++ (([a12, a13] : List Value) ++ (cBs a14 ++ (([a15, a16, a17, a18] : List Value) ++ (cBs a19 ++ (cBs a20 ++ ([a21] : List Value))))))))))))) (A := (([a0, a1, a2, a3, a4, a5] : List Value) ++ (cBs a6 ++ (cBs a7 ++ (([a8] : List Value) ++ (cBs a9 ++ (([a10] : List Value) ++ (cBs a11 ++ (([a12, a13] : List Value) ++ (cBs a14 ++ ([a15] : List Value))))))))) : List Value)) (D := (([a16, a17, a18] : List Value) ++ (cBs a19 ++ (cBs a20 ++ ([a21] : List Value))) : List Value)) (C := ([] : List Value)) (by simp) (len_app (m := 6) (n := 165) (k := 171) rfl (len_app (m := 32) (n := 133) (k := 165) (cBs_len ha6) (len_app (m := 32) (n := 101) (k := 133) (cBs_len ha7) (len_app (m := 1) (n := 100) (k := 101) rfl (len_app (m := 32) (n := 68) (k := 100) (cBs_len ha9) (len_app (m := 1) (n := 67) (k := 68) rfl (len_app (m := 32) (n := 35) (k := 67) (cBs_len ha11) (len_app (m := 2) (n := 33) (k := 35) rfl (len_app (m := 32) (n := 1) (k := 33) (cBs_len ha14) rfl rfl) rfl) rfl) rfl) rfl) rfl) rfl) rfl) rfl) (len_app (m := 3) (n := 65) (k := 68) rfl (len_app (m := 32) (n := 33) (k := 65) (cBs_len ha19) (len_app (m := 32) (n := 1) (k := 33) (cBs_len ha20) rfl rfl) rfl) rfl))
theorem zT_l20 {a0 : Value} {a1 : Value} {a2 : Value} {a3 : Value} {a4 : Value} {a5 : Value} {a6 : List UInt8} (ha6 : a6.length = 32) {a7 : List UInt8} (ha7 : a7.length = 32) {a8 : Value} {a9 : List UInt8} (ha9 : a9.length = 32) {a10 : Value} {a11 : List UInt8} (ha11 : a11.length = 32) {a12 : Value} {a13 : Value} {a14 : List UInt8} (ha14 : a14.length = 32) {a15 : Value} {a16 : Value} {a17 : Value} {a18 : Value} {a19 : List UInt8} (ha19 : a19.length = 32) {a20 : List UInt8} (ha20 : a20.length = 32) {a21 : Value} : List.length (([a0, a1, a2, a3, a4, a5] : List Value) ++ (cBs a6 ++ (cBs a7 ++ (([a8] : List Value) ++ (cBs a9 ++ (([a10] : List Value) ++ (cBs a11 ++ (([a12, a13] : List Value) ++ (cBs a14 ++ (([a15, a16, a17, a18] : List Value) ++ (cBs a19 ++ (cBs a20 ++ ([a21] : List Value))))))))))))) = 239 := (len_app (m := 6) (n := 233) (k := 239) rfl (len_app (m := 32) (n := 201) (k := 233) (cBs_len ha6) (len_app (m := 32) (n := 169) (k := 201) (cBs_len ha7) (len_app (m := 1) (n := 168) (k := 169) rfl (len_app (m := 32) (n := 136) (k := 168) (cBs_len ha9) (len_app (m := 1) (n := 135) (k := 136) rfl (len_app (m := 32) (n := 103) (k := 135) (cBs_len ha11) (len_app (m := 2) (n := 101) (k := 103) rfl (len_app (m := 32) (n := 69) (k := 101) (cBs_len ha14) (len_app (m := 4) (n := 65) (k := 69) rfl (len_app (m := 32) (n := 33) (k := 65) (cBs_len ha19) (len_app (m := 32) (n := 1) (k := 33) (cBs_len ha20) rfl rfl) rfl) rfl) rfl) rfl) rfl) rfl) rfl) rfl) rfl) rfl) rfl)
theorem zT_l21 {a0 : Value} {a1 : Value} {a2 : Value} {a3 : List UInt8} (ha3 : a3.length = 32) {a4 : List UInt8} (ha4 : a4.length = 32) : List.length (([a0, a1, a2] : List Value) ++ (cBs a3 ++ cBs a4)) = 67 := (len_app (m := 3) (n := 64) (k := 67) rfl (len_app (m := 32) (n := 32) (k := 64) (cBs_len ha3) (cBs_len ha4) rfl) rfl)
theorem zT_p22 {a0 : Value} {a1 : Value} {a2 : Value} {a3 : Value} {a4 : Value} {a5 : Value} {a6 : List UInt8} (ha6 : a6.length = 32) {a7 : List UInt8} (ha7 : a7.length = 32) {a8 : Value} {a9 : List UInt8} (_ : a9.length = 32) {a10 : Value} {a11 : List UInt8} (_ : a11.length = 32) {a12 : Value} {a13 : Value} {a14 : List UInt8} (_ : a14.length = 32) {a15 : Value} {a16 : Value} {a17 : Value} {a18 : Value} {a19 : List UInt8} (_ : a19.length = 32) {a20 : List UInt8} (_ : a20.length = 32) {a21 : Value} : List.take 67 (List.drop 3 (([a0, a1, a2, a3, a4, a5] : List Value) ++ (cBs a6 ++ (cBs a7 ++ (([a8] : List Value) ++ (cBs a9 ++ (([a10] : List Value) ++ (cBs a11 ++ (([a12, a13] : List Value) ++ (cBs a14 ++ (([a15, a16, a17, a18] : List Value) ++ (cBs a19 ++ (cBs a20 ++ ([a21] : List Value)))))))))))))) = ([a3, a4, a5] : List Value) ++ (cBs a6 ++ cBs a7) := (part_of (cs := ([a0, a1, a2, a3, a4, a5] : List Value) ++ (cBs a6 ++ (cBs a7 ++ (([a8] : List Value) ++ (cBs a9 ++ (([a10] : List Value) ++ (cBs a11 ++ (([a12, a13] : List Value) ++ (cBs a14 ++ (([a15, a16, a17, a18] : List Value) ++ (cBs a19 ++ (cBs a20 ++ ([a21] : List Value))))))))))))) (A := ([a0, a1, a2] : List Value)) (D := (([a3, a4, a5] : List Value) ++ (cBs a6 ++ cBs a7) : List Value)) (C := (([a8] : List Value) ++ (cBs a9 ++ (([a10] : List Value) ++ (cBs a11 ++ (([a12, a13] : List Value) ++ (cBs a14 ++ (([a15, a16, a17, a18] : List Value) ++ (cBs a19 ++ (cBs a20 ++ ([a21] : List Value))))))))) : List Value)) (by simp) (show List.length [a0, a1, a2] = 3 from rfl) (len_app (m := 3) (n := 64) (k := 67) rfl (len_app (m := 32) (n := 32) (k := 64) (cBs_len ha6) (cBs_len ha7) rfl) rfl))
theorem zT_o23 {a0 : Value} {a1 : Value} {a2 : Value} {a3 : List UInt8} {a4 : List UInt8} (qa0 : a0.oneCell' = true) (qa1 : a1.oneCell' = true) (qa2 : a2.oneCell' = true) : ∀ u ∈ (([a0, a1, a2] : List Value) ++ (cBs a3 ++ cBs a4)), u.oneCell' = true := (ones_app (ones_cons qa0 (ones_cons qa1 (ones_cons qa2 ones_nil))) (ones_app (cBs_one _) (cBs_one _)))
theorem zT_g24 {a0 : Value} {a1 : Value} {a2 : Value} {a3 : List UInt8} (_ : a3.length = 32) {a4 : List UInt8} (_ : a4.length = 32) : (([a0, a1, a2] : List Value) ++ (cBs a3 ++ cBs a4))[0]? = some a0 := (show (([a0, a1, a2] : List Value) ++ (cBs a3 ++ cBs a4))[0]? = some (a0) from (get_l (C := cBs a3 ++ cBs a4) (show ([a0, a1, a2] : List Value)[0]? = some (a0) from rfl)))
theorem zT_g25 {a0 : Value} {a1 : Value} {a2 : Value} {a3 : List UInt8} (_ : a3.length = 32) {a4 : List UInt8} (_ : a4.length = 32) : (([a0, a1, a2] : List Value) ++ (cBs a3 ++ cBs a4))[1]? = some a1 := (show (([a0, a1, a2] : List Value) ++ (cBs a3 ++ cBs a4))[1]? = some (a1) from (get_l (C := cBs a3 ++ cBs a4) (show ([a0, a1, a2] : List Value)[1]? = some (a1) from rfl)))
theorem zT_g26 {a0 : Value} {a1 : Value} {a2 : Value} {a3 : List UInt8} (_ : a3.length = 32) {a4 : List UInt8} (_ : a4.length = 32) : (([a0, a1, a2] : List Value) ++ (cBs a3 ++ cBs a4))[2]? = some a2 := (show (([a0, a1, a2] : List Value) ++ (cBs a3 ++ cBs a4))[2]? = some (a2) from (get_l (C := cBs a3 ++ cBs a4) (show ([a0, a1, a2] : List Value)[2]? = some (a2) from rfl)))
theorem zT_p27 {a0 : Value} {a1 : Value} {a2 : Value} {a3 : List UInt8} (ha3 : a3.length = 32) {a4 : List UInt8} (_ : a4.length = 32) : List.take 32 (List.drop 3 (([a0, a1, a2] : List Value) ++ (cBs a3 ++ cBs a4))) = cBs a3 := (show List.take 32 (List.drop 3 ([a0, a1, a2] ++ ((cBs a3) ++ (cBs a4)))) = cBs a3 from part_app (show List.length [a0, a1, a2] = 3 from rfl) (cBs_len ha3))
theorem zT_p28 {a0 : Value} {a1 : Value} {a2 : Value} {a3 : List UInt8} (ha3 : a3.length = 32) {a4 : List UInt8} (ha4 : a4.length = 32) : List.take 32 (List.drop 35 (([a0, a1, a2] : List Value) ++ (cBs a3 ++ cBs a4))) = cBs a4 := (part_of (cs := ([a0, a1, a2] : List Value) ++ (cBs a3 ++ cBs a4)) (A := (([a0, a1, a2] : List Value) ++ cBs a3 : List Value)) (D := (cBs a4 : List Value)) (C := ([] : List Value)) (by simp) (len_app (m := 3) (n := 32) (k := 35) rfl (cBs_len ha3) rfl) (cBs_len ha4))
set_option maxRecDepth 100000 in
set_option maxHeartbeats 4000000 in
theorem msRight_calls (u : Ms) (vb vg : Value) (w : World) :
    Calls Try.prog 52 #[.agg (([.int .i64 u.k, .int .i64 u.a, .int .i64 u.b, .int .i64 u.c0, .int .i64 u.c1, .int .i64 u.c2] : List Value) ++ (cBs u.h0.1 ++ (cBs u.h1.1 ++ (([.int .i64 u.g] : List Value) ++ (cBs u.o.1 ++ (([.int .i64 u.n] : List Value) ++ (cBs u.x.1 ++ (([.int .i64 u.jc, .int .i64 u.js] : List Value) ++ (cBs u.jh.1 ++ (([vb, .int .i64 u.r.t, .int .i64 u.r.c, .int .i64 u.r.s] : List Value) ++ (cBs u.r.h.1 ++ (cBs u.r.b.1 ++ ([vg] : List Value))))))))))))).toArray] w fun e'' w' => e'' = .returned (.bool (decide (inM u))) ∧ Ext w w' := by
  refine calls_fr (args := [.agg (([.int .i64 u.k, .int .i64 u.a, .int .i64 u.b, .int .i64 u.c0, .int .i64 u.c1, .int .i64 u.c2] : List Value) ++ (cBs u.h0.1 ++ (cBs u.h1.1 ++ (([.int .i64 u.g] : List Value) ++ (cBs u.o.1 ++ (([.int .i64 u.n] : List Value) ++ (cBs u.x.1 ++ (([.int .i64 u.jc, .int .i64 u.js] : List Value) ++ (cBs u.jh.1 ++ (([vb, .int .i64 u.r.t, .int .i64 u.r.c, .int .i64 u.r.s] : List Value) ++ (cBs u.r.h.1 ++ (cBs u.r.b.1 ++ ([vg] : List Value))))))))))))).toArray]) (n := 38) Try.func52 rfl rfl (show 1 ≤ 38 by decide) ?_
  have hH : Heap (newN w) w w [] := Heap.fresh
  refine wp_seq ?_
  refine wp_gen (fun F' => F' 0 = .agg (([.int .i64 u.k, .int .i64 u.a, .int .i64 u.b, .int .i64 u.c0, .int .i64 u.c1, .int .i64 u.c2] : List Value) ++ (cBs u.h0.1 ++ (cBs u.h1.1 ++ (([.int .i64 u.g] : List Value) ++ (cBs u.o.1 ++ (([.int .i64 u.n] : List Value) ++ (cBs u.x.1 ++ (([.int .i64 u.jc, .int .i64 u.js] : List Value) ++ (cBs u.jh.1 ++ (([vb, .int .i64 u.r.t, .int .i64 u.r.c, .int .i64 u.r.s] : List Value) ++ (cBs u.r.h.1 ++ (cBs u.r.b.1 ++ ([vg] : List Value))))))))))))).toArray) rfl ?_
  rintro F e0
  refine wp_regionF ?_
  refine lf_ex (wantAll rfl) (hx_box hH 81 (cs := ([.int .i64 u.k, .int .i64 u.a, .int .i64 u.b, .int .i64 u.c0, .int .i64 u.c1, .int .i64 u.c2] : List Value) ++ (cBs u.h0.1 ++ (cBs u.h1.1 ++ (([.int .i64 u.g] : List Value) ++ (cBs u.o.1 ++ (([.int .i64 u.n] : List Value) ++ (cBs u.x.1 ++ (([.int .i64 u.jc, .int .i64 u.js] : List Value) ++ (cBs u.jh.1 ++ (([vb, .int .i64 u.r.t, .int .i64 u.r.c, .int .i64 u.r.s] : List Value) ++ (cBs u.r.h.1 ++ (cBs u.r.b.1 ++ ([vg] : List Value))))))))))))) rfl (fr_eval rfl e0) (by rfl)) ?_
  clear hH
  rintro _ w1 ⟨g1, rfl, hH, hx⟩
  replace hH : Heap _ _ _ [_] := hH
  clear hx
  refine lf_val (v := .bool false) (wantAll rfl) (rv_assign rfl rfl) ?_
  refine lf_nil ?_
  refine then_n ?_
  refine wp_seq ?_
  refine wp_gen (fun F' => F' 0 = .agg (([.int .i64 u.k, .int .i64 u.a, .int .i64 u.b, .int .i64 u.c0, .int .i64 u.c1, .int .i64 u.c2] : List Value) ++ (cBs u.h0.1 ++ (cBs u.h1.1 ++ (([.int .i64 u.g] : List Value) ++ (cBs u.o.1 ++ (([.int .i64 u.n] : List Value) ++ (cBs u.x.1 ++ (([.int .i64 u.jc, .int .i64 u.js] : List Value) ++ (cBs u.jh.1 ++ (([vb, .int .i64 u.r.t, .int .i64 u.r.c, .int .i64 u.r.s] : List Value) ++ (cBs u.r.h.1 ++ (cBs u.r.b.1 ++ ([vg] : List Value))))))))))))).toArray ∧ F' 1 = .pointer (some ⟨g1, 0, none⟩) ∧ F' 2 = .bool false) ⟨e0, rfl, rfl⟩ ?_
  clear e0
  clear F
  rintro F ⟨e0, e1, e2⟩
  refine wp_regionF ?_
  refine lf_val (v := .pointer (some ⟨g1, 0, none⟩)) (wantAll rfl) (rv_fieldAddr (n := 0) rfl (fr_eval rfl e1) Try.underlying81 rfl rfl (by kernel_rfl)) ?_
  refine lf_val (v := .int .i64 u.k) (wantAll rfl) (rv_load1 rfl (hH.blk (i := 0) rfl) (zT_g0 u.h0.2 u.h1.2 u.o.2 u.x.2 u.jh.2 u.r.h.2 u.r.b.2) (fr_eval rfl rfl) Try.underlying3 rfl Try.sz3) ?_
  refine lf_val (v := .bool (decide (u.k ≥ 1))) (wantAll rfl) (rv_geqP (p := u.k ≥ 1) rfl (fr_eval rfl rfl) rfl Iff.rfl) ?_
  refine lf_val (v := .bool (decide (u.k ≥ 1))) (wantAll rfl) (rv_move rfl (fr_eval rfl rfl)) ?_
  refine lf_joinP (fun F' => F' 0 = .agg (([.int .i64 u.k, .int .i64 u.a, .int .i64 u.b, .int .i64 u.c0, .int .i64 u.c1, .int .i64 u.c2] : List Value) ++ (cBs u.h0.1 ++ (cBs u.h1.1 ++ (([.int .i64 u.g] : List Value) ++ (cBs u.o.1 ++ (([.int .i64 u.n] : List Value) ++ (cBs u.x.1 ++ (([.int .i64 u.jc, .int .i64 u.js] : List Value) ++ (cBs u.jh.1 ++ (([vb, .int .i64 u.r.t, .int .i64 u.r.c, .int .i64 u.r.s] : List Value) ++ (cBs u.r.h.1 ++ (cBs u.r.b.1 ++ ([vg] : List Value))))))))))))).toArray ∧ F' 1 = .pointer (some ⟨g1, 0, none⟩) ∧ F' 2 = .bool false ∧ F' 10 = .bool (decide ((u.k ≥ 1) ∧ (u.k ≤ 5)))) 4 (fun hk => ?_) ?_
  · by_cases hc1 : u.k ≥ 1
    · refine lf_val (v := .pointer (some ⟨g1, 0, none⟩)) (wantF (d := 6) rfl (by kernel_rfl) rfl (congrArg Value.bool (decide_eq_true hc1))) (rv_fieldAddr (n := 0) rfl (fr_eval rfl e1) Try.underlying81 rfl rfl (by kernel_rfl)) ?_
      refine lf_val (v := .int .i64 u.k) (wantF (d := 6) rfl (by kernel_rfl) rfl (congrArg Value.bool (decide_eq_true hc1))) (rv_load1 rfl (hH.blk (i := 0) rfl) (zT_g0 u.h0.2 u.h1.2 u.o.2 u.x.2 u.jh.2 u.r.h.2 u.r.b.2) (fr_eval rfl rfl) Try.underlying3 rfl Try.sz3) ?_
      refine lf_val (v := .bool (decide (u.k ≤ 5))) (wantF (d := 6) rfl (by kernel_rfl) rfl (congrArg Value.bool (decide_eq_true hc1))) (rv_leqP (p := u.k ≤ 5) rfl (fr_eval rfl rfl) rfl Iff.rfl) ?_
      refine lf_val (v := .bool (decide (u.k ≤ 5))) (wantAll rfl) (rv_pickT rfl (fr_eval rfl (congrArg Value.bool (decide_eq_true hc1))) (fr_eval rfl rfl)) ?_
      exact hk _ ⟨e0, e1, e2, (congrArg Value.bool (dec_and hc1))⟩
    · refine lf_not (wantNot (d := 6) rfl (by kernel_rfl) rfl (congrArg Value.bool (decide_eq_false hc1))) ?_
      refine lf_not (wantNot (d := 6) rfl (by kernel_rfl) rfl (congrArg Value.bool (decide_eq_false hc1))) ?_
      refine lf_not (wantNot (d := 6) rfl (by kernel_rfl) rfl (congrArg Value.bool (decide_eq_false hc1))) ?_
      refine lf_val (v := .bool false) (wantAll rfl) (rv_pickF rfl (fr_eval rfl (congrArg Value.bool (decide_eq_false hc1))) rfl) ?_
      exact hk _ ⟨e0, e1, e2, (congrArg Value.bool (dec_andF hc1))⟩
  · clear e0 e1 e2
    clear F
    rintro F ⟨e0, e1, e2, e10⟩
    refine lf_val (v := .bool (decide ((u.k ≥ 1) ∧ (u.k ≤ 5)))) (wantAll rfl) (rv_move rfl (fr_eval rfl e10)) ?_
    refine lf_joinP (fun F' => F' 0 = .agg (([.int .i64 u.k, .int .i64 u.a, .int .i64 u.b, .int .i64 u.c0, .int .i64 u.c1, .int .i64 u.c2] : List Value) ++ (cBs u.h0.1 ++ (cBs u.h1.1 ++ (([.int .i64 u.g] : List Value) ++ (cBs u.o.1 ++ (([.int .i64 u.n] : List Value) ++ (cBs u.x.1 ++ (([.int .i64 u.jc, .int .i64 u.js] : List Value) ++ (cBs u.jh.1 ++ (([vb, .int .i64 u.r.t, .int .i64 u.r.c, .int .i64 u.r.s] : List Value) ++ (cBs u.r.h.1 ++ (cBs u.r.b.1 ++ ([vg] : List Value))))))))))))).toArray ∧ F' 1 = .pointer (some ⟨g1, 0, none⟩) ∧ F' 2 = .bool false ∧ F' 15 = .bool (decide (((u.k ≥ 1) ∧ (u.k ≤ 5)) ∧ (u.a ≥ 0)))) 4 (fun hk => ?_) ?_
    · by_cases hc2 : (u.k ≥ 1) ∧ (u.k ≤ 5)
      · refine lf_val (v := .pointer (some ⟨g1, 1, none⟩)) (wantF (d := 11) rfl (by kernel_rfl) rfl (congrArg Value.bool (decide_eq_true hc2))) (rv_fieldAddr (n := 0) rfl (fr_eval rfl e1) Try.underlying81 rfl rfl (by kernel_rfl)) ?_
        refine lf_val (v := .int .i64 u.a) (wantF (d := 11) rfl (by kernel_rfl) rfl (congrArg Value.bool (decide_eq_true hc2))) (rv_load1 rfl (hH.blk (i := 0) rfl) (zT_g1 u.h0.2 u.h1.2 u.o.2 u.x.2 u.jh.2 u.r.h.2 u.r.b.2) (fr_eval rfl rfl) Try.underlying3 rfl Try.sz3) ?_
        refine lf_val (v := .bool (decide (u.a ≥ 0))) (wantF (d := 11) rfl (by kernel_rfl) rfl (congrArg Value.bool (decide_eq_true hc2))) (rv_geqP (p := u.a ≥ 0) rfl (fr_eval rfl rfl) rfl Iff.rfl) ?_
        refine lf_val (v := .bool (decide (u.a ≥ 0))) (wantAll rfl) (rv_pickT rfl (fr_eval rfl (congrArg Value.bool (decide_eq_true hc2))) (fr_eval rfl rfl)) ?_
        exact hk _ ⟨e0, e1, e2, (congrArg Value.bool (dec_and hc2))⟩
      · refine lf_not (wantNot (d := 11) rfl (by kernel_rfl) rfl (congrArg Value.bool (decide_eq_false hc2))) ?_
        refine lf_not (wantNot (d := 11) rfl (by kernel_rfl) rfl (congrArg Value.bool (decide_eq_false hc2))) ?_
        refine lf_not (wantNot (d := 11) rfl (by kernel_rfl) rfl (congrArg Value.bool (decide_eq_false hc2))) ?_
        refine lf_val (v := .bool false) (wantAll rfl) (rv_pickF rfl (fr_eval rfl (congrArg Value.bool (decide_eq_false hc2))) rfl) ?_
        exact hk _ ⟨e0, e1, e2, (congrArg Value.bool (dec_andF hc2))⟩
    · clear e0 e1 e2 e10
      clear F
      rintro F ⟨e0, e1, e2, e15⟩
      refine lf_val (wantAll rfl) (rv_move rfl (fr_eval rfl e15)) ?_
      refine lf_joinP (fun F' => F' 0 = .agg (([.int .i64 u.k, .int .i64 u.a, .int .i64 u.b, .int .i64 u.c0, .int .i64 u.c1, .int .i64 u.c2] : List Value) ++ (cBs u.h0.1 ++ (cBs u.h1.1 ++ (([.int .i64 u.g] : List Value) ++ (cBs u.o.1 ++ (([.int .i64 u.n] : List Value) ++ (cBs u.x.1 ++ (([.int .i64 u.jc, .int .i64 u.js] : List Value) ++ (cBs u.jh.1 ++ (([vb, .int .i64 u.r.t, .int .i64 u.r.c, .int .i64 u.r.s] : List Value) ++ (cBs u.r.h.1 ++ (cBs u.r.b.1 ++ ([vg] : List Value))))))))))))).toArray ∧ F' 1 = .pointer (some ⟨g1, 0, none⟩) ∧ F' 2 = .bool false ∧ F' 20 = .bool (decide ((((u.k ≥ 1) ∧ (u.k ≤ 5)) ∧ (u.a ≥ 0)) ∧ (u.a ≤ 255)))) 4 (fun hk => ?_) ?_
      · by_cases hc3 : ((u.k ≥ 1) ∧ (u.k ≤ 5)) ∧ (u.a ≥ 0)
        · refine lf_val (v := .pointer (some ⟨g1, 1, none⟩)) (wantF (d := 16) rfl (by kernel_rfl) rfl (congrArg Value.bool (decide_eq_true hc3))) (rv_fieldAddr (n := 0) rfl (fr_eval rfl e1) Try.underlying81 rfl rfl (by kernel_rfl)) ?_
          refine lf_val (v := .int .i64 u.a) (wantF (d := 16) rfl (by kernel_rfl) rfl (congrArg Value.bool (decide_eq_true hc3))) (rv_load1 rfl (hH.blk (i := 0) rfl) (zT_g1 u.h0.2 u.h1.2 u.o.2 u.x.2 u.jh.2 u.r.h.2 u.r.b.2) (fr_eval rfl rfl) Try.underlying3 rfl Try.sz3) ?_
          refine lf_val (v := .bool (decide (u.a ≤ 255))) (wantF (d := 16) rfl (by kernel_rfl) rfl (congrArg Value.bool (decide_eq_true hc3))) (rv_leqP (p := u.a ≤ 255) rfl (fr_eval rfl rfl) rfl Iff.rfl) ?_
          refine lf_val (v := .bool (decide (u.a ≤ 255))) (wantAll rfl) (rv_pickT rfl (fr_eval rfl (congrArg Value.bool (decide_eq_true hc3))) (fr_eval rfl rfl)) ?_
          exact hk _ ⟨e0, e1, e2, (congrArg Value.bool (dec_and hc3))⟩
        · refine lf_not (wantNot (d := 16) rfl (by kernel_rfl) rfl (congrArg Value.bool (decide_eq_false hc3))) ?_
          refine lf_not (wantNot (d := 16) rfl (by kernel_rfl) rfl (congrArg Value.bool (decide_eq_false hc3))) ?_
          refine lf_not (wantNot (d := 16) rfl (by kernel_rfl) rfl (congrArg Value.bool (decide_eq_false hc3))) ?_
          refine lf_val (v := .bool false) (wantAll rfl) (rv_pickF rfl (fr_eval rfl (congrArg Value.bool (decide_eq_false hc3))) rfl) ?_
          exact hk _ ⟨e0, e1, e2, (congrArg Value.bool (dec_andF hc3))⟩
      · clear e0 e1 e2 e15
        clear F
        rintro F ⟨e0, e1, e2, e20⟩
        refine lf_val (wantAll rfl) (rv_move rfl (fr_eval rfl e20)) ?_
        refine lf_joinP (fun F' => F' 0 = .agg (([.int .i64 u.k, .int .i64 u.a, .int .i64 u.b, .int .i64 u.c0, .int .i64 u.c1, .int .i64 u.c2] : List Value) ++ (cBs u.h0.1 ++ (cBs u.h1.1 ++ (([.int .i64 u.g] : List Value) ++ (cBs u.o.1 ++ (([.int .i64 u.n] : List Value) ++ (cBs u.x.1 ++ (([.int .i64 u.jc, .int .i64 u.js] : List Value) ++ (cBs u.jh.1 ++ (([vb, .int .i64 u.r.t, .int .i64 u.r.c, .int .i64 u.r.s] : List Value) ++ (cBs u.r.h.1 ++ (cBs u.r.b.1 ++ ([vg] : List Value))))))))))))).toArray ∧ F' 1 = .pointer (some ⟨g1, 0, none⟩) ∧ F' 2 = .bool false ∧ F' 25 = .bool (decide (((((u.k ≥ 1) ∧ (u.k ≤ 5)) ∧ (u.a ≥ 0)) ∧ (u.a ≤ 255)) ∧ (u.b ≥ 0)))) 4 (fun hk => ?_) ?_
        · by_cases hc4 : (((u.k ≥ 1) ∧ (u.k ≤ 5)) ∧ (u.a ≥ 0)) ∧ (u.a ≤ 255)
          · refine lf_val (v := .pointer (some ⟨g1, 2, none⟩)) (wantF (d := 21) rfl (by kernel_rfl) rfl (congrArg Value.bool (decide_eq_true hc4))) (rv_fieldAddr (n := 0) rfl (fr_eval rfl e1) Try.underlying81 rfl rfl (by kernel_rfl)) ?_
            refine lf_val (v := .int .i64 u.b) (wantF (d := 21) rfl (by kernel_rfl) rfl (congrArg Value.bool (decide_eq_true hc4))) (rv_load1 rfl (hH.blk (i := 0) rfl) (zT_g2 u.h0.2 u.h1.2 u.o.2 u.x.2 u.jh.2 u.r.h.2 u.r.b.2) (fr_eval rfl rfl) Try.underlying3 rfl Try.sz3) ?_
            refine lf_val (v := .bool (decide (u.b ≥ 0))) (wantF (d := 21) rfl (by kernel_rfl) rfl (congrArg Value.bool (decide_eq_true hc4))) (rv_geqP (p := u.b ≥ 0) rfl (fr_eval rfl rfl) rfl Iff.rfl) ?_
            refine lf_val (v := .bool (decide (u.b ≥ 0))) (wantAll rfl) (rv_pickT rfl (fr_eval rfl (congrArg Value.bool (decide_eq_true hc4))) (fr_eval rfl rfl)) ?_
            exact hk _ ⟨e0, e1, e2, (congrArg Value.bool (dec_and hc4))⟩
          · refine lf_not (wantNot (d := 21) rfl (by kernel_rfl) rfl (congrArg Value.bool (decide_eq_false hc4))) ?_
            refine lf_not (wantNot (d := 21) rfl (by kernel_rfl) rfl (congrArg Value.bool (decide_eq_false hc4))) ?_
            refine lf_not (wantNot (d := 21) rfl (by kernel_rfl) rfl (congrArg Value.bool (decide_eq_false hc4))) ?_
            refine lf_val (v := .bool false) (wantAll rfl) (rv_pickF rfl (fr_eval rfl (congrArg Value.bool (decide_eq_false hc4))) rfl) ?_
            exact hk _ ⟨e0, e1, e2, (congrArg Value.bool (dec_andF hc4))⟩
        · clear e0 e1 e2 e20
          clear F
          rintro F ⟨e0, e1, e2, e25⟩
          refine lf_val (wantAll rfl) (rv_move rfl (fr_eval rfl e25)) ?_
          refine lf_joinP (fun F' => F' 0 = .agg (([.int .i64 u.k, .int .i64 u.a, .int .i64 u.b, .int .i64 u.c0, .int .i64 u.c1, .int .i64 u.c2] : List Value) ++ (cBs u.h0.1 ++ (cBs u.h1.1 ++ (([.int .i64 u.g] : List Value) ++ (cBs u.o.1 ++ (([.int .i64 u.n] : List Value) ++ (cBs u.x.1 ++ (([.int .i64 u.jc, .int .i64 u.js] : List Value) ++ (cBs u.jh.1 ++ (([vb, .int .i64 u.r.t, .int .i64 u.r.c, .int .i64 u.r.s] : List Value) ++ (cBs u.r.h.1 ++ (cBs u.r.b.1 ++ ([vg] : List Value))))))))))))).toArray ∧ F' 1 = .pointer (some ⟨g1, 0, none⟩) ∧ F' 2 = .bool false ∧ F' 30 = .bool (decide ((((((u.k ≥ 1) ∧ (u.k ≤ 5)) ∧ (u.a ≥ 0)) ∧ (u.a ≤ 255)) ∧ (u.b ≥ 0)) ∧ (u.b ≤ 255)))) 4 (fun hk => ?_) ?_
          · by_cases hc5 : ((((u.k ≥ 1) ∧ (u.k ≤ 5)) ∧ (u.a ≥ 0)) ∧ (u.a ≤ 255)) ∧ (u.b ≥ 0)
            · refine lf_val (v := .pointer (some ⟨g1, 2, none⟩)) (wantF (d := 26) rfl (by kernel_rfl) rfl (congrArg Value.bool (decide_eq_true hc5))) (rv_fieldAddr (n := 0) rfl (fr_eval rfl e1) Try.underlying81 rfl rfl (by kernel_rfl)) ?_
              refine lf_val (v := .int .i64 u.b) (wantF (d := 26) rfl (by kernel_rfl) rfl (congrArg Value.bool (decide_eq_true hc5))) (rv_load1 rfl (hH.blk (i := 0) rfl) (zT_g2 u.h0.2 u.h1.2 u.o.2 u.x.2 u.jh.2 u.r.h.2 u.r.b.2) (fr_eval rfl rfl) Try.underlying3 rfl Try.sz3) ?_
              refine lf_val (v := .bool (decide (u.b ≤ 255))) (wantF (d := 26) rfl (by kernel_rfl) rfl (congrArg Value.bool (decide_eq_true hc5))) (rv_leqP (p := u.b ≤ 255) rfl (fr_eval rfl rfl) rfl Iff.rfl) ?_
              refine lf_val (v := .bool (decide (u.b ≤ 255))) (wantAll rfl) (rv_pickT rfl (fr_eval rfl (congrArg Value.bool (decide_eq_true hc5))) (fr_eval rfl rfl)) ?_
              exact hk _ ⟨e0, e1, e2, (congrArg Value.bool (dec_and hc5))⟩
            · refine lf_not (wantNot (d := 26) rfl (by kernel_rfl) rfl (congrArg Value.bool (decide_eq_false hc5))) ?_
              refine lf_not (wantNot (d := 26) rfl (by kernel_rfl) rfl (congrArg Value.bool (decide_eq_false hc5))) ?_
              refine lf_not (wantNot (d := 26) rfl (by kernel_rfl) rfl (congrArg Value.bool (decide_eq_false hc5))) ?_
              refine lf_val (v := .bool false) (wantAll rfl) (rv_pickF rfl (fr_eval rfl (congrArg Value.bool (decide_eq_false hc5))) rfl) ?_
              exact hk _ ⟨e0, e1, e2, (congrArg Value.bool (dec_andF hc5))⟩
          · clear e0 e1 e2 e25
            clear F
            rintro F ⟨e0, e1, e2, e30⟩
            refine lf_val (wantAll rfl) (rv_move rfl (fr_eval rfl e30)) ?_
            refine lf_joinP (fun F' => F' 0 = .agg (([.int .i64 u.k, .int .i64 u.a, .int .i64 u.b, .int .i64 u.c0, .int .i64 u.c1, .int .i64 u.c2] : List Value) ++ (cBs u.h0.1 ++ (cBs u.h1.1 ++ (([.int .i64 u.g] : List Value) ++ (cBs u.o.1 ++ (([.int .i64 u.n] : List Value) ++ (cBs u.x.1 ++ (([.int .i64 u.jc, .int .i64 u.js] : List Value) ++ (cBs u.jh.1 ++ (([vb, .int .i64 u.r.t, .int .i64 u.r.c, .int .i64 u.r.s] : List Value) ++ (cBs u.r.h.1 ++ (cBs u.r.b.1 ++ ([vg] : List Value))))))))))))).toArray ∧ F' 1 = .pointer (some ⟨g1, 0, none⟩) ∧ F' 2 = .bool false ∧ F' 37 = .bool (decide (((((((u.k ≥ 1) ∧ (u.k ≤ 5)) ∧ (u.a ≥ 0)) ∧ (u.a ≤ 255)) ∧ (u.b ≥ 0)) ∧ (u.b ≤ 255)) ∧ (¬ u.a = u.b)))) 6 (fun hk => ?_) ?_
            · by_cases hc6 : (((((u.k ≥ 1) ∧ (u.k ≤ 5)) ∧ (u.a ≥ 0)) ∧ (u.a ≤ 255)) ∧ (u.b ≥ 0)) ∧ (u.b ≤ 255)
              · refine lf_val (v := .pointer (some ⟨g1, 1, none⟩)) (wantF (d := 31) rfl (by kernel_rfl) rfl (congrArg Value.bool (decide_eq_true hc6))) (rv_fieldAddr (n := 0) rfl (fr_eval rfl e1) Try.underlying81 rfl rfl (by kernel_rfl)) ?_
                refine lf_val (v := .int .i64 u.a) (wantF (d := 31) rfl (by kernel_rfl) rfl (congrArg Value.bool (decide_eq_true hc6))) (rv_load1 rfl (hH.blk (i := 0) rfl) (zT_g1 u.h0.2 u.h1.2 u.o.2 u.x.2 u.jh.2 u.r.h.2 u.r.b.2) (fr_eval rfl rfl) Try.underlying3 rfl Try.sz3) ?_
                refine lf_val (v := .pointer (some ⟨g1, 2, none⟩)) (wantF (d := 31) rfl (by kernel_rfl) rfl (congrArg Value.bool (decide_eq_true hc6))) (rv_fieldAddr (n := 0) rfl (fr_eval rfl e1) Try.underlying81 rfl rfl (by kernel_rfl)) ?_
                refine lf_val (v := .int .i64 u.b) (wantF (d := 31) rfl (by kernel_rfl) rfl (congrArg Value.bool (decide_eq_true hc6))) (rv_load1 rfl (hH.blk (i := 0) rfl) (zT_g2 u.h0.2 u.h1.2 u.o.2 u.x.2 u.jh.2 u.r.h.2 u.r.b.2) (fr_eval rfl rfl) Try.underlying3 rfl Try.sz3) ?_
                refine lf_val (v := .bool (decide (¬ u.a = u.b))) (wantF (d := 31) rfl (by kernel_rfl) rfl (congrArg Value.bool (decide_eq_true hc6))) (rv_neqP (p := ¬ u.a = u.b) rfl (fr_eval rfl rfl) (fr_eval rfl rfl) Iff.rfl) ?_
                refine lf_val (v := .bool (decide (¬ u.a = u.b))) (wantAll rfl) (rv_pickT rfl (fr_eval rfl (congrArg Value.bool (decide_eq_true hc6))) (fr_eval rfl rfl)) ?_
                exact hk _ ⟨e0, e1, e2, (congrArg Value.bool (dec_and hc6))⟩
              · refine lf_not (wantNot (d := 31) rfl (by kernel_rfl) rfl (congrArg Value.bool (decide_eq_false hc6))) ?_
                refine lf_not (wantNot (d := 31) rfl (by kernel_rfl) rfl (congrArg Value.bool (decide_eq_false hc6))) ?_
                refine lf_not (wantNot (d := 31) rfl (by kernel_rfl) rfl (congrArg Value.bool (decide_eq_false hc6))) ?_
                refine lf_not (wantNot (d := 31) rfl (by kernel_rfl) rfl (congrArg Value.bool (decide_eq_false hc6))) ?_
                refine lf_not (wantNot (d := 31) rfl (by kernel_rfl) rfl (congrArg Value.bool (decide_eq_false hc6))) ?_
                refine lf_val (v := .bool false) (wantAll rfl) (rv_pickF rfl (fr_eval rfl (congrArg Value.bool (decide_eq_false hc6))) rfl) ?_
                exact hk _ ⟨e0, e1, e2, (congrArg Value.bool (dec_andF hc6))⟩
            · clear e0 e1 e2 e30
              clear F
              rintro F ⟨e0, e1, e2, e37⟩
              refine lf_val (wantAll rfl) (rv_assign rfl (fr_eval rfl e37)) ?_
              refine lf_nil ?_
              refine then_n ?_
              refine wp_gen (fun F' => F' 0 = .agg (([.int .i64 u.k, .int .i64 u.a, .int .i64 u.b, .int .i64 u.c0, .int .i64 u.c1, .int .i64 u.c2] : List Value) ++ (cBs u.h0.1 ++ (cBs u.h1.1 ++ (([.int .i64 u.g] : List Value) ++ (cBs u.o.1 ++ (([.int .i64 u.n] : List Value) ++ (cBs u.x.1 ++ (([.int .i64 u.jc, .int .i64 u.js] : List Value) ++ (cBs u.jh.1 ++ (([vb, .int .i64 u.r.t, .int .i64 u.r.c, .int .i64 u.r.s] : List Value) ++ (cBs u.r.h.1 ++ (cBs u.r.b.1 ++ ([vg] : List Value))))))))))))).toArray ∧ F' 1 = .pointer (some ⟨g1, 0, none⟩) ∧ F' 2 = .bool (decide (((((((u.k ≥ 1) ∧ (u.k ≤ 5)) ∧ (u.a ≥ 0)) ∧ (u.a ≤ 255)) ∧ (u.b ≥ 0)) ∧ (u.b ≤ 255)) ∧ (¬ u.a = u.b)))) ⟨e0, e1, rfl⟩ ?_
              clear e0 e1 e2 e37
              clear F
              rintro F ⟨e0, e1, e2⟩
              refine wp_ret ?_
              exact bodyPost_ret (res1 rfl (ro_tmp rfl e2)) rfl (⟨congrArg (fun b => Ending.returned (.bool b)) (decide_eq_decide.2 (by unfold inM; omega)), hH.done⟩)

set_option maxRecDepth 100000 in
set_option maxHeartbeats 4000000 in
theorem jobPut_calls (c s : Int) (h : S32) (hc : inI c) (hs : inI s) (bl : List UInt8) (hb : bl.length ≤ 10000000) (v : Value) (w : World) (hr0 : RdB w v bl) :
    Calls Try.prog 62 #[.agg (([.int .i64 c, .int .i64 s] : List Value) ++ (cBs h.1 ++ ([v] : List Value))).toArray] w fun e'' w' => (∃ v', e'' = .returned v' ∧ OwnB w' v' (textJ c s h bl) ∧ ∀ k, v'.ownBlock = some k → w.heap.size ≤ k) ∧ Ext w w' := by
  refine calls_fr (args := [.agg (([.int .i64 c, .int .i64 s] : List Value) ++ (cBs h.1 ++ ([v] : List Value))).toArray]) (n := 17) Try.func62 rfl rfl (show 1 ≤ 17 by decide) ?_
  have l1 := put_len c
  have l2 := put_len s
  have l3 := put_len (bl.length : Int)
  have hr := Rd.stab hr0
  have hH : Heap (newN w) w w [] := Heap.fresh
  refine wp_seq ?_
  refine wp_gen (fun F' => F' 0 = .agg (([.int .i64 c, .int .i64 s] : List Value) ++ (cBs h.1 ++ ([v] : List Value))).toArray) rfl ?_
  rintro F e0
  refine wp_regionF ?_
  refine lf_ex (wantAll rfl) (hx_box hH 79 (cs := ([.int .i64 c, .int .i64 s] : List Value) ++ (cBs h.1 ++ ([v] : List Value))) rfl (fr_eval rfl e0) (by rfl)) ?_
  clear hH
  rintro _ w1 ⟨g1, rfl, hH, hx⟩
  replace hH : Heap _ _ _ [_] := hH
  clear hx
  refine lf_val (v := .slice none 0 0) (wantAll rfl) (rv_assign rfl rfl) ?_
  refine lf_nil ?_
  refine then_n ?_
  refine wp_seq ?_
  refine wp_gen (fun F' => F' 0 = .agg (([.int .i64 c, .int .i64 s] : List Value) ++ (cBs h.1 ++ ([v] : List Value))).toArray ∧ F' 1 = .pointer (some ⟨g1, 0, none⟩) ∧ F' 2 = .slice none 0 0) ⟨e0, rfl, rfl⟩ ?_
  clear e0
  clear F
  rintro F ⟨e0, e1, e2⟩
  refine wp_regionF ?_
  refine lf_ex (wantAll rfl) (hx_alloc hH 50 (z := .agg ([.slice none 0 0]).toArray) (n := 1) (cs := [.slice none 0 0]) rfl (by kernel_rfl) (by rfl)) ?_
  clear hH
  rintro _ w2 ⟨g2, rfl, hH, hx⟩
  replace hH : Heap _ _ _ [_, _] := hH
  clear hx
  refine lf_nil ?_
  refine then_n ?_
  refine wp_seq ?_
  refine wp_gen (fun F' => F' 0 = .agg (([.int .i64 c, .int .i64 s] : List Value) ++ (cBs h.1 ++ ([v] : List Value))).toArray ∧ F' 1 = .pointer (some ⟨g1, 0, none⟩) ∧ F' 2 = .slice none 0 0 ∧ F' 3 = .pointer (some ⟨g2, 0, none⟩)) ⟨e0, e1, e2, rfl⟩ ?_
  clear e0 e1 e2
  clear F
  rintro F ⟨e0, e1, e2, e3⟩
  replace hH : Heap _ _ _ [_, _] := hH.toPen (i := 1) rfl rfl
  have hs_1 := hH.fixed1 (j := 0) (i := 1) rfl rfl (by decide)
  have hKN := hH.sub1 (i := 1) rfl
  have hcK : Chg (newK w2 (oPen g2 (.slice none 0 0) []).fp) w2 w2 := Chg.refl _ _
  have hfM : ∀ k, (oPen g2 (.slice none 0 0) []).fp k → (newK w2 (oPen g2 (.slice none 0 0) []).fp) k := fun k h => Or.inr h
  refine wp_regionX (newK w2 (oPen g2 (.slice none 0 0) []).fp) 11 (by kernel_rfl) (by kernel_rfl) ?_
  refine xl_take (i := 0) (v := .pointer (some ⟨g1, 0, none⟩)) rfl (by kernel_rfl) (by kernel_rfl) (by kernel_rfl) (by kernel_rfl) (yx_val (wantAll rfl) (fun w' hx' => rv_fieldAddr (n := 0) rfl (fr_eval rfl e1) Try.underlying79 rfl rfl (by kernel_rfl))) ?_
  refine xl_take (i := 1) (v := .int .i64 c) rfl (by kernel_rfl) (by kernel_rfl) (by kernel_rfl) (by kernel_rfl) (yx_val (wantAll rfl) (fun w' hx' => rv_load1 rfl (hs_1 _ (hcK.trans hx')) (zT_g3 h.2) (fr_eval rfl rfl) Try.underlying3 rfl Try.sz3)) ?_
  refine xl_take (i := 2) (v := .pointer (some ⟨g1, 1, none⟩)) rfl (by kernel_rfl) (by kernel_rfl) (by kernel_rfl) (by kernel_rfl) (yx_val (wantAll rfl) (fun w' hx' => rv_fieldAddr (n := 0) rfl (fr_eval rfl e1) Try.underlying79 rfl rfl (by kernel_rfl))) ?_
  refine xl_take (i := 3) (v := .int .i64 s) rfl (by kernel_rfl) (by kernel_rfl) (by kernel_rfl) (by kernel_rfl) (yx_val (wantAll rfl) (fun w' hx' => rv_load1 rfl (hs_1 _ (hcK.trans hx')) (zT_g4 h.2) (fr_eval rfl rfl) Try.underlying3 rfl Try.sz3)) ?_
  refine xl_take (i := 6) (v := .pointer (some ⟨g1, 2, none⟩)) rfl (by kernel_rfl) (by kernel_rfl) (by kernel_rfl) (by kernel_rfl) (yx_val (wantAll rfl) (fun w' hx' => rv_fieldAddr (n := 31) rfl (fr_eval rfl e1) Try.underlying79 rfl rfl (by kernel_rfl))) ?_
  refine xl_take (i := 7) (v := .agg (cBs h.1).toArray) rfl (by kernel_rfl) (by kernel_rfl) (by kernel_rfl) (by kernel_rfl) (yx_val (wantAll rfl) (fun w' hx' => rv_loadP rfl (hs_1 _ (hcK.trans hx')) (zT_p5 h.2) (cBs_len h.2) (fr_eval rfl rfl) Try.underlying45 rfl Try.sz45)) ?_
  refine xl_take (i := 9) (v := .pointer (some ⟨g1, 34, none⟩)) rfl (by kernel_rfl) (by kernel_rfl) (by kernel_rfl) (by kernel_rfl) (yx_val (wantAll rfl) (fun w' hx' => rv_fieldAddr (n := 0) rfl (fr_eval rfl e1) Try.underlying79 rfl rfl (by kernel_rfl))) ?_
  refine xl_take (i := 10) (v := v) rfl (by kernel_rfl) (by kernel_rfl) (by kernel_rfl) (by kernel_rfl) (yx_val (wantAll rfl) (fun w' hx' => rv_load1 rfl (hs_1 _ (hcK.trans hx')) (zT_g6 h.2) (fr_eval rfl rfl) Try.underlying22 rfl Try.sz22)) ?_
  refine anyX_ready (rs := [4]) (by kernel_rfl) ?_
  intro w3 hx
  replace hH := hH.ext hx
  replace hcK := hcK.trans (Ext.any hx)
  clear hx
  refine (anyX_cons ?_ anyX_nil)
  refine xl_step (i := 4) rfl (wantAll rfl) ?_
  refine of_ex (hx_lits hH Try.stInt (n := 2) (nm := List.length [c, s]) [(.tmp 5), (.tmp 7)] (vs := [(.int .i64 c), (.int .i64 s)]) (cs := List.flatMap cI [c, s]) rfl (evc (fr_eval rfl rfl) (evc (fr_eval rfl rfl) evn)) (row_one (l := [c, s]) cI_one) rfl (by decide) rfl rfl) ?_
  clear hH
  rintro y1 w4 ⟨hH, hx⟩
  replace hH : Heap _ _ _ [_, _, _] := hH
  replace hcK := hcK.trans (Ext.any hx)
  refine ⟨(Ext.any hx), ?_⟩
  clear hx
  refine anyX_ready (rs := [5]) (by kernel_rfl) ?_
  intro w5 hx
  replace hH := hH.ext hx
  replace hcK := hcK.trans (Ext.any hx)
  clear hx
  refine (anyX_cons ?_ anyX_nil)
  refine xl_step (i := 5) rfl (wantAll rfl) ?_
  refine of_call (rv_call (args := [.pointer (some ⟨g2, 0, none⟩), y1]) rfl (evc (fr_eval rfl e3) (evc (fr_eval rfl rfl) evn)) Try.call27) (penNums_calls (in2 hc hs) _ (Own.rd (hH.own (i := 2) rfl) (row_one cI_one)) (fun k hk h0 e => apart_at hH.apart (i := 2) (j := 1) rfl rfl (by decide) k hk (Or.inl e)) (fun k hk h0 h => apart_at hH.apart (i := 2) (j := 1) rfl rfl (by decide) k hk (Or.inr h)) (hH.pen (i := 1) rfl) (by have := puts_len [c, s]; simp only [List.length_append, List.length_cons, List.length_nil, h.2] at *; omega)) ?_
  rintro _ w6 ⟨rfl, hp⟩
  refine ⟨_, rfl, ?_⟩
  obtain ⟨y2, hH', hx, hxf, hgr⟩ := hH.penPost (i := 1) (l2 := puts [c, s]) rfl (fun _ => rfl) hp
  clear hH hp
  have hH : Heap _ _ _ [_, _, _] := hH'
  clear hH'
  have hcx := hxf.mono (fun k _ hk => hfM k hk)
  replace hfM := grow1 (fun k h => Or.inl h) hcK.size hfM hgr
  replace hcK := hcK.trans hcx
  refine ⟨hcx, ?_⟩
  clear hcx hxf hgr hx
  refine anyX_ready (rs := [8]) (by kernel_rfl) ?_
  intro w7 hx
  replace hH := hH.ext hx
  replace hcK := hcK.trans (Ext.any hx)
  clear hx
  refine (anyX_cons ?_ anyX_nil)
  refine xl_step (i := 8) rfl (wantAll rfl) ?_
  refine of_call (rv_call (args := [.pointer (some ⟨g2, 0, none⟩), .agg (cBs h.1).toArray]) rfl (evc (fr_eval rfl rfl) (evc (fr_eval rfl rfl) evn)) Try.call26) (penSum_calls h.1 h.2 _ (hH.pen (i := 1) rfl) (by have := puts_len [c, s]; simp only [List.length_append, List.length_cons, List.length_nil, h.2] at *; omega)) ?_
  rintro _ w8 ⟨rfl, hp⟩
  refine ⟨_, rfl, ?_⟩
  obtain ⟨y3, hH', hx, hxf, hgr⟩ := hH.penPost (i := 1) (l2 := puts [c, s] ++ h.1) rfl (fun _ => rfl) hp
  clear hH hp
  have hH : Heap _ _ _ [_, _, _] := hH'
  clear hH'
  have hcx := hxf.mono (fun k _ hk => hfM k hk)
  replace hfM := grow1 (fun k h => Or.inl h) hcK.size hfM hgr
  replace hcK := hcK.trans hcx
  refine ⟨hcx, ?_⟩
  clear hcx hxf hgr hx
  refine xl_tail (s := 11) rfl ?_
  intro w9 hx
  replace hH := hH.ext hx
  clear hx
  clear hs_1 hKN hcK hfM
  refine lf_call (wantAll rfl) (rv_call (args := [.pointer (some ⟨g2, 0, none⟩), v]) rfl (evc (fr_eval rfl rfl) (evc (fr_eval rfl rfl) evn)) Try.call25) (penText_calls (by omega) _ (hr.rd _ hH.chg) (fun k hk h0 e => hr.out _ hk h0 ((hH.one (i := 1) rfl).sub k (Or.inl e))) (fun k hk h0 h => hr.out _ hk h0 ((hH.one (i := 1) rfl).sub k (Or.inr h))) (hH.pen (i := 1) rfl) (by have := puts_len [c, s]; simp only [List.length_append, List.length_cons, List.length_nil, h.2] at *; omega)) ?_
  rintro _ w10 ⟨rfl, hp⟩
  refine ⟨_, rfl, ?_⟩
  obtain ⟨y4, hH', hx, hxf, hgr⟩ := hH.penPost (i := 1) (l2 := puts [c, s] ++ h.1 ++ put ((bl.length : Nat) : Int) ++ bl) rfl (fun _ => rfl) hp
  clear hH hp
  have hH : Heap _ _ _ [_, _, _] := hH'
  clear hH'
  clear hxf hgr hx
  refine lf_call (wantAll rfl) (rv_call (args := [.pointer (some ⟨g2, 0, none⟩)]) rfl (evc (fr_eval rfl rfl) evn) Try.call28) (penBytes_calls _ (hH.pen (i := 1) rfl) (by have := puts_len [c, s]; simp only [List.length_append, List.length_cons, List.length_nil, h.2] at *; omega)) ?_
  rintro _ w11 ⟨⟨y5, rfl, ho, hg⟩, hx⟩
  refine ⟨_, rfl, ?_⟩
  replace hH : Heap _ _ _ [_, _, _, _] := hH.addOwn hx hg ho
  clear ho hg
  clear hx
  refine lf_val (v := y5) (wantAll rfl) (rv_assign rfl (fr_eval rfl rfl)) ?_
  refine lf_nil ?_
  refine then_n ?_
  replace hH : Heap _ _ _ [_, _, _] := hH.drop (.cons_cons _ (.cons_cons _ (.cons _ (.cons_cons _ .slnil))))
  refine wp_gen (fun F' => F' 0 = .agg (([.int .i64 c, .int .i64 s] : List Value) ++ (cBs h.1 ++ ([v] : List Value))).toArray ∧ F' 1 = .pointer (some ⟨g1, 0, none⟩) ∧ F' 2 = y5 ∧ F' 3 = .pointer (some ⟨g2, 0, none⟩)) ⟨e0, e1, rfl, e3⟩ ?_
  clear e0 e1 e2 e3
  clear F
  rintro F ⟨e0, e1, e2, e3⟩
  refine wp_ret ?_
  exact bodyPost_ret (v := y5) (res1 rfl (ro_tmp rfl e2)) rfl (⟨⟨_, rfl, (by have h1 := hH.own (i := 2) rfl; have e : puts [c, s] ++ h.1 ++ put ((bl.length : Nat) : Int) ++ bl = textJ c s h bl := (by simp [textJ, puts]); rw [e] at h1; exact h1), hH.ge (i := 2) rfl⟩, hH.done⟩)

set_option maxRecDepth 100000 in
set_option maxHeartbeats 4000000 in
theorem msPut_yes (u : Ms) (hin : inMs u) (bl sg : List UInt8) (hb : bl.length ≤ 10000000) (hs : sg.length ≤ 10000000) (vb vg : Value) (w : World) (hbl0 : RdB w vb bl) (hsg0 : RdB w vg sg) (hM : inM u) :
    Calls Try.prog 51 #[.agg (([.int .i64 u.k, .int .i64 u.a, .int .i64 u.b, .int .i64 u.c0, .int .i64 u.c1, .int .i64 u.c2] : List Value) ++ (cBs u.h0.1 ++ (cBs u.h1.1 ++ (([.int .i64 u.g] : List Value) ++ (cBs u.o.1 ++ (([.int .i64 u.n] : List Value) ++ (cBs u.x.1 ++ (([.int .i64 u.jc, .int .i64 u.js] : List Value) ++ (cBs u.jh.1 ++ (([vb, .int .i64 u.r.t, .int .i64 u.r.c, .int .i64 u.r.s] : List Value) ++ (cBs u.r.h.1 ++ (cBs u.r.b.1 ++ ([vg] : List Value))))))))))))).toArray] w fun e'' w' => (∃ v', e'' = .returned (.tuple #[v', .int .i64 0]) ∧ OwnB w' v' (textM u bl sg) ∧ ∀ k, v'.ownBlock = some k → w.heap.size ≤ k) ∧ Ext w w' := by
  refine calls_fr (args := [.agg (([.int .i64 u.k, .int .i64 u.a, .int .i64 u.b, .int .i64 u.c0, .int .i64 u.c1, .int .i64 u.c2] : List Value) ++ (cBs u.h0.1 ++ (cBs u.h1.1 ++ (([.int .i64 u.g] : List Value) ++ (cBs u.o.1 ++ (([.int .i64 u.n] : List Value) ++ (cBs u.x.1 ++ (([.int .i64 u.jc, .int .i64 u.js] : List Value) ++ (cBs u.jh.1 ++ (([vb, .int .i64 u.r.t, .int .i64 u.r.c, .int .i64 u.r.s] : List Value) ++ (cBs u.r.h.1 ++ (cBs u.r.b.1 ++ ([vg] : List Value))))))))))))).toArray]) (n := 82) Try.func51 rfl rfl (show 1 ≤ 82 by decide) ?_
  have hin' := hin
  obtain ⟨ik, ia, ib, i0, i1, i2, ig, inn, ijc, ijs, ir⟩ := hin'
  have j0 := ik
  obtain ⟨k0a, k0b⟩ := j0
  have j1 := ia
  obtain ⟨k1a, k1b⟩ := j1
  have j2 := ib
  obtain ⟨k2a, k2b⟩ := j2
  have j3 := i0
  obtain ⟨k3a, k3b⟩ := j3
  have j4 := i1
  obtain ⟨k4a, k4b⟩ := j4
  have j5 := i2
  obtain ⟨k5a, k5b⟩ := j5
  have j6 := ig
  obtain ⟨k6a, k6b⟩ := j6
  have j7 := inn
  obtain ⟨k7a, k7b⟩ := j7
  have j8 := ijc
  obtain ⟨k8a, k8b⟩ := j8
  have j9 := ijs
  obtain ⟨k9a, k9b⟩ := j9
  have l0 := put_len u.k
  have l1 := put_len u.a
  have l2 := put_len u.b
  have l3 := put_len u.c0
  have l4 := put_len u.c1
  have l5 := put_len u.c2
  have l6 := put_len u.g
  have l7 := put_len u.n
  have l8 := put_len ((textJ u.jc u.js u.jh bl).length : Int)
  have l9 := put_len ((textS u.r sg).length : Int)
  have m1 := textJ_len u.jc u.js u.jh bl
  have m2 := textS_len u.r sg
  have m3 := puts_len [u.k, u.a, u.b]
  have m4 := puts_len [u.c0, u.c1, u.c2]
  simp only [List.length_cons, List.length_nil] at m3 m4
  have z0 := u.h0.2
  have z1 := u.h1.2
  have z2 := u.o.2
  have z3 := u.x.2
  have z4 : ([] : List UInt8).length = 0 := rfl
  have hbl := Rd.stab hbl0
  have hsg := Rd.stab hsg0
  have hH : Heap (newN w) w w [] := Heap.fresh
  refine wp_seq ?_
  refine wp_gen (fun F' => F' 0 = .agg (([.int .i64 u.k, .int .i64 u.a, .int .i64 u.b, .int .i64 u.c0, .int .i64 u.c1, .int .i64 u.c2] : List Value) ++ (cBs u.h0.1 ++ (cBs u.h1.1 ++ (([.int .i64 u.g] : List Value) ++ (cBs u.o.1 ++ (([.int .i64 u.n] : List Value) ++ (cBs u.x.1 ++ (([.int .i64 u.jc, .int .i64 u.js] : List Value) ++ (cBs u.jh.1 ++ (([vb, .int .i64 u.r.t, .int .i64 u.r.c, .int .i64 u.r.s] : List Value) ++ (cBs u.r.h.1 ++ (cBs u.r.b.1 ++ ([vg] : List Value))))))))))))).toArray) rfl ?_
  rintro F e0
  refine wp_regionF ?_
  refine lf_ex (wantAll rfl) (hx_box hH 81 (cs := ([.int .i64 u.k, .int .i64 u.a, .int .i64 u.b, .int .i64 u.c0, .int .i64 u.c1, .int .i64 u.c2] : List Value) ++ (cBs u.h0.1 ++ (cBs u.h1.1 ++ (([.int .i64 u.g] : List Value) ++ (cBs u.o.1 ++ (([.int .i64 u.n] : List Value) ++ (cBs u.x.1 ++ (([.int .i64 u.jc, .int .i64 u.js] : List Value) ++ (cBs u.jh.1 ++ (([vb, .int .i64 u.r.t, .int .i64 u.r.c, .int .i64 u.r.s] : List Value) ++ (cBs u.r.h.1 ++ (cBs u.r.b.1 ++ ([vg] : List Value))))))))))))) rfl (fr_eval rfl e0) (by rfl)) ?_
  clear hH
  rintro _ w1 ⟨g1, rfl, hH, hx⟩
  replace hH : Heap _ _ _ [_] := hH
  clear hx
  refine lf_val (v := .slice none 0 0) (wantAll rfl) (rv_assign rfl rfl) ?_
  refine lf_val (v := .int .i64 0) (wantAll rfl) (rv_assign rfl rfl) ?_
  refine lf_nil ?_
  refine then_n ?_
  refine wp_seq ?_
  refine wp_seq ?_
  refine wp_gen (fun F' => F' 0 = .agg (([.int .i64 u.k, .int .i64 u.a, .int .i64 u.b, .int .i64 u.c0, .int .i64 u.c1, .int .i64 u.c2] : List Value) ++ (cBs u.h0.1 ++ (cBs u.h1.1 ++ (([.int .i64 u.g] : List Value) ++ (cBs u.o.1 ++ (([.int .i64 u.n] : List Value) ++ (cBs u.x.1 ++ (([.int .i64 u.jc, .int .i64 u.js] : List Value) ++ (cBs u.jh.1 ++ (([vb, .int .i64 u.r.t, .int .i64 u.r.c, .int .i64 u.r.s] : List Value) ++ (cBs u.r.h.1 ++ (cBs u.r.b.1 ++ ([vg] : List Value))))))))))))).toArray ∧ F' 1 = .pointer (some ⟨g1, 0, none⟩) ∧ F' 2 = .slice none 0 0 ∧ F' 3 = .int .i64 0) ⟨e0, rfl, rfl, rfl⟩ ?_
  clear e0
  clear F
  rintro F ⟨e0, e1, e2, e3⟩
  refine wp_regionF ?_
  refine lf_val (wantAll rfl) (rv_loadW rfl (hH.blk (i := 0) rfl) (fr_eval rfl e1) Try.underlying81 rfl (sz_len Try.sz81 (zT_l20 u.h0.2 u.h1.2 u.o.2 u.x.2 u.jh.2 u.r.h.2 u.r.b.2))) ?_
  refine lf_call (wantAll rfl) (rv_call (args := [.agg (([.int .i64 u.k, .int .i64 u.a, .int .i64 u.b, .int .i64 u.c0, .int .i64 u.c1, .int .i64 u.c2] : List Value) ++ (cBs u.h0.1 ++ (cBs u.h1.1 ++ (([.int .i64 u.g] : List Value) ++ (cBs u.o.1 ++ (([.int .i64 u.n] : List Value) ++ (cBs u.x.1 ++ (([.int .i64 u.jc, .int .i64 u.js] : List Value) ++ (cBs u.jh.1 ++ (([vb, .int .i64 u.r.t, .int .i64 u.r.c, .int .i64 u.r.s] : List Value) ++ (cBs u.r.h.1 ++ (cBs u.r.b.1 ++ ([vg] : List Value))))))))))))).toArray]) rfl (evc (fr_eval rfl rfl) evn) Try.call52) (calls_known (b' := true) (msRight_calls u _ _ _) (decide_eq_true hM)) ?_
  rintro _ w2 ⟨rfl, hx⟩
  refine ⟨_, rfl, ?_⟩
  replace hH := hH.ext hx
  clear hx
  refine lf_val (v := .bool false) (wantAll rfl) (rv_not (b := true) rfl (fr_eval rfl rfl)) ?_
  refine lf_nil ?_
  refine then_n ?_
  refine wp_gen (fun F' => F' 0 = .agg (([.int .i64 u.k, .int .i64 u.a, .int .i64 u.b, .int .i64 u.c0, .int .i64 u.c1, .int .i64 u.c2] : List Value) ++ (cBs u.h0.1 ++ (cBs u.h1.1 ++ (([.int .i64 u.g] : List Value) ++ (cBs u.o.1 ++ (([.int .i64 u.n] : List Value) ++ (cBs u.x.1 ++ (([.int .i64 u.jc, .int .i64 u.js] : List Value) ++ (cBs u.jh.1 ++ (([vb, .int .i64 u.r.t, .int .i64 u.r.c, .int .i64 u.r.s] : List Value) ++ (cBs u.r.h.1 ++ (cBs u.r.b.1 ++ ([vg] : List Value))))))))))))).toArray ∧ F' 1 = .pointer (some ⟨g1, 0, none⟩) ∧ F' 2 = .slice none 0 0 ∧ F' 3 = .int .i64 0 ∧ F' 8 = .bool false) ⟨e0, e1, e2, e3, rfl⟩ ?_
  clear e0 e1 e2 e3
  clear F
  rintro F ⟨e0, e1, e2, e3, e8⟩
  refine wp_cond_false (fr_eval rfl e8) ?_
  refine wp_skip ?_
  refine then_n ?_
  refine wp_seq ?_
  refine wp_regionF ?_
  refine lf_ex (wantAll rfl) (hx_alloc hH 50 (z := .agg ([.slice none 0 0]).toArray) (n := 1) (cs := [.slice none 0 0]) rfl (by kernel_rfl) (by rfl)) ?_
  clear hH
  rintro _ w3 ⟨g2, rfl, hH, hx⟩
  replace hH : Heap _ _ _ [_, _] := hH
  clear hx
  refine lf_nil ?_
  refine then_n ?_
  refine wp_seq ?_
  refine wp_gen (fun F' => F' 0 = .agg (([.int .i64 u.k, .int .i64 u.a, .int .i64 u.b, .int .i64 u.c0, .int .i64 u.c1, .int .i64 u.c2] : List Value) ++ (cBs u.h0.1 ++ (cBs u.h1.1 ++ (([.int .i64 u.g] : List Value) ++ (cBs u.o.1 ++ (([.int .i64 u.n] : List Value) ++ (cBs u.x.1 ++ (([.int .i64 u.jc, .int .i64 u.js] : List Value) ++ (cBs u.jh.1 ++ (([vb, .int .i64 u.r.t, .int .i64 u.r.c, .int .i64 u.r.s] : List Value) ++ (cBs u.r.h.1 ++ (cBs u.r.b.1 ++ ([vg] : List Value))))))))))))).toArray ∧ F' 1 = .pointer (some ⟨g1, 0, none⟩) ∧ F' 2 = .slice none 0 0 ∧ F' 3 = .int .i64 0 ∧ F' 4 = .pointer (some ⟨g2, 0, none⟩) ∧ F' 8 = .bool false) ⟨e0, e1, e2, e3, rfl, e8⟩ ?_
  clear e0 e1 e2 e3 e8
  clear F
  rintro F ⟨e0, e1, e2, e3, e4, e8⟩
  refine wp_regionF ?_
  refine lf_val (v := .pointer (some ⟨g1, 0, none⟩)) (wantAll rfl) (rv_fieldAddr (n := 0) rfl (fr_eval rfl e1) Try.underlying81 rfl rfl (by kernel_rfl)) ?_
  refine lf_val (v := .int .i64 u.k) (wantAll rfl) (rv_load1 rfl (hH.blk (i := 0) rfl) (zT_g0 u.h0.2 u.h1.2 u.o.2 u.x.2 u.jh.2 u.r.h.2 u.r.b.2) (fr_eval rfl rfl) Try.underlying3 rfl Try.sz3) ?_
  refine lf_val (v := .pointer (some ⟨g1, 1, none⟩)) (wantAll rfl) (rv_fieldAddr (n := 0) rfl (fr_eval rfl e1) Try.underlying81 rfl rfl (by kernel_rfl)) ?_
  refine lf_val (v := .int .i64 u.a) (wantAll rfl) (rv_load1 rfl (hH.blk (i := 0) rfl) (zT_g1 u.h0.2 u.h1.2 u.o.2 u.x.2 u.jh.2 u.r.h.2 u.r.b.2) (fr_eval rfl rfl) Try.underlying3 rfl Try.sz3) ?_
  refine lf_val (v := .pointer (some ⟨g1, 2, none⟩)) (wantAll rfl) (rv_fieldAddr (n := 0) rfl (fr_eval rfl e1) Try.underlying81 rfl rfl (by kernel_rfl)) ?_
  refine lf_val (v := .int .i64 u.b) (wantAll rfl) (rv_load1 rfl (hH.blk (i := 0) rfl) (zT_g2 u.h0.2 u.h1.2 u.o.2 u.x.2 u.jh.2 u.r.h.2 u.r.b.2) (fr_eval rfl rfl) Try.underlying3 rfl Try.sz3) ?_
  refine lf_ex (wantAll rfl) (hx_lits hH Try.stInt (n := 3) (nm := List.length [u.k, u.a, u.b]) [(.tmp 10), (.tmp 12), (.tmp 14)] (vs := [(.int .i64 u.k), (.int .i64 u.a), (.int .i64 u.b)]) (cs := List.flatMap cI [u.k, u.a, u.b]) rfl (evc (fr_eval rfl rfl) (evc (fr_eval rfl rfl) (evc (fr_eval rfl rfl) evn))) (row_one (l := [u.k, u.a, u.b]) cI_one) rfl (by decide) rfl rfl) ?_
  clear hH
  rintro y1 w4 ⟨hH, hx⟩
  replace hH : Heap _ _ _ [_, _, _] := hH
  clear hx
  replace hH : Heap _ _ _ [_, _, _] := hH.toPen (i := 1) rfl rfl
  refine lf_call (wantAll rfl) (rv_call (args := [.pointer (some ⟨g2, 0, none⟩), y1]) rfl (evc (fr_eval rfl e4) (evc (fr_eval rfl rfl) evn)) Try.call27) (penNums_calls (in3 ik ia ib) _ (Own.rd (hH.own (i := 2) rfl) (row_one cI_one)) (fun k hk h0 e => apart_at hH.apart (i := 2) (j := 1) rfl rfl (by decide) k hk (Or.inl e)) (fun k hk h0 h => apart_at hH.apart (i := 2) (j := 1) rfl rfl (by decide) k hk (Or.inr h)) (hH.pen (i := 1) rfl) (by first | omega | (simp only [List.length_append]; omega) | (simp only [List.length_append, List.length_cons, List.length_nil]; omega))) ?_
  rintro _ w5 ⟨rfl, hp⟩
  refine ⟨_, rfl, ?_⟩
  obtain ⟨y2, hH', hx, hxf, hgr⟩ := hH.penPost (i := 1) (l2 := puts [u.k, u.a, u.b]) rfl (fun _ => rfl) hp
  clear hH hp
  have hH : Heap _ _ _ [_, _, _] := hH'
  clear hH'
  clear hxf hgr hx
  refine lf_nil ?_
  refine then_n ?_
  refine wp_seq ?_
  replace hH : Heap _ _ _ [_, _] := hH.drop (.cons_cons _ (.cons_cons _ (.cons _ .slnil)))
  refine wp_gen (fun F' => F' 0 = .agg (([.int .i64 u.k, .int .i64 u.a, .int .i64 u.b, .int .i64 u.c0, .int .i64 u.c1, .int .i64 u.c2] : List Value) ++ (cBs u.h0.1 ++ (cBs u.h1.1 ++ (([.int .i64 u.g] : List Value) ++ (cBs u.o.1 ++ (([.int .i64 u.n] : List Value) ++ (cBs u.x.1 ++ (([.int .i64 u.jc, .int .i64 u.js] : List Value) ++ (cBs u.jh.1 ++ (([vb, .int .i64 u.r.t, .int .i64 u.r.c, .int .i64 u.r.s] : List Value) ++ (cBs u.r.h.1 ++ (cBs u.r.b.1 ++ ([vg] : List Value))))))))))))).toArray ∧ F' 1 = .pointer (some ⟨g1, 0, none⟩) ∧ F' 2 = .slice none 0 0 ∧ F' 3 = .int .i64 0 ∧ F' 4 = .pointer (some ⟨g2, 0, none⟩) ∧ F' 8 = .bool false) ⟨e0, e1, e2, e3, e4, e8⟩ ?_
  clear e0 e1 e2 e3 e4 e8
  clear F
  rintro F ⟨e0, e1, e2, e3, e4, e8⟩
  refine wp_regionF ?_
  refine lf_val (v := .pointer (some ⟨g1, 3, none⟩)) (wantAll rfl) (rv_fieldAddr (n := 66) rfl (fr_eval rfl e1) Try.underlying81 rfl rfl (by kernel_rfl)) ?_
  refine lf_val (wantAll rfl) (rv_loadP rfl (hH.blk (i := 0) rfl) (zT_p22 u.h0.2 u.h1.2 u.o.2 u.x.2 u.jh.2 u.r.h.2 u.r.b.2) (zT_l21 u.h0.2 u.h1.2) (fr_eval rfl rfl) Try.underlying75 rfl Try.sz75) ?_
  refine lf_ex (wantAll rfl) (hx_alloc hH 75 (z := .agg (([.int .i64 0, .int .i64 0, .int .i64 0] : List Value) ++ (cBs (List.replicate 32 0) ++ cBs (List.replicate 32 0))).toArray) (n := 67) (cs := ([.int .i64 0, .int .i64 0, .int .i64 0] : List Value) ++ (cBs (List.replicate 32 0) ++ cBs (List.replicate 32 0))) rfl (by kernel_rfl) (by rfl)) ?_
  clear hH
  rintro _ w6 ⟨g3, rfl, hH, hx⟩
  replace hH : Heap _ _ _ [_, _, _] := hH
  clear hx
  refine lf_sk (wantAll rfl) (hx_storeW hH (i := 2) (cs := ([.int .i64 u.c0, .int .i64 u.c1, .int .i64 u.c2] : List Value) ++ (cBs u.h0.1 ++ cBs u.h1.1)) rfl rfl rfl (fr_eval rfl rfl) (fr_eval rfl rfl) (sz_len Try.sz75 (zT_l21 u.h0.2 u.h1.2)) (((zT_l21 (List.length_replicate ..) (List.length_replicate ..))).trans ((zT_l21 u.h0.2 u.h1.2)).symm) (zT_o23 rfl rfl rfl)) ?_
  clear hH
  rintro w7 ⟨hH, hx⟩
  replace hH : Heap _ _ _ [_, _, _] := hH
  clear hx
  refine lf_nil ?_
  refine then_n ?_
  refine wp_seq ?_
  refine wp_seq ?_
  refine wp_gen (fun F' => F' 0 = .agg (([.int .i64 u.k, .int .i64 u.a, .int .i64 u.b, .int .i64 u.c0, .int .i64 u.c1, .int .i64 u.c2] : List Value) ++ (cBs u.h0.1 ++ (cBs u.h1.1 ++ (([.int .i64 u.g] : List Value) ++ (cBs u.o.1 ++ (([.int .i64 u.n] : List Value) ++ (cBs u.x.1 ++ (([.int .i64 u.jc, .int .i64 u.js] : List Value) ++ (cBs u.jh.1 ++ (([vb, .int .i64 u.r.t, .int .i64 u.r.c, .int .i64 u.r.s] : List Value) ++ (cBs u.r.h.1 ++ (cBs u.r.b.1 ++ ([vg] : List Value))))))))))))).toArray ∧ F' 1 = .pointer (some ⟨g1, 0, none⟩) ∧ F' 2 = .slice none 0 0 ∧ F' 3 = .int .i64 0 ∧ F' 4 = .pointer (some ⟨g2, 0, none⟩) ∧ F' 5 = .pointer (some ⟨g3, 0, none⟩) ∧ F' 8 = .bool false) ⟨e0, e1, e2, e3, e4, rfl, e8⟩ ?_
  clear e0 e1 e2 e3 e4 e8
  clear F
  rintro F ⟨e0, e1, e2, e3, e4, e5, e8⟩
  refine wp_regionF ?_
  refine lf_val (v := .pointer (some ⟨g1, 0, none⟩)) (wantAll rfl) (rv_fieldAddr (n := 0) rfl (fr_eval rfl e1) Try.underlying81 rfl rfl (by kernel_rfl)) ?_
  refine lf_val (v := .int .i64 u.k) (wantAll rfl) (rv_load1 rfl (hH.blk (i := 0) rfl) (zT_g0 u.h0.2 u.h1.2 u.o.2 u.x.2 u.jh.2 u.r.h.2 u.r.b.2) (fr_eval rfl rfl) Try.underlying3 rfl Try.sz3) ?_
  refine lf_nil ?_
  refine then_n ?_
  refine wp_block ?_
  refine wp_seq ?_
  refine wp_gen (fun F' => F' 0 = .agg (([.int .i64 u.k, .int .i64 u.a, .int .i64 u.b, .int .i64 u.c0, .int .i64 u.c1, .int .i64 u.c2] : List Value) ++ (cBs u.h0.1 ++ (cBs u.h1.1 ++ (([.int .i64 u.g] : List Value) ++ (cBs u.o.1 ++ (([.int .i64 u.n] : List Value) ++ (cBs u.x.1 ++ (([.int .i64 u.jc, .int .i64 u.js] : List Value) ++ (cBs u.jh.1 ++ (([vb, .int .i64 u.r.t, .int .i64 u.r.c, .int .i64 u.r.s] : List Value) ++ (cBs u.r.h.1 ++ (cBs u.r.b.1 ++ ([vg] : List Value))))))))))))).toArray ∧ F' 1 = .pointer (some ⟨g1, 0, none⟩) ∧ F' 2 = .slice none 0 0 ∧ F' 3 = .int .i64 0 ∧ F' 4 = .pointer (some ⟨g2, 0, none⟩) ∧ F' 5 = .pointer (some ⟨g3, 0, none⟩) ∧ F' 8 = .bool false ∧ F' 20 = .int .i64 u.k) ⟨e0, e1, e2, e3, e4, e5, e8, rfl⟩ ?_
  clear e0 e1 e2 e3 e4 e5 e8
  clear F
  rintro F ⟨e0, e1, e2, e3, e4, e5, e8, e20⟩
  refine wp_regionF ?_
  refine lf_val (v := .bool (decide (u.k = 1))) (wantAll rfl) (rv_eqlP (p := u.k = 1) rfl (fr_eval rfl e20) rfl Iff.rfl) ?_
  refine lf_val (v := .bool (decide (u.k = 1))) (wantAll rfl) (rv_assign rfl (fr_eval rfl rfl)) ?_
  refine lf_nil ?_
  refine then_n ?_
  refine wp_gen (fun F' => F' 0 = .agg (([.int .i64 u.k, .int .i64 u.a, .int .i64 u.b, .int .i64 u.c0, .int .i64 u.c1, .int .i64 u.c2] : List Value) ++ (cBs u.h0.1 ++ (cBs u.h1.1 ++ (([.int .i64 u.g] : List Value) ++ (cBs u.o.1 ++ (([.int .i64 u.n] : List Value) ++ (cBs u.x.1 ++ (([.int .i64 u.jc, .int .i64 u.js] : List Value) ++ (cBs u.jh.1 ++ (([vb, .int .i64 u.r.t, .int .i64 u.r.c, .int .i64 u.r.s] : List Value) ++ (cBs u.r.h.1 ++ (cBs u.r.b.1 ++ ([vg] : List Value))))))))))))).toArray ∧ F' 1 = .pointer (some ⟨g1, 0, none⟩) ∧ F' 2 = .slice none 0 0 ∧ F' 3 = .int .i64 0 ∧ F' 4 = .pointer (some ⟨g2, 0, none⟩) ∧ F' 5 = .pointer (some ⟨g3, 0, none⟩) ∧ F' 8 = .bool false ∧ F' 20 = .int .i64 u.k ∧ F' 25 = .bool (decide (u.k = 1))) ⟨e0, e1, e2, e3, e4, e5, e8, e20, rfl⟩ ?_
  clear e0 e1 e2 e3 e4 e5 e8 e20
  clear F
  rintro F ⟨e0, e1, e2, e3, e4, e5, e8, e20, e25⟩
  by_cases hc1 : u.k = 1
  · refine wp_cond_true (fr_eval rfl (e25.trans (congrArg Value.bool (decide_eq_true hc1)))) ?_
    have hs_1 := hH.fixed1 (j := 0) (i := 1) rfl rfl (by decide)
    have hs_4 := hH.fixed1 (j := 2) (i := 1) rfl rfl (by decide)
    have hKN := hH.sub1 (i := 1) rfl
    have hcK : Chg (newK w7 (oPen g2 y2 (puts [u.k, u.a, u.b])).fp) w7 w7 := Chg.refl _ _
    have hfM : ∀ k, (oPen g2 y2 (puts [u.k, u.a, u.b])).fp k → (newK w7 (oPen g2 y2 (puts [u.k, u.a, u.b])).fp) k := fun k h => Or.inr h
    refine wp_regionX (newK w7 (oPen g2 y2 (puts [u.k, u.a, u.b])).fp) 23 (by kernel_rfl) (by kernel_rfl) ?_
    refine xl_take (i := 0) (v := .pointer (some ⟨g3, 0, none⟩)) rfl (by kernel_rfl) (by kernel_rfl) (by kernel_rfl) (by kernel_rfl) (yx_val (wantAll rfl) (fun w' hx' => rv_fieldAddr (n := 0) rfl (fr_eval rfl e5) Try.underlying75 rfl rfl (by kernel_rfl))) ?_
    refine xl_take (i := 1) (v := .int .i64 u.c0) rfl (by kernel_rfl) (by kernel_rfl) (by kernel_rfl) (by kernel_rfl) (yx_val (wantAll rfl) (fun w' hx' => rv_load1 rfl (hs_4 _ (hcK.trans hx')) (zT_g24 u.h0.2 u.h1.2) (fr_eval rfl rfl) Try.underlying3 rfl Try.sz3)) ?_
    refine xl_take (i := 2) (v := .pointer (some ⟨g3, 1, none⟩)) rfl (by kernel_rfl) (by kernel_rfl) (by kernel_rfl) (by kernel_rfl) (yx_val (wantAll rfl) (fun w' hx' => rv_fieldAddr (n := 0) rfl (fr_eval rfl e5) Try.underlying75 rfl rfl (by kernel_rfl))) ?_
    refine xl_take (i := 3) (v := .int .i64 u.c1) rfl (by kernel_rfl) (by kernel_rfl) (by kernel_rfl) (by kernel_rfl) (yx_val (wantAll rfl) (fun w' hx' => rv_load1 rfl (hs_4 _ (hcK.trans hx')) (zT_g25 u.h0.2 u.h1.2) (fr_eval rfl rfl) Try.underlying2 rfl Try.sz2)) ?_
    refine xl_take (i := 4) (v := .pointer (some ⟨g3, 2, none⟩)) rfl (by kernel_rfl) (by kernel_rfl) (by kernel_rfl) (by kernel_rfl) (yx_val (wantAll rfl) (fun w' hx' => rv_fieldAddr (n := 0) rfl (fr_eval rfl e5) Try.underlying75 rfl rfl (by kernel_rfl))) ?_
    refine xl_take (i := 5) (v := .int .i64 u.c2) rfl (by kernel_rfl) (by kernel_rfl) (by kernel_rfl) (by kernel_rfl) (yx_val (wantAll rfl) (fun w' hx' => rv_load1 rfl (hs_4 _ (hcK.trans hx')) (zT_g26 u.h0.2 u.h1.2) (fr_eval rfl rfl) Try.underlying2 rfl Try.sz2)) ?_
    refine xl_take (i := 8) (v := .pointer (some ⟨g3, 3, none⟩)) rfl (by kernel_rfl) (by kernel_rfl) (by kernel_rfl) (by kernel_rfl) (yx_val (wantAll rfl) (fun w' hx' => rv_fieldAddr (n := 63) rfl (fr_eval rfl e5) Try.underlying75 rfl rfl (by kernel_rfl))) ?_
    refine xl_take (i := 9) (v := .pointer (some ⟨g3, 3, none⟩)) rfl (by kernel_rfl) (by kernel_rfl) (by kernel_rfl) (by kernel_rfl) (yx_val (wantAll rfl) (fun w' hx' => (show (execOp _ _).run _ _ = .ok (.value (.pointer (some ⟨g3, 3, none⟩))) _ from rv_indexArr (size := 32) (off := 3) (i := 0) rfl (fr_eval rfl rfl) (show _ = Value.int _ ((0 : Nat) : Int) from rfl) (by decide) Try.underlying73 Try.sz45))) ?_
    refine xl_take (i := 10) (v := .agg (cBs u.h0.1).toArray) rfl (by kernel_rfl) (by kernel_rfl) (by kernel_rfl) (by kernel_rfl) (yx_val (wantAll rfl) (fun w' hx' => rv_loadP rfl (hs_4 _ (hcK.trans hx')) (zT_p27 u.h0.2 u.h1.2) (cBs_len u.h0.2) (fr_eval rfl rfl) Try.underlying45 rfl Try.sz45)) ?_
    refine xl_take (i := 12) (v := .pointer (some ⟨g3, 3, none⟩)) rfl (by kernel_rfl) (by kernel_rfl) (by kernel_rfl) (by kernel_rfl) (yx_val (wantAll rfl) (fun w' hx' => rv_fieldAddr (n := 63) rfl (fr_eval rfl e5) Try.underlying75 rfl rfl (by kernel_rfl))) ?_
    refine xl_take (i := 13) (v := .pointer (some ⟨g3, 35, none⟩)) rfl (by kernel_rfl) (by kernel_rfl) (by kernel_rfl) (by kernel_rfl) (yx_val (wantAll rfl) (fun w' hx' => (show (execOp _ _).run _ _ = .ok (.value (.pointer (some ⟨g3, 35, none⟩))) _ from rv_indexArr (size := 32) (off := 3) (i := 1) rfl (fr_eval rfl rfl) (show _ = Value.int _ ((1 : Nat) : Int) from rfl) (by decide) Try.underlying73 Try.sz45))) ?_
    refine xl_take (i := 14) (v := .agg (cBs u.h1.1).toArray) rfl (by kernel_rfl) (by kernel_rfl) (by kernel_rfl) (by kernel_rfl) (yx_val (wantAll rfl) (fun w' hx' => rv_loadP rfl (hs_4 _ (hcK.trans hx')) (zT_p28 u.h0.2 u.h1.2) (cBs_len u.h1.2) (fr_eval rfl rfl) Try.underlying45 rfl Try.sz45)) ?_
    refine xl_take (i := 16) (v := .pointer (some ⟨g1, 70, none⟩)) rfl (by kernel_rfl) (by kernel_rfl) (by kernel_rfl) (by kernel_rfl) (yx_val (wantAll rfl) (fun w' hx' => rv_fieldAddr (n := 32) rfl (fr_eval rfl e1) Try.underlying81 rfl rfl (by kernel_rfl))) ?_
    refine xl_take (i := 17) (v := .pointer (some ⟨g1, 70, none⟩)) rfl (by kernel_rfl) (by kernel_rfl) (by kernel_rfl) (by kernel_rfl) (yx_val (wantAll rfl) (fun w' hx' => rv_fieldAddr (n := 0) rfl (fr_eval rfl rfl) Try.underlying77 rfl rfl (by kernel_rfl))) ?_
    refine xl_take (i := 18) (v := .int .i64 u.g) rfl (by kernel_rfl) (by kernel_rfl) (by kernel_rfl) (by kernel_rfl) (yx_val (wantAll rfl) (fun w' hx' => rv_load1 rfl (hs_1 _ (hcK.trans hx')) (zT_g12 u.h0.2 u.h1.2 u.o.2 u.x.2 u.jh.2 u.r.h.2 u.r.b.2) (fr_eval rfl rfl) Try.underlying3 rfl Try.sz3)) ?_
    refine xl_take (i := 20) (v := .pointer (some ⟨g1, 70, none⟩)) rfl (by kernel_rfl) (by kernel_rfl) (by kernel_rfl) (by kernel_rfl) (yx_val (wantAll rfl) (fun w' hx' => rv_fieldAddr (n := 32) rfl (fr_eval rfl e1) Try.underlying81 rfl rfl (by kernel_rfl))) ?_
    refine xl_take (i := 21) (v := .pointer (some ⟨g1, 71, none⟩)) rfl (by kernel_rfl) (by kernel_rfl) (by kernel_rfl) (by kernel_rfl) (yx_val (wantAll rfl) (fun w' hx' => rv_fieldAddr (n := 31) rfl (fr_eval rfl rfl) Try.underlying77 rfl rfl (by kernel_rfl))) ?_
    refine xl_take (i := 22) (v := .agg (cBs u.o.1).toArray) rfl (by kernel_rfl) (by kernel_rfl) (by kernel_rfl) (by kernel_rfl) (yx_val (wantAll rfl) (fun w' hx' => rv_loadP rfl (hs_1 _ (hcK.trans hx')) (zT_p13 u.h0.2 u.h1.2 u.o.2 u.x.2 u.jh.2 u.r.h.2 u.r.b.2) (cBs_len u.o.2) (fr_eval rfl rfl) Try.underlying45 rfl Try.sz45)) ?_
    refine anyX_ready (rs := [6]) (by kernel_rfl) ?_
    intro w8 hx
    replace hH := hH.ext hx
    replace hcK := hcK.trans (Ext.any hx)
    clear hx
    refine (anyX_cons ?_ anyX_nil)
    refine xl_step (i := 6) rfl (wantAll rfl) ?_
    refine of_ex (hx_lits hH Try.stInt (n := 3) (nm := List.length [u.c0, u.c1, u.c2]) [(.tmp 28), (.tmp 30), (.tmp 32)] (vs := [(.int .i64 u.c0), (.int .i64 u.c1), (.int .i64 u.c2)]) (cs := List.flatMap cI [u.c0, u.c1, u.c2]) rfl (evc (fr_eval rfl rfl) (evc (fr_eval rfl rfl) (evc (fr_eval rfl rfl) evn))) (row_one (l := [u.c0, u.c1, u.c2]) cI_one) rfl (by decide) rfl rfl) ?_
    clear hH
    rintro y3 w9 ⟨hH, hx⟩
    replace hH : Heap _ _ _ [_, _, _, _] := hH
    replace hcK := hcK.trans (Ext.any hx)
    refine ⟨(Ext.any hx), ?_⟩
    clear hx
    refine anyX_ready (rs := [7]) (by kernel_rfl) ?_
    intro w10 hx
    replace hH := hH.ext hx
    replace hcK := hcK.trans (Ext.any hx)
    clear hx
    refine (anyX_cons ?_ anyX_nil)
    refine xl_step (i := 7) rfl (wantAll rfl) ?_
    refine of_call (rv_call (args := [.pointer (some ⟨g2, 0, none⟩), y3]) rfl (evc (fr_eval rfl e4) (evc (fr_eval rfl rfl) evn)) Try.call27) (penNums_calls (in3 i0 i1 i2) _ (Own.rd (hH.own (i := 3) rfl) (row_one cI_one)) (fun k hk h0 e => apart_at hH.apart (i := 3) (j := 1) rfl rfl (by decide) k hk (Or.inl e)) (fun k hk h0 h => apart_at hH.apart (i := 3) (j := 1) rfl rfl (by decide) k hk (Or.inr h)) (hH.pen (i := 1) rfl) (by first | omega | (simp only [List.length_append]; omega) | (simp only [List.length_append, List.length_cons, List.length_nil]; omega))) ?_
    rintro _ w11 ⟨rfl, hp⟩
    refine ⟨_, rfl, ?_⟩
    obtain ⟨y4, hH', hx, hxf, hgr⟩ := hH.penPost (i := 1) (l2 := puts [u.k, u.a, u.b] ++ puts [u.c0, u.c1, u.c2]) rfl (fun _ => rfl) hp
    clear hH hp
    have hH : Heap _ _ _ [_, _, _, _] := hH'
    clear hH'
    have hcx := hxf.mono (fun k _ hk => hfM k hk)
    replace hfM := grow1 (fun k h => Or.inl h) hcK.size hfM hgr
    replace hcK := hcK.trans hcx
    refine ⟨hcx, ?_⟩
    clear hcx hxf hgr hx
    refine anyX_ready (rs := [11]) (by kernel_rfl) ?_
    intro w12 hx
    replace hH := hH.ext hx
    replace hcK := hcK.trans (Ext.any hx)
    clear hx
    refine (anyX_cons ?_ anyX_nil)
    refine xl_step (i := 11) rfl (wantAll rfl) ?_
    refine of_call (rv_call (args := [.pointer (some ⟨g2, 0, none⟩), .agg (cBs u.h0.1).toArray]) rfl (evc (fr_eval rfl rfl) (evc (fr_eval rfl rfl) evn)) Try.call26) (penSum_calls u.h0.1 u.h0.2 _ (hH.pen (i := 1) rfl) (by first | omega | (simp only [List.length_append]; omega) | (simp only [List.length_append, List.length_cons, List.length_nil]; omega))) ?_
    rintro _ w13 ⟨rfl, hp⟩
    refine ⟨_, rfl, ?_⟩
    obtain ⟨y5, hH', hx, hxf, hgr⟩ := hH.penPost (i := 1) (l2 := puts [u.k, u.a, u.b] ++ puts [u.c0, u.c1, u.c2] ++ u.h0.1) rfl (fun _ => rfl) hp
    clear hH hp
    have hH : Heap _ _ _ [_, _, _, _] := hH'
    clear hH'
    have hcx := hxf.mono (fun k _ hk => hfM k hk)
    replace hfM := grow1 (fun k h => Or.inl h) hcK.size hfM hgr
    replace hcK := hcK.trans hcx
    refine ⟨hcx, ?_⟩
    clear hcx hxf hgr hx
    refine anyX_ready (rs := [15]) (by kernel_rfl) ?_
    intro w14 hx
    replace hH := hH.ext hx
    replace hcK := hcK.trans (Ext.any hx)
    clear hx
    refine (anyX_cons ?_ anyX_nil)
    refine xl_step (i := 15) rfl (wantAll rfl) ?_
    refine of_call (rv_call (args := [.pointer (some ⟨g2, 0, none⟩), .agg (cBs u.h1.1).toArray]) rfl (evc (fr_eval rfl rfl) (evc (fr_eval rfl rfl) evn)) Try.call26) (penSum_calls u.h1.1 u.h1.2 _ (hH.pen (i := 1) rfl) (by first | omega | (simp only [List.length_append]; omega) | (simp only [List.length_append, List.length_cons, List.length_nil]; omega))) ?_
    rintro _ w15 ⟨rfl, hp⟩
    refine ⟨_, rfl, ?_⟩
    obtain ⟨y6, hH', hx, hxf, hgr⟩ := hH.penPost (i := 1) (l2 := puts [u.k, u.a, u.b] ++ puts [u.c0, u.c1, u.c2] ++ u.h0.1 ++ u.h1.1) rfl (fun _ => rfl) hp
    clear hH hp
    have hH : Heap _ _ _ [_, _, _, _] := hH'
    clear hH'
    have hcx := hxf.mono (fun k _ hk => hfM k hk)
    replace hfM := grow1 (fun k h => Or.inl h) hcK.size hfM hgr
    replace hcK := hcK.trans hcx
    refine ⟨hcx, ?_⟩
    clear hcx hxf hgr hx
    refine anyX_ready (rs := [19]) (by kernel_rfl) ?_
    intro w16 hx
    replace hH := hH.ext hx
    replace hcK := hcK.trans (Ext.any hx)
    clear hx
    refine (anyX_cons ?_ anyX_nil)
    refine xl_step (i := 19) rfl (wantAll rfl) ?_
    refine of_call (rv_call (args := [.pointer (some ⟨g2, 0, none⟩), .int .i64 u.g]) rfl (evc (fr_eval rfl rfl) (evc (fr_eval rfl rfl) evn)) Try.call24) (penNum_calls u.g (by omega) _ (hH.pen (i := 1) rfl) (by first | omega | (simp only [List.length_append]; omega) | (simp only [List.length_append, List.length_cons, List.length_nil]; omega))) ?_
    rintro _ w17 ⟨rfl, hp⟩
    refine ⟨_, rfl, ?_⟩
    obtain ⟨y7, hH', hx, hxf, hgr⟩ := hH.penPost (i := 1) (l2 := puts [u.k, u.a, u.b] ++ puts [u.c0, u.c1, u.c2] ++ u.h0.1 ++ u.h1.1 ++ put u.g) rfl (fun _ => rfl) hp
    clear hH hp
    have hH : Heap _ _ _ [_, _, _, _] := hH'
    clear hH'
    have hcx := hxf.mono (fun k _ hk => hfM k hk)
    replace hfM := grow1 (fun k h => Or.inl h) hcK.size hfM hgr
    replace hcK := hcK.trans hcx
    refine ⟨hcx, ?_⟩
    clear hcx hxf hgr hx
    refine xl_tail (s := 23) rfl ?_
    intro w18 hx
    replace hH := hH.ext hx
    clear hx
    clear hs_1 hs_4 hKN hcK hfM
    refine lf_call (wantAll rfl) (rv_call (args := [.pointer (some ⟨g2, 0, none⟩), .agg (cBs u.o.1).toArray]) rfl (evc (fr_eval rfl rfl) (evc (fr_eval rfl rfl) evn)) Try.call26) (penSum_calls u.o.1 u.o.2 _ (hH.pen (i := 1) rfl) (by first | omega | (simp only [List.length_append]; omega) | (simp only [List.length_append, List.length_cons, List.length_nil]; omega))) ?_
    rintro _ w19 ⟨rfl, hp⟩
    refine ⟨_, rfl, ?_⟩
    obtain ⟨y8, hH', hx, hxf, hgr⟩ := hH.penPost (i := 1) (l2 := puts [u.k, u.a, u.b] ++ puts [u.c0, u.c1, u.c2] ++ u.h0.1 ++ u.h1.1 ++ put u.g ++ u.o.1) rfl (fun _ => rfl) hp
    clear hH hp
    have hH : Heap _ _ _ [_, _, _, _] := hH'
    clear hH'
    clear hxf hgr hx
    refine lf_nil ?_
    refine blk_n ?_
    refine then_n ?_
    refine wp_seq ?_
    replace hH : Heap _ _ _ [_, _, _] := hH.drop (.cons_cons _ (.cons_cons _ (.cons_cons _ (.cons _ .slnil))))
    refine wp_gen (fun F' => F' 0 = .agg (([.int .i64 u.k, .int .i64 u.a, .int .i64 u.b, .int .i64 u.c0, .int .i64 u.c1, .int .i64 u.c2] : List Value) ++ (cBs u.h0.1 ++ (cBs u.h1.1 ++ (([.int .i64 u.g] : List Value) ++ (cBs u.o.1 ++ (([.int .i64 u.n] : List Value) ++ (cBs u.x.1 ++ (([.int .i64 u.jc, .int .i64 u.js] : List Value) ++ (cBs u.jh.1 ++ (([vb, .int .i64 u.r.t, .int .i64 u.r.c, .int .i64 u.r.s] : List Value) ++ (cBs u.r.h.1 ++ (cBs u.r.b.1 ++ ([vg] : List Value))))))))))))).toArray ∧ F' 1 = .pointer (some ⟨g1, 0, none⟩) ∧ F' 2 = .slice none 0 0 ∧ F' 3 = .int .i64 0 ∧ F' 4 = .pointer (some ⟨g2, 0, none⟩) ∧ F' 5 = .pointer (some ⟨g3, 0, none⟩) ∧ F' 8 = .bool false ∧ F' 20 = .int .i64 u.k ∧ F' 25 = .bool true) ⟨e0, e1, e2, e3, e4, e5, e8, e20, (e25.trans (congrArg Value.bool (decide_eq_true hc1)))⟩ ?_
    clear e0 e1 e2 e3 e4 e5 e8 e20 e25
    clear F
    rintro F ⟨e0, e1, e2, e3, e4, e5, e8, e20, e25⟩
    refine wp_regionF ?_
    refine lf_call (wantAll rfl) (rv_call (args := [.pointer (some ⟨g2, 0, none⟩)]) rfl (evc (fr_eval rfl e4) evn) Try.call28) (penBytes_calls _ (hH.pen (i := 1) rfl) (by first | omega | (simp only [List.length_append]; omega) | (simp only [List.length_append, List.length_cons, List.length_nil]; omega))) ?_
    rintro _ w20 ⟨⟨y9, rfl, ho, hg⟩, hx⟩
    refine ⟨_, rfl, ?_⟩
    replace hH : Heap _ _ _ [_, _, _, _] := hH.addOwn hx hg ho
    clear ho hg
    clear hx
    refine lf_val (v := y9) (wantAll rfl) (rv_assign rfl (fr_eval rfl rfl)) ?_
    refine lf_val (v := .int .i64 0) (wantAll rfl) (rv_assign rfl rfl) ?_
    refine lf_nil ?_
    refine then_n ?_
    refine wp_gen (fun F' => F' 0 = .agg (([.int .i64 u.k, .int .i64 u.a, .int .i64 u.b, .int .i64 u.c0, .int .i64 u.c1, .int .i64 u.c2] : List Value) ++ (cBs u.h0.1 ++ (cBs u.h1.1 ++ (([.int .i64 u.g] : List Value) ++ (cBs u.o.1 ++ (([.int .i64 u.n] : List Value) ++ (cBs u.x.1 ++ (([.int .i64 u.jc, .int .i64 u.js] : List Value) ++ (cBs u.jh.1 ++ (([vb, .int .i64 u.r.t, .int .i64 u.r.c, .int .i64 u.r.s] : List Value) ++ (cBs u.r.h.1 ++ (cBs u.r.b.1 ++ ([vg] : List Value))))))))))))).toArray ∧ F' 1 = .pointer (some ⟨g1, 0, none⟩) ∧ F' 2 = y9 ∧ F' 3 = .int .i64 0 ∧ F' 4 = .pointer (some ⟨g2, 0, none⟩) ∧ F' 5 = .pointer (some ⟨g3, 0, none⟩) ∧ F' 8 = .bool false ∧ F' 20 = .int .i64 u.k ∧ F' 25 = .bool true) ⟨e0, e1, rfl, rfl, e4, e5, e8, e20, e25⟩ ?_
    clear e0 e1 e2 e3 e4 e5 e8 e20 e25
    clear F
    rintro F ⟨e0, e1, e2, e3, e4, e5, e8, e20, e25⟩
    refine wp_ret ?_
    exact bodyPost_ret (v := .tuple #[y9, .int .i64 0]) (res2 rfl (ro_tmp rfl e2) (ro_tmp rfl e3)) rfl (⟨⟨_, rfl, (by have h1 := hH.own (i := 3) rfl; have e : puts [u.k, u.a, u.b] ++ puts [u.c0, u.c1, u.c2] ++ u.h0.1 ++ u.h1.1 ++ put u.g ++ u.o.1 = textM u bl sg := (by unfold textM restM; (first | rw [if_pos (by omega)] | rw [if_neg (by omega), if_pos (by omega)] | rw [if_neg (by omega), if_neg (by omega), if_pos (by omega)] | rw [if_neg (by omega), if_neg (by omega), if_neg (by omega), if_pos (by omega)] | rw [if_neg (by omega), if_neg (by omega), if_neg (by omega), if_neg (by omega)]); simp [puts]); rw [e] at h1; exact h1), hH.ge (i := 3) rfl⟩, hH.done⟩)
  · refine wp_cond_false (fr_eval rfl (e25.trans (congrArg Value.bool (decide_eq_false hc1)))) ?_
    refine wp_seq ?_
    refine wp_regionF ?_
    refine lf_val (v := .bool (decide (u.k = 2))) (wantAll rfl) (rv_eqlP (p := u.k = 2) rfl (fr_eval rfl e20) rfl Iff.rfl) ?_
    refine lf_val (v := .bool (decide (u.k = 2))) (wantAll rfl) (rv_assign rfl (fr_eval rfl rfl)) ?_
    refine lf_nil ?_
    refine then_n ?_
    refine wp_gen (fun F' => F' 0 = .agg (([.int .i64 u.k, .int .i64 u.a, .int .i64 u.b, .int .i64 u.c0, .int .i64 u.c1, .int .i64 u.c2] : List Value) ++ (cBs u.h0.1 ++ (cBs u.h1.1 ++ (([.int .i64 u.g] : List Value) ++ (cBs u.o.1 ++ (([.int .i64 u.n] : List Value) ++ (cBs u.x.1 ++ (([.int .i64 u.jc, .int .i64 u.js] : List Value) ++ (cBs u.jh.1 ++ (([vb, .int .i64 u.r.t, .int .i64 u.r.c, .int .i64 u.r.s] : List Value) ++ (cBs u.r.h.1 ++ (cBs u.r.b.1 ++ ([vg] : List Value))))))))))))).toArray ∧ F' 1 = .pointer (some ⟨g1, 0, none⟩) ∧ F' 2 = .slice none 0 0 ∧ F' 3 = .int .i64 0 ∧ F' 4 = .pointer (some ⟨g2, 0, none⟩) ∧ F' 5 = .pointer (some ⟨g3, 0, none⟩) ∧ F' 8 = .bool false ∧ F' 20 = .int .i64 u.k ∧ F' 25 = .bool false ∧ F' 51 = .bool (decide (u.k = 2))) ⟨e0, e1, e2, e3, e4, e5, e8, e20, (e25.trans (congrArg Value.bool (decide_eq_false hc1))), rfl⟩ ?_
    clear e0 e1 e2 e3 e4 e5 e8 e20 e25
    clear F
    rintro F ⟨e0, e1, e2, e3, e4, e5, e8, e20, e25, e51⟩
    by_cases hc2 : u.k = 2
    · refine wp_cond_true (fr_eval rfl (e51.trans (congrArg Value.bool (decide_eq_true hc2)))) ?_
      have hs_1 := hH.fixed1 (j := 0) (i := 1) rfl rfl (by decide)
      have hs_4 := hH.fixed1 (j := 2) (i := 1) rfl rfl (by decide)
      have hKN := hH.sub1 (i := 1) rfl
      have hcK : Chg (newK w7 (oPen g2 y2 (puts [u.k, u.a, u.b])).fp) w7 w7 := Chg.refl _ _
      have hfM : ∀ k, (oPen g2 y2 (puts [u.k, u.a, u.b])).fp k → (newK w7 (oPen g2 y2 (puts [u.k, u.a, u.b])).fp) k := fun k h => Or.inr h
      refine wp_regionX (newK w7 (oPen g2 y2 (puts [u.k, u.a, u.b])).fp) 13 (by kernel_rfl) (by kernel_rfl) ?_
      refine xl_take (i := 0) (v := .pointer (some ⟨g1, 103, none⟩)) rfl (by kernel_rfl) (by kernel_rfl) (by kernel_rfl) (by kernel_rfl) (yx_val (wantAll rfl) (fun w' hx' => rv_fieldAddr (n := 0) rfl (fr_eval rfl e1) Try.underlying81 rfl rfl (by kernel_rfl))) ?_
      refine xl_take (i := 1) (v := .int .i64 u.n) rfl (by kernel_rfl) (by kernel_rfl) (by kernel_rfl) (by kernel_rfl) (yx_val (wantAll rfl) (fun w' hx' => rv_load1 rfl (hs_1 _ (hcK.trans hx')) (zT_g14 u.h0.2 u.h1.2 u.o.2 u.x.2 u.jh.2 u.r.h.2 u.r.b.2) (fr_eval rfl rfl) Try.underlying3 rfl Try.sz3)) ?_
      refine xl_take (i := 3) (v := .pointer (some ⟨g1, 104, none⟩)) rfl (by kernel_rfl) (by kernel_rfl) (by kernel_rfl) (by kernel_rfl) (yx_val (wantAll rfl) (fun w' hx' => rv_fieldAddr (n := 31) rfl (fr_eval rfl e1) Try.underlying81 rfl rfl (by kernel_rfl))) ?_
      refine xl_take (i := 4) (v := .agg (cBs u.x.1).toArray) rfl (by kernel_rfl) (by kernel_rfl) (by kernel_rfl) (by kernel_rfl) (yx_val (wantAll rfl) (fun w' hx' => rv_loadP rfl (hs_1 _ (hcK.trans hx')) (zT_p15 u.h0.2 u.h1.2 u.o.2 u.x.2 u.jh.2 u.r.h.2 u.r.b.2) (cBs_len u.x.2) (fr_eval rfl rfl) Try.underlying45 rfl Try.sz45)) ?_
      refine xl_take (i := 6) (v := .pointer (some ⟨g1, 70, none⟩)) rfl (by kernel_rfl) (by kernel_rfl) (by kernel_rfl) (by kernel_rfl) (yx_val (wantAll rfl) (fun w' hx' => rv_fieldAddr (n := 32) rfl (fr_eval rfl e1) Try.underlying81 rfl rfl (by kernel_rfl))) ?_
      refine xl_take (i := 7) (v := .pointer (some ⟨g1, 70, none⟩)) rfl (by kernel_rfl) (by kernel_rfl) (by kernel_rfl) (by kernel_rfl) (yx_val (wantAll rfl) (fun w' hx' => rv_fieldAddr (n := 0) rfl (fr_eval rfl rfl) Try.underlying77 rfl rfl (by kernel_rfl))) ?_
      refine xl_take (i := 8) (v := .int .i64 u.g) rfl (by kernel_rfl) (by kernel_rfl) (by kernel_rfl) (by kernel_rfl) (yx_val (wantAll rfl) (fun w' hx' => rv_load1 rfl (hs_1 _ (hcK.trans hx')) (zT_g12 u.h0.2 u.h1.2 u.o.2 u.x.2 u.jh.2 u.r.h.2 u.r.b.2) (fr_eval rfl rfl) Try.underlying3 rfl Try.sz3)) ?_
      refine xl_take (i := 10) (v := .pointer (some ⟨g1, 70, none⟩)) rfl (by kernel_rfl) (by kernel_rfl) (by kernel_rfl) (by kernel_rfl) (yx_val (wantAll rfl) (fun w' hx' => rv_fieldAddr (n := 32) rfl (fr_eval rfl e1) Try.underlying81 rfl rfl (by kernel_rfl))) ?_
      refine xl_take (i := 11) (v := .pointer (some ⟨g1, 71, none⟩)) rfl (by kernel_rfl) (by kernel_rfl) (by kernel_rfl) (by kernel_rfl) (yx_val (wantAll rfl) (fun w' hx' => rv_fieldAddr (n := 31) rfl (fr_eval rfl rfl) Try.underlying77 rfl rfl (by kernel_rfl))) ?_
      refine xl_take (i := 12) (v := .agg (cBs u.o.1).toArray) rfl (by kernel_rfl) (by kernel_rfl) (by kernel_rfl) (by kernel_rfl) (yx_val (wantAll rfl) (fun w' hx' => rv_loadP rfl (hs_1 _ (hcK.trans hx')) (zT_p13 u.h0.2 u.h1.2 u.o.2 u.x.2 u.jh.2 u.r.h.2 u.r.b.2) (cBs_len u.o.2) (fr_eval rfl rfl) Try.underlying45 rfl Try.sz45)) ?_
      refine anyX_ready (rs := [2]) (by kernel_rfl) ?_
      intro w21 hx
      replace hH := hH.ext hx
      replace hcK := hcK.trans (Ext.any hx)
      clear hx
      refine (anyX_cons ?_ anyX_nil)
      refine xl_step (i := 2) rfl (wantAll rfl) ?_
      refine of_call (rv_call (args := [.pointer (some ⟨g2, 0, none⟩), .int .i64 u.n]) rfl (evc (fr_eval rfl e4) (evc (fr_eval rfl rfl) evn)) Try.call24) (penNum_calls u.n (by omega) _ (hH.pen (i := 1) rfl) (by first | omega | (simp only [List.length_append]; omega) | (simp only [List.length_append, List.length_cons, List.length_nil]; omega))) ?_
      rintro _ w22 ⟨rfl, hp⟩
      refine ⟨_, rfl, ?_⟩
      obtain ⟨y10, hH', hx, hxf, hgr⟩ := hH.penPost (i := 1) (l2 := puts [u.k, u.a, u.b] ++ put u.n) rfl (fun _ => rfl) hp
      clear hH hp
      have hH : Heap _ _ _ [_, _, _] := hH'
      clear hH'
      have hcx := hxf.mono (fun k _ hk => hfM k hk)
      replace hfM := grow1 (fun k h => Or.inl h) hcK.size hfM hgr
      replace hcK := hcK.trans hcx
      refine ⟨hcx, ?_⟩
      clear hcx hxf hgr hx
      refine anyX_ready (rs := [5]) (by kernel_rfl) ?_
      intro w23 hx
      replace hH := hH.ext hx
      replace hcK := hcK.trans (Ext.any hx)
      clear hx
      refine (anyX_cons ?_ anyX_nil)
      refine xl_step (i := 5) rfl (wantAll rfl) ?_
      refine of_call (rv_call (args := [.pointer (some ⟨g2, 0, none⟩), .agg (cBs u.x.1).toArray]) rfl (evc (fr_eval rfl rfl) (evc (fr_eval rfl rfl) evn)) Try.call26) (penSum_calls u.x.1 u.x.2 _ (hH.pen (i := 1) rfl) (by first | omega | (simp only [List.length_append]; omega) | (simp only [List.length_append, List.length_cons, List.length_nil]; omega))) ?_
      rintro _ w24 ⟨rfl, hp⟩
      refine ⟨_, rfl, ?_⟩
      obtain ⟨y11, hH', hx, hxf, hgr⟩ := hH.penPost (i := 1) (l2 := puts [u.k, u.a, u.b] ++ put u.n ++ u.x.1) rfl (fun _ => rfl) hp
      clear hH hp
      have hH : Heap _ _ _ [_, _, _] := hH'
      clear hH'
      have hcx := hxf.mono (fun k _ hk => hfM k hk)
      replace hfM := grow1 (fun k h => Or.inl h) hcK.size hfM hgr
      replace hcK := hcK.trans hcx
      refine ⟨hcx, ?_⟩
      clear hcx hxf hgr hx
      refine anyX_ready (rs := [9]) (by kernel_rfl) ?_
      intro w25 hx
      replace hH := hH.ext hx
      replace hcK := hcK.trans (Ext.any hx)
      clear hx
      refine (anyX_cons ?_ anyX_nil)
      refine xl_step (i := 9) rfl (wantAll rfl) ?_
      refine of_call (rv_call (args := [.pointer (some ⟨g2, 0, none⟩), .int .i64 u.g]) rfl (evc (fr_eval rfl rfl) (evc (fr_eval rfl rfl) evn)) Try.call24) (penNum_calls u.g (by omega) _ (hH.pen (i := 1) rfl) (by first | omega | (simp only [List.length_append]; omega) | (simp only [List.length_append, List.length_cons, List.length_nil]; omega))) ?_
      rintro _ w26 ⟨rfl, hp⟩
      refine ⟨_, rfl, ?_⟩
      obtain ⟨y12, hH', hx, hxf, hgr⟩ := hH.penPost (i := 1) (l2 := puts [u.k, u.a, u.b] ++ put u.n ++ u.x.1 ++ put u.g) rfl (fun _ => rfl) hp
      clear hH hp
      have hH : Heap _ _ _ [_, _, _] := hH'
      clear hH'
      have hcx := hxf.mono (fun k _ hk => hfM k hk)
      replace hfM := grow1 (fun k h => Or.inl h) hcK.size hfM hgr
      replace hcK := hcK.trans hcx
      refine ⟨hcx, ?_⟩
      clear hcx hxf hgr hx
      refine xl_tail (s := 13) rfl ?_
      intro w27 hx
      replace hH := hH.ext hx
      clear hx
      clear hs_1 hs_4 hKN hcK hfM
      refine lf_call (wantAll rfl) (rv_call (args := [.pointer (some ⟨g2, 0, none⟩), .agg (cBs u.o.1).toArray]) rfl (evc (fr_eval rfl rfl) (evc (fr_eval rfl rfl) evn)) Try.call26) (penSum_calls u.o.1 u.o.2 _ (hH.pen (i := 1) rfl) (by first | omega | (simp only [List.length_append]; omega) | (simp only [List.length_append, List.length_cons, List.length_nil]; omega))) ?_
      rintro _ w28 ⟨rfl, hp⟩
      refine ⟨_, rfl, ?_⟩
      obtain ⟨y13, hH', hx, hxf, hgr⟩ := hH.penPost (i := 1) (l2 := puts [u.k, u.a, u.b] ++ put u.n ++ u.x.1 ++ put u.g ++ u.o.1) rfl (fun _ => rfl) hp
      clear hH hp
      have hH : Heap _ _ _ [_, _, _] := hH'
      clear hH'
      clear hxf hgr hx
      refine lf_nil ?_
      refine blk_n ?_
      refine then_n ?_
      refine wp_seq ?_
      refine wp_gen (fun F' => F' 0 = .agg (([.int .i64 u.k, .int .i64 u.a, .int .i64 u.b, .int .i64 u.c0, .int .i64 u.c1, .int .i64 u.c2] : List Value) ++ (cBs u.h0.1 ++ (cBs u.h1.1 ++ (([.int .i64 u.g] : List Value) ++ (cBs u.o.1 ++ (([.int .i64 u.n] : List Value) ++ (cBs u.x.1 ++ (([.int .i64 u.jc, .int .i64 u.js] : List Value) ++ (cBs u.jh.1 ++ (([vb, .int .i64 u.r.t, .int .i64 u.r.c, .int .i64 u.r.s] : List Value) ++ (cBs u.r.h.1 ++ (cBs u.r.b.1 ++ ([vg] : List Value))))))))))))).toArray ∧ F' 1 = .pointer (some ⟨g1, 0, none⟩) ∧ F' 2 = .slice none 0 0 ∧ F' 3 = .int .i64 0 ∧ F' 4 = .pointer (some ⟨g2, 0, none⟩) ∧ F' 5 = .pointer (some ⟨g3, 0, none⟩) ∧ F' 8 = .bool false ∧ F' 20 = .int .i64 u.k ∧ F' 25 = .bool false ∧ F' 51 = .bool true) ⟨e0, e1, e2, e3, e4, e5, e8, e20, e25, (e51.trans (congrArg Value.bool (decide_eq_true hc2)))⟩ ?_
      clear e0 e1 e2 e3 e4 e5 e8 e20 e25 e51
      clear F
      rintro F ⟨e0, e1, e2, e3, e4, e5, e8, e20, e25, e51⟩
      refine wp_regionF ?_
      refine lf_call (wantAll rfl) (rv_call (args := [.pointer (some ⟨g2, 0, none⟩)]) rfl (evc (fr_eval rfl e4) evn) Try.call28) (penBytes_calls _ (hH.pen (i := 1) rfl) (by first | omega | (simp only [List.length_append]; omega) | (simp only [List.length_append, List.length_cons, List.length_nil]; omega))) ?_
      rintro _ w29 ⟨⟨y14, rfl, ho, hg⟩, hx⟩
      refine ⟨_, rfl, ?_⟩
      replace hH : Heap _ _ _ [_, _, _, _] := hH.addOwn hx hg ho
      clear ho hg
      clear hx
      refine lf_val (v := y14) (wantAll rfl) (rv_assign rfl (fr_eval rfl rfl)) ?_
      refine lf_val (v := .int .i64 0) (wantAll rfl) (rv_assign rfl rfl) ?_
      refine lf_nil ?_
      refine then_n ?_
      refine wp_gen (fun F' => F' 0 = .agg (([.int .i64 u.k, .int .i64 u.a, .int .i64 u.b, .int .i64 u.c0, .int .i64 u.c1, .int .i64 u.c2] : List Value) ++ (cBs u.h0.1 ++ (cBs u.h1.1 ++ (([.int .i64 u.g] : List Value) ++ (cBs u.o.1 ++ (([.int .i64 u.n] : List Value) ++ (cBs u.x.1 ++ (([.int .i64 u.jc, .int .i64 u.js] : List Value) ++ (cBs u.jh.1 ++ (([vb, .int .i64 u.r.t, .int .i64 u.r.c, .int .i64 u.r.s] : List Value) ++ (cBs u.r.h.1 ++ (cBs u.r.b.1 ++ ([vg] : List Value))))))))))))).toArray ∧ F' 1 = .pointer (some ⟨g1, 0, none⟩) ∧ F' 2 = y14 ∧ F' 3 = .int .i64 0 ∧ F' 4 = .pointer (some ⟨g2, 0, none⟩) ∧ F' 5 = .pointer (some ⟨g3, 0, none⟩) ∧ F' 8 = .bool false ∧ F' 20 = .int .i64 u.k ∧ F' 25 = .bool false ∧ F' 51 = .bool true) ⟨e0, e1, rfl, rfl, e4, e5, e8, e20, e25, e51⟩ ?_
      clear e0 e1 e2 e3 e4 e5 e8 e20 e25 e51
      clear F
      rintro F ⟨e0, e1, e2, e3, e4, e5, e8, e20, e25, e51⟩
      refine wp_ret ?_
      exact bodyPost_ret (v := .tuple #[y14, .int .i64 0]) (res2 rfl (ro_tmp rfl e2) (ro_tmp rfl e3)) rfl (⟨⟨_, rfl, (by have h1 := hH.own (i := 3) rfl; have e : puts [u.k, u.a, u.b] ++ put u.n ++ u.x.1 ++ put u.g ++ u.o.1 = textM u bl sg := (by unfold textM restM; (first | rw [if_pos (by omega)] | rw [if_neg (by omega), if_pos (by omega)] | rw [if_neg (by omega), if_neg (by omega), if_pos (by omega)] | rw [if_neg (by omega), if_neg (by omega), if_neg (by omega), if_pos (by omega)] | rw [if_neg (by omega), if_neg (by omega), if_neg (by omega), if_neg (by omega)]); simp [puts]); rw [e] at h1; exact h1), hH.ge (i := 3) rfl⟩, hH.done⟩)
    · refine wp_cond_false (fr_eval rfl (e51.trans (congrArg Value.bool (decide_eq_false hc2)))) ?_
      refine wp_seq ?_
      refine wp_regionF ?_
      refine lf_val (v := .bool (decide (u.k = 3))) (wantAll rfl) (rv_eqlP (p := u.k = 3) rfl (fr_eval rfl e20) rfl Iff.rfl) ?_
      refine lf_val (v := .bool (decide (u.k = 3))) (wantAll rfl) (rv_assign rfl (fr_eval rfl rfl)) ?_
      refine lf_nil ?_
      refine then_n ?_
      refine wp_gen (fun F' => F' 0 = .agg (([.int .i64 u.k, .int .i64 u.a, .int .i64 u.b, .int .i64 u.c0, .int .i64 u.c1, .int .i64 u.c2] : List Value) ++ (cBs u.h0.1 ++ (cBs u.h1.1 ++ (([.int .i64 u.g] : List Value) ++ (cBs u.o.1 ++ (([.int .i64 u.n] : List Value) ++ (cBs u.x.1 ++ (([.int .i64 u.jc, .int .i64 u.js] : List Value) ++ (cBs u.jh.1 ++ (([vb, .int .i64 u.r.t, .int .i64 u.r.c, .int .i64 u.r.s] : List Value) ++ (cBs u.r.h.1 ++ (cBs u.r.b.1 ++ ([vg] : List Value))))))))))))).toArray ∧ F' 1 = .pointer (some ⟨g1, 0, none⟩) ∧ F' 2 = .slice none 0 0 ∧ F' 3 = .int .i64 0 ∧ F' 4 = .pointer (some ⟨g2, 0, none⟩) ∧ F' 5 = .pointer (some ⟨g3, 0, none⟩) ∧ F' 8 = .bool false ∧ F' 20 = .int .i64 u.k ∧ F' 25 = .bool false ∧ F' 51 = .bool false ∧ F' 67 = .bool (decide (u.k = 3))) ⟨e0, e1, e2, e3, e4, e5, e8, e20, e25, (e51.trans (congrArg Value.bool (decide_eq_false hc2))), rfl⟩ ?_
      clear e0 e1 e2 e3 e4 e5 e8 e20 e25 e51
      clear F
      rintro F ⟨e0, e1, e2, e3, e4, e5, e8, e20, e25, e51, e67⟩
      by_cases hc3 : u.k = 3
      · refine wp_cond_true (fr_eval rfl (e67.trans (congrArg Value.bool (decide_eq_true hc3)))) ?_
        have hs_1 := hH.fixed1 (j := 0) (i := 1) rfl rfl (by decide)
        have hs_4 := hH.fixed1 (j := 2) (i := 1) rfl rfl (by decide)
        have hKN := hH.sub1 (i := 1) rfl
        have hcK : Chg (newK w7 (oPen g2 y2 (puts [u.k, u.a, u.b])).fp) w7 w7 := Chg.refl _ _
        have hfM : ∀ k, (oPen g2 y2 (puts [u.k, u.a, u.b])).fp k → (newK w7 (oPen g2 y2 (puts [u.k, u.a, u.b])).fp) k := fun k h => Or.inr h
        refine wp_regionX (newK w7 (oPen g2 y2 (puts [u.k, u.a, u.b])).fp) 5 (by kernel_rfl) (by kernel_rfl) ?_
        refine xl_take (i := 0) (v := .pointer (some ⟨g1, 103, none⟩)) rfl (by kernel_rfl) (by kernel_rfl) (by kernel_rfl) (by kernel_rfl) (yx_val (wantAll rfl) (fun w' hx' => rv_fieldAddr (n := 0) rfl (fr_eval rfl e1) Try.underlying81 rfl rfl (by kernel_rfl))) ?_
        refine xl_take (i := 1) (v := .int .i64 u.n) rfl (by kernel_rfl) (by kernel_rfl) (by kernel_rfl) (by kernel_rfl) (yx_val (wantAll rfl) (fun w' hx' => rv_load1 rfl (hs_1 _ (hcK.trans hx')) (zT_g14 u.h0.2 u.h1.2 u.o.2 u.x.2 u.jh.2 u.r.h.2 u.r.b.2) (fr_eval rfl rfl) Try.underlying3 rfl Try.sz3)) ?_
        refine xl_take (i := 3) (v := .pointer (some ⟨g1, 104, none⟩)) rfl (by kernel_rfl) (by kernel_rfl) (by kernel_rfl) (by kernel_rfl) (yx_val (wantAll rfl) (fun w' hx' => rv_fieldAddr (n := 31) rfl (fr_eval rfl e1) Try.underlying81 rfl rfl (by kernel_rfl))) ?_
        refine xl_take (i := 4) (v := .agg (cBs u.x.1).toArray) rfl (by kernel_rfl) (by kernel_rfl) (by kernel_rfl) (by kernel_rfl) (yx_val (wantAll rfl) (fun w' hx' => rv_loadP rfl (hs_1 _ (hcK.trans hx')) (zT_p15 u.h0.2 u.h1.2 u.o.2 u.x.2 u.jh.2 u.r.h.2 u.r.b.2) (cBs_len u.x.2) (fr_eval rfl rfl) Try.underlying45 rfl Try.sz45)) ?_
        refine anyX_ready (rs := [2]) (by kernel_rfl) ?_
        intro w30 hx
        replace hH := hH.ext hx
        replace hcK := hcK.trans (Ext.any hx)
        clear hx
        refine (anyX_cons ?_ anyX_nil)
        refine xl_step (i := 2) rfl (wantAll rfl) ?_
        refine of_call (rv_call (args := [.pointer (some ⟨g2, 0, none⟩), .int .i64 u.n]) rfl (evc (fr_eval rfl e4) (evc (fr_eval rfl rfl) evn)) Try.call24) (penNum_calls u.n (by omega) _ (hH.pen (i := 1) rfl) (by first | omega | (simp only [List.length_append]; omega) | (simp only [List.length_append, List.length_cons, List.length_nil]; omega))) ?_
        rintro _ w31 ⟨rfl, hp⟩
        refine ⟨_, rfl, ?_⟩
        obtain ⟨y15, hH', hx, hxf, hgr⟩ := hH.penPost (i := 1) (l2 := puts [u.k, u.a, u.b] ++ put u.n) rfl (fun _ => rfl) hp
        clear hH hp
        have hH : Heap _ _ _ [_, _, _] := hH'
        clear hH'
        have hcx := hxf.mono (fun k _ hk => hfM k hk)
        replace hfM := grow1 (fun k h => Or.inl h) hcK.size hfM hgr
        replace hcK := hcK.trans hcx
        refine ⟨hcx, ?_⟩
        clear hcx hxf hgr hx
        refine xl_tail (s := 5) rfl ?_
        intro w32 hx
        replace hH := hH.ext hx
        clear hx
        clear hs_1 hs_4 hKN hcK hfM
        refine lf_call (wantAll rfl) (rv_call (args := [.pointer (some ⟨g2, 0, none⟩), .agg (cBs u.x.1).toArray]) rfl (evc (fr_eval rfl rfl) (evc (fr_eval rfl rfl) evn)) Try.call26) (penSum_calls u.x.1 u.x.2 _ (hH.pen (i := 1) rfl) (by first | omega | (simp only [List.length_append]; omega) | (simp only [List.length_append, List.length_cons, List.length_nil]; omega))) ?_
        rintro _ w33 ⟨rfl, hp⟩
        refine ⟨_, rfl, ?_⟩
        obtain ⟨y16, hH', hx, hxf, hgr⟩ := hH.penPost (i := 1) (l2 := puts [u.k, u.a, u.b] ++ put u.n ++ u.x.1) rfl (fun _ => rfl) hp
        clear hH hp
        have hH : Heap _ _ _ [_, _, _] := hH'
        clear hH'
        clear hxf hgr hx
        refine lf_nil ?_
        refine blk_n ?_
        refine then_n ?_
        refine wp_seq ?_
        refine wp_gen (fun F' => F' 0 = .agg (([.int .i64 u.k, .int .i64 u.a, .int .i64 u.b, .int .i64 u.c0, .int .i64 u.c1, .int .i64 u.c2] : List Value) ++ (cBs u.h0.1 ++ (cBs u.h1.1 ++ (([.int .i64 u.g] : List Value) ++ (cBs u.o.1 ++ (([.int .i64 u.n] : List Value) ++ (cBs u.x.1 ++ (([.int .i64 u.jc, .int .i64 u.js] : List Value) ++ (cBs u.jh.1 ++ (([vb, .int .i64 u.r.t, .int .i64 u.r.c, .int .i64 u.r.s] : List Value) ++ (cBs u.r.h.1 ++ (cBs u.r.b.1 ++ ([vg] : List Value))))))))))))).toArray ∧ F' 1 = .pointer (some ⟨g1, 0, none⟩) ∧ F' 2 = .slice none 0 0 ∧ F' 3 = .int .i64 0 ∧ F' 4 = .pointer (some ⟨g2, 0, none⟩) ∧ F' 5 = .pointer (some ⟨g3, 0, none⟩) ∧ F' 8 = .bool false ∧ F' 20 = .int .i64 u.k ∧ F' 25 = .bool false ∧ F' 51 = .bool false ∧ F' 67 = .bool true) ⟨e0, e1, e2, e3, e4, e5, e8, e20, e25, e51, (e67.trans (congrArg Value.bool (decide_eq_true hc3)))⟩ ?_
        clear e0 e1 e2 e3 e4 e5 e8 e20 e25 e51 e67
        clear F
        rintro F ⟨e0, e1, e2, e3, e4, e5, e8, e20, e25, e51, e67⟩
        refine wp_regionF ?_
        refine lf_call (wantAll rfl) (rv_call (args := [.pointer (some ⟨g2, 0, none⟩)]) rfl (evc (fr_eval rfl e4) evn) Try.call28) (penBytes_calls _ (hH.pen (i := 1) rfl) (by first | omega | (simp only [List.length_append]; omega) | (simp only [List.length_append, List.length_cons, List.length_nil]; omega))) ?_
        rintro _ w34 ⟨⟨y17, rfl, ho, hg⟩, hx⟩
        refine ⟨_, rfl, ?_⟩
        replace hH : Heap _ _ _ [_, _, _, _] := hH.addOwn hx hg ho
        clear ho hg
        clear hx
        refine lf_val (v := y17) (wantAll rfl) (rv_assign rfl (fr_eval rfl rfl)) ?_
        refine lf_val (v := .int .i64 0) (wantAll rfl) (rv_assign rfl rfl) ?_
        refine lf_nil ?_
        refine then_n ?_
        refine wp_gen (fun F' => F' 0 = .agg (([.int .i64 u.k, .int .i64 u.a, .int .i64 u.b, .int .i64 u.c0, .int .i64 u.c1, .int .i64 u.c2] : List Value) ++ (cBs u.h0.1 ++ (cBs u.h1.1 ++ (([.int .i64 u.g] : List Value) ++ (cBs u.o.1 ++ (([.int .i64 u.n] : List Value) ++ (cBs u.x.1 ++ (([.int .i64 u.jc, .int .i64 u.js] : List Value) ++ (cBs u.jh.1 ++ (([vb, .int .i64 u.r.t, .int .i64 u.r.c, .int .i64 u.r.s] : List Value) ++ (cBs u.r.h.1 ++ (cBs u.r.b.1 ++ ([vg] : List Value))))))))))))).toArray ∧ F' 1 = .pointer (some ⟨g1, 0, none⟩) ∧ F' 2 = y17 ∧ F' 3 = .int .i64 0 ∧ F' 4 = .pointer (some ⟨g2, 0, none⟩) ∧ F' 5 = .pointer (some ⟨g3, 0, none⟩) ∧ F' 8 = .bool false ∧ F' 20 = .int .i64 u.k ∧ F' 25 = .bool false ∧ F' 51 = .bool false ∧ F' 67 = .bool true) ⟨e0, e1, rfl, rfl, e4, e5, e8, e20, e25, e51, e67⟩ ?_
        clear e0 e1 e2 e3 e4 e5 e8 e20 e25 e51 e67
        clear F
        rintro F ⟨e0, e1, e2, e3, e4, e5, e8, e20, e25, e51, e67⟩
        refine wp_ret ?_
        exact bodyPost_ret (v := .tuple #[y17, .int .i64 0]) (res2 rfl (ro_tmp rfl e2) (ro_tmp rfl e3)) rfl (⟨⟨_, rfl, (by have h1 := hH.own (i := 3) rfl; have e : puts [u.k, u.a, u.b] ++ put u.n ++ u.x.1 = textM u bl sg := (by unfold textM restM; (first | rw [if_pos (by omega)] | rw [if_neg (by omega), if_pos (by omega)] | rw [if_neg (by omega), if_neg (by omega), if_pos (by omega)] | rw [if_neg (by omega), if_neg (by omega), if_neg (by omega), if_pos (by omega)] | rw [if_neg (by omega), if_neg (by omega), if_neg (by omega), if_neg (by omega)]); simp [puts]); rw [e] at h1; exact h1), hH.ge (i := 3) rfl⟩, hH.done⟩)
      · refine wp_cond_false (fr_eval rfl (e67.trans (congrArg Value.bool (decide_eq_false hc3)))) ?_
        refine wp_seq ?_
        refine wp_regionF ?_
        refine lf_val (v := .bool (decide (u.k = 4))) (wantAll rfl) (rv_eqlP (p := u.k = 4) rfl (fr_eval rfl e20) rfl Iff.rfl) ?_
        refine lf_val (v := .bool (decide (u.k = 4))) (wantAll rfl) (rv_assign rfl (fr_eval rfl rfl)) ?_
        refine lf_nil ?_
        refine then_n ?_
        refine wp_gen (fun F' => F' 0 = .agg (([.int .i64 u.k, .int .i64 u.a, .int .i64 u.b, .int .i64 u.c0, .int .i64 u.c1, .int .i64 u.c2] : List Value) ++ (cBs u.h0.1 ++ (cBs u.h1.1 ++ (([.int .i64 u.g] : List Value) ++ (cBs u.o.1 ++ (([.int .i64 u.n] : List Value) ++ (cBs u.x.1 ++ (([.int .i64 u.jc, .int .i64 u.js] : List Value) ++ (cBs u.jh.1 ++ (([vb, .int .i64 u.r.t, .int .i64 u.r.c, .int .i64 u.r.s] : List Value) ++ (cBs u.r.h.1 ++ (cBs u.r.b.1 ++ ([vg] : List Value))))))))))))).toArray ∧ F' 1 = .pointer (some ⟨g1, 0, none⟩) ∧ F' 2 = .slice none 0 0 ∧ F' 3 = .int .i64 0 ∧ F' 4 = .pointer (some ⟨g2, 0, none⟩) ∧ F' 5 = .pointer (some ⟨g3, 0, none⟩) ∧ F' 8 = .bool false ∧ F' 20 = .int .i64 u.k ∧ F' 25 = .bool false ∧ F' 51 = .bool false ∧ F' 67 = .bool false ∧ F' 75 = .bool (decide (u.k = 4))) ⟨e0, e1, e2, e3, e4, e5, e8, e20, e25, e51, (e67.trans (congrArg Value.bool (decide_eq_false hc3))), rfl⟩ ?_
        clear e0 e1 e2 e3 e4 e5 e8 e20 e25 e51 e67
        clear F
        rintro F ⟨e0, e1, e2, e3, e4, e5, e8, e20, e25, e51, e67, e75⟩
        by_cases hc4 : u.k = 4
        · refine wp_cond_true (fr_eval rfl (e75.trans (congrArg Value.bool (decide_eq_true hc4)))) ?_
          refine wp_regionF ?_
          refine lf_val (v := .pointer (some ⟨g1, 136, none⟩)) (wantAll rfl) (rv_fieldAddr (n := 34) rfl (fr_eval rfl e1) Try.underlying81 rfl rfl (by kernel_rfl)) ?_
          refine lf_val (wantAll rfl) (rv_loadP rfl (hH.blk (i := 0) rfl) (zT_p17 u.h0.2 u.h1.2 u.o.2 u.x.2 u.jh.2 u.r.h.2 u.r.b.2) (zT_l16 u.jh.2) (fr_eval rfl rfl) Try.underlying79 rfl Try.sz79) ?_
          refine lf_call (wantAll rfl) (rv_call (args := [.agg (([.int .i64 u.jc, .int .i64 u.js] : List Value) ++ (cBs u.jh.1 ++ ([vb] : List Value))).toArray]) rfl (evc (fr_eval rfl rfl) evn) Try.call62) (jobPut_calls u.jc u.js u.jh ijc ijs bl (by omega) _ _ (hbl.rd _ hH.chg)) ?_
          rintro _ w35 ⟨⟨y18, rfl, ho, hg⟩, hx⟩
          refine ⟨_, rfl, ?_⟩
          replace hH : Heap _ _ _ [_, _, _, _] := hH.addOwn hx hg ho
          clear ho hg
          clear hx
          refine lf_call (wantAll rfl) (rv_call (args := [.pointer (some ⟨g2, 0, none⟩), y18]) rfl (evc (fr_eval rfl e4) (evc (fr_eval rfl rfl) evn)) Try.call25) (penText_calls (by omega) _ (OwnB.rd (hH.own (i := 3) rfl)) (fun k hk h0 e => apart_at hH.apart (i := 3) (j := 1) rfl rfl (by decide) k hk (Or.inl e)) (fun k hk h0 h => apart_at hH.apart (i := 3) (j := 1) rfl rfl (by decide) k hk (Or.inr h)) (hH.pen (i := 1) rfl) (by first | omega | (simp only [List.length_append]; omega) | (simp only [List.length_append, List.length_cons, List.length_nil]; omega))) ?_
          rintro _ w36 ⟨rfl, hp⟩
          refine ⟨_, rfl, ?_⟩
          obtain ⟨y19, hH', hx, hxf, hgr⟩ := hH.penPost (i := 1) (l2 := puts [u.k, u.a, u.b] ++ put (((textJ u.jc u.js u.jh bl).length : Nat) : Int) ++ (textJ u.jc u.js u.jh bl)) rfl (fun _ => rfl) hp
          clear hH hp
          have hH : Heap _ _ _ [_, _, _, _] := hH'
          clear hH'
          clear hxf hgr hx
          refine lf_nil ?_
          refine blk_n ?_
          refine then_n ?_
          refine wp_seq ?_
          replace hH : Heap _ _ _ [_, _, _] := hH.drop (.cons_cons _ (.cons_cons _ (.cons_cons _ (.cons _ .slnil))))
          refine wp_gen (fun F' => F' 0 = .agg (([.int .i64 u.k, .int .i64 u.a, .int .i64 u.b, .int .i64 u.c0, .int .i64 u.c1, .int .i64 u.c2] : List Value) ++ (cBs u.h0.1 ++ (cBs u.h1.1 ++ (([.int .i64 u.g] : List Value) ++ (cBs u.o.1 ++ (([.int .i64 u.n] : List Value) ++ (cBs u.x.1 ++ (([.int .i64 u.jc, .int .i64 u.js] : List Value) ++ (cBs u.jh.1 ++ (([vb, .int .i64 u.r.t, .int .i64 u.r.c, .int .i64 u.r.s] : List Value) ++ (cBs u.r.h.1 ++ (cBs u.r.b.1 ++ ([vg] : List Value))))))))))))).toArray ∧ F' 1 = .pointer (some ⟨g1, 0, none⟩) ∧ F' 2 = .slice none 0 0 ∧ F' 3 = .int .i64 0 ∧ F' 4 = .pointer (some ⟨g2, 0, none⟩) ∧ F' 5 = .pointer (some ⟨g3, 0, none⟩) ∧ F' 8 = .bool false ∧ F' 20 = .int .i64 u.k ∧ F' 25 = .bool false ∧ F' 51 = .bool false ∧ F' 67 = .bool false ∧ F' 75 = .bool true) ⟨e0, e1, e2, e3, e4, e5, e8, e20, e25, e51, e67, (e75.trans (congrArg Value.bool (decide_eq_true hc4)))⟩ ?_
          clear e0 e1 e2 e3 e4 e5 e8 e20 e25 e51 e67 e75
          clear F
          rintro F ⟨e0, e1, e2, e3, e4, e5, e8, e20, e25, e51, e67, e75⟩
          refine wp_regionF ?_
          refine lf_call (wantAll rfl) (rv_call (args := [.pointer (some ⟨g2, 0, none⟩)]) rfl (evc (fr_eval rfl e4) evn) Try.call28) (penBytes_calls _ (hH.pen (i := 1) rfl) (by first | omega | (simp only [List.length_append]; omega) | (simp only [List.length_append, List.length_cons, List.length_nil]; omega))) ?_
          rintro _ w37 ⟨⟨y20, rfl, ho, hg⟩, hx⟩
          refine ⟨_, rfl, ?_⟩
          replace hH : Heap _ _ _ [_, _, _, _] := hH.addOwn hx hg ho
          clear ho hg
          clear hx
          refine lf_val (v := y20) (wantAll rfl) (rv_assign rfl (fr_eval rfl rfl)) ?_
          refine lf_val (v := .int .i64 0) (wantAll rfl) (rv_assign rfl rfl) ?_
          refine lf_nil ?_
          refine then_n ?_
          refine wp_gen (fun F' => F' 0 = .agg (([.int .i64 u.k, .int .i64 u.a, .int .i64 u.b, .int .i64 u.c0, .int .i64 u.c1, .int .i64 u.c2] : List Value) ++ (cBs u.h0.1 ++ (cBs u.h1.1 ++ (([.int .i64 u.g] : List Value) ++ (cBs u.o.1 ++ (([.int .i64 u.n] : List Value) ++ (cBs u.x.1 ++ (([.int .i64 u.jc, .int .i64 u.js] : List Value) ++ (cBs u.jh.1 ++ (([vb, .int .i64 u.r.t, .int .i64 u.r.c, .int .i64 u.r.s] : List Value) ++ (cBs u.r.h.1 ++ (cBs u.r.b.1 ++ ([vg] : List Value))))))))))))).toArray ∧ F' 1 = .pointer (some ⟨g1, 0, none⟩) ∧ F' 2 = y20 ∧ F' 3 = .int .i64 0 ∧ F' 4 = .pointer (some ⟨g2, 0, none⟩) ∧ F' 5 = .pointer (some ⟨g3, 0, none⟩) ∧ F' 8 = .bool false ∧ F' 20 = .int .i64 u.k ∧ F' 25 = .bool false ∧ F' 51 = .bool false ∧ F' 67 = .bool false ∧ F' 75 = .bool true) ⟨e0, e1, rfl, rfl, e4, e5, e8, e20, e25, e51, e67, e75⟩ ?_
          clear e0 e1 e2 e3 e4 e5 e8 e20 e25 e51 e67 e75
          clear F
          rintro F ⟨e0, e1, e2, e3, e4, e5, e8, e20, e25, e51, e67, e75⟩
          refine wp_ret ?_
          exact bodyPost_ret (v := .tuple #[y20, .int .i64 0]) (res2 rfl (ro_tmp rfl e2) (ro_tmp rfl e3)) rfl (⟨⟨_, rfl, (by have h1 := hH.own (i := 3) rfl; have e : puts [u.k, u.a, u.b] ++ put (((textJ u.jc u.js u.jh bl).length : Nat) : Int) ++ (textJ u.jc u.js u.jh bl) = textM u bl sg := (by unfold textM restM; (first | rw [if_pos (by omega)] | rw [if_neg (by omega), if_pos (by omega)] | rw [if_neg (by omega), if_neg (by omega), if_pos (by omega)] | rw [if_neg (by omega), if_neg (by omega), if_neg (by omega), if_pos (by omega)] | rw [if_neg (by omega), if_neg (by omega), if_neg (by omega), if_neg (by omega)]); simp [puts]); rw [e] at h1; exact h1), hH.ge (i := 3) rfl⟩, hH.done⟩)
        · refine wp_cond_false (fr_eval rfl (e75.trans (congrArg Value.bool (decide_eq_false hc4)))) ?_
          refine wp_regionF ?_
          refine lf_val (v := .pointer (some ⟨g1, 171, none⟩)) (wantAll rfl) (rv_fieldAddr (n := 67) rfl (fr_eval rfl e1) Try.underlying81 rfl rfl (by kernel_rfl)) ?_
          refine lf_val (wantAll rfl) (rv_loadP rfl (hH.blk (i := 0) rfl) (zT_p19 u.h0.2 u.h1.2 u.o.2 u.x.2 u.jh.2 u.r.h.2 u.r.b.2) (zT_l18 u.r.h.2 u.r.b.2) (fr_eval rfl rfl) Try.underlying61 rfl Try.sz61) ?_
          refine lf_call (wantAll rfl) (rv_call (args := [.agg (([.int .i64 u.r.t, .int .i64 u.r.c, .int .i64 u.r.s] : List Value) ++ (cBs u.r.h.1 ++ (cBs u.r.b.1 ++ ([vg] : List Value)))).toArray]) rfl (evc (fr_eval rfl rfl) evn) Try.call38) (put12_calls u.r ir sg (by omega) _ _ (hsg.rd _ hH.chg)) ?_
          rintro _ w38 ⟨⟨y21, rfl, ho, hg⟩, hx⟩
          refine ⟨_, rfl, ?_⟩
          replace hH : Heap _ _ _ [_, _, _, _] := hH.addOwn hx hg ho
          clear ho hg
          clear hx
          refine lf_call (wantAll rfl) (rv_call (args := [.pointer (some ⟨g2, 0, none⟩), y21]) rfl (evc (fr_eval rfl e4) (evc (fr_eval rfl rfl) evn)) Try.call25) (penText_calls (by omega) _ (OwnB.rd (hH.own (i := 3) rfl)) (fun k hk h0 e => apart_at hH.apart (i := 3) (j := 1) rfl rfl (by decide) k hk (Or.inl e)) (fun k hk h0 h => apart_at hH.apart (i := 3) (j := 1) rfl rfl (by decide) k hk (Or.inr h)) (hH.pen (i := 1) rfl) (by first | omega | (simp only [List.length_append]; omega) | (simp only [List.length_append, List.length_cons, List.length_nil]; omega))) ?_
          rintro _ w39 ⟨rfl, hp⟩
          refine ⟨_, rfl, ?_⟩
          obtain ⟨y22, hH', hx, hxf, hgr⟩ := hH.penPost (i := 1) (l2 := puts [u.k, u.a, u.b] ++ put (((textS u.r sg).length : Nat) : Int) ++ (textS u.r sg)) rfl (fun _ => rfl) hp
          clear hH hp
          have hH : Heap _ _ _ [_, _, _, _] := hH'
          clear hH'
          clear hxf hgr hx
          refine lf_nil ?_
          refine blk_n ?_
          refine then_n ?_
          refine wp_seq ?_
          replace hH : Heap _ _ _ [_, _, _] := hH.drop (.cons_cons _ (.cons_cons _ (.cons_cons _ (.cons _ .slnil))))
          refine wp_gen (fun F' => F' 0 = .agg (([.int .i64 u.k, .int .i64 u.a, .int .i64 u.b, .int .i64 u.c0, .int .i64 u.c1, .int .i64 u.c2] : List Value) ++ (cBs u.h0.1 ++ (cBs u.h1.1 ++ (([.int .i64 u.g] : List Value) ++ (cBs u.o.1 ++ (([.int .i64 u.n] : List Value) ++ (cBs u.x.1 ++ (([.int .i64 u.jc, .int .i64 u.js] : List Value) ++ (cBs u.jh.1 ++ (([vb, .int .i64 u.r.t, .int .i64 u.r.c, .int .i64 u.r.s] : List Value) ++ (cBs u.r.h.1 ++ (cBs u.r.b.1 ++ ([vg] : List Value))))))))))))).toArray ∧ F' 1 = .pointer (some ⟨g1, 0, none⟩) ∧ F' 2 = .slice none 0 0 ∧ F' 3 = .int .i64 0 ∧ F' 4 = .pointer (some ⟨g2, 0, none⟩) ∧ F' 5 = .pointer (some ⟨g3, 0, none⟩) ∧ F' 8 = .bool false ∧ F' 20 = .int .i64 u.k ∧ F' 25 = .bool false ∧ F' 51 = .bool false ∧ F' 67 = .bool false ∧ F' 75 = .bool false) ⟨e0, e1, e2, e3, e4, e5, e8, e20, e25, e51, e67, (e75.trans (congrArg Value.bool (decide_eq_false hc4)))⟩ ?_
          clear e0 e1 e2 e3 e4 e5 e8 e20 e25 e51 e67 e75
          clear F
          rintro F ⟨e0, e1, e2, e3, e4, e5, e8, e20, e25, e51, e67, e75⟩
          refine wp_regionF ?_
          refine lf_call (wantAll rfl) (rv_call (args := [.pointer (some ⟨g2, 0, none⟩)]) rfl (evc (fr_eval rfl e4) evn) Try.call28) (penBytes_calls _ (hH.pen (i := 1) rfl) (by first | omega | (simp only [List.length_append]; omega) | (simp only [List.length_append, List.length_cons, List.length_nil]; omega))) ?_
          rintro _ w40 ⟨⟨y23, rfl, ho, hg⟩, hx⟩
          refine ⟨_, rfl, ?_⟩
          replace hH : Heap _ _ _ [_, _, _, _] := hH.addOwn hx hg ho
          clear ho hg
          clear hx
          refine lf_val (v := y23) (wantAll rfl) (rv_assign rfl (fr_eval rfl rfl)) ?_
          refine lf_val (v := .int .i64 0) (wantAll rfl) (rv_assign rfl rfl) ?_
          refine lf_nil ?_
          refine then_n ?_
          refine wp_gen (fun F' => F' 0 = .agg (([.int .i64 u.k, .int .i64 u.a, .int .i64 u.b, .int .i64 u.c0, .int .i64 u.c1, .int .i64 u.c2] : List Value) ++ (cBs u.h0.1 ++ (cBs u.h1.1 ++ (([.int .i64 u.g] : List Value) ++ (cBs u.o.1 ++ (([.int .i64 u.n] : List Value) ++ (cBs u.x.1 ++ (([.int .i64 u.jc, .int .i64 u.js] : List Value) ++ (cBs u.jh.1 ++ (([vb, .int .i64 u.r.t, .int .i64 u.r.c, .int .i64 u.r.s] : List Value) ++ (cBs u.r.h.1 ++ (cBs u.r.b.1 ++ ([vg] : List Value))))))))))))).toArray ∧ F' 1 = .pointer (some ⟨g1, 0, none⟩) ∧ F' 2 = y23 ∧ F' 3 = .int .i64 0 ∧ F' 4 = .pointer (some ⟨g2, 0, none⟩) ∧ F' 5 = .pointer (some ⟨g3, 0, none⟩) ∧ F' 8 = .bool false ∧ F' 20 = .int .i64 u.k ∧ F' 25 = .bool false ∧ F' 51 = .bool false ∧ F' 67 = .bool false ∧ F' 75 = .bool false) ⟨e0, e1, rfl, rfl, e4, e5, e8, e20, e25, e51, e67, e75⟩ ?_
          clear e0 e1 e2 e3 e4 e5 e8 e20 e25 e51 e67 e75
          clear F
          rintro F ⟨e0, e1, e2, e3, e4, e5, e8, e20, e25, e51, e67, e75⟩
          refine wp_ret ?_
          exact bodyPost_ret (v := .tuple #[y23, .int .i64 0]) (res2 rfl (ro_tmp rfl e2) (ro_tmp rfl e3)) rfl (⟨⟨_, rfl, (by have h1 := hH.own (i := 3) rfl; have e : puts [u.k, u.a, u.b] ++ put (((textS u.r sg).length : Nat) : Int) ++ (textS u.r sg) = textM u bl sg := (by unfold textM restM; (first | rw [if_pos (by omega)] | rw [if_neg (by omega), if_pos (by omega)] | rw [if_neg (by omega), if_neg (by omega), if_pos (by omega)] | rw [if_neg (by omega), if_neg (by omega), if_neg (by omega), if_pos (by omega)] | rw [if_neg (by omega), if_neg (by omega), if_neg (by omega), if_neg (by omega)]); simp [puts]); rw [e] at h1; exact h1), hH.ge (i := 3) rfl⟩, hH.done⟩)

set_option maxRecDepth 100000 in
set_option maxHeartbeats 4000000 in
theorem msPut_no (u : Ms) (vb vg : Value) (w : World) (hM : ¬ inM u) :
    Calls Try.prog 51 #[.agg (([.int .i64 u.k, .int .i64 u.a, .int .i64 u.b, .int .i64 u.c0, .int .i64 u.c1, .int .i64 u.c2] : List Value) ++ (cBs u.h0.1 ++ (cBs u.h1.1 ++ (([.int .i64 u.g] : List Value) ++ (cBs u.o.1 ++ (([.int .i64 u.n] : List Value) ++ (cBs u.x.1 ++ (([.int .i64 u.jc, .int .i64 u.js] : List Value) ++ (cBs u.jh.1 ++ (([vb, .int .i64 u.r.t, .int .i64 u.r.c, .int .i64 u.r.s] : List Value) ++ (cBs u.r.h.1 ++ (cBs u.r.b.1 ++ ([vg] : List Value))))))))))))).toArray] w fun e'' w' => e'' = .returned (.tuple #[.slice none 0 0, .int .i64 1]) ∧ Ext w w' := by
  refine calls_fr (args := [.agg (([.int .i64 u.k, .int .i64 u.a, .int .i64 u.b, .int .i64 u.c0, .int .i64 u.c1, .int .i64 u.c2] : List Value) ++ (cBs u.h0.1 ++ (cBs u.h1.1 ++ (([.int .i64 u.g] : List Value) ++ (cBs u.o.1 ++ (([.int .i64 u.n] : List Value) ++ (cBs u.x.1 ++ (([.int .i64 u.jc, .int .i64 u.js] : List Value) ++ (cBs u.jh.1 ++ (([vb, .int .i64 u.r.t, .int .i64 u.r.c, .int .i64 u.r.s] : List Value) ++ (cBs u.r.h.1 ++ (cBs u.r.b.1 ++ ([vg] : List Value))))))))))))).toArray]) (n := 82) Try.func51 rfl rfl (show 1 ≤ 82 by decide) ?_
  have hH : Heap (newN w) w w [] := Heap.fresh
  refine wp_seq ?_
  refine wp_gen (fun F' => F' 0 = .agg (([.int .i64 u.k, .int .i64 u.a, .int .i64 u.b, .int .i64 u.c0, .int .i64 u.c1, .int .i64 u.c2] : List Value) ++ (cBs u.h0.1 ++ (cBs u.h1.1 ++ (([.int .i64 u.g] : List Value) ++ (cBs u.o.1 ++ (([.int .i64 u.n] : List Value) ++ (cBs u.x.1 ++ (([.int .i64 u.jc, .int .i64 u.js] : List Value) ++ (cBs u.jh.1 ++ (([vb, .int .i64 u.r.t, .int .i64 u.r.c, .int .i64 u.r.s] : List Value) ++ (cBs u.r.h.1 ++ (cBs u.r.b.1 ++ ([vg] : List Value))))))))))))).toArray) rfl ?_
  rintro F e0
  refine wp_regionF ?_
  refine lf_ex (wantAll rfl) (hx_box hH 81 (cs := ([.int .i64 u.k, .int .i64 u.a, .int .i64 u.b, .int .i64 u.c0, .int .i64 u.c1, .int .i64 u.c2] : List Value) ++ (cBs u.h0.1 ++ (cBs u.h1.1 ++ (([.int .i64 u.g] : List Value) ++ (cBs u.o.1 ++ (([.int .i64 u.n] : List Value) ++ (cBs u.x.1 ++ (([.int .i64 u.jc, .int .i64 u.js] : List Value) ++ (cBs u.jh.1 ++ (([vb, .int .i64 u.r.t, .int .i64 u.r.c, .int .i64 u.r.s] : List Value) ++ (cBs u.r.h.1 ++ (cBs u.r.b.1 ++ ([vg] : List Value))))))))))))) rfl (fr_eval rfl e0) (by rfl)) ?_
  clear hH
  rintro _ w1 ⟨g1, rfl, hH, hx⟩
  replace hH : Heap _ _ _ [_] := hH
  clear hx
  refine lf_val (v := .slice none 0 0) (wantAll rfl) (rv_assign rfl rfl) ?_
  refine lf_val (v := .int .i64 0) (wantAll rfl) (rv_assign rfl rfl) ?_
  refine lf_nil ?_
  refine then_n ?_
  refine wp_seq ?_
  refine wp_seq ?_
  refine wp_gen (fun F' => F' 0 = .agg (([.int .i64 u.k, .int .i64 u.a, .int .i64 u.b, .int .i64 u.c0, .int .i64 u.c1, .int .i64 u.c2] : List Value) ++ (cBs u.h0.1 ++ (cBs u.h1.1 ++ (([.int .i64 u.g] : List Value) ++ (cBs u.o.1 ++ (([.int .i64 u.n] : List Value) ++ (cBs u.x.1 ++ (([.int .i64 u.jc, .int .i64 u.js] : List Value) ++ (cBs u.jh.1 ++ (([vb, .int .i64 u.r.t, .int .i64 u.r.c, .int .i64 u.r.s] : List Value) ++ (cBs u.r.h.1 ++ (cBs u.r.b.1 ++ ([vg] : List Value))))))))))))).toArray ∧ F' 1 = .pointer (some ⟨g1, 0, none⟩) ∧ F' 2 = .slice none 0 0 ∧ F' 3 = .int .i64 0) ⟨e0, rfl, rfl, rfl⟩ ?_
  clear e0
  clear F
  rintro F ⟨e0, e1, e2, e3⟩
  refine wp_regionF ?_
  refine lf_val (wantAll rfl) (rv_loadW rfl (hH.blk (i := 0) rfl) (fr_eval rfl e1) Try.underlying81 rfl (sz_len Try.sz81 (zT_l20 u.h0.2 u.h1.2 u.o.2 u.x.2 u.jh.2 u.r.h.2 u.r.b.2))) ?_
  refine lf_call (wantAll rfl) (rv_call (args := [.agg (([.int .i64 u.k, .int .i64 u.a, .int .i64 u.b, .int .i64 u.c0, .int .i64 u.c1, .int .i64 u.c2] : List Value) ++ (cBs u.h0.1 ++ (cBs u.h1.1 ++ (([.int .i64 u.g] : List Value) ++ (cBs u.o.1 ++ (([.int .i64 u.n] : List Value) ++ (cBs u.x.1 ++ (([.int .i64 u.jc, .int .i64 u.js] : List Value) ++ (cBs u.jh.1 ++ (([vb, .int .i64 u.r.t, .int .i64 u.r.c, .int .i64 u.r.s] : List Value) ++ (cBs u.r.h.1 ++ (cBs u.r.b.1 ++ ([vg] : List Value))))))))))))).toArray]) rfl (evc (fr_eval rfl rfl) evn) Try.call52) (calls_known (b' := false) (msRight_calls u _ _ _) (decide_eq_false hM)) ?_
  rintro _ w2 ⟨rfl, hx⟩
  refine ⟨_, rfl, ?_⟩
  replace hH := hH.ext hx
  clear hx
  refine lf_val (v := .bool true) (wantAll rfl) (rv_not (b := false) rfl (fr_eval rfl rfl)) ?_
  refine lf_nil ?_
  refine then_n ?_
  refine wp_gen (fun F' => F' 0 = .agg (([.int .i64 u.k, .int .i64 u.a, .int .i64 u.b, .int .i64 u.c0, .int .i64 u.c1, .int .i64 u.c2] : List Value) ++ (cBs u.h0.1 ++ (cBs u.h1.1 ++ (([.int .i64 u.g] : List Value) ++ (cBs u.o.1 ++ (([.int .i64 u.n] : List Value) ++ (cBs u.x.1 ++ (([.int .i64 u.jc, .int .i64 u.js] : List Value) ++ (cBs u.jh.1 ++ (([vb, .int .i64 u.r.t, .int .i64 u.r.c, .int .i64 u.r.s] : List Value) ++ (cBs u.r.h.1 ++ (cBs u.r.b.1 ++ ([vg] : List Value))))))))))))).toArray ∧ F' 1 = .pointer (some ⟨g1, 0, none⟩) ∧ F' 2 = .slice none 0 0 ∧ F' 3 = .int .i64 0 ∧ F' 8 = .bool true) ⟨e0, e1, e2, e3, rfl⟩ ?_
  clear e0 e1 e2 e3
  clear F
  rintro F ⟨e0, e1, e2, e3, e8⟩
  refine wp_cond_true (fr_eval rfl e8) ?_
  refine wp_seq ?_
  refine wp_regionF ?_
  refine lf_val (v := .slice none 0 0) (wantAll rfl) (rv_assign rfl rfl) ?_
  refine lf_val (v := .int .i64 1) (wantAll rfl) (rv_assign rfl rfl) ?_
  refine lf_nil ?_
  refine then_n ?_
  refine wp_gen (fun F' => F' 0 = .agg (([.int .i64 u.k, .int .i64 u.a, .int .i64 u.b, .int .i64 u.c0, .int .i64 u.c1, .int .i64 u.c2] : List Value) ++ (cBs u.h0.1 ++ (cBs u.h1.1 ++ (([.int .i64 u.g] : List Value) ++ (cBs u.o.1 ++ (([.int .i64 u.n] : List Value) ++ (cBs u.x.1 ++ (([.int .i64 u.jc, .int .i64 u.js] : List Value) ++ (cBs u.jh.1 ++ (([vb, .int .i64 u.r.t, .int .i64 u.r.c, .int .i64 u.r.s] : List Value) ++ (cBs u.r.h.1 ++ (cBs u.r.b.1 ++ ([vg] : List Value))))))))))))).toArray ∧ F' 1 = .pointer (some ⟨g1, 0, none⟩) ∧ F' 2 = .slice none 0 0 ∧ F' 3 = .int .i64 1 ∧ F' 8 = .bool true) ⟨e0, e1, rfl, rfl, e8⟩ ?_
  clear e0 e1 e2 e3 e8
  clear F
  rintro F ⟨e0, e1, e2, e3, e8⟩
  refine wp_ret ?_
  refine then_ret ?_
  exact bodyPost_ret (v := .tuple #[.slice none 0 0, .int .i64 1]) (res2 rfl (ro_tmp rfl e2) (ro_tmp rfl e3)) rfl (⟨rfl, hH.done⟩)

end Go.Proofs.Ytjgcjddaladgfaa
