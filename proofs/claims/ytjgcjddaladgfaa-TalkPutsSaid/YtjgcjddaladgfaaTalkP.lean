/- Messages: all that a message has is small. -/
import Derived.Test.YtjgcjddaladgfaaTalk
import Derived.Test.YtjgcjddaladgfaaHeap3
import Derived.Test.YtjgcjddaladgfaaSym
namespace Go.Proofs.Ytjgcjddaladgfaa
open Go.RowKit Go.Bz Go.Bz.Wire Go.Bz.Rcpt Go.Bz.Talk
attribute [local irreducible] wpList Code.wp wpAnyX

theorem zTP_l0 {a0 : Value} {a1 : Value} {a2 : Value} {a3 : List UInt8} (ha3 : a3.length = 32) {a4 : List UInt8} (ha4 : a4.length = 32) : List.length (([a0, a1, a2] : List Value) ++ (cBs a3 ++ cBs a4)) = 67 := (len_app (m := 3) (n := 64) (k := 67) rfl (len_app (m := 32) (n := 32) (k := 64) (cBs_len ha3) (cBs_len ha4) rfl) rfl)
theorem zTP_p1 {a0 : Value} {a1 : Value} {a2 : Value} {a3 : Value} {a4 : Value} {a5 : Value} {a6 : List UInt8} (ha6 : a6.length = 32) {a7 : List UInt8} (ha7 : a7.length = 32) {a8 : Value} {a9 : List UInt8} (_ : a9.length = 32) {a10 : Value} {a11 : List UInt8} (_ : a11.length = 32) {a12 : Value} {a13 : Value} {a14 : List UInt8} (_ : a14.length = 32) {a15 : Value} {a16 : Value} {a17 : Value} {a18 : Value} {a19 : List UInt8} (_ : a19.length = 32) {a20 : List UInt8} (_ : a20.length = 32) {a21 : Value} : List.take 67 (List.drop 3 (([a0, a1, a2, a3, a4, a5] : List Value) ++ (cBs a6 ++ (cBs a7 ++ (([a8] : List Value) ++ (cBs a9 ++ (([a10] : List Value) ++ (cBs a11 ++ (([a12, a13] : List Value) ++ (cBs a14 ++ (([a15, a16, a17, a18] : List Value) ++ (cBs a19 ++ (cBs a20 ++ ([a21] : List Value)))))))))))))) = ([a3, a4, a5] : List Value) ++ (cBs a6 ++ cBs a7) := (part_of (cs := ([a0, a1, a2, a3, a4, a5] : List Value) ++ (cBs a6 ++ (cBs a7 ++ (([a8] : List Value) ++ (cBs a9 ++ (([a10] : List Value) ++ (cBs a11 ++ (([a12, a13] : List Value) ++ (cBs a14 ++ (([a15, a16, a17, a18] : List Value) ++ (cBs a19 ++ (cBs a20 ++ ([a21] : List Value))))))))))))) (A := ([a0, a1, a2] : List Value)) (D := (([a3, a4, a5] : List Value) ++ (cBs a6 ++ cBs a7) : List Value)) (C := (([a8] : List Value) ++ (cBs a9 ++ (([a10] : List Value) ++ (cBs a11 ++ (([a12, a13] : List Value) ++ (cBs a14 ++ (([a15, a16, a17, a18] : List Value) ++ (cBs a19 ++ (cBs a20 ++ ([a21] : List Value))))))))) : List Value)) (by simp) (show List.length [a0, a1, a2] = 3 from rfl) (len_app (m := 3) (n := 64) (k := 67) rfl (len_app (m := 32) (n := 32) (k := 64) (cBs_len ha6) (cBs_len ha7) rfl) rfl))
theorem zTP_l2 {a0 : Value} {a1 : Value} {a2 : List UInt8} (ha2 : a2.length = 32) {a3 : Value} : List.length (([a0, a1] : List Value) ++ (cBs a2 ++ ([a3] : List Value))) = 35 := (len_app (m := 2) (n := 33) (k := 35) rfl (len_app (m := 32) (n := 1) (k := 33) (cBs_len ha2) rfl rfl) rfl)
theorem zTP_p3 {a0 : Value} {a1 : Value} {a2 : Value} {a3 : Value} {a4 : Value} {a5 : Value} {a6 : List UInt8} (ha6 : a6.length = 32) {a7 : List UInt8} (ha7 : a7.length = 32) {a8 : Value} {a9 : List UInt8} (ha9 : a9.length = 32) {a10 : Value} {a11 : List UInt8} (ha11 : a11.length = 32) {a12 : Value} {a13 : Value} {a14 : List UInt8} (ha14 : a14.length = 32) {a15 : Value} {a16 : Value} {a17 : Value} {a18 : Value} {a19 : List UInt8} (_ : a19.length = 32) {a20 : List UInt8} (_ : a20.length = 32) {a21 : Value} : List.take 35 (List.drop 136 (([a0, a1, a2, a3, a4, a5] : List Value) ++ (cBs a6 ++ (cBs a7 ++ (([a8] : List Value) ++ (cBs a9 ++ (([a10] : List Value) ++ (cBs a11 ++ (([a12, a13] : List Value) ++ (cBs a14 ++ (([a15, a16, a17, a18] : List Value) ++ (cBs a19 ++ (cBs a20 ++ ([a21] : List Value)))))))))))))) = ([a12, a13] : List Value) ++ (cBs a14 ++ ([a15] : List Value)) := (part_of (cs := ([a0, a1, a2, a3, a4, a5] : List Value) ++ (cBs a6 ++ (cBs a7 ++ (([a8] : List Value) ++ (cBs a9 ++ (([a10] : List Value) ++ (cBs a11 ++ (([a12, a13] : List Value) ++ (cBs a14 ++ (([a15, a16, a17, a18] : List Value) ++ (cBs a19 ++ (cBs a20 ++ ([a21] : List Value))))))))))))) (A := (([a0, a1, a2, a3, a4, a5] : List Value) ++ (cBs a6 ++ (cBs a7 ++ (([a8] : List Value) ++ (cBs a9 ++ (([a10] : List Value) ++ cBs a11))))) : List Value)) (D := (([a12, a13] : List Value) ++ (cBs a14 ++ ([a15] : List Value)) : List Value)) (C := (([a16, a17, a18] : List Value) ++ (cBs a19 ++ (cBs a20 ++ ([a21] : List Value))) : List Value)) (by simp) (len_app (m := 6) (n := 130) (k := 136) rfl (len_app (m := 32) (n := 98) (k := 130) (cBs_len ha6) (len_app (m := 32) (n := 66) (k := 98) (cBs_len ha7) (len_app (m := 1) (n := 65) (k := 66) rfl (len_app (m := 32) (n := 33) (k := 65) (cBs_len ha9) (len_app (m := 1) (n := 32) (k := 33) rfl (cBs_len ha11) rfl) rfl) rfl) rfl) rfl) rfl) (len_app (m := 2) (n := 33) (k := 35) rfl (len_app (m := 32) (n := 1) (k := 33) (cBs_len ha14) rfl rfl) rfl))
theorem zTP_l4 {a0 : Value} {a1 : Value} {a2 : Value} {a3 : List UInt8} (ha3 : a3.length = 32) {a4 : List UInt8} (ha4 : a4.length = 32) {a5 : Value} : List.length (([a0, a1, a2] : List Value) ++ (cBs a3 ++ (cBs a4 ++ ([a5] : List Value)))) = 68 := (len_app (m := 3) (n := 65) (k := 68) rfl (len_app (m := 32) (n := 33) (k := 65) (cBs_len ha3) (len_app (m := 32) (n := 1) (k := 33) (cBs_len ha4) rfl rfl) rfl) rfl)
theorem zTP_p5 {a0 : Value} {a1 : Value} {a2 : Value} {a3 : Value} {a4 : Value} {a5 : Value} {a6 : List UInt8} (ha6 : a6.length = 32) {a7 : List UInt8} (ha7 : a7.length = 32) {a8 : Value} {a9 : List UInt8} (ha9 : a9.length = 32) {a10 : Value} {a11 : List UInt8} (ha11 : a11.length = 32) {a12 : Value} {a13 : Value} {a14 : List UInt8} (ha14 : a14.length = 32) {a15 : Value} {a16 : Value} {a17 : Value} {a18 : Value} {a19 : List UInt8} (ha19 : a19.length = 32) {a20 : List UInt8} (ha20 : a20.length = 32) {a21 : Value} : List.take 68 (List.drop 171 (([a0, a1, a2, a3, a4, a5] : List Value) ++ (cBs a6 ++ (cBs a7 ++ (([a8] : List Value) ++ (cBs a9 ++ (([a10] : List Value) ++ (cBs a11 ++ (([a12, a13] : List Value) ++ (cBs a14 ++ (([a15, a16, a17, a18] : List Value) ++ (cBs a19 ++ (cBs a20 ++ ([a21] : List Value)))))))))))))) = ([a16, a17, a18] : List Value) ++ (cBs a19 ++ (cBs a20 ++ ([a21] : List Value))) := (part_of (cs := ([a0, a1, a2, a3, a4, a5] : List Value) ++ (cBs a6 ++ (cBs a7 ++ (([a8] : List Value) ++ (cBs a9 ++ (([a10] : List Value) ++ (cBs a11 ++ (([a12, a13] : List Value) ++ (cBs a14 ++ (([a15, a16, a17, a18] : List Value) ++ (cBs a19 ++ (cBs a20 ++ ([a21] : List Value))))))))))))) (A := (([a0, a1, a2, a3, a4, a5] : List Value) ++ (cBs a6 ++ (cBs a7 ++ (([a8] : List Value) ++ (cBs a9 ++ (([a10] : List Value) ++ (cBs a11 ++ (([a12, a13] : List Value) ++ (cBs a14 ++ ([a15] : List Value))))))))) : List Value)) (D := (([a16, a17, a18] : List Value) ++ (cBs a19 ++ (cBs a20 ++ ([a21] : List Value))) : List Value)) (C := ([] : List Value)) (by simp) (len_app (m := 6) (n := 165) (k := 171) rfl (len_app (m := 32) (n := 133) (k := 165) (cBs_len ha6) (len_app (m := 32) (n := 101) (k := 133) (cBs_len ha7) (len_app (m := 1) (n := 100) (k := 101) rfl (len_app (m := 32) (n := 68) (k := 100) (cBs_len ha9) (len_app (m := 1) (n := 67) (k := 68) rfl (len_app (m := 32) (n := 35) (k := 67) (cBs_len ha11) (len_app (m := 2) (n := 33) (k := 35) rfl (len_app (m := 32) (n := 1) (k := 33) (cBs_len ha14) rfl rfl) rfl) rfl) rfl) rfl) rfl) rfl) rfl) rfl) (len_app (m := 3) (n := 65) (k := 68) rfl (len_app (m := 32) (n := 33) (k := 65) (cBs_len ha19) (len_app (m := 32) (n := 1) (k := 33) (cBs_len ha20) rfl rfl) rfl) rfl))
theorem zTP_o6 {a0 : Value} {a1 : Value} {a2 : Value} {a3 : List UInt8} {a4 : List UInt8} (qa0 : a0.oneCell' = true) (qa1 : a1.oneCell' = true) (qa2 : a2.oneCell' = true) : ∀ u ∈ (([a0, a1, a2] : List Value) ++ (cBs a3 ++ cBs a4)), u.oneCell' = true := (ones_app (ones_cons qa0 (ones_cons qa1 (ones_cons qa2 ones_nil))) (ones_app (cBs_one _) (cBs_one _)))
theorem zTP_o7 {a0 : Value} {a1 : Value} {a2 : List UInt8} {a3 : Value} (qa0 : a0.oneCell' = true) (qa1 : a1.oneCell' = true) (qa3 : a3.oneCell' = true) : ∀ u ∈ (([a0, a1] : List Value) ++ (cBs a2 ++ ([a3] : List Value))), u.oneCell' = true := (ones_app (ones_cons qa0 (ones_cons qa1 ones_nil)) (ones_app (cBs_one _) (ones_cons qa3 ones_nil)))
theorem zTP_o8 {a0 : Value} {a1 : Value} {a2 : Value} {a3 : List UInt8} {a4 : List UInt8} {a5 : Value} (qa0 : a0.oneCell' = true) (qa1 : a1.oneCell' = true) (qa2 : a2.oneCell' = true) (qa5 : a5.oneCell' = true) : ∀ u ∈ (([a0, a1, a2] : List Value) ++ (cBs a3 ++ (cBs a4 ++ ([a5] : List Value)))), u.oneCell' = true := (ones_app (ones_cons qa0 (ones_cons qa1 (ones_cons qa2 ones_nil))) (ones_app (cBs_one _) (ones_app (cBs_one _) (ones_cons qa5 ones_nil))))
theorem zTP_g9 {a0 : Value} {a1 : Value} {a2 : Value} {a3 : List UInt8} (_ : a3.length = 32) {a4 : List UInt8} (_ : a4.length = 32) : (([a0, a1, a2] : List Value) ++ (cBs a3 ++ cBs a4))[0]? = some a0 := (show (([a0, a1, a2] : List Value) ++ (cBs a3 ++ cBs a4))[0]? = some (a0) from (get_l (C := cBs a3 ++ cBs a4) (show ([a0, a1, a2] : List Value)[0]? = some (a0) from rfl)))
theorem zTP_g10 {a0 : Value} {a1 : Value} {a2 : Value} {a3 : List UInt8} (_ : a3.length = 32) {a4 : List UInt8} (_ : a4.length = 32) : (([a0, a1, a2] : List Value) ++ (cBs a3 ++ cBs a4))[1]? = some a1 := (show (([a0, a1, a2] : List Value) ++ (cBs a3 ++ cBs a4))[1]? = some (a1) from (get_l (C := cBs a3 ++ cBs a4) (show ([a0, a1, a2] : List Value)[1]? = some (a1) from rfl)))
theorem zTP_g11 {a0 : Value} {a1 : Value} {a2 : Value} {a3 : List UInt8} (_ : a3.length = 32) {a4 : List UInt8} (_ : a4.length = 32) : (([a0, a1, a2] : List Value) ++ (cBs a3 ++ cBs a4))[2]? = some a2 := (show (([a0, a1, a2] : List Value) ++ (cBs a3 ++ cBs a4))[2]? = some (a2) from (get_l (C := cBs a3 ++ cBs a4) (show ([a0, a1, a2] : List Value)[2]? = some (a2) from rfl)))
theorem zTP_g12 {a0 : Value} {a1 : Value} {a2 : Value} {a3 : Value} {a4 : Value} {a5 : Value} {a6 : List UInt8} (ha6 : a6.length = 32) {a7 : List UInt8} (ha7 : a7.length = 32) {a8 : Value} {a9 : List UInt8} (_ : a9.length = 32) {a10 : Value} {a11 : List UInt8} (_ : a11.length = 32) {a12 : Value} {a13 : Value} {a14 : List UInt8} (_ : a14.length = 32) {a15 : Value} {a16 : Value} {a17 : Value} {a18 : Value} {a19 : List UInt8} (_ : a19.length = 32) {a20 : List UInt8} (_ : a20.length = 32) {a21 : Value} : (([a0, a1, a2, a3, a4, a5] : List Value) ++ (cBs a6 ++ (cBs a7 ++ (([a8] : List Value) ++ (cBs a9 ++ (([a10] : List Value) ++ (cBs a11 ++ (([a12, a13] : List Value) ++ (cBs a14 ++ (([a15, a16, a17, a18] : List Value) ++ (cBs a19 ++ (cBs a20 ++ ([a21] : List Value)))))))))))))[70]? = some a8 := (get_of (cs := ([a0, a1, a2, a3, a4, a5] : List Value) ++ (cBs a6 ++ (cBs a7 ++ (([a8] : List Value) ++ (cBs a9 ++ (([a10] : List Value) ++ (cBs a11 ++ (([a12, a13] : List Value) ++ (cBs a14 ++ (([a15, a16, a17, a18] : List Value) ++ (cBs a19 ++ (cBs a20 ++ ([a21] : List Value))))))))))))) (A := (([a0, a1, a2, a3, a4, a5] : List Value) ++ (cBs a6 ++ cBs a7) : List Value)) (D := ([a8] : List Value)) (C := (cBs a9 ++ (([a10] : List Value) ++ (cBs a11 ++ (([a12, a13] : List Value) ++ (cBs a14 ++ (([a15, a16, a17, a18] : List Value) ++ (cBs a19 ++ (cBs a20 ++ ([a21] : List Value)))))))) : List Value)) (o := 70) (j := 0) (by simp) (len_app (m := 6) (n := 64) (k := 70) rfl (len_app (m := 32) (n := 32) (k := 64) (cBs_len ha6) (cBs_len ha7) rfl) rfl) rfl (show ([a8] : List Value)[0]? = some (a8) from rfl))
theorem zTP_g13 {a0 : Value} {a1 : Value} {a2 : Value} {a3 : Value} {a4 : Value} {a5 : Value} {a6 : List UInt8} (ha6 : a6.length = 32) {a7 : List UInt8} (ha7 : a7.length = 32) {a8 : Value} {a9 : List UInt8} (ha9 : a9.length = 32) {a10 : Value} {a11 : List UInt8} (_ : a11.length = 32) {a12 : Value} {a13 : Value} {a14 : List UInt8} (_ : a14.length = 32) {a15 : Value} {a16 : Value} {a17 : Value} {a18 : Value} {a19 : List UInt8} (_ : a19.length = 32) {a20 : List UInt8} (_ : a20.length = 32) {a21 : Value} : (([a0, a1, a2, a3, a4, a5] : List Value) ++ (cBs a6 ++ (cBs a7 ++ (([a8] : List Value) ++ (cBs a9 ++ (([a10] : List Value) ++ (cBs a11 ++ (([a12, a13] : List Value) ++ (cBs a14 ++ (([a15, a16, a17, a18] : List Value) ++ (cBs a19 ++ (cBs a20 ++ ([a21] : List Value)))))))))))))[103]? = some a10 := (get_of (cs := ([a0, a1, a2, a3, a4, a5] : List Value) ++ (cBs a6 ++ (cBs a7 ++ (([a8] : List Value) ++ (cBs a9 ++ (([a10] : List Value) ++ (cBs a11 ++ (([a12, a13] : List Value) ++ (cBs a14 ++ (([a15, a16, a17, a18] : List Value) ++ (cBs a19 ++ (cBs a20 ++ ([a21] : List Value))))))))))))) (A := (([a0, a1, a2, a3, a4, a5] : List Value) ++ (cBs a6 ++ (cBs a7 ++ (([a8] : List Value) ++ cBs a9))) : List Value)) (D := ([a10] : List Value)) (C := (cBs a11 ++ (([a12, a13] : List Value) ++ (cBs a14 ++ (([a15, a16, a17, a18] : List Value) ++ (cBs a19 ++ (cBs a20 ++ ([a21] : List Value)))))) : List Value)) (o := 103) (j := 0) (by simp) (len_app (m := 6) (n := 97) (k := 103) rfl (len_app (m := 32) (n := 65) (k := 97) (cBs_len ha6) (len_app (m := 32) (n := 33) (k := 65) (cBs_len ha7) (len_app (m := 1) (n := 32) (k := 33) rfl (cBs_len ha9) rfl) rfl) rfl) rfl) rfl (show ([a10] : List Value)[0]? = some (a10) from rfl))
theorem zTP_g14 {a0 : Value} {a1 : Value} {a2 : List UInt8} (_ : a2.length = 32) {a3 : Value} : (([a0, a1] : List Value) ++ (cBs a2 ++ ([a3] : List Value)))[0]? = some a0 := (show (([a0, a1] : List Value) ++ (cBs a2 ++ ([a3] : List Value)))[0]? = some (a0) from (get_l (C := cBs a2 ++ ([a3] : List Value)) (show ([a0, a1] : List Value)[0]? = some (a0) from rfl)))
theorem zTP_g15 {a0 : Value} {a1 : Value} {a2 : List UInt8} (_ : a2.length = 32) {a3 : Value} : (([a0, a1] : List Value) ++ (cBs a2 ++ ([a3] : List Value)))[1]? = some a1 := (show (([a0, a1] : List Value) ++ (cBs a2 ++ ([a3] : List Value)))[1]? = some (a1) from (get_l (C := cBs a2 ++ ([a3] : List Value)) (show ([a0, a1] : List Value)[1]? = some (a1) from rfl)))
theorem zTP_g16 {a0 : Value} {a1 : Value} {a2 : Value} {a3 : List UInt8} (_ : a3.length = 32) {a4 : List UInt8} (_ : a4.length = 32) {a5 : Value} : (([a0, a1, a2] : List Value) ++ (cBs a3 ++ (cBs a4 ++ ([a5] : List Value))))[0]? = some a0 := (show (([a0, a1, a2] : List Value) ++ (cBs a3 ++ (cBs a4 ++ ([a5] : List Value))))[0]? = some (a0) from (get_l (C := cBs a3 ++ (cBs a4 ++ ([a5] : List Value))) (show ([a0, a1, a2] : List Value)[0]? = some (a0) from rfl)))
theorem zTP_g17 {a0 : Value} {a1 : Value} {a2 : Value} {a3 : List UInt8} (_ : a3.length = 32) {a4 : List UInt8} (_ : a4.length = 32) {a5 : Value} : (([a0, a1, a2] : List Value) ++ (cBs a3 ++ (cBs a4 ++ ([a5] : List Value))))[1]? = some a1 := (show (([a0, a1, a2] : List Value) ++ (cBs a3 ++ (cBs a4 ++ ([a5] : List Value))))[1]? = some (a1) from (get_l (C := cBs a3 ++ (cBs a4 ++ ([a5] : List Value))) (show ([a0, a1, a2] : List Value)[1]? = some (a1) from rfl)))
theorem zTP_g18 {a0 : Value} {a1 : Value} {a2 : Value} {a3 : List UInt8} (_ : a3.length = 32) {a4 : List UInt8} (_ : a4.length = 32) {a5 : Value} : (([a0, a1, a2] : List Value) ++ (cBs a3 ++ (cBs a4 ++ ([a5] : List Value))))[2]? = some a2 := (show (([a0, a1, a2] : List Value) ++ (cBs a3 ++ (cBs a4 ++ ([a5] : List Value))))[2]? = some (a2) from (get_l (C := cBs a3 ++ (cBs a4 ++ ([a5] : List Value))) (show ([a0, a1, a2] : List Value)[2]? = some (a2) from rfl)))
set_option maxRecDepth 100000 in
set_option maxHeartbeats 4000000 in
theorem plain28_calls (u : Ms) (bl sg : List UInt8) (vb vg : Value) (w : World) (hbl0 : RdB w vb bl) (hsg0 : RdB w vg sg) :
    Calls Try.prog 56 #[.agg (([.int .i64 u.k, .int .i64 u.a, .int .i64 u.b, .int .i64 u.c0, .int .i64 u.c1, .int .i64 u.c2] : List Value) ++ (cBs u.h0.1 ++ (cBs u.h1.1 ++ (([.int .i64 u.g] : List Value) ++ (cBs u.o.1 ++ (([.int .i64 u.n] : List Value) ++ (cBs u.x.1 ++ (([.int .i64 u.jc, .int .i64 u.js] : List Value) ++ (cBs u.jh.1 ++ (([vb, .int .i64 u.r.t, .int .i64 u.r.c, .int .i64 u.r.s] : List Value) ++ (cBs u.r.h.1 ++ (cBs u.r.b.1 ++ ([vg] : List Value))))))))))))).toArray] w fun e'' w' => e'' = .returned (.bool (decide (plainM u))) ∧ Ext w w' := by
  refine calls_fr (args := [.agg (([.int .i64 u.k, .int .i64 u.a, .int .i64 u.b, .int .i64 u.c0, .int .i64 u.c1, .int .i64 u.c2] : List Value) ++ (cBs u.h0.1 ++ (cBs u.h1.1 ++ (([.int .i64 u.g] : List Value) ++ (cBs u.o.1 ++ (([.int .i64 u.n] : List Value) ++ (cBs u.x.1 ++ (([.int .i64 u.jc, .int .i64 u.js] : List Value) ++ (cBs u.jh.1 ++ (([vb, .int .i64 u.r.t, .int .i64 u.r.c, .int .i64 u.r.s] : List Value) ++ (cBs u.r.h.1 ++ (cBs u.r.b.1 ++ ([vg] : List Value))))))))))))).toArray]) (n := 120) Try.func56 rfl rfl (show 1 ≤ 120 by decide) ?_
  have hbl := Rd.stab hbl0
  have hsg := Rd.stab hsg0
  have hH : Heap (newN w) w w [] := Heap.fresh
  refine wp_seq ?_
  refine wp_gen (fun F' => F' 0 = .agg (([.int .i64 u.k, .int .i64 u.a, .int .i64 u.b, .int .i64 u.c0, .int .i64 u.c1, .int .i64 u.c2] : List Value) ++ (cBs u.h0.1 ++ (cBs u.h1.1 ++ (([.int .i64 u.g] : List Value) ++ (cBs u.o.1 ++ (([.int .i64 u.n] : List Value) ++ (cBs u.x.1 ++ (([.int .i64 u.jc, .int .i64 u.js] : List Value) ++ (cBs u.jh.1 ++ (([vb, .int .i64 u.r.t, .int .i64 u.r.c, .int .i64 u.r.s] : List Value) ++ (cBs u.r.h.1 ++ (cBs u.r.b.1 ++ ([vg] : List Value))))))))))))).toArray) rfl ?_
  rintro F e0
  refine wp_regionF ?_
  refine lf_ex (wantAll rfl) (hx_box hH 81 (cs := ([.int .i64 u.k, .int .i64 u.a, .int .i64 u.b, .int .i64 u.c0, .int .i64 u.c1, .int .i64 u.c2] : List Value) ++ (cBs u.h0.1 ++ (cBs u.h1.1 ++ (([.int .i64 u.g] : List Value) ++ (cBs u.o.1 ++ (([.int .i64 u.n] : List Value) ++ (cBs u.x.1 ++ (([.int .i64 u.jc, .int .i64 u.js] : List Value) ++ (cBs u.jh.1 ++ (([vb, .int .i64 u.r.t, .int .i64 u.r.c, .int .i64 u.r.s] : List Value) ++ (cBs u.r.h.1 ++ (cBs u.r.b.1 ++ ([vg] : List Value))))))))))))) rfl (fr_eval rfl e0) (by rfl)) ?_
  clear hH
  rintro _ w1 ⟨g1, rfl, hH, hx⟩
  replace hH : Heap _ _ _ [_] := hH
  clear hx
  refine lf_val (v := .bool false) (wantAll rfl) (rv_assign rfl rfl) ?_
  refine lf_nil ?_
  refine then_n ?_
  refine wp_seq ?_
  refine wp_gen (fun F' => F' 0 = .agg (([.int .i64 u.k, .int .i64 u.a, .int .i64 u.b, .int .i64 u.c0, .int .i64 u.c1, .int .i64 u.c2] : List Value) ++ (cBs u.h0.1 ++ (cBs u.h1.1 ++ (([.int .i64 u.g] : List Value) ++ (cBs u.o.1 ++ (([.int .i64 u.n] : List Value) ++ (cBs u.x.1 ++ (([.int .i64 u.jc, .int .i64 u.js] : List Value) ++ (cBs u.jh.1 ++ (([vb, .int .i64 u.r.t, .int .i64 u.r.c, .int .i64 u.r.s] : List Value) ++ (cBs u.r.h.1 ++ (cBs u.r.b.1 ++ ([vg] : List Value))))))))))))).toArray ∧ F' 1 = .pointer (some ⟨g1, 0, none⟩) ∧ F' 2 = .bool false) ⟨e0, rfl, rfl⟩ ?_
  clear e0
  clear F
  rintro F ⟨e0, e1, e2⟩
  refine wp_cut (fun F wr => ∃ ga : Nat, ∃ gb : Nat, ∃ gc : Nat, F 0 = .agg (([.int .i64 u.k, .int .i64 u.a, .int .i64 u.b, .int .i64 u.c0, .int .i64 u.c1, .int .i64 u.c2] : List Value) ++ (cBs u.h0.1 ++ (cBs u.h1.1 ++ (([.int .i64 u.g] : List Value) ++ (cBs u.o.1 ++ (([.int .i64 u.n] : List Value) ++ (cBs u.x.1 ++ (([.int .i64 u.jc, .int .i64 u.js] : List Value) ++ (cBs u.jh.1 ++ (([vb, .int .i64 u.r.t, .int .i64 u.r.c, .int .i64 u.r.s] : List Value) ++ (cBs u.r.h.1 ++ (cBs u.r.b.1 ++ ([vg] : List Value))))))))))))).toArray ∧ F 1 = .pointer (some ⟨g1, 0, none⟩) ∧ F 2 = .bool false ∧ F 3 = .pointer (some ⟨ga, 0, none⟩) ∧ F 4 = .pointer (some ⟨gb, 0, none⟩) ∧ F 5 = .pointer (some ⟨gc, 0, none⟩) ∧ Heap (newN w) w wr [oBlk g1 (([.int .i64 u.k, .int .i64 u.a, .int .i64 u.b, .int .i64 u.c0, .int .i64 u.c1, .int .i64 u.c2] : List Value) ++ (cBs u.h0.1 ++ (cBs u.h1.1 ++ (([.int .i64 u.g] : List Value) ++ (cBs u.o.1 ++ (([.int .i64 u.n] : List Value) ++ (cBs u.x.1 ++ (([.int .i64 u.jc, .int .i64 u.js] : List Value) ++ (cBs u.jh.1 ++ (([vb, .int .i64 u.r.t, .int .i64 u.r.c, .int .i64 u.r.s] : List Value) ++ (cBs u.r.h.1 ++ (cBs u.r.b.1 ++ ([vg] : List Value))))))))))))) 81, oBlk ga (([.int .i64 u.c0, .int .i64 u.c1, .int .i64 u.c2] : List Value) ++ (cBs u.h0.1 ++ cBs u.h1.1)) 75, oBlk gb (([.int .i64 u.jc, .int .i64 u.js] : List Value) ++ (cBs u.jh.1 ++ ([vb] : List Value))) 79, oBlk gc (([.int .i64 u.r.t, .int .i64 u.r.c, .int .i64 u.r.s] : List Value) ++ (cBs u.r.h.1 ++ (cBs u.r.b.1 ++ ([vg] : List Value)))) 61]) ?_ ?_
  · have hO := hH
    clear hH
    have hH : Heap (newN w1) w1 w1 [] := Heap.fresh
    refine wp_regionX (newN w1) 11 (by kernel_rfl) (by kernel_rfl) ?_
    refine xl_take (i := 0) (v := .pointer (some ⟨g1, 3, none⟩)) rfl (by kernel_rfl) (by kernel_rfl) (by kernel_rfl) (by kernel_rfl) (yx_val (wantAll rfl) (fun w' hx' => rv_fieldAddr (n := 66) rfl (fr_eval rfl e1) Try.underlying81 rfl rfl (by kernel_rfl))) ?_
    refine xl_take (i := 1) (v := .agg (([.int .i64 u.c0, .int .i64 u.c1, .int .i64 u.c2] : List Value) ++ (cBs u.h0.1 ++ cBs u.h1.1)).toArray) rfl (by kernel_rfl) (by kernel_rfl) (by kernel_rfl) (by kernel_rfl) (yx_val (wantAll rfl) (fun w' hx' => rv_loadP rfl ((hO.ext (newer (hH.chg.trans hx'))).blk (i := 0) rfl) (zTP_p1 u.h0.2 u.h1.2 u.o.2 u.x.2 u.jh.2 u.r.h.2 u.r.b.2) (zTP_l0 u.h0.2 u.h1.2) (fr_eval rfl rfl) Try.underlying75 rfl Try.sz75)) ?_
    refine xl_take (i := 2) (v := .pointer (some ⟨g1, 136, none⟩)) rfl (by kernel_rfl) (by kernel_rfl) (by kernel_rfl) (by kernel_rfl) (yx_val (wantAll rfl) (fun w' hx' => rv_fieldAddr (n := 34) rfl (fr_eval rfl e1) Try.underlying81 rfl rfl (by kernel_rfl))) ?_
    refine xl_take (i := 3) (v := .agg (([.int .i64 u.jc, .int .i64 u.js] : List Value) ++ (cBs u.jh.1 ++ ([vb] : List Value))).toArray) rfl (by kernel_rfl) (by kernel_rfl) (by kernel_rfl) (by kernel_rfl) (yx_val (wantAll rfl) (fun w' hx' => rv_loadP rfl ((hO.ext (newer (hH.chg.trans hx'))).blk (i := 0) rfl) (zTP_p3 u.h0.2 u.h1.2 u.o.2 u.x.2 u.jh.2 u.r.h.2 u.r.b.2) (zTP_l2 u.jh.2) (fr_eval rfl rfl) Try.underlying79 rfl Try.sz79)) ?_
    refine xl_take (i := 4) (v := .pointer (some ⟨g1, 171, none⟩)) rfl (by kernel_rfl) (by kernel_rfl) (by kernel_rfl) (by kernel_rfl) (yx_val (wantAll rfl) (fun w' hx' => rv_fieldAddr (n := 67) rfl (fr_eval rfl e1) Try.underlying81 rfl rfl (by kernel_rfl))) ?_
    refine xl_take (i := 5) (v := .agg (([.int .i64 u.r.t, .int .i64 u.r.c, .int .i64 u.r.s] : List Value) ++ (cBs u.r.h.1 ++ (cBs u.r.b.1 ++ ([vg] : List Value)))).toArray) rfl (by kernel_rfl) (by kernel_rfl) (by kernel_rfl) (by kernel_rfl) (yx_val (wantAll rfl) (fun w' hx' => rv_loadP rfl ((hO.ext (newer (hH.chg.trans hx'))).blk (i := 0) rfl) (zTP_p5 u.h0.2 u.h1.2 u.o.2 u.x.2 u.jh.2 u.r.h.2 u.r.b.2) (zTP_l4 u.r.h.2 u.r.b.2) (fr_eval rfl rfl) Try.underlying61 rfl Try.sz61)) ?_
    refine anyX_ready (rs := [6, 7, 8]) (by kernel_rfl) ?_
    intro w2 hx
    replace hH := hH.ext hx
    clear hx
    refine (anyX_cons ?_ (anyX_cons ?_ (anyX_cons ?_ anyX_nil)))
    · refine xl_step (i := 6) rfl (wantAll rfl) ?_
      refine of_ex (hx_alloc hH 75 (z := .agg (([.int .i64 0, .int .i64 0, .int .i64 0] : List Value) ++ (cBs (List.replicate 32 0) ++ cBs (List.replicate 32 0))).toArray) (n := 67) (cs := ([.int .i64 0, .int .i64 0, .int .i64 0] : List Value) ++ (cBs (List.replicate 32 0) ++ cBs (List.replicate 32 0))) rfl (by kernel_rfl) (by rfl)) ?_
      clear hH
      rintro _ w3 ⟨g2, rfl, hH, hx⟩
      replace hH : Heap _ _ _ [_] := hH
      refine ⟨(Ext.any hx), ?_⟩
      clear hx
      refine anyX_ready (rs := [7, 8]) (by kernel_rfl) ?_
      intro w4 hx
      replace hH := hH.ext hx
      clear hx
      refine (anyX_cons ?_ (anyX_cons ?_ anyX_nil))
      · refine xl_step (i := 7) rfl (wantAll rfl) ?_
        refine of_ex (hx_alloc hH 79 (z := .agg (([.int .i64 0, .int .i64 0] : List Value) ++ (cBs (List.replicate 32 0) ++ ([.slice none 0 0] : List Value))).toArray) (n := 35) (cs := ([.int .i64 0, .int .i64 0] : List Value) ++ (cBs (List.replicate 32 0) ++ ([.slice none 0 0] : List Value))) rfl (by kernel_rfl) (by rfl)) ?_
        clear hH
        rintro _ w5 ⟨g3, rfl, hH, hx⟩
        replace hH : Heap _ _ _ [_, _] := hH
        refine ⟨(Ext.any hx), ?_⟩
        clear hx
        refine anyX_ready (rs := [8]) (by kernel_rfl) ?_
        intro w6 hx
        replace hH := hH.ext hx
        clear hx
        refine (anyX_cons ?_ anyX_nil)
        refine xl_step (i := 8) rfl (wantAll rfl) ?_
        refine of_ex (hx_alloc hH 61 (z := .agg (([.int .i64 0, .int .i64 0, .int .i64 0] : List Value) ++ (cBs (List.replicate 32 0) ++ (cBs (List.replicate 32 0) ++ ([.slice none 0 0] : List Value)))).toArray) (n := 68) (cs := ([.int .i64 0, .int .i64 0, .int .i64 0] : List Value) ++ (cBs (List.replicate 32 0) ++ (cBs (List.replicate 32 0) ++ ([.slice none 0 0] : List Value)))) rfl (by kernel_rfl) (by rfl)) ?_
        clear hH
        rintro _ w7 ⟨g4, rfl, hH, hx⟩
        replace hH : Heap _ _ _ [_, _, _] := hH
        refine ⟨(Ext.any hx), ?_⟩
        clear hx
        refine anyX_ready (rs := [9]) (by kernel_rfl) ?_
        intro w8 hx
        replace hH := hH.ext hx
        clear hx
        refine (anyX_cons ?_ anyX_nil)
        refine xl_step (i := 9) rfl (wantAll rfl) ?_
        refine of_sk (hx_storeW hH (i := 0) (cs := ([.int .i64 u.c0, .int .i64 u.c1, .int .i64 u.c2] : List Value) ++ (cBs u.h0.1 ++ cBs u.h1.1)) rfl rfl rfl (fr_eval rfl rfl) (fr_eval rfl rfl) (sz_len Try.sz75 (zTP_l0 u.h0.2 u.h1.2)) (((zTP_l0 (List.length_replicate ..) (List.length_replicate ..))).trans ((zTP_l0 u.h0.2 u.h1.2)).symm) (zTP_o6 rfl rfl rfl)) ?_
        clear hH
        rintro w9 ⟨hH, hx⟩
        replace hH : Heap _ _ _ [_, _, _] := hH
        refine ⟨hx, ?_⟩
        clear hx
        refine anyX_ready (rs := [10]) (by kernel_rfl) ?_
        intro w10 hx
        replace hH := hH.ext hx
        clear hx
        refine (anyX_cons ?_ anyX_nil)
        refine xl_step (i := 10) rfl (wantAll rfl) ?_
        refine of_sk (hx_storeW hH (i := 1) (cs := ([.int .i64 u.jc, .int .i64 u.js] : List Value) ++ (cBs u.jh.1 ++ ([vb] : List Value))) rfl rfl rfl (fr_eval rfl rfl) (fr_eval rfl rfl) (sz_len Try.sz79 (zTP_l2 u.jh.2)) (((zTP_l2 (List.length_replicate ..))).trans ((zTP_l2 u.jh.2)).symm) (zTP_o7 rfl rfl (Rd.oneV (hbl.rd _ (hO.chg.trans (Ext.any hH.done)))))) ?_
        clear hH
        rintro w11 ⟨hH, hx⟩
        replace hH : Heap _ _ _ [_, _, _] := hH
        refine ⟨hx, ?_⟩
        clear hx
        refine xl_tail (s := 11) rfl ?_
        intro w12 hx
        replace hH := hH.ext hx
        clear hx
        replace hH : Heap _ _ _ [_, _, _, _] := hO.joinN hH (Stays.blk (hH.blk (i := 0) rfl) (Stays.blk (hH.blk (i := 1) rfl) (Stays.blk (hH.blk (i := 2) rfl) Stays.nil)))
        clear hO
        refine lf_sk (wantAll rfl) (hx_storeW hH (i := 3) (cs := ([.int .i64 u.r.t, .int .i64 u.r.c, .int .i64 u.r.s] : List Value) ++ (cBs u.r.h.1 ++ (cBs u.r.b.1 ++ ([vg] : List Value)))) rfl rfl rfl (fr_eval rfl rfl) (fr_eval rfl rfl) (sz_len Try.sz61 (zTP_l4 u.r.h.2 u.r.b.2)) (((zTP_l4 (List.length_replicate ..) (List.length_replicate ..))).trans ((zTP_l4 u.r.h.2 u.r.b.2)).symm) (zTP_o8 rfl rfl rfl (Rd.oneV (hsg.rd _ hH.chg)))) ?_
        clear hH
        rintro w13 ⟨hH, hx⟩
        replace hH : Heap _ _ _ [_, _, _, _] := hH
        clear hx
        refine lf_nil ?_
        exact ⟨_, rfl, g2, g3, g4, e0, e1, e2, rfl, rfl, rfl, hH⟩
      · refine xl_step (i := 8) rfl (wantAll rfl) ?_
        refine of_ex (hx_alloc hH 61 (z := .agg (([.int .i64 0, .int .i64 0, .int .i64 0] : List Value) ++ (cBs (List.replicate 32 0) ++ (cBs (List.replicate 32 0) ++ ([.slice none 0 0] : List Value)))).toArray) (n := 68) (cs := ([.int .i64 0, .int .i64 0, .int .i64 0] : List Value) ++ (cBs (List.replicate 32 0) ++ (cBs (List.replicate 32 0) ++ ([.slice none 0 0] : List Value)))) rfl (by kernel_rfl) (by rfl)) ?_
        clear hH
        rintro _ w14 ⟨g5, rfl, hH, hx⟩
        replace hH : Heap _ _ _ [_, _] := hH
        refine ⟨(Ext.any hx), ?_⟩
        clear hx
        refine anyX_ready (rs := [7]) (by kernel_rfl) ?_
        intro w15 hx
        replace hH := hH.ext hx
        clear hx
        refine (anyX_cons ?_ anyX_nil)
        refine xl_step (i := 7) rfl (wantAll rfl) ?_
        refine of_ex (hx_alloc hH 79 (z := .agg (([.int .i64 0, .int .i64 0] : List Value) ++ (cBs (List.replicate 32 0) ++ ([.slice none 0 0] : List Value))).toArray) (n := 35) (cs := ([.int .i64 0, .int .i64 0] : List Value) ++ (cBs (List.replicate 32 0) ++ ([.slice none 0 0] : List Value))) rfl (by kernel_rfl) (by rfl)) ?_
        clear hH
        rintro _ w16 ⟨g6, rfl, hH, hx⟩
        replace hH : Heap _ _ _ [_, _, _] := hH
        refine ⟨(Ext.any hx), ?_⟩
        clear hx
        refine anyX_ready (rs := [9]) (by kernel_rfl) ?_
        intro w17 hx
        replace hH := hH.ext hx
        clear hx
        refine (anyX_cons ?_ anyX_nil)
        refine xl_step (i := 9) rfl (wantAll rfl) ?_
        refine of_sk (hx_storeW hH (i := 0) (cs := ([.int .i64 u.c0, .int .i64 u.c1, .int .i64 u.c2] : List Value) ++ (cBs u.h0.1 ++ cBs u.h1.1)) rfl rfl rfl (fr_eval rfl rfl) (fr_eval rfl rfl) (sz_len Try.sz75 (zTP_l0 u.h0.2 u.h1.2)) (((zTP_l0 (List.length_replicate ..) (List.length_replicate ..))).trans ((zTP_l0 u.h0.2 u.h1.2)).symm) (zTP_o6 rfl rfl rfl)) ?_
        clear hH
        rintro w18 ⟨hH, hx⟩
        replace hH : Heap _ _ _ [_, _, _] := hH
        refine ⟨hx, ?_⟩
        clear hx
        refine anyX_ready (rs := [10]) (by kernel_rfl) ?_
        intro w19 hx
        replace hH := hH.ext hx
        clear hx
        refine (anyX_cons ?_ anyX_nil)
        refine xl_step (i := 10) rfl (wantAll rfl) ?_
        refine of_sk (hx_storeW hH (i := 2) (cs := ([.int .i64 u.jc, .int .i64 u.js] : List Value) ++ (cBs u.jh.1 ++ ([vb] : List Value))) rfl rfl rfl (fr_eval rfl rfl) (fr_eval rfl rfl) (sz_len Try.sz79 (zTP_l2 u.jh.2)) (((zTP_l2 (List.length_replicate ..))).trans ((zTP_l2 u.jh.2)).symm) (zTP_o7 rfl rfl (Rd.oneV (hbl.rd _ (hO.chg.trans (Ext.any hH.done)))))) ?_
        clear hH
        rintro w20 ⟨hH, hx⟩
        replace hH : Heap _ _ _ [_, _, _] := hH
        refine ⟨hx, ?_⟩
        clear hx
        refine xl_tail (s := 11) rfl ?_
        intro w21 hx
        replace hH := hH.ext hx
        clear hx
        replace hH : Heap _ _ _ [_, _, _, _] := hO.joinN hH (Stays.blk (hH.blk (i := 0) rfl) (Stays.blk (hH.blk (i := 1) rfl) (Stays.blk (hH.blk (i := 2) rfl) Stays.nil)))
        clear hO
        refine lf_sk (wantAll rfl) (hx_storeW hH (i := 2) (cs := ([.int .i64 u.r.t, .int .i64 u.r.c, .int .i64 u.r.s] : List Value) ++ (cBs u.r.h.1 ++ (cBs u.r.b.1 ++ ([vg] : List Value)))) rfl rfl rfl (fr_eval rfl rfl) (fr_eval rfl rfl) (sz_len Try.sz61 (zTP_l4 u.r.h.2 u.r.b.2)) (((zTP_l4 (List.length_replicate ..) (List.length_replicate ..))).trans ((zTP_l4 u.r.h.2 u.r.b.2)).symm) (zTP_o8 rfl rfl rfl (Rd.oneV (hsg.rd _ hH.chg)))) ?_
        clear hH
        rintro w22 ⟨hH, hx⟩
        replace hH : Heap _ _ _ [_, _, _, _] := hH
        clear hx
        refine lf_nil ?_
        replace hH : Heap _ _ _ [_, _, _, _] := hH.perm (.cons _ (.cons _ (.trans (.swap _ _ _) (.cons _ (.refl _)))))
        exact ⟨_, rfl, g2, g6, g5, e0, e1, e2, rfl, rfl, rfl, hH⟩
    · refine xl_step (i := 7) rfl (wantAll rfl) ?_
      refine of_ex (hx_alloc hH 79 (z := .agg (([.int .i64 0, .int .i64 0] : List Value) ++ (cBs (List.replicate 32 0) ++ ([.slice none 0 0] : List Value))).toArray) (n := 35) (cs := ([.int .i64 0, .int .i64 0] : List Value) ++ (cBs (List.replicate 32 0) ++ ([.slice none 0 0] : List Value))) rfl (by kernel_rfl) (by rfl)) ?_
      clear hH
      rintro _ w23 ⟨g7, rfl, hH, hx⟩
      replace hH : Heap _ _ _ [_] := hH
      refine ⟨(Ext.any hx), ?_⟩
      clear hx
      refine anyX_ready (rs := [6, 8]) (by kernel_rfl) ?_
      intro w24 hx
      replace hH := hH.ext hx
      clear hx
      refine (anyX_cons ?_ (anyX_cons ?_ anyX_nil))
      · refine xl_step (i := 6) rfl (wantAll rfl) ?_
        refine of_ex (hx_alloc hH 75 (z := .agg (([.int .i64 0, .int .i64 0, .int .i64 0] : List Value) ++ (cBs (List.replicate 32 0) ++ cBs (List.replicate 32 0))).toArray) (n := 67) (cs := ([.int .i64 0, .int .i64 0, .int .i64 0] : List Value) ++ (cBs (List.replicate 32 0) ++ cBs (List.replicate 32 0))) rfl (by kernel_rfl) (by rfl)) ?_
        clear hH
        rintro _ w25 ⟨g8, rfl, hH, hx⟩
        replace hH : Heap _ _ _ [_, _] := hH
        refine ⟨(Ext.any hx), ?_⟩
        clear hx
        refine anyX_ready (rs := [8]) (by kernel_rfl) ?_
        intro w26 hx
        replace hH := hH.ext hx
        clear hx
        refine (anyX_cons ?_ anyX_nil)
        refine xl_step (i := 8) rfl (wantAll rfl) ?_
        refine of_ex (hx_alloc hH 61 (z := .agg (([.int .i64 0, .int .i64 0, .int .i64 0] : List Value) ++ (cBs (List.replicate 32 0) ++ (cBs (List.replicate 32 0) ++ ([.slice none 0 0] : List Value)))).toArray) (n := 68) (cs := ([.int .i64 0, .int .i64 0, .int .i64 0] : List Value) ++ (cBs (List.replicate 32 0) ++ (cBs (List.replicate 32 0) ++ ([.slice none 0 0] : List Value)))) rfl (by kernel_rfl) (by rfl)) ?_
        clear hH
        rintro _ w27 ⟨g9, rfl, hH, hx⟩
        replace hH : Heap _ _ _ [_, _, _] := hH
        refine ⟨(Ext.any hx), ?_⟩
        clear hx
        refine anyX_ready (rs := [9]) (by kernel_rfl) ?_
        intro w28 hx
        replace hH := hH.ext hx
        clear hx
        refine (anyX_cons ?_ anyX_nil)
        refine xl_step (i := 9) rfl (wantAll rfl) ?_
        refine of_sk (hx_storeW hH (i := 1) (cs := ([.int .i64 u.c0, .int .i64 u.c1, .int .i64 u.c2] : List Value) ++ (cBs u.h0.1 ++ cBs u.h1.1)) rfl rfl rfl (fr_eval rfl rfl) (fr_eval rfl rfl) (sz_len Try.sz75 (zTP_l0 u.h0.2 u.h1.2)) (((zTP_l0 (List.length_replicate ..) (List.length_replicate ..))).trans ((zTP_l0 u.h0.2 u.h1.2)).symm) (zTP_o6 rfl rfl rfl)) ?_
        clear hH
        rintro w29 ⟨hH, hx⟩
        replace hH : Heap _ _ _ [_, _, _] := hH
        refine ⟨hx, ?_⟩
        clear hx
        refine anyX_ready (rs := [10]) (by kernel_rfl) ?_
        intro w30 hx
        replace hH := hH.ext hx
        clear hx
        refine (anyX_cons ?_ anyX_nil)
        refine xl_step (i := 10) rfl (wantAll rfl) ?_
        refine of_sk (hx_storeW hH (i := 0) (cs := ([.int .i64 u.jc, .int .i64 u.js] : List Value) ++ (cBs u.jh.1 ++ ([vb] : List Value))) rfl rfl rfl (fr_eval rfl rfl) (fr_eval rfl rfl) (sz_len Try.sz79 (zTP_l2 u.jh.2)) (((zTP_l2 (List.length_replicate ..))).trans ((zTP_l2 u.jh.2)).symm) (zTP_o7 rfl rfl (Rd.oneV (hbl.rd _ (hO.chg.trans (Ext.any hH.done)))))) ?_
        clear hH
        rintro w31 ⟨hH, hx⟩
        replace hH : Heap _ _ _ [_, _, _] := hH
        refine ⟨hx, ?_⟩
        clear hx
        refine xl_tail (s := 11) rfl ?_
        intro w32 hx
        replace hH := hH.ext hx
        clear hx
        replace hH : Heap _ _ _ [_, _, _, _] := hO.joinN hH (Stays.blk (hH.blk (i := 0) rfl) (Stays.blk (hH.blk (i := 1) rfl) (Stays.blk (hH.blk (i := 2) rfl) Stays.nil)))
        clear hO
        refine lf_sk (wantAll rfl) (hx_storeW hH (i := 3) (cs := ([.int .i64 u.r.t, .int .i64 u.r.c, .int .i64 u.r.s] : List Value) ++ (cBs u.r.h.1 ++ (cBs u.r.b.1 ++ ([vg] : List Value)))) rfl rfl rfl (fr_eval rfl rfl) (fr_eval rfl rfl) (sz_len Try.sz61 (zTP_l4 u.r.h.2 u.r.b.2)) (((zTP_l4 (List.length_replicate ..) (List.length_replicate ..))).trans ((zTP_l4 u.r.h.2 u.r.b.2)).symm) (zTP_o8 rfl rfl rfl (Rd.oneV (hsg.rd _ hH.chg)))) ?_
        clear hH
        rintro w33 ⟨hH, hx⟩
        replace hH : Heap _ _ _ [_, _, _, _] := hH
        clear hx
        refine lf_nil ?_
        replace hH : Heap _ _ _ [_, _, _, _] := hH.perm (.cons _ (.trans (.swap _ _ _) (.cons _ (.refl _))))
        exact ⟨_, rfl, g8, g7, g9, e0, e1, e2, rfl, rfl, rfl, hH⟩
      · refine xl_step (i := 8) rfl (wantAll rfl) ?_
        refine of_ex (hx_alloc hH 61 (z := .agg (([.int .i64 0, .int .i64 0, .int .i64 0] : List Value) ++ (cBs (List.replicate 32 0) ++ (cBs (List.replicate 32 0) ++ ([.slice none 0 0] : List Value)))).toArray) (n := 68) (cs := ([.int .i64 0, .int .i64 0, .int .i64 0] : List Value) ++ (cBs (List.replicate 32 0) ++ (cBs (List.replicate 32 0) ++ ([.slice none 0 0] : List Value)))) rfl (by kernel_rfl) (by rfl)) ?_
        clear hH
        rintro _ w34 ⟨g10, rfl, hH, hx⟩
        replace hH : Heap _ _ _ [_, _] := hH
        refine ⟨(Ext.any hx), ?_⟩
        clear hx
        refine anyX_ready (rs := [6]) (by kernel_rfl) ?_
        intro w35 hx
        replace hH := hH.ext hx
        clear hx
        refine (anyX_cons ?_ anyX_nil)
        refine xl_step (i := 6) rfl (wantAll rfl) ?_
        refine of_ex (hx_alloc hH 75 (z := .agg (([.int .i64 0, .int .i64 0, .int .i64 0] : List Value) ++ (cBs (List.replicate 32 0) ++ cBs (List.replicate 32 0))).toArray) (n := 67) (cs := ([.int .i64 0, .int .i64 0, .int .i64 0] : List Value) ++ (cBs (List.replicate 32 0) ++ cBs (List.replicate 32 0))) rfl (by kernel_rfl) (by rfl)) ?_
        clear hH
        rintro _ w36 ⟨g11, rfl, hH, hx⟩
        replace hH : Heap _ _ _ [_, _, _] := hH
        refine ⟨(Ext.any hx), ?_⟩
        clear hx
        refine anyX_ready (rs := [9]) (by kernel_rfl) ?_
        intro w37 hx
        replace hH := hH.ext hx
        clear hx
        refine (anyX_cons ?_ anyX_nil)
        refine xl_step (i := 9) rfl (wantAll rfl) ?_
        refine of_sk (hx_storeW hH (i := 2) (cs := ([.int .i64 u.c0, .int .i64 u.c1, .int .i64 u.c2] : List Value) ++ (cBs u.h0.1 ++ cBs u.h1.1)) rfl rfl rfl (fr_eval rfl rfl) (fr_eval rfl rfl) (sz_len Try.sz75 (zTP_l0 u.h0.2 u.h1.2)) (((zTP_l0 (List.length_replicate ..) (List.length_replicate ..))).trans ((zTP_l0 u.h0.2 u.h1.2)).symm) (zTP_o6 rfl rfl rfl)) ?_
        clear hH
        rintro w38 ⟨hH, hx⟩
        replace hH : Heap _ _ _ [_, _, _] := hH
        refine ⟨hx, ?_⟩
        clear hx
        refine anyX_ready (rs := [10]) (by kernel_rfl) ?_
        intro w39 hx
        replace hH := hH.ext hx
        clear hx
        refine (anyX_cons ?_ anyX_nil)
        refine xl_step (i := 10) rfl (wantAll rfl) ?_
        refine of_sk (hx_storeW hH (i := 0) (cs := ([.int .i64 u.jc, .int .i64 u.js] : List Value) ++ (cBs u.jh.1 ++ ([vb] : List Value))) rfl rfl rfl (fr_eval rfl rfl) (fr_eval rfl rfl) (sz_len Try.sz79 (zTP_l2 u.jh.2)) (((zTP_l2 (List.length_replicate ..))).trans ((zTP_l2 u.jh.2)).symm) (zTP_o7 rfl rfl (Rd.oneV (hbl.rd _ (hO.chg.trans (Ext.any hH.done)))))) ?_
        clear hH
        rintro w40 ⟨hH, hx⟩
        replace hH : Heap _ _ _ [_, _, _] := hH
        refine ⟨hx, ?_⟩
        clear hx
        refine xl_tail (s := 11) rfl ?_
        intro w41 hx
        replace hH := hH.ext hx
        clear hx
        replace hH : Heap _ _ _ [_, _, _, _] := hO.joinN hH (Stays.blk (hH.blk (i := 0) rfl) (Stays.blk (hH.blk (i := 1) rfl) (Stays.blk (hH.blk (i := 2) rfl) Stays.nil)))
        clear hO
        refine lf_sk (wantAll rfl) (hx_storeW hH (i := 2) (cs := ([.int .i64 u.r.t, .int .i64 u.r.c, .int .i64 u.r.s] : List Value) ++ (cBs u.r.h.1 ++ (cBs u.r.b.1 ++ ([vg] : List Value)))) rfl rfl rfl (fr_eval rfl rfl) (fr_eval rfl rfl) (sz_len Try.sz61 (zTP_l4 u.r.h.2 u.r.b.2)) (((zTP_l4 (List.length_replicate ..) (List.length_replicate ..))).trans ((zTP_l4 u.r.h.2 u.r.b.2)).symm) (zTP_o8 rfl rfl rfl (Rd.oneV (hsg.rd _ hH.chg)))) ?_
        clear hH
        rintro w42 ⟨hH, hx⟩
        replace hH : Heap _ _ _ [_, _, _, _] := hH
        clear hx
        refine lf_nil ?_
        replace hH : Heap _ _ _ [_, _, _, _] := hH.perm (.cons _ (.trans (.swap _ _ _) (.cons _ (.trans (.swap _ _ _) (.cons _ (.refl _))))))
        exact ⟨_, rfl, g11, g7, g10, e0, e1, e2, rfl, rfl, rfl, hH⟩
    · refine xl_step (i := 8) rfl (wantAll rfl) ?_
      refine of_ex (hx_alloc hH 61 (z := .agg (([.int .i64 0, .int .i64 0, .int .i64 0] : List Value) ++ (cBs (List.replicate 32 0) ++ (cBs (List.replicate 32 0) ++ ([.slice none 0 0] : List Value)))).toArray) (n := 68) (cs := ([.int .i64 0, .int .i64 0, .int .i64 0] : List Value) ++ (cBs (List.replicate 32 0) ++ (cBs (List.replicate 32 0) ++ ([.slice none 0 0] : List Value)))) rfl (by kernel_rfl) (by rfl)) ?_
      clear hH
      rintro _ w43 ⟨g12, rfl, hH, hx⟩
      replace hH : Heap _ _ _ [_] := hH
      refine ⟨(Ext.any hx), ?_⟩
      clear hx
      refine anyX_ready (rs := [6, 7]) (by kernel_rfl) ?_
      intro w44 hx
      replace hH := hH.ext hx
      clear hx
      refine (anyX_cons ?_ (anyX_cons ?_ anyX_nil))
      · refine xl_step (i := 6) rfl (wantAll rfl) ?_
        refine of_ex (hx_alloc hH 75 (z := .agg (([.int .i64 0, .int .i64 0, .int .i64 0] : List Value) ++ (cBs (List.replicate 32 0) ++ cBs (List.replicate 32 0))).toArray) (n := 67) (cs := ([.int .i64 0, .int .i64 0, .int .i64 0] : List Value) ++ (cBs (List.replicate 32 0) ++ cBs (List.replicate 32 0))) rfl (by kernel_rfl) (by rfl)) ?_
        clear hH
        rintro _ w45 ⟨g13, rfl, hH, hx⟩
        replace hH : Heap _ _ _ [_, _] := hH
        refine ⟨(Ext.any hx), ?_⟩
        clear hx
        refine anyX_ready (rs := [7]) (by kernel_rfl) ?_
        intro w46 hx
        replace hH := hH.ext hx
        clear hx
        refine (anyX_cons ?_ anyX_nil)
        refine xl_step (i := 7) rfl (wantAll rfl) ?_
        refine of_ex (hx_alloc hH 79 (z := .agg (([.int .i64 0, .int .i64 0] : List Value) ++ (cBs (List.replicate 32 0) ++ ([.slice none 0 0] : List Value))).toArray) (n := 35) (cs := ([.int .i64 0, .int .i64 0] : List Value) ++ (cBs (List.replicate 32 0) ++ ([.slice none 0 0] : List Value))) rfl (by kernel_rfl) (by rfl)) ?_
        clear hH
        rintro _ w47 ⟨g14, rfl, hH, hx⟩
        replace hH : Heap _ _ _ [_, _, _] := hH
        refine ⟨(Ext.any hx), ?_⟩
        clear hx
        refine anyX_ready (rs := [9]) (by kernel_rfl) ?_
        intro w48 hx
        replace hH := hH.ext hx
        clear hx
        refine (anyX_cons ?_ anyX_nil)
        refine xl_step (i := 9) rfl (wantAll rfl) ?_
        refine of_sk (hx_storeW hH (i := 1) (cs := ([.int .i64 u.c0, .int .i64 u.c1, .int .i64 u.c2] : List Value) ++ (cBs u.h0.1 ++ cBs u.h1.1)) rfl rfl rfl (fr_eval rfl rfl) (fr_eval rfl rfl) (sz_len Try.sz75 (zTP_l0 u.h0.2 u.h1.2)) (((zTP_l0 (List.length_replicate ..) (List.length_replicate ..))).trans ((zTP_l0 u.h0.2 u.h1.2)).symm) (zTP_o6 rfl rfl rfl)) ?_
        clear hH
        rintro w49 ⟨hH, hx⟩
        replace hH : Heap _ _ _ [_, _, _] := hH
        refine ⟨hx, ?_⟩
        clear hx
        refine anyX_ready (rs := [10]) (by kernel_rfl) ?_
        intro w50 hx
        replace hH := hH.ext hx
        clear hx
        refine (anyX_cons ?_ anyX_nil)
        refine xl_step (i := 10) rfl (wantAll rfl) ?_
        refine of_sk (hx_storeW hH (i := 2) (cs := ([.int .i64 u.jc, .int .i64 u.js] : List Value) ++ (cBs u.jh.1 ++ ([vb] : List Value))) rfl rfl rfl (fr_eval rfl rfl) (fr_eval rfl rfl) (sz_len Try.sz79 (zTP_l2 u.jh.2)) (((zTP_l2 (List.length_replicate ..))).trans ((zTP_l2 u.jh.2)).symm) (zTP_o7 rfl rfl (Rd.oneV (hbl.rd _ (hO.chg.trans (Ext.any hH.done)))))) ?_
        clear hH
        rintro w51 ⟨hH, hx⟩
        replace hH : Heap _ _ _ [_, _, _] := hH
        refine ⟨hx, ?_⟩
        clear hx
        refine xl_tail (s := 11) rfl ?_
        intro w52 hx
        replace hH := hH.ext hx
        clear hx
        replace hH : Heap _ _ _ [_, _, _, _] := hO.joinN hH (Stays.blk (hH.blk (i := 0) rfl) (Stays.blk (hH.blk (i := 1) rfl) (Stays.blk (hH.blk (i := 2) rfl) Stays.nil)))
        clear hO
        refine lf_sk (wantAll rfl) (hx_storeW hH (i := 1) (cs := ([.int .i64 u.r.t, .int .i64 u.r.c, .int .i64 u.r.s] : List Value) ++ (cBs u.r.h.1 ++ (cBs u.r.b.1 ++ ([vg] : List Value)))) rfl rfl rfl (fr_eval rfl rfl) (fr_eval rfl rfl) (sz_len Try.sz61 (zTP_l4 u.r.h.2 u.r.b.2)) (((zTP_l4 (List.length_replicate ..) (List.length_replicate ..))).trans ((zTP_l4 u.r.h.2 u.r.b.2)).symm) (zTP_o8 rfl rfl rfl (Rd.oneV (hsg.rd _ hH.chg)))) ?_
        clear hH
        rintro w53 ⟨hH, hx⟩
        replace hH : Heap _ _ _ [_, _, _, _] := hH
        clear hx
        refine lf_nil ?_
        replace hH : Heap _ _ _ [_, _, _, _] := hH.perm (.cons _ (.trans (.swap _ _ _) (.cons _ (.refl _))))
        replace hH : Heap _ _ _ [_, _, _, _] := hH.perm (.cons _ (.cons _ (.trans (.swap _ _ _) (.cons _ (.refl _)))))
        exact ⟨_, rfl, g13, g14, g12, e0, e1, e2, rfl, rfl, rfl, hH⟩
      · refine xl_step (i := 7) rfl (wantAll rfl) ?_
        refine of_ex (hx_alloc hH 79 (z := .agg (([.int .i64 0, .int .i64 0] : List Value) ++ (cBs (List.replicate 32 0) ++ ([.slice none 0 0] : List Value))).toArray) (n := 35) (cs := ([.int .i64 0, .int .i64 0] : List Value) ++ (cBs (List.replicate 32 0) ++ ([.slice none 0 0] : List Value))) rfl (by kernel_rfl) (by rfl)) ?_
        clear hH
        rintro _ w54 ⟨g15, rfl, hH, hx⟩
        replace hH : Heap _ _ _ [_, _] := hH
        refine ⟨(Ext.any hx), ?_⟩
        clear hx
        refine anyX_ready (rs := [6]) (by kernel_rfl) ?_
        intro w55 hx
        replace hH := hH.ext hx
        clear hx
        refine (anyX_cons ?_ anyX_nil)
        refine xl_step (i := 6) rfl (wantAll rfl) ?_
        refine of_ex (hx_alloc hH 75 (z := .agg (([.int .i64 0, .int .i64 0, .int .i64 0] : List Value) ++ (cBs (List.replicate 32 0) ++ cBs (List.replicate 32 0))).toArray) (n := 67) (cs := ([.int .i64 0, .int .i64 0, .int .i64 0] : List Value) ++ (cBs (List.replicate 32 0) ++ cBs (List.replicate 32 0))) rfl (by kernel_rfl) (by rfl)) ?_
        clear hH
        rintro _ w56 ⟨g16, rfl, hH, hx⟩
        replace hH : Heap _ _ _ [_, _, _] := hH
        refine ⟨(Ext.any hx), ?_⟩
        clear hx
        refine anyX_ready (rs := [9]) (by kernel_rfl) ?_
        intro w57 hx
        replace hH := hH.ext hx
        clear hx
        refine (anyX_cons ?_ anyX_nil)
        refine xl_step (i := 9) rfl (wantAll rfl) ?_
        refine of_sk (hx_storeW hH (i := 2) (cs := ([.int .i64 u.c0, .int .i64 u.c1, .int .i64 u.c2] : List Value) ++ (cBs u.h0.1 ++ cBs u.h1.1)) rfl rfl rfl (fr_eval rfl rfl) (fr_eval rfl rfl) (sz_len Try.sz75 (zTP_l0 u.h0.2 u.h1.2)) (((zTP_l0 (List.length_replicate ..) (List.length_replicate ..))).trans ((zTP_l0 u.h0.2 u.h1.2)).symm) (zTP_o6 rfl rfl rfl)) ?_
        clear hH
        rintro w58 ⟨hH, hx⟩
        replace hH : Heap _ _ _ [_, _, _] := hH
        refine ⟨hx, ?_⟩
        clear hx
        refine anyX_ready (rs := [10]) (by kernel_rfl) ?_
        intro w59 hx
        replace hH := hH.ext hx
        clear hx
        refine (anyX_cons ?_ anyX_nil)
        refine xl_step (i := 10) rfl (wantAll rfl) ?_
        refine of_sk (hx_storeW hH (i := 1) (cs := ([.int .i64 u.jc, .int .i64 u.js] : List Value) ++ (cBs u.jh.1 ++ ([vb] : List Value))) rfl rfl rfl (fr_eval rfl rfl) (fr_eval rfl rfl) (sz_len Try.sz79 (zTP_l2 u.jh.2)) (((zTP_l2 (List.length_replicate ..))).trans ((zTP_l2 u.jh.2)).symm) (zTP_o7 rfl rfl (Rd.oneV (hbl.rd _ (hO.chg.trans (Ext.any hH.done)))))) ?_
        clear hH
        rintro w60 ⟨hH, hx⟩
        replace hH : Heap _ _ _ [_, _, _] := hH
        refine ⟨hx, ?_⟩
        clear hx
        refine xl_tail (s := 11) rfl ?_
        intro w61 hx
        replace hH := hH.ext hx
        clear hx
        replace hH : Heap _ _ _ [_, _, _, _] := hO.joinN hH (Stays.blk (hH.blk (i := 0) rfl) (Stays.blk (hH.blk (i := 1) rfl) (Stays.blk (hH.blk (i := 2) rfl) Stays.nil)))
        clear hO
        refine lf_sk (wantAll rfl) (hx_storeW hH (i := 1) (cs := ([.int .i64 u.r.t, .int .i64 u.r.c, .int .i64 u.r.s] : List Value) ++ (cBs u.r.h.1 ++ (cBs u.r.b.1 ++ ([vg] : List Value)))) rfl rfl rfl (fr_eval rfl rfl) (fr_eval rfl rfl) (sz_len Try.sz61 (zTP_l4 u.r.h.2 u.r.b.2)) (((zTP_l4 (List.length_replicate ..) (List.length_replicate ..))).trans ((zTP_l4 u.r.h.2 u.r.b.2)).symm) (zTP_o8 rfl rfl rfl (Rd.oneV (hsg.rd _ hH.chg)))) ?_
        clear hH
        rintro w62 ⟨hH, hx⟩
        replace hH : Heap _ _ _ [_, _, _, _] := hH
        clear hx
        refine lf_nil ?_
        replace hH : Heap _ _ _ [_, _, _, _] := hH.perm (.cons _ (.trans (.swap _ _ _) (.cons _ (.trans (.swap _ _ _) (.cons _ (.refl _))))))
        replace hH : Heap _ _ _ [_, _, _, _] := hH.perm (.cons _ (.cons _ (.trans (.swap _ _ _) (.cons _ (.refl _)))))
        exact ⟨_, rfl, g16, g15, g12, e0, e1, e2, rfl, rfl, rfl, hH⟩
  clear e0 e1 e2 hH
  clear F
  rintro F w63 ⟨ga, gb, gc, e0, e1, e2, e3, e4, e5, hH⟩
  refine then_n ?_
  refine wp_seq ?_
  refine wp_regionF ?_
  refine lf_val (v := .pointer (some ⟨ga, 0, none⟩)) (wantAll rfl) (rv_fieldAddr (n := 0) rfl (fr_eval rfl e3) Try.underlying75 rfl rfl (by kernel_rfl)) ?_
  refine lf_val (v := .int .i64 u.c0) (wantAll rfl) (rv_load1 rfl (hH.blk (i := 1) rfl) (zTP_g9 u.h0.2 u.h1.2) (fr_eval rfl rfl) Try.underlying3 rfl Try.sz3) ?_
  refine lf_val (v := .bool (decide (u.c0 ≥ 0))) (wantAll rfl) (rv_geqP (p := u.c0 ≥ 0) rfl (fr_eval rfl rfl) rfl Iff.rfl) ?_
  refine lf_val (v := .bool (decide (u.c0 ≥ 0))) (wantAll rfl) (rv_move rfl (fr_eval rfl rfl)) ?_
  refine lf_joinP (fun F' => F' 0 = .agg (([.int .i64 u.k, .int .i64 u.a, .int .i64 u.b, .int .i64 u.c0, .int .i64 u.c1, .int .i64 u.c2] : List Value) ++ (cBs u.h0.1 ++ (cBs u.h1.1 ++ (([.int .i64 u.g] : List Value) ++ (cBs u.o.1 ++ (([.int .i64 u.n] : List Value) ++ (cBs u.x.1 ++ (([.int .i64 u.jc, .int .i64 u.js] : List Value) ++ (cBs u.jh.1 ++ (([vb, .int .i64 u.r.t, .int .i64 u.r.c, .int .i64 u.r.s] : List Value) ++ (cBs u.r.h.1 ++ (cBs u.r.b.1 ++ ([vg] : List Value))))))))))))).toArray ∧ F' 1 = .pointer (some ⟨g1, 0, none⟩) ∧ F' 2 = .bool false ∧ F' 3 = .pointer (some ⟨ga, 0, none⟩) ∧ F' 4 = .pointer (some ⟨gb, 0, none⟩) ∧ F' 5 = .pointer (some ⟨gc, 0, none⟩) ∧ F' 20 = .bool (decide ((u.c0 ≥ 0) ∧ (u.c0 ≤ 1048576)))) 4 (fun hk => ?_) ?_
  · by_cases hc1 : u.c0 ≥ 0
    · refine lf_val (v := .pointer (some ⟨ga, 0, none⟩)) (wantF (d := 16) rfl (by kernel_rfl) rfl (congrArg Value.bool (decide_eq_true hc1))) (rv_fieldAddr (n := 0) rfl (fr_eval rfl e3) Try.underlying75 rfl rfl (by kernel_rfl)) ?_
      refine lf_val (v := .int .i64 u.c0) (wantF (d := 16) rfl (by kernel_rfl) rfl (congrArg Value.bool (decide_eq_true hc1))) (rv_load1 rfl (hH.blk (i := 1) rfl) (zTP_g9 u.h0.2 u.h1.2) (fr_eval rfl rfl) Try.underlying3 rfl Try.sz3) ?_
      refine lf_val (v := .bool (decide (u.c0 ≤ 1048576))) (wantF (d := 16) rfl (by kernel_rfl) rfl (congrArg Value.bool (decide_eq_true hc1))) (rv_leqP (p := u.c0 ≤ 1048576) rfl (fr_eval rfl rfl) rfl Iff.rfl) ?_
      refine lf_val (v := .bool (decide (u.c0 ≤ 1048576))) (wantAll rfl) (rv_pickT rfl (fr_eval rfl (congrArg Value.bool (decide_eq_true hc1))) (fr_eval rfl rfl)) ?_
      exact hk _ ⟨e0, e1, e2, e3, e4, e5, (congrArg Value.bool (dec_and hc1))⟩
    · refine lf_not (wantNot (d := 16) rfl (by kernel_rfl) rfl (congrArg Value.bool (decide_eq_false hc1))) ?_
      refine lf_not (wantNot (d := 16) rfl (by kernel_rfl) rfl (congrArg Value.bool (decide_eq_false hc1))) ?_
      refine lf_not (wantNot (d := 16) rfl (by kernel_rfl) rfl (congrArg Value.bool (decide_eq_false hc1))) ?_
      refine lf_val (v := .bool false) (wantAll rfl) (rv_pickF rfl (fr_eval rfl (congrArg Value.bool (decide_eq_false hc1))) rfl) ?_
      exact hk _ ⟨e0, e1, e2, e3, e4, e5, (congrArg Value.bool (dec_andF hc1))⟩
  · clear e0 e1 e2 e3 e4 e5
    clear F
    rintro F ⟨e0, e1, e2, e3, e4, e5, e20⟩
    refine lf_val (wantAll rfl) (rv_move rfl (fr_eval rfl e20)) ?_
    refine lf_joinP (fun F' => F' 0 = .agg (([.int .i64 u.k, .int .i64 u.a, .int .i64 u.b, .int .i64 u.c0, .int .i64 u.c1, .int .i64 u.c2] : List Value) ++ (cBs u.h0.1 ++ (cBs u.h1.1 ++ (([.int .i64 u.g] : List Value) ++ (cBs u.o.1 ++ (([.int .i64 u.n] : List Value) ++ (cBs u.x.1 ++ (([.int .i64 u.jc, .int .i64 u.js] : List Value) ++ (cBs u.jh.1 ++ (([vb, .int .i64 u.r.t, .int .i64 u.r.c, .int .i64 u.r.s] : List Value) ++ (cBs u.r.h.1 ++ (cBs u.r.b.1 ++ ([vg] : List Value))))))))))))).toArray ∧ F' 1 = .pointer (some ⟨g1, 0, none⟩) ∧ F' 2 = .bool false ∧ F' 3 = .pointer (some ⟨ga, 0, none⟩) ∧ F' 4 = .pointer (some ⟨gb, 0, none⟩) ∧ F' 5 = .pointer (some ⟨gc, 0, none⟩) ∧ F' 25 = .bool (decide (((u.c0 ≥ 0) ∧ (u.c0 ≤ 1048576)) ∧ (u.c1 ≥ 0)))) 4 (fun hk => ?_) ?_
    · by_cases hc2 : (u.c0 ≥ 0) ∧ (u.c0 ≤ 1048576)
      · refine lf_val (v := .pointer (some ⟨ga, 1, none⟩)) (wantF (d := 21) rfl (by kernel_rfl) rfl (congrArg Value.bool (decide_eq_true hc2))) (rv_fieldAddr (n := 0) rfl (fr_eval rfl e3) Try.underlying75 rfl rfl (by kernel_rfl)) ?_
        refine lf_val (v := .int .i64 u.c1) (wantF (d := 21) rfl (by kernel_rfl) rfl (congrArg Value.bool (decide_eq_true hc2))) (rv_load1 rfl (hH.blk (i := 1) rfl) (zTP_g10 u.h0.2 u.h1.2) (fr_eval rfl rfl) Try.underlying2 rfl Try.sz2) ?_
        refine lf_val (v := .bool (decide (u.c1 ≥ 0))) (wantF (d := 21) rfl (by kernel_rfl) rfl (congrArg Value.bool (decide_eq_true hc2))) (rv_geqP (p := u.c1 ≥ 0) rfl (fr_eval rfl rfl) rfl Iff.rfl) ?_
        refine lf_val (v := .bool (decide (u.c1 ≥ 0))) (wantAll rfl) (rv_pickT rfl (fr_eval rfl (congrArg Value.bool (decide_eq_true hc2))) (fr_eval rfl rfl)) ?_
        exact hk _ ⟨e0, e1, e2, e3, e4, e5, (congrArg Value.bool (dec_and hc2))⟩
      · refine lf_not (wantNot (d := 21) rfl (by kernel_rfl) rfl (congrArg Value.bool (decide_eq_false hc2))) ?_
        refine lf_not (wantNot (d := 21) rfl (by kernel_rfl) rfl (congrArg Value.bool (decide_eq_false hc2))) ?_
        refine lf_not (wantNot (d := 21) rfl (by kernel_rfl) rfl (congrArg Value.bool (decide_eq_false hc2))) ?_
        refine lf_val (v := .bool false) (wantAll rfl) (rv_pickF rfl (fr_eval rfl (congrArg Value.bool (decide_eq_false hc2))) rfl) ?_
        exact hk _ ⟨e0, e1, e2, e3, e4, e5, (congrArg Value.bool (dec_andF hc2))⟩
    · clear e0 e1 e2 e3 e4 e5 e20
      clear F
      rintro F ⟨e0, e1, e2, e3, e4, e5, e25⟩
      refine lf_val (wantAll rfl) (rv_move rfl (fr_eval rfl e25)) ?_
      refine lf_joinP (fun F' => F' 0 = .agg (([.int .i64 u.k, .int .i64 u.a, .int .i64 u.b, .int .i64 u.c0, .int .i64 u.c1, .int .i64 u.c2] : List Value) ++ (cBs u.h0.1 ++ (cBs u.h1.1 ++ (([.int .i64 u.g] : List Value) ++ (cBs u.o.1 ++ (([.int .i64 u.n] : List Value) ++ (cBs u.x.1 ++ (([.int .i64 u.jc, .int .i64 u.js] : List Value) ++ (cBs u.jh.1 ++ (([vb, .int .i64 u.r.t, .int .i64 u.r.c, .int .i64 u.r.s] : List Value) ++ (cBs u.r.h.1 ++ (cBs u.r.b.1 ++ ([vg] : List Value))))))))))))).toArray ∧ F' 1 = .pointer (some ⟨g1, 0, none⟩) ∧ F' 2 = .bool false ∧ F' 3 = .pointer (some ⟨ga, 0, none⟩) ∧ F' 4 = .pointer (some ⟨gb, 0, none⟩) ∧ F' 5 = .pointer (some ⟨gc, 0, none⟩) ∧ F' 30 = .bool (decide ((((u.c0 ≥ 0) ∧ (u.c0 ≤ 1048576)) ∧ (u.c1 ≥ 0)) ∧ (u.c1 ≤ 1125899906842624)))) 4 (fun hk => ?_) ?_
      · by_cases hc3 : ((u.c0 ≥ 0) ∧ (u.c0 ≤ 1048576)) ∧ (u.c1 ≥ 0)
        · refine lf_val (v := .pointer (some ⟨ga, 1, none⟩)) (wantF (d := 26) rfl (by kernel_rfl) rfl (congrArg Value.bool (decide_eq_true hc3))) (rv_fieldAddr (n := 0) rfl (fr_eval rfl e3) Try.underlying75 rfl rfl (by kernel_rfl)) ?_
          refine lf_val (v := .int .i64 u.c1) (wantF (d := 26) rfl (by kernel_rfl) rfl (congrArg Value.bool (decide_eq_true hc3))) (rv_load1 rfl (hH.blk (i := 1) rfl) (zTP_g10 u.h0.2 u.h1.2) (fr_eval rfl rfl) Try.underlying2 rfl Try.sz2) ?_
          refine lf_val (v := .bool (decide (u.c1 ≤ 1125899906842624))) (wantF (d := 26) rfl (by kernel_rfl) rfl (congrArg Value.bool (decide_eq_true hc3))) (rv_leqP (p := u.c1 ≤ 1125899906842624) rfl (fr_eval rfl rfl) rfl Iff.rfl) ?_
          refine lf_val (v := .bool (decide (u.c1 ≤ 1125899906842624))) (wantAll rfl) (rv_pickT rfl (fr_eval rfl (congrArg Value.bool (decide_eq_true hc3))) (fr_eval rfl rfl)) ?_
          exact hk _ ⟨e0, e1, e2, e3, e4, e5, (congrArg Value.bool (dec_and hc3))⟩
        · refine lf_not (wantNot (d := 26) rfl (by kernel_rfl) rfl (congrArg Value.bool (decide_eq_false hc3))) ?_
          refine lf_not (wantNot (d := 26) rfl (by kernel_rfl) rfl (congrArg Value.bool (decide_eq_false hc3))) ?_
          refine lf_not (wantNot (d := 26) rfl (by kernel_rfl) rfl (congrArg Value.bool (decide_eq_false hc3))) ?_
          refine lf_val (v := .bool false) (wantAll rfl) (rv_pickF rfl (fr_eval rfl (congrArg Value.bool (decide_eq_false hc3))) rfl) ?_
          exact hk _ ⟨e0, e1, e2, e3, e4, e5, (congrArg Value.bool (dec_andF hc3))⟩
      · clear e0 e1 e2 e3 e4 e5 e25
        clear F
        rintro F ⟨e0, e1, e2, e3, e4, e5, e30⟩
        refine lf_val (wantAll rfl) (rv_move rfl (fr_eval rfl e30)) ?_
        refine lf_joinP (fun F' => F' 0 = .agg (([.int .i64 u.k, .int .i64 u.a, .int .i64 u.b, .int .i64 u.c0, .int .i64 u.c1, .int .i64 u.c2] : List Value) ++ (cBs u.h0.1 ++ (cBs u.h1.1 ++ (([.int .i64 u.g] : List Value) ++ (cBs u.o.1 ++ (([.int .i64 u.n] : List Value) ++ (cBs u.x.1 ++ (([.int .i64 u.jc, .int .i64 u.js] : List Value) ++ (cBs u.jh.1 ++ (([vb, .int .i64 u.r.t, .int .i64 u.r.c, .int .i64 u.r.s] : List Value) ++ (cBs u.r.h.1 ++ (cBs u.r.b.1 ++ ([vg] : List Value))))))))))))).toArray ∧ F' 1 = .pointer (some ⟨g1, 0, none⟩) ∧ F' 2 = .bool false ∧ F' 3 = .pointer (some ⟨ga, 0, none⟩) ∧ F' 4 = .pointer (some ⟨gb, 0, none⟩) ∧ F' 5 = .pointer (some ⟨gc, 0, none⟩) ∧ F' 35 = .bool (decide (((((u.c0 ≥ 0) ∧ (u.c0 ≤ 1048576)) ∧ (u.c1 ≥ 0)) ∧ (u.c1 ≤ 1125899906842624)) ∧ (u.c2 ≥ 0)))) 4 (fun hk => ?_) ?_
        · by_cases hc4 : (((u.c0 ≥ 0) ∧ (u.c0 ≤ 1048576)) ∧ (u.c1 ≥ 0)) ∧ (u.c1 ≤ 1125899906842624)
          · refine lf_val (v := .pointer (some ⟨ga, 2, none⟩)) (wantF (d := 31) rfl (by kernel_rfl) rfl (congrArg Value.bool (decide_eq_true hc4))) (rv_fieldAddr (n := 0) rfl (fr_eval rfl e3) Try.underlying75 rfl rfl (by kernel_rfl)) ?_
            refine lf_val (v := .int .i64 u.c2) (wantF (d := 31) rfl (by kernel_rfl) rfl (congrArg Value.bool (decide_eq_true hc4))) (rv_load1 rfl (hH.blk (i := 1) rfl) (zTP_g11 u.h0.2 u.h1.2) (fr_eval rfl rfl) Try.underlying2 rfl Try.sz2) ?_
            refine lf_val (v := .bool (decide (u.c2 ≥ 0))) (wantF (d := 31) rfl (by kernel_rfl) rfl (congrArg Value.bool (decide_eq_true hc4))) (rv_geqP (p := u.c2 ≥ 0) rfl (fr_eval rfl rfl) rfl Iff.rfl) ?_
            refine lf_val (v := .bool (decide (u.c2 ≥ 0))) (wantAll rfl) (rv_pickT rfl (fr_eval rfl (congrArg Value.bool (decide_eq_true hc4))) (fr_eval rfl rfl)) ?_
            exact hk _ ⟨e0, e1, e2, e3, e4, e5, (congrArg Value.bool (dec_and hc4))⟩
          · refine lf_not (wantNot (d := 31) rfl (by kernel_rfl) rfl (congrArg Value.bool (decide_eq_false hc4))) ?_
            refine lf_not (wantNot (d := 31) rfl (by kernel_rfl) rfl (congrArg Value.bool (decide_eq_false hc4))) ?_
            refine lf_not (wantNot (d := 31) rfl (by kernel_rfl) rfl (congrArg Value.bool (decide_eq_false hc4))) ?_
            refine lf_val (v := .bool false) (wantAll rfl) (rv_pickF rfl (fr_eval rfl (congrArg Value.bool (decide_eq_false hc4))) rfl) ?_
            exact hk _ ⟨e0, e1, e2, e3, e4, e5, (congrArg Value.bool (dec_andF hc4))⟩
        · clear e0 e1 e2 e3 e4 e5 e30
          clear F
          rintro F ⟨e0, e1, e2, e3, e4, e5, e35⟩
          refine lf_val (wantAll rfl) (rv_move rfl (fr_eval rfl e35)) ?_
          refine lf_joinP (fun F' => F' 0 = .agg (([.int .i64 u.k, .int .i64 u.a, .int .i64 u.b, .int .i64 u.c0, .int .i64 u.c1, .int .i64 u.c2] : List Value) ++ (cBs u.h0.1 ++ (cBs u.h1.1 ++ (([.int .i64 u.g] : List Value) ++ (cBs u.o.1 ++ (([.int .i64 u.n] : List Value) ++ (cBs u.x.1 ++ (([.int .i64 u.jc, .int .i64 u.js] : List Value) ++ (cBs u.jh.1 ++ (([vb, .int .i64 u.r.t, .int .i64 u.r.c, .int .i64 u.r.s] : List Value) ++ (cBs u.r.h.1 ++ (cBs u.r.b.1 ++ ([vg] : List Value))))))))))))).toArray ∧ F' 1 = .pointer (some ⟨g1, 0, none⟩) ∧ F' 2 = .bool false ∧ F' 3 = .pointer (some ⟨ga, 0, none⟩) ∧ F' 4 = .pointer (some ⟨gb, 0, none⟩) ∧ F' 5 = .pointer (some ⟨gc, 0, none⟩) ∧ F' 40 = .bool (decide ((((((u.c0 ≥ 0) ∧ (u.c0 ≤ 1048576)) ∧ (u.c1 ≥ 0)) ∧ (u.c1 ≤ 1125899906842624)) ∧ (u.c2 ≥ 0)) ∧ (u.c2 ≤ 1125899906842624)))) 4 (fun hk => ?_) ?_
          · by_cases hc5 : ((((u.c0 ≥ 0) ∧ (u.c0 ≤ 1048576)) ∧ (u.c1 ≥ 0)) ∧ (u.c1 ≤ 1125899906842624)) ∧ (u.c2 ≥ 0)
            · refine lf_val (v := .pointer (some ⟨ga, 2, none⟩)) (wantF (d := 36) rfl (by kernel_rfl) rfl (congrArg Value.bool (decide_eq_true hc5))) (rv_fieldAddr (n := 0) rfl (fr_eval rfl e3) Try.underlying75 rfl rfl (by kernel_rfl)) ?_
              refine lf_val (v := .int .i64 u.c2) (wantF (d := 36) rfl (by kernel_rfl) rfl (congrArg Value.bool (decide_eq_true hc5))) (rv_load1 rfl (hH.blk (i := 1) rfl) (zTP_g11 u.h0.2 u.h1.2) (fr_eval rfl rfl) Try.underlying2 rfl Try.sz2) ?_
              refine lf_val (v := .bool (decide (u.c2 ≤ 1125899906842624))) (wantF (d := 36) rfl (by kernel_rfl) rfl (congrArg Value.bool (decide_eq_true hc5))) (rv_leqP (p := u.c2 ≤ 1125899906842624) rfl (fr_eval rfl rfl) rfl Iff.rfl) ?_
              refine lf_val (v := .bool (decide (u.c2 ≤ 1125899906842624))) (wantAll rfl) (rv_pickT rfl (fr_eval rfl (congrArg Value.bool (decide_eq_true hc5))) (fr_eval rfl rfl)) ?_
              exact hk _ ⟨e0, e1, e2, e3, e4, e5, (congrArg Value.bool (dec_and hc5))⟩
            · refine lf_not (wantNot (d := 36) rfl (by kernel_rfl) rfl (congrArg Value.bool (decide_eq_false hc5))) ?_
              refine lf_not (wantNot (d := 36) rfl (by kernel_rfl) rfl (congrArg Value.bool (decide_eq_false hc5))) ?_
              refine lf_not (wantNot (d := 36) rfl (by kernel_rfl) rfl (congrArg Value.bool (decide_eq_false hc5))) ?_
              refine lf_val (v := .bool false) (wantAll rfl) (rv_pickF rfl (fr_eval rfl (congrArg Value.bool (decide_eq_false hc5))) rfl) ?_
              exact hk _ ⟨e0, e1, e2, e3, e4, e5, (congrArg Value.bool (dec_andF hc5))⟩
          · clear e0 e1 e2 e3 e4 e5 e35
            clear F
            rintro F ⟨e0, e1, e2, e3, e4, e5, e40⟩
            refine lf_val (wantAll rfl) (rv_move rfl (fr_eval rfl e40)) ?_
            refine lf_joinP (fun F' => F' 0 = .agg (([.int .i64 u.k, .int .i64 u.a, .int .i64 u.b, .int .i64 u.c0, .int .i64 u.c1, .int .i64 u.c2] : List Value) ++ (cBs u.h0.1 ++ (cBs u.h1.1 ++ (([.int .i64 u.g] : List Value) ++ (cBs u.o.1 ++ (([.int .i64 u.n] : List Value) ++ (cBs u.x.1 ++ (([.int .i64 u.jc, .int .i64 u.js] : List Value) ++ (cBs u.jh.1 ++ (([vb, .int .i64 u.r.t, .int .i64 u.r.c, .int .i64 u.r.s] : List Value) ++ (cBs u.r.h.1 ++ (cBs u.r.b.1 ++ ([vg] : List Value))))))))))))).toArray ∧ F' 1 = .pointer (some ⟨g1, 0, none⟩) ∧ F' 2 = .bool false ∧ F' 3 = .pointer (some ⟨ga, 0, none⟩) ∧ F' 4 = .pointer (some ⟨gb, 0, none⟩) ∧ F' 5 = .pointer (some ⟨gc, 0, none⟩) ∧ F' 46 = .bool (decide (((((((u.c0 ≥ 0) ∧ (u.c0 ≤ 1048576)) ∧ (u.c1 ≥ 0)) ∧ (u.c1 ≤ 1125899906842624)) ∧ (u.c2 ≥ 0)) ∧ (u.c2 ≤ 1125899906842624)) ∧ (u.g ≥ 0)))) 5 (fun hk => ?_) ?_
            · by_cases hc6 : (((((u.c0 ≥ 0) ∧ (u.c0 ≤ 1048576)) ∧ (u.c1 ≥ 0)) ∧ (u.c1 ≤ 1125899906842624)) ∧ (u.c2 ≥ 0)) ∧ (u.c2 ≤ 1125899906842624)
              · refine lf_val (v := .pointer (some ⟨g1, 70, none⟩)) (wantF (d := 41) rfl (by kernel_rfl) rfl (congrArg Value.bool (decide_eq_true hc6))) (rv_fieldAddr (n := 32) rfl (fr_eval rfl e1) Try.underlying81 rfl rfl (by kernel_rfl)) ?_
                refine lf_val (v := .pointer (some ⟨g1, 70, none⟩)) (wantF (d := 41) rfl (by kernel_rfl) rfl (congrArg Value.bool (decide_eq_true hc6))) (rv_fieldAddr (n := 0) rfl (fr_eval rfl rfl) Try.underlying77 rfl rfl (by kernel_rfl)) ?_
                refine lf_val (v := .int .i64 u.g) (wantF (d := 41) rfl (by kernel_rfl) rfl (congrArg Value.bool (decide_eq_true hc6))) (rv_load1 rfl (hH.blk (i := 0) rfl) (zTP_g12 u.h0.2 u.h1.2 u.o.2 u.x.2 u.jh.2 u.r.h.2 u.r.b.2) (fr_eval rfl rfl) Try.underlying3 rfl Try.sz3) ?_
                refine lf_val (v := .bool (decide (u.g ≥ 0))) (wantF (d := 41) rfl (by kernel_rfl) rfl (congrArg Value.bool (decide_eq_true hc6))) (rv_geqP (p := u.g ≥ 0) rfl (fr_eval rfl rfl) rfl Iff.rfl) ?_
                refine lf_val (v := .bool (decide (u.g ≥ 0))) (wantAll rfl) (rv_pickT rfl (fr_eval rfl (congrArg Value.bool (decide_eq_true hc6))) (fr_eval rfl rfl)) ?_
                exact hk _ ⟨e0, e1, e2, e3, e4, e5, (congrArg Value.bool (dec_and hc6))⟩
              · refine lf_not (wantNot (d := 41) rfl (by kernel_rfl) rfl (congrArg Value.bool (decide_eq_false hc6))) ?_
                refine lf_not (wantNot (d := 41) rfl (by kernel_rfl) rfl (congrArg Value.bool (decide_eq_false hc6))) ?_
                refine lf_not (wantNot (d := 41) rfl (by kernel_rfl) rfl (congrArg Value.bool (decide_eq_false hc6))) ?_
                refine lf_not (wantNot (d := 41) rfl (by kernel_rfl) rfl (congrArg Value.bool (decide_eq_false hc6))) ?_
                refine lf_val (v := .bool false) (wantAll rfl) (rv_pickF rfl (fr_eval rfl (congrArg Value.bool (decide_eq_false hc6))) rfl) ?_
                exact hk _ ⟨e0, e1, e2, e3, e4, e5, (congrArg Value.bool (dec_andF hc6))⟩
            · clear e0 e1 e2 e3 e4 e5 e40
              clear F
              rintro F ⟨e0, e1, e2, e3, e4, e5, e46⟩
              refine lf_val (wantAll rfl) (rv_move rfl (fr_eval rfl e46)) ?_
              refine lf_joinP (fun F' => F' 0 = .agg (([.int .i64 u.k, .int .i64 u.a, .int .i64 u.b, .int .i64 u.c0, .int .i64 u.c1, .int .i64 u.c2] : List Value) ++ (cBs u.h0.1 ++ (cBs u.h1.1 ++ (([.int .i64 u.g] : List Value) ++ (cBs u.o.1 ++ (([.int .i64 u.n] : List Value) ++ (cBs u.x.1 ++ (([.int .i64 u.jc, .int .i64 u.js] : List Value) ++ (cBs u.jh.1 ++ (([vb, .int .i64 u.r.t, .int .i64 u.r.c, .int .i64 u.r.s] : List Value) ++ (cBs u.r.h.1 ++ (cBs u.r.b.1 ++ ([vg] : List Value))))))))))))).toArray ∧ F' 1 = .pointer (some ⟨g1, 0, none⟩) ∧ F' 2 = .bool false ∧ F' 3 = .pointer (some ⟨ga, 0, none⟩) ∧ F' 4 = .pointer (some ⟨gb, 0, none⟩) ∧ F' 5 = .pointer (some ⟨gc, 0, none⟩) ∧ F' 52 = .bool (decide ((((((((u.c0 ≥ 0) ∧ (u.c0 ≤ 1048576)) ∧ (u.c1 ≥ 0)) ∧ (u.c1 ≤ 1125899906842624)) ∧ (u.c2 ≥ 0)) ∧ (u.c2 ≤ 1125899906842624)) ∧ (u.g ≥ 0)) ∧ (u.g < 256)))) 5 (fun hk => ?_) ?_
              · by_cases hc7 : ((((((u.c0 ≥ 0) ∧ (u.c0 ≤ 1048576)) ∧ (u.c1 ≥ 0)) ∧ (u.c1 ≤ 1125899906842624)) ∧ (u.c2 ≥ 0)) ∧ (u.c2 ≤ 1125899906842624)) ∧ (u.g ≥ 0)
                · refine lf_val (v := .pointer (some ⟨g1, 70, none⟩)) (wantF (d := 47) rfl (by kernel_rfl) rfl (congrArg Value.bool (decide_eq_true hc7))) (rv_fieldAddr (n := 32) rfl (fr_eval rfl e1) Try.underlying81 rfl rfl (by kernel_rfl)) ?_
                  refine lf_val (v := .pointer (some ⟨g1, 70, none⟩)) (wantF (d := 47) rfl (by kernel_rfl) rfl (congrArg Value.bool (decide_eq_true hc7))) (rv_fieldAddr (n := 0) rfl (fr_eval rfl rfl) Try.underlying77 rfl rfl (by kernel_rfl)) ?_
                  refine lf_val (v := .int .i64 u.g) (wantF (d := 47) rfl (by kernel_rfl) rfl (congrArg Value.bool (decide_eq_true hc7))) (rv_load1 rfl (hH.blk (i := 0) rfl) (zTP_g12 u.h0.2 u.h1.2 u.o.2 u.x.2 u.jh.2 u.r.h.2 u.r.b.2) (fr_eval rfl rfl) Try.underlying3 rfl Try.sz3) ?_
                  refine lf_val (v := .bool (decide (u.g < 256))) (wantF (d := 47) rfl (by kernel_rfl) rfl (congrArg Value.bool (decide_eq_true hc7))) (rv_lssP (p := u.g < 256) rfl (fr_eval rfl rfl) rfl Iff.rfl) ?_
                  refine lf_val (v := .bool (decide (u.g < 256))) (wantAll rfl) (rv_pickT rfl (fr_eval rfl (congrArg Value.bool (decide_eq_true hc7))) (fr_eval rfl rfl)) ?_
                  exact hk _ ⟨e0, e1, e2, e3, e4, e5, (congrArg Value.bool (dec_and hc7))⟩
                · refine lf_not (wantNot (d := 47) rfl (by kernel_rfl) rfl (congrArg Value.bool (decide_eq_false hc7))) ?_
                  refine lf_not (wantNot (d := 47) rfl (by kernel_rfl) rfl (congrArg Value.bool (decide_eq_false hc7))) ?_
                  refine lf_not (wantNot (d := 47) rfl (by kernel_rfl) rfl (congrArg Value.bool (decide_eq_false hc7))) ?_
                  refine lf_not (wantNot (d := 47) rfl (by kernel_rfl) rfl (congrArg Value.bool (decide_eq_false hc7))) ?_
                  refine lf_val (v := .bool false) (wantAll rfl) (rv_pickF rfl (fr_eval rfl (congrArg Value.bool (decide_eq_false hc7))) rfl) ?_
                  exact hk _ ⟨e0, e1, e2, e3, e4, e5, (congrArg Value.bool (dec_andF hc7))⟩
              · clear e0 e1 e2 e3 e4 e5 e46
                clear F
                rintro F ⟨e0, e1, e2, e3, e4, e5, e52⟩
                refine lf_val (wantAll rfl) (rv_move rfl (fr_eval rfl e52)) ?_
                refine lf_joinP (fun F' => F' 0 = .agg (([.int .i64 u.k, .int .i64 u.a, .int .i64 u.b, .int .i64 u.c0, .int .i64 u.c1, .int .i64 u.c2] : List Value) ++ (cBs u.h0.1 ++ (cBs u.h1.1 ++ (([.int .i64 u.g] : List Value) ++ (cBs u.o.1 ++ (([.int .i64 u.n] : List Value) ++ (cBs u.x.1 ++ (([.int .i64 u.jc, .int .i64 u.js] : List Value) ++ (cBs u.jh.1 ++ (([vb, .int .i64 u.r.t, .int .i64 u.r.c, .int .i64 u.r.s] : List Value) ++ (cBs u.r.h.1 ++ (cBs u.r.b.1 ++ ([vg] : List Value))))))))))))).toArray ∧ F' 1 = .pointer (some ⟨g1, 0, none⟩) ∧ F' 2 = .bool false ∧ F' 3 = .pointer (some ⟨ga, 0, none⟩) ∧ F' 4 = .pointer (some ⟨gb, 0, none⟩) ∧ F' 5 = .pointer (some ⟨gc, 0, none⟩) ∧ F' 57 = .bool (decide (((((((((u.c0 ≥ 0) ∧ (u.c0 ≤ 1048576)) ∧ (u.c1 ≥ 0)) ∧ (u.c1 ≤ 1125899906842624)) ∧ (u.c2 ≥ 0)) ∧ (u.c2 ≤ 1125899906842624)) ∧ (u.g ≥ 0)) ∧ (u.g < 256)) ∧ (u.n ≥ 0)))) 4 (fun hk => ?_) ?_
                · by_cases hc8 : (((((((u.c0 ≥ 0) ∧ (u.c0 ≤ 1048576)) ∧ (u.c1 ≥ 0)) ∧ (u.c1 ≤ 1125899906842624)) ∧ (u.c2 ≥ 0)) ∧ (u.c2 ≤ 1125899906842624)) ∧ (u.g ≥ 0)) ∧ (u.g < 256)
                  · refine lf_val (v := .pointer (some ⟨g1, 103, none⟩)) (wantF (d := 53) rfl (by kernel_rfl) rfl (congrArg Value.bool (decide_eq_true hc8))) (rv_fieldAddr (n := 0) rfl (fr_eval rfl e1) Try.underlying81 rfl rfl (by kernel_rfl)) ?_
                    refine lf_val (v := .int .i64 u.n) (wantF (d := 53) rfl (by kernel_rfl) rfl (congrArg Value.bool (decide_eq_true hc8))) (rv_load1 rfl (hH.blk (i := 0) rfl) (zTP_g13 u.h0.2 u.h1.2 u.o.2 u.x.2 u.jh.2 u.r.h.2 u.r.b.2) (fr_eval rfl rfl) Try.underlying3 rfl Try.sz3) ?_
                    refine lf_val (v := .bool (decide (u.n ≥ 0))) (wantF (d := 53) rfl (by kernel_rfl) rfl (congrArg Value.bool (decide_eq_true hc8))) (rv_geqP (p := u.n ≥ 0) rfl (fr_eval rfl rfl) rfl Iff.rfl) ?_
                    refine lf_val (v := .bool (decide (u.n ≥ 0))) (wantAll rfl) (rv_pickT rfl (fr_eval rfl (congrArg Value.bool (decide_eq_true hc8))) (fr_eval rfl rfl)) ?_
                    exact hk _ ⟨e0, e1, e2, e3, e4, e5, (congrArg Value.bool (dec_and hc8))⟩
                  · refine lf_not (wantNot (d := 53) rfl (by kernel_rfl) rfl (congrArg Value.bool (decide_eq_false hc8))) ?_
                    refine lf_not (wantNot (d := 53) rfl (by kernel_rfl) rfl (congrArg Value.bool (decide_eq_false hc8))) ?_
                    refine lf_not (wantNot (d := 53) rfl (by kernel_rfl) rfl (congrArg Value.bool (decide_eq_false hc8))) ?_
                    refine lf_val (v := .bool false) (wantAll rfl) (rv_pickF rfl (fr_eval rfl (congrArg Value.bool (decide_eq_false hc8))) rfl) ?_
                    exact hk _ ⟨e0, e1, e2, e3, e4, e5, (congrArg Value.bool (dec_andF hc8))⟩
                · clear e0 e1 e2 e3 e4 e5 e52
                  clear F
                  rintro F ⟨e0, e1, e2, e3, e4, e5, e57⟩
                  refine lf_val (wantAll rfl) (rv_move rfl (fr_eval rfl e57)) ?_
                  refine lf_joinP (fun F' => F' 0 = .agg (([.int .i64 u.k, .int .i64 u.a, .int .i64 u.b, .int .i64 u.c0, .int .i64 u.c1, .int .i64 u.c2] : List Value) ++ (cBs u.h0.1 ++ (cBs u.h1.1 ++ (([.int .i64 u.g] : List Value) ++ (cBs u.o.1 ++ (([.int .i64 u.n] : List Value) ++ (cBs u.x.1 ++ (([.int .i64 u.jc, .int .i64 u.js] : List Value) ++ (cBs u.jh.1 ++ (([vb, .int .i64 u.r.t, .int .i64 u.r.c, .int .i64 u.r.s] : List Value) ++ (cBs u.r.h.1 ++ (cBs u.r.b.1 ++ ([vg] : List Value))))))))))))).toArray ∧ F' 1 = .pointer (some ⟨g1, 0, none⟩) ∧ F' 2 = .bool false ∧ F' 3 = .pointer (some ⟨ga, 0, none⟩) ∧ F' 4 = .pointer (some ⟨gb, 0, none⟩) ∧ F' 5 = .pointer (some ⟨gc, 0, none⟩) ∧ F' 62 = .bool (decide ((((((((((u.c0 ≥ 0) ∧ (u.c0 ≤ 1048576)) ∧ (u.c1 ≥ 0)) ∧ (u.c1 ≤ 1125899906842624)) ∧ (u.c2 ≥ 0)) ∧ (u.c2 ≤ 1125899906842624)) ∧ (u.g ≥ 0)) ∧ (u.g < 256)) ∧ (u.n ≥ 0)) ∧ (u.n ≤ 1048576)))) 4 (fun hk => ?_) ?_
                  · by_cases hc9 : ((((((((u.c0 ≥ 0) ∧ (u.c0 ≤ 1048576)) ∧ (u.c1 ≥ 0)) ∧ (u.c1 ≤ 1125899906842624)) ∧ (u.c2 ≥ 0)) ∧ (u.c2 ≤ 1125899906842624)) ∧ (u.g ≥ 0)) ∧ (u.g < 256)) ∧ (u.n ≥ 0)
                    · refine lf_val (v := .pointer (some ⟨g1, 103, none⟩)) (wantF (d := 58) rfl (by kernel_rfl) rfl (congrArg Value.bool (decide_eq_true hc9))) (rv_fieldAddr (n := 0) rfl (fr_eval rfl e1) Try.underlying81 rfl rfl (by kernel_rfl)) ?_
                      refine lf_val (v := .int .i64 u.n) (wantF (d := 58) rfl (by kernel_rfl) rfl (congrArg Value.bool (decide_eq_true hc9))) (rv_load1 rfl (hH.blk (i := 0) rfl) (zTP_g13 u.h0.2 u.h1.2 u.o.2 u.x.2 u.jh.2 u.r.h.2 u.r.b.2) (fr_eval rfl rfl) Try.underlying3 rfl Try.sz3) ?_
                      refine lf_val (v := .bool (decide (u.n ≤ 1048576))) (wantF (d := 58) rfl (by kernel_rfl) rfl (congrArg Value.bool (decide_eq_true hc9))) (rv_leqP (p := u.n ≤ 1048576) rfl (fr_eval rfl rfl) rfl Iff.rfl) ?_
                      refine lf_val (v := .bool (decide (u.n ≤ 1048576))) (wantAll rfl) (rv_pickT rfl (fr_eval rfl (congrArg Value.bool (decide_eq_true hc9))) (fr_eval rfl rfl)) ?_
                      exact hk _ ⟨e0, e1, e2, e3, e4, e5, (congrArg Value.bool (dec_and hc9))⟩
                    · refine lf_not (wantNot (d := 58) rfl (by kernel_rfl) rfl (congrArg Value.bool (decide_eq_false hc9))) ?_
                      refine lf_not (wantNot (d := 58) rfl (by kernel_rfl) rfl (congrArg Value.bool (decide_eq_false hc9))) ?_
                      refine lf_not (wantNot (d := 58) rfl (by kernel_rfl) rfl (congrArg Value.bool (decide_eq_false hc9))) ?_
                      refine lf_val (v := .bool false) (wantAll rfl) (rv_pickF rfl (fr_eval rfl (congrArg Value.bool (decide_eq_false hc9))) rfl) ?_
                      exact hk _ ⟨e0, e1, e2, e3, e4, e5, (congrArg Value.bool (dec_andF hc9))⟩
                  · clear e0 e1 e2 e3 e4 e5 e57
                    clear F
                    rintro F ⟨e0, e1, e2, e3, e4, e5, e62⟩
                    refine lf_val (wantAll rfl) (rv_assign rfl (fr_eval rfl e62)) ?_
                    refine lf_nil ?_
                    refine then_n ?_
                    refine wp_seq ?_
                    refine wp_gen (fun F' => F' 0 = .agg (([.int .i64 u.k, .int .i64 u.a, .int .i64 u.b, .int .i64 u.c0, .int .i64 u.c1, .int .i64 u.c2] : List Value) ++ (cBs u.h0.1 ++ (cBs u.h1.1 ++ (([.int .i64 u.g] : List Value) ++ (cBs u.o.1 ++ (([.int .i64 u.n] : List Value) ++ (cBs u.x.1 ++ (([.int .i64 u.jc, .int .i64 u.js] : List Value) ++ (cBs u.jh.1 ++ (([vb, .int .i64 u.r.t, .int .i64 u.r.c, .int .i64 u.r.s] : List Value) ++ (cBs u.r.h.1 ++ (cBs u.r.b.1 ++ ([vg] : List Value))))))))))))).toArray ∧ F' 1 = .pointer (some ⟨g1, 0, none⟩) ∧ F' 2 = .bool false ∧ F' 3 = .pointer (some ⟨ga, 0, none⟩) ∧ F' 4 = .pointer (some ⟨gb, 0, none⟩) ∧ F' 5 = .pointer (some ⟨gc, 0, none⟩) ∧ F' 6 = .bool (decide ((((((((((u.c0 ≥ 0) ∧ (u.c0 ≤ 1048576)) ∧ (u.c1 ≥ 0)) ∧ (u.c1 ≤ 1125899906842624)) ∧ (u.c2 ≥ 0)) ∧ (u.c2 ≤ 1125899906842624)) ∧ (u.g ≥ 0)) ∧ (u.g < 256)) ∧ (u.n ≥ 0)) ∧ (u.n ≤ 1048576)))) ⟨e0, e1, e2, e3, e4, e5, rfl⟩ ?_
                    clear e0 e1 e2 e3 e4 e5 e62
                    clear F
                    rintro F ⟨e0, e1, e2, e3, e4, e5, e6⟩
                    refine wp_regionF ?_
                    refine lf_val (wantAll rfl) (rv_move rfl (fr_eval rfl e6)) ?_
                    refine lf_val (v := .bool (decide ((((((((((u.c0 ≥ 0) ∧ (u.c0 ≤ 1048576)) ∧ (u.c1 ≥ 0)) ∧ (u.c1 ≤ 1125899906842624)) ∧ (u.c2 ≥ 0)) ∧ (u.c2 ≤ 1125899906842624)) ∧ (u.g ≥ 0)) ∧ (u.g < 256)) ∧ (u.n ≥ 0)) ∧ (u.n ≤ 1048576)))) (wantAll rfl) (rv_move rfl (fr_eval rfl rfl)) ?_
                    refine lf_joinP (fun F' => F' 0 = .agg (([.int .i64 u.k, .int .i64 u.a, .int .i64 u.b, .int .i64 u.c0, .int .i64 u.c1, .int .i64 u.c2] : List Value) ++ (cBs u.h0.1 ++ (cBs u.h1.1 ++ (([.int .i64 u.g] : List Value) ++ (cBs u.o.1 ++ (([.int .i64 u.n] : List Value) ++ (cBs u.x.1 ++ (([.int .i64 u.jc, .int .i64 u.js] : List Value) ++ (cBs u.jh.1 ++ (([vb, .int .i64 u.r.t, .int .i64 u.r.c, .int .i64 u.r.s] : List Value) ++ (cBs u.r.h.1 ++ (cBs u.r.b.1 ++ ([vg] : List Value))))))))))))).toArray ∧ F' 1 = .pointer (some ⟨g1, 0, none⟩) ∧ F' 2 = .bool false ∧ F' 3 = .pointer (some ⟨ga, 0, none⟩) ∧ F' 4 = .pointer (some ⟨gb, 0, none⟩) ∧ F' 5 = .pointer (some ⟨gc, 0, none⟩) ∧ F' 6 = .bool (decide ((((((((((u.c0 ≥ 0) ∧ (u.c0 ≤ 1048576)) ∧ (u.c1 ≥ 0)) ∧ (u.c1 ≤ 1125899906842624)) ∧ (u.c2 ≥ 0)) ∧ (u.c2 ≤ 1125899906842624)) ∧ (u.g ≥ 0)) ∧ (u.g < 256)) ∧ (u.n ≥ 0)) ∧ (u.n ≤ 1048576))) ∧ F' 68 = .bool (decide (((((((((((u.c0 ≥ 0) ∧ (u.c0 ≤ 1048576)) ∧ (u.c1 ≥ 0)) ∧ (u.c1 ≤ 1125899906842624)) ∧ (u.c2 ≥ 0)) ∧ (u.c2 ≤ 1125899906842624)) ∧ (u.g ≥ 0)) ∧ (u.g < 256)) ∧ (u.n ≥ 0)) ∧ (u.n ≤ 1048576)) ∧ (u.jc ≥ 0)))) 4 (fun hk => ?_) ?_
                    · by_cases hc10 : (((((((((u.c0 ≥ 0) ∧ (u.c0 ≤ 1048576)) ∧ (u.c1 ≥ 0)) ∧ (u.c1 ≤ 1125899906842624)) ∧ (u.c2 ≥ 0)) ∧ (u.c2 ≤ 1125899906842624)) ∧ (u.g ≥ 0)) ∧ (u.g < 256)) ∧ (u.n ≥ 0)) ∧ (u.n ≤ 1048576)
                      · refine lf_val (v := .pointer (some ⟨gb, 0, none⟩)) (wantF (d := 64) rfl (by kernel_rfl) rfl (congrArg Value.bool (decide_eq_true hc10))) (rv_fieldAddr (n := 0) rfl (fr_eval rfl e4) Try.underlying79 rfl rfl (by kernel_rfl)) ?_
                        refine lf_val (v := .int .i64 u.jc) (wantF (d := 64) rfl (by kernel_rfl) rfl (congrArg Value.bool (decide_eq_true hc10))) (rv_load1 rfl (hH.blk (i := 2) rfl) (zTP_g14 u.jh.2) (fr_eval rfl rfl) Try.underlying3 rfl Try.sz3) ?_
                        refine lf_val (v := .bool (decide (u.jc ≥ 0))) (wantF (d := 64) rfl (by kernel_rfl) rfl (congrArg Value.bool (decide_eq_true hc10))) (rv_geqP (p := u.jc ≥ 0) rfl (fr_eval rfl rfl) rfl Iff.rfl) ?_
                        refine lf_val (v := .bool (decide (u.jc ≥ 0))) (wantAll rfl) (rv_pickT rfl (fr_eval rfl (congrArg Value.bool (decide_eq_true hc10))) (fr_eval rfl rfl)) ?_
                        exact hk _ ⟨e0, e1, e2, e3, e4, e5, ((e6.trans (congrArg Value.bool (decide_eq_true hc10))).trans (congrArg Value.bool (dec_t hc10))), (congrArg Value.bool (dec_and hc10))⟩
                      · refine lf_not (wantNot (d := 64) rfl (by kernel_rfl) rfl (congrArg Value.bool (decide_eq_false hc10))) ?_
                        refine lf_not (wantNot (d := 64) rfl (by kernel_rfl) rfl (congrArg Value.bool (decide_eq_false hc10))) ?_
                        refine lf_not (wantNot (d := 64) rfl (by kernel_rfl) rfl (congrArg Value.bool (decide_eq_false hc10))) ?_
                        refine lf_val (v := .bool false) (wantAll rfl) (rv_pickF rfl (fr_eval rfl (congrArg Value.bool (decide_eq_false hc10))) rfl) ?_
                        exact hk _ ⟨e0, e1, e2, e3, e4, e5, ((e6.trans (congrArg Value.bool (decide_eq_false hc10))).trans (congrArg Value.bool (dec_f hc10))), (congrArg Value.bool (dec_andF hc10))⟩
                    · clear e0 e1 e2 e3 e4 e5 e6
                      clear F
                      rintro F ⟨e0, e1, e2, e3, e4, e5, e6, e68⟩
                      refine lf_val (wantAll rfl) (rv_move rfl (fr_eval rfl e68)) ?_
                      refine lf_joinP (fun F' => F' 0 = .agg (([.int .i64 u.k, .int .i64 u.a, .int .i64 u.b, .int .i64 u.c0, .int .i64 u.c1, .int .i64 u.c2] : List Value) ++ (cBs u.h0.1 ++ (cBs u.h1.1 ++ (([.int .i64 u.g] : List Value) ++ (cBs u.o.1 ++ (([.int .i64 u.n] : List Value) ++ (cBs u.x.1 ++ (([.int .i64 u.jc, .int .i64 u.js] : List Value) ++ (cBs u.jh.1 ++ (([vb, .int .i64 u.r.t, .int .i64 u.r.c, .int .i64 u.r.s] : List Value) ++ (cBs u.r.h.1 ++ (cBs u.r.b.1 ++ ([vg] : List Value))))))))))))).toArray ∧ F' 1 = .pointer (some ⟨g1, 0, none⟩) ∧ F' 2 = .bool false ∧ F' 3 = .pointer (some ⟨ga, 0, none⟩) ∧ F' 4 = .pointer (some ⟨gb, 0, none⟩) ∧ F' 5 = .pointer (some ⟨gc, 0, none⟩) ∧ F' 6 = .bool (decide ((((((((((u.c0 ≥ 0) ∧ (u.c0 ≤ 1048576)) ∧ (u.c1 ≥ 0)) ∧ (u.c1 ≤ 1125899906842624)) ∧ (u.c2 ≥ 0)) ∧ (u.c2 ≤ 1125899906842624)) ∧ (u.g ≥ 0)) ∧ (u.g < 256)) ∧ (u.n ≥ 0)) ∧ (u.n ≤ 1048576))) ∧ F' 73 = .bool (decide ((((((((((((u.c0 ≥ 0) ∧ (u.c0 ≤ 1048576)) ∧ (u.c1 ≥ 0)) ∧ (u.c1 ≤ 1125899906842624)) ∧ (u.c2 ≥ 0)) ∧ (u.c2 ≤ 1125899906842624)) ∧ (u.g ≥ 0)) ∧ (u.g < 256)) ∧ (u.n ≥ 0)) ∧ (u.n ≤ 1048576)) ∧ (u.jc ≥ 0)) ∧ (u.jc ≤ 1048576)))) 4 (fun hk => ?_) ?_
                      · by_cases hc11 : ((((((((((u.c0 ≥ 0) ∧ (u.c0 ≤ 1048576)) ∧ (u.c1 ≥ 0)) ∧ (u.c1 ≤ 1125899906842624)) ∧ (u.c2 ≥ 0)) ∧ (u.c2 ≤ 1125899906842624)) ∧ (u.g ≥ 0)) ∧ (u.g < 256)) ∧ (u.n ≥ 0)) ∧ (u.n ≤ 1048576)) ∧ (u.jc ≥ 0)
                        · refine lf_val (v := .pointer (some ⟨gb, 0, none⟩)) (wantF (d := 69) rfl (by kernel_rfl) rfl (congrArg Value.bool (decide_eq_true hc11))) (rv_fieldAddr (n := 0) rfl (fr_eval rfl e4) Try.underlying79 rfl rfl (by kernel_rfl)) ?_
                          refine lf_val (v := .int .i64 u.jc) (wantF (d := 69) rfl (by kernel_rfl) rfl (congrArg Value.bool (decide_eq_true hc11))) (rv_load1 rfl (hH.blk (i := 2) rfl) (zTP_g14 u.jh.2) (fr_eval rfl rfl) Try.underlying3 rfl Try.sz3) ?_
                          refine lf_val (v := .bool (decide (u.jc ≤ 1048576))) (wantF (d := 69) rfl (by kernel_rfl) rfl (congrArg Value.bool (decide_eq_true hc11))) (rv_leqP (p := u.jc ≤ 1048576) rfl (fr_eval rfl rfl) rfl Iff.rfl) ?_
                          refine lf_val (v := .bool (decide (u.jc ≤ 1048576))) (wantAll rfl) (rv_pickT rfl (fr_eval rfl (congrArg Value.bool (decide_eq_true hc11))) (fr_eval rfl rfl)) ?_
                          exact hk _ ⟨e0, e1, e2, e3, e4, e5, e6, (congrArg Value.bool (dec_and hc11))⟩
                        · refine lf_not (wantNot (d := 69) rfl (by kernel_rfl) rfl (congrArg Value.bool (decide_eq_false hc11))) ?_
                          refine lf_not (wantNot (d := 69) rfl (by kernel_rfl) rfl (congrArg Value.bool (decide_eq_false hc11))) ?_
                          refine lf_not (wantNot (d := 69) rfl (by kernel_rfl) rfl (congrArg Value.bool (decide_eq_false hc11))) ?_
                          refine lf_val (v := .bool false) (wantAll rfl) (rv_pickF rfl (fr_eval rfl (congrArg Value.bool (decide_eq_false hc11))) rfl) ?_
                          exact hk _ ⟨e0, e1, e2, e3, e4, e5, e6, (congrArg Value.bool (dec_andF hc11))⟩
                      · clear e0 e1 e2 e3 e4 e5 e6 e68
                        clear F
                        rintro F ⟨e0, e1, e2, e3, e4, e5, e6, e73⟩
                        refine lf_val (wantAll rfl) (rv_move rfl (fr_eval rfl e73)) ?_
                        refine lf_joinP (fun F' => F' 0 = .agg (([.int .i64 u.k, .int .i64 u.a, .int .i64 u.b, .int .i64 u.c0, .int .i64 u.c1, .int .i64 u.c2] : List Value) ++ (cBs u.h0.1 ++ (cBs u.h1.1 ++ (([.int .i64 u.g] : List Value) ++ (cBs u.o.1 ++ (([.int .i64 u.n] : List Value) ++ (cBs u.x.1 ++ (([.int .i64 u.jc, .int .i64 u.js] : List Value) ++ (cBs u.jh.1 ++ (([vb, .int .i64 u.r.t, .int .i64 u.r.c, .int .i64 u.r.s] : List Value) ++ (cBs u.r.h.1 ++ (cBs u.r.b.1 ++ ([vg] : List Value))))))))))))).toArray ∧ F' 1 = .pointer (some ⟨g1, 0, none⟩) ∧ F' 2 = .bool false ∧ F' 3 = .pointer (some ⟨ga, 0, none⟩) ∧ F' 4 = .pointer (some ⟨gb, 0, none⟩) ∧ F' 5 = .pointer (some ⟨gc, 0, none⟩) ∧ F' 6 = .bool (decide ((((((((((u.c0 ≥ 0) ∧ (u.c0 ≤ 1048576)) ∧ (u.c1 ≥ 0)) ∧ (u.c1 ≤ 1125899906842624)) ∧ (u.c2 ≥ 0)) ∧ (u.c2 ≤ 1125899906842624)) ∧ (u.g ≥ 0)) ∧ (u.g < 256)) ∧ (u.n ≥ 0)) ∧ (u.n ≤ 1048576))) ∧ F' 78 = .bool (decide (((((((((((((u.c0 ≥ 0) ∧ (u.c0 ≤ 1048576)) ∧ (u.c1 ≥ 0)) ∧ (u.c1 ≤ 1125899906842624)) ∧ (u.c2 ≥ 0)) ∧ (u.c2 ≤ 1125899906842624)) ∧ (u.g ≥ 0)) ∧ (u.g < 256)) ∧ (u.n ≥ 0)) ∧ (u.n ≤ 1048576)) ∧ (u.jc ≥ 0)) ∧ (u.jc ≤ 1048576)) ∧ (u.js ≥ 0)))) 4 (fun hk => ?_) ?_
                        · by_cases hc12 : (((((((((((u.c0 ≥ 0) ∧ (u.c0 ≤ 1048576)) ∧ (u.c1 ≥ 0)) ∧ (u.c1 ≤ 1125899906842624)) ∧ (u.c2 ≥ 0)) ∧ (u.c2 ≤ 1125899906842624)) ∧ (u.g ≥ 0)) ∧ (u.g < 256)) ∧ (u.n ≥ 0)) ∧ (u.n ≤ 1048576)) ∧ (u.jc ≥ 0)) ∧ (u.jc ≤ 1048576)
                          · refine lf_val (v := .pointer (some ⟨gb, 1, none⟩)) (wantF (d := 74) rfl (by kernel_rfl) rfl (congrArg Value.bool (decide_eq_true hc12))) (rv_fieldAddr (n := 0) rfl (fr_eval rfl e4) Try.underlying79 rfl rfl (by kernel_rfl)) ?_
                            refine lf_val (v := .int .i64 u.js) (wantF (d := 74) rfl (by kernel_rfl) rfl (congrArg Value.bool (decide_eq_true hc12))) (rv_load1 rfl (hH.blk (i := 2) rfl) (zTP_g15 u.jh.2) (fr_eval rfl rfl) Try.underlying3 rfl Try.sz3) ?_
                            refine lf_val (v := .bool (decide (u.js ≥ 0))) (wantF (d := 74) rfl (by kernel_rfl) rfl (congrArg Value.bool (decide_eq_true hc12))) (rv_geqP (p := u.js ≥ 0) rfl (fr_eval rfl rfl) rfl Iff.rfl) ?_
                            refine lf_val (v := .bool (decide (u.js ≥ 0))) (wantAll rfl) (rv_pickT rfl (fr_eval rfl (congrArg Value.bool (decide_eq_true hc12))) (fr_eval rfl rfl)) ?_
                            exact hk _ ⟨e0, e1, e2, e3, e4, e5, e6, (congrArg Value.bool (dec_and hc12))⟩
                          · refine lf_not (wantNot (d := 74) rfl (by kernel_rfl) rfl (congrArg Value.bool (decide_eq_false hc12))) ?_
                            refine lf_not (wantNot (d := 74) rfl (by kernel_rfl) rfl (congrArg Value.bool (decide_eq_false hc12))) ?_
                            refine lf_not (wantNot (d := 74) rfl (by kernel_rfl) rfl (congrArg Value.bool (decide_eq_false hc12))) ?_
                            refine lf_val (v := .bool false) (wantAll rfl) (rv_pickF rfl (fr_eval rfl (congrArg Value.bool (decide_eq_false hc12))) rfl) ?_
                            exact hk _ ⟨e0, e1, e2, e3, e4, e5, e6, (congrArg Value.bool (dec_andF hc12))⟩
                        · clear e0 e1 e2 e3 e4 e5 e6 e73
                          clear F
                          rintro F ⟨e0, e1, e2, e3, e4, e5, e6, e78⟩
                          refine lf_val (wantAll rfl) (rv_move rfl (fr_eval rfl e78)) ?_
                          refine lf_joinP (fun F' => F' 0 = .agg (([.int .i64 u.k, .int .i64 u.a, .int .i64 u.b, .int .i64 u.c0, .int .i64 u.c1, .int .i64 u.c2] : List Value) ++ (cBs u.h0.1 ++ (cBs u.h1.1 ++ (([.int .i64 u.g] : List Value) ++ (cBs u.o.1 ++ (([.int .i64 u.n] : List Value) ++ (cBs u.x.1 ++ (([.int .i64 u.jc, .int .i64 u.js] : List Value) ++ (cBs u.jh.1 ++ (([vb, .int .i64 u.r.t, .int .i64 u.r.c, .int .i64 u.r.s] : List Value) ++ (cBs u.r.h.1 ++ (cBs u.r.b.1 ++ ([vg] : List Value))))))))))))).toArray ∧ F' 1 = .pointer (some ⟨g1, 0, none⟩) ∧ F' 2 = .bool false ∧ F' 3 = .pointer (some ⟨ga, 0, none⟩) ∧ F' 4 = .pointer (some ⟨gb, 0, none⟩) ∧ F' 5 = .pointer (some ⟨gc, 0, none⟩) ∧ F' 6 = .bool (decide ((((((((((u.c0 ≥ 0) ∧ (u.c0 ≤ 1048576)) ∧ (u.c1 ≥ 0)) ∧ (u.c1 ≤ 1125899906842624)) ∧ (u.c2 ≥ 0)) ∧ (u.c2 ≤ 1125899906842624)) ∧ (u.g ≥ 0)) ∧ (u.g < 256)) ∧ (u.n ≥ 0)) ∧ (u.n ≤ 1048576))) ∧ F' 83 = .bool (decide ((((((((((((((u.c0 ≥ 0) ∧ (u.c0 ≤ 1048576)) ∧ (u.c1 ≥ 0)) ∧ (u.c1 ≤ 1125899906842624)) ∧ (u.c2 ≥ 0)) ∧ (u.c2 ≤ 1125899906842624)) ∧ (u.g ≥ 0)) ∧ (u.g < 256)) ∧ (u.n ≥ 0)) ∧ (u.n ≤ 1048576)) ∧ (u.jc ≥ 0)) ∧ (u.jc ≤ 1048576)) ∧ (u.js ≥ 0)) ∧ (u.js ≤ 1048576)))) 4 (fun hk => ?_) ?_
                          · by_cases hc13 : ((((((((((((u.c0 ≥ 0) ∧ (u.c0 ≤ 1048576)) ∧ (u.c1 ≥ 0)) ∧ (u.c1 ≤ 1125899906842624)) ∧ (u.c2 ≥ 0)) ∧ (u.c2 ≤ 1125899906842624)) ∧ (u.g ≥ 0)) ∧ (u.g < 256)) ∧ (u.n ≥ 0)) ∧ (u.n ≤ 1048576)) ∧ (u.jc ≥ 0)) ∧ (u.jc ≤ 1048576)) ∧ (u.js ≥ 0)
                            · refine lf_val (v := .pointer (some ⟨gb, 1, none⟩)) (wantF (d := 79) rfl (by kernel_rfl) rfl (congrArg Value.bool (decide_eq_true hc13))) (rv_fieldAddr (n := 0) rfl (fr_eval rfl e4) Try.underlying79 rfl rfl (by kernel_rfl)) ?_
                              refine lf_val (v := .int .i64 u.js) (wantF (d := 79) rfl (by kernel_rfl) rfl (congrArg Value.bool (decide_eq_true hc13))) (rv_load1 rfl (hH.blk (i := 2) rfl) (zTP_g15 u.jh.2) (fr_eval rfl rfl) Try.underlying3 rfl Try.sz3) ?_
                              refine lf_val (v := .bool (decide (u.js ≤ 1048576))) (wantF (d := 79) rfl (by kernel_rfl) rfl (congrArg Value.bool (decide_eq_true hc13))) (rv_leqP (p := u.js ≤ 1048576) rfl (fr_eval rfl rfl) rfl Iff.rfl) ?_
                              refine lf_val (v := .bool (decide (u.js ≤ 1048576))) (wantAll rfl) (rv_pickT rfl (fr_eval rfl (congrArg Value.bool (decide_eq_true hc13))) (fr_eval rfl rfl)) ?_
                              exact hk _ ⟨e0, e1, e2, e3, e4, e5, e6, (congrArg Value.bool (dec_and hc13))⟩
                            · refine lf_not (wantNot (d := 79) rfl (by kernel_rfl) rfl (congrArg Value.bool (decide_eq_false hc13))) ?_
                              refine lf_not (wantNot (d := 79) rfl (by kernel_rfl) rfl (congrArg Value.bool (decide_eq_false hc13))) ?_
                              refine lf_not (wantNot (d := 79) rfl (by kernel_rfl) rfl (congrArg Value.bool (decide_eq_false hc13))) ?_
                              refine lf_val (v := .bool false) (wantAll rfl) (rv_pickF rfl (fr_eval rfl (congrArg Value.bool (decide_eq_false hc13))) rfl) ?_
                              exact hk _ ⟨e0, e1, e2, e3, e4, e5, e6, (congrArg Value.bool (dec_andF hc13))⟩
                          · clear e0 e1 e2 e3 e4 e5 e6 e78
                            clear F
                            rintro F ⟨e0, e1, e2, e3, e4, e5, e6, e83⟩
                            refine lf_val (wantAll rfl) (rv_move rfl (fr_eval rfl e83)) ?_
                            refine lf_joinP (fun F' => F' 0 = .agg (([.int .i64 u.k, .int .i64 u.a, .int .i64 u.b, .int .i64 u.c0, .int .i64 u.c1, .int .i64 u.c2] : List Value) ++ (cBs u.h0.1 ++ (cBs u.h1.1 ++ (([.int .i64 u.g] : List Value) ++ (cBs u.o.1 ++ (([.int .i64 u.n] : List Value) ++ (cBs u.x.1 ++ (([.int .i64 u.jc, .int .i64 u.js] : List Value) ++ (cBs u.jh.1 ++ (([vb, .int .i64 u.r.t, .int .i64 u.r.c, .int .i64 u.r.s] : List Value) ++ (cBs u.r.h.1 ++ (cBs u.r.b.1 ++ ([vg] : List Value))))))))))))).toArray ∧ F' 1 = .pointer (some ⟨g1, 0, none⟩) ∧ F' 2 = .bool false ∧ F' 3 = .pointer (some ⟨ga, 0, none⟩) ∧ F' 4 = .pointer (some ⟨gb, 0, none⟩) ∧ F' 5 = .pointer (some ⟨gc, 0, none⟩) ∧ F' 6 = .bool (decide ((((((((((u.c0 ≥ 0) ∧ (u.c0 ≤ 1048576)) ∧ (u.c1 ≥ 0)) ∧ (u.c1 ≤ 1125899906842624)) ∧ (u.c2 ≥ 0)) ∧ (u.c2 ≤ 1125899906842624)) ∧ (u.g ≥ 0)) ∧ (u.g < 256)) ∧ (u.n ≥ 0)) ∧ (u.n ≤ 1048576))) ∧ F' 89 = .bool (decide (((((((((((((((u.c0 ≥ 0) ∧ (u.c0 ≤ 1048576)) ∧ (u.c1 ≥ 0)) ∧ (u.c1 ≤ 1125899906842624)) ∧ (u.c2 ≥ 0)) ∧ (u.c2 ≤ 1125899906842624)) ∧ (u.g ≥ 0)) ∧ (u.g < 256)) ∧ (u.n ≥ 0)) ∧ (u.n ≤ 1048576)) ∧ (u.jc ≥ 0)) ∧ (u.jc ≤ 1048576)) ∧ (u.js ≥ 0)) ∧ (u.js ≤ 1048576)) ∧ (u.r.t ≥ 0)))) 5 (fun hk => ?_) ?_
                            · by_cases hc14 : (((((((((((((u.c0 ≥ 0) ∧ (u.c0 ≤ 1048576)) ∧ (u.c1 ≥ 0)) ∧ (u.c1 ≤ 1125899906842624)) ∧ (u.c2 ≥ 0)) ∧ (u.c2 ≤ 1125899906842624)) ∧ (u.g ≥ 0)) ∧ (u.g < 256)) ∧ (u.n ≥ 0)) ∧ (u.n ≤ 1048576)) ∧ (u.jc ≥ 0)) ∧ (u.jc ≤ 1048576)) ∧ (u.js ≥ 0)) ∧ (u.js ≤ 1048576)
                              · refine lf_val (v := .pointer (some ⟨gc, 0, none⟩)) (wantF (d := 84) rfl (by kernel_rfl) rfl (congrArg Value.bool (decide_eq_true hc14))) (rv_fieldAddr (n := 66) rfl (fr_eval rfl e5) Try.underlying61 rfl rfl (by kernel_rfl)) ?_
                                refine lf_val (v := .pointer (some ⟨gc, 0, none⟩)) (wantF (d := 84) rfl (by kernel_rfl) rfl (congrArg Value.bool (decide_eq_true hc14))) (rv_fieldAddr (n := 0) rfl (fr_eval rfl rfl) Try.underlying54 rfl rfl (by kernel_rfl)) ?_
                                refine lf_val (v := .int .i64 u.r.t) (wantF (d := 84) rfl (by kernel_rfl) rfl (congrArg Value.bool (decide_eq_true hc14))) (rv_load1 rfl (hH.blk (i := 3) rfl) (zTP_g16 u.r.h.2 u.r.b.2) (fr_eval rfl rfl) Try.underlying3 rfl Try.sz3) ?_
                                refine lf_val (v := .bool (decide (u.r.t ≥ 0))) (wantF (d := 84) rfl (by kernel_rfl) rfl (congrArg Value.bool (decide_eq_true hc14))) (rv_geqP (p := u.r.t ≥ 0) rfl (fr_eval rfl rfl) rfl Iff.rfl) ?_
                                refine lf_val (v := .bool (decide (u.r.t ≥ 0))) (wantAll rfl) (rv_pickT rfl (fr_eval rfl (congrArg Value.bool (decide_eq_true hc14))) (fr_eval rfl rfl)) ?_
                                exact hk _ ⟨e0, e1, e2, e3, e4, e5, e6, (congrArg Value.bool (dec_and hc14))⟩
                              · refine lf_not (wantNot (d := 84) rfl (by kernel_rfl) rfl (congrArg Value.bool (decide_eq_false hc14))) ?_
                                refine lf_not (wantNot (d := 84) rfl (by kernel_rfl) rfl (congrArg Value.bool (decide_eq_false hc14))) ?_
                                refine lf_not (wantNot (d := 84) rfl (by kernel_rfl) rfl (congrArg Value.bool (decide_eq_false hc14))) ?_
                                refine lf_not (wantNot (d := 84) rfl (by kernel_rfl) rfl (congrArg Value.bool (decide_eq_false hc14))) ?_
                                refine lf_val (v := .bool false) (wantAll rfl) (rv_pickF rfl (fr_eval rfl (congrArg Value.bool (decide_eq_false hc14))) rfl) ?_
                                exact hk _ ⟨e0, e1, e2, e3, e4, e5, e6, (congrArg Value.bool (dec_andF hc14))⟩
                            · clear e0 e1 e2 e3 e4 e5 e6 e83
                              clear F
                              rintro F ⟨e0, e1, e2, e3, e4, e5, e6, e89⟩
                              refine lf_val (wantAll rfl) (rv_move rfl (fr_eval rfl e89)) ?_
                              refine lf_joinP (fun F' => F' 0 = .agg (([.int .i64 u.k, .int .i64 u.a, .int .i64 u.b, .int .i64 u.c0, .int .i64 u.c1, .int .i64 u.c2] : List Value) ++ (cBs u.h0.1 ++ (cBs u.h1.1 ++ (([.int .i64 u.g] : List Value) ++ (cBs u.o.1 ++ (([.int .i64 u.n] : List Value) ++ (cBs u.x.1 ++ (([.int .i64 u.jc, .int .i64 u.js] : List Value) ++ (cBs u.jh.1 ++ (([vb, .int .i64 u.r.t, .int .i64 u.r.c, .int .i64 u.r.s] : List Value) ++ (cBs u.r.h.1 ++ (cBs u.r.b.1 ++ ([vg] : List Value))))))))))))).toArray ∧ F' 1 = .pointer (some ⟨g1, 0, none⟩) ∧ F' 2 = .bool false ∧ F' 3 = .pointer (some ⟨ga, 0, none⟩) ∧ F' 4 = .pointer (some ⟨gb, 0, none⟩) ∧ F' 5 = .pointer (some ⟨gc, 0, none⟩) ∧ F' 6 = .bool (decide ((((((((((u.c0 ≥ 0) ∧ (u.c0 ≤ 1048576)) ∧ (u.c1 ≥ 0)) ∧ (u.c1 ≤ 1125899906842624)) ∧ (u.c2 ≥ 0)) ∧ (u.c2 ≤ 1125899906842624)) ∧ (u.g ≥ 0)) ∧ (u.g < 256)) ∧ (u.n ≥ 0)) ∧ (u.n ≤ 1048576))) ∧ F' 95 = .bool (decide ((((((((((((((((u.c0 ≥ 0) ∧ (u.c0 ≤ 1048576)) ∧ (u.c1 ≥ 0)) ∧ (u.c1 ≤ 1125899906842624)) ∧ (u.c2 ≥ 0)) ∧ (u.c2 ≤ 1125899906842624)) ∧ (u.g ≥ 0)) ∧ (u.g < 256)) ∧ (u.n ≥ 0)) ∧ (u.n ≤ 1048576)) ∧ (u.jc ≥ 0)) ∧ (u.jc ≤ 1048576)) ∧ (u.js ≥ 0)) ∧ (u.js ≤ 1048576)) ∧ (u.r.t ≥ 0)) ∧ (u.r.t < 16)))) 5 (fun hk => ?_) ?_
                              · by_cases hc15 : ((((((((((((((u.c0 ≥ 0) ∧ (u.c0 ≤ 1048576)) ∧ (u.c1 ≥ 0)) ∧ (u.c1 ≤ 1125899906842624)) ∧ (u.c2 ≥ 0)) ∧ (u.c2 ≤ 1125899906842624)) ∧ (u.g ≥ 0)) ∧ (u.g < 256)) ∧ (u.n ≥ 0)) ∧ (u.n ≤ 1048576)) ∧ (u.jc ≥ 0)) ∧ (u.jc ≤ 1048576)) ∧ (u.js ≥ 0)) ∧ (u.js ≤ 1048576)) ∧ (u.r.t ≥ 0)
                                · refine lf_val (v := .pointer (some ⟨gc, 0, none⟩)) (wantF (d := 90) rfl (by kernel_rfl) rfl (congrArg Value.bool (decide_eq_true hc15))) (rv_fieldAddr (n := 66) rfl (fr_eval rfl e5) Try.underlying61 rfl rfl (by kernel_rfl)) ?_
                                  refine lf_val (v := .pointer (some ⟨gc, 0, none⟩)) (wantF (d := 90) rfl (by kernel_rfl) rfl (congrArg Value.bool (decide_eq_true hc15))) (rv_fieldAddr (n := 0) rfl (fr_eval rfl rfl) Try.underlying54 rfl rfl (by kernel_rfl)) ?_
                                  refine lf_val (v := .int .i64 u.r.t) (wantF (d := 90) rfl (by kernel_rfl) rfl (congrArg Value.bool (decide_eq_true hc15))) (rv_load1 rfl (hH.blk (i := 3) rfl) (zTP_g16 u.r.h.2 u.r.b.2) (fr_eval rfl rfl) Try.underlying3 rfl Try.sz3) ?_
                                  refine lf_val (v := .bool (decide (u.r.t < 16))) (wantF (d := 90) rfl (by kernel_rfl) rfl (congrArg Value.bool (decide_eq_true hc15))) (rv_lssP (p := u.r.t < 16) rfl (fr_eval rfl rfl) rfl Iff.rfl) ?_
                                  refine lf_val (v := .bool (decide (u.r.t < 16))) (wantAll rfl) (rv_pickT rfl (fr_eval rfl (congrArg Value.bool (decide_eq_true hc15))) (fr_eval rfl rfl)) ?_
                                  exact hk _ ⟨e0, e1, e2, e3, e4, e5, e6, (congrArg Value.bool (dec_and hc15))⟩
                                · refine lf_not (wantNot (d := 90) rfl (by kernel_rfl) rfl (congrArg Value.bool (decide_eq_false hc15))) ?_
                                  refine lf_not (wantNot (d := 90) rfl (by kernel_rfl) rfl (congrArg Value.bool (decide_eq_false hc15))) ?_
                                  refine lf_not (wantNot (d := 90) rfl (by kernel_rfl) rfl (congrArg Value.bool (decide_eq_false hc15))) ?_
                                  refine lf_not (wantNot (d := 90) rfl (by kernel_rfl) rfl (congrArg Value.bool (decide_eq_false hc15))) ?_
                                  refine lf_val (v := .bool false) (wantAll rfl) (rv_pickF rfl (fr_eval rfl (congrArg Value.bool (decide_eq_false hc15))) rfl) ?_
                                  exact hk _ ⟨e0, e1, e2, e3, e4, e5, e6, (congrArg Value.bool (dec_andF hc15))⟩
                              · clear e0 e1 e2 e3 e4 e5 e6 e89
                                clear F
                                rintro F ⟨e0, e1, e2, e3, e4, e5, e6, e95⟩
                                refine lf_val (wantAll rfl) (rv_move rfl (fr_eval rfl e95)) ?_
                                refine lf_joinP (fun F' => F' 0 = .agg (([.int .i64 u.k, .int .i64 u.a, .int .i64 u.b, .int .i64 u.c0, .int .i64 u.c1, .int .i64 u.c2] : List Value) ++ (cBs u.h0.1 ++ (cBs u.h1.1 ++ (([.int .i64 u.g] : List Value) ++ (cBs u.o.1 ++ (([.int .i64 u.n] : List Value) ++ (cBs u.x.1 ++ (([.int .i64 u.jc, .int .i64 u.js] : List Value) ++ (cBs u.jh.1 ++ (([vb, .int .i64 u.r.t, .int .i64 u.r.c, .int .i64 u.r.s] : List Value) ++ (cBs u.r.h.1 ++ (cBs u.r.b.1 ++ ([vg] : List Value))))))))))))).toArray ∧ F' 1 = .pointer (some ⟨g1, 0, none⟩) ∧ F' 2 = .bool false ∧ F' 3 = .pointer (some ⟨ga, 0, none⟩) ∧ F' 4 = .pointer (some ⟨gb, 0, none⟩) ∧ F' 5 = .pointer (some ⟨gc, 0, none⟩) ∧ F' 6 = .bool (decide ((((((((((u.c0 ≥ 0) ∧ (u.c0 ≤ 1048576)) ∧ (u.c1 ≥ 0)) ∧ (u.c1 ≤ 1125899906842624)) ∧ (u.c2 ≥ 0)) ∧ (u.c2 ≤ 1125899906842624)) ∧ (u.g ≥ 0)) ∧ (u.g < 256)) ∧ (u.n ≥ 0)) ∧ (u.n ≤ 1048576))) ∧ F' 101 = .bool (decide (((((((((((((((((u.c0 ≥ 0) ∧ (u.c0 ≤ 1048576)) ∧ (u.c1 ≥ 0)) ∧ (u.c1 ≤ 1125899906842624)) ∧ (u.c2 ≥ 0)) ∧ (u.c2 ≤ 1125899906842624)) ∧ (u.g ≥ 0)) ∧ (u.g < 256)) ∧ (u.n ≥ 0)) ∧ (u.n ≤ 1048576)) ∧ (u.jc ≥ 0)) ∧ (u.jc ≤ 1048576)) ∧ (u.js ≥ 0)) ∧ (u.js ≤ 1048576)) ∧ (u.r.t ≥ 0)) ∧ (u.r.t < 16)) ∧ (u.r.c ≥ 0)))) 5 (fun hk => ?_) ?_
                                · by_cases hc16 : (((((((((((((((u.c0 ≥ 0) ∧ (u.c0 ≤ 1048576)) ∧ (u.c1 ≥ 0)) ∧ (u.c1 ≤ 1125899906842624)) ∧ (u.c2 ≥ 0)) ∧ (u.c2 ≤ 1125899906842624)) ∧ (u.g ≥ 0)) ∧ (u.g < 256)) ∧ (u.n ≥ 0)) ∧ (u.n ≤ 1048576)) ∧ (u.jc ≥ 0)) ∧ (u.jc ≤ 1048576)) ∧ (u.js ≥ 0)) ∧ (u.js ≤ 1048576)) ∧ (u.r.t ≥ 0)) ∧ (u.r.t < 16)
                                  · refine lf_val (v := .pointer (some ⟨gc, 0, none⟩)) (wantF (d := 96) rfl (by kernel_rfl) rfl (congrArg Value.bool (decide_eq_true hc16))) (rv_fieldAddr (n := 66) rfl (fr_eval rfl e5) Try.underlying61 rfl rfl (by kernel_rfl)) ?_
                                    refine lf_val (v := .pointer (some ⟨gc, 1, none⟩)) (wantF (d := 96) rfl (by kernel_rfl) rfl (congrArg Value.bool (decide_eq_true hc16))) (rv_fieldAddr (n := 0) rfl (fr_eval rfl rfl) Try.underlying54 rfl rfl (by kernel_rfl)) ?_
                                    refine lf_val (v := .int .i64 u.r.c) (wantF (d := 96) rfl (by kernel_rfl) rfl (congrArg Value.bool (decide_eq_true hc16))) (rv_load1 rfl (hH.blk (i := 3) rfl) (zTP_g17 u.r.h.2 u.r.b.2) (fr_eval rfl rfl) Try.underlying3 rfl Try.sz3) ?_
                                    refine lf_val (v := .bool (decide (u.r.c ≥ 0))) (wantF (d := 96) rfl (by kernel_rfl) rfl (congrArg Value.bool (decide_eq_true hc16))) (rv_geqP (p := u.r.c ≥ 0) rfl (fr_eval rfl rfl) rfl Iff.rfl) ?_
                                    refine lf_val (v := .bool (decide (u.r.c ≥ 0))) (wantAll rfl) (rv_pickT rfl (fr_eval rfl (congrArg Value.bool (decide_eq_true hc16))) (fr_eval rfl rfl)) ?_
                                    exact hk _ ⟨e0, e1, e2, e3, e4, e5, e6, (congrArg Value.bool (dec_and hc16))⟩
                                  · refine lf_not (wantNot (d := 96) rfl (by kernel_rfl) rfl (congrArg Value.bool (decide_eq_false hc16))) ?_
                                    refine lf_not (wantNot (d := 96) rfl (by kernel_rfl) rfl (congrArg Value.bool (decide_eq_false hc16))) ?_
                                    refine lf_not (wantNot (d := 96) rfl (by kernel_rfl) rfl (congrArg Value.bool (decide_eq_false hc16))) ?_
                                    refine lf_not (wantNot (d := 96) rfl (by kernel_rfl) rfl (congrArg Value.bool (decide_eq_false hc16))) ?_
                                    refine lf_val (v := .bool false) (wantAll rfl) (rv_pickF rfl (fr_eval rfl (congrArg Value.bool (decide_eq_false hc16))) rfl) ?_
                                    exact hk _ ⟨e0, e1, e2, e3, e4, e5, e6, (congrArg Value.bool (dec_andF hc16))⟩
                                · clear e0 e1 e2 e3 e4 e5 e6 e95
                                  clear F
                                  rintro F ⟨e0, e1, e2, e3, e4, e5, e6, e101⟩
                                  refine lf_val (wantAll rfl) (rv_move rfl (fr_eval rfl e101)) ?_
                                  refine lf_joinP (fun F' => F' 0 = .agg (([.int .i64 u.k, .int .i64 u.a, .int .i64 u.b, .int .i64 u.c0, .int .i64 u.c1, .int .i64 u.c2] : List Value) ++ (cBs u.h0.1 ++ (cBs u.h1.1 ++ (([.int .i64 u.g] : List Value) ++ (cBs u.o.1 ++ (([.int .i64 u.n] : List Value) ++ (cBs u.x.1 ++ (([.int .i64 u.jc, .int .i64 u.js] : List Value) ++ (cBs u.jh.1 ++ (([vb, .int .i64 u.r.t, .int .i64 u.r.c, .int .i64 u.r.s] : List Value) ++ (cBs u.r.h.1 ++ (cBs u.r.b.1 ++ ([vg] : List Value))))))))))))).toArray ∧ F' 1 = .pointer (some ⟨g1, 0, none⟩) ∧ F' 2 = .bool false ∧ F' 3 = .pointer (some ⟨ga, 0, none⟩) ∧ F' 4 = .pointer (some ⟨gb, 0, none⟩) ∧ F' 5 = .pointer (some ⟨gc, 0, none⟩) ∧ F' 6 = .bool (decide ((((((((((u.c0 ≥ 0) ∧ (u.c0 ≤ 1048576)) ∧ (u.c1 ≥ 0)) ∧ (u.c1 ≤ 1125899906842624)) ∧ (u.c2 ≥ 0)) ∧ (u.c2 ≤ 1125899906842624)) ∧ (u.g ≥ 0)) ∧ (u.g < 256)) ∧ (u.n ≥ 0)) ∧ (u.n ≤ 1048576))) ∧ F' 107 = .bool (decide ((((((((((((((((((u.c0 ≥ 0) ∧ (u.c0 ≤ 1048576)) ∧ (u.c1 ≥ 0)) ∧ (u.c1 ≤ 1125899906842624)) ∧ (u.c2 ≥ 0)) ∧ (u.c2 ≤ 1125899906842624)) ∧ (u.g ≥ 0)) ∧ (u.g < 256)) ∧ (u.n ≥ 0)) ∧ (u.n ≤ 1048576)) ∧ (u.jc ≥ 0)) ∧ (u.jc ≤ 1048576)) ∧ (u.js ≥ 0)) ∧ (u.js ≤ 1048576)) ∧ (u.r.t ≥ 0)) ∧ (u.r.t < 16)) ∧ (u.r.c ≥ 0)) ∧ (u.r.c ≤ 1048576)))) 5 (fun hk => ?_) ?_
                                  · by_cases hc17 : ((((((((((((((((u.c0 ≥ 0) ∧ (u.c0 ≤ 1048576)) ∧ (u.c1 ≥ 0)) ∧ (u.c1 ≤ 1125899906842624)) ∧ (u.c2 ≥ 0)) ∧ (u.c2 ≤ 1125899906842624)) ∧ (u.g ≥ 0)) ∧ (u.g < 256)) ∧ (u.n ≥ 0)) ∧ (u.n ≤ 1048576)) ∧ (u.jc ≥ 0)) ∧ (u.jc ≤ 1048576)) ∧ (u.js ≥ 0)) ∧ (u.js ≤ 1048576)) ∧ (u.r.t ≥ 0)) ∧ (u.r.t < 16)) ∧ (u.r.c ≥ 0)
                                    · refine lf_val (v := .pointer (some ⟨gc, 0, none⟩)) (wantF (d := 102) rfl (by kernel_rfl) rfl (congrArg Value.bool (decide_eq_true hc17))) (rv_fieldAddr (n := 66) rfl (fr_eval rfl e5) Try.underlying61 rfl rfl (by kernel_rfl)) ?_
                                      refine lf_val (v := .pointer (some ⟨gc, 1, none⟩)) (wantF (d := 102) rfl (by kernel_rfl) rfl (congrArg Value.bool (decide_eq_true hc17))) (rv_fieldAddr (n := 0) rfl (fr_eval rfl rfl) Try.underlying54 rfl rfl (by kernel_rfl)) ?_
                                      refine lf_val (v := .int .i64 u.r.c) (wantF (d := 102) rfl (by kernel_rfl) rfl (congrArg Value.bool (decide_eq_true hc17))) (rv_load1 rfl (hH.blk (i := 3) rfl) (zTP_g17 u.r.h.2 u.r.b.2) (fr_eval rfl rfl) Try.underlying3 rfl Try.sz3) ?_
                                      refine lf_val (v := .bool (decide (u.r.c ≤ 1048576))) (wantF (d := 102) rfl (by kernel_rfl) rfl (congrArg Value.bool (decide_eq_true hc17))) (rv_leqP (p := u.r.c ≤ 1048576) rfl (fr_eval rfl rfl) rfl Iff.rfl) ?_
                                      refine lf_val (v := .bool (decide (u.r.c ≤ 1048576))) (wantAll rfl) (rv_pickT rfl (fr_eval rfl (congrArg Value.bool (decide_eq_true hc17))) (fr_eval rfl rfl)) ?_
                                      exact hk _ ⟨e0, e1, e2, e3, e4, e5, e6, (congrArg Value.bool (dec_and hc17))⟩
                                    · refine lf_not (wantNot (d := 102) rfl (by kernel_rfl) rfl (congrArg Value.bool (decide_eq_false hc17))) ?_
                                      refine lf_not (wantNot (d := 102) rfl (by kernel_rfl) rfl (congrArg Value.bool (decide_eq_false hc17))) ?_
                                      refine lf_not (wantNot (d := 102) rfl (by kernel_rfl) rfl (congrArg Value.bool (decide_eq_false hc17))) ?_
                                      refine lf_not (wantNot (d := 102) rfl (by kernel_rfl) rfl (congrArg Value.bool (decide_eq_false hc17))) ?_
                                      refine lf_val (v := .bool false) (wantAll rfl) (rv_pickF rfl (fr_eval rfl (congrArg Value.bool (decide_eq_false hc17))) rfl) ?_
                                      exact hk _ ⟨e0, e1, e2, e3, e4, e5, e6, (congrArg Value.bool (dec_andF hc17))⟩
                                  · clear e0 e1 e2 e3 e4 e5 e6 e101
                                    clear F
                                    rintro F ⟨e0, e1, e2, e3, e4, e5, e6, e107⟩
                                    refine lf_val (wantAll rfl) (rv_move rfl (fr_eval rfl e107)) ?_
                                    refine lf_joinP (fun F' => F' 0 = .agg (([.int .i64 u.k, .int .i64 u.a, .int .i64 u.b, .int .i64 u.c0, .int .i64 u.c1, .int .i64 u.c2] : List Value) ++ (cBs u.h0.1 ++ (cBs u.h1.1 ++ (([.int .i64 u.g] : List Value) ++ (cBs u.o.1 ++ (([.int .i64 u.n] : List Value) ++ (cBs u.x.1 ++ (([.int .i64 u.jc, .int .i64 u.js] : List Value) ++ (cBs u.jh.1 ++ (([vb, .int .i64 u.r.t, .int .i64 u.r.c, .int .i64 u.r.s] : List Value) ++ (cBs u.r.h.1 ++ (cBs u.r.b.1 ++ ([vg] : List Value))))))))))))).toArray ∧ F' 1 = .pointer (some ⟨g1, 0, none⟩) ∧ F' 2 = .bool false ∧ F' 3 = .pointer (some ⟨ga, 0, none⟩) ∧ F' 4 = .pointer (some ⟨gb, 0, none⟩) ∧ F' 5 = .pointer (some ⟨gc, 0, none⟩) ∧ F' 6 = .bool (decide ((((((((((u.c0 ≥ 0) ∧ (u.c0 ≤ 1048576)) ∧ (u.c1 ≥ 0)) ∧ (u.c1 ≤ 1125899906842624)) ∧ (u.c2 ≥ 0)) ∧ (u.c2 ≤ 1125899906842624)) ∧ (u.g ≥ 0)) ∧ (u.g < 256)) ∧ (u.n ≥ 0)) ∧ (u.n ≤ 1048576))) ∧ F' 113 = .bool (decide (((((((((((((((((((u.c0 ≥ 0) ∧ (u.c0 ≤ 1048576)) ∧ (u.c1 ≥ 0)) ∧ (u.c1 ≤ 1125899906842624)) ∧ (u.c2 ≥ 0)) ∧ (u.c2 ≤ 1125899906842624)) ∧ (u.g ≥ 0)) ∧ (u.g < 256)) ∧ (u.n ≥ 0)) ∧ (u.n ≤ 1048576)) ∧ (u.jc ≥ 0)) ∧ (u.jc ≤ 1048576)) ∧ (u.js ≥ 0)) ∧ (u.js ≤ 1048576)) ∧ (u.r.t ≥ 0)) ∧ (u.r.t < 16)) ∧ (u.r.c ≥ 0)) ∧ (u.r.c ≤ 1048576)) ∧ (u.r.s ≥ 0)))) 5 (fun hk => ?_) ?_
                                    · by_cases hc18 : (((((((((((((((((u.c0 ≥ 0) ∧ (u.c0 ≤ 1048576)) ∧ (u.c1 ≥ 0)) ∧ (u.c1 ≤ 1125899906842624)) ∧ (u.c2 ≥ 0)) ∧ (u.c2 ≤ 1125899906842624)) ∧ (u.g ≥ 0)) ∧ (u.g < 256)) ∧ (u.n ≥ 0)) ∧ (u.n ≤ 1048576)) ∧ (u.jc ≥ 0)) ∧ (u.jc ≤ 1048576)) ∧ (u.js ≥ 0)) ∧ (u.js ≤ 1048576)) ∧ (u.r.t ≥ 0)) ∧ (u.r.t < 16)) ∧ (u.r.c ≥ 0)) ∧ (u.r.c ≤ 1048576)
                                      · refine lf_val (v := .pointer (some ⟨gc, 0, none⟩)) (wantF (d := 108) rfl (by kernel_rfl) rfl (congrArg Value.bool (decide_eq_true hc18))) (rv_fieldAddr (n := 66) rfl (fr_eval rfl e5) Try.underlying61 rfl rfl (by kernel_rfl)) ?_
                                        refine lf_val (v := .pointer (some ⟨gc, 2, none⟩)) (wantF (d := 108) rfl (by kernel_rfl) rfl (congrArg Value.bool (decide_eq_true hc18))) (rv_fieldAddr (n := 0) rfl (fr_eval rfl rfl) Try.underlying54 rfl rfl (by kernel_rfl)) ?_
                                        refine lf_val (v := .int .i64 u.r.s) (wantF (d := 108) rfl (by kernel_rfl) rfl (congrArg Value.bool (decide_eq_true hc18))) (rv_load1 rfl (hH.blk (i := 3) rfl) (zTP_g18 u.r.h.2 u.r.b.2) (fr_eval rfl rfl) Try.underlying3 rfl Try.sz3) ?_
                                        refine lf_val (v := .bool (decide (u.r.s ≥ 0))) (wantF (d := 108) rfl (by kernel_rfl) rfl (congrArg Value.bool (decide_eq_true hc18))) (rv_geqP (p := u.r.s ≥ 0) rfl (fr_eval rfl rfl) rfl Iff.rfl) ?_
                                        refine lf_val (v := .bool (decide (u.r.s ≥ 0))) (wantAll rfl) (rv_pickT rfl (fr_eval rfl (congrArg Value.bool (decide_eq_true hc18))) (fr_eval rfl rfl)) ?_
                                        exact hk _ ⟨e0, e1, e2, e3, e4, e5, e6, (congrArg Value.bool (dec_and hc18))⟩
                                      · refine lf_not (wantNot (d := 108) rfl (by kernel_rfl) rfl (congrArg Value.bool (decide_eq_false hc18))) ?_
                                        refine lf_not (wantNot (d := 108) rfl (by kernel_rfl) rfl (congrArg Value.bool (decide_eq_false hc18))) ?_
                                        refine lf_not (wantNot (d := 108) rfl (by kernel_rfl) rfl (congrArg Value.bool (decide_eq_false hc18))) ?_
                                        refine lf_not (wantNot (d := 108) rfl (by kernel_rfl) rfl (congrArg Value.bool (decide_eq_false hc18))) ?_
                                        refine lf_val (v := .bool false) (wantAll rfl) (rv_pickF rfl (fr_eval rfl (congrArg Value.bool (decide_eq_false hc18))) rfl) ?_
                                        exact hk _ ⟨e0, e1, e2, e3, e4, e5, e6, (congrArg Value.bool (dec_andF hc18))⟩
                                    · clear e0 e1 e2 e3 e4 e5 e6 e107
                                      clear F
                                      rintro F ⟨e0, e1, e2, e3, e4, e5, e6, e113⟩
                                      refine lf_val (wantAll rfl) (rv_move rfl (fr_eval rfl e113)) ?_
                                      refine lf_joinP (fun F' => F' 0 = .agg (([.int .i64 u.k, .int .i64 u.a, .int .i64 u.b, .int .i64 u.c0, .int .i64 u.c1, .int .i64 u.c2] : List Value) ++ (cBs u.h0.1 ++ (cBs u.h1.1 ++ (([.int .i64 u.g] : List Value) ++ (cBs u.o.1 ++ (([.int .i64 u.n] : List Value) ++ (cBs u.x.1 ++ (([.int .i64 u.jc, .int .i64 u.js] : List Value) ++ (cBs u.jh.1 ++ (([vb, .int .i64 u.r.t, .int .i64 u.r.c, .int .i64 u.r.s] : List Value) ++ (cBs u.r.h.1 ++ (cBs u.r.b.1 ++ ([vg] : List Value))))))))))))).toArray ∧ F' 1 = .pointer (some ⟨g1, 0, none⟩) ∧ F' 2 = .bool false ∧ F' 3 = .pointer (some ⟨ga, 0, none⟩) ∧ F' 4 = .pointer (some ⟨gb, 0, none⟩) ∧ F' 5 = .pointer (some ⟨gc, 0, none⟩) ∧ F' 6 = .bool (decide ((((((((((u.c0 ≥ 0) ∧ (u.c0 ≤ 1048576)) ∧ (u.c1 ≥ 0)) ∧ (u.c1 ≤ 1125899906842624)) ∧ (u.c2 ≥ 0)) ∧ (u.c2 ≤ 1125899906842624)) ∧ (u.g ≥ 0)) ∧ (u.g < 256)) ∧ (u.n ≥ 0)) ∧ (u.n ≤ 1048576))) ∧ F' 119 = .bool (decide ((((((((((((((((((((u.c0 ≥ 0) ∧ (u.c0 ≤ 1048576)) ∧ (u.c1 ≥ 0)) ∧ (u.c1 ≤ 1125899906842624)) ∧ (u.c2 ≥ 0)) ∧ (u.c2 ≤ 1125899906842624)) ∧ (u.g ≥ 0)) ∧ (u.g < 256)) ∧ (u.n ≥ 0)) ∧ (u.n ≤ 1048576)) ∧ (u.jc ≥ 0)) ∧ (u.jc ≤ 1048576)) ∧ (u.js ≥ 0)) ∧ (u.js ≤ 1048576)) ∧ (u.r.t ≥ 0)) ∧ (u.r.t < 16)) ∧ (u.r.c ≥ 0)) ∧ (u.r.c ≤ 1048576)) ∧ (u.r.s ≥ 0)) ∧ (u.r.s ≤ 1048576)))) 5 (fun hk => ?_) ?_
                                      · by_cases hc19 : ((((((((((((((((((u.c0 ≥ 0) ∧ (u.c0 ≤ 1048576)) ∧ (u.c1 ≥ 0)) ∧ (u.c1 ≤ 1125899906842624)) ∧ (u.c2 ≥ 0)) ∧ (u.c2 ≤ 1125899906842624)) ∧ (u.g ≥ 0)) ∧ (u.g < 256)) ∧ (u.n ≥ 0)) ∧ (u.n ≤ 1048576)) ∧ (u.jc ≥ 0)) ∧ (u.jc ≤ 1048576)) ∧ (u.js ≥ 0)) ∧ (u.js ≤ 1048576)) ∧ (u.r.t ≥ 0)) ∧ (u.r.t < 16)) ∧ (u.r.c ≥ 0)) ∧ (u.r.c ≤ 1048576)) ∧ (u.r.s ≥ 0)
                                        · refine lf_val (v := .pointer (some ⟨gc, 0, none⟩)) (wantF (d := 114) rfl (by kernel_rfl) rfl (congrArg Value.bool (decide_eq_true hc19))) (rv_fieldAddr (n := 66) rfl (fr_eval rfl e5) Try.underlying61 rfl rfl (by kernel_rfl)) ?_
                                          refine lf_val (v := .pointer (some ⟨gc, 2, none⟩)) (wantF (d := 114) rfl (by kernel_rfl) rfl (congrArg Value.bool (decide_eq_true hc19))) (rv_fieldAddr (n := 0) rfl (fr_eval rfl rfl) Try.underlying54 rfl rfl (by kernel_rfl)) ?_
                                          refine lf_val (v := .int .i64 u.r.s) (wantF (d := 114) rfl (by kernel_rfl) rfl (congrArg Value.bool (decide_eq_true hc19))) (rv_load1 rfl (hH.blk (i := 3) rfl) (zTP_g18 u.r.h.2 u.r.b.2) (fr_eval rfl rfl) Try.underlying3 rfl Try.sz3) ?_
                                          refine lf_val (v := .bool (decide (u.r.s ≤ 1048576))) (wantF (d := 114) rfl (by kernel_rfl) rfl (congrArg Value.bool (decide_eq_true hc19))) (rv_leqP (p := u.r.s ≤ 1048576) rfl (fr_eval rfl rfl) rfl Iff.rfl) ?_
                                          refine lf_val (v := .bool (decide (u.r.s ≤ 1048576))) (wantAll rfl) (rv_pickT rfl (fr_eval rfl (congrArg Value.bool (decide_eq_true hc19))) (fr_eval rfl rfl)) ?_
                                          exact hk _ ⟨e0, e1, e2, e3, e4, e5, e6, (congrArg Value.bool (dec_and hc19))⟩
                                        · refine lf_not (wantNot (d := 114) rfl (by kernel_rfl) rfl (congrArg Value.bool (decide_eq_false hc19))) ?_
                                          refine lf_not (wantNot (d := 114) rfl (by kernel_rfl) rfl (congrArg Value.bool (decide_eq_false hc19))) ?_
                                          refine lf_not (wantNot (d := 114) rfl (by kernel_rfl) rfl (congrArg Value.bool (decide_eq_false hc19))) ?_
                                          refine lf_not (wantNot (d := 114) rfl (by kernel_rfl) rfl (congrArg Value.bool (decide_eq_false hc19))) ?_
                                          refine lf_val (v := .bool false) (wantAll rfl) (rv_pickF rfl (fr_eval rfl (congrArg Value.bool (decide_eq_false hc19))) rfl) ?_
                                          exact hk _ ⟨e0, e1, e2, e3, e4, e5, e6, (congrArg Value.bool (dec_andF hc19))⟩
                                      · clear e0 e1 e2 e3 e4 e5 e6 e113
                                        clear F
                                        rintro F ⟨e0, e1, e2, e3, e4, e5, e6, e119⟩
                                        refine lf_val (wantAll rfl) (rv_assign rfl (fr_eval rfl e119)) ?_
                                        refine lf_nil ?_
                                        refine then_n ?_
                                        refine wp_gen (fun F' => F' 0 = .agg (([.int .i64 u.k, .int .i64 u.a, .int .i64 u.b, .int .i64 u.c0, .int .i64 u.c1, .int .i64 u.c2] : List Value) ++ (cBs u.h0.1 ++ (cBs u.h1.1 ++ (([.int .i64 u.g] : List Value) ++ (cBs u.o.1 ++ (([.int .i64 u.n] : List Value) ++ (cBs u.x.1 ++ (([.int .i64 u.jc, .int .i64 u.js] : List Value) ++ (cBs u.jh.1 ++ (([vb, .int .i64 u.r.t, .int .i64 u.r.c, .int .i64 u.r.s] : List Value) ++ (cBs u.r.h.1 ++ (cBs u.r.b.1 ++ ([vg] : List Value))))))))))))).toArray ∧ F' 1 = .pointer (some ⟨g1, 0, none⟩) ∧ F' 2 = .bool (decide ((((((((((((((((((((u.c0 ≥ 0) ∧ (u.c0 ≤ 1048576)) ∧ (u.c1 ≥ 0)) ∧ (u.c1 ≤ 1125899906842624)) ∧ (u.c2 ≥ 0)) ∧ (u.c2 ≤ 1125899906842624)) ∧ (u.g ≥ 0)) ∧ (u.g < 256)) ∧ (u.n ≥ 0)) ∧ (u.n ≤ 1048576)) ∧ (u.jc ≥ 0)) ∧ (u.jc ≤ 1048576)) ∧ (u.js ≥ 0)) ∧ (u.js ≤ 1048576)) ∧ (u.r.t ≥ 0)) ∧ (u.r.t < 16)) ∧ (u.r.c ≥ 0)) ∧ (u.r.c ≤ 1048576)) ∧ (u.r.s ≥ 0)) ∧ (u.r.s ≤ 1048576))) ∧ F' 3 = .pointer (some ⟨ga, 0, none⟩) ∧ F' 4 = .pointer (some ⟨gb, 0, none⟩) ∧ F' 5 = .pointer (some ⟨gc, 0, none⟩) ∧ F' 6 = .bool (decide ((((((((((u.c0 ≥ 0) ∧ (u.c0 ≤ 1048576)) ∧ (u.c1 ≥ 0)) ∧ (u.c1 ≤ 1125899906842624)) ∧ (u.c2 ≥ 0)) ∧ (u.c2 ≤ 1125899906842624)) ∧ (u.g ≥ 0)) ∧ (u.g < 256)) ∧ (u.n ≥ 0)) ∧ (u.n ≤ 1048576)))) ⟨e0, e1, rfl, e3, e4, e5, e6⟩ ?_
                                        clear e0 e1 e2 e3 e4 e5 e6 e119
                                        clear F
                                        rintro F ⟨e0, e1, e2, e3, e4, e5, e6⟩
                                        refine wp_ret ?_
                                        exact bodyPost_ret (res1 rfl (ro_tmp rfl e2)) rfl (⟨congrArg (fun b => Ending.returned (.bool b)) (decide_eq_decide.2 (by unfold plainM inR; omega)), hH.done⟩)

end Go.Proofs.Ytjgcjddaladgfaa
