/- Messages: the walks of what reads them. -/
import Derived.Test.YtjgcjddaladgfaaTalk2
import Derived.Test.YtjgcjddaladgfaaTalks
import Derived.Test.YtjgcjddaladgfaaHeap3
import Derived.Test.YtjgcjddaladgfaaBuildA
namespace Go.Proofs.Ytjgcjddaladgfaa
open Go.RowKit Go.Bz Go.Bz.Wire Go.Bz.Rcpt Go.Bz.Talk
attribute [local irreducible] wpList Code.wp wpAnyX
theorem of_nb {p : Prop} [Decidable p] (h : (!decide p) = false) : p := by simpa using h
theorem of_nb' {p : Prop} [Decidable p] (h : (!decide p) = true) : ¬ p := by simpa using h
theorem _root_.Go.Bz.Heap.startEye {w : World} {g : Nat} {v0 : Value} {r : List UInt8} {e : Int} (he : EyeAt w g v0 r e) (hv : ∀ k, v0.ownBlock = some k → ¬ newK w (· = g) k) : Heap (newK w (· = g)) w w [oEye g v0 r e] :=
  ⟨Chg.refl _ _, fun k h => .inl h, fun O hO => by
    obtain rfl : O = oEye g v0 r e := by simpa using hO
    exact ⟨fun k hk => .inr hk, fun k hk => by obtain rfl : k = g := hk; exact he.lt, stay_eye hv he⟩, List.pairwise_singleton _ _⟩

theorem zTG_l0 {a0 : Value} {a1 : List UInt8} (ha1 : a1.length = 32) : List.length (([a0] : List Value) ++ cBs a1) = 33 := (len_app (m := 1) (n := 32) (k := 33) rfl (cBs_len ha1) rfl)
theorem zTG_y1 {a0 : Value} {a1 : List UInt8} (_ : a1.length = 32) {n0 : Value} : lay (([a0] : List Value) ++ cBs a1) 0 ([n0]) = ([n0] : List Value) ++ cBs a1 := (show lay ([] ++ (([a0]) ++ (cBs a1))) 0 ([n0]) = [] ++ (([n0]) ++ (cBs a1)) from lay_app (show List.length ([] : List Value) = 0 from rfl) ((show List.length [a0] = 1 from rfl).trans (show List.length [n0] = 1 from rfl).symm))
theorem zTG_y2 {a0 : Value} {a1 : List UInt8} (ha1 : a1.length = 32) {n0 : List UInt8} (hn0 : n0.length = 32) : lay (([a0] : List Value) ++ cBs a1) 1 (cBs n0) = ([a0] : List Value) ++ cBs n0 := (show lay ([a0] ++ (cBs a1)) 1 (cBs n0) = [a0] ++ (cBs n0) from lay_end (show List.length [a0] = 1 from rfl) ((cBs_len ha1).trans (cBs_len hn0).symm))
theorem zTG_o3 {a0 : Value} {a1 : List UInt8} (qa0 : a0.oneCell' = true) : ∀ u ∈ (([a0] : List Value) ++ cBs a1), u.oneCell' = true := (ones_app (ones_cons qa0 ones_nil) (cBs_one _))
theorem zTG_l4 {a0 : Value} {a1 : Value} {a2 : List UInt8} (ha2 : a2.length = 32) {a3 : Value} : List.length (([a0, a1] : List Value) ++ (cBs a2 ++ ([a3] : List Value))) = 35 := (len_app (m := 2) (n := 33) (k := 35) rfl (len_app (m := 32) (n := 1) (k := 33) (cBs_len ha2) rfl rfl) rfl)
theorem zTG_y5 {a0 : Value} {a1 : Value} {a2 : List UInt8} (_ : a2.length = 32) {a3 : Value} {n0 : Value} : lay (([a0, a1] : List Value) ++ (cBs a2 ++ ([a3] : List Value))) 0 ([n0]) = ([n0, a1] : List Value) ++ (cBs a2 ++ ([a3] : List Value)) := (show lay ([] ++ (([a0]) ++ (([a1] : List Value) ++ (cBs a2 ++ ([a3] : List Value))))) 0 ([n0]) = [] ++ (([n0]) ++ (([a1] : List Value) ++ (cBs a2 ++ ([a3] : List Value)))) from lay_app (show List.length ([] : List Value) = 0 from rfl) ((show List.length [a0] = 1 from rfl).trans (show List.length [n0] = 1 from rfl).symm))
theorem zTG_y6 {a0 : Value} {a1 : Value} {a2 : List UInt8} (_ : a2.length = 32) {a3 : Value} {n0 : Value} : lay (([a0, a1] : List Value) ++ (cBs a2 ++ ([a3] : List Value))) 1 ([n0]) = ([a0, n0] : List Value) ++ (cBs a2 ++ ([a3] : List Value)) := (show lay ([a0] ++ (([a1]) ++ (cBs a2 ++ ([a3] : List Value)))) 1 ([n0]) = [a0] ++ (([n0]) ++ (cBs a2 ++ ([a3] : List Value))) from lay_app (show List.length [a0] = 1 from rfl) ((show List.length [a1] = 1 from rfl).trans (show List.length [n0] = 1 from rfl).symm))
theorem zTG_y7 {a0 : Value} {a1 : Value} {a2 : List UInt8} (ha2 : a2.length = 32) {a3 : Value} {n0 : List UInt8} (hn0 : n0.length = 32) : lay (([a0, a1] : List Value) ++ (cBs a2 ++ ([a3] : List Value))) 2 (cBs n0) = ([a0, a1] : List Value) ++ (cBs n0 ++ ([a3] : List Value)) := (show lay ([a0, a1] ++ ((cBs a2) ++ ([a3]))) 2 (cBs n0) = [a0, a1] ++ ((cBs n0) ++ ([a3])) from lay_app (show List.length [a0, a1] = 2 from rfl) ((cBs_len ha2).trans (cBs_len hn0).symm))
theorem zTG_o8 {a0 : Value} {a1 : Value} {a2 : List UInt8} {a3 : Value} (qa0 : a0.oneCell' = true) (qa1 : a1.oneCell' = true) (qa3 : a3.oneCell' = true) : ∀ u ∈ (([a0, a1] : List Value) ++ (cBs a2 ++ ([a3] : List Value))), u.oneCell' = true := (ones_app (ones_cons qa0 (ones_cons qa1 ones_nil)) (ones_app (cBs_one _) (ones_cons qa3 ones_nil)))
theorem zTG_y9 {a0 : Value} {a1 : Value} {a2 : List UInt8} (ha2 : a2.length = 32) {a3 : Value} {n0 : Value} : lay (([a0, a1] : List Value) ++ (cBs a2 ++ ([a3] : List Value))) 34 ([n0]) = ([a0, a1] : List Value) ++ (cBs a2 ++ ([n0] : List Value)) := (lay_of (cur := ([a0, a1] : List Value) ++ (cBs a2 ++ ([a3] : List Value))) (cs := [n0]) (cur' := ([a0, a1] : List Value) ++ (cBs a2 ++ ([n0] : List Value))) (A := (([a0, a1] : List Value) ++ cBs a2 : List Value)) (D := ([a3] : List Value)) (C := ([] : List Value)) (by simp) (by simp) (len_app (m := 2) (n := 32) (k := 34) rfl (cBs_len ha2) rfl) ((show List.length [a3] = 1 from rfl).trans (show List.length [n0] = 1 from rfl).symm))
theorem zTG_l10 {a0 : Value} {a1 : Value} {a2 : Value} {a3 : Value} {a4 : Value} {a5 : Value} {a6 : List UInt8} (ha6 : a6.length = 32) {a7 : List UInt8} (ha7 : a7.length = 32) {a8 : Value} {a9 : List UInt8} (ha9 : a9.length = 32) {a10 : Value} {a11 : List UInt8} (ha11 : a11.length = 32) {a12 : Value} {a13 : Value} {a14 : List UInt8} (ha14 : a14.length = 32) {a15 : Value} {a16 : Value} {a17 : Value} {a18 : Value} {a19 : List UInt8} (ha19 : a19.length = 32) {a20 : List UInt8} (ha20 : a20.length = 32) {a21 : Value} : List.length (([a0, a1, a2, a3, a4, a5] : List Value) ++ (cBs a6 ++ (cBs a7 ++ (([a8] : List Value) ++ (cBs a9 ++ (([a10] : List Value) ++ (cBs a11 ++ (([a12, a13] : List Value) ++ (cBs a14 ++ (([a15, a16, a17, a18] : List Value) ++ (cBs a19 ++ (cBs a20 ++ ([a21] : List Value))))))))))))) = 239 := (len_app (m := 6) (n := 233) (k := 239) rfl (len_app (m := 32) (n := 201) (k := 233) (cBs_len ha6) (len_app (m := 32) (n := 169) (k := 201) (cBs_len ha7) (len_app (m := 1) (n := 168) (k := 169) rfl (len_app (m := 32) (n := 136) (k := 168) (cBs_len ha9) (len_app (m := 1) (n := 135) (k := 136) rfl (len_app (m := 32) (n := 103) (k := 135) (cBs_len ha11) (len_app (m := 2) (n := 101) (k := 103) rfl (len_app (m := 32) (n := 69) (k := 101) (cBs_len ha14) (len_app (m := 4) (n := 65) (k := 69) rfl (len_app (m := 32) (n := 33) (k := 65) (cBs_len ha19) (len_app (m := 32) (n := 1) (k := 33) (cBs_len ha20) rfl rfl) rfl) rfl) rfl) rfl) rfl) rfl) rfl) rfl) rfl) rfl) rfl)
theorem zTG_y11 {a0 : Value} {a1 : Value} {a2 : Value} {a3 : Value} {a4 : Value} {a5 : Value} {a6 : List UInt8} (_ : a6.length = 32) {a7 : List UInt8} (_ : a7.length = 32) {a8 : Value} {a9 : List UInt8} (_ : a9.length = 32) {a10 : Value} {a11 : List UInt8} (_ : a11.length = 32) {a12 : Value} {a13 : Value} {a14 : List UInt8} (_ : a14.length = 32) {a15 : Value} {a16 : Value} {a17 : Value} {a18 : Value} {a19 : List UInt8} (_ : a19.length = 32) {a20 : List UInt8} (_ : a20.length = 32) {a21 : Value} {n0 : Value} : lay (([a0, a1, a2, a3, a4, a5] : List Value) ++ (cBs a6 ++ (cBs a7 ++ (([a8] : List Value) ++ (cBs a9 ++ (([a10] : List Value) ++ (cBs a11 ++ (([a12, a13] : List Value) ++ (cBs a14 ++ (([a15, a16, a17, a18] : List Value) ++ (cBs a19 ++ (cBs a20 ++ ([a21] : List Value))))))))))))) 0 ([n0]) = ([n0, a1, a2, a3, a4, a5] : List Value) ++ (cBs a6 ++ (cBs a7 ++ (([a8] : List Value) ++ (cBs a9 ++ (([a10] : List Value) ++ (cBs a11 ++ (([a12, a13] : List Value) ++ (cBs a14 ++ (([a15, a16, a17, a18] : List Value) ++ (cBs a19 ++ (cBs a20 ++ ([a21] : List Value)))))))))))) := (show lay ([] ++ (([a0]) ++ (([a1, a2, a3, a4, a5] : List Value) ++ (cBs a6 ++ (cBs a7 ++ (([a8] : List Value) ++ (cBs a9 ++ (([a10] : List Value) ++ (cBs a11 ++ (([a12, a13] : List Value) ++ (cBs a14 ++ (([a15, a16, a17, a18] : List Value) ++ (cBs a19 ++ (cBs a20 ++ ([a21] : List Value))))))))))))))) 0 ([n0]) = [] ++ (([n0]) ++ (([a1, a2, a3, a4, a5] : List Value) ++ (cBs a6 ++ (cBs a7 ++ (([a8] : List Value) ++ (cBs a9 ++ (([a10] : List Value) ++ (cBs a11 ++ (([a12, a13] : List Value) ++ (cBs a14 ++ (([a15, a16, a17, a18] : List Value) ++ (cBs a19 ++ (cBs a20 ++ ([a21] : List Value)))))))))))))) from lay_app (show List.length ([] : List Value) = 0 from rfl) ((show List.length [a0] = 1 from rfl).trans (show List.length [n0] = 1 from rfl).symm))
theorem zTG_y12 {a0 : Value} {a1 : Value} {a2 : Value} {a3 : Value} {a4 : Value} {a5 : Value} {a6 : List UInt8} (_ : a6.length = 32) {a7 : List UInt8} (_ : a7.length = 32) {a8 : Value} {a9 : List UInt8} (_ : a9.length = 32) {a10 : Value} {a11 : List UInt8} (_ : a11.length = 32) {a12 : Value} {a13 : Value} {a14 : List UInt8} (_ : a14.length = 32) {a15 : Value} {a16 : Value} {a17 : Value} {a18 : Value} {a19 : List UInt8} (_ : a19.length = 32) {a20 : List UInt8} (_ : a20.length = 32) {a21 : Value} {n0 : Value} : lay (([a0, a1, a2, a3, a4, a5] : List Value) ++ (cBs a6 ++ (cBs a7 ++ (([a8] : List Value) ++ (cBs a9 ++ (([a10] : List Value) ++ (cBs a11 ++ (([a12, a13] : List Value) ++ (cBs a14 ++ (([a15, a16, a17, a18] : List Value) ++ (cBs a19 ++ (cBs a20 ++ ([a21] : List Value))))))))))))) 1 ([n0]) = ([a0, n0, a2, a3, a4, a5] : List Value) ++ (cBs a6 ++ (cBs a7 ++ (([a8] : List Value) ++ (cBs a9 ++ (([a10] : List Value) ++ (cBs a11 ++ (([a12, a13] : List Value) ++ (cBs a14 ++ (([a15, a16, a17, a18] : List Value) ++ (cBs a19 ++ (cBs a20 ++ ([a21] : List Value)))))))))))) := (show lay ([a0] ++ (([a1]) ++ (([a2, a3, a4, a5] : List Value) ++ (cBs a6 ++ (cBs a7 ++ (([a8] : List Value) ++ (cBs a9 ++ (([a10] : List Value) ++ (cBs a11 ++ (([a12, a13] : List Value) ++ (cBs a14 ++ (([a15, a16, a17, a18] : List Value) ++ (cBs a19 ++ (cBs a20 ++ ([a21] : List Value))))))))))))))) 1 ([n0]) = [a0] ++ (([n0]) ++ (([a2, a3, a4, a5] : List Value) ++ (cBs a6 ++ (cBs a7 ++ (([a8] : List Value) ++ (cBs a9 ++ (([a10] : List Value) ++ (cBs a11 ++ (([a12, a13] : List Value) ++ (cBs a14 ++ (([a15, a16, a17, a18] : List Value) ++ (cBs a19 ++ (cBs a20 ++ ([a21] : List Value)))))))))))))) from lay_app (show List.length [a0] = 1 from rfl) ((show List.length [a1] = 1 from rfl).trans (show List.length [n0] = 1 from rfl).symm))
theorem zTG_y13 {a0 : Value} {a1 : Value} {a2 : Value} {a3 : Value} {a4 : Value} {a5 : Value} {a6 : List UInt8} (_ : a6.length = 32) {a7 : List UInt8} (_ : a7.length = 32) {a8 : Value} {a9 : List UInt8} (_ : a9.length = 32) {a10 : Value} {a11 : List UInt8} (_ : a11.length = 32) {a12 : Value} {a13 : Value} {a14 : List UInt8} (_ : a14.length = 32) {a15 : Value} {a16 : Value} {a17 : Value} {a18 : Value} {a19 : List UInt8} (_ : a19.length = 32) {a20 : List UInt8} (_ : a20.length = 32) {a21 : Value} {n0 : Value} : lay (([a0, a1, a2, a3, a4, a5] : List Value) ++ (cBs a6 ++ (cBs a7 ++ (([a8] : List Value) ++ (cBs a9 ++ (([a10] : List Value) ++ (cBs a11 ++ (([a12, a13] : List Value) ++ (cBs a14 ++ (([a15, a16, a17, a18] : List Value) ++ (cBs a19 ++ (cBs a20 ++ ([a21] : List Value))))))))))))) 2 ([n0]) = ([a0, a1, n0, a3, a4, a5] : List Value) ++ (cBs a6 ++ (cBs a7 ++ (([a8] : List Value) ++ (cBs a9 ++ (([a10] : List Value) ++ (cBs a11 ++ (([a12, a13] : List Value) ++ (cBs a14 ++ (([a15, a16, a17, a18] : List Value) ++ (cBs a19 ++ (cBs a20 ++ ([a21] : List Value)))))))))))) := (show lay ([a0, a1] ++ (([a2]) ++ (([a3, a4, a5] : List Value) ++ (cBs a6 ++ (cBs a7 ++ (([a8] : List Value) ++ (cBs a9 ++ (([a10] : List Value) ++ (cBs a11 ++ (([a12, a13] : List Value) ++ (cBs a14 ++ (([a15, a16, a17, a18] : List Value) ++ (cBs a19 ++ (cBs a20 ++ ([a21] : List Value))))))))))))))) 2 ([n0]) = [a0, a1] ++ (([n0]) ++ (([a3, a4, a5] : List Value) ++ (cBs a6 ++ (cBs a7 ++ (([a8] : List Value) ++ (cBs a9 ++ (([a10] : List Value) ++ (cBs a11 ++ (([a12, a13] : List Value) ++ (cBs a14 ++ (([a15, a16, a17, a18] : List Value) ++ (cBs a19 ++ (cBs a20 ++ ([a21] : List Value)))))))))))))) from lay_app (show List.length [a0, a1] = 2 from rfl) ((show List.length [a2] = 1 from rfl).trans (show List.length [n0] = 1 from rfl).symm))
theorem zTG_o14 {a0 : Value} {a1 : Value} {a2 : Value} {a3 : Value} {a4 : Value} {a5 : Value} {a6 : List UInt8} {a7 : List UInt8} {a8 : Value} {a9 : List UInt8} {a10 : Value} {a11 : List UInt8} {a12 : Value} {a13 : Value} {a14 : List UInt8} {a15 : Value} {a16 : Value} {a17 : Value} {a18 : Value} {a19 : List UInt8} {a20 : List UInt8} {a21 : Value} (qa0 : a0.oneCell' = true) (qa1 : a1.oneCell' = true) (qa2 : a2.oneCell' = true) (qa3 : a3.oneCell' = true) (qa4 : a4.oneCell' = true) (qa5 : a5.oneCell' = true) (qa8 : a8.oneCell' = true) (qa10 : a10.oneCell' = true) (qa12 : a12.oneCell' = true) (qa13 : a13.oneCell' = true) (qa15 : a15.oneCell' = true) (qa16 : a16.oneCell' = true) (qa17 : a17.oneCell' = true) (qa18 : a18.oneCell' = true) (qa21 : a21.oneCell' = true) : ∀ u ∈ (([a0, a1, a2, a3, a4, a5] : List Value) ++ (cBs a6 ++ (cBs a7 ++ (([a8] : List Value) ++ (cBs a9 ++ (([a10] : List Value) ++ (cBs a11 ++ (([a12, a13] : List Value) ++ (cBs a14 ++ (([a15, a16, a17, a18] : List Value) ++ (cBs a19 ++ (cBs a20 ++ ([a21] : List Value))))))))))))), u.oneCell' = true := (ones_app (ones_cons qa0 (ones_cons qa1 (ones_cons qa2 (ones_cons qa3 (ones_cons qa4 (ones_cons qa5 ones_nil)))))) (ones_app (cBs_one _) (ones_app (cBs_one _) (ones_app (ones_cons qa8 ones_nil) (ones_app (cBs_one _) (ones_app (ones_cons qa10 ones_nil) (ones_app (cBs_one _) (ones_app (ones_cons qa12 (ones_cons qa13 ones_nil)) (ones_app (cBs_one _) (ones_app (ones_cons qa15 (ones_cons qa16 (ones_cons qa17 (ones_cons qa18 ones_nil)))) (ones_app (cBs_one _) (ones_app (cBs_one _) (ones_cons qa21 ones_nil)))))))))))))
theorem zTG_g15 {a0 : Value} {a1 : Value} {a2 : Value} {a3 : Value} {a4 : Value} {a5 : Value} {a6 : List UInt8} (_ : a6.length = 32) {a7 : List UInt8} (_ : a7.length = 32) {a8 : Value} {a9 : List UInt8} (_ : a9.length = 32) {a10 : Value} {a11 : List UInt8} (_ : a11.length = 32) {a12 : Value} {a13 : Value} {a14 : List UInt8} (_ : a14.length = 32) {a15 : Value} {a16 : Value} {a17 : Value} {a18 : Value} {a19 : List UInt8} (_ : a19.length = 32) {a20 : List UInt8} (_ : a20.length = 32) {a21 : Value} : (([a0, a1, a2, a3, a4, a5] : List Value) ++ (cBs a6 ++ (cBs a7 ++ (([a8] : List Value) ++ (cBs a9 ++ (([a10] : List Value) ++ (cBs a11 ++ (([a12, a13] : List Value) ++ (cBs a14 ++ (([a15, a16, a17, a18] : List Value) ++ (cBs a19 ++ (cBs a20 ++ ([a21] : List Value)))))))))))))[0]? = some a0 := (show (([a0, a1, a2, a3, a4, a5] : List Value) ++ (cBs a6 ++ (cBs a7 ++ (([a8] : List Value) ++ (cBs a9 ++ (([a10] : List Value) ++ (cBs a11 ++ (([a12, a13] : List Value) ++ (cBs a14 ++ (([a15, a16, a17, a18] : List Value) ++ (cBs a19 ++ (cBs a20 ++ ([a21] : List Value)))))))))))))[0]? = some (a0) from (get_l (C := cBs a6 ++ (cBs a7 ++ (([a8] : List Value) ++ (cBs a9 ++ (([a10] : List Value) ++ (cBs a11 ++ (([a12, a13] : List Value) ++ (cBs a14 ++ (([a15, a16, a17, a18] : List Value) ++ (cBs a19 ++ (cBs a20 ++ ([a21] : List Value)))))))))))) (show ([a0, a1, a2, a3, a4, a5] : List Value)[0]? = some (a0) from rfl)))
theorem zTG_l16 {a0 : List UInt8} (ha0 : a0.length = 32) {a1 : List UInt8} (ha1 : a1.length = 32) : List.length (cBs a0 ++ cBs a1) = 64 := (len_app (m := 32) (n := 32) (k := 64) (cBs_len ha0) (cBs_len ha1) rfl)
theorem zTG_y17 {a0 : List UInt8} (ha0 : a0.length = 32) {a1 : List UInt8} (_ : a1.length = 32) {n0 : List UInt8} (hn0 : n0.length = 32) : lay (cBs a0 ++ cBs a1) 0 (cBs n0) = cBs n0 ++ cBs a1 := (show lay ([] ++ ((cBs a0) ++ (cBs a1))) 0 (cBs n0) = [] ++ ((cBs n0) ++ (cBs a1)) from lay_app (show List.length ([] : List Value) = 0 from rfl) ((cBs_len ha0).trans (cBs_len hn0).symm))
theorem zTG_y18 {a0 : List UInt8} (ha0 : a0.length = 32) {a1 : List UInt8} (ha1 : a1.length = 32) {n0 : List UInt8} (hn0 : n0.length = 32) : lay (cBs a0 ++ cBs a1) 32 (cBs n0) = cBs a0 ++ cBs n0 := (show lay (cBs a0 ++ (cBs a1)) 32 (cBs n0) = cBs a0 ++ (cBs n0) from lay_end (cBs_len ha0) ((cBs_len ha1).trans (cBs_len hn0).symm))
theorem zTG_l19 {a0 : Value} {a1 : Value} {a2 : Value} {a3 : List UInt8} (ha3 : a3.length = 32) {a4 : List UInt8} (ha4 : a4.length = 32) : List.length (([a0, a1, a2] : List Value) ++ (cBs a3 ++ cBs a4)) = 67 := (len_app (m := 3) (n := 64) (k := 67) rfl (len_app (m := 32) (n := 32) (k := 64) (cBs_len ha3) (cBs_len ha4) rfl) rfl)
theorem zTG_y20 {a0 : Value} {a1 : Value} {a2 : Value} {a3 : List UInt8} (_ : a3.length = 32) {a4 : List UInt8} (_ : a4.length = 32) {n0 : Value} : lay (([a0, a1, a2] : List Value) ++ (cBs a3 ++ cBs a4)) 0 ([n0]) = ([n0, a1, a2] : List Value) ++ (cBs a3 ++ cBs a4) := (show lay ([] ++ (([a0]) ++ (([a1, a2] : List Value) ++ (cBs a3 ++ cBs a4)))) 0 ([n0]) = [] ++ (([n0]) ++ (([a1, a2] : List Value) ++ (cBs a3 ++ cBs a4))) from lay_app (show List.length ([] : List Value) = 0 from rfl) ((show List.length [a0] = 1 from rfl).trans (show List.length [n0] = 1 from rfl).symm))
theorem zTG_y21 {a0 : Value} {a1 : Value} {a2 : Value} {a3 : List UInt8} (_ : a3.length = 32) {a4 : List UInt8} (_ : a4.length = 32) {n0 : Value} : lay (([a0, a1, a2] : List Value) ++ (cBs a3 ++ cBs a4)) 1 ([n0]) = ([a0, n0, a2] : List Value) ++ (cBs a3 ++ cBs a4) := (show lay ([a0] ++ (([a1]) ++ (([a2] : List Value) ++ (cBs a3 ++ cBs a4)))) 1 ([n0]) = [a0] ++ (([n0]) ++ (([a2] : List Value) ++ (cBs a3 ++ cBs a4))) from lay_app (show List.length [a0] = 1 from rfl) ((show List.length [a1] = 1 from rfl).trans (show List.length [n0] = 1 from rfl).symm))
theorem zTG_y22 {a0 : Value} {a1 : Value} {a2 : Value} {a3 : List UInt8} (_ : a3.length = 32) {a4 : List UInt8} (_ : a4.length = 32) {n0 : Value} : lay (([a0, a1, a2] : List Value) ++ (cBs a3 ++ cBs a4)) 2 ([n0]) = ([a0, a1, n0] : List Value) ++ (cBs a3 ++ cBs a4) := (show lay ([a0, a1] ++ (([a2]) ++ (cBs a3 ++ cBs a4))) 2 ([n0]) = [a0, a1] ++ (([n0]) ++ (cBs a3 ++ cBs a4)) from lay_app (show List.length [a0, a1] = 2 from rfl) ((show List.length [a2] = 1 from rfl).trans (show List.length [n0] = 1 from rfl).symm))
theorem zTG_y23 {a0 : Value} {a1 : Value} {a2 : Value} {a3 : List UInt8} (ha3 : a3.length = 32) {a4 : List UInt8} (ha4 : a4.length = 32) {n0 : List UInt8} (hn0 : n0.length = 32) {n1 : List UInt8} (hn1 : n1.length = 32) : lay (([a0, a1, a2] : List Value) ++ (cBs a3 ++ cBs a4)) 3 (cBs n0 ++ cBs n1) = ([a0, a1, a2] : List Value) ++ (cBs n0 ++ cBs n1) := (lay_of (cur := ([a0, a1, a2] : List Value) ++ (cBs a3 ++ cBs a4)) (cs := cBs n0 ++ cBs n1) (cur' := ([a0, a1, a2] : List Value) ++ (cBs n0 ++ cBs n1)) (A := ([a0, a1, a2] : List Value)) (D := (cBs a3 ++ cBs a4 : List Value)) (C := ([] : List Value)) (by simp) (by simp) (show List.length [a0, a1, a2] = 3 from rfl) ((len_app (m := 32) (n := 32) (k := 64) (cBs_len ha3) (cBs_len ha4) rfl).trans (len_app (m := 32) (n := 32) (k := 64) (cBs_len hn0) (cBs_len hn1) rfl).symm))
theorem zTG_y24 {a0 : Value} {a1 : Value} {a2 : Value} {a3 : Value} {a4 : Value} {a5 : Value} {a6 : List UInt8} (ha6 : a6.length = 32) {a7 : List UInt8} (ha7 : a7.length = 32) {a8 : Value} {a9 : List UInt8} (_ : a9.length = 32) {a10 : Value} {a11 : List UInt8} (_ : a11.length = 32) {a12 : Value} {a13 : Value} {a14 : List UInt8} (_ : a14.length = 32) {a15 : Value} {a16 : Value} {a17 : Value} {a18 : Value} {a19 : List UInt8} (_ : a19.length = 32) {a20 : List UInt8} (_ : a20.length = 32) {a21 : Value} {n0 : Value} {n1 : Value} {n2 : Value} {n3 : List UInt8} (hn3 : n3.length = 32) {n4 : List UInt8} (hn4 : n4.length = 32) : lay (([a0, a1, a2, a3, a4, a5] : List Value) ++ (cBs a6 ++ (cBs a7 ++ (([a8] : List Value) ++ (cBs a9 ++ (([a10] : List Value) ++ (cBs a11 ++ (([a12, a13] : List Value) ++ (cBs a14 ++ (([a15, a16, a17, a18] : List Value) ++ (cBs a19 ++ (cBs a20 ++ ([a21] : List Value))))))))))))) 3 (([n0, n1, n2] : List Value) ++ (cBs n3 ++ cBs n4)) = ([a0, a1, a2, n0, n1, n2] : List Value) ++ (cBs n3 ++ (cBs n4 ++ (([a8] : List Value) ++ (cBs a9 ++ (([a10] : List Value) ++ (cBs a11 ++ (([a12, a13] : List Value) ++ (cBs a14 ++ (([a15, a16, a17, a18] : List Value) ++ (cBs a19 ++ (cBs a20 ++ ([a21] : List Value)))))))))))) := (lay_of (cur := ([a0, a1, a2, a3, a4, a5] : List Value) ++ (cBs a6 ++ (cBs a7 ++ (([a8] : List Value) ++ (cBs a9 ++ (([a10] : List Value) ++ (cBs a11 ++ (([a12, a13] : List Value) ++ (cBs a14 ++ (([a15, a16, a17, a18] : List Value) ++ (cBs a19 ++ (cBs a20 ++ ([a21] : List Value))))))))))))) (cs := ([n0, n1, n2] : List Value) ++ (cBs n3 ++ cBs n4)) (cur' := ([a0, a1, a2, n0, n1, n2] : List Value) ++ (cBs n3 ++ (cBs n4 ++ (([a8] : List Value) ++ (cBs a9 ++ (([a10] : List Value) ++ (cBs a11 ++ (([a12, a13] : List Value) ++ (cBs a14 ++ (([a15, a16, a17, a18] : List Value) ++ (cBs a19 ++ (cBs a20 ++ ([a21] : List Value))))))))))))) (A := ([a0, a1, a2] : List Value)) (D := (([a3, a4, a5] : List Value) ++ (cBs a6 ++ cBs a7) : List Value)) (C := (([a8] : List Value) ++ (cBs a9 ++ (([a10] : List Value) ++ (cBs a11 ++ (([a12, a13] : List Value) ++ (cBs a14 ++ (([a15, a16, a17, a18] : List Value) ++ (cBs a19 ++ (cBs a20 ++ ([a21] : List Value))))))))) : List Value)) (by simp) (by simp) (show List.length [a0, a1, a2] = 3 from rfl) ((len_app (m := 3) (n := 64) (k := 67) rfl (len_app (m := 32) (n := 32) (k := 64) (cBs_len ha6) (cBs_len ha7) rfl) rfl).trans (len_app (m := 3) (n := 64) (k := 67) rfl (len_app (m := 32) (n := 32) (k := 64) (cBs_len hn3) (cBs_len hn4) rfl) rfl).symm))
theorem zTG_o25 {a0 : Value} {a1 : Value} {a2 : Value} {a3 : List UInt8} {a4 : List UInt8} (qa0 : a0.oneCell' = true) (qa1 : a1.oneCell' = true) (qa2 : a2.oneCell' = true) : ∀ u ∈ (([a0, a1, a2] : List Value) ++ (cBs a3 ++ cBs a4)), u.oneCell' = true := (ones_app (ones_cons qa0 (ones_cons qa1 (ones_cons qa2 ones_nil))) (ones_app (cBs_one _) (cBs_one _)))
theorem zTG_y26 {a0 : Value} {a1 : Value} {a2 : Value} {a3 : Value} {a4 : Value} {a5 : Value} {a6 : List UInt8} (ha6 : a6.length = 32) {a7 : List UInt8} (ha7 : a7.length = 32) {a8 : Value} {a9 : List UInt8} (ha9 : a9.length = 32) {a10 : Value} {a11 : List UInt8} (_ : a11.length = 32) {a12 : Value} {a13 : Value} {a14 : List UInt8} (_ : a14.length = 32) {a15 : Value} {a16 : Value} {a17 : Value} {a18 : Value} {a19 : List UInt8} (_ : a19.length = 32) {a20 : List UInt8} (_ : a20.length = 32) {a21 : Value} {n0 : Value} {n1 : List UInt8} (hn1 : n1.length = 32) : lay (([a0, a1, a2, a3, a4, a5] : List Value) ++ (cBs a6 ++ (cBs a7 ++ (([a8] : List Value) ++ (cBs a9 ++ (([a10] : List Value) ++ (cBs a11 ++ (([a12, a13] : List Value) ++ (cBs a14 ++ (([a15, a16, a17, a18] : List Value) ++ (cBs a19 ++ (cBs a20 ++ ([a21] : List Value))))))))))))) 70 (([n0] : List Value) ++ cBs n1) = ([a0, a1, a2, a3, a4, a5] : List Value) ++ (cBs a6 ++ (cBs a7 ++ (([n0] : List Value) ++ (cBs n1 ++ (([a10] : List Value) ++ (cBs a11 ++ (([a12, a13] : List Value) ++ (cBs a14 ++ (([a15, a16, a17, a18] : List Value) ++ (cBs a19 ++ (cBs a20 ++ ([a21] : List Value)))))))))))) := (lay_of (cur := ([a0, a1, a2, a3, a4, a5] : List Value) ++ (cBs a6 ++ (cBs a7 ++ (([a8] : List Value) ++ (cBs a9 ++ (([a10] : List Value) ++ (cBs a11 ++ (([a12, a13] : List Value) ++ (cBs a14 ++ (([a15, a16, a17, a18] : List Value) ++ (cBs a19 ++ (cBs a20 ++ ([a21] : List Value))))))))))))) (cs := ([n0] : List Value) ++ cBs n1) (cur' := ([a0, a1, a2, a3, a4, a5] : List Value) ++ (cBs a6 ++ (cBs a7 ++ (([n0] : List Value) ++ (cBs n1 ++ (([a10] : List Value) ++ (cBs a11 ++ (([a12, a13] : List Value) ++ (cBs a14 ++ (([a15, a16, a17, a18] : List Value) ++ (cBs a19 ++ (cBs a20 ++ ([a21] : List Value))))))))))))) (A := (([a0, a1, a2, a3, a4, a5] : List Value) ++ (cBs a6 ++ cBs a7) : List Value)) (D := (([a8] : List Value) ++ cBs a9 : List Value)) (C := (([a10] : List Value) ++ (cBs a11 ++ (([a12, a13] : List Value) ++ (cBs a14 ++ (([a15, a16, a17, a18] : List Value) ++ (cBs a19 ++ (cBs a20 ++ ([a21] : List Value))))))) : List Value)) (by simp) (by simp) (len_app (m := 6) (n := 64) (k := 70) rfl (len_app (m := 32) (n := 32) (k := 64) (cBs_len ha6) (cBs_len ha7) rfl) rfl) ((len_app (m := 1) (n := 32) (k := 33) rfl (cBs_len ha9) rfl).trans (len_app (m := 1) (n := 32) (k := 33) rfl (cBs_len hn1) rfl).symm))
theorem zTG_y27 {a0 : Value} {a1 : Value} {a2 : Value} {a3 : Value} {a4 : Value} {a5 : Value} {a6 : List UInt8} (ha6 : a6.length = 32) {a7 : List UInt8} (ha7 : a7.length = 32) {a8 : Value} {a9 : List UInt8} (ha9 : a9.length = 32) {a10 : Value} {a11 : List UInt8} (_ : a11.length = 32) {a12 : Value} {a13 : Value} {a14 : List UInt8} (_ : a14.length = 32) {a15 : Value} {a16 : Value} {a17 : Value} {a18 : Value} {a19 : List UInt8} (_ : a19.length = 32) {a20 : List UInt8} (_ : a20.length = 32) {a21 : Value} {n0 : Value} : lay (([a0, a1, a2, a3, a4, a5] : List Value) ++ (cBs a6 ++ (cBs a7 ++ (([a8] : List Value) ++ (cBs a9 ++ (([a10] : List Value) ++ (cBs a11 ++ (([a12, a13] : List Value) ++ (cBs a14 ++ (([a15, a16, a17, a18] : List Value) ++ (cBs a19 ++ (cBs a20 ++ ([a21] : List Value))))))))))))) 103 ([n0]) = ([a0, a1, a2, a3, a4, a5] : List Value) ++ (cBs a6 ++ (cBs a7 ++ (([a8] : List Value) ++ (cBs a9 ++ (([n0] : List Value) ++ (cBs a11 ++ (([a12, a13] : List Value) ++ (cBs a14 ++ (([a15, a16, a17, a18] : List Value) ++ (cBs a19 ++ (cBs a20 ++ ([a21] : List Value)))))))))))) := (lay_of (cur := ([a0, a1, a2, a3, a4, a5] : List Value) ++ (cBs a6 ++ (cBs a7 ++ (([a8] : List Value) ++ (cBs a9 ++ (([a10] : List Value) ++ (cBs a11 ++ (([a12, a13] : List Value) ++ (cBs a14 ++ (([a15, a16, a17, a18] : List Value) ++ (cBs a19 ++ (cBs a20 ++ ([a21] : List Value))))))))))))) (cs := [n0]) (cur' := ([a0, a1, a2, a3, a4, a5] : List Value) ++ (cBs a6 ++ (cBs a7 ++ (([a8] : List Value) ++ (cBs a9 ++ (([n0] : List Value) ++ (cBs a11 ++ (([a12, a13] : List Value) ++ (cBs a14 ++ (([a15, a16, a17, a18] : List Value) ++ (cBs a19 ++ (cBs a20 ++ ([a21] : List Value))))))))))))) (A := (([a0, a1, a2, a3, a4, a5] : List Value) ++ (cBs a6 ++ (cBs a7 ++ (([a8] : List Value) ++ cBs a9))) : List Value)) (D := ([a10] : List Value)) (C := (cBs a11 ++ (([a12, a13] : List Value) ++ (cBs a14 ++ (([a15, a16, a17, a18] : List Value) ++ (cBs a19 ++ (cBs a20 ++ ([a21] : List Value)))))) : List Value)) (by simp) (by simp) (len_app (m := 6) (n := 97) (k := 103) rfl (len_app (m := 32) (n := 65) (k := 97) (cBs_len ha6) (len_app (m := 32) (n := 33) (k := 65) (cBs_len ha7) (len_app (m := 1) (n := 32) (k := 33) rfl (cBs_len ha9) rfl) rfl) rfl) rfl) ((show List.length [a10] = 1 from rfl).trans (show List.length [n0] = 1 from rfl).symm))
theorem zTG_y28 {a0 : Value} {a1 : Value} {a2 : Value} {a3 : Value} {a4 : Value} {a5 : Value} {a6 : List UInt8} (ha6 : a6.length = 32) {a7 : List UInt8} (ha7 : a7.length = 32) {a8 : Value} {a9 : List UInt8} (ha9 : a9.length = 32) {a10 : Value} {a11 : List UInt8} (ha11 : a11.length = 32) {a12 : Value} {a13 : Value} {a14 : List UInt8} (_ : a14.length = 32) {a15 : Value} {a16 : Value} {a17 : Value} {a18 : Value} {a19 : List UInt8} (_ : a19.length = 32) {a20 : List UInt8} (_ : a20.length = 32) {a21 : Value} {n0 : List UInt8} (hn0 : n0.length = 32) : lay (([a0, a1, a2, a3, a4, a5] : List Value) ++ (cBs a6 ++ (cBs a7 ++ (([a8] : List Value) ++ (cBs a9 ++ (([a10] : List Value) ++ (cBs a11 ++ (([a12, a13] : List Value) ++ (cBs a14 ++ (([a15, a16, a17, a18] : List Value) ++ (cBs a19 ++ (cBs a20 ++ ([a21] : List Value))))))))))))) 104 (cBs n0) = ([a0, a1, a2, a3, a4, a5] : List Value) ++ (cBs a6 ++ (cBs a7 ++ (([a8] : List Value) ++ (cBs a9 ++ (([a10] : List Value) ++ (cBs n0 ++ (([a12, a13] : List Value) ++ (cBs a14 ++ (([a15, a16, a17, a18] : List Value) ++ (cBs a19 ++ (cBs a20 ++ ([a21] : List Value)))))))))))) := (lay_of (cur := ([a0, a1, a2, a3, a4, a5] : List Value) ++ (cBs a6 ++ (cBs a7 ++ (([a8] : List Value) ++ (cBs a9 ++ (([a10] : List Value) ++ (cBs a11 ++ (([a12, a13] : List Value) ++ (cBs a14 ++ (([a15, a16, a17, a18] : List Value) ++ (cBs a19 ++ (cBs a20 ++ ([a21] : List Value))))))))))))) (cs := cBs n0) (cur' := ([a0, a1, a2, a3, a4, a5] : List Value) ++ (cBs a6 ++ (cBs a7 ++ (([a8] : List Value) ++ (cBs a9 ++ (([a10] : List Value) ++ (cBs n0 ++ (([a12, a13] : List Value) ++ (cBs a14 ++ (([a15, a16, a17, a18] : List Value) ++ (cBs a19 ++ (cBs a20 ++ ([a21] : List Value))))))))))))) (A := (([a0, a1, a2, a3, a4, a5] : List Value) ++ (cBs a6 ++ (cBs a7 ++ (([a8] : List Value) ++ (cBs a9 ++ ([a10] : List Value))))) : List Value)) (D := (cBs a11 : List Value)) (C := (([a12, a13] : List Value) ++ (cBs a14 ++ (([a15, a16, a17, a18] : List Value) ++ (cBs a19 ++ (cBs a20 ++ ([a21] : List Value))))) : List Value)) (by simp) (by simp) (len_app (m := 6) (n := 98) (k := 104) rfl (len_app (m := 32) (n := 66) (k := 98) (cBs_len ha6) (len_app (m := 32) (n := 34) (k := 66) (cBs_len ha7) (len_app (m := 1) (n := 33) (k := 34) rfl (len_app (m := 32) (n := 1) (k := 33) (cBs_len ha9) rfl rfl) rfl) rfl) rfl) rfl) ((cBs_len ha11).trans (cBs_len hn0).symm))
theorem zTG_y29 {a0 : Value} {a1 : Value} {a2 : Value} {a3 : Value} {a4 : Value} {a5 : Value} {a6 : List UInt8} (ha6 : a6.length = 32) {a7 : List UInt8} (ha7 : a7.length = 32) {a8 : Value} {a9 : List UInt8} (ha9 : a9.length = 32) {a10 : Value} {a11 : List UInt8} (ha11 : a11.length = 32) {a12 : Value} {a13 : Value} {a14 : List UInt8} (ha14 : a14.length = 32) {a15 : Value} {a16 : Value} {a17 : Value} {a18 : Value} {a19 : List UInt8} (_ : a19.length = 32) {a20 : List UInt8} (_ : a20.length = 32) {a21 : Value} {n0 : Value} {n1 : Value} {n2 : List UInt8} (hn2 : n2.length = 32) {n3 : Value} : lay (([a0, a1, a2, a3, a4, a5] : List Value) ++ (cBs a6 ++ (cBs a7 ++ (([a8] : List Value) ++ (cBs a9 ++ (([a10] : List Value) ++ (cBs a11 ++ (([a12, a13] : List Value) ++ (cBs a14 ++ (([a15, a16, a17, a18] : List Value) ++ (cBs a19 ++ (cBs a20 ++ ([a21] : List Value))))))))))))) 136 (([n0, n1] : List Value) ++ (cBs n2 ++ ([n3] : List Value))) = ([a0, a1, a2, a3, a4, a5] : List Value) ++ (cBs a6 ++ (cBs a7 ++ (([a8] : List Value) ++ (cBs a9 ++ (([a10] : List Value) ++ (cBs a11 ++ (([n0, n1] : List Value) ++ (cBs n2 ++ (([n3, a16, a17, a18] : List Value) ++ (cBs a19 ++ (cBs a20 ++ ([a21] : List Value)))))))))))) := (lay_of (cur := ([a0, a1, a2, a3, a4, a5] : List Value) ++ (cBs a6 ++ (cBs a7 ++ (([a8] : List Value) ++ (cBs a9 ++ (([a10] : List Value) ++ (cBs a11 ++ (([a12, a13] : List Value) ++ (cBs a14 ++ (([a15, a16, a17, a18] : List Value) ++ (cBs a19 ++ (cBs a20 ++ ([a21] : List Value))))))))))))) (cs := ([n0, n1] : List Value) ++ (cBs n2 ++ ([n3] : List Value))) (cur' := ([a0, a1, a2, a3, a4, a5] : List Value) ++ (cBs a6 ++ (cBs a7 ++ (([a8] : List Value) ++ (cBs a9 ++ (([a10] : List Value) ++ (cBs a11 ++ (([n0, n1] : List Value) ++ (cBs n2 ++ (([n3, a16, a17, a18] : List Value) ++ (cBs a19 ++ (cBs a20 ++ ([a21] : List Value))))))))))))) (A := (([a0, a1, a2, a3, a4, a5] : List Value) ++ (cBs a6 ++ (cBs a7 ++ (([a8] : List Value) ++ (cBs a9 ++ (([a10] : List Value) ++ cBs a11))))) : List Value)) (D := (([a12, a13] : List Value) ++ (cBs a14 ++ ([a15] : List Value)) : List Value)) (C := (([a16, a17, a18] : List Value) ++ (cBs a19 ++ (cBs a20 ++ ([a21] : List Value))) : List Value)) (by simp) (by simp) (len_app (m := 6) (n := 130) (k := 136) rfl (len_app (m := 32) (n := 98) (k := 130) (cBs_len ha6) (len_app (m := 32) (n := 66) (k := 98) (cBs_len ha7) (len_app (m := 1) (n := 65) (k := 66) rfl (len_app (m := 32) (n := 33) (k := 65) (cBs_len ha9) (len_app (m := 1) (n := 32) (k := 33) rfl (cBs_len ha11) rfl) rfl) rfl) rfl) rfl) rfl) ((len_app (m := 2) (n := 33) (k := 35) rfl (len_app (m := 32) (n := 1) (k := 33) (cBs_len ha14) rfl rfl) rfl).trans (len_app (m := 2) (n := 33) (k := 35) rfl (len_app (m := 32) (n := 1) (k := 33) (cBs_len hn2) rfl rfl) rfl).symm))
theorem zTG_y30 {a0 : Value} {a1 : Value} {a2 : Value} {a3 : Value} {a4 : Value} {a5 : Value} {a6 : List UInt8} (ha6 : a6.length = 32) {a7 : List UInt8} (ha7 : a7.length = 32) {a8 : Value} {a9 : List UInt8} (ha9 : a9.length = 32) {a10 : Value} {a11 : List UInt8} (ha11 : a11.length = 32) {a12 : Value} {a13 : Value} {a14 : List UInt8} (ha14 : a14.length = 32) {a15 : Value} {a16 : Value} {a17 : Value} {a18 : Value} {a19 : List UInt8} (ha19 : a19.length = 32) {a20 : List UInt8} (ha20 : a20.length = 32) {a21 : Value} {n0 : Value} {n1 : Value} {n2 : Value} {n3 : List UInt8} (hn3 : n3.length = 32) {n4 : List UInt8} (hn4 : n4.length = 32) {n5 : Value} : lay (([a0, a1, a2, a3, a4, a5] : List Value) ++ (cBs a6 ++ (cBs a7 ++ (([a8] : List Value) ++ (cBs a9 ++ (([a10] : List Value) ++ (cBs a11 ++ (([a12, a13] : List Value) ++ (cBs a14 ++ (([a15, a16, a17, a18] : List Value) ++ (cBs a19 ++ (cBs a20 ++ ([a21] : List Value))))))))))))) 171 (([n0, n1, n2] : List Value) ++ (cBs n3 ++ (cBs n4 ++ ([n5] : List Value)))) = ([a0, a1, a2, a3, a4, a5] : List Value) ++ (cBs a6 ++ (cBs a7 ++ (([a8] : List Value) ++ (cBs a9 ++ (([a10] : List Value) ++ (cBs a11 ++ (([a12, a13] : List Value) ++ (cBs a14 ++ (([a15, n0, n1, n2] : List Value) ++ (cBs n3 ++ (cBs n4 ++ ([n5] : List Value)))))))))))) := (lay_of (cur := ([a0, a1, a2, a3, a4, a5] : List Value) ++ (cBs a6 ++ (cBs a7 ++ (([a8] : List Value) ++ (cBs a9 ++ (([a10] : List Value) ++ (cBs a11 ++ (([a12, a13] : List Value) ++ (cBs a14 ++ (([a15, a16, a17, a18] : List Value) ++ (cBs a19 ++ (cBs a20 ++ ([a21] : List Value))))))))))))) (cs := ([n0, n1, n2] : List Value) ++ (cBs n3 ++ (cBs n4 ++ ([n5] : List Value)))) (cur' := ([a0, a1, a2, a3, a4, a5] : List Value) ++ (cBs a6 ++ (cBs a7 ++ (([a8] : List Value) ++ (cBs a9 ++ (([a10] : List Value) ++ (cBs a11 ++ (([a12, a13] : List Value) ++ (cBs a14 ++ (([a15, n0, n1, n2] : List Value) ++ (cBs n3 ++ (cBs n4 ++ ([n5] : List Value))))))))))))) (A := (([a0, a1, a2, a3, a4, a5] : List Value) ++ (cBs a6 ++ (cBs a7 ++ (([a8] : List Value) ++ (cBs a9 ++ (([a10] : List Value) ++ (cBs a11 ++ (([a12, a13] : List Value) ++ (cBs a14 ++ ([a15] : List Value))))))))) : List Value)) (D := (([a16, a17, a18] : List Value) ++ (cBs a19 ++ (cBs a20 ++ ([a21] : List Value))) : List Value)) (C := ([] : List Value)) (by simp) (by simp) (len_app (m := 6) (n := 165) (k := 171) rfl (len_app (m := 32) (n := 133) (k := 165) (cBs_len ha6) (len_app (m := 32) (n := 101) (k := 133) (cBs_len ha7) (len_app (m := 1) (n := 100) (k := 101) rfl (len_app (m := 32) (n := 68) (k := 100) (cBs_len ha9) (len_app (m := 1) (n := 67) (k := 68) rfl (len_app (m := 32) (n := 35) (k := 67) (cBs_len ha11) (len_app (m := 2) (n := 33) (k := 35) rfl (len_app (m := 32) (n := 1) (k := 33) (cBs_len ha14) rfl rfl) rfl) rfl) rfl) rfl) rfl) rfl) rfl) rfl) ((len_app (m := 3) (n := 65) (k := 68) rfl (len_app (m := 32) (n := 33) (k := 65) (cBs_len ha19) (len_app (m := 32) (n := 1) (k := 33) (cBs_len ha20) rfl rfl) rfl) rfl).trans (len_app (m := 3) (n := 65) (k := 68) rfl (len_app (m := 32) (n := 33) (k := 65) (cBs_len hn3) (len_app (m := 32) (n := 1) (k := 33) (cBs_len hn4) rfl rfl) rfl) rfl).symm))
theorem zTG_l31 {a0 : Value} {a1 : Value} {a2 : Value} {a3 : List UInt8} (ha3 : a3.length = 32) {a4 : List UInt8} (ha4 : a4.length = 32) {a5 : Value} : List.length (([a0, a1, a2] : List Value) ++ (cBs a3 ++ (cBs a4 ++ ([a5] : List Value)))) = 68 := (len_app (m := 3) (n := 65) (k := 68) rfl (len_app (m := 32) (n := 33) (k := 65) (cBs_len ha3) (len_app (m := 32) (n := 1) (k := 33) (cBs_len ha4) rfl rfl) rfl) rfl)
theorem zTG_o32 {a0 : Value} {a1 : Value} {a2 : Value} {a3 : List UInt8} {a4 : List UInt8} {a5 : Value} (qa0 : a0.oneCell' = true) (qa1 : a1.oneCell' = true) (qa2 : a2.oneCell' = true) (qa5 : a5.oneCell' = true) : ∀ u ∈ (([a0, a1, a2] : List Value) ++ (cBs a3 ++ (cBs a4 ++ ([a5] : List Value)))), u.oneCell' = true := (ones_app (ones_cons qa0 (ones_cons qa1 (ones_cons qa2 ones_nil))) (ones_app (cBs_one _) (ones_app (cBs_one _) (ones_cons qa5 ones_nil))))
set_option maxRecDepth 100000 in
set_option maxHeartbeats 4000000 in
theorem sign_calls {g : Nat} {v0 : Value} {r : List UInt8} {e : Int} (w : World) (he0 : EyeAt w g v0 r e) (hne : v0.ownBlock ≠ some g) (hv0 : ∀ k, v0.ownBlock = some k → k < w.heap.size) :
    Calls Try.prog 63 #[.pointer (some ⟨g, 0, none⟩)] w fun e'' w' => e'' = .returned (.agg (([.int .i64 ((uptoV r e 255 : Nat) : Int)] : List Value) ++ cBs (sumV (numR r e) (uptoE r e 255))).toArray) ∧ EyeAt w' g v0 (rawR (numR r e) (uptoE r e 255) 32) (rawE (numR r e) (uptoE r e 255) 32) ∧ Chg (· = g) w w' := by
  refine calls_fr (args := [.pointer (some ⟨g, 0, none⟩)]) (n := 8) Try.func63 rfl rfl (show 1 ≤ 8 by decide) ?_
  have hv : ∀ k, v0.ownBlock = some k → ¬ newK w (· = g) k := fun k hk hN => hN.elim (fun h => by have := hv0 k hk; omega) (fun h => hne (h ▸ hk))
  have hH : Heap (newK w (· = g)) w w [oEye g v0 r e] := Heap.startEye he0 hv
  refine wp_seq ?_
  refine wp_gen (fun F' => F' 0 = .pointer (some ⟨g, 0, none⟩)) rfl ?_
  rintro F e0
  refine wp_regionF ?_
  refine lf_ex (wantAll rfl) (hx_alloc hH 77 (z := .agg (([.int .i64 0] : List Value) ++ cBs (List.replicate 32 0)).toArray) (n := 33) (cs := ([.int .i64 0] : List Value) ++ cBs (List.replicate 32 0)) rfl (by kernel_rfl) (by rfl)) ?_
  clear hH
  rintro _ w1 ⟨g1, rfl, hH, hx⟩
  replace hH : Heap _ _ _ [_, _] := hH
  clear hx
  refine lf_nil ?_
  refine then_n ?_
  refine wp_seq ?_
  refine wp_gen (fun F' => F' 0 = .pointer (some ⟨g, 0, none⟩) ∧ F' 2 = .pointer (some ⟨g1, 0, none⟩)) ⟨e0, rfl⟩ ?_
  clear e0
  clear F
  rintro F ⟨e0, e2⟩
  refine wp_regionF ?_
  refine lf_val (v := .pointer (some ⟨g, 0, none⟩)) (wantAll rfl) (rv_move rfl (fr_eval rfl e0)) ?_
  refine lf_call (wantAll rfl) (rv_call (args := [.pointer (some ⟨g, 0, none⟩), .int .i64 255]) rfl (evc (fr_eval rfl rfl) (evc rfl evn)) Try.call16) (upto_calls 255 _ (hH.eye (i := 0) rfl) (eye_ne hH (i := 0) rfl hv)) ?_
  rintro _ w2 ⟨rfl, hy, hxf⟩
  refine ⟨_, rfl, ?_⟩
  replace hH : Heap _ _ _ [_, _] := hH.setEye (i := 0) rfl rfl hv hy hxf
  clear hy
  clear hxf
  refine lf_val (v := .pointer (some ⟨g, 0, none⟩)) (wantAll rfl) (rv_move rfl (fr_eval rfl e0)) ?_
  refine lf_call (wantAll rfl) (rv_call (args := [.pointer (some ⟨g, 0, none⟩)]) rfl (evc (fr_eval rfl rfl) evn) Try.call30) (sumE_calls  _ (hH.eye (i := 0) rfl) (eye_ne hH (i := 0) rfl hv) (eye_lt hH.up hH.size hv)) ?_
  rintro _ w3 ⟨rfl, hy, hxf⟩
  refine ⟨_, rfl, ?_⟩
  replace hH : Heap _ _ _ [_, _] := hH.setEye (i := 0) rfl rfl hv hy hxf
  clear hy
  clear hxf
  refine lf_val (wantAll rfl) (rv_buildS (ps := [(0, (.tmp 4)), (1, (.tmp 6))]) (places := #[(0, 1), (1, 32)]) (z := .agg (([.int .i64 0] : List Value) ++ cBs (List.replicate 32 0)).toArray) (zc := ([.int .i64 0] : List Value) ++ cBs (List.replicate 32 0)) (cs := ([.int .i64 ((uptoV r e 255 : Nat) : Int)] : List Value) ++ cBs (sumV (numR r e) (uptoE r e 255))) rfl (evpc (fr_eval rfl rfl) (evpc (fr_eval rfl rfl) evpn)) (by kernel_rfl) rfl Try.underlying77 (fun _ => by kernel_rfl) (fillM (cells' := _) (cs := [.int .i64 ((uptoV r e 255 : Nat) : Int)]) (off := 0) (n := 1) rfl (cells_one rfl) (show List.length [.int .i64 ((uptoV r e 255 : Nat) : Int)] = 1 from rfl) (le_of_len2 (zTG_l0 (List.length_replicate ..)) (by decide)) (zTG_y1 (List.length_replicate ..)) (fillM (cells' := _) (cs := cBs (sumV (numR r e) (uptoE r e 255))) (off := 1) (n := 32) rfl (cells_agg _) (cBs_len sumV_len) (le_of_len2 (zTG_l0 (List.length_replicate ..)) (by decide)) (zTG_y2 (List.length_replicate ..) sumV_len) fill0))) ?_
  refine lf_sk (wantAll rfl) (hx_storeW hH (i := 1) (cs := ([.int .i64 ((uptoV r e 255 : Nat) : Int)] : List Value) ++ cBs (sumV (numR r e) (uptoE r e 255))) rfl rfl rfl (fr_eval rfl e2) (fr_eval rfl rfl) (sz_len Try.sz77 (zTG_l0 sumV_len)) (((zTG_l0 (List.length_replicate ..))).trans ((zTG_l0 sumV_len)).symm) (zTG_o3 rfl)) ?_
  clear hH
  rintro w4 ⟨hH, hx⟩
  replace hH : Heap _ _ _ [_, _] := hH
  clear hx
  refine lf_nil ?_
  refine then_n ?_
  refine wp_gen (fun F' => F' 0 = .pointer (some ⟨g, 0, none⟩) ∧ F' 2 = .pointer (some ⟨g1, 0, none⟩)) ⟨e0, e2⟩ ?_
  clear e0 e2
  clear F
  rintro F ⟨e0, e2⟩
  refine wp_ret ?_
  exact bodyPost_ret (res1 rfl (ro_cell rfl e2 (hH.blk (i := 1) rfl) Try.underlying77 rfl (sz_len Try.sz77 (zTG_l0 sumV_len)))) rfl (⟨rfl, hH.eye (i := 0) rfl, hH.doneK⟩)

set_option maxRecDepth 100000 in
set_option maxHeartbeats 4000000 in
theorem jobGet_calls (b : List UInt8) (hb : b.length ≤ 100000000) (v : Value) (w : World) (hr0 : RdB w v b) :
    Calls Try.prog 64 #[v] w fun e'' w' => (∃ (c s : Int) (h : S32) (bl : List UInt8) (v' : Value) (e : Int), e'' = .returned (.tuple #[.agg (([.int .i64 c, .int .i64 s] : List Value) ++ (cBs h.1 ++ ([v'] : List Value))).toArray, .int .i64 e]) ∧ JobOk b c s h bl e ∧ OwnB w' v' bl ∧ ∀ k, v'.ownBlock = some k → w.heap.size ≤ k) ∧ Ext w w' := by
  refine calls_fr (args := [v]) (n := 26) Try.func64 rfl rfl (show 1 ≤ 26 by decide) ?_
  have hr := Rd.stab hr0
  have hH : Heap (newN w) w w [] := Heap.fresh
  refine wp_seq ?_
  refine wp_gen (fun F' => F' 0 = v) rfl ?_
  rintro F e0
  refine wp_regionF ?_
  refine lf_ex (wantAll rfl) (hx_alloc hH 79 (z := .agg (([.int .i64 0, .int .i64 0] : List Value) ++ (cBs (List.replicate 32 0) ++ ([.slice none 0 0] : List Value))).toArray) (n := 35) (cs := ([.int .i64 0, .int .i64 0] : List Value) ++ (cBs (List.replicate 32 0) ++ ([.slice none 0 0] : List Value))) rfl (by kernel_rfl) (by rfl)) ?_
  clear hH
  rintro _ w1 ⟨g1, rfl, hH, hx⟩
  replace hH : Heap _ _ _ [_] := hH
  clear hx
  refine lf_val (v := .int .i64 0) (wantAll rfl) (rv_assign rfl rfl) ?_
  refine lf_nil ?_
  refine then_n ?_
  refine wp_seq ?_
  refine wp_gen (fun F' => F' 0 = v ∧ F' 2 = .pointer (some ⟨g1, 0, none⟩) ∧ F' 3 = .int .i64 0) ⟨e0, rfl, rfl⟩ ?_
  clear e0
  clear F
  rintro F ⟨e0, e2, e3⟩
  refine wp_regionF ?_
  refine lf_val (v := v) (wantAll rfl) (rv_move rfl (fr_eval rfl e0)) ?_
  refine lf_call (wantAll rfl) (rv_call (args := [v]) rfl (evc (fr_eval rfl rfl) evn) Try.call14) (look_calls (show List.length b ≤ 100000000 from (by omega)) _ (hr.rd _ hH.chg)) ?_
  rintro _ w2 ⟨⟨g2, z1, rfl, hy, hge, hst⟩, hx⟩
  refine ⟨_, rfl, ?_⟩
  have hv_g2 : ∀ k, z1.ownBlock = some k → ¬ (newN w) k := fun k hk => hr.out _ (hst k hk).2.2 (by have := (hst k hk).2.1; simpa using this)
  replace hH : Heap _ _ _ [_, _] := hH.addEye hx hge hv_g2 hy
  clear hst hge hy
  clear hx
  refine lf_val (v := .pointer (some ⟨g2, 0, none⟩)) (wantAll rfl) (rv_assign rfl (fr_eval rfl rfl)) ?_
  refine lf_nil ?_
  refine then_n ?_
  refine wp_seq ?_
  refine wp_gen (fun F' => F' 0 = v ∧ F' 2 = .pointer (some ⟨g1, 0, none⟩) ∧ F' 3 = .int .i64 0 ∧ F' 4 = .pointer (some ⟨g2, 0, none⟩)) ⟨e0, e2, e3, rfl⟩ ?_
  clear e0 e2 e3
  clear F
  rintro F ⟨e0, e2, e3, e4⟩
  refine wp_regionF ?_
  refine lf_val (v := .pointer (some ⟨g2, 0, none⟩)) (wantAll rfl) (rv_move rfl (fr_eval rfl e4)) ?_
  refine lf_call (wantAll rfl) (rv_call (args := [.pointer (some ⟨g2, 0, none⟩), .int .i64 1048576]) rfl (evc (fr_eval rfl rfl) (evc rfl evn)) Try.call16) (upto_calls 1048576 _ (hH.eye (i := 1) rfl) (eye_ne hH (i := 1) rfl hv_g2)) ?_
  rintro _ w3 ⟨rfl, hy, hxf⟩
  refine ⟨_, rfl, ?_⟩
  replace hH : Heap _ _ _ [_, _] := hH.setEye (i := 1) rfl rfl hv_g2 hy hxf
  clear hy
  clear hxf
  obtain ⟨R1, hR1⟩ : ∃ q : List UInt8, q = (numR b 0) := ⟨_, rfl⟩
  obtain ⟨K1, hK1⟩ : ∃ q : Int, q = (uptoE b 0 1048576) := ⟨_, rfl⟩
  rw [← hR1, ← hK1] at hH
  refine lf_val (v := .pointer (some ⟨g2, 0, none⟩)) (wantAll rfl) (rv_move rfl (fr_eval rfl e4)) ?_
  refine lf_call (wantAll rfl) (rv_call (args := [.pointer (some ⟨g2, 0, none⟩), .int .i64 1048576]) rfl (evc (fr_eval rfl rfl) (evc rfl evn)) Try.call16) (upto_calls 1048576 _ (hH.eye (i := 1) rfl) (eye_ne hH (i := 1) rfl hv_g2)) ?_
  rintro _ w4 ⟨rfl, hy, hxf⟩
  refine ⟨_, rfl, ?_⟩
  replace hH : Heap _ _ _ [_, _] := hH.setEye (i := 1) rfl rfl hv_g2 hy hxf
  clear hy
  clear hxf
  obtain ⟨R2, hR2⟩ : ∃ q : List UInt8, q = (numR R1 K1) := ⟨_, rfl⟩
  obtain ⟨K2, hK2⟩ : ∃ q : Int, q = (uptoE R1 K1 1048576) := ⟨_, rfl⟩
  rw [← hR2, ← hK2] at hH
  refine lf_val (v := .pointer (some ⟨g2, 0, none⟩)) (wantAll rfl) (rv_move rfl (fr_eval rfl e4)) ?_
  refine lf_call (wantAll rfl) (rv_call (args := [.pointer (some ⟨g2, 0, none⟩)]) rfl (evc (fr_eval rfl rfl) evn) Try.call30) (sumE_calls  _ (hH.eye (i := 1) rfl) (eye_ne hH (i := 1) rfl hv_g2) (eye_lt hH.up hH.size hv_g2)) ?_
  rintro _ w5 ⟨rfl, hy, hxf⟩
  refine ⟨_, rfl, ?_⟩
  replace hH : Heap _ _ _ [_, _] := hH.setEye (i := 1) rfl rfl hv_g2 hy hxf
  clear hy
  clear hxf
  obtain ⟨R3, hR3⟩ : ∃ q : List UInt8, q = (rawR R2 K2 32) := ⟨_, rfl⟩
  obtain ⟨K3, hK3⟩ : ∃ q : Int, q = (rawE R2 K2 32) := ⟨_, rfl⟩
  rw [← hR3, ← hK3] at hH
  refine lf_val (wantAll rfl) (rv_buildS (ps := [(0, (.tmp 10)), (1, (.tmp 12)), (2, (.tmp 14))]) (places := #[(0, 1), (1, 1), (2, 32), (34, 1)]) (z := .agg (([.int .i64 0, .int .i64 0] : List Value) ++ (cBs (List.replicate 32 0) ++ ([.slice none 0 0] : List Value))).toArray) (zc := ([.int .i64 0, .int .i64 0] : List Value) ++ (cBs (List.replicate 32 0) ++ ([.slice none 0 0] : List Value))) (cs := ([.int .i64 ((uptoV b 0 1048576 : Nat) : Int), .int .i64 ((uptoV R1 K1 1048576 : Nat) : Int)] : List Value) ++ (cBs (sumV R2 K2) ++ ([.slice none 0 0] : List Value))) rfl (evpc (fr_eval rfl rfl) (evpc (fr_eval rfl rfl) (evpc (fr_eval rfl rfl) evpn))) (by kernel_rfl) rfl Try.underlying79 (fun _ => by kernel_rfl) (fillM (cells' := _) (cs := [.int .i64 ((uptoV b 0 1048576 : Nat) : Int)]) (off := 0) (n := 1) rfl (cells_one rfl) (show List.length [.int .i64 ((uptoV b 0 1048576 : Nat) : Int)] = 1 from rfl) (le_of_len2 (zTG_l4 (List.length_replicate ..)) (by decide)) (zTG_y5 (List.length_replicate ..)) (fillM (cells' := _) (cs := [.int .i64 ((uptoV R1 K1 1048576 : Nat) : Int)]) (off := 1) (n := 1) rfl (cells_one rfl) (show List.length [.int .i64 ((uptoV R1 K1 1048576 : Nat) : Int)] = 1 from rfl) (le_of_len2 (zTG_l4 (List.length_replicate ..)) (by decide)) (zTG_y6 (List.length_replicate ..)) (fillM (cells' := _) (cs := cBs (sumV R2 K2)) (off := 2) (n := 32) rfl (cells_agg _) (cBs_len sumV_len) (le_of_len2 (zTG_l4 (List.length_replicate ..)) (by decide)) (zTG_y7 (List.length_replicate ..) sumV_len) fill0)))) ?_
  refine lf_ex (wantAll rfl) (hx_alloc hH 79 (z := .agg (([.int .i64 0, .int .i64 0] : List Value) ++ (cBs (List.replicate 32 0) ++ ([.slice none 0 0] : List Value))).toArray) (n := 35) (cs := ([.int .i64 0, .int .i64 0] : List Value) ++ (cBs (List.replicate 32 0) ++ ([.slice none 0 0] : List Value))) rfl (by kernel_rfl) (by rfl)) ?_
  clear hH
  rintro _ w6 ⟨g3, rfl, hH, hx⟩
  replace hH : Heap _ _ _ [_, _, _] := hH
  clear hx
  refine lf_sk (wantAll rfl) (hx_storeW hH (i := 2) (cs := ([.int .i64 ((uptoV b 0 1048576 : Nat) : Int), .int .i64 ((uptoV R1 K1 1048576 : Nat) : Int)] : List Value) ++ (cBs (sumV R2 K2) ++ ([.slice none 0 0] : List Value))) rfl rfl rfl (fr_eval rfl rfl) (fr_eval rfl rfl) (sz_len Try.sz79 (zTG_l4 sumV_len)) (((zTG_l4 (List.length_replicate ..))).trans ((zTG_l4 sumV_len)).symm) (zTG_o8 rfl rfl rfl)) ?_
  clear hH
  rintro w7 ⟨hH, hx⟩
  replace hH : Heap _ _ _ [_, _, _] := hH
  clear hx
  refine lf_nil ?_
  refine then_n ?_
  refine wp_seq ?_
  refine wp_gen (fun F' => F' 0 = v ∧ F' 2 = .pointer (some ⟨g1, 0, none⟩) ∧ F' 3 = .int .i64 0 ∧ F' 4 = .pointer (some ⟨g2, 0, none⟩) ∧ F' 5 = .pointer (some ⟨g3, 0, none⟩)) ⟨e0, e2, e3, e4, rfl⟩ ?_
  clear e0 e2 e3 e4
  clear F
  rintro F ⟨e0, e2, e3, e4, e5⟩
  refine wp_regionF ?_
  refine lf_val (v := .pointer (some ⟨g2, 0, none⟩)) (wantAll rfl) (rv_move rfl (fr_eval rfl e4)) ?_
  refine lf_call (wantAll rfl) (rv_call (args := [.pointer (some ⟨g2, 0, none⟩), .int .i64 65536]) rfl (evc (fr_eval rfl rfl) (evc rfl evn)) Try.call29) (textE_calls 65536 _ (hH.eye (i := 1) rfl) (eye_ne hH (i := 1) rfl hv_g2)) ?_
  rintro _ w8 ⟨⟨y1, rfl, ho, hg⟩, hy, hxf⟩
  refine ⟨_, rfl, ?_⟩
  replace hH : Heap _ _ _ [_, _, _, _] := hH.setEyeRow (i := 1) rfl rfl hv_g2 hy hxf ho hg
  clear hy ho hg
  clear hxf
  obtain ⟨R4, hR4⟩ : ∃ q : List UInt8, q = (rawR (numR R3 K3) (uptoE R3 K3 65536) ((uptoV R3 K3 65536 : Nat) : Int)) := ⟨_, rfl⟩
  obtain ⟨K4, hK4⟩ : ∃ q : Int, q = (rawE (numR R3 K3) (uptoE R3 K3 65536) ((uptoV R3 K3 65536 : Nat) : Int)) := ⟨_, rfl⟩
  rw [← hR4, ← hK4] at hH
  refine lf_val (v := .pointer (some ⟨g3, 34, none⟩)) (wantAll rfl) (rv_fieldAddr (n := 0) rfl (fr_eval rfl e5) Try.underlying79 rfl rfl (by kernel_rfl)) ?_
  refine lf_sk (wantAll rfl) (hx_storeC hH (i := 2) (j := 34) (v := y1) rfl rfl rfl (lt_of_len (zTG_l4 sumV_len) (by decide)) (set_lay (lt_of_len (zTG_l4 sumV_len) (by decide)) (zTG_y9 sumV_len)) (fr_eval rfl rfl) (fr_eval rfl rfl) Try.sz22 (Rd.oneV (OwnB.rd (hH.own (i := 3) rfl)))) ?_
  clear hH
  rintro w9 ⟨hH, hx⟩
  replace hH : Heap _ _ _ [_, _, _, _] := hH
  clear hx
  refine lf_nil ?_
  refine then_n ?_
  refine wp_seq ?_
  refine wp_seq ?_
  refine wp_gen (fun F' => F' 0 = v ∧ F' 2 = .pointer (some ⟨g1, 0, none⟩) ∧ F' 3 = .int .i64 0 ∧ F' 4 = .pointer (some ⟨g2, 0, none⟩) ∧ F' 5 = .pointer (some ⟨g3, 0, none⟩)) ⟨e0, e2, e3, e4, e5⟩ ?_
  clear e0 e2 e3 e4 e5
  clear F
  rintro F ⟨e0, e2, e3, e4, e5⟩
  refine wp_regionF ?_
  refine lf_val (v := .pointer (some ⟨g2, 0, none⟩)) (wantAll rfl) (rv_move rfl (fr_eval rfl e4)) ?_
  refine lf_call (wantAll rfl) (rv_call (args := [.pointer (some ⟨g2, 0, none⟩)]) rfl (evc (fr_eval rfl rfl) evn) Try.call22) (done_calls  _ (hH.eye (i := 1) rfl) (eye_ne hH (i := 1) rfl hv_g2)) ?_
  rintro _ w10 ⟨rfl, hy, hxf⟩
  refine ⟨_, rfl, ?_⟩
  replace hH : Heap _ _ _ [_, _, _, _] := hH.setEye (i := 1) rfl rfl hv_g2 hy hxf
  clear hy
  clear hxf
  obtain ⟨K5, hK5⟩ : ∃ q : Int, q = (doneE R4 K4) := ⟨_, rfl⟩
  rw [← hK5] at hH
  refine lf_val (v := .int .i64 (doneE R4 K4)) (wantAll rfl) (rv_assign rfl (fr_eval rfl rfl)) ?_
  refine lf_nil ?_
  refine then_n ?_
  refine wp_seq ?_
  refine wp_gen (fun F' => F' 0 = v ∧ F' 2 = .pointer (some ⟨g1, 0, none⟩) ∧ F' 3 = .int .i64 0 ∧ F' 4 = .pointer (some ⟨g2, 0, none⟩) ∧ F' 5 = .pointer (some ⟨g3, 0, none⟩) ∧ F' 6 = .int .i64 (doneE R4 K4)) ⟨e0, e2, e3, e4, e5, rfl⟩ ?_
  clear e0 e2 e3 e4 e5
  clear F
  rintro F ⟨e0, e2, e3, e4, e5, e6⟩
  refine wp_regionF ?_
  refine lf_val (v := .int .i64 (doneE R4 K4)) (wantAll rfl) (rv_move rfl (fr_eval rfl e6)) ?_
  refine lf_val (v := .bool (decide (¬ doneE R4 K4 = 0))) (wantAll rfl) (rv_neqP (p := ¬ doneE R4 K4 = 0) rfl (fr_eval rfl rfl) rfl Iff.rfl) ?_
  refine lf_nil ?_
  refine then_n ?_
  refine wp_gen (fun F' => F' 0 = v ∧ F' 2 = .pointer (some ⟨g1, 0, none⟩) ∧ F' 3 = .int .i64 0 ∧ F' 4 = .pointer (some ⟨g2, 0, none⟩) ∧ F' 5 = .pointer (some ⟨g3, 0, none⟩) ∧ F' 6 = .int .i64 (doneE R4 K4) ∧ F' 22 = .bool (decide (¬ doneE R4 K4 = 0))) ⟨e0, e2, e3, e4, e5, e6, rfl⟩ ?_
  clear e0 e2 e3 e4 e5 e6
  clear F
  rintro F ⟨e0, e2, e3, e4, e5, e6, e22⟩
  by_cases hc1 : doneE R4 K4 = 0
  · refine wp_cond_false (fr_eval rfl (e22.trans (congrArg Value.bool (decide_eq_false (not_not_intro hc1))))) ?_
    refine wp_skip ?_
    refine then_n ?_
    refine wp_seq ?_
    refine wp_regionF ?_
    refine lf_val (wantAll rfl) (rv_loadW rfl (hH.blk (i := 2) rfl) (fr_eval rfl e5) Try.underlying79 rfl (sz_len Try.sz79 (zTG_l4 sumV_len))) ?_
    refine lf_sk (wantAll rfl) (hx_storeW hH (i := 0) (cs := ([.int .i64 ((uptoV b 0 1048576 : Nat) : Int), .int .i64 ((uptoV R1 K1 1048576 : Nat) : Int)] : List Value) ++ (cBs (sumV R2 K2) ++ ([y1] : List Value))) rfl rfl rfl (fr_eval rfl e2) (fr_eval rfl rfl) (sz_len Try.sz79 (zTG_l4 sumV_len)) (((zTG_l4 (List.length_replicate ..))).trans ((zTG_l4 sumV_len)).symm) (zTG_o8 rfl rfl (Rd.oneV (OwnB.rd (hH.own (i := 3) rfl))))) ?_
    clear hH
    rintro w11 ⟨hH, hx⟩
    replace hH : Heap _ _ _ [_, _, _, _] := hH
    clear hx
    refine lf_val (v := .int .i64 0) (wantAll rfl) (rv_assign rfl rfl) ?_
    refine lf_nil ?_
    refine then_n ?_
    refine wp_gen (fun F' => F' 0 = v ∧ F' 2 = .pointer (some ⟨g1, 0, none⟩) ∧ F' 3 = .int .i64 0 ∧ F' 4 = .pointer (some ⟨g2, 0, none⟩) ∧ F' 5 = .pointer (some ⟨g3, 0, none⟩) ∧ F' 6 = .int .i64 (doneE R4 K4) ∧ F' 22 = .bool false) ⟨e0, e2, rfl, e4, e5, e6, (e22.trans (congrArg Value.bool (decide_eq_false (not_not_intro hc1))))⟩ ?_
    clear e0 e2 e3 e4 e5 e6 e22
    clear F
    rintro F ⟨e0, e2, e3, e4, e5, e6, e22⟩
    refine wp_ret ?_
    exact bodyPost_ret (res2 rfl (ro_cell rfl e2 (hH.blk (i := 0) rfl) Try.underlying79 rfl (sz_len Try.sz79 (zTG_l4 sumV_len))) (ro_tmp rfl e3)) rfl (⟨⟨_, _, _, _, _, 0, rfl, job_ok hR1 hK1 hR2 hK2 hR3 hK3 hR4 hK4 (by assumption), hH.own (i := 3) rfl, hH.ge (i := 3) rfl⟩, hH.done⟩)
  · refine wp_cond_true (fr_eval rfl (e22.trans (congrArg Value.bool (decide_eq_true hc1)))) ?_
    refine wp_seq ?_
    refine wp_regionF ?_
    refine lf_val (wantAll rfl) (rv_buildS (ps := []) (places := #[(0, 1), (1, 1), (2, 32), (34, 1)]) (z := .agg (([.int .i64 0, .int .i64 0] : List Value) ++ (cBs (List.replicate 32 0) ++ ([.slice none 0 0] : List Value))).toArray) (zc := ([.int .i64 0, .int .i64 0] : List Value) ++ (cBs (List.replicate 32 0) ++ ([.slice none 0 0] : List Value))) (cs := ([.int .i64 0, .int .i64 0] : List Value) ++ (cBs (List.replicate 32 0) ++ ([.slice none 0 0] : List Value))) rfl evpn (by kernel_rfl) rfl Try.underlying79 (fun _ => by kernel_rfl) fill0) ?_
    refine lf_val (v := .int .i64 (doneE R4 K4)) (wantAll rfl) (rv_move rfl (fr_eval rfl e6)) ?_
    refine lf_sk (wantAll rfl) (hx_storeW hH (i := 0) (cs := ([.int .i64 0, .int .i64 0] : List Value) ++ (cBs (List.replicate 32 0) ++ ([.slice none 0 0] : List Value))) rfl rfl rfl (fr_eval rfl e2) (fr_eval rfl rfl) (sz_len Try.sz79 (zTG_l4 (List.length_replicate ..))) (((zTG_l4 (List.length_replicate ..))).trans ((zTG_l4 (List.length_replicate ..))).symm) (zTG_o8 rfl rfl rfl)) ?_
    clear hH
    rintro w12 ⟨hH, hx⟩
    replace hH : Heap _ _ _ [_, _, _, _] := hH
    clear hx
    refine lf_val (v := .int .i64 (doneE R4 K4)) (wantAll rfl) (rv_assign rfl (fr_eval rfl rfl)) ?_
    refine lf_nil ?_
    refine then_n ?_
    refine wp_gen (fun F' => F' 0 = v ∧ F' 2 = .pointer (some ⟨g1, 0, none⟩) ∧ F' 3 = .int .i64 (doneE R4 K4) ∧ F' 4 = .pointer (some ⟨g2, 0, none⟩) ∧ F' 5 = .pointer (some ⟨g3, 0, none⟩) ∧ F' 6 = .int .i64 (doneE R4 K4) ∧ F' 22 = .bool true) ⟨e0, e2, rfl, e4, e5, e6, (e22.trans (congrArg Value.bool (decide_eq_true hc1)))⟩ ?_
    clear e0 e2 e3 e4 e5 e6 e22
    clear F
    rintro F ⟨e0, e2, e3, e4, e5, e6, e22⟩
    refine wp_ret ?_
    refine then_ret ?_
    exact bodyPost_ret (res2 rfl (ro_cell rfl e2 (hH.blk (i := 0) rfl) Try.underlying79 rfl (sz_len Try.sz79 (zTG_l4 (List.length_replicate ..)))) (ro_tmp rfl e3)) rfl (⟨⟨0, 0, zS, [], _, _, rfl, job_no hR1 hK1 hR2 hK2 hR3 hK3 hR4 hK4 (by assumption), OwnB.nil, ownBlock_nil⟩, hH.done⟩)

theorem _root_.Go.Bz.Wire.rawV_len {r : List UInt8} {e n : Int} : (rawV r e n).length ≤ r.length := by
  unfold rawV; split
  · rw [List.length_take]; omega
  · exact Nat.zero_le _
theorem _root_.Go.Bz.Wire.numR_len {r : List UInt8} {e : Int} : (numR r e).length ≤ r.length := by
  unfold numR; split
  · rw [List.length_drop]; omega
  · exact Nat.le_refl _

set_option maxRecDepth 100000 in
set_option maxHeartbeats 4000000 in
theorem msGet_calls (b : List UInt8) (hb : b.length ≤ 100000000) (v : Value) (w : World) (hr0 : RdB w v b) :
    Calls Try.prog 54 #[v] w fun e'' w' => ∃ (u : Ms) (bl sg : List UInt8) (vb vg : Value) (e : Int), e'' = .returned (.tuple #[.agg (([.int .i64 u.k, .int .i64 u.a, .int .i64 u.b, .int .i64 u.c0, .int .i64 u.c1, .int .i64 u.c2] : List Value) ++ (cBs u.h0.1 ++ (cBs u.h1.1 ++ (([.int .i64 u.g] : List Value) ++ (cBs u.o.1 ++ (([.int .i64 u.n] : List Value) ++ (cBs u.x.1 ++ (([.int .i64 u.jc, .int .i64 u.js] : List Value) ++ (cBs u.jh.1 ++ (([vb, .int .i64 u.r.t, .int .i64 u.r.c, .int .i64 u.r.s] : List Value) ++ (cBs u.r.h.1 ++ (cBs u.r.b.1 ++ ([vg] : List Value))))))))))))).toArray, .int .i64 e]) ∧ GetM b u bl sg e ∧ Heap (newN w) w w' [oB vb bl, oB vg sg] := by
  refine calls_fr (args := [v]) (n := 89) Try.func54 rfl rfl (show 1 ≤ 89 by decide) ?_
  have hr := Rd.stab hr0
  have hH : Heap (newN w) w w [] := Heap.fresh
  refine wp_seq ?_
  refine wp_gen (fun F' => F' 0 = v) rfl ?_
  rintro F e0
  refine wp_regionF ?_
  refine lf_ex (wantAll rfl) (hx_alloc hH 81 (z := .agg (([.int .i64 0, .int .i64 0, .int .i64 0, .int .i64 0, .int .i64 0, .int .i64 0] : List Value) ++ (cBs (List.replicate 32 0) ++ (cBs (List.replicate 32 0) ++ (([.int .i64 0] : List Value) ++ (cBs (List.replicate 32 0) ++ (([.int .i64 0] : List Value) ++ (cBs (List.replicate 32 0) ++ (([.int .i64 0, .int .i64 0] : List Value) ++ (cBs (List.replicate 32 0) ++ (([.slice none 0 0, .int .i64 0, .int .i64 0, .int .i64 0] : List Value) ++ (cBs (List.replicate 32 0) ++ (cBs (List.replicate 32 0) ++ ([.slice none 0 0] : List Value))))))))))))).toArray) (n := 239) (cs := ([.int .i64 0, .int .i64 0, .int .i64 0, .int .i64 0, .int .i64 0, .int .i64 0] : List Value) ++ (cBs (List.replicate 32 0) ++ (cBs (List.replicate 32 0) ++ (([.int .i64 0] : List Value) ++ (cBs (List.replicate 32 0) ++ (([.int .i64 0] : List Value) ++ (cBs (List.replicate 32 0) ++ (([.int .i64 0, .int .i64 0] : List Value) ++ (cBs (List.replicate 32 0) ++ (([.slice none 0 0, .int .i64 0, .int .i64 0, .int .i64 0] : List Value) ++ (cBs (List.replicate 32 0) ++ (cBs (List.replicate 32 0) ++ ([.slice none 0 0] : List Value))))))))))))) rfl (by kernel_rfl) (by rfl)) ?_
  clear hH
  rintro _ w1 ⟨g1, rfl, hH, hx⟩
  replace hH : Heap _ _ _ [_] := hH
  clear hx
  refine lf_val (v := .int .i64 0) (wantAll rfl) (rv_assign rfl rfl) ?_
  refine lf_nil ?_
  refine then_n ?_
  refine wp_seq ?_
  refine wp_gen (fun F' => F' 0 = v ∧ F' 2 = .pointer (some ⟨g1, 0, none⟩) ∧ F' 3 = .int .i64 0) ⟨e0, rfl, rfl⟩ ?_
  clear e0
  clear F
  rintro F ⟨e0, e2, e3⟩
  refine wp_regionF ?_
  refine lf_val (v := v) (wantAll rfl) (rv_move rfl (fr_eval rfl e0)) ?_
  refine lf_call (wantAll rfl) (rv_call (args := [v]) rfl (evc (fr_eval rfl rfl) evn) Try.call14) (look_calls (show List.length b ≤ 100000000 from (by omega)) _ (hr.rd _ hH.chg)) ?_
  rintro _ w2 ⟨⟨g2, z1, rfl, hy, hge, hst⟩, hx⟩
  refine ⟨_, rfl, ?_⟩
  have hv_g2 : ∀ k, z1.ownBlock = some k → ¬ (newN w) k := fun k hk => hr.out _ (hst k hk).2.2 (by have := (hst k hk).2.1; simpa using this)
  replace hH : Heap _ _ _ [_, _] := hH.addEye hx hge hv_g2 hy
  clear hst hge hy
  clear hx
  refine lf_val (v := .pointer (some ⟨g2, 0, none⟩)) (wantAll rfl) (rv_assign rfl (fr_eval rfl rfl)) ?_
  refine lf_nil ?_
  refine then_n ?_
  refine wp_seq ?_
  refine wp_gen (fun F' => F' 0 = v ∧ F' 2 = .pointer (some ⟨g1, 0, none⟩) ∧ F' 3 = .int .i64 0 ∧ F' 4 = .pointer (some ⟨g2, 0, none⟩)) ⟨e0, e2, e3, rfl⟩ ?_
  clear e0 e2 e3
  clear F
  rintro F ⟨e0, e2, e3, e4⟩
  refine wp_regionF ?_
  refine lf_val (v := .pointer (some ⟨g2, 0, none⟩)) (wantAll rfl) (rv_move rfl (fr_eval rfl e4)) ?_
  refine lf_call (wantAll rfl) (rv_call (args := [.pointer (some ⟨g2, 0, none⟩), .int .i64 5]) rfl (evc (fr_eval rfl rfl) (evc rfl evn)) Try.call16) (upto_calls 5 _ (hH.eye (i := 1) rfl) (eye_ne hH (i := 1) rfl hv_g2)) ?_
  rintro _ w3 ⟨rfl, hy, hxf⟩
  refine ⟨_, rfl, ?_⟩
  replace hH : Heap _ _ _ [_, _] := hH.setEye (i := 1) rfl rfl hv_g2 hy hxf
  clear hy
  clear hxf
  obtain ⟨R1, hR1⟩ : ∃ q : List UInt8, q = (numR b 0) := ⟨_, rfl⟩
  obtain ⟨K1, hK1⟩ : ∃ q : Int, q = (uptoE b 0 5) := ⟨_, rfl⟩
  rw [← hR1, ← hK1] at hH
  refine lf_val (v := .pointer (some ⟨g2, 0, none⟩)) (wantAll rfl) (rv_move rfl (fr_eval rfl e4)) ?_
  refine lf_call (wantAll rfl) (rv_call (args := [.pointer (some ⟨g2, 0, none⟩), .int .i64 255]) rfl (evc (fr_eval rfl rfl) (evc rfl evn)) Try.call16) (upto_calls 255 _ (hH.eye (i := 1) rfl) (eye_ne hH (i := 1) rfl hv_g2)) ?_
  rintro _ w4 ⟨rfl, hy, hxf⟩
  refine ⟨_, rfl, ?_⟩
  replace hH : Heap _ _ _ [_, _] := hH.setEye (i := 1) rfl rfl hv_g2 hy hxf
  clear hy
  clear hxf
  obtain ⟨R2, hR2⟩ : ∃ q : List UInt8, q = (numR R1 K1) := ⟨_, rfl⟩
  obtain ⟨K2, hK2⟩ : ∃ q : Int, q = (uptoE R1 K1 255) := ⟨_, rfl⟩
  rw [← hR2, ← hK2] at hH
  refine lf_val (v := .pointer (some ⟨g2, 0, none⟩)) (wantAll rfl) (rv_move rfl (fr_eval rfl e4)) ?_
  refine lf_call (wantAll rfl) (rv_call (args := [.pointer (some ⟨g2, 0, none⟩), .int .i64 255]) rfl (evc (fr_eval rfl rfl) (evc rfl evn)) Try.call16) (upto_calls 255 _ (hH.eye (i := 1) rfl) (eye_ne hH (i := 1) rfl hv_g2)) ?_
  rintro _ w5 ⟨rfl, hy, hxf⟩
  refine ⟨_, rfl, ?_⟩
  replace hH : Heap _ _ _ [_, _] := hH.setEye (i := 1) rfl rfl hv_g2 hy hxf
  clear hy
  clear hxf
  obtain ⟨R3, hR3⟩ : ∃ q : List UInt8, q = (numR R2 K2) := ⟨_, rfl⟩
  obtain ⟨K3, hK3⟩ : ∃ q : Int, q = (uptoE R2 K2 255) := ⟨_, rfl⟩
  rw [← hR3, ← hK3] at hH
  refine lf_val (wantAll rfl) (rv_buildS (ps := [(0, (.tmp 11)), (1, (.tmp 13)), (2, (.tmp 15))]) (places := #[(0, 1), (1, 1), (2, 1), (3, 67), (70, 33), (103, 1), (104, 32), (136, 35), (171, 68)]) (z := .agg (([.int .i64 0, .int .i64 0, .int .i64 0, .int .i64 0, .int .i64 0, .int .i64 0] : List Value) ++ (cBs (List.replicate 32 0) ++ (cBs (List.replicate 32 0) ++ (([.int .i64 0] : List Value) ++ (cBs (List.replicate 32 0) ++ (([.int .i64 0] : List Value) ++ (cBs (List.replicate 32 0) ++ (([.int .i64 0, .int .i64 0] : List Value) ++ (cBs (List.replicate 32 0) ++ (([.slice none 0 0, .int .i64 0, .int .i64 0, .int .i64 0] : List Value) ++ (cBs (List.replicate 32 0) ++ (cBs (List.replicate 32 0) ++ ([.slice none 0 0] : List Value))))))))))))).toArray) (zc := ([.int .i64 0, .int .i64 0, .int .i64 0, .int .i64 0, .int .i64 0, .int .i64 0] : List Value) ++ (cBs (List.replicate 32 0) ++ (cBs (List.replicate 32 0) ++ (([.int .i64 0] : List Value) ++ (cBs (List.replicate 32 0) ++ (([.int .i64 0] : List Value) ++ (cBs (List.replicate 32 0) ++ (([.int .i64 0, .int .i64 0] : List Value) ++ (cBs (List.replicate 32 0) ++ (([.slice none 0 0, .int .i64 0, .int .i64 0, .int .i64 0] : List Value) ++ (cBs (List.replicate 32 0) ++ (cBs (List.replicate 32 0) ++ ([.slice none 0 0] : List Value))))))))))))) (cs := ([.int .i64 ((uptoV b 0 5 : Nat) : Int), .int .i64 ((uptoV R1 K1 255 : Nat) : Int), .int .i64 ((uptoV R2 K2 255 : Nat) : Int), .int .i64 0, .int .i64 0, .int .i64 0] : List Value) ++ (cBs (List.replicate 32 0) ++ (cBs (List.replicate 32 0) ++ (([.int .i64 0] : List Value) ++ (cBs (List.replicate 32 0) ++ (([.int .i64 0] : List Value) ++ (cBs (List.replicate 32 0) ++ (([.int .i64 0, .int .i64 0] : List Value) ++ (cBs (List.replicate 32 0) ++ (([.slice none 0 0, .int .i64 0, .int .i64 0, .int .i64 0] : List Value) ++ (cBs (List.replicate 32 0) ++ (cBs (List.replicate 32 0) ++ ([.slice none 0 0] : List Value))))))))))))) rfl (evpc (fr_eval rfl rfl) (evpc (fr_eval rfl rfl) (evpc (fr_eval rfl rfl) evpn))) (by kernel_rfl) rfl Try.underlying81 (fun _ => by kernel_rfl) (fillM (cells' := _) (cs := [.int .i64 ((uptoV b 0 5 : Nat) : Int)]) (off := 0) (n := 1) rfl (cells_one rfl) (show List.length [.int .i64 ((uptoV b 0 5 : Nat) : Int)] = 1 from rfl) (le_of_len2 (zTG_l10 (List.length_replicate ..) (List.length_replicate ..) (List.length_replicate ..) (List.length_replicate ..) (List.length_replicate ..) (List.length_replicate ..) (List.length_replicate ..)) (by decide)) (zTG_y11 (List.length_replicate ..) (List.length_replicate ..) (List.length_replicate ..) (List.length_replicate ..) (List.length_replicate ..) (List.length_replicate ..) (List.length_replicate ..)) (fillM (cells' := _) (cs := [.int .i64 ((uptoV R1 K1 255 : Nat) : Int)]) (off := 1) (n := 1) rfl (cells_one rfl) (show List.length [.int .i64 ((uptoV R1 K1 255 : Nat) : Int)] = 1 from rfl) (le_of_len2 (zTG_l10 (List.length_replicate ..) (List.length_replicate ..) (List.length_replicate ..) (List.length_replicate ..) (List.length_replicate ..) (List.length_replicate ..) (List.length_replicate ..)) (by decide)) (zTG_y12 (List.length_replicate ..) (List.length_replicate ..) (List.length_replicate ..) (List.length_replicate ..) (List.length_replicate ..) (List.length_replicate ..) (List.length_replicate ..)) (fillM (cells' := _) (cs := [.int .i64 ((uptoV R2 K2 255 : Nat) : Int)]) (off := 2) (n := 1) rfl (cells_one rfl) (show List.length [.int .i64 ((uptoV R2 K2 255 : Nat) : Int)] = 1 from rfl) (le_of_len2 (zTG_l10 (List.length_replicate ..) (List.length_replicate ..) (List.length_replicate ..) (List.length_replicate ..) (List.length_replicate ..) (List.length_replicate ..) (List.length_replicate ..)) (by decide)) (zTG_y13 (List.length_replicate ..) (List.length_replicate ..) (List.length_replicate ..) (List.length_replicate ..) (List.length_replicate ..) (List.length_replicate ..) (List.length_replicate ..)) fill0)))) ?_
  refine lf_ex (wantAll rfl) (hx_alloc hH 81 (z := .agg (([.int .i64 0, .int .i64 0, .int .i64 0, .int .i64 0, .int .i64 0, .int .i64 0] : List Value) ++ (cBs (List.replicate 32 0) ++ (cBs (List.replicate 32 0) ++ (([.int .i64 0] : List Value) ++ (cBs (List.replicate 32 0) ++ (([.int .i64 0] : List Value) ++ (cBs (List.replicate 32 0) ++ (([.int .i64 0, .int .i64 0] : List Value) ++ (cBs (List.replicate 32 0) ++ (([.slice none 0 0, .int .i64 0, .int .i64 0, .int .i64 0] : List Value) ++ (cBs (List.replicate 32 0) ++ (cBs (List.replicate 32 0) ++ ([.slice none 0 0] : List Value))))))))))))).toArray) (n := 239) (cs := ([.int .i64 0, .int .i64 0, .int .i64 0, .int .i64 0, .int .i64 0, .int .i64 0] : List Value) ++ (cBs (List.replicate 32 0) ++ (cBs (List.replicate 32 0) ++ (([.int .i64 0] : List Value) ++ (cBs (List.replicate 32 0) ++ (([.int .i64 0] : List Value) ++ (cBs (List.replicate 32 0) ++ (([.int .i64 0, .int .i64 0] : List Value) ++ (cBs (List.replicate 32 0) ++ (([.slice none 0 0, .int .i64 0, .int .i64 0, .int .i64 0] : List Value) ++ (cBs (List.replicate 32 0) ++ (cBs (List.replicate 32 0) ++ ([.slice none 0 0] : List Value))))))))))))) rfl (by kernel_rfl) (by rfl)) ?_
  clear hH
  rintro _ w6 ⟨g3, rfl, hH, hx⟩
  replace hH : Heap _ _ _ [_, _, _] := hH
  clear hx
  refine lf_sk (wantAll rfl) (hx_storeW hH (i := 2) (cs := ([.int .i64 ((uptoV b 0 5 : Nat) : Int), .int .i64 ((uptoV R1 K1 255 : Nat) : Int), .int .i64 ((uptoV R2 K2 255 : Nat) : Int), .int .i64 0, .int .i64 0, .int .i64 0] : List Value) ++ (cBs (List.replicate 32 0) ++ (cBs (List.replicate 32 0) ++ (([.int .i64 0] : List Value) ++ (cBs (List.replicate 32 0) ++ (([.int .i64 0] : List Value) ++ (cBs (List.replicate 32 0) ++ (([.int .i64 0, .int .i64 0] : List Value) ++ (cBs (List.replicate 32 0) ++ (([.slice none 0 0, .int .i64 0, .int .i64 0, .int .i64 0] : List Value) ++ (cBs (List.replicate 32 0) ++ (cBs (List.replicate 32 0) ++ ([.slice none 0 0] : List Value))))))))))))) rfl rfl rfl (fr_eval rfl rfl) (fr_eval rfl rfl) (sz_len Try.sz81 (zTG_l10 (List.length_replicate ..) (List.length_replicate ..) (List.length_replicate ..) (List.length_replicate ..) (List.length_replicate ..) (List.length_replicate ..) (List.length_replicate ..))) (((zTG_l10 (List.length_replicate ..) (List.length_replicate ..) (List.length_replicate ..) (List.length_replicate ..) (List.length_replicate ..) (List.length_replicate ..) (List.length_replicate ..))).trans ((zTG_l10 (List.length_replicate ..) (List.length_replicate ..) (List.length_replicate ..) (List.length_replicate ..) (List.length_replicate ..) (List.length_replicate ..) (List.length_replicate ..))).symm) (zTG_o14 rfl rfl rfl rfl rfl rfl rfl rfl rfl rfl rfl rfl rfl rfl rfl)) ?_
  clear hH
  rintro w7 ⟨hH, hx⟩
  replace hH : Heap _ _ _ [_, _, _] := hH
  clear hx
  refine lf_nil ?_
  refine then_n ?_
  refine wp_seq ?_
  refine wp_gen (fun F' => F' 0 = v ∧ F' 2 = .pointer (some ⟨g1, 0, none⟩) ∧ F' 3 = .int .i64 0 ∧ F' 4 = .pointer (some ⟨g2, 0, none⟩) ∧ F' 5 = .pointer (some ⟨g3, 0, none⟩)) ⟨e0, e2, e3, e4, rfl⟩ ?_
  clear e0 e2 e3 e4
  clear F
  rintro F ⟨e0, e2, e3, e4, e5⟩
  refine wp_regionF ?_
  refine lf_val (v := .int .i64 0) (wantAll rfl) (rv_assign rfl rfl) ?_
  refine lf_nil ?_
  refine then_n ?_
  refine wp_seq ?_
  refine wp_seq ?_
  refine wp_gen (fun F' => F' 0 = v ∧ F' 2 = .pointer (some ⟨g1, 0, none⟩) ∧ F' 3 = .int .i64 0 ∧ F' 4 = .pointer (some ⟨g2, 0, none⟩) ∧ F' 5 = .pointer (some ⟨g3, 0, none⟩) ∧ F' 6 = .int .i64 0) ⟨e0, e2, e3, e4, e5, rfl⟩ ?_
  clear e0 e2 e3 e4 e5
  clear F
  rintro F ⟨e0, e2, e3, e4, e5, e6⟩
  refine wp_regionF ?_
  refine lf_val (v := .pointer (some ⟨g3, 0, none⟩)) (wantAll rfl) (rv_fieldAddr (n := 0) rfl (fr_eval rfl e5) Try.underlying81 rfl rfl (by kernel_rfl)) ?_
  refine lf_val (v := .int .i64 ((uptoV b 0 5 : Nat) : Int)) (wantAll rfl) (rv_load1 rfl (hH.blk (i := 2) rfl) (zTG_g15 (List.length_replicate ..) (List.length_replicate ..) (List.length_replicate ..) (List.length_replicate ..) (List.length_replicate ..) (List.length_replicate ..) (List.length_replicate ..)) (fr_eval rfl rfl) Try.underlying3 rfl Try.sz3) ?_
  refine lf_nil ?_
  refine then_n ?_
  refine wp_block ?_
  refine wp_seq ?_
  refine wp_gen (fun F' => F' 0 = v ∧ F' 2 = .pointer (some ⟨g1, 0, none⟩) ∧ F' 3 = .int .i64 0 ∧ F' 4 = .pointer (some ⟨g2, 0, none⟩) ∧ F' 5 = .pointer (some ⟨g3, 0, none⟩) ∧ F' 6 = .int .i64 0 ∧ F' 18 = .int .i64 ((uptoV b 0 5 : Nat) : Int)) ⟨e0, e2, e3, e4, e5, e6, rfl⟩ ?_
  clear e0 e2 e3 e4 e5 e6
  clear F
  rintro F ⟨e0, e2, e3, e4, e5, e6, e18⟩
  refine wp_regionF ?_
  refine lf_val (v := .bool (decide (uptoV b 0 5 = 1))) (wantAll rfl) (rv_eqlP (p := uptoV b 0 5 = 1) rfl (fr_eval rfl e18) rfl (by omega)) ?_
  refine lf_val (v := .bool (decide (uptoV b 0 5 = 1))) (wantAll rfl) (rv_assign rfl (fr_eval rfl rfl)) ?_
  refine lf_nil ?_
  refine then_n ?_
  refine wp_gen (fun F' => F' 0 = v ∧ F' 2 = .pointer (some ⟨g1, 0, none⟩) ∧ F' 3 = .int .i64 0 ∧ F' 4 = .pointer (some ⟨g2, 0, none⟩) ∧ F' 5 = .pointer (some ⟨g3, 0, none⟩) ∧ F' 6 = .int .i64 0 ∧ F' 18 = .int .i64 ((uptoV b 0 5 : Nat) : Int) ∧ F' 19 = .bool (decide (uptoV b 0 5 = 1))) ⟨e0, e2, e3, e4, e5, e6, e18, rfl⟩ ?_
  clear e0 e2 e3 e4 e5 e6 e18
  clear F
  rintro F ⟨e0, e2, e3, e4, e5, e6, e18, e19⟩
  by_cases hc1 : uptoV b 0 5 = 1
  · refine wp_cond_true (fr_eval rfl (e19.trans (congrArg Value.bool (decide_eq_true hc1)))) ?_
    refine wp_seq ?_
    refine wp_regionF ?_
    refine lf_val (v := .pointer (some ⟨g2, 0, none⟩)) (wantAll rfl) (rv_move rfl (fr_eval rfl e4)) ?_
    refine lf_call (wantAll rfl) (rv_call (args := [.pointer (some ⟨g2, 0, none⟩), .int .i64 1048576]) rfl (evc (fr_eval rfl rfl) (evc rfl evn)) Try.call16) (upto_calls 1048576 _ (hH.eye (i := 1) rfl) (eye_ne hH (i := 1) rfl hv_g2)) ?_
    rintro _ w8 ⟨rfl, hy, hxf⟩
    refine ⟨_, rfl, ?_⟩
    replace hH : Heap _ _ _ [_, _, _] := hH.setEye (i := 1) rfl rfl hv_g2 hy hxf
    clear hy
    clear hxf
    obtain ⟨R4, hR4⟩ : ∃ q : List UInt8, q = (numR R3 K3) := ⟨_, rfl⟩
    obtain ⟨K4, hK4⟩ : ∃ q : Int, q = (uptoE R3 K3 1048576) := ⟨_, rfl⟩
    rw [← hR4, ← hK4] at hH
    refine lf_val (v := .pointer (some ⟨g2, 0, none⟩)) (wantAll rfl) (rv_move rfl (fr_eval rfl e4)) ?_
    refine lf_call (wantAll rfl) (rv_call (args := [.pointer (some ⟨g2, 0, none⟩), .int .i64 1125899906842624]) rfl (evc (fr_eval rfl rfl) (evc rfl evn)) Try.call16) (upto_calls 1125899906842624 _ (hH.eye (i := 1) rfl) (eye_ne hH (i := 1) rfl hv_g2)) ?_
    rintro _ w9 ⟨rfl, hy, hxf⟩
    refine ⟨_, rfl, ?_⟩
    replace hH : Heap _ _ _ [_, _, _] := hH.setEye (i := 1) rfl rfl hv_g2 hy hxf
    clear hy
    clear hxf
    obtain ⟨R5, hR5⟩ : ∃ q : List UInt8, q = (numR R4 K4) := ⟨_, rfl⟩
    obtain ⟨K5, hK5⟩ : ∃ q : Int, q = (uptoE R4 K4 1125899906842624) := ⟨_, rfl⟩
    rw [← hR5, ← hK5] at hH
    refine lf_val (v := .pointer (some ⟨g2, 0, none⟩)) (wantAll rfl) (rv_move rfl (fr_eval rfl e4)) ?_
    refine lf_call (wantAll rfl) (rv_call (args := [.pointer (some ⟨g2, 0, none⟩), .int .i64 1125899906842624]) rfl (evc (fr_eval rfl rfl) (evc rfl evn)) Try.call16) (upto_calls 1125899906842624 _ (hH.eye (i := 1) rfl) (eye_ne hH (i := 1) rfl hv_g2)) ?_
    rintro _ w10 ⟨rfl, hy, hxf⟩
    refine ⟨_, rfl, ?_⟩
    replace hH : Heap _ _ _ [_, _, _] := hH.setEye (i := 1) rfl rfl hv_g2 hy hxf
    clear hy
    clear hxf
    obtain ⟨R6, hR6⟩ : ∃ q : List UInt8, q = (numR R5 K5) := ⟨_, rfl⟩
    obtain ⟨K6, hK6⟩ : ∃ q : Int, q = (uptoE R5 K5 1125899906842624) := ⟨_, rfl⟩
    rw [← hR6, ← hK6] at hH
    refine lf_val (v := .pointer (some ⟨g2, 0, none⟩)) (wantAll rfl) (rv_move rfl (fr_eval rfl e4)) ?_
    refine lf_call (wantAll rfl) (rv_call (args := [.pointer (some ⟨g2, 0, none⟩)]) rfl (evc (fr_eval rfl rfl) evn) Try.call30) (sumE_calls  _ (hH.eye (i := 1) rfl) (eye_ne hH (i := 1) rfl hv_g2) (eye_lt hH.up hH.size hv_g2)) ?_
    rintro _ w11 ⟨rfl, hy, hxf⟩
    refine ⟨_, rfl, ?_⟩
    replace hH : Heap _ _ _ [_, _, _] := hH.setEye (i := 1) rfl rfl hv_g2 hy hxf
    clear hy
    clear hxf
    obtain ⟨R7, hR7⟩ : ∃ q : List UInt8, q = (rawR R6 K6 32) := ⟨_, rfl⟩
    obtain ⟨K7, hK7⟩ : ∃ q : Int, q = (rawE R6 K6 32) := ⟨_, rfl⟩
    rw [← hR7, ← hK7] at hH
    refine lf_val (v := .pointer (some ⟨g2, 0, none⟩)) (wantAll rfl) (rv_move rfl (fr_eval rfl e4)) ?_
    refine lf_call (wantAll rfl) (rv_call (args := [.pointer (some ⟨g2, 0, none⟩)]) rfl (evc (fr_eval rfl rfl) evn) Try.call30) (sumE_calls  _ (hH.eye (i := 1) rfl) (eye_ne hH (i := 1) rfl hv_g2) (eye_lt hH.up hH.size hv_g2)) ?_
    rintro _ w12 ⟨rfl, hy, hxf⟩
    refine ⟨_, rfl, ?_⟩
    replace hH : Heap _ _ _ [_, _, _] := hH.setEye (i := 1) rfl rfl hv_g2 hy hxf
    clear hy
    clear hxf
    obtain ⟨R8, hR8⟩ : ∃ q : List UInt8, q = (rawR R7 K7 32) := ⟨_, rfl⟩
    obtain ⟨K8, hK8⟩ : ∃ q : Int, q = (rawE R7 K7 32) := ⟨_, rfl⟩
    rw [← hR8, ← hK8] at hH
    refine lf_val (wantAll rfl) (rv_buildA (ps := [(0, (.tmp 28)), (1, (.tmp 30))]) (z := .agg (cBs (List.replicate 32 0) ++ cBs (List.replicate 32 0)).toArray) (zc := cBs (List.replicate 32 0) ++ cBs (List.replicate 32 0)) (cs := cBs (sumV R6 K6) ++ cBs (sumV R7 K7)) (size := 32) rfl (evpc (fr_eval rfl rfl) (evpc (fr_eval rfl rfl) evpn)) (by kernel_rfl) rfl Try.underlying73 Try.sz45 (fillM (cells' := _) (cs := cBs (sumV R6 K6)) (off := 0) (n := 32) rfl (cells_agg _) (cBs_len sumV_len) (le_of_len2 (zTG_l16 (List.length_replicate ..) (List.length_replicate ..)) (by decide)) (zTG_y17 (List.length_replicate ..) (List.length_replicate ..) sumV_len) (fillM (cells' := _) (cs := cBs (sumV R7 K7)) (off := 32) (n := 32) rfl (cells_agg _) (cBs_len sumV_len) (le_of_len2 (zTG_l16 sumV_len (List.length_replicate ..)) (by decide)) (zTG_y18 sumV_len (List.length_replicate ..) sumV_len) fill0))) ?_
    refine lf_val (wantAll rfl) (rv_buildS (ps := [(0, (.tmp 22)), (1, (.tmp 24)), (2, (.tmp 26)), (3, (.tmp 31))]) (places := #[(0, 1), (1, 1), (2, 1), (3, 64)]) (z := .agg (([.int .i64 0, .int .i64 0, .int .i64 0] : List Value) ++ (cBs (List.replicate 32 0) ++ cBs (List.replicate 32 0))).toArray) (zc := ([.int .i64 0, .int .i64 0, .int .i64 0] : List Value) ++ (cBs (List.replicate 32 0) ++ cBs (List.replicate 32 0))) (cs := ([.int .i64 ((uptoV R3 K3 1048576 : Nat) : Int), .int .i64 ((uptoV R4 K4 1125899906842624 : Nat) : Int), .int .i64 ((uptoV R5 K5 1125899906842624 : Nat) : Int)] : List Value) ++ (cBs (sumV R6 K6) ++ cBs (sumV R7 K7))) rfl (evpc (fr_eval rfl rfl) (evpc (fr_eval rfl rfl) (evpc (fr_eval rfl rfl) (evpc (fr_eval rfl rfl) evpn)))) (by kernel_rfl) rfl Try.underlying75 (fun _ => by kernel_rfl) (fillM (cells' := _) (cs := [.int .i64 ((uptoV R3 K3 1048576 : Nat) : Int)]) (off := 0) (n := 1) rfl (cells_one rfl) (show List.length [.int .i64 ((uptoV R3 K3 1048576 : Nat) : Int)] = 1 from rfl) (le_of_len2 (zTG_l19 (List.length_replicate ..) (List.length_replicate ..)) (by decide)) (zTG_y20 (List.length_replicate ..) (List.length_replicate ..)) (fillM (cells' := _) (cs := [.int .i64 ((uptoV R4 K4 1125899906842624 : Nat) : Int)]) (off := 1) (n := 1) rfl (cells_one rfl) (show List.length [.int .i64 ((uptoV R4 K4 1125899906842624 : Nat) : Int)] = 1 from rfl) (le_of_len2 (zTG_l19 (List.length_replicate ..) (List.length_replicate ..)) (by decide)) (zTG_y21 (List.length_replicate ..) (List.length_replicate ..)) (fillM (cells' := _) (cs := [.int .i64 ((uptoV R5 K5 1125899906842624 : Nat) : Int)]) (off := 2) (n := 1) rfl (cells_one rfl) (show List.length [.int .i64 ((uptoV R5 K5 1125899906842624 : Nat) : Int)] = 1 from rfl) (le_of_len2 (zTG_l19 (List.length_replicate ..) (List.length_replicate ..)) (by decide)) (zTG_y22 (List.length_replicate ..) (List.length_replicate ..)) (fillM (cells' := _) (cs := cBs (sumV R6 K6) ++ cBs (sumV R7 K7)) (off := 3) (n := 64) rfl (cells_agg _) (zTG_l16 sumV_len sumV_len) (le_of_len2 (zTG_l19 (List.length_replicate ..) (List.length_replicate ..)) (by decide)) (zTG_y23 (List.length_replicate ..) (List.length_replicate ..) sumV_len sumV_len) fill0))))) ?_
    refine lf_val (v := .pointer (some ⟨g3, 3, none⟩)) (wantAll rfl) (rv_fieldAddr (n := 66) rfl (fr_eval rfl e5) Try.underlying81 rfl rfl (by kernel_rfl)) ?_
    refine lf_sk (wantAll rfl) (hx_storeM hH (i := 2) (j := 3) (cs := ([.int .i64 ((uptoV R3 K3 1048576 : Nat) : Int), .int .i64 ((uptoV R4 K4 1125899906842624 : Nat) : Int), .int .i64 ((uptoV R5 K5 1125899906842624 : Nat) : Int)] : List Value) ++ (cBs (sumV R6 K6) ++ cBs (sumV R7 K7))) rfl rfl rfl (zTG_y24 (List.length_replicate ..) (List.length_replicate ..) (List.length_replicate ..) (List.length_replicate ..) (List.length_replicate ..) (List.length_replicate ..) (List.length_replicate ..) sumV_len sumV_len) (le_of_len (zTG_l10 (List.length_replicate ..) (List.length_replicate ..) (List.length_replicate ..) (List.length_replicate ..) (List.length_replicate ..) (List.length_replicate ..) (List.length_replicate ..)) (zTG_l19 sumV_len sumV_len) (by decide)) (fr_eval rfl rfl) (fr_eval rfl rfl) (sz_len Try.sz75 (zTG_l19 sumV_len sumV_len)) (zTG_o25 rfl rfl rfl)) ?_
    clear hH
    rintro w13 ⟨hH, hx⟩
    replace hH : Heap _ _ _ [_, _, _] := hH
    clear hx
    refine lf_nil ?_
    refine then_n ?_
    refine wp_gen (fun F' => F' 0 = v ∧ F' 2 = .pointer (some ⟨g1, 0, none⟩) ∧ F' 3 = .int .i64 0 ∧ F' 4 = .pointer (some ⟨g2, 0, none⟩) ∧ F' 5 = .pointer (some ⟨g3, 0, none⟩) ∧ F' 6 = .int .i64 0 ∧ F' 18 = .int .i64 ((uptoV b 0 5 : Nat) : Int) ∧ F' 19 = .bool true) ⟨e0, e2, e3, e4, e5, e6, e18, (e19.trans (congrArg Value.bool (decide_eq_true hc1)))⟩ ?_
    clear e0 e2 e3 e4 e5 e6 e18 e19
    clear F
    rintro F ⟨e0, e2, e3, e4, e5, e6, e18, e19⟩
    refine wp_regionF ?_
    refine lf_val (v := .pointer (some ⟨g2, 0, none⟩)) (wantAll rfl) (rv_move rfl (fr_eval rfl e4)) ?_
    refine lf_call (wantAll rfl) (rv_call (args := [.pointer (some ⟨g2, 0, none⟩)]) rfl (evc (fr_eval rfl rfl) evn) Try.call63) (sign_calls  _ (hH.eye (i := 1) rfl) (eye_ne hH (i := 1) rfl hv_g2) (eye_lt hH.up hH.size hv_g2)) ?_
    rintro _ w14 ⟨rfl, hy, hxf⟩
    refine ⟨_, rfl, ?_⟩
    replace hH : Heap _ _ _ [_, _, _] := hH.setEye (i := 1) rfl rfl hv_g2 hy hxf
    clear hy
    clear hxf
    obtain ⟨R9, hR9⟩ : ∃ q : List UInt8, q = (rawR (numR R8 K8) (uptoE R8 K8 255) 32) := ⟨_, rfl⟩
    obtain ⟨K9, hK9⟩ : ∃ q : Int, q = (rawE (numR R8 K8) (uptoE R8 K8 255) 32) := ⟨_, rfl⟩
    rw [← hR9, ← hK9] at hH
    refine lf_val (v := .pointer (some ⟨g3, 70, none⟩)) (wantAll rfl) (rv_fieldAddr (n := 32) rfl (fr_eval rfl e5) Try.underlying81 rfl rfl (by kernel_rfl)) ?_
    refine lf_sk (wantAll rfl) (hx_storeM hH (i := 2) (j := 70) (cs := ([.int .i64 ((uptoV R8 K8 255 : Nat) : Int)] : List Value) ++ cBs (sumV (numR R8 K8) (uptoE R8 K8 255))) rfl rfl rfl (zTG_y26 sumV_len sumV_len (List.length_replicate ..) (List.length_replicate ..) (List.length_replicate ..) (List.length_replicate ..) (List.length_replicate ..) sumV_len) (le_of_len (zTG_l10 sumV_len sumV_len (List.length_replicate ..) (List.length_replicate ..) (List.length_replicate ..) (List.length_replicate ..) (List.length_replicate ..)) (zTG_l0 sumV_len) (by decide)) (fr_eval rfl rfl) (fr_eval rfl rfl) (sz_len Try.sz77 (zTG_l0 sumV_len)) (zTG_o3 rfl)) ?_
    clear hH
    rintro w15 ⟨hH, hx⟩
    replace hH : Heap _ _ _ [_, _, _] := hH
    clear hx
    refine lf_nil ?_
    refine blk_n ?_
    refine then_n ?_
    refine wp_seq ?_
    refine wp_seq ?_
    refine wp_gen (fun F' => F' 0 = v ∧ F' 2 = .pointer (some ⟨g1, 0, none⟩) ∧ F' 3 = .int .i64 0 ∧ F' 4 = .pointer (some ⟨g2, 0, none⟩) ∧ F' 5 = .pointer (some ⟨g3, 0, none⟩) ∧ F' 6 = .int .i64 0 ∧ F' 18 = .int .i64 ((uptoV b 0 5 : Nat) : Int) ∧ F' 19 = .bool true) ⟨e0, e2, e3, e4, e5, e6, e18, e19⟩ ?_
    clear e0 e2 e3 e4 e5 e6 e18 e19
    clear F
    rintro F ⟨e0, e2, e3, e4, e5, e6, e18, e19⟩
    have hM := mid_state hR1 hK1 hR2 hK2 hR3 hK3 hR4 hK4 hR5 hK5 hR6 hK6 hR7 hK7 hR8 hK8 rfl rfl hR9 hK9 (by assumption)
    refine wp_regionF ?_
    refine lf_val (v := .pointer (some ⟨g2, 0, none⟩)) (wantAll rfl) (rv_move rfl (fr_eval rfl e4)) ?_
    refine lf_call (wantAll rfl) (rv_call (args := [.pointer (some ⟨g2, 0, none⟩)]) rfl (evc (fr_eval rfl rfl) evn) Try.call22) (done_calls  _ (hH.eye (i := 1) rfl) (eye_ne hH (i := 1) rfl hv_g2)) ?_
    rintro _ w16 ⟨rfl, hy, hxf⟩
    refine ⟨_, rfl, ?_⟩
    replace hH : Heap _ _ _ [_, _, _] := hH.setEye (i := 1) rfl rfl hv_g2 hy hxf
    clear hy
    clear hxf
    obtain ⟨K10, hK10⟩ : ∃ q : Int, q = (doneE R9 K9) := ⟨_, rfl⟩
    rw [← hK10] at hH
    refine lf_val (v := .int .i64 (doneE R9 K9)) (wantAll rfl) (rv_assign rfl (fr_eval rfl rfl)) ?_
    refine lf_nil ?_
    refine then_n ?_
    refine wp_seq ?_
    refine wp_gen (fun F' => F' 0 = v ∧ F' 2 = .pointer (some ⟨g1, 0, none⟩) ∧ F' 3 = .int .i64 0 ∧ F' 4 = .pointer (some ⟨g2, 0, none⟩) ∧ F' 5 = .pointer (some ⟨g3, 0, none⟩) ∧ F' 6 = .int .i64 0 ∧ F' 7 = .int .i64 (doneE R9 K9) ∧ F' 18 = .int .i64 ((uptoV b 0 5 : Nat) : Int) ∧ F' 19 = .bool true) ⟨e0, e2, e3, e4, e5, e6, rfl, e18, e19⟩ ?_
    clear e0 e2 e3 e4 e5 e6 e18 e19
    clear F
    rintro F ⟨e0, e2, e3, e4, e5, e6, e7, e18, e19⟩
    refine wp_regionF ?_
    refine lf_val (v := .int .i64 (doneE R9 K9)) (wantAll rfl) (rv_move rfl (fr_eval rfl e7)) ?_
    refine lf_val (v := .bool (decide (¬ doneE R9 K9 = 0))) (wantAll rfl) (rv_neqP (p := ¬ doneE R9 K9 = 0) rfl (fr_eval rfl rfl) rfl Iff.rfl) ?_
    refine lf_nil ?_
    refine then_n ?_
    refine wp_gen (fun F' => F' 0 = v ∧ F' 2 = .pointer (some ⟨g1, 0, none⟩) ∧ F' 3 = .int .i64 0 ∧ F' 4 = .pointer (some ⟨g2, 0, none⟩) ∧ F' 5 = .pointer (some ⟨g3, 0, none⟩) ∧ F' 6 = .int .i64 0 ∧ F' 7 = .int .i64 (doneE R9 K9) ∧ F' 18 = .int .i64 ((uptoV b 0 5 : Nat) : Int) ∧ F' 19 = .bool true ∧ F' 77 = .bool (decide (¬ doneE R9 K9 = 0))) ⟨e0, e2, e3, e4, e5, e6, e7, e18, e19, rfl⟩ ?_
    clear e0 e2 e3 e4 e5 e6 e7 e18 e19
    clear F
    rintro F ⟨e0, e2, e3, e4, e5, e6, e7, e18, e19, e77⟩
    by_cases hc2 : doneE R9 K9 = 0
    · refine wp_cond_false (fr_eval rfl (e77.trans (congrArg Value.bool (decide_eq_false (not_not_intro hc2))))) ?_
      refine wp_skip ?_
      refine then_n ?_
      refine wp_seq ?_
      refine wp_seq ?_
      refine wp_regionF ?_
      refine lf_val (v := .int .i64 0) (wantAll rfl) (rv_move rfl (fr_eval rfl e6)) ?_
      refine lf_val (v := .bool false) (wantAll rfl) (rv_neq rfl (fr_eval rfl rfl) rfl (show decide ((0 : Int) = 0) = true from by decide)) ?_
      refine lf_nil ?_
      refine then_n ?_
      refine wp_gen (fun F' => F' 0 = v ∧ F' 2 = .pointer (some ⟨g1, 0, none⟩) ∧ F' 3 = .int .i64 0 ∧ F' 4 = .pointer (some ⟨g2, 0, none⟩) ∧ F' 5 = .pointer (some ⟨g3, 0, none⟩) ∧ F' 6 = .int .i64 0 ∧ F' 7 = .int .i64 (doneE R9 K9) ∧ F' 18 = .int .i64 ((uptoV b 0 5 : Nat) : Int) ∧ F' 19 = .bool true ∧ F' 77 = .bool false ∧ F' 81 = .bool false) ⟨e0, e2, e3, e4, e5, e6, e7, e18, e19, (e77.trans (congrArg Value.bool (decide_eq_false (not_not_intro hc2)))), rfl⟩ ?_
      clear e0 e2 e3 e4 e5 e6 e7 e18 e19 e77
      clear F
      rintro F ⟨e0, e2, e3, e4, e5, e6, e7, e18, e19, e77, e81⟩
      refine wp_cond_false (fr_eval rfl e81) ?_
      refine wp_skip ?_
      refine then_n ?_
      refine wp_seq ?_
      refine wp_seq ?_
      refine wp_regionF ?_
      refine lf_val (wantAll rfl) (rv_loadW rfl (hH.blk (i := 2) rfl) (fr_eval rfl e5) Try.underlying81 rfl (sz_len Try.sz81 (zTG_l10 sumV_len sumV_len sumV_len (List.length_replicate ..) (List.length_replicate ..) (List.length_replicate ..) (List.length_replicate ..)))) ?_
      refine lf_call (wantAll rfl) (rv_call (args := [.agg (([.int .i64 ((uptoV b 0 5 : Nat) : Int), .int .i64 ((uptoV R1 K1 255 : Nat) : Int), .int .i64 ((uptoV R2 K2 255 : Nat) : Int), .int .i64 ((uptoV R3 K3 1048576 : Nat) : Int), .int .i64 ((uptoV R4 K4 1125899906842624 : Nat) : Int), .int .i64 ((uptoV R5 K5 1125899906842624 : Nat) : Int)] : List Value) ++ (cBs (sumV R6 K6) ++ (cBs (sumV R7 K7) ++ (([.int .i64 ((uptoV R8 K8 255 : Nat) : Int)] : List Value) ++ (cBs (sumV (numR R8 K8) (uptoE R8 K8 255)) ++ (([.int .i64 0] : List Value) ++ (cBs (List.replicate 32 0) ++ (([.int .i64 0, .int .i64 0] : List Value) ++ (cBs (List.replicate 32 0) ++ (([.slice none 0 0, .int .i64 0, .int .i64 0, .int .i64 0] : List Value) ++ (cBs (List.replicate 32 0) ++ (cBs (List.replicate 32 0) ++ ([.slice none 0 0] : List Value))))))))))))).toArray]) rfl (evc (fr_eval rfl rfl) evn) Try.call52) (msRight_calls (⟨((uptoV b 0 5 : Nat) : Int), ((uptoV R1 K1 255 : Nat) : Int), ((uptoV R2 K2 255 : Nat) : Int), ((uptoV R3 K3 1048576 : Nat) : Int), ((uptoV R4 K4 1125899906842624 : Nat) : Int), ((uptoV R5 K5 1125899906842624 : Nat) : Int), ⟨(sumV R6 K6), sumV_len⟩, ⟨(sumV R7 K7), sumV_len⟩, ((uptoV R8 K8 255 : Nat) : Int), ⟨sumV (numR R8 K8) (uptoE R8 K8 255), sumV_len⟩, 0, ⟨List.replicate 32 0, (List.length_replicate ..)⟩, 0, 0, ⟨List.replicate 32 0, (List.length_replicate ..)⟩, (⟨0, 0, 0, ⟨List.replicate 32 0, (List.length_replicate ..)⟩, ⟨List.replicate 32 0, (List.length_replicate ..)⟩⟩ : Rc)⟩ : Ms) _ _ _) ?_
      rintro _ w17 ⟨rfl, hx⟩
      refine ⟨_, rfl, ?_⟩
      replace hH := hH.ext hx
      clear hx
      refine lf_val (v := .bool (decide (¬ (inM (⟨((uptoV b 0 5 : Nat) : Int), ((uptoV R1 K1 255 : Nat) : Int), ((uptoV R2 K2 255 : Nat) : Int), ((uptoV R3 K3 1048576 : Nat) : Int), ((uptoV R4 K4 1125899906842624 : Nat) : Int), ((uptoV R5 K5 1125899906842624 : Nat) : Int), ⟨(sumV R6 K6), sumV_len⟩, ⟨(sumV R7 K7), sumV_len⟩, ((uptoV R8 K8 255 : Nat) : Int), ⟨sumV (numR R8 K8) (uptoE R8 K8 255), sumV_len⟩, 0, ⟨List.replicate 32 0, (List.length_replicate ..)⟩, 0, 0, ⟨List.replicate 32 0, (List.length_replicate ..)⟩, (⟨0, 0, 0, ⟨List.replicate 32 0, (List.length_replicate ..)⟩, ⟨List.replicate 32 0, (List.length_replicate ..)⟩⟩ : Rc)⟩ : Ms))))) (wantAll rfl) (rv_notP (q := ¬ (inM (⟨((uptoV b 0 5 : Nat) : Int), ((uptoV R1 K1 255 : Nat) : Int), ((uptoV R2 K2 255 : Nat) : Int), ((uptoV R3 K3 1048576 : Nat) : Int), ((uptoV R4 K4 1125899906842624 : Nat) : Int), ((uptoV R5 K5 1125899906842624 : Nat) : Int), ⟨(sumV R6 K6), sumV_len⟩, ⟨(sumV R7 K7), sumV_len⟩, ((uptoV R8 K8 255 : Nat) : Int), ⟨sumV (numR R8 K8) (uptoE R8 K8 255), sumV_len⟩, 0, ⟨List.replicate 32 0, (List.length_replicate ..)⟩, 0, 0, ⟨List.replicate 32 0, (List.length_replicate ..)⟩, (⟨0, 0, 0, ⟨List.replicate 32 0, (List.length_replicate ..)⟩, ⟨List.replicate 32 0, (List.length_replicate ..)⟩⟩ : Rc)⟩ : Ms))) rfl (fr_eval rfl rfl) Iff.rfl) ?_
      refine lf_nil ?_
      refine then_n ?_
      refine wp_gen (fun F' => F' 0 = v ∧ F' 2 = .pointer (some ⟨g1, 0, none⟩) ∧ F' 3 = .int .i64 0 ∧ F' 4 = .pointer (some ⟨g2, 0, none⟩) ∧ F' 5 = .pointer (some ⟨g3, 0, none⟩) ∧ F' 6 = .int .i64 0 ∧ F' 7 = .int .i64 (doneE R9 K9) ∧ F' 18 = .int .i64 ((uptoV b 0 5 : Nat) : Int) ∧ F' 19 = .bool true ∧ F' 77 = .bool false ∧ F' 81 = .bool false ∧ F' 86 = .bool (decide (¬ (inM (⟨((uptoV b 0 5 : Nat) : Int), ((uptoV R1 K1 255 : Nat) : Int), ((uptoV R2 K2 255 : Nat) : Int), ((uptoV R3 K3 1048576 : Nat) : Int), ((uptoV R4 K4 1125899906842624 : Nat) : Int), ((uptoV R5 K5 1125899906842624 : Nat) : Int), ⟨(sumV R6 K6), sumV_len⟩, ⟨(sumV R7 K7), sumV_len⟩, ((uptoV R8 K8 255 : Nat) : Int), ⟨sumV (numR R8 K8) (uptoE R8 K8 255), sumV_len⟩, 0, ⟨List.replicate 32 0, (List.length_replicate ..)⟩, 0, 0, ⟨List.replicate 32 0, (List.length_replicate ..)⟩, (⟨0, 0, 0, ⟨List.replicate 32 0, (List.length_replicate ..)⟩, ⟨List.replicate 32 0, (List.length_replicate ..)⟩⟩ : Rc)⟩ : Ms))))) ⟨e0, e2, e3, e4, e5, e6, e7, e18, e19, e77, e81, rfl⟩ ?_
      clear e0 e2 e3 e4 e5 e6 e7 e18 e19 e77 e81
      clear F
      rintro F ⟨e0, e2, e3, e4, e5, e6, e7, e18, e19, e77, e81, e86⟩
      by_cases hc3 : inM (⟨((uptoV b 0 5 : Nat) : Int), ((uptoV R1 K1 255 : Nat) : Int), ((uptoV R2 K2 255 : Nat) : Int), ((uptoV R3 K3 1048576 : Nat) : Int), ((uptoV R4 K4 1125899906842624 : Nat) : Int), ((uptoV R5 K5 1125899906842624 : Nat) : Int), ⟨(sumV R6 K6), sumV_len⟩, ⟨(sumV R7 K7), sumV_len⟩, ((uptoV R8 K8 255 : Nat) : Int), ⟨sumV (numR R8 K8) (uptoE R8 K8 255), sumV_len⟩, 0, ⟨List.replicate 32 0, (List.length_replicate ..)⟩, 0, 0, ⟨List.replicate 32 0, (List.length_replicate ..)⟩, (⟨0, 0, 0, ⟨List.replicate 32 0, (List.length_replicate ..)⟩, ⟨List.replicate 32 0, (List.length_replicate ..)⟩⟩ : Rc)⟩ : Ms)
      · refine wp_cond_false (fr_eval rfl (e86.trans (congrArg Value.bool (decide_eq_false (not_not_intro hc3))))) ?_
        refine wp_skip ?_
        refine then_n ?_
        refine wp_seq ?_
        refine wp_regionF ?_
        refine lf_val (wantAll rfl) (rv_loadW rfl (hH.blk (i := 2) rfl) (fr_eval rfl e5) Try.underlying81 rfl (sz_len Try.sz81 (zTG_l10 sumV_len sumV_len sumV_len (List.length_replicate ..) (List.length_replicate ..) (List.length_replicate ..) (List.length_replicate ..)))) ?_
        refine lf_sk (wantAll rfl) (hx_storeW hH (i := 0) (cs := ([.int .i64 ((uptoV b 0 5 : Nat) : Int), .int .i64 ((uptoV R1 K1 255 : Nat) : Int), .int .i64 ((uptoV R2 K2 255 : Nat) : Int), .int .i64 ((uptoV R3 K3 1048576 : Nat) : Int), .int .i64 ((uptoV R4 K4 1125899906842624 : Nat) : Int), .int .i64 ((uptoV R5 K5 1125899906842624 : Nat) : Int)] : List Value) ++ (cBs (sumV R6 K6) ++ (cBs (sumV R7 K7) ++ (([.int .i64 ((uptoV R8 K8 255 : Nat) : Int)] : List Value) ++ (cBs (sumV (numR R8 K8) (uptoE R8 K8 255)) ++ (([.int .i64 0] : List Value) ++ (cBs (List.replicate 32 0) ++ (([.int .i64 0, .int .i64 0] : List Value) ++ (cBs (List.replicate 32 0) ++ (([.slice none 0 0, .int .i64 0, .int .i64 0, .int .i64 0] : List Value) ++ (cBs (List.replicate 32 0) ++ (cBs (List.replicate 32 0) ++ ([.slice none 0 0] : List Value))))))))))))) rfl rfl rfl (fr_eval rfl e2) (fr_eval rfl rfl) (sz_len Try.sz81 (zTG_l10 sumV_len sumV_len sumV_len (List.length_replicate ..) (List.length_replicate ..) (List.length_replicate ..) (List.length_replicate ..))) (((zTG_l10 (List.length_replicate ..) (List.length_replicate ..) (List.length_replicate ..) (List.length_replicate ..) (List.length_replicate ..) (List.length_replicate ..) (List.length_replicate ..))).trans ((zTG_l10 sumV_len sumV_len sumV_len (List.length_replicate ..) (List.length_replicate ..) (List.length_replicate ..) (List.length_replicate ..))).symm) (zTG_o14 rfl rfl rfl rfl rfl rfl rfl rfl rfl rfl rfl rfl rfl rfl rfl)) ?_
        clear hH
        rintro w18 ⟨hH, hx⟩
        replace hH : Heap _ _ _ [_, _, _] := hH
        clear hx
        refine lf_val (v := .int .i64 0) (wantAll rfl) (rv_assign rfl rfl) ?_
        refine lf_nil ?_
        refine then_n ?_
        refine wp_gen (fun F' => F' 0 = v ∧ F' 2 = .pointer (some ⟨g1, 0, none⟩) ∧ F' 3 = .int .i64 0 ∧ F' 4 = .pointer (some ⟨g2, 0, none⟩) ∧ F' 5 = .pointer (some ⟨g3, 0, none⟩) ∧ F' 6 = .int .i64 0 ∧ F' 7 = .int .i64 (doneE R9 K9) ∧ F' 18 = .int .i64 ((uptoV b 0 5 : Nat) : Int) ∧ F' 19 = .bool true ∧ F' 77 = .bool false ∧ F' 81 = .bool false ∧ F' 86 = .bool false) ⟨e0, e2, rfl, e4, e5, e6, e7, e18, e19, e77, e81, (e86.trans (congrArg Value.bool (decide_eq_false (not_not_intro hc3))))⟩ ?_
        clear e0 e2 e3 e4 e5 e6 e7 e18 e19 e77 e81 e86
        clear F
        rintro F ⟨e0, e2, e3, e4, e5, e6, e7, e18, e19, e77, e81, e86⟩
        refine wp_ret ?_
        have hF := hH
        replace hF : Heap _ _ _ [_, _, _, _] := hF.addNil 5 1
        replace hF : Heap _ _ _ [_, _, _, _, _] := hF.addNil 5 1
        replace hF : Heap _ _ _ [_, _] := hF.drop (.cons _ (.cons _ (.cons _ (.cons_cons _ (.cons_cons _ .slnil)))))
        exact bodyPost_ret (res2 rfl (ro_cell rfl e2 (hH.blk (i := 0) rfl) Try.underlying81 rfl (sz_len Try.sz81 (zTG_l10 sumV_len sumV_len sumV_len (List.length_replicate ..) (List.length_replicate ..) (List.length_replicate ..) (List.length_replicate ..)))) (ro_tmp rfl e3)) rfl (⟨_, _, _, _, _, _, rfl, hM.ok (by assumption) rfl (by assumption), hF⟩)
      · refine wp_cond_true (fr_eval rfl (e86.trans (congrArg Value.bool (decide_eq_true hc3)))) ?_
        refine wp_seq ?_
        refine wp_regionF ?_
        refine lf_val (wantAll rfl) (rv_buildS (ps := []) (places := #[(0, 1), (1, 1), (2, 1), (3, 67), (70, 33), (103, 1), (104, 32), (136, 35), (171, 68)]) (z := .agg (([.int .i64 0, .int .i64 0, .int .i64 0, .int .i64 0, .int .i64 0, .int .i64 0] : List Value) ++ (cBs (List.replicate 32 0) ++ (cBs (List.replicate 32 0) ++ (([.int .i64 0] : List Value) ++ (cBs (List.replicate 32 0) ++ (([.int .i64 0] : List Value) ++ (cBs (List.replicate 32 0) ++ (([.int .i64 0, .int .i64 0] : List Value) ++ (cBs (List.replicate 32 0) ++ (([.slice none 0 0, .int .i64 0, .int .i64 0, .int .i64 0] : List Value) ++ (cBs (List.replicate 32 0) ++ (cBs (List.replicate 32 0) ++ ([.slice none 0 0] : List Value))))))))))))).toArray) (zc := ([.int .i64 0, .int .i64 0, .int .i64 0, .int .i64 0, .int .i64 0, .int .i64 0] : List Value) ++ (cBs (List.replicate 32 0) ++ (cBs (List.replicate 32 0) ++ (([.int .i64 0] : List Value) ++ (cBs (List.replicate 32 0) ++ (([.int .i64 0] : List Value) ++ (cBs (List.replicate 32 0) ++ (([.int .i64 0, .int .i64 0] : List Value) ++ (cBs (List.replicate 32 0) ++ (([.slice none 0 0, .int .i64 0, .int .i64 0, .int .i64 0] : List Value) ++ (cBs (List.replicate 32 0) ++ (cBs (List.replicate 32 0) ++ ([.slice none 0 0] : List Value))))))))))))) (cs := ([.int .i64 0, .int .i64 0, .int .i64 0, .int .i64 0, .int .i64 0, .int .i64 0] : List Value) ++ (cBs (List.replicate 32 0) ++ (cBs (List.replicate 32 0) ++ (([.int .i64 0] : List Value) ++ (cBs (List.replicate 32 0) ++ (([.int .i64 0] : List Value) ++ (cBs (List.replicate 32 0) ++ (([.int .i64 0, .int .i64 0] : List Value) ++ (cBs (List.replicate 32 0) ++ (([.slice none 0 0, .int .i64 0, .int .i64 0, .int .i64 0] : List Value) ++ (cBs (List.replicate 32 0) ++ (cBs (List.replicate 32 0) ++ ([.slice none 0 0] : List Value))))))))))))) rfl evpn (by kernel_rfl) rfl Try.underlying81 (fun _ => by kernel_rfl) fill0) ?_
        refine lf_sk (wantAll rfl) (hx_storeW hH (i := 0) (cs := ([.int .i64 0, .int .i64 0, .int .i64 0, .int .i64 0, .int .i64 0, .int .i64 0] : List Value) ++ (cBs (List.replicate 32 0) ++ (cBs (List.replicate 32 0) ++ (([.int .i64 0] : List Value) ++ (cBs (List.replicate 32 0) ++ (([.int .i64 0] : List Value) ++ (cBs (List.replicate 32 0) ++ (([.int .i64 0, .int .i64 0] : List Value) ++ (cBs (List.replicate 32 0) ++ (([.slice none 0 0, .int .i64 0, .int .i64 0, .int .i64 0] : List Value) ++ (cBs (List.replicate 32 0) ++ (cBs (List.replicate 32 0) ++ ([.slice none 0 0] : List Value))))))))))))) rfl rfl rfl (fr_eval rfl e2) (fr_eval rfl rfl) (sz_len Try.sz81 (zTG_l10 (List.length_replicate ..) (List.length_replicate ..) (List.length_replicate ..) (List.length_replicate ..) (List.length_replicate ..) (List.length_replicate ..) (List.length_replicate ..))) (((zTG_l10 (List.length_replicate ..) (List.length_replicate ..) (List.length_replicate ..) (List.length_replicate ..) (List.length_replicate ..) (List.length_replicate ..) (List.length_replicate ..))).trans ((zTG_l10 (List.length_replicate ..) (List.length_replicate ..) (List.length_replicate ..) (List.length_replicate ..) (List.length_replicate ..) (List.length_replicate ..) (List.length_replicate ..))).symm) (zTG_o14 rfl rfl rfl rfl rfl rfl rfl rfl rfl rfl rfl rfl rfl rfl rfl)) ?_
        clear hH
        rintro w19 ⟨hH, hx⟩
        replace hH : Heap _ _ _ [_, _, _] := hH
        clear hx
        refine lf_val (v := .int .i64 4) (wantAll rfl) (rv_assign rfl rfl) ?_
        refine lf_nil ?_
        refine then_n ?_
        refine wp_gen (fun F' => F' 0 = v ∧ F' 2 = .pointer (some ⟨g1, 0, none⟩) ∧ F' 3 = .int .i64 4 ∧ F' 4 = .pointer (some ⟨g2, 0, none⟩) ∧ F' 5 = .pointer (some ⟨g3, 0, none⟩) ∧ F' 6 = .int .i64 0 ∧ F' 7 = .int .i64 (doneE R9 K9) ∧ F' 18 = .int .i64 ((uptoV b 0 5 : Nat) : Int) ∧ F' 19 = .bool true ∧ F' 77 = .bool false ∧ F' 81 = .bool false ∧ F' 86 = .bool true) ⟨e0, e2, rfl, e4, e5, e6, e7, e18, e19, e77, e81, (e86.trans (congrArg Value.bool (decide_eq_true hc3)))⟩ ?_
        clear e0 e2 e3 e4 e5 e6 e7 e18 e19 e77 e81 e86
        clear F
        rintro F ⟨e0, e2, e3, e4, e5, e6, e7, e18, e19, e77, e81, e86⟩
        refine wp_ret ?_
        refine then_ret ?_
        have hF := hH
        replace hF : Heap _ _ _ [_, _, _, _] := hF.addNil 5 1
        replace hF : Heap _ _ _ [_, _, _, _, _] := hF.addNil 5 1
        replace hF : Heap _ _ _ [_, _] := hF.drop (.cons _ (.cons _ (.cons _ (.cons_cons _ (.cons_cons _ .slnil)))))
        exact bodyPost_ret (res2 rfl (ro_cell rfl e2 (hH.blk (i := 0) rfl) Try.underlying81 rfl (sz_len Try.sz81 (zTG_l10 (List.length_replicate ..) (List.length_replicate ..) (List.length_replicate ..) (List.length_replicate ..) (List.length_replicate ..) (List.length_replicate ..) (List.length_replicate ..)))) (ro_tmp rfl e3)) rfl (⟨zM, [], [], _, _, _, rfl, hM.no (by assumption), hF⟩)
    · refine wp_cond_true (fr_eval rfl (e77.trans (congrArg Value.bool (decide_eq_true hc2)))) ?_
      refine wp_seq ?_
      refine wp_regionF ?_
      refine lf_val (wantAll rfl) (rv_buildS (ps := []) (places := #[(0, 1), (1, 1), (2, 1), (3, 67), (70, 33), (103, 1), (104, 32), (136, 35), (171, 68)]) (z := .agg (([.int .i64 0, .int .i64 0, .int .i64 0, .int .i64 0, .int .i64 0, .int .i64 0] : List Value) ++ (cBs (List.replicate 32 0) ++ (cBs (List.replicate 32 0) ++ (([.int .i64 0] : List Value) ++ (cBs (List.replicate 32 0) ++ (([.int .i64 0] : List Value) ++ (cBs (List.replicate 32 0) ++ (([.int .i64 0, .int .i64 0] : List Value) ++ (cBs (List.replicate 32 0) ++ (([.slice none 0 0, .int .i64 0, .int .i64 0, .int .i64 0] : List Value) ++ (cBs (List.replicate 32 0) ++ (cBs (List.replicate 32 0) ++ ([.slice none 0 0] : List Value))))))))))))).toArray) (zc := ([.int .i64 0, .int .i64 0, .int .i64 0, .int .i64 0, .int .i64 0, .int .i64 0] : List Value) ++ (cBs (List.replicate 32 0) ++ (cBs (List.replicate 32 0) ++ (([.int .i64 0] : List Value) ++ (cBs (List.replicate 32 0) ++ (([.int .i64 0] : List Value) ++ (cBs (List.replicate 32 0) ++ (([.int .i64 0, .int .i64 0] : List Value) ++ (cBs (List.replicate 32 0) ++ (([.slice none 0 0, .int .i64 0, .int .i64 0, .int .i64 0] : List Value) ++ (cBs (List.replicate 32 0) ++ (cBs (List.replicate 32 0) ++ ([.slice none 0 0] : List Value))))))))))))) (cs := ([.int .i64 0, .int .i64 0, .int .i64 0, .int .i64 0, .int .i64 0, .int .i64 0] : List Value) ++ (cBs (List.replicate 32 0) ++ (cBs (List.replicate 32 0) ++ (([.int .i64 0] : List Value) ++ (cBs (List.replicate 32 0) ++ (([.int .i64 0] : List Value) ++ (cBs (List.replicate 32 0) ++ (([.int .i64 0, .int .i64 0] : List Value) ++ (cBs (List.replicate 32 0) ++ (([.slice none 0 0, .int .i64 0, .int .i64 0, .int .i64 0] : List Value) ++ (cBs (List.replicate 32 0) ++ (cBs (List.replicate 32 0) ++ ([.slice none 0 0] : List Value))))))))))))) rfl evpn (by kernel_rfl) rfl Try.underlying81 (fun _ => by kernel_rfl) fill0) ?_
      refine lf_val (v := .int .i64 (doneE R9 K9)) (wantAll rfl) (rv_move rfl (fr_eval rfl e7)) ?_
      refine lf_sk (wantAll rfl) (hx_storeW hH (i := 0) (cs := ([.int .i64 0, .int .i64 0, .int .i64 0, .int .i64 0, .int .i64 0, .int .i64 0] : List Value) ++ (cBs (List.replicate 32 0) ++ (cBs (List.replicate 32 0) ++ (([.int .i64 0] : List Value) ++ (cBs (List.replicate 32 0) ++ (([.int .i64 0] : List Value) ++ (cBs (List.replicate 32 0) ++ (([.int .i64 0, .int .i64 0] : List Value) ++ (cBs (List.replicate 32 0) ++ (([.slice none 0 0, .int .i64 0, .int .i64 0, .int .i64 0] : List Value) ++ (cBs (List.replicate 32 0) ++ (cBs (List.replicate 32 0) ++ ([.slice none 0 0] : List Value))))))))))))) rfl rfl rfl (fr_eval rfl e2) (fr_eval rfl rfl) (sz_len Try.sz81 (zTG_l10 (List.length_replicate ..) (List.length_replicate ..) (List.length_replicate ..) (List.length_replicate ..) (List.length_replicate ..) (List.length_replicate ..) (List.length_replicate ..))) (((zTG_l10 (List.length_replicate ..) (List.length_replicate ..) (List.length_replicate ..) (List.length_replicate ..) (List.length_replicate ..) (List.length_replicate ..) (List.length_replicate ..))).trans ((zTG_l10 (List.length_replicate ..) (List.length_replicate ..) (List.length_replicate ..) (List.length_replicate ..) (List.length_replicate ..) (List.length_replicate ..) (List.length_replicate ..))).symm) (zTG_o14 rfl rfl rfl rfl rfl rfl rfl rfl rfl rfl rfl rfl rfl rfl rfl)) ?_
      clear hH
      rintro w20 ⟨hH, hx⟩
      replace hH : Heap _ _ _ [_, _, _] := hH
      clear hx
      refine lf_val (v := .int .i64 (doneE R9 K9)) (wantAll rfl) (rv_assign rfl (fr_eval rfl rfl)) ?_
      refine lf_nil ?_
      refine then_n ?_
      refine wp_gen (fun F' => F' 0 = v ∧ F' 2 = .pointer (some ⟨g1, 0, none⟩) ∧ F' 3 = .int .i64 (doneE R9 K9) ∧ F' 4 = .pointer (some ⟨g2, 0, none⟩) ∧ F' 5 = .pointer (some ⟨g3, 0, none⟩) ∧ F' 6 = .int .i64 0 ∧ F' 7 = .int .i64 (doneE R9 K9) ∧ F' 18 = .int .i64 ((uptoV b 0 5 : Nat) : Int) ∧ F' 19 = .bool true ∧ F' 77 = .bool true) ⟨e0, e2, rfl, e4, e5, e6, e7, e18, e19, (e77.trans (congrArg Value.bool (decide_eq_true hc2)))⟩ ?_
      clear e0 e2 e3 e4 e5 e6 e7 e18 e19 e77
      clear F
      rintro F ⟨e0, e2, e3, e4, e5, e6, e7, e18, e19, e77⟩
      refine wp_ret ?_
      refine then_ret ?_
      have hF := hH
      replace hF : Heap _ _ _ [_, _, _, _] := hF.addNil 5 1
      replace hF : Heap _ _ _ [_, _, _, _, _] := hF.addNil 5 1
      replace hF : Heap _ _ _ [_, _] := hF.drop (.cons _ (.cons _ (.cons _ (.cons_cons _ (.cons_cons _ .slnil)))))
      exact bodyPost_ret (res2 rfl (ro_cell rfl e2 (hH.blk (i := 0) rfl) Try.underlying81 rfl (sz_len Try.sz81 (zTG_l10 (List.length_replicate ..) (List.length_replicate ..) (List.length_replicate ..) (List.length_replicate ..) (List.length_replicate ..) (List.length_replicate ..) (List.length_replicate ..)))) (ro_tmp rfl e3)) rfl (⟨zM, [], [], _, _, _, rfl, hM.done (by assumption), hF⟩)
  · refine wp_cond_false (fr_eval rfl (e19.trans (congrArg Value.bool (decide_eq_false hc1)))) ?_
    refine wp_seq ?_
    refine wp_regionF ?_
    refine lf_val (v := .bool (decide (uptoV b 0 5 = 2))) (wantAll rfl) (rv_eqlP (p := uptoV b 0 5 = 2) rfl (fr_eval rfl e18) rfl (by omega)) ?_
    refine lf_val (v := .bool (decide (uptoV b 0 5 = 2))) (wantAll rfl) (rv_assign rfl (fr_eval rfl rfl)) ?_
    refine lf_nil ?_
    refine then_n ?_
    refine wp_gen (fun F' => F' 0 = v ∧ F' 2 = .pointer (some ⟨g1, 0, none⟩) ∧ F' 3 = .int .i64 0 ∧ F' 4 = .pointer (some ⟨g2, 0, none⟩) ∧ F' 5 = .pointer (some ⟨g3, 0, none⟩) ∧ F' 6 = .int .i64 0 ∧ F' 18 = .int .i64 ((uptoV b 0 5 : Nat) : Int) ∧ F' 19 = .bool false ∧ F' 37 = .bool (decide (uptoV b 0 5 = 2))) ⟨e0, e2, e3, e4, e5, e6, e18, (e19.trans (congrArg Value.bool (decide_eq_false hc1))), rfl⟩ ?_
    clear e0 e2 e3 e4 e5 e6 e18 e19
    clear F
    rintro F ⟨e0, e2, e3, e4, e5, e6, e18, e19, e37⟩
    by_cases hc4 : uptoV b 0 5 = 2
    · refine wp_cond_true (fr_eval rfl (e37.trans (congrArg Value.bool (decide_eq_true hc4)))) ?_
      refine wp_regionF ?_
      refine lf_val (v := .pointer (some ⟨g2, 0, none⟩)) (wantAll rfl) (rv_move rfl (fr_eval rfl e4)) ?_
      refine lf_call (wantAll rfl) (rv_call (args := [.pointer (some ⟨g2, 0, none⟩), .int .i64 1048576]) rfl (evc (fr_eval rfl rfl) (evc rfl evn)) Try.call16) (upto_calls 1048576 _ (hH.eye (i := 1) rfl) (eye_ne hH (i := 1) rfl hv_g2)) ?_
      rintro _ w21 ⟨rfl, hy, hxf⟩
      refine ⟨_, rfl, ?_⟩
      replace hH : Heap _ _ _ [_, _, _] := hH.setEye (i := 1) rfl rfl hv_g2 hy hxf
      clear hy
      clear hxf
      obtain ⟨R10, hR10⟩ : ∃ q : List UInt8, q = (numR R3 K3) := ⟨_, rfl⟩
      obtain ⟨K11, hK11⟩ : ∃ q : Int, q = (uptoE R3 K3 1048576) := ⟨_, rfl⟩
      rw [← hR10, ← hK11] at hH
      refine lf_val (v := .pointer (some ⟨g2, 0, none⟩)) (wantAll rfl) (rv_move rfl (fr_eval rfl e4)) ?_
      refine lf_call (wantAll rfl) (rv_call (args := [.pointer (some ⟨g2, 0, none⟩)]) rfl (evc (fr_eval rfl rfl) evn) Try.call30) (sumE_calls  _ (hH.eye (i := 1) rfl) (eye_ne hH (i := 1) rfl hv_g2) (eye_lt hH.up hH.size hv_g2)) ?_
      rintro _ w22 ⟨rfl, hy, hxf⟩
      refine ⟨_, rfl, ?_⟩
      replace hH : Heap _ _ _ [_, _, _] := hH.setEye (i := 1) rfl rfl hv_g2 hy hxf
      clear hy
      clear hxf
      obtain ⟨R11, hR11⟩ : ∃ q : List UInt8, q = (rawR R10 K11 32) := ⟨_, rfl⟩
      obtain ⟨K12, hK12⟩ : ∃ q : Int, q = (rawE R10 K11 32) := ⟨_, rfl⟩
      rw [← hR11, ← hK12] at hH
      refine lf_val (v := .pointer (some ⟨g2, 0, none⟩)) (wantAll rfl) (rv_move rfl (fr_eval rfl e4)) ?_
      refine lf_call (wantAll rfl) (rv_call (args := [.pointer (some ⟨g2, 0, none⟩)]) rfl (evc (fr_eval rfl rfl) evn) Try.call63) (sign_calls  _ (hH.eye (i := 1) rfl) (eye_ne hH (i := 1) rfl hv_g2) (eye_lt hH.up hH.size hv_g2)) ?_
      rintro _ w23 ⟨rfl, hy, hxf⟩
      refine ⟨_, rfl, ?_⟩
      replace hH : Heap _ _ _ [_, _, _] := hH.setEye (i := 1) rfl rfl hv_g2 hy hxf
      clear hy
      clear hxf
      obtain ⟨R12, hR12⟩ : ∃ q : List UInt8, q = (rawR (numR R11 K12) (uptoE R11 K12 255) 32) := ⟨_, rfl⟩
      obtain ⟨K13, hK13⟩ : ∃ q : Int, q = (rawE (numR R11 K12) (uptoE R11 K12 255) 32) := ⟨_, rfl⟩
      rw [← hR12, ← hK13] at hH
      refine lf_val (v := .pointer (some ⟨g3, 103, none⟩)) (wantAll rfl) (rv_fieldAddr (n := 0) rfl (fr_eval rfl e5) Try.underlying81 rfl rfl (by kernel_rfl)) ?_
      refine lf_sk (wantAll rfl) (hx_storeC hH (i := 2) (j := 103) (v := .int .i64 ((uptoV R3 K3 1048576 : Nat) : Int)) rfl rfl rfl (lt_of_len (zTG_l10 (List.length_replicate ..) (List.length_replicate ..) (List.length_replicate ..) (List.length_replicate ..) (List.length_replicate ..) (List.length_replicate ..) (List.length_replicate ..)) (by decide)) (set_lay (lt_of_len (zTG_l10 (List.length_replicate ..) (List.length_replicate ..) (List.length_replicate ..) (List.length_replicate ..) (List.length_replicate ..) (List.length_replicate ..) (List.length_replicate ..)) (by decide)) (zTG_y27 (List.length_replicate ..) (List.length_replicate ..) (List.length_replicate ..) (List.length_replicate ..) (List.length_replicate ..) (List.length_replicate ..) (List.length_replicate ..))) (fr_eval rfl rfl) (fr_eval rfl rfl) Try.sz3 rfl) ?_
      clear hH
      rintro w24 ⟨hH, hx⟩
      replace hH : Heap _ _ _ [_, _, _] := hH
      clear hx
      refine lf_val (v := .pointer (some ⟨g3, 104, none⟩)) (wantAll rfl) (rv_fieldAddr (n := 31) rfl (fr_eval rfl e5) Try.underlying81 rfl rfl (by kernel_rfl)) ?_
      refine lf_sk (wantAll rfl) (hx_storeM hH (i := 2) (j := 104) (cs := cBs (sumV R10 K11)) rfl rfl rfl (zTG_y28 (List.length_replicate ..) (List.length_replicate ..) (List.length_replicate ..) (List.length_replicate ..) (List.length_replicate ..) (List.length_replicate ..) (List.length_replicate ..) sumV_len) (le_of_len (zTG_l10 (List.length_replicate ..) (List.length_replicate ..) (List.length_replicate ..) (List.length_replicate ..) (List.length_replicate ..) (List.length_replicate ..) (List.length_replicate ..)) (cBs_len sumV_len) (by decide)) (fr_eval rfl rfl) (fr_eval rfl rfl) (sz_len Try.sz45 (cBs_len sumV_len)) ((cBs_one _))) ?_
      clear hH
      rintro w25 ⟨hH, hx⟩
      replace hH : Heap _ _ _ [_, _, _] := hH
      clear hx
      refine lf_val (v := .pointer (some ⟨g3, 70, none⟩)) (wantAll rfl) (rv_fieldAddr (n := 32) rfl (fr_eval rfl e5) Try.underlying81 rfl rfl (by kernel_rfl)) ?_
      refine lf_sk (wantAll rfl) (hx_storeM hH (i := 2) (j := 70) (cs := ([.int .i64 ((uptoV R11 K12 255 : Nat) : Int)] : List Value) ++ cBs (sumV (numR R11 K12) (uptoE R11 K12 255))) rfl rfl rfl (zTG_y26 (List.length_replicate ..) (List.length_replicate ..) (List.length_replicate ..) sumV_len (List.length_replicate ..) (List.length_replicate ..) (List.length_replicate ..) sumV_len) (le_of_len (zTG_l10 (List.length_replicate ..) (List.length_replicate ..) (List.length_replicate ..) sumV_len (List.length_replicate ..) (List.length_replicate ..) (List.length_replicate ..)) (zTG_l0 sumV_len) (by decide)) (fr_eval rfl rfl) (fr_eval rfl rfl) (sz_len Try.sz77 (zTG_l0 sumV_len)) (zTG_o3 rfl)) ?_
      clear hH
      rintro w26 ⟨hH, hx⟩
      replace hH : Heap _ _ _ [_, _, _] := hH
      clear hx
      refine lf_nil ?_
      refine blk_n ?_
      refine then_n ?_
      refine wp_seq ?_
      refine wp_seq ?_
      refine wp_gen (fun F' => F' 0 = v ∧ F' 2 = .pointer (some ⟨g1, 0, none⟩) ∧ F' 3 = .int .i64 0 ∧ F' 4 = .pointer (some ⟨g2, 0, none⟩) ∧ F' 5 = .pointer (some ⟨g3, 0, none⟩) ∧ F' 6 = .int .i64 0 ∧ F' 18 = .int .i64 ((uptoV b 0 5 : Nat) : Int) ∧ F' 19 = .bool false ∧ F' 37 = .bool true) ⟨e0, e2, e3, e4, e5, e6, e18, e19, (e37.trans (congrArg Value.bool (decide_eq_true hc4)))⟩ ?_
      clear e0 e2 e3 e4 e5 e6 e18 e19 e37
      clear F
      rintro F ⟨e0, e2, e3, e4, e5, e6, e18, e19, e37⟩
      have hM := mid_revoke hR1 hK1 hR2 hK2 hR3 hK3 hR10 hK11 hR11 hK12 rfl rfl hR12 hK13 (by assumption)
      refine wp_regionF ?_
      refine lf_val (v := .pointer (some ⟨g2, 0, none⟩)) (wantAll rfl) (rv_move rfl (fr_eval rfl e4)) ?_
      refine lf_call (wantAll rfl) (rv_call (args := [.pointer (some ⟨g2, 0, none⟩)]) rfl (evc (fr_eval rfl rfl) evn) Try.call22) (done_calls  _ (hH.eye (i := 1) rfl) (eye_ne hH (i := 1) rfl hv_g2)) ?_
      rintro _ w27 ⟨rfl, hy, hxf⟩
      refine ⟨_, rfl, ?_⟩
      replace hH : Heap _ _ _ [_, _, _] := hH.setEye (i := 1) rfl rfl hv_g2 hy hxf
      clear hy
      clear hxf
      obtain ⟨K14, hK14⟩ : ∃ q : Int, q = (doneE R12 K13) := ⟨_, rfl⟩
      rw [← hK14] at hH
      refine lf_val (v := .int .i64 (doneE R12 K13)) (wantAll rfl) (rv_assign rfl (fr_eval rfl rfl)) ?_
      refine lf_nil ?_
      refine then_n ?_
      refine wp_seq ?_
      refine wp_gen (fun F' => F' 0 = v ∧ F' 2 = .pointer (some ⟨g1, 0, none⟩) ∧ F' 3 = .int .i64 0 ∧ F' 4 = .pointer (some ⟨g2, 0, none⟩) ∧ F' 5 = .pointer (some ⟨g3, 0, none⟩) ∧ F' 6 = .int .i64 0 ∧ F' 7 = .int .i64 (doneE R12 K13) ∧ F' 18 = .int .i64 ((uptoV b 0 5 : Nat) : Int) ∧ F' 19 = .bool false ∧ F' 37 = .bool true) ⟨e0, e2, e3, e4, e5, e6, rfl, e18, e19, e37⟩ ?_
      clear e0 e2 e3 e4 e5 e6 e18 e19 e37
      clear F
      rintro F ⟨e0, e2, e3, e4, e5, e6, e7, e18, e19, e37⟩
      refine wp_regionF ?_
      refine lf_val (v := .int .i64 (doneE R12 K13)) (wantAll rfl) (rv_move rfl (fr_eval rfl e7)) ?_
      refine lf_val (v := .bool (decide (¬ doneE R12 K13 = 0))) (wantAll rfl) (rv_neqP (p := ¬ doneE R12 K13 = 0) rfl (fr_eval rfl rfl) rfl Iff.rfl) ?_
      refine lf_nil ?_
      refine then_n ?_
      refine wp_gen (fun F' => F' 0 = v ∧ F' 2 = .pointer (some ⟨g1, 0, none⟩) ∧ F' 3 = .int .i64 0 ∧ F' 4 = .pointer (some ⟨g2, 0, none⟩) ∧ F' 5 = .pointer (some ⟨g3, 0, none⟩) ∧ F' 6 = .int .i64 0 ∧ F' 7 = .int .i64 (doneE R12 K13) ∧ F' 18 = .int .i64 ((uptoV b 0 5 : Nat) : Int) ∧ F' 19 = .bool false ∧ F' 37 = .bool true ∧ F' 77 = .bool (decide (¬ doneE R12 K13 = 0))) ⟨e0, e2, e3, e4, e5, e6, e7, e18, e19, e37, rfl⟩ ?_
      clear e0 e2 e3 e4 e5 e6 e7 e18 e19 e37
      clear F
      rintro F ⟨e0, e2, e3, e4, e5, e6, e7, e18, e19, e37, e77⟩
      by_cases hc5 : doneE R12 K13 = 0
      · refine wp_cond_false (fr_eval rfl (e77.trans (congrArg Value.bool (decide_eq_false (not_not_intro hc5))))) ?_
        refine wp_skip ?_
        refine then_n ?_
        refine wp_seq ?_
        refine wp_seq ?_
        refine wp_regionF ?_
        refine lf_val (v := .int .i64 0) (wantAll rfl) (rv_move rfl (fr_eval rfl e6)) ?_
        refine lf_val (v := .bool false) (wantAll rfl) (rv_neq rfl (fr_eval rfl rfl) rfl (show decide ((0 : Int) = 0) = true from by decide)) ?_
        refine lf_nil ?_
        refine then_n ?_
        refine wp_gen (fun F' => F' 0 = v ∧ F' 2 = .pointer (some ⟨g1, 0, none⟩) ∧ F' 3 = .int .i64 0 ∧ F' 4 = .pointer (some ⟨g2, 0, none⟩) ∧ F' 5 = .pointer (some ⟨g3, 0, none⟩) ∧ F' 6 = .int .i64 0 ∧ F' 7 = .int .i64 (doneE R12 K13) ∧ F' 18 = .int .i64 ((uptoV b 0 5 : Nat) : Int) ∧ F' 19 = .bool false ∧ F' 37 = .bool true ∧ F' 77 = .bool false ∧ F' 81 = .bool false) ⟨e0, e2, e3, e4, e5, e6, e7, e18, e19, e37, (e77.trans (congrArg Value.bool (decide_eq_false (not_not_intro hc5)))), rfl⟩ ?_
        clear e0 e2 e3 e4 e5 e6 e7 e18 e19 e37 e77
        clear F
        rintro F ⟨e0, e2, e3, e4, e5, e6, e7, e18, e19, e37, e77, e81⟩
        refine wp_cond_false (fr_eval rfl e81) ?_
        refine wp_skip ?_
        refine then_n ?_
        refine wp_seq ?_
        refine wp_seq ?_
        refine wp_regionF ?_
        refine lf_val (wantAll rfl) (rv_loadW rfl (hH.blk (i := 2) rfl) (fr_eval rfl e5) Try.underlying81 rfl (sz_len Try.sz81 (zTG_l10 (List.length_replicate ..) (List.length_replicate ..) sumV_len sumV_len (List.length_replicate ..) (List.length_replicate ..) (List.length_replicate ..)))) ?_
        refine lf_call (wantAll rfl) (rv_call (args := [.agg (([.int .i64 ((uptoV b 0 5 : Nat) : Int), .int .i64 ((uptoV R1 K1 255 : Nat) : Int), .int .i64 ((uptoV R2 K2 255 : Nat) : Int), .int .i64 0, .int .i64 0, .int .i64 0] : List Value) ++ (cBs (List.replicate 32 0) ++ (cBs (List.replicate 32 0) ++ (([.int .i64 ((uptoV R11 K12 255 : Nat) : Int)] : List Value) ++ (cBs (sumV (numR R11 K12) (uptoE R11 K12 255)) ++ (([.int .i64 ((uptoV R3 K3 1048576 : Nat) : Int)] : List Value) ++ (cBs (sumV R10 K11) ++ (([.int .i64 0, .int .i64 0] : List Value) ++ (cBs (List.replicate 32 0) ++ (([.slice none 0 0, .int .i64 0, .int .i64 0, .int .i64 0] : List Value) ++ (cBs (List.replicate 32 0) ++ (cBs (List.replicate 32 0) ++ ([.slice none 0 0] : List Value))))))))))))).toArray]) rfl (evc (fr_eval rfl rfl) evn) Try.call52) (msRight_calls (⟨((uptoV b 0 5 : Nat) : Int), ((uptoV R1 K1 255 : Nat) : Int), ((uptoV R2 K2 255 : Nat) : Int), 0, 0, 0, ⟨List.replicate 32 0, (List.length_replicate ..)⟩, ⟨List.replicate 32 0, (List.length_replicate ..)⟩, ((uptoV R11 K12 255 : Nat) : Int), ⟨sumV (numR R11 K12) (uptoE R11 K12 255), sumV_len⟩, ((uptoV R3 K3 1048576 : Nat) : Int), ⟨(sumV R10 K11), sumV_len⟩, 0, 0, ⟨List.replicate 32 0, (List.length_replicate ..)⟩, (⟨0, 0, 0, ⟨List.replicate 32 0, (List.length_replicate ..)⟩, ⟨List.replicate 32 0, (List.length_replicate ..)⟩⟩ : Rc)⟩ : Ms) _ _ _) ?_
        rintro _ w28 ⟨rfl, hx⟩
        refine ⟨_, rfl, ?_⟩
        replace hH := hH.ext hx
        clear hx
        refine lf_val (v := .bool (decide (¬ (inM (⟨((uptoV b 0 5 : Nat) : Int), ((uptoV R1 K1 255 : Nat) : Int), ((uptoV R2 K2 255 : Nat) : Int), 0, 0, 0, ⟨List.replicate 32 0, (List.length_replicate ..)⟩, ⟨List.replicate 32 0, (List.length_replicate ..)⟩, ((uptoV R11 K12 255 : Nat) : Int), ⟨sumV (numR R11 K12) (uptoE R11 K12 255), sumV_len⟩, ((uptoV R3 K3 1048576 : Nat) : Int), ⟨(sumV R10 K11), sumV_len⟩, 0, 0, ⟨List.replicate 32 0, (List.length_replicate ..)⟩, (⟨0, 0, 0, ⟨List.replicate 32 0, (List.length_replicate ..)⟩, ⟨List.replicate 32 0, (List.length_replicate ..)⟩⟩ : Rc)⟩ : Ms))))) (wantAll rfl) (rv_notP (q := ¬ (inM (⟨((uptoV b 0 5 : Nat) : Int), ((uptoV R1 K1 255 : Nat) : Int), ((uptoV R2 K2 255 : Nat) : Int), 0, 0, 0, ⟨List.replicate 32 0, (List.length_replicate ..)⟩, ⟨List.replicate 32 0, (List.length_replicate ..)⟩, ((uptoV R11 K12 255 : Nat) : Int), ⟨sumV (numR R11 K12) (uptoE R11 K12 255), sumV_len⟩, ((uptoV R3 K3 1048576 : Nat) : Int), ⟨(sumV R10 K11), sumV_len⟩, 0, 0, ⟨List.replicate 32 0, (List.length_replicate ..)⟩, (⟨0, 0, 0, ⟨List.replicate 32 0, (List.length_replicate ..)⟩, ⟨List.replicate 32 0, (List.length_replicate ..)⟩⟩ : Rc)⟩ : Ms))) rfl (fr_eval rfl rfl) Iff.rfl) ?_
        refine lf_nil ?_
        refine then_n ?_
        refine wp_gen (fun F' => F' 0 = v ∧ F' 2 = .pointer (some ⟨g1, 0, none⟩) ∧ F' 3 = .int .i64 0 ∧ F' 4 = .pointer (some ⟨g2, 0, none⟩) ∧ F' 5 = .pointer (some ⟨g3, 0, none⟩) ∧ F' 6 = .int .i64 0 ∧ F' 7 = .int .i64 (doneE R12 K13) ∧ F' 18 = .int .i64 ((uptoV b 0 5 : Nat) : Int) ∧ F' 19 = .bool false ∧ F' 37 = .bool true ∧ F' 77 = .bool false ∧ F' 81 = .bool false ∧ F' 86 = .bool (decide (¬ (inM (⟨((uptoV b 0 5 : Nat) : Int), ((uptoV R1 K1 255 : Nat) : Int), ((uptoV R2 K2 255 : Nat) : Int), 0, 0, 0, ⟨List.replicate 32 0, (List.length_replicate ..)⟩, ⟨List.replicate 32 0, (List.length_replicate ..)⟩, ((uptoV R11 K12 255 : Nat) : Int), ⟨sumV (numR R11 K12) (uptoE R11 K12 255), sumV_len⟩, ((uptoV R3 K3 1048576 : Nat) : Int), ⟨(sumV R10 K11), sumV_len⟩, 0, 0, ⟨List.replicate 32 0, (List.length_replicate ..)⟩, (⟨0, 0, 0, ⟨List.replicate 32 0, (List.length_replicate ..)⟩, ⟨List.replicate 32 0, (List.length_replicate ..)⟩⟩ : Rc)⟩ : Ms))))) ⟨e0, e2, e3, e4, e5, e6, e7, e18, e19, e37, e77, e81, rfl⟩ ?_
        clear e0 e2 e3 e4 e5 e6 e7 e18 e19 e37 e77 e81
        clear F
        rintro F ⟨e0, e2, e3, e4, e5, e6, e7, e18, e19, e37, e77, e81, e86⟩
        by_cases hc6 : inM (⟨((uptoV b 0 5 : Nat) : Int), ((uptoV R1 K1 255 : Nat) : Int), ((uptoV R2 K2 255 : Nat) : Int), 0, 0, 0, ⟨List.replicate 32 0, (List.length_replicate ..)⟩, ⟨List.replicate 32 0, (List.length_replicate ..)⟩, ((uptoV R11 K12 255 : Nat) : Int), ⟨sumV (numR R11 K12) (uptoE R11 K12 255), sumV_len⟩, ((uptoV R3 K3 1048576 : Nat) : Int), ⟨(sumV R10 K11), sumV_len⟩, 0, 0, ⟨List.replicate 32 0, (List.length_replicate ..)⟩, (⟨0, 0, 0, ⟨List.replicate 32 0, (List.length_replicate ..)⟩, ⟨List.replicate 32 0, (List.length_replicate ..)⟩⟩ : Rc)⟩ : Ms)
        · refine wp_cond_false (fr_eval rfl (e86.trans (congrArg Value.bool (decide_eq_false (not_not_intro hc6))))) ?_
          refine wp_skip ?_
          refine then_n ?_
          refine wp_seq ?_
          refine wp_regionF ?_
          refine lf_val (wantAll rfl) (rv_loadW rfl (hH.blk (i := 2) rfl) (fr_eval rfl e5) Try.underlying81 rfl (sz_len Try.sz81 (zTG_l10 (List.length_replicate ..) (List.length_replicate ..) sumV_len sumV_len (List.length_replicate ..) (List.length_replicate ..) (List.length_replicate ..)))) ?_
          refine lf_sk (wantAll rfl) (hx_storeW hH (i := 0) (cs := ([.int .i64 ((uptoV b 0 5 : Nat) : Int), .int .i64 ((uptoV R1 K1 255 : Nat) : Int), .int .i64 ((uptoV R2 K2 255 : Nat) : Int), .int .i64 0, .int .i64 0, .int .i64 0] : List Value) ++ (cBs (List.replicate 32 0) ++ (cBs (List.replicate 32 0) ++ (([.int .i64 ((uptoV R11 K12 255 : Nat) : Int)] : List Value) ++ (cBs (sumV (numR R11 K12) (uptoE R11 K12 255)) ++ (([.int .i64 ((uptoV R3 K3 1048576 : Nat) : Int)] : List Value) ++ (cBs (sumV R10 K11) ++ (([.int .i64 0, .int .i64 0] : List Value) ++ (cBs (List.replicate 32 0) ++ (([.slice none 0 0, .int .i64 0, .int .i64 0, .int .i64 0] : List Value) ++ (cBs (List.replicate 32 0) ++ (cBs (List.replicate 32 0) ++ ([.slice none 0 0] : List Value))))))))))))) rfl rfl rfl (fr_eval rfl e2) (fr_eval rfl rfl) (sz_len Try.sz81 (zTG_l10 (List.length_replicate ..) (List.length_replicate ..) sumV_len sumV_len (List.length_replicate ..) (List.length_replicate ..) (List.length_replicate ..))) (((zTG_l10 (List.length_replicate ..) (List.length_replicate ..) (List.length_replicate ..) (List.length_replicate ..) (List.length_replicate ..) (List.length_replicate ..) (List.length_replicate ..))).trans ((zTG_l10 (List.length_replicate ..) (List.length_replicate ..) sumV_len sumV_len (List.length_replicate ..) (List.length_replicate ..) (List.length_replicate ..))).symm) (zTG_o14 rfl rfl rfl rfl rfl rfl rfl rfl rfl rfl rfl rfl rfl rfl rfl)) ?_
          clear hH
          rintro w29 ⟨hH, hx⟩
          replace hH : Heap _ _ _ [_, _, _] := hH
          clear hx
          refine lf_val (v := .int .i64 0) (wantAll rfl) (rv_assign rfl rfl) ?_
          refine lf_nil ?_
          refine then_n ?_
          refine wp_gen (fun F' => F' 0 = v ∧ F' 2 = .pointer (some ⟨g1, 0, none⟩) ∧ F' 3 = .int .i64 0 ∧ F' 4 = .pointer (some ⟨g2, 0, none⟩) ∧ F' 5 = .pointer (some ⟨g3, 0, none⟩) ∧ F' 6 = .int .i64 0 ∧ F' 7 = .int .i64 (doneE R12 K13) ∧ F' 18 = .int .i64 ((uptoV b 0 5 : Nat) : Int) ∧ F' 19 = .bool false ∧ F' 37 = .bool true ∧ F' 77 = .bool false ∧ F' 81 = .bool false ∧ F' 86 = .bool false) ⟨e0, e2, rfl, e4, e5, e6, e7, e18, e19, e37, e77, e81, (e86.trans (congrArg Value.bool (decide_eq_false (not_not_intro hc6))))⟩ ?_
          clear e0 e2 e3 e4 e5 e6 e7 e18 e19 e37 e77 e81 e86
          clear F
          rintro F ⟨e0, e2, e3, e4, e5, e6, e7, e18, e19, e37, e77, e81, e86⟩
          refine wp_ret ?_
          have hF := hH
          replace hF : Heap _ _ _ [_, _, _, _] := hF.addNil 5 1
          replace hF : Heap _ _ _ [_, _, _, _, _] := hF.addNil 5 1
          replace hF : Heap _ _ _ [_, _] := hF.drop (.cons _ (.cons _ (.cons _ (.cons_cons _ (.cons_cons _ .slnil)))))
          exact bodyPost_ret (res2 rfl (ro_cell rfl e2 (hH.blk (i := 0) rfl) Try.underlying81 rfl (sz_len Try.sz81 (zTG_l10 (List.length_replicate ..) (List.length_replicate ..) sumV_len sumV_len (List.length_replicate ..) (List.length_replicate ..) (List.length_replicate ..)))) (ro_tmp rfl e3)) rfl (⟨_, _, _, _, _, _, rfl, hM.ok (by assumption) rfl (by assumption), hF⟩)
        · refine wp_cond_true (fr_eval rfl (e86.trans (congrArg Value.bool (decide_eq_true hc6)))) ?_
          refine wp_seq ?_
          refine wp_regionF ?_
          refine lf_val (wantAll rfl) (rv_buildS (ps := []) (places := #[(0, 1), (1, 1), (2, 1), (3, 67), (70, 33), (103, 1), (104, 32), (136, 35), (171, 68)]) (z := .agg (([.int .i64 0, .int .i64 0, .int .i64 0, .int .i64 0, .int .i64 0, .int .i64 0] : List Value) ++ (cBs (List.replicate 32 0) ++ (cBs (List.replicate 32 0) ++ (([.int .i64 0] : List Value) ++ (cBs (List.replicate 32 0) ++ (([.int .i64 0] : List Value) ++ (cBs (List.replicate 32 0) ++ (([.int .i64 0, .int .i64 0] : List Value) ++ (cBs (List.replicate 32 0) ++ (([.slice none 0 0, .int .i64 0, .int .i64 0, .int .i64 0] : List Value) ++ (cBs (List.replicate 32 0) ++ (cBs (List.replicate 32 0) ++ ([.slice none 0 0] : List Value))))))))))))).toArray) (zc := ([.int .i64 0, .int .i64 0, .int .i64 0, .int .i64 0, .int .i64 0, .int .i64 0] : List Value) ++ (cBs (List.replicate 32 0) ++ (cBs (List.replicate 32 0) ++ (([.int .i64 0] : List Value) ++ (cBs (List.replicate 32 0) ++ (([.int .i64 0] : List Value) ++ (cBs (List.replicate 32 0) ++ (([.int .i64 0, .int .i64 0] : List Value) ++ (cBs (List.replicate 32 0) ++ (([.slice none 0 0, .int .i64 0, .int .i64 0, .int .i64 0] : List Value) ++ (cBs (List.replicate 32 0) ++ (cBs (List.replicate 32 0) ++ ([.slice none 0 0] : List Value))))))))))))) (cs := ([.int .i64 0, .int .i64 0, .int .i64 0, .int .i64 0, .int .i64 0, .int .i64 0] : List Value) ++ (cBs (List.replicate 32 0) ++ (cBs (List.replicate 32 0) ++ (([.int .i64 0] : List Value) ++ (cBs (List.replicate 32 0) ++ (([.int .i64 0] : List Value) ++ (cBs (List.replicate 32 0) ++ (([.int .i64 0, .int .i64 0] : List Value) ++ (cBs (List.replicate 32 0) ++ (([.slice none 0 0, .int .i64 0, .int .i64 0, .int .i64 0] : List Value) ++ (cBs (List.replicate 32 0) ++ (cBs (List.replicate 32 0) ++ ([.slice none 0 0] : List Value))))))))))))) rfl evpn (by kernel_rfl) rfl Try.underlying81 (fun _ => by kernel_rfl) fill0) ?_
          refine lf_sk (wantAll rfl) (hx_storeW hH (i := 0) (cs := ([.int .i64 0, .int .i64 0, .int .i64 0, .int .i64 0, .int .i64 0, .int .i64 0] : List Value) ++ (cBs (List.replicate 32 0) ++ (cBs (List.replicate 32 0) ++ (([.int .i64 0] : List Value) ++ (cBs (List.replicate 32 0) ++ (([.int .i64 0] : List Value) ++ (cBs (List.replicate 32 0) ++ (([.int .i64 0, .int .i64 0] : List Value) ++ (cBs (List.replicate 32 0) ++ (([.slice none 0 0, .int .i64 0, .int .i64 0, .int .i64 0] : List Value) ++ (cBs (List.replicate 32 0) ++ (cBs (List.replicate 32 0) ++ ([.slice none 0 0] : List Value))))))))))))) rfl rfl rfl (fr_eval rfl e2) (fr_eval rfl rfl) (sz_len Try.sz81 (zTG_l10 (List.length_replicate ..) (List.length_replicate ..) (List.length_replicate ..) (List.length_replicate ..) (List.length_replicate ..) (List.length_replicate ..) (List.length_replicate ..))) (((zTG_l10 (List.length_replicate ..) (List.length_replicate ..) (List.length_replicate ..) (List.length_replicate ..) (List.length_replicate ..) (List.length_replicate ..) (List.length_replicate ..))).trans ((zTG_l10 (List.length_replicate ..) (List.length_replicate ..) (List.length_replicate ..) (List.length_replicate ..) (List.length_replicate ..) (List.length_replicate ..) (List.length_replicate ..))).symm) (zTG_o14 rfl rfl rfl rfl rfl rfl rfl rfl rfl rfl rfl rfl rfl rfl rfl)) ?_
          clear hH
          rintro w30 ⟨hH, hx⟩
          replace hH : Heap _ _ _ [_, _, _] := hH
          clear hx
          refine lf_val (v := .int .i64 4) (wantAll rfl) (rv_assign rfl rfl) ?_
          refine lf_nil ?_
          refine then_n ?_
          refine wp_gen (fun F' => F' 0 = v ∧ F' 2 = .pointer (some ⟨g1, 0, none⟩) ∧ F' 3 = .int .i64 4 ∧ F' 4 = .pointer (some ⟨g2, 0, none⟩) ∧ F' 5 = .pointer (some ⟨g3, 0, none⟩) ∧ F' 6 = .int .i64 0 ∧ F' 7 = .int .i64 (doneE R12 K13) ∧ F' 18 = .int .i64 ((uptoV b 0 5 : Nat) : Int) ∧ F' 19 = .bool false ∧ F' 37 = .bool true ∧ F' 77 = .bool false ∧ F' 81 = .bool false ∧ F' 86 = .bool true) ⟨e0, e2, rfl, e4, e5, e6, e7, e18, e19, e37, e77, e81, (e86.trans (congrArg Value.bool (decide_eq_true hc6)))⟩ ?_
          clear e0 e2 e3 e4 e5 e6 e7 e18 e19 e37 e77 e81 e86
          clear F
          rintro F ⟨e0, e2, e3, e4, e5, e6, e7, e18, e19, e37, e77, e81, e86⟩
          refine wp_ret ?_
          refine then_ret ?_
          have hF := hH
          replace hF : Heap _ _ _ [_, _, _, _] := hF.addNil 5 1
          replace hF : Heap _ _ _ [_, _, _, _, _] := hF.addNil 5 1
          replace hF : Heap _ _ _ [_, _] := hF.drop (.cons _ (.cons _ (.cons _ (.cons_cons _ (.cons_cons _ .slnil)))))
          exact bodyPost_ret (res2 rfl (ro_cell rfl e2 (hH.blk (i := 0) rfl) Try.underlying81 rfl (sz_len Try.sz81 (zTG_l10 (List.length_replicate ..) (List.length_replicate ..) (List.length_replicate ..) (List.length_replicate ..) (List.length_replicate ..) (List.length_replicate ..) (List.length_replicate ..)))) (ro_tmp rfl e3)) rfl (⟨zM, [], [], _, _, _, rfl, hM.no (by assumption), hF⟩)
      · refine wp_cond_true (fr_eval rfl (e77.trans (congrArg Value.bool (decide_eq_true hc5)))) ?_
        refine wp_seq ?_
        refine wp_regionF ?_
        refine lf_val (wantAll rfl) (rv_buildS (ps := []) (places := #[(0, 1), (1, 1), (2, 1), (3, 67), (70, 33), (103, 1), (104, 32), (136, 35), (171, 68)]) (z := .agg (([.int .i64 0, .int .i64 0, .int .i64 0, .int .i64 0, .int .i64 0, .int .i64 0] : List Value) ++ (cBs (List.replicate 32 0) ++ (cBs (List.replicate 32 0) ++ (([.int .i64 0] : List Value) ++ (cBs (List.replicate 32 0) ++ (([.int .i64 0] : List Value) ++ (cBs (List.replicate 32 0) ++ (([.int .i64 0, .int .i64 0] : List Value) ++ (cBs (List.replicate 32 0) ++ (([.slice none 0 0, .int .i64 0, .int .i64 0, .int .i64 0] : List Value) ++ (cBs (List.replicate 32 0) ++ (cBs (List.replicate 32 0) ++ ([.slice none 0 0] : List Value))))))))))))).toArray) (zc := ([.int .i64 0, .int .i64 0, .int .i64 0, .int .i64 0, .int .i64 0, .int .i64 0] : List Value) ++ (cBs (List.replicate 32 0) ++ (cBs (List.replicate 32 0) ++ (([.int .i64 0] : List Value) ++ (cBs (List.replicate 32 0) ++ (([.int .i64 0] : List Value) ++ (cBs (List.replicate 32 0) ++ (([.int .i64 0, .int .i64 0] : List Value) ++ (cBs (List.replicate 32 0) ++ (([.slice none 0 0, .int .i64 0, .int .i64 0, .int .i64 0] : List Value) ++ (cBs (List.replicate 32 0) ++ (cBs (List.replicate 32 0) ++ ([.slice none 0 0] : List Value))))))))))))) (cs := ([.int .i64 0, .int .i64 0, .int .i64 0, .int .i64 0, .int .i64 0, .int .i64 0] : List Value) ++ (cBs (List.replicate 32 0) ++ (cBs (List.replicate 32 0) ++ (([.int .i64 0] : List Value) ++ (cBs (List.replicate 32 0) ++ (([.int .i64 0] : List Value) ++ (cBs (List.replicate 32 0) ++ (([.int .i64 0, .int .i64 0] : List Value) ++ (cBs (List.replicate 32 0) ++ (([.slice none 0 0, .int .i64 0, .int .i64 0, .int .i64 0] : List Value) ++ (cBs (List.replicate 32 0) ++ (cBs (List.replicate 32 0) ++ ([.slice none 0 0] : List Value))))))))))))) rfl evpn (by kernel_rfl) rfl Try.underlying81 (fun _ => by kernel_rfl) fill0) ?_
        refine lf_val (v := .int .i64 (doneE R12 K13)) (wantAll rfl) (rv_move rfl (fr_eval rfl e7)) ?_
        refine lf_sk (wantAll rfl) (hx_storeW hH (i := 0) (cs := ([.int .i64 0, .int .i64 0, .int .i64 0, .int .i64 0, .int .i64 0, .int .i64 0] : List Value) ++ (cBs (List.replicate 32 0) ++ (cBs (List.replicate 32 0) ++ (([.int .i64 0] : List Value) ++ (cBs (List.replicate 32 0) ++ (([.int .i64 0] : List Value) ++ (cBs (List.replicate 32 0) ++ (([.int .i64 0, .int .i64 0] : List Value) ++ (cBs (List.replicate 32 0) ++ (([.slice none 0 0, .int .i64 0, .int .i64 0, .int .i64 0] : List Value) ++ (cBs (List.replicate 32 0) ++ (cBs (List.replicate 32 0) ++ ([.slice none 0 0] : List Value))))))))))))) rfl rfl rfl (fr_eval rfl e2) (fr_eval rfl rfl) (sz_len Try.sz81 (zTG_l10 (List.length_replicate ..) (List.length_replicate ..) (List.length_replicate ..) (List.length_replicate ..) (List.length_replicate ..) (List.length_replicate ..) (List.length_replicate ..))) (((zTG_l10 (List.length_replicate ..) (List.length_replicate ..) (List.length_replicate ..) (List.length_replicate ..) (List.length_replicate ..) (List.length_replicate ..) (List.length_replicate ..))).trans ((zTG_l10 (List.length_replicate ..) (List.length_replicate ..) (List.length_replicate ..) (List.length_replicate ..) (List.length_replicate ..) (List.length_replicate ..) (List.length_replicate ..))).symm) (zTG_o14 rfl rfl rfl rfl rfl rfl rfl rfl rfl rfl rfl rfl rfl rfl rfl)) ?_
        clear hH
        rintro w31 ⟨hH, hx⟩
        replace hH : Heap _ _ _ [_, _, _] := hH
        clear hx
        refine lf_val (v := .int .i64 (doneE R12 K13)) (wantAll rfl) (rv_assign rfl (fr_eval rfl rfl)) ?_
        refine lf_nil ?_
        refine then_n ?_
        refine wp_gen (fun F' => F' 0 = v ∧ F' 2 = .pointer (some ⟨g1, 0, none⟩) ∧ F' 3 = .int .i64 (doneE R12 K13) ∧ F' 4 = .pointer (some ⟨g2, 0, none⟩) ∧ F' 5 = .pointer (some ⟨g3, 0, none⟩) ∧ F' 6 = .int .i64 0 ∧ F' 7 = .int .i64 (doneE R12 K13) ∧ F' 18 = .int .i64 ((uptoV b 0 5 : Nat) : Int) ∧ F' 19 = .bool false ∧ F' 37 = .bool true ∧ F' 77 = .bool true) ⟨e0, e2, rfl, e4, e5, e6, e7, e18, e19, e37, (e77.trans (congrArg Value.bool (decide_eq_true hc5)))⟩ ?_
        clear e0 e2 e3 e4 e5 e6 e7 e18 e19 e37 e77
        clear F
        rintro F ⟨e0, e2, e3, e4, e5, e6, e7, e18, e19, e37, e77⟩
        refine wp_ret ?_
        refine then_ret ?_
        have hF := hH
        replace hF : Heap _ _ _ [_, _, _, _] := hF.addNil 5 1
        replace hF : Heap _ _ _ [_, _, _, _, _] := hF.addNil 5 1
        replace hF : Heap _ _ _ [_, _] := hF.drop (.cons _ (.cons _ (.cons _ (.cons_cons _ (.cons_cons _ .slnil)))))
        exact bodyPost_ret (res2 rfl (ro_cell rfl e2 (hH.blk (i := 0) rfl) Try.underlying81 rfl (sz_len Try.sz81 (zTG_l10 (List.length_replicate ..) (List.length_replicate ..) (List.length_replicate ..) (List.length_replicate ..) (List.length_replicate ..) (List.length_replicate ..) (List.length_replicate ..)))) (ro_tmp rfl e3)) rfl (⟨zM, [], [], _, _, _, rfl, hM.done (by assumption), hF⟩)
    · refine wp_cond_false (fr_eval rfl (e37.trans (congrArg Value.bool (decide_eq_false hc4)))) ?_
      refine wp_seq ?_
      refine wp_regionF ?_
      refine lf_val (v := .bool (decide (uptoV b 0 5 = 3))) (wantAll rfl) (rv_eqlP (p := uptoV b 0 5 = 3) rfl (fr_eval rfl e18) rfl (by omega)) ?_
      refine lf_val (v := .bool (decide (uptoV b 0 5 = 3))) (wantAll rfl) (rv_assign rfl (fr_eval rfl rfl)) ?_
      refine lf_nil ?_
      refine then_n ?_
      refine wp_gen (fun F' => F' 0 = v ∧ F' 2 = .pointer (some ⟨g1, 0, none⟩) ∧ F' 3 = .int .i64 0 ∧ F' 4 = .pointer (some ⟨g2, 0, none⟩) ∧ F' 5 = .pointer (some ⟨g3, 0, none⟩) ∧ F' 6 = .int .i64 0 ∧ F' 18 = .int .i64 ((uptoV b 0 5 : Nat) : Int) ∧ F' 19 = .bool false ∧ F' 37 = .bool false ∧ F' 48 = .bool (decide (uptoV b 0 5 = 3))) ⟨e0, e2, e3, e4, e5, e6, e18, e19, (e37.trans (congrArg Value.bool (decide_eq_false hc4))), rfl⟩ ?_
      clear e0 e2 e3 e4 e5 e6 e18 e19 e37
      clear F
      rintro F ⟨e0, e2, e3, e4, e5, e6, e18, e19, e37, e48⟩
      by_cases hc7 : uptoV b 0 5 = 3
      · refine wp_cond_true (fr_eval rfl (e48.trans (congrArg Value.bool (decide_eq_true hc7)))) ?_
        refine wp_regionF ?_
        refine lf_val (v := .pointer (some ⟨g2, 0, none⟩)) (wantAll rfl) (rv_move rfl (fr_eval rfl e4)) ?_
        refine lf_call (wantAll rfl) (rv_call (args := [.pointer (some ⟨g2, 0, none⟩), .int .i64 1048576]) rfl (evc (fr_eval rfl rfl) (evc rfl evn)) Try.call16) (upto_calls 1048576 _ (hH.eye (i := 1) rfl) (eye_ne hH (i := 1) rfl hv_g2)) ?_
        rintro _ w32 ⟨rfl, hy, hxf⟩
        refine ⟨_, rfl, ?_⟩
        replace hH : Heap _ _ _ [_, _, _] := hH.setEye (i := 1) rfl rfl hv_g2 hy hxf
        clear hy
        clear hxf
        obtain ⟨R13, hR13⟩ : ∃ q : List UInt8, q = (numR R3 K3) := ⟨_, rfl⟩
        obtain ⟨K15, hK15⟩ : ∃ q : Int, q = (uptoE R3 K3 1048576) := ⟨_, rfl⟩
        rw [← hR13, ← hK15] at hH
        refine lf_val (v := .pointer (some ⟨g2, 0, none⟩)) (wantAll rfl) (rv_move rfl (fr_eval rfl e4)) ?_
        refine lf_call (wantAll rfl) (rv_call (args := [.pointer (some ⟨g2, 0, none⟩)]) rfl (evc (fr_eval rfl rfl) evn) Try.call30) (sumE_calls  _ (hH.eye (i := 1) rfl) (eye_ne hH (i := 1) rfl hv_g2) (eye_lt hH.up hH.size hv_g2)) ?_
        rintro _ w33 ⟨rfl, hy, hxf⟩
        refine ⟨_, rfl, ?_⟩
        replace hH : Heap _ _ _ [_, _, _] := hH.setEye (i := 1) rfl rfl hv_g2 hy hxf
        clear hy
        clear hxf
        obtain ⟨R14, hR14⟩ : ∃ q : List UInt8, q = (rawR R13 K15 32) := ⟨_, rfl⟩
        obtain ⟨K16, hK16⟩ : ∃ q : Int, q = (rawE R13 K15 32) := ⟨_, rfl⟩
        rw [← hR14, ← hK16] at hH
        refine lf_val (v := .pointer (some ⟨g3, 103, none⟩)) (wantAll rfl) (rv_fieldAddr (n := 0) rfl (fr_eval rfl e5) Try.underlying81 rfl rfl (by kernel_rfl)) ?_
        refine lf_sk (wantAll rfl) (hx_storeC hH (i := 2) (j := 103) (v := .int .i64 ((uptoV R3 K3 1048576 : Nat) : Int)) rfl rfl rfl (lt_of_len (zTG_l10 (List.length_replicate ..) (List.length_replicate ..) (List.length_replicate ..) (List.length_replicate ..) (List.length_replicate ..) (List.length_replicate ..) (List.length_replicate ..)) (by decide)) (set_lay (lt_of_len (zTG_l10 (List.length_replicate ..) (List.length_replicate ..) (List.length_replicate ..) (List.length_replicate ..) (List.length_replicate ..) (List.length_replicate ..) (List.length_replicate ..)) (by decide)) (zTG_y27 (List.length_replicate ..) (List.length_replicate ..) (List.length_replicate ..) (List.length_replicate ..) (List.length_replicate ..) (List.length_replicate ..) (List.length_replicate ..))) (fr_eval rfl rfl) (fr_eval rfl rfl) Try.sz3 rfl) ?_
        clear hH
        rintro w34 ⟨hH, hx⟩
        replace hH : Heap _ _ _ [_, _, _] := hH
        clear hx
        refine lf_val (v := .pointer (some ⟨g3, 104, none⟩)) (wantAll rfl) (rv_fieldAddr (n := 31) rfl (fr_eval rfl e5) Try.underlying81 rfl rfl (by kernel_rfl)) ?_
        refine lf_sk (wantAll rfl) (hx_storeM hH (i := 2) (j := 104) (cs := cBs (sumV R13 K15)) rfl rfl rfl (zTG_y28 (List.length_replicate ..) (List.length_replicate ..) (List.length_replicate ..) (List.length_replicate ..) (List.length_replicate ..) (List.length_replicate ..) (List.length_replicate ..) sumV_len) (le_of_len (zTG_l10 (List.length_replicate ..) (List.length_replicate ..) (List.length_replicate ..) (List.length_replicate ..) (List.length_replicate ..) (List.length_replicate ..) (List.length_replicate ..)) (cBs_len sumV_len) (by decide)) (fr_eval rfl rfl) (fr_eval rfl rfl) (sz_len Try.sz45 (cBs_len sumV_len)) ((cBs_one _))) ?_
        clear hH
        rintro w35 ⟨hH, hx⟩
        replace hH : Heap _ _ _ [_, _, _] := hH
        clear hx
        refine lf_nil ?_
        refine blk_n ?_
        refine then_n ?_
        refine wp_seq ?_
        refine wp_seq ?_
        refine wp_gen (fun F' => F' 0 = v ∧ F' 2 = .pointer (some ⟨g1, 0, none⟩) ∧ F' 3 = .int .i64 0 ∧ F' 4 = .pointer (some ⟨g2, 0, none⟩) ∧ F' 5 = .pointer (some ⟨g3, 0, none⟩) ∧ F' 6 = .int .i64 0 ∧ F' 18 = .int .i64 ((uptoV b 0 5 : Nat) : Int) ∧ F' 19 = .bool false ∧ F' 37 = .bool false ∧ F' 48 = .bool true) ⟨e0, e2, e3, e4, e5, e6, e18, e19, e37, (e48.trans (congrArg Value.bool (decide_eq_true hc7)))⟩ ?_
        clear e0 e2 e3 e4 e5 e6 e18 e19 e37 e48
        clear F
        rintro F ⟨e0, e2, e3, e4, e5, e6, e18, e19, e37, e48⟩
        have hM := mid_secret hR1 hK1 hR2 hK2 hR3 hK3 hR13 hK15 hR14 hK16 (by assumption)
        refine wp_regionF ?_
        refine lf_val (v := .pointer (some ⟨g2, 0, none⟩)) (wantAll rfl) (rv_move rfl (fr_eval rfl e4)) ?_
        refine lf_call (wantAll rfl) (rv_call (args := [.pointer (some ⟨g2, 0, none⟩)]) rfl (evc (fr_eval rfl rfl) evn) Try.call22) (done_calls  _ (hH.eye (i := 1) rfl) (eye_ne hH (i := 1) rfl hv_g2)) ?_
        rintro _ w36 ⟨rfl, hy, hxf⟩
        refine ⟨_, rfl, ?_⟩
        replace hH : Heap _ _ _ [_, _, _] := hH.setEye (i := 1) rfl rfl hv_g2 hy hxf
        clear hy
        clear hxf
        obtain ⟨K17, hK17⟩ : ∃ q : Int, q = (doneE R14 K16) := ⟨_, rfl⟩
        rw [← hK17] at hH
        refine lf_val (v := .int .i64 (doneE R14 K16)) (wantAll rfl) (rv_assign rfl (fr_eval rfl rfl)) ?_
        refine lf_nil ?_
        refine then_n ?_
        refine wp_seq ?_
        refine wp_gen (fun F' => F' 0 = v ∧ F' 2 = .pointer (some ⟨g1, 0, none⟩) ∧ F' 3 = .int .i64 0 ∧ F' 4 = .pointer (some ⟨g2, 0, none⟩) ∧ F' 5 = .pointer (some ⟨g3, 0, none⟩) ∧ F' 6 = .int .i64 0 ∧ F' 7 = .int .i64 (doneE R14 K16) ∧ F' 18 = .int .i64 ((uptoV b 0 5 : Nat) : Int) ∧ F' 19 = .bool false ∧ F' 37 = .bool false ∧ F' 48 = .bool true) ⟨e0, e2, e3, e4, e5, e6, rfl, e18, e19, e37, e48⟩ ?_
        clear e0 e2 e3 e4 e5 e6 e18 e19 e37 e48
        clear F
        rintro F ⟨e0, e2, e3, e4, e5, e6, e7, e18, e19, e37, e48⟩
        refine wp_regionF ?_
        refine lf_val (v := .int .i64 (doneE R14 K16)) (wantAll rfl) (rv_move rfl (fr_eval rfl e7)) ?_
        refine lf_val (v := .bool (decide (¬ doneE R14 K16 = 0))) (wantAll rfl) (rv_neqP (p := ¬ doneE R14 K16 = 0) rfl (fr_eval rfl rfl) rfl Iff.rfl) ?_
        refine lf_nil ?_
        refine then_n ?_
        refine wp_gen (fun F' => F' 0 = v ∧ F' 2 = .pointer (some ⟨g1, 0, none⟩) ∧ F' 3 = .int .i64 0 ∧ F' 4 = .pointer (some ⟨g2, 0, none⟩) ∧ F' 5 = .pointer (some ⟨g3, 0, none⟩) ∧ F' 6 = .int .i64 0 ∧ F' 7 = .int .i64 (doneE R14 K16) ∧ F' 18 = .int .i64 ((uptoV b 0 5 : Nat) : Int) ∧ F' 19 = .bool false ∧ F' 37 = .bool false ∧ F' 48 = .bool true ∧ F' 77 = .bool (decide (¬ doneE R14 K16 = 0))) ⟨e0, e2, e3, e4, e5, e6, e7, e18, e19, e37, e48, rfl⟩ ?_
        clear e0 e2 e3 e4 e5 e6 e7 e18 e19 e37 e48
        clear F
        rintro F ⟨e0, e2, e3, e4, e5, e6, e7, e18, e19, e37, e48, e77⟩
        by_cases hc8 : doneE R14 K16 = 0
        · refine wp_cond_false (fr_eval rfl (e77.trans (congrArg Value.bool (decide_eq_false (not_not_intro hc8))))) ?_
          refine wp_skip ?_
          refine then_n ?_
          refine wp_seq ?_
          refine wp_seq ?_
          refine wp_regionF ?_
          refine lf_val (v := .int .i64 0) (wantAll rfl) (rv_move rfl (fr_eval rfl e6)) ?_
          refine lf_val (v := .bool false) (wantAll rfl) (rv_neq rfl (fr_eval rfl rfl) rfl (show decide ((0 : Int) = 0) = true from by decide)) ?_
          refine lf_nil ?_
          refine then_n ?_
          refine wp_gen (fun F' => F' 0 = v ∧ F' 2 = .pointer (some ⟨g1, 0, none⟩) ∧ F' 3 = .int .i64 0 ∧ F' 4 = .pointer (some ⟨g2, 0, none⟩) ∧ F' 5 = .pointer (some ⟨g3, 0, none⟩) ∧ F' 6 = .int .i64 0 ∧ F' 7 = .int .i64 (doneE R14 K16) ∧ F' 18 = .int .i64 ((uptoV b 0 5 : Nat) : Int) ∧ F' 19 = .bool false ∧ F' 37 = .bool false ∧ F' 48 = .bool true ∧ F' 77 = .bool false ∧ F' 81 = .bool false) ⟨e0, e2, e3, e4, e5, e6, e7, e18, e19, e37, e48, (e77.trans (congrArg Value.bool (decide_eq_false (not_not_intro hc8)))), rfl⟩ ?_
          clear e0 e2 e3 e4 e5 e6 e7 e18 e19 e37 e48 e77
          clear F
          rintro F ⟨e0, e2, e3, e4, e5, e6, e7, e18, e19, e37, e48, e77, e81⟩
          refine wp_cond_false (fr_eval rfl e81) ?_
          refine wp_skip ?_
          refine then_n ?_
          refine wp_seq ?_
          refine wp_seq ?_
          refine wp_regionF ?_
          refine lf_val (wantAll rfl) (rv_loadW rfl (hH.blk (i := 2) rfl) (fr_eval rfl e5) Try.underlying81 rfl (sz_len Try.sz81 (zTG_l10 (List.length_replicate ..) (List.length_replicate ..) (List.length_replicate ..) sumV_len (List.length_replicate ..) (List.length_replicate ..) (List.length_replicate ..)))) ?_
          refine lf_call (wantAll rfl) (rv_call (args := [.agg (([.int .i64 ((uptoV b 0 5 : Nat) : Int), .int .i64 ((uptoV R1 K1 255 : Nat) : Int), .int .i64 ((uptoV R2 K2 255 : Nat) : Int), .int .i64 0, .int .i64 0, .int .i64 0] : List Value) ++ (cBs (List.replicate 32 0) ++ (cBs (List.replicate 32 0) ++ (([.int .i64 0] : List Value) ++ (cBs (List.replicate 32 0) ++ (([.int .i64 ((uptoV R3 K3 1048576 : Nat) : Int)] : List Value) ++ (cBs (sumV R13 K15) ++ (([.int .i64 0, .int .i64 0] : List Value) ++ (cBs (List.replicate 32 0) ++ (([.slice none 0 0, .int .i64 0, .int .i64 0, .int .i64 0] : List Value) ++ (cBs (List.replicate 32 0) ++ (cBs (List.replicate 32 0) ++ ([.slice none 0 0] : List Value))))))))))))).toArray]) rfl (evc (fr_eval rfl rfl) evn) Try.call52) (msRight_calls (⟨((uptoV b 0 5 : Nat) : Int), ((uptoV R1 K1 255 : Nat) : Int), ((uptoV R2 K2 255 : Nat) : Int), 0, 0, 0, ⟨List.replicate 32 0, (List.length_replicate ..)⟩, ⟨List.replicate 32 0, (List.length_replicate ..)⟩, 0, ⟨List.replicate 32 0, (List.length_replicate ..)⟩, ((uptoV R3 K3 1048576 : Nat) : Int), ⟨(sumV R13 K15), sumV_len⟩, 0, 0, ⟨List.replicate 32 0, (List.length_replicate ..)⟩, (⟨0, 0, 0, ⟨List.replicate 32 0, (List.length_replicate ..)⟩, ⟨List.replicate 32 0, (List.length_replicate ..)⟩⟩ : Rc)⟩ : Ms) _ _ _) ?_
          rintro _ w37 ⟨rfl, hx⟩
          refine ⟨_, rfl, ?_⟩
          replace hH := hH.ext hx
          clear hx
          refine lf_val (v := .bool (decide (¬ (inM (⟨((uptoV b 0 5 : Nat) : Int), ((uptoV R1 K1 255 : Nat) : Int), ((uptoV R2 K2 255 : Nat) : Int), 0, 0, 0, ⟨List.replicate 32 0, (List.length_replicate ..)⟩, ⟨List.replicate 32 0, (List.length_replicate ..)⟩, 0, ⟨List.replicate 32 0, (List.length_replicate ..)⟩, ((uptoV R3 K3 1048576 : Nat) : Int), ⟨(sumV R13 K15), sumV_len⟩, 0, 0, ⟨List.replicate 32 0, (List.length_replicate ..)⟩, (⟨0, 0, 0, ⟨List.replicate 32 0, (List.length_replicate ..)⟩, ⟨List.replicate 32 0, (List.length_replicate ..)⟩⟩ : Rc)⟩ : Ms))))) (wantAll rfl) (rv_notP (q := ¬ (inM (⟨((uptoV b 0 5 : Nat) : Int), ((uptoV R1 K1 255 : Nat) : Int), ((uptoV R2 K2 255 : Nat) : Int), 0, 0, 0, ⟨List.replicate 32 0, (List.length_replicate ..)⟩, ⟨List.replicate 32 0, (List.length_replicate ..)⟩, 0, ⟨List.replicate 32 0, (List.length_replicate ..)⟩, ((uptoV R3 K3 1048576 : Nat) : Int), ⟨(sumV R13 K15), sumV_len⟩, 0, 0, ⟨List.replicate 32 0, (List.length_replicate ..)⟩, (⟨0, 0, 0, ⟨List.replicate 32 0, (List.length_replicate ..)⟩, ⟨List.replicate 32 0, (List.length_replicate ..)⟩⟩ : Rc)⟩ : Ms))) rfl (fr_eval rfl rfl) Iff.rfl) ?_
          refine lf_nil ?_
          refine then_n ?_
          refine wp_gen (fun F' => F' 0 = v ∧ F' 2 = .pointer (some ⟨g1, 0, none⟩) ∧ F' 3 = .int .i64 0 ∧ F' 4 = .pointer (some ⟨g2, 0, none⟩) ∧ F' 5 = .pointer (some ⟨g3, 0, none⟩) ∧ F' 6 = .int .i64 0 ∧ F' 7 = .int .i64 (doneE R14 K16) ∧ F' 18 = .int .i64 ((uptoV b 0 5 : Nat) : Int) ∧ F' 19 = .bool false ∧ F' 37 = .bool false ∧ F' 48 = .bool true ∧ F' 77 = .bool false ∧ F' 81 = .bool false ∧ F' 86 = .bool (decide (¬ (inM (⟨((uptoV b 0 5 : Nat) : Int), ((uptoV R1 K1 255 : Nat) : Int), ((uptoV R2 K2 255 : Nat) : Int), 0, 0, 0, ⟨List.replicate 32 0, (List.length_replicate ..)⟩, ⟨List.replicate 32 0, (List.length_replicate ..)⟩, 0, ⟨List.replicate 32 0, (List.length_replicate ..)⟩, ((uptoV R3 K3 1048576 : Nat) : Int), ⟨(sumV R13 K15), sumV_len⟩, 0, 0, ⟨List.replicate 32 0, (List.length_replicate ..)⟩, (⟨0, 0, 0, ⟨List.replicate 32 0, (List.length_replicate ..)⟩, ⟨List.replicate 32 0, (List.length_replicate ..)⟩⟩ : Rc)⟩ : Ms))))) ⟨e0, e2, e3, e4, e5, e6, e7, e18, e19, e37, e48, e77, e81, rfl⟩ ?_
          clear e0 e2 e3 e4 e5 e6 e7 e18 e19 e37 e48 e77 e81
          clear F
          rintro F ⟨e0, e2, e3, e4, e5, e6, e7, e18, e19, e37, e48, e77, e81, e86⟩
          by_cases hc9 : inM (⟨((uptoV b 0 5 : Nat) : Int), ((uptoV R1 K1 255 : Nat) : Int), ((uptoV R2 K2 255 : Nat) : Int), 0, 0, 0, ⟨List.replicate 32 0, (List.length_replicate ..)⟩, ⟨List.replicate 32 0, (List.length_replicate ..)⟩, 0, ⟨List.replicate 32 0, (List.length_replicate ..)⟩, ((uptoV R3 K3 1048576 : Nat) : Int), ⟨(sumV R13 K15), sumV_len⟩, 0, 0, ⟨List.replicate 32 0, (List.length_replicate ..)⟩, (⟨0, 0, 0, ⟨List.replicate 32 0, (List.length_replicate ..)⟩, ⟨List.replicate 32 0, (List.length_replicate ..)⟩⟩ : Rc)⟩ : Ms)
          · refine wp_cond_false (fr_eval rfl (e86.trans (congrArg Value.bool (decide_eq_false (not_not_intro hc9))))) ?_
            refine wp_skip ?_
            refine then_n ?_
            refine wp_seq ?_
            refine wp_regionF ?_
            refine lf_val (wantAll rfl) (rv_loadW rfl (hH.blk (i := 2) rfl) (fr_eval rfl e5) Try.underlying81 rfl (sz_len Try.sz81 (zTG_l10 (List.length_replicate ..) (List.length_replicate ..) (List.length_replicate ..) sumV_len (List.length_replicate ..) (List.length_replicate ..) (List.length_replicate ..)))) ?_
            refine lf_sk (wantAll rfl) (hx_storeW hH (i := 0) (cs := ([.int .i64 ((uptoV b 0 5 : Nat) : Int), .int .i64 ((uptoV R1 K1 255 : Nat) : Int), .int .i64 ((uptoV R2 K2 255 : Nat) : Int), .int .i64 0, .int .i64 0, .int .i64 0] : List Value) ++ (cBs (List.replicate 32 0) ++ (cBs (List.replicate 32 0) ++ (([.int .i64 0] : List Value) ++ (cBs (List.replicate 32 0) ++ (([.int .i64 ((uptoV R3 K3 1048576 : Nat) : Int)] : List Value) ++ (cBs (sumV R13 K15) ++ (([.int .i64 0, .int .i64 0] : List Value) ++ (cBs (List.replicate 32 0) ++ (([.slice none 0 0, .int .i64 0, .int .i64 0, .int .i64 0] : List Value) ++ (cBs (List.replicate 32 0) ++ (cBs (List.replicate 32 0) ++ ([.slice none 0 0] : List Value))))))))))))) rfl rfl rfl (fr_eval rfl e2) (fr_eval rfl rfl) (sz_len Try.sz81 (zTG_l10 (List.length_replicate ..) (List.length_replicate ..) (List.length_replicate ..) sumV_len (List.length_replicate ..) (List.length_replicate ..) (List.length_replicate ..))) (((zTG_l10 (List.length_replicate ..) (List.length_replicate ..) (List.length_replicate ..) (List.length_replicate ..) (List.length_replicate ..) (List.length_replicate ..) (List.length_replicate ..))).trans ((zTG_l10 (List.length_replicate ..) (List.length_replicate ..) (List.length_replicate ..) sumV_len (List.length_replicate ..) (List.length_replicate ..) (List.length_replicate ..))).symm) (zTG_o14 rfl rfl rfl rfl rfl rfl rfl rfl rfl rfl rfl rfl rfl rfl rfl)) ?_
            clear hH
            rintro w38 ⟨hH, hx⟩
            replace hH : Heap _ _ _ [_, _, _] := hH
            clear hx
            refine lf_val (v := .int .i64 0) (wantAll rfl) (rv_assign rfl rfl) ?_
            refine lf_nil ?_
            refine then_n ?_
            refine wp_gen (fun F' => F' 0 = v ∧ F' 2 = .pointer (some ⟨g1, 0, none⟩) ∧ F' 3 = .int .i64 0 ∧ F' 4 = .pointer (some ⟨g2, 0, none⟩) ∧ F' 5 = .pointer (some ⟨g3, 0, none⟩) ∧ F' 6 = .int .i64 0 ∧ F' 7 = .int .i64 (doneE R14 K16) ∧ F' 18 = .int .i64 ((uptoV b 0 5 : Nat) : Int) ∧ F' 19 = .bool false ∧ F' 37 = .bool false ∧ F' 48 = .bool true ∧ F' 77 = .bool false ∧ F' 81 = .bool false ∧ F' 86 = .bool false) ⟨e0, e2, rfl, e4, e5, e6, e7, e18, e19, e37, e48, e77, e81, (e86.trans (congrArg Value.bool (decide_eq_false (not_not_intro hc9))))⟩ ?_
            clear e0 e2 e3 e4 e5 e6 e7 e18 e19 e37 e48 e77 e81 e86
            clear F
            rintro F ⟨e0, e2, e3, e4, e5, e6, e7, e18, e19, e37, e48, e77, e81, e86⟩
            refine wp_ret ?_
            have hF := hH
            replace hF : Heap _ _ _ [_, _, _, _] := hF.addNil 5 1
            replace hF : Heap _ _ _ [_, _, _, _, _] := hF.addNil 5 1
            replace hF : Heap _ _ _ [_, _] := hF.drop (.cons _ (.cons _ (.cons _ (.cons_cons _ (.cons_cons _ .slnil)))))
            exact bodyPost_ret (res2 rfl (ro_cell rfl e2 (hH.blk (i := 0) rfl) Try.underlying81 rfl (sz_len Try.sz81 (zTG_l10 (List.length_replicate ..) (List.length_replicate ..) (List.length_replicate ..) sumV_len (List.length_replicate ..) (List.length_replicate ..) (List.length_replicate ..)))) (ro_tmp rfl e3)) rfl (⟨_, _, _, _, _, _, rfl, hM.ok (by assumption) rfl (by assumption), hF⟩)
          · refine wp_cond_true (fr_eval rfl (e86.trans (congrArg Value.bool (decide_eq_true hc9)))) ?_
            refine wp_seq ?_
            refine wp_regionF ?_
            refine lf_val (wantAll rfl) (rv_buildS (ps := []) (places := #[(0, 1), (1, 1), (2, 1), (3, 67), (70, 33), (103, 1), (104, 32), (136, 35), (171, 68)]) (z := .agg (([.int .i64 0, .int .i64 0, .int .i64 0, .int .i64 0, .int .i64 0, .int .i64 0] : List Value) ++ (cBs (List.replicate 32 0) ++ (cBs (List.replicate 32 0) ++ (([.int .i64 0] : List Value) ++ (cBs (List.replicate 32 0) ++ (([.int .i64 0] : List Value) ++ (cBs (List.replicate 32 0) ++ (([.int .i64 0, .int .i64 0] : List Value) ++ (cBs (List.replicate 32 0) ++ (([.slice none 0 0, .int .i64 0, .int .i64 0, .int .i64 0] : List Value) ++ (cBs (List.replicate 32 0) ++ (cBs (List.replicate 32 0) ++ ([.slice none 0 0] : List Value))))))))))))).toArray) (zc := ([.int .i64 0, .int .i64 0, .int .i64 0, .int .i64 0, .int .i64 0, .int .i64 0] : List Value) ++ (cBs (List.replicate 32 0) ++ (cBs (List.replicate 32 0) ++ (([.int .i64 0] : List Value) ++ (cBs (List.replicate 32 0) ++ (([.int .i64 0] : List Value) ++ (cBs (List.replicate 32 0) ++ (([.int .i64 0, .int .i64 0] : List Value) ++ (cBs (List.replicate 32 0) ++ (([.slice none 0 0, .int .i64 0, .int .i64 0, .int .i64 0] : List Value) ++ (cBs (List.replicate 32 0) ++ (cBs (List.replicate 32 0) ++ ([.slice none 0 0] : List Value))))))))))))) (cs := ([.int .i64 0, .int .i64 0, .int .i64 0, .int .i64 0, .int .i64 0, .int .i64 0] : List Value) ++ (cBs (List.replicate 32 0) ++ (cBs (List.replicate 32 0) ++ (([.int .i64 0] : List Value) ++ (cBs (List.replicate 32 0) ++ (([.int .i64 0] : List Value) ++ (cBs (List.replicate 32 0) ++ (([.int .i64 0, .int .i64 0] : List Value) ++ (cBs (List.replicate 32 0) ++ (([.slice none 0 0, .int .i64 0, .int .i64 0, .int .i64 0] : List Value) ++ (cBs (List.replicate 32 0) ++ (cBs (List.replicate 32 0) ++ ([.slice none 0 0] : List Value))))))))))))) rfl evpn (by kernel_rfl) rfl Try.underlying81 (fun _ => by kernel_rfl) fill0) ?_
            refine lf_sk (wantAll rfl) (hx_storeW hH (i := 0) (cs := ([.int .i64 0, .int .i64 0, .int .i64 0, .int .i64 0, .int .i64 0, .int .i64 0] : List Value) ++ (cBs (List.replicate 32 0) ++ (cBs (List.replicate 32 0) ++ (([.int .i64 0] : List Value) ++ (cBs (List.replicate 32 0) ++ (([.int .i64 0] : List Value) ++ (cBs (List.replicate 32 0) ++ (([.int .i64 0, .int .i64 0] : List Value) ++ (cBs (List.replicate 32 0) ++ (([.slice none 0 0, .int .i64 0, .int .i64 0, .int .i64 0] : List Value) ++ (cBs (List.replicate 32 0) ++ (cBs (List.replicate 32 0) ++ ([.slice none 0 0] : List Value))))))))))))) rfl rfl rfl (fr_eval rfl e2) (fr_eval rfl rfl) (sz_len Try.sz81 (zTG_l10 (List.length_replicate ..) (List.length_replicate ..) (List.length_replicate ..) (List.length_replicate ..) (List.length_replicate ..) (List.length_replicate ..) (List.length_replicate ..))) (((zTG_l10 (List.length_replicate ..) (List.length_replicate ..) (List.length_replicate ..) (List.length_replicate ..) (List.length_replicate ..) (List.length_replicate ..) (List.length_replicate ..))).trans ((zTG_l10 (List.length_replicate ..) (List.length_replicate ..) (List.length_replicate ..) (List.length_replicate ..) (List.length_replicate ..) (List.length_replicate ..) (List.length_replicate ..))).symm) (zTG_o14 rfl rfl rfl rfl rfl rfl rfl rfl rfl rfl rfl rfl rfl rfl rfl)) ?_
            clear hH
            rintro w39 ⟨hH, hx⟩
            replace hH : Heap _ _ _ [_, _, _] := hH
            clear hx
            refine lf_val (v := .int .i64 4) (wantAll rfl) (rv_assign rfl rfl) ?_
            refine lf_nil ?_
            refine then_n ?_
            refine wp_gen (fun F' => F' 0 = v ∧ F' 2 = .pointer (some ⟨g1, 0, none⟩) ∧ F' 3 = .int .i64 4 ∧ F' 4 = .pointer (some ⟨g2, 0, none⟩) ∧ F' 5 = .pointer (some ⟨g3, 0, none⟩) ∧ F' 6 = .int .i64 0 ∧ F' 7 = .int .i64 (doneE R14 K16) ∧ F' 18 = .int .i64 ((uptoV b 0 5 : Nat) : Int) ∧ F' 19 = .bool false ∧ F' 37 = .bool false ∧ F' 48 = .bool true ∧ F' 77 = .bool false ∧ F' 81 = .bool false ∧ F' 86 = .bool true) ⟨e0, e2, rfl, e4, e5, e6, e7, e18, e19, e37, e48, e77, e81, (e86.trans (congrArg Value.bool (decide_eq_true hc9)))⟩ ?_
            clear e0 e2 e3 e4 e5 e6 e7 e18 e19 e37 e48 e77 e81 e86
            clear F
            rintro F ⟨e0, e2, e3, e4, e5, e6, e7, e18, e19, e37, e48, e77, e81, e86⟩
            refine wp_ret ?_
            refine then_ret ?_
            have hF := hH
            replace hF : Heap _ _ _ [_, _, _, _] := hF.addNil 5 1
            replace hF : Heap _ _ _ [_, _, _, _, _] := hF.addNil 5 1
            replace hF : Heap _ _ _ [_, _] := hF.drop (.cons _ (.cons _ (.cons _ (.cons_cons _ (.cons_cons _ .slnil)))))
            exact bodyPost_ret (res2 rfl (ro_cell rfl e2 (hH.blk (i := 0) rfl) Try.underlying81 rfl (sz_len Try.sz81 (zTG_l10 (List.length_replicate ..) (List.length_replicate ..) (List.length_replicate ..) (List.length_replicate ..) (List.length_replicate ..) (List.length_replicate ..) (List.length_replicate ..)))) (ro_tmp rfl e3)) rfl (⟨zM, [], [], _, _, _, rfl, hM.no (by assumption), hF⟩)
        · refine wp_cond_true (fr_eval rfl (e77.trans (congrArg Value.bool (decide_eq_true hc8)))) ?_
          refine wp_seq ?_
          refine wp_regionF ?_
          refine lf_val (wantAll rfl) (rv_buildS (ps := []) (places := #[(0, 1), (1, 1), (2, 1), (3, 67), (70, 33), (103, 1), (104, 32), (136, 35), (171, 68)]) (z := .agg (([.int .i64 0, .int .i64 0, .int .i64 0, .int .i64 0, .int .i64 0, .int .i64 0] : List Value) ++ (cBs (List.replicate 32 0) ++ (cBs (List.replicate 32 0) ++ (([.int .i64 0] : List Value) ++ (cBs (List.replicate 32 0) ++ (([.int .i64 0] : List Value) ++ (cBs (List.replicate 32 0) ++ (([.int .i64 0, .int .i64 0] : List Value) ++ (cBs (List.replicate 32 0) ++ (([.slice none 0 0, .int .i64 0, .int .i64 0, .int .i64 0] : List Value) ++ (cBs (List.replicate 32 0) ++ (cBs (List.replicate 32 0) ++ ([.slice none 0 0] : List Value))))))))))))).toArray) (zc := ([.int .i64 0, .int .i64 0, .int .i64 0, .int .i64 0, .int .i64 0, .int .i64 0] : List Value) ++ (cBs (List.replicate 32 0) ++ (cBs (List.replicate 32 0) ++ (([.int .i64 0] : List Value) ++ (cBs (List.replicate 32 0) ++ (([.int .i64 0] : List Value) ++ (cBs (List.replicate 32 0) ++ (([.int .i64 0, .int .i64 0] : List Value) ++ (cBs (List.replicate 32 0) ++ (([.slice none 0 0, .int .i64 0, .int .i64 0, .int .i64 0] : List Value) ++ (cBs (List.replicate 32 0) ++ (cBs (List.replicate 32 0) ++ ([.slice none 0 0] : List Value))))))))))))) (cs := ([.int .i64 0, .int .i64 0, .int .i64 0, .int .i64 0, .int .i64 0, .int .i64 0] : List Value) ++ (cBs (List.replicate 32 0) ++ (cBs (List.replicate 32 0) ++ (([.int .i64 0] : List Value) ++ (cBs (List.replicate 32 0) ++ (([.int .i64 0] : List Value) ++ (cBs (List.replicate 32 0) ++ (([.int .i64 0, .int .i64 0] : List Value) ++ (cBs (List.replicate 32 0) ++ (([.slice none 0 0, .int .i64 0, .int .i64 0, .int .i64 0] : List Value) ++ (cBs (List.replicate 32 0) ++ (cBs (List.replicate 32 0) ++ ([.slice none 0 0] : List Value))))))))))))) rfl evpn (by kernel_rfl) rfl Try.underlying81 (fun _ => by kernel_rfl) fill0) ?_
          refine lf_val (v := .int .i64 (doneE R14 K16)) (wantAll rfl) (rv_move rfl (fr_eval rfl e7)) ?_
          refine lf_sk (wantAll rfl) (hx_storeW hH (i := 0) (cs := ([.int .i64 0, .int .i64 0, .int .i64 0, .int .i64 0, .int .i64 0, .int .i64 0] : List Value) ++ (cBs (List.replicate 32 0) ++ (cBs (List.replicate 32 0) ++ (([.int .i64 0] : List Value) ++ (cBs (List.replicate 32 0) ++ (([.int .i64 0] : List Value) ++ (cBs (List.replicate 32 0) ++ (([.int .i64 0, .int .i64 0] : List Value) ++ (cBs (List.replicate 32 0) ++ (([.slice none 0 0, .int .i64 0, .int .i64 0, .int .i64 0] : List Value) ++ (cBs (List.replicate 32 0) ++ (cBs (List.replicate 32 0) ++ ([.slice none 0 0] : List Value))))))))))))) rfl rfl rfl (fr_eval rfl e2) (fr_eval rfl rfl) (sz_len Try.sz81 (zTG_l10 (List.length_replicate ..) (List.length_replicate ..) (List.length_replicate ..) (List.length_replicate ..) (List.length_replicate ..) (List.length_replicate ..) (List.length_replicate ..))) (((zTG_l10 (List.length_replicate ..) (List.length_replicate ..) (List.length_replicate ..) (List.length_replicate ..) (List.length_replicate ..) (List.length_replicate ..) (List.length_replicate ..))).trans ((zTG_l10 (List.length_replicate ..) (List.length_replicate ..) (List.length_replicate ..) (List.length_replicate ..) (List.length_replicate ..) (List.length_replicate ..) (List.length_replicate ..))).symm) (zTG_o14 rfl rfl rfl rfl rfl rfl rfl rfl rfl rfl rfl rfl rfl rfl rfl)) ?_
          clear hH
          rintro w40 ⟨hH, hx⟩
          replace hH : Heap _ _ _ [_, _, _] := hH
          clear hx
          refine lf_val (v := .int .i64 (doneE R14 K16)) (wantAll rfl) (rv_assign rfl (fr_eval rfl rfl)) ?_
          refine lf_nil ?_
          refine then_n ?_
          refine wp_gen (fun F' => F' 0 = v ∧ F' 2 = .pointer (some ⟨g1, 0, none⟩) ∧ F' 3 = .int .i64 (doneE R14 K16) ∧ F' 4 = .pointer (some ⟨g2, 0, none⟩) ∧ F' 5 = .pointer (some ⟨g3, 0, none⟩) ∧ F' 6 = .int .i64 0 ∧ F' 7 = .int .i64 (doneE R14 K16) ∧ F' 18 = .int .i64 ((uptoV b 0 5 : Nat) : Int) ∧ F' 19 = .bool false ∧ F' 37 = .bool false ∧ F' 48 = .bool true ∧ F' 77 = .bool true) ⟨e0, e2, rfl, e4, e5, e6, e7, e18, e19, e37, e48, (e77.trans (congrArg Value.bool (decide_eq_true hc8)))⟩ ?_
          clear e0 e2 e3 e4 e5 e6 e7 e18 e19 e37 e48 e77
          clear F
          rintro F ⟨e0, e2, e3, e4, e5, e6, e7, e18, e19, e37, e48, e77⟩
          refine wp_ret ?_
          refine then_ret ?_
          have hF := hH
          replace hF : Heap _ _ _ [_, _, _, _] := hF.addNil 5 1
          replace hF : Heap _ _ _ [_, _, _, _, _] := hF.addNil 5 1
          replace hF : Heap _ _ _ [_, _] := hF.drop (.cons _ (.cons _ (.cons _ (.cons_cons _ (.cons_cons _ .slnil)))))
          exact bodyPost_ret (res2 rfl (ro_cell rfl e2 (hH.blk (i := 0) rfl) Try.underlying81 rfl (sz_len Try.sz81 (zTG_l10 (List.length_replicate ..) (List.length_replicate ..) (List.length_replicate ..) (List.length_replicate ..) (List.length_replicate ..) (List.length_replicate ..) (List.length_replicate ..)))) (ro_tmp rfl e3)) rfl (⟨zM, [], [], _, _, _, rfl, hM.done (by assumption), hF⟩)
      · refine wp_cond_false (fr_eval rfl (e48.trans (congrArg Value.bool (decide_eq_false hc7)))) ?_
        refine wp_seq ?_
        refine wp_regionF ?_
        refine lf_val (v := .bool (decide (uptoV b 0 5 = 4))) (wantAll rfl) (rv_eqlP (p := uptoV b 0 5 = 4) rfl (fr_eval rfl e18) rfl (by omega)) ?_
        refine lf_val (v := .bool (decide (uptoV b 0 5 = 4))) (wantAll rfl) (rv_assign rfl (fr_eval rfl rfl)) ?_
        refine lf_nil ?_
        refine then_n ?_
        refine wp_gen (fun F' => F' 0 = v ∧ F' 2 = .pointer (some ⟨g1, 0, none⟩) ∧ F' 3 = .int .i64 0 ∧ F' 4 = .pointer (some ⟨g2, 0, none⟩) ∧ F' 5 = .pointer (some ⟨g3, 0, none⟩) ∧ F' 6 = .int .i64 0 ∧ F' 18 = .int .i64 ((uptoV b 0 5 : Nat) : Int) ∧ F' 19 = .bool false ∧ F' 37 = .bool false ∧ F' 48 = .bool false ∧ F' 56 = .bool (decide (uptoV b 0 5 = 4))) ⟨e0, e2, e3, e4, e5, e6, e18, e19, e37, (e48.trans (congrArg Value.bool (decide_eq_false hc7))), rfl⟩ ?_
        clear e0 e2 e3 e4 e5 e6 e18 e19 e37 e48
        clear F
        rintro F ⟨e0, e2, e3, e4, e5, e6, e18, e19, e37, e48, e56⟩
        by_cases hc10 : uptoV b 0 5 = 4
        · refine wp_cond_true (fr_eval rfl (e56.trans (congrArg Value.bool (decide_eq_true hc10)))) ?_
          refine wp_regionF ?_
          refine lf_val (v := .pointer (some ⟨g2, 0, none⟩)) (wantAll rfl) (rv_move rfl (fr_eval rfl e4)) ?_
          refine lf_call (wantAll rfl) (rv_call (args := [.pointer (some ⟨g2, 0, none⟩), .int .i64 65536]) rfl (evc (fr_eval rfl rfl) (evc rfl evn)) Try.call29) (textE_calls 65536 _ (hH.eye (i := 1) rfl) (eye_ne hH (i := 1) rfl hv_g2)) ?_
          rintro _ w41 ⟨⟨y1, rfl, ho, hg⟩, hy, hxf⟩
          refine ⟨_, rfl, ?_⟩
          replace hH : Heap _ _ _ [_, _, _, _] := hH.setEyeRow (i := 1) rfl rfl hv_g2 hy hxf ho hg
          clear hy ho hg
          clear hxf
          obtain ⟨R15, hR15⟩ : ∃ q : List UInt8, q = (rawR (numR R3 K3) (uptoE R3 K3 65536) ((uptoV R3 K3 65536 : Nat) : Int)) := ⟨_, rfl⟩
          obtain ⟨K18, hK18⟩ : ∃ q : Int, q = (rawE (numR R3 K3) (uptoE R3 K3 65536) ((uptoV R3 K3 65536 : Nat) : Int)) := ⟨_, rfl⟩
          rw [← hR15, ← hK18] at hH
          refine lf_call (wantAll rfl) (rv_call (args := [y1]) rfl (evc (fr_eval rfl rfl) evn) Try.call64) (jobGet_calls (rawV (numR R3 K3) (uptoE R3 K3 65536) ((uptoV R3 K3 65536 : Nat) : Int)) (Nat.le_trans rawV_len (Nat.le_trans numR_len (by rw [hR3]; exact Nat.le_trans numR_len (by rw [hR2]; exact Nat.le_trans numR_len (by rw [hR1]; exact Nat.le_trans numR_len hb))))) _ _ (OwnB.rd (hH.own (i := 3) rfl))) ?_
          rintro _ w42 ⟨⟨jc_t61, js_t61, jh_t61, jb_t61, y2, je_t61, rfl, hJ_t61, ho, hg⟩, hx⟩
          refine ⟨_, rfl, ?_⟩
          replace hH : Heap _ _ _ [_, _, _, _, _] := hH.addOwn hx hg ho
          clear ho hg
          clear hx
          refine lf_val (v := .tuple #[.agg (([.int .i64 jc_t61, .int .i64 js_t61] : List Value) ++ (cBs jh_t61.1 ++ ([y2] : List Value))).toArray, .int .i64 je_t61]) (wantAll rfl) (rv_move rfl (fr_eval rfl rfl)) ?_
          refine lf_val (v := .agg (([.int .i64 jc_t61, .int .i64 js_t61] : List Value) ++ (cBs jh_t61.1 ++ ([y2] : List Value))).toArray) (wantAll rfl) (rv_extract rfl (fr_eval rfl rfl) rfl) ?_
          refine lf_val (v := .int .i64 je_t61) (wantAll rfl) (rv_extract rfl (fr_eval rfl rfl) rfl) ?_
          refine lf_val (v := .pointer (some ⟨g3, 136, none⟩)) (wantAll rfl) (rv_fieldAddr (n := 34) rfl (fr_eval rfl e5) Try.underlying81 rfl rfl (by kernel_rfl)) ?_
          refine lf_sk (wantAll rfl) (hx_storeM hH (i := 2) (j := 136) (cs := ([.int .i64 jc_t61, .int .i64 js_t61] : List Value) ++ (cBs jh_t61.1 ++ ([y2] : List Value))) rfl rfl rfl (zTG_y29 (List.length_replicate ..) (List.length_replicate ..) (List.length_replicate ..) (List.length_replicate ..) (List.length_replicate ..) (List.length_replicate ..) (List.length_replicate ..) jh_t61.2) (le_of_len (zTG_l10 (List.length_replicate ..) (List.length_replicate ..) (List.length_replicate ..) (List.length_replicate ..) (List.length_replicate ..) (List.length_replicate ..) (List.length_replicate ..)) (zTG_l4 jh_t61.2) (by decide)) (fr_eval rfl rfl) (fr_eval rfl rfl) (sz_len Try.sz79 (zTG_l4 jh_t61.2)) (zTG_o8 rfl rfl (Rd.oneV (OwnB.rd (hH.own (i := 4) rfl))))) ?_
          clear hH
          rintro w43 ⟨hH, hx⟩
          replace hH : Heap _ _ _ [_, _, _, _, _] := hH
          clear hx
          refine lf_val (v := .int .i64 je_t61) (wantAll rfl) (rv_assign rfl (fr_eval rfl rfl)) ?_
          refine lf_nil ?_
          refine blk_n ?_
          refine then_n ?_
          refine wp_seq ?_
          refine wp_seq ?_
          replace hH : Heap _ _ _ [_, _, _, _] := hH.drop (.cons_cons _ (.cons_cons _ (.cons_cons _ (.cons _ (.cons_cons _ .slnil)))))
          refine wp_gen (fun F' => F' 0 = v ∧ F' 2 = .pointer (some ⟨g1, 0, none⟩) ∧ F' 3 = .int .i64 0 ∧ F' 4 = .pointer (some ⟨g2, 0, none⟩) ∧ F' 5 = .pointer (some ⟨g3, 0, none⟩) ∧ F' 6 = .int .i64 je_t61 ∧ F' 18 = .int .i64 ((uptoV b 0 5 : Nat) : Int) ∧ F' 19 = .bool false ∧ F' 37 = .bool false ∧ F' 48 = .bool false ∧ F' 56 = .bool true) ⟨e0, e2, e3, e4, e5, rfl, e18, e19, e37, e48, (e56.trans (congrArg Value.bool (decide_eq_true hc10)))⟩ ?_
          clear e0 e2 e3 e4 e5 e6 e18 e19 e37 e48 e56
          clear F
          rintro F ⟨e0, e2, e3, e4, e5, e6, e18, e19, e37, e48, e56⟩
          have hM := mid_job hR1 hK1 hR2 hK2 hR3 hK3 hR15 hK18 hJ_t61 (by assumption)
          refine wp_regionF ?_
          refine lf_val (v := .pointer (some ⟨g2, 0, none⟩)) (wantAll rfl) (rv_move rfl (fr_eval rfl e4)) ?_
          refine lf_call (wantAll rfl) (rv_call (args := [.pointer (some ⟨g2, 0, none⟩)]) rfl (evc (fr_eval rfl rfl) evn) Try.call22) (done_calls  _ (hH.eye (i := 1) rfl) (eye_ne hH (i := 1) rfl hv_g2)) ?_
          rintro _ w44 ⟨rfl, hy, hxf⟩
          refine ⟨_, rfl, ?_⟩
          replace hH : Heap _ _ _ [_, _, _, _] := hH.setEye (i := 1) rfl rfl hv_g2 hy hxf
          clear hy
          clear hxf
          obtain ⟨K19, hK19⟩ : ∃ q : Int, q = (doneE R15 K18) := ⟨_, rfl⟩
          rw [← hK19] at hH
          refine lf_val (v := .int .i64 (doneE R15 K18)) (wantAll rfl) (rv_assign rfl (fr_eval rfl rfl)) ?_
          refine lf_nil ?_
          refine then_n ?_
          refine wp_seq ?_
          refine wp_gen (fun F' => F' 0 = v ∧ F' 2 = .pointer (some ⟨g1, 0, none⟩) ∧ F' 3 = .int .i64 0 ∧ F' 4 = .pointer (some ⟨g2, 0, none⟩) ∧ F' 5 = .pointer (some ⟨g3, 0, none⟩) ∧ F' 6 = .int .i64 je_t61 ∧ F' 7 = .int .i64 (doneE R15 K18) ∧ F' 18 = .int .i64 ((uptoV b 0 5 : Nat) : Int) ∧ F' 19 = .bool false ∧ F' 37 = .bool false ∧ F' 48 = .bool false ∧ F' 56 = .bool true) ⟨e0, e2, e3, e4, e5, e6, rfl, e18, e19, e37, e48, e56⟩ ?_
          clear e0 e2 e3 e4 e5 e6 e18 e19 e37 e48 e56
          clear F
          rintro F ⟨e0, e2, e3, e4, e5, e6, e7, e18, e19, e37, e48, e56⟩
          refine wp_regionF ?_
          refine lf_val (v := .int .i64 (doneE R15 K18)) (wantAll rfl) (rv_move rfl (fr_eval rfl e7)) ?_
          refine lf_val (v := .bool (decide (¬ doneE R15 K18 = 0))) (wantAll rfl) (rv_neqP (p := ¬ doneE R15 K18 = 0) rfl (fr_eval rfl rfl) rfl Iff.rfl) ?_
          refine lf_nil ?_
          refine then_n ?_
          refine wp_gen (fun F' => F' 0 = v ∧ F' 2 = .pointer (some ⟨g1, 0, none⟩) ∧ F' 3 = .int .i64 0 ∧ F' 4 = .pointer (some ⟨g2, 0, none⟩) ∧ F' 5 = .pointer (some ⟨g3, 0, none⟩) ∧ F' 6 = .int .i64 je_t61 ∧ F' 7 = .int .i64 (doneE R15 K18) ∧ F' 18 = .int .i64 ((uptoV b 0 5 : Nat) : Int) ∧ F' 19 = .bool false ∧ F' 37 = .bool false ∧ F' 48 = .bool false ∧ F' 56 = .bool true ∧ F' 77 = .bool (decide (¬ doneE R15 K18 = 0))) ⟨e0, e2, e3, e4, e5, e6, e7, e18, e19, e37, e48, e56, rfl⟩ ?_
          clear e0 e2 e3 e4 e5 e6 e7 e18 e19 e37 e48 e56
          clear F
          rintro F ⟨e0, e2, e3, e4, e5, e6, e7, e18, e19, e37, e48, e56, e77⟩
          by_cases hc11 : doneE R15 K18 = 0
          · refine wp_cond_false (fr_eval rfl (e77.trans (congrArg Value.bool (decide_eq_false (not_not_intro hc11))))) ?_
            refine wp_skip ?_
            refine then_n ?_
            refine wp_seq ?_
            refine wp_seq ?_
            refine wp_regionF ?_
            refine lf_val (v := .int .i64 je_t61) (wantAll rfl) (rv_move rfl (fr_eval rfl e6)) ?_
            refine lf_val (v := .bool (decide (¬ je_t61 = 0))) (wantAll rfl) (rv_neqP (p := ¬ je_t61 = 0) rfl (fr_eval rfl rfl) rfl Iff.rfl) ?_
            refine lf_nil ?_
            refine then_n ?_
            refine wp_gen (fun F' => F' 0 = v ∧ F' 2 = .pointer (some ⟨g1, 0, none⟩) ∧ F' 3 = .int .i64 0 ∧ F' 4 = .pointer (some ⟨g2, 0, none⟩) ∧ F' 5 = .pointer (some ⟨g3, 0, none⟩) ∧ F' 6 = .int .i64 je_t61 ∧ F' 7 = .int .i64 (doneE R15 K18) ∧ F' 18 = .int .i64 ((uptoV b 0 5 : Nat) : Int) ∧ F' 19 = .bool false ∧ F' 37 = .bool false ∧ F' 48 = .bool false ∧ F' 56 = .bool true ∧ F' 77 = .bool false ∧ F' 81 = .bool (decide (¬ je_t61 = 0))) ⟨e0, e2, e3, e4, e5, e6, e7, e18, e19, e37, e48, e56, (e77.trans (congrArg Value.bool (decide_eq_false (not_not_intro hc11)))), rfl⟩ ?_
            clear e0 e2 e3 e4 e5 e6 e7 e18 e19 e37 e48 e56 e77
            clear F
            rintro F ⟨e0, e2, e3, e4, e5, e6, e7, e18, e19, e37, e48, e56, e77, e81⟩
            by_cases hc12 : je_t61 = 0
            · refine wp_cond_false (fr_eval rfl (e81.trans (congrArg Value.bool (decide_eq_false (not_not_intro hc12))))) ?_
              refine wp_skip ?_
              refine then_n ?_
              refine wp_seq ?_
              refine wp_seq ?_
              refine wp_regionF ?_
              refine lf_val (wantAll rfl) (rv_loadW rfl (hH.blk (i := 2) rfl) (fr_eval rfl e5) Try.underlying81 rfl (sz_len Try.sz81 (zTG_l10 (List.length_replicate ..) (List.length_replicate ..) (List.length_replicate ..) (List.length_replicate ..) jh_t61.2 (List.length_replicate ..) (List.length_replicate ..)))) ?_
              refine lf_call (wantAll rfl) (rv_call (args := [.agg (([.int .i64 ((uptoV b 0 5 : Nat) : Int), .int .i64 ((uptoV R1 K1 255 : Nat) : Int), .int .i64 ((uptoV R2 K2 255 : Nat) : Int), .int .i64 0, .int .i64 0, .int .i64 0] : List Value) ++ (cBs (List.replicate 32 0) ++ (cBs (List.replicate 32 0) ++ (([.int .i64 0] : List Value) ++ (cBs (List.replicate 32 0) ++ (([.int .i64 0] : List Value) ++ (cBs (List.replicate 32 0) ++ (([.int .i64 jc_t61, .int .i64 js_t61] : List Value) ++ (cBs jh_t61.1 ++ (([y2, .int .i64 0, .int .i64 0, .int .i64 0] : List Value) ++ (cBs (List.replicate 32 0) ++ (cBs (List.replicate 32 0) ++ ([.slice none 0 0] : List Value))))))))))))).toArray]) rfl (evc (fr_eval rfl rfl) evn) Try.call52) (msRight_calls (⟨((uptoV b 0 5 : Nat) : Int), ((uptoV R1 K1 255 : Nat) : Int), ((uptoV R2 K2 255 : Nat) : Int), 0, 0, 0, ⟨List.replicate 32 0, (List.length_replicate ..)⟩, ⟨List.replicate 32 0, (List.length_replicate ..)⟩, 0, ⟨List.replicate 32 0, (List.length_replicate ..)⟩, 0, ⟨List.replicate 32 0, (List.length_replicate ..)⟩, jc_t61, js_t61, ⟨jh_t61.1, jh_t61.2⟩, (⟨0, 0, 0, ⟨List.replicate 32 0, (List.length_replicate ..)⟩, ⟨List.replicate 32 0, (List.length_replicate ..)⟩⟩ : Rc)⟩ : Ms) _ _ _) ?_
              rintro _ w45 ⟨rfl, hx⟩
              refine ⟨_, rfl, ?_⟩
              replace hH := hH.ext hx
              clear hx
              refine lf_val (v := .bool (decide (¬ (inM (⟨((uptoV b 0 5 : Nat) : Int), ((uptoV R1 K1 255 : Nat) : Int), ((uptoV R2 K2 255 : Nat) : Int), 0, 0, 0, ⟨List.replicate 32 0, (List.length_replicate ..)⟩, ⟨List.replicate 32 0, (List.length_replicate ..)⟩, 0, ⟨List.replicate 32 0, (List.length_replicate ..)⟩, 0, ⟨List.replicate 32 0, (List.length_replicate ..)⟩, jc_t61, js_t61, ⟨jh_t61.1, jh_t61.2⟩, (⟨0, 0, 0, ⟨List.replicate 32 0, (List.length_replicate ..)⟩, ⟨List.replicate 32 0, (List.length_replicate ..)⟩⟩ : Rc)⟩ : Ms))))) (wantAll rfl) (rv_notP (q := ¬ (inM (⟨((uptoV b 0 5 : Nat) : Int), ((uptoV R1 K1 255 : Nat) : Int), ((uptoV R2 K2 255 : Nat) : Int), 0, 0, 0, ⟨List.replicate 32 0, (List.length_replicate ..)⟩, ⟨List.replicate 32 0, (List.length_replicate ..)⟩, 0, ⟨List.replicate 32 0, (List.length_replicate ..)⟩, 0, ⟨List.replicate 32 0, (List.length_replicate ..)⟩, jc_t61, js_t61, ⟨jh_t61.1, jh_t61.2⟩, (⟨0, 0, 0, ⟨List.replicate 32 0, (List.length_replicate ..)⟩, ⟨List.replicate 32 0, (List.length_replicate ..)⟩⟩ : Rc)⟩ : Ms))) rfl (fr_eval rfl rfl) Iff.rfl) ?_
              refine lf_nil ?_
              refine then_n ?_
              refine wp_gen (fun F' => F' 0 = v ∧ F' 2 = .pointer (some ⟨g1, 0, none⟩) ∧ F' 3 = .int .i64 0 ∧ F' 4 = .pointer (some ⟨g2, 0, none⟩) ∧ F' 5 = .pointer (some ⟨g3, 0, none⟩) ∧ F' 6 = .int .i64 je_t61 ∧ F' 7 = .int .i64 (doneE R15 K18) ∧ F' 18 = .int .i64 ((uptoV b 0 5 : Nat) : Int) ∧ F' 19 = .bool false ∧ F' 37 = .bool false ∧ F' 48 = .bool false ∧ F' 56 = .bool true ∧ F' 77 = .bool false ∧ F' 81 = .bool false ∧ F' 86 = .bool (decide (¬ (inM (⟨((uptoV b 0 5 : Nat) : Int), ((uptoV R1 K1 255 : Nat) : Int), ((uptoV R2 K2 255 : Nat) : Int), 0, 0, 0, ⟨List.replicate 32 0, (List.length_replicate ..)⟩, ⟨List.replicate 32 0, (List.length_replicate ..)⟩, 0, ⟨List.replicate 32 0, (List.length_replicate ..)⟩, 0, ⟨List.replicate 32 0, (List.length_replicate ..)⟩, jc_t61, js_t61, ⟨jh_t61.1, jh_t61.2⟩, (⟨0, 0, 0, ⟨List.replicate 32 0, (List.length_replicate ..)⟩, ⟨List.replicate 32 0, (List.length_replicate ..)⟩⟩ : Rc)⟩ : Ms))))) ⟨e0, e2, e3, e4, e5, e6, e7, e18, e19, e37, e48, e56, e77, (e81.trans (congrArg Value.bool (decide_eq_false (not_not_intro hc12)))), rfl⟩ ?_
              clear e0 e2 e3 e4 e5 e6 e7 e18 e19 e37 e48 e56 e77 e81
              clear F
              rintro F ⟨e0, e2, e3, e4, e5, e6, e7, e18, e19, e37, e48, e56, e77, e81, e86⟩
              by_cases hc13 : inM (⟨((uptoV b 0 5 : Nat) : Int), ((uptoV R1 K1 255 : Nat) : Int), ((uptoV R2 K2 255 : Nat) : Int), 0, 0, 0, ⟨List.replicate 32 0, (List.length_replicate ..)⟩, ⟨List.replicate 32 0, (List.length_replicate ..)⟩, 0, ⟨List.replicate 32 0, (List.length_replicate ..)⟩, 0, ⟨List.replicate 32 0, (List.length_replicate ..)⟩, jc_t61, js_t61, ⟨jh_t61.1, jh_t61.2⟩, (⟨0, 0, 0, ⟨List.replicate 32 0, (List.length_replicate ..)⟩, ⟨List.replicate 32 0, (List.length_replicate ..)⟩⟩ : Rc)⟩ : Ms)
              · refine wp_cond_false (fr_eval rfl (e86.trans (congrArg Value.bool (decide_eq_false (not_not_intro hc13))))) ?_
                refine wp_skip ?_
                refine then_n ?_
                refine wp_seq ?_
                refine wp_regionF ?_
                refine lf_val (wantAll rfl) (rv_loadW rfl (hH.blk (i := 2) rfl) (fr_eval rfl e5) Try.underlying81 rfl (sz_len Try.sz81 (zTG_l10 (List.length_replicate ..) (List.length_replicate ..) (List.length_replicate ..) (List.length_replicate ..) jh_t61.2 (List.length_replicate ..) (List.length_replicate ..)))) ?_
                refine lf_sk (wantAll rfl) (hx_storeW hH (i := 0) (cs := ([.int .i64 ((uptoV b 0 5 : Nat) : Int), .int .i64 ((uptoV R1 K1 255 : Nat) : Int), .int .i64 ((uptoV R2 K2 255 : Nat) : Int), .int .i64 0, .int .i64 0, .int .i64 0] : List Value) ++ (cBs (List.replicate 32 0) ++ (cBs (List.replicate 32 0) ++ (([.int .i64 0] : List Value) ++ (cBs (List.replicate 32 0) ++ (([.int .i64 0] : List Value) ++ (cBs (List.replicate 32 0) ++ (([.int .i64 jc_t61, .int .i64 js_t61] : List Value) ++ (cBs jh_t61.1 ++ (([y2, .int .i64 0, .int .i64 0, .int .i64 0] : List Value) ++ (cBs (List.replicate 32 0) ++ (cBs (List.replicate 32 0) ++ ([.slice none 0 0] : List Value))))))))))))) rfl rfl rfl (fr_eval rfl e2) (fr_eval rfl rfl) (sz_len Try.sz81 (zTG_l10 (List.length_replicate ..) (List.length_replicate ..) (List.length_replicate ..) (List.length_replicate ..) jh_t61.2 (List.length_replicate ..) (List.length_replicate ..))) (((zTG_l10 (List.length_replicate ..) (List.length_replicate ..) (List.length_replicate ..) (List.length_replicate ..) (List.length_replicate ..) (List.length_replicate ..) (List.length_replicate ..))).trans ((zTG_l10 (List.length_replicate ..) (List.length_replicate ..) (List.length_replicate ..) (List.length_replicate ..) jh_t61.2 (List.length_replicate ..) (List.length_replicate ..))).symm) (zTG_o14 rfl rfl rfl rfl rfl rfl rfl rfl rfl rfl (Rd.oneV (OwnB.rd (hH.own (i := 3) rfl))) rfl rfl rfl rfl)) ?_
                clear hH
                rintro w46 ⟨hH, hx⟩
                replace hH : Heap _ _ _ [_, _, _, _] := hH
                clear hx
                refine lf_val (v := .int .i64 0) (wantAll rfl) (rv_assign rfl rfl) ?_
                refine lf_nil ?_
                refine then_n ?_
                refine wp_gen (fun F' => F' 0 = v ∧ F' 2 = .pointer (some ⟨g1, 0, none⟩) ∧ F' 3 = .int .i64 0 ∧ F' 4 = .pointer (some ⟨g2, 0, none⟩) ∧ F' 5 = .pointer (some ⟨g3, 0, none⟩) ∧ F' 6 = .int .i64 je_t61 ∧ F' 7 = .int .i64 (doneE R15 K18) ∧ F' 18 = .int .i64 ((uptoV b 0 5 : Nat) : Int) ∧ F' 19 = .bool false ∧ F' 37 = .bool false ∧ F' 48 = .bool false ∧ F' 56 = .bool true ∧ F' 77 = .bool false ∧ F' 81 = .bool false ∧ F' 86 = .bool false) ⟨e0, e2, rfl, e4, e5, e6, e7, e18, e19, e37, e48, e56, e77, e81, (e86.trans (congrArg Value.bool (decide_eq_false (not_not_intro hc13))))⟩ ?_
                clear e0 e2 e3 e4 e5 e6 e7 e18 e19 e37 e48 e56 e77 e81 e86
                clear F
                rintro F ⟨e0, e2, e3, e4, e5, e6, e7, e18, e19, e37, e48, e56, e77, e81, e86⟩
                refine wp_ret ?_
                have hF := hH
                replace hF : Heap _ _ _ [_, _, _, _, _] := hF.addNil 5 1
                replace hF : Heap _ _ _ [_, _] := hF.drop (.cons _ (.cons _ (.cons _ (.cons_cons _ (.cons_cons _ .slnil)))))
                exact bodyPost_ret (res2 rfl (ro_cell rfl e2 (hH.blk (i := 0) rfl) Try.underlying81 rfl (sz_len Try.sz81 (zTG_l10 (List.length_replicate ..) (List.length_replicate ..) (List.length_replicate ..) (List.length_replicate ..) jh_t61.2 (List.length_replicate ..) (List.length_replicate ..)))) (ro_tmp rfl e3)) rfl (⟨_, _, _, _, _, _, rfl, hM.ok (by assumption) (by assumption) (by assumption), hF⟩)
              · refine wp_cond_true (fr_eval rfl (e86.trans (congrArg Value.bool (decide_eq_true hc13)))) ?_
                refine wp_seq ?_
                refine wp_regionF ?_
                refine lf_val (wantAll rfl) (rv_buildS (ps := []) (places := #[(0, 1), (1, 1), (2, 1), (3, 67), (70, 33), (103, 1), (104, 32), (136, 35), (171, 68)]) (z := .agg (([.int .i64 0, .int .i64 0, .int .i64 0, .int .i64 0, .int .i64 0, .int .i64 0] : List Value) ++ (cBs (List.replicate 32 0) ++ (cBs (List.replicate 32 0) ++ (([.int .i64 0] : List Value) ++ (cBs (List.replicate 32 0) ++ (([.int .i64 0] : List Value) ++ (cBs (List.replicate 32 0) ++ (([.int .i64 0, .int .i64 0] : List Value) ++ (cBs (List.replicate 32 0) ++ (([.slice none 0 0, .int .i64 0, .int .i64 0, .int .i64 0] : List Value) ++ (cBs (List.replicate 32 0) ++ (cBs (List.replicate 32 0) ++ ([.slice none 0 0] : List Value))))))))))))).toArray) (zc := ([.int .i64 0, .int .i64 0, .int .i64 0, .int .i64 0, .int .i64 0, .int .i64 0] : List Value) ++ (cBs (List.replicate 32 0) ++ (cBs (List.replicate 32 0) ++ (([.int .i64 0] : List Value) ++ (cBs (List.replicate 32 0) ++ (([.int .i64 0] : List Value) ++ (cBs (List.replicate 32 0) ++ (([.int .i64 0, .int .i64 0] : List Value) ++ (cBs (List.replicate 32 0) ++ (([.slice none 0 0, .int .i64 0, .int .i64 0, .int .i64 0] : List Value) ++ (cBs (List.replicate 32 0) ++ (cBs (List.replicate 32 0) ++ ([.slice none 0 0] : List Value))))))))))))) (cs := ([.int .i64 0, .int .i64 0, .int .i64 0, .int .i64 0, .int .i64 0, .int .i64 0] : List Value) ++ (cBs (List.replicate 32 0) ++ (cBs (List.replicate 32 0) ++ (([.int .i64 0] : List Value) ++ (cBs (List.replicate 32 0) ++ (([.int .i64 0] : List Value) ++ (cBs (List.replicate 32 0) ++ (([.int .i64 0, .int .i64 0] : List Value) ++ (cBs (List.replicate 32 0) ++ (([.slice none 0 0, .int .i64 0, .int .i64 0, .int .i64 0] : List Value) ++ (cBs (List.replicate 32 0) ++ (cBs (List.replicate 32 0) ++ ([.slice none 0 0] : List Value))))))))))))) rfl evpn (by kernel_rfl) rfl Try.underlying81 (fun _ => by kernel_rfl) fill0) ?_
                refine lf_sk (wantAll rfl) (hx_storeW hH (i := 0) (cs := ([.int .i64 0, .int .i64 0, .int .i64 0, .int .i64 0, .int .i64 0, .int .i64 0] : List Value) ++ (cBs (List.replicate 32 0) ++ (cBs (List.replicate 32 0) ++ (([.int .i64 0] : List Value) ++ (cBs (List.replicate 32 0) ++ (([.int .i64 0] : List Value) ++ (cBs (List.replicate 32 0) ++ (([.int .i64 0, .int .i64 0] : List Value) ++ (cBs (List.replicate 32 0) ++ (([.slice none 0 0, .int .i64 0, .int .i64 0, .int .i64 0] : List Value) ++ (cBs (List.replicate 32 0) ++ (cBs (List.replicate 32 0) ++ ([.slice none 0 0] : List Value))))))))))))) rfl rfl rfl (fr_eval rfl e2) (fr_eval rfl rfl) (sz_len Try.sz81 (zTG_l10 (List.length_replicate ..) (List.length_replicate ..) (List.length_replicate ..) (List.length_replicate ..) (List.length_replicate ..) (List.length_replicate ..) (List.length_replicate ..))) (((zTG_l10 (List.length_replicate ..) (List.length_replicate ..) (List.length_replicate ..) (List.length_replicate ..) (List.length_replicate ..) (List.length_replicate ..) (List.length_replicate ..))).trans ((zTG_l10 (List.length_replicate ..) (List.length_replicate ..) (List.length_replicate ..) (List.length_replicate ..) (List.length_replicate ..) (List.length_replicate ..) (List.length_replicate ..))).symm) (zTG_o14 rfl rfl rfl rfl rfl rfl rfl rfl rfl rfl rfl rfl rfl rfl rfl)) ?_
                clear hH
                rintro w47 ⟨hH, hx⟩
                replace hH : Heap _ _ _ [_, _, _, _] := hH
                clear hx
                refine lf_val (v := .int .i64 4) (wantAll rfl) (rv_assign rfl rfl) ?_
                refine lf_nil ?_
                refine then_n ?_
                refine wp_gen (fun F' => F' 0 = v ∧ F' 2 = .pointer (some ⟨g1, 0, none⟩) ∧ F' 3 = .int .i64 4 ∧ F' 4 = .pointer (some ⟨g2, 0, none⟩) ∧ F' 5 = .pointer (some ⟨g3, 0, none⟩) ∧ F' 6 = .int .i64 je_t61 ∧ F' 7 = .int .i64 (doneE R15 K18) ∧ F' 18 = .int .i64 ((uptoV b 0 5 : Nat) : Int) ∧ F' 19 = .bool false ∧ F' 37 = .bool false ∧ F' 48 = .bool false ∧ F' 56 = .bool true ∧ F' 77 = .bool false ∧ F' 81 = .bool false ∧ F' 86 = .bool true) ⟨e0, e2, rfl, e4, e5, e6, e7, e18, e19, e37, e48, e56, e77, e81, (e86.trans (congrArg Value.bool (decide_eq_true hc13)))⟩ ?_
                clear e0 e2 e3 e4 e5 e6 e7 e18 e19 e37 e48 e56 e77 e81 e86
                clear F
                rintro F ⟨e0, e2, e3, e4, e5, e6, e7, e18, e19, e37, e48, e56, e77, e81, e86⟩
                refine wp_ret ?_
                refine then_ret ?_
                have hF := hH
                replace hF : Heap _ _ _ [_, _, _, _, _] := hF.addNil 5 1
                replace hF : Heap _ _ _ [_, _, _, _, _, _] := hF.addNil 5 1
                replace hF : Heap _ _ _ [_, _] := hF.drop (.cons _ (.cons _ (.cons _ (.cons _ (.cons_cons _ (.cons_cons _ .slnil))))))
                exact bodyPost_ret (res2 rfl (ro_cell rfl e2 (hH.blk (i := 0) rfl) Try.underlying81 rfl (sz_len Try.sz81 (zTG_l10 (List.length_replicate ..) (List.length_replicate ..) (List.length_replicate ..) (List.length_replicate ..) (List.length_replicate ..) (List.length_replicate ..) (List.length_replicate ..)))) (ro_tmp rfl e3)) rfl (⟨zM, [], [], _, _, _, rfl, hM.no (by assumption), hF⟩)
            · refine wp_cond_true (fr_eval rfl (e81.trans (congrArg Value.bool (decide_eq_true hc12)))) ?_
              refine wp_seq ?_
              refine wp_regionF ?_
              refine lf_val (wantAll rfl) (rv_buildS (ps := []) (places := #[(0, 1), (1, 1), (2, 1), (3, 67), (70, 33), (103, 1), (104, 32), (136, 35), (171, 68)]) (z := .agg (([.int .i64 0, .int .i64 0, .int .i64 0, .int .i64 0, .int .i64 0, .int .i64 0] : List Value) ++ (cBs (List.replicate 32 0) ++ (cBs (List.replicate 32 0) ++ (([.int .i64 0] : List Value) ++ (cBs (List.replicate 32 0) ++ (([.int .i64 0] : List Value) ++ (cBs (List.replicate 32 0) ++ (([.int .i64 0, .int .i64 0] : List Value) ++ (cBs (List.replicate 32 0) ++ (([.slice none 0 0, .int .i64 0, .int .i64 0, .int .i64 0] : List Value) ++ (cBs (List.replicate 32 0) ++ (cBs (List.replicate 32 0) ++ ([.slice none 0 0] : List Value))))))))))))).toArray) (zc := ([.int .i64 0, .int .i64 0, .int .i64 0, .int .i64 0, .int .i64 0, .int .i64 0] : List Value) ++ (cBs (List.replicate 32 0) ++ (cBs (List.replicate 32 0) ++ (([.int .i64 0] : List Value) ++ (cBs (List.replicate 32 0) ++ (([.int .i64 0] : List Value) ++ (cBs (List.replicate 32 0) ++ (([.int .i64 0, .int .i64 0] : List Value) ++ (cBs (List.replicate 32 0) ++ (([.slice none 0 0, .int .i64 0, .int .i64 0, .int .i64 0] : List Value) ++ (cBs (List.replicate 32 0) ++ (cBs (List.replicate 32 0) ++ ([.slice none 0 0] : List Value))))))))))))) (cs := ([.int .i64 0, .int .i64 0, .int .i64 0, .int .i64 0, .int .i64 0, .int .i64 0] : List Value) ++ (cBs (List.replicate 32 0) ++ (cBs (List.replicate 32 0) ++ (([.int .i64 0] : List Value) ++ (cBs (List.replicate 32 0) ++ (([.int .i64 0] : List Value) ++ (cBs (List.replicate 32 0) ++ (([.int .i64 0, .int .i64 0] : List Value) ++ (cBs (List.replicate 32 0) ++ (([.slice none 0 0, .int .i64 0, .int .i64 0, .int .i64 0] : List Value) ++ (cBs (List.replicate 32 0) ++ (cBs (List.replicate 32 0) ++ ([.slice none 0 0] : List Value))))))))))))) rfl evpn (by kernel_rfl) rfl Try.underlying81 (fun _ => by kernel_rfl) fill0) ?_
              refine lf_val (v := .int .i64 je_t61) (wantAll rfl) (rv_move rfl (fr_eval rfl e6)) ?_
              refine lf_sk (wantAll rfl) (hx_storeW hH (i := 0) (cs := ([.int .i64 0, .int .i64 0, .int .i64 0, .int .i64 0, .int .i64 0, .int .i64 0] : List Value) ++ (cBs (List.replicate 32 0) ++ (cBs (List.replicate 32 0) ++ (([.int .i64 0] : List Value) ++ (cBs (List.replicate 32 0) ++ (([.int .i64 0] : List Value) ++ (cBs (List.replicate 32 0) ++ (([.int .i64 0, .int .i64 0] : List Value) ++ (cBs (List.replicate 32 0) ++ (([.slice none 0 0, .int .i64 0, .int .i64 0, .int .i64 0] : List Value) ++ (cBs (List.replicate 32 0) ++ (cBs (List.replicate 32 0) ++ ([.slice none 0 0] : List Value))))))))))))) rfl rfl rfl (fr_eval rfl e2) (fr_eval rfl rfl) (sz_len Try.sz81 (zTG_l10 (List.length_replicate ..) (List.length_replicate ..) (List.length_replicate ..) (List.length_replicate ..) (List.length_replicate ..) (List.length_replicate ..) (List.length_replicate ..))) (((zTG_l10 (List.length_replicate ..) (List.length_replicate ..) (List.length_replicate ..) (List.length_replicate ..) (List.length_replicate ..) (List.length_replicate ..) (List.length_replicate ..))).trans ((zTG_l10 (List.length_replicate ..) (List.length_replicate ..) (List.length_replicate ..) (List.length_replicate ..) (List.length_replicate ..) (List.length_replicate ..) (List.length_replicate ..))).symm) (zTG_o14 rfl rfl rfl rfl rfl rfl rfl rfl rfl rfl rfl rfl rfl rfl rfl)) ?_
              clear hH
              rintro w48 ⟨hH, hx⟩
              replace hH : Heap _ _ _ [_, _, _, _] := hH
              clear hx
              refine lf_val (v := .int .i64 je_t61) (wantAll rfl) (rv_assign rfl (fr_eval rfl rfl)) ?_
              refine lf_nil ?_
              refine then_n ?_
              refine wp_gen (fun F' => F' 0 = v ∧ F' 2 = .pointer (some ⟨g1, 0, none⟩) ∧ F' 3 = .int .i64 je_t61 ∧ F' 4 = .pointer (some ⟨g2, 0, none⟩) ∧ F' 5 = .pointer (some ⟨g3, 0, none⟩) ∧ F' 6 = .int .i64 je_t61 ∧ F' 7 = .int .i64 (doneE R15 K18) ∧ F' 18 = .int .i64 ((uptoV b 0 5 : Nat) : Int) ∧ F' 19 = .bool false ∧ F' 37 = .bool false ∧ F' 48 = .bool false ∧ F' 56 = .bool true ∧ F' 77 = .bool false ∧ F' 81 = .bool true) ⟨e0, e2, rfl, e4, e5, e6, e7, e18, e19, e37, e48, e56, e77, (e81.trans (congrArg Value.bool (decide_eq_true hc12)))⟩ ?_
              clear e0 e2 e3 e4 e5 e6 e7 e18 e19 e37 e48 e56 e77 e81
              clear F
              rintro F ⟨e0, e2, e3, e4, e5, e6, e7, e18, e19, e37, e48, e56, e77, e81⟩
              refine wp_ret ?_
              refine then_ret ?_
              have hF := hH
              replace hF : Heap _ _ _ [_, _, _, _, _] := hF.addNil 5 1
              replace hF : Heap _ _ _ [_, _, _, _, _, _] := hF.addNil 5 1
              replace hF : Heap _ _ _ [_, _] := hF.drop (.cons _ (.cons _ (.cons _ (.cons _ (.cons_cons _ (.cons_cons _ .slnil))))))
              exact bodyPost_ret (res2 rfl (ro_cell rfl e2 (hH.blk (i := 0) rfl) Try.underlying81 rfl (sz_len Try.sz81 (zTG_l10 (List.length_replicate ..) (List.length_replicate ..) (List.length_replicate ..) (List.length_replicate ..) (List.length_replicate ..) (List.length_replicate ..) (List.length_replicate ..)))) (ro_tmp rfl e3)) rfl (⟨zM, [], [], _, _, _, rfl, hM.err (by assumption), hF⟩)
          · refine wp_cond_true (fr_eval rfl (e77.trans (congrArg Value.bool (decide_eq_true hc11)))) ?_
            refine wp_seq ?_
            refine wp_regionF ?_
            refine lf_val (wantAll rfl) (rv_buildS (ps := []) (places := #[(0, 1), (1, 1), (2, 1), (3, 67), (70, 33), (103, 1), (104, 32), (136, 35), (171, 68)]) (z := .agg (([.int .i64 0, .int .i64 0, .int .i64 0, .int .i64 0, .int .i64 0, .int .i64 0] : List Value) ++ (cBs (List.replicate 32 0) ++ (cBs (List.replicate 32 0) ++ (([.int .i64 0] : List Value) ++ (cBs (List.replicate 32 0) ++ (([.int .i64 0] : List Value) ++ (cBs (List.replicate 32 0) ++ (([.int .i64 0, .int .i64 0] : List Value) ++ (cBs (List.replicate 32 0) ++ (([.slice none 0 0, .int .i64 0, .int .i64 0, .int .i64 0] : List Value) ++ (cBs (List.replicate 32 0) ++ (cBs (List.replicate 32 0) ++ ([.slice none 0 0] : List Value))))))))))))).toArray) (zc := ([.int .i64 0, .int .i64 0, .int .i64 0, .int .i64 0, .int .i64 0, .int .i64 0] : List Value) ++ (cBs (List.replicate 32 0) ++ (cBs (List.replicate 32 0) ++ (([.int .i64 0] : List Value) ++ (cBs (List.replicate 32 0) ++ (([.int .i64 0] : List Value) ++ (cBs (List.replicate 32 0) ++ (([.int .i64 0, .int .i64 0] : List Value) ++ (cBs (List.replicate 32 0) ++ (([.slice none 0 0, .int .i64 0, .int .i64 0, .int .i64 0] : List Value) ++ (cBs (List.replicate 32 0) ++ (cBs (List.replicate 32 0) ++ ([.slice none 0 0] : List Value))))))))))))) (cs := ([.int .i64 0, .int .i64 0, .int .i64 0, .int .i64 0, .int .i64 0, .int .i64 0] : List Value) ++ (cBs (List.replicate 32 0) ++ (cBs (List.replicate 32 0) ++ (([.int .i64 0] : List Value) ++ (cBs (List.replicate 32 0) ++ (([.int .i64 0] : List Value) ++ (cBs (List.replicate 32 0) ++ (([.int .i64 0, .int .i64 0] : List Value) ++ (cBs (List.replicate 32 0) ++ (([.slice none 0 0, .int .i64 0, .int .i64 0, .int .i64 0] : List Value) ++ (cBs (List.replicate 32 0) ++ (cBs (List.replicate 32 0) ++ ([.slice none 0 0] : List Value))))))))))))) rfl evpn (by kernel_rfl) rfl Try.underlying81 (fun _ => by kernel_rfl) fill0) ?_
            refine lf_val (v := .int .i64 (doneE R15 K18)) (wantAll rfl) (rv_move rfl (fr_eval rfl e7)) ?_
            refine lf_sk (wantAll rfl) (hx_storeW hH (i := 0) (cs := ([.int .i64 0, .int .i64 0, .int .i64 0, .int .i64 0, .int .i64 0, .int .i64 0] : List Value) ++ (cBs (List.replicate 32 0) ++ (cBs (List.replicate 32 0) ++ (([.int .i64 0] : List Value) ++ (cBs (List.replicate 32 0) ++ (([.int .i64 0] : List Value) ++ (cBs (List.replicate 32 0) ++ (([.int .i64 0, .int .i64 0] : List Value) ++ (cBs (List.replicate 32 0) ++ (([.slice none 0 0, .int .i64 0, .int .i64 0, .int .i64 0] : List Value) ++ (cBs (List.replicate 32 0) ++ (cBs (List.replicate 32 0) ++ ([.slice none 0 0] : List Value))))))))))))) rfl rfl rfl (fr_eval rfl e2) (fr_eval rfl rfl) (sz_len Try.sz81 (zTG_l10 (List.length_replicate ..) (List.length_replicate ..) (List.length_replicate ..) (List.length_replicate ..) (List.length_replicate ..) (List.length_replicate ..) (List.length_replicate ..))) (((zTG_l10 (List.length_replicate ..) (List.length_replicate ..) (List.length_replicate ..) (List.length_replicate ..) (List.length_replicate ..) (List.length_replicate ..) (List.length_replicate ..))).trans ((zTG_l10 (List.length_replicate ..) (List.length_replicate ..) (List.length_replicate ..) (List.length_replicate ..) (List.length_replicate ..) (List.length_replicate ..) (List.length_replicate ..))).symm) (zTG_o14 rfl rfl rfl rfl rfl rfl rfl rfl rfl rfl rfl rfl rfl rfl rfl)) ?_
            clear hH
            rintro w49 ⟨hH, hx⟩
            replace hH : Heap _ _ _ [_, _, _, _] := hH
            clear hx
            refine lf_val (v := .int .i64 (doneE R15 K18)) (wantAll rfl) (rv_assign rfl (fr_eval rfl rfl)) ?_
            refine lf_nil ?_
            refine then_n ?_
            refine wp_gen (fun F' => F' 0 = v ∧ F' 2 = .pointer (some ⟨g1, 0, none⟩) ∧ F' 3 = .int .i64 (doneE R15 K18) ∧ F' 4 = .pointer (some ⟨g2, 0, none⟩) ∧ F' 5 = .pointer (some ⟨g3, 0, none⟩) ∧ F' 6 = .int .i64 je_t61 ∧ F' 7 = .int .i64 (doneE R15 K18) ∧ F' 18 = .int .i64 ((uptoV b 0 5 : Nat) : Int) ∧ F' 19 = .bool false ∧ F' 37 = .bool false ∧ F' 48 = .bool false ∧ F' 56 = .bool true ∧ F' 77 = .bool true) ⟨e0, e2, rfl, e4, e5, e6, e7, e18, e19, e37, e48, e56, (e77.trans (congrArg Value.bool (decide_eq_true hc11)))⟩ ?_
            clear e0 e2 e3 e4 e5 e6 e7 e18 e19 e37 e48 e56 e77
            clear F
            rintro F ⟨e0, e2, e3, e4, e5, e6, e7, e18, e19, e37, e48, e56, e77⟩
            refine wp_ret ?_
            refine then_ret ?_
            have hF := hH
            replace hF : Heap _ _ _ [_, _, _, _, _] := hF.addNil 5 1
            replace hF : Heap _ _ _ [_, _, _, _, _, _] := hF.addNil 5 1
            replace hF : Heap _ _ _ [_, _] := hF.drop (.cons _ (.cons _ (.cons _ (.cons _ (.cons_cons _ (.cons_cons _ .slnil))))))
            exact bodyPost_ret (res2 rfl (ro_cell rfl e2 (hH.blk (i := 0) rfl) Try.underlying81 rfl (sz_len Try.sz81 (zTG_l10 (List.length_replicate ..) (List.length_replicate ..) (List.length_replicate ..) (List.length_replicate ..) (List.length_replicate ..) (List.length_replicate ..) (List.length_replicate ..)))) (ro_tmp rfl e3)) rfl (⟨zM, [], [], _, _, _, rfl, hM.done (by assumption), hF⟩)
        · refine wp_cond_false (fr_eval rfl (e56.trans (congrArg Value.bool (decide_eq_false hc10)))) ?_
          refine wp_seq ?_
          refine wp_regionF ?_
          refine lf_val (v := .bool (decide (uptoV b 0 5 = 5))) (wantAll rfl) (rv_eqlP (p := uptoV b 0 5 = 5) rfl (fr_eval rfl e18) rfl (by omega)) ?_
          refine lf_val (v := .bool (decide (uptoV b 0 5 = 5))) (wantAll rfl) (rv_assign rfl (fr_eval rfl rfl)) ?_
          refine lf_nil ?_
          refine then_n ?_
          refine wp_gen (fun F' => F' 0 = v ∧ F' 2 = .pointer (some ⟨g1, 0, none⟩) ∧ F' 3 = .int .i64 0 ∧ F' 4 = .pointer (some ⟨g2, 0, none⟩) ∧ F' 5 = .pointer (some ⟨g3, 0, none⟩) ∧ F' 6 = .int .i64 0 ∧ F' 18 = .int .i64 ((uptoV b 0 5 : Nat) : Int) ∧ F' 19 = .bool false ∧ F' 37 = .bool false ∧ F' 48 = .bool false ∧ F' 56 = .bool false ∧ F' 65 = .bool (decide (uptoV b 0 5 = 5))) ⟨e0, e2, e3, e4, e5, e6, e18, e19, e37, e48, (e56.trans (congrArg Value.bool (decide_eq_false hc10))), rfl⟩ ?_
          clear e0 e2 e3 e4 e5 e6 e18 e19 e37 e48 e56
          clear F
          rintro F ⟨e0, e2, e3, e4, e5, e6, e18, e19, e37, e48, e56, e65⟩
          by_cases hc14 : uptoV b 0 5 = 5
          · refine wp_cond_true (fr_eval rfl (e65.trans (congrArg Value.bool (decide_eq_true hc14)))) ?_
            refine wp_regionF ?_
            refine lf_val (v := .pointer (some ⟨g2, 0, none⟩)) (wantAll rfl) (rv_move rfl (fr_eval rfl e4)) ?_
            refine lf_call (wantAll rfl) (rv_call (args := [.pointer (some ⟨g2, 0, none⟩), .int .i64 65536]) rfl (evc (fr_eval rfl rfl) (evc rfl evn)) Try.call29) (textE_calls 65536 _ (hH.eye (i := 1) rfl) (eye_ne hH (i := 1) rfl hv_g2)) ?_
            rintro _ w50 ⟨⟨y3, rfl, ho, hg⟩, hy, hxf⟩
            refine ⟨_, rfl, ?_⟩
            replace hH : Heap _ _ _ [_, _, _, _] := hH.setEyeRow (i := 1) rfl rfl hv_g2 hy hxf ho hg
            clear hy ho hg
            clear hxf
            obtain ⟨R16, hR16⟩ : ∃ q : List UInt8, q = (rawR (numR R3 K3) (uptoE R3 K3 65536) ((uptoV R3 K3 65536 : Nat) : Int)) := ⟨_, rfl⟩
            obtain ⟨K20, hK20⟩ : ∃ q : Int, q = (rawE (numR R3 K3) (uptoE R3 K3 65536) ((uptoV R3 K3 65536 : Nat) : Int)) := ⟨_, rfl⟩
            rw [← hR16, ← hK20] at hH
            refine lf_call (wantAll rfl) (rv_call (args := [y3]) rfl (evc (fr_eval rfl rfl) evn) Try.call37) (rcGet_calls (rawV (numR R3 K3) (uptoE R3 K3 65536) ((uptoV R3 K3 65536 : Nat) : Int)) (Nat.le_trans rawV_len (Nat.le_trans numR_len (by rw [hR3]; exact Nat.le_trans numR_len (by rw [hR2]; exact Nat.le_trans numR_len (by rw [hR1]; exact Nat.le_trans numR_len hb))))) _ _ (OwnB.rd (hH.own (i := 3) rfl))) ?_
            rintro _ w51 ⟨⟨gr_t70, gs_t70, y4, ge_t70, rfl, hG_gr_t70, ho, hg⟩, hx⟩
            refine ⟨_, rfl, ?_⟩
            replace hH : Heap (newN w) w w51 [oBlk g1 (([.int .i64 0, .int .i64 0, .int .i64 0, .int .i64 0, .int .i64 0, .int .i64 0] : List Value) ++ (cBs (List.replicate 32 0) ++ (cBs (List.replicate 32 0) ++ (([.int .i64 0] : List Value) ++ (cBs (List.replicate 32 0) ++ (([.int .i64 0] : List Value) ++ (cBs (List.replicate 32 0) ++ (([.int .i64 0, .int .i64 0] : List Value) ++ (cBs (List.replicate 32 0) ++ (([.slice none 0 0, .int .i64 0, .int .i64 0, .int .i64 0] : List Value) ++ (cBs (List.replicate 32 0) ++ (cBs (List.replicate 32 0) ++ ([.slice none 0 0] : List Value))))))))))))) 81, oEye g2 z1 R16 K20, oBlk g3 (([.int .i64 ((uptoV b 0 5 : Nat) : Int), .int .i64 ((uptoV R1 K1 255 : Nat) : Int), .int .i64 ((uptoV R2 K2 255 : Nat) : Int), .int .i64 0, .int .i64 0, .int .i64 0] : List Value) ++ (cBs (List.replicate 32 0) ++ (cBs (List.replicate 32 0) ++ (([.int .i64 0] : List Value) ++ (cBs (List.replicate 32 0) ++ (([.int .i64 0] : List Value) ++ (cBs (List.replicate 32 0) ++ (([.int .i64 0, .int .i64 0] : List Value) ++ (cBs (List.replicate 32 0) ++ (([.slice none 0 0, .int .i64 0, .int .i64 0, .int .i64 0] : List Value) ++ (cBs (List.replicate 32 0) ++ (cBs (List.replicate 32 0) ++ ([.slice none 0 0] : List Value))))))))))))) 81, oB y3 (rawV (numR R3 K3) (uptoE R3 K3 65536) ((uptoV R3 K3 65536 : Nat) : Int)), oB y4 gs_t70] := hH.addOwn hx hg ho
            clear ho hg
            clear hx
            refine lf_val (v := .tuple #[.agg (([.int .i64 gr_t70.t, .int .i64 gr_t70.c, .int .i64 gr_t70.s] : List Value) ++ (cBs gr_t70.h.1 ++ (cBs gr_t70.b.1 ++ ([y4] : List Value)))).toArray, .int .i64 ge_t70]) (wantAll rfl) (rv_move rfl (fr_eval rfl rfl)) ?_
            refine lf_val (v := .agg (([.int .i64 gr_t70.t, .int .i64 gr_t70.c, .int .i64 gr_t70.s] : List Value) ++ (cBs gr_t70.h.1 ++ (cBs gr_t70.b.1 ++ ([y4] : List Value)))).toArray) (wantAll rfl) (rv_extract rfl (fr_eval rfl rfl) rfl) ?_
            refine lf_val (v := .int .i64 ge_t70) (wantAll rfl) (rv_extract rfl (fr_eval rfl rfl) rfl) ?_
            refine lf_val (v := .pointer (some ⟨g3, 171, none⟩)) (wantAll rfl) (rv_fieldAddr (n := 67) rfl (fr_eval rfl e5) Try.underlying81 rfl rfl (by kernel_rfl)) ?_
            refine lf_sk (wantAll rfl) (hx_storeM hH (i := 2) (j := 171) (cs := ([.int .i64 gr_t70.t, .int .i64 gr_t70.c, .int .i64 gr_t70.s] : List Value) ++ (cBs gr_t70.h.1 ++ (cBs gr_t70.b.1 ++ ([y4] : List Value)))) rfl rfl rfl (zTG_y30 (List.length_replicate ..) (List.length_replicate ..) (List.length_replicate ..) (List.length_replicate ..) (List.length_replicate ..) (List.length_replicate ..) (List.length_replicate ..) gr_t70.h.2 gr_t70.b.2) (le_of_len (zTG_l10 (List.length_replicate ..) (List.length_replicate ..) (List.length_replicate ..) (List.length_replicate ..) (List.length_replicate ..) (List.length_replicate ..) (List.length_replicate ..)) (zTG_l31 gr_t70.h.2 gr_t70.b.2) (by decide)) (fr_eval rfl rfl) (fr_eval rfl rfl) (sz_len Try.sz61 (zTG_l31 gr_t70.h.2 gr_t70.b.2)) (zTG_o32 rfl rfl rfl (Rd.oneV (OwnB.rd (hH.own (i := 4) rfl))))) ?_
            clear hH
            rintro w52 ⟨hH, hx⟩
            replace hH : Heap _ _ _ [_, _, _, _, _] := hH
            clear hx
            refine lf_val (v := .int .i64 ge_t70) (wantAll rfl) (rv_assign rfl (fr_eval rfl rfl)) ?_
            refine lf_nil ?_
            refine blk_n ?_
            refine then_n ?_
            refine wp_seq ?_
            refine wp_seq ?_
            replace hH : Heap _ _ _ [_, _, _, _] := hH.drop (.cons_cons _ (.cons_cons _ (.cons_cons _ (.cons _ (.cons_cons _ .slnil)))))
            refine wp_gen (fun F' => F' 0 = v ∧ F' 2 = .pointer (some ⟨g1, 0, none⟩) ∧ F' 3 = .int .i64 0 ∧ F' 4 = .pointer (some ⟨g2, 0, none⟩) ∧ F' 5 = .pointer (some ⟨g3, 0, none⟩) ∧ F' 6 = .int .i64 ge_t70 ∧ F' 18 = .int .i64 ((uptoV b 0 5 : Nat) : Int) ∧ F' 19 = .bool false ∧ F' 37 = .bool false ∧ F' 48 = .bool false ∧ F' 56 = .bool false ∧ F' 65 = .bool true) ⟨e0, e2, e3, e4, e5, rfl, e18, e19, e37, e48, e56, (e65.trans (congrArg Value.bool (decide_eq_true hc14)))⟩ ?_
            clear e0 e2 e3 e4 e5 e6 e18 e19 e37 e48 e56 e65
            clear F
            rintro F ⟨e0, e2, e3, e4, e5, e6, e18, e19, e37, e48, e56, e65⟩
            have hM := mid_receipt hR1 hK1 hR2 hK2 hR3 hK3 hR16 hK20 hG_gr_t70 (by assumption)
            refine wp_regionF ?_
            refine lf_val (v := .pointer (some ⟨g2, 0, none⟩)) (wantAll rfl) (rv_move rfl (fr_eval rfl e4)) ?_
            refine lf_call (wantAll rfl) (rv_call (args := [.pointer (some ⟨g2, 0, none⟩)]) rfl (evc (fr_eval rfl rfl) evn) Try.call22) (done_calls  _ (hH.eye (i := 1) rfl) (eye_ne hH (i := 1) rfl hv_g2)) ?_
            rintro _ w53 ⟨rfl, hy, hxf⟩
            refine ⟨_, rfl, ?_⟩
            replace hH : Heap _ _ _ [_, _, _, _] := hH.setEye (i := 1) rfl rfl hv_g2 hy hxf
            clear hy
            clear hxf
            obtain ⟨K21, hK21⟩ : ∃ q : Int, q = (doneE R16 K20) := ⟨_, rfl⟩
            rw [← hK21] at hH
            refine lf_val (v := .int .i64 (doneE R16 K20)) (wantAll rfl) (rv_assign rfl (fr_eval rfl rfl)) ?_
            refine lf_nil ?_
            refine then_n ?_
            refine wp_seq ?_
            refine wp_gen (fun F' => F' 0 = v ∧ F' 2 = .pointer (some ⟨g1, 0, none⟩) ∧ F' 3 = .int .i64 0 ∧ F' 4 = .pointer (some ⟨g2, 0, none⟩) ∧ F' 5 = .pointer (some ⟨g3, 0, none⟩) ∧ F' 6 = .int .i64 ge_t70 ∧ F' 7 = .int .i64 (doneE R16 K20) ∧ F' 18 = .int .i64 ((uptoV b 0 5 : Nat) : Int) ∧ F' 19 = .bool false ∧ F' 37 = .bool false ∧ F' 48 = .bool false ∧ F' 56 = .bool false ∧ F' 65 = .bool true) ⟨e0, e2, e3, e4, e5, e6, rfl, e18, e19, e37, e48, e56, e65⟩ ?_
            clear e0 e2 e3 e4 e5 e6 e18 e19 e37 e48 e56 e65
            clear F
            rintro F ⟨e0, e2, e3, e4, e5, e6, e7, e18, e19, e37, e48, e56, e65⟩
            refine wp_regionF ?_
            refine lf_val (v := .int .i64 (doneE R16 K20)) (wantAll rfl) (rv_move rfl (fr_eval rfl e7)) ?_
            refine lf_val (v := .bool (decide (¬ doneE R16 K20 = 0))) (wantAll rfl) (rv_neqP (p := ¬ doneE R16 K20 = 0) rfl (fr_eval rfl rfl) rfl Iff.rfl) ?_
            refine lf_nil ?_
            refine then_n ?_
            refine wp_gen (fun F' => F' 0 = v ∧ F' 2 = .pointer (some ⟨g1, 0, none⟩) ∧ F' 3 = .int .i64 0 ∧ F' 4 = .pointer (some ⟨g2, 0, none⟩) ∧ F' 5 = .pointer (some ⟨g3, 0, none⟩) ∧ F' 6 = .int .i64 ge_t70 ∧ F' 7 = .int .i64 (doneE R16 K20) ∧ F' 18 = .int .i64 ((uptoV b 0 5 : Nat) : Int) ∧ F' 19 = .bool false ∧ F' 37 = .bool false ∧ F' 48 = .bool false ∧ F' 56 = .bool false ∧ F' 65 = .bool true ∧ F' 77 = .bool (decide (¬ doneE R16 K20 = 0))) ⟨e0, e2, e3, e4, e5, e6, e7, e18, e19, e37, e48, e56, e65, rfl⟩ ?_
            clear e0 e2 e3 e4 e5 e6 e7 e18 e19 e37 e48 e56 e65
            clear F
            rintro F ⟨e0, e2, e3, e4, e5, e6, e7, e18, e19, e37, e48, e56, e65, e77⟩
            by_cases hc15 : doneE R16 K20 = 0
            · refine wp_cond_false (fr_eval rfl (e77.trans (congrArg Value.bool (decide_eq_false (not_not_intro hc15))))) ?_
              refine wp_skip ?_
              refine then_n ?_
              refine wp_seq ?_
              refine wp_seq ?_
              refine wp_regionF ?_
              refine lf_val (v := .int .i64 ge_t70) (wantAll rfl) (rv_move rfl (fr_eval rfl e6)) ?_
              refine lf_val (v := .bool (decide (¬ ge_t70 = 0))) (wantAll rfl) (rv_neqP (p := ¬ ge_t70 = 0) rfl (fr_eval rfl rfl) rfl Iff.rfl) ?_
              refine lf_nil ?_
              refine then_n ?_
              refine wp_gen (fun F' => F' 0 = v ∧ F' 2 = .pointer (some ⟨g1, 0, none⟩) ∧ F' 3 = .int .i64 0 ∧ F' 4 = .pointer (some ⟨g2, 0, none⟩) ∧ F' 5 = .pointer (some ⟨g3, 0, none⟩) ∧ F' 6 = .int .i64 ge_t70 ∧ F' 7 = .int .i64 (doneE R16 K20) ∧ F' 18 = .int .i64 ((uptoV b 0 5 : Nat) : Int) ∧ F' 19 = .bool false ∧ F' 37 = .bool false ∧ F' 48 = .bool false ∧ F' 56 = .bool false ∧ F' 65 = .bool true ∧ F' 77 = .bool false ∧ F' 81 = .bool (decide (¬ ge_t70 = 0))) ⟨e0, e2, e3, e4, e5, e6, e7, e18, e19, e37, e48, e56, e65, (e77.trans (congrArg Value.bool (decide_eq_false (not_not_intro hc15)))), rfl⟩ ?_
              clear e0 e2 e3 e4 e5 e6 e7 e18 e19 e37 e48 e56 e65 e77
              clear F
              rintro F ⟨e0, e2, e3, e4, e5, e6, e7, e18, e19, e37, e48, e56, e65, e77, e81⟩
              by_cases hc16 : ge_t70 = 0
              · refine wp_cond_false (fr_eval rfl (e81.trans (congrArg Value.bool (decide_eq_false (not_not_intro hc16))))) ?_
                refine wp_skip ?_
                refine then_n ?_
                refine wp_seq ?_
                refine wp_seq ?_
                refine wp_regionF ?_
                refine lf_val (wantAll rfl) (rv_loadW rfl (hH.blk (i := 2) rfl) (fr_eval rfl e5) Try.underlying81 rfl (sz_len Try.sz81 (zTG_l10 (List.length_replicate ..) (List.length_replicate ..) (List.length_replicate ..) (List.length_replicate ..) (List.length_replicate ..) gr_t70.h.2 gr_t70.b.2))) ?_
                refine lf_call (wantAll rfl) (rv_call (args := [.agg (([.int .i64 ((uptoV b 0 5 : Nat) : Int), .int .i64 ((uptoV R1 K1 255 : Nat) : Int), .int .i64 ((uptoV R2 K2 255 : Nat) : Int), .int .i64 0, .int .i64 0, .int .i64 0] : List Value) ++ (cBs (List.replicate 32 0) ++ (cBs (List.replicate 32 0) ++ (([.int .i64 0] : List Value) ++ (cBs (List.replicate 32 0) ++ (([.int .i64 0] : List Value) ++ (cBs (List.replicate 32 0) ++ (([.int .i64 0, .int .i64 0] : List Value) ++ (cBs (List.replicate 32 0) ++ (([.slice none 0 0, .int .i64 gr_t70.t, .int .i64 gr_t70.c, .int .i64 gr_t70.s] : List Value) ++ (cBs gr_t70.h.1 ++ (cBs gr_t70.b.1 ++ ([y4] : List Value))))))))))))).toArray]) rfl (evc (fr_eval rfl rfl) evn) Try.call52) (msRight_calls (⟨((uptoV b 0 5 : Nat) : Int), ((uptoV R1 K1 255 : Nat) : Int), ((uptoV R2 K2 255 : Nat) : Int), 0, 0, 0, ⟨List.replicate 32 0, (List.length_replicate ..)⟩, ⟨List.replicate 32 0, (List.length_replicate ..)⟩, 0, ⟨List.replicate 32 0, (List.length_replicate ..)⟩, 0, ⟨List.replicate 32 0, (List.length_replicate ..)⟩, 0, 0, ⟨List.replicate 32 0, (List.length_replicate ..)⟩, gr_t70⟩ : Ms) _ _ _) ?_
                rintro _ w54 ⟨rfl, hx⟩
                refine ⟨_, rfl, ?_⟩
                replace hH := hH.ext hx
                clear hx
                refine lf_val (v := .bool (decide (¬ (inM (⟨((uptoV b 0 5 : Nat) : Int), ((uptoV R1 K1 255 : Nat) : Int), ((uptoV R2 K2 255 : Nat) : Int), 0, 0, 0, ⟨List.replicate 32 0, (List.length_replicate ..)⟩, ⟨List.replicate 32 0, (List.length_replicate ..)⟩, 0, ⟨List.replicate 32 0, (List.length_replicate ..)⟩, 0, ⟨List.replicate 32 0, (List.length_replicate ..)⟩, 0, 0, ⟨List.replicate 32 0, (List.length_replicate ..)⟩, gr_t70⟩ : Ms))))) (wantAll rfl) (rv_notP (q := ¬ (inM (⟨((uptoV b 0 5 : Nat) : Int), ((uptoV R1 K1 255 : Nat) : Int), ((uptoV R2 K2 255 : Nat) : Int), 0, 0, 0, ⟨List.replicate 32 0, (List.length_replicate ..)⟩, ⟨List.replicate 32 0, (List.length_replicate ..)⟩, 0, ⟨List.replicate 32 0, (List.length_replicate ..)⟩, 0, ⟨List.replicate 32 0, (List.length_replicate ..)⟩, 0, 0, ⟨List.replicate 32 0, (List.length_replicate ..)⟩, gr_t70⟩ : Ms))) rfl (fr_eval rfl rfl) Iff.rfl) ?_
                refine lf_nil ?_
                refine then_n ?_
                refine wp_gen (fun F' => F' 0 = v ∧ F' 2 = .pointer (some ⟨g1, 0, none⟩) ∧ F' 3 = .int .i64 0 ∧ F' 4 = .pointer (some ⟨g2, 0, none⟩) ∧ F' 5 = .pointer (some ⟨g3, 0, none⟩) ∧ F' 6 = .int .i64 ge_t70 ∧ F' 7 = .int .i64 (doneE R16 K20) ∧ F' 18 = .int .i64 ((uptoV b 0 5 : Nat) : Int) ∧ F' 19 = .bool false ∧ F' 37 = .bool false ∧ F' 48 = .bool false ∧ F' 56 = .bool false ∧ F' 65 = .bool true ∧ F' 77 = .bool false ∧ F' 81 = .bool false ∧ F' 86 = .bool (decide (¬ (inM (⟨((uptoV b 0 5 : Nat) : Int), ((uptoV R1 K1 255 : Nat) : Int), ((uptoV R2 K2 255 : Nat) : Int), 0, 0, 0, ⟨List.replicate 32 0, (List.length_replicate ..)⟩, ⟨List.replicate 32 0, (List.length_replicate ..)⟩, 0, ⟨List.replicate 32 0, (List.length_replicate ..)⟩, 0, ⟨List.replicate 32 0, (List.length_replicate ..)⟩, 0, 0, ⟨List.replicate 32 0, (List.length_replicate ..)⟩, gr_t70⟩ : Ms))))) ⟨e0, e2, e3, e4, e5, e6, e7, e18, e19, e37, e48, e56, e65, e77, (e81.trans (congrArg Value.bool (decide_eq_false (not_not_intro hc16)))), rfl⟩ ?_
                clear e0 e2 e3 e4 e5 e6 e7 e18 e19 e37 e48 e56 e65 e77 e81
                clear F
                rintro F ⟨e0, e2, e3, e4, e5, e6, e7, e18, e19, e37, e48, e56, e65, e77, e81, e86⟩
                by_cases hc17 : inM (⟨((uptoV b 0 5 : Nat) : Int), ((uptoV R1 K1 255 : Nat) : Int), ((uptoV R2 K2 255 : Nat) : Int), 0, 0, 0, ⟨List.replicate 32 0, (List.length_replicate ..)⟩, ⟨List.replicate 32 0, (List.length_replicate ..)⟩, 0, ⟨List.replicate 32 0, (List.length_replicate ..)⟩, 0, ⟨List.replicate 32 0, (List.length_replicate ..)⟩, 0, 0, ⟨List.replicate 32 0, (List.length_replicate ..)⟩, gr_t70⟩ : Ms)
                · refine wp_cond_false (fr_eval rfl (e86.trans (congrArg Value.bool (decide_eq_false (not_not_intro hc17))))) ?_
                  refine wp_skip ?_
                  refine then_n ?_
                  refine wp_seq ?_
                  refine wp_regionF ?_
                  refine lf_val (wantAll rfl) (rv_loadW rfl (hH.blk (i := 2) rfl) (fr_eval rfl e5) Try.underlying81 rfl (sz_len Try.sz81 (zTG_l10 (List.length_replicate ..) (List.length_replicate ..) (List.length_replicate ..) (List.length_replicate ..) (List.length_replicate ..) gr_t70.h.2 gr_t70.b.2))) ?_
                  refine lf_sk (wantAll rfl) (hx_storeW hH (i := 0) (cs := ([.int .i64 ((uptoV b 0 5 : Nat) : Int), .int .i64 ((uptoV R1 K1 255 : Nat) : Int), .int .i64 ((uptoV R2 K2 255 : Nat) : Int), .int .i64 0, .int .i64 0, .int .i64 0] : List Value) ++ (cBs (List.replicate 32 0) ++ (cBs (List.replicate 32 0) ++ (([.int .i64 0] : List Value) ++ (cBs (List.replicate 32 0) ++ (([.int .i64 0] : List Value) ++ (cBs (List.replicate 32 0) ++ (([.int .i64 0, .int .i64 0] : List Value) ++ (cBs (List.replicate 32 0) ++ (([.slice none 0 0, .int .i64 gr_t70.t, .int .i64 gr_t70.c, .int .i64 gr_t70.s] : List Value) ++ (cBs gr_t70.h.1 ++ (cBs gr_t70.b.1 ++ ([y4] : List Value))))))))))))) rfl rfl rfl (fr_eval rfl e2) (fr_eval rfl rfl) (sz_len Try.sz81 (zTG_l10 (List.length_replicate ..) (List.length_replicate ..) (List.length_replicate ..) (List.length_replicate ..) (List.length_replicate ..) gr_t70.h.2 gr_t70.b.2)) (((zTG_l10 (List.length_replicate ..) (List.length_replicate ..) (List.length_replicate ..) (List.length_replicate ..) (List.length_replicate ..) (List.length_replicate ..) (List.length_replicate ..))).trans ((zTG_l10 (List.length_replicate ..) (List.length_replicate ..) (List.length_replicate ..) (List.length_replicate ..) (List.length_replicate ..) gr_t70.h.2 gr_t70.b.2)).symm) (zTG_o14 rfl rfl rfl rfl rfl rfl rfl rfl rfl rfl rfl rfl rfl rfl (Rd.oneV (OwnB.rd (hH.own (i := 3) rfl))))) ?_
                  clear hH
                  rintro w55 ⟨hH, hx⟩
                  replace hH : Heap _ _ _ [_, _, _, _] := hH
                  clear hx
                  refine lf_val (v := .int .i64 0) (wantAll rfl) (rv_assign rfl rfl) ?_
                  refine lf_nil ?_
                  refine then_n ?_
                  refine wp_gen (fun F' => F' 0 = v ∧ F' 2 = .pointer (some ⟨g1, 0, none⟩) ∧ F' 3 = .int .i64 0 ∧ F' 4 = .pointer (some ⟨g2, 0, none⟩) ∧ F' 5 = .pointer (some ⟨g3, 0, none⟩) ∧ F' 6 = .int .i64 ge_t70 ∧ F' 7 = .int .i64 (doneE R16 K20) ∧ F' 18 = .int .i64 ((uptoV b 0 5 : Nat) : Int) ∧ F' 19 = .bool false ∧ F' 37 = .bool false ∧ F' 48 = .bool false ∧ F' 56 = .bool false ∧ F' 65 = .bool true ∧ F' 77 = .bool false ∧ F' 81 = .bool false ∧ F' 86 = .bool false) ⟨e0, e2, rfl, e4, e5, e6, e7, e18, e19, e37, e48, e56, e65, e77, e81, (e86.trans (congrArg Value.bool (decide_eq_false (not_not_intro hc17))))⟩ ?_
                  clear e0 e2 e3 e4 e5 e6 e7 e18 e19 e37 e48 e56 e65 e77 e81 e86
                  clear F
                  rintro F ⟨e0, e2, e3, e4, e5, e6, e7, e18, e19, e37, e48, e56, e65, e77, e81, e86⟩
                  refine wp_ret ?_
                  have hF := hH
                  replace hF : Heap _ _ _ [_, _, _, _, _] := hF.addNil 5 1
                  replace hF : Heap _ _ _ [_, _] := hF.drop (.cons _ (.cons _ (.cons _ (.cons_cons _ (.cons_cons _ .slnil)))))
                  replace hF : Heap _ _ _ [_, _] := hF.perm (.trans (.swap _ _ _) (.cons _ (.refl _)))
                  exact bodyPost_ret (res2 rfl (ro_cell rfl e2 (hH.blk (i := 0) rfl) Try.underlying81 rfl (sz_len Try.sz81 (zTG_l10 (List.length_replicate ..) (List.length_replicate ..) (List.length_replicate ..) (List.length_replicate ..) (List.length_replicate ..) gr_t70.h.2 gr_t70.b.2))) (ro_tmp rfl e3)) rfl (⟨_, _, _, _, _, _, rfl, hM.ok (by assumption) (by assumption) (by assumption), hF⟩)
                · refine wp_cond_true (fr_eval rfl (e86.trans (congrArg Value.bool (decide_eq_true hc17)))) ?_
                  refine wp_seq ?_
                  refine wp_regionF ?_
                  refine lf_val (wantAll rfl) (rv_buildS (ps := []) (places := #[(0, 1), (1, 1), (2, 1), (3, 67), (70, 33), (103, 1), (104, 32), (136, 35), (171, 68)]) (z := .agg (([.int .i64 0, .int .i64 0, .int .i64 0, .int .i64 0, .int .i64 0, .int .i64 0] : List Value) ++ (cBs (List.replicate 32 0) ++ (cBs (List.replicate 32 0) ++ (([.int .i64 0] : List Value) ++ (cBs (List.replicate 32 0) ++ (([.int .i64 0] : List Value) ++ (cBs (List.replicate 32 0) ++ (([.int .i64 0, .int .i64 0] : List Value) ++ (cBs (List.replicate 32 0) ++ (([.slice none 0 0, .int .i64 0, .int .i64 0, .int .i64 0] : List Value) ++ (cBs (List.replicate 32 0) ++ (cBs (List.replicate 32 0) ++ ([.slice none 0 0] : List Value))))))))))))).toArray) (zc := ([.int .i64 0, .int .i64 0, .int .i64 0, .int .i64 0, .int .i64 0, .int .i64 0] : List Value) ++ (cBs (List.replicate 32 0) ++ (cBs (List.replicate 32 0) ++ (([.int .i64 0] : List Value) ++ (cBs (List.replicate 32 0) ++ (([.int .i64 0] : List Value) ++ (cBs (List.replicate 32 0) ++ (([.int .i64 0, .int .i64 0] : List Value) ++ (cBs (List.replicate 32 0) ++ (([.slice none 0 0, .int .i64 0, .int .i64 0, .int .i64 0] : List Value) ++ (cBs (List.replicate 32 0) ++ (cBs (List.replicate 32 0) ++ ([.slice none 0 0] : List Value))))))))))))) (cs := ([.int .i64 0, .int .i64 0, .int .i64 0, .int .i64 0, .int .i64 0, .int .i64 0] : List Value) ++ (cBs (List.replicate 32 0) ++ (cBs (List.replicate 32 0) ++ (([.int .i64 0] : List Value) ++ (cBs (List.replicate 32 0) ++ (([.int .i64 0] : List Value) ++ (cBs (List.replicate 32 0) ++ (([.int .i64 0, .int .i64 0] : List Value) ++ (cBs (List.replicate 32 0) ++ (([.slice none 0 0, .int .i64 0, .int .i64 0, .int .i64 0] : List Value) ++ (cBs (List.replicate 32 0) ++ (cBs (List.replicate 32 0) ++ ([.slice none 0 0] : List Value))))))))))))) rfl evpn (by kernel_rfl) rfl Try.underlying81 (fun _ => by kernel_rfl) fill0) ?_
                  refine lf_sk (wantAll rfl) (hx_storeW hH (i := 0) (cs := ([.int .i64 0, .int .i64 0, .int .i64 0, .int .i64 0, .int .i64 0, .int .i64 0] : List Value) ++ (cBs (List.replicate 32 0) ++ (cBs (List.replicate 32 0) ++ (([.int .i64 0] : List Value) ++ (cBs (List.replicate 32 0) ++ (([.int .i64 0] : List Value) ++ (cBs (List.replicate 32 0) ++ (([.int .i64 0, .int .i64 0] : List Value) ++ (cBs (List.replicate 32 0) ++ (([.slice none 0 0, .int .i64 0, .int .i64 0, .int .i64 0] : List Value) ++ (cBs (List.replicate 32 0) ++ (cBs (List.replicate 32 0) ++ ([.slice none 0 0] : List Value))))))))))))) rfl rfl rfl (fr_eval rfl e2) (fr_eval rfl rfl) (sz_len Try.sz81 (zTG_l10 (List.length_replicate ..) (List.length_replicate ..) (List.length_replicate ..) (List.length_replicate ..) (List.length_replicate ..) (List.length_replicate ..) (List.length_replicate ..))) (((zTG_l10 (List.length_replicate ..) (List.length_replicate ..) (List.length_replicate ..) (List.length_replicate ..) (List.length_replicate ..) (List.length_replicate ..) (List.length_replicate ..))).trans ((zTG_l10 (List.length_replicate ..) (List.length_replicate ..) (List.length_replicate ..) (List.length_replicate ..) (List.length_replicate ..) (List.length_replicate ..) (List.length_replicate ..))).symm) (zTG_o14 rfl rfl rfl rfl rfl rfl rfl rfl rfl rfl rfl rfl rfl rfl rfl)) ?_
                  clear hH
                  rintro w56 ⟨hH, hx⟩
                  replace hH : Heap _ _ _ [_, _, _, _] := hH
                  clear hx
                  refine lf_val (v := .int .i64 4) (wantAll rfl) (rv_assign rfl rfl) ?_
                  refine lf_nil ?_
                  refine then_n ?_
                  refine wp_gen (fun F' => F' 0 = v ∧ F' 2 = .pointer (some ⟨g1, 0, none⟩) ∧ F' 3 = .int .i64 4 ∧ F' 4 = .pointer (some ⟨g2, 0, none⟩) ∧ F' 5 = .pointer (some ⟨g3, 0, none⟩) ∧ F' 6 = .int .i64 ge_t70 ∧ F' 7 = .int .i64 (doneE R16 K20) ∧ F' 18 = .int .i64 ((uptoV b 0 5 : Nat) : Int) ∧ F' 19 = .bool false ∧ F' 37 = .bool false ∧ F' 48 = .bool false ∧ F' 56 = .bool false ∧ F' 65 = .bool true ∧ F' 77 = .bool false ∧ F' 81 = .bool false ∧ F' 86 = .bool true) ⟨e0, e2, rfl, e4, e5, e6, e7, e18, e19, e37, e48, e56, e65, e77, e81, (e86.trans (congrArg Value.bool (decide_eq_true hc17)))⟩ ?_
                  clear e0 e2 e3 e4 e5 e6 e7 e18 e19 e37 e48 e56 e65 e77 e81 e86
                  clear F
                  rintro F ⟨e0, e2, e3, e4, e5, e6, e7, e18, e19, e37, e48, e56, e65, e77, e81, e86⟩
                  refine wp_ret ?_
                  refine then_ret ?_
                  have hF := hH
                  replace hF : Heap _ _ _ [_, _, _, _, _] := hF.addNil 5 1
                  replace hF : Heap _ _ _ [_, _, _, _, _, _] := hF.addNil 5 1
                  replace hF : Heap _ _ _ [_, _] := hF.drop (.cons _ (.cons _ (.cons _ (.cons _ (.cons_cons _ (.cons_cons _ .slnil))))))
                  exact bodyPost_ret (res2 rfl (ro_cell rfl e2 (hH.blk (i := 0) rfl) Try.underlying81 rfl (sz_len Try.sz81 (zTG_l10 (List.length_replicate ..) (List.length_replicate ..) (List.length_replicate ..) (List.length_replicate ..) (List.length_replicate ..) (List.length_replicate ..) (List.length_replicate ..)))) (ro_tmp rfl e3)) rfl (⟨zM, [], [], _, _, _, rfl, hM.no (by assumption), hF⟩)
              · refine wp_cond_true (fr_eval rfl (e81.trans (congrArg Value.bool (decide_eq_true hc16)))) ?_
                refine wp_seq ?_
                refine wp_regionF ?_
                refine lf_val (wantAll rfl) (rv_buildS (ps := []) (places := #[(0, 1), (1, 1), (2, 1), (3, 67), (70, 33), (103, 1), (104, 32), (136, 35), (171, 68)]) (z := .agg (([.int .i64 0, .int .i64 0, .int .i64 0, .int .i64 0, .int .i64 0, .int .i64 0] : List Value) ++ (cBs (List.replicate 32 0) ++ (cBs (List.replicate 32 0) ++ (([.int .i64 0] : List Value) ++ (cBs (List.replicate 32 0) ++ (([.int .i64 0] : List Value) ++ (cBs (List.replicate 32 0) ++ (([.int .i64 0, .int .i64 0] : List Value) ++ (cBs (List.replicate 32 0) ++ (([.slice none 0 0, .int .i64 0, .int .i64 0, .int .i64 0] : List Value) ++ (cBs (List.replicate 32 0) ++ (cBs (List.replicate 32 0) ++ ([.slice none 0 0] : List Value))))))))))))).toArray) (zc := ([.int .i64 0, .int .i64 0, .int .i64 0, .int .i64 0, .int .i64 0, .int .i64 0] : List Value) ++ (cBs (List.replicate 32 0) ++ (cBs (List.replicate 32 0) ++ (([.int .i64 0] : List Value) ++ (cBs (List.replicate 32 0) ++ (([.int .i64 0] : List Value) ++ (cBs (List.replicate 32 0) ++ (([.int .i64 0, .int .i64 0] : List Value) ++ (cBs (List.replicate 32 0) ++ (([.slice none 0 0, .int .i64 0, .int .i64 0, .int .i64 0] : List Value) ++ (cBs (List.replicate 32 0) ++ (cBs (List.replicate 32 0) ++ ([.slice none 0 0] : List Value))))))))))))) (cs := ([.int .i64 0, .int .i64 0, .int .i64 0, .int .i64 0, .int .i64 0, .int .i64 0] : List Value) ++ (cBs (List.replicate 32 0) ++ (cBs (List.replicate 32 0) ++ (([.int .i64 0] : List Value) ++ (cBs (List.replicate 32 0) ++ (([.int .i64 0] : List Value) ++ (cBs (List.replicate 32 0) ++ (([.int .i64 0, .int .i64 0] : List Value) ++ (cBs (List.replicate 32 0) ++ (([.slice none 0 0, .int .i64 0, .int .i64 0, .int .i64 0] : List Value) ++ (cBs (List.replicate 32 0) ++ (cBs (List.replicate 32 0) ++ ([.slice none 0 0] : List Value))))))))))))) rfl evpn (by kernel_rfl) rfl Try.underlying81 (fun _ => by kernel_rfl) fill0) ?_
                refine lf_val (v := .int .i64 ge_t70) (wantAll rfl) (rv_move rfl (fr_eval rfl e6)) ?_
                refine lf_sk (wantAll rfl) (hx_storeW hH (i := 0) (cs := ([.int .i64 0, .int .i64 0, .int .i64 0, .int .i64 0, .int .i64 0, .int .i64 0] : List Value) ++ (cBs (List.replicate 32 0) ++ (cBs (List.replicate 32 0) ++ (([.int .i64 0] : List Value) ++ (cBs (List.replicate 32 0) ++ (([.int .i64 0] : List Value) ++ (cBs (List.replicate 32 0) ++ (([.int .i64 0, .int .i64 0] : List Value) ++ (cBs (List.replicate 32 0) ++ (([.slice none 0 0, .int .i64 0, .int .i64 0, .int .i64 0] : List Value) ++ (cBs (List.replicate 32 0) ++ (cBs (List.replicate 32 0) ++ ([.slice none 0 0] : List Value))))))))))))) rfl rfl rfl (fr_eval rfl e2) (fr_eval rfl rfl) (sz_len Try.sz81 (zTG_l10 (List.length_replicate ..) (List.length_replicate ..) (List.length_replicate ..) (List.length_replicate ..) (List.length_replicate ..) (List.length_replicate ..) (List.length_replicate ..))) (((zTG_l10 (List.length_replicate ..) (List.length_replicate ..) (List.length_replicate ..) (List.length_replicate ..) (List.length_replicate ..) (List.length_replicate ..) (List.length_replicate ..))).trans ((zTG_l10 (List.length_replicate ..) (List.length_replicate ..) (List.length_replicate ..) (List.length_replicate ..) (List.length_replicate ..) (List.length_replicate ..) (List.length_replicate ..))).symm) (zTG_o14 rfl rfl rfl rfl rfl rfl rfl rfl rfl rfl rfl rfl rfl rfl rfl)) ?_
                clear hH
                rintro w57 ⟨hH, hx⟩
                replace hH : Heap _ _ _ [_, _, _, _] := hH
                clear hx
                refine lf_val (v := .int .i64 ge_t70) (wantAll rfl) (rv_assign rfl (fr_eval rfl rfl)) ?_
                refine lf_nil ?_
                refine then_n ?_
                refine wp_gen (fun F' => F' 0 = v ∧ F' 2 = .pointer (some ⟨g1, 0, none⟩) ∧ F' 3 = .int .i64 ge_t70 ∧ F' 4 = .pointer (some ⟨g2, 0, none⟩) ∧ F' 5 = .pointer (some ⟨g3, 0, none⟩) ∧ F' 6 = .int .i64 ge_t70 ∧ F' 7 = .int .i64 (doneE R16 K20) ∧ F' 18 = .int .i64 ((uptoV b 0 5 : Nat) : Int) ∧ F' 19 = .bool false ∧ F' 37 = .bool false ∧ F' 48 = .bool false ∧ F' 56 = .bool false ∧ F' 65 = .bool true ∧ F' 77 = .bool false ∧ F' 81 = .bool true) ⟨e0, e2, rfl, e4, e5, e6, e7, e18, e19, e37, e48, e56, e65, e77, (e81.trans (congrArg Value.bool (decide_eq_true hc16)))⟩ ?_
                clear e0 e2 e3 e4 e5 e6 e7 e18 e19 e37 e48 e56 e65 e77 e81
                clear F
                rintro F ⟨e0, e2, e3, e4, e5, e6, e7, e18, e19, e37, e48, e56, e65, e77, e81⟩
                refine wp_ret ?_
                refine then_ret ?_
                have hF := hH
                replace hF : Heap _ _ _ [_, _, _, _, _] := hF.addNil 5 1
                replace hF : Heap _ _ _ [_, _, _, _, _, _] := hF.addNil 5 1
                replace hF : Heap _ _ _ [_, _] := hF.drop (.cons _ (.cons _ (.cons _ (.cons _ (.cons_cons _ (.cons_cons _ .slnil))))))
                exact bodyPost_ret (res2 rfl (ro_cell rfl e2 (hH.blk (i := 0) rfl) Try.underlying81 rfl (sz_len Try.sz81 (zTG_l10 (List.length_replicate ..) (List.length_replicate ..) (List.length_replicate ..) (List.length_replicate ..) (List.length_replicate ..) (List.length_replicate ..) (List.length_replicate ..)))) (ro_tmp rfl e3)) rfl (⟨zM, [], [], _, _, _, rfl, hM.err (by assumption), hF⟩)
            · refine wp_cond_true (fr_eval rfl (e77.trans (congrArg Value.bool (decide_eq_true hc15)))) ?_
              refine wp_seq ?_
              refine wp_regionF ?_
              refine lf_val (wantAll rfl) (rv_buildS (ps := []) (places := #[(0, 1), (1, 1), (2, 1), (3, 67), (70, 33), (103, 1), (104, 32), (136, 35), (171, 68)]) (z := .agg (([.int .i64 0, .int .i64 0, .int .i64 0, .int .i64 0, .int .i64 0, .int .i64 0] : List Value) ++ (cBs (List.replicate 32 0) ++ (cBs (List.replicate 32 0) ++ (([.int .i64 0] : List Value) ++ (cBs (List.replicate 32 0) ++ (([.int .i64 0] : List Value) ++ (cBs (List.replicate 32 0) ++ (([.int .i64 0, .int .i64 0] : List Value) ++ (cBs (List.replicate 32 0) ++ (([.slice none 0 0, .int .i64 0, .int .i64 0, .int .i64 0] : List Value) ++ (cBs (List.replicate 32 0) ++ (cBs (List.replicate 32 0) ++ ([.slice none 0 0] : List Value))))))))))))).toArray) (zc := ([.int .i64 0, .int .i64 0, .int .i64 0, .int .i64 0, .int .i64 0, .int .i64 0] : List Value) ++ (cBs (List.replicate 32 0) ++ (cBs (List.replicate 32 0) ++ (([.int .i64 0] : List Value) ++ (cBs (List.replicate 32 0) ++ (([.int .i64 0] : List Value) ++ (cBs (List.replicate 32 0) ++ (([.int .i64 0, .int .i64 0] : List Value) ++ (cBs (List.replicate 32 0) ++ (([.slice none 0 0, .int .i64 0, .int .i64 0, .int .i64 0] : List Value) ++ (cBs (List.replicate 32 0) ++ (cBs (List.replicate 32 0) ++ ([.slice none 0 0] : List Value))))))))))))) (cs := ([.int .i64 0, .int .i64 0, .int .i64 0, .int .i64 0, .int .i64 0, .int .i64 0] : List Value) ++ (cBs (List.replicate 32 0) ++ (cBs (List.replicate 32 0) ++ (([.int .i64 0] : List Value) ++ (cBs (List.replicate 32 0) ++ (([.int .i64 0] : List Value) ++ (cBs (List.replicate 32 0) ++ (([.int .i64 0, .int .i64 0] : List Value) ++ (cBs (List.replicate 32 0) ++ (([.slice none 0 0, .int .i64 0, .int .i64 0, .int .i64 0] : List Value) ++ (cBs (List.replicate 32 0) ++ (cBs (List.replicate 32 0) ++ ([.slice none 0 0] : List Value))))))))))))) rfl evpn (by kernel_rfl) rfl Try.underlying81 (fun _ => by kernel_rfl) fill0) ?_
              refine lf_val (v := .int .i64 (doneE R16 K20)) (wantAll rfl) (rv_move rfl (fr_eval rfl e7)) ?_
              refine lf_sk (wantAll rfl) (hx_storeW hH (i := 0) (cs := ([.int .i64 0, .int .i64 0, .int .i64 0, .int .i64 0, .int .i64 0, .int .i64 0] : List Value) ++ (cBs (List.replicate 32 0) ++ (cBs (List.replicate 32 0) ++ (([.int .i64 0] : List Value) ++ (cBs (List.replicate 32 0) ++ (([.int .i64 0] : List Value) ++ (cBs (List.replicate 32 0) ++ (([.int .i64 0, .int .i64 0] : List Value) ++ (cBs (List.replicate 32 0) ++ (([.slice none 0 0, .int .i64 0, .int .i64 0, .int .i64 0] : List Value) ++ (cBs (List.replicate 32 0) ++ (cBs (List.replicate 32 0) ++ ([.slice none 0 0] : List Value))))))))))))) rfl rfl rfl (fr_eval rfl e2) (fr_eval rfl rfl) (sz_len Try.sz81 (zTG_l10 (List.length_replicate ..) (List.length_replicate ..) (List.length_replicate ..) (List.length_replicate ..) (List.length_replicate ..) (List.length_replicate ..) (List.length_replicate ..))) (((zTG_l10 (List.length_replicate ..) (List.length_replicate ..) (List.length_replicate ..) (List.length_replicate ..) (List.length_replicate ..) (List.length_replicate ..) (List.length_replicate ..))).trans ((zTG_l10 (List.length_replicate ..) (List.length_replicate ..) (List.length_replicate ..) (List.length_replicate ..) (List.length_replicate ..) (List.length_replicate ..) (List.length_replicate ..))).symm) (zTG_o14 rfl rfl rfl rfl rfl rfl rfl rfl rfl rfl rfl rfl rfl rfl rfl)) ?_
              clear hH
              rintro w58 ⟨hH, hx⟩
              replace hH : Heap _ _ _ [_, _, _, _] := hH
              clear hx
              refine lf_val (v := .int .i64 (doneE R16 K20)) (wantAll rfl) (rv_assign rfl (fr_eval rfl rfl)) ?_
              refine lf_nil ?_
              refine then_n ?_
              refine wp_gen (fun F' => F' 0 = v ∧ F' 2 = .pointer (some ⟨g1, 0, none⟩) ∧ F' 3 = .int .i64 (doneE R16 K20) ∧ F' 4 = .pointer (some ⟨g2, 0, none⟩) ∧ F' 5 = .pointer (some ⟨g3, 0, none⟩) ∧ F' 6 = .int .i64 ge_t70 ∧ F' 7 = .int .i64 (doneE R16 K20) ∧ F' 18 = .int .i64 ((uptoV b 0 5 : Nat) : Int) ∧ F' 19 = .bool false ∧ F' 37 = .bool false ∧ F' 48 = .bool false ∧ F' 56 = .bool false ∧ F' 65 = .bool true ∧ F' 77 = .bool true) ⟨e0, e2, rfl, e4, e5, e6, e7, e18, e19, e37, e48, e56, e65, (e77.trans (congrArg Value.bool (decide_eq_true hc15)))⟩ ?_
              clear e0 e2 e3 e4 e5 e6 e7 e18 e19 e37 e48 e56 e65 e77
              clear F
              rintro F ⟨e0, e2, e3, e4, e5, e6, e7, e18, e19, e37, e48, e56, e65, e77⟩
              refine wp_ret ?_
              refine then_ret ?_
              have hF := hH
              replace hF : Heap _ _ _ [_, _, _, _, _] := hF.addNil 5 1
              replace hF : Heap _ _ _ [_, _, _, _, _, _] := hF.addNil 5 1
              replace hF : Heap _ _ _ [_, _] := hF.drop (.cons _ (.cons _ (.cons _ (.cons _ (.cons_cons _ (.cons_cons _ .slnil))))))
              exact bodyPost_ret (res2 rfl (ro_cell rfl e2 (hH.blk (i := 0) rfl) Try.underlying81 rfl (sz_len Try.sz81 (zTG_l10 (List.length_replicate ..) (List.length_replicate ..) (List.length_replicate ..) (List.length_replicate ..) (List.length_replicate ..) (List.length_replicate ..) (List.length_replicate ..)))) (ro_tmp rfl e3)) rfl (⟨zM, [], [], _, _, _, rfl, hM.done (by assumption), hF⟩)
          · refine wp_cond_false (fr_eval rfl (e65.trans (congrArg Value.bool (decide_eq_false hc14)))) ?_
            refine wp_skip ?_
            refine blk_n ?_
            refine then_n ?_
            refine wp_seq ?_
            refine wp_seq ?_
            have hM := mid_none hR1 hK1 hR2 hK2 hR3 hK3 (by assumption) (by assumption) (by assumption) (by assumption) (by assumption)
            refine wp_regionF ?_
            refine lf_val (v := .pointer (some ⟨g2, 0, none⟩)) (wantAll rfl) (rv_move rfl (fr_eval rfl e4)) ?_
            refine lf_call (wantAll rfl) (rv_call (args := [.pointer (some ⟨g2, 0, none⟩)]) rfl (evc (fr_eval rfl rfl) evn) Try.call22) (done_calls  _ (hH.eye (i := 1) rfl) (eye_ne hH (i := 1) rfl hv_g2)) ?_
            rintro _ w59 ⟨rfl, hy, hxf⟩
            refine ⟨_, rfl, ?_⟩
            replace hH : Heap _ _ _ [_, _, _] := hH.setEye (i := 1) rfl rfl hv_g2 hy hxf
            clear hy
            clear hxf
            obtain ⟨K22, hK22⟩ : ∃ q : Int, q = (doneE R3 K3) := ⟨_, rfl⟩
            rw [← hK22] at hH
            refine lf_val (v := .int .i64 (doneE R3 K3)) (wantAll rfl) (rv_assign rfl (fr_eval rfl rfl)) ?_
            refine lf_nil ?_
            refine then_n ?_
            refine wp_seq ?_
            refine wp_gen (fun F' => F' 0 = v ∧ F' 2 = .pointer (some ⟨g1, 0, none⟩) ∧ F' 3 = .int .i64 0 ∧ F' 4 = .pointer (some ⟨g2, 0, none⟩) ∧ F' 5 = .pointer (some ⟨g3, 0, none⟩) ∧ F' 6 = .int .i64 0 ∧ F' 7 = .int .i64 (doneE R3 K3) ∧ F' 18 = .int .i64 ((uptoV b 0 5 : Nat) : Int) ∧ F' 19 = .bool false ∧ F' 37 = .bool false ∧ F' 48 = .bool false ∧ F' 56 = .bool false ∧ F' 65 = .bool false) ⟨e0, e2, e3, e4, e5, e6, rfl, e18, e19, e37, e48, e56, (e65.trans (congrArg Value.bool (decide_eq_false hc14)))⟩ ?_
            clear e0 e2 e3 e4 e5 e6 e18 e19 e37 e48 e56 e65
            clear F
            rintro F ⟨e0, e2, e3, e4, e5, e6, e7, e18, e19, e37, e48, e56, e65⟩
            refine wp_regionF ?_
            refine lf_val (v := .int .i64 (doneE R3 K3)) (wantAll rfl) (rv_move rfl (fr_eval rfl e7)) ?_
            refine lf_val (v := .bool (decide (¬ doneE R3 K3 = 0))) (wantAll rfl) (rv_neqP (p := ¬ doneE R3 K3 = 0) rfl (fr_eval rfl rfl) rfl Iff.rfl) ?_
            refine lf_nil ?_
            refine then_n ?_
            refine wp_gen (fun F' => F' 0 = v ∧ F' 2 = .pointer (some ⟨g1, 0, none⟩) ∧ F' 3 = .int .i64 0 ∧ F' 4 = .pointer (some ⟨g2, 0, none⟩) ∧ F' 5 = .pointer (some ⟨g3, 0, none⟩) ∧ F' 6 = .int .i64 0 ∧ F' 7 = .int .i64 (doneE R3 K3) ∧ F' 18 = .int .i64 ((uptoV b 0 5 : Nat) : Int) ∧ F' 19 = .bool false ∧ F' 37 = .bool false ∧ F' 48 = .bool false ∧ F' 56 = .bool false ∧ F' 65 = .bool false ∧ F' 77 = .bool (decide (¬ doneE R3 K3 = 0))) ⟨e0, e2, e3, e4, e5, e6, e7, e18, e19, e37, e48, e56, e65, rfl⟩ ?_
            clear e0 e2 e3 e4 e5 e6 e7 e18 e19 e37 e48 e56 e65
            clear F
            rintro F ⟨e0, e2, e3, e4, e5, e6, e7, e18, e19, e37, e48, e56, e65, e77⟩
            by_cases hc18 : doneE R3 K3 = 0
            · refine wp_cond_false (fr_eval rfl (e77.trans (congrArg Value.bool (decide_eq_false (not_not_intro hc18))))) ?_
              refine wp_skip ?_
              refine then_n ?_
              refine wp_seq ?_
              refine wp_seq ?_
              refine wp_regionF ?_
              refine lf_val (v := .int .i64 0) (wantAll rfl) (rv_move rfl (fr_eval rfl e6)) ?_
              refine lf_val (v := .bool false) (wantAll rfl) (rv_neq rfl (fr_eval rfl rfl) rfl (show decide ((0 : Int) = 0) = true from by decide)) ?_
              refine lf_nil ?_
              refine then_n ?_
              refine wp_gen (fun F' => F' 0 = v ∧ F' 2 = .pointer (some ⟨g1, 0, none⟩) ∧ F' 3 = .int .i64 0 ∧ F' 4 = .pointer (some ⟨g2, 0, none⟩) ∧ F' 5 = .pointer (some ⟨g3, 0, none⟩) ∧ F' 6 = .int .i64 0 ∧ F' 7 = .int .i64 (doneE R3 K3) ∧ F' 18 = .int .i64 ((uptoV b 0 5 : Nat) : Int) ∧ F' 19 = .bool false ∧ F' 37 = .bool false ∧ F' 48 = .bool false ∧ F' 56 = .bool false ∧ F' 65 = .bool false ∧ F' 77 = .bool false ∧ F' 81 = .bool false) ⟨e0, e2, e3, e4, e5, e6, e7, e18, e19, e37, e48, e56, e65, (e77.trans (congrArg Value.bool (decide_eq_false (not_not_intro hc18)))), rfl⟩ ?_
              clear e0 e2 e3 e4 e5 e6 e7 e18 e19 e37 e48 e56 e65 e77
              clear F
              rintro F ⟨e0, e2, e3, e4, e5, e6, e7, e18, e19, e37, e48, e56, e65, e77, e81⟩
              refine wp_cond_false (fr_eval rfl e81) ?_
              refine wp_skip ?_
              refine then_n ?_
              refine wp_seq ?_
              refine wp_seq ?_
              refine wp_regionF ?_
              refine lf_val (wantAll rfl) (rv_loadW rfl (hH.blk (i := 2) rfl) (fr_eval rfl e5) Try.underlying81 rfl (sz_len Try.sz81 (zTG_l10 (List.length_replicate ..) (List.length_replicate ..) (List.length_replicate ..) (List.length_replicate ..) (List.length_replicate ..) (List.length_replicate ..) (List.length_replicate ..)))) ?_
              refine lf_call (wantAll rfl) (rv_call (args := [.agg (([.int .i64 ((uptoV b 0 5 : Nat) : Int), .int .i64 ((uptoV R1 K1 255 : Nat) : Int), .int .i64 ((uptoV R2 K2 255 : Nat) : Int), .int .i64 0, .int .i64 0, .int .i64 0] : List Value) ++ (cBs (List.replicate 32 0) ++ (cBs (List.replicate 32 0) ++ (([.int .i64 0] : List Value) ++ (cBs (List.replicate 32 0) ++ (([.int .i64 0] : List Value) ++ (cBs (List.replicate 32 0) ++ (([.int .i64 0, .int .i64 0] : List Value) ++ (cBs (List.replicate 32 0) ++ (([.slice none 0 0, .int .i64 0, .int .i64 0, .int .i64 0] : List Value) ++ (cBs (List.replicate 32 0) ++ (cBs (List.replicate 32 0) ++ ([.slice none 0 0] : List Value))))))))))))).toArray]) rfl (evc (fr_eval rfl rfl) evn) Try.call52) (msRight_calls (⟨((uptoV b 0 5 : Nat) : Int), ((uptoV R1 K1 255 : Nat) : Int), ((uptoV R2 K2 255 : Nat) : Int), 0, 0, 0, ⟨List.replicate 32 0, (List.length_replicate ..)⟩, ⟨List.replicate 32 0, (List.length_replicate ..)⟩, 0, ⟨List.replicate 32 0, (List.length_replicate ..)⟩, 0, ⟨List.replicate 32 0, (List.length_replicate ..)⟩, 0, 0, ⟨List.replicate 32 0, (List.length_replicate ..)⟩, (⟨0, 0, 0, ⟨List.replicate 32 0, (List.length_replicate ..)⟩, ⟨List.replicate 32 0, (List.length_replicate ..)⟩⟩ : Rc)⟩ : Ms) _ _ _) ?_
              rintro _ w60 ⟨rfl, hx⟩
              refine ⟨_, rfl, ?_⟩
              replace hH := hH.ext hx
              clear hx
              refine lf_val (v := .bool (decide (¬ (inM (⟨((uptoV b 0 5 : Nat) : Int), ((uptoV R1 K1 255 : Nat) : Int), ((uptoV R2 K2 255 : Nat) : Int), 0, 0, 0, ⟨List.replicate 32 0, (List.length_replicate ..)⟩, ⟨List.replicate 32 0, (List.length_replicate ..)⟩, 0, ⟨List.replicate 32 0, (List.length_replicate ..)⟩, 0, ⟨List.replicate 32 0, (List.length_replicate ..)⟩, 0, 0, ⟨List.replicate 32 0, (List.length_replicate ..)⟩, (⟨0, 0, 0, ⟨List.replicate 32 0, (List.length_replicate ..)⟩, ⟨List.replicate 32 0, (List.length_replicate ..)⟩⟩ : Rc)⟩ : Ms))))) (wantAll rfl) (rv_notP (q := ¬ (inM (⟨((uptoV b 0 5 : Nat) : Int), ((uptoV R1 K1 255 : Nat) : Int), ((uptoV R2 K2 255 : Nat) : Int), 0, 0, 0, ⟨List.replicate 32 0, (List.length_replicate ..)⟩, ⟨List.replicate 32 0, (List.length_replicate ..)⟩, 0, ⟨List.replicate 32 0, (List.length_replicate ..)⟩, 0, ⟨List.replicate 32 0, (List.length_replicate ..)⟩, 0, 0, ⟨List.replicate 32 0, (List.length_replicate ..)⟩, (⟨0, 0, 0, ⟨List.replicate 32 0, (List.length_replicate ..)⟩, ⟨List.replicate 32 0, (List.length_replicate ..)⟩⟩ : Rc)⟩ : Ms))) rfl (fr_eval rfl rfl) Iff.rfl) ?_
              refine lf_nil ?_
              refine then_n ?_
              refine wp_gen (fun F' => F' 0 = v ∧ F' 2 = .pointer (some ⟨g1, 0, none⟩) ∧ F' 3 = .int .i64 0 ∧ F' 4 = .pointer (some ⟨g2, 0, none⟩) ∧ F' 5 = .pointer (some ⟨g3, 0, none⟩) ∧ F' 6 = .int .i64 0 ∧ F' 7 = .int .i64 (doneE R3 K3) ∧ F' 18 = .int .i64 ((uptoV b 0 5 : Nat) : Int) ∧ F' 19 = .bool false ∧ F' 37 = .bool false ∧ F' 48 = .bool false ∧ F' 56 = .bool false ∧ F' 65 = .bool false ∧ F' 77 = .bool false ∧ F' 81 = .bool false ∧ F' 86 = .bool (decide (¬ (inM (⟨((uptoV b 0 5 : Nat) : Int), ((uptoV R1 K1 255 : Nat) : Int), ((uptoV R2 K2 255 : Nat) : Int), 0, 0, 0, ⟨List.replicate 32 0, (List.length_replicate ..)⟩, ⟨List.replicate 32 0, (List.length_replicate ..)⟩, 0, ⟨List.replicate 32 0, (List.length_replicate ..)⟩, 0, ⟨List.replicate 32 0, (List.length_replicate ..)⟩, 0, 0, ⟨List.replicate 32 0, (List.length_replicate ..)⟩, (⟨0, 0, 0, ⟨List.replicate 32 0, (List.length_replicate ..)⟩, ⟨List.replicate 32 0, (List.length_replicate ..)⟩⟩ : Rc)⟩ : Ms))))) ⟨e0, e2, e3, e4, e5, e6, e7, e18, e19, e37, e48, e56, e65, e77, e81, rfl⟩ ?_
              clear e0 e2 e3 e4 e5 e6 e7 e18 e19 e37 e48 e56 e65 e77 e81
              clear F
              rintro F ⟨e0, e2, e3, e4, e5, e6, e7, e18, e19, e37, e48, e56, e65, e77, e81, e86⟩
              by_cases hc19 : inM (⟨((uptoV b 0 5 : Nat) : Int), ((uptoV R1 K1 255 : Nat) : Int), ((uptoV R2 K2 255 : Nat) : Int), 0, 0, 0, ⟨List.replicate 32 0, (List.length_replicate ..)⟩, ⟨List.replicate 32 0, (List.length_replicate ..)⟩, 0, ⟨List.replicate 32 0, (List.length_replicate ..)⟩, 0, ⟨List.replicate 32 0, (List.length_replicate ..)⟩, 0, 0, ⟨List.replicate 32 0, (List.length_replicate ..)⟩, (⟨0, 0, 0, ⟨List.replicate 32 0, (List.length_replicate ..)⟩, ⟨List.replicate 32 0, (List.length_replicate ..)⟩⟩ : Rc)⟩ : Ms)
              · refine wp_cond_false (fr_eval rfl (e86.trans (congrArg Value.bool (decide_eq_false (not_not_intro hc19))))) ?_
                refine wp_skip ?_
                refine then_n ?_
                refine wp_seq ?_
                refine wp_regionF ?_
                refine lf_val (wantAll rfl) (rv_loadW rfl (hH.blk (i := 2) rfl) (fr_eval rfl e5) Try.underlying81 rfl (sz_len Try.sz81 (zTG_l10 (List.length_replicate ..) (List.length_replicate ..) (List.length_replicate ..) (List.length_replicate ..) (List.length_replicate ..) (List.length_replicate ..) (List.length_replicate ..)))) ?_
                refine lf_sk (wantAll rfl) (hx_storeW hH (i := 0) (cs := ([.int .i64 ((uptoV b 0 5 : Nat) : Int), .int .i64 ((uptoV R1 K1 255 : Nat) : Int), .int .i64 ((uptoV R2 K2 255 : Nat) : Int), .int .i64 0, .int .i64 0, .int .i64 0] : List Value) ++ (cBs (List.replicate 32 0) ++ (cBs (List.replicate 32 0) ++ (([.int .i64 0] : List Value) ++ (cBs (List.replicate 32 0) ++ (([.int .i64 0] : List Value) ++ (cBs (List.replicate 32 0) ++ (([.int .i64 0, .int .i64 0] : List Value) ++ (cBs (List.replicate 32 0) ++ (([.slice none 0 0, .int .i64 0, .int .i64 0, .int .i64 0] : List Value) ++ (cBs (List.replicate 32 0) ++ (cBs (List.replicate 32 0) ++ ([.slice none 0 0] : List Value))))))))))))) rfl rfl rfl (fr_eval rfl e2) (fr_eval rfl rfl) (sz_len Try.sz81 (zTG_l10 (List.length_replicate ..) (List.length_replicate ..) (List.length_replicate ..) (List.length_replicate ..) (List.length_replicate ..) (List.length_replicate ..) (List.length_replicate ..))) (((zTG_l10 (List.length_replicate ..) (List.length_replicate ..) (List.length_replicate ..) (List.length_replicate ..) (List.length_replicate ..) (List.length_replicate ..) (List.length_replicate ..))).trans ((zTG_l10 (List.length_replicate ..) (List.length_replicate ..) (List.length_replicate ..) (List.length_replicate ..) (List.length_replicate ..) (List.length_replicate ..) (List.length_replicate ..))).symm) (zTG_o14 rfl rfl rfl rfl rfl rfl rfl rfl rfl rfl rfl rfl rfl rfl rfl)) ?_
                clear hH
                rintro w61 ⟨hH, hx⟩
                replace hH : Heap _ _ _ [_, _, _] := hH
                clear hx
                refine lf_val (v := .int .i64 0) (wantAll rfl) (rv_assign rfl rfl) ?_
                refine lf_nil ?_
                refine then_n ?_
                refine wp_gen (fun F' => F' 0 = v ∧ F' 2 = .pointer (some ⟨g1, 0, none⟩) ∧ F' 3 = .int .i64 0 ∧ F' 4 = .pointer (some ⟨g2, 0, none⟩) ∧ F' 5 = .pointer (some ⟨g3, 0, none⟩) ∧ F' 6 = .int .i64 0 ∧ F' 7 = .int .i64 (doneE R3 K3) ∧ F' 18 = .int .i64 ((uptoV b 0 5 : Nat) : Int) ∧ F' 19 = .bool false ∧ F' 37 = .bool false ∧ F' 48 = .bool false ∧ F' 56 = .bool false ∧ F' 65 = .bool false ∧ F' 77 = .bool false ∧ F' 81 = .bool false ∧ F' 86 = .bool false) ⟨e0, e2, rfl, e4, e5, e6, e7, e18, e19, e37, e48, e56, e65, e77, e81, (e86.trans (congrArg Value.bool (decide_eq_false (not_not_intro hc19))))⟩ ?_
                clear e0 e2 e3 e4 e5 e6 e7 e18 e19 e37 e48 e56 e65 e77 e81 e86
                clear F
                rintro F ⟨e0, e2, e3, e4, e5, e6, e7, e18, e19, e37, e48, e56, e65, e77, e81, e86⟩
                refine wp_ret ?_
                have hF := hH
                replace hF : Heap _ _ _ [_, _, _, _] := hF.addNil 5 1
                replace hF : Heap _ _ _ [_, _, _, _, _] := hF.addNil 5 1
                replace hF : Heap _ _ _ [_, _] := hF.drop (.cons _ (.cons _ (.cons _ (.cons_cons _ (.cons_cons _ .slnil)))))
                exact bodyPost_ret (res2 rfl (ro_cell rfl e2 (hH.blk (i := 0) rfl) Try.underlying81 rfl (sz_len Try.sz81 (zTG_l10 (List.length_replicate ..) (List.length_replicate ..) (List.length_replicate ..) (List.length_replicate ..) (List.length_replicate ..) (List.length_replicate ..) (List.length_replicate ..)))) (ro_tmp rfl e3)) rfl (⟨_, _, _, _, _, _, rfl, hM.ok (by assumption) rfl (by assumption), hF⟩)
              · refine wp_cond_true (fr_eval rfl (e86.trans (congrArg Value.bool (decide_eq_true hc19)))) ?_
                refine wp_seq ?_
                refine wp_regionF ?_
                refine lf_val (wantAll rfl) (rv_buildS (ps := []) (places := #[(0, 1), (1, 1), (2, 1), (3, 67), (70, 33), (103, 1), (104, 32), (136, 35), (171, 68)]) (z := .agg (([.int .i64 0, .int .i64 0, .int .i64 0, .int .i64 0, .int .i64 0, .int .i64 0] : List Value) ++ (cBs (List.replicate 32 0) ++ (cBs (List.replicate 32 0) ++ (([.int .i64 0] : List Value) ++ (cBs (List.replicate 32 0) ++ (([.int .i64 0] : List Value) ++ (cBs (List.replicate 32 0) ++ (([.int .i64 0, .int .i64 0] : List Value) ++ (cBs (List.replicate 32 0) ++ (([.slice none 0 0, .int .i64 0, .int .i64 0, .int .i64 0] : List Value) ++ (cBs (List.replicate 32 0) ++ (cBs (List.replicate 32 0) ++ ([.slice none 0 0] : List Value))))))))))))).toArray) (zc := ([.int .i64 0, .int .i64 0, .int .i64 0, .int .i64 0, .int .i64 0, .int .i64 0] : List Value) ++ (cBs (List.replicate 32 0) ++ (cBs (List.replicate 32 0) ++ (([.int .i64 0] : List Value) ++ (cBs (List.replicate 32 0) ++ (([.int .i64 0] : List Value) ++ (cBs (List.replicate 32 0) ++ (([.int .i64 0, .int .i64 0] : List Value) ++ (cBs (List.replicate 32 0) ++ (([.slice none 0 0, .int .i64 0, .int .i64 0, .int .i64 0] : List Value) ++ (cBs (List.replicate 32 0) ++ (cBs (List.replicate 32 0) ++ ([.slice none 0 0] : List Value))))))))))))) (cs := ([.int .i64 0, .int .i64 0, .int .i64 0, .int .i64 0, .int .i64 0, .int .i64 0] : List Value) ++ (cBs (List.replicate 32 0) ++ (cBs (List.replicate 32 0) ++ (([.int .i64 0] : List Value) ++ (cBs (List.replicate 32 0) ++ (([.int .i64 0] : List Value) ++ (cBs (List.replicate 32 0) ++ (([.int .i64 0, .int .i64 0] : List Value) ++ (cBs (List.replicate 32 0) ++ (([.slice none 0 0, .int .i64 0, .int .i64 0, .int .i64 0] : List Value) ++ (cBs (List.replicate 32 0) ++ (cBs (List.replicate 32 0) ++ ([.slice none 0 0] : List Value))))))))))))) rfl evpn (by kernel_rfl) rfl Try.underlying81 (fun _ => by kernel_rfl) fill0) ?_
                refine lf_sk (wantAll rfl) (hx_storeW hH (i := 0) (cs := ([.int .i64 0, .int .i64 0, .int .i64 0, .int .i64 0, .int .i64 0, .int .i64 0] : List Value) ++ (cBs (List.replicate 32 0) ++ (cBs (List.replicate 32 0) ++ (([.int .i64 0] : List Value) ++ (cBs (List.replicate 32 0) ++ (([.int .i64 0] : List Value) ++ (cBs (List.replicate 32 0) ++ (([.int .i64 0, .int .i64 0] : List Value) ++ (cBs (List.replicate 32 0) ++ (([.slice none 0 0, .int .i64 0, .int .i64 0, .int .i64 0] : List Value) ++ (cBs (List.replicate 32 0) ++ (cBs (List.replicate 32 0) ++ ([.slice none 0 0] : List Value))))))))))))) rfl rfl rfl (fr_eval rfl e2) (fr_eval rfl rfl) (sz_len Try.sz81 (zTG_l10 (List.length_replicate ..) (List.length_replicate ..) (List.length_replicate ..) (List.length_replicate ..) (List.length_replicate ..) (List.length_replicate ..) (List.length_replicate ..))) (((zTG_l10 (List.length_replicate ..) (List.length_replicate ..) (List.length_replicate ..) (List.length_replicate ..) (List.length_replicate ..) (List.length_replicate ..) (List.length_replicate ..))).trans ((zTG_l10 (List.length_replicate ..) (List.length_replicate ..) (List.length_replicate ..) (List.length_replicate ..) (List.length_replicate ..) (List.length_replicate ..) (List.length_replicate ..))).symm) (zTG_o14 rfl rfl rfl rfl rfl rfl rfl rfl rfl rfl rfl rfl rfl rfl rfl)) ?_
                clear hH
                rintro w62 ⟨hH, hx⟩
                replace hH : Heap _ _ _ [_, _, _] := hH
                clear hx
                refine lf_val (v := .int .i64 4) (wantAll rfl) (rv_assign rfl rfl) ?_
                refine lf_nil ?_
                refine then_n ?_
                refine wp_gen (fun F' => F' 0 = v ∧ F' 2 = .pointer (some ⟨g1, 0, none⟩) ∧ F' 3 = .int .i64 4 ∧ F' 4 = .pointer (some ⟨g2, 0, none⟩) ∧ F' 5 = .pointer (some ⟨g3, 0, none⟩) ∧ F' 6 = .int .i64 0 ∧ F' 7 = .int .i64 (doneE R3 K3) ∧ F' 18 = .int .i64 ((uptoV b 0 5 : Nat) : Int) ∧ F' 19 = .bool false ∧ F' 37 = .bool false ∧ F' 48 = .bool false ∧ F' 56 = .bool false ∧ F' 65 = .bool false ∧ F' 77 = .bool false ∧ F' 81 = .bool false ∧ F' 86 = .bool true) ⟨e0, e2, rfl, e4, e5, e6, e7, e18, e19, e37, e48, e56, e65, e77, e81, (e86.trans (congrArg Value.bool (decide_eq_true hc19)))⟩ ?_
                clear e0 e2 e3 e4 e5 e6 e7 e18 e19 e37 e48 e56 e65 e77 e81 e86
                clear F
                rintro F ⟨e0, e2, e3, e4, e5, e6, e7, e18, e19, e37, e48, e56, e65, e77, e81, e86⟩
                refine wp_ret ?_
                refine then_ret ?_
                have hF := hH
                replace hF : Heap _ _ _ [_, _, _, _] := hF.addNil 5 1
                replace hF : Heap _ _ _ [_, _, _, _, _] := hF.addNil 5 1
                replace hF : Heap _ _ _ [_, _] := hF.drop (.cons _ (.cons _ (.cons _ (.cons_cons _ (.cons_cons _ .slnil)))))
                exact bodyPost_ret (res2 rfl (ro_cell rfl e2 (hH.blk (i := 0) rfl) Try.underlying81 rfl (sz_len Try.sz81 (zTG_l10 (List.length_replicate ..) (List.length_replicate ..) (List.length_replicate ..) (List.length_replicate ..) (List.length_replicate ..) (List.length_replicate ..) (List.length_replicate ..)))) (ro_tmp rfl e3)) rfl (⟨zM, [], [], _, _, _, rfl, hM.no (by assumption), hF⟩)
            · refine wp_cond_true (fr_eval rfl (e77.trans (congrArg Value.bool (decide_eq_true hc18)))) ?_
              refine wp_seq ?_
              refine wp_regionF ?_
              refine lf_val (wantAll rfl) (rv_buildS (ps := []) (places := #[(0, 1), (1, 1), (2, 1), (3, 67), (70, 33), (103, 1), (104, 32), (136, 35), (171, 68)]) (z := .agg (([.int .i64 0, .int .i64 0, .int .i64 0, .int .i64 0, .int .i64 0, .int .i64 0] : List Value) ++ (cBs (List.replicate 32 0) ++ (cBs (List.replicate 32 0) ++ (([.int .i64 0] : List Value) ++ (cBs (List.replicate 32 0) ++ (([.int .i64 0] : List Value) ++ (cBs (List.replicate 32 0) ++ (([.int .i64 0, .int .i64 0] : List Value) ++ (cBs (List.replicate 32 0) ++ (([.slice none 0 0, .int .i64 0, .int .i64 0, .int .i64 0] : List Value) ++ (cBs (List.replicate 32 0) ++ (cBs (List.replicate 32 0) ++ ([.slice none 0 0] : List Value))))))))))))).toArray) (zc := ([.int .i64 0, .int .i64 0, .int .i64 0, .int .i64 0, .int .i64 0, .int .i64 0] : List Value) ++ (cBs (List.replicate 32 0) ++ (cBs (List.replicate 32 0) ++ (([.int .i64 0] : List Value) ++ (cBs (List.replicate 32 0) ++ (([.int .i64 0] : List Value) ++ (cBs (List.replicate 32 0) ++ (([.int .i64 0, .int .i64 0] : List Value) ++ (cBs (List.replicate 32 0) ++ (([.slice none 0 0, .int .i64 0, .int .i64 0, .int .i64 0] : List Value) ++ (cBs (List.replicate 32 0) ++ (cBs (List.replicate 32 0) ++ ([.slice none 0 0] : List Value))))))))))))) (cs := ([.int .i64 0, .int .i64 0, .int .i64 0, .int .i64 0, .int .i64 0, .int .i64 0] : List Value) ++ (cBs (List.replicate 32 0) ++ (cBs (List.replicate 32 0) ++ (([.int .i64 0] : List Value) ++ (cBs (List.replicate 32 0) ++ (([.int .i64 0] : List Value) ++ (cBs (List.replicate 32 0) ++ (([.int .i64 0, .int .i64 0] : List Value) ++ (cBs (List.replicate 32 0) ++ (([.slice none 0 0, .int .i64 0, .int .i64 0, .int .i64 0] : List Value) ++ (cBs (List.replicate 32 0) ++ (cBs (List.replicate 32 0) ++ ([.slice none 0 0] : List Value))))))))))))) rfl evpn (by kernel_rfl) rfl Try.underlying81 (fun _ => by kernel_rfl) fill0) ?_
              refine lf_val (v := .int .i64 (doneE R3 K3)) (wantAll rfl) (rv_move rfl (fr_eval rfl e7)) ?_
              refine lf_sk (wantAll rfl) (hx_storeW hH (i := 0) (cs := ([.int .i64 0, .int .i64 0, .int .i64 0, .int .i64 0, .int .i64 0, .int .i64 0] : List Value) ++ (cBs (List.replicate 32 0) ++ (cBs (List.replicate 32 0) ++ (([.int .i64 0] : List Value) ++ (cBs (List.replicate 32 0) ++ (([.int .i64 0] : List Value) ++ (cBs (List.replicate 32 0) ++ (([.int .i64 0, .int .i64 0] : List Value) ++ (cBs (List.replicate 32 0) ++ (([.slice none 0 0, .int .i64 0, .int .i64 0, .int .i64 0] : List Value) ++ (cBs (List.replicate 32 0) ++ (cBs (List.replicate 32 0) ++ ([.slice none 0 0] : List Value))))))))))))) rfl rfl rfl (fr_eval rfl e2) (fr_eval rfl rfl) (sz_len Try.sz81 (zTG_l10 (List.length_replicate ..) (List.length_replicate ..) (List.length_replicate ..) (List.length_replicate ..) (List.length_replicate ..) (List.length_replicate ..) (List.length_replicate ..))) (((zTG_l10 (List.length_replicate ..) (List.length_replicate ..) (List.length_replicate ..) (List.length_replicate ..) (List.length_replicate ..) (List.length_replicate ..) (List.length_replicate ..))).trans ((zTG_l10 (List.length_replicate ..) (List.length_replicate ..) (List.length_replicate ..) (List.length_replicate ..) (List.length_replicate ..) (List.length_replicate ..) (List.length_replicate ..))).symm) (zTG_o14 rfl rfl rfl rfl rfl rfl rfl rfl rfl rfl rfl rfl rfl rfl rfl)) ?_
              clear hH
              rintro w63 ⟨hH, hx⟩
              replace hH : Heap _ _ _ [_, _, _] := hH
              clear hx
              refine lf_val (v := .int .i64 (doneE R3 K3)) (wantAll rfl) (rv_assign rfl (fr_eval rfl rfl)) ?_
              refine lf_nil ?_
              refine then_n ?_
              refine wp_gen (fun F' => F' 0 = v ∧ F' 2 = .pointer (some ⟨g1, 0, none⟩) ∧ F' 3 = .int .i64 (doneE R3 K3) ∧ F' 4 = .pointer (some ⟨g2, 0, none⟩) ∧ F' 5 = .pointer (some ⟨g3, 0, none⟩) ∧ F' 6 = .int .i64 0 ∧ F' 7 = .int .i64 (doneE R3 K3) ∧ F' 18 = .int .i64 ((uptoV b 0 5 : Nat) : Int) ∧ F' 19 = .bool false ∧ F' 37 = .bool false ∧ F' 48 = .bool false ∧ F' 56 = .bool false ∧ F' 65 = .bool false ∧ F' 77 = .bool true) ⟨e0, e2, rfl, e4, e5, e6, e7, e18, e19, e37, e48, e56, e65, (e77.trans (congrArg Value.bool (decide_eq_true hc18)))⟩ ?_
              clear e0 e2 e3 e4 e5 e6 e7 e18 e19 e37 e48 e56 e65 e77
              clear F
              rintro F ⟨e0, e2, e3, e4, e5, e6, e7, e18, e19, e37, e48, e56, e65, e77⟩
              refine wp_ret ?_
              refine then_ret ?_
              have hF := hH
              replace hF : Heap _ _ _ [_, _, _, _] := hF.addNil 5 1
              replace hF : Heap _ _ _ [_, _, _, _, _] := hF.addNil 5 1
              replace hF : Heap _ _ _ [_, _] := hF.drop (.cons _ (.cons _ (.cons _ (.cons_cons _ (.cons_cons _ .slnil)))))
              exact bodyPost_ret (res2 rfl (ro_cell rfl e2 (hH.blk (i := 0) rfl) Try.underlying81 rfl (sz_len Try.sz81 (zTG_l10 (List.length_replicate ..) (List.length_replicate ..) (List.length_replicate ..) (List.length_replicate ..) (List.length_replicate ..) (List.length_replicate ..) (List.length_replicate ..)))) (ro_tmp rfl e3)) rfl (⟨zM, [], [], _, _, _, rfl, hM.done (by assumption), hF⟩)

end Go.Proofs.Ytjgcjddaladgfaa
