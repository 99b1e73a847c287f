/- Messages, in plain Lean. -/
import Derived.Test.YtjgcjddaladgfaaPuts12
namespace Go.Bz.Talk
open Go.Bz Go.Bz.Wire Go.Bz.Rcpt
structure Ms where
  k : Int
  a : Int
  b : Int
  c0 : Int
  c1 : Int
  c2 : Int
  h0 : S32
  h1 : S32
  g : Int
  o : S32
  n : Int
  x : S32
  jc : Int
  js : Int
  jh : S32
  r : Rc
def zM : Ms := ⟨0, 0, 0, 0, 0, 0, zS, zS, 0, zS, 0, zS, 0, 0, zS, zR⟩
def inM (u : Ms) : Prop := 1 ≤ u.k ∧ u.k ≤ 5 ∧ 0 ≤ u.a ∧ u.a ≤ 255 ∧ 0 ≤ u.b ∧ u.b ≤ 255 ∧ u.a ≠ u.b
instance (u : Ms) : Decidable (inM u) := by unfold inM; infer_instance
def plainM (u : Ms) : Prop := 0 ≤ u.c0 ∧ u.c0 ≤ 1048576 ∧ 0 ≤ u.c1 ∧ u.c1 ≤ 1125899906842624 ∧ 0 ≤ u.c2 ∧ u.c2 ≤ 1125899906842624 ∧ 0 ≤ u.g ∧ u.g < 256 ∧ 0 ≤ u.n ∧ u.n ≤ 1048576 ∧ 0 ≤ u.jc ∧ u.jc ≤ 1048576 ∧ 0 ≤ u.js ∧ u.js ≤ 1048576 ∧ inR u.r
instance (u : Ms) : Decidable (plainM u) := by unfold plainM inR; infer_instance
def textJ (c s : Int) (h : S32) (bl : List UInt8) : List UInt8 := put c ++ put s ++ h.1 ++ put (bl.length : Int) ++ bl
theorem textJ_len (c s : Int) (h : S32) (bl : List UInt8) : (textJ c s h bl).length ≤ 62 + bl.length := by
  have h1 := put_len c
  have h2 := put_len s
  have h3 := put_len (bl.length : Int)
  unfold textJ
  simp only [List.length_append, h.2]; omega
def restM (u : Ms) (bl sg : List UInt8) : List UInt8 :=
  if u.k = 1 then put u.c0 ++ put u.c1 ++ put u.c2 ++ u.h0.1 ++ u.h1.1 ++ put u.g ++ u.o.1
  else if u.k = 2 then put u.n ++ u.x.1 ++ put u.g ++ u.o.1
  else if u.k = 3 then put u.n ++ u.x.1
  else if u.k = 4 then put ((textJ u.jc u.js u.jh bl).length : Int) ++ textJ u.jc u.js u.jh bl
  else put ((Go.Proofs.Ytjgcjddaladgfaa.textS u.r sg).length : Int) ++ Go.Proofs.Ytjgcjddaladgfaa.textS u.r sg
def textM (u : Ms) (bl sg : List UInt8) : List UInt8 := put u.k ++ put u.a ++ put u.b ++ restM u bl sg
theorem textM_len (u : Ms) (bl sg : List UInt8) : (textM u bl sg).length ≤ 200 + bl.length + sg.length := by
  have l1 := put_len u.k
  have l2 := put_len u.a
  have l3 := put_len u.b
  have l4 := put_len u.c0
  have l5 := put_len u.c1
  have l6 := put_len u.c2
  have l7 := put_len u.g
  have l8 := put_len u.n
  have l9 := put_len ((textJ u.jc u.js u.jh bl).length : Int)
  have l10 := put_len ((Go.Proofs.Ytjgcjddaladgfaa.textS u.r sg).length : Int)
  have l11 := textJ_len u.jc u.js u.jh bl
  have l12 := Go.Proofs.Ytjgcjddaladgfaa.textS_len u.r sg
  unfold textM restM
  (repeat' split) <;> simp only [List.length_append, u.h0.2, u.h1.2, u.o.2, u.x.2] <;> omega
end Go.Bz.Talk
