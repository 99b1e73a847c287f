/- Keys that sign as often as they have leaves, in plain Lean. -/
import Derived.Test.YtokddhidcjkadaaLampSpec
import Derived.Test.YtokddhidcjkadaaMerkle2
import Derived.Test.YtokddhidcjkadaaRcpt
namespace Go.Bz.Many
open Go.Bz Go.Bz.Sha Go.Bz.Lamp Go.Bz.Merkle Go.Bz.Wire
/-- A leaf's seed, and the leaves. -/
def seedS (s : S32) (i : Nat) : S32 := ⟨join 21 [s.1, [UInt8.ofNat i]], join_length _ _⟩
def pubS (s : S32) : S32 := ⟨pub s.1, pub_len⟩
def keyL (s : S32) (n : Nat) : List S32 := (List.range n).map fun i => pubS (seedS s i)
theorem keyL_len (s : S32) (n : Nat) : (keyL s n).length = n := by simp [keyL]
theorem keyL_next (s : S32) (n : Nat) : keyL s n ++ [pubS (seedS s n)] = keyL s (n + 1) := by simp [keyL, List.range_succ]
theorem keyL_at (s : S32) {n i : Nat} (h : i < n) : (keyL s n).getD i zS = pubS (seedS s i) := by
  simp [keyL, List.getD_eq_getElem?_getD, h]
/-- Sums, one behind the other. -/
def sumsB (p : List S32) : List UInt8 := p.flatMap (·.1)
theorem sumsB_next {p : List S32} {i : Nat} (h : i < p.length) : sumsB (p.take i) ++ (p.getD i zS).1 = sumsB (p.take (i + 1)) := by
  unfold sumsB
  rw [List.take_succ_eq_append_getElem h, List.flatMap_append]
  simp [List.getD_eq_getElem?_getD, h]
theorem sumsB_drop {p : List S32} {i : Nat} (h : i < p.length) : sumsB (p.drop i) = (p.getD i zS).1 ++ sumsB (p.drop (i + 1)) := by
  unfold sumsB
  rw [List.drop_eq_getElem_cons h, List.flatMap_cons]
  simp [List.getD_eq_getElem?_getD, h]
theorem sumsB_len : ∀ p : List S32, (sumsB p).length = 32 * p.length
  | [] => rfl
  | x :: p => by
    have := sumsB_len p
    unfold sumsB at this ⊢
    rw [List.flatMap_cons, List.length_append, this, x.2, List.length_cons]; omega
/-- A signature's bytes. -/
def sigM (a n : Nat) (p : List S32) (one : List UInt8) : List UInt8 := puts [(a : Int), (n : Int), (p.length : Int)] ++ sumsB p ++ put (one.length : Int) ++ one
theorem sigM_len (a n : Nat) (p : List S32) (one : List UInt8) : (sigM a n p one).length ≤ 40 + 32 * p.length + one.length := by
  have h1 := puts_len [(a : Int), (n : Int), (p.length : Int)]
  have h2 := put_len (one.length : Int)
  unfold sigM
  simp only [List.length_append, sumsB_len, List.length_cons, List.length_nil] at *; omega
theorem sigM_split (a n : Nat) (p : List S32) (one : List UInt8) : sigM a n p one = put (a : Int) ++ (put (n : Int) ++ (put (p.length : Int) ++ (sumsB (p.drop 0) ++ (put (one.length : Int) ++ (one ++ []))))) := by
  simp [sigM, puts]
/-- Is it verified? -/
def verM (root : S32) (t : List UInt8) (a n : Nat) (p : List S32) (one : List UInt8) : Bool := checkB root ⟨backK (join 14 [t]) one, backK_len⟩ (a : Int) (n : Int) p
abbrev pathM (s : S32) (n i : Nat) : List S32 := pathT ((keyL s n).map leafS) i
abbrev oneM (s : S32) (i : Nat) (t : List UInt8) : List UInt8 := sigs (seedS s i).1 (join 14 [t]) 64
theorem oneM_len (s : S32) (i : Nat) (t : List UInt8) : (oneM s i t).length = 4096 := by rw [sigs_len]
theorem pathT_len : ∀ (k : Nat) (row : List S32) (a : Nat), row.length ≤ 2 ^ k → (pathT row a).length ≤ k
  | 0, row, a, h => by rw [pathT_end (by simpa using h)]; simp
  | k + 1, row, a, h => by
    by_cases h1 : row.length ≤ 1
    · rw [pathT_end h1]; simp
    · rw [pathT_go h1, List.length_append]
      have := pathT_len k (upL row) (a / 2) (by rw [upL_len, Nat.pow_succ] at *; omega)
      split <;> simp <;> omega
theorem pathM_len {s : S32} {n i : Nat} (h : n ≤ 64) : (pathM s n i).length ≤ 8 := Nat.le_trans (pathT_len 6 _ _ (by simpa [keyL] using h)) (by decide)
attribute [local irreducible] sigs backK pub in
theorem verM_ok {s : S32} {n i : Nat} {t : List UInt8} (hi : i < n) (hn : n ≤ 64) : verM (rootS (keyL s n)) t i n (pathM s n i) (oneM s i t) = true := by
  unfold verM
  have e : (⟨backK (join 14 [t]) (oneM s i t), backK_len⟩ : S32) = (keyL s n).getD i zS := by
    rw [keyL_at s hi]
    have h := backK_sigs (seedS s i).1 (join 14 [t])
    have h2 : (pubS (seedS s i)).1 = pub (seedS s i).1 := rfl
    rw [← h2] at h
    exact Subtype.ext h
  rw [e]
  have h := path_ok (l := keyL s n) (i := i) (by rw [keyL_len]; exact hi) []
  rw [keyL_len, List.append_nil] at h
  rw [checkB_some ⟨hi, by omega⟩ h]
  simp
end Go.Bz.Many
namespace Go.Bz.Wire
theorem upto_put {rest : List UInt8} {z m : Int} (h0 : 0 ≤ z) (hz : z ≤ m) (hm : m ≤ 9223372036854775807) : ((uptoV (put z ++ rest) 0 m : Nat) : Int) = z ∧ numR (put z ++ rest) 0 = rest ∧ uptoE (put z ++ rest) 0 m = 0 := upto_of rfl rfl h0 hz hm
end Go.Bz.Wire
