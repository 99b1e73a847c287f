/- Keys that sign once, in plain Lean: secrets, what is shown of them, signatures, what they lead to; and that a signature leads to its key. -/
import Derived.Test.YtokddhidcjkadaaOf
import Derived.Test.YtokddhidcjkadaaShaSpec
namespace Go.Bz.Lamp
open Go.Bz Go.Bz.Sha
/-- A secret, what is shown of one. -/
def sec (s : List UInt8) (n b : Int) : List UInt8 := join 11 [s, [ofI n, ofI b]]
def shw (s : List UInt8) : List UInt8 := join 12 [s]
theorem sec_len {s : List UInt8} {n b : Int} : (sec s n b).length = 32 := join_length _ _
theorem shw_len {s : List UInt8} : (shw s).length = 32 := join_length _ _
/-- A bit of a sum. -/
def bitN (d : List UInt8) (i : Nat) : Nat := (d.getD (i / 8) 0).toNat / 2 ^ (7 - i % 8) % 2
theorem bitN_lt (d : List UInt8) (i : Nat) : bitN d i < 2 := Nat.mod_lt _ (by decide)
def secN (s : List UInt8) (i j : Nat) : List UInt8 := sec s (i : Int) (j : Int)
theorem secN_len {s : List UInt8} {i j : Nat} : (secN s i j).length = 32 := join_length _ _
theorem shr_le (x : UInt8) (n : Nat) : x.toNat / 2 ^ n ≤ 9223372036854775807 := Nat.le_trans (Nat.div_le_self _ _) (by have := x.toNat_lt; omega)
/-- What is known of the first n of a key's secrets. -/
def pubs (s : List UInt8) : Nat → List UInt8
  | 0 => []
  | n + 1 => pubs s n ++ shw (secN s (n / 2) (n % 2))
theorem pubs_len (s : List UInt8) (n : Nat) : (pubs s n).length = 32 * n := by
  induction n with
  | zero => rfl
  | succ n ih => rw [pubs, List.length_append, ih, shw_len]; omega
theorem pubs_at (s : List UInt8) (i j : Nat) (hj : j < 2) : pubs s (2 * i + j) ++ shw (secN s i j) = pubs s (2 * i + (j + 1)) := by
  rw [show 2 * i + (j + 1) = (2 * i + j) + 1 from by omega, pubs, show (2 * i + j) / 2 = i from by omega, show (2 * i + j) % 2 = j from by omega]
def pub (s : List UInt8) : List UInt8 := join 13 [pubs s 128]
theorem pub_len {s : List UInt8} : (pub s).length = 32 := join_length _ _
/-- A signature, as far as bit n. -/
def sigs (s d : List UInt8) : Nat → List UInt8
  | 0 => []
  | n + 1 => sigs s d n ++ secN s n (bitN d n) ++ shw (secN s n (1 - bitN d n))
theorem sigs_at (s d : List UInt8) (n : Nat) : sigs s d n ++ secN s n (bitN d n) ++ shw (secN s n (1 - bitN d n)) = sigs s d (n + 1) := rfl
theorem sigs_len (s d : List UInt8) (n : Nat) : (sigs s d n).length = 64 * n := by
  induction n with
  | zero => rfl
  | succ n ih => rw [sigs, List.length_append, List.length_append, ih, shw_len, secN_len]; omega
/-- A half of a signature, the other one; what a signature leads to. -/
def hlf (sig : List UInt8) (k : Nat) : List UInt8 := List.take 32 (List.drop (64 * k) sig)
def oth (sig : List UInt8) (k : Nat) : List UInt8 := List.take (64 * k + 64 - (64 * k + 32)) (List.drop (64 * k + 32) sig)
theorem hlf_len {sig : List UInt8} {k : Nat} (h : sig.length = 4096) (hk : k < 64) : (hlf sig k).length = 32 := by unfold hlf; simp; omega
theorem oth_len {sig : List UInt8} {k : Nat} (h : sig.length = 4096) (hk : k < 64) : (oth sig k).length = 32 := by unfold oth; simp; omega
def backs (d sig : List UInt8) : Nat → List UInt8
  | 0 => []
  | n + 1 => if bitN d n = 0 then backs d sig n ++ shw (hlf sig n) ++ oth sig n else backs d sig n ++ oth sig n ++ shw (hlf sig n)
theorem backs_len {d sig : List UInt8} (h : sig.length = 4096) (n : Nat) (hn : n ≤ 64) : (backs d sig n).length = 64 * n := by
  induction n with
  | zero => rfl
  | succ n ih =>
    have h1 := oth_len h (show n < 64 by omega)
    rw [backs]
    split <;> rw [List.length_append, List.length_append, ih (by omega), shw_len, h1] <;> omega
theorem backs_0 {d sig : List UInt8} {n : Nat} (h : bitN d n = 0) : backs d sig n ++ shw (hlf sig n) ++ oth sig n = backs d sig (n + 1) := by rw [backs, if_pos h]
theorem backs_1 {d sig : List UInt8} {n : Nat} (h : ¬ bitN d n = 0) : backs d sig n ++ oth sig n ++ shw (hlf sig n) = backs d sig (n + 1) := by rw [backs, if_neg h]
def backK (d sig : List UInt8) : List UInt8 := if sig.length = 4096 then join 13 [backs d sig 64] else List.replicate 32 0
def backE (sig : List UInt8) : Int := if sig.length = 4096 then 0 else 11
theorem backK_len {d sig : List UInt8} : (backK d sig).length = 32 := by unfold backK; split; exact join_length _ _; rfl
/-- Whether a signature of a text with a digest is a key's. -/
def verB (key d sig : List UInt8) : Bool := decide (sig.length = 4096) && (backK d sig == key)

/-- A longer signature begins as a shorter one. -/
theorem sigs_pre (s d : List UInt8) (n m : Nat) : ∃ r, sigs s d (n + m) = sigs s d n ++ r := by
  induction m with
  | zero => exact ⟨[], by simp⟩
  | succ m ih =>
    obtain ⟨r, hr⟩ := ih
    exact ⟨r ++ secN s (n + m) (bitN d (n + m)) ++ shw (secN s (n + m) (1 - bitN d (n + m))), by rw [← Nat.add_assoc, sigs, hr]; simp⟩
theorem sigs_parts (s d : List UInt8) (n : Nat) (hn : n < 64) : hlf (sigs s d 64) n = secN s n (bitN d n) ∧ oth (sigs s d 64) n = shw (secN s n (1 - bitN d n)) := by
  obtain ⟨r, hr⟩ := sigs_pre s d (n + 1) (63 - n)
  rw [show n + 1 + (63 - n) = 64 by omega] at hr
  have hl := sigs_len s d n
  have h1 : (secN s n (bitN d n)).length = 32 := secN_len
  have h2 : (shw (secN s n (1 - bitN d n))).length = 32 := shw_len
  rw [hr, sigs]
  unfold hlf oth
  generalize sigs s d n = A at hl
  generalize secN s n (bitN d n) = B at h1
  generalize shw (secN s n (1 - bitN d n)) = C at h2
  constructor
  · rw [List.append_assoc, List.append_assoc, List.drop_append, List.drop_eq_nil_of_le (by omega), List.nil_append, show 64 * n - A.length = 0 by omega, List.drop_zero, ← h1, List.take_left']
    rfl
  · rw [show A ++ B ++ C ++ r = (A ++ B) ++ (C ++ r) by simp, List.drop_append, List.drop_eq_nil_of_le (by simp; omega), List.nil_append, show 64 * n + 32 - (A ++ B).length = 0 by simp; omega, List.drop_zero, show 64 * n + 64 - (64 * n + 32) = C.length by omega, List.take_left']
    rfl
theorem backs_sigs (s d : List UInt8) (n : Nat) (hn : n ≤ 64) : backs d (sigs s d 64) n = pubs s (2 * n) := by
  induction n with
  | zero => rfl
  | succ n ih =>
    obtain ⟨h1, h2⟩ := sigs_parts s d n (by omega)
    have hb := bitN_lt d n
    rw [show 2 * (n + 1) = 2 * n + (1 + 1) by omega, ← pubs_at s n 1 (by decide), ← pubs_at s n 0 (by decide), backs, h1, h2, ih (by omega), Nat.add_zero]
    by_cases h : bitN d n = 0
    · rw [if_pos h, h]
    · have h' : bitN d n = 1 := by omega
      rw [if_neg h, h']
theorem backK_sigs (s d : List UInt8) : backK d (sigs s d 64) = pub s := by
  unfold backK pub
  rw [if_pos (sigs_len s d 64), backs_sigs s d 64 (Nat.le_refl _)]
end Go.Bz.Lamp
