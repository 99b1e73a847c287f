/- Numbers as bytes, in plain Lean: what is read of bytes, and what is written. -/
namespace Go.Bz.Wire
/-- Reading a number from place i on, v being what was read: (error, number, how many bytes). -/
def numGo (r : List UInt8) : Nat → Nat → Nat → Nat × Nat × Nat
  | 0, _, _ => (5, 0, 0)
  | f + 1, i, v =>
    if i < r.length then
      if (r.getD i 0).toNat < 128 then
        if (r.getD i 0).toNat = 0 ∧ 0 < i then (4, 0, 0) else (0, v + (r.getD i 0).toNat % 128 * 128 ^ i, i + 1)
      else numGo r f (i + 1) (v + (r.getD i 0).toNat % 128 * 128 ^ i)
    else (2, 0, 0)
/-- A number ahead of bytes: its value, what is left, the error (behind an error: nothing). -/
def num (r : List UInt8) : Nat × Nat × Nat := numGo r 9 0 0
def numV (r : List UInt8) (e : Int) : Nat := if e = 0 then (num r).2.1 else 0
def numR (r : List UInt8) (e : Int) : List UInt8 := if e = 0 then r.drop (num r).2.2 else r
def numE (r : List UInt8) (e : Int) : Int := if e = 0 then ((num r).1 : Int) else e
theorem numGo_err {r : List UInt8} : ∀ {f i v e n k : Nat}, numGo r f i v = (e, n, k) → e ≠ 0 → n = 0 ∧ k = 0 := by
  intro f
  induction f with
  | zero => intro i v e n k h _; simp [numGo] at h; omega
  | succ f ih =>
    intro i v e n k h he
    rw [numGo] at h
    split at h
    · split at h
      · split at h
        · simp at h; omega
        · simp at h; omega
      · exact ih h he
    · simp at h; omega
theorem pow7 (i : Nat) : 2 ^ (7 * i) = 128 ^ i := by rw [Nat.pow_mul]
/-- A number fits in 63 bits, and its bytes are there. -/
theorem numGo_fit {r : List UInt8} : ∀ (f i v : Nat), i + f = 9 → v < 128 ^ i → (numGo r f i v).2.1 < 9223372036854775808 ∧ (numGo r f i v).2.2 ≤ r.length ∧ (numGo r f i v).1 ≤ 5 := by
  intro f
  induction f with
  | zero => intro i v _ _; simp [numGo]
  | succ f ih =>
    intro i v hi hv
    rw [numGo]
    have hc : v + (r.getD i 0).toNat % 128 * 128 ^ i < 128 ^ (i + 1) := by
      have : (r.getD i 0).toNat % 128 ≤ 127 := by omega
      have h2 : (r.getD i 0).toNat % 128 * 128 ^ i ≤ 127 * 128 ^ i := Nat.mul_le_mul_right _ this
      rw [Nat.pow_succ]; omega
    have hp : 128 ^ (i + 1) ≤ 128 ^ 9 := Nat.pow_le_pow_right (by decide) (by omega)
    split
    · split
      · split
        · simp
        · refine ⟨?_, ?_, by simp⟩
          · show v + _ < _
            have : (128 : Nat) ^ 9 = 9223372036854775808 := by decide
            omega
          · show i + 1 ≤ _; omega
      · exact ih (i + 1) _ (by omega) hc
    · simp
theorem num_fit (r : List UInt8) : (num r).2.1 < 9223372036854775808 ∧ (num r).2.2 ≤ r.length ∧ (num r).1 ≤ 5 := numGo_fit 9 0 0 rfl (by decide)
theorem numV_fit (r : List UInt8) (e : Int) : numV r e < 9223372036854775808 := by unfold numV; split; exact (num_fit r).1; decide
/-- A number that is at most another one. -/
def uptoE (r : List UInt8) (e m : Int) : Int := if numE r e = 0 then (if m < numV r e then 5 else 0) else numE r e
def uptoV (r : List UInt8) (e m : Int) : Nat := if uptoE r e m = 0 then numV r e else 0
/-- So many bytes. -/
def rawE (r : List UInt8) (e n : Int) : Int := if e = 0 then (if n < 0 ∨ (r.length : Int) < n then 2 else 0) else e
def rawV (r : List UInt8) (e n : Int) : List UInt8 := if rawE r e n = 0 then r.take n.toNat else []
def rawR (r : List UInt8) (e n : Int) : List UInt8 := if rawE r e n = 0 then r.drop n.toNat else r
/-- A sum. -/
def sumV (r : List UInt8) (e : Int) : List UInt8 := if rawE r e 32 = 0 then r.take 32 else List.replicate 32 0
theorem sumV_len {r : List UInt8} {e : Int} : (sumV r e).length = 32 := by
  unfold sumV
  split
  · rename_i h
    unfold rawE at h
    split at h
    · split at h
      · omega
      · simp; omega
    · omega
  · rfl
/-- What is said at the end. -/
def doneE (r : List UInt8) (e : Int) : Int := if e = 0 ∧ 0 < r.length then 3 else e
/-- A number's bytes. -/
def putGo : Nat → Nat → List UInt8
  | 0, n => [UInt8.ofNat n]
  | f + 1, n => if n < 128 then [UInt8.ofNat n] else UInt8.ofNat (128 + n % 128) :: putGo f (n / 128)
def putN (n : Nat) : List UInt8 := putGo 9 n
def put (z : Int) : List UInt8 := putN z.toNat
theorem putGo_len : ∀ (f n : Nat), 1 ≤ (putGo f n).length ∧ (putGo f n).length ≤ f + 1 := by
  intro f
  induction f with
  | zero => intro n; simp [putGo]
  | succ f ih =>
    intro n
    rw [putGo]
    split
    · simp
    · have := ih (n / 128); simp only [List.length_cons]; omega
theorem putN_len (n : Nat) : 1 ≤ (putN n).length ∧ (putN n).length ≤ 10 := putGo_len 9 n
end Go.Bz.Wire
