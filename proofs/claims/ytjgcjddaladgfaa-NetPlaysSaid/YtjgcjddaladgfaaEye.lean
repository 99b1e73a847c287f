/- An eye in memory; numbers by bits. -/
import Derived.Test.YtjgcjddaladgfaaByt
import Derived.Test.YtjgcjddaladgfaaWireSpec
namespace Go.Bz
open Go.RowKit
theorem and127_nat (n : Nat) (h : n < 256) : bitsOf .and .u8 (n : Int) 127 = ((n % 128 : Nat) : Int) := by
  have key : ∀ n : Fin 256, bitsOf .and .u8 (n.val : Int) 127 = ((n.val % 128 : Nat) : Int) := by decide +kernel
  exact key ⟨n, h⟩
theorem or128_nat (n : Nat) (h : n < 256) : bitsOf .or .u8 (n : Int) 128 = ((128 + n % 128 : Nat) : Int) := by
  have key : ∀ n : Fin 256, bitsOf .or .u8 (n.val : Int) 128 = ((128 + n.val % 128 : Nat) : Int) := by decide +kernel
  exact key ⟨n, h⟩
theorem wrap_u64n {n : Nat} (h : n < 18446744073709551616) : IntKind.u64.wrap (n : Int) = (n : Int) := wrap_u64 (by omega)
theorem pow128 (i : Nat) (h : i ≤ 8) : 128 ^ i ≤ 72057594037927936 := Nat.le_trans (Nat.pow_le_pow_right (by decide) h) (by decide)
theorem shl_num {c i : Nat} (hc : c < 128) (hi : i ≤ 8) : IntKind.u64.wrap ((c : Int) * 2 ^ min (7 * i) IntKind.u64.bits) = ((c * 128 ^ i : Nat) : Int) := by
  have h1 : min (7 * i) IntKind.u64.bits = 7 * i := Nat.min_eq_left (by show _ ≤ 64; omega)
  have h2 : ((c : Int) * 2 ^ (7 * i)) = ((c * 128 ^ i : Nat) : Int) := by
    rw [Int.natCast_mul, ← Wire.pow7, Int.natCast_pow]; rfl
  have h3 : c * 128 ^ i ≤ 127 * 72057594037927936 := Nat.mul_le_mul (by omega) (pow128 i hi)
  rw [h1, h2]
  exact wrap_u64n (by omega)
theorem or_num {v c i : Nat} (hv : v < 128 ^ i) (hc : c < 128) (hi : i ≤ 8) : bitsOf .or .u64 (v : Int) ((c * 128 ^ i : Nat) : Int) = ((v + c * 128 ^ i : Nat) : Int) := by
  have h0 := pow128 i hi
  have h3 : c * 128 ^ i ≤ 127 * 72057594037927936 := Nat.mul_le_mul (by omega) h0
  unfold bitsOf
  have e1 : ∀ n : Nat, n < 18446744073709551616 → (BitVec.ofInt IntKind.u64.bits (n : Int)).toNat = n := fun n hn => by
    rw [BitVec.toNat_ofInt, show IntKind.u64.bits = 64 from rfl]; omega
  have h1 : (BitVec.ofInt IntKind.u64.bits (v : Int) ||| BitVec.ofInt IntKind.u64.bits ((c * 128 ^ i : Nat) : Int)).toNat = v + c * 128 ^ i := by
    rw [BitVec.toNat_or, e1 _ (by omega), e1 _ (by omega), Nat.or_comm, ← Wire.pow7, Nat.mul_comm c, ← Nat.two_pow_add_eq_or_of_lt (by rw [Wire.pow7]; exact hv)]
    omega
  simp only [h1]
  exact wrap_u64n (by omega)
end Go.Bz
namespace Go.Bz.Wire
variable {r : List UInt8} {i v : Nat}
theorem go_short (hi : i < 9) (h : r.length ≤ i) : numGo r (9 - i) i v = (2, 0, 0) := by
  rw [show 9 - i = (8 - i) + 1 by omega, numGo, if_neg (by omega)]
theorem go_zero (hi : i < 9) (h : i < r.length) (hc : (r.getD i 0).toNat = 0) (h0 : 0 < i) : numGo r (9 - i) i v = (4, 0, 0) := by
  rw [show 9 - i = (8 - i) + 1 by omega, numGo, if_pos h, if_pos (by omega), if_pos ⟨hc, h0⟩]
theorem go_end (hi : i < 9) (h : i < r.length) (hc : (r.getD i 0).toNat < 128) (h0 : ¬ ((r.getD i 0).toNat = 0 ∧ 0 < i)) : numGo r (9 - i) i v = (0, v + (r.getD i 0).toNat % 128 * 128 ^ i, i + 1) := by
  rw [show 9 - i = (8 - i) + 1 by omega, numGo, if_pos h, if_pos hc, if_neg h0]
theorem go_next (hi : i < 9) (h : i < r.length) (hc : ¬ (r.getD i 0).toNat < 128) : numGo r (9 - i) i v = numGo r (9 - (i + 1)) (i + 1) (v + (r.getD i 0).toNat % 128 * 128 ^ i) := by
  rw [show 9 - i = (8 - i) + 1 by omega, numGo, if_pos h, if_neg hc, show 9 - (i + 1) = 8 - i by omega]
theorem num_ok {r : List UInt8} {e : Int} {a b c : Nat} (he : e = 0) (h : num r = (a, b, c)) : numV r e = b ∧ numR r e = r.drop c ∧ numE r e = a := by
  unfold numV numR numE; rw [if_pos he, if_pos he, if_pos he, h]; exact ⟨rfl, rfl, rfl⟩
theorem num_no {r : List UInt8} {e : Int} (he : ¬ e = 0) : numV r e = 0 ∧ numR r e = r ∧ numE r e = e := by
  unfold numV numR numE; rw [if_neg he, if_neg he, if_neg he]; exact ⟨rfl, rfl, rfl⟩
theorem raw_len {r : List UInt8} {e : Int} {n : Nat} (h : rawE r e n = 0) : (rawV r e n).length = n := by
  unfold rawV
  rw [if_pos h]
  unfold rawE at h
  split at h
  · split at h
    · omega
    · simp; omega
  · omega
theorem sum_raw {r : List UInt8} {e : Int} (h : rawE r e 32 = 0) : List.take 32 (rawV r e 32) = sumV r e := by
  have := raw_len (n := 32) h
  rw [List.take_of_length_le (by show (rawV r e ((32 : Nat) : Int)).length ≤ 32; omega)]
  unfold rawV sumV
  rw [if_pos h, if_pos h]; rfl
theorem next_lt (_ : i < 9) (hv : v < 128 ^ i) : v + (r.getD i 0).toNat % 128 * 128 ^ i < 128 ^ (i + 1) := by
  have : (r.getD i 0).toNat % 128 ≤ 127 := by omega
  have h2 : (r.getD i 0).toNat % 128 * 128 ^ i ≤ 127 * 128 ^ i := Nat.mul_le_mul_right _ this
  rw [Nat.pow_succ]; omega
theorem next_fit (hi : i < 9) (hv : v < 128 ^ i) : v + (r.getD i 0).toNat % 128 * 128 ^ i ≤ 9223372036854775807 := by
  have h1 := next_lt (r := r) hi hv
  have h2 : 128 ^ (i + 1) ≤ 128 ^ 9 := Nat.pow_le_pow_right (by decide) (by omega)
  have h3 : (128 : Nat) ^ 9 = 9223372036854775808 := by decide
  omega
end Go.Bz.Wire
namespace Go.Proofs.Ytjgcjddaladgfaa
open Go.RowKit Go.Bz
/-- An eye: what is left to read (a part of what it was laid over), and its error. -/
def EyeAt (w : World) (g : Nat) (v0 : Value) (r : List UInt8) (e : Int) : Prop := ∃ v, Blk w g [v, .int .i64 e] 103 ∧ RdB w v r ∧ (0 < r.length → v.ownBlock = v0.ownBlock) ∧ r.length ≤ 100000000
theorem EyeAt.ext {w w' : World} {g : Nat} {v0 : Value} {r : List UInt8} {e : Int} (h : EyeAt w g v0 r e) (hx : Ext w w') : EyeAt w' g v0 r e := by
  obtain ⟨v, h1, h2, h3⟩ := h; exact ⟨v, h1.ext hx, Rd.ext h2 hx, h3⟩
theorem EyeAt.keep {w w' : World} {K : Nat → Prop} {g : Nat} {v0 : Value} {r : List UInt8} {e : Int} (h : EyeAt w g v0 r e) (hx : Chg K w w') (hg : ¬ K g) (hv : ∀ k, v0.ownBlock = some k → ¬ K k) : EyeAt w' g v0 r e := by
  obtain ⟨v, h1, h2, h3⟩ := h; exact ⟨v, h1.keep hx hg, Rd.keep h2 hx (fun k hk h0 => hv k (by rw [← h3.1 (by simpa using h0)]; exact hk)), h3⟩
theorem EyeAt.small {w : World} {g : Nat} {v0 : Value} {r : List UInt8} {e : Int} (h : EyeAt w g v0 r e) : r.length ≤ 100000000 := by obtain ⟨_, _, _, _, h⟩ := h; exact h
theorem EyeAt.lt {w : World} {g : Nat} {v0 : Value} {r : List UInt8} {e : Int} (h : EyeAt w g v0 r e) : g < w.heap.size := by obtain ⟨v, h1, _⟩ := h; exact h1.lt
theorem EyeAt.neOwn {w : World} {g : Nat} {v0 v : Value} {r l : List UInt8} {e : Int} (h : EyeAt w g v0 r e) (ho : OwnB w v l) : v.ownBlock ≠ some g := by obtain ⟨_, h1, _⟩ := h; exact Own.neType ho h1 (by decide)
theorem RdB.max {w : World} {v : Value} {l : List UInt8} (h : RdB w v l) : l.length ≤ 9223372036854775807 := by
  obtain ⟨_, _, _, cap, _, h1, h2, _⟩ := h; unfold maxLen at h2; omega
end Go.Proofs.Ytjgcjddaladgfaa
