/- A pen in memory. -/
import Derived.Test.YtjgcjddaladgfaaEye
namespace Go.Bz.Wire
theorem put_next {f m : Nat} (h : ¬ m < 128) (hm : m < 128 ^ (f + 1)) : ∃ f', f = f' + 1 ∧ putGo f m = UInt8.ofNat (128 + m % 128) :: putGo f' (m / 128) ∧ m / 128 < 128 ^ (f' + 1) := by
  cases f with
  | zero => simp at hm; omega
  | succ f =>
    refine ⟨f, rfl, by rw [putGo, if_neg h], ?_⟩
    rw [Nat.pow_succ] at hm
    exact Nat.div_lt_of_lt_mul (by omega)
theorem put_last {f m : Nat} (h : m < 128) : putGo f m = [UInt8.ofNat m] := by
  cases f with
  | zero => rfl
  | succ f => rw [putGo, if_pos h]
/-- What was read is in its one form. -/
theorem go_form {r : List UInt8} : ∀ (f i v n k : Nat), i + f = 9 → numGo r f i v = (0, n, k) → i < k ∧ k ≤ r.length ∧ ∃ m, n = v + m * 128 ^ i ∧ (0 < i → 0 < m) ∧ ∀ f2, f ≤ f2 + 1 → putGo f2 m = (r.drop i).take (k - i) := by
  intro f
  induction f with
  | zero => intro i v n k _ h; simp [numGo] at h
  | succ f ih =>
    intro i v n k hi h
    rw [numGo] at h
    split at h
    · rename_i hlt
      have hdrop : r.drop i = r.getD i 0 :: r.drop (i + 1) := by
        rw [List.drop_eq_getElem_cons hlt]; simp [hlt]
      split at h
      · rename_i hc
        split at h
        · simp at h
        · rename_i hnz
          simp only [Prod.mk.injEq, true_and] at h
          obtain ⟨hn, hk⟩ := h
          subst hk
          refine ⟨by omega, by omega, (r.getD i 0).toNat, by rw [← hn, Nat.mod_eq_of_lt hc], fun h0 => by omega, fun f2 _ => ?_⟩
          rw [put_last hc, hdrop, show i + 1 - i = 1 by omega]
          simp
      · rename_i hc
        obtain ⟨h1, h2, m, h3, h4, h5⟩ := ih (i + 1) _ n k (by omega) h
        have h8 := (r.getD i 0).toNat_lt
        have hm := h4 (by omega)
        refine ⟨by omega, h2, (r.getD i 0).toNat % 128 + 128 * m, ?_, fun _ => by omega, fun f2 hf2 => ?_⟩
        · rw [h3, Nat.pow_succ, Nat.add_mul]
          have : m * (128 ^ i * 128) = 128 * m * 128 ^ i := by rw [Nat.mul_comm (128 ^ i), ← Nat.mul_assoc, Nat.mul_comm m]
          omega
        · have hf0 : f ≠ 0 := fun h0 => by subst h0; simp [numGo] at h
          obtain ⟨f3, rfl⟩ : ∃ f3, f2 = f3 + 1 := ⟨f2 - 1, by omega⟩
          rw [putGo, if_neg (by omega), hdrop, show k - i = (k - (i + 1)) + 1 by omega, List.take_succ_cons]
          congr 1
          · apply UInt8.toNat_inj.1
            rw [UInt8.toNat_ofNat']; omega
          · rw [show ((r.getD i 0).toNat % 128 + 128 * m) / 128 = m by omega]
            exact h5 f3 (by omega)
    · simp at h
theorem num_form {r : List UInt8} {n k : Nat} (h : num r = (0, n, k)) : putN n = r.take k := by
  obtain ⟨_, _, m, h1, _, h2⟩ := go_form 9 0 0 n k rfl h
  have : n = m := by simpa using h1
  subst this
  have := h2 9 (by omega)
  unfold putN
  simpa using this
/-- What was written is read as it was. -/
theorem go_put {rest : List UInt8} : ∀ (f m i v : Nat) (pre : List UInt8), pre.length = i → i + (f + 1) = 9 + 1 → m < 128 ^ f → (0 < i → 0 < m) → numGo (pre ++ (putGo f m ++ rest)) f i v = (0, v + m * 128 ^ i, i + (putGo f m).length) := by
  intro f
  induction f with
  | zero => intro m i v pre hp hi hm h0; simp at hm; omega
  | succ f ih =>
    intro m i v pre hp hi hm h0
    rw [putGo]
    split
    · rename_i hlt
      have hg : (pre ++ ([UInt8.ofNat m] ++ rest)).getD i 0 = UInt8.ofNat m := by rw [← hp]; simp
      have hv : (UInt8.ofNat m).toNat = m := by rw [UInt8.toNat_ofNat']; omega
      rw [numGo, if_pos (by simp; omega), hg, hv, if_pos hlt, if_neg (by omega), Nat.mod_eq_of_lt hlt]
      simp
    · rename_i hge
      have hv : (UInt8.ofNat (128 + m % 128)).toNat = 128 + m % 128 := by rw [UInt8.toNat_ofNat']; omega
      have hg : (pre ++ ((UInt8.ofNat (128 + m % 128) :: putGo f (m / 128)) ++ rest)).getD i 0 = UInt8.ofNat (128 + m % 128) := by rw [← hp]; simp
      rw [numGo, if_pos (by simp; omega), hg, hv, if_neg (by omega)]
      have hm2 : m / 128 < 128 ^ f := by rw [Nat.pow_succ] at hm; exact Nat.div_lt_of_lt_mul (by omega)
      have := ih (m / 128) (i + 1) (v + (128 + m % 128) % 128 * 128 ^ i) (pre ++ [UInt8.ofNat (128 + m % 128)]) (by simp [hp]) (by omega) hm2 (fun _ => by omega)
      simp only [List.append_assoc, List.cons_append, List.nil_append] at this ⊢
      rw [this]
      have e : (128 + m % 128) % 128 = m % 128 := by omega
      have e2 : v + m % 128 * 128 ^ i + m / 128 * 128 ^ (i + 1) = v + m * 128 ^ i := by
        rw [Nat.pow_succ]
        have h1 : m / 128 * (128 ^ i * 128) = (128 * (m / 128)) * 128 ^ i := by rw [Nat.mul_comm (128 ^ i), ← Nat.mul_assoc, Nat.mul_comm (m / 128)]
        rw [h1, Nat.add_assoc, ← Nat.add_mul, Nat.mod_add_div]
      rw [e, e2]
      simp; omega
theorem num_put (n : Nat) (rest : List UInt8) (h : n < 9223372036854775808) : num (putN n ++ rest) = (0, n, (putN n).length) := by
  have := go_put (rest := rest) 9 n 0 0 [] rfl rfl (Nat.lt_of_lt_of_le h (by decide)) (fun h => absurd h (by decide))
  unfold num putN
  simpa using this
theorem num_facts {c : List UInt8} {e n k : Nat} (m : Int) (h : num c = (e, n, k)) : numV c 0 = n ∧ numE c 0 = e ∧ numR c 0 = c.drop k ∧ (¬ (e : Int) = 0 → uptoE c 0 m = e ∧ uptoV c 0 m = 0) ∧ ((e : Int) = 0 → (m < n → uptoE c 0 m = 5 ∧ uptoV c 0 m = 0) ∧ (¬ m < n → uptoE c 0 m = 0 ∧ uptoV c 0 m = n)) := by
  have h1 : numV c 0 = n := by unfold numV; rw [if_pos rfl, h]
  have h2 : numE c 0 = e := by unfold numE; rw [if_pos rfl, h]
  have h3 : numR c 0 = c.drop k := by unfold numR; rw [if_pos rfl, h]
  refine ⟨h1, h2, h3, fun he => ?_, fun he => ⟨fun hm => ?_, fun hm => ?_⟩⟩
  · have : uptoE c 0 m = e := by unfold uptoE; rw [h2, if_neg he]
    exact ⟨this, by unfold uptoV; rw [this, if_neg he]⟩
  · have : uptoE c 0 m = 5 := by unfold uptoE; rw [h2, if_pos he, h1, if_pos hm]
    exact ⟨this, by unfold uptoV; rw [this]; rfl⟩
  · have : uptoE c 0 m = 0 := by unfold uptoE; rw [h2, if_pos he, h1, if_neg hm]
    exact ⟨this, by unfold uptoV; rw [this, if_pos rfl, h1]⟩
end Go.Bz.Wire
namespace Go.Bz
open Go.RowKit
theorem shl_numI {c i : Nat} (hc : c < 128) (hi : i ≤ 8) : IntKind.i64.wrap ((c : Int) * 2 ^ min (7 * i) IntKind.i64.bits) = ((c * 128 ^ i : Nat) : Int) := by
  have h1 : min (7 * i) IntKind.i64.bits = 7 * i := Nat.min_eq_left (by show _ ≤ 64; omega)
  have h2 : ((c : Int) * 2 ^ (7 * i)) = ((c * 128 ^ i : Nat) : Int) := by
    rw [Int.natCast_mul, ← Wire.pow7, Int.natCast_pow]; rfl
  have h3 : c * 128 ^ i ≤ 127 * 72057594037927936 := Nat.mul_le_mul (by omega) (pow128 i hi)
  rw [h1, h2]
  exact wrap_nat (by omega)
theorem or128_byte (m : Nat) : bitsOf .or .u8 ((UInt8.ofNat m).toNat : Int) 128 = ((UInt8.ofNat (128 + m % 128)).toNat : Int) := by
  have h := (UInt8.ofNat m).toNat_lt
  rw [or128_nat _ (by omega), UInt8.toNat_ofNat', UInt8.toNat_ofNat']
  omega
end Go.Bz
namespace Go.Proofs.Ytjgcjddaladgfaa
open Go.RowKit Go.Bz
/-- A pen that has written l: its block holds the row v. -/
def PenAt (w : World) (g : Nat) (v : Value) (l : List UInt8) : Prop := Blk w g [v] 50 ∧ OwnB w v l
/-- What writing leaves. -/
def PenPost (w w' : World) (g : Nat) (v : Value) (l : List UInt8) : Prop := ∃ v', PenAt w' g v' l ∧ Chg (fun k => k = g ∨ v.ownBlock = some k) w w' ∧ ∀ k, v'.ownBlock = some k → w.heap.size ≤ k ∨ v.ownBlock = some k
theorem PenAt.ext {w w' : World} {g : Nat} {v : Value} {l : List UInt8} (h : PenAt w g v l) (hx : Ext w w') : PenAt w' g v l := ⟨h.1.ext hx, Own.ext h.2 hx⟩
theorem PenAt.keep {w w' : World} {K : Nat → Prop} {g : Nat} {v : Value} {l : List UInt8} (h : PenAt w g v l) (hx : Chg K w w') (hg : ¬ K g) (hv : ∀ k, v.ownBlock = some k → ¬ K k) : PenAt w' g v l := ⟨h.1.keep hx hg, Own.keep h.2 hx hv⟩
theorem PenAt.own {w : World} {g : Nat} {v : Value} {l : List UInt8} (h : PenAt w g v l) : OwnB w v l := h.2
theorem PenAt.blk {w : World} {g : Nat} {v : Value} {l : List UInt8} (h : PenAt w g v l) : Blk w g [v] 50 := h.1
theorem PenAt.lt {w : World} {g : Nat} {v : Value} {l : List UInt8} (h : PenAt w g v l) : g < w.heap.size := h.1.lt
end Go.Proofs.Ytjgcjddaladgfaa
