/- Lists of sums under one sum, in plain Lean; rules that lacked. -/
import Derived.Test.YtokddhidcjkadaaLitM
import Derived.Test.YtokddhidcjkadaaShaSpec
namespace Go.Bz.Merkle
open Go.Bz Go.Bz.Sha
def leafS (s : S32) : S32 := ⟨join 1 [s.1], join_length _ _⟩
def pairS (a b : S32) : S32 := ⟨join 2 [a.1, b.1], join_length _ _⟩
def voidS : S32 := ⟨join 3 [], join_length _ _⟩
def upL : List S32 → List S32
  | a :: b :: l => pairS a b :: upL l
  | [a] => [a]
  | [] => []
theorem upL_len : ∀ l : List S32, (upL l).length = (l.length + 1) / 2
  | a :: b :: l => by simp only [upL, List.length_cons, upL_len l]; omega
  | [a] => by simp [upL]
  | [] => rfl
theorem upL_get : ∀ (l : List S32) (i : Nat), 2 * i + 1 < l.length → (upL l).getD i zS = pairS (l.getD (2 * i) zS) (l.getD (2 * i + 1) zS)
  | a :: b :: l, 0, _ => rfl
  | a :: b :: l, i + 1, h => by
    have := upL_get l i (by simp at h; omega)
    simpa [upL, show 2 * (i + 1) = 2 * i + 1 + 1 by omega] using this
  | [a], i, h => by simp at h
  | [], i, h => by simp at h
theorem upL_take : ∀ (l : List S32) (i : Nat), 2 * i + 1 < l.length → (upL l).take (i + 1) = (upL l).take i ++ [pairS (l.getD (2 * i) zS) (l.getD (2 * i + 1) zS)] := fun l i h => by
  rw [List.take_succ_eq_append_getElem (by rw [upL_len]; omega), ← upL_get l i h]
  simp [List.getD_eq_getElem?_getD, upL_len, show i < (l.length + 1) / 2 by omega]
theorem upL_last : ∀ (l : List S32), l.length % 2 = 1 → (upL l).getD (l.length / 2) zS = l.getD (l.length - 1) zS
  | a :: b :: l, h => by
    have := upL_last l (by simp at h; omega)
    have e1 : (a :: b :: l).length / 2 = l.length / 2 + 1 := by simp; omega
    have hl : 0 < l.length := by simp at h; omega
    have e2 : (a :: b :: l).length - 1 = (l.length - 1) + 1 + 1 := by simp; omega
    rw [e1, e2, upL]
    simpa using this
  | [a], _ => by simp [upL]
  | [], h => by simp at h
theorem upL_odd {l : List S32} (h : l.length % 2 = 1) {i : Nat} (hi : i = l.length / 2) : (upL l).take i ++ [l.getD (l.length - 1) zS] = upL l := by
  subst hi
  have hn : l.length / 2 < (upL l).length := by rw [upL_len]; omega
  have e : upL l = (upL l).take (l.length / 2 + 1) := (List.take_of_length_le (by rw [upL_len]; omega)).symm
  conv => rhs; rw [e, List.take_succ_eq_append_getElem hn]
  rw [← upL_last l h]
  simp [List.getD_eq_getElem?_getD, hn]
theorem upL_even {l : List S32} (h : ¬ l.length % 2 = 1) {i : Nat} (hi : i = l.length / 2) : (upL l).take i = upL l := by
  subst hi; exact List.take_of_length_le (by rw [upL_len]; omega)
/-- The top of a row. -/
def top (l : List S32) : S32 := if h : l.length ≤ 1 then l.headD zS else top (upL l)
termination_by l.length
decreasing_by rw [upL_len]; omega
theorem top_one {l : List S32} (h : l.length ≤ 1) : top l = l.headD zS := by rw [top, dif_pos h]
theorem top_up {l : List S32} (h : ¬ l.length ≤ 1) : top l = top (upL l) := by rw [top, dif_neg h]
def rootS (l : List S32) : S32 := if l = [] then voidS else top (l.map leafS)
theorem rootS_1 (s : S32) : rootS [s] = leafS s := by
  unfold rootS; rw [if_neg (by simp), top_one (by simp)]; rfl
theorem rootS_2 (s t : S32) : rootS [s, t] = pairS (leafS s) (leafS t) := by
  unfold rootS; rw [if_neg (by simp), top_up (by simp), top_one (by simp [upL])]; rfl
/-- The way up. -/
def beside (a : Nat) : Nat := a + 1 - 2 * (a % 2)
def chk (now : S32) (a m : Nat) (p : List S32) : Option (S32 × List S32) :=
  if h : m ≤ 1 then some (now, p)
  else if beside a < m then
    match p with
    | [] => none
    | x :: q => chk (if a % 2 = 0 then pairS now x else pairS x now) (a / 2) ((m + 1) / 2) q
  else chk now (a / 2) ((m + 1) / 2) p
termination_by m
decreasing_by all_goals omega
theorem chk_end {now : S32} {a m : Nat} {p : List S32} (h : m ≤ 1) : chk now a m p = some (now, p) := by rw [chk.eq_def, dif_pos h]
theorem chk_none {now : S32} {a m : Nat} {p : List S32} (h : ¬ m ≤ 1) (hb : beside a < m) (hp : p.length = 0) : chk now a m p = none := by
  obtain rfl : p = [] := List.eq_nil_of_length_eq_zero hp
  rw [chk.eq_def, dif_neg h, if_pos hb]
theorem chk_skip {now : S32} {a m : Nat} {p : List S32} (h : ¬ m ≤ 1) (hb : ¬ beside a < m) : chk now a m p = chk now (a / 2) ((m + 1) / 2) p := by rw [chk.eq_def, dif_neg h, if_neg hb]
theorem chk_go {now : S32} {a m : Nat} {p : List S32} (h : ¬ m ≤ 1) (hb : beside a < m) (hp : 0 < p.length) : chk now a m p = chk (if a % 2 = 0 then pairS now (p.getD 0 zS) else pairS (p.getD 0 zS) now) (a / 2) ((m + 1) / 2) (p.drop 1) := by
  cases p with
  | nil => simp at hp
  | cons x q => rw [chk.eq_def, dif_neg h, if_pos hb]; rfl
/-- What is checked. -/
def okAt (a m : Int) : Bool := decide (0 ≤ a ∧ a < m ∧ m ≤ 4096)
def checkB (r s : S32) (a m : Int) (p : List S32) : Bool := okAt a m && (match chk (leafS s) a.toNat m.toNat p with | some (now, q) => decide (q.length = 0) && (now.1 == r.1) | none => false)
theorem checkB_no {r s : S32} {a m : Int} {p : List S32} (h : ¬ (0 ≤ a ∧ a < m ∧ m ≤ 4096)) : checkB r s a m p = false := by
  unfold checkB okAt; rw [decide_eq_false h]; rfl
theorem checkB_none {r s : S32} {a m : Nat} {p : List S32} (h : chk (leafS s) a m p = none) : checkB r s a m p = false := by
  unfold checkB; rw [Int.toNat_natCast, Int.toNat_natCast, h]; simp
theorem checkB_some {r s now : S32} {a m : Nat} {p q : List S32} (hk : a < m ∧ m ≤ 4096) (h : chk (leafS s) a m p = some (now, q)) : checkB r s a m p = (decide (q.length = 0) && (now.1 == r.1)) := by
  unfold checkB okAt; rw [Int.toNat_natCast, Int.toNat_natCast, h, decide_eq_true (by omega)]; rfl
end Go.Bz.Merkle
namespace Go.Bz
open Go.RowKit Go.Bz.Merkle
theorem xor1_nat (n : Nat) (h : n ≤ 9223372036854775806) : bitsOf .xor .i64 (n : Int) 1 = ((beside n : Nat) : Int) := by
  unfold bitsOf
  have h1 : (BitVec.ofInt IntKind.i64.bits (n : Int) ^^^ BitVec.ofInt IntKind.i64.bits 1).toNat = beside n := by
    rw [BitVec.toNat_xor, BitVec.toNat_ofInt]
    have e1 : ((n : Int) % ((2 ^ IntKind.i64.bits : Nat) : Int)).toNat = n := by
      rw [show IntKind.i64.bits = 64 from rfl]; omega
    rw [e1, show (BitVec.ofInt IntKind.i64.bits 1).toNat = 1 from rfl]
    unfold beside
    apply Nat.eq_of_testBit_eq
    intro i
    rw [Nat.testBit_xor]
    cases i with
    | zero =>
      rw [Nat.testBit_zero, Nat.testBit_zero, Nat.testBit_zero]
      rcases Nat.mod_two_eq_zero_or_one n with h | h
      · rw [h, show (n + 1 - 2 * 0) % 2 = 1 by omega]; rfl
      · rw [h, show (n + 1 - 2 * 1) % 2 = 0 by omega]; rfl
    | succ i =>
      rw [Nat.testBit_succ, Nat.testBit_succ, Nat.testBit_succ, show (n + 1 - 2 * (n % 2)) / 2 = n / 2 by omega]
      simp
  simp only [h1]
  exact wrap_i64 rfl (by unfold beside; omega) (by unfold beside; omega)
theorem Stab.slcF {α : Type} {f : α → List Value} {sz : Nat} {N : Nat → Prop} {w0 : World} {v : Value} {xs : List α} {l h n : Nat} (hf : ∀ x ∈ xs, (f x).length = sz) (hs : Stab N w0 sz v xs.length (xs.flatMap f)) (hn : xs.length = n) (h1 : l ≤ h) (h2 : h ≤ n) : Stab N w0 sz (slcV v sz l h) ((xs.drop l).take (h - l)).length (((xs.drop l).take (h - l)).flatMap f) :=
  ⟨fun _ hc => rdF_slc hf (hs.rd _ hc) rfl h1 (hn ▸ h2), fun k hk h0 => hs.out k (slcV_own .. ▸ hk) (slcF_pos h0)⟩
theorem take_drop1 {l : List S32} {n : Nat} (h : l.length = n) : (l.drop 1).take (n - 1) = l.drop 1 := List.take_of_length_le (by simp; omega)
end Go.Bz
