/- What a receipt's bytes are, and what is read of any, in plain Lean. -/
import Derived.Test.YtjgcjddaladgfaaHeapW
namespace Go.Bz.Wire
def puts (l : List Int) : List UInt8 := l.flatMap put
theorem put_len (z : Int) : (put z).length ≤ 10 := (putN_len _).2
theorem puts_len : ∀ l : List Int, (puts l).length ≤ 10 * l.length
  | [] => Nat.le_refl _
  | z :: l => by
    have h1 := put_len z
    have h2 := puts_len l
    unfold puts at h2 ⊢
    simp only [List.flatMap_cons, List.length_append, List.length_cons]; omega
theorem puts_next {l : List Int} {i : Nat} (h : i < l.length) : puts (List.take (i + 1) l) = puts (List.take i l) ++ put (List.getD l i 0) := by
  unfold puts
  rw [List.take_succ_eq_append_getElem h, List.flatMap_append]
  simp [List.getD_eq_getElem?_getD, h]
theorem puts_drop {l : List Int} {i : Nat} (h : i < l.length) : puts (List.drop i l) = put (List.getD l i 0) ++ puts (List.drop (i + 1) l) := by
  unfold puts
  rw [List.drop_eq_getElem_cons h, List.flatMap_cons]
  simp [List.getD_eq_getElem?_getD, h]
theorem num_of {r rest : List UInt8} {e z : Int} (he : e = 0) (hr : r = put z ++ rest) (hz : z ≤ 9223372036854775807) : numV r e = z.toNat ∧ numR r e = rest ∧ numE r e = 0 := by
  have h := num_put z.toNat rest (by omega)
  subst hr
  obtain ⟨h1, h2, h3⟩ := num_ok he h
  refine ⟨h1, ?_, h3⟩
  show numR (putN z.toNat ++ rest) e = rest
  rw [h2]; simp
theorem upto_of {r rest : List UInt8} {e z m : Int} (he : e = 0) (hr : r = put z ++ rest) (h0 : 0 ≤ z) (hz : z ≤ m) (hm : m ≤ 9223372036854775807) : ((uptoV r e m : Nat) : Int) = z ∧ numR r e = rest ∧ uptoE r e m = 0 := by
  obtain ⟨h1, h2, h3⟩ := num_of he hr (by omega)
  have h4 : uptoE r e m = 0 := by unfold uptoE; rw [h3, if_pos rfl, h1, if_neg (by omega)]
  refine ⟨?_, h2, h4⟩
  unfold uptoV; rw [if_pos h4, h1]; omega
theorem text_of {r b rest : List UInt8} {e m : Int} (he : e = 0) (hr : r = put (b.length : Int) ++ (b ++ rest)) (hb : (b.length : Int) ≤ m) (hm : m ≤ 9223372036854775807) :
    rawV (numR r e) (uptoE r e m) ((uptoV r e m : Nat) : Int) = b ∧ rawR (numR r e) (uptoE r e m) ((uptoV r e m : Nat) : Int) = rest ∧ rawE (numR r e) (uptoE r e m) ((uptoV r e m : Nat) : Int) = 0 := by
  obtain ⟨h1, h2, h4⟩ := upto_of he hr (by omega) hb hm
  rw [h2, h4, h1]
  have h6 : rawE (b ++ rest) 0 ((b.length : Nat) : Int) = 0 := by unfold rawE; rw [if_pos rfl, if_neg (by simp; omega)]
  refine ⟨?_, ?_, h6⟩
  · unfold rawV; rw [if_pos h6, Int.toNat_natCast, List.take_left]
  · unfold rawR; rw [if_pos h6, Int.toNat_natCast, List.drop_left]
theorem sum_of {r s rest : List UInt8} {e : Int} (he : e = 0) (hr : r = s ++ rest) (hs : s.length = 32) : sumV r e = s ∧ rawR r e 32 = rest ∧ rawE r e 32 = 0 := by
  subst hr
  have h6 : rawE (s ++ rest) e 32 = 0 := by unfold rawE; rw [if_pos he, if_neg (by simp; omega)]
  refine ⟨?_, ?_, h6⟩
  · unfold sumV; rw [if_pos h6, ← hs, List.take_left]
  · unfold rawR; rw [if_pos h6, show (32 : Int).toNat = 32 from rfl, ← hs, List.drop_left]
theorem num_form0 {r : List UInt8} {e : Int} (h : numE r e = 0) : e = 0 ∧ r = putN (numV r e) ++ numR r e := by
  by_cases he : e = 0
  · refine ⟨he, ?_⟩
    obtain ⟨a, n, k, hn⟩ : ∃ a n k, num r = (a, n, k) := ⟨_, _, _, rfl⟩
    obtain ⟨h1, h2, h3⟩ := num_ok he hn
    have ha : a = 0 := by omega
    subst ha
    rw [h1, h2, num_form hn, List.take_append_drop]
  · rw [(num_no he).2.2] at h; exact absurd h he
theorem upto_form {r : List UInt8} {e m : Int} (h : uptoE r e m = 0) : e = 0 ∧ r = put ((uptoV r e m : Nat) : Int) ++ numR r e ∧ ((uptoV r e m : Nat) : Int) ≤ m := by
  have hv : uptoV r e m = numV r e := by unfold uptoV; rw [if_pos h]
  have h1 : numE r e = 0 ∧ ¬ m < ((numV r e : Nat) : Int) := by
    unfold uptoE at h
    by_cases h0 : numE r e = 0
    · rw [if_pos h0] at h
      by_cases h1 : m < ((numV r e : Nat) : Int)
      · rw [if_pos h1] at h; omega
      · exact ⟨h0, h1⟩
    · rw [if_neg h0] at h; exact absurd h h0
  obtain ⟨h2, h3⟩ := num_form0 h1.1
  rw [hv]
  exact ⟨h2, h3, by omega⟩
theorem raw_form {r : List UInt8} {e n : Int} (h : rawE r e n = 0) : e = 0 ∧ r = rawV r e n ++ rawR r e n ∧ ((rawV r e n).length : Int) = n := by
  have h1 : e = 0 ∧ ¬ (n < 0 ∨ (r.length : Int) < n) := by
    unfold rawE at h
    by_cases h0 : e = 0
    · rw [if_pos h0] at h
      refine ⟨h0, fun h1 => ?_⟩
      rw [if_pos (by omega)] at h; omega
    · rw [if_neg h0] at h; exact absurd h h0
  refine ⟨h1.1, ?_, ?_⟩
  · unfold rawV rawR; rw [if_pos h, if_pos h, List.take_append_drop]
  · unfold rawV; rw [if_pos h, List.length_take]; omega
theorem sum_form {r : List UInt8} {e : Int} (h : rawE r e 32 = 0) : e = 0 ∧ r = sumV r e ++ rawR r e 32 := by
  refine ⟨(raw_form h).1, ?_⟩
  unfold sumV rawR; rw [if_pos h, if_pos h]; exact (List.take_append_drop 32 r).symm
theorem done_form {r : List UInt8} {e : Int} (h : doneE r e = 0) : e = 0 ∧ r = [] := by
  unfold doneE at h
  split at h
  · omega
  · subst h
    refine ⟨rfl, ?_⟩
    rename_i hn
    cases r with
    | nil => rfl
    | cons x r => exact absurd ⟨rfl, by simp⟩ hn
theorem done_of {r : List UInt8} {e : Int} (he : e = 0) (hr : r = []) : doneE r e = 0 := by subst he hr; rfl
theorem text_form {r : List UInt8} {e m : Int} (h : rawE (numR r e) (uptoE r e m) ((uptoV r e m : Nat) : Int) = 0) : e = 0 ∧ r = put ((rawV (numR r e) (uptoE r e m) ((uptoV r e m : Nat) : Int)).length : Int) ++ (rawV (numR r e) (uptoE r e m) ((uptoV r e m : Nat) : Int) ++ rawR (numR r e) (uptoE r e m) ((uptoV r e m : Nat) : Int)) ∧ ((rawV (numR r e) (uptoE r e m) ((uptoV r e m : Nat) : Int)).length : Int) ≤ m := by
  obtain ⟨h1, h2, h3⟩ := raw_form h
  obtain ⟨h4, h5, h6⟩ := upto_form h1
  rw [h3, ← h2]
  exact ⟨h4, h5, h6⟩
end Go.Bz.Wire
namespace Go.Bz.Rcpt
open Go.Bz Go.Bz.Wire
/-- A receipt. -/
structure Rc where
  t : Int
  c : Int
  s : Int
  h : S32
  b : S32
def zR : Rc := ⟨0, 0, 0, zS, zS⟩
def inR (r : Rc) : Prop := 0 ≤ r.t ∧ r.t < 16 ∧ 0 ≤ r.c ∧ r.c ≤ 1048576 ∧ 0 ≤ r.s ∧ r.s ≤ 1048576
instance (r : Rc) : Decidable (inR r) := inferInstanceAs (Decidable (_ ∧ _))
def textR (r : Rc) : List UInt8 := put r.t ++ put r.c ++ put r.s ++ r.h.1 ++ r.b.1
theorem textR_len (r : Rc) : (textR r).length ≤ 94 := by
  have h1 := put_len r.t
  have h2 := put_len r.c
  have h3 := put_len r.s
  unfold textR
  simp only [List.length_append, r.h.2, r.b.2]; omega
theorem textR_split (r : Rc) : textR r = put r.t ++ (put r.c ++ (put r.s ++ (r.h.1 ++ (r.b.1 ++ [])))) := by simp [textR]
theorem textR_puts (r : Rc) : puts [r.t, r.c, r.s] ++ r.h.1 ++ r.b.1 = textR r := by simp [textR, puts]
/-- What is read of bytes: the receipt, and the error. -/
structure ReadOk (b : List UInt8) (r : Rc) (e : Int) : Prop where
  one : ∀ q, inR q → b = textR q → e = 0 ∧ r = q
  good : e = 0 → inR r ∧ b = textR r
  bad : ¬ e = 0 → r = zR
abbrev r1 (b : List UInt8) := numR b 0
abbrev e1 (b : List UInt8) := uptoE b 0 15
abbrev r2 (b : List UInt8) := numR (r1 b) (e1 b)
abbrev e2 (b : List UInt8) := uptoE (r1 b) (e1 b) 1048576
abbrev r3 (b : List UInt8) := numR (r2 b) (e2 b)
abbrev e3 (b : List UInt8) := uptoE (r2 b) (e2 b) 1048576
abbrev r4 (b : List UInt8) := rawR (r3 b) (e3 b) 32
abbrev e4 (b : List UInt8) := rawE (r3 b) (e3 b) 32
abbrev r5 (b : List UInt8) := rawR (r4 b) (e4 b) 32
abbrev e5 (b : List UInt8) := rawE (r4 b) (e4 b) 32
abbrev rE (b : List UInt8) := doneE (r5 b) (e5 b)
abbrev rV (b : List UInt8) : Rc := ⟨((uptoV b 0 15 : Nat) : Int), ((uptoV (r1 b) (e1 b) 1048576 : Nat) : Int), ((uptoV (r2 b) (e2 b) 1048576 : Nat) : Int), ⟨sumV (r3 b) (e3 b), sumV_len⟩, ⟨sumV (r4 b) (e4 b), sumV_len⟩⟩
theorem read_one {b : List UInt8} {q : Rc} (hq : inR q) (hb : b = textR q) : rE b = 0 ∧ rV b = q := by
  obtain ⟨h1, h2, h3, h4, h5, h6⟩ := hq
  rw [textR_split] at hb
  obtain ⟨a1, a2, a3⟩ := upto_of (e := 0) (m := 15) rfl hb h1 (by omega) (by omega)
  obtain ⟨b1, b2, b3⟩ := upto_of (m := 1048576) a3 a2 h3 h4 (by omega)
  obtain ⟨c1, c2, c3⟩ := upto_of (m := 1048576) b3 b2 h5 h6 (by omega)
  obtain ⟨d1, d2, d3⟩ := sum_of c3 c2 q.h.2
  obtain ⟨f1, f2, f3⟩ := sum_of d3 d2 q.b.2
  refine ⟨done_of f3 f2, ?_⟩
  cases q
  simp only [rV, a1, b1, c1, d1, f1]
theorem read_good {b : List UInt8} (h : rE b = 0) : inR (rV b) ∧ b = textR (rV b) := by
  obtain ⟨f1, f2⟩ := done_form h
  obtain ⟨d1, d2⟩ := sum_form f1
  obtain ⟨c1, c2⟩ := sum_form d1
  obtain ⟨b1, b2, b3⟩ := upto_form c1
  obtain ⟨a1, a2, a3⟩ := upto_form b1
  obtain ⟨_, g2, g3⟩ := upto_form a1
  refine ⟨⟨by simp only [rV]; omega, by simp only [rV]; omega, by simp only [rV]; omega, a3, by simp only [rV]; omega, b3⟩, ?_⟩
  rw [textR_split]
  simp only [rV]
  have d2' : r4 b = sumV (r4 b) (e4 b) ++ [] := d2.trans (by rw [show rawR (r4 b) (e4 b) 32 = [] from f2])
  have c2' : r3 b = sumV (r3 b) (e3 b) ++ r4 b := c2
  have b2' : r2 b = put ((uptoV (r2 b) (e2 b) 1048576 : Nat) : Int) ++ r3 b := b2
  have a2' : r1 b = put ((uptoV (r1 b) (e1 b) 1048576 : Nat) : Int) ++ r2 b := a2
  rw [← d2', ← c2', ← b2', ← a2']; exact g2
theorem read_ok {b : List UInt8} (h : rE b = 0) : ReadOk b (rV b) (rE b) := ⟨fun _ hq hb => read_one hq hb, fun _ => read_good h, fun h2 => absurd h h2⟩
theorem read_no {b : List UInt8} (h : ¬ rE b = 0) : ReadOk b zR (rE b) := ⟨fun _ hq hb => absurd (read_one hq hb).1 h, fun h2 => absurd h2 h, fun _ => rfl⟩
theorem ReadOk.uniq {b : List UInt8} {r r' : Rc} {e e' : Int} (h : ReadOk b r e) (h' : ReadOk b r' e') (he : e = 0) : e' = 0 ∧ r' = r := h'.one r (h.good he).1 (h.good he).2
end Go.Bz.Rcpt
