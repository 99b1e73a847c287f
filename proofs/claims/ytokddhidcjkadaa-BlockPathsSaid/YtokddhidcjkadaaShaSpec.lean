/- SHA-256 over natural numbers, in plain Lean: what the program's and the reference's functions compute. -/
import Derived.Laws.BitsAllLaws
namespace Go.Bz.Sha

abbrev M : Nat := 4294967296
/-- A word turned right. -/
def rr (n x : Nat) : Nat := x / 2 ^ n ||| x * 2 ^ (32 - n) % M
def sg0 (x : Nat) : Nat := rr 7 x ^^^ rr 18 x ^^^ x / 8
def sg1 (x : Nat) : Nat := rr 17 x ^^^ rr 19 x ^^^ x / 1024
def bs1 (e : Nat) : Nat := rr 6 e ^^^ rr 11 e ^^^ rr 25 e
def bs0 (a : Nat) : Nat := rr 2 a ^^^ rr 13 a ^^^ rr 22 a
def ch (e f g : Nat) : Nat := (e &&& f) ^^^ ((4294967295 - e) &&& g)
def maj (a b c : Nat) : Nat := (a &&& b) ^^^ (a &&& c) ^^^ (b &&& c)

theorem or_lt {a b : Nat} (h1 : a < M) (h2 : b < M) : a ||| b < M := Nat.or_lt_two_pow (n := 32) h1 h2
theorem and_lt {a b : Nat} (h1 : a < M) : a &&& b < M := Nat.lt_of_le_of_lt Nat.and_le_left h1
theorem xor_lt {a b : Nat} (h1 : a < M) (h2 : b < M) : a ^^^ b < M := Nat.xor_lt_two_pow (n := 32) h1 h2
theorem div_lt {x n : Nat} (h : x < M) : x / n < M := Nat.lt_of_le_of_lt (Nat.div_le_self _ _) h
theorem rr_lt {n x : Nat} (h : x < M) : rr n x < M := or_lt (div_lt h) (Nat.mod_lt _ (by decide))
theorem sg0_lt {x : Nat} (h : x < M) : sg0 x < M := xor_lt (xor_lt (rr_lt h) (rr_lt h)) (div_lt h)
theorem sg1_lt {x : Nat} (h : x < M) : sg1 x < M := xor_lt (xor_lt (rr_lt h) (rr_lt h)) (div_lt h)
theorem bs1_lt {x : Nat} (h : x < M) : bs1 x < M := xor_lt (xor_lt (rr_lt h) (rr_lt h)) (rr_lt h)
theorem bs0_lt {x : Nat} (h : x < M) : bs0 x < M := xor_lt (xor_lt (rr_lt h) (rr_lt h)) (rr_lt h)
theorem ch_lt {e f g : Nat} (h : e < M) (hg : g < M) : ch e f g < M := xor_lt (and_lt h) (Nat.lt_of_le_of_lt Nat.and_le_right hg)
theorem maj_lt {a b c : Nat} (h : a < M) (hb : b < M) : maj a b c < M := xor_lt (xor_lt (and_lt h) (and_lt h)) (and_lt hb)

theorem testBit_not {e : Nat} (h : e < M) (i : Nat) : (4294967295 - e).testBit i = (decide (i < 32) && !e.testBit i) := by
  have : 4294967295 - e = 2 ^ 32 - (e + 1) := by unfold M at h; omega
  rw [this, Nat.testBit_two_pow_sub_succ (by exact h)]
/-- 'choose' by or is 'choose' by exclusive or. -/
theorem ch_or {e f g : Nat} (h : e < M) : (e &&& f) ||| ((4294967295 - e) &&& g) = ch e f g := by
  apply Nat.eq_of_testBit_eq
  intro i
  simp only [ch, Nat.testBit_or, Nat.testBit_xor, Nat.testBit_and, testBit_not h]
  cases e.testBit i <;> cases f.testBit i <;> cases g.testBit i <;> cases decide (i < 32) <;> rfl
theorem ch_xor {e : Nat} (h : e < M) : e ^^^ 4294967295 = 4294967295 - e := by
  apply Nat.eq_of_testBit_eq
  intro i
  rw [testBit_not h, Nat.testBit_xor]
  have h1 : Nat.testBit 4294967295 i = decide (i < 32) := by
    have : (4294967295 : Nat) = 2 ^ 32 - 1 := rfl
    rw [this, Nat.testBit_two_pow_sub_one]
  rw [h1]
  by_cases hi : i < 32
  · simp [hi]
  · have : e.testBit i = false := Nat.testBit_lt_two_pow (Nat.lt_of_lt_of_le h (by show 2 ^ 32 ≤ 2 ^ i; exact Nat.pow_le_pow_right (by decide) (by omega)))
    simp [hi, this]
theorem maj_or {a b c : Nat} : (a &&& b) ||| (a &&& c) ||| (b &&& c) = maj a b c := by
  apply Nat.eq_of_testBit_eq
  intro i
  simp only [maj, Nat.testBit_or, Nat.testBit_xor, Nat.testBit_and]
  cases a.testBit i <;> cases b.testBit i <;> cases c.testBit i <;> rfl

/-- The constants of the rounds. -/
def ks : List Nat := [
  1116352408, 1899447441, 3049323471, 3921009573, 961987163, 1508970993, 2453635748, 2870763221,
  3624381080, 310598401, 607225278, 1426881987, 1925078388, 2162078206, 2614888103, 3248222580,
  3835390401, 4022224774, 264347078, 604807628, 770255983, 1249150122, 1555081692, 1996064986,
  2554220882, 2821834349, 2952996808, 3210313671, 3336571891, 3584528711, 113926993, 338241895,
  666307205, 773529912, 1294757372, 1396182291, 1695183700, 1986661051, 2177026350, 2456956037,
  2730485921, 2820302411, 3259730800, 3345764771, 3516065817, 3600352804, 4094571909, 275423344,
  430227734, 506948616, 659060556, 883997877, 958139571, 1322822218, 1537002063, 1747873779,
  1955562222, 2024104815, 2227730452, 2361852424, 2428436474, 2756734187, 3204031479, 3329325298]
def h0 : List Nat := [1779033703, 3144134277, 1013904242, 2773480762, 1359893119, 2600822924, 528734635, 1541459225]

/-- Word i of a block of bytes. -/
def word (b : List UInt8) (i : Nat) : Nat := (b.getD (4 * i) 0).toNat * 16777216 + (b.getD (4 * i + 1) 0).toNat * 65536 + (b.getD (4 * i + 2) 0).toNat * 256 + (b.getD (4 * i + 3) 0).toNat
theorem word_lt (b : List UInt8) (i : Nat) : word b i < M := by
  have h1 := (b.getD (4 * i) 0).toNat_lt
  have h2 := (b.getD (4 * i + 1) 0).toNat_lt
  have h3 := (b.getD (4 * i + 2) 0).toNat_lt
  have h4 := (b.getD (4 * i + 3) 0).toNat_lt
  unfold word M; omega
/-- The first n words, the later ones out of those ahead of them. -/
def words (b : List UInt8) : Nat → List Nat
  | 0 => []
  | n + 1 =>
    let w := words b n
    w ++ [if n < 16 then word b n else (w.getD (n - 16) 0 + sg0 (w.getD (n - 15) 0) + w.getD (n - 7) 0 + sg1 (w.getD (n - 2) 0)) % M]
@[simp] theorem words_length (b : List UInt8) (n : Nat) : (words b n).length = n := by
  induction n with
  | zero => rfl
  | succ n ih => simp [words, ih]
theorem words_lt (b : List UInt8) (n : Nat) : ∀ x ∈ words b n, x < M := by
  induction n with
  | zero => simp [words]
  | succ n ih =>
    intro x hx
    simp only [words, List.mem_append, List.mem_singleton] at hx
    rcases hx with hx | rfl
    · exact ih x hx
    · split
      · exact word_lt b n
      · exact Nat.mod_lt _ (by decide)
theorem getD_lt {l : List Nat} (h : ∀ x ∈ l, x < M) (i : Nat) : l.getD i 0 < M := by
  rw [List.getD_eq_getElem?_getD]
  cases hx : l[i]? with
  | none => decide
  | some x => exact h x (List.mem_of_getElem? hx)

/-- A state: eight words. -/
structure St where
  a : Nat
  b : Nat
  c : Nat
  d : Nat
  e : Nat
  f : Nat
  g : Nat
  h : Nat
def St.list (s : St) : List Nat := [s.a, s.b, s.c, s.d, s.e, s.f, s.g, s.h]
structure St.Ok (s : St) : Prop where
  a : s.a < M
  b : s.b < M
  c : s.c < M
  d : s.d < M
  e : s.e < M
  f : s.f < M
  g : s.g < M
  h : s.h < M
def tt (s : St) (k w : Nat) : Nat := (s.h + bs1 s.e + ch s.e s.f s.g + k + w) % M
def uu (s : St) : Nat := (bs0 s.a + maj s.a s.b s.c) % M
def step (s : St) (k w : Nat) : St := ⟨(tt s k w + uu s) % M, s.a, s.b, s.c, (s.d + tt s k w) % M, s.e, s.f, s.g⟩
theorem step_ok {s : St} (h : s.Ok) (k w : Nat) : (step s k w).Ok :=
  ⟨Nat.mod_lt _ (by decide), h.a, h.b, h.c, Nat.mod_lt _ (by decide), h.e, h.f, h.g⟩
/-- n rounds. -/
def rounds (w : List Nat) (s : St) : Nat → St
  | 0 => s
  | n + 1 => step (rounds w s n) (ks.getD n 0) (w.getD n 0)
theorem rounds_ok (w : List Nat) {s : St} (h : s.Ok) (n : Nat) : (rounds w s n).Ok := by
  induction n with
  | zero => exact h
  | succ n ih => exact step_ok ih _ _
def add (s t : St) : St := ⟨(s.a + t.a) % M, (s.b + t.b) % M, (s.c + t.c) % M, (s.d + t.d) % M, (s.e + t.e) % M, (s.f + t.f) % M, (s.g + t.g) % M, (s.h + t.h) % M⟩
theorem add_ok (s t : St) : (add s t).Ok := ⟨Nat.mod_lt _ (by decide), Nat.mod_lt _ (by decide), Nat.mod_lt _ (by decide), Nat.mod_lt _ (by decide), Nat.mod_lt _ (by decide), Nat.mod_lt _ (by decide), Nat.mod_lt _ (by decide), Nat.mod_lt _ (by decide)⟩
/-- What a block makes of a state. -/
def comp (s : St) (b : List UInt8) : St := add s (rounds (words b 64) s 64)
theorem comp_ok (s : St) (b : List UInt8) : (comp s b).Ok := add_ok _ _
def st0 : St := ⟨1779033703, 3144134277, 1013904242, 2773480762, 1359893119, 2600822924, 528734635, 1541459225⟩
theorem st0_ok : st0.Ok := by constructor <;> decide
/-- All blocks of some bytes. -/
def blocks (s : St) (b : List UInt8) : Nat → St
  | 0 => s
  | n + 1 => blocks (comp s (b.take 64)) (b.drop 64) n
theorem blocks_ok {s : St} (h : s.Ok) (b : List UInt8) (n : Nat) : (blocks s b n).Ok := by
  induction n generalizing s b with
  | zero => exact h
  | succ n ih => exact ih (comp_ok _ _) _
/-- How many zeros: till there are 56 bytes behind whole blocks. -/
def zeros (n : Nat) : Nat := (119 - n % 64) % 64
def be8 (n : Nat) : List UInt8 := [UInt8.ofNat (n / 2 ^ 56), UInt8.ofNat (n / 2 ^ 48), UInt8.ofNat (n / 2 ^ 40), UInt8.ofNat (n / 2 ^ 32), UInt8.ofNat (n / 2 ^ 24), UInt8.ofNat (n / 2 ^ 16), UInt8.ofNat (n / 2 ^ 8), UInt8.ofNat n]
def padded (b : List UInt8) : List UInt8 := b ++ 128 :: List.replicate (zeros b.length) 0 ++ be8 (b.length * 8)
theorem padded_length (b : List UInt8) : (padded b).length % 64 = 0 ∧ (padded b).length = b.length + 9 + zeros b.length := by
  unfold padded be8 zeros
  simp only [List.length_append, List.length_cons, List.length_replicate, List.length_nil]
  omega
def be4 (n : Nat) : List UInt8 := [UInt8.ofNat (n / 16777216), UInt8.ofNat (n / 65536), UInt8.ofNat (n / 256), UInt8.ofNat n]
@[simp] theorem be4_length (n : Nat) : (be4 n).length = 4 := rfl
def out (s : St) : List UInt8 := be4 s.a ++ be4 s.b ++ be4 s.c ++ be4 s.d ++ be4 s.e ++ be4 s.f ++ be4 s.g ++ be4 s.h
@[simp] theorem out_length (s : St) : (out s).length = 32 := rfl
/-- The sum of bytes. -/
def sum (b : List UInt8) : List UInt8 := out (blocks st0 (padded b) ((padded b).length / 64))
@[simp] theorem sum_length (b : List UInt8) : (sum b).length = 32 := out_length _
/-- What is summed of parts under a tag. -/
def flat : List (List UInt8) → List UInt8
  | [] => []
  | p :: ps => be4 p.length ++ p ++ flat ps
theorem flat_snoc (l : List (List UInt8)) (p : List UInt8) : flat (l ++ [p]) = flat l ++ be4 p.length ++ p := by
  induction l with
  | nil => simp [flat]
  | cons q l ih => simp [flat, ih]
theorem flat_take (l : List (List UInt8)) (k : Nat) (h : k < l.length) : flat (l.take (k + 1)) = flat (l.take k) ++ be4 l[k].length ++ l[k] := by
  rw [← List.take_append_getElem h, flat_snoc]
theorem flat_le (l : List (List UInt8)) (k : Nat) : (flat (l.take k)).length ≤ (flat l).length := by
  induction l generalizing k with
  | nil => simp
  | cons q l ih =>
    cases k with
    | zero => simp [flat]
    | succ k => simp only [List.take_succ_cons, flat, List.length_append]; have := ih k; omega
def join (tag : UInt8) (ps : List (List UInt8)) : List UInt8 := sum (tag :: flat ps)
@[simp] theorem join_length (tag : UInt8) (ps : List (List UInt8)) : (join tag ps).length = 32 := sum_length _

/-- A number of Go's, named as a natural one. -/
theorem name_nat {x : Int} {n : Nat} (h : x = (n : Int)) (hl : n < M) : ∃ z : Nat, x = (z : Int) ∧ z = n ∧ z < 4294967296 := ⟨n, h, rfl, hl⟩
theorem mod_nat (a b : Nat) : ((a : Int) + (b : Int)) % 4294967296 = (((a + b) % M : Nat) : Int) := by simp only [M]; omega
theorem mod_lt' (a : Nat) : a % M < M := Nat.mod_lt _ (by decide)

end Go.Bz.Sha
