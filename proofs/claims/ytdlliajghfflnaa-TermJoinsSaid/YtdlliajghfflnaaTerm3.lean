/- Terms: what the program's rows of truths come to, in plain Lean. -/
import Derived.Test.YtdlliajghfflnaaTerm2
namespace Go.Bz.Term
def gb (l : List Bool) (i : Nat) : Bool := l.getD i false
theorem gb_set {l : List Bool} {i j : Nat} {b : Bool} (h : i < l.length) : gb (l.set i b) j = if j = i then b else gb l j := by
  unfold gb
  by_cases e : j = i
  · subst e; simp [List.getD_eq_getElem?_getD, h]
  · rw [if_neg e]; simp [List.getD_eq_getElem?_getD, List.getElem?_set_ne (fun h => e h.symm)]
theorem gb_out {l : List Bool} {i : Nat} (h : gb l i = true) : i < l.length := by
  refine Nat.lt_of_not_le fun h1 => ?_
  unfold gb at h
  rw [List.getD_eq_getElem?_getD, List.getElem?_eq_none h1] at h
  simp at h
theorem gb_ext {l m : List Bool} (hl : l.length = m.length) (h : ∀ i, gb l i = true ↔ gb m i = true) : l = m := by
  apply List.ext_getElem hl
  intro i h1 h2
  have h3 := h i
  unfold gb at h3
  simp only [List.getD_eq_getElem?_getD, List.getElem?_eq_getElem h1, List.getElem?_eq_getElem h2, Option.getD_some] at h3
  exact Bool.eq_iff_iff.2 h3
theorem set_id {l : List Bool} {i : Nat} {b : Bool} (h : i < l.length) (e : gb l i = b) : l.set i b = l := by
  subst e
  refine gb_ext (by simp) fun j => ?_
  rw [gb_set h]; split
  · rename_i e; rw [e]
  · exact Iff.rfl
/-- What is made of some, place by place. -/
def mkStep (ns : List Nd) (o : List Bool) (i : Nat) : Bool := gb o i || (if (ns.getD i zN).k = 1 then false else if (ns.getD i zN).k = 3 then gb o (ns.getD i zN).a.toNat else gb o (ns.getD i zN).a.toNat && gb o (ns.getD i zN).b.toNat)
def mkRow (ns : List Nd) (h : List Bool) : Nat → List Bool
  | 0 => h
  | i + 1 => (mkRow ns h i).set i (mkStep ns (mkRow ns h i) i)
theorem mkRow_len (ns : List Nd) (h : List Bool) (i : Nat) : (mkRow ns h i).length = h.length := by
  induction i with
  | zero => rfl
  | succ i ih => rw [mkRow, List.length_set, ih]
theorem mk_none {ns : List Nd} {h : List Bool} {i : Nat} (hi : i < h.length) (hk : gb (mkRow ns h i) i = true ∨ (ns.getD i zN).k = 1) : mkRow ns h (i + 1) = mkRow ns h i := by
  rw [mkRow]
  refine set_id (by rw [mkRow_len]; exact hi) ?_
  unfold mkStep
  rcases hk with hk | hk
  · rw [hk]; rfl
  · rw [if_pos hk, Bool.or_false]
theorem mk_sum {ns : List Nd} {h : List Bool} {i : Nat} (h0 : ¬ gb (mkRow ns h i) i = true) (hk : (ns.getD i zN).k = 3) : mkRow ns h (i + 1) = (mkRow ns h i).set i (gb (mkRow ns h i) (ns.getD i zN).a.toNat) := by
  rw [mkRow]; unfold mkStep
  rw [if_neg (by omega), if_pos hk, Bool.eq_false_iff.2 h0, Bool.false_or]
theorem mk_two {ns : List Nd} {h : List Bool} {i : Nat} (h0 : ¬ gb (mkRow ns h i) i = true) (hk : ¬ (ns.getD i zN).k = 1) (hk3 : ¬ (ns.getD i zN).k = 3) : mkRow ns h (i + 1) = (mkRow ns h i).set i (gb (mkRow ns h i) (ns.getD i zN).a.toNat && gb (mkRow ns h i) (ns.getD i zN).b.toNat) := by
  rw [mkRow]; unfold mkStep
  rw [if_neg hk, if_neg hk3, Bool.eq_false_iff.2 h0, Bool.false_or]
def On (h : List Bool) (i : Nat) : Prop := gb h i = true
theorem mk_row_at {ns : List Nd} (hb : okB ns) {h : List Bool} (hl : h.length = ns.length) : ∀ n, n ≤ ns.length → ∀ j, gb (mkRow ns h n) j = true ↔ if j < n then Mk ns (On h) j else On h j := by
  intro n
  induction n with
  | zero => intro _ j; rw [if_neg (by omega)]; exact Iff.rfl
  | succ n ih =>
    intro hn j
    have ih := ih (by omega)
    rw [mkRow, gb_set (by rw [mkRow_len]; omega)]
    by_cases e : j = n
    · subst e
      rw [if_pos rfl, if_pos (by omega), Mk.iff]
      have h0 := ih j
      rw [if_neg (by omega)] at h0
      unfold mkStep
      by_cases hk : (ns.getD j zN).k = 1
      · rw [if_pos hk, Bool.or_false, h0]
        exact ⟨.inl, fun h => h.elim id fun h => h.elim (fun h => by omega) fun h => absurd hk h.1⟩
      · have hq := hb.parts (by omega) hk
        have ha := ih (ns.getD j zN).a.toNat
        rw [if_pos hq.1] at ha
        rw [if_neg hk]
        by_cases h3 : (ns.getD j zN).k = 3
        · rw [if_pos h3, Bool.or_eq_true, h0, ha]
          exact ⟨fun h => h.elim .inl fun h => .inr (.inl ⟨h3, h⟩), fun h => h.elim .inl fun h => h.elim (fun h => .inr h.2) fun h => absurd h3 h.2.1⟩
        · have hb' := ih (ns.getD j zN).b.toNat
          rw [if_pos (hq.2 h3)] at hb'
          rw [if_neg h3, Bool.or_eq_true, Bool.and_eq_true, h0, ha, hb']
          exact ⟨fun h => h.elim .inl fun h => .inr (.inr ⟨hk, h3, h⟩), fun h => h.elim .inl fun h => h.elim (fun h => absurd h.1 h3) fun h => .inr h.2.2⟩
    · rw [if_neg e, ih j]
      by_cases h1 : j < n
      · rw [if_pos h1, if_pos (by omega)]
      · rw [if_neg h1, if_neg (by omega)]
abbrev mkL (ns : List Nd) (h : List Bool) : List Bool := mkRow ns h ns.length
theorem mk_row {ns : List Nd} (hb : okB ns) {h : List Bool} (hl : h.length = ns.length) {j : Nat} (hj : j < ns.length) : gb (mkL ns h) j = true ↔ Mk ns (On h) j := by
  rw [mk_row_at hb hl _ (Nat.le_refl _), if_pos hj]
/-- One node taken apart. -/
def opStep (ns : List Nd) (h : List Bool) (i : Nat) : List Bool :=
  if gb h i = true then
    if (ns.getD i zN).k = 2 then (h.set (ns.getD i zN).a.toNat true).set (ns.getD i zN).b.toNat true
    else if (ns.getD i zN).k = 4 then h.set (ns.getD i zN).b.toNat true
    else if (ns.getD i zN).k = 5 then (if gb (mkL ns h) (ns.getD i zN).a.toNat = true then h.set (ns.getD i zN).b.toNat true else h)
    else h
  else h
def opTo (ns : List Nd) (h : List Bool) : Nat → List Bool
  | 0 => h
  | i + 1 => opStep ns (opTo ns h i) i
structure Le (h h' : List Bool) : Prop where
  len : h.length = h'.length
  le : ∀ i, On h i → On h' i
theorem Le.refl (h : List Bool) : Le h h := ⟨rfl, fun _ h => h⟩
theorem Le.trans {a b c : List Bool} (h : Le a b) (k : Le b c) : Le a c := ⟨h.len.trans k.len, fun i hi => k.le i (h.le i hi)⟩
theorem Le.eq {a b : List Bool} (h : Le a b) (k : Le b a) : a = b := gb_ext h.len fun i => ⟨h.le i, k.le i⟩
theorem Le.set (h : List Bool) (i : Nat) : Le h (h.set i true) := ⟨by simp, fun j hj => by
  by_cases hi : i < h.length
  · unfold On at *; rw [gb_set hi]; split
    · rfl
    · exact hj
  · rw [List.set_eq_of_length_le (by omega)]; exact hj⟩
theorem opStep_le (ns : List Nd) (h : List Bool) (i : Nat) : Le h (opStep ns h i) := by
  unfold opStep
  repeat' split
  · exact (Le.set _ _).trans (Le.set _ _)
  · exact Le.set _ _
  · exact Le.set _ _
  all_goals exact Le.refl _
theorem opTo_le (ns : List Nd) (h : List Bool) : ∀ (i j : Nat), i ≤ j → Le (opTo ns h i) (opTo ns h j) := by
  intro i j
  induction j with
  | zero => intro hi; obtain rfl : i = 0 := by omega
            exact Le.refl _
  | succ j ih =>
    intro hi
    by_cases e : i = j + 1
    · subst e; exact Le.refl _
    · exact (ih (by omega)).trans (opStep_le ns _ j)
theorem opTo_len (ns : List Nd) (h : List Bool) (i : Nat) : (opTo ns h i).length = h.length := (opTo_le ns h 0 i (Nat.zero_le _)).len.symm
theorem on_set {h : List Bool} {i j : Nat} (hs : On (h.set i true) j) : On h j ∨ j = i := by
  by_cases hi : i < h.length
  · unfold On at *; rw [gb_set hi] at hs
    by_cases e : j = i
    · exact .inr e
    · rw [if_neg e] at hs; exact .inl hs
  · rw [List.set_eq_of_length_le (by omega)] at hs; exact .inl hs
theorem opStep_sound {ns : List Nd} {kn : List Nat} (hb : okB ns) {h : List Bool} (hl : h.length = ns.length) {i : Nat} (hi : i < ns.length) (hs : ∀ j, On h j → OpT ns kn j) : ∀ j, On (opStep ns h i) j → OpT ns kn j := by
  intro j hj
  have ho := OpT.shut ns kn
  unfold opStep at hj
  split at hj
  · rename_i hon
    split at hj
    · rename_i hk
      rcases on_set hj with hj | rfl
      · rcases on_set hj with hj | rfl
        · exact hs j hj
        · exact ho.left i hi (hs i hon) hk
      · exact ho.right i hi (hs i hon) (.inl hk)
    · split at hj
      · rename_i hk
        rcases on_set hj with hj | rfl
        · exact hs j hj
        · exact ho.right i hi (hs i hon) (.inr hk)
      · split at hj
        · rename_i hk
          split at hj
          · rename_i hm
            rcases on_set hj with hj | rfl
            · exact hs j hj
            · refine ho.cover i hi (hs i hon) hk (((mk_row hb hl ?_).1 hm).mono hs)
              have := (hb.parts hi (by omega)).1
              omega
          · exact hs j hj
        · exact hs j hj
  · exact hs j hj
theorem opTo_sound {ns : List Nd} {kn : List Nat} (hb : okB ns) {h : List Bool} (hl : h.length = ns.length) (hs : ∀ j, On h j → OpT ns kn j) : ∀ i, i ≤ ns.length → ∀ j, On (opTo ns h i) j → OpT ns kn j := by
  intro i
  induction i with
  | zero => intro _; exact hs
  | succ i ih => intro hi; exact opStep_sound hb (by rw [opTo_len]; exact hl) (by omega) (ih (by omega))
theorem opTo_fix {ns : List Nd} {h : List Bool} (he : opTo ns h ns.length = h) : ∀ i, i < ns.length → opStep ns h i = h := by
  have key : ∀ i, i ≤ ns.length → opTo ns h i = h := fun i hi => by
    refine Le.eq ?_ (opTo_le ns h 0 i (Nat.zero_le _))
    have := opTo_le ns h i ns.length hi
    rwa [he] at this
  intro i hi
  have h1 := key (i + 1) (by omega)
  rw [opTo, key i (by omega)] at h1
  exact h1
theorem fix_shut {ns : List Nd} {kn : List Nat} (hb : okB ns) {h : List Bool} (hl : h.length = ns.length) (hk : ∀ k ∈ kn, On h k) (he : opTo ns h ns.length = h) : Shut ns kn (On h) := by
  have hf := opTo_fix he
  refine ⟨hk, fun i hi hon h2 => ?_, fun i hi hon h2 => ?_, fun i hi hon h2 hm => ?_⟩
  · have hon' : gb h i = true := hon
    have h1 := hf i hi
    have hq := (hb.parts hi (by omega)).1
    unfold opStep at h1
    rw [if_pos hon', if_pos h2] at h1
    rw [← h1]
    exact (Le.set _ _).le _ (by unfold On; rw [gb_set (by omega), if_pos rfl])
  · have hon' : gb h i = true := hon
    have h1 := hf i hi
    have hq := (hb.parts hi (by omega)).2 (by omega)
    unfold opStep at h1
    rw [if_pos hon'] at h1
    rcases h2 with h2 | h2
    · rw [if_pos h2] at h1
      rw [← h1]; unfold On; rw [gb_set (by rw [List.length_set]; omega), if_pos rfl]
    · rw [if_neg (by omega), if_pos h2] at h1
      rw [← h1]; unfold On; rw [gb_set (by omega), if_pos rfl]
  · have hon' : gb h i = true := hon
    have h1 := hf i hi
    have hq := hb.parts hi (by omega)
    have hqb := hq.2 (by omega)
    unfold opStep at h1
    rw [if_pos hon', if_neg (by omega), if_neg (by omega), if_pos h2, if_pos ((mk_row hb hl (by omega)).2 hm)] at h1
    rw [← h1]; unfold On; rw [gb_set (by omega), if_pos rfl]
/-- What is opened, as a row. -/
noncomputable def opL (ns : List Nd) (kn : List Nat) : List Bool := (List.range ns.length).map fun i => @decide (OpT ns kn i) (Classical.propDecidable _)
theorem opL_len (ns : List Nd) (kn : List Nat) : (opL ns kn).length = ns.length := by simp [opL]
theorem opL_on {ns : List Nd} {kn : List Nat} (hok : Ok ns kn) (i : Nat) : On (opL ns kn) i ↔ OpT ns kn i := by
  unfold On
  constructor
  · intro h
    have hi := gb_out h
    rw [opL_len] at hi
    unfold gb opL at h
    simpa [List.getD_eq_getElem?_getD, hi] using h
  · intro h
    have hi := h.lt hok.bank hok.known
    unfold gb opL
    simpa [List.getD_eq_getElem?_getD, hi] using h
theorem op_done {ns : List Nd} {kn : List Nat} (hok : Ok ns kn) {h : List Bool} (hl : h.length = ns.length) (hk : ∀ k ∈ kn, On h k) (hs : ∀ j, On h j → OpT ns kn j) (he : opTo ns h ns.length = h) : h = opL ns kn :=
  gb_ext (hl.trans (opL_len _ _).symm) fun i => ⟨fun h1 => (opL_on hok i).2 (hs i h1), fun h1 => (opL_on hok i).1 h1 _ (fix_shut hok.bank hl hk he)⟩
/-- How many are not there. -/
def offs (h : List Bool) : Nat := h.countP (fun b => !b)
theorem offs_lt {h h' : List Bool} (hle : Le h h') (hn : ¬ h' = h) : offs h' < offs h := by
  have key : ∀ (h h' : List Bool), h.length = h'.length → (∀ i, On h i → On h' i) → offs h' ≤ offs h ∧ (offs h' = offs h → h' = h) := by
    intro h
    induction h with
    | nil => intro h' hl _; cases h' with
      | nil => exact ⟨Nat.le_refl _, fun _ => rfl⟩
      | cons _ _ => simp at hl
    | cons a h ih =>
      intro h' hl hi
      cases h' with
      | nil => simp at hl
      | cons b h' =>
        have h1 := ih h' (by simpa using hl) (fun i hx => by have := hi (i + 1); unfold On gb at *; simpa using this (by simpa using hx))
        have h2 : a = true → b = true := fun e => by have := hi 0; unfold On gb at this; simpa [e] using this
        unfold offs at *
        cases a <;> cases b <;> simp_all
        omega
  have := key h h' hle.len hle.le
  rcases Nat.lt_or_ge (offs h') (offs h) with h1 | h1
  · exact h1
  · exact absurd (this.2 (by omega)) hn
/-- More than there was. -/
theorem more_set {h0 h : List Bool} {i : Nat} (hle : Le h0 h) (hi : i < h.length) : (¬ h.set i true = h0) ↔ (¬ gb h i = true ∨ ¬ h = h0) := by
  by_cases hg : gb h i = true
  · rw [set_id hi hg]; exact ⟨.inr, fun h => h.elim (fun h => absurd hg h) id⟩
  · refine ⟨fun _ => .inl hg, fun _ e => hg ?_⟩
    have h1 : On h0 i := by unfold On; rw [← e, gb_set hi, if_pos rfl]
    exact hle.le i h1
end Go.Bz.Term
