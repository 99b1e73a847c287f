/- Terms, banks of them, and what can be said, in plain Lean. -/
namespace Go.Bz.Term
/-- A node. -/
structure Nd where
  k : Int
  a : Int
  b : Int
deriving DecidableEq
def zN : Nd := ⟨0, 0, 0⟩
def okN (i : Nat) (n : Nd) : Prop := (n.k = 1 ∧ 0 ≤ n.a ∧ n.a ≤ 1048576 ∧ n.b = 0) ∨ (n.k = 3 ∧ 0 ≤ n.a ∧ n.a < i ∧ n.b = 0) ∨ ((n.k = 2 ∨ n.k = 4 ∨ n.k = 5) ∧ 0 ≤ n.a ∧ n.a < i ∧ 0 ≤ n.b ∧ n.b < i)
instance (i : Nat) (n : Nd) : Decidable (okN i n) := by unfold okN; infer_instance
def okT (t : List Nd) : Prop := 1 ≤ t.length ∧ t.length ≤ 64 ∧ ∀ i, i < t.length → okN i (t.getD i zN)
instance (t : List Nd) : Decidable (okT t) := by unfold okT; infer_instance
/-- A node's number in a bank. -/
def oneN (ns : List Nd) (n : Nd) : List Nd × Nat := if n ∈ ns then (ns, ns.idxOf n) else (ns ++ [n], ns.length)
/-- A node whose parts go by their numbers. -/
def subN (ids : List Nat) (n : Nd) : Nd := if n.k = 1 then n else if n.k = 3 then ⟨n.k, (ids.getD n.a.toNat 0 : Nat), n.b⟩ else ⟨n.k, (ids.getD n.a.toNat 0 : Nat), (ids.getD n.b.toNat 0 : Nat)⟩
def into (ns : List Nd) (ids : List Nat) : List Nd → List Nd × List Nat
  | [] => (ns, ids)
  | n :: t => into (oneN ns (subN ids n)).1 (ids ++ [(oneN ns (subN ids n)).2]) t
theorem into_app (t u : List Nd) : ∀ (ns : List Nd) (ids : List Nat), into ns ids (t ++ u) = into (into ns ids t).1 (into ns ids t).2 u := by
  induction t with
  | nil => intro ns ids; rfl
  | cons n t ih => intro ns ids; exact ih _ _
theorem into_len (t : List Nd) : ∀ (ns : List Nd) (ids : List Nat), (into ns ids t).2.length = ids.length + t.length := by
  induction t with
  | nil => intro ns ids; rfl
  | cons n t ih => intro ns ids; rw [into, ih]; simp; omega
theorem into_next {t : List Nd} {i : Nat} (h : i < t.length) (ns : List Nd) : into ns [] (t.take (i + 1)) = ((oneN (into ns [] (t.take i)).1 (subN (into ns [] (t.take i)).2 (t.getD i zN))).1, (into ns [] (t.take i)).2 ++ [(oneN (into ns [] (t.take i)).1 (subN (into ns [] (t.take i)).2 (t.getD i zN))).2]) := by
  rw [List.take_succ_eq_append_getElem h, into_app]
  rw [show t[i] = t.getD i zN by simp [List.getD_eq_getElem?_getD, h]]
  rfl
/-- A number for a term. -/
def idT (ns : List Nd) (t : List Nd) : Nat := (into ns [] t).2.getD (t.length - 1) 0
abbrev bankT (ns t : List Nd) : List Nd := (into ns [] t).1
/-- A bank's nodes name nodes ahead of them. -/
def okR (i : Nat) (n : Nd) : Prop := n.k = 1 ∨ (n.k = 3 ∧ 0 ≤ n.a ∧ n.a < i) ∨ ((n.k = 2 ∨ n.k = 4 ∨ n.k = 5) ∧ 0 ≤ n.a ∧ n.a < i ∧ 0 ≤ n.b ∧ n.b < i)
def okB (ns : List Nd) : Prop := ∀ i, i < ns.length → okR i (ns.getD i zN)
theorem okR.mono {i j : Nat} {n : Nd} (h : okR i n) (hij : i ≤ j) : okR j n := by unfold okR at *; omega
theorem getD_app_l {α : Type} {l r : List α} {i : Nat} {d : α} (h : i < l.length) : (l ++ r).getD i d = l.getD i d := by simp [List.getD_eq_getElem?_getD, List.getElem?_append_left h]
theorem getD_app_1 {α : Type} {l : List α} {x d : α} : (l ++ [x]).getD l.length d = x := by simp [List.getD_eq_getElem?_getD]
theorem okB_nil : okB [] := fun i h => by simp at h
theorem okB_add {ns : List Nd} {n : Nd} (h : okB ns) (hn : okR ns.length n) : okB (ns ++ [n]) := fun i hi => by
  simp at hi
  by_cases h1 : i < ns.length
  · rw [getD_app_l h1]; exact h i h1
  · obtain rfl : i = ns.length := by omega
    rw [getD_app_1]; exact hn
/-- One bank goes on in another. -/
def Pre (ns ns' : List Nd) : Prop := ∃ r, ns' = ns ++ r
theorem Pre.refl (ns : List Nd) : Pre ns ns := ⟨[], by simp⟩
theorem Pre.trans {a b c : List Nd} (h : Pre a b) (k : Pre b c) : Pre a c := by
  obtain ⟨r, rfl⟩ := h; obtain ⟨s, rfl⟩ := k; exact ⟨r ++ s, by simp⟩
theorem Pre.len {a b : List Nd} (h : Pre a b) : a.length ≤ b.length := by obtain ⟨r, rfl⟩ := h; simp
theorem Pre.get {a b : List Nd} (h : Pre a b) {i : Nat} (hi : i < a.length) : b.getD i zN = a.getD i zN := by obtain ⟨r, rfl⟩ := h; exact getD_app_l hi
theorem Pre.mem {a b : List Nd} (h : Pre a b) {n : Nd} (hn : n ∈ a) : n ∈ b ∧ b.idxOf n = a.idxOf n := by
  obtain ⟨r, rfl⟩ := h
  exact ⟨by simp [hn], by rw [List.idxOf_append, if_pos hn]⟩
theorem oneN_pre (ns : List Nd) (n : Nd) : Pre ns (oneN ns n).1 := by
  unfold oneN; split
  · exact Pre.refl _
  · exact ⟨[n], rfl⟩
theorem oneN_lt (ns : List Nd) (n : Nd) : (oneN ns n).2 < (oneN ns n).1.length := by
  unfold oneN; split
  · rename_i h; exact List.idxOf_lt_length_of_mem h
  · simp
theorem oneN_at (ns : List Nd) (n : Nd) : (oneN ns n).1.getD (oneN ns n).2 zN = n := by
  unfold oneN; split
  · rename_i h
    have h1 := List.idxOf_lt_length_of_mem h
    simp [List.getD_eq_getElem?_getD, h1]
  · exact getD_app_1
theorem oneN_mem (ns : List Nd) (n : Nd) : n ∈ (oneN ns n).1 ∧ (oneN ns n).1.idxOf n = (oneN ns n).2 := by
  unfold oneN; split
  · rename_i h; exact ⟨h, rfl⟩
  · rename_i h; exact ⟨by simp, by rw [List.idxOf_append, if_neg h]; simp⟩
theorem oneN_old {ns : List Nd} {n : Nd} (h : n ∈ ns) : oneN ns n = (ns, ns.idxOf n) := by unfold oneN; rw [if_pos h]
theorem into_pre (t : List Nd) : ∀ (ns : List Nd) (ids : List Nat), Pre ns (into ns ids t).1 := by
  induction t with
  | nil => intro ns ids; exact Pre.refl _
  | cons n t ih => intro ns ids; exact (oneN_pre ns _).trans (ih _ _)
theorem into_ids (t : List Nd) : ∀ (ns : List Nd) (ids : List Nat), ∃ r, (into ns ids t).2 = ids ++ r := by
  induction t with
  | nil => intro ns ids; exact ⟨[], by simp [into]⟩
  | cons n t ih => intro ns ids; obtain ⟨r, hr⟩ := ih (oneN ns (subN ids n)).1 (ids ++ [(oneN ns (subN ids n)).2]); exact ⟨_, by rw [into, hr, List.append_assoc]⟩
/-- What holds on the way: the numbers are places of the bank. -/
structure Way (ns : List Nd) (ids : List Nat) (i : Nat) : Prop where
  len : ids.length = i
  lt : ∀ x ∈ ids, x < ns.length
  ok : okB ns
theorem Way.get {ns : List Nd} {ids : List Nat} {i j : Nat} (h : Way ns ids i) (hj : j < i) : ids.getD j 0 < ns.length := h.lt _ (by
  rw [List.getD_eq_getElem?_getD, List.getElem?_eq_getElem (by rw [h.len]; exact hj)]; exact List.getElem_mem _)
theorem subN_ok {ns : List Nd} {ids : List Nat} {i : Nat} {n : Nd} (h : Way ns ids i) (hn : okN i n) : okR ns.length (subN ids n) := by
  unfold subN
  rcases hn with h1 | h1 | h1
  · rw [if_pos h1.1]; exact .inl h1.1
  · have := h.get (j := n.a.toNat) (by omega)
    rw [if_neg (by omega), if_pos h1.1]
    exact .inr (.inl ⟨h1.1, by simp only; omega, by simp only; omega⟩)
  · have h2 := h.get (j := n.a.toNat) (by omega)
    have h3 := h.get (j := n.b.toNat) (by omega)
    rw [if_neg (by omega), if_neg (by omega)]
    exact .inr (.inr ⟨h1.1, by simp only; omega, by simp only; omega, by simp only; omega, by simp only; omega⟩)
theorem Way.next {ns : List Nd} {ids : List Nat} {i : Nat} {n : Nd} (h : Way ns ids i) (hn : okN i n) : Way (oneN ns (subN ids n)).1 (ids ++ [(oneN ns (subN ids n)).2]) (i + 1) := by
  have hp := oneN_pre ns (subN ids n)
  refine ⟨by simp [h.len], fun x hx => ?_, ?_⟩
  · rcases List.mem_append.1 hx with hx | hx
    · exact Nat.lt_of_lt_of_le (h.lt x hx) hp.len
    · obtain rfl : x = (oneN ns (subN ids n)).2 := by simpa using hx
      exact oneN_lt _ _
  · unfold oneN; split
    · exact h.ok
    · exact okB_add h.ok (subN_ok h hn)
theorem Way.nil {ns : List Nd} (h : okB ns) : Way ns [] 0 := ⟨rfl, fun _ h => by simp at h, h⟩
theorem way_take {ns t : List Nd} (hb : okB ns) (ht : okT t) : ∀ i, i ≤ t.length → Way (into ns [] (t.take i)).1 (into ns [] (t.take i)).2 i := by
  intro i
  induction i with
  | zero => intro _; simpa [into] using Way.nil hb
  | succ i ih =>
    intro h
    rw [into_next (by omega)]
    exact (ih (by omega)).next (ht.2.2 i (by omega))
theorem way_all {ns t : List Nd} (hb : okB ns) (ht : okT t) : Way (bankT ns t) (into ns [] t).2 t.length := by
  have := way_take hb ht t.length (Nat.le_refl _)
  rwa [List.take_length] at this
theorem idT_lt {ns t : List Nd} (hb : okB ns) (ht : okT t) : idT ns t < (bankT ns t).length := (way_all hb ht).get (by have := ht.1; omega)
/-- Once more: nothing is new, and the numbers are the same. -/
theorem into_again (t : List Nd) : ∀ (ns ns2 : List Nd) (ids : List Nat), Pre (into ns ids t).1 ns2 → into ns2 ids t = (ns2, (into ns ids t).2) := by
  induction t with
  | nil => intro ns ns2 ids _; rfl
  | cons n t ih =>
    intro ns ns2 ids h
    have h1 := oneN_mem ns (subN ids n)
    have h2 : Pre (oneN ns (subN ids n)).1 ns2 := (into_pre t _ _).trans h
    have h3 := h2.mem h1.1
    have e : oneN ns2 (subN ids n) = (ns2, (oneN ns (subN ids n)).2) := by rw [oneN_old h3.1, h3.2, h1.2]
    rw [into, e]
    exact ih _ _ _ h
/-- A term behind another one. -/
def shN (m : Nat) (n : Nd) : Nd := if n.k = 1 then n else if n.k = 3 then ⟨n.k, n.a + m, n.b⟩ else ⟨n.k, n.a + m, n.b + m⟩
theorem getD_app_r {α : Type} {l r : List α} {i : Nat} {d : α} : (l ++ r).getD (l.length + i) d = r.getD i d := by simp [List.getD_eq_getElem?_getD, List.getElem?_append_right]
theorem subN_sh {pre ids : List Nat} {i : Nat} {n : Nd} (hn : okN i n) : subN (pre ++ ids) (shN pre.length n) = subN ids n := by
  rcases hn with h1 | h1 | h1
  · have e : shN pre.length n = n := by unfold shN; rw [if_pos h1.1]
    rw [e]; unfold subN; rw [if_pos h1.1, if_pos h1.1]
  · have hk : ¬ n.k = 1 := by omega
    have e : shN pre.length n = ⟨n.k, n.a + pre.length, n.b⟩ := by unfold shN; rw [if_neg hk, if_pos h1.1]
    have e1 : (n.a + (pre.length : Int)).toNat = pre.length + n.a.toNat := by omega
    rw [e]; unfold subN
    simp only [hk, h1.1, if_true, if_false, e1, getD_app_r]
    simp
  · have hk : ¬ n.k = 1 := by omega
    have hk3 : ¬ n.k = 3 := by omega
    have e : shN pre.length n = ⟨n.k, n.a + pre.length, n.b + pre.length⟩ := by unfold shN; rw [if_neg hk, if_neg hk3]
    have e1 : (n.a + (pre.length : Int)).toNat = pre.length + n.a.toNat := by omega
    have e2 : (n.b + (pre.length : Int)).toNat = pre.length + n.b.toNat := by omega
    rw [e]; unfold subN
    simp only [hk, hk3, if_false, e1, e2, getD_app_r]
theorem into_sh {t : List Nd} {pre : List Nat} {ns : List Nd} (ht : okT t) : ∀ i, i ≤ t.length → into ns pre ((t.take i).map (shN pre.length)) = ((into ns [] (t.take i)).1, pre ++ (into ns [] (t.take i)).2) := by
  intro i
  induction i with
  | zero => intro _; simp [into]
  | succ i ih =>
    intro h
    have e : (t.take (i + 1)).map (shN pre.length) = (t.take i).map (shN pre.length) ++ [shN pre.length (t.getD i zN)] := by
      rw [List.take_succ_eq_append_getElem (by omega), List.map_append]
      simp [List.getD_eq_getElem?_getD, show i < t.length by omega]
    rw [e, into_app, ih (by omega), into_next (by omega)]
    simp only [into]
    rw [subN_sh (ht.2.2 i (by omega))]
    simp
/-- Two terms joined. -/
def joinT (k : Int) (a b : List Nd) : List Nd := if k = 3 then a ++ [⟨3, (a.length : Int) - 1, 0⟩] else a ++ b.map (shN a.length) ++ [⟨k, (a.length : Int) - 1, (a.length : Int) + (b.length : Int) - 1⟩]
theorem okN_sh {i m : Nat} {n : Nd} (h : okN i n) : okN (m + i) (shN m n) := by
  unfold shN
  rcases h with h1 | h1 | h1
  · rw [if_pos h1.1]; exact .inl h1
  · rw [if_neg (by omega), if_pos h1.1]; exact .inr (.inl ⟨h1.1, by simp only; omega, by simp only; omega, h1.2.2.2⟩)
  · rw [if_neg (by omega), if_neg (by omega)]; exact .inr (.inr ⟨h1.1, by simp only; omega, by simp only; omega, by simp only; omega, by simp only; omega⟩)
theorem joinT_len3 {a b : List Nd} : (joinT 3 a b).length = a.length + 1 := by simp [joinT]
theorem joinT_len {k : Int} {a b : List Nd} (h : ¬ k = 3) : (joinT k a b).length = a.length + b.length + 1 := by simp [joinT, h]; omega
theorem okT_join {k : Int} {a b : List Nd} (hk : 2 ≤ k ∧ k ≤ 5) (ha : okT a) (hb : okT b) (h1 : a.length ≤ 20) (h2 : b.length ≤ 20) : okT (joinT k a b) := by
  have ha1 := ha.1
  have hb1 := hb.1
  by_cases h3 : k = 3
  · subst h3
    refine ⟨by rw [joinT_len3]; omega, by rw [joinT_len3]; omega, fun i hi => ?_⟩
    rw [joinT_len3] at hi
    rw [joinT, if_pos rfl]
    by_cases hia : i < a.length
    · rw [getD_app_l hia]; exact ha.2.2 i hia
    · obtain rfl : i = a.length := by omega
      rw [getD_app_1]; exact .inr (.inl ⟨rfl, by simp only; omega, by simp only; omega, rfl⟩)
  · refine ⟨by rw [joinT_len h3]; omega, by rw [joinT_len h3]; omega, fun i hi => ?_⟩
    rw [joinT_len h3] at hi
    rw [joinT, if_neg h3]
    by_cases hia : i < a.length
    · rw [getD_app_l (by simp; omega), getD_app_l hia]; exact ha.2.2 i hia
    · by_cases hib : i < a.length + b.length
      · rw [getD_app_l (by simp; omega)]
        obtain ⟨j, rfl⟩ : ∃ j, i = a.length + j := ⟨i - a.length, by omega⟩
        rw [getD_app_r]
        have e : (b.map (shN a.length)).getD j zN = shN a.length (b.getD j zN) := by simp [List.getD_eq_getElem?_getD, show j < b.length by omega]
        rw [e]; exact okN_sh (hb.2.2 j (by omega))
      · obtain rfl : i = (a ++ b.map (shN a.length)).length := by simp; omega
        rw [getD_app_1]
        exact .inr (.inr ⟨by simp only; omega, by simp only; omega, by simp; omega, by simp only; omega, by simp; omega⟩)
/-- The number of what is joined. -/
theorem into_join3 {ns a b : List Nd} (ha : okT a) : into ns [] (joinT 3 a b) = ((oneN (bankT ns a) ⟨3, (idT ns a : Nat), 0⟩).1, (into ns [] a).2 ++ [(oneN (bankT ns a) ⟨3, (idT ns a : Nat), 0⟩).2]) := by
  have h1 := ha.1
  rw [joinT, if_pos rfl, into_app]
  have e : subN (into ns [] a).2 ⟨3, (a.length : Int) - 1, 0⟩ = ⟨3, (idT ns a : Nat), 0⟩ := by
    unfold subN idT
    rw [if_neg (show ¬ (3 : Int) = 1 by decide), if_pos rfl]
    rw [show ((a.length : Int) - 1).toNat = a.length - 1 by omega]
  simp only [into, e]
theorem into_join {k : Int} {ns a b : List Nd} (hk : ¬ k = 3) (hk1 : ¬ k = 1) (ha : okT a) (hb : okT b) : into ns [] (joinT k a b) = ((oneN (bankT (bankT ns a) b) ⟨k, (idT ns a : Nat), (idT (bankT ns a) b : Nat)⟩).1, (into ns [] a).2 ++ (into (bankT ns a) [] b).2 ++ [(oneN (bankT (bankT ns a) b) ⟨k, (idT ns a : Nat), (idT (bankT ns a) b : Nat)⟩).2]) := by
  have h1 := ha.1
  have h2 := hb.1
  have hl : (into ns [] a).2.length = a.length := by rw [into_len]; simp
  have hl2 : (into (bankT ns a) [] b).2.length = b.length := by rw [into_len]; simp
  rw [joinT, if_neg hk, into_app, into_app]
  have hs := into_sh (ns := bankT ns a) (pre := (into ns [] a).2) hb b.length (Nat.le_refl _)
  rw [List.take_length, hl] at hs
  rw [hs]
  have e : subN ((into ns [] a).2 ++ (into (bankT ns a) [] b).2) ⟨k, (a.length : Int) - 1, (a.length : Int) + (b.length : Int) - 1⟩ = ⟨k, (idT ns a : Nat), (idT (bankT ns a) b : Nat)⟩ := by
    unfold subN idT
    rw [if_neg hk1, if_neg hk]
    simp only
    rw [show ((a.length : Int) - 1).toNat = a.length - 1 by omega, getD_app_l (by omega)]
    rw [show ((a.length : Int) + (b.length : Int) - 1).toNat = (into ns [] a).2.length + (b.length - 1) by omega, getD_app_r]
  simp only [into, e]
end Go.Bz.Term
