/- Terms: what can be made, what is known, and the chapter's laws in plain Lean. -/
import Derived.Test.YtdlliajghfflnaaTerm
namespace Go.Bz.Term
/-- What can be made of some. -/
inductive Mk (ns : List Nd) (S : Nat → Prop) : Nat → Prop
  | own {i : Nat} : S i → Mk ns S i
  | sum {i : Nat} : (ns.getD i zN).k = 3 → Mk ns S (ns.getD i zN).a.toNat → Mk ns S i
  | two {i : Nat} : ¬ (ns.getD i zN).k = 1 → ¬ (ns.getD i zN).k = 3 → Mk ns S (ns.getD i zN).a.toNat → Mk ns S (ns.getD i zN).b.toNat → Mk ns S i
theorem Mk.mono {ns : List Nd} {S T : Nat → Prop} (h : ∀ i, S i → T i) {i : Nat} (hm : Mk ns S i) : Mk ns T i := by
  induction hm with
  | own hs => exact .own (h _ hs)
  | sum h1 _ ih => exact .sum h1 ih
  | two h1 h2 _ _ ih1 ih2 => exact .two h1 h2 ih1 ih2
theorem Mk.iff {ns : List Nd} {S : Nat → Prop} {i : Nat} : Mk ns S i ↔ S i ∨ ((ns.getD i zN).k = 3 ∧ Mk ns S (ns.getD i zN).a.toNat) ∨ (¬ (ns.getD i zN).k = 1 ∧ ¬ (ns.getD i zN).k = 3 ∧ Mk ns S (ns.getD i zN).a.toNat ∧ Mk ns S (ns.getD i zN).b.toNat) := by
  constructor
  · intro h
    cases h with
    | own h => exact .inl h
    | sum h1 h2 => exact .inr (.inl ⟨h1, h2⟩)
    | two h1 h2 h3 h4 => exact .inr (.inr ⟨h1, h2, h3, h4⟩)
  · rintro (h | ⟨h1, h2⟩ | ⟨h1, h2, h3, h4⟩)
    · exact .own h
    · exact .sum h1 h2
    · exact .two h1 h2 h3 h4
/-- Once more in a bank that goes on. -/
theorem okB.parts {ns : List Nd} (h : okB ns) {i : Nat} (hi : i < ns.length) (hk : ¬ (ns.getD i zN).k = 1) : (ns.getD i zN).a.toNat < i ∧ (¬ (ns.getD i zN).k = 3 → (ns.getD i zN).b.toNat < i) := by
  have := h i hi
  unfold okR at this
  omega
theorem mk_pre {ns ns' : List Nd} (hb : okB ns) (hp : Pre ns ns') {S : Nat → Prop} : ∀ (n i : Nat), i ≤ n → i < ns.length → (Mk ns S i ↔ Mk ns' S i) := by
  intro n
  induction n with
  | zero =>
    intro i h0 hi
    rw [Mk.iff, Mk.iff (ns := ns'), hp.get hi]
    by_cases hk : (ns.getD i zN).k = 1
    · generalize ns.getD i zN = m at *; simp [hk]
    · have := (hb.parts hi hk).1; omega
  | succ n ih =>
    intro i h0 hi
    rw [Mk.iff, Mk.iff (ns := ns'), hp.get hi]
    by_cases hk : (ns.getD i zN).k = 1
    · generalize ns.getD i zN = m at *; simp [hk]
    · have hq := hb.parts hi hk
      rw [ih _ (by omega) (by omega)]
      by_cases h3 : (ns.getD i zN).k = 3
      · generalize ns.getD i zN = m at *; simp [h3]
      · have := hq.2 h3
        rw [ih (ns.getD i zN).b.toNat (by omega) (by omega)]
theorem Mk.pre {ns ns' : List Nd} (hb : okB ns) (hp : Pre ns ns') {S : Nat → Prop} {i : Nat} (hi : i < ns.length) : Mk ns S i ↔ Mk ns' S i := mk_pre hb hp i i (Nat.le_refl _) hi
/-- What is taken apart. -/
structure Shut (ns : List Nd) (kn : List Nat) (S : Nat → Prop) : Prop where
  known : ∀ i ∈ kn, S i
  left : ∀ i, i < ns.length → S i → (ns.getD i zN).k = 2 → S (ns.getD i zN).a.toNat
  right : ∀ i, i < ns.length → S i → (ns.getD i zN).k = 2 ∨ (ns.getD i zN).k = 4 → S (ns.getD i zN).b.toNat
  cover : ∀ i, i < ns.length → S i → (ns.getD i zN).k = 5 → Mk ns S (ns.getD i zN).a.toNat → S (ns.getD i zN).b.toNat
def OpT (ns : List Nd) (kn : List Nat) (i : Nat) : Prop := ∀ S, Shut ns kn S → S i
theorem OpT.shut (ns : List Nd) (kn : List Nat) : Shut ns kn (OpT ns kn) where
  known := fun i hi S hS => hS.known i hi
  left := fun i hi ho hk S hS => hS.left i hi (ho S hS) hk
  right := fun i hi ho hk S hS => hS.right i hi (ho S hS) hk
  cover := fun i hi ho hk hm S hS => hS.cover i hi (ho S hS) hk (hm.mono fun j hj => hj S hS)
theorem OpT.lt {ns : List Nd} {kn : List Nat} (hb : okB ns) (hk : ∀ k ∈ kn, k < ns.length) {i : Nat} (h : OpT ns kn i) : i < ns.length := by
  refine h (fun i => i < ns.length) ⟨hk, fun i hi _ h2 => ?_, fun i hi _ h2 => ?_, fun i hi _ h2 _ => ?_⟩
  · have := (hb.parts hi (by omega)).1; omega
  · have := (hb.parts hi (by omega)).2 (by omega); omega
  · have := (hb.parts hi (by omega)).2 (by omega); omega
theorem OpT.pre {ns ns' : List Nd} {kn : List Nat} (hb : okB ns) (hk : ∀ k ∈ kn, k < ns.length) (hp : Pre ns ns') {i : Nat} : OpT ns' kn i ↔ OpT ns kn i := by
  constructor
  · intro h
    have hl : ∀ j, OpT ns kn j → j < ns.length := fun j hj => hj.lt hb hk
    have hs := OpT.shut ns kn
    refine h _ ⟨hs.known, fun j _ hj h2 => ?_, fun j _ hj h2 => ?_, fun j _ hj h2 hm => ?_⟩
    · rw [hp.get (hl j hj)] at h2 ⊢; exact hs.left j (hl j hj) hj h2
    · rw [hp.get (hl j hj)] at h2 ⊢; exact hs.right j (hl j hj) hj h2
    · rw [hp.get (hl j hj)] at h2 hm ⊢
      refine hs.cover j (hl j hj) hj h2 ((Mk.pre hb hp ?_).2 hm)
      have := (hb.parts (hl j hj) (by omega)).1
      have := hl j hj
      omega
  · intro h S hS
    have hn := hp.len
    refine h S ⟨hS.known, fun j hl hj h2 => ?_, fun j hl hj h2 => ?_, fun j hl hj h2 hm => ?_⟩
    · have := hS.left j (by omega) hj; rw [hp.get hl] at this; exact this h2
    · have := hS.right j (by omega) hj; rw [hp.get hl] at this; exact this h2
    · have := hS.cover j (by omega) hj
      rw [hp.get hl] at this
      refine this h2 ((Mk.pre hb hp ?_).1 hm)
      have := (hb.parts hl (by omega)).1
      omega
theorem Shut.less {ns : List Nd} {kn kn' : List Nat} {S : Nat → Prop} (h : Shut ns kn' S) (hk : ∀ k ∈ kn, k ∈ kn') : Shut ns kn S := ⟨fun k hk' => h.known k (hk k hk'), h.left, h.right, h.cover⟩
theorem OpT.more {ns : List Nd} {kn kn' : List Nat} (hk : ∀ k ∈ kn, k ∈ kn') {i : Nat} (h : OpT ns kn i) : OpT ns kn' i := fun S hS => h S (hS.less hk)
/-- A mind: its bank and what it knows. -/
structure Ok (ns : List Nd) (kn : List Nat) : Prop where
  bank : okB ns
  known : ∀ k ∈ kn, k < ns.length
theorem Ok.none : Ok [] [] := ⟨okB_nil, fun _ h => by simp at h⟩
theorem bank_pre (ns t : List Nd) : Pre ns (bankT ns t) := into_pre t ns []
theorem bank_ok {ns t : List Nd} (h : okB ns) (ht : okT t) : okB (bankT ns t) := (way_all h ht).ok
theorem Ok.into {ns t : List Nd} {kn : List Nat} (h : Ok ns kn) (ht : okT t) : Ok (bankT ns t) kn := ⟨bank_ok h.bank ht, fun k hk => Nat.lt_of_lt_of_le (h.known k hk) (bank_pre ns t).len⟩
theorem Ok.learn {ns t : List Nd} {kn : List Nat} (h : Ok ns kn) (ht : okT t) : Ok (bankT ns t) (kn ++ [idT ns t]) := ⟨bank_ok h.bank ht, fun k hk => by
  rcases List.mem_append.1 hk with hk | hk
  · exact (h.into ht).known k hk
  · obtain rfl : k = idT ns t := by simpa using hk
    exact idT_lt h.bank ht⟩
/-- Whether a term can be said. -/
def CanT (ns : List Nd) (kn : List Nat) (t : List Nd) : Prop := okT t ∧ Mk (bankT ns t) (OpT (bankT ns t) kn) (idT ns t)
noncomputable instance (ns : List Nd) (kn : List Nat) (t : List Nd) : Decidable (CanT ns kn t) := Classical.propDecidable _
/-- The bank behind a question, or behind what is learnt. -/
def bankC (ns t : List Nd) : List Nd := if okT t then bankT ns t else ns
def knC (ns : List Nd) (kn : List Nat) (t : List Nd) : List Nat := if okT t then kn ++ [idT ns t] else kn
theorem bankC_pre (ns t : List Nd) : Pre ns (bankC ns t) := by
  unfold bankC; split
  · exact bank_pre ns t
  · exact Pre.refl _
theorem Ok.can {ns t : List Nd} {kn : List Nat} (h : Ok ns kn) : Ok (bankC ns t) kn := by
  unfold bankC; split
  · rename_i ht; exact h.into ht
  · exact h
theorem Ok.next {ns t : List Nd} {kn : List Nat} (h : Ok ns kn) : Ok (bankC ns t) (knC ns kn t) := by
  unfold bankC knC; split
  · rename_i ht; exact h.learn ht
  · exact h
theorem knC_sub (ns : List Nd) (kn : List Nat) (t : List Nd) : ∀ k ∈ kn, k ∈ knC ns kn t := by
  intro k hk; unfold knC; split
  · exact List.mem_append.2 (.inl hk)
  · exact hk
/-- Into again: a bank that has a term keeps its number. -/
theorem again {ns ns2 t : List Nd} (hp : Pre (bankT ns t) ns2) : bankT ns2 t = ns2 ∧ idT ns2 t = idT ns t := by
  have h := into_again t ns ns2 [] hp
  exact ⟨by unfold bankT; rw [h], by unfold idT; rw [h]⟩
/-- What can be said can be said later, too. -/
theorem CanT.later {ns ns2 t : List Nd} {kn kn2 : List Nat} (hok : Ok ns kn) (hp : Pre (bankT ns t) ns2) (hk : ∀ k ∈ kn, k ∈ kn2) (h : CanT ns kn t) : CanT ns2 kn2 t := by
  obtain ⟨ht, hm⟩ := h
  have e := again hp
  refine ⟨ht, ?_⟩
  rw [e.1, e.2]
  have h1 := hok.into ht
  refine ((Mk.pre h1.bank hp (idT_lt hok.bank ht)).1 hm).mono fun i hi => ?_
  exact ((OpT.pre h1.bank h1.known hp).2 hi).more hk
theorem bankC_of {ns t : List Nd} (ht : okT t) : bankC ns t = bankT ns t := by unfold bankC; rw [if_pos ht]
theorem bankC_no {ns t : List Nd} (ht : ¬ okT t) : bankC ns t = ns := by unfold bankC; rw [if_neg ht]
theorem knC_of {ns t : List Nd} {kn : List Nat} (ht : okT t) : knC ns kn t = kn ++ [idT ns t] := by unfold knC; rw [if_pos ht]
theorem knC_no {ns t : List Nd} {kn : List Nat} (ht : ¬ okT t) : knC ns kn t = kn := by unfold knC; rw [if_neg ht]
/-- What is learnt can be said. -/
theorem can_learnt {ns t : List Nd} {kn : List Nat} (ht : okT t) : CanT (bankC ns t) (knC ns kn t) t := by
  rw [bankC_of ht, knC_of ht]
  have e := again (Pre.refl (bankT ns t))
  refine ⟨ht, ?_⟩
  rw [e.1, e.2]
  exact .own ((OpT.shut _ _).known _ (by simp))
/-- What can be said can be joined. -/
theorem can_join {ns a b : List Nd} {kn : List Nat} {k : Int} (hok : Ok ns kn) (hk : 2 ≤ k ∧ k ≤ 5) (h1 : a.length ≤ 20) (h2 : b.length ≤ 20) (ha : CanT ns kn a) (hb : CanT (bankC ns a) kn b) : CanT (bankC (bankC ns a) b) kn (joinT k a b) := by
  have oka := ha.1
  have okb := hb.1
  have hj := okT_join hk oka okb h1 h2
  rw [bankC_of oka] at hb ⊢
  rw [bankC_of okb]
  have ea := again (bank_pre (bankT ns a) b)
  have hka := hok.into oka
  have hkb := hka.into okb
  have ca : CanT (bankT (bankT ns a) b) kn a := ha.later hok (bank_pre _ _) fun _ h => h
  have cb : CanT (bankT (bankT ns a) b) kn b := hb.later hka (Pre.refl _) fun _ h => h
  generalize hn : bankT (bankT ns a) b = ms at *
  have eb := again (hn ▸ Pre.refl ms : Pre (bankT (bankT ns a) b) ms)
  have ma := ca.2
  have mb := cb.2
  rw [ea.1] at ma
  rw [eb.1] at mb
  have la : idT ms a < ms.length := by have h := idT_lt (ns := ms) hkb.bank oka; rw [ea.1] at h; exact h
  have lb : idT ms b < ms.length := by have h := idT_lt (ns := ms) hkb.bank okb; rw [eb.1] at h; exact h
  refine ⟨hj, ?_⟩
  by_cases h3 : k = 3
  · subst h3
    have e := into_join3 (ns := ms) (b := b) oka
    rw [ea.1] at e
    have hp := oneN_pre ms ⟨3, (idT ms a : Nat), 0⟩
    have hat := oneN_at ms ⟨3, (idT ms a : Nat), 0⟩
    have hlen : (into ms [] a).2.length = a.length := by rw [into_len]; simp
    have e1 : bankT ms (joinT 3 a b) = (oneN ms ⟨3, (idT ms a : Nat), 0⟩).1 := by unfold bankT; rw [e]
    have e2 : idT ms (joinT 3 a b) = (oneN ms ⟨3, (idT ms a : Nat), 0⟩).2 := by
      show (into ms [] (joinT 3 a b)).2.getD ((joinT 3 a b).length - 1) 0 = _
      rw [e, joinT_len3, Nat.add_sub_cancel, ← hlen, getD_app_1]
    rw [e1, e2]
    refine .sum (by rw [hat]) ?_
    rw [hat]
    show Mk _ _ ((idT ms a : Nat) : Int).toNat
    rw [Int.toNat_natCast]
    exact ((Mk.pre hkb.bank hp la).1 ma).mono fun i hi => (OpT.pre hkb.bank hkb.known hp).2 hi
  · have hk1 : ¬ k = 1 := by omega
    have e := into_join (ns := ms) (k := k) h3 hk1 oka okb
    rw [ea.1, eb.1] at e
    have hp := oneN_pre ms ⟨k, (idT ms a : Nat), (idT ms b : Nat)⟩
    have hat := oneN_at ms ⟨k, (idT ms a : Nat), (idT ms b : Nat)⟩
    have hlen : ((into ms [] a).2 ++ (into ms [] b).2).length = a.length + b.length := by rw [List.length_append, into_len, into_len]; simp
    have e1 : bankT ms (joinT k a b) = (oneN ms ⟨k, (idT ms a : Nat), (idT ms b : Nat)⟩).1 := by unfold bankT; rw [e]
    have e2 : idT ms (joinT k a b) = (oneN ms ⟨k, (idT ms a : Nat), (idT ms b : Nat)⟩).2 := by
      show (into ms [] (joinT k a b)).2.getD ((joinT k a b).length - 1) 0 = _
      rw [e, joinT_len h3, Nat.add_sub_cancel, ← hlen, getD_app_1]
    rw [e1, e2]
    refine .two (by rw [hat]; exact hk1) (by rw [hat]; exact h3) ?_ ?_
    · rw [hat]
      show Mk _ _ ((idT ms a : Nat) : Int).toNat
      rw [Int.toNat_natCast]
      exact ((Mk.pre hkb.bank hp la).1 ma).mono fun i hi => (OpT.pre hkb.bank hkb.known hp).2 hi
    · rw [hat]
      show Mk _ _ ((idT ms b : Nat) : Int).toNat
      rw [Int.toNat_natCast]
      exact ((Mk.pre hkb.bank hp lb).1 mb).mono fun i hi => (OpT.pre hkb.bank hkb.known hp).2 hi
/-- A name that stands nowhere. -/
def Lacks (key : Int) (t : List Nd) : Prop := ∀ n ∈ t, ¬ (n.k = 1 ∧ n.a = key)
theorem lacks_into {key : Int} (t : List Nd) : ∀ (ns : List Nd) (ids : List Nat), Lacks key ns → Lacks key t → Lacks key (into ns ids t).1 := by
  induction t with
  | nil => intro ns ids h _; exact h
  | cons n t ih =>
    intro ns ids h ht
    refine ih _ _ (fun m hm => ?_) fun m hm => ht m (.tail _ hm)
    have h1 : ¬ ((subN ids n).k = 1 ∧ (subN ids n).a = key) := by
      have h2 := ht n (.head _)
      unfold subN; split
      · exact h2
      · rename_i hk; split <;> exact fun hh => hk hh.1
    unfold oneN at hm; split at hm
    · exact h m hm
    · rcases List.mem_append.1 hm with hm | hm
      · exact h m hm
      · obtain rfl : m = subN ids n := by simpa using hm
        exact h1
theorem lacks_bankC {key : Int} {ns t : List Nd} (h : Lacks key ns) (ht : Lacks key t) : Lacks key (bankC ns t) := by
  unfold bankC; split
  · exact lacks_into t ns [] h ht
  · exact h
def nameT (key : Int) : List Nd := [⟨1, key, 0⟩]
theorem okT_name {key : Int} (h : 0 ≤ key ∧ key ≤ 1048576) : okT (nameT key) := ⟨by simp [nameT], by simp [nameT], fun i hi => by
  obtain rfl : i = 0 := by simp [nameT] at hi; omega
  exact .inl ⟨rfl, h.1, h.2, rfl⟩⟩
theorem into_name (ns : List Nd) (key : Int) : bankT ns (nameT key) = (oneN ns ⟨1, key, 0⟩).1 ∧ idT ns (nameT key) = (oneN ns ⟨1, key, 0⟩).2 := by
  have e : subN [] ⟨1, key, 0⟩ = ⟨1, key, 0⟩ := by simp [subN]
  constructor
  · simp [bankT, nameT, into, e]
  · simp [idT, nameT, into, e]
/-- Nothing of the old bank is the name. -/
theorem name_new {ns ms : List Nd} {key : Int} (hl : Lacks key ns) (hp : Pre ns ms) : ns.length ≤ idT ms (nameT key) := by
  rw [(into_name ms key).2]
  refine Nat.le_of_not_lt fun h => ?_
  have h1 := oneN_at ms ⟨1, key, 0⟩
  rw [(hp.trans (oneN_pre ms ⟨1, key, 0⟩)).get h] at h1
  have h2 : (⟨1, key, 0⟩ : Nd) ∈ ns := by
    rw [← h1, List.getD_eq_getElem?_getD, List.getElem?_eq_getElem h]; exact List.getElem_mem _
  exact hl _ h2 ⟨rfl, rfl⟩
theorem no_name {ns ms qs : List Nd} {kn : List Nat} {key : Int} (hok : Ok ns kn) (hl : Lacks key ns) (hp : Pre ns ms) (hm : Pre (bankT ms (nameT key)) qs) : ¬ Mk qs (OpT qs kn) (idT ms (nameT key)) := by
  intro h
  have h0 := name_new hl hp
  have hpq : Pre ns qs := (hp.trans (bank_pre _ _)).trans hm
  have hat : qs.getD (idT ms (nameT key)) zN = ⟨1, key, 0⟩ := by
    have e := into_name ms key
    have h1 := oneN_lt ms ⟨1, key, 0⟩
    have h2 := oneN_at ms ⟨1, key, 0⟩
    rw [← e.1, ← e.2] at h1 h2
    rw [hm.get h1]; exact h2
  rw [Mk.iff, hat] at h
  rcases h with h | h | h
  · have := (((OpT.pre hok.bank hok.known hpq).1 h).lt hok.bank hok.known); omega
  · have := h.1; simp at this
  · exact h.1 rfl
theorem forge_name {ns ms : List Nd} {kn : List Nat} {key : Int} (hok : Ok ns kn) (hl : Lacks key ns) (hp : Pre ns ms) : ¬ CanT ms kn (nameT key) := fun h => no_name hok hl hp (Pre.refl _) h.2
theorem forge_sign {ns t : List Nd} {kn : List Nat} {key : Int} (hok : Ok ns kn) (hl : Lacks key ns) (hk : 0 ≤ key ∧ key ≤ 1048576) (ht : okT t) : ¬ CanT ns kn (joinT 4 (nameT key) t) := by
  intro h
  have okn := okT_name hk
  have e := into_join (ns := ns) (k := 4) (by decide) (by decide) okn ht
  obtain ⟨_, hm⟩ := h
  generalize hms : bankT (bankT ns (nameT key)) t = ms at *
  have hpn : Pre (bankT ns (nameT key)) ms := hms ▸ bank_pre _ _
  generalize hi : idT (bankT ns (nameT key)) t = ib at *
  have hp := oneN_pre ms ⟨4, (idT ns (nameT key) : Nat), (ib : Nat)⟩
  have hat := oneN_at ms ⟨4, (idT ns (nameT key) : Nat), (ib : Nat)⟩
  have hlen : ((into ns [] (nameT key)).2 ++ (into (bankT ns (nameT key)) [] t).2).length = (nameT key).length + t.length := by rw [List.length_append, into_len, into_len]; simp
  have e1 : bankT ns (joinT 4 (nameT key) t) = (oneN ms ⟨4, (idT ns (nameT key) : Nat), (ib : Nat)⟩).1 := by unfold bankT; rw [e]
  have e2 : idT ns (joinT 4 (nameT key) t) = (oneN ms ⟨4, (idT ns (nameT key) : Nat), (ib : Nat)⟩).2 := by
    show (into ns [] (joinT 4 (nameT key) t)).2.getD ((joinT 4 (nameT key) t).length - 1) 0 = _
    rw [e, joinT_len (by decide), Nat.add_sub_cancel, ← hlen, getD_app_1]
  rw [e1, e2] at hm
  generalize hq : (oneN ms ⟨4, (idT ns (nameT key) : Nat), (ib : Nat)⟩).1 = qs at *
  generalize hx : (oneN ms ⟨4, (idT ns (nameT key) : Nat), (ib : Nat)⟩).2 = x at *
  have hpq : Pre ns qs := ((bank_pre ns (nameT key)).trans hpn).trans hp
  have h0 := name_new hl (Pre.refl ns)
  have hno := no_name hok hl (Pre.refl ns) (hpn.trans hp)
  rw [Mk.iff, hat] at hm
  rcases hm with h | h | h
  · have hlt := ((OpT.pre hok.bank hok.known hpq).1 h).lt hok.bank hok.known
    have h4 : (qs.getD x zN).k = 4 := by rw [hat]
    have ha : (qs.getD x zN).a.toNat = idT ns (nameT key) := by rw [hat]; simp
    rw [hpq.get hlt] at h4 ha
    have := (hok.bank.parts hlt (by omega)).1
    omega
  · have := h.1; simp at this
  · have := h.2.2.1
    simp only [Int.toNat_natCast] at this
    exact hno this
theorem CanT.on {ns ns2 t : List Nd} {kn kn2 : List Nat} (h : CanT ns kn t) (hok : Ok ns kn) (hp : Pre (bankC ns t) ns2) (hk : ∀ k ∈ kn, k ∈ kn2) : CanT ns2 kn2 t := h.later hok (by rw [← bankC_of h.1]; exact hp) hk
theorem can_more {ns ms t : List Nd} {kn : List Nat} (hok : Ok ns kn) (ht : okT t) (hp : Pre (bankC ns t) ms) : CanT ms (knC ns kn t) t := by
  refine (can_learnt (ns := ns) (kn := kn) ht).later hok.next ?_ fun _ h => h
  rw [bankC_of ht] at hp ⊢
  rw [(again (Pre.refl (bankT ns t))).1]; exact hp
/-- The chapter's example. -/
abbrev exT : List Nd := joinT 5 (nameT 5) (nameT 7)
theorem ex_bank : bankC [] exT = [⟨1, 5, 0⟩, ⟨1, 7, 0⟩, ⟨5, 0, 1⟩] := by decide
theorem ex_kn : knC [] [] exT = [2] := by decide
theorem ex_bank7 : bankT [⟨1, 5, 0⟩, ⟨1, 7, 0⟩, ⟨5, 0, 1⟩] (nameT 7) = [⟨1, 5, 0⟩, ⟨1, 7, 0⟩, ⟨5, 0, 1⟩] := by decide
theorem ex_id7 : idT [⟨1, 5, 0⟩, ⟨1, 7, 0⟩, ⟨5, 0, 1⟩] (nameT 7) = 1 := by decide
theorem ex_bank5 : bankC [⟨1, 5, 0⟩, ⟨1, 7, 0⟩, ⟨5, 0, 1⟩] (nameT 5) = [⟨1, 5, 0⟩, ⟨1, 7, 0⟩, ⟨5, 0, 1⟩] := by decide
theorem ex_kn5 : knC [⟨1, 5, 0⟩, ⟨1, 7, 0⟩, ⟨5, 0, 1⟩] [2] (nameT 5) = [2, 0] := by decide
theorem ex_b7 : bankC [⟨1, 5, 0⟩, ⟨1, 7, 0⟩, ⟨5, 0, 1⟩] (nameT 7) = [⟨1, 5, 0⟩, ⟨1, 7, 0⟩, ⟨5, 0, 1⟩] := by decide
theorem ex_no : ¬ CanT (bankC [] exT) (knC [] [] exT) (nameT 7) := by
  rw [ex_bank, ex_kn]
  rintro ⟨_, h⟩
  rw [ex_bank7, ex_id7, Mk.iff] at h
  rcases h with h | h | h
  · refine absurd (h (fun i => i = 2) ⟨fun i hi => by simpa using hi, fun i hi e hk => ?_, fun i hi e hk => ?_, fun i hi e hk hm => ?_⟩) (by decide)
    · subst e; exact absurd hk (by decide)
    · subst e; exact absurd hk (by decide)
    · subst e
      exfalso
      change Mk _ _ 0 at hm
      rw [Mk.iff] at hm
      rcases hm with h | h | h
      · exact absurd h (by decide)
      · exact absurd h.1 (by decide)
      · exact h.1 rfl
  · exact absurd h.1 (by decide)
  · exact h.1 rfl
theorem ex_yes : CanT (bankC (bankC (bankC [] exT) (nameT 7)) (nameT 5)) (knC (bankC (bankC [] exT) (nameT 7)) (knC [] [] exT) (nameT 5)) (nameT 7) := by
  rw [ex_bank, ex_kn, ex_b7, ex_bank5, ex_kn5]
  refine ⟨by decide, ?_⟩
  rw [ex_bank7, ex_id7]
  have hs := OpT.shut [⟨1, 5, 0⟩, ⟨1, 7, 0⟩, ⟨5, 0, 1⟩] [2, 0]
  exact .own (hs.cover 2 (by decide) (hs.known 2 (by simp)) rfl (.own (hs.known 0 (by simp))))
theorem join3_at {a b : List Nd} : (joinT 3 a b).getD a.length zN = ⟨3, (a.length : Int) - 1, 0⟩ := by rw [joinT, if_pos rfl, getD_app_1]
theorem join_last {z : Int} {a b : List Nd} (h : ¬ z = 3) : (joinT z a b).getD ((joinT z a b).length - 1) zN = ⟨z, (a.length : Int) - 1, (a.length : Int) + (b.length : Int) - 1⟩ := by
  rw [joinT_len h, Nat.add_sub_cancel, joinT, if_neg h]
  have e : a.length + b.length = (a ++ b.map (shN a.length)).length := by simp
  rw [e, getD_app_1]
theorem lacks_nil (key : Int) : Lacks key [] := fun _ h => by simp at h
theorem lacks_of {key : Int} {t : List Nd} (h : ∀ j, j < t.length → ¬ ((t.getD j zN).k = 1 ∧ (t.getD j zN).a = key)) : Lacks key t := fun n hn => by
  obtain ⟨j, hj, rfl⟩ := List.mem_iff_getElem.1 hn
  have := h j hj
  rwa [List.getD_eq_getElem?_getD, List.getElem?_eq_getElem hj] at this
end Go.Bz.Term
