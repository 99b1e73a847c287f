/- Own rules for walks that a program prints: each operation's value by a lemma of its own; a call that makes nothing but new memory is taken first in a region that draws its order. No seat's number stands here. -/
import Derived.Test.YtjgcjddaladgfaaBase
import Derived.Deep.LoopGhost
import Derived.IntWalk
import Derived.Laws.BytesString
namespace Go.Bz
open Go.RowKit

section region
variable {P : Program} {ops : Array Oper} {Q : Exit → Act → World → Prop} {md : Region.Mode} {K : Nat → Prop}

/-- The operation comes to 'v' from this world, with nothing but new memory. -/
def Does (P : Program) (x : Sem Next) (v : Value) (w : World) : Prop :=
  (∃ w2, x.run P w = .ok (.value v) w2 ∧ Ext w w2) ∨ (∃ f args w2, x.run P w = .ok (.enter f args) w2 ∧ Ext w w2 ∧ Calls P f args w2 fun e w3 => e = .returned v ∧ Ext w2 w3)
/-- In every world that comes of this one (the blocks in K may change) the operation comes to 'v'; or it is not wanted. -/
def YieldsX (P : Program) (ops : Array Oper) (K : Nat → Prop) (o : Oper) (v : Value) (a : Act) (w : World) : Prop :=
  (Region.wanted o (yielded ops a.tmps) = true ∧ ∀ w1, Chg K w w1 → Does P (execOp a.eval o) v w1) ∨ (Region.wanted o (yielded ops a.tmps) = false ∧ v = undef)
theorem Does.wp {o : Oper} {v : Value} {a : Act} {w : World} {N : Act → World → Prop} (h : Does P (execOp a.eval o) v w) (hN : ∀ w2, Ext w w2 → N (a.put o.dst v) w2) : o.wp P a w N Q := by
  unfold Oper.wp
  rcases h with ⟨w2, hr, hx⟩ | ⟨f, args, w2, hr, hx, hc⟩
  · rw [hr]; exact hN _ hx
  · rw [hr]
    refine Calls.mono hc fun e w3 h => ?_
    obtain ⟨rfl, hx3⟩ := h
    exact hN _ (hx.trans hx3)
theorem YieldsX.wpOp {i : Nat} {o : Oper} {v : Value} {a : Act} {w w1 : World} (hi : ops[i]? = some o) (hy : YieldsX P ops K o v a w) (hw : Chg K w w1)
    {N : Act → World → Prop} (h : ∀ w2, Ext w1 w2 → N (a.put o.dst v) w2) : wpOp P ops Q i N a w1 := by
  unfold Go.wpOp
  simp only [hi]
  rcases hy with ⟨hwd, hv⟩ | ⟨hwd, rfl⟩
  · simp only [hwd, if_true]; exact .inl ((hv w1 hw).wp h)
  · simp only [hwd, Bool.false_eq_true, if_false]; exact h _ (Chg.refl _ _)
theorem YieldsX.of_same {o : Oper} {v : Value} {a a' : Act} {w w' : World} (hy : YieldsX P ops K o v a w) (hw : Chg K w w') (he : execOp a'.eval o = execOp a.eval o)
    (hwd : Region.wanted o (yielded ops a'.tmps) = Region.wanted o (yielded ops a.tmps)) : YieldsX P ops K o v a' w' := by
  unfold YieldsX at *
  rw [he, hwd]
  exact hy.imp (fun ⟨h1, h2⟩ => ⟨h1, fun w1 h => h2 w1 (hw.trans h)⟩) id
theorem wpOp_putX {j : Nat} {oi oj : Oper} {v : Value} (hj : ops[j]? = some oj) (hap : oi.apart ops oj = true)
    (hsi : ∀ cs b, oi.op ≠ .select cs b) (hsj : ∀ cs b, oj.op ≠ .select cs b)
    (hQ : ∀ c a w, Q (.panic c) (a.put oi.dst v) w → Q (.panic c) a w) {N : Act → World → Prop} {a : Act} {w : World}
    (hy : YieldsX P ops K oi v a w) (h : wpOp P ops Q j (fun a' w' => Chg K w w' ∧ N a' w') (a.put oi.dst v) w) :
    wpOp P ops Q j (fun a' w' => YieldsX P ops K oi v a' w' ∧ Chg K w w' ∧ N (a'.put oi.dst v) w') a w := by
  obtain ⟨h1, h2, h3⟩ := Oper.apart_spec hap
  have keep : ∀ (u : Value) (w' : World), Chg K w w' → YieldsX P ops K oi v (a.put oj.dst u) w' := fun u w' hw =>
    hy.of_same hw (execOp_put oi hsi a oj.dst u h3) (wanted_put oi a oj.dst u h3)
  have keepD : ∀ (d : Deferred) (u : Value) (w' : World), Chg K w w' → YieldsX P ops K oi v (({ a with defers := d :: a.defers } : Act).put oj.dst u) w' := fun d u w' hw =>
    (hy.of_same (a' := { a with defers := d :: a.defers }) (Chg.refl _ _) rfl rfl).of_same hw (execOp_put oi hsi _ oj.dst u h3) (wanted_put oi _ oj.dst u h3)
  unfold wpOp at *
  simp only [hj] at *
  rw [wanted_put oj a oi.dst v h1] at h
  split
  · rename_i hw
    simp only [hw, if_true] at h
    rcases h with h | ⟨hasks, hlets⟩
    case inr => exact .inr ⟨by unfold Oper.asks at *; rw [execOp_put oj hsj a oi.dst v h1] at hasks; exact hasks, hlets⟩
    refine .inl ?_
    unfold Oper.wp at *
    rw [execOp_put oj hsj a oi.dst v h1] at h
    generalize (execOp a.eval oj).run P w = r at *
    cases r with
    | ok n w' =>
      cases n <;> simp only [Oper.upon] at h ⊢
      case value u => exact ⟨keep u _ h.1, h.1, by rw [← Act.put_comm a v u h2]; exact h.2⟩
      case skip => exact ⟨keep _ _ h.1, h.1, by rw [← Act.put_comm a v undef h2]; exact h.2⟩
      case defer d =>
        refine ⟨keepD d _ _ h.1, h.1, ?_⟩
        rw [← Act.put_comm _ v undef h2, ← Act.put_defers]
        exact h.2
      case enter f args =>
        refine Calls.mono h fun e w'' he => ?_
        cases e with
        | returned u => exact ⟨keep u _ he.1, he.1, by rw [← Act.put_comm a v u h2]; exact he.2⟩
        | panicked c => exact hQ _ _ _ he
        | outgrown => exact he
      case row row args => exact Rows.mono h fun u w'' he => ⟨keep u _ he.1, he.1, by rw [← Act.put_comm a v u h2]; exact he.2⟩
    | halt x w' =>
      cases x <;> simp only [Oper.upon] at h ⊢
      case panic u => exact hQ _ _ _ h
  · rename_i hw
    simp only [hw] at h
    exact ⟨keep _ _ h.1, h.1, by rw [← Act.put_comm a v undef h2]; exact h.2⟩

/-- Does an operation wait for number j? -/
def waits (md : Region.Mode) (o : Oper) (j : Nat) : Bool := o.after.any fun e => Region.binds md e && e.on == j
theorem waits_spec {o : Oper} {j : Nat} (h : waits md o j = true) : ∃ e ∈ o.after, Region.binds md e = true ∧ e.on = j := by
  unfold waits at h
  simp only [Array.any_eq_true'] at h
  obtain ⟨e, he, h3⟩ := h
  simp only [Bool.and_eq_true, beq_iff_eq] at h3
  exact ⟨e, he, h3.1, h3.2⟩
/-- Edges lead back; from number s on each operation waits for the one ahead of it, and number s for all ahead of it, by way of others. -/
def okX (md : Region.Mode) (ops : Array Oper) (s : Nat) : Bool :=
  ((List.range ops.size).all fun i => match ops[i]? with
    | some o => o.after.all (fun e => !Region.binds md e || decide (e.on < i)) && (decide (i ≤ s) || waits md o (i - 1))
    | none => true) &&
  (decide (ops.size ≤ s) || (List.range s).all fun k => (List.range (s + 1)).any fun i => decide (k < i) && (match ops[i]? with | some o => waits md o k | none => false))
theorem okX_spec {s : Nat} (h : okX md ops s = true) {i : Nat} {o : Oper} (ho : ops[i]? = some o) :
    (∀ e ∈ o.after, Region.binds md e = true → e.on < i) ∧ (s < i → ∃ e ∈ o.after, Region.binds md e = true ∧ e.on = i - 1) := by
  have hi : i < ops.size := (Array.getElem?_eq_some_iff.1 ho).1
  unfold okX at h
  rw [Bool.and_eq_true] at h
  have h1 := List.all_eq_true.1 h.1 i (by simpa using hi)
  simp only [ho, Bool.and_eq_true, Bool.or_eq_true, decide_eq_true_eq] at h1
  refine ⟨fun e he hb => ?_, fun hs => ?_⟩
  · have := Array.all_eq_true'.1 h1.1 e he
    simp only [hb, Bool.not_true, Bool.false_or, decide_eq_true_eq] at this
    exact this
  · rcases h1.2 with h2 | h2
    · omega
    · exact waits_spec h2
theorem okX_all {s : Nat} (h : okX md ops s = true) (hs : s < ops.size) {k : Nat} (hk : k < s) : ∃ (i : Nat) (o : Oper), k < i ∧ i ≤ s ∧ ops[i]? = some o ∧ ∃ e ∈ o.after, Region.binds md e = true ∧ e.on = k := by
  unfold okX at h
  rw [Bool.and_eq_true, Bool.or_eq_true] at h
  rcases h.2 with h2 | h2
  · have : ops.size ≤ s := by simpa using h2
    omega
  · have h3 := List.all_eq_true.1 h2 k (by simpa using hk)
    obtain ⟨i, hi, h4⟩ := List.any_eq_true.1 h3
    rw [Bool.and_eq_true, decide_eq_true_eq] at h4
    have hi : i < s + 1 := by simpa using hi
    cases ho : ops[i]? with
    | none => rw [ho] at h4; simp at h4
    | some o => rw [ho] at h4; exact ⟨i, o, h4.1, by omega, ho, waits_spec h4.2⟩
/-- What has come up, has come up with all that it waits for. -/
def Closed (md : Region.Mode) (ops : Array Oper) (listed : Array Bool) : Prop :=
  ∀ (i : Nat) (o : Oper), ops[i]? = some o → listed.getD i false = true → ∀ e ∈ o.after, Region.binds md e = true → listed.getD e.on false = true
def closedB (md : Region.Mode) (ops : Array Oper) (listed : Array Bool) : Bool :=
  (List.range ops.size).all fun i => !(listed.getD i false) || (match ops[i]? with | some o => o.after.all fun e => !Region.binds md e || listed.getD e.on false | none => true)
theorem closed_of {listed : Array Bool} (h : closedB md ops listed = true) : Closed md ops listed := by
  intro i o ho hl e he hb
  have hi : i < ops.size := (Array.getElem?_eq_some_iff.1 ho).1
  have h1 := List.all_eq_true.1 h i (by simpa using hi)
  rw [hl, ho] at h1
  simp only [Bool.not_true, Bool.false_or] at h1
  have := Array.all_eq_true'.1 h1 e he
  rw [hb] at this
  simpa using this
theorem Closed.set {listed : Array Bool} (h : Closed md ops listed) {i : Nat} (hi : i ∈ Region.ready md ops listed) : Closed md ops (listed.setIfInBounds i true) := by
  intro j o ho hl e he hb
  by_cases hji : i = j
  · subst hji
    obtain ⟨_, o', ho', hall⟩ := mem_ready.1 hi
    obtain rfl : o = o' := Option.some.inj (ho.symm.trans ho')
    exact getD_set_true (hall e he hb)
  · rw [getD_set_ne false hji] at hl
    exact getD_set_true (h j o ho hl e he hb)
theorem ready_lt {s : Nat} (hok : okX md ops s = true) {listed : Array Bool} (hcl : Closed md ops listed) {i : Nat} (hi : i ∈ Region.ready md ops listed) (h1 : s ≤ i) : ∀ k, k < s → listed.getD k false = true := by
  obtain ⟨hu, o, ho, hall⟩ := mem_ready.1 hi
  have hin : i < ops.size := (Array.getElem?_eq_some_iff.1 ho).1
  -- number s waits for none that has not come up
  have hs : ∀ (d : Nat) (i : Nat) (o : Oper), i = s + d → ops[i]? = some o → (∀ e ∈ o.after, Region.binds md e = true → listed.getD e.on false = true) → ∀ o', ops[s]? = some o' → ∀ e ∈ o'.after, Region.binds md e = true → listed.getD e.on false = true := by
    intro d
    induction d with
    | zero =>
      intro i o hd ho hall o' ho'
      obtain rfl : i = s := by omega
      obtain rfl : o = o' := Option.some.inj (ho.symm.trans ho')
      exact hall
    | succ d ih =>
      intro i o hd ho hall o' ho'
      obtain ⟨e, he, hb, hon⟩ := (okX_spec hok ho).2 (by omega)
      have hl := hall e he hb
      rw [hon] at hl
      have hi : i < ops.size := (Array.getElem?_eq_some_iff.1 ho).1
      have hp : ops[i - 1]? = some ops[i - 1] := Array.getElem?_eq_getElem (by omega)
      exact ih (i - 1) _ (by omega) hp (hcl _ _ hp hl) o' ho'
  have hso : ops[s]? = some ops[s] := Array.getElem?_eq_getElem (by omega)
  have hsd := hs (i - s) i o (by omega) ho hall _ hso
  -- and so all ahead of it have come up
  have key : ∀ (d k : Nat), k + d = s → 0 < d → listed.getD k false = true := by
    intro d
    induction d using Nat.strongRecOn with
    | _ d ih =>
      intro k hk hd
      obtain ⟨j, o', hkj, hjs, hj, e, he, hb, hon⟩ := okX_all hok (by omega) (k := k) (by omega)
      by_cases hjs' : j = s
      · subst hjs'
        obtain rfl : ops[j] = o' := Option.some.inj (hso.symm.trans hj)
        have := hsd e he hb
        rwa [hon] at this
      · have := hcl j o' hj (ih (s - j) (by omega) j (by omega) (by omega)) e he hb
        rwa [hon] at this
  exact fun k hk => key (s - k) k (by omega) (by omega)
/-- Whatever order is picked from here on: each operation begins in a world that comes of the one at hand by new memory, and changes no old block but those in K; from number s on they go in their order. -/
def wpAnyX (P : Program) (md : Region.Mode) (ops : Array Oper) (Q : Exit → Act → World → Prop) (K : Nat → Prop) (s : Nat) : Nat → Array Bool → Act → World → Prop
  | 0, _, a, w => ∀ w1, Ext w w1 → wpOps P ops Q (List.range' s (ops.size - s)) a w1
  | fuel + 1, listed, a, w => ∀ w1, Ext w w1 →
    ∀ i ∈ Region.ready md ops listed, wpOp P ops Q i (fun a' w' => Chg K w1 w' ∧ wpAnyX P md ops Q K s fuel (listed.setIfInBounds i true) a' w') a w1
variable {s : Nat}
theorem wpAnyX.ext {fuel : Nat} {listed : Array Bool} {a : Act} {w w1 : World} (h : wpAnyX P md ops Q K s fuel listed a w) (hx : Ext w w1) : wpAnyX P md ops Q K s fuel listed a w1 := by
  cases fuel with
  | zero => exact fun w2 h2 => h w2 (hx.trans h2)
  | succ fuel => exact fun w2 h2 => h w2 (hx.trans h2)
theorem filter_one (m : Nat) : ∀ n, (List.range n).filter (fun i => i == m) = if m < n then [m] else [] := by
  intro n
  induction n with
  | zero => simp
  | succ n ih =>
    rw [List.range_succ, List.filter_append, ih]
    by_cases h1 : m < n
    · have : ¬ n = m := by omega
      simp [h1, this, Nat.lt_succ_of_lt h1]
    · by_cases h2 : m = n
      · subst h2; simp
      · have : ¬ n = m := fun h => h2 h.symm
        have h3 : ¬ m < n + 1 := by omega
        simp [h1, h3, this]
theorem ready_tail (hok : okX md ops s = true) {listed : Array Bool} {m : Nat} (hsz : listed.size = ops.size) (hd : ∀ k, k < ops.size → (listed.getD k true = true ↔ k < m)) (hs : s ≤ m) : Region.ready md ops listed = if m < ops.size then [m] else [] := by
  unfold Region.ready
  rw [← filter_one m ops.size]
  apply List.filter_congr
  intro i hi
  have hi : i < ops.size := by simpa using hi
  have hgt : ∀ k, k < ops.size → listed.getD k false = listed.getD k true := fun k hk => by simp [Array.getD_eq_getD_getElem?, hsz, hk]
  obtain ⟨o, ho⟩ : ∃ o, ops[i]? = some o := ⟨ops[i], Array.getElem?_eq_getElem hi⟩
  obtain ⟨h1, h2⟩ := okX_spec hok ho
  by_cases him : i < m
  · have := (hd i hi).2 him
    have hne : ¬ i = m := by omega
    simp [this, hne]
  · have hf : listed.getD i true = false := by
      cases h : listed.getD i true with
      | false => rfl
      | true => exact absurd ((hd i hi).1 h) him
    simp only [hf, Bool.not_false, Bool.true_and, ho, Option.map_some, Option.getD_some]
    by_cases hem : i = m
    · subst hem
      simp only [BEq.rfl, Array.all_eq_true']
      intro e he
      cases hb : Region.binds md e with
      | false => rfl
      | true =>
        have := h1 e he hb
        rw [hgt _ (by omega), (hd _ (by omega)).2 this]
        rfl
    · obtain ⟨e, he, hb, hon⟩ := h2 (by omega)
      have hlm : listed.getD e.on false = false := by
        rw [hon, hgt _ (by omega)]
        cases h : listed.getD (i - 1) true with
        | false => rfl
        | true => exact absurd ((hd (i - 1) (by omega)).1 h) (by omega)
      have hne : (i == m) = false := by simpa using hem
      rw [hne]
      cases h : o.after.all (fun e => !Region.binds md e || listed.getD e.on false) with
      | false => rfl
      | true =>
        have := Array.all_eq_true'.1 h e he
        rw [hb, hlm] at this
        cases this
theorem wpAny_tail (hok : okX md ops s = true) : ∀ (d : Nat) (m : Nat) (listed : Array Bool) (a : Act) (w : World), m + d = ops.size → s ≤ m → listed.size = ops.size → (∀ k, k < ops.size → (listed.getD k true = true ↔ k < m)) →
    wpOps P ops Q (List.range' m d) a w → wpAny P md ops Q d listed a w := by
  intro d
  induction d with
  | zero =>
    intro m listed a w hm hs hsz hd h
    have hr := ready_tail hok hsz hd hs
    rw [if_neg (by omega)] at hr
    exact ⟨hr, by simpa [wpOps] using h⟩
  | succ d ih =>
    intro m listed a w hm hs hsz hd h
    have hr := ready_tail hok hsz hd hs
    rw [if_pos (by omega)] at hr
    refine ⟨fun h0 => (by rw [hr] at h0; cases h0), fun i hi => ?_⟩
    rw [hr] at hi
    obtain rfl : i = m := by simpa using hi
    rw [List.range'_succ, wpOps_cons] at h
    refine wpOp_mono (fun a' w' h' => ih (i + 1) _ a' w' (by omega) (by omega) (by simpa using hsz) ?_ h') h
    intro k hk
    by_cases hki : i = k
    · subst hki; simp [Array.getD_eq_getD_getElem?, hsz, hk]
    · rw [getD_set_ne true hki, hd k hk]; omega
theorem count_set {listed : Array Bool} {i : Nat} (hi : i < s) (hsz : s ≤ listed.size) (hu : listed.getD i true = false) :
    (List.range s).countP (fun k => !listed.getD k true) = (List.range s).countP (fun k => !(listed.setIfInBounds i true).getD k true) + 1 := by
  have gen : ∀ n, n ≤ s → (List.range n).countP (fun k => !listed.getD k true) = (List.range n).countP (fun k => !(listed.setIfInBounds i true).getD k true) + if i < n then 1 else 0 := by
    intro n
    induction n with
    | zero => intro _; simp
    | succ n ih =>
      intro hn
      rw [List.range_succ, List.countP_append, List.countP_append, ih (by omega)]
      by_cases h : i = n
      · subst h
        have hlt : i < listed.size := by omega
        have hu2 : listed[i]'hlt = false := by simpa [Array.getD_eq_getD_getElem?, hlt] using hu
        simp [Array.getD_eq_getD_getElem?, hlt, hu2]
      · have h2 : (listed.setIfInBounds i true).getD n true = listed.getD n true := getD_set_ne true h
        simp only [List.countP_singleton, h2]
        by_cases h3 : i < n
        · have : i < n + 1 := by omega
          simp only [h3, this, if_true]; omega
        · have : ¬ i < n + 1 := by omega
          simp only [h3, this, if_false]; omega
  have := gen s (Nat.le_refl _)
  rwa [if_pos hi] at this
theorem wpAny_of_X (hok : okX md ops s = true) (hs : s ≤ ops.size) : ∀ (fuel : Nat) (listed : Array Bool) (a : Act) (w : World), listed.size = ops.size → (∀ k, s ≤ k → k < ops.size → listed.getD k true = false) → (List.range s).countP (fun k => !listed.getD k true) = fuel → Closed md ops listed →
    wpAnyX P md ops Q K s fuel listed a w → wpAny P md ops Q (fuel + (ops.size - s)) listed a w := by
  intro fuel
  induction fuel with
  | zero =>
    intro listed a w hsz ht hc hcl h
    rw [Nat.zero_add]
    refine wpAny_tail hok _ s listed a w (by omega) (Nat.le_refl _) hsz (fun k hk => ?_) (h w (Chg.refl _ _))
    by_cases hks : k < s
    · have := List.countP_eq_zero.1 hc k (by simpa using hks)
      simp only [Bool.not_eq_true', Bool.not_eq_false] at this
      simp [this, hks]
    · have := ht k (by omega) hk
      simp [this, hks]
  | succ fuel ih =>
    intro listed a w hsz ht hc hcl h
    rw [Nat.add_right_comm]
    refine ⟨fun h0 => ?_, fun i hi => ?_⟩
    · exfalso
      -- the first that has not come up may come up
      have hex : ∃ k, k < s ∧ listed.getD k true = false := by
        have : 0 < (List.range s).countP (fun k => !listed.getD k true) := by omega
        obtain ⟨k, hk, hk2⟩ := List.countP_pos_iff.1 this
        exact ⟨k, by simpa using hk, by simpa using hk2⟩
      have key : ∀ n k, k ≤ n → k < ops.size → listed.getD k true = false → False := by
        intro n
        induction n with
        | zero =>
          intro k hkn hk hu
          obtain rfl : k = 0 := by omega
          obtain ⟨o, ho⟩ : ∃ o, ops[0]? = some o := ⟨ops[0], Array.getElem?_eq_getElem hk⟩
          have hm : 0 ∈ Region.ready md ops listed := mem_ready.2 ⟨hu, o, ho, fun e he hb => by have := (okX_spec hok ho).1 e he hb; omega⟩
          rw [h0] at hm; cases hm
        | succ n ihn =>
          intro k hkn hk hu
          obtain ⟨o, ho⟩ : ∃ o, ops[k]? = some o := ⟨ops[k], Array.getElem?_eq_getElem hk⟩
          have hm : k ∈ Region.ready md ops listed := mem_ready.2 ⟨hu, o, ho, fun e he hb => by
            have hlt := (okX_spec hok ho).1 e he hb
            cases hv : listed.getD e.on false with
            | true => rfl
            | false =>
              exfalso
              refine ihn e.on (by omega) (by omega) ?_
              have : e.on < listed.size := by omega
              simpa [Array.getD_eq_getD_getElem?, this] using hv⟩
          rw [h0] at hm; cases hm
      obtain ⟨k, hk, hu⟩ := hex
      exact key k k (Nat.le_refl _) (by omega) hu
    · have hh := h w (Chg.refl _ _) i hi
      obtain ⟨hu, o, ho, hall⟩ := mem_ready.1 hi
      have hin : i < ops.size := (Array.getElem?_eq_some_iff.1 ho).1
      have his : i < s := by
        rcases Nat.lt_or_ge i s with h1 | h1
        · exact h1
        · exfalso
          obtain ⟨k, hk, hk2⟩ := List.countP_pos_iff.1 (show 0 < (List.range s).countP (fun k => !listed.getD k true) by omega)
          have hk : k < s := by simpa using hk
          have h2 := ready_lt hok hcl hi h1 k hk
          have : k < listed.size := by omega
          simp only [Array.getD_eq_getD_getElem?, this, Array.getElem?_eq_getElem, Option.getD_some] at h2 hk2
          simp [h2] at hk2
      refine wpOp_mono (fun a' w' h' => ih _ a' w' (by simpa using hsz) (fun k hk1 hk2 => ?_) ?_ (hcl.set hi) h'.2) hh
      · rw [getD_set_ne true (by omega)]; exact ht k hk1 hk2
      · have := count_set (s := s) his (by omega) hu
        omega
theorem ready_pre (hok : okX md ops s = true) {listed : Array Bool} (hcl : Closed md ops listed) (hsz : listed.size = ops.size) {fuel : Nat} (hs : s ≤ ops.size) (hc : (List.range s).countP (fun k => !listed.getD k true) = fuel + 1) {i : Nat} (hi : i ∈ Region.ready md ops listed) : i < s := by
  obtain ⟨hu, o, ho, hall⟩ := mem_ready.1 hi
  have hin : i < ops.size := (Array.getElem?_eq_some_iff.1 ho).1
  rcases Nat.lt_or_ge i s with h1 | h1
  · exact h1
  · exfalso
    obtain ⟨k, hk, hk2⟩ := List.countP_pos_iff.1 (show 0 < (List.range s).countP (fun k => !listed.getD k true) by omega)
    have hk : k < s := by simpa using hk
    have h2 := ready_lt hok hcl hi h1 k hk
    have : k < listed.size := by omega
    simp only [Array.getD_eq_getD_getElem?, this, Array.getElem?_eq_getElem, Option.getD_some] at h2 hk2
    simp [h2] at hk2
theorem wpAnyX_first (hok : okX md ops s = true) (hs : s ≤ ops.size) {i : Nat} {oi : Oper} {v : Value} (hi : ops[i]? = some oi) (hsel : ∀ (j : Nat) (o : Oper) cs b, ops[j]? = some o → o.op ≠ .select cs b)
    (hQ : ∀ c a w, Q (.panic c) (a.put oi.dst v) w → Q (.panic c) a w) :
    ∀ (fuel : Nat) (listed : Array Bool) (a : Act) (w : World), listed.size = ops.size → (List.range s).countP (fun k => !listed.getD k true) = fuel + 1 → Closed md ops listed →
      (∀ j oj, ops[j]? = some oj → j ≠ i → listed.getD j true = false → (∀ e ∈ oj.after, Region.binds md e = true → e.on ≠ i) → oi.apart ops oj = true) →
      i ∈ Region.ready md ops listed → YieldsX P ops K oi v a w →
      wpAnyX P md ops Q K s fuel (listed.setIfInBounds i true) (a.put oi.dst v) w → wpAnyX P md ops Q K s (fuel + 1) listed a w := by
  intro fuel
  induction fuel with
  | zero =>
    intro listed a w hsz hc hcl _ hr hy H w1 hx j hj
    have hji : j = i := by
      apply Classical.byContradiction
      intro hne
      have his := ready_pre hok hcl hsz hs hc hr
      have hjs := ready_pre hok hcl hsz hs hc hj
      have h1 := count_set (listed := listed) his (by omega) (mem_ready.1 hr).1
      have h2 := List.countP_eq_zero.1 (show (List.range s).countP (fun k => !(listed.setIfInBounds i true).getD k true) = 0 by omega) j (by simpa using hjs)
      rw [getD_set_ne true (fun h => hne h.symm), (mem_ready.1 hj).1] at h2
      simp at h2
    subst hji
    exact hy.wpOp hi hx.any fun w2 h2 => ⟨h2.any, fun w3 h3 => H w3 ((hx.trans h2).trans h3)⟩
  | succ fuel ih =>
    intro listed a w hsz hc hcl hfree hr hy H w1 hx j hj
    by_cases hji : j = i
    · subst hji; exact hy.wpOp hi hx.any fun w2 h2 => ⟨h2.any, wpAnyX.ext H (hx.trans h2)⟩
    · have h1 := H w1 hx j (ready_mono hj hji)
      obtain ⟨hjun, oj, hoj, hall⟩ := mem_ready.1 hj
      have hnot : ∀ e ∈ oj.after, Region.binds md e = true → e.on ≠ i := fun e he hb heq => by
        have h1 := hall e he hb
        have h0 := (mem_ready.1 hr).1
        rw [heq] at h1
        rcases Nat.lt_or_ge i listed.size with h' | h'
        · simp [h'] at h0 h1; rw [h0] at h1; cases h1
        · simp [Array.getElem?_eq_none h'] at h1
      have hy1 : YieldsX P ops K oi v a w1 := hy.of_same hx.any rfl rfl
      have h2 := wpOp_putX hoj (hfree j oj hoj hji hjun hnot) (fun cs b => hsel i oi cs b hi) (fun cs b => hsel j oj cs b hoj) hQ hy1 h1
      have hfree' : ∀ k ok, ops[k]? = some ok → k ≠ i → (listed.setIfInBounds j true).getD k true = false →
          (∀ e ∈ ok.after, Region.binds md e = true → e.on ≠ i) → oi.apart ops ok = true := fun k ok hk hki hun hno => by
        refine hfree k ok hk hki ?_ hno
        by_cases hjk : j = k
        · subst hjk; exact hjun
        · rw [getD_set_ne true hjk] at hun; exact hun
      have hjs := ready_pre hok hcl hsz hs hc hj
      have hc' := count_set (listed := listed) hjs (by omega) hjun
      refine wpOp_mono (fun a' w' h3 => ⟨h3.2.1, ih (listed.setIfInBounds j true) a' w' (by simpa using hsz) (by omega) (hcl.set hj) hfree' (ready_mono hr (Ne.symm hji)) h3.1 ?_⟩) h2
      rw [Array.setIfInBounds_comm _ _ hji]
      exact h3.2.2

/-- Where a walk of such a region stands: 'listed' has come up, 'fuel' more ahead of number s have not. -/
def stX (md : Region.Mode) (ops : Array Oper) (s fuel : Nat) (listed : Array Bool) : Bool :=
  okX md ops s && decide (s ≤ ops.size) && listed.size == ops.size && (List.range s).countP (fun k => !listed.getD k true) == fuel && closedB md ops listed
theorem stX_spec {fuel : Nat} {listed : Array Bool} (h : stX md ops s fuel listed = true) : okX md ops s = true ∧ s ≤ ops.size ∧ listed.size = ops.size ∧ (List.range s).countP (fun k => !listed.getD k true) = fuel ∧ Closed md ops listed := by
  unfold stX at h
  simp only [Bool.and_eq_true, decide_eq_true_eq, beq_iff_eq] at h
  exact ⟨h.1.1.1.1, h.1.1.1.2, h.1.1.2, h.1.2, closed_of h.2⟩
/-- No end by a panic. -/
abbrev noP (Q : Exit → Act → World → Prop) : Exit → Act → World → Prop := fun e a w => match e with | .panic _ => False | e => Q e a w
/-- The region's beginning. -/
theorem wp_region_X (K : Nat → Prop) (s : Nat) {id : Nat} {a : Act} {w : World} (hm : P.follows .mixedOrders = true) (hst : stX .any ops s s (Array.replicate ops.size false) = true)
    (h : wpAnyX P .any ops (noP Q) K s s (Array.replicate ops.size false) a w) : (Code.region id ops true).wp P Q a w := by
  obtain ⟨h1, h2, h3, h4, h5⟩ := stX_spec hst
  have hh := wpAny_of_X h1 h2 s _ a w.drew h3 (fun k hk hk2 => by simp [Array.getD_eq_getD_getElem?, hk2]) h4 h5 (h.ext (Ext.drew w))
  rw [show s + (ops.size - s) = ops.size by omega] at hh
  refine Code.wp_mono (Q := noP Q) (fun e a w h => ?_) (wp_region_any hm hh)
  cases e <;> first | exact h | exact h.elim
/-- Take number i first. -/
theorem anyX_take {i : Nat} {oi : Oper} {v : Value} {fuel : Nat} {listed : Array Bool} {a : Act} {w : World} (hi : ops[i]? = some oi)
    (hs : Region.noSelect ops = true) (hf : Region.free md ops listed i = true) (hr : (Region.ready md ops listed).contains i = true) (hst : stX md ops s (fuel + 1) listed = true)
    (hy : YieldsX P ops K oi v a w)
    (h : wpAnyX P md ops (noP Q) K s fuel (listed.setIfInBounds i true) (a.put oi.dst v) w) : wpAnyX P md ops (noP Q) K s (fuel + 1) listed a w := by
  obtain ⟨h1, h2, h3, h4, h5⟩ := stX_spec hst
  exact wpAnyX_first h1 h2 hi (Region.noSelect_spec hs) (fun _ _ _ h => h) fuel listed a w h3 h4 h5 (Region.free_spec hi hf) (by simpa using hr) hy h
theorem yx_val {o : Oper} {v : Value} {a : Act} {w : World} (hwd : Region.wanted o (yielded ops a.tmps) = true) (h : ∀ w1, Chg K w w1 → (execOp a.eval o).run P w1 = .ok (.value v) w1) : YieldsX P ops K o v a w :=
  .inl ⟨hwd, fun w1 hx => .inl ⟨w1, h w1 hx, Chg.refl _ _⟩⟩
theorem yx_not {o : Oper} {a : Act} {w : World} (hwd : Region.wanted o (yielded ops a.tmps) = false) : YieldsX P ops K o undef a w := .inr ⟨hwd, rfl⟩
theorem yx_call {o : Oper} {v : Value} {a : Act} {w : World} {f : FuncId} {args : Array Value} (hwd : Region.wanted o (yielded ops a.tmps) = true) (he : ∀ w1, (execOp a.eval o).run P w1 = .ok (.enter f args) w1)
    (h : ∀ w1, Chg K w w1 → Calls P f args w1 fun e w2 => e = .returned v ∧ Ext w1 w2) : YieldsX P ops K o v a w :=
  .inl ⟨hwd, fun w1 hx => .inr ⟨f, args, w1, he w1, Chg.refl _ _, h w1 hx⟩⟩
/-- The operations that may come up now, each in a world of its own. -/
theorem anyX_ready {rs : List Nat} {fuel : Nat} {listed : Array Bool} {a : Act} {w : World} (hr : Region.ready md ops listed = rs)
    (h : ∀ w1, Ext w w1 → ∀ i ∈ rs, wpOp P ops Q i (fun a' w' => Chg K w1 w' ∧ wpAnyX P md ops Q K s fuel (listed.setIfInBounds i true) a' w') a w1) : wpAnyX P md ops Q K s (fuel + 1) listed a w :=
  fun w1 hx => hr ▸ h w1 hx
theorem anyX_nil {R : Nat → Prop} : ∀ i ∈ ([] : List Nat), R i := fun _ h => by cases h
theorem anyX_cons {R : Nat → Prop} {i : Nat} {rs : List Nat} (h : R i) (h2 : ∀ j ∈ rs, R j) : ∀ j ∈ i :: rs, R j := fun j hj => by
  cases hj with
  | head => exact h
  | tail _ hj => exact h2 j hj
/-- One that comes up and is wanted. -/
theorem anyX_step {i : Nat} {o : Oper} {N : Act → World → Prop} {a : Act} {w : World} (hi : ops[i]? = some o) (hwd : Region.wanted o (yielded ops a.tmps) = true) (h : o.wp P a w N Q) : wpOp P ops Q i N a w := by
  unfold wpOp
  simp only [hi, hwd, if_true]
  exact .inl h
end region

section list
variable {P : Program} {ops : Array Oper} {Q : Exit → Act → World → Prop} {a : Act} {w : World} {rest : List Oper} {o : Oper}
theorem wpl_valg {v : Value} (hwd : Region.wanted o (yielded ops a.tmps) = true) (hr : (execOp a.eval o).run P w = .ok (.value v) w) (h : wpList P ops Q rest (a.put o.dst v) w) : wpList P ops Q (o :: rest) a w := by
  unfold wpList
  rw [if_pos hwd]
  refine .inl ?_
  unfold Oper.wp
  rw [hr]; exact h
theorem wpl_val {v : Value} (hr : (execOp a.eval o).run P w = .ok (.value v) w) (h : wpList P ops Q rest (a.put o.dst v) w) (hgd : o.guard = none := by rfl) : wpList P ops Q (o :: rest) a w :=
  wpl_valg (by simp [Region.wanted, hgd]) hr h
theorem wpl_not (hwd : Region.wanted o (yielded ops a.tmps) = false) (h : wpList P ops Q rest (a.put o.dst undef) w) : wpList P ops Q (o :: rest) a w := by
  unfold wpList
  rw [if_neg (by simp [hwd])]; exact h
/-- Any operation, by its own rule. -/
theorem wpl_wp (hwd : Region.wanted o (yielded ops a.tmps) = true) (h : o.wp P a w (wpList P ops Q rest) Q) : wpList P ops Q (o :: rest) a w := by
  unfold wpList
  rw [if_pos hwd]; exact .inl h
end list
section op
variable {P : Program} {Q : Exit → Act → World → Prop} {a : Act} {w : World} {o : Oper} {N : Act → World → Prop}
theorem wo_val {v : Value} (hr : (execOp a.eval o).run P w = .ok (.value v) w) (h : N (a.put o.dst v) w) : o.wp P a w N Q := by
  unfold Oper.wp
  rw [hr]; exact h
theorem wo_ex {R : Value → World → Prop} (hx : ∃ v w', (execOp a.eval o).run P w = .ok (.value v) w' ∧ R v w') (h : ∀ v w', R v w' → N (a.put o.dst v) w') : o.wp P a w N Q := wpk_ex hx h
theorem wo_sk {R : World → Prop} (hx : ∃ w', (execOp a.eval o).run P w = .ok .skip w' ∧ R w') (h : ∀ w', R w' → N (a.put o.dst undef) w') : o.wp P a w N Q := wpk_sk hx h
theorem wo_call {f : FuncId} {args : Array Value} {R : Ending → World → Prop} (he : (execOp a.eval o).run P w = .ok (.enter f args) w) (hc : Calls P f args w R) (h : ∀ e w', R e w' → ∃ v, e = .returned v ∧ N (a.put o.dst v) w') : o.wp P a w N Q := by
  unfold Oper.wp
  rw [he]
  refine Calls.mono hc fun e w' hR => ?_
  obtain ⟨v, rfl, hN⟩ := h e w' hR
  exact hN
end op

section values
variable {P : Program} {a : Act} {w : World} {o : Oper}
theorem rv_move {x : Operand} {v : Value} (ho : o.op = .move x) (hx : a.eval x = v) : (execOp a.eval o).run P w = .ok (.value v) w := by
  unfold execOp; simp only [ho, hx]; rfl
theorem rv_assign {x : Operand} {v : Value} (ho : o.op = .assign x) (hx : a.eval x = v) : (execOp a.eval o).run P w = .ok (.value v) w := by
  unfold execOp; simp only [ho, hx]; rfl
theorem rv_pick {c x y : Operand} {b : Bool} {v : Value} (ho : o.op = .pick c x y) (hc : a.eval c = .bool b) (hv : (if b = true then a.eval x else a.eval y) = v) : (execOp a.eval o).run P w = .ok (.value v) w := by
  unfold execOp; simp only [ho, hc, ← hv]; rfl
theorem rv_pickT {c x y : Operand} {v : Value} (ho : o.op = .pick c x y) (hc : a.eval c = .bool true) (hv : a.eval x = v) : (execOp a.eval o).run P w = .ok (.value v) w := rv_pick ho hc (by rw [if_pos rfl]; exact hv)
theorem rv_pickF {c x y : Operand} {v : Value} (ho : o.op = .pick c x y) (hc : a.eval c = .bool false) (hv : a.eval y = v) : (execOp a.eval o).run P w = .ok (.value v) w := rv_pick ho hc (by rw [if_neg (by simp)]; exact hv)
theorem rv_nilCheck {x : Operand} {ad : Addr} (ho : o.op = .nilCheck x) (hx : a.eval x = .pointer (some ad)) : (execOp a.eval o).run P w = .ok (.value (.pointer (some ad))) w := by
  unfold execOp; simp only [ho, hx]; rfl
theorem rv_extract {x : Operand} {n : Nat} {vs : List Value} {v : Value} (ho : o.op = .extract x n) (hx : a.eval x = .tuple vs.toArray) (hv : vs[n]? = some v) : (execOp a.eval o).run P w = .ok (.value v) w := by
  unfold execOp
  simp only [ho, hx, Instr.extract, List.getElem?_toArray, hv, Sem.run_bind, Sem.run_pure, Result.andThen_ok]
theorem rv_bin {op : BinOp} {t t2 : TypeId} {x y : Operand} {k : IntKind} {m n : Int} {v : Value} (ho : o.op = .binOp op t x y t2) (hx : a.eval x = .int k m) (hy : a.eval y = .int k n) (hv : (binOp op t (.int k m) (.int k n)).run P w = .ok v w) : (execOp a.eval o).run P w = .ok (.value v) w := by
  unfold execOp
  simp only [ho, hx, hy, eqGuard, Sem.run_bind, Sem.run_pure]
  cases op <;> simp [hv]
theorem rv_add {t t2 : TypeId} {x y : Operand} {k : IntKind} {m n r : Int} (ho : o.op = .binOp .add t x y t2) (hx : a.eval x = .int k m) (hy : a.eval y = .int k n) (hr : k.wrap (m + n) = r) : (execOp a.eval o).run P w = .ok (.value (.int k r)) w :=
  rv_bin ho hx hy (by simp [binOp, Op.intArith, hr])
theorem rv_sub {t t2 : TypeId} {x y : Operand} {k : IntKind} {m n r : Int} (ho : o.op = .binOp .sub t x y t2) (hx : a.eval x = .int k m) (hy : a.eval y = .int k n) (hr : k.wrap (m - n) = r) : (execOp a.eval o).run P w = .ok (.value (.int k r)) w :=
  rv_bin ho hx hy (by simp [binOp, Op.intArith, hr])
theorem rv_mul {t t2 : TypeId} {x y : Operand} {k : IntKind} {m n r : Int} (ho : o.op = .binOp .mul t x y t2) (hx : a.eval x = .int k m) (hy : a.eval y = .int k n) (hr : k.wrap (m * n) = r) : (execOp a.eval o).run P w = .ok (.value (.int k r)) w :=
  rv_bin ho hx hy (by simp [binOp, Op.intArith, hr])
theorem rv_quo {t t2 : TypeId} {x y : Operand} {k : IntKind} {m n r : Int} (ho : o.op = .binOp .quo t x y t2) (hx : a.eval x = .int k m) (hy : a.eval y = .int k n) (hn : n ≠ 0) (hr : k.wrap (m.tdiv n) = r) : (execOp a.eval o).run P w = .ok (.value (.int k r)) w :=
  rv_bin ho hx hy (by simp [binOp, Op.intDiv, hn, hr])
theorem rv_rem {t t2 : TypeId} {x y : Operand} {k : IntKind} {m n r : Int} (ho : o.op = .binOp .rem t x y t2) (hx : a.eval x = .int k m) (hy : a.eval y = .int k n) (hn : n ≠ 0) (hr : m.tmod n = r) : (execOp a.eval o).run P w = .ok (.value (.int k r)) w :=
  rv_bin ho hx hy (by simp [binOp, Op.intDiv, hn, hr])
/-- The bits of two numbers. -/
def bitsOf (op : BinOp) (k : IntKind) (x y : Int) : Int :=
  let a := BitVec.ofInt k.bits x
  let b := BitVec.ofInt k.bits y
  match op with
  | .and => k.wrap (a &&& b).toNat
  | .or => k.wrap (a ||| b).toNat
  | .xor => k.wrap (a ^^^ b).toNat
  | _ => k.wrap (a &&& ~~~b).toNat
theorem rv_and {t t2 : TypeId} {x y : Operand} {k : IntKind} {m n r : Int} (ho : o.op = .binOp .and t x y t2) (hx : a.eval x = .int k m) (hy : a.eval y = .int k n) (hr : bitsOf .and k m n = r) : (execOp a.eval o).run P w = .ok (.value (.int k r)) w :=
  rv_bin ho hx hy (by subst hr; simp [binOp, Op.intBits, bitsOf])
theorem rv_or {t t2 : TypeId} {x y : Operand} {k : IntKind} {m n r : Int} (ho : o.op = .binOp .or t x y t2) (hx : a.eval x = .int k m) (hy : a.eval y = .int k n) (hr : bitsOf .or k m n = r) : (execOp a.eval o).run P w = .ok (.value (.int k r)) w :=
  rv_bin ho hx hy (by subst hr; simp [binOp, Op.intBits, bitsOf])
theorem rv_xor {t t2 : TypeId} {x y : Operand} {k : IntKind} {m n r : Int} (ho : o.op = .binOp .xor t x y t2) (hx : a.eval x = .int k m) (hy : a.eval y = .int k n) (hr : bitsOf .xor k m n = r) : (execOp a.eval o).run P w = .ok (.value (.int k r)) w :=
  rv_bin ho hx hy (by subst hr; simp [binOp, Op.intBits, bitsOf])
theorem rv_andNot {t t2 : TypeId} {x y : Operand} {k : IntKind} {m n r : Int} (ho : o.op = .binOp .andNot t x y t2) (hx : a.eval x = .int k m) (hy : a.eval y = .int k n) (hr : bitsOf .andNot k m n = r) : (execOp a.eval o).run P w = .ok (.value (.int k r)) w :=
  rv_bin ho hx hy (by subst hr; simp [binOp, Op.intBits, bitsOf])
theorem rv_shl {t t2 : TypeId} {x y : Operand} {k k2 : IntKind} {m r : Int} {n : Nat} (ho : o.op = .binOp .shl t x y t2) (hx : a.eval x = .int k m) (hy : a.eval y = .int k2 n) (hr : k.wrap (m * 2 ^ min n k.bits) = r) : (execOp a.eval o).run P w = .ok (.value (.int k r)) w := by
  unfold execOp
  have h0 : ¬ (n : Int) < 0 := by omega
  simp only [ho, hx, hy, eqGuard, Sem.run_bind, Sem.run_pure, binOp, Op.shift]
  simp [h0, hr]
theorem rv_shr {t t2 : TypeId} {x y : Operand} {k k2 : IntKind} {m r : Int} {n : Nat} (ho : o.op = .binOp .shr t x y t2) (hx : a.eval x = .int k m) (hy : a.eval y = .int k2 n) (hr : m.fdiv (2 ^ min n k.bits) = r) : (execOp a.eval o).run P w = .ok (.value (.int k r)) w := by
  unfold execOp
  have h0 : ¬ (n : Int) < 0 := by omega
  simp only [ho, hx, hy, eqGuard, Sem.run_bind, Sem.run_pure, binOp, Op.shift]
  simp [h0, hr]
theorem rv_lss {t t2 : TypeId} {x y : Operand} {k : IntKind} {m n : Int} {b : Bool} (ho : o.op = .binOp .lss t x y t2) (hx : a.eval x = .int k m) (hy : a.eval y = .int k n) (hr : decide (m < n) = b) : (execOp a.eval o).run P w = .ok (.value (.bool b)) w :=
  rv_bin ho hx hy (by simp [binOp, Op.intCmp, hr])
theorem rv_leq {t t2 : TypeId} {x y : Operand} {k : IntKind} {m n : Int} {b : Bool} (ho : o.op = .binOp .leq t x y t2) (hx : a.eval x = .int k m) (hy : a.eval y = .int k n) (hr : decide (m ≤ n) = b) : (execOp a.eval o).run P w = .ok (.value (.bool b)) w :=
  rv_bin ho hx hy (by simp [binOp, Op.intCmp, hr])
theorem rv_gtr {t t2 : TypeId} {x y : Operand} {k : IntKind} {m n : Int} {b : Bool} (ho : o.op = .binOp .gtr t x y t2) (hx : a.eval x = .int k m) (hy : a.eval y = .int k n) (hr : decide (n < m) = b) : (execOp a.eval o).run P w = .ok (.value (.bool b)) w :=
  rv_bin ho hx hy (by simp [binOp, Op.intCmp, hr])
theorem rv_geq {t t2 : TypeId} {x y : Operand} {k : IntKind} {m n : Int} {b : Bool} (ho : o.op = .binOp .geq t x y t2) (hx : a.eval x = .int k m) (hy : a.eval y = .int k n) (hr : decide (n ≤ m) = b) : (execOp a.eval o).run P w = .ok (.value (.bool b)) w :=
  rv_bin ho hx hy (by simp [binOp, Op.intCmp, hr])
theorem rv_eql {t t2 : TypeId} {x y : Operand} {k : IntKind} {m n : Int} {b : Bool} (ho : o.op = .binOp .eql t x y t2) (hx : a.eval x = .int k m) (hy : a.eval y = .int k n) (hr : decide (m = n) = b) : (execOp a.eval o).run P w = .ok (.value (.bool b)) w :=
  rv_bin ho hx hy (by subst hr; simp [binOp, Op.intCmp]; rfl)
theorem rv_neq {t t2 : TypeId} {x y : Operand} {k : IntKind} {m n : Int} {b : Bool} (ho : o.op = .binOp .neq t x y t2) (hx : a.eval x = .int k m) (hy : a.eval y = .int k n) (hr : decide (m = n) = b) : (execOp a.eval o).run P w = .ok (.value (.bool (!b))) w :=
  rv_bin ho hx hy (by subst hr; simp [binOp, Op.intCmp]; rfl)
theorem rv_eqs {t t2 : TypeId} {x y : Operand} {l m : List UInt8} {b : Bool} (ho : o.op = .binOp .eql t x y t2) (hx : a.eval x = .string ⟨l.toArray⟩) (hy : a.eval y = .string ⟨m.toArray⟩) (hr : decide (l = m) = b) : (execOp a.eval o).run P w = .ok (.value (.bool b)) w := by
  unfold execOp
  simp only [ho, hx, hy, eqGuard, Sem.run_bind, Sem.run_pure, binOp, Op.stringOp]
  subst hr
  by_cases h : l = m <;> simp [h]
theorem rv_not {t : TypeId} {x : Operand} {b : Bool} (ho : o.op = .unOp .not t x) (hx : a.eval x = .bool b) : (execOp a.eval o).run P w = .ok (.value (.bool (!b))) w := by
  unfold execOp; simp only [ho, hx]; rfl
theorem rv_conv {s t : TypeId} {x : Operand} {k k2 : IntKind} {n r : Int} {d : TypeDesc} (ho : o.op = .convert s t x) (hx : a.eval x = .int k n) (hs : P.underlying s = some d) (ht : P.underlying t = some (.int k2)) (hr : k2.wrap n = r) : (execOp a.eval o).run P w = .ok (.value (.int k2 r)) w := by
  unfold execOp
  simp only [ho, hx, convert, Sem.run_bind, run_underlying hs, run_underlying ht, Result.andThen_ok, Conv.intToInt, Sem.run_pure, hr]
theorem rv_nes {t t2 : TypeId} {x y : Operand} {l m : List UInt8} {b : Bool} (ho : o.op = .binOp .neq t x y t2) (hx : a.eval x = .string ⟨l.toArray⟩) (hy : a.eval y = .string ⟨m.toArray⟩) (hr : decide (l = m) = b) : (execOp a.eval o).run P w = .ok (.value (.bool (!b))) w := by
  unfold execOp
  simp only [ho, hx, hy, eqGuard, Sem.run_bind, Sem.run_pure, binOp, Op.stringOp]
  subst hr
  by_cases h : l = m <;> simp [h]
theorem eq_bool (t : TypeId) (b c : Bool) (ht : P.underlying t = some .bool) : (Op.equal t (.bool b) (.bool c)).run P w = .ok (b == c) w := by
  unfold Op.equal
  rw [show Op.maxDepth = 9999 + 1 from rfl, Op.equalIn]
  simp only [Sem.run_bind, run_underlying ht, Result.andThen_ok, Sem.run_pure]
theorem eq_nil (t : TypeId) {e : TypeId} (p : Option Addr) (ht : P.underlying t = some (.pointer e)) : (Op.equal t (.pointer p) (.pointer none)).run P w = .ok p.isNone w := by
  unfold Op.equal
  rw [show Op.maxDepth = 9999 + 1 from rfl, Op.equalIn]
  cases p <;> simp [Sem.run_bind, run_underlying ht, Result.andThen_ok, Sem.run_pure]
theorem rv_eqb {t t2 : TypeId} {x y : Operand} {b c d : Bool} (ho : o.op = .binOp .eql t x y t2) (hx : a.eval x = .bool b) (hy : a.eval y = .bool c) (ht : P.underlying t = some .bool) (hr : (b == c) = d) : (execOp a.eval o).run P w = .ok (.value (.bool d)) w := by
  unfold execOp
  subst hr
  simp only [ho, hx, hy, eqGuard, Sem.run_bind, Sem.run_pure, binOp, eq_bool t b c ht, Result.andThen_ok]
  simp
theorem rv_eqnil {t t2 : TypeId} {x y : Operand} {p : Option Addr} {e : TypeId} (ho : o.op = .binOp .eql t x y t2) (hx : a.eval x = .pointer p) (hy : a.eval y = .pointer none) (ht : P.underlying t = some (.pointer e)) : (execOp a.eval o).run P w = .ok (.value (.bool p.isNone)) w := by
  unfold execOp
  simp only [ho, hx, hy, eqGuard, Sem.run_bind, Sem.run_pure, binOp, eq_nil t p ht, Result.andThen_ok]
  cases p <;> simp
theorem rv_nenil {t t2 : TypeId} {x y : Operand} {p : Option Addr} {e : TypeId} (ho : o.op = .binOp .neq t x y t2) (hx : a.eval x = .pointer p) (hy : a.eval y = .pointer none) (ht : P.underlying t = some (.pointer e)) : (execOp a.eval o).run P w = .ok (.value (.bool p.isSome)) w := by
  unfold execOp
  simp only [ho, hx, hy, eqGuard, Sem.run_bind, Sem.run_pure, binOp, eq_nil t p ht, Result.andThen_ok]
  cases p <;> simp
theorem rv_max {x y : Operand} {ts : Array TypeId} {k : IntKind} {m n r : Int} (ho : o.op = .call { callee := .builtin .max, args := #[x, y], argTypes := ts }) (hx : a.eval x = .int k m) (hy : a.eval y = .int k n) (hr : (if n > m then n else m) = r) : (execOp a.eval o).run P w = .ok (.value (.int k r)) w := by
  unfold execOp
  simp only [ho, resolve, invoke, builtin, Sem.run_bind, Sem.run_pure, Result.andThen_ok, List.map_toArray, List.map_cons, List.map_nil, hx, hy, ← hr]
  simp [Builtin.max_, Builtin.max2]
/-- The length of a slice. -/
theorem rv_len {x : Operand} {t e : TypeId} {size n : Nat} {v : Value} {xs : List Value} (ho : o.op = .call { callee := .builtin .len, args := #[x], argTypes := #[t] }) (hx : a.eval x = v) (hr : Rd w size v n xs) (ht : P.underlying t = some (.slice e)) : (execOp a.eval o).run P w = .ok (.value (.int .i64 (n : Int))) w := by
  obtain ⟨_, _, ao, cap, rfl, _⟩ := hr
  unfold execOp
  simp only [ho, resolve, invoke, builtin, Sem.run_bind, Sem.run_pure, Result.andThen_ok, List.map_toArray, List.map_cons, List.map_nil, hx]
  simp [Builtin.len_, run_underlying ht]
  rfl
/-- Where an element of a slice lies. -/
def elemA (v : Value) (off : Nat) : Addr := match v with | .slice (some a) _ _ => a.add off | _ => ⟨0, 0, none⟩
theorem rv_index {x ix : Operand} {t e : TypeId} {size n i : Nat} {k : IntKind} {v : Value} {xs : List Value} (ho : o.op = .indexAddr t x ix) (hx : a.eval x = v) (hi : a.eval ix = .int k (i : Int)) (hr : Rd w size v n xs) (hlt : i < n) (ht : P.underlying t = some (.slice e)) (hs : (P.info? e).map (·.size) = some size) (hsz : 0 < size) : (execOp a.eval o).run P w = .ok (.value (.pointer (some (elemA v (i * size))))) w := by
  obtain ⟨hl, _, ao, cap, rfl, hn, _, hz, hc⟩ := hr
  cases ao with
  | none => have := (hz rfl).1; omega
  | some ad =>
    cases hq : P.info? e with
    | none => simp [hq] at hs
    | some inf =>
      have hsz : inf.size = size := by simpa [hq] using hs
      unfold execOp
      simp only [ho, hx, hi, Instr.indexAt, asIntOf, Sem.run_bind, Sem.run_pure, Result.andThen_ok, run_underlying ht]
      rw [if_pos (by omega)]
      simp [sizeOf, typeInfo, hq, hsz, elemA]
theorem rv_indexArr {x ix : Operand} {t e : TypeId} {len size i g off : Nat} {k : IntKind} (ho : o.op = .indexAddr t x ix) (hx : a.eval x = .pointer (some ⟨g, off, none⟩)) (hi : a.eval ix = .int k (i : Int)) (hlt : i < len) (ht : P.underlying t = some (.array len e)) (hs : (P.info? e).map (·.size) = some size) : (execOp a.eval o).run P w = .ok (.value (.pointer (some ⟨g, off + i * size, none⟩))) w := by
  cases hq : P.info? e with
  | none => simp [hq] at hs
  | some inf =>
    have hsz : inf.size = size := by simpa [hq] using hs
    unfold execOp
    simp only [ho, hx, hi, Instr.indexAt, asIntOf, Instr.sureAddr, Sem.run_bind, Sem.run_pure, Result.andThen_ok, run_underlying ht]
    rw [if_pos (by omega)]
    simp [sizeOf, typeInfo, hq, hsz, Addr.add_mid]
theorem Rd.at {w : World} {size n i : Nat} {v : Value} {xs : List Value} (hr : Rd w size v n xs) (hlt : i < n) (hs : 0 < size) : ∃ b off, (∀ k, elemA v k = ⟨b, off + k, none⟩) ∧ v.ownBlock = some b ∧ ∀ j u, xs[j]? = some u → w.cell? ⟨b, off + j, none⟩ = some u := by
  obtain ⟨b, off, cap, rfl, _, _, _, hc⟩ := hr.cells (by rw [hr.len]; exact Nat.mul_pos (by omega) hs)
  exact ⟨b, off, fun k => by simp [elemA, Addr.add_mid], rfl, hc⟩
/-- An element that lies in a slice, by value: of several cells. -/
theorem rv_loadElem {x : Operand} {ty : TypeId} {size n i : Nat} {v : Value} {xs cs : List Value} {d : TypeDesc} (ho : o.op = .load ty x) (hx : a.eval x = .pointer (some (elemA v (i * size)))) (hr : Rd w size v n xs) (hlt : i < n) (hs : 0 < size) (hcs : (xs.drop (i * size)).take size = cs) (hu : P.underlying ty = some d) (hd : d.isRow = true) (hi : (P.info? ty).map (·.size) = some size) : (execOp a.eval o).run P w = .ok (.value (.agg cs.toArray)) w := by
  obtain ⟨b, off, he, _, hc⟩ := hr.at hlt hs
  rw [he] at hx
  have hlen : cs.length = size := by
    have h2 : i * size + size ≤ n * size := by rw [← Nat.succ_mul]; exact Nat.mul_le_mul_right _ hlt
    rw [← hcs, List.length_take, List.length_drop, hr.len]; omega
  obtain ⟨v', w', h, rfl, rfl⟩ := ex_load_at (P := P) (w := w) (a := a) (o := o) ty x (b := b) (off := off + i * size) (cs := cs) (fun j u hu => by
    rw [← hcs] at hu
    rw [Nat.add_assoc]
    refine hc _ _ ?_
    rw [List.getElem?_take] at hu
    split at hu
    · rwa [List.getElem?_drop] at hu
    · cases hu) hx ho hu hd (by rw [hlen]; exact hi)
  exact h
/-- An element of one cell that lies in a slice. -/
theorem rv_loadCell {x : Operand} {ty : TypeId} {n i size : Nat} {v u : Value} {xs : List Value} {d : TypeDesc} (ho : o.op = .load ty x) {j : Nat} (hx : a.eval x = .pointer (some (elemA v j))) (hj : j = i) (hr : Rd w size v n xs) (hcs : xs[i]? = some u) (hu : P.underlying ty = some d) (hd : d.isRow = false) (hi : (P.info? ty).map (·.size) = some 1) : (execOp a.eval o).run P w = .ok (.value u) w := by
  subst hj
  obtain ⟨b, off, cap, rfl, _, _, _, hc⟩ := hr.cells (by have := (List.getElem?_eq_some_iff.1 hcs).1; omega)
  have hc1 : w.cell? ⟨b, off + j, none⟩ = some u := hc _ _ hcs
  have hag : (isAgg ty).run P w = .ok false w := by
    unfold isAgg
    simp only [Sem.run_bind, run_underlying hu, Result.andThen_ok]
    cases d <;> first | rfl | simp [TypeDesc.isRow] at hd
  cases hq : P.info? ty with
  | none => simp [hq] at hi
  | some inf =>
    have h1 : inf.size = 1 := by simpa [hq] using hi
    have he : elemA (.slice (some ⟨b, off, none⟩) n cap) j = ⟨b, off + j, none⟩ := by simp [elemA, Addr.add_mid]
    unfold execOp
    simp only [ho, hx, he, Instr.loadAt, Instr.sureAddr, Sem.run_bind, Sem.run_pure, Result.andThen_ok, loadVar, sizeOf, typeInfo, hag]
    simp [hq, h1, hc1]
/-- Bytes as a string. -/
theorem rv_str {x : Operand} {s t e : TypeId} {v : Value} {l : List UInt8} {n : Nat} (ho : o.op = .convert s t x) (hx : a.eval x = v) (hr : Rd w 1 v n (cBs l)) (hs : P.underlying s = some (.slice e)) (he : P.underlying e = some (.int .u8)) (ht : P.underlying t = some .string) : (execOp a.eval o).run P w = .ok (.value (.string ⟨l.toArray⟩)) w := by
  obtain ⟨hl, _, ao, cap, rfl, hn, _, hz, hc⟩ := hr
  unfold execOp
  simp only [ho, hx, Sem.run_bind, run_convert_bytes_string w s t e ao n cap hs he ht]
  cases ao with
  | none =>
    have h0 := (hz rfl).1
    subst h0
    have : l = [] := List.eq_nil_of_length_eq_zero (by simpa using hl)
    subst this
    rfl
  | some ad =>
    have hll : l.length = n := by simpa using hl
    have h := run_loadCells_list (P := P) (w := w) ad (cBs l) (fun j u hu => by obtain ⟨a', ha, h⟩ := hc j u hu; injection ha with ha; subst ha; exact h)
    have hm : cBs l = (l.map fun x => (x.toNat : Int)).map (Value.int .u8) := by simp [cBs, cB]
    rw [cBs_length, hll, hm] at h
    rw [run_bytesToString w ad n cap _ h]
    have hf : ∀ (m : List UInt8) (s : ByteArray), (m.map fun x => (x.toNat : Int)).foldl (fun r n => r.push (UInt8.ofNat n.toNat)) s = ⟨s.data ++ m.toArray⟩ := by
      intro m
      induction m with
      | nil => intro s; simp
      | cons c m ih => intro s; simp only [List.map_cons, List.foldl_cons, ih]; simp [ByteArray.push]
    rw [hf]
    simp only [Result.andThen, Sem.run_pure]
    rw [show (ByteArray.empty.data : Array UInt8) = #[] from rfl, Array.empty_append]
/-- A function of the program is entered. -/
theorem rv_call {f : FuncId} {as : List Operand} {ts : Array TypeId} {args : List Value} (ho : o.op = .call { callee := .value (.func f), args := as.toArray, argTypes := ts }) (ha : as.map a.eval = args) (hc : ∀ (args : Array Value) (w : World), (callFunc f args).run P w = .ok (.enter f args) w) : (execOp a.eval o).run P w = .ok (.enter f args.toArray) w := by
  unfold execOp
  simp only [ho, resolve, Act.eval, Deferred.ofValue, Sem.run_bind, Sem.run_pure, Result.andThen_ok, invoke]
  have : (fun x => Act.eval a x) = a.eval := rfl
  simp [hc, ← ha]
theorem rv_fieldAddr {t : TypeId} {x : Operand} {f g off r : Nat} {fs : Array Field} {fd : Field} {n : Nat} (ho : o.op = .fieldAddr t x f) (hx : a.eval x = .pointer (some ⟨g, off, none⟩)) (hu : P.underlying t = some (.struct fs)) (hf : fs[f]? = some fd) (hr : off + fd.offset = r) (hs : (P.info? fd.type).map (·.size) = some (n + 1)) : (execOp a.eval o).run P w = .ok (.value (.pointer (some ⟨g, r, none⟩))) w := by
  subst hr
  cases hq : P.info? fd.type with
  | none => simp [hq] at hs
  | some inf =>
    have h1 : inf.size = n + 1 := by simpa [hq] using hs
    unfold execOp
    simp only [ho, hx, Instr.fieldAt, Instr.sureAddr, Sem.run_bind, Sem.run_pure, Result.andThen_ok, run_underlying hu, hf, fieldPlace, sizeOf, typeInfo]
    simp [hq, h1, Addr.add_mid]
/-- A whole array as a slice. -/
theorem rv_sliceArr {t e : TypeId} {x : Operand} {g off n size : Nat} (ho : o.op = .slice t x none none none) (hx : a.eval x = .pointer (some ⟨g, off, none⟩)) (hu : P.underlying t = some (.array n e)) (hs : (P.info? e).map (·.size) = some size) (hn : 0 < n) : (execOp a.eval o).run P w = .ok (.value (.slice (some ⟨g, off, none⟩) n n)) w := by
  cases hq : P.info? e with
  | none => simp [hq] at hs
  | some inf =>
    unfold execOp
    simp only [ho, hx, Option.map_none, Instr.sliceAt, Instr.sureAddr, Instr.sliceBounds, Sem.run_bind, Sem.run_pure, Result.andThen_ok, run_underlying hu, sizeOf, typeInfo]
    simp [hq, Addr.add, show ¬ n = 0 from by omega]
end values

/-! Frames as functions of the slot. -/
/-- A state of n slots. -/
def fr (n : Nat) (F : Nat → Value) : Act := ⟨((List.range n).map F).toArray, []⟩
/-- A slot written. -/
def upd (F : Nat → Value) (d : Option Tmp) (v : Value) : Nat → Value := match d with | some d => fun t => if t = d then v else F t | none => F
theorem fr_get (n : Nat) (F : Nat → Value) (t : Nat) : (fr n F).tmps[t]? = if t < n then some (F t) else none := by
  unfold fr
  by_cases h : t < n
  · simp [h]
  · simp [h]
theorem fr_eval {n : Nat} {F : Nat → Value} {t : Nat} {v : Value} (h : Nat.blt t n = true) (e : F t = v) : (fr n F).eval (.tmp t) = v := by
  have h : t < n := by simpa using h
  simp only [Act.eval, Array.getD_eq_getD_getElem?, fr_get, if_pos h, Option.getD_some, e]
theorem fr_put (n : Nat) (F : Nat → Value) (d : Option Tmp) (v : Value) : (fr n F).put d v = fr n (upd F d v) := by
  cases d with
  | none => rfl
  | some d =>
    have : ((fr n F).put (some d) v).tmps = (fr n (upd F (some d) v)).tmps := by
      apply Array.ext_getElem?
      intro i
      simp only [Act.put, Array.getElem?_setIfInBounds, fr_get, upd]
      have hs : (fr n F).tmps.size = n := by simp [fr]
      by_cases h1 : d = i
      · subst h1
        simp only [if_true, hs]
      · have h2 : ¬ i = d := fun h => h1 h.symm
        simp only [h1, h2, if_false]
    show Act.mk _ _ = Act.mk _ _
    have h2 : ((fr n F).put (some d) v).defers = [] := rfl
    simp only [Act.put] at this h2
    exact congr (congrArg Act.mk this) h2
theorem fr_init (n : Nat) (l : List Value) (h : l.length ≤ n) : (⟨l.toArray ++ Array.replicate (n - l.toArray.size) undef, []⟩ : Act) = fr n (fun t => l.getD t undef) := by
  unfold fr
  congr 1
  apply Array.ext_getElem?
  intro i
  by_cases h1 : i < l.length
  · have : i < n := by omega
    simp [Array.getElem?_append, h1, this]
  · by_cases h2 : i < n
    · have : i - l.length < n - l.length := by omega
      simp [Array.getElem?_append, h1, h2, this]
    · have : ¬ i - l.length < n - l.length := by omega
      simp [Array.getElem?_append, h1, h2, this]
section fr
variable {P : Program} {ops : Array Oper} {Q : Exit → Act → World → Prop} {w : World} {rest : List Oper} {o : Oper} {n : Nat} {F : Nat → Value} {c : Code}
theorem calls_fr {f : FuncId} {fn : Func} {args : List Value} {R : Ending → World → Prop} (hf : P.funcs[f]? = some fn) (hb : fn.body = some c) (hn : fn.ntmps = n) (hl : args.length ≤ n)
    (h : c.wp P (bodyPost P fn R) (fr n (fun t => args.getD t undef)) w) : Calls P f args.toArray w R := by
  refine calls_of_wp hf hb ?_
  rw [hn, fr_init n args hl]; exact h
theorem wp_gen (G : (Nat → Value) → Prop) (hG : G F) (h : ∀ F', G F' → c.wp P Q (fr n F') w) : c.wp P Q (fr n F) w := h F hG
theorem wantF {j d : Nat} {b : Bool} (hg : o.guard = some (j, b)) (hd : (ops[j]?).bind (·.dst) = some d) (hn : Nat.blt d n = true) (e : F d = .bool b) : Region.wanted o (yielded ops (fr n F).tmps) = true := by
  have hn : d < n := by simpa using hn
  simp only [Region.wanted, hg, yielded, hd, Option.bind_some, fr_get, if_pos hn, e]
  cases b <;> rfl
theorem wantNot {j d : Nat} {b : Bool} (hg : o.guard = some (j, b)) (hd : (ops[j]?).bind (·.dst) = some d) (hn : Nat.blt d n = true) (e : F d = .bool (!b)) : Region.wanted o (yielded ops (fr n F).tmps) = false := by
  have hn : d < n := by simpa using hn
  simp only [Region.wanted, hg, yielded, hd, Option.bind_some, fr_get, if_pos hn, e]
  cases b <;> rfl
theorem wantAll (hg : o.guard = none) : Region.wanted o (yielded ops (fr n F).tmps) = true := by simp [Region.wanted, hg]
theorem lf_val {v : Value} (hwd : Region.wanted o (yielded ops (fr n F).tmps) = true) (hr : (execOp (fr n F).eval o).run P w = .ok (.value v) w) (h : wpList P ops Q rest (fr n (upd F o.dst v)) w) : wpList P ops Q (o :: rest) (fr n F) w :=
  wpl_valg hwd hr (by rw [fr_put]; exact h)
theorem lf_not (hwd : Region.wanted o (yielded ops (fr n F).tmps) = false) (h : wpList P ops Q rest (fr n (upd F o.dst undef)) w) : wpList P ops Q (o :: rest) (fr n F) w :=
  wpl_not hwd (by rw [fr_put]; exact h)
theorem lf_ex {R : Value → World → Prop} (hwd : Region.wanted o (yielded ops (fr n F).tmps) = true) (hx : ∃ v w', (execOp (fr n F).eval o).run P w = .ok (.value v) w' ∧ R v w') (h : ∀ v w', R v w' → wpList P ops Q rest (fr n (upd F o.dst v)) w') : wpList P ops Q (o :: rest) (fr n F) w :=
  wpl_wp hwd (wo_ex hx fun v w' h' => by rw [fr_put]; exact h v w' h')
theorem lf_sk {R : World → Prop} (hwd : Region.wanted o (yielded ops (fr n F).tmps) = true) (hx : ∃ w', (execOp (fr n F).eval o).run P w = .ok .skip w' ∧ R w') (h : ∀ w', R w' → wpList P ops Q rest (fr n (upd F o.dst undef)) w') : wpList P ops Q (o :: rest) (fr n F) w :=
  wpl_wp hwd (wo_sk hx fun w' h' => by rw [fr_put]; exact h w' h')
theorem lf_call {f : FuncId} {args : Array Value} {R : Ending → World → Prop} (hwd : Region.wanted o (yielded ops (fr n F).tmps) = true) (he : (execOp (fr n F).eval o).run P w = .ok (.enter f args) w) (hc : Calls P f args w R) (h : ∀ e w', R e w' → ∃ v, e = .returned v ∧ wpList P ops Q rest (fr n (upd F o.dst v)) w') : wpList P ops Q (o :: rest) (fr n F) w :=
  wpl_wp hwd (wo_call he hc fun e w' h' => by obtain ⟨v, hv, h2⟩ := h e w' h'; exact ⟨v, hv, by rw [fr_put]; exact h2⟩)
theorem lf_nil (h : Q .normal (fr n F) w) : wpList P ops Q [] (fr n F) w := h
/-- The same for one operation that comes up in a region that draws. -/
theorem of_val {N : Act → World → Prop} {v : Value} (hr : (execOp (fr n F).eval o).run P w = .ok (.value v) w) (h : N (fr n (upd F o.dst v)) w) : o.wp P (fr n F) w N Q := wo_val hr (by rw [fr_put]; exact h)
theorem of_ex {N : Act → World → Prop} {R : Value → World → Prop} (hx : ∃ v w', (execOp (fr n F).eval o).run P w = .ok (.value v) w' ∧ R v w') (h : ∀ v w', R v w' → N (fr n (upd F o.dst v)) w') : o.wp P (fr n F) w N Q := wo_ex hx fun v w' h' => by rw [fr_put]; exact h v w' h'
theorem of_sk {N : Act → World → Prop} {R : World → Prop} (hx : ∃ w', (execOp (fr n F).eval o).run P w = .ok .skip w' ∧ R w') (h : ∀ w', R w' → N (fr n (upd F o.dst undef)) w') : o.wp P (fr n F) w N Q := wo_sk hx fun w' h' => by rw [fr_put]; exact h w' h'
theorem of_call {N : Act → World → Prop} {f : FuncId} {args : Array Value} {R : Ending → World → Prop} (he : (execOp (fr n F).eval o).run P w = .ok (.enter f args) w) (hc : Calls P f args w R) (h : ∀ e w', R e w' → ∃ v, e = .returned v ∧ N (fr n (upd F o.dst v)) w') : o.wp P (fr n F) w N Q :=
  wo_call he hc fun e w' h' => by obtain ⟨v, hv, h2⟩ := h e w' h'; exact ⟨v, hv, by rw [fr_put]; exact h2⟩
variable {md : Region.Mode} {K : Nat → Prop}
theorem xl_take {l : List Oper} {s i : Nat} {oi : Oper} {v : Value} {fuel : Nat} {listed : Array Bool} (hi : l[i]? = some oi)
    (hs : Region.noSelect l.toArray = true) (hf : Region.free md l.toArray listed i = true) (hr : (Region.ready md l.toArray listed).contains i = true) (hst : stX md l.toArray s (fuel + 1) listed = true)
    (hy : YieldsX P l.toArray K oi v (fr n F) w)
    (h : wpAnyX P md l.toArray (noP Q) K s fuel (listed.setIfInBounds i true) (fr n (upd F oi.dst v)) w) : wpAnyX P md l.toArray (noP Q) K s (fuel + 1) listed (fr n F) w :=
  anyX_take (by simpa using hi) hs hf hr hst hy (by rw [fr_put]; exact h)
theorem xl_tail {l rest : List Oper} {s : Nat} {listed : Array Bool} (hd : l.drop s = rest) (h : ∀ w1, Ext w w1 → wpList P l.toArray (noP Q) rest (fr n F) w1) : wpAnyX P md l.toArray (noP Q) K s 0 listed (fr n F) w := by
  intro w1 hx
  have := wpOps_eq_wpList (P := P) (ops := l.toArray) (Q := noP Q) rest s (fun j => by rw [← hd]; simp [List.getElem?_drop])
  have hl : rest.length = l.toArray.size - s := by rw [← hd]; simp
  rw [hl] at this
  rw [this]; exact h w1 hx
theorem xl_step {l : List Oper} {i : Nat} {N : Act → World → Prop} {oi : Oper} (hi : l[i]? = some oi) (hwd : Region.wanted oi (yielded l.toArray (fr n F).tmps) = true) (h : oi.wp P (fr n F) w N Q) : wpOp P l.toArray Q i N (fr n F) w :=
  anyX_step (by simpa using hi) hwd h
theorem wp_regionX (K : Nat → Prop) (s : Nat) {id : Nat} {l : List Oper} (hm : P.follows .mixedOrders = true) (hst : stX .any l.toArray s s (List.replicate l.length false).toArray = true)
    (h : wpAnyX P .any l.toArray (noP Q) K s s (List.replicate l.length false).toArray (fr n F) w) : (Code.region id l.toArray true).wp P Q (fr n F) w := by
  have e : (Array.replicate l.toArray.size false) = (List.replicate l.length false).toArray := by rw [← List.toArray_replicate]; simp
  refine wp_region_X K s hm ?_ ?_
  · rw [e]; exact hst
  · rw [e]; exact h
theorem noP_n {a : Act} (h : Q .normal a w) : noP Q .normal a w := h
theorem evn {f : Operand → Value} : List.map f [] = [] := rfl
theorem evc {f : Operand → Value} {x : Operand} {v : Value} {l : List Operand} {m : List Value} (h : f x = v) (t : List.map f l = m) : List.map f (x :: l) = v :: m := by rw [List.map_cons, h, t]
theorem wrap_i64 {z r : Int} (h : z = r) (h1 : -9223372036854775808 ≤ r) (h2 : r ≤ 9223372036854775807) : IntKind.i64.wrap z = r := by
  subst h; exact IntWalk.i64_in _ (by omega)
theorem wrap_u64 {z r : Int} (h : z % 18446744073709551616 = r) : IntKind.u64.wrap z = r := by
  subst h; unfold IntKind.wrap; simp [IntKind.bits, IntKind.signed]
theorem wrap_u32 {z r : Int} (h : z % 4294967296 = r) : IntKind.u32.wrap z = r := by
  subst h; unfold IntKind.wrap; simp [IntKind.bits, IntKind.signed]
theorem wrap_u8 {z r : Int} (h : z % 256 = r) : IntKind.u8.wrap z = r := by
  subst h; unfold IntKind.wrap; simp [IntKind.bits, IntKind.signed]
/-! Results. -/
def resS (tmps : Array Value) : ResultVar → Sem Value
  | .tmp t => pure (tmps.getD t undef)
  | .cell a t => do loadVar t (← asAddr (tmps.getD a undef))
def ResOk (P : Program) (w : World) (a : Act) (r : ResultVar) (v : Value) : Prop := (resS a.tmps r).run P w = .ok v w
theorem results_resS (fn : Func) (tmps : Array Value) : results fn tmps = (do
  let vs ← fn.results.mapM (resS tmps)
  pure (if h : vs.size = 1 then vs[0] else .tuple vs) : Sem Value) := rfl
theorem ro_tmp {t : Nat} {v : Value} (h : Nat.blt t n = true) (e : F t = v) : ResOk P w (fr n F) (.tmp t) v := by
  have := fr_eval h e
  rw [← this]; rfl
theorem ro_cell {p g : Nat} {ty T : TypeId} {cs : List Value} {d : TypeDesc} (h : Nat.blt p n = true) (e : F p = .pointer (some ⟨g, 0, none⟩)) (hb : Blk w g cs T) (hu : P.underlying ty = some d) (hd : (match d with | .struct _ | .array _ _ => true | _ => false) = true) (hi : (P.info? ty).map (·.size) = some cs.length) : ResOk P w (fr n F) (.cell p ty) (.agg cs.toArray) := by
  have hp : (fr n F).tmps.getD p undef = .pointer (some ⟨g, 0, none⟩) := fr_eval (v := .pointer (some ⟨g, 0, none⟩)) h e
  unfold ResOk resS
  simp only [hp]
  simp [asAddr, run_loadVar_row w g T ty cs.toArray (0, 0) d hb hu hd (by simpa using hi), Result.andThen]
theorem res0 {fn : Func} {a : Act} (h : fn.results = #[]) : (results fn a.tmps).run P w = .ok (.tuple #[]) w := results_none h _ _ _
theorem res1 {fn : Func} {a : Act} {r : ResultVar} {v : Value} (h : fn.results = #[r]) (h1 : ResOk P w a r v) : (results fn a.tmps).run P w = .ok v w := by
  unfold ResOk at h1
  rw [results_resS]
  simp [h, h1, Result.andThen]
theorem res2 {fn : Func} {a : Act} {r s : ResultVar} {v u : Value} (h : fn.results = #[r, s]) (h1 : ResOk P w a r v) (h2 : ResOk P w a s u) : (results fn a.tmps).run P w = .ok (.tuple #[v, u]) w := by
  unfold ResOk at h1 h2
  rw [results_resS]
  simp [h, h1, h2, Result.andThen]
/-- Codes. -/
theorem then_n {N : Act → World → Prop} {a : Act} (h : N a w) : Exit.then N Q .normal a w := h
theorem then_ret {N : Act → World → Prop} {a : Act} (h : Q .ret a w) : Exit.then N Q .ret a w := h
theorem then_exit {N : Act → World → Prop} {a : Act} {id : Nat} (h : Q (.exit id) a w) : Exit.then N Q (.exit id) a w := h
theorem blk_n {a : Act} {id : Nat} (h : Q .normal a w) : Exit.inBlock id Q .normal a w := h
theorem blk_ret {a : Act} {id : Nat} (h : Q .ret a w) : Exit.inBlock id Q .ret a w := h
theorem blk_exit {a : Act} {id : Nat} (h : Q .normal a w) : Exit.inBlock id Q (.exit id) a w := by simpa [Exit.inBlock] using h
theorem blk_exit_ne {a : Act} {id j : Nat} (hn : ¬ j = id) (h : Q (.exit j) a w) : Exit.inBlock id Q (.exit j) a w := by simpa [Exit.inBlock, hn] using h
theorem wp_regionF {id : Nat} {l : List Oper} (h : wpList P l.toArray Q l (fr n F) w) : (Code.region id l.toArray false).wp P Q (fr n F) w := wp_region_lit h
theorem wp_loopF (I : Nat → (Nat → Value) → World → Prop) {m : Nat} (h0 : I m F w) (h : ∀ m F w, I m F w → c.wp P (Exit.then (fun a' w' => ∃ m' F', m' < m ∧ a' = fr n F' ∧ I m' F' w') Q) (fr n F) w) : (Code.loop c).wp P Q (fr n F) w := by
  have key : ∀ m F w, I m F w → (Code.loop c).wp P Q (fr n F) w := by
    intro m F w hI
    refine wp_loop_ghost (fun m a w => ∃ F, a = fr n F ∧ I m F w) m ⟨F, rfl, hI⟩ ?_
    rintro m a w ⟨F, rfl, hI⟩
    refine Code.wp_mono ?_ (h m F w hI)
    intro e a' w' h'
    cases e with
    | normal => obtain ⟨m', F', hm, rfl, hI'⟩ := h'; exact ⟨m', hm, F', rfl, hI'⟩
    | _ => exact h'
  exact key m F w h0
end fr
end Go.Bz
