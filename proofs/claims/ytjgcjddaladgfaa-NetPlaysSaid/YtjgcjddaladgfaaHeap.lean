/- A walk's memory as one fact: a list of objects that stand apart, and what each operation makes of it. -/
import Derived.Test.YtjgcjddaladgfaaRowF
import Derived.Test.YtjgcjddaladgfaaLit
namespace Go.Bz
open Go.RowKit
/-- An object: the blocks that are its own, and what holds of it. -/
structure MemO where
  fp : Nat → Prop
  R : World → Prop
/-- Its blocks may change and are there, and it stays as long as they do. -/
structure MemO.At (N : Nat → Prop) (w : World) (O : MemO) : Prop where
  sub : ∀ k, O.fp k → N k
  lt : ∀ k, O.fp k → k < w.heap.size
  stay : ∀ w' (K : Nat → Prop), Chg K w w' → (∀ k, K k → N k) → (∀ k, O.fp k → ¬ K k) → O.R w'
theorem Chg.both {K K' : Nat → Prop} {a b c : World} (h : Chg K a b) (k : Chg K' b c) : Chg (fun i => K i ∨ K' i) a c := (h.mono fun _ _ h => .inl h).trans (k.mono fun _ _ h => .inr h)
theorem MemO.At.R {N : Nat → Prop} {w : World} {O : MemO} (h : O.At N w) : O.R w := h.stay w (fun _ => False) (Chg.refl _ _) (fun _ h => h.elim) (fun _ _ h => h)
theorem MemO.At.keep {N K : Nat → Prop} {w w' : World} {O : MemO} (h : O.At N w) (hc : Chg K w w') (hk : ∀ k, K k → N k) (hd : ∀ k, O.fp k → ¬ K k) : O.At N w' :=
  ⟨h.sub, fun k hf => Nat.lt_of_lt_of_le (h.lt k hf) hc.size, fun w2 K2 hc2 hk2 hd2 => h.stay w2 _ (hc.both hc2) (fun k hh => hh.elim (hk k) (hk2 k)) (fun k hf hh => hh.elim (hd k hf) (hd2 k hf))⟩
theorem MemO.At.conv {N : Nat → Prop} {w : World} {O O' : MemO} (h : O.At N w) (hf : ∀ k, O'.fp k ↔ O.fp k) (hR : ∀ w', O.R w' → O'.R w') : O'.At N w :=
  ⟨fun k hk => h.sub k ((hf k).1 hk), fun k hk => h.lt k ((hf k).1 hk), fun w2 K hc hk hd => hR _ (h.stay w2 K hc hk fun k hk' => hd k ((hf k).2 hk'))⟩
def Apart (A B : MemO) : Prop := ∀ k, A.fp k → ¬ B.fp k
structure Heap (N : Nat → Prop) (w0 w : World) (L : List MemO) : Prop where
  chg : Chg N w0 w
  up : ∀ k, w0.heap.size ≤ k → N k
  al : ∀ O ∈ L, O.At N w
  apart : L.Pairwise Apart
/-- Blocks that came later. -/
abbrev newN (w : World) : Nat → Prop := fun k => w.heap.size ≤ k
abbrev newK (w : World) (K : Nat → Prop) : Nat → Prop := fun k => w.heap.size ≤ k ∨ K k
section
variable {N : Nat → Prop} {w0 w w' : World} {L L2 : List MemO} {O O' : MemO} {i : Nat}
theorem Heap.one (hH : Heap N w0 w L) (hi : L[i]? = some O) : O.At N w := hH.al O (List.mem_of_getElem? hi)
theorem Heap.get (hH : Heap N w0 w L) (hi : L[i]? = some O) : O.R w := (hH.one hi).R
theorem Heap.start (hup : ∀ k, w.heap.size ≤ k → N k) : Heap N w w [] := ⟨Chg.refl _ _, hup, fun _ h => (by simp at h), List.Pairwise.nil⟩
theorem Heap.fresh : Heap (newN w) w w [] := Heap.start fun _ h => h
theorem Heap.size (hH : Heap N w0 w L) : w0.heap.size ≤ w.heap.size := hH.chg.size
theorem Heap.ext (hH : Heap N w0 w L) (hx : Ext w w') : Heap N w0 w' L :=
  ⟨hH.chg.trans (Ext.any hx), hH.up, fun O h => (hH.al O h).keep hx (fun _ h => h.elim) (fun _ _ h => h), hH.apart⟩
theorem Heap.add (hH : Heap N w0 w L) (hx : Ext w w') (hf : ∀ k, O.fp k → w.heap.size ≤ k ∧ k < w'.heap.size) (hs : ∀ w2 (K : Nat → Prop), Chg K w' w2 → (∀ k, K k → N k) → (∀ k, O.fp k → ¬ K k) → O.R w2) : Heap N w0 w' (L ++ [O]) := by
  have h1 := hH.ext hx
  refine ⟨h1.chg, h1.up, fun A hA => ?_, ?_⟩
  · rcases List.mem_append.1 hA with hA | hA
    · exact h1.al A hA
    · obtain rfl : A = O := by simpa using hA
      exact ⟨fun k hk => hH.up k (Nat.le_trans hH.size (hf k hk).1), fun k hk => (hf k hk).2, hs⟩
  · rw [List.pairwise_append]
    refine ⟨h1.apart, by simp, fun A hA B hB k hk hk2 => ?_⟩
    obtain rfl : B = O := by simpa using hB
    have := (hH.al A hA).lt k hk
    have := (hf k hk2).1
    omega
theorem pairwise_set {R : MemO → MemO → Prop} (hsym : ∀ A B, R A B → R B A) : ∀ {L : List MemO} {i : Nat} {O' : MemO}, L.Pairwise R → (∀ (j : Nat) A, j ≠ i → L[j]? = some A → R A O') → (L.set i O').Pairwise R := by
  intro L
  induction L with
  | nil => intro i O' h _; simp
  | cons B L ih =>
    intro i O' h hd
    cases i with
    | zero =>
      rw [List.set_cons_zero, List.pairwise_cons]
      rw [List.pairwise_cons] at h
      refine ⟨fun A hA => ?_, h.2⟩
      obtain ⟨j, hj⟩ := List.getElem?_of_mem hA
      exact hsym _ _ (hd (j + 1) A (by simp) (by simpa using hj))
    | succ i =>
      rw [List.set_cons_succ, List.pairwise_cons]
      rw [List.pairwise_cons] at h
      refine ⟨fun A hA => ?_, ih h.2 fun j A hj hA => hd (j + 1) A (by omega) (by simpa using hA)⟩
      rcases List.mem_or_eq_of_mem_set hA with hA | rfl
      · exact h.1 A hA
      · exact hd 0 B (by omega) rfl
theorem Apart.symm {A B : MemO} (h : Apart A B) : Apart B A := fun k hb ha => h k ha hb
theorem apart_at : ∀ {L : List MemO} {i j : Nat} {A B : MemO}, L.Pairwise Apart → L[i]? = some A → L[j]? = some B → i ≠ j → Apart A B := by
  intro L
  induction L with
  | nil => intro i j A B _ h; simp at h
  | cons C L ih =>
    intro i j A B h hi hj hn
    rw [List.pairwise_cons] at h
    cases i with
    | zero =>
      cases j with
      | zero => exact absurd rfl hn
      | succ j =>
        simp at hi hj; subst hi
        exact h.1 B (List.mem_of_getElem? hj)
    | succ i =>
      cases j with
      | zero => simp at hi hj; subst hj; exact (h.1 A (List.mem_of_getElem? hi)).symm
      | succ j => exact ih h.2 (by simpa using hi) (by simpa using hj) (by omega)
/-- An object changes its own blocks, or goes over to new ones. -/
theorem Heap.mut (hH : Heap N w0 w L) (hi : L[i]? = some O) (hc : Chg O.fp w w') (hf : ∀ k, O'.fp k → O.fp k ∨ (w.heap.size ≤ k ∧ k < w'.heap.size))
    (hs : ∀ w2 (K : Nat → Prop), Chg K w' w2 → (∀ k, K k → N k) → (∀ k, O'.fp k → ¬ K k) → O'.R w2) (hL : L.set i O' = L2) : Heap N w0 w' L2 := by
  subst hL
  have hO := hH.one hi
  have hN : ∀ k, O'.fp k → N k := fun k hk => (hf k hk).elim (hO.sub k) fun h => hH.up k (Nat.le_trans hH.size h.1)
  refine ⟨hH.chg.trans (hc.mono fun k _ hk => hO.sub k hk), hH.up, fun A hA => ?_, pairwise_set (fun _ _ h => h.symm) hH.apart fun j A hj hA k hk hk2 => ?_⟩
  · obtain ⟨j, hj⟩ := List.getElem?_of_mem hA
    by_cases hij : j = i
    · subst hij
      have : A = O' := by
        rw [List.getElem?_set_self (List.getElem?_eq_some_iff.1 hi).1] at hj
        exact (Option.some.inj hj).symm
      subst this
      exact ⟨hN, fun k hk => (hf k hk).elim (fun h => Nat.lt_of_lt_of_le (hO.lt k h) hc.size) fun h => h.2, hs⟩
    · rw [List.getElem?_set_ne (fun h => hij h.symm)] at hj
      exact (hH.one hj).keep hc hO.sub (apart_at hH.apart hj hi hij)
  · rcases hf k hk2 with h | h
    · exact apart_at hH.apart hA hi hj k hk h
    · have := (hH.one hA).lt k hk; omega
theorem Heap.conv (hH : Heap N w0 w L) (hi : L[i]? = some O) (hf : ∀ k, O'.fp k ↔ O.fp k) (hR : ∀ w', O.R w' → O'.R w') (hL : L.set i O' = L2) : Heap N w0 w L2 :=
  hH.mut hi (Chg.refl _ _) (fun k hk => .inl ((hf k).1 hk)) ((hH.one hi).conv hf hR).stay hL
theorem Heap.drop (hH : Heap N w0 w L) (hs : L2.Sublist L) : Heap N w0 w L2 := ⟨hH.chg, hH.up, fun O h => hH.al O (hs.subset h), hH.apart.sublist hs⟩
theorem pairwise_erase {R : MemO → MemO → Prop} {L : List MemO} (h : L.Pairwise R) (i : Nat) : (L.eraseIdx i).Pairwise R := h.sublist (List.eraseIdx_sublist ..)
/-- Two objects as one. -/
theorem Heap.join {j : Nat} {A B : MemO} (hH : Heap N w0 w L) (hi : L[i]? = some A) (hj : L[j]? = some B) (hn : i ≠ j) (hf : ∀ k, O'.fp k ↔ A.fp k ∨ B.fp k) (hR : ∀ w', A.R w' → B.R w' → O'.R w') (hL : (L.set i O').eraseIdx j = L2) : Heap N w0 w L2 := by
  subst hL
  have hA := hH.one hi
  have hB := hH.one hj
  have hO : O'.At N w := ⟨fun k hk => ((hf k).1 hk).elim (hA.sub k) (hB.sub k), fun k hk => ((hf k).1 hk).elim (hA.lt k) (hB.lt k), fun w2 K hc hk hd => hR _ (hA.stay w2 K hc hk fun k h => hd k ((hf k).2 (.inl h))) (hB.stay w2 K hc hk fun k h => hd k ((hf k).2 (.inr h)))⟩
  refine ⟨hH.chg, hH.up, fun C hC => ?_, ?_⟩
  · rcases List.mem_or_eq_of_mem_set ((List.eraseIdx_sublist ..).subset hC) with h | rfl
    · exact hH.al C h
    · exact hO
  · -- what stands apart from B and A stands apart from both
    have key : ∀ (p q : Nat) (C D : MemO), p < q → (L.set i O')[p]? = some C → (L.set i O')[q]? = some D → p ≠ j → q ≠ j → Apart C D := by
      intro p q C D hpq hp hq hpj hqj
      by_cases h1 : p = i
      · subst h1
        rw [List.getElem?_set_self (List.getElem?_eq_some_iff.1 hi).1] at hp
        rw [List.getElem?_set_ne (by omega)] at hq
        obtain rfl := Option.some.inj hp
        intro k hk hk2
        rcases (hf k).1 hk with h | h
        · exact apart_at hH.apart hi hq (by omega) k h hk2
        · exact apart_at hH.apart hj hq (by omega) k h hk2
      · rw [List.getElem?_set_ne (by omega)] at hp
        by_cases h2 : q = i
        · subst h2
          rw [List.getElem?_set_self (List.getElem?_eq_some_iff.1 hi).1] at hq
          obtain rfl := Option.some.inj hq
          intro k hk hk2
          rcases (hf k).1 hk2 with h | h
          · exact apart_at hH.apart hp hi (by omega) k hk h
          · exact apart_at hH.apart hp hj (by omega) k hk h
        · rw [List.getElem?_set_ne (by omega)] at hq
          exact apart_at hH.apart hp hq (by omega)
    rw [List.pairwise_iff_getElem]
    intro p q hp hq hpq
    rw [List.getElem_eraseIdx, List.getElem_eraseIdx]
    split <;> split
    · exact key p q _ _ hpq (List.getElem?_eq_getElem _) (List.getElem?_eq_getElem _) (by omega) (by omega)
    · exact key p (q + 1) _ _ (by omega) (List.getElem?_eq_getElem _) (List.getElem?_eq_getElem _) (by omega) (by omega)
    · omega
    · exact key (p + 1) (q + 1) _ _ (by omega) (List.getElem?_eq_getElem _) (List.getElem?_eq_getElem _) (by omega) (by omega)
/-- Another order. -/
theorem Heap.perm (hH : Heap N w0 w L) (hp : L2.Perm L) : Heap N w0 w L2 :=
  ⟨hH.chg, hH.up, fun O h => hH.al O (hp.subset h), (hp.pairwise_iff (fun h => Apart.symm h)).2 hH.apart⟩
/-- An object that has no block. -/
theorem Heap.bare (hH : Heap N w0 w L) (hf : ∀ k, ¬ O.fp k) (hR : ∀ w2, O.R w2) : Heap N w0 w (L ++ [O]) := hH.add (Chg.refl _ _) (fun k hk => absurd hk (hf k)) fun _ _ _ _ _ => hR _
theorem Heap.done (hH : Heap (newN w0) w0 w L) : Ext w0 w := hH.chg.mono fun k h1 h2 => by omega
theorem Heap.doneK {K : Nat → Prop} (hH : Heap (newK w0 K) w0 w L) : Chg K w0 w := hH.chg.mono fun k h1 h2 => h2.elim (fun h => by omega) id
end
/-- A block of cells. -/
def oBlk (g : Nat) (cs : List Value) (T : TypeId) : MemO := ⟨fun k => k = g, fun w => Blk w g cs T⟩
/-- An owned row. -/
def oOwn (e : TypeId) (size : Nat) (v : Value) (n : Nat) (xs : List Value) : MemO := ⟨fun k => v.ownBlock = some k, fun w => Own w e size v n xs⟩
/-- An owned row whose elements are the cells of f. -/
abbrev oRow {α : Type} (f : α → List Value) (e : TypeId) (size : Nat) (v : Value) (l : List α) : MemO := oOwn e size v l.length (l.flatMap f)
section
variable {N : Nat → Prop} {w0 w w' : World} {L L2 : List MemO} {i g : Nat} {cs cs' : List Value} {T e : TypeId} {size n n' : Nat} {v v' : Value} {xs xs' : List Value}
theorem stay_blk (h : Blk w g cs T) : ∀ w2 (K : Nat → Prop), Chg K w w2 → (∀ k, K k → N k) → (∀ k, (oBlk g cs T).fp k → ¬ K k) → (oBlk g cs T).R w2 := fun _ _ hc _ hd => Blk.keep h hc (hd g rfl)
theorem stay_own (h : Own w e size v n xs) : ∀ w2 (K : Nat → Prop), Chg K w w2 → (∀ k, K k → N k) → (∀ k, (oOwn e size v n xs).fp k → ¬ K k) → (oOwn e size v n xs).R w2 := fun _ _ hc _ hd => Own.keep h hc hd
theorem Heap.blk (hH : Heap N w0 w L) (hi : L[i]? = some (oBlk g cs T)) : Blk w g cs T := hH.get hi
theorem Heap.own (hH : Heap N w0 w L) (hi : L[i]? = some (oOwn e size v n xs)) : Own w e size v n xs := hH.get hi
theorem Heap.addBlk (hH : Heap N w0 w L) (hx : Ext w w') (hg : w.heap.size = g) (hb : Blk w' g cs T) : Heap N w0 w' (L ++ [oBlk g cs T]) :=
  hH.add hx (fun k hk => by obtain rfl : k = g := hk; exact ⟨by omega, hb.lt⟩) (stay_blk hb)
theorem Heap.addOwn (hH : Heap N w0 w L) (hx : Ext w w') (hg : ∀ k, v.ownBlock = some k → w.heap.size ≤ k) (hb : Own w' e size v n xs) : Heap N w0 w' (L ++ [oOwn e size v n xs]) :=
  hH.add hx (fun k hk => ⟨hg k hk, own_lt hb k hk⟩) (stay_own hb)
theorem Heap.addNil (hH : Heap N w0 w L) (e : TypeId) (size : Nat) : Heap N w0 w (L ++ [oOwn e size (.slice none 0 0) 0 []]) :=
  hH.bare (fun k hk => by simp [oOwn, Value.ownBlock] at hk) fun _ => World.ownsRow_nil _ _ _ _
theorem Heap.setBlk (hH : Heap N w0 w L) (hi : L[i]? = some (oBlk g cs T)) (hc : Chg (· = g) w w') (hb : Blk w' g cs' T) (hL : L.set i (oBlk g cs' T) = L2) : Heap N w0 w' L2 :=
  hH.mut (O' := oBlk g cs' T) hi hc (fun k hk => .inl hk) (stay_blk hb) hL
theorem Heap.setOwn (hH : Heap N w0 w L) (hi : L[i]? = some (oOwn e size v n xs)) (hc : Chg (fun k => v.ownBlock = some k) w w') (hv : ∀ k, v'.ownBlock = some k → v.ownBlock = some k ∨ (w.heap.size ≤ k ∧ k < w'.heap.size)) (hb : Own w' e size v' n' xs') (hL : L.set i (oOwn e size v' n' xs') = L2) : Heap N w0 w' L2 :=
  hH.mut hi hc hv (stay_own hb) hL
theorem GB.in (hg : GB w w' v v') : ∀ k, v'.ownBlock = some k → v.ownBlock = some k ∨ (w.heap.size ≤ k ∧ k < w'.heap.size) := fun k hk => by
  rcases hg.blk with h | ⟨g, h1, h2, h3⟩
  · exact .inl (h ▸ hk)
  · rw [h3] at hk; obtain rfl := Option.some.inj hk; exact .inr ⟨h1, h2⟩
theorem Heap.ge (hH : Heap (newN w0) w0 w L) (hi : L[i]? = some (oOwn e size v n xs)) : ∀ k, v.ownBlock = some k → w0.heap.size ≤ k := fun k hk => (hH.one hi).sub k hk
theorem Heap.geB (hH : Heap (newN w0) w0 w L) (hi : L[i]? = some (oBlk g cs T)) : w0.heap.size ≤ g := (hH.one hi).sub g rfl
end
/-- What changes at most: what may. -/
theorem Heap.within {N : Nat → Prop} {w0 w w' : World} {L : List MemO} {O : MemO} {i : Nat} (hH : Heap N w0 w L) (hi : L[i]? = some O) (hc : Chg O.fp w w') : Chg N w w' := hc.mono fun k _ hk => (hH.one hi).sub k hk
/-- What stays while one object, and what is new, changes. -/
theorem Heap.fixed1 {N : Nat → Prop} {w0 w : World} {L : List MemO} {O M : MemO} {i j : Nat} (hH : Heap N w0 w L) (hj : L[j]? = some O) (hi : L[i]? = some M) (hn : j ≠ i) : ∀ w', Chg (newK w M.fp) w w' → O.R w' := fun w' hc =>
  (hH.one hj).stay w' _ hc (fun k hk => hk.elim (fun h => hH.up k (Nat.le_trans hH.size h)) ((hH.one hi).sub k)) fun k hk hK => hK.elim (fun h => by have := (hH.one hj).lt k hk; omega) (apart_at hH.apart hj hi hn k hk)
theorem Heap.sub1 {N : Nat → Prop} {w0 w : World} {L : List MemO} {M : MemO} {i : Nat} (hH : Heap N w0 w L) (hi : L[i]? = some M) : ∀ k, newK w M.fp k → N k := fun k hk => hk.elim (fun h => hH.up k (Nat.le_trans hH.size h)) ((hH.one hi).sub k)
theorem Chg.le {K K' : Nat → Prop} {a b : World} (h : Chg K a b) (hk : ∀ k, K k → K' k) : Chg K' a b := h.mono fun k _ h => hk k h
theorem grow1 {K : Nat → Prop} {wr w : World} {F F' : Nat → Prop} (hK : ∀ k, wr.heap.size ≤ k → K k) (hs : wr.heap.size ≤ w.heap.size) (hF : ∀ k, F k → K k) (hg : ∀ k, F' k → F k ∨ w.heap.size ≤ k) : ∀ k, F' k → K k := fun k hk => (hg k hk).elim (hF k) fun h => hK k (Nat.le_trans hs h)
/-- An owned row that is there. -/
theorem Own.form {w : World} {e : TypeId} {size n : Nat} {v : Value} {xs : List Value} (h : Own w e size v n xs) (hn : 0 < n) :
    ∃ g cap cur, v = .slice (some ⟨g, 0, none⟩) n cap ∧ Blk w g cur e ∧ n ≤ cap ∧ cap ≤ maxLen ∧ cur.length = cap * size ∧ cur.take (n * size) = xs := by
  rcases h.2 with ⟨_, rfl⟩ | ⟨g, cap, cur, rfl, _, hg, h1, h2, h3, h4⟩
  · omega
  · exact ⟨g, cap, cur.toList, rfl, by unfold Blk; simpa using hg, h1, h2, by simpa using h3, h4⟩
theorem Own.of_form {w : World} {e : TypeId} {size n g cap : Nat} {cur xs : List Value} (hb : Blk w g cur e) (h1 : n ≤ cap) (h2 : cap ≤ maxLen) (h3 : cur.length = cap * size) (h4 : cur.take (n * size) = xs) : Own w e size (.slice (some ⟨g, 0, none⟩) n cap) n xs := by
  have hle : n * size ≤ cap * size := Nat.mul_le_mul_right _ h1
  exact ⟨by rw [← h4, List.length_take]; omega, .inr ⟨g, cap, cur.toArray, rfl, Nat.zero_le _, hb, h1, h2, by simpa using h3, by simpa using h4⟩⟩
theorem Own.len {w : World} {e : TypeId} {size n : Nat} {v : Value} {xs : List Value} (h : Own w e size v n xs) : xs.length = n * size := h.1
/-- Cells over cells. -/
def lay (cur : List Value) (o : Nat) (cs : List Value) : List Value := cur.take o ++ (cs ++ cur.drop (o + cs.length))
theorem lay_length {cur cs : List Value} {o : Nat} (h : o + cs.length ≤ cur.length) : (lay cur o cs).length = cur.length := by simp [lay]; omega
theorem lay_take {cur cs : List Value} {o m : Nat} (h : o + cs.length ≤ m) (hm : m ≤ cur.length) : (lay cur o cs).take m = lay (cur.take m) o cs := by
  unfold lay
  rw [List.take_append, List.take_append, List.take_take, List.length_take, List.drop_take]
  have e1 : min m o = o := by omega
  have e2 : min o cur.length = o := by omega
  have e3 : min o m = o := by omega
  rw [e1, e2, List.take_of_length_le (l := cs) (by omega), List.take_take, e3]
  congr 3
  omega
theorem lay_one {cur : List Value} {o : Nat} {v : Value} (h : o < cur.length) : lay cur o [v] = cur.set o v := by
  unfold lay
  rw [List.set_eq_take_append_cons_drop, if_pos h]; rfl
theorem flat_set {α : Type} {f : α → List Value} {sz : Nat} : ∀ {l : List α} {i : Nat} {x : α}, (∀ y ∈ l, (f y).length = sz) → (f x).length = sz → i < l.length → lay (l.flatMap f) (i * sz) (f x) = (l.set i x).flatMap f := by
  intro l
  induction l with
  | nil => intro i x _ _ h; simp at h
  | cons y l ih =>
    intro i x h hx hi
    have hy := h y (by simp)
    cases i with
    | zero =>
      simp only [Nat.zero_mul, List.set_cons_zero, List.flatMap_cons, lay, List.take_zero, Nat.zero_add, List.nil_append, hx]
      rw [List.drop_left' hy]
    | succ i =>
      have := ih (i := i) (x := x) (fun y hy => h y (by simp [hy])) hx (by simpa using hi)
      rw [List.set_cons_succ, List.flatMap_cons, List.flatMap_cons, ← this]
      unfold lay
      rw [List.take_append, hy, Nat.succ_mul, show i * sz + sz - sz = i * sz from by omega, List.take_of_length_le (by omega), List.append_assoc]
      congr 3
      rw [List.drop_append, hy, List.drop_eq_nil_of_le (by omega), List.nil_append]
      congr 1; omega
theorem Blk.lay {w : World} {g : Nat} {cur : List Value} {T : TypeId} : ∀ (cs : List Value) (o : Nat) (w : World) (cur : List Value), Blk w g cur T → o + cs.length ≤ cur.length → Blk (w.setCells g o cs) g (Bz.lay cur o cs) T := by
  intro cs
  induction cs with
  | nil => intro o w cur h _; unfold Bz.lay; simpa [World.setCells] using h
  | cons v vs ih =>
    intro o w cur h hl
    rw [World.setCells]
    have := ih (o + 1) _ _ (h.set o v) (by simp at hl ⊢; omega)
    have ho : o < cur.length := by simp at hl; omega
    have e : Bz.lay (cur.set o v) (o + 1) vs = Bz.lay cur o (v :: vs) := by
      unfold Bz.lay
      rw [List.take_succ_eq_append_getElem (by simpa using ho), List.getElem_set_self, List.take_set_of_le (Nat.le_refl _), List.drop_set_of_lt (by omega), List.length_cons, show o + (vs.length + 1) = o + 1 + vs.length by omega]
      simp
    rw [e] at this; exact this
theorem Chg.setCellsG {g : Nat} (cs : List Value) : ∀ (o : Nat) (w : World), Chg (· = g) w (w.setCells g o cs) := by
  induction cs with
  | nil => intro o w; exact Chg.refl _ _
  | cons v vs ih => intro o w; rw [World.setCells]; exact (Chg.setCell ⟨g, o, none⟩ v).trans (ih _ _)
section rules
variable {P : Program} {N : Nat → Prop} {w0 w : World} {L L2 : List MemO} {a : Act} {o : Oper} {i : Nat}
/-- A new variable. -/
theorem hx_alloc (hH : Heap N w0 w L) (T : TypeId) {z : Value} {n : Nat} {cs : List Value} (ho : o.op = .alloc T) (hinfo : (P.info? T).map (fun i => (i.zero, i.size)) = some (some z, n)) (hc : z.cells.toList = cs) :
    ∃ v w', (execOp a.eval o).run P w = .ok (.value v) w' ∧ ∃ g, v = .pointer (some ⟨g, 0, none⟩) ∧ Heap N w0 w' (L ++ [oBlk g cs T]) ∧ Ext w w' := by
  obtain ⟨v, w', h1, g, hg, h2, h3, h4⟩ := ex_allocG (P := P) (w := w) (a := a) T hinfo hc ho
  exact ⟨v, w', h1, g, h2, hH.addBlk h4 hg h3, h4⟩
theorem hx_box (hH : Heap N w0 w L) (T : TypeId) {x : Operand} {v : Value} {cs : List Value} (ho : o.op = .box T x) (hx : a.eval x = v) (hc : v.cells.toList = cs) :
    ∃ v w', (execOp a.eval o).run P w = .ok (.value v) w' ∧ ∃ g, v = .pointer (some ⟨g, 0, none⟩) ∧ Heap N w0 w' (L ++ [oBlk g cs T]) ∧ Ext w w' := by
  obtain ⟨v, w', h1, g, hg, h2, h3, h4⟩ := ex_boxG (P := P) (w := w) (a := a) T x hx hc ho
  exact ⟨v, w', h1, g, h2, hH.addBlk h4 hg h3, h4⟩
theorem hx_storeW (hH : Heap N w0 w L) {ty : TypeId} {x y : Operand} {g : Nat} {old cs : List Value} {T : TypeId} (ho : o.op = .store ty x y) (hi : L[i]? = some (oBlk g old T)) (hL : L.set i (oBlk g cs T) = L2) (hx : a.eval x = .pointer (some ⟨g, 0, none⟩)) (hy : a.eval y = .agg cs.toArray)
    (hs : (P.info? ty).map (·.size) = some cs.length) (hl : old.length = cs.length) (h1 : ∀ u ∈ cs, u.oneCell' = true) :
    ∃ w', (execOp a.eval o).run P w = .ok .skip w' ∧ Heap N w0 w' L2 ∧ Chg N w w' := by
  obtain ⟨w', h, h2, h3⟩ := ex_storeW (P := P) (w := w) (a := a) ho (hH.blk hi) hx hy hs hl h1
  exact ⟨w', h, hH.setBlk hi h3 h2 hL, hH.within hi h3⟩
theorem hx_storeC (hH : Heap N w0 w L) {ty : TypeId} {x y : Operand} {g j : Nat} {cs cs' : List Value} {T : TypeId} {v : Value} (ho : o.op = .store ty x y) (hi : L[i]? = some (oBlk g cs T)) (hL : L.set i (oBlk g cs' T) = L2) (hj : j < cs.length) (hcs : cs.set j v = cs') (hx : a.eval x = .pointer (some ⟨g, j, none⟩)) (hy : a.eval y = v)
    (hs : (P.info? ty).map (·.size) = some 1) (h1 : v.oneCell' = true) : ∃ w', (execOp a.eval o).run P w = .ok .skip w' ∧ Heap N w0 w' L2 ∧ Chg N w w' := by
  obtain ⟨w', h, h2, h3⟩ := ex_storeC (P := P) (w := w) (a := a) ho (hH.blk hi) hj hcs hx hy hs h1
  exact ⟨w', h, hH.setBlk hi h3 h2 hL, hH.within hi h3⟩
/-- Cells written into a block, from a place on. -/
theorem ex_storeM {ty : TypeId} {x y : Operand} {g j : Nat} {cur cs : List Value} {T : TypeId} (ho : o.op = .store ty x y) (hb : Blk w g cur T) (hj : j + cs.length ≤ cur.length) (hx : a.eval x = .pointer (some ⟨g, j, none⟩)) (hy : a.eval y = .agg cs.toArray)
    (hs : (P.info? ty).map (·.size) = some cs.length) (h1 : ∀ u ∈ cs, u.oneCell' = true) : ∃ w', (execOp a.eval o).run P w = .ok .skip w' ∧ Blk w' g (lay cur j cs) T ∧ Chg (· = g) w w' := by
  refine ⟨w.setCells g j cs, ?_, Blk.lay (w := w) (cur := cur) cs j w cur hb hj, Chg.setCellsG cs j w⟩
  unfold execOp
  simp only [ho, hx, hy, Instr.storeAt, Instr.sureAddr, Sem.run_bind, Sem.run_pure, Result.andThen_ok]
  rw [run_storeVar_mid w g j ty cs.toArray (fun q hq => by rw [hb.cell, hb.free]; simp at hq ⊢; omega) (by simpa using hs) (all_oneCell_toArray h1)]
  simp
theorem hx_storeM (hH : Heap N w0 w L) {ty : TypeId} {x y : Operand} {g j : Nat} {cur cs cs' : List Value} {T : TypeId} (ho : o.op = .store ty x y) (hi : L[i]? = some (oBlk g cur T)) (hL : L.set i (oBlk g cs' T) = L2) (hcs : lay cur j cs = cs') (hj : j + cs.length ≤ cur.length) (hx : a.eval x = .pointer (some ⟨g, j, none⟩)) (hy : a.eval y = .agg cs.toArray)
    (hs : (P.info? ty).map (·.size) = some cs.length) (h1 : ∀ u ∈ cs, u.oneCell' = true) : ∃ w', (execOp a.eval o).run P w = .ok .skip w' ∧ Heap N w0 w' L2 ∧ Chg N w w' := by
  obtain ⟨w', h, h2, h3⟩ := ex_storeM (P := P) (w := w) (a := a) ho (hH.blk hi) hj hx hy hs h1
  rw [hcs] at h2
  exact ⟨w', h, hH.setBlk hi h3 h2 hL, hH.within hi h3⟩
/-- An element of an owned row written: one cell. -/
theorem hx_setC (hH : Heap N w0 w L) {ty e : TypeId} {x y : Operand} {n nm j : Nat} {u v : Value} {xs xs' : List Value} (ho : o.op = .store ty x y) (hi : L[i]? = some (oOwn e 1 v n xs)) (hL : L.set i (oOwn e 1 v nm xs') = L2) (hnm : n = nm) (hj : j < n) (hcs : xs.set j u = xs') (hx : a.eval x = .pointer (some (elemA v (j * 1)))) (hy : a.eval y = u)
    (hs : (P.info? ty).map (·.size) = some 1) (h1 : u.oneCell' = true) : ∃ w', (execOp a.eval o).run P w = .ok .skip w' ∧ Heap N w0 w' L2 ∧ Chg N w w' := by
  subst hnm
  have hO := hH.own hi
  obtain ⟨g, cap, cur, rfl, hb, hc1, hc2, hc3, hc4⟩ := hO.form (by omega)
  have hjc : j < cur.length := by omega
  have hx' : a.eval x = .pointer (some ⟨g, j, none⟩) := by rw [hx]; simp [elemA, Addr.add_mid]
  obtain ⟨w', h, h2, h3⟩ := ex_storeC (P := P) (w := w) (a := a) ho hb hjc rfl hx' hy hs h1
  have hc : Chg (fun k => (Value.slice (some ⟨g, 0, none⟩) n cap).ownBlock = some k) w w' := h3.mono fun k _ hk => by subst hk; rfl
  refine ⟨w', h, hH.setOwn hi hc (fun k hk => .inl hk) (Own.of_form h2 hc1 hc2 (by simpa using hc3) ?_) hL, hH.within hi hc⟩
  rw [Nat.mul_one] at hc4 ⊢
  rw [← hcs, ← hc4, List.take_set]
/-- An element of an owned row written: many cells. -/
theorem hx_setM (hH : Heap N w0 w L) {ty e : TypeId} {x y : Operand} {size n nm j : Nat} {v : Value} {xs xs' cs : List Value} (ho : o.op = .store ty x y) (hi : L[i]? = some (oOwn e size v n xs)) (hL : L.set i (oOwn e size v nm xs') = L2) (hnm : n = nm) (hj : j < n) (hl : cs.length = size) (hcs : lay xs (j * size) cs = xs') (hx : a.eval x = .pointer (some (elemA v (j * size)))) (hy : a.eval y = .agg cs.toArray)
    (hs : (P.info? ty).map (·.size) = some size) (h1 : ∀ u ∈ cs, u.oneCell' = true) : ∃ w', (execOp a.eval o).run P w = .ok .skip w' ∧ Heap N w0 w' L2 ∧ Chg N w w' := by
  subst hnm
  have hO := hH.own hi
  obtain ⟨g, cap, cur, rfl, hb, hc1, hc2, hc3, hc4⟩ := hO.form (by omega)
  have hm : j * size + size ≤ n * size := by rw [← Nat.succ_mul]; exact Nat.mul_le_mul_right _ hj
  have hm2 : n * size ≤ cap * size := Nat.mul_le_mul_right _ hc1
  have hx' : a.eval x = .pointer (some ⟨g, j * size, none⟩) := by rw [hx]; simp [elemA, Addr.add_mid]
  obtain ⟨w', h, h2, h3⟩ := ex_storeM (P := P) (w := w) (a := a) ho hb (by omega) hx' hy (by rw [hl]; exact hs) h1
  have hc : Chg (fun k => (Value.slice (some ⟨g, 0, none⟩) n cap).ownBlock = some k) w w' := h3.mono fun k _ hk => by subst hk; rfl
  refine ⟨w', h, hH.setOwn hi hc (fun k hk => .inl hk) (Own.of_form h2 hc1 hc2 (by rw [lay_length (by omega)]; exact hc3) ?_) hL, hH.within hi hc⟩
  rw [lay_take (by omega) (by omega), hc4, hcs]
/-- append to an owned row. -/
theorem hx_append (hH : Heap N w0 w L) {t e : TypeId} {z : Value} {size bytes : Nat} (T : ST P t e z size bytes) {s x : Operand} {v : Value} {n : Nat} {xs : List Value} {vx : Value} {m : Nat} {news : List Value} (ho : o.op = .call { callee := .builtin .append, args := #[s, x], argTypes := #[t, t] })
    (hi : L[i]? = some (oOwn e size v n xs)) {nm : Nat} {xs' : List Value} {L2 : Value → List MemO} (hL : ∀ v', L.set i (oOwn e size v' nm xs') = L2 v') (hnm : n + m = nm) (hxs : xs ++ news = xs') (hr : Rd w size vx m news) (hs : a.eval s = v) (hx : a.eval x = vx) (hbytes : nm * bytes ≤ 140737488355328) :
    ∃ v' w', (execOp a.eval o).run P w = .ok (.value v') w' ∧ Heap N w0 w' (L2 v') ∧ Chg N w w' := by
  subst hnm
  obtain ⟨v', w', h1, h2, h3, _⟩ := ex_append (P := P) (w := w) (a := a) T s x (hH.own hi) hr hs hx ho hbytes
  rw [hxs] at h2
  exact ⟨v', w', h1, hH.setOwn hi h3.chg h3.in h2 (hL v'), hH.within hi h3.chg⟩
/-- make: all of it. -/
theorem hx_make (hH : Heap N w0 w L) {t e : TypeId} {n size bytes : Nat} {z z1 : Value} (T : ST P t e z size bytes) {x y : Operand} {k k2 : IntKind} (ho : o.op = .makeSlice t x y) (hx : a.eval x = .int k (n : Int)) (hy : a.eval y = .int k2 (n : Int)) (hb : n * bytes ≤ 140737488355328) (hz : z.cells = (List.replicate size z1).toArray) {xs : List Value} {nm : Nat} (hxs : List.replicate (n * size) z1 = xs) (hnm : n = nm) :
    ∃ v w', (execOp a.eval o).run P w = .ok (.value v) w' ∧ Heap N w0 w' (L ++ [oOwn e size v nm xs]) ∧ Ext w w' := by
  subst hnm
  have hbp := T.bpos
  obtain ⟨v, w', h1, g, hg, rfl, h3, h4⟩ := ex_make (P := P) (w := w) (a := a) T x y hx hy (Nat.le_refl n) hb hz ho
  have hn : n ≤ maxLen := by
    have := Nat.le_mul_of_pos_right n hbp
    unfold maxLen; omega
  subst hxs
  exact ⟨_, w', h1, hH.addOwn h4 (fun k hk => by simp [Value.ownBlock] at hk; omega) (own_blk h3 (by simp) hn), h4⟩
/-- A literal of one-cell parts. -/
theorem hx_lits (hH : Heap N w0 w L) {t e : TypeId} {n bytes : Nat} {z : Value} (T : ST P t e z 1 bytes) (xs : List Operand) {vs : List Value} (ho : o.op = .buildSlice t n (xs.zipIdx.map fun p => (p.2, p.1)).toArray) (hv : xs.map a.eval = vs) (h1 : ∀ v ∈ vs, v.oneCell' = true) (hn : xs.length = n) (hsz : n ≤ 1000) {cs : List Value} {nm : Nat} (hcs : vs = cs) (hnm : n = nm) :
    ∃ v w', (execOp a.eval o).run P w = .ok (.value v) w' ∧ Heap N w0 w' (L ++ [oOwn e 1 v nm cs]) ∧ Ext w w' := by
  subst hnm
  obtain ⟨v, w', h1, g, hg, rfl, h3, h4⟩ := ex_lits (P := P) (w := w) (a := a) T xs hv h1 hn hsz ho
  have hl : vs.length = n := by rw [← hv]; simpa using hn
  subst hcs
  exact ⟨_, w', h1, hH.addOwn h4 (fun k hk => by simp [Value.ownBlock] at hk; omega) (own_blk h3 (by simpa using hl) (by unfold maxLen; omega)), h4⟩
/-- A literal of one part of many cells. -/
theorem hx_lit1 (hH : Heap N w0 w L) {t e : TypeId} {size bytes : Nat} {z : Value} (T : ST P t e z size bytes) {x : Operand} {cs : List Value} (ho : o.op = .buildSlice t 1 #[(0, x)]) (hx : a.eval x = .agg cs.toArray) (hl : cs.length = size) (hsz : size ≤ 1000) {xs : List Value} (hxs : cs = xs) :
    ∃ v w', (execOp a.eval o).run P w = .ok (.value v) w' ∧ Heap N w0 w' (L ++ [oOwn e size v 1 xs]) ∧ Ext w w' := by
  subst hxs
  obtain ⟨v, w', h1, rfl, h3, h4, _⟩ := ex_lit1 (P := P) (w := w) (a := a) T x hx hl hsz ho
  exact ⟨_, w', h1, hH.addOwn h4 (fun k hk => by simp [Value.ownBlock] at hk; omega) (own_blk h3 (by omega) (by decide)), h4⟩
end rules
section code
variable {P : Program} {n : Nat} {F : Nat → Value} {w : World} {c : Code} {Q : Exit → Act → World → Prop}
/-- Where ways meet. -/
theorem wp_cut (J : (Nat → Value) → World → Prop) (h : c.wp P (fun e a w => match e with | .normal => ∃ F', a = fr n F' ∧ J F' w | e => Q e a w) (fr n F) w) (h2 : ∀ F' w', J F' w' → Q .normal (fr n F') w') : c.wp P Q (fr n F) w := by
  refine Code.wp_mono (fun e a w h => ?_) h
  cases e with
  | normal => obtain ⟨F', rfl, hJ⟩ := h; exact h2 F' w hJ
  | _ => exact h
end code
/-- What came in, and stays. -/
structure Stab (N : Nat → Prop) (w0 : World) (size : Nat) (v : Value) (n : Nat) (xs : List Value) : Prop where
  rd : ∀ w', Chg N w0 w' → Rd w' size v n xs
  out : ∀ k, v.ownBlock = some k → 0 < xs.length → ¬ N k
theorem Rd.stab {w : World} {size n : Nat} {v : Value} {xs : List Value} (h : Rd w size v n xs) : Stab (newN w) w size v n xs :=
  ⟨fun _ hc => h.keep hc fun k hk h0 hN => by have := h.lt h0 k hk; have : w.heap.size ≤ k := hN; omega, fun k hk h0 hN => by have := h.lt h0 k hk; have : w.heap.size ≤ k := hN; omega⟩
theorem Rd.stabK {w : World} {size n : Nat} {v : Value} {xs : List Value} {K : Nat → Prop} (h : Rd w size v n xs) (hK : ∀ k, v.ownBlock = some k → 0 < xs.length → ¬ K k) : Stab (newK w K) w size v n xs :=
  ⟨fun _ hc => h.keep hc fun k hk h0 hN => hN.elim (fun hN => by have := h.lt h0 k hk; omega) (hK k hk h0), fun k hk h0 hN => hN.elim (fun hN => by have := h.lt h0 k hk; omega) (hK k hk h0)⟩
theorem cBs_set (l : List UInt8) (i : Nat) (x : UInt8) : (cBs l).set i (cB x) = cBs (l.set i x) := by simp [cBs, List.map_set]
theorem flat_set1 {α : Type} {f : α → List Value} {l : List α} {i : Nat} {x : α} {u : Value} (h : ∀ y ∈ l, (f y).length = 1) (hx : f x = [u]) (hi : i < l.length) : (l.flatMap f).set i u = (l.set i x).flatMap f := by
  have := flat_set (sz := 1) (x := x) h (by rw [hx]; rfl) hi
  rw [← this, Nat.mul_one, hx, lay_one (by rw [flat_len h]; omega)]
theorem row_one {α : Type} {f : α → List Value} (h : ∀ x, ∀ u ∈ f x, u.oneCell' = true) {l : List α} : ∀ u ∈ l.flatMap f, u.oneCell' = true := fun u hu => by
  obtain ⟨x, _, hx⟩ := List.mem_flatMap.1 hu; exact h x u hx
theorem zeros_b (n : Nat) : List.replicate (n * 1) (Value.int .u8 0) = cBs (List.replicate n 0) := by simp [cBs, cB]
theorem zeros_f {α : Type} {f : α → List Value} {sz : Nat} {d : α} {z : Value} (h : f d = List.replicate sz z) (n : Nat) : List.replicate (n * sz) z = (List.replicate n d).flatMap f := by
  induction n with
  | zero => simp
  | succ n ih => rw [List.replicate_succ, List.flatMap_cons, ← ih, h, Nat.succ_mul, Nat.add_comm, List.replicate_append_replicate]
theorem rdN {w : World} {size n m : Nat} {v : Value} {xs : List Value} (h : Rd w size v n xs) (e : n = m) : Rd w size v m xs := e ▸ h
/-- A part of a row reads. -/
theorem rdF_slc {α : Type} {f : α → List Value} {sz : Nat} {w : World} {v : Value} {xs : List α} {l h n : Nat} (hf : ∀ x ∈ xs, (f x).length = sz) (hr : Rd w sz v n (xs.flatMap f)) (hn : xs.length = n) (h1 : l ≤ h) (h2 : h ≤ n) : Rd w sz (slcV v sz l h) ((xs.drop l).take (h - l)).length (((xs.drop l).take (h - l)).flatMap f) := by
  subst hn
  have := hr.slc h1 h2
  have hl : ((xs.drop l).take (h - l)).length = h - l := by simp; omega
  have e1 : (xs.drop l).flatMap f = (xs.flatMap f).drop (l * sz) := by
    have e : xs.flatMap f = (xs.take l).flatMap f ++ (xs.drop l).flatMap f := by rw [← List.flatMap_append, List.take_append_drop]
    rw [e, List.drop_left' (by rw [flat_len (sz := sz) (fun x hx => hf x (List.mem_of_mem_take hx))]; rw [List.length_take, Nat.min_eq_left (by omega)])]
  have e2 : ((xs.drop l).take (h - l)).flatMap f = ((xs.flatMap f).drop (l * sz)).take ((h - l) * sz) := by
    rw [← e1]
    have e : (xs.drop l).flatMap f = ((xs.drop l).take (h - l)).flatMap f ++ ((xs.drop l).drop (h - l)).flatMap f := by rw [← List.flatMap_append, List.take_append_drop]
    rw [e, List.take_left' (by rw [flat_len (sz := sz) (fun x hx => hf x (List.mem_of_mem_drop (List.mem_of_mem_take hx))), hl])]
  rw [hl, e2]; exact this
theorem slc_len {α : Type} {l : List α} {n i j : Nat} (h : l.length = n) (h1 : i ≤ j) (h2 : j ≤ n) : (List.take (j - i) (List.drop i l)).length = j - i := by simp; omega
theorem slc_pos {l : List Value} (h : 0 < l.length) : 0 < l.length := h
theorem add32 (a b : Nat) : IntKind.u32.wrap ((a : Int) + (b : Int)) = (((a + b) % 4294967296 : Nat) : Int) := wrap_u32 (by omega)
theorem mul32 (a b : Nat) : IntKind.u32.wrap ((a : Int) * (b : Int)) = (((a * b) % 4294967296 : Nat) : Int) := wrap_u32 (by rw [← Int.natCast_mul]; omega)
theorem mul64 {a b : Nat} (h : a * b < 18446744073709551616) : IntKind.u64.wrap ((a : Int) * (b : Int)) = ((a * b : Nat) : Int) := wrap_u64 (by rw [← Int.natCast_mul]; omega)
theorem wrapU64 {a : Nat} (h : a < 18446744073709551616) : IntKind.u64.wrap (a : Int) = (a : Int) := wrap_u64 (by omega)
theorem wrap32 {a : Nat} (h : a < 4294967296) : IntKind.u32.wrap (a : Int) = (a : Int) := wrap_u32 (by omega)
theorem shl32 (a : Nat) {n : Nat} (h : n ≤ 32) : IntKind.u32.wrap ((a : Int) * 2 ^ min n IntKind.u32.bits) = ((a * 2 ^ n % 4294967296 : Nat) : Int) := by
  rw [Nat.min_eq_left (show n ≤ IntKind.u32.bits from h)]
  have e : (a : Int) * 2 ^ n = ((a * 2 ^ n : Nat) : Int) := by rw [Int.natCast_mul, Int.natCast_pow]; rfl
  rw [e]; exact wrap_u32 (by omega)
theorem bits32 {a : Nat} (h : a < 4294967296) : (BitVec.ofInt IntKind.u32.bits (a : Int)).toNat = a := by
  rw [BitVec.toNat_ofInt, show ((2 ^ IntKind.u32.bits : Nat) : Int) = 4294967296 from rfl]; omega
theorem and32 {a b : Nat} (ha : a < 4294967296) (hb : b < 4294967296) : bitsOf .and .u32 (a : Int) (b : Int) = ((a &&& b : Nat) : Int) := by
  have h1 := Nat.lt_of_le_of_lt (Nat.and_le_left (n := a) (m := b)) ha
  unfold bitsOf; simp only [BitVec.toNat_and, bits32 ha, bits32 hb]; exact wrap_u32 (by omega)
theorem or32 {a b : Nat} (ha : a < 4294967296) (hb : b < 4294967296) : bitsOf .or .u32 (a : Int) (b : Int) = ((a ||| b : Nat) : Int) := by
  have h1 : a ||| b < 4294967296 := Nat.or_lt_two_pow (n := 32) ha hb
  unfold bitsOf; simp only [BitVec.toNat_or, bits32 ha, bits32 hb]; exact wrap_u32 (by omega)
theorem xor32 {a b : Nat} (ha : a < 4294967296) (hb : b < 4294967296) : bitsOf .xor .u32 (a : Int) (b : Int) = ((a ^^^ b : Nat) : Int) := by
  have h1 : a ^^^ b < 4294967296 := Nat.xor_lt_two_pow (n := 32) ha hb
  unfold bitsOf; simp only [BitVec.toNat_xor, bits32 ha, bits32 hb]; exact wrap_u32 (by omega)
/-- Numbers of 32 bits. -/
def c32 (n : Nat) : List Value := [.int .u32 (n : Int)]
theorem c32_len {l : List Nat} : ∀ x ∈ l, (c32 x).length = 1 := fun _ _ => rfl
theorem c32_one : ∀ x, ∀ u ∈ c32 x, u.oneCell' = true := fun x u hu => by simp [c32] at hu; subst hu; rfl
theorem cI_one' : ∀ x : Int, ∀ u ∈ ([.int .i64 x] : List Value), u.oneCell' = true := fun x u hu => by simp at hu; subst hu; rfl
/-- Truths. -/
def cT (b : Bool) : List Value := [.bool b]
theorem cT_len {l : List Bool} : ∀ x ∈ l, (cT x).length = 1 := fun _ _ => rfl
theorem cT_one : ∀ x, ∀ u ∈ cT x, u.oneCell' = true := fun x u hu => by simp [cT] at hu; subst hu; rfl
/-- Sums. -/
abbrev S32 := {l : List UInt8 // l.length = 32}
def cS (s : S32) : List Value := cBs s.1
theorem cS_ln (s : S32) : (cS s).length = 32 := by simp [cS, s.2]
theorem cS_len {l : List S32} : ∀ x ∈ l, (cS x).length = 32 := fun x _ => cS_ln x
theorem cS_one : ∀ x, ∀ u ∈ cS x, u.oneCell' = true := fun x => cBs_one _
def zS : S32 := ⟨List.replicate 32 0, rfl⟩
end Go.Bz
namespace Go.Proofs.Ytjgcjddaladgfaa
open Go.RowKit Go.Bz
abbrev oB (v : Value) (l : List UInt8) : MemO := oOwn 5 1 v l.length (cBs l)
abbrev StabB (N : Nat → Prop) (w : World) (v : Value) (l : List UInt8) : Prop := Stab N w 1 v l.length (cBs l)
theorem cI_one : ∀ x, ∀ u ∈ cI x, u.oneCell' = true := fun x u hu => by simp [cI] at hu; subst hu; rfl
/-- Parts that lie in an owned row of slices. -/
theorem rdP_own {w : World} {e : TypeId} {v : Value} {n : Nat} {vs : List Value} {ls : List (List UInt8)} (h : Own w e 1 v n vs) (ha : All2 (RdB w) vs ls) (hl : ls.length = n) : RdP w v ls := by
  subst hl
  have key : ∀ (vs : List Value) (ls : List (List UInt8)), All2 (RdB w) vs ls → ∀ v ∈ vs, v.oneCell' = true := by
    intro vs ls h
    induction h with
    | nil => exact ones_nil
    | cons h _ ih => exact ones_cons (Rd.oneV h) ih
  exact ⟨vs, Own.rd h (key vs ls ha), ha⟩
theorem Try.stInt : ST Try.prog 48 3 (.int .i64 0) 1 8 := ⟨Try.underlying48, by kernel_rfl, rfl, by decide, by decide⟩
end Go.Proofs.Ytjgcjddaladgfaa
