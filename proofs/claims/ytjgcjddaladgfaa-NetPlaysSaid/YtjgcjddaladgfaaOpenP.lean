/- Arguments of slices of slices, of sums, opened. -/
import Derived.Test.YtjgcjddaladgfaaHeap
namespace Go.Bz
open Go.RowKit
/-- Slices, as a row's elements. -/
abbrev V1 := {v : Value // v.oneCell' = true}
def cV1 (v : V1) : List Value := [v.1]
def zV1 : V1 := ⟨.slice none 0 0, rfl⟩
theorem cV1_len {l : List V1} : ∀ x ∈ l, (cV1 x).length = 1 := fun _ _ => rfl
theorem cV1_one : ∀ x, ∀ u ∈ cV1 x, u.oneCell' = true := fun x u hu => by simp [cV1] at hu; subst hu; exact x.2
theorem cV1_flat : ∀ l : List V1, l.flatMap cV1 = l.map (·.1)
  | [] => rfl
  | x :: l => by rw [List.flatMap_cons, cV1_flat l]; rfl
end Go.Bz
namespace Go.Proofs.Ytjgcjddaladgfaa
open Go.RowKit Go.Bz Go.ChangeShapes Go.WideShapes
theorem All2.snoc {α β : Type} {R : α → β → Prop} {l : List α} {m : List β} {x : α} {y : β} (h : All2 R l m) (hx : R x y) : All2 R (l ++ [x]) (m ++ [y]) := by
  induction h with
  | nil => exact .cons hx .nil
  | cons h _ ih => exact .cons h ih
theorem All2.maps {α β γ : Type} {R : α → β → Prop} {f : γ → α} {g : γ → β} : ∀ {l : List γ}, (∀ x ∈ l, R (f x) (g x)) → All2 R (l.map f) (l.map g)
  | [], _ => .nil
  | x :: l, h => .cons (h x (by simp)) (All2.maps fun y hy => h y (by simp [hy]))
section
variable {H : Type} {enc : TypeId × Value → H} {P : Program} {W : World} {base : Nat} {held : Bool} {d : DataW H} {ps : List MemPlace} {r : Reach} {b0 : Nat}
/-- A slice of bytes in the middle of something. -/
theorem open_bytes1 {t e : TypeId} {n : Nat} {cs : List Value} {y : DataW H × List MemPlace} (ht : P.underlying t = some (.slice e)) (he : P.underlying e = some (.int .u8)) (hce : P.cellsOf e = 1) (h : DataW.trod enc P W base (fun _ => true) held n t cs = some y) : ∃ (v : V1) (l : List UInt8), cs = [v.1] ∧ RdB W v.1 l := by
  rcases open_ints ht he hce h with ⟨hcs, _⟩ | ⟨x, l, c, zs, hcs, _, hl, hm, hz, _, hcell, hwz⟩
  · exact ⟨zV1, [], hcs, Rd.nil⟩
  · obtain ⟨m, _, hr⟩ := rdB_ints (a := some x) (len := l) (cap := c) (zs := zs) (.inr ⟨_, rfl, hl, hm, by simpa using hz, hcell, hwz⟩)
    exact ⟨⟨.slice (some x) l c, rfl⟩, m, hcs, hr⟩
theorem open_parts {t e u : TypeId} {v : Value} (ht : P.underlying t = some (.slice e)) (he : P.underlying e = some (.slice u)) (hu : P.underlying u = some (.int .u8)) (hce : P.cellsOf e = 1) (hcu : P.cellsOf u = 1)
    (hval : Value.okWide P W r b0 t v) (hd : DataW.Trod enc P W base (fun _ => true) held t v d ps) : ∃ (ls : List (List UInt8)) (vs : List Value), Rd W 1 v ls.length vs ∧ All2 (RdB W) vs ls := by
  obtain ⟨l, hr, hq⟩ := open_rowsF (fun p : V1 × List UInt8 => [p.1.1]) (fun p => RdB W p.1.1 p.2) ht hce (by decide) (fun n c y _ h => by
    obtain ⟨v, m, rfl, hm⟩ := open_bytes1 he hu hcu h
    exact ⟨(v, m), rfl, hm⟩) (fun x u hu => by simp at hu; subst hu; exact x.1.2) hval hd
  have e1 : l.flatMap (fun p : V1 × List UInt8 => [p.1.1]) = l.map (fun p => p.1.1) := by
    clear hr hq
    induction l with
    | nil => rfl
    | cons x l ih => rw [List.flatMap_cons, ih]; rfl
  refine ⟨l.map (·.2), l.map (fun p => p.1.1), ?_, All2.maps hq⟩
  have hr : Rd W 1 v l.length (l.flatMap (fun p : V1 × List UInt8 => [p.1.1])) := hr
  rw [e1] at hr
  rw [List.length_map]; exact hr
/-- A row of sums. -/
theorem open_sums {t e u : TypeId} {v : Value} (ht : P.underlying t = some (.slice e)) (he : P.underlying e = some (.array 32 u)) (hu : P.underlying u = some (.int .u8)) (hce : P.cellsOf e = 32) (hcu : P.cellsOf u = 1)
    (hval : Value.okWide P W r b0 t v) (hd : DataW.Trod enc P W base (fun _ => true) held t v d ps) : ∃ l : List S32, Rd W 32 v l.length (l.flatMap cS) := by
  obtain ⟨l, hr, _⟩ := open_rowsF cS (fun _ => True) ht hce (by decide) (fun n c y _ h => by
    obtain ⟨l, hl, rfl⟩ := trod_sum he hu hcu hce h
    exact ⟨⟨l, hl⟩, rfl, trivial⟩) cS_one hval hd
  exact ⟨l, hr⟩
end
end Go.Proofs.Ytjgcjddaladgfaa
