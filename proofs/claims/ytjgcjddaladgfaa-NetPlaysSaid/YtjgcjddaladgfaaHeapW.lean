/- Pens and eyes among a walk's objects. -/
import Derived.Test.YtjgcjddaladgfaaHeap2
import Derived.Test.YtjgcjddaladgfaaWire
import Derived.Test.YtjgcjddaladgfaaPens
namespace Go.Proofs.Ytjgcjddaladgfaa
open Go.RowKit Go.Bz Go.Bz.Wire
def oPen (g : Nat) (v : Value) (l : List UInt8) : MemO := ⟨fun k => k = g ∨ v.ownBlock = some k, fun w => PenAt w g v l⟩
def oEye (g : Nat) (v0 : Value) (r : List UInt8) (e : Int) : MemO := ⟨fun k => k = g, fun w => EyeAt w g v0 r e⟩
section
variable {N : Nat → Prop} {w0 w w' : World} {L L2 : List MemO} {i g : Nat} {v v0 v1 : Value} {l l2 r r' b : List UInt8} {e e' : Int}
theorem stay_pen (h : PenAt w g v l) : ∀ w2 (K : Nat → Prop), Chg K w w2 → (∀ k, K k → N k) → (∀ k, (oPen g v l).fp k → ¬ K k) → (oPen g v l).R w2 := fun _ _ hc _ hd => PenAt.keep h hc (hd g (.inl rfl)) fun k hk => hd k (.inr hk)
theorem stay_eye (hv : ∀ k, v0.ownBlock = some k → ¬ N k) (h : EyeAt w g v0 r e) : ∀ w2 (K : Nat → Prop), Chg K w w2 → (∀ k, K k → N k) → (∀ k, (oEye g v0 r e).fp k → ¬ K k) → (oEye g v0 r e).R w2 := fun _ _ hc hk hd => EyeAt.keep h hc (hd g rfl) fun k hk2 h3 => hv k hk2 (hk k h3)
theorem _root_.Go.Bz.Heap.pen (hH : Heap N w0 w L) (hi : L[i]? = some (oPen g v l)) : PenAt w g v l := hH.get hi
theorem _root_.Go.Bz.Heap.eye (hH : Heap N w0 w L) (hi : L[i]? = some (oEye g v0 r e)) : EyeAt w g v0 r e := hH.get hi
/-- A fresh pen. -/
theorem _root_.Go.Bz.Heap.toPen (hH : Heap N w0 w L) (hi : L[i]? = some (oBlk g [.slice none 0 0] 50)) (hL : L.set i (oPen g (.slice none 0 0) []) = L2) : Heap N w0 w L2 :=
  hH.conv hi (O' := oPen g (.slice none 0 0) []) (fun k => ⟨fun h => h.elim id fun h => by simp [Value.ownBlock] at h, fun h => .inl h⟩) (fun _ h => ⟨h, OwnB.nil⟩) hL
theorem _root_.Go.Bz.Heap.penPost (hH : Heap N w0 w L) (hi : L[i]? = some (oPen g v l)) {L2 : Value → List MemO} (hL : ∀ v', L.set i (oPen g v' l2) = L2 v') (hp : PenPost w w' g v l2) :
    ∃ v', Heap N w0 w' (L2 v') ∧ Chg N w w' ∧ Chg (oPen g v l).fp w w' ∧ ∀ k, (oPen g v' l2).fp k → (oPen g v l).fp k ∨ w.heap.size ≤ k := by
  obtain ⟨v', h1, h2, h3⟩ := hp
  have hf : ∀ k, (oPen g v' l2).fp k → (oPen g v l).fp k ∨ (w.heap.size ≤ k ∧ k < w'.heap.size) := fun k hk => by
    rcases hk with hk | hk
    · exact .inl (.inl hk)
    · rcases h3 k hk with h | h
      · exact .inr ⟨h, own_lt h1.own k hk⟩
      · exact .inl (.inr h)
  exact ⟨v', hH.mut (O' := oPen g v' l2) hi h2 hf (stay_pen h1) (hL v'), hH.within hi h2, h2, fun k hk => (hf k hk).imp id (·.1)⟩
theorem _root_.Go.Bz.Heap.addEye (hH : Heap N w0 w L) (hx : Ext w w') (hg : w.heap.size ≤ g) (hv : ∀ k, v0.ownBlock = some k → ¬ N k) (he : EyeAt w' g v0 r e) : Heap N w0 w' (L ++ [oEye g v0 r e]) :=
  hH.add hx (fun k hk => by obtain rfl : k = g := hk; exact ⟨hg, he.lt⟩) (stay_eye hv he)
theorem _root_.Go.Bz.Heap.setEye (hH : Heap N w0 w L) (hi : L[i]? = some (oEye g v0 r e)) (hL : L.set i (oEye g v0 r' e') = L2) (hv : ∀ k, v0.ownBlock = some k → ¬ N k) (he : EyeAt w' g v0 r' e') (hc : Chg (· = g) w w') : Heap N w0 w' L2 :=
  hH.mut (O' := oEye g v0 r' e') hi hc (fun k hk => .inl hk) (stay_eye hv he) hL
/-- The world goes on by an object's change and a new row. -/
theorem _root_.Go.Bz.Heap.setEyeRow (hH : Heap N w0 w L) (hi : L[i]? = some (oEye g v0 r e)) (hL : L.set i (oEye g v0 r' e') ++ [oB v1 b] = L2) (hv : ∀ k, v0.ownBlock = some k → ¬ N k) (he : EyeAt w' g v0 r' e') (hc : Chg (· = g) w w') (ho : OwnB w' v1 b) (hg : ∀ k, v1.ownBlock = some k → w.heap.size ≤ k) : Heap N w0 w' L2 := by
  subst hL
  have h1 := hH.setEye hi rfl hv he hc
  refine ⟨h1.chg, h1.up, fun A hA => ?_, ?_⟩
  · rcases List.mem_append.1 hA with hA | hA
    · exact h1.al A hA
    · obtain rfl : A = oB v1 b := by simpa using hA
      exact ⟨fun k hk => hH.up k (Nat.le_trans hH.size (hg k hk)), own_lt ho, stay_own ho⟩
  · rw [List.pairwise_append]
    refine ⟨h1.apart, by simp, fun A hA B hB k hk hk2 => ?_⟩
    obtain rfl : B = oB v1 b := by simpa using hB
    have h2 := hg k hk2
    obtain ⟨j, hj⟩ := List.getElem?_of_mem hA
    by_cases hij : j = i
    · subst hij
      rw [List.getElem?_set_self (List.getElem?_eq_some_iff.1 hi).1] at hj
      obtain rfl := Option.some.inj hj
      have := (hH.one hi).lt k hk; omega
    · rw [List.getElem?_set_ne (fun h => hij h.symm)] at hj
      have := (hH.one hj).lt k hk; omega
theorem eye_ne (hH : Heap N w0 w L) (hi : L[i]? = some (oEye g v0 r e)) (hv : ∀ k, v0.ownBlock = some k → ¬ N k) : v0.ownBlock ≠ some g := fun h => hv g h ((hH.one hi).sub g rfl)
theorem eye_lt (hup : ∀ k, w0.heap.size ≤ k → N k) (hs : w0.heap.size ≤ w.heap.size) (hv : ∀ k, v0.ownBlock = some k → ¬ N k) : ∀ k, v0.ownBlock = some k → k < w.heap.size := fun k hk => by
  rcases Nat.lt_or_ge k w0.heap.size with h | h
  · omega
  · exact absurd (hup k h) (hv k hk)
end
/-- An eye on a row of the walk's own, which reads on. -/
def oEyeR (g : Nat) (v0 : Value) (r : List UInt8) (e : Int) (v : Value) (b : List UInt8) : MemO := ⟨fun k => k = g ∨ v.ownBlock = some k, fun w => EyeAt w g v0 r e ∧ RdB w v b⟩
section
variable {N : Nat → Prop} {w0 w w' : World} {L L2 : List MemO} {i g : Nat} {v v0 v1 : Value} {r r' b c : List UInt8} {e e' : Int}
theorem stay_eyeR (hv : ∀ k, v0.ownBlock = some k → v.ownBlock = some k) (h : EyeAt w g v0 r e) (hr : RdB w v b) : ∀ w2 (K : Nat → Prop), Chg K w w2 → (∀ k, K k → N k) → (∀ k, (oEyeR g v0 r e v b).fp k → ¬ K k) → (oEyeR g v0 r e v b).R w2 := fun _ _ hc _ hd => ⟨EyeAt.keep h hc (hd g (.inl rfl)) fun k hk => hd k (.inr (hv k hk)), Rd.keep hr hc fun k hk _ => hd k (.inr hk)⟩
theorem _root_.Go.Bz.Heap.lookOwn (hH : Heap N w0 w L) (hi : L[i]? = some (oB v b)) (hL : L.set i (oEyeR g v0 b 0 v b) = L2) (hx : Ext w w') (hg : w.heap.size ≤ g) (hv : ∀ k, v0.ownBlock = some k → v.ownBlock = some k) (he : EyeAt w' g v0 b 0) : Heap N w0 w' L2 ∧ v.ownBlock ≠ some g := by
  have hO := hH.own hi
  refine ⟨hH.mut (O' := oEyeR g v0 b 0 v b) hi hx.any (fun k hk => hk.elim (fun h => .inr (by subst h; exact ⟨hg, he.lt⟩)) .inl) (stay_eyeR hv he (OwnB.rd (Own.ext hO hx))) hL, fun h => ?_⟩
  have := own_lt hO g h; omega
theorem _root_.Go.Bz.Heap.eyeR (hH : Heap N w0 w L) (hi : L[i]? = some (oEyeR g v0 r e v b)) : EyeAt w g v0 r e := (hH.get hi).1
theorem _root_.Go.Bz.Heap.eyeRd (hH : Heap N w0 w L) (hi : L[i]? = some (oEyeR g v0 r e v b)) : RdB w v b := (hH.get hi).2
theorem _root_.Go.Bz.Heap.setEyeR (hH : Heap N w0 w L) (hi : L[i]? = some (oEyeR g v0 r e v b)) (hL : L.set i (oEyeR g v0 r' e' v b) = L2) (hv : ∀ k, v0.ownBlock = some k → v.ownBlock = some k) (hn : v.ownBlock ≠ some g) (he : EyeAt w' g v0 r' e') (hc : Chg (· = g) w w') : Heap N w0 w' L2 :=
  hH.mut (O' := oEyeR g v0 r' e' v b) hi (hc.mono fun k _ hk => .inl hk) (fun k hk => .inl hk) (stay_eyeR hv he (Rd.keep (hH.eyeRd hi) hc fun k hk _ e => hn (by have e : k = g := e; rw [← e]; exact hk))) hL
/-- An object and a new row. -/
theorem _root_.Go.Bz.Heap.setRow {O O' : MemO} (hH : Heap N w0 w L) (hi : L[i]? = some O) (hL : L.set i O' ++ [oB v1 c] = L2) (h1 : Heap N w0 w' (L.set i O')) (hf : ∀ k, O'.fp k → O.fp k) (ho : OwnB w' v1 c) (hg : ∀ k, v1.ownBlock = some k → w.heap.size ≤ k) : Heap N w0 w' L2 := by
  subst hL
  refine ⟨h1.chg, h1.up, fun A hA => ?_, ?_⟩
  · rcases List.mem_append.1 hA with hA | hA
    · exact h1.al A hA
    · obtain rfl : A = oB v1 c := by simpa using hA
      exact ⟨fun k hk => hH.up k (Nat.le_trans hH.size (hg k hk)), own_lt ho, stay_own ho⟩
  · rw [List.pairwise_append]
    refine ⟨h1.apart, by simp, fun A hA B hB k hk hk2 => ?_⟩
    obtain rfl : B = oB v1 c := by simpa using hB
    have h2 := hg k hk2
    obtain ⟨j, hj⟩ := List.getElem?_of_mem hA
    by_cases hij : j = i
    · subst hij
      rw [List.getElem?_set_self (List.getElem?_eq_some_iff.1 hi).1] at hj
      obtain rfl := Option.some.inj hj
      have := (hH.one hi).lt k (hf k hk); omega
    · rw [List.getElem?_set_ne (fun h => hij h.symm)] at hj
      have := (hH.one hj).lt k hk; omega
theorem eyeR_ne (hv : ∀ k, v0.ownBlock = some k → v.ownBlock = some k) (hn : v.ownBlock ≠ some g) : v0.ownBlock ≠ some g := fun h => hn (hv g h)
theorem eyeR_lt (hH : Heap N w0 w L) (hi : L[i]? = some (oEyeR g v0 r e v b)) (hv : ∀ k, v0.ownBlock = some k → v.ownBlock = some k) : ∀ k, v0.ownBlock = some k → k < w.heap.size := fun k hk => (hH.one hi).lt k (.inr (hv k hk))
end
end Go.Proofs.Ytjgcjddaladgfaa
