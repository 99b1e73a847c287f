/- More rules of walks over one heap: a literal string's bytes, marked. -/
import Derived.Test.YticaefnpapppoaaHeap
import Derived.Lib.SlBytesConst
namespace Go.Bz
open Go.RowKit
/-- Cells that read. -/
def oRd (size : Nat) (v : Value) (n : Nat) (xs : List Value) : MemO := ⟨fun k => v.ownBlock = some k, fun w => Rd w size v n xs⟩
theorem stay_rd {N : Nat → Prop} {w : World} {size n : Nat} {v : Value} {xs : List Value} (h : Rd w size v n xs) : ∀ w2 (K : Nat → Prop), Chg K w w2 → (∀ k, K k → N k) → (∀ k, (oRd size v n xs).fp k → ¬ K k) → (oRd size v n xs).R w2 := fun _ _ hc _ hd => Rd.keep h hc fun k hk _ => hd k hk
theorem Heap.rd {N : Nat → Prop} {w0 w : World} {L : List MemO} {i size n : Nat} {v : Value} {xs : List Value} (hH : Heap N w0 w L) (hi : L[i]? = some (oRd size v n xs)) : Rd w size v n xs := hH.get hi
theorem freeze_heap {w : World} {g : Nat} {c : Array Value} {e : TypeId} (hb : w.heap[g]? = some (.cells c e (0, 0))) (k : Nat) : (w.freeze ⟨g, k, none⟩ 1).heap[g]? = some (.cells c e (k, k + 1)) := by
  have hlt : g < w.heap.size := (Array.getElem?_eq_some_iff.1 hb).1
  have hg : w.heap[g] = .cells c e (0, 0) := (Array.getElem?_eq_some_iff.1 hb).2
  unfold World.freeze
  rw [if_neg (by decide)]
  simp only [Array.getElem?_modify, if_true]
  rw [hb]; simp
theorem Chg.freeze {w : World} {g k : Nat} : Chg (· = g) w (w.freeze ⟨g, k, none⟩ 1) := by
  unfold World.freeze
  rw [if_neg (by decide)]
  refine ⟨rfl, rfl, rfl, by simp, fun j _ hj => ?_⟩
  have hj : ¬ g = j := fun h => hj h.symm
  simp [Array.getElem?_modify, hj]
section
variable {P : Program} {N : Nat → Prop} {w0 w : World} {L L2 : List MemO} {a : Act} {o : Oper} {i : Nat}
theorem hx_mark (hH : Heap N w0 w L) {t e : TypeId} {x : Operand} {v : Value} {n : Nat} {xs : List Value} (ho : o.op = .convert t t x) (hi : L[i]? = some (oOwn e 1 v n xs)) (hL : L.set i (oRd 1 v n xs) = L2) (hn : 0 < n) (h1 : ∀ u ∈ xs, u.oneCell' = true) (hx : a.eval x = v) (ht : P.underlying t = some (.slice e)) (he : P.underlying e = some (.int .u8)) :
    ∃ u w', (execOp a.eval o).run P w = .ok (.value u) w' ∧ v = u ∧ Heap N w0 w' L2 ∧ Chg N w w' := by
  have hO := hH.own hi
  have hrd := Own.rd hO h1
  obtain ⟨g, cap, cur, rfl, hb, hc1, hc2, hc3, hc4⟩ := hO.form hn
  have hsh : w.shape? g = some (e, cur.toArray.size) := by
    unfold World.shape?
    rw [show w.heap[g]? = some (.cells cur.toArray e (0, 0)) from hb]
  have hc : Chg (fun k => (Value.slice (some ⟨g, 0, none⟩) n cap).ownBlock = some k) w (w.freeze ⟨g, cur.toArray.size, none⟩ 1) := Chg.freeze.mono fun k _ hk => by subst hk; rfl
  have hb2 := freeze_heap (show w.heap[g]? = some (.cells cur.toArray e (0, 0)) from hb) cur.toArray.size
  refine ⟨_, w.freeze ⟨g, cur.toArray.size, none⟩ 1, ?_, rfl, hH.mut (O' := oRd 1 (.slice (some ⟨g, 0, none⟩) n cap) n xs) hi hc (fun k hk => .inl hk) (stay_rd ⟨hrd.len, h1, _, cap, rfl, hc1, hc2, (fun h => by cases h), fun j u hu => ⟨_, rfl, ?_⟩⟩) hL, hH.within hi hc⟩
  · unfold execOp
    simp only [ho, hx, Sem.run_bind]
    have : (convert t t (.slice (some ⟨g, 0, none⟩) n cap)).run P w = .ok (.slice (some ⟨g, 0, none⟩) n cap) (w.freeze ⟨g, cur.toArray.size, none⟩ 1) := by
      simp [convert, run_underlying ht, run_underlying he, markStringish, hsh]
    rw [this]; simp
  · rw [Addr.add_mid, Nat.zero_add, cell_of_row _ _ j _ _ _ hb2, List.getElem?_toArray]
    rw [← hc4] at hu
    have := (List.getElem?_eq_some_iff.1 hu).1
    rwa [List.getElem?_take, if_pos (by simp at this; omega)] at hu
end
end Go.Bz
namespace Go.Proofs.Yticaefnpapppoaa
open Go.RowKit Go.Bz
abbrev oRB (v : Value) (l : List UInt8) : MemO := oRd 1 v l.length (cBs l)
end Go.Proofs.Yticaefnpapppoaa
