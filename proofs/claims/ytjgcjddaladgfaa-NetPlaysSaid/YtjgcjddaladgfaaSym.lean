/- Truths as propositions; where guarded ways of a region meet. -/
import Derived.Test.YtjgcjddaladgfaaHeap2
namespace Go.Bz
open Go.RowKit
section
variable {P : Program} {w : World} {a : Act} {o : Oper}
theorem rv_lssP {t t2 : TypeId} {x y : Operand} {k : IntKind} {m n : Int} {p : Prop} [Decidable p] (ho : o.op = .binOp .lss t x y t2) (hx : a.eval x = .int k m) (hy : a.eval y = .int k n) (hr : m < n ↔ p) : (execOp a.eval o).run P w = .ok (.value (.bool (decide p))) w := rv_lss ho hx hy (decide_eq_decide.2 hr)
theorem rv_leqP {t t2 : TypeId} {x y : Operand} {k : IntKind} {m n : Int} {p : Prop} [Decidable p] (ho : o.op = .binOp .leq t x y t2) (hx : a.eval x = .int k m) (hy : a.eval y = .int k n) (hr : m ≤ n ↔ p) : (execOp a.eval o).run P w = .ok (.value (.bool (decide p))) w := rv_leq ho hx hy (decide_eq_decide.2 hr)
theorem rv_gtrP {t t2 : TypeId} {x y : Operand} {k : IntKind} {m n : Int} {p : Prop} [Decidable p] (ho : o.op = .binOp .gtr t x y t2) (hx : a.eval x = .int k m) (hy : a.eval y = .int k n) (hr : m > n ↔ p) : (execOp a.eval o).run P w = .ok (.value (.bool (decide p))) w := rv_gtr ho hx hy (decide_eq_decide.2 hr)
theorem rv_geqP {t t2 : TypeId} {x y : Operand} {k : IntKind} {m n : Int} {p : Prop} [Decidable p] (ho : o.op = .binOp .geq t x y t2) (hx : a.eval x = .int k m) (hy : a.eval y = .int k n) (hr : m ≥ n ↔ p) : (execOp a.eval o).run P w = .ok (.value (.bool (decide p))) w := rv_geq ho hx hy (decide_eq_decide.2 hr)
theorem rv_eqlP {t t2 : TypeId} {x y : Operand} {k : IntKind} {m n : Int} {p : Prop} [Decidable p] (ho : o.op = .binOp .eql t x y t2) (hx : a.eval x = .int k m) (hy : a.eval y = .int k n) (hr : m = n ↔ p) : (execOp a.eval o).run P w = .ok (.value (.bool (decide p))) w := rv_eql ho hx hy (decide_eq_decide.2 hr)
theorem not_dec {p q : Prop} [Decidable p] [Decidable q] (h : ¬ p ↔ q) : (!decide p) = decide q := by
  by_cases hp : p
  · have : ¬ q := fun hq => h.2 hq hp
    simp [hp, this]
  · have : q := h.1 hp
    simp [hp, this]
theorem rv_neqP {t t2 : TypeId} {x y : Operand} {k : IntKind} {m n : Int} {p : Prop} [Decidable p] (ho : o.op = .binOp .neq t x y t2) (hx : a.eval x = .int k m) (hy : a.eval y = .int k n) (hr : ¬ m = n ↔ p) : (execOp a.eval o).run P w = .ok (.value (.bool (decide p))) w := by
  rw [← not_dec hr]; exact rv_neq ho hx hy rfl
theorem rv_nesP {t t2 : TypeId} {x y : Operand} {l m : List UInt8} {p : Prop} [Decidable p] (ho : o.op = .binOp .neq t x y t2) (hx : a.eval x = .string ⟨l.toArray⟩) (hy : a.eval y = .string ⟨m.toArray⟩) (hr : ¬ l = m ↔ p) : (execOp a.eval o).run P w = .ok (.value (.bool (decide p))) w := by
  rw [← not_dec hr]; exact rv_nes ho hx hy rfl
theorem rv_notP {t : TypeId} {x : Operand} {p q : Prop} [Decidable p] [Decidable q] (ho : o.op = .unOp .not t x) (hx : a.eval x = .bool (decide p)) (hr : ¬ p ↔ q) : (execOp a.eval o).run P w = .ok (.value (.bool (decide q))) w := by
  rw [← not_dec hr]; exact rv_not ho hx
theorem res5 {n : Nat} {F : Nat → Value} {fn : Func} {r1 r2 r3 r4 r5 : ResultVar} {v1 v2 v3 v4 v5 : Value} (h : fn.results = #[r1, r2, r3, r4, r5]) (h1 : ResOk P w (fr n F) r1 v1) (h2 : ResOk P w (fr n F) r2 v2) (h3 : ResOk P w (fr n F) r3 v3) (h4 : ResOk P w (fr n F) r4 v4) (h5 : ResOk P w (fr n F) r5 v5) : (results fn (fr n F).tmps).run P w = .ok (.tuple #[v1, v2, v3, v4, v5]) w := by
  unfold ResOk at h1 h2 h3 h4 h5
  rw [results_resS]
  simp [h, h1, h2, h3, h4, h5, Result.andThen]
theorem rv_known {d b : Bool} (h : (execOp a.eval o).run P w = .ok (.value (.bool d)) w) (e : d = b) : (execOp a.eval o).run P w = .ok (.value (.bool b)) w := by subst e; exact h
theorem rv_eqbP {t t2 : TypeId} {x y : Operand} {p q : Prop} [Decidable p] [Decidable q] (ho : o.op = .binOp .eql t x y t2) (hx : a.eval x = .bool (decide p)) (hy : a.eval y = .bool (decide q)) (ht : P.underlying t = some .bool) : (execOp a.eval o).run P w = .ok (.value (.bool (decide (p ↔ q)))) w :=
  rv_eqb ho hx hy ht (by by_cases hp : p <;> by_cases hq : q <;> simp [hp, hq])
theorem rv_pickB {c x y : Operand} {b : Bool} (ho : o.op = .pick c x y) (hc : a.eval c = .bool b) (hx : a.eval x = .bool true) (hy : a.eval y = .bool false) : (execOp a.eval o).run P w = .ok (.value (.bool b)) w := by
  refine rv_pick ho hc ?_
  cases b
  · exact hy
  · exact hx
theorem beq_dec {α : Type} [DecidableEq α] (l m : List α) : (l == m) = decide (l = m) := by
  by_cases h : l = m
  · simp [h]
  · simp [h]
theorem bne_dec {α : Type} [DecidableEq α] (l m : List α) : (!(l == m)) = decide (¬ l = m) := by rw [beq_dec]; exact not_dec Iff.rfl
theorem dec_and {p q : Prop} [Decidable p] [Decidable q] (h : p) : decide q = decide (p ∧ q) := decide_eq_decide.2 ⟨fun hq => ⟨h, hq⟩, fun hq => hq.2⟩
theorem dec_andF {p q : Prop} [Decidable p] [Decidable q] (h : ¬ p) : false = decide (p ∧ q) := (decide_eq_false fun hq => h hq.1).symm
theorem dec_or {p q : Prop} [Decidable p] [Decidable q] (h : ¬ p) : decide q = decide (p ∨ q) := decide_eq_decide.2 ⟨.inr, fun hq => hq.elim (fun hp => absurd hp h) id⟩
theorem dec_orT {p q : Prop} [Decidable p] [Decidable q] (h : p) : true = decide (p ∨ q) := (decide_eq_true (.inl h)).symm
theorem dec_t {p : Prop} [Decidable p] (h : p) : true = decide p := (decide_eq_true h).symm
theorem dec_f {p : Prop} [Decidable p] (h : ¬ p) : false = decide p := (decide_eq_false h).symm
end
section
variable {P : Program} {n : Nat} {F : Nat → Value} {w : World} {ops : Array Oper} {Q : Exit → Act → World → Prop}
theorem lf_joinP {l : List Oper} (J : (Nat → Value) → Prop) (k : Nat) (h1 : (∀ F', J F' → wpList P ops Q (l.drop k) (fr n F') w) → wpList P ops Q l (fr n F) w) (h2 : ∀ F', J F' → wpList P ops Q (l.drop k) (fr n F') w) : wpList P ops Q l (fr n F) w := h1 h2
theorem lf_join {l : List Oper} (J : (Nat → Value) → World → Prop) (k : Nat) (h1 : (∀ F' w', J F' w' → wpList P ops Q (l.drop k) (fr n F') w') → wpList P ops Q l (fr n F) w) (h2 : ∀ F' w', J F' w' → wpList P ops Q (l.drop k) (fr n F') w') : wpList P ops Q l (fr n F) w := h1 h2
end
end Go.Bz
namespace Go.Proofs.Ytjgcjddaladgfaa
open Go.RowKit Go.Bz
section
variable {w : World} {a : Act} {o : Oper}
theorem neTP {x y : Operand} {l m : List UInt8} {p : Prop} [Decidable p] {rt : TypeId} (ho : o.op = .binOp .neq 45 x y rt) (hx : a.eval x = .agg (cBs l).toArray) (hy : a.eval y = .agg (cBs m).toArray) (hl : l.length = 32) (hm : m.length = 32) (h : ¬ l = m ↔ p) :
    (execOp a.eval o).run Try.prog w = .ok (.value (.bool (decide p))) w := by
  have h1 := neT (w := w) ho hx hy hl hm rfl
  rwa [bne_dec, decide_eq_decide.2 h] at h1
end
end Go.Proofs.Ytjgcjddaladgfaa
