/- Nodes in memory, and a map from nodes to numbers. -/
import Derived.Test.YtdlliajghfflnaaHold
import Derived.Test.YtdlliajghfflnaaSym
import Derived.Test.YtdlliajghfflnaaAppN
import Derived.Test.YtdlliajghfflnaaTerm3
import Derived.Test.YtdlliajghfflnaaOpenP
import Derived.MapKept
import Derived.WideKeyRuns
import Derived.WideMake
namespace Go.Bz
open Go.RowKit Go.Bz.Term
def cNd (n : Nd) : List Value := [.int .i64 n.k, .int .i64 n.a, .int .i64 n.b]
theorem cNd_ln (n : Nd) : (cNd n).length = 3 := rfl
theorem cNd_len {l : List Nd} : ∀ x ∈ l, (cNd x).length = 3 := fun _ _ => rfl
theorem cNd_one : ∀ x, ∀ u ∈ cNd x, u.oneCell' = true := fun x u hu => by simp [cNd] at hu; rcases hu with rfl | rfl | rfl <;> rfl
/-- Numbers from nothing on. -/
def cNu (n : Nat) : List Value := [.int .i64 (n : Int)]
theorem cNu_len {l : List Nat} : ∀ x ∈ l, (cNu x).length = 1 := fun _ _ => rfl
theorem cNu_one : ∀ x, ∀ u ∈ cNu x, u.oneCell' = true := fun x u hu => by simp [cNu] at hu; subst hu; rfl
/-- Terms in a row: each with its nodes. -/
structure Tm where
  v : V1
  t : List Nd
def cTm (x : Tm) : List Value := [x.v.1]
def zTm : Tm := ⟨zV1, []⟩
theorem cTm_len {l : List Tm} : ∀ x ∈ l, (cTm x).length = 1 := fun _ _ => rfl
theorem cTm_one : ∀ x, ∀ u ∈ cTm x, u.oneCell' = true := fun x u hu => by simp [cTm] at hu; subst hu; exact x.v.2
def entV (p : Nd × Nat) : Value × Value := (.agg (cNd p.1).toArray, .int .i64 (p.2 : Int))
def MapAt (w : World) (mo : Option Nat) (ns : List Nd) : Prop := match mo with
  | none => ns = []
  | some r => ∃ es c, w.heap[r]? = some (.map es c) ∧ es.toList.map (fun e => (e.key, e.val)) = ns.zipIdx.map entV
/-- A map that has the nodes' numbers. -/
def oMp (mo : Option Nat) (ns : List Nd) : MemO := ⟨fun k => mo = some k, fun w => MapAt w mo ns⟩
section
variable {N : Nat → Prop} {w0 w w' : World} {L L2 M : List MemO} {mo : Option Nat} {ns : List Nd} {r i : Nat}
theorem MapAt.lt (h : MapAt w (some r) ns) : r < w.heap.size := by
  obtain ⟨es, c, h, _⟩ := h; exact (Array.getElem?_eq_some_iff.1 h).1
theorem MapAt.keep {K : Nat → Prop} (h : MapAt w mo ns) (hc : Chg K w w') (hk : ∀ k, mo = some k → ¬ K k) : MapAt w' mo ns := by
  cases mo with
  | none => exact h
  | some r =>
    have hl := h.lt
    obtain ⟨es, c, h1, h2⟩ := h
    exact ⟨es, c, (hc.block r hl (hk r rfl)).trans h1, h2⟩
theorem stay_mp (h : MapAt w mo ns) : ∀ w2 (K : Nat → Prop), Chg K w w2 → (∀ k, K k → N k) → (∀ k, (oMp mo ns).fp k → ¬ K k) → (oMp mo ns).R w2 := fun _ _ hc _ hd => MapAt.keep h hc hd
theorem Heap.mp (hH : Heap N w0 w L) (hi : L[i]? = some (oMp mo ns)) : MapAt w mo ns := hH.get hi
theorem Stays.mp (h : MapAt w mo ns) (t : Stays N w L) : Stays N w (oMp mo ns :: L) := fun O hO => by
  rcases List.mem_cons.1 hO with rfl | hO
  · exact stay_mp h
  · exact t O hO
theorem Heap.addMp0 (hH : Heap N w0 w L) : Heap N w0 w (L ++ [oMp none []]) := hH.bare (fun k hk => by cases hk) fun _ => rfl
/-- What a call is given: some of the objects. -/
abbrev fpL (M : List MemO) : Nat → Prop := fun k => ∃ O ∈ M, O.fp k
theorem Heap.subL (hO : Heap N w0 w (L ++ M)) : ∀ k, newK w (fpL M) k → N k := fun k h => h.elim (fun h => hO.up k (Nat.le_trans hO.size h)) fun h => by obtain ⟨O, hO1, h1⟩ := h; exact (hO.al O (List.mem_append.2 (.inr hO1))).sub k h1
theorem Heap.part (hO : Heap N w0 w (L ++ M)) : Heap (newK w (fpL M)) w w M :=
  ⟨Chg.refl _ _, fun k h => .inl h, fun O h => ⟨fun k hk => .inr ⟨O, h, hk⟩, (hO.al O (List.mem_append.2 (.inr h))).lt, fun w2 K hc hk hd => (hO.al O (List.mem_append.2 (.inr h))).stay w2 K hc (fun k hk' => hO.subL k (hk k hk')) hd⟩, (List.pairwise_append.1 hO.apart).2.1⟩
theorem Stab.part {size n : Nat} {v : Value} {xs : List Value} (h : Stab N w0 size v n xs) (hO : Heap N w0 w (L ++ M)) : Stab (newK w (fpL M)) w size v n xs :=
  ⟨fun w' hc => h.rd w' (hO.chg.trans (hc.le hO.subL)), fun k hk h0 hn => h.out k hk h0 (hO.subL k hn)⟩
/-- A row that is not given. -/
theorem Heap.rowStab {e : TypeId} {size n : Nat} {v : Value} {xs : List Value} (hO : Heap N w0 w (L ++ M)) (hi : L[i]? = some (oOwn e size v n xs)) (h1 : ∀ u ∈ xs, u.oneCell' = true) : Stab (newK w (fpL M)) w size v n xs := by
  have hm := List.mem_of_getElem? hi
  have hA := hO.al _ (List.mem_append.2 (.inl hm))
  have hd : ∀ k, (oOwn e size v n xs).fp k → ¬ newK w (fpL M) k := fun k hk h => h.elim (fun h => by have := hA.lt k hk; omega) fun h => by
    obtain ⟨O, hO1, h1⟩ := h
    exact (List.pairwise_append.1 hO.apart).2.2 _ hm O hO1 k hk h1
  exact ⟨fun w' hc => Own.rd (hA.stay w' _ hc hO.subL hd) h1, fun k hk _ => hd k hk⟩
/-- At most eight. -/
def fewV (v : Value) (n : Nat) : Value := if 8 < n then slcV v 1 0 8 else v
theorem stab_few {v : Value} {l : List Tm} (h : Stab N w0 1 v l.length (l.flatMap cTm)) : Stab N w0 1 (fewV v l.length) (l.take 8).length ((l.take 8).flatMap cTm) := by
  unfold fewV
  by_cases h8 : 8 < l.length
  · rw [if_pos h8]
    have e : (l.drop 0).take (8 - 0) = l.take 8 := by simp
    refine ⟨fun w' hc => ?_, fun k hk h0 => ?_⟩
    · have := rdF_slc (l := 0) (h := 8) cTm_len (h.rd w' hc) rfl (by omega) (by omega)
      rwa [e] at this
    · exact h.out k ((slcV_own _ _ _ _).symm.trans hk) (by rw [flat_len (sz := 1) cTm_len] at h0 ⊢; simp at h0 ⊢; omega)
  · rw [if_neg h8, List.take_of_length_le (by omega)]; exact h
end
end Go.Bz
namespace Go.Proofs.Ytdlliajghfflnaa
open Go.RowKit Go.Bz Go.Bz.Term
theorem Try.stNode : ST Try.prog 23 40 (.agg #[.int .i64 0, .int .i64 0, .int .i64 0]) 3 24 := ⟨Try.underlying23, by kernel_rfl, rfl, by decide, by decide⟩
theorem Try.stTerm : ST Try.prog 24 40 (.agg #[.int .i64 0, .int .i64 0, .int .i64 0]) 3 24 := ⟨Try.underlying24, by kernel_rfl, rfl, by decide, by decide⟩
theorem Try.stTerms : ST Try.prog 22 24 (.slice none 0 0) 1 24 := ⟨Try.underlying22, by kernel_rfl, rfl, by decide, by decide⟩
/-- Two nodes held against each other. -/
theorem eqNd_in (w : World) (r q : Nd) : (Op.equalIn 10000 40 (.agg (cNd r).toArray) (.agg (cNd q).toArray)).run Try.prog w = .ok (decide (r = q)) w := by
  have ht : Try.prog.underlying 40 = some (.struct (Try.prog.fieldsOf 40)) := by unfold Program.fieldsOf; rw [Try.underlying40]
  rw [run_equalIn_struct w 9999 _ _ _ ht (by kernel_rfl)]
  unfold Program.fieldsOf
  rw [Try.underlying40]
  have e : decide (r = q) = ((r.k == q.k) && ((r.a == q.a) && ((r.b == q.b) && true))) := by
    obtain ⟨a, b, c⟩ := r
    obtain ⟨x, y, z⟩ := q
    rw [Bool.eq_iff_iff]
    simp
  rw [e]
  exact (eqF_cons (by decide) (part_cell Try.underlying3 rfl Try.sz3 rfl) (part_cell Try.underlying3 rfl Try.sz3 rfl) (run_equalIn_int w 9998 3 .i64 .i64 _ _ Try.underlying3) (eqF_cons (by decide) (part_cell Try.underlying3 rfl Try.sz3 rfl) (part_cell Try.underlying3 rfl Try.sz3 rfl) (run_equalIn_int w 9998 3 .i64 .i64 _ _ Try.underlying3) (eqF_cons (by decide) (part_cell Try.underlying3 rfl Try.sz3 rfl) (part_cell Try.underlying3 rfl Try.sz3 rfl) (run_equalIn_int w 9998 3 .i64 .i64 _ _ Try.underlying3) eqF_nil)))
theorem find_nd (w : World) (n : Nd) : ∀ (es : List MapEntry) (ns : List Nd) (i off : Nat), es.map (fun e => (e.key, e.val)) = (ns.zipIdx off).map entV →
    (Instr.findAsking 40 (.agg (cNd n).toArray) es i).run Try.prog w = .ok (if n ∈ ns then some (i + ns.idxOf n, .int .i64 ((off + ns.idxOf n : Nat) : Int)) else none) w := by
  intro es
  induction es with
  | nil =>
    intro ns i off h
    cases ns with
    | nil => simp [Instr.findAsking]
    | cons m ns => simp at h
  | cons e es ih =>
    intro ns i off h
    cases ns with
    | nil => simp at h
    | cons m ns =>
      simp only [List.map_cons, List.zipIdx_cons, List.cons.injEq, entV, Prod.mk.injEq] at h
      obtain ⟨⟨hk, hv⟩, ht⟩ := h
      unfold Instr.findAsking Op.equal Op.maxDepth
      simp only [Sem.run_bind, hk, eqNd_in, Result.andThen_ok]
      by_cases hm : n = m
      · subst hm
        simp [hv, List.idxOf_cons]
      · have h2 := ih ns (i + 1) (off + 1) ht
        have hb : (m == n) = false := by simpa using fun h => hm h.symm
        simp only [hm, decide_false, Bool.false_eq_true, if_false, h2, List.mem_cons, false_or, List.idxOf_cons, hb, cond_false]
        have e1 : i + 1 + ns.idxOf n = i + (ns.idxOf n + 1) := by omega
        have e2 : off + 1 + ns.idxOf n = off + (ns.idxOf n + 1) := by omega
        rw [e1, e2]
theorem findK_nd (w : World) (n : Nd) {es : List MapEntry} {ns : List Nd} (h : es.map (fun e => (e.key, e.val)) = ns.zipIdx.map entV) :
    (Instr.findKey 40 (.agg (cNd n).toArray) es).run Try.prog w = .ok (if n ∈ ns then some (ns.idxOf n, .int .i64 ((ns.idxOf n : Nat) : Int)) else none) w := by
  rw [run_findKey_eq w (by rw [Try.underlying40])]
  have := find_nd w n es ns 0 0 h
  simpa using this
theorem check_int (w : World) (em : Bool) (n : Nat) (z : Int) : (Instr.checkKey em (n + 1) 3 (.int .i64 z)).run Try.prog w = .ok () w := by
  simp [Instr.checkKey, run_underlying Try.underlying3]
theorem check_nd (w : World) (em : Bool) (n : Nd) : (Instr.checkKey em 10000 40 (.agg (cNd n).toArray)).run Try.prog w = .ok () w := by
  have p0 : (part 3 (cNd n).toArray 0).run Try.prog w = .ok (.int .i64 n.k) w := part_cell Try.underlying3 rfl Try.sz3 rfl
  have p1 : (part 3 (cNd n).toArray 1).run Try.prog w = .ok (.int .i64 n.a) w := part_cell Try.underlying3 rfl Try.sz3 rfl
  have p2 : (part 3 (cNd n).toArray 2).run Try.prog w = .ok (.int .i64 n.b) w := part_cell Try.underlying3 rfl Try.sz3 rfl
  unfold Instr.checkKey
  simp only [Sem.run_bind, run_underlying Try.underlying40, Result.andThen_ok]
  simp [p0, p1, p2, check_int, Result.andThen]
end Go.Proofs.Ytdlliajghfflnaa
