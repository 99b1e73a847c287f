/- Terms as arguments. -/
import Derived.Test.YtdlliajghfflnaaMap
import Derived.Test.YtdlliajghfflnaaOpenP
namespace Go.Proofs.Ytdlliajghfflnaa
open Go.RowKit Go.Bz Go.Bz.Term Go.ChangeShapes Go.WideShapes
section
variable {H : Type} {enc : TypeId × Value → H} {W : World} {base : Nat} {held : Bool} {d : DataW H} {ps : List MemPlace} {b0 : Nat} {rr : Reach}
theorem cutd (cs : List Value) {o s p : Nat} (h : p = o + s) : cs.drop o = (cs.drop o).take s ++ cs.drop p := by subst h; rw [← List.drop_drop, List.take_append_drop]
theorem open_agg {P : Program} {t : TypeId} {fs : Array Field} {v : Value} {Q : List Value → Prop} (ht : P.underlying t = some (.struct fs)) (hval : Value.okWide P W rr b0 t v) (hd : DataW.Trod enc P W base (fun _ => true) held t v d ps)
    (each : ∀ {fuel : Nat} {cs : List Value} {x : DataW H × List MemPlace}, DataW.trod enc P W base (fun _ => true) held fuel t cs = some x → Q cs) : ∃ cs, v = .agg cs.toArray ∧ Q cs := by
  obtain ⟨cs, rfl, _⟩ := okWide_struct ht hval
  obtain ⟨fuel, hf⟩ := hd
  exact ⟨cs.toList, by simp, each hf⟩
theorem rd_of_cells {α : Type} (f : α → List Value) (Q : α → Prop) {P : Program} {t e : TypeId} {sz n : Nat} {cs : List Value} {y : DataW H × List MemPlace} (ht : P.underlying t = some (.slice e)) (hsz : P.cellsOf e = sz) (h0 : 0 < sz)
    (each : ∀ (n : Nat) (c : List Value) (y : DataW H × List MemPlace), c.length = sz → DataW.trod enc P W base (fun _ => true) held n e c = some y → ∃ x, c = f x ∧ Q x)
    (h1 : ∀ x, ∀ u ∈ f x, u.oneCell' = true) (h : DataW.trod enc P W base (fun _ => true) held n t cs = some y) : ∃ (v : V1) (l : List α), cs = [v.1] ∧ Rd W sz v.1 l.length (l.flatMap f) ∧ ∀ x ∈ l, Q x := by
  rcases DataW.trod_slice ht h with ⟨hcs, _⟩ | ⟨a', len', cap', elems, rest, n, _, hcs, _, _, hl, hm, hlen, hel, _, _⟩
  · exact ⟨zV1, [], hcs, Rd.nil, fun x hx => by simp at hx⟩
  · obtain ⟨l, hll, hR⟩ := choose_list (R := fun i x => W.cells? base (a'.add (i * sz)) sz = some (f x) ∧ (f x).length = sz ∧ Q x) len' (fun i hi => by
      have h2 := hel i hi
      rw [hsz] at h2
      cases hy : elems[i]? with
      | none => rw [List.getElem?_eq_none_iff] at hy; omega
      | some y =>
        rw [hy] at h2
        simp only [Option.bind_eq_some_iff] at h2
        obtain ⟨c, hc, hy2⟩ := h2
        have hcl := (World.cells?_some hc).2.1
        obtain ⟨x, rfl, hq⟩ := each n c y hcl hy2
        exact ⟨x, hc, hcl, hq⟩)
    have hmem : ∀ x ∈ l, (f x).length = sz ∧ Q x := fun x hx => by
      obtain ⟨i, hi⟩ := List.getElem?_of_mem hx
      exact (hR i x hi).2
    refine ⟨⟨.slice (some a') len' cap', rfl⟩, l, hcs, ⟨flat_len (fun x hx => (hmem x hx).1), ?_, some a', cap', by rw [hll], by omega, hm, (fun h => by cases h), fun j u hu => ⟨a', rfl, ?_⟩⟩, fun x hx => (hmem x hx).2⟩
    · intro u hu
      obtain ⟨x, _, hux⟩ := List.mem_flatMap.1 hu
      exact h1 x u hux
    · have hj : j < l.length * sz := by
        have := (List.getElem?_eq_some_iff.1 hu).1
        rwa [flat_len (fun x hx => (hmem x hx).1)] at this
      have hi : j / sz < l.length := Nat.div_lt_of_lt_mul (by rw [Nat.mul_comm]; exact hj)
      have hx := hR (j / sz) l[j / sz] (List.getElem?_eq_getElem hi)
      have hp := flat_part l[j / sz] (f := f) (l := l) (fun x hx => (hmem x hx).1) hi
      have hmod : j % sz < sz := Nat.mod_lt _ h0
      have e1 : j / sz * sz + j % sz = j := by rw [Nat.mul_comm]; exact Nat.div_add_mod j sz
      have e2 : (f l[j / sz])[j % sz]? = some u := by
        have e3 : l.getD (j / sz) l[j / sz] = l[j / sz] := by simp [List.getD_eq_getElem?_getD, hi]
        rw [← e3, ← hp, List.getElem?_take, if_pos hmod, List.getElem?_drop, e1]; exact hu
      have := (World.cells?_some hx.1).2.2 (j % sz) hmod
      rw [Addr.add_add, e1, e2] at this
      exact this

theorem trod_nd {fuel : Nat} {cs : List Value} {x : DataW H × List MemPlace} (h : DataW.trod enc Try.prog W base (fun _ => true) held fuel 40 cs = some x) : ∃ u : Nd, cs = cNd u := by
  obtain ⟨xs, m, _, _, hlen, hxl, hf⟩ := DataW.trod_struct Try.underlying40 h
  have hlen : cs.length = 3 := hlen.trans (by kernel_rfl)
  have hxl : xs.length = 3 := hxl
  have g0 := (hf 0 _ rfl).trans (List.getElem?_eq_getElem (show 0 < xs.length by omega))
  have e0 : Try.prog.cellsOf 3 = 1 := by kernel_rfl
  replace g0 : DataW.trod enc Try.prog W base (fun _ => true) held m 3 ((cs.drop 0).take 1) = some xs[0] := (congrArg (fun q => DataW.trod enc Try.prog W base (fun _ => true) held m 3 ((cs.drop 0).take q)) e0).symm.trans g0
  obtain ⟨a0, c0, _, w0⟩ := DataW.trod_int Try.underlying3 g0
  have g1 := (hf 1 _ rfl).trans (List.getElem?_eq_getElem (show 1 < xs.length by omega))
  have e1 : Try.prog.cellsOf 3 = 1 := by kernel_rfl
  replace g1 : DataW.trod enc Try.prog W base (fun _ => true) held m 3 ((cs.drop 1).take 1) = some xs[1] := (congrArg (fun q => DataW.trod enc Try.prog W base (fun _ => true) held m 3 ((cs.drop 1).take q)) e1).symm.trans g1
  obtain ⟨a1, c1, _, w1⟩ := DataW.trod_int Try.underlying3 g1
  have g2 := (hf 2 _ rfl).trans (List.getElem?_eq_getElem (show 2 < xs.length by omega))
  have e2 : Try.prog.cellsOf 3 = 1 := by kernel_rfl
  replace g2 : DataW.trod enc Try.prog W base (fun _ => true) held m 3 ((cs.drop 2).take 1) = some xs[2] := (congrArg (fun q => DataW.trod enc Try.prog W base (fun _ => true) held m 3 ((cs.drop 2).take q)) e2).symm.trans g2
  obtain ⟨a2, c2, _, w2⟩ := DataW.trod_int Try.underlying3 g2
  have hd0 : cs = cs.drop 0 := rfl
  have d0 := cutd cs (o := 0) (s := 1) (p := 1) rfl
  have d1 := cutd cs (o := 1) (s := 1) (p := 2) rfl
  have d2 := cutd cs (o := 2) (s := 1) (p := 3) rfl
  have dn : cs.drop 3 = [] := List.drop_eq_nil_of_le (by omega)
  have hcs : cs = [.int .i64 a0] ++ ([.int .i64 a1] ++ [.int .i64 a2]) := by rw [hd0, d0, c0, d1, c1, d2, c2, dn]; simp only [List.append_assoc, List.cons_append, List.nil_append, List.append_nil]
  exact ⟨⟨a0, a1, a2⟩, hcs⟩
theorem open_term {v : Value} (hval : Value.okWide Try.prog W rr b0 24 v) (hd : DataW.Trod enc Try.prog W base (fun _ => true) held 24 v d ps) : ∃ l : List Nd, Rd W 3 v l.length (l.flatMap cNd) := by
  obtain ⟨l, hr, _⟩ := open_rowsF (sz := 3) cNd (fun _ => True) Try.underlying24 (by kernel_rfl) (by decide) (fun n c y _ h => by
    obtain ⟨u, rfl⟩ := trod_nd h
    exact ⟨u, rfl, trivial⟩) cNd_one hval hd
  exact ⟨l, hr⟩
theorem trod_term {n : Nat} {cs : List Value} {y : DataW H × List MemPlace} (h : DataW.trod enc Try.prog W base (fun _ => true) held n 24 cs = some y) : ∃ x : Tm, cs = cTm x ∧ Rd W 3 x.v.1 x.t.length (x.t.flatMap cNd) := by
  obtain ⟨v, l, rfl, hr, _⟩ := rd_of_cells (sz := 3) cNd (fun _ => True) Try.underlying24 (by kernel_rfl) (by decide) (fun n c y _ h => by
    obtain ⟨u, rfl⟩ := trod_nd h
    exact ⟨u, rfl, trivial⟩) cNd_one h
  exact ⟨⟨v, l⟩, rfl, hr⟩
theorem open_terms {v : Value} (hval : Value.okWide Try.prog W rr b0 22 v) (hd : DataW.Trod enc Try.prog W base (fun _ => true) held 22 v d ps) : ∃ l : List Tm, Rd W 1 v l.length (l.flatMap cTm) ∧ ∀ x ∈ l, Rd W 3 x.v.1 x.t.length (x.t.flatMap cNd) := by
  obtain ⟨l, hr, hq⟩ := open_rowsF (sz := 1) cTm (fun x => Rd W 3 x.v.1 x.t.length (x.t.flatMap cNd)) Try.underlying22 (by kernel_rfl) (by decide) (fun n c y _ h => trod_term h) cTm_one hval hd
  exact ⟨l, hr, hq⟩
end
end Go.Proofs.Ytdlliajghfflnaa
