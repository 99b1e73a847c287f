/- Transactions and blocks as arguments. -/
import Derived.Test.YtokddhidcjkadaaLaw19
import Derived.Test.YtokddhidcjkadaaOpenP
namespace Go.Proofs.Ytokddhidcjkadaa
open Go.RowKit Go.Bz Go.Bz.Txs Go.ChangeShapes Go.WideShapes
section
variable {H : Type} {enc : TypeId × Value → H} {W : World} {base : Nat} {held : Bool} {d : DataW H} {ps : List MemPlace} {b0 : Nat} {rr : Reach}
theorem cutd (cs : List Value) {o s p : Nat} (h : p = o + s) : cs.drop o = (cs.drop o).take s ++ cs.drop p := by subst h; rw [← List.drop_drop, List.take_append_drop]
theorem open_agg {P : Program} {t : TypeId} {fs : Array Field} {v : Value} {Q : List Value → Prop} (ht : P.underlying t = some (.struct fs)) (hval : Value.okWide P W rr b0 t v) (hd : DataW.Trod enc P W base (fun _ => true) held t v d ps)
    (each : ∀ {fuel : Nat} {cs : List Value} {x : DataW H × List MemPlace}, DataW.trod enc P W base (fun _ => true) held fuel t cs = some x → Q cs) : ∃ cs, v = .agg cs.toArray ∧ Q cs := by
  obtain ⟨cs, rfl, _⟩ := okWide_struct ht hval
  obtain ⟨fuel, hf⟩ := hd
  exact ⟨cs.toList, by simp, each hf⟩
theorem rd_of_cells {α : Type} (f : α → List Value) (Q : α → Prop) {P : Program} {t e : TypeId} {sz n : Nat} {cs : List Value} {y : DataW H × List MemPlace} (ht : P.underlying t = some (.slice e)) (hsz : P.cellsOf e = sz) (h0 : 0 < sz)
    (each : ∀ (n : Nat) (c : List Value) (y : DataW H × List MemPlace), c.length = sz → DataW.trod enc P W base (fun _ => true) held n e c = some y → ∃ x, c = f x ∧ Q x)
    (h1 : ∀ x, ∀ u ∈ f x, u.oneCell' = true) (h : DataW.trod enc P W base (fun _ => true) held n t cs = some y) : ∃ (v : V1) (l : List α), cs = [v.1] ∧ Rd W sz v.1 l.length (l.flatMap f) ∧ ∀ x ∈ l, Q x := by
  rcases DataW.trod_slice ht h with ⟨hcs, _⟩ | ⟨a', len', cap', elems, rest, n, _, hcs, _, _, hl, hm, hlen, hel, _, _⟩
  · exact ⟨zV1, [], hcs, Rd.nil, fun x hx => by simp at hx⟩
  · obtain ⟨l, hll, hR⟩ := choose_list (R := fun i x => W.cells? base (a'.add (i * sz)) sz = some (f x) ∧ (f x).length = sz ∧ Q x) len' (fun i hi => by
      have h2 := hel i hi
      rw [hsz] at h2
      cases hy : elems[i]? with
      | none => rw [List.getElem?_eq_none_iff] at hy; omega
      | some y =>
        rw [hy] at h2
        simp only [Option.bind_eq_some_iff] at h2
        obtain ⟨c, hc, hy2⟩ := h2
        have hcl := (World.cells?_some hc).2.1
        obtain ⟨x, rfl, hq⟩ := each n c y hcl hy2
        exact ⟨x, hc, hcl, hq⟩)
    have hmem : ∀ x ∈ l, (f x).length = sz ∧ Q x := fun x hx => by
      obtain ⟨i, hi⟩ := List.getElem?_of_mem hx
      exact (hR i x hi).2
    refine ⟨⟨.slice (some a') len' cap', rfl⟩, l, hcs, ⟨flat_len (fun x hx => (hmem x hx).1), ?_, some a', cap', by rw [hll], by omega, hm, (fun h => by cases h), fun j u hu => ⟨a', rfl, ?_⟩⟩, fun x hx => (hmem x hx).2⟩
    · intro u hu
      obtain ⟨x, _, hux⟩ := List.mem_flatMap.1 hu
      exact h1 x u hux
    · have hj : j < l.length * sz := by
        have := (List.getElem?_eq_some_iff.1 hu).1
        rwa [flat_len (fun x hx => (hmem x hx).1)] at this
      have hi : j / sz < l.length := Nat.div_lt_of_lt_mul (by rw [Nat.mul_comm]; exact hj)
      have hx := hR (j / sz) l[j / sz] (List.getElem?_eq_getElem hi)
      have hp := flat_part l[j / sz] (f := f) (l := l) (fun x hx => (hmem x hx).1) hi
      have hmod : j % sz < sz := Nat.mod_lt _ h0
      have e1 : j / sz * sz + j % sz = j := by rw [Nat.mul_comm]; exact Nat.div_add_mod j sz
      have e2 : (f l[j / sz])[j % sz]? = some u := by
        have e3 : l.getD (j / sz) l[j / sz] = l[j / sz] := by simp [List.getD_eq_getElem?_getD, hi]
        rw [← e3, ← hp, List.getElem?_take, if_pos hmod, List.getElem?_drop, e1]; exact hu
      have := (World.cells?_some hx.1).2.2 (j % sz) hmod
      rw [Addr.add_add, e1, e2] at this
      exact this

theorem trod_ref {fuel : Nat} {cs : List Value} {x : DataW H × List MemPlace} (h : DataW.trod enc Try.prog W base (fun _ => true) held fuel 128 cs = some x) : ∃ (s : S32) (a : Int), inJ a ∧ cs = cBs s.1 ++ ([.int .i64 a] : List Value) := by
  obtain ⟨xs, m, _, _, hlen, hxl, hf⟩ := DataW.trod_struct Try.underlying128 h
  have hlen : cs.length = 33 := hlen.trans (by kernel_rfl)
  have hxl : xs.length = 2 := hxl
  have g0 := (hf 0 _ rfl).trans (List.getElem?_eq_getElem (show 0 < xs.length by omega))
  have e0 : Try.prog.cellsOf 23 = 32 := by kernel_rfl
  replace g0 : DataW.trod enc Try.prog W base (fun _ => true) held m 23 ((cs.drop 0).take 32) = some xs[0] := (congrArg (fun q => DataW.trod enc Try.prog W base (fun _ => true) held m 23 ((cs.drop 0).take q)) e0).symm.trans g0
  obtain ⟨l, hl, c0⟩ := trod_sum Try.underlying23 Try.underlying5 (by kernel_rfl) (by kernel_rfl) g0
  have g1 := (hf 1 _ rfl).trans (List.getElem?_eq_getElem (show 1 < xs.length by omega))
  have e1 : Try.prog.cellsOf 3 = 1 := by kernel_rfl
  replace g1 : DataW.trod enc Try.prog W base (fun _ => true) held m 3 ((cs.drop 32).take 1) = some xs[1] := (congrArg (fun q => DataW.trod enc Try.prog W base (fun _ => true) held m 3 ((cs.drop 32).take q)) e1).symm.trans g1
  obtain ⟨m1, c1, _, w1⟩ := DataW.trod_int Try.underlying3 g1
  have hd0 : cs = cs.drop 0 := rfl
  have d0 := cutd cs (o := 0) (s := 32) (p := 32) rfl
  have d1 := cutd cs (o := 32) (s := 1) (p := 33) rfl
  have dn : cs.drop 33 = [] := List.drop_eq_nil_of_le (by omega)
  have hcs : cs = cBs l ++ ([.int .i64 m1] : List Value) := by rw [hd0, d0, c0, d1, c1, dn]; simp only [List.append_assoc, List.cons_append, List.nil_append, List.append_nil]
  exact ⟨⟨l, hl⟩, m1, bounds_i64 w1, hcs⟩
theorem trod_in {fuel : Nat} {cs : List Value} {x : DataW H × List MemPlace} (h : DataW.trod enc Try.prog W base (fun _ => true) held fuel 130 cs = some x) : ∃ x : InG, StIn (newN W) W x ∧ cs = cIn x := by
  obtain ⟨xs, m, _, _, hlen, hxl, hf⟩ := DataW.trod_struct Try.underlying130 h
  have hlen : cs.length = 35 := hlen.trans (by kernel_rfl)
  have hxl : xs.length = 3 := hxl
  have g0 := (hf 0 _ rfl).trans (List.getElem?_eq_getElem (show 0 < xs.length by omega))
  have e0 : Try.prog.cellsOf 128 = 33 := by kernel_rfl
  replace g0 : DataW.trod enc Try.prog W base (fun _ => true) held m 128 ((cs.drop 0).take 33) = some xs[0] := (congrArg (fun q => DataW.trod enc Try.prog W base (fun _ => true) held m 128 ((cs.drop 0).take q)) e0).symm.trans g0
  obtain ⟨s, a, ha, c0⟩ := trod_ref g0
  have g1 := (hf 1 _ rfl).trans (List.getElem?_eq_getElem (show 1 < xs.length by omega))
  have e1 : Try.prog.cellsOf 3 = 1 := by kernel_rfl
  replace g1 : DataW.trod enc Try.prog W base (fun _ => true) held m 3 ((cs.drop 33).take 1) = some xs[1] := (congrArg (fun q => DataW.trod enc Try.prog W base (fun _ => true) held m 3 ((cs.drop 33).take q)) e1).symm.trans g1
  obtain ⟨m1, c1, _, w1⟩ := DataW.trod_int Try.underlying3 g1
  have g2 := (hf 2 _ rfl).trans (List.getElem?_eq_getElem (show 2 < xs.length by omega))
  have e2 : Try.prog.cellsOf 58 = 1 := by kernel_rfl
  replace g2 : DataW.trod enc Try.prog W base (fun _ => true) held m 58 ((cs.drop 34).take 1) = some xs[2] := (congrArg (fun q => DataW.trod enc Try.prog W base (fun _ => true) held m 58 ((cs.drop 34).take q)) e2).symm.trans g2
  obtain ⟨v, l, c2, hr⟩ := open_bytes1 Try.underlying58 Try.underlying5 (by kernel_rfl) g2
  have hd0 : cs = cs.drop 0 := rfl
  have d0 := cutd cs (o := 0) (s := 33) (p := 33) rfl
  have d1 := cutd cs (o := 33) (s := 1) (p := 34) rfl
  have d2 := cutd cs (o := 34) (s := 1) (p := 35) rfl
  have dn : cs.drop 35 = [] := List.drop_eq_nil_of_le (by omega)
  have hcs : cs = cBs s.1 ++ ([.int .i64 a, .int .i64 m1, v.1] : List Value) := by rw [hd0, d0, c0, d1, c1, d2, c2, dn]; simp only [List.append_assoc, List.cons_append, List.nil_append, List.append_nil]
  exact ⟨⟨s, a, m1, l, v⟩, ⟨Rd.stab hr, ha, bounds_i64 w1⟩, hcs⟩
theorem trod_ins {n : Nat} {cs : List Value} {y : DataW H × List MemPlace} (h : DataW.trod enc Try.prog W base (fun _ => true) held n 56 cs = some y) : ∃ (v : V1) (l : List InG), cs = [v.1] ∧ Rd W 35 v.1 l.length (l.flatMap cIn) ∧ ∀ x ∈ l, StIn (newN W) W x := by
  obtain ⟨v, l, h1, h2, h3⟩ := rd_of_cells (sz := 35) cIn (fun x => StIn (newN W) W x) Try.underlying56 (by kernel_rfl) (by decide) (fun n c y _ h => by
    obtain ⟨x, hx, rfl⟩ := trod_in h
    exact ⟨x, rfl, hx⟩) cIn_one h
  exact ⟨v, l, h1, h2, h3⟩
theorem trod_int1 {n : Nat} {cs : List Value} {y : DataW H × List MemPlace} (h : DataW.trod enc Try.prog W base (fun _ => true) held n 3 cs = some y) : ∃ x : Int, inJ x ∧ cs = cI x := by
  obtain ⟨m, c, _, w⟩ := DataW.trod_int Try.underlying3 h
  exact ⟨m, bounds_i64 w, c⟩
theorem trod_ks {n : Nat} {cs : List Value} {y : DataW H × List MemPlace} (h : DataW.trod enc Try.prog W base (fun _ => true) held n 109 cs = some y) : ∃ (v : V1) (l : List Int), cs = [v.1] ∧ Rd W 1 v.1 l.length (l.flatMap cI) ∧ ∀ x ∈ l, inJ x := by
  obtain ⟨v, l, h1, h2, h3⟩ := rd_of_cells (sz := 1) cI (fun x => inJ x) Try.underlying109 (by kernel_rfl) (by decide) (fun n c y _ h => by
    obtain ⟨x, hx, rfl⟩ := trod_int1 h
    exact ⟨x, rfl, hx⟩) cI_one h
  exact ⟨v, l, h1, h2, h3⟩
theorem trod_way {fuel : Nat} {cs : List Value} {x : DataW H × List MemPlace} (h : DataW.trod enc Try.prog W base (fun _ => true) held fuel 135 cs = some x) : ∃ x : WayG, StWay (newN W) W x ∧ cs = cWay x := by
  obtain ⟨xs, m, _, _, hlen, hxl, hf⟩ := DataW.trod_struct Try.underlying135 h
  have hlen : cs.length = 35 := hlen.trans (by kernel_rfl)
  have hxl : xs.length = 4 := hxl
  have g0 := (hf 0 _ rfl).trans (List.getElem?_eq_getElem (show 0 < xs.length by omega))
  have e0 : Try.prog.cellsOf 109 = 1 := by kernel_rfl
  replace g0 : DataW.trod enc Try.prog W base (fun _ => true) held m 109 ((cs.drop 0).take 1) = some xs[0] := (congrArg (fun q => DataW.trod enc Try.prog W base (fun _ => true) held m 109 ((cs.drop 0).take q)) e0).symm.trans g0
  obtain ⟨v, l, c0, hr, hq⟩ := trod_ks g0
  have g1 := (hf 1 _ rfl).trans (List.getElem?_eq_getElem (show 1 < xs.length by omega))
  have e1 : Try.prog.cellsOf 23 = 32 := by kernel_rfl
  replace g1 : DataW.trod enc Try.prog W base (fun _ => true) held m 23 ((cs.drop 1).take 32) = some xs[1] := (congrArg (fun q => DataW.trod enc Try.prog W base (fun _ => true) held m 23 ((cs.drop 1).take q)) e1).symm.trans g1
  obtain ⟨lh, hh, c1⟩ := trod_sum Try.underlying23 Try.underlying5 (by kernel_rfl) (by kernel_rfl) g1
  have g2 := (hf 2 _ rfl).trans (List.getElem?_eq_getElem (show 2 < xs.length by omega))
  have e2 : Try.prog.cellsOf 3 = 1 := by kernel_rfl
  replace g2 : DataW.trod enc Try.prog W base (fun _ => true) held m 3 ((cs.drop 33).take 1) = some xs[2] := (congrArg (fun q => DataW.trod enc Try.prog W base (fun _ => true) held m 3 ((cs.drop 33).take q)) e2).symm.trans g2
  obtain ⟨m1, c2, _, w1⟩ := DataW.trod_int Try.underlying3 g2
  have g3 := (hf 3 _ rfl).trans (List.getElem?_eq_getElem (show 3 < xs.length by omega))
  have e3 : Try.prog.cellsOf 3 = 1 := by kernel_rfl
  replace g3 : DataW.trod enc Try.prog W base (fun _ => true) held m 3 ((cs.drop 34).take 1) = some xs[3] := (congrArg (fun q => DataW.trod enc Try.prog W base (fun _ => true) held m 3 ((cs.drop 34).take q)) e3).symm.trans g3
  obtain ⟨m2, c3, _, w2⟩ := DataW.trod_int Try.underlying3 g3
  have hd0 : cs = cs.drop 0 := rfl
  have d0 := cutd cs (o := 0) (s := 1) (p := 1) rfl
  have d1 := cutd cs (o := 1) (s := 32) (p := 33) rfl
  have d2 := cutd cs (o := 33) (s := 1) (p := 34) rfl
  have d3 := cutd cs (o := 34) (s := 1) (p := 35) rfl
  have dn : cs.drop 35 = [] := List.drop_eq_nil_of_le (by omega)
  have hcs : cs = ([v.1] : List Value) ++ (cBs lh ++ ([.int .i64 m1, .int .i64 m2] : List Value)) := by rw [hd0, d0, c0, d1, c1, d2, c2, d3, c3, dn]; simp only [List.append_assoc, List.cons_append, List.nil_append, List.append_nil]
  exact ⟨⟨l, v, ⟨lh, hh⟩, m1, m2⟩, ⟨Rd.stab hr, hq, bounds_i64 w1, bounds_i64 w2⟩, hcs⟩
theorem trod_ways {n : Nat} {cs : List Value} {y : DataW H × List MemPlace} (h : DataW.trod enc Try.prog W base (fun _ => true) held n 131 cs = some y) : ∃ (v : V1) (l : List WayG), cs = [v.1] ∧ Rd W 35 v.1 l.length (l.flatMap cWay) ∧ ∀ x ∈ l, StWay (newN W) W x := by
  obtain ⟨v, l, h1, h2, h3⟩ := rd_of_cells (sz := 35) cWay (fun x => StWay (newN W) W x) Try.underlying131 (by kernel_rfl) (by decide) (fun n c y _ h => by
    obtain ⟨x, hx, rfl⟩ := trod_way h
    exact ⟨x, rfl, hx⟩) cWay_one h
  exact ⟨v, l, h1, h2, h3⟩
theorem trod_out {fuel : Nat} {cs : List Value} {x : DataW H × List MemPlace} (h : DataW.trod enc Try.prog W base (fun _ => true) held fuel 133 cs = some x) : ∃ x : OutG, StOut (newN W) W x ∧ cs = cOut x := by
  obtain ⟨xs, m, _, _, hlen, hxl, hf⟩ := DataW.trod_struct Try.underlying133 h
  have hlen : cs.length = 2 := hlen.trans (by kernel_rfl)
  have hxl : xs.length = 2 := hxl
  have g0 := (hf 0 _ rfl).trans (List.getElem?_eq_getElem (show 0 < xs.length by omega))
  have e0 : Try.prog.cellsOf 2 = 1 := by kernel_rfl
  replace g0 : DataW.trod enc Try.prog W base (fun _ => true) held m 2 ((cs.drop 0).take 1) = some xs[0] := (congrArg (fun q => DataW.trod enc Try.prog W base (fun _ => true) held m 2 ((cs.drop 0).take q)) e0).symm.trans g0
  obtain ⟨m1, c0, _, w1⟩ := DataW.trod_int Try.underlying2 g0
  have g1 := (hf 1 _ rfl).trans (List.getElem?_eq_getElem (show 1 < xs.length by omega))
  have e1 : Try.prog.cellsOf 131 = 1 := by kernel_rfl
  replace g1 : DataW.trod enc Try.prog W base (fun _ => true) held m 131 ((cs.drop 1).take 1) = some xs[1] := (congrArg (fun q => DataW.trod enc Try.prog W base (fun _ => true) held m 131 ((cs.drop 1).take q)) e1).symm.trans g1
  obtain ⟨v, l, c1, hr, hq⟩ := trod_ways g1
  have hd0 : cs = cs.drop 0 := rfl
  have d0 := cutd cs (o := 0) (s := 1) (p := 1) rfl
  have d1 := cutd cs (o := 1) (s := 1) (p := 2) rfl
  have dn : cs.drop 2 = [] := List.drop_eq_nil_of_le (by omega)
  have hcs : cs = ([.int .i64 m1, v.1] : List Value) := by rw [hd0, d0, c0, d1, c1, dn]; simp only [List.append_assoc, List.cons_append, List.nil_append, List.append_nil]
  exact ⟨⟨m1, l, v⟩, ⟨Rd.stab hr, hq, bounds_i64 w1⟩, hcs⟩
theorem trod_outs {n : Nat} {cs : List Value} {y : DataW H × List MemPlace} (h : DataW.trod enc Try.prog W base (fun _ => true) held n 57 cs = some y) : ∃ (v : V1) (l : List OutG), cs = [v.1] ∧ Rd W 2 v.1 l.length (l.flatMap cOut) ∧ ∀ x ∈ l, StOut (newN W) W x := by
  obtain ⟨v, l, h1, h2, h3⟩ := rd_of_cells (sz := 2) cOut (fun x => StOut (newN W) W x) Try.underlying57 (by kernel_rfl) (by decide) (fun n c y _ h => by
    obtain ⟨x, hx, rfl⟩ := trod_out h
    exact ⟨x, rfl, hx⟩) cOut_one h
  exact ⟨v, l, h1, h2, h3⟩
theorem trod_op {fuel : Nat} {cs : List Value} {x : DataW H × List MemPlace} (h : DataW.trod enc Try.prog W base (fun _ => true) held fuel 60 cs = some x) : ∃ (a b c d : Int) (s : S32) (v : V1) (l : List UInt8), inJ a ∧ inJ b ∧ inJ c ∧ inJ d ∧ RdB W v.1 l ∧ cs = ([.int .i64 a, .int .i64 b, .int .i64 c, .int .i64 d] : List Value) ++ (cBs s.1 ++ ([v.1] : List Value)) := by
  obtain ⟨xs, m, _, _, hlen, hxl, hf⟩ := DataW.trod_struct Try.underlying60 h
  have hlen : cs.length = 37 := hlen.trans (by kernel_rfl)
  have hxl : xs.length = 6 := hxl
  have g0 := (hf 0 _ rfl).trans (List.getElem?_eq_getElem (show 0 < xs.length by omega))
  have e0 : Try.prog.cellsOf 3 = 1 := by kernel_rfl
  replace g0 : DataW.trod enc Try.prog W base (fun _ => true) held m 3 ((cs.drop 0).take 1) = some xs[0] := (congrArg (fun q => DataW.trod enc Try.prog W base (fun _ => true) held m 3 ((cs.drop 0).take q)) e0).symm.trans g0
  obtain ⟨m1, c0, _, w1⟩ := DataW.trod_int Try.underlying3 g0
  have g1 := (hf 1 _ rfl).trans (List.getElem?_eq_getElem (show 1 < xs.length by omega))
  have e1 : Try.prog.cellsOf 3 = 1 := by kernel_rfl
  replace g1 : DataW.trod enc Try.prog W base (fun _ => true) held m 3 ((cs.drop 1).take 1) = some xs[1] := (congrArg (fun q => DataW.trod enc Try.prog W base (fun _ => true) held m 3 ((cs.drop 1).take q)) e1).symm.trans g1
  obtain ⟨m2, c1, _, w2⟩ := DataW.trod_int Try.underlying3 g1
  have g2 := (hf 2 _ rfl).trans (List.getElem?_eq_getElem (show 2 < xs.length by omega))
  have e2 : Try.prog.cellsOf 3 = 1 := by kernel_rfl
  replace g2 : DataW.trod enc Try.prog W base (fun _ => true) held m 3 ((cs.drop 2).take 1) = some xs[2] := (congrArg (fun q => DataW.trod enc Try.prog W base (fun _ => true) held m 3 ((cs.drop 2).take q)) e2).symm.trans g2
  obtain ⟨m3, c2, _, w3⟩ := DataW.trod_int Try.underlying3 g2
  have g3 := (hf 3 _ rfl).trans (List.getElem?_eq_getElem (show 3 < xs.length by omega))
  have e3 : Try.prog.cellsOf 2 = 1 := by kernel_rfl
  replace g3 : DataW.trod enc Try.prog W base (fun _ => true) held m 2 ((cs.drop 3).take 1) = some xs[3] := (congrArg (fun q => DataW.trod enc Try.prog W base (fun _ => true) held m 2 ((cs.drop 3).take q)) e3).symm.trans g3
  obtain ⟨m4, c3, _, w4⟩ := DataW.trod_int Try.underlying2 g3
  have g4 := (hf 4 _ rfl).trans (List.getElem?_eq_getElem (show 4 < xs.length by omega))
  have e4 : Try.prog.cellsOf 23 = 32 := by kernel_rfl
  replace g4 : DataW.trod enc Try.prog W base (fun _ => true) held m 23 ((cs.drop 4).take 32) = some xs[4] := (congrArg (fun q => DataW.trod enc Try.prog W base (fun _ => true) held m 23 ((cs.drop 4).take q)) e4).symm.trans g4
  obtain ⟨lh, hh, c4⟩ := trod_sum Try.underlying23 Try.underlying5 (by kernel_rfl) (by kernel_rfl) g4
  have g5 := (hf 5 _ rfl).trans (List.getElem?_eq_getElem (show 5 < xs.length by omega))
  have e5 : Try.prog.cellsOf 58 = 1 := by kernel_rfl
  replace g5 : DataW.trod enc Try.prog W base (fun _ => true) held m 58 ((cs.drop 36).take 1) = some xs[5] := (congrArg (fun q => DataW.trod enc Try.prog W base (fun _ => true) held m 58 ((cs.drop 36).take q)) e5).symm.trans g5
  obtain ⟨v, l, c5, hr⟩ := open_bytes1 Try.underlying58 Try.underlying5 (by kernel_rfl) g5
  have hd0 : cs = cs.drop 0 := rfl
  have d0 := cutd cs (o := 0) (s := 1) (p := 1) rfl
  have d1 := cutd cs (o := 1) (s := 1) (p := 2) rfl
  have d2 := cutd cs (o := 2) (s := 1) (p := 3) rfl
  have d3 := cutd cs (o := 3) (s := 1) (p := 4) rfl
  have d4 := cutd cs (o := 4) (s := 32) (p := 36) rfl
  have d5 := cutd cs (o := 36) (s := 1) (p := 37) rfl
  have dn : cs.drop 37 = [] := List.drop_eq_nil_of_le (by omega)
  have hcs : cs = ([.int .i64 m1, .int .i64 m2, .int .i64 m3, .int .i64 m4] : List Value) ++ (cBs lh ++ ([v.1] : List Value)) := by rw [hd0, d0, c0, d1, c1, d2, c2, d3, c3, d4, c4, d5, c5, dn]; simp only [List.append_assoc, List.cons_append, List.nil_append, List.append_nil]
  exact ⟨m1, m2, m3, m4, ⟨lh, hh⟩, v, l, bounds_i64 w1, bounds_i64 w2, bounds_i64 w3, bounds_i64 w4, hr, hcs⟩
theorem trod_sign {fuel : Nat} {cs : List Value} {x : DataW H × List MemPlace} (h : DataW.trod enc Try.prog W base (fun _ => true) held fuel 167 cs = some x) : ∃ x : SgG, True ∧ cs = cSg x := by
  obtain ⟨xs, m, _, _, hlen, hxl, hf⟩ := DataW.trod_struct Try.underlying167 h
  have hlen : cs.length = 33 := hlen.trans (by kernel_rfl)
  have hxl : xs.length = 2 := hxl
  have g0 := (hf 0 _ rfl).trans (List.getElem?_eq_getElem (show 0 < xs.length by omega))
  have e0 : Try.prog.cellsOf 3 = 1 := by kernel_rfl
  replace g0 : DataW.trod enc Try.prog W base (fun _ => true) held m 3 ((cs.drop 0).take 1) = some xs[0] := (congrArg (fun q => DataW.trod enc Try.prog W base (fun _ => true) held m 3 ((cs.drop 0).take q)) e0).symm.trans g0
  obtain ⟨m1, c0, _, w1⟩ := DataW.trod_int Try.underlying3 g0
  have g1 := (hf 1 _ rfl).trans (List.getElem?_eq_getElem (show 1 < xs.length by omega))
  have e1 : Try.prog.cellsOf 23 = 32 := by kernel_rfl
  replace g1 : DataW.trod enc Try.prog W base (fun _ => true) held m 23 ((cs.drop 1).take 32) = some xs[1] := (congrArg (fun q => DataW.trod enc Try.prog W base (fun _ => true) held m 23 ((cs.drop 1).take q)) e1).symm.trans g1
  obtain ⟨lh, hh, c1⟩ := trod_sum Try.underlying23 Try.underlying5 (by kernel_rfl) (by kernel_rfl) g1
  have hd0 : cs = cs.drop 0 := rfl
  have d0 := cutd cs (o := 0) (s := 1) (p := 1) rfl
  have d1 := cutd cs (o := 1) (s := 32) (p := 33) rfl
  have dn : cs.drop 33 = [] := List.drop_eq_nil_of_le (by omega)
  have hcs : cs = ([.int .i64 m1] : List Value) ++ cBs lh := by rw [hd0, d0, c0, d1, c1, dn]; simp only [List.append_assoc, List.cons_append, List.nil_append, List.append_nil]
  exact ⟨⟨m1, ⟨lh, hh⟩⟩, trivial, hcs⟩
theorem trod_signs {n : Nat} {cs : List Value} {y : DataW H × List MemPlace} (h : DataW.trod enc Try.prog W base (fun _ => true) held n 61 cs = some y) : ∃ (v : V1) (l : List SgG), cs = [v.1] ∧ Rd W 33 v.1 l.length (l.flatMap cSg) ∧ ∀ x ∈ l, True := by
  obtain ⟨v, l, h1, h2, h3⟩ := rd_of_cells (sz := 33) cSg (fun x => True) Try.underlying61 (by kernel_rfl) (by decide) (fun n c y _ h => by
    obtain ⟨x, hx, rfl⟩ := trod_sign h
    exact ⟨x, rfl, hx⟩) cSg_one h
  exact ⟨v, l, h1, h2, h3⟩
theorem trod_tx {fuel : Nat} {cs : List Value} {x : DataW H × List MemPlace} (h : DataW.trod enc Try.prog W base (fun _ => true) held fuel 63 cs = some x) : ∃ x : TxG, StTx (newN W) W x ∧ cs = cTx x := by
  obtain ⟨xs, m, _, _, hlen, hxl, hf⟩ := DataW.trod_struct Try.underlying63 h
  have hlen : cs.length = 40 := hlen.trans (by kernel_rfl)
  have hxl : xs.length = 4 := hxl
  have g0 := (hf 0 _ rfl).trans (List.getElem?_eq_getElem (show 0 < xs.length by omega))
  have e0 : Try.prog.cellsOf 56 = 1 := by kernel_rfl
  replace g0 : DataW.trod enc Try.prog W base (fun _ => true) held m 56 ((cs.drop 0).take 1) = some xs[0] := (congrArg (fun q => DataW.trod enc Try.prog W base (fun _ => true) held m 56 ((cs.drop 0).take q)) e0).symm.trans g0
  obtain ⟨vi, li, c0, hi, qi⟩ := trod_ins g0
  have g1 := (hf 1 _ rfl).trans (List.getElem?_eq_getElem (show 1 < xs.length by omega))
  have e1 : Try.prog.cellsOf 57 = 1 := by kernel_rfl
  replace g1 : DataW.trod enc Try.prog W base (fun _ => true) held m 57 ((cs.drop 1).take 1) = some xs[1] := (congrArg (fun q => DataW.trod enc Try.prog W base (fun _ => true) held m 57 ((cs.drop 1).take q)) e1).symm.trans g1
  obtain ⟨vo, lo, c1, ho, qo⟩ := trod_outs g1
  have g2 := (hf 2 _ rfl).trans (List.getElem?_eq_getElem (show 2 < xs.length by omega))
  have e2 : Try.prog.cellsOf 60 = 37 := by kernel_rfl
  replace g2 : DataW.trod enc Try.prog W base (fun _ => true) held m 60 ((cs.drop 2).take 37) = some xs[2] := (congrArg (fun q => DataW.trod enc Try.prog W base (fun _ => true) held m 60 ((cs.drop 2).take q)) e2).symm.trans g2
  obtain ⟨a, b, c, dd, s, vd, ld, wa, wb, wc, wd, hd, c2⟩ := trod_op g2
  have g3 := (hf 3 _ rfl).trans (List.getElem?_eq_getElem (show 3 < xs.length by omega))
  have e3 : Try.prog.cellsOf 61 = 1 := by kernel_rfl
  replace g3 : DataW.trod enc Try.prog W base (fun _ => true) held m 61 ((cs.drop 39).take 1) = some xs[3] := (congrArg (fun q => DataW.trod enc Try.prog W base (fun _ => true) held m 61 ((cs.drop 39).take q)) e3).symm.trans g3
  obtain ⟨vs, lsg, c3, hsg, _⟩ := trod_signs g3
  have hd0 : cs = cs.drop 0 := rfl
  have d0 := cutd cs (o := 0) (s := 1) (p := 1) rfl
  have d1 := cutd cs (o := 1) (s := 1) (p := 2) rfl
  have d2 := cutd cs (o := 2) (s := 37) (p := 39) rfl
  have d3 := cutd cs (o := 39) (s := 1) (p := 40) rfl
  have dn : cs.drop 40 = [] := List.drop_eq_nil_of_le (by omega)
  have hcs : cs = ([vi.1, vo.1, .int .i64 a, .int .i64 b, .int .i64 c, .int .i64 dd] : List Value) ++ (cBs s.1 ++ ([vd.1, vs.1] : List Value)) := by rw [hd0, d0, c0, d1, c1, d2, c2, d3, c3, dn]; simp only [List.append_assoc, List.cons_append, List.nil_append, List.append_nil]
  exact ⟨⟨li, vi, lo, vo, a, b, c, dd, s, ld, vd, lsg, vs⟩, ⟨Rd.stab hi, qi, Rd.stab ho, qo, Rd.stab hd, Rd.stab hsg, wa, wb, wc, wd⟩, hcs⟩
theorem trod_txs {n : Nat} {cs : List Value} {y : DataW H × List MemPlace} (h : DataW.trod enc Try.prog W base (fun _ => true) held n 41 cs = some y) : ∃ (v : V1) (l : List TxG), cs = [v.1] ∧ Rd W 40 v.1 l.length (l.flatMap cTx) ∧ ∀ x ∈ l, StTx (newN W) W x := by
  obtain ⟨v, l, h1, h2, h3⟩ := rd_of_cells (sz := 40) cTx (fun x => StTx (newN W) W x) Try.underlying41 (by kernel_rfl) (by decide) (fun n c y _ h => by
    obtain ⟨x, hx, rfl⟩ := trod_tx h
    exact ⟨x, rfl, hx⟩) cTx_one h
  exact ⟨v, l, h1, h2, h3⟩
theorem trod_head {fuel : Nat} {cs : List Value} {x : DataW H × List MemPlace} (h : DataW.trod enc Try.prog W base (fun _ => true) held fuel 40 cs = some x) : ∃ x : Hd, inHd x ∧ cs = cHd x := by
  obtain ⟨xs, m, _, _, hlen, hxl, hf⟩ := DataW.trod_struct Try.underlying40 h
  have hlen : cs.length = 66 := hlen.trans (by kernel_rfl)
  have hxl : xs.length = 4 := hxl
  have g0 := (hf 0 _ rfl).trans (List.getElem?_eq_getElem (show 0 < xs.length by omega))
  have e0 : Try.prog.cellsOf 23 = 32 := by kernel_rfl
  replace g0 : DataW.trod enc Try.prog W base (fun _ => true) held m 23 ((cs.drop 0).take 32) = some xs[0] := (congrArg (fun q => DataW.trod enc Try.prog W base (fun _ => true) held m 23 ((cs.drop 0).take q)) e0).symm.trans g0
  obtain ⟨l1, h1, c0⟩ := trod_sum Try.underlying23 Try.underlying5 (by kernel_rfl) (by kernel_rfl) g0
  have g1 := (hf 1 _ rfl).trans (List.getElem?_eq_getElem (show 1 < xs.length by omega))
  have e1 : Try.prog.cellsOf 3 = 1 := by kernel_rfl
  replace g1 : DataW.trod enc Try.prog W base (fun _ => true) held m 3 ((cs.drop 32).take 1) = some xs[1] := (congrArg (fun q => DataW.trod enc Try.prog W base (fun _ => true) held m 3 ((cs.drop 32).take q)) e1).symm.trans g1
  obtain ⟨m1, c1, _, w1⟩ := DataW.trod_int Try.underlying3 g1
  have g2 := (hf 2 _ rfl).trans (List.getElem?_eq_getElem (show 2 < xs.length by omega))
  have e2 : Try.prog.cellsOf 23 = 32 := by kernel_rfl
  replace g2 : DataW.trod enc Try.prog W base (fun _ => true) held m 23 ((cs.drop 33).take 32) = some xs[2] := (congrArg (fun q => DataW.trod enc Try.prog W base (fun _ => true) held m 23 ((cs.drop 33).take q)) e2).symm.trans g2
  obtain ⟨l2, h2, c2⟩ := trod_sum Try.underlying23 Try.underlying5 (by kernel_rfl) (by kernel_rfl) g2
  have g3 := (hf 3 _ rfl).trans (List.getElem?_eq_getElem (show 3 < xs.length by omega))
  have e3 : Try.prog.cellsOf 3 = 1 := by kernel_rfl
  replace g3 : DataW.trod enc Try.prog W base (fun _ => true) held m 3 ((cs.drop 65).take 1) = some xs[3] := (congrArg (fun q => DataW.trod enc Try.prog W base (fun _ => true) held m 3 ((cs.drop 65).take q)) e3).symm.trans g3
  obtain ⟨m2, c3, _, w2⟩ := DataW.trod_int Try.underlying3 g3
  have hd0 : cs = cs.drop 0 := rfl
  have d0 := cutd cs (o := 0) (s := 32) (p := 32) rfl
  have d1 := cutd cs (o := 32) (s := 1) (p := 33) rfl
  have d2 := cutd cs (o := 33) (s := 32) (p := 65) rfl
  have d3 := cutd cs (o := 65) (s := 1) (p := 66) rfl
  have dn : cs.drop 66 = [] := List.drop_eq_nil_of_le (by omega)
  have hcs : cs = cBs l1 ++ (([.int .i64 m1] : List Value) ++ (cBs l2 ++ ([.int .i64 m2] : List Value))) := by rw [hd0, d0, c0, d1, c1, d2, c2, d3, c3, dn]; simp only [List.append_assoc, List.cons_append, List.nil_append, List.append_nil]
  exact ⟨⟨⟨l1, h1⟩, m1, ⟨l2, h2⟩, m2⟩, ⟨bounds_i64 w1, bounds_i64 w2⟩, hcs⟩
theorem trod_block {fuel : Nat} {cs : List Value} {x : DataW H × List MemPlace} (h : DataW.trod enc Try.prog W base (fun _ => true) held fuel 43 cs = some x) : ∃ (x : Hd) (v : V1) (l : List TxG), inHd x ∧ Rd W 40 v.1 l.length (l.flatMap cTx) ∧ (∀ t ∈ l, StTx (newN W) W t) ∧ cs = cBs x.a.1 ++ (([.int .i64 x.h] : List Value) ++ (cBs x.r.1 ++ ([.int .i64 x.m, v.1] : List Value))) := by
  obtain ⟨xs, m, _, _, hlen, hxl, hf⟩ := DataW.trod_struct Try.underlying43 h
  have hlen : cs.length = 67 := hlen.trans (by kernel_rfl)
  have hxl : xs.length = 2 := hxl
  have g0 := (hf 0 _ rfl).trans (List.getElem?_eq_getElem (show 0 < xs.length by omega))
  have e0 : Try.prog.cellsOf 40 = 66 := by kernel_rfl
  replace g0 : DataW.trod enc Try.prog W base (fun _ => true) held m 40 ((cs.drop 0).take 66) = some xs[0] := (congrArg (fun q => DataW.trod enc Try.prog W base (fun _ => true) held m 40 ((cs.drop 0).take q)) e0).symm.trans g0
  obtain ⟨x, hx, c0⟩ := trod_head g0
  have g1 := (hf 1 _ rfl).trans (List.getElem?_eq_getElem (show 1 < xs.length by omega))
  have e1 : Try.prog.cellsOf 41 = 1 := by kernel_rfl
  replace g1 : DataW.trod enc Try.prog W base (fun _ => true) held m 41 ((cs.drop 66).take 1) = some xs[1] := (congrArg (fun q => DataW.trod enc Try.prog W base (fun _ => true) held m 41 ((cs.drop 66).take q)) e1).symm.trans g1
  obtain ⟨v, l, c1, hr, hq⟩ := trod_txs g1
  have hd0 : cs = cs.drop 0 := rfl
  have d0 := cutd cs (o := 0) (s := 66) (p := 66) rfl
  have d1 := cutd cs (o := 66) (s := 1) (p := 67) rfl
  have dn : cs.drop 67 = [] := List.drop_eq_nil_of_le (by omega)
  have hcs : cs = cBs x.a.1 ++ (([.int .i64 x.h] : List Value) ++ (cBs x.r.1 ++ ([.int .i64 x.m, v.1] : List Value))) := by rw [hd0, d0, c0, d1, c1, dn]; simp only [cHd, List.append_assoc, List.cons_append, List.nil_append, List.append_nil]
  exact ⟨x, v, l, hx, hr, hq, hcs⟩
set_option maxRecDepth 100000 in
theorem open_hd {v : Value} (hval : Value.okWide Try.prog W rr b0 40 v) (hd : DataW.Trod enc Try.prog W base (fun _ => true) held 40 v d ps) : ∃ x : Hd, inHd x ∧ v = .agg ((cBs x.a.1 ++ (([.int .i64 x.h] : List Value) ++ (cBs x.r.1 ++ ([.int .i64 x.m] : List Value))))).toArray := by
  obtain ⟨cs, rfl, x, hin, rfl⟩ := open_agg (Q := fun cs => ∃ x : Hd, inHd x ∧ cs = cHd x) Try.underlying40 hval hd (fun h => trod_head h)
  exact ⟨x, hin, rfl⟩
set_option maxRecDepth 100000 in
theorem open_block {v : Value} (hval : Value.okWide Try.prog W rr b0 43 v) (hd : DataW.Trod enc Try.prog W base (fun _ => true) held 43 v d ps) : ∃ (x : Hd) (v' : V1) (l : List TxG), inHd x ∧ Rd W 40 v'.1 l.length (l.flatMap cTx) ∧ (∀ t ∈ l, StTx (newN W) W t) ∧ v = .agg ((cBs x.a.1 ++ (([.int .i64 x.h] : List Value) ++ (cBs x.r.1 ++ ([.int .i64 x.m, v'.1] : List Value))))).toArray := by
  obtain ⟨cs, rfl, x, v, l, h1, h2, h3, rfl⟩ := open_agg (Q := fun cs => ∃ (x : Hd) (v : V1) (l : List TxG), inHd x ∧ Rd W 40 v.1 l.length (l.flatMap cTx) ∧ (∀ t ∈ l, StTx (newN W) W t) ∧ cs = cBs x.a.1 ++ (([.int .i64 x.h] : List Value) ++ (cBs x.r.1 ++ ([.int .i64 x.m, v.1] : List Value)))) Try.underlying43 hval hd (fun h => trod_block h)
  exact ⟨x, v, l, h1, h2, h3, rfl⟩
set_option maxRecDepth 100000 in
theorem open_txs {v : Value} (hval : Value.okWide Try.prog W rr b0 41 v) (hd : DataW.Trod enc Try.prog W base (fun _ => true) held 41 v d ps) : ∃ l : List TxG, Rd W 40 v l.length (l.flatMap cTx) ∧ ∀ t ∈ l, StTx (newN W) W t := by
  obtain ⟨l, hr, hq⟩ := open_rowsF (sz := 40) cTx (fun x => StTx (newN W) W x) Try.underlying41 (by kernel_rfl) (by decide) (fun n c y _ h => by
    obtain ⟨x, hx, rfl⟩ := trod_tx h
    exact ⟨x, rfl, hx⟩) cTx_one hval hd
  exact ⟨l, hr, hq⟩
end

end Go.Proofs.Ytokddhidcjkadaa
