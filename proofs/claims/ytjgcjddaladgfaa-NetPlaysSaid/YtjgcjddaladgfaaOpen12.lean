/- Receipts as arguments. -/
import Derived.Test.YtjgcjddaladgfaaRcpts
import Derived.Test.YtjgcjddaladgfaaOpenP
namespace Go.Proofs.Ytjgcjddaladgfaa
open Go.RowKit Go.Bz Go.Bz.Wire Go.Bz.Rcpt Go.ChangeShapes Go.WideShapes
theorem cutd (cs : List Value) {o s p : Nat} (h : p = o + s) : cs.drop o = (cs.drop o).take s ++ cs.drop p := by subst h; rw [← List.drop_drop, List.take_append_drop]
section
variable {H : Type} {enc : TypeId × Value → H} {W : World} {base : Nat} {held : Bool} {d : DataW H} {ps : List MemPlace} {b0 : Nat} {rr : Reach}

theorem trod_rc {fuel : Nat} {cs : List Value} {x : DataW H × List MemPlace} (h : DataW.trod enc Try.prog W base (fun _ => true) held fuel 54 cs = some x) : ∃ r : Rc, inRc r ∧ cs = (([.int .i64 r.t, .int .i64 r.c, .int .i64 r.s] : List Value) ++ (cBs r.h.1 ++ cBs r.b.1)) := by
  obtain ⟨xs, m, _, _, hlen, hxl, hf⟩ := DataW.trod_struct Try.underlying54 h
  have hlen : cs.length = 67 := hlen.trans (by kernel_rfl)
  have hxl : xs.length = 5 := hxl
  have g0 := (hf 0 _ rfl).trans (List.getElem?_eq_getElem (show 0 < xs.length by omega))
  have e0 : Try.prog.cellsOf 3 = 1 := by kernel_rfl
  replace g0 : DataW.trod enc Try.prog W base (fun _ => true) held m 3 ((cs.drop 0).take 1) = some xs[0] := (congrArg (fun q => DataW.trod enc Try.prog W base (fun _ => true) held m 3 ((cs.drop 0).take q)) e0).symm.trans g0
  obtain ⟨m0, c0, _, w0⟩ := DataW.trod_int Try.underlying3 g0
  have g1 := (hf 1 _ rfl).trans (List.getElem?_eq_getElem (show 1 < xs.length by omega))
  have e1 : Try.prog.cellsOf 3 = 1 := by kernel_rfl
  replace g1 : DataW.trod enc Try.prog W base (fun _ => true) held m 3 ((cs.drop 1).take 1) = some xs[1] := (congrArg (fun q => DataW.trod enc Try.prog W base (fun _ => true) held m 3 ((cs.drop 1).take q)) e1).symm.trans g1
  obtain ⟨m1, c1, _, w1⟩ := DataW.trod_int Try.underlying3 g1
  have g2 := (hf 2 _ rfl).trans (List.getElem?_eq_getElem (show 2 < xs.length by omega))
  have e2 : Try.prog.cellsOf 3 = 1 := by kernel_rfl
  replace g2 : DataW.trod enc Try.prog W base (fun _ => true) held m 3 ((cs.drop 2).take 1) = some xs[2] := (congrArg (fun q => DataW.trod enc Try.prog W base (fun _ => true) held m 3 ((cs.drop 2).take q)) e2).symm.trans g2
  obtain ⟨m2, c2, _, w2⟩ := DataW.trod_int Try.underlying3 g2
  have g3 := (hf 3 _ rfl).trans (List.getElem?_eq_getElem (show 3 < xs.length by omega))
  have e3 : Try.prog.cellsOf 45 = 32 := by kernel_rfl
  replace g3 : DataW.trod enc Try.prog W base (fun _ => true) held m 45 ((cs.drop 3).take 32) = some xs[3] := (congrArg (fun q => DataW.trod enc Try.prog W base (fun _ => true) held m 45 ((cs.drop 3).take q)) e3).symm.trans g3
  obtain ⟨l3, h3, c3⟩ := trod_sum Try.underlying45 Try.underlying5 (by kernel_rfl) (by kernel_rfl) g3
  have g4 := (hf 4 _ rfl).trans (List.getElem?_eq_getElem (show 4 < xs.length by omega))
  have e4 : Try.prog.cellsOf 45 = 32 := by kernel_rfl
  replace g4 : DataW.trod enc Try.prog W base (fun _ => true) held m 45 ((cs.drop 35).take 32) = some xs[4] := (congrArg (fun q => DataW.trod enc Try.prog W base (fun _ => true) held m 45 ((cs.drop 35).take q)) e4).symm.trans g4
  obtain ⟨l4, h4, c4⟩ := trod_sum Try.underlying45 Try.underlying5 (by kernel_rfl) (by kernel_rfl) g4
  have hd0 : cs = cs.drop 0 := rfl
  have d0 := cutd cs (o := 0) (s := 1) (p := 1) rfl
  have d1 := cutd cs (o := 1) (s := 1) (p := 2) rfl
  have d2 := cutd cs (o := 2) (s := 1) (p := 3) rfl
  have d3 := cutd cs (o := 3) (s := 32) (p := 35) rfl
  have d4 := cutd cs (o := 35) (s := 32) (p := 67) rfl
  have dn : cs.drop 67 = [] := List.drop_eq_nil_of_le (by omega)
  have hcs : cs = [.int .i64 m0, .int .i64 m1, .int .i64 m2] ++ (cBs l3 ++ cBs l4) := by rw [hd0, d0, c0, d1, c1, d2, c2, d3, c3, d4, c4, dn]; simp only [List.append_assoc, List.cons_append, List.nil_append, List.append_nil]
  exact ⟨⟨m0, m1, m2, ⟨l3, h3⟩, ⟨l4, h4⟩⟩, ⟨bounds_i64 w0, bounds_i64 w1, bounds_i64 w2⟩, hcs⟩
theorem trod_signed {fuel : Nat} {cs : List Value} {x : DataW H × List MemPlace} (h : DataW.trod enc Try.prog W base (fun _ => true) held fuel 61 cs = some x) : ∃ (r : Rc) (v : V1) (l : List UInt8), inRc r ∧ RdB W v.1 l ∧ cs = (([.int .i64 r.t, .int .i64 r.c, .int .i64 r.s] : List Value) ++ (cBs r.h.1 ++ (cBs r.b.1 ++ [v.1]))) := by
  obtain ⟨xs, m, _, _, hlen, hxl, hf⟩ := DataW.trod_struct Try.underlying61 h
  have hlen : cs.length = 68 := hlen.trans (by kernel_rfl)
  have hxl : xs.length = 2 := hxl
  have g0 := (hf 0 _ rfl).trans (List.getElem?_eq_getElem (show 0 < xs.length by omega))
  have e0 : Try.prog.cellsOf 54 = 67 := by kernel_rfl
  replace g0 : DataW.trod enc Try.prog W base (fun _ => true) held m 54 ((cs.drop 0).take 67) = some xs[0] := (congrArg (fun q => DataW.trod enc Try.prog W base (fun _ => true) held m 54 ((cs.drop 0).take q)) e0).symm.trans g0
  obtain ⟨r, hin, c0⟩ := trod_rc g0
  have g1 := (hf 1 _ rfl).trans (List.getElem?_eq_getElem (show 1 < xs.length by omega))
  have e1 : Try.prog.cellsOf 22 = 1 := by kernel_rfl
  replace g1 : DataW.trod enc Try.prog W base (fun _ => true) held m 22 ((cs.drop 67).take 1) = some xs[1] := (congrArg (fun q => DataW.trod enc Try.prog W base (fun _ => true) held m 22 ((cs.drop 67).take q)) e1).symm.trans g1
  obtain ⟨v, l, c1, hr⟩ := open_bytes1 Try.underlying22 Try.underlying5 (by kernel_rfl) g1
  have hd0 : cs = cs.drop 0 := rfl
  have d0 := cutd cs (o := 0) (s := 67) (p := 67) rfl
  have d1 := cutd cs (o := 67) (s := 1) (p := 68) rfl
  have dn : cs.drop 68 = [] := List.drop_eq_nil_of_le (by omega)
  have hcs : cs = (([.int .i64 r.t, .int .i64 r.c, .int .i64 r.s] : List Value) ++ (cBs r.h.1 ++ (cBs r.b.1 ++ [v.1]))) := by rw [hd0, d0, c0, d1, c1, dn]; simp only [List.append_assoc, List.cons_append, List.nil_append, List.append_nil]
  exact ⟨r, v, l, hin, hr, hcs⟩
theorem open_agg {P : Program} {t : TypeId} {fs : Array Field} {v : Value} {Q : List Value → Prop} (ht : P.underlying t = some (.struct fs)) (hval : Value.okWide P W rr b0 t v) (hd : DataW.Trod enc P W base (fun _ => true) held t v d ps)
    (each : ∀ {fuel : Nat} {cs : List Value} {x : DataW H × List MemPlace}, DataW.trod enc P W base (fun _ => true) held fuel t cs = some x → Q cs) : ∃ cs, v = .agg cs.toArray ∧ Q cs := by
  obtain ⟨cs, rfl, _⟩ := okWide_struct ht hval
  obtain ⟨fuel, hf⟩ := hd
  exact ⟨cs.toList, by simp, each hf⟩
set_option maxRecDepth 100000 in
theorem open_rc {v : Value} (hval : Value.okWide Try.prog W rr b0 54 v) (hd : DataW.Trod enc Try.prog W base (fun _ => true) held 54 v d ps) : ∃ r : Rc, inRc r ∧ v = .agg ((([.int .i64 r.t, .int .i64 r.c, .int .i64 r.s] : List Value) ++ (cBs r.h.1 ++ cBs r.b.1))).toArray := by
  obtain ⟨cs, rfl, r, hin, rfl⟩ := open_agg (Q := fun cs => ∃ r : Rc, inRc r ∧ cs = ((([.int .i64 r.t, .int .i64 r.c, .int .i64 r.s] : List Value) ++ (cBs r.h.1 ++ cBs r.b.1)))) Try.underlying54 hval hd (fun h => trod_rc h)
  exact ⟨r, hin, rfl⟩
set_option maxRecDepth 100000 in
theorem open_signed {v : Value} (hval : Value.okWide Try.prog W rr b0 61 v) (hd : DataW.Trod enc Try.prog W base (fun _ => true) held 61 v d ps) : ∃ (r : Rc) (u : V1) (l : List UInt8), inRc r ∧ RdB W u.1 l ∧ v = .agg ((([.int .i64 r.t, .int .i64 r.c, .int .i64 r.s] : List Value) ++ (cBs r.h.1 ++ (cBs r.b.1 ++ [u.1])))).toArray := by
  obtain ⟨cs, rfl, r, u, l, hin, hr, rfl⟩ := open_agg (Q := fun cs => ∃ (r : Rc) (u : V1) (l : List UInt8), inRc r ∧ RdB W u.1 l ∧ cs = ((([.int .i64 r.t, .int .i64 r.c, .int .i64 r.s] : List Value) ++ (cBs r.h.1 ++ (cBs r.b.1 ++ [u.1]))))) Try.underlying61 hval hd (fun h => trod_signed h)
  exact ⟨r, u, l, hin, hr, rfl⟩
end

end Go.Proofs.Ytjgcjddaladgfaa
