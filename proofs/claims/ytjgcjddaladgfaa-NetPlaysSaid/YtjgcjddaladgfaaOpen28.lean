/- Messages as arguments. -/
import Derived.Test.YtjgcjddaladgfaaOpen12
import Derived.Test.YtjgcjddaladgfaaTalks
namespace Go.Proofs.Ytjgcjddaladgfaa
open Go.RowKit Go.Bz Go.Bz.Wire Go.Bz.Rcpt Go.Bz.Talk Go.ChangeShapes Go.WideShapes
section
variable {H : Type} {enc : TypeId × Value → H} {W : World} {base : Nat} {held : Bool} {d : DataW H} {ps : List MemPlace} {b0 : Nat} {rr : Reach}
set_option maxRecDepth 100000 in
theorem trod_two {fuel : Nat} {cs : List Value} {x : DataW H × List MemPlace} (h : DataW.trod enc Try.prog W base (fun _ => true) held fuel 73 cs = some x) : ∃ h0 h1 : S32, cs = cBs h0.1 ++ cBs h1.1 := by
  obtain ⟨xs, m, _, _, hlen, hxl, hf⟩ := DataW.trod_array Try.underlying73 h
  have hlen : cs.length = 64 := hlen.trans (by kernel_rfl)
  have hxl : xs.length = 2 := hxl
  have e0 : Try.prog.cellsOf 45 = 32 := by kernel_rfl
  have g0 := (hf 0 (by decide)).trans (List.getElem?_eq_getElem (show 0 < xs.length by omega))
  have g1 := (hf 1 (by decide)).trans (List.getElem?_eq_getElem (show 1 < xs.length by omega))
  rw [e0] at g0 g1
  obtain ⟨l0, h0, c0⟩ := trod_sum Try.underlying45 Try.underlying5 (by kernel_rfl) (by kernel_rfl) g0
  obtain ⟨l1, h1, c1⟩ := trod_sum Try.underlying45 Try.underlying5 (by kernel_rfl) (by kernel_rfl) g1
  refine ⟨⟨l0, h0⟩, ⟨l1, h1⟩, ?_⟩
  have d0 := cutd cs (o := 0) (s := 32) (p := 32) rfl
  have d1 := cutd cs (o := 32) (s := 32) (p := 64) rfl
  have dn : cs.drop 64 = [] := List.drop_eq_nil_of_le (by omega)
  have hd0 : cs = cs.drop 0 := rfl
  rw [hd0, d0, d1, dn, List.append_nil]
  simp only [Nat.zero_mul, Nat.one_mul] at c0 c1
  rw [c0, c1]

theorem trod_state {fuel : Nat} {cs : List Value} {x : DataW H × List MemPlace} (h : DataW.trod enc Try.prog W base (fun _ => true) held fuel 75 cs = some x) : ∃ (c0 c1 c2 : Int) (h0 h1 : S32), inI c0 ∧ inI c1 ∧ inI c2 ∧ cs = [.int .i64 c0, .int .i64 c1, .int .i64 c2] ++ (cBs h0.1 ++ cBs h1.1) := by
  obtain ⟨xs, m, _, _, hlen, hxl, hf⟩ := DataW.trod_struct Try.underlying75 h
  have hlen : cs.length = 67 := hlen.trans (by kernel_rfl)
  have hxl : xs.length = 4 := hxl
  have g0 := (hf 0 _ rfl).trans (List.getElem?_eq_getElem (show 0 < xs.length by omega))
  have e0 : Try.prog.cellsOf 3 = 1 := by kernel_rfl
  replace g0 : DataW.trod enc Try.prog W base (fun _ => true) held m 3 ((cs.drop 0).take 1) = some xs[0] := (congrArg (fun q => DataW.trod enc Try.prog W base (fun _ => true) held m 3 ((cs.drop 0).take q)) e0).symm.trans g0
  obtain ⟨m0, c0, _, w0⟩ := DataW.trod_int Try.underlying3 g0
  have g1 := (hf 1 _ rfl).trans (List.getElem?_eq_getElem (show 1 < xs.length by omega))
  have e1 : Try.prog.cellsOf 2 = 1 := by kernel_rfl
  replace g1 : DataW.trod enc Try.prog W base (fun _ => true) held m 2 ((cs.drop 1).take 1) = some xs[1] := (congrArg (fun q => DataW.trod enc Try.prog W base (fun _ => true) held m 2 ((cs.drop 1).take q)) e1).symm.trans g1
  obtain ⟨m1, c1, _, w1⟩ := DataW.trod_int Try.underlying2 g1
  have g2 := (hf 2 _ rfl).trans (List.getElem?_eq_getElem (show 2 < xs.length by omega))
  have e2 : Try.prog.cellsOf 2 = 1 := by kernel_rfl
  replace g2 : DataW.trod enc Try.prog W base (fun _ => true) held m 2 ((cs.drop 2).take 1) = some xs[2] := (congrArg (fun q => DataW.trod enc Try.prog W base (fun _ => true) held m 2 ((cs.drop 2).take q)) e2).symm.trans g2
  obtain ⟨m2, c2, _, w2⟩ := DataW.trod_int Try.underlying2 g2
  have g3 := (hf 3 _ rfl).trans (List.getElem?_eq_getElem (show 3 < xs.length by omega))
  have e3 : Try.prog.cellsOf 73 = 64 := by kernel_rfl
  replace g3 : DataW.trod enc Try.prog W base (fun _ => true) held m 73 ((cs.drop 3).take 64) = some xs[3] := (congrArg (fun q => DataW.trod enc Try.prog W base (fun _ => true) held m 73 ((cs.drop 3).take q)) e3).symm.trans g3
  obtain ⟨h0, h1, c3⟩ := trod_two g3
  have hd0 : cs = cs.drop 0 := rfl
  have d0 := cutd cs (o := 0) (s := 1) (p := 1) rfl
  have d1 := cutd cs (o := 1) (s := 1) (p := 2) rfl
  have d2 := cutd cs (o := 2) (s := 1) (p := 3) rfl
  have d3 := cutd cs (o := 3) (s := 64) (p := 67) rfl
  have dn : cs.drop 67 = [] := List.drop_eq_nil_of_le (by omega)
  have hcs : cs = [.int .i64 m0, .int .i64 m1, .int .i64 m2] ++ (cBs h0.1 ++ cBs h1.1) := by rw [hd0, d0, c0, d1, c1, d2, c2, d3, c3, dn]; simp only [List.append_assoc, List.cons_append, List.nil_append, List.append_nil]
  exact ⟨m0, m1, m2, h0, h1, bounds_i64 w0, bounds_i64 w1, bounds_i64 w2, hcs⟩
theorem trod_sign {fuel : Nat} {cs : List Value} {x : DataW H × List MemPlace} (h : DataW.trod enc Try.prog W base (fun _ => true) held fuel 77 cs = some x) : ∃ (g : Int) (o : S32), inI g ∧ cs = [.int .i64 g] ++ cBs o.1 := by
  obtain ⟨xs, m, _, _, hlen, hxl, hf⟩ := DataW.trod_struct Try.underlying77 h
  have hlen : cs.length = 33 := hlen.trans (by kernel_rfl)
  have hxl : xs.length = 2 := hxl
  have g0 := (hf 0 _ rfl).trans (List.getElem?_eq_getElem (show 0 < xs.length by omega))
  have e0 : Try.prog.cellsOf 3 = 1 := by kernel_rfl
  replace g0 : DataW.trod enc Try.prog W base (fun _ => true) held m 3 ((cs.drop 0).take 1) = some xs[0] := (congrArg (fun q => DataW.trod enc Try.prog W base (fun _ => true) held m 3 ((cs.drop 0).take q)) e0).symm.trans g0
  obtain ⟨m0, c0, _, w0⟩ := DataW.trod_int Try.underlying3 g0
  have g1 := (hf 1 _ rfl).trans (List.getElem?_eq_getElem (show 1 < xs.length by omega))
  have e1 : Try.prog.cellsOf 45 = 32 := by kernel_rfl
  replace g1 : DataW.trod enc Try.prog W base (fun _ => true) held m 45 ((cs.drop 1).take 32) = some xs[1] := (congrArg (fun q => DataW.trod enc Try.prog W base (fun _ => true) held m 45 ((cs.drop 1).take q)) e1).symm.trans g1
  obtain ⟨l1, h1, c1⟩ := trod_sum Try.underlying45 Try.underlying5 (by kernel_rfl) (by kernel_rfl) g1
  have hd0 : cs = cs.drop 0 := rfl
  have d0 := cutd cs (o := 0) (s := 1) (p := 1) rfl
  have d1 := cutd cs (o := 1) (s := 32) (p := 33) rfl
  have dn : cs.drop 33 = [] := List.drop_eq_nil_of_le (by omega)
  have hcs : cs = [.int .i64 m0] ++ cBs l1 := by rw [hd0, d0, c0, d1, c1, dn]; simp only [List.append_assoc, List.cons_append, List.nil_append, List.append_nil]
  exact ⟨m0, ⟨l1, h1⟩, bounds_i64 w0, hcs⟩
theorem trod_job {fuel : Nat} {cs : List Value} {x : DataW H × List MemPlace} (h : DataW.trod enc Try.prog W base (fun _ => true) held fuel 79 cs = some x) : ∃ (c s : Int) (h : S32) (v : V1) (l : List UInt8), inI c ∧ inI s ∧ RdB W v.1 l ∧ cs = [.int .i64 c, .int .i64 s] ++ (cBs h.1 ++ [v.1]) := by
  obtain ⟨xs, m, _, _, hlen, hxl, hf⟩ := DataW.trod_struct Try.underlying79 h
  have hlen : cs.length = 35 := hlen.trans (by kernel_rfl)
  have hxl : xs.length = 4 := hxl
  have g0 := (hf 0 _ rfl).trans (List.getElem?_eq_getElem (show 0 < xs.length by omega))
  have e0 : Try.prog.cellsOf 3 = 1 := by kernel_rfl
  replace g0 : DataW.trod enc Try.prog W base (fun _ => true) held m 3 ((cs.drop 0).take 1) = some xs[0] := (congrArg (fun q => DataW.trod enc Try.prog W base (fun _ => true) held m 3 ((cs.drop 0).take q)) e0).symm.trans g0
  obtain ⟨m0, c0, _, w0⟩ := DataW.trod_int Try.underlying3 g0
  have g1 := (hf 1 _ rfl).trans (List.getElem?_eq_getElem (show 1 < xs.length by omega))
  have e1 : Try.prog.cellsOf 3 = 1 := by kernel_rfl
  replace g1 : DataW.trod enc Try.prog W base (fun _ => true) held m 3 ((cs.drop 1).take 1) = some xs[1] := (congrArg (fun q => DataW.trod enc Try.prog W base (fun _ => true) held m 3 ((cs.drop 1).take q)) e1).symm.trans g1
  obtain ⟨m1, c1, _, w1⟩ := DataW.trod_int Try.underlying3 g1
  have g2 := (hf 2 _ rfl).trans (List.getElem?_eq_getElem (show 2 < xs.length by omega))
  have e2 : Try.prog.cellsOf 45 = 32 := by kernel_rfl
  replace g2 : DataW.trod enc Try.prog W base (fun _ => true) held m 45 ((cs.drop 2).take 32) = some xs[2] := (congrArg (fun q => DataW.trod enc Try.prog W base (fun _ => true) held m 45 ((cs.drop 2).take q)) e2).symm.trans g2
  obtain ⟨l2, h2, c2⟩ := trod_sum Try.underlying45 Try.underlying5 (by kernel_rfl) (by kernel_rfl) g2
  have g3 := (hf 3 _ rfl).trans (List.getElem?_eq_getElem (show 3 < xs.length by omega))
  have e3 : Try.prog.cellsOf 22 = 1 := by kernel_rfl
  replace g3 : DataW.trod enc Try.prog W base (fun _ => true) held m 22 ((cs.drop 34).take 1) = some xs[3] := (congrArg (fun q => DataW.trod enc Try.prog W base (fun _ => true) held m 22 ((cs.drop 34).take q)) e3).symm.trans g3
  obtain ⟨v, l, c3, hr⟩ := open_bytes1 Try.underlying22 Try.underlying5 (by kernel_rfl) g3
  have hd0 : cs = cs.drop 0 := rfl
  have d0 := cutd cs (o := 0) (s := 1) (p := 1) rfl
  have d1 := cutd cs (o := 1) (s := 1) (p := 2) rfl
  have d2 := cutd cs (o := 2) (s := 32) (p := 34) rfl
  have d3 := cutd cs (o := 34) (s := 1) (p := 35) rfl
  have dn : cs.drop 35 = [] := List.drop_eq_nil_of_le (by omega)
  have hcs : cs = [.int .i64 m0, .int .i64 m1] ++ (cBs l2 ++ [v.1]) := by rw [hd0, d0, c0, d1, c1, d2, c2, d3, c3, dn]; simp only [List.append_assoc, List.cons_append, List.nil_append, List.append_nil]
  exact ⟨m0, m1, ⟨l2, h2⟩, v, l, bounds_i64 w0, bounds_i64 w1, hr, hcs⟩
theorem trod_msg {fuel : Nat} {cs : List Value} {x : DataW H × List MemPlace} (h : DataW.trod enc Try.prog W base (fun _ => true) held fuel 81 cs = some x) : ∃ (u : Ms) (vb vg : V1) (bl sg : List UInt8), inMs u ∧ RdB W vb.1 bl ∧ RdB W vg.1 sg ∧ cs = (([.int .i64 u.k, .int .i64 u.a, .int .i64 u.b, .int .i64 u.c0, .int .i64 u.c1, .int .i64 u.c2] : List Value) ++ (cBs u.h0.1 ++ (cBs u.h1.1 ++ (([.int .i64 u.g] : List Value) ++ (cBs u.o.1 ++ (([.int .i64 u.n] : List Value) ++ (cBs u.x.1 ++ (([.int .i64 u.jc, .int .i64 u.js] : List Value) ++ (cBs u.jh.1 ++ (([vb.1, .int .i64 u.r.t, .int .i64 u.r.c, .int .i64 u.r.s] : List Value) ++ (cBs u.r.h.1 ++ (cBs u.r.b.1 ++ ([vg.1] : List Value))))))))))))) := by
  obtain ⟨xs, m, _, _, hlen, hxl, hf⟩ := DataW.trod_struct Try.underlying81 h
  have hlen : cs.length = 239 := hlen.trans (by kernel_rfl)
  have hxl : xs.length = 9 := hxl
  have g0 := (hf 0 _ rfl).trans (List.getElem?_eq_getElem (show 0 < xs.length by omega))
  have e0 : Try.prog.cellsOf 3 = 1 := by kernel_rfl
  replace g0 : DataW.trod enc Try.prog W base (fun _ => true) held m 3 ((cs.drop 0).take 1) = some xs[0] := (congrArg (fun q => DataW.trod enc Try.prog W base (fun _ => true) held m 3 ((cs.drop 0).take q)) e0).symm.trans g0
  obtain ⟨k, c0, _, wk⟩ := DataW.trod_int Try.underlying3 g0
  have g1 := (hf 1 _ rfl).trans (List.getElem?_eq_getElem (show 1 < xs.length by omega))
  have e1 : Try.prog.cellsOf 3 = 1 := by kernel_rfl
  replace g1 : DataW.trod enc Try.prog W base (fun _ => true) held m 3 ((cs.drop 1).take 1) = some xs[1] := (congrArg (fun q => DataW.trod enc Try.prog W base (fun _ => true) held m 3 ((cs.drop 1).take q)) e1).symm.trans g1
  obtain ⟨a, c1, _, wa⟩ := DataW.trod_int Try.underlying3 g1
  have g2 := (hf 2 _ rfl).trans (List.getElem?_eq_getElem (show 2 < xs.length by omega))
  have e2 : Try.prog.cellsOf 3 = 1 := by kernel_rfl
  replace g2 : DataW.trod enc Try.prog W base (fun _ => true) held m 3 ((cs.drop 2).take 1) = some xs[2] := (congrArg (fun q => DataW.trod enc Try.prog W base (fun _ => true) held m 3 ((cs.drop 2).take q)) e2).symm.trans g2
  obtain ⟨b, c2, _, wb⟩ := DataW.trod_int Try.underlying3 g2
  have g3 := (hf 3 _ rfl).trans (List.getElem?_eq_getElem (show 3 < xs.length by omega))
  have e3 : Try.prog.cellsOf 75 = 67 := by kernel_rfl
  replace g3 : DataW.trod enc Try.prog W base (fun _ => true) held m 75 ((cs.drop 3).take 67) = some xs[3] := (congrArg (fun q => DataW.trod enc Try.prog W base (fun _ => true) held m 75 ((cs.drop 3).take q)) e3).symm.trans g3
  obtain ⟨s0, s1, s2, h0, h1, i0, i1, i2, c3⟩ := trod_state g3
  have g4 := (hf 4 _ rfl).trans (List.getElem?_eq_getElem (show 4 < xs.length by omega))
  have e4 : Try.prog.cellsOf 77 = 33 := by kernel_rfl
  replace g4 : DataW.trod enc Try.prog W base (fun _ => true) held m 77 ((cs.drop 70).take 33) = some xs[4] := (congrArg (fun q => DataW.trod enc Try.prog W base (fun _ => true) held m 77 ((cs.drop 70).take q)) e4).symm.trans g4
  obtain ⟨g, o, ig, c4⟩ := trod_sign g4
  have g5 := (hf 5 _ rfl).trans (List.getElem?_eq_getElem (show 5 < xs.length by omega))
  have e5 : Try.prog.cellsOf 3 = 1 := by kernel_rfl
  replace g5 : DataW.trod enc Try.prog W base (fun _ => true) held m 3 ((cs.drop 103).take 1) = some xs[5] := (congrArg (fun q => DataW.trod enc Try.prog W base (fun _ => true) held m 3 ((cs.drop 103).take q)) e5).symm.trans g5
  obtain ⟨n, c5, _, wn⟩ := DataW.trod_int Try.underlying3 g5
  have g6 := (hf 6 _ rfl).trans (List.getElem?_eq_getElem (show 6 < xs.length by omega))
  have e6 : Try.prog.cellsOf 45 = 32 := by kernel_rfl
  replace g6 : DataW.trod enc Try.prog W base (fun _ => true) held m 45 ((cs.drop 104).take 32) = some xs[6] := (congrArg (fun q => DataW.trod enc Try.prog W base (fun _ => true) held m 45 ((cs.drop 104).take q)) e6).symm.trans g6
  obtain ⟨lx, hx, c6⟩ := trod_sum Try.underlying45 Try.underlying5 (by kernel_rfl) (by kernel_rfl) g6
  have g7 := (hf 7 _ rfl).trans (List.getElem?_eq_getElem (show 7 < xs.length by omega))
  have e7 : Try.prog.cellsOf 79 = 35 := by kernel_rfl
  replace g7 : DataW.trod enc Try.prog W base (fun _ => true) held m 79 ((cs.drop 136).take 35) = some xs[7] := (congrArg (fun q => DataW.trod enc Try.prog W base (fun _ => true) held m 79 ((cs.drop 136).take q)) e7).symm.trans g7
  obtain ⟨jc, js, jh, vb, bl, ijc, ijs, hbl, c7⟩ := trod_job g7
  have g8 := (hf 8 _ rfl).trans (List.getElem?_eq_getElem (show 8 < xs.length by omega))
  have e8 : Try.prog.cellsOf 61 = 68 := by kernel_rfl
  replace g8 : DataW.trod enc Try.prog W base (fun _ => true) held m 61 ((cs.drop 171).take 68) = some xs[8] := (congrArg (fun q => DataW.trod enc Try.prog W base (fun _ => true) held m 61 ((cs.drop 171).take q)) e8).symm.trans g8
  obtain ⟨r, vg, sg, ir, hsg, c8⟩ := trod_signed g8
  have hd0 : cs = cs.drop 0 := rfl
  have d0 := cutd cs (o := 0) (s := 1) (p := 1) rfl
  have d1 := cutd cs (o := 1) (s := 1) (p := 2) rfl
  have d2 := cutd cs (o := 2) (s := 1) (p := 3) rfl
  have d3 := cutd cs (o := 3) (s := 67) (p := 70) rfl
  have d4 := cutd cs (o := 70) (s := 33) (p := 103) rfl
  have d5 := cutd cs (o := 103) (s := 1) (p := 104) rfl
  have d6 := cutd cs (o := 104) (s := 32) (p := 136) rfl
  have d7 := cutd cs (o := 136) (s := 35) (p := 171) rfl
  have d8 := cutd cs (o := 171) (s := 68) (p := 239) rfl
  have dn : cs.drop 239 = [] := List.drop_eq_nil_of_le (by omega)
  have hcs : cs = (([.int .i64 k, .int .i64 a, .int .i64 b, .int .i64 s0, .int .i64 s1, .int .i64 s2] : List Value) ++ (cBs h0.1 ++ (cBs h1.1 ++ (([.int .i64 g] : List Value) ++ (cBs o.1 ++ (([.int .i64 n] : List Value) ++ (cBs lx ++ (([.int .i64 jc, .int .i64 js] : List Value) ++ (cBs jh.1 ++ (([vb.1, .int .i64 r.t, .int .i64 r.c, .int .i64 r.s] : List Value) ++ (cBs r.h.1 ++ (cBs r.b.1 ++ ([vg.1] : List Value))))))))))))) := by rw [hd0, d0, c0, d1, c1, d2, c2, d3, c3, d4, c4, d5, c5, d6, c6, d7, c7, d8, c8, dn]; simp only [List.append_assoc, List.cons_append, List.nil_append, List.append_nil]
  exact ⟨⟨k, a, b, s0, s1, s2, h0, h1, g, o, n, ⟨lx, hx⟩, jc, js, jh, r⟩, vb, vg, bl, sg, ⟨bounds_i64 wk, bounds_i64 wa, bounds_i64 wb, i0, i1, i2, ig, bounds_i64 wn, ijc, ijs, ir⟩, hbl, hsg, hcs⟩
set_option maxRecDepth 100000 in
theorem open_msg {v : Value} (hval : Value.okWide Try.prog W rr b0 81 v) (hd : DataW.Trod enc Try.prog W base (fun _ => true) held 81 v d ps) : ∃ (u : Ms) (vb vg : V1) (bl sg : List UInt8), inMs u ∧ RdB W vb.1 bl ∧ RdB W vg.1 sg ∧ v = .agg ((([.int .i64 u.k, .int .i64 u.a, .int .i64 u.b, .int .i64 u.c0, .int .i64 u.c1, .int .i64 u.c2] : List Value) ++ (cBs u.h0.1 ++ (cBs u.h1.1 ++ (([.int .i64 u.g] : List Value) ++ (cBs u.o.1 ++ (([.int .i64 u.n] : List Value) ++ (cBs u.x.1 ++ (([.int .i64 u.jc, .int .i64 u.js] : List Value) ++ (cBs u.jh.1 ++ (([vb.1, .int .i64 u.r.t, .int .i64 u.r.c, .int .i64 u.r.s] : List Value) ++ (cBs u.r.h.1 ++ (cBs u.r.b.1 ++ ([vg.1] : List Value)))))))))))))).toArray := by
  obtain ⟨cs, rfl, u, vb, vg, bl, sg, h1, h2, h3, rfl⟩ := open_agg (Q := fun cs => ∃ (u : Ms) (vb vg : V1) (bl sg : List UInt8), inMs u ∧ RdB W vb.1 bl ∧ RdB W vg.1 sg ∧ cs = ((([.int .i64 u.k, .int .i64 u.a, .int .i64 u.b, .int .i64 u.c0, .int .i64 u.c1, .int .i64 u.c2] : List Value) ++ (cBs u.h0.1 ++ (cBs u.h1.1 ++ (([.int .i64 u.g] : List Value) ++ (cBs u.o.1 ++ (([.int .i64 u.n] : List Value) ++ (cBs u.x.1 ++ (([.int .i64 u.jc, .int .i64 u.js] : List Value) ++ (cBs u.jh.1 ++ (([vb.1, .int .i64 u.r.t, .int .i64 u.r.c, .int .i64 u.r.s] : List Value) ++ (cBs u.r.h.1 ++ (cBs u.r.b.1 ++ ([vg.1] : List Value))))))))))))))) Try.underlying81 hval hd (fun h => trod_msg h)
  exact ⟨u, vb, vg, bl, sg, h1, h2, h3, rfl⟩
end

end Go.Proofs.Ytjgcjddaladgfaa
