/- Scripts of nets as arguments. -/
import Derived.Test.YtjgcjddaladgfaaLaw29c
import Derived.Test.YtjgcjddaladgfaaOpen28
namespace Go.Proofs.Ytjgcjddaladgfaa
open Go.RowKit Go.Bz Go.Bz.Wire Go.Bz.Rcpt Go.Bz.Talk Go.ChangeShapes Go.WideShapes
section
variable {H : Type} {enc : TypeId × Value → H} {W : World} {base : Nat} {held : Bool} {d : DataW H} {ps : List MemPlace} {b0 : Nat} {rr : Reach}
/-- What holds of a call's slices. -/
abbrev RdO (W : World) (x : O29) : Prop := (Rd W 1 x.vb.1 x.bl.length (cBs x.bl) ∧ Rd W 1 x.vg.1 x.sg.length (cBs x.sg) ∧ Rd W 1 x.dv.1 x.d.length (cBs x.d)) ∧ inMs x.u
set_option maxRecDepth 100000 in
theorem trod_op29 {fuel : Nat} {cs : List Value} {x : DataW H × List MemPlace} (h : DataW.trod enc Try.prog W base (fun _ => true) held fuel 83 cs = some x) : ∃ x : O29, cs = cO29 x ∧ RdO W x := by
  obtain ⟨xs, m, _, _, hlen, hxl, hf⟩ := DataW.trod_struct Try.underlying83 h
  have hlen : cs.length = 243 := hlen.trans (by kernel_rfl)
  have hxl : xs.length = 5 := hxl
  have g0 := (hf 0 _ rfl).trans (List.getElem?_eq_getElem (show 0 < xs.length by omega))
  have e0 : Try.prog.cellsOf 3 = 1 := by kernel_rfl
  replace g0 : DataW.trod enc Try.prog W base (fun _ => true) held m 3 ((cs.drop 0).take 1) = some xs[0] := (congrArg (fun q => DataW.trod enc Try.prog W base (fun _ => true) held m 3 ((cs.drop 0).take q)) e0).symm.trans g0
  obtain ⟨a0, c0, _, w0⟩ := DataW.trod_int Try.underlying3 g0
  have g1 := (hf 1 _ rfl).trans (List.getElem?_eq_getElem (show 1 < xs.length by omega))
  have e1 : Try.prog.cellsOf 3 = 1 := by kernel_rfl
  replace g1 : DataW.trod enc Try.prog W base (fun _ => true) held m 3 ((cs.drop 1).take 1) = some xs[1] := (congrArg (fun q => DataW.trod enc Try.prog W base (fun _ => true) held m 3 ((cs.drop 1).take q)) e1).symm.trans g1
  obtain ⟨a1, c1, _, w1⟩ := DataW.trod_int Try.underlying3 g1
  have g2 := (hf 2 _ rfl).trans (List.getElem?_eq_getElem (show 2 < xs.length by omega))
  have e2 : Try.prog.cellsOf 3 = 1 := by kernel_rfl
  replace g2 : DataW.trod enc Try.prog W base (fun _ => true) held m 3 ((cs.drop 2).take 1) = some xs[2] := (congrArg (fun q => DataW.trod enc Try.prog W base (fun _ => true) held m 3 ((cs.drop 2).take q)) e2).symm.trans g2
  obtain ⟨a2, c2, _, w2⟩ := DataW.trod_int Try.underlying3 g2
  have g3 := (hf 3 _ rfl).trans (List.getElem?_eq_getElem (show 3 < xs.length by omega))
  have e3 : Try.prog.cellsOf 81 = 239 := by kernel_rfl
  replace g3 : DataW.trod enc Try.prog W base (fun _ => true) held m 81 ((cs.drop 3).take 239) = some xs[3] := (congrArg (fun q => DataW.trod enc Try.prog W base (fun _ => true) held m 81 ((cs.drop 3).take q)) e3).symm.trans g3
  obtain ⟨u, vb, vg, bl, sg, him, hvb, hvg, c3⟩ := trod_msg g3
  have g4 := (hf 4 _ rfl).trans (List.getElem?_eq_getElem (show 4 < xs.length by omega))
  have e4 : Try.prog.cellsOf 22 = 1 := by kernel_rfl
  replace g4 : DataW.trod enc Try.prog W base (fun _ => true) held m 22 ((cs.drop 242).take 1) = some xs[4] := (congrArg (fun q => DataW.trod enc Try.prog W base (fun _ => true) held m 22 ((cs.drop 242).take q)) e4).symm.trans g4
  obtain ⟨dv, dl, c4, hdv⟩ := open_bytes1 Try.underlying22 Try.underlying5 (by kernel_rfl) g4
  have hd0 : cs = cs.drop 0 := rfl
  have d0 := cutd cs (o := 0) (s := 1) (p := 1) rfl
  have d1 := cutd cs (o := 1) (s := 1) (p := 2) rfl
  have d2 := cutd cs (o := 2) (s := 1) (p := 3) rfl
  have d3 := cutd cs (o := 3) (s := 239) (p := 242) rfl
  have d4 := cutd cs (o := 242) (s := 1) (p := 243) rfl
  have dn : cs.drop 243 = [] := List.drop_eq_nil_of_le (by omega)
  have hcs : cs = [.int .i64 a0] ++ ([.int .i64 a1] ++ ([.int .i64 a2] ++ ((([.int .i64 u.k, .int .i64 u.a, .int .i64 u.b, .int .i64 u.c0, .int .i64 u.c1, .int .i64 u.c2] : List Value) ++ (cBs u.h0.1 ++ (cBs u.h1.1 ++ (([.int .i64 u.g] : List Value) ++ (cBs u.o.1 ++ (([.int .i64 u.n] : List Value) ++ (cBs u.x.1 ++ (([.int .i64 u.jc, .int .i64 u.js] : List Value) ++ (cBs u.jh.1 ++ (([vb.1, .int .i64 u.r.t, .int .i64 u.r.c, .int .i64 u.r.s] : List Value) ++ (cBs u.r.h.1 ++ (cBs u.r.b.1 ++ ([vg.1] : List Value))))))))))))) ++ [dv.1]))) := by rw [hd0, d0, c0, d1, c1, d2, c2, d3, c3, d4, c4, dn]; simp only [List.append_assoc, List.cons_append, List.nil_append, List.append_nil]
  exact ⟨⟨a0, a1, a2, u, vb, vg, dv, bl, sg, dl⟩, by rw [hcs]; simp only [cO29, List.append_assoc, List.cons_append, List.nil_append], ⟨hvb, hvg, hdv⟩, him⟩
set_option maxRecDepth 100000 in
theorem open_ops29 {v : Value} (hval : Value.okWide Try.prog W rr b0 65 v) (hd : DataW.Trod enc Try.prog W base (fun _ => true) held 65 v d ps) : ∃ l : List O29, Rd W 243 v l.length (l.flatMap cO29) ∧ ∀ x ∈ l, RdO W x := by
  obtain ⟨l, hr, hq⟩ := open_rowsF (sz := 243) cO29 (RdO W) Try.underlying65 (by kernel_rfl) (by decide) (fun n c y _ h => trod_op29 h) cO29_one hval hd
  exact ⟨l, hr, hq⟩
end
end Go.Proofs.Ytjgcjddaladgfaa
