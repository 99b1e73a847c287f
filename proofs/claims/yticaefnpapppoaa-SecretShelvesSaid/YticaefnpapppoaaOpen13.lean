/- Scripts of shelves as arguments. -/
import Derived.Test.YticaefnpapppoaaShelves
import Derived.Test.YticaefnpapppoaaOpenP
namespace Go.Proofs.Yticaefnpapppoaa
open Go.RowKit Go.Bz Go.ChangeShapes Go.WideShapes
theorem cutd (cs : List Value) {o s p : Nat} (h : p = o + s) : cs.drop o = (cs.drop o).take s ++ cs.drop p := by subst h; rw [← List.drop_drop, List.take_append_drop]
section
variable {H : Type} {enc : TypeId × Value → H} {W : World} {base : Nat} {held : Bool} {d : DataW H} {ps : List MemPlace} {b0 : Nat} {rr : Reach}

theorem trod_op13 {fuel : Nat} {cs : List Value} {x : DataW H × List MemPlace} (h : DataW.trod enc Try.prog W base (fun _ => true) held fuel 46 cs = some x) : ∃ u : Op13, cs = cO13 u := by
  obtain ⟨xs, m, _, _, hlen, hxl, hf⟩ := DataW.trod_struct Try.underlying46 h
  have hlen : cs.length = 65 := hlen.trans (by kernel_rfl)
  have hxl : xs.length = 3 := hxl
  have g0 := (hf 0 _ rfl).trans (List.getElem?_eq_getElem (show 0 < xs.length by omega))
  have e0 : Try.prog.cellsOf 26 = 32 := by kernel_rfl
  replace g0 : DataW.trod enc Try.prog W base (fun _ => true) held m 26 ((cs.drop 0).take 32) = some xs[0] := (congrArg (fun q => DataW.trod enc Try.prog W base (fun _ => true) held m 26 ((cs.drop 0).take q)) e0).symm.trans g0
  obtain ⟨l0, h0, c0⟩ := trod_sum Try.underlying26 Try.underlying5 (by kernel_rfl) (by kernel_rfl) g0
  have g1 := (hf 1 _ rfl).trans (List.getElem?_eq_getElem (show 1 < xs.length by omega))
  have e1 : Try.prog.cellsOf 26 = 32 := by kernel_rfl
  replace g1 : DataW.trod enc Try.prog W base (fun _ => true) held m 26 ((cs.drop 32).take 32) = some xs[1] := (congrArg (fun q => DataW.trod enc Try.prog W base (fun _ => true) held m 26 ((cs.drop 32).take q)) e1).symm.trans g1
  obtain ⟨l1, h1, c1⟩ := trod_sum Try.underlying26 Try.underlying5 (by kernel_rfl) (by kernel_rfl) g1
  have g2 := (hf 2 _ rfl).trans (List.getElem?_eq_getElem (show 2 < xs.length by omega))
  have e2 : Try.prog.cellsOf 4 = 1 := by kernel_rfl
  replace g2 : DataW.trod enc Try.prog W base (fun _ => true) held m 4 ((cs.drop 64).take 1) = some xs[2] := (congrArg (fun q => DataW.trod enc Try.prog W base (fun _ => true) held m 4 ((cs.drop 64).take q)) e2).symm.trans g2
  obtain ⟨b2, c2, _⟩ := DataW.trod_bool Try.underlying4 g2
  have hd0 : cs = cs.drop 0 := rfl
  have d0 := cutd cs (o := 0) (s := 32) (p := 32) rfl
  have d1 := cutd cs (o := 32) (s := 32) (p := 64) rfl
  have d2 := cutd cs (o := 64) (s := 1) (p := 65) rfl
  have dn : cs.drop 65 = [] := List.drop_eq_nil_of_le (by omega)
  have hcs : cs = cBs l0 ++ (cBs l1 ++ [.bool b2]) := by rw [hd0, d0, c0, d1, c1, d2, c2, dn]; simp only [List.append_assoc, List.cons_append, List.nil_append, List.append_nil]
  exact ⟨⟨⟨l0, h0⟩, ⟨l1, h1⟩, b2⟩, hcs⟩
theorem open_ops13 {v : Value} (hval : Value.okWide Try.prog W rr b0 39 v) (hd : DataW.Trod enc Try.prog W base (fun _ => true) held 39 v d ps) : ∃ l : List Op13, Rd W 65 v l.length (l.flatMap cO13) ∧ True := by
  obtain ⟨l, hr, _⟩ := open_rowsF (sz := 65) cO13 (fun _ => True) Try.underlying39 (by kernel_rfl) (by decide) (fun n c y _ h => by
    obtain ⟨u, rfl⟩ := trod_op13 h
    exact ⟨u, rfl, trivial⟩) cO13_one hval hd
  exact ⟨l, hr, trivial⟩
end

end Go.Proofs.Yticaefnpapppoaa
