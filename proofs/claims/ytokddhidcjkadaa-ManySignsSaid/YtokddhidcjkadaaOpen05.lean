/- Texts as arguments. -/
import Derived.Test.YtokddhidcjkadaaLaw05
import Derived.Test.YtokddhidcjkadaaOpenP
namespace Go.Proofs.Ytokddhidcjkadaa
open Go.RowKit Go.Bz Go.ChangeShapes Go.WideShapes
section
variable {H : Type} {enc : TypeId × Value → H} {W : World} {base : Nat} {held : Bool} {d : DataW H} {ps : List MemPlace} {b0 : Nat} {rr : Reach}
set_option maxRecDepth 100000 in
theorem open_pts {v : Value} (hval : Value.okWide Try.prog W rr b0 66 v) (hd : DataW.Trod enc Try.prog W base (fun _ => true) held 66 v d ps) : ∃ l : List (V1 × List UInt8), Rd W 1 v l.length (l.flatMap cPt) ∧ ∀ x ∈ l, RdB W x.1.1 x.2 := by
  obtain ⟨l, hr, hq⟩ := open_rowsF (sz := 1) cPt (fun p => RdB W p.1.1 p.2) Try.underlying66 (by kernel_rfl) (by decide) (fun n c y _ h => by
    obtain ⟨v, m, rfl, hm⟩ := open_bytes1 Try.underlying58 Try.underlying5 (by kernel_rfl) h
    exact ⟨(v, m), show [v.1] = cPt (v, m) by unfold cPt; rfl, hm⟩) cPt_one hval hd
  exact ⟨l, hr, hq⟩
end
end Go.Proofs.Ytokddhidcjkadaa
