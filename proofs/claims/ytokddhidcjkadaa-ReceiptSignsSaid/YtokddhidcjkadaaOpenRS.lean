/- Receipts in a row as an argument. -/
import Derived.Test.YtokddhidcjkadaaRSign
import Derived.Test.YtokddhidcjkadaaOpen12
namespace Go.Proofs.Ytokddhidcjkadaa
open Go.RowKit Go.Bz Go.Bz.Rcpt Go.ChangeShapes Go.WideShapes
section
variable {H : Type} {enc : TypeId × Value → H} {W : World} {base : Nat} {held : Bool} {d : DataW H} {ps : List MemPlace} {b0 : Nat} {rr : Reach}
set_option maxRecDepth 100000 in
theorem open_rcs {v : Value} (hval : Value.okWide Try.prog W rr b0 91 v) (hd : DataW.Trod enc Try.prog W base (fun _ => true) held 91 v d ps) : ∃ l : List Rc, Rd W 67 v l.length (l.flatMap cRc) ∧ ∀ x ∈ l, inRc x := by
  obtain ⟨l, hr, hq⟩ := open_rowsF (sz := 67) cRc inRc Try.underlying91 (by kernel_rfl) (by decide) (fun n c y _ h => by
    obtain ⟨r, hin, rfl⟩ := trod_rc h
    exact ⟨r, show _ = cRc r by unfold cRc; rfl, hin⟩) cRc_one hval hd
  exact ⟨l, hr, hq⟩
end
end Go.Proofs.Ytokddhidcjkadaa
