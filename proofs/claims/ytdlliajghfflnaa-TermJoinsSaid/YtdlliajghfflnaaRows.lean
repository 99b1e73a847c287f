/-
  No cell of these rows narrows 'for every input' (looked for: loops, veiled, ifaces, maps, wideKeys, modest, calm, conditions, laid).
  DERIVED. THE GIVEN ROWS OF THIS SEAT. 3 by the template 'for every input the law returns true; each argument reads behind the call as it read before'; 0 by the template 'total and deterministic' (their statements: YtdlliajghfflnaaTotals.lean).
  GIVEN WITH THE SEED: the statements are not yours to turn. If you find one false, say at which input.
  Laid BY PROGRAM, IN A SANDBOX (cutbox-rows.mjs): the forced cells as the released guide's own fill.sh prints them over the translation d01406495487be3c… (all of the seat's roots in one cut). By AI agents, Wed Nov 11 2026. No macro, syntax, notation, axiom, sorry.
-/
import Derived.Test.YtdlliajghfflnaaChecked
import GoSem.Claim
import GoSem.ClaimJoined
import GoSem.ClaimMapViews
import Derived.JoinedTies
import Derived.KernelRfl
namespace Go.Proofs.Ytdlliajghfflnaa
/- THE CELL 'sum', in the pinned program and in every row, IS THE sha256 OF THE DUMP (.gsa) THAT YtdlliajghfflnaaProg.lean LOADS. Nothing in Lean hashes anything: it is a label: what it is worth is what the hold of that sum in a sandbox is worth. -/
noncomputable def Try.pinned : Pinned := { name := "ytdlliajghfflnaa", sum := "d01406495487be3cd8a76b133b918dc00feeda82556b071305d004e05312996d", checked := Try.checked }
namespace Rows
def none {H : Type} : Left H := { results := [], args := [] }

/-- 'bartizanlaw37.TermGrows': WHATEVER THE INPUT: true; the input reads as it did. -/
def termGrowsSpec : ChangeSpec := { name := "termGrows", fn := fun _ => fun
  | [d1, d2, d3, d4, d5] => { results := [.lit (.bool true)], args := [d1, d2, d3, d4, d5] }
  | _ => none }
def termGrowsRow : OpenClaim := { program := "ytdlliajghfflnaa", sum := "d01406495487be3cd8a76b133b918dc00feeda82556b071305d004e05312996d", func := "bartizan/bartizanlaw37.TermGrows", spec := "termGrows", plainKeys := false, apart := false }
def TermGrowsSaid : Prop := termGrowsRow.holds Try.pinned (OpenSpec.ofChange termGrowsSpec)

/-- ITS FALSE NEIGHBOUR: 'it returns false'. Refute it at one input. -/
def termGrowsWrong : ChangeSpec := { name := "termGrows", fn := fun _ => fun
  | [d1, d2, d3, d4, d5] => { results := [.lit (.bool false)], args := [d1, d2, d3, d4, d5] }
  | _ => none }
def TermGrowsWrongFalsely : Prop := termGrowsRow.holds Try.pinned (OpenSpec.ofChange termGrowsWrong)

/-- 'bartizanlaw37.TermForges': WHATEVER THE INPUT: true; the input reads as it did. -/
def termForgesSpec : ChangeSpec := { name := "termForges", fn := fun _ => fun
  | [d1, d2, d3] => { results := [.lit (.bool true)], args := [d1, d2, d3] }
  | _ => none }
def termForgesRow : OpenClaim := { program := "ytdlliajghfflnaa", sum := "d01406495487be3cd8a76b133b918dc00feeda82556b071305d004e05312996d", func := "bartizan/bartizanlaw37.TermForges", spec := "termForges", plainKeys := false, apart := false }
def TermForgesSaid : Prop := termForgesRow.holds Try.pinned (OpenSpec.ofChange termForgesSpec)

/-- ITS FALSE NEIGHBOUR: 'it returns false'. Refute it at one input. -/
def termForgesWrong : ChangeSpec := { name := "termForges", fn := fun _ => fun
  | [d1, d2, d3] => { results := [.lit (.bool false)], args := [d1, d2, d3] }
  | _ => none }
def TermForgesWrongFalsely : Prop := termForgesRow.holds Try.pinned (OpenSpec.ofChange termForgesWrong)

/-- 'bartizanlaw37.TermJoins': WHATEVER THE INPUT: true; the input reads as it did. -/
def termJoinsSpec : ChangeSpec := { name := "termJoins", fn := fun _ => fun
  | [d1, d2, d3] => { results := [.lit (.bool true)], args := [d1, d2, d3] }
  | _ => none }
def termJoinsRow : OpenClaim := { program := "ytdlliajghfflnaa", sum := "d01406495487be3cd8a76b133b918dc00feeda82556b071305d004e05312996d", func := "bartizan/bartizanlaw37.TermJoins", spec := "termJoins", plainKeys := false, apart := false }
def TermJoinsSaid : Prop := termJoinsRow.holds Try.pinned (OpenSpec.ofChange termJoinsSpec)

/-- ITS FALSE NEIGHBOUR: 'it returns false'. Refute it at one input. -/
def termJoinsWrong : ChangeSpec := { name := "termJoins", fn := fun _ => fun
  | [d1, d2, d3] => { results := [.lit (.bool false)], args := [d1, d2, d3] }
  | _ => none }
def TermJoinsWrongFalsely : Prop := termJoinsRow.holds Try.pinned (OpenSpec.ofChange termJoinsWrong)

/- THE SECOND FORM. 'bulk': how many values and letters a reading holds, each counted each time it is reached (what is shared counts as often as it is met; a slice's spare places count too). A statement '..UptoSaid' is the law's where the arguments, and the package variables that the reading takes, are together of bulk at most 1048576: NARROWER than '..Said'. Prove '..Said' where nothing that the law and all that it calls make is longer than what came in: it says more and counts as full. Else prove '..UptoSaid'. A law counts once. -/
mutual
def uptoBulk {H : Type} : DataW H → Nat
  | .lit (.string bytes) => bytes.length + 1
  | .lit _ => 1
  | .nil => 1
  | .ptr d => uptoBulk d + 1
  | .slice elems spare => uptoBulkAll elems + uptoBulkAll spare + 1
  | .agg parts => uptoBulkAll parts + 1
  | .iface _ d => uptoBulk d + 1
  | .map entries => uptoBulkEntries entries + 1
  | .held _ => 1
def uptoBulkAll {H : Type} : List (DataW H) → Nat
  | [] => 0
  | d :: r => uptoBulk d + uptoBulkAll r
def uptoBulkEntries {H : Type} : List (Lit × DataW H) → Nat
  | [] => 0
  | x :: r => uptoBulkEntry x + uptoBulkEntries r
def uptoBulkEntry {H : Type} : Lit × DataW H → Nat
  | (.string bytes, d) => bytes.length + uptoBulk d + 1
  | (_, d) => uptoBulk d + 1
 end
def uptoSmall : (H : Type) → List (DataW H) → Bool := fun _ ds => decide (uptoBulkAll ds ≤ 1048576)
def OpenSpec.upto (s : _root_.Go.ChangeSpec) : _root_.Go.OpenSpec := { _root_.Go.OpenSpec.ofChange s with cond := some uptoSmall }

/-- 'bartizanlaw37.TermGrows', WHERE WHAT IT READS IS OF BULK AT MOST 1048576: true; the input reads as it did. -/
def termGrowsUptoRow : OpenClaim := { program := "ytdlliajghfflnaa", sum := "d01406495487be3cd8a76b133b918dc00feeda82556b071305d004e05312996d", func := "bartizan/bartizanlaw37.TermGrows", spec := "termGrows", plainKeys := false, apart := false, narrowed := true }
def TermGrowsUptoSaid : Prop := termGrowsUptoRow.holds Try.pinned (OpenSpec.upto termGrowsSpec)

/-- 'bartizanlaw37.TermForges', WHERE WHAT IT READS IS OF BULK AT MOST 1048576: true; the input reads as it did. -/
def termForgesUptoRow : OpenClaim := { program := "ytdlliajghfflnaa", sum := "d01406495487be3cd8a76b133b918dc00feeda82556b071305d004e05312996d", func := "bartizan/bartizanlaw37.TermForges", spec := "termForges", plainKeys := false, apart := false, narrowed := true }
def TermForgesUptoSaid : Prop := termForgesUptoRow.holds Try.pinned (OpenSpec.upto termForgesSpec)

/-- 'bartizanlaw37.TermJoins', WHERE WHAT IT READS IS OF BULK AT MOST 1048576: true; the input reads as it did. -/
def termJoinsUptoRow : OpenClaim := { program := "ytdlliajghfflnaa", sum := "d01406495487be3cd8a76b133b918dc00feeda82556b071305d004e05312996d", func := "bartizan/bartizanlaw37.TermJoins", spec := "termJoins", plainKeys := false, apart := false, narrowed := true }
def TermJoinsUptoSaid : Prop := termJoinsUptoRow.holds Try.pinned (OpenSpec.upto termJoinsSpec)

end Rows
end Go.Proofs.Ytdlliajghfflnaa
