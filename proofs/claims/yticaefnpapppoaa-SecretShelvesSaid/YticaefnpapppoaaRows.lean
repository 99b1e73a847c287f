/-
  No cell of these rows narrows 'for every input' (looked for: loops, veiled, ifaces, maps, wideKeys, modest, calm, conditions, laid).
  DERIVED. THE GIVEN ROWS OF THIS SEAT. 12 by the template 'for every input the law returns true; each argument reads behind the call as it read before'; 0 by the template 'total and deterministic' (their statements: YticaefnpapppoaaTotals.lean).
  GIVEN WITH THE SEED: the statements are not yours to turn. If you find one false, say at which input.
  Laid BY PROGRAM, IN A SANDBOX (cutbox-rows.mjs): the forced cells as the released guide's own fill.sh prints them over the translation 021f1a1527481de8… (all of the seat's roots in one cut). By AI agents, Wed Nov 11 2026. No macro, syntax, notation, axiom, sorry.
-/
import Derived.Test.YticaefnpapppoaaChecked
import GoSem.Claim
import GoSem.ClaimJoined
import GoSem.ClaimMapViews
import Derived.JoinedTies
import Derived.KernelRfl
namespace Go.Proofs.Yticaefnpapppoaa
/- THE CELL 'sum', in the pinned program and in every row, IS THE sha256 OF THE DUMP (.gsa) THAT YticaefnpapppoaaProg.lean LOADS. Nothing in Lean hashes anything: it is a label: what it is worth is what the hold of that sum in a sandbox is worth. -/
noncomputable def Try.pinned : Pinned := { name := "yticaefnpapppoaa", sum := "021f1a1527481de88cb7f2580fb00da56f95821ebb0e654f07d75c52e366ce6f", checked := Try.checked }
namespace Rows
def none {H : Type} : Left H := { results := [], args := [] }

/-- 'bartizanlaw02.ShaSums': WHATEVER THE INPUT: true; the input reads as it did. -/
def shaSumsSpec : ChangeSpec := { name := "shaSums", fn := fun _ => fun
  | [d] => { results := [.lit (.bool true)], args := [d] }
  | _ => none }
def shaSumsRow : OpenClaim := { program := "yticaefnpapppoaa", sum := "021f1a1527481de88cb7f2580fb00da56f95821ebb0e654f07d75c52e366ce6f", func := "bartizan/bartizanlaw02.ShaSums", spec := "shaSums", apart := false }
def ShaSumsSaid : Prop := shaSumsRow.holds Try.pinned (OpenSpec.ofChange shaSumsSpec)

/-- ITS FALSE NEIGHBOUR: 'it returns false'. Refute it at one input. -/
def shaSumsWrong : ChangeSpec := { name := "shaSums", fn := fun _ => fun
  | [d] => { results := [.lit (.bool false)], args := [d] }
  | _ => none }
def ShaSumsWrongFalsely : Prop := shaSumsRow.holds Try.pinned (OpenSpec.ofChange shaSumsWrong)

/-- 'bartizanlaw02.ShaParts': WHATEVER THE INPUT: true; the input reads as it did. -/
def shaPartsSpec : ChangeSpec := { name := "shaParts", fn := fun _ => fun
  | [d1, d2, d3] => { results := [.lit (.bool true)], args := [d1, d2, d3] }
  | _ => none }
def shaPartsRow : OpenClaim := { program := "yticaefnpapppoaa", sum := "021f1a1527481de88cb7f2580fb00da56f95821ebb0e654f07d75c52e366ce6f", func := "bartizan/bartizanlaw02.ShaParts", spec := "shaParts", apart := false }
def ShaPartsSaid : Prop := shaPartsRow.holds Try.pinned (OpenSpec.ofChange shaPartsSpec)

/-- ITS FALSE NEIGHBOUR: 'it returns false'. Refute it at one input. -/
def shaPartsWrong : ChangeSpec := { name := "shaParts", fn := fun _ => fun
  | [d1, d2, d3] => { results := [.lit (.bool false)], args := [d1, d2, d3] }
  | _ => none }
def ShaPartsWrongFalsely : Prop := shaPartsRow.holds Try.pinned (OpenSpec.ofChange shaPartsWrong)

/-- 'bartizanlaw02.ShaJoins': WHATEVER THE INPUT: true; the input reads as it did. -/
def shaJoinsSpec : ChangeSpec := { name := "shaJoins", fn := fun _ => fun
  | [d1, d2, d3, d4] => { results := [.lit (.bool true)], args := [d1, d2, d3, d4] }
  | _ => none }
def shaJoinsRow : OpenClaim := { program := "yticaefnpapppoaa", sum := "021f1a1527481de88cb7f2580fb00da56f95821ebb0e654f07d75c52e366ce6f", func := "bartizan/bartizanlaw02.ShaJoins", spec := "shaJoins", apart := false }
def ShaJoinsSaid : Prop := shaJoinsRow.holds Try.pinned (OpenSpec.ofChange shaJoinsSpec)

/-- ITS FALSE NEIGHBOUR: 'it returns false'. Refute it at one input. -/
def shaJoinsWrong : ChangeSpec := { name := "shaJoins", fn := fun _ => fun
  | [d1, d2, d3, d4] => { results := [.lit (.bool false)], args := [d1, d2, d3, d4] }
  | _ => none }
def ShaJoinsWrongFalsely : Prop := shaJoinsRow.holds Try.pinned (OpenSpec.ofChange shaJoinsWrong)

/-- 'bartizanlaw13.SecretPoints': WHATEVER THE INPUT: true; the input reads as it did. -/
def secretPointsSpec : ChangeSpec := { name := "secretPoints", fn := fun _ => fun
  | [d1, d2] => { results := [.lit (.bool true)], args := [d1, d2] }
  | _ => none }
def secretPointsRow : OpenClaim := { program := "yticaefnpapppoaa", sum := "021f1a1527481de88cb7f2580fb00da56f95821ebb0e654f07d75c52e366ce6f", func := "bartizan/bartizanlaw13.SecretPoints", spec := "secretPoints", apart := false }
def SecretPointsSaid : Prop := secretPointsRow.holds Try.pinned (OpenSpec.ofChange secretPointsSpec)

/-- ITS FALSE NEIGHBOUR: 'it returns false'. Refute it at one input. -/
def secretPointsWrong : ChangeSpec := { name := "secretPoints", fn := fun _ => fun
  | [d1, d2] => { results := [.lit (.bool false)], args := [d1, d2] }
  | _ => none }
def SecretPointsWrongFalsely : Prop := secretPointsRow.holds Try.pinned (OpenSpec.ofChange secretPointsWrong)

/-- 'bartizanlaw13.SecretShelves': WHATEVER THE INPUT: true; the input reads as it did. -/
def secretShelvesSpec : ChangeSpec := { name := "secretShelves", fn := fun _ => fun
  | [d1, d2, d3] => { results := [.lit (.bool true)], args := [d1, d2, d3] }
  | _ => none }
def secretShelvesRow : OpenClaim := { program := "yticaefnpapppoaa", sum := "021f1a1527481de88cb7f2580fb00da56f95821ebb0e654f07d75c52e366ce6f", func := "bartizan/bartizanlaw13.SecretShelves", spec := "secretShelves", apart := false }
def SecretShelvesSaid : Prop := secretShelvesRow.holds Try.pinned (OpenSpec.ofChange secretShelvesSpec)

/-- ITS FALSE NEIGHBOUR: 'it returns false'. Refute it at one input. -/
def secretShelvesWrong : ChangeSpec := { name := "secretShelves", fn := fun _ => fun
  | [d1, d2, d3] => { results := [.lit (.bool false)], args := [d1, d2, d3] }
  | _ => none }
def SecretShelvesWrongFalsely : Prop := secretShelvesRow.holds Try.pinned (OpenSpec.ofChange secretShelvesWrong)

/-- 'bartizanlaw13.SecretNobody': WHATEVER THE INPUT: true; the input reads as it did. -/
def secretNobodySpec : ChangeSpec := { name := "secretNobody", fn := fun _ => fun
  | [d1, d2] => { results := [.lit (.bool true)], args := [d1, d2] }
  | _ => none }
def secretNobodyRow : OpenClaim := { program := "yticaefnpapppoaa", sum := "021f1a1527481de88cb7f2580fb00da56f95821ebb0e654f07d75c52e366ce6f", func := "bartizan/bartizanlaw13.SecretNobody", spec := "secretNobody", apart := false }
def SecretNobodySaid : Prop := secretNobodyRow.holds Try.pinned (OpenSpec.ofChange secretNobodySpec)

/-- ITS FALSE NEIGHBOUR: 'it returns false'. Refute it at one input. -/
def secretNobodyWrong : ChangeSpec := { name := "secretNobody", fn := fun _ => fun
  | [d1, d2] => { results := [.lit (.bool false)], args := [d1, d2] }
  | _ => none }
def SecretNobodyWrongFalsely : Prop := secretNobodyRow.holds Try.pinned (OpenSpec.ofChange secretNobodyWrong)

/-- 'bartizanlaw11.VeilCloses': WHATEVER THE INPUT: true; the input reads as it did. -/
def veilClosesSpec : ChangeSpec := { name := "veilCloses", fn := fun _ => fun
  | [d1, d2] => { results := [.lit (.bool true)], args := [d1, d2] }
  | _ => none }
def veilClosesRow : OpenClaim := { program := "yticaefnpapppoaa", sum := "021f1a1527481de88cb7f2580fb00da56f95821ebb0e654f07d75c52e366ce6f", func := "bartizan/bartizanlaw11.VeilCloses", spec := "veilCloses", apart := false }
def VeilClosesSaid : Prop := veilClosesRow.holds Try.pinned (OpenSpec.ofChange veilClosesSpec)

/-- ITS FALSE NEIGHBOUR: 'it returns false'. Refute it at one input. -/
def veilClosesWrong : ChangeSpec := { name := "veilCloses", fn := fun _ => fun
  | [d1, d2] => { results := [.lit (.bool false)], args := [d1, d2] }
  | _ => none }
def VeilClosesWrongFalsely : Prop := veilClosesRow.holds Try.pinned (OpenSpec.ofChange veilClosesWrong)

/-- 'bartizanlaw11.VeilOpens': WHATEVER THE INPUT: true; the input reads as it did. -/
def veilOpensSpec : ChangeSpec := { name := "veilOpens", fn := fun _ => fun
  | [d1, d2] => { results := [.lit (.bool true)], args := [d1, d2] }
  | _ => none }
def veilOpensRow : OpenClaim := { program := "yticaefnpapppoaa", sum := "021f1a1527481de88cb7f2580fb00da56f95821ebb0e654f07d75c52e366ce6f", func := "bartizan/bartizanlaw11.VeilOpens", spec := "veilOpens", apart := false }
def VeilOpensSaid : Prop := veilOpensRow.holds Try.pinned (OpenSpec.ofChange veilOpensSpec)

/-- ITS FALSE NEIGHBOUR: 'it returns false'. Refute it at one input. -/
def veilOpensWrong : ChangeSpec := { name := "veilOpens", fn := fun _ => fun
  | [d1, d2] => { results := [.lit (.bool false)], args := [d1, d2] }
  | _ => none }
def VeilOpensWrongFalsely : Prop := veilOpensRow.holds Try.pinned (OpenSpec.ofChange veilOpensWrong)

/-- 'bartizanlaw11.VeilLong': WHATEVER THE INPUT: true; the input reads as it did. -/
def veilLongSpec : ChangeSpec := { name := "veilLong", fn := fun _ => fun
  | [d] => { results := [.lit (.bool true)], args := [d] }
  | _ => none }
def veilLongRow : OpenClaim := { program := "yticaefnpapppoaa", sum := "021f1a1527481de88cb7f2580fb00da56f95821ebb0e654f07d75c52e366ce6f", func := "bartizan/bartizanlaw11.VeilLong", spec := "veilLong", apart := false }
def VeilLongSaid : Prop := veilLongRow.holds Try.pinned (OpenSpec.ofChange veilLongSpec)

/-- ITS FALSE NEIGHBOUR: 'it returns false'. Refute it at one input. -/
def veilLongWrong : ChangeSpec := { name := "veilLong", fn := fun _ => fun
  | [d] => { results := [.lit (.bool false)], args := [d] }
  | _ => none }
def VeilLongWrongFalsely : Prop := veilLongRow.holds Try.pinned (OpenSpec.ofChange veilLongWrong)

/-- 'bartizanlaw04.LamportSigns': WHATEVER THE INPUT: true; the input reads as it did. -/
def lamportSignsSpec : ChangeSpec := { name := "lamportSigns", fn := fun _ => fun
  | [d1, d2] => { results := [.lit (.bool true)], args := [d1, d2] }
  | _ => none }
def lamportSignsRow : OpenClaim := { program := "yticaefnpapppoaa", sum := "021f1a1527481de88cb7f2580fb00da56f95821ebb0e654f07d75c52e366ce6f", func := "bartizan/bartizanlaw04.LamportSigns", spec := "lamportSigns", apart := false }
def LamportSignsSaid : Prop := lamportSignsRow.holds Try.pinned (OpenSpec.ofChange lamportSignsSpec)

/-- ITS FALSE NEIGHBOUR: 'it returns false'. Refute it at one input. -/
def lamportSignsWrong : ChangeSpec := { name := "lamportSigns", fn := fun _ => fun
  | [d1, d2] => { results := [.lit (.bool false)], args := [d1, d2] }
  | _ => none }
def LamportSignsWrongFalsely : Prop := lamportSignsRow.holds Try.pinned (OpenSpec.ofChange lamportSignsWrong)

/-- 'bartizanlaw04.LamportBacks': WHATEVER THE INPUT: true; the input reads as it did. -/
def lamportBacksSpec : ChangeSpec := { name := "lamportBacks", fn := fun _ => fun
  | [d1, d2, d3] => { results := [.lit (.bool true)], args := [d1, d2, d3] }
  | _ => none }
def lamportBacksRow : OpenClaim := { program := "yticaefnpapppoaa", sum := "021f1a1527481de88cb7f2580fb00da56f95821ebb0e654f07d75c52e366ce6f", func := "bartizan/bartizanlaw04.LamportBacks", spec := "lamportBacks", apart := false }
def LamportBacksSaid : Prop := lamportBacksRow.holds Try.pinned (OpenSpec.ofChange lamportBacksSpec)

/-- ITS FALSE NEIGHBOUR: 'it returns false'. Refute it at one input. -/
def lamportBacksWrong : ChangeSpec := { name := "lamportBacks", fn := fun _ => fun
  | [d1, d2, d3] => { results := [.lit (.bool false)], args := [d1, d2, d3] }
  | _ => none }
def LamportBacksWrongFalsely : Prop := lamportBacksRow.holds Try.pinned (OpenSpec.ofChange lamportBacksWrong)

/-- 'bartizanlaw04.LamportSecrets': WHATEVER THE INPUT: true; the input reads as it did. -/
def lamportSecretsSpec : ChangeSpec := { name := "lamportSecrets", fn := fun _ => fun
  | [d1, d2, d3] => { results := [.lit (.bool true)], args := [d1, d2, d3] }
  | _ => none }
def lamportSecretsRow : OpenClaim := { program := "yticaefnpapppoaa", sum := "021f1a1527481de88cb7f2580fb00da56f95821ebb0e654f07d75c52e366ce6f", func := "bartizan/bartizanlaw04.LamportSecrets", spec := "lamportSecrets", apart := false }
def LamportSecretsSaid : Prop := lamportSecretsRow.holds Try.pinned (OpenSpec.ofChange lamportSecretsSpec)

/-- ITS FALSE NEIGHBOUR: 'it returns false'. Refute it at one input. -/
def lamportSecretsWrong : ChangeSpec := { name := "lamportSecrets", fn := fun _ => fun
  | [d1, d2, d3] => { results := [.lit (.bool false)], args := [d1, d2, d3] }
  | _ => none }
def LamportSecretsWrongFalsely : Prop := lamportSecretsRow.holds Try.pinned (OpenSpec.ofChange lamportSecretsWrong)

/- THE SECOND FORM. 'bulk': how many values and letters a reading holds, each counted each time it is reached (what is shared counts as often as it is met; a slice's spare places count too). A statement '..UptoSaid' is the law's where the arguments, and the package variables that the reading takes, are together of bulk at most 1048576: NARROWER than '..Said'. Prove '..Said' where nothing that the law and all that it calls make is longer than what came in: it says more and counts as full. Else prove '..UptoSaid'. A law counts once. -/
mutual
def uptoBulk {H : Type} : DataW H → Nat
  | .lit (.string bytes) => bytes.length + 1
  | .lit _ => 1
  | .nil => 1
  | .ptr d => uptoBulk d + 1
  | .slice elems spare => uptoBulkAll elems + uptoBulkAll spare + 1
  | .agg parts => uptoBulkAll parts + 1
  | .iface _ d => uptoBulk d + 1
  | .map entries => uptoBulkEntries entries + 1
  | .held _ => 1
def uptoBulkAll {H : Type} : List (DataW H) → Nat
  | [] => 0
  | d :: r => uptoBulk d + uptoBulkAll r
def uptoBulkEntries {H : Type} : List (Lit × DataW H) → Nat
  | [] => 0
  | x :: r => uptoBulkEntry x + uptoBulkEntries r
def uptoBulkEntry {H : Type} : Lit × DataW H → Nat
  | (.string bytes, d) => bytes.length + uptoBulk d + 1
  | (_, d) => uptoBulk d + 1
 end
def uptoSmall : (H : Type) → List (DataW H) → Bool := fun _ ds => decide (uptoBulkAll ds ≤ 1048576)
def OpenSpec.upto (s : _root_.Go.ChangeSpec) : _root_.Go.OpenSpec := { _root_.Go.OpenSpec.ofChange s with cond := some uptoSmall }

/-- 'bartizanlaw02.ShaSums', WHERE WHAT IT READS IS OF BULK AT MOST 1048576: true; the input reads as it did. -/
def shaSumsUptoRow : OpenClaim := { program := "yticaefnpapppoaa", sum := "021f1a1527481de88cb7f2580fb00da56f95821ebb0e654f07d75c52e366ce6f", func := "bartizan/bartizanlaw02.ShaSums", spec := "shaSums", apart := false, narrowed := true }
def ShaSumsUptoSaid : Prop := shaSumsUptoRow.holds Try.pinned (OpenSpec.upto shaSumsSpec)

/-- 'bartizanlaw02.ShaParts', WHERE WHAT IT READS IS OF BULK AT MOST 1048576: true; the input reads as it did. -/
def shaPartsUptoRow : OpenClaim := { program := "yticaefnpapppoaa", sum := "021f1a1527481de88cb7f2580fb00da56f95821ebb0e654f07d75c52e366ce6f", func := "bartizan/bartizanlaw02.ShaParts", spec := "shaParts", apart := false, narrowed := true }
def ShaPartsUptoSaid : Prop := shaPartsUptoRow.holds Try.pinned (OpenSpec.upto shaPartsSpec)

/-- 'bartizanlaw02.ShaJoins', WHERE WHAT IT READS IS OF BULK AT MOST 1048576: true; the input reads as it did. -/
def shaJoinsUptoRow : OpenClaim := { program := "yticaefnpapppoaa", sum := "021f1a1527481de88cb7f2580fb00da56f95821ebb0e654f07d75c52e366ce6f", func := "bartizan/bartizanlaw02.ShaJoins", spec := "shaJoins", apart := false, narrowed := true }
def ShaJoinsUptoSaid : Prop := shaJoinsUptoRow.holds Try.pinned (OpenSpec.upto shaJoinsSpec)

/-- 'bartizanlaw13.SecretPoints', WHERE WHAT IT READS IS OF BULK AT MOST 1048576: true; the input reads as it did. -/
def secretPointsUptoRow : OpenClaim := { program := "yticaefnpapppoaa", sum := "021f1a1527481de88cb7f2580fb00da56f95821ebb0e654f07d75c52e366ce6f", func := "bartizan/bartizanlaw13.SecretPoints", spec := "secretPoints", apart := false, narrowed := true }
def SecretPointsUptoSaid : Prop := secretPointsUptoRow.holds Try.pinned (OpenSpec.upto secretPointsSpec)

/-- 'bartizanlaw13.SecretShelves', WHERE WHAT IT READS IS OF BULK AT MOST 1048576: true; the input reads as it did. -/
def secretShelvesUptoRow : OpenClaim := { program := "yticaefnpapppoaa", sum := "021f1a1527481de88cb7f2580fb00da56f95821ebb0e654f07d75c52e366ce6f", func := "bartizan/bartizanlaw13.SecretShelves", spec := "secretShelves", apart := false, narrowed := true }
def SecretShelvesUptoSaid : Prop := secretShelvesUptoRow.holds Try.pinned (OpenSpec.upto secretShelvesSpec)

/-- 'bartizanlaw13.SecretNobody', WHERE WHAT IT READS IS OF BULK AT MOST 1048576: true; the input reads as it did. -/
def secretNobodyUptoRow : OpenClaim := { program := "yticaefnpapppoaa", sum := "021f1a1527481de88cb7f2580fb00da56f95821ebb0e654f07d75c52e366ce6f", func := "bartizan/bartizanlaw13.SecretNobody", spec := "secretNobody", apart := false, narrowed := true }
def SecretNobodyUptoSaid : Prop := secretNobodyUptoRow.holds Try.pinned (OpenSpec.upto secretNobodySpec)

/-- 'bartizanlaw11.VeilCloses', WHERE WHAT IT READS IS OF BULK AT MOST 1048576: true; the input reads as it did. -/
def veilClosesUptoRow : OpenClaim := { program := "yticaefnpapppoaa", sum := "021f1a1527481de88cb7f2580fb00da56f95821ebb0e654f07d75c52e366ce6f", func := "bartizan/bartizanlaw11.VeilCloses", spec := "veilCloses", apart := false, narrowed := true }
def VeilClosesUptoSaid : Prop := veilClosesUptoRow.holds Try.pinned (OpenSpec.upto veilClosesSpec)

/-- 'bartizanlaw11.VeilOpens', WHERE WHAT IT READS IS OF BULK AT MOST 1048576: true; the input reads as it did. -/
def veilOpensUptoRow : OpenClaim := { program := "yticaefnpapppoaa", sum := "021f1a1527481de88cb7f2580fb00da56f95821ebb0e654f07d75c52e366ce6f", func := "bartizan/bartizanlaw11.VeilOpens", spec := "veilOpens", apart := false, narrowed := true }
def VeilOpensUptoSaid : Prop := veilOpensUptoRow.holds Try.pinned (OpenSpec.upto veilOpensSpec)

/-- 'bartizanlaw11.VeilLong', WHERE WHAT IT READS IS OF BULK AT MOST 1048576: true; the input reads as it did. -/
def veilLongUptoRow : OpenClaim := { program := "yticaefnpapppoaa", sum := "021f1a1527481de88cb7f2580fb00da56f95821ebb0e654f07d75c52e366ce6f", func := "bartizan/bartizanlaw11.VeilLong", spec := "veilLong", apart := false, narrowed := true }
def VeilLongUptoSaid : Prop := veilLongUptoRow.holds Try.pinned (OpenSpec.upto veilLongSpec)

/-- 'bartizanlaw04.LamportSigns', WHERE WHAT IT READS IS OF BULK AT MOST 1048576: true; the input reads as it did. -/
def lamportSignsUptoRow : OpenClaim := { program := "yticaefnpapppoaa", sum := "021f1a1527481de88cb7f2580fb00da56f95821ebb0e654f07d75c52e366ce6f", func := "bartizan/bartizanlaw04.LamportSigns", spec := "lamportSigns", apart := false, narrowed := true }
def LamportSignsUptoSaid : Prop := lamportSignsUptoRow.holds Try.pinned (OpenSpec.upto lamportSignsSpec)

/-- 'bartizanlaw04.LamportBacks', WHERE WHAT IT READS IS OF BULK AT MOST 1048576: true; the input reads as it did. -/
def lamportBacksUptoRow : OpenClaim := { program := "yticaefnpapppoaa", sum := "021f1a1527481de88cb7f2580fb00da56f95821ebb0e654f07d75c52e366ce6f", func := "bartizan/bartizanlaw04.LamportBacks", spec := "lamportBacks", apart := false, narrowed := true }
def LamportBacksUptoSaid : Prop := lamportBacksUptoRow.holds Try.pinned (OpenSpec.upto lamportBacksSpec)

/-- 'bartizanlaw04.LamportSecrets', WHERE WHAT IT READS IS OF BULK AT MOST 1048576: true; the input reads as it did. -/
def lamportSecretsUptoRow : OpenClaim := { program := "yticaefnpapppoaa", sum := "021f1a1527481de88cb7f2580fb00da56f95821ebb0e654f07d75c52e366ce6f", func := "bartizan/bartizanlaw04.LamportSecrets", spec := "lamportSecrets", apart := false, narrowed := true }
def LamportSecretsUptoSaid : Prop := lamportSecretsUptoRow.holds Try.pinned (OpenSpec.upto lamportSecretsSpec)

end Rows
end Go.Proofs.Yticaefnpapppoaa
