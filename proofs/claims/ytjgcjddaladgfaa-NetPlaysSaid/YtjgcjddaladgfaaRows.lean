/-
  No cell of these rows narrows 'for every input' (looked for: loops, veiled, ifaces, maps, wideKeys, modest, calm, conditions, laid).
  DERIVED. THE GIVEN ROWS OF THIS SEAT. 10 by the template 'for every input the law returns true; each argument reads behind the call as it read before'; 0 by the template 'total and deterministic' (their statements: YtjgcjddaladgfaaTotals.lean).
  GIVEN WITH THE SEED: the statements are not yours to turn. If you find one false, say at which input.
  Laid BY PROGRAM, IN A SANDBOX (cutbox-rows.mjs): the forced cells as the released guide's own fill.sh prints them over the translation 9fd399ac48018110… (all of the seat's roots in one cut). By AI agents, Wed Nov 11 2026. No macro, syntax, notation, axiom, sorry.
-/
import Derived.Test.YtjgcjddaladgfaaChecked
import GoSem.Claim
import GoSem.ClaimJoined
import GoSem.ClaimMapViews
import Derived.JoinedTies
import Derived.KernelRfl
namespace Go.Proofs.Ytjgcjddaladgfaa
/- THE CELL 'sum', in the pinned program and in every row, IS THE sha256 OF THE DUMP (.gsa) THAT YtjgcjddaladgfaaProg.lean LOADS. Nothing in Lean hashes anything: it is a label: what it is worth is what the hold of that sum in a sandbox is worth. -/
noncomputable def Try.pinned : Pinned := { name := "ytjgcjddaladgfaa", sum := "9fd399ac48018110d3573a2afcdb91463acc3c30afab3e3ada97aa274732da1f", checked := Try.checked }
namespace Rows
def none {H : Type} : Left H := { results := [], args := [] }

/-- 'bartizanlaw01.WireNums': WHATEVER THE INPUT: true; the input reads as it did. -/
def wireNumsSpec : ChangeSpec := { name := "wireNums", fn := fun _ => fun
  | [d1, d2] => { results := [.lit (.bool true)], args := [d1, d2] }
  | _ => none }
def wireNumsRow : OpenClaim := { program := "ytjgcjddaladgfaa", sum := "9fd399ac48018110d3573a2afcdb91463acc3c30afab3e3ada97aa274732da1f", func := "bartizan/bartizanlaw01.WireNums", spec := "wireNums", apart := false }
def WireNumsSaid : Prop := wireNumsRow.holds Try.pinned (OpenSpec.ofChange wireNumsSpec)

/-- ITS FALSE NEIGHBOUR: 'it returns false'. Refute it at one input. -/
def wireNumsWrong : ChangeSpec := { name := "wireNums", fn := fun _ => fun
  | [d1, d2] => { results := [.lit (.bool false)], args := [d1, d2] }
  | _ => none }
def WireNumsWrongFalsely : Prop := wireNumsRow.holds Try.pinned (OpenSpec.ofChange wireNumsWrong)

/-- 'bartizanlaw01.WireStays': WHATEVER THE INPUT: true; the input reads as it did. -/
def wireStaysSpec : ChangeSpec := { name := "wireStays", fn := fun _ => fun
  | [d1, d2] => { results := [.lit (.bool true)], args := [d1, d2] }
  | _ => none }
def wireStaysRow : OpenClaim := { program := "ytjgcjddaladgfaa", sum := "9fd399ac48018110d3573a2afcdb91463acc3c30afab3e3ada97aa274732da1f", func := "bartizan/bartizanlaw01.WireStays", spec := "wireStays", apart := false }
def WireStaysSaid : Prop := wireStaysRow.holds Try.pinned (OpenSpec.ofChange wireStaysSpec)

/-- ITS FALSE NEIGHBOUR: 'it returns false'. Refute it at one input. -/
def wireStaysWrong : ChangeSpec := { name := "wireStays", fn := fun _ => fun
  | [d1, d2] => { results := [.lit (.bool false)], args := [d1, d2] }
  | _ => none }
def WireStaysWrongFalsely : Prop := wireStaysRow.holds Try.pinned (OpenSpec.ofChange wireStaysWrong)

/-- 'bartizanlaw01.WireNobody': WHATEVER THE INPUT: true; the input reads as it did. -/
def wireNobodySpec : ChangeSpec := { name := "wireNobody", fn := fun _ => fun
  | [d1, d2] => { results := [.lit (.bool true)], args := [d1, d2] }
  | _ => none }
def wireNobodyRow : OpenClaim := { program := "ytjgcjddaladgfaa", sum := "9fd399ac48018110d3573a2afcdb91463acc3c30afab3e3ada97aa274732da1f", func := "bartizan/bartizanlaw01.WireNobody", spec := "wireNobody", apart := false }
def WireNobodySaid : Prop := wireNobodyRow.holds Try.pinned (OpenSpec.ofChange wireNobodySpec)

/-- ITS FALSE NEIGHBOUR: 'it returns false'. Refute it at one input. -/
def wireNobodyWrong : ChangeSpec := { name := "wireNobody", fn := fun _ => fun
  | [d1, d2] => { results := [.lit (.bool false)], args := [d1, d2] }
  | _ => none }
def WireNobodyWrongFalsely : Prop := wireNobodyRow.holds Try.pinned (OpenSpec.ofChange wireNobodyWrong)

/-- 'bartizanlaw01.WirePuts': WHATEVER THE INPUT: true; the input reads as it did. -/
def wirePutsSpec : ChangeSpec := { name := "wirePuts", fn := fun _ => fun
  | [d1, d2, d3] => { results := [.lit (.bool true)], args := [d1, d2, d3] }
  | _ => none }
def wirePutsRow : OpenClaim := { program := "ytjgcjddaladgfaa", sum := "9fd399ac48018110d3573a2afcdb91463acc3c30afab3e3ada97aa274732da1f", func := "bartizan/bartizanlaw01.WirePuts", spec := "wirePuts", apart := false }
def WirePutsSaid : Prop := wirePutsRow.holds Try.pinned (OpenSpec.ofChange wirePutsSpec)

/-- ITS FALSE NEIGHBOUR: 'it returns false'. Refute it at one input. -/
def wirePutsWrong : ChangeSpec := { name := "wirePuts", fn := fun _ => fun
  | [d1, d2, d3] => { results := [.lit (.bool false)], args := [d1, d2, d3] }
  | _ => none }
def WirePutsWrongFalsely : Prop := wirePutsRow.holds Try.pinned (OpenSpec.ofChange wirePutsWrong)

/-- 'bartizanlaw12.ReceiptTexts': WHATEVER THE INPUT: true; the input reads as it did. -/
def receiptTextsSpec : ChangeSpec := { name := "receiptTexts", fn := fun _ => fun
  | [d1, d2] => { results := [.lit (.bool true)], args := [d1, d2] }
  | _ => none }
def receiptTextsRow : OpenClaim := { program := "ytjgcjddaladgfaa", sum := "9fd399ac48018110d3573a2afcdb91463acc3c30afab3e3ada97aa274732da1f", func := "bartizan/bartizanlaw12.ReceiptTexts", spec := "receiptTexts", apart := false }
def ReceiptTextsSaid : Prop := receiptTextsRow.holds Try.pinned (OpenSpec.ofChange receiptTextsSpec)

/-- ITS FALSE NEIGHBOUR: 'it returns false'. Refute it at one input. -/
def receiptTextsWrong : ChangeSpec := { name := "receiptTexts", fn := fun _ => fun
  | [d1, d2] => { results := [.lit (.bool false)], args := [d1, d2] }
  | _ => none }
def ReceiptTextsWrongFalsely : Prop := receiptTextsRow.holds Try.pinned (OpenSpec.ofChange receiptTextsWrong)

/-- 'bartizanlaw12.ReceiptBytes': WHATEVER THE INPUT: true; the input reads as it did. -/
def receiptBytesSpec : ChangeSpec := { name := "receiptBytes", fn := fun _ => fun
  | [d1, d2] => { results := [.lit (.bool true)], args := [d1, d2] }
  | _ => none }
def receiptBytesRow : OpenClaim := { program := "ytjgcjddaladgfaa", sum := "9fd399ac48018110d3573a2afcdb91463acc3c30afab3e3ada97aa274732da1f", func := "bartizan/bartizanlaw12.ReceiptBytes", spec := "receiptBytes", apart := false }
def ReceiptBytesSaid : Prop := receiptBytesRow.holds Try.pinned (OpenSpec.ofChange receiptBytesSpec)

/-- ITS FALSE NEIGHBOUR: 'it returns false'. Refute it at one input. -/
def receiptBytesWrong : ChangeSpec := { name := "receiptBytes", fn := fun _ => fun
  | [d1, d2] => { results := [.lit (.bool false)], args := [d1, d2] }
  | _ => none }
def ReceiptBytesWrongFalsely : Prop := receiptBytesRow.holds Try.pinned (OpenSpec.ofChange receiptBytesWrong)

/-- 'bartizanlaw29.NetPlays': WHATEVER THE INPUT: true; the input reads as it did. -/
def netPlaysSpec : ChangeSpec := { name := "netPlays", fn := fun _ => fun
  | [d1, d2] => { results := [.lit (.bool true)], args := [d1, d2] }
  | _ => none }
def netPlaysRow : OpenClaim := { program := "ytjgcjddaladgfaa", sum := "9fd399ac48018110d3573a2afcdb91463acc3c30afab3e3ada97aa274732da1f", func := "bartizan/bartizanlaw29.NetPlays", spec := "netPlays", apart := false }
def NetPlaysSaid : Prop := netPlaysRow.holds Try.pinned (OpenSpec.ofChange netPlaysSpec)

/-- ITS FALSE NEIGHBOUR: 'it returns false'. Refute it at one input. -/
def netPlaysWrong : ChangeSpec := { name := "netPlays", fn := fun _ => fun
  | [d1, d2] => { results := [.lit (.bool false)], args := [d1, d2] }
  | _ => none }
def NetPlaysWrongFalsely : Prop := netPlaysRow.holds Try.pinned (OpenSpec.ofChange netPlaysWrong)

/-- 'bartizanlaw29.NetNobody': WHATEVER THE INPUT: true; the input reads as it did. -/
def netNobodySpec : ChangeSpec := { name := "netNobody", fn := fun _ => fun
  | [d1, d2] => { results := [.lit (.bool true)], args := [d1, d2] }
  | _ => none }
def netNobodyRow : OpenClaim := { program := "ytjgcjddaladgfaa", sum := "9fd399ac48018110d3573a2afcdb91463acc3c30afab3e3ada97aa274732da1f", func := "bartizan/bartizanlaw29.NetNobody", spec := "netNobody", apart := false }
def NetNobodySaid : Prop := netNobodyRow.holds Try.pinned (OpenSpec.ofChange netNobodySpec)

/-- ITS FALSE NEIGHBOUR: 'it returns false'. Refute it at one input. -/
def netNobodyWrong : ChangeSpec := { name := "netNobody", fn := fun _ => fun
  | [d1, d2] => { results := [.lit (.bool false)], args := [d1, d2] }
  | _ => none }
def NetNobodyWrongFalsely : Prop := netNobodyRow.holds Try.pinned (OpenSpec.ofChange netNobodyWrong)

/-- 'bartizanlaw28.TalkPuts': WHATEVER THE INPUT: true; the input reads as it did. -/
def talkPutsSpec : ChangeSpec := { name := "talkPuts", fn := fun _ => fun
  | [d] => { results := [.lit (.bool true)], args := [d] }
  | _ => none }
def talkPutsRow : OpenClaim := { program := "ytjgcjddaladgfaa", sum := "9fd399ac48018110d3573a2afcdb91463acc3c30afab3e3ada97aa274732da1f", func := "bartizan/bartizanlaw28.TalkPuts", spec := "talkPuts", apart := false }
def TalkPutsSaid : Prop := talkPutsRow.holds Try.pinned (OpenSpec.ofChange talkPutsSpec)

/-- ITS FALSE NEIGHBOUR: 'it returns false'. Refute it at one input. -/
def talkPutsWrong : ChangeSpec := { name := "talkPuts", fn := fun _ => fun
  | [d] => { results := [.lit (.bool false)], args := [d] }
  | _ => none }
def TalkPutsWrongFalsely : Prop := talkPutsRow.holds Try.pinned (OpenSpec.ofChange talkPutsWrong)

/-- 'bartizanlaw28.TalkGets': WHATEVER THE INPUT: true; the input reads as it did. -/
def talkGetsSpec : ChangeSpec := { name := "talkGets", fn := fun _ => fun
  | [d] => { results := [.lit (.bool true)], args := [d] }
  | _ => none }
def talkGetsRow : OpenClaim := { program := "ytjgcjddaladgfaa", sum := "9fd399ac48018110d3573a2afcdb91463acc3c30afab3e3ada97aa274732da1f", func := "bartizan/bartizanlaw28.TalkGets", spec := "talkGets", apart := false }
def TalkGetsSaid : Prop := talkGetsRow.holds Try.pinned (OpenSpec.ofChange talkGetsSpec)

/-- ITS FALSE NEIGHBOUR: 'it returns false'. Refute it at one input. -/
def talkGetsWrong : ChangeSpec := { name := "talkGets", fn := fun _ => fun
  | [d] => { results := [.lit (.bool false)], args := [d] }
  | _ => none }
def TalkGetsWrongFalsely : Prop := talkGetsRow.holds Try.pinned (OpenSpec.ofChange talkGetsWrong)

/- THE SECOND FORM. 'bulk': how many values and letters a reading holds, each counted each time it is reached (what is shared counts as often as it is met; a slice's spare places count too). A statement '..UptoSaid' is the law's where the arguments, and the package variables that the reading takes, are together of bulk at most 1048576: NARROWER than '..Said'. Prove '..Said' where nothing that the law and all that it calls make is longer than what came in: it says more and counts as full. Else prove '..UptoSaid'. A law counts once. -/
mutual
def uptoBulk {H : Type} : DataW H → Nat
  | .lit (.string bytes) => bytes.length + 1
  | .lit _ => 1
  | .nil => 1
  | .ptr d => uptoBulk d + 1
  | .slice elems spare => uptoBulkAll elems + uptoBulkAll spare + 1
  | .agg parts => uptoBulkAll parts + 1
  | .iface _ d => uptoBulk d + 1
  | .map entries => uptoBulkEntries entries + 1
  | .held _ => 1
def uptoBulkAll {H : Type} : List (DataW H) → Nat
  | [] => 0
  | d :: r => uptoBulk d + uptoBulkAll r
def uptoBulkEntries {H : Type} : List (Lit × DataW H) → Nat
  | [] => 0
  | x :: r => uptoBulkEntry x + uptoBulkEntries r
def uptoBulkEntry {H : Type} : Lit × DataW H → Nat
  | (.string bytes, d) => bytes.length + uptoBulk d + 1
  | (_, d) => uptoBulk d + 1
 end
def uptoSmall : (H : Type) → List (DataW H) → Bool := fun _ ds => decide (uptoBulkAll ds ≤ 1048576)
def OpenSpec.upto (s : _root_.Go.ChangeSpec) : _root_.Go.OpenSpec := { _root_.Go.OpenSpec.ofChange s with cond := some uptoSmall }

/-- 'bartizanlaw01.WireNums', WHERE WHAT IT READS IS OF BULK AT MOST 1048576: true; the input reads as it did. -/
def wireNumsUptoRow : OpenClaim := { program := "ytjgcjddaladgfaa", sum := "9fd399ac48018110d3573a2afcdb91463acc3c30afab3e3ada97aa274732da1f", func := "bartizan/bartizanlaw01.WireNums", spec := "wireNums", apart := false, narrowed := true }
def WireNumsUptoSaid : Prop := wireNumsUptoRow.holds Try.pinned (OpenSpec.upto wireNumsSpec)

/-- 'bartizanlaw01.WireStays', WHERE WHAT IT READS IS OF BULK AT MOST 1048576: true; the input reads as it did. -/
def wireStaysUptoRow : OpenClaim := { program := "ytjgcjddaladgfaa", sum := "9fd399ac48018110d3573a2afcdb91463acc3c30afab3e3ada97aa274732da1f", func := "bartizan/bartizanlaw01.WireStays", spec := "wireStays", apart := false, narrowed := true }
def WireStaysUptoSaid : Prop := wireStaysUptoRow.holds Try.pinned (OpenSpec.upto wireStaysSpec)

/-- 'bartizanlaw01.WireNobody', WHERE WHAT IT READS IS OF BULK AT MOST 1048576: true; the input reads as it did. -/
def wireNobodyUptoRow : OpenClaim := { program := "ytjgcjddaladgfaa", sum := "9fd399ac48018110d3573a2afcdb91463acc3c30afab3e3ada97aa274732da1f", func := "bartizan/bartizanlaw01.WireNobody", spec := "wireNobody", apart := false, narrowed := true }
def WireNobodyUptoSaid : Prop := wireNobodyUptoRow.holds Try.pinned (OpenSpec.upto wireNobodySpec)

/-- 'bartizanlaw01.WirePuts', WHERE WHAT IT READS IS OF BULK AT MOST 1048576: true; the input reads as it did. -/
def wirePutsUptoRow : OpenClaim := { program := "ytjgcjddaladgfaa", sum := "9fd399ac48018110d3573a2afcdb91463acc3c30afab3e3ada97aa274732da1f", func := "bartizan/bartizanlaw01.WirePuts", spec := "wirePuts", apart := false, narrowed := true }
def WirePutsUptoSaid : Prop := wirePutsUptoRow.holds Try.pinned (OpenSpec.upto wirePutsSpec)

/-- 'bartizanlaw12.ReceiptTexts', WHERE WHAT IT READS IS OF BULK AT MOST 1048576: true; the input reads as it did. -/
def receiptTextsUptoRow : OpenClaim := { program := "ytjgcjddaladgfaa", sum := "9fd399ac48018110d3573a2afcdb91463acc3c30afab3e3ada97aa274732da1f", func := "bartizan/bartizanlaw12.ReceiptTexts", spec := "receiptTexts", apart := false, narrowed := true }
def ReceiptTextsUptoSaid : Prop := receiptTextsUptoRow.holds Try.pinned (OpenSpec.upto receiptTextsSpec)

/-- 'bartizanlaw12.ReceiptBytes', WHERE WHAT IT READS IS OF BULK AT MOST 1048576: true; the input reads as it did. -/
def receiptBytesUptoRow : OpenClaim := { program := "ytjgcjddaladgfaa", sum := "9fd399ac48018110d3573a2afcdb91463acc3c30afab3e3ada97aa274732da1f", func := "bartizan/bartizanlaw12.ReceiptBytes", spec := "receiptBytes", apart := false, narrowed := true }
def ReceiptBytesUptoSaid : Prop := receiptBytesUptoRow.holds Try.pinned (OpenSpec.upto receiptBytesSpec)

/-- 'bartizanlaw29.NetPlays', WHERE WHAT IT READS IS OF BULK AT MOST 1048576: true; the input reads as it did. -/
def netPlaysUptoRow : OpenClaim := { program := "ytjgcjddaladgfaa", sum := "9fd399ac48018110d3573a2afcdb91463acc3c30afab3e3ada97aa274732da1f", func := "bartizan/bartizanlaw29.NetPlays", spec := "netPlays", apart := false, narrowed := true }
def NetPlaysUptoSaid : Prop := netPlaysUptoRow.holds Try.pinned (OpenSpec.upto netPlaysSpec)

/-- 'bartizanlaw29.NetNobody', WHERE WHAT IT READS IS OF BULK AT MOST 1048576: true; the input reads as it did. -/
def netNobodyUptoRow : OpenClaim := { program := "ytjgcjddaladgfaa", sum := "9fd399ac48018110d3573a2afcdb91463acc3c30afab3e3ada97aa274732da1f", func := "bartizan/bartizanlaw29.NetNobody", spec := "netNobody", apart := false, narrowed := true }
def NetNobodyUptoSaid : Prop := netNobodyUptoRow.holds Try.pinned (OpenSpec.upto netNobodySpec)

/-- 'bartizanlaw28.TalkPuts', WHERE WHAT IT READS IS OF BULK AT MOST 1048576: true; the input reads as it did. -/
def talkPutsUptoRow : OpenClaim := { program := "ytjgcjddaladgfaa", sum := "9fd399ac48018110d3573a2afcdb91463acc3c30afab3e3ada97aa274732da1f", func := "bartizan/bartizanlaw28.TalkPuts", spec := "talkPuts", apart := false, narrowed := true }
def TalkPutsUptoSaid : Prop := talkPutsUptoRow.holds Try.pinned (OpenSpec.upto talkPutsSpec)

/-- 'bartizanlaw28.TalkGets', WHERE WHAT IT READS IS OF BULK AT MOST 1048576: true; the input reads as it did. -/
def talkGetsUptoRow : OpenClaim := { program := "ytjgcjddaladgfaa", sum := "9fd399ac48018110d3573a2afcdb91463acc3c30afab3e3ada97aa274732da1f", func := "bartizan/bartizanlaw28.TalkGets", spec := "talkGets", apart := false, narrowed := true }
def TalkGetsUptoSaid : Prop := talkGetsUptoRow.holds Try.pinned (OpenSpec.upto talkGetsSpec)

end Rows
end Go.Proofs.Ytjgcjddaladgfaa
