/-
  No cell of these rows narrows 'for every input' (looked for: loops, veiled, ifaces, maps, wideKeys, modest, calm, conditions, laid).
  DERIVED. THE GIVEN ROWS OF THIS SEAT. 5 by the template 'for every input the law returns true; each argument reads behind the call as it read before'; 0 by the template 'total and deterministic' (their statements: YtggogfjfkimcgaaTotals.lean).
  GIVEN WITH THE SEED: the statements are not yours to turn. If you find one false, say at which input.
  Laid BY PROGRAM, IN A SANDBOX (cutbox-rows.mjs): the forced cells as the released guide's own fill.sh prints them over the translation 5355d9c5a95c8938… (all of the seat's roots in one cut). By AI agents, Wed Nov 11 2026. No macro, syntax, notation, axiom, sorry.
-/
import Derived.Test.YtggogfjfkimcgaaChecked
import GoSem.Claim
import GoSem.ClaimJoined
import GoSem.ClaimMapViews
import Derived.JoinedTies
import Derived.KernelRfl
namespace Go.Proofs.Ytggogfjfkimcgaa
/- THE CELL 'sum', in the pinned program and in every row, IS THE sha256 OF THE DUMP (.gsa) THAT YtggogfjfkimcgaaProg.lean LOADS. Nothing in Lean hashes anything: it is a label: what it is worth is what the hold of that sum in a sandbox is worth. -/
noncomputable def Try.pinned : Pinned := { name := "ytggogfjfkimcgaa", sum := "5355d9c5a95c8938600b762285fc083699aecf0aad458a81618aaceb152475e9", checked := Try.checked }
namespace Rows
def none {H : Type} : Left H := { results := [], args := [] }

/-- 'imageeditorlaw30.MetaChecks': WHATEVER THE INPUT: true; the input reads as it did. -/
def metaChecksSpec : ChangeSpec := { name := "metaChecks", fn := fun _ => fun
  | [d1, d2] => { results := [.lit (.bool true)], args := [d1, d2] }
  | _ => none }
def metaChecksRow : OpenClaim := { program := "ytggogfjfkimcgaa", sum := "5355d9c5a95c8938600b762285fc083699aecf0aad458a81618aaceb152475e9", func := "imageeditor/imageeditorlaw30.MetaChecks", spec := "metaChecks", inPlace := ["internal/abi.NoEscape", "internal/bytealg.IndexByteString", "internal/bytealg.IndexString"], named := ["internal/bytealg.MaxLen"], apart := false }
def MetaChecksSaid : Prop := metaChecksRow.holds Try.pinned (OpenSpec.ofChange metaChecksSpec)

/-- ITS FALSE NEIGHBOUR: 'it returns false'. Refute it at one input. -/
def metaChecksWrong : ChangeSpec := { name := "metaChecks", fn := fun _ => fun
  | [d1, d2] => { results := [.lit (.bool false)], args := [d1, d2] }
  | _ => none }
def MetaChecksWrongFalsely : Prop := metaChecksRow.holds Try.pinned (OpenSpec.ofChange metaChecksWrong)

/-- 'imageeditorlaw30.MetaSets': WHATEVER THE INPUT: true; the input reads as it did. -/
def metaSetsSpec : ChangeSpec := { name := "metaSets", fn := fun _ => fun
  | [d1, d2, d3] => { results := [.lit (.bool true)], args := [d1, d2, d3] }
  | _ => none }
def metaSetsRow : OpenClaim := { program := "ytggogfjfkimcgaa", sum := "5355d9c5a95c8938600b762285fc083699aecf0aad458a81618aaceb152475e9", func := "imageeditor/imageeditorlaw30.MetaSets", spec := "metaSets", inPlace := ["internal/abi.NoEscape", "internal/bytealg.IndexByteString", "internal/bytealg.IndexString"], named := ["internal/bytealg.MaxLen"], apart := false }
def MetaSetsSaid : Prop := metaSetsRow.holds Try.pinned (OpenSpec.ofChange metaSetsSpec)

/-- ITS FALSE NEIGHBOUR: 'it returns false'. Refute it at one input. -/
def metaSetsWrong : ChangeSpec := { name := "metaSets", fn := fun _ => fun
  | [d1, d2, d3] => { results := [.lit (.bool false)], args := [d1, d2, d3] }
  | _ => none }
def MetaSetsWrongFalsely : Prop := metaSetsRow.holds Try.pinned (OpenSpec.ofChange metaSetsWrong)

/-- 'imageeditorlaw30.MetaTexts': WHATEVER THE INPUT: true; the input reads as it did. -/
def metaTextsSpec : ChangeSpec := { name := "metaTexts", fn := fun _ => fun
  | [d1, d2] => { results := [.lit (.bool true)], args := [d1, d2] }
  | _ => none }
def metaTextsRow : OpenClaim := { program := "ytggogfjfkimcgaa", sum := "5355d9c5a95c8938600b762285fc083699aecf0aad458a81618aaceb152475e9", func := "imageeditor/imageeditorlaw30.MetaTexts", spec := "metaTexts", inPlace := ["internal/abi.NoEscape", "internal/bytealg.IndexByteString", "internal/bytealg.IndexString"], named := ["internal/bytealg.MaxLen"], apart := false }
def MetaTextsSaid : Prop := metaTextsRow.holds Try.pinned (OpenSpec.ofChange metaTextsSpec)

/-- ITS FALSE NEIGHBOUR: 'it returns false'. Refute it at one input. -/
def metaTextsWrong : ChangeSpec := { name := "metaTexts", fn := fun _ => fun
  | [d1, d2] => { results := [.lit (.bool false)], args := [d1, d2] }
  | _ => none }
def MetaTextsWrongFalsely : Prop := metaTextsRow.holds Try.pinned (OpenSpec.ofChange metaTextsWrong)

/-- 'imageeditorlaw30.MetaKeeps': WHATEVER THE INPUT: true; the input reads as it did. -/
def metaKeepsSpec : ChangeSpec := { name := "metaKeeps", fn := fun _ => fun
  | [d1, d2, d3, d4] => { results := [.lit (.bool true)], args := [d1, d2, d3, d4] }
  | _ => none }
def metaKeepsRow : OpenClaim := { program := "ytggogfjfkimcgaa", sum := "5355d9c5a95c8938600b762285fc083699aecf0aad458a81618aaceb152475e9", func := "imageeditor/imageeditorlaw30.MetaKeeps", spec := "metaKeeps", inPlace := ["internal/abi.NoEscape", "internal/bytealg.IndexByteString", "internal/bytealg.IndexString"], named := ["internal/bytealg.MaxLen"], apart := false }
def MetaKeepsSaid : Prop := metaKeepsRow.holds Try.pinned (OpenSpec.ofChange metaKeepsSpec)

/-- ITS FALSE NEIGHBOUR: 'it returns false'. Refute it at one input. -/
def metaKeepsWrong : ChangeSpec := { name := "metaKeeps", fn := fun _ => fun
  | [d1, d2, d3, d4] => { results := [.lit (.bool false)], args := [d1, d2, d3, d4] }
  | _ => none }
def MetaKeepsWrongFalsely : Prop := metaKeepsRow.holds Try.pinned (OpenSpec.ofChange metaKeepsWrong)

/-- 'imageeditorlaw30.MetaReturns': WHATEVER THE INPUT: true; the input reads as it did. -/
def metaReturnsSpec : ChangeSpec := { name := "metaReturns", fn := fun _ => fun
  | [d1, d2] => { results := [.lit (.bool true)], args := [d1, d2] }
  | _ => none }
def metaReturnsRow : OpenClaim := { program := "ytggogfjfkimcgaa", sum := "5355d9c5a95c8938600b762285fc083699aecf0aad458a81618aaceb152475e9", func := "imageeditor/imageeditorlaw30.MetaReturns", spec := "metaReturns", inPlace := ["internal/abi.NoEscape", "internal/bytealg.IndexByteString", "internal/bytealg.IndexString"], named := ["internal/bytealg.MaxLen"], apart := false }
def MetaReturnsSaid : Prop := metaReturnsRow.holds Try.pinned (OpenSpec.ofChange metaReturnsSpec)

/-- ITS FALSE NEIGHBOUR: 'it returns false'. Refute it at one input. -/
def metaReturnsWrong : ChangeSpec := { name := "metaReturns", fn := fun _ => fun
  | [d1, d2] => { results := [.lit (.bool false)], args := [d1, d2] }
  | _ => none }
def MetaReturnsWrongFalsely : Prop := metaReturnsRow.holds Try.pinned (OpenSpec.ofChange metaReturnsWrong)

/- THE SECOND FORM. 'bulk': how many values and letters a reading holds, each counted each time it is reached (what is shared counts as often as it is met; a slice's spare places count too). A statement '..UptoSaid' is the law's where the arguments, and the package variables that the reading takes, are together of bulk at most 1048576: NARROWER than '..Said'. Prove '..Said' where nothing that the law and all that it calls make is longer than what came in: it says more and counts as full. Else prove '..UptoSaid'. A law counts once. -/
mutual
def uptoBulk {H : Type} : DataW H → Nat
  | .lit (.string bytes) => bytes.length + 1
  | .lit _ => 1
  | .nil => 1
  | .ptr d => uptoBulk d + 1
  | .slice elems spare => uptoBulkAll elems + uptoBulkAll spare + 1
  | .agg parts => uptoBulkAll parts + 1
  | .iface _ d => uptoBulk d + 1
  | .map entries => uptoBulkEntries entries + 1
  | .held _ => 1
def uptoBulkAll {H : Type} : List (DataW H) → Nat
  | [] => 0
  | d :: r => uptoBulk d + uptoBulkAll r
def uptoBulkEntries {H : Type} : List (Lit × DataW H) → Nat
  | [] => 0
  | x :: r => uptoBulkEntry x + uptoBulkEntries r
def uptoBulkEntry {H : Type} : Lit × DataW H → Nat
  | (.string bytes, d) => bytes.length + uptoBulk d + 1
  | (_, d) => uptoBulk d + 1
 end
def uptoSmall : (H : Type) → List (DataW H) → Bool := fun _ ds => decide (uptoBulkAll ds ≤ 1048576)
def OpenSpec.upto (s : _root_.Go.ChangeSpec) : _root_.Go.OpenSpec := { _root_.Go.OpenSpec.ofChange s with cond := some uptoSmall }

/-- 'imageeditorlaw30.MetaChecks', WHERE WHAT IT READS IS OF BULK AT MOST 1048576: true; the input reads as it did. -/
def metaChecksUptoRow : OpenClaim := { program := "ytggogfjfkimcgaa", sum := "5355d9c5a95c8938600b762285fc083699aecf0aad458a81618aaceb152475e9", func := "imageeditor/imageeditorlaw30.MetaChecks", spec := "metaChecks", inPlace := ["internal/abi.NoEscape", "internal/bytealg.IndexByteString", "internal/bytealg.IndexString"], named := ["internal/bytealg.MaxLen"], apart := false, narrowed := true }
def MetaChecksUptoSaid : Prop := metaChecksUptoRow.holds Try.pinned (OpenSpec.upto metaChecksSpec)

/-- 'imageeditorlaw30.MetaSets', WHERE WHAT IT READS IS OF BULK AT MOST 1048576: true; the input reads as it did. -/
def metaSetsUptoRow : OpenClaim := { program := "ytggogfjfkimcgaa", sum := "5355d9c5a95c8938600b762285fc083699aecf0aad458a81618aaceb152475e9", func := "imageeditor/imageeditorlaw30.MetaSets", spec := "metaSets", inPlace := ["internal/abi.NoEscape", "internal/bytealg.IndexByteString", "internal/bytealg.IndexString"], named := ["internal/bytealg.MaxLen"], apart := false, narrowed := true }
def MetaSetsUptoSaid : Prop := metaSetsUptoRow.holds Try.pinned (OpenSpec.upto metaSetsSpec)

/-- 'imageeditorlaw30.MetaTexts', WHERE WHAT IT READS IS OF BULK AT MOST 1048576: true; the input reads as it did. -/
def metaTextsUptoRow : OpenClaim := { program := "ytggogfjfkimcgaa", sum := "5355d9c5a95c8938600b762285fc083699aecf0aad458a81618aaceb152475e9", func := "imageeditor/imageeditorlaw30.MetaTexts", spec := "metaTexts", inPlace := ["internal/abi.NoEscape", "internal/bytealg.IndexByteString", "internal/bytealg.IndexString"], named := ["internal/bytealg.MaxLen"], apart := false, narrowed := true }
def MetaTextsUptoSaid : Prop := metaTextsUptoRow.holds Try.pinned (OpenSpec.upto metaTextsSpec)

/-- 'imageeditorlaw30.MetaKeeps', WHERE WHAT IT READS IS OF BULK AT MOST 1048576: true; the input reads as it did. -/
def metaKeepsUptoRow : OpenClaim := { program := "ytggogfjfkimcgaa", sum := "5355d9c5a95c8938600b762285fc083699aecf0aad458a81618aaceb152475e9", func := "imageeditor/imageeditorlaw30.MetaKeeps", spec := "metaKeeps", inPlace := ["internal/abi.NoEscape", "internal/bytealg.IndexByteString", "internal/bytealg.IndexString"], named := ["internal/bytealg.MaxLen"], apart := false, narrowed := true }
def MetaKeepsUptoSaid : Prop := metaKeepsUptoRow.holds Try.pinned (OpenSpec.upto metaKeepsSpec)

/-- 'imageeditorlaw30.MetaReturns', WHERE WHAT IT READS IS OF BULK AT MOST 1048576: true; the input reads as it did. -/
def metaReturnsUptoRow : OpenClaim := { program := "ytggogfjfkimcgaa", sum := "5355d9c5a95c8938600b762285fc083699aecf0aad458a81618aaceb152475e9", func := "imageeditor/imageeditorlaw30.MetaReturns", spec := "metaReturns", inPlace := ["internal/abi.NoEscape", "internal/bytealg.IndexByteString", "internal/bytealg.IndexString"], named := ["internal/bytealg.MaxLen"], apart := false, narrowed := true }
def MetaReturnsUptoSaid : Prop := metaReturnsUptoRow.holds Try.pinned (OpenSpec.upto metaReturnsSpec)

end Rows
end Go.Proofs.Ytggogfjfkimcgaa
