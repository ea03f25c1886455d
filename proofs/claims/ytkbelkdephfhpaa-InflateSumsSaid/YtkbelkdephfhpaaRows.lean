/-
  No cell of these rows narrows 'for every input' (looked for: loops, veiled, ifaces, maps, wideKeys, modest, calm, conditions, laid).
  DERIVED. THE GIVEN ROWS OF THIS SEAT. 6 by the template 'for every input the law returns true; each argument reads behind the call as it read before'; 0 by the template 'total and deterministic' (their statements: YtkbelkdephfhpaaTotals.lean).
  GIVEN WITH THE SEED: the statements are not yours to turn. If you find one false, say at which input.
  Laid BY PROGRAM, IN A SANDBOX (cutbox-rows.mjs): the forced cells as the released guide's own fill.sh prints them over the translation aa8205dfde82b0c9… (all of the seat's roots in one cut). By AI agents, Wed Nov 11 2026. No macro, syntax, notation, axiom, sorry.
-/
import Derived.Test.YtkbelkdephfhpaaChecked
import GoSem.Claim
import GoSem.ClaimJoined
import GoSem.ClaimMapViews
import Derived.JoinedTies
import Derived.KernelRfl
namespace Go.Proofs.Ytkbelkdephfhpaa
/- THE CELL 'sum', in the pinned program and in every row, IS THE sha256 OF THE DUMP (.gsa) THAT YtkbelkdephfhpaaProg.lean LOADS. Nothing in Lean hashes anything: it is a label: what it is worth is what the hold of that sum in a sandbox is worth. -/
noncomputable def Try.pinned : Pinned := { name := "ytkbelkdephfhpaa", sum := "aa8205dfde82b0c9cfa0077658f6aab51a7fb28ce10d68de6033a3e17fbdd4c1", checked := Try.checked }
namespace Rows
def none {H : Type} : Left H := { results := [], args := [] }

/-- 'imageeditorlaw46.InflateStreams': WHATEVER THE INPUT: true; the input reads as it did. -/
def inflateStreamsSpec : ChangeSpec := { name := "inflateStreams", fn := fun _ => fun
  | [d1, d2] => { results := [.lit (.bool true)], args := [d1, d2] }
  | _ => none }
def inflateStreamsRow : OpenClaim := { program := "ytkbelkdephfhpaa", sum := "aa8205dfde82b0c9cfa0077658f6aab51a7fb28ce10d68de6033a3e17fbdd4c1", func := "imageeditor/imageeditorlaw46.InflateStreams", spec := "inflateStreams", apart := false }
def InflateStreamsSaid : Prop := inflateStreamsRow.holds Try.pinned (OpenSpec.ofChange inflateStreamsSpec)

/-- ITS FALSE NEIGHBOUR: 'it returns false'. Refute it at one input. -/
def inflateStreamsWrong : ChangeSpec := { name := "inflateStreams", fn := fun _ => fun
  | [d1, d2] => { results := [.lit (.bool false)], args := [d1, d2] }
  | _ => none }
def InflateStreamsWrongFalsely : Prop := inflateStreamsRow.holds Try.pinned (OpenSpec.ofChange inflateStreamsWrong)

/-- 'imageeditorlaw46.InflateZlibs': WHATEVER THE INPUT: true; the input reads as it did. -/
def inflateZlibsSpec : ChangeSpec := { name := "inflateZlibs", fn := fun _ => fun
  | [d1, d2] => { results := [.lit (.bool true)], args := [d1, d2] }
  | _ => none }
def inflateZlibsRow : OpenClaim := { program := "ytkbelkdephfhpaa", sum := "aa8205dfde82b0c9cfa0077658f6aab51a7fb28ce10d68de6033a3e17fbdd4c1", func := "imageeditor/imageeditorlaw46.InflateZlibs", spec := "inflateZlibs", apart := false }
def InflateZlibsSaid : Prop := inflateZlibsRow.holds Try.pinned (OpenSpec.ofChange inflateZlibsSpec)

/-- ITS FALSE NEIGHBOUR: 'it returns false'. Refute it at one input. -/
def inflateZlibsWrong : ChangeSpec := { name := "inflateZlibs", fn := fun _ => fun
  | [d1, d2] => { results := [.lit (.bool false)], args := [d1, d2] }
  | _ => none }
def InflateZlibsWrongFalsely : Prop := inflateZlibsRow.holds Try.pinned (OpenSpec.ofChange inflateZlibsWrong)

/-- 'imageeditorlaw46.InflateCodes': WHATEVER THE INPUT: true; the input reads as it did. -/
def inflateCodesSpec : ChangeSpec := { name := "inflateCodes", fn := fun _ => fun
  | [d] => { results := [.lit (.bool true)], args := [d] }
  | _ => none }
def inflateCodesRow : OpenClaim := { program := "ytkbelkdephfhpaa", sum := "aa8205dfde82b0c9cfa0077658f6aab51a7fb28ce10d68de6033a3e17fbdd4c1", func := "imageeditor/imageeditorlaw46.InflateCodes", spec := "inflateCodes", apart := false }
def InflateCodesSaid : Prop := inflateCodesRow.holds Try.pinned (OpenSpec.ofChange inflateCodesSpec)

/-- ITS FALSE NEIGHBOUR: 'it returns false'. Refute it at one input. -/
def inflateCodesWrong : ChangeSpec := { name := "inflateCodes", fn := fun _ => fun
  | [d] => { results := [.lit (.bool false)], args := [d] }
  | _ => none }
def InflateCodesWrongFalsely : Prop := inflateCodesRow.holds Try.pinned (OpenSpec.ofChange inflateCodesWrong)

/-- 'imageeditorlaw46.InflateStored': WHATEVER THE INPUT: true; the input reads as it did. -/
def inflateStoredSpec : ChangeSpec := { name := "inflateStored", fn := fun _ => fun
  | [d1, d2, d3] => { results := [.lit (.bool true)], args := [d1, d2, d3] }
  | _ => none }
def inflateStoredRow : OpenClaim := { program := "ytkbelkdephfhpaa", sum := "aa8205dfde82b0c9cfa0077658f6aab51a7fb28ce10d68de6033a3e17fbdd4c1", func := "imageeditor/imageeditorlaw46.InflateStored", spec := "inflateStored", apart := false }
def InflateStoredSaid : Prop := inflateStoredRow.holds Try.pinned (OpenSpec.ofChange inflateStoredSpec)

/-- ITS FALSE NEIGHBOUR: 'it returns false'. Refute it at one input. -/
def inflateStoredWrong : ChangeSpec := { name := "inflateStored", fn := fun _ => fun
  | [d1, d2, d3] => { results := [.lit (.bool false)], args := [d1, d2, d3] }
  | _ => none }
def InflateStoredWrongFalsely : Prop := inflateStoredRow.holds Try.pinned (OpenSpec.ofChange inflateStoredWrong)

/-- 'imageeditorlaw46.InflateCuts': WHATEVER THE INPUT: true; the input reads as it did. -/
def inflateCutsSpec : ChangeSpec := { name := "inflateCuts", fn := fun _ => fun
  | [d1, d2, d3, d4] => { results := [.lit (.bool true)], args := [d1, d2, d3, d4] }
  | _ => none }
def inflateCutsRow : OpenClaim := { program := "ytkbelkdephfhpaa", sum := "aa8205dfde82b0c9cfa0077658f6aab51a7fb28ce10d68de6033a3e17fbdd4c1", func := "imageeditor/imageeditorlaw46.InflateCuts", spec := "inflateCuts", apart := false }
def InflateCutsSaid : Prop := inflateCutsRow.holds Try.pinned (OpenSpec.ofChange inflateCutsSpec)

/-- ITS FALSE NEIGHBOUR: 'it returns false'. Refute it at one input. -/
def inflateCutsWrong : ChangeSpec := { name := "inflateCuts", fn := fun _ => fun
  | [d1, d2, d3, d4] => { results := [.lit (.bool false)], args := [d1, d2, d3, d4] }
  | _ => none }
def InflateCutsWrongFalsely : Prop := inflateCutsRow.holds Try.pinned (OpenSpec.ofChange inflateCutsWrong)

/-- 'imageeditorlaw46.InflateSums': WHATEVER THE INPUT: true; the input reads as it did. -/
def inflateSumsSpec : ChangeSpec := { name := "inflateSums", fn := fun _ => fun
  | [d1, d2, d3] => { results := [.lit (.bool true)], args := [d1, d2, d3] }
  | _ => none }
def inflateSumsRow : OpenClaim := { program := "ytkbelkdephfhpaa", sum := "aa8205dfde82b0c9cfa0077658f6aab51a7fb28ce10d68de6033a3e17fbdd4c1", func := "imageeditor/imageeditorlaw46.InflateSums", spec := "inflateSums", apart := false }
def InflateSumsSaid : Prop := inflateSumsRow.holds Try.pinned (OpenSpec.ofChange inflateSumsSpec)

/-- ITS FALSE NEIGHBOUR: 'it returns false'. Refute it at one input. -/
def inflateSumsWrong : ChangeSpec := { name := "inflateSums", fn := fun _ => fun
  | [d1, d2, d3] => { results := [.lit (.bool false)], args := [d1, d2, d3] }
  | _ => none }
def InflateSumsWrongFalsely : Prop := inflateSumsRow.holds Try.pinned (OpenSpec.ofChange inflateSumsWrong)

/- THE SECOND FORM. 'bulk': how many values and letters a reading holds, each counted each time it is reached (what is shared counts as often as it is met; a slice's spare places count too). A statement '..UptoSaid' is the law's where the arguments, and the package variables that the reading takes, are together of bulk at most 1048576: NARROWER than '..Said'. Prove '..Said' where nothing that the law and all that it calls make is longer than what came in: it says more and counts as full. Else prove '..UptoSaid'. A law counts once. -/
mutual
def uptoBulk {H : Type} : DataW H → Nat
  | .lit (.string bytes) => bytes.length + 1
  | .lit _ => 1
  | .nil => 1
  | .ptr d => uptoBulk d + 1
  | .slice elems spare => uptoBulkAll elems + uptoBulkAll spare + 1
  | .agg parts => uptoBulkAll parts + 1
  | .iface _ d => uptoBulk d + 1
  | .map entries => uptoBulkEntries entries + 1
  | .held _ => 1
def uptoBulkAll {H : Type} : List (DataW H) → Nat
  | [] => 0
  | d :: r => uptoBulk d + uptoBulkAll r
def uptoBulkEntries {H : Type} : List (Lit × DataW H) → Nat
  | [] => 0
  | x :: r => uptoBulkEntry x + uptoBulkEntries r
def uptoBulkEntry {H : Type} : Lit × DataW H → Nat
  | (.string bytes, d) => bytes.length + uptoBulk d + 1
  | (_, d) => uptoBulk d + 1
 end
def uptoSmall : (H : Type) → List (DataW H) → Bool := fun _ ds => decide (uptoBulkAll ds ≤ 1048576)
def OpenSpec.upto (s : _root_.Go.ChangeSpec) : _root_.Go.OpenSpec := { _root_.Go.OpenSpec.ofChange s with cond := some uptoSmall }

/-- 'imageeditorlaw46.InflateStreams', WHERE WHAT IT READS IS OF BULK AT MOST 1048576: true; the input reads as it did. -/
def inflateStreamsUptoRow : OpenClaim := { program := "ytkbelkdephfhpaa", sum := "aa8205dfde82b0c9cfa0077658f6aab51a7fb28ce10d68de6033a3e17fbdd4c1", func := "imageeditor/imageeditorlaw46.InflateStreams", spec := "inflateStreams", apart := false, narrowed := true }
def InflateStreamsUptoSaid : Prop := inflateStreamsUptoRow.holds Try.pinned (OpenSpec.upto inflateStreamsSpec)

/-- 'imageeditorlaw46.InflateZlibs', WHERE WHAT IT READS IS OF BULK AT MOST 1048576: true; the input reads as it did. -/
def inflateZlibsUptoRow : OpenClaim := { program := "ytkbelkdephfhpaa", sum := "aa8205dfde82b0c9cfa0077658f6aab51a7fb28ce10d68de6033a3e17fbdd4c1", func := "imageeditor/imageeditorlaw46.InflateZlibs", spec := "inflateZlibs", apart := false, narrowed := true }
def InflateZlibsUptoSaid : Prop := inflateZlibsUptoRow.holds Try.pinned (OpenSpec.upto inflateZlibsSpec)

/-- 'imageeditorlaw46.InflateCodes', WHERE WHAT IT READS IS OF BULK AT MOST 1048576: true; the input reads as it did. -/
def inflateCodesUptoRow : OpenClaim := { program := "ytkbelkdephfhpaa", sum := "aa8205dfde82b0c9cfa0077658f6aab51a7fb28ce10d68de6033a3e17fbdd4c1", func := "imageeditor/imageeditorlaw46.InflateCodes", spec := "inflateCodes", apart := false, narrowed := true }
def InflateCodesUptoSaid : Prop := inflateCodesUptoRow.holds Try.pinned (OpenSpec.upto inflateCodesSpec)

/-- 'imageeditorlaw46.InflateStored', WHERE WHAT IT READS IS OF BULK AT MOST 1048576: true; the input reads as it did. -/
def inflateStoredUptoRow : OpenClaim := { program := "ytkbelkdephfhpaa", sum := "aa8205dfde82b0c9cfa0077658f6aab51a7fb28ce10d68de6033a3e17fbdd4c1", func := "imageeditor/imageeditorlaw46.InflateStored", spec := "inflateStored", apart := false, narrowed := true }
def InflateStoredUptoSaid : Prop := inflateStoredUptoRow.holds Try.pinned (OpenSpec.upto inflateStoredSpec)

/-- 'imageeditorlaw46.InflateCuts', WHERE WHAT IT READS IS OF BULK AT MOST 1048576: true; the input reads as it did. -/
def inflateCutsUptoRow : OpenClaim := { program := "ytkbelkdephfhpaa", sum := "aa8205dfde82b0c9cfa0077658f6aab51a7fb28ce10d68de6033a3e17fbdd4c1", func := "imageeditor/imageeditorlaw46.InflateCuts", spec := "inflateCuts", apart := false, narrowed := true }
def InflateCutsUptoSaid : Prop := inflateCutsUptoRow.holds Try.pinned (OpenSpec.upto inflateCutsSpec)

/-- 'imageeditorlaw46.InflateSums', WHERE WHAT IT READS IS OF BULK AT MOST 1048576: true; the input reads as it did. -/
def inflateSumsUptoRow : OpenClaim := { program := "ytkbelkdephfhpaa", sum := "aa8205dfde82b0c9cfa0077658f6aab51a7fb28ce10d68de6033a3e17fbdd4c1", func := "imageeditor/imageeditorlaw46.InflateSums", spec := "inflateSums", apart := false, narrowed := true }
def InflateSumsUptoSaid : Prop := inflateSumsUptoRow.holds Try.pinned (OpenSpec.upto inflateSumsSpec)

end Rows
end Go.Proofs.Ytkbelkdephfhpaa
