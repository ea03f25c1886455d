/-
  No cell of these rows narrows 'for every input' (looked for: loops, veiled, ifaces, maps, wideKeys, modest, calm, conditions, laid).
  DERIVED. THE GIVEN ROWS OF THIS SEAT. 7 by the template 'for every input the law returns true; each argument reads behind the call as it read before'; 0 by the template 'total and deterministic' (their statements: YtakileiomgaahaaTotals.lean).
  GIVEN WITH THE SEED: the statements are not yours to turn. If you find one false, say at which input.
  Laid BY PROGRAM, IN A SANDBOX (cutbox-rows.mjs): the forced cells as the released guide's own fill.sh prints them over the translation 29681bc925becd1c… (all of the seat's roots in one cut). By AI agents, Wed Nov 11 2026. No macro, syntax, notation, axiom, sorry.
-/
import Derived.Test.YtakileiomgaahaaChecked
import GoSem.Claim
import GoSem.ClaimJoined
import GoSem.ClaimMapViews
import Derived.JoinedTies
import Derived.KernelRfl
namespace Go.Proofs.Ytakileiomgaahaa
/- THE CELL 'sum', in the pinned program and in every row, IS THE sha256 OF THE DUMP (.gsa) THAT YtakileiomgaahaaProg.lean LOADS. Nothing in Lean hashes anything: it is a label: what it is worth is what the hold of that sum in a sandbox is worth. -/
noncomputable def Try.pinned : Pinned := { name := "ytakileiomgaahaa", sum := "29681bc925becd1c8553badea3aab4c73d27e7b31ac296b86652104390387307", checked := Try.checked }
namespace Rows
def none {H : Type} : Left H := { results := [], args := [] }

/-- 'imageeditorlaw49.TiffPacks': WHATEVER THE INPUT: true; the input reads as it did. -/
def tiffPacksSpec : ChangeSpec := { name := "tiffPacks", fn := fun _ => fun
  | [d1, d2] => { results := [.lit (.bool true)], args := [d1, d2] }
  | _ => none }
def tiffPacksRow : OpenClaim := { program := "ytakileiomgaahaa", sum := "29681bc925becd1c8553badea3aab4c73d27e7b31ac296b86652104390387307", func := "imageeditor/imageeditorlaw49.TiffPacks", spec := "tiffPacks", inPlace := ["internal/abi.NoEscape", "internal/bytealg.MakeNoZero", "internal/bytealg.IndexByteString", "internal/bytealg.IndexString"], named := ["internal/bytealg.MaxLen"], apart := false }
def TiffPacksSaid : Prop := tiffPacksRow.holds Try.pinned (OpenSpec.ofChange tiffPacksSpec)

/-- ITS FALSE NEIGHBOUR: 'it returns false'. Refute it at one input. -/
def tiffPacksWrong : ChangeSpec := { name := "tiffPacks", fn := fun _ => fun
  | [d1, d2] => { results := [.lit (.bool false)], args := [d1, d2] }
  | _ => none }
def TiffPacksWrongFalsely : Prop := tiffPacksRow.holds Try.pinned (OpenSpec.ofChange tiffPacksWrong)

/-- 'imageeditorlaw49.TiffUnpacks': WHATEVER THE INPUT: true; the input reads as it did. -/
def tiffUnpacksSpec : ChangeSpec := { name := "tiffUnpacks", fn := fun _ => fun
  | [d] => { results := [.lit (.bool true)], args := [d] }
  | _ => none }
def tiffUnpacksRow : OpenClaim := { program := "ytakileiomgaahaa", sum := "29681bc925becd1c8553badea3aab4c73d27e7b31ac296b86652104390387307", func := "imageeditor/imageeditorlaw49.TiffUnpacks", spec := "tiffUnpacks", inPlace := ["internal/abi.NoEscape", "internal/bytealg.MakeNoZero", "internal/bytealg.IndexByteString", "internal/bytealg.IndexString"], named := ["internal/bytealg.MaxLen"], apart := false }
def TiffUnpacksSaid : Prop := tiffUnpacksRow.holds Try.pinned (OpenSpec.ofChange tiffUnpacksSpec)

/-- ITS FALSE NEIGHBOUR: 'it returns false'. Refute it at one input. -/
def tiffUnpacksWrong : ChangeSpec := { name := "tiffUnpacks", fn := fun _ => fun
  | [d] => { results := [.lit (.bool false)], args := [d] }
  | _ => none }
def TiffUnpacksWrongFalsely : Prop := tiffUnpacksRow.holds Try.pinned (OpenSpec.ofChange tiffUnpacksWrong)

/-- 'imageeditorlaw49.TiffTags': WHATEVER THE INPUT: true; the input reads as it did. -/
def tiffTagsSpec : ChangeSpec := { name := "tiffTags", fn := fun _ => fun
  | [d] => { results := [.lit (.bool true)], args := [d] }
  | _ => none }
def tiffTagsRow : OpenClaim := { program := "ytakileiomgaahaa", sum := "29681bc925becd1c8553badea3aab4c73d27e7b31ac296b86652104390387307", func := "imageeditor/imageeditorlaw49.TiffTags", spec := "tiffTags", inPlace := ["internal/abi.NoEscape", "internal/bytealg.MakeNoZero", "internal/bytealg.IndexByteString", "internal/bytealg.IndexString"], named := ["internal/bytealg.MaxLen"], apart := false }
def TiffTagsSaid : Prop := tiffTagsRow.holds Try.pinned (OpenSpec.ofChange tiffTagsSpec)

/-- ITS FALSE NEIGHBOUR: 'it returns false'. Refute it at one input. -/
def tiffTagsWrong : ChangeSpec := { name := "tiffTags", fn := fun _ => fun
  | [d] => { results := [.lit (.bool false)], args := [d] }
  | _ => none }
def TiffTagsWrongFalsely : Prop := tiffTagsRow.holds Try.pinned (OpenSpec.ofChange tiffTagsWrong)

/-- 'imageeditorlaw49.TiffValid': WHATEVER THE INPUT: true; the input reads as it did. -/
def tiffValidSpec : ChangeSpec := { name := "tiffValid", fn := fun _ => fun
  | [d] => { results := [.lit (.bool true)], args := [d] }
  | _ => none }
def tiffValidRow : OpenClaim := { program := "ytakileiomgaahaa", sum := "29681bc925becd1c8553badea3aab4c73d27e7b31ac296b86652104390387307", func := "imageeditor/imageeditorlaw49.TiffValid", spec := "tiffValid", inPlace := ["internal/abi.NoEscape", "internal/bytealg.MakeNoZero", "internal/bytealg.IndexByteString", "internal/bytealg.IndexString"], named := ["internal/bytealg.MaxLen"], apart := false }
def TiffValidSaid : Prop := tiffValidRow.holds Try.pinned (OpenSpec.ofChange tiffValidSpec)

/-- ITS FALSE NEIGHBOUR: 'it returns false'. Refute it at one input. -/
def tiffValidWrong : ChangeSpec := { name := "tiffValid", fn := fun _ => fun
  | [d] => { results := [.lit (.bool false)], args := [d] }
  | _ => none }
def TiffValidWrongFalsely : Prop := tiffValidRow.holds Try.pinned (OpenSpec.ofChange tiffValidWrong)

/-- 'imageeditorlaw49.TiffEncodes': WHATEVER THE INPUT: true; the input reads as it did. -/
def tiffEncodesSpec : ChangeSpec := { name := "tiffEncodes", fn := fun _ => fun
  | [d1, d2, d3, d4] => { results := [.lit (.bool true)], args := [d1, d2, d3, d4] }
  | _ => none }
def tiffEncodesRow : OpenClaim := { program := "ytakileiomgaahaa", sum := "29681bc925becd1c8553badea3aab4c73d27e7b31ac296b86652104390387307", func := "imageeditor/imageeditorlaw49.TiffEncodes", spec := "tiffEncodes", inPlace := ["internal/abi.NoEscape", "internal/bytealg.MakeNoZero", "internal/bytealg.IndexByteString", "internal/bytealg.IndexString"], named := ["internal/bytealg.MaxLen"], apart := false }
def TiffEncodesSaid : Prop := tiffEncodesRow.holds Try.pinned (OpenSpec.ofChange tiffEncodesSpec)

/-- ITS FALSE NEIGHBOUR: 'it returns false'. Refute it at one input. -/
def tiffEncodesWrong : ChangeSpec := { name := "tiffEncodes", fn := fun _ => fun
  | [d1, d2, d3, d4] => { results := [.lit (.bool false)], args := [d1, d2, d3, d4] }
  | _ => none }
def TiffEncodesWrongFalsely : Prop := tiffEncodesRow.holds Try.pinned (OpenSpec.ofChange tiffEncodesWrong)

/-- 'imageeditorlaw49.TiffReturns': WHATEVER THE INPUT: true; the input reads as it did. -/
def tiffReturnsSpec : ChangeSpec := { name := "tiffReturns", fn := fun _ => fun
  | [d1, d2, d3] => { results := [.lit (.bool true)], args := [d1, d2, d3] }
  | _ => none }
def tiffReturnsRow : OpenClaim := { program := "ytakileiomgaahaa", sum := "29681bc925becd1c8553badea3aab4c73d27e7b31ac296b86652104390387307", func := "imageeditor/imageeditorlaw49.TiffReturns", spec := "tiffReturns", inPlace := ["internal/abi.NoEscape", "internal/bytealg.MakeNoZero", "internal/bytealg.IndexByteString", "internal/bytealg.IndexString"], named := ["internal/bytealg.MaxLen"], apart := false }
def TiffReturnsSaid : Prop := tiffReturnsRow.holds Try.pinned (OpenSpec.ofChange tiffReturnsSpec)

/-- ITS FALSE NEIGHBOUR: 'it returns false'. Refute it at one input. -/
def tiffReturnsWrong : ChangeSpec := { name := "tiffReturns", fn := fun _ => fun
  | [d1, d2, d3] => { results := [.lit (.bool false)], args := [d1, d2, d3] }
  | _ => none }
def TiffReturnsWrongFalsely : Prop := tiffReturnsRow.holds Try.pinned (OpenSpec.ofChange tiffReturnsWrong)

/-- 'imageeditorlaw49.TiffOrders': WHATEVER THE INPUT: true; the input reads as it did. -/
def tiffOrdersSpec : ChangeSpec := { name := "tiffOrders", fn := fun _ => fun
  | [d] => { results := [.lit (.bool true)], args := [d] }
  | _ => none }
def tiffOrdersRow : OpenClaim := { program := "ytakileiomgaahaa", sum := "29681bc925becd1c8553badea3aab4c73d27e7b31ac296b86652104390387307", func := "imageeditor/imageeditorlaw49.TiffOrders", spec := "tiffOrders", inPlace := ["internal/abi.NoEscape", "internal/bytealg.MakeNoZero", "internal/bytealg.IndexByteString", "internal/bytealg.IndexString"], named := ["internal/bytealg.MaxLen"], apart := false }
def TiffOrdersSaid : Prop := tiffOrdersRow.holds Try.pinned (OpenSpec.ofChange tiffOrdersSpec)

/-- ITS FALSE NEIGHBOUR: 'it returns false'. Refute it at one input. -/
def tiffOrdersWrong : ChangeSpec := { name := "tiffOrders", fn := fun _ => fun
  | [d] => { results := [.lit (.bool false)], args := [d] }
  | _ => none }
def TiffOrdersWrongFalsely : Prop := tiffOrdersRow.holds Try.pinned (OpenSpec.ofChange tiffOrdersWrong)

/- THE SECOND FORM. 'bulk': how many values and letters a reading holds, each counted each time it is reached (what is shared counts as often as it is met; a slice's spare places count too). A statement '..UptoSaid' is the law's where the arguments, and the package variables that the reading takes, are together of bulk at most 1048576: NARROWER than '..Said'. Prove '..Said' where nothing that the law and all that it calls make is longer than what came in: it says more and counts as full. Else prove '..UptoSaid'. A law counts once. -/
mutual
def uptoBulk {H : Type} : DataW H → Nat
  | .lit (.string bytes) => bytes.length + 1
  | .lit _ => 1
  | .nil => 1
  | .ptr d => uptoBulk d + 1
  | .slice elems spare => uptoBulkAll elems + uptoBulkAll spare + 1
  | .agg parts => uptoBulkAll parts + 1
  | .iface _ d => uptoBulk d + 1
  | .map entries => uptoBulkEntries entries + 1
  | .held _ => 1
def uptoBulkAll {H : Type} : List (DataW H) → Nat
  | [] => 0
  | d :: r => uptoBulk d + uptoBulkAll r
def uptoBulkEntries {H : Type} : List (Lit × DataW H) → Nat
  | [] => 0
  | x :: r => uptoBulkEntry x + uptoBulkEntries r
def uptoBulkEntry {H : Type} : Lit × DataW H → Nat
  | (.string bytes, d) => bytes.length + uptoBulk d + 1
  | (_, d) => uptoBulk d + 1
 end
def uptoSmall : (H : Type) → List (DataW H) → Bool := fun _ ds => decide (uptoBulkAll ds ≤ 1048576)
def OpenSpec.upto (s : _root_.Go.ChangeSpec) : _root_.Go.OpenSpec := { _root_.Go.OpenSpec.ofChange s with cond := some uptoSmall }

/-- 'imageeditorlaw49.TiffPacks', WHERE WHAT IT READS IS OF BULK AT MOST 1048576: true; the input reads as it did. -/
def tiffPacksUptoRow : OpenClaim := { program := "ytakileiomgaahaa", sum := "29681bc925becd1c8553badea3aab4c73d27e7b31ac296b86652104390387307", func := "imageeditor/imageeditorlaw49.TiffPacks", spec := "tiffPacks", inPlace := ["internal/abi.NoEscape", "internal/bytealg.MakeNoZero", "internal/bytealg.IndexByteString", "internal/bytealg.IndexString"], named := ["internal/bytealg.MaxLen"], apart := false, narrowed := true }
def TiffPacksUptoSaid : Prop := tiffPacksUptoRow.holds Try.pinned (OpenSpec.upto tiffPacksSpec)

/-- 'imageeditorlaw49.TiffUnpacks', WHERE WHAT IT READS IS OF BULK AT MOST 1048576: true; the input reads as it did. -/
def tiffUnpacksUptoRow : OpenClaim := { program := "ytakileiomgaahaa", sum := "29681bc925becd1c8553badea3aab4c73d27e7b31ac296b86652104390387307", func := "imageeditor/imageeditorlaw49.TiffUnpacks", spec := "tiffUnpacks", inPlace := ["internal/abi.NoEscape", "internal/bytealg.MakeNoZero", "internal/bytealg.IndexByteString", "internal/bytealg.IndexString"], named := ["internal/bytealg.MaxLen"], apart := false, narrowed := true }
def TiffUnpacksUptoSaid : Prop := tiffUnpacksUptoRow.holds Try.pinned (OpenSpec.upto tiffUnpacksSpec)

/-- 'imageeditorlaw49.TiffTags', WHERE WHAT IT READS IS OF BULK AT MOST 1048576: true; the input reads as it did. -/
def tiffTagsUptoRow : OpenClaim := { program := "ytakileiomgaahaa", sum := "29681bc925becd1c8553badea3aab4c73d27e7b31ac296b86652104390387307", func := "imageeditor/imageeditorlaw49.TiffTags", spec := "tiffTags", inPlace := ["internal/abi.NoEscape", "internal/bytealg.MakeNoZero", "internal/bytealg.IndexByteString", "internal/bytealg.IndexString"], named := ["internal/bytealg.MaxLen"], apart := false, narrowed := true }
def TiffTagsUptoSaid : Prop := tiffTagsUptoRow.holds Try.pinned (OpenSpec.upto tiffTagsSpec)

/-- 'imageeditorlaw49.TiffValid', WHERE WHAT IT READS IS OF BULK AT MOST 1048576: true; the input reads as it did. -/
def tiffValidUptoRow : OpenClaim := { program := "ytakileiomgaahaa", sum := "29681bc925becd1c8553badea3aab4c73d27e7b31ac296b86652104390387307", func := "imageeditor/imageeditorlaw49.TiffValid", spec := "tiffValid", inPlace := ["internal/abi.NoEscape", "internal/bytealg.MakeNoZero", "internal/bytealg.IndexByteString", "internal/bytealg.IndexString"], named := ["internal/bytealg.MaxLen"], apart := false, narrowed := true }
def TiffValidUptoSaid : Prop := tiffValidUptoRow.holds Try.pinned (OpenSpec.upto tiffValidSpec)

/-- 'imageeditorlaw49.TiffEncodes', WHERE WHAT IT READS IS OF BULK AT MOST 1048576: true; the input reads as it did. -/
def tiffEncodesUptoRow : OpenClaim := { program := "ytakileiomgaahaa", sum := "29681bc925becd1c8553badea3aab4c73d27e7b31ac296b86652104390387307", func := "imageeditor/imageeditorlaw49.TiffEncodes", spec := "tiffEncodes", inPlace := ["internal/abi.NoEscape", "internal/bytealg.MakeNoZero", "internal/bytealg.IndexByteString", "internal/bytealg.IndexString"], named := ["internal/bytealg.MaxLen"], apart := false, narrowed := true }
def TiffEncodesUptoSaid : Prop := tiffEncodesUptoRow.holds Try.pinned (OpenSpec.upto tiffEncodesSpec)

/-- 'imageeditorlaw49.TiffReturns', WHERE WHAT IT READS IS OF BULK AT MOST 1048576: true; the input reads as it did. -/
def tiffReturnsUptoRow : OpenClaim := { program := "ytakileiomgaahaa", sum := "29681bc925becd1c8553badea3aab4c73d27e7b31ac296b86652104390387307", func := "imageeditor/imageeditorlaw49.TiffReturns", spec := "tiffReturns", inPlace := ["internal/abi.NoEscape", "internal/bytealg.MakeNoZero", "internal/bytealg.IndexByteString", "internal/bytealg.IndexString"], named := ["internal/bytealg.MaxLen"], apart := false, narrowed := true }
def TiffReturnsUptoSaid : Prop := tiffReturnsUptoRow.holds Try.pinned (OpenSpec.upto tiffReturnsSpec)

/-- 'imageeditorlaw49.TiffOrders', WHERE WHAT IT READS IS OF BULK AT MOST 1048576: true; the input reads as it did. -/
def tiffOrdersUptoRow : OpenClaim := { program := "ytakileiomgaahaa", sum := "29681bc925becd1c8553badea3aab4c73d27e7b31ac296b86652104390387307", func := "imageeditor/imageeditorlaw49.TiffOrders", spec := "tiffOrders", inPlace := ["internal/abi.NoEscape", "internal/bytealg.MakeNoZero", "internal/bytealg.IndexByteString", "internal/bytealg.IndexString"], named := ["internal/bytealg.MaxLen"], apart := false, narrowed := true }
def TiffOrdersUptoSaid : Prop := tiffOrdersUptoRow.holds Try.pinned (OpenSpec.upto tiffOrdersSpec)

end Rows
end Go.Proofs.Ytakileiomgaahaa
