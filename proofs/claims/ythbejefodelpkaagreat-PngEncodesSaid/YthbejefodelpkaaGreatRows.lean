/-
  No cell of these rows narrows 'for every input' (looked for: loops, veiled, ifaces, maps, wideKeys, modest, calm, conditions, laid).
  DERIVED. THE GIVEN ROWS OF THIS SEAT. 9 by the template 'for every input the law returns true; each argument reads behind the call as it read before'; 0 by the template 'total and deterministic' (their statements: YthbejefodelpkaaGreatTotals.lean).
  GIVEN WITH THE SEED: the statements are not yours to turn. If you find one false, say at which input.
  Laid BY PROGRAM, IN A SANDBOX (cutbox-rows.mjs): the forced cells as the released guide's own fill.sh prints them over the translation 0baa37c437ca7f18… (all of the seat's roots in one cut). By AI agents, Wed Nov 11 2026. No macro, syntax, notation, axiom, sorry.
-/
import Derived.Test.YthbejefodelpkaaGreatChecked
import GoSem.Claim
import GoSem.ClaimJoined
import GoSem.ClaimMapViews
import Derived.JoinedTies
import Derived.KernelRfl
namespace Go.Proofs.YthbejefodelpkaaGreat
/- THE CELL 'sum', in the pinned program and in every row, IS THE sha256 OF THE DUMP (.gsa) THAT YthbejefodelpkaaGreatProg.lean LOADS. Nothing in Lean hashes anything: it is a label: what it is worth is what the hold of that sum in a sandbox is worth. -/
noncomputable def Tryz.pinned : Pinned := { name := "ythbejefodelpkaagreat", sum := "0baa37c437ca7f18977fd2405fa6f1f9e1f794ccf5f284cbd954c9e2e9f96aec", checked := Tryz.checked }
namespace Rows
def none {H : Type} : Left H := { results := [], args := [] }

/-- 'imageeditorlaw48.PngChunks': WHATEVER THE INPUT: true; the input reads as it did. -/
def pngChunksSpec : ChangeSpec := { name := "pngChunks", fn := fun _ => fun
  | [d] => { results := [.lit (.bool true)], args := [d] }
  | _ => none }
def pngChunksRow : OpenClaim := { program := "ythbejefodelpkaagreat", sum := "0baa37c437ca7f18977fd2405fa6f1f9e1f794ccf5f284cbd954c9e2e9f96aec", func := "imageeditor/imageeditorlaw48.PngChunks", spec := "pngChunks", inPlace := ["internal/abi.NoEscape", "internal/bytealg.IndexByteString", "internal/bytealg.IndexString"], unfollowed := true, recurses := true, named := ["internal/bytealg.MaxLen"], apart := false }
def PngChunksSaid : Prop := pngChunksRow.holds Tryz.pinned (OpenSpec.ofChange pngChunksSpec)

/-- ITS FALSE NEIGHBOUR: 'it returns false'. Refute it at one input. -/
def pngChunksWrong : ChangeSpec := { name := "pngChunks", fn := fun _ => fun
  | [d] => { results := [.lit (.bool false)], args := [d] }
  | _ => none }
def PngChunksWrongFalsely : Prop := pngChunksRow.holds Tryz.pinned (OpenSpec.ofChange pngChunksWrong)

/-- 'imageeditorlaw48.PngJoins': WHATEVER THE INPUT: true; the input reads as it did. -/
def pngJoinsSpec : ChangeSpec := { name := "pngJoins", fn := fun _ => fun
  | [d] => { results := [.lit (.bool true)], args := [d] }
  | _ => none }
def pngJoinsRow : OpenClaim := { program := "ythbejefodelpkaagreat", sum := "0baa37c437ca7f18977fd2405fa6f1f9e1f794ccf5f284cbd954c9e2e9f96aec", func := "imageeditor/imageeditorlaw48.PngJoins", spec := "pngJoins", inPlace := ["internal/abi.NoEscape", "internal/bytealg.IndexByteString", "internal/bytealg.IndexString"], unfollowed := true, recurses := true, named := ["internal/bytealg.MaxLen"], apart := false }
def PngJoinsSaid : Prop := pngJoinsRow.holds Tryz.pinned (OpenSpec.ofChange pngJoinsSpec)

/-- ITS FALSE NEIGHBOUR: 'it returns false'. Refute it at one input. -/
def pngJoinsWrong : ChangeSpec := { name := "pngJoins", fn := fun _ => fun
  | [d] => { results := [.lit (.bool false)], args := [d] }
  | _ => none }
def PngJoinsWrongFalsely : Prop := pngJoinsRow.holds Tryz.pinned (OpenSpec.ofChange pngJoinsWrong)

/-- 'imageeditorlaw48.PngFilters': WHATEVER THE INPUT: true; the input reads as it did. -/
def pngFiltersSpec : ChangeSpec := { name := "pngFilters", fn := fun _ => fun
  | [d1, d2, d3, d4] => { results := [.lit (.bool true)], args := [d1, d2, d3, d4] }
  | _ => none }
def pngFiltersRow : OpenClaim := { program := "ythbejefodelpkaagreat", sum := "0baa37c437ca7f18977fd2405fa6f1f9e1f794ccf5f284cbd954c9e2e9f96aec", func := "imageeditor/imageeditorlaw48.PngFilters", spec := "pngFilters", inPlace := ["internal/abi.NoEscape", "internal/bytealg.IndexByteString", "internal/bytealg.IndexString"], unfollowed := true, recurses := true, named := ["internal/bytealg.MaxLen"], apart := false }
def PngFiltersSaid : Prop := pngFiltersRow.holds Tryz.pinned (OpenSpec.ofChange pngFiltersSpec)

/-- ITS FALSE NEIGHBOUR: 'it returns false'. Refute it at one input. -/
def pngFiltersWrong : ChangeSpec := { name := "pngFilters", fn := fun _ => fun
  | [d1, d2, d3, d4] => { results := [.lit (.bool false)], args := [d1, d2, d3, d4] }
  | _ => none }
def PngFiltersWrongFalsely : Prop := pngFiltersRow.holds Tryz.pinned (OpenSpec.ofChange pngFiltersWrong)

/-- 'imageeditorlaw48.PngEncodes': WHATEVER THE INPUT: true; the input reads as it did. -/
def pngEncodesSpec : ChangeSpec := { name := "pngEncodes", fn := fun _ => fun
  | [d1, d2, d3] => { results := [.lit (.bool true)], args := [d1, d2, d3] }
  | _ => none }
def pngEncodesRow : OpenClaim := { program := "ythbejefodelpkaagreat", sum := "0baa37c437ca7f18977fd2405fa6f1f9e1f794ccf5f284cbd954c9e2e9f96aec", func := "imageeditor/imageeditorlaw48.PngEncodes", spec := "pngEncodes", inPlace := ["internal/abi.NoEscape", "internal/bytealg.IndexByteString", "internal/bytealg.IndexString"], unfollowed := true, recurses := true, named := ["internal/bytealg.MaxLen"], apart := false }
def PngEncodesSaid : Prop := pngEncodesRow.holds Tryz.pinned (OpenSpec.ofChange pngEncodesSpec)

/-- ITS FALSE NEIGHBOUR: 'it returns false'. Refute it at one input. -/
def pngEncodesWrong : ChangeSpec := { name := "pngEncodes", fn := fun _ => fun
  | [d1, d2, d3] => { results := [.lit (.bool false)], args := [d1, d2, d3] }
  | _ => none }
def PngEncodesWrongFalsely : Prop := pngEncodesRow.holds Tryz.pinned (OpenSpec.ofChange pngEncodesWrong)

/-- 'imageeditorlaw48.PngBack': WHATEVER THE INPUT: true; the input reads as it did. -/
def pngBackSpec : ChangeSpec := { name := "pngBack", fn := fun _ => fun
  | [d1, d2, d3] => { results := [.lit (.bool true)], args := [d1, d2, d3] }
  | _ => none }
def pngBackRow : OpenClaim := { program := "ythbejefodelpkaagreat", sum := "0baa37c437ca7f18977fd2405fa6f1f9e1f794ccf5f284cbd954c9e2e9f96aec", func := "imageeditor/imageeditorlaw48.PngBack", spec := "pngBack", inPlace := ["internal/abi.NoEscape", "internal/bytealg.IndexByteString", "internal/bytealg.IndexString"], unfollowed := true, recurses := true, named := ["internal/bytealg.MaxLen"], apart := false }
def PngBackSaid : Prop := pngBackRow.holds Tryz.pinned (OpenSpec.ofChange pngBackSpec)

/-- ITS FALSE NEIGHBOUR: 'it returns false'. Refute it at one input. -/
def pngBackWrong : ChangeSpec := { name := "pngBack", fn := fun _ => fun
  | [d1, d2, d3] => { results := [.lit (.bool false)], args := [d1, d2, d3] }
  | _ => none }
def PngBackWrongFalsely : Prop := pngBackRow.holds Tryz.pinned (OpenSpec.ofChange pngBackWrong)

/-- 'imageeditorlaw48.PngLines': WHATEVER THE INPUT: true; the input reads as it did. -/
def pngLinesSpec : ChangeSpec := { name := "pngLines", fn := fun _ => fun
  | [d1, d2, d3] => { results := [.lit (.bool true)], args := [d1, d2, d3] }
  | _ => none }
def pngLinesRow : OpenClaim := { program := "ythbejefodelpkaagreat", sum := "0baa37c437ca7f18977fd2405fa6f1f9e1f794ccf5f284cbd954c9e2e9f96aec", func := "imageeditor/imageeditorlaw48.PngLines", spec := "pngLines", inPlace := ["internal/abi.NoEscape", "internal/bytealg.IndexByteString", "internal/bytealg.IndexString"], unfollowed := true, recurses := true, named := ["internal/bytealg.MaxLen"], apart := false }
def PngLinesSaid : Prop := pngLinesRow.holds Tryz.pinned (OpenSpec.ofChange pngLinesSpec)

/-- ITS FALSE NEIGHBOUR: 'it returns false'. Refute it at one input. -/
def pngLinesWrong : ChangeSpec := { name := "pngLines", fn := fun _ => fun
  | [d1, d2, d3] => { results := [.lit (.bool false)], args := [d1, d2, d3] }
  | _ => none }
def PngLinesWrongFalsely : Prop := pngLinesRow.holds Tryz.pinned (OpenSpec.ofChange pngLinesWrong)

/-- 'imageeditorlaw48.PngParts': WHATEVER THE INPUT: true; the input reads as it did. -/
def pngPartsSpec : ChangeSpec := { name := "pngParts", fn := fun _ => fun
  | [d1, d2] => { results := [.lit (.bool true)], args := [d1, d2] }
  | _ => none }
def pngPartsRow : OpenClaim := { program := "ythbejefodelpkaagreat", sum := "0baa37c437ca7f18977fd2405fa6f1f9e1f794ccf5f284cbd954c9e2e9f96aec", func := "imageeditor/imageeditorlaw48.PngParts", spec := "pngParts", inPlace := ["internal/abi.NoEscape", "internal/bytealg.IndexByteString", "internal/bytealg.IndexString"], unfollowed := true, recurses := true, named := ["internal/bytealg.MaxLen"], apart := false }
def PngPartsSaid : Prop := pngPartsRow.holds Tryz.pinned (OpenSpec.ofChange pngPartsSpec)

/-- ITS FALSE NEIGHBOUR: 'it returns false'. Refute it at one input. -/
def pngPartsWrong : ChangeSpec := { name := "pngParts", fn := fun _ => fun
  | [d1, d2] => { results := [.lit (.bool false)], args := [d1, d2] }
  | _ => none }
def PngPartsWrongFalsely : Prop := pngPartsRow.holds Tryz.pinned (OpenSpec.ofChange pngPartsWrong)

/-- 'imageeditorlaw48.PngTold': WHATEVER THE INPUT: true; the input reads as it did. -/
def pngToldSpec : ChangeSpec := { name := "pngTold", fn := fun _ => fun
  | [d1, d2, d3] => { results := [.lit (.bool true)], args := [d1, d2, d3] }
  | _ => none }
def pngToldRow : OpenClaim := { program := "ythbejefodelpkaagreat", sum := "0baa37c437ca7f18977fd2405fa6f1f9e1f794ccf5f284cbd954c9e2e9f96aec", func := "imageeditor/imageeditorlaw48.PngTold", spec := "pngTold", inPlace := ["internal/abi.NoEscape", "internal/bytealg.IndexByteString", "internal/bytealg.IndexString"], unfollowed := true, recurses := true, named := ["internal/bytealg.MaxLen"], apart := false }
def PngToldSaid : Prop := pngToldRow.holds Tryz.pinned (OpenSpec.ofChange pngToldSpec)

/-- ITS FALSE NEIGHBOUR: 'it returns false'. Refute it at one input. -/
def pngToldWrong : ChangeSpec := { name := "pngTold", fn := fun _ => fun
  | [d1, d2, d3] => { results := [.lit (.bool false)], args := [d1, d2, d3] }
  | _ => none }
def PngToldWrongFalsely : Prop := pngToldRow.holds Tryz.pinned (OpenSpec.ofChange pngToldWrong)

/-- 'imageeditorlaw48.PngRight': WHATEVER THE INPUT: true; the input reads as it did. -/
def pngRightSpec : ChangeSpec := { name := "pngRight", fn := fun _ => fun
  | [d] => { results := [.lit (.bool true)], args := [d] }
  | _ => none }
def pngRightRow : OpenClaim := { program := "ythbejefodelpkaagreat", sum := "0baa37c437ca7f18977fd2405fa6f1f9e1f794ccf5f284cbd954c9e2e9f96aec", func := "imageeditor/imageeditorlaw48.PngRight", spec := "pngRight", inPlace := ["internal/abi.NoEscape", "internal/bytealg.IndexByteString", "internal/bytealg.IndexString"], unfollowed := true, recurses := true, named := ["internal/bytealg.MaxLen"], apart := false }
def PngRightSaid : Prop := pngRightRow.holds Tryz.pinned (OpenSpec.ofChange pngRightSpec)

/-- ITS FALSE NEIGHBOUR: 'it returns false'. Refute it at one input. -/
def pngRightWrong : ChangeSpec := { name := "pngRight", fn := fun _ => fun
  | [d] => { results := [.lit (.bool false)], args := [d] }
  | _ => none }
def PngRightWrongFalsely : Prop := pngRightRow.holds Tryz.pinned (OpenSpec.ofChange pngRightWrong)

/- THE SECOND FORM. 'bulk': how many values and letters a reading holds, each counted each time it is reached (what is shared counts as often as it is met; a slice's spare places count too). A statement '..UptoSaid' is the law's where the arguments, and the package variables that the reading takes, are together of bulk at most 1048576: NARROWER than '..Said'. Prove '..Said' where nothing that the law and all that it calls make is longer than what came in: it says more and counts as full. Else prove '..UptoSaid'. A law counts once. -/
mutual
def uptoBulk {H : Type} : DataW H → Nat
  | .lit (.string bytes) => bytes.length + 1
  | .lit _ => 1
  | .nil => 1
  | .ptr d => uptoBulk d + 1
  | .slice elems spare => uptoBulkAll elems + uptoBulkAll spare + 1
  | .agg parts => uptoBulkAll parts + 1
  | .iface _ d => uptoBulk d + 1
  | .map entries => uptoBulkEntries entries + 1
  | .held _ => 1
def uptoBulkAll {H : Type} : List (DataW H) → Nat
  | [] => 0
  | d :: r => uptoBulk d + uptoBulkAll r
def uptoBulkEntries {H : Type} : List (Lit × DataW H) → Nat
  | [] => 0
  | x :: r => uptoBulkEntry x + uptoBulkEntries r
def uptoBulkEntry {H : Type} : Lit × DataW H → Nat
  | (.string bytes, d) => bytes.length + uptoBulk d + 1
  | (_, d) => uptoBulk d + 1
 end
def uptoSmall : (H : Type) → List (DataW H) → Bool := fun _ ds => decide (uptoBulkAll ds ≤ 1048576)
def OpenSpec.upto (s : _root_.Go.ChangeSpec) : _root_.Go.OpenSpec := { _root_.Go.OpenSpec.ofChange s with cond := some uptoSmall }

/-- 'imageeditorlaw48.PngChunks', WHERE WHAT IT READS IS OF BULK AT MOST 1048576: true; the input reads as it did. -/
def pngChunksUptoRow : OpenClaim := { program := "ythbejefodelpkaagreat", sum := "0baa37c437ca7f18977fd2405fa6f1f9e1f794ccf5f284cbd954c9e2e9f96aec", func := "imageeditor/imageeditorlaw48.PngChunks", spec := "pngChunks", inPlace := ["internal/abi.NoEscape", "internal/bytealg.IndexByteString", "internal/bytealg.IndexString"], unfollowed := true, recurses := true, named := ["internal/bytealg.MaxLen"], apart := false, narrowed := true }
def PngChunksUptoSaid : Prop := pngChunksUptoRow.holds Tryz.pinned (OpenSpec.upto pngChunksSpec)

/-- 'imageeditorlaw48.PngJoins', WHERE WHAT IT READS IS OF BULK AT MOST 1048576: true; the input reads as it did. -/
def pngJoinsUptoRow : OpenClaim := { program := "ythbejefodelpkaagreat", sum := "0baa37c437ca7f18977fd2405fa6f1f9e1f794ccf5f284cbd954c9e2e9f96aec", func := "imageeditor/imageeditorlaw48.PngJoins", spec := "pngJoins", inPlace := ["internal/abi.NoEscape", "internal/bytealg.IndexByteString", "internal/bytealg.IndexString"], unfollowed := true, recurses := true, named := ["internal/bytealg.MaxLen"], apart := false, narrowed := true }
def PngJoinsUptoSaid : Prop := pngJoinsUptoRow.holds Tryz.pinned (OpenSpec.upto pngJoinsSpec)

/-- 'imageeditorlaw48.PngFilters', WHERE WHAT IT READS IS OF BULK AT MOST 1048576: true; the input reads as it did. -/
def pngFiltersUptoRow : OpenClaim := { program := "ythbejefodelpkaagreat", sum := "0baa37c437ca7f18977fd2405fa6f1f9e1f794ccf5f284cbd954c9e2e9f96aec", func := "imageeditor/imageeditorlaw48.PngFilters", spec := "pngFilters", inPlace := ["internal/abi.NoEscape", "internal/bytealg.IndexByteString", "internal/bytealg.IndexString"], unfollowed := true, recurses := true, named := ["internal/bytealg.MaxLen"], apart := false, narrowed := true }
def PngFiltersUptoSaid : Prop := pngFiltersUptoRow.holds Tryz.pinned (OpenSpec.upto pngFiltersSpec)

/-- 'imageeditorlaw48.PngEncodes', WHERE WHAT IT READS IS OF BULK AT MOST 1048576: true; the input reads as it did. -/
def pngEncodesUptoRow : OpenClaim := { program := "ythbejefodelpkaagreat", sum := "0baa37c437ca7f18977fd2405fa6f1f9e1f794ccf5f284cbd954c9e2e9f96aec", func := "imageeditor/imageeditorlaw48.PngEncodes", spec := "pngEncodes", inPlace := ["internal/abi.NoEscape", "internal/bytealg.IndexByteString", "internal/bytealg.IndexString"], unfollowed := true, recurses := true, named := ["internal/bytealg.MaxLen"], apart := false, narrowed := true }
def PngEncodesUptoSaid : Prop := pngEncodesUptoRow.holds Tryz.pinned (OpenSpec.upto pngEncodesSpec)

/-- 'imageeditorlaw48.PngBack', WHERE WHAT IT READS IS OF BULK AT MOST 1048576: true; the input reads as it did. -/
def pngBackUptoRow : OpenClaim := { program := "ythbejefodelpkaagreat", sum := "0baa37c437ca7f18977fd2405fa6f1f9e1f794ccf5f284cbd954c9e2e9f96aec", func := "imageeditor/imageeditorlaw48.PngBack", spec := "pngBack", inPlace := ["internal/abi.NoEscape", "internal/bytealg.IndexByteString", "internal/bytealg.IndexString"], unfollowed := true, recurses := true, named := ["internal/bytealg.MaxLen"], apart := false, narrowed := true }
def PngBackUptoSaid : Prop := pngBackUptoRow.holds Tryz.pinned (OpenSpec.upto pngBackSpec)

/-- 'imageeditorlaw48.PngLines', WHERE WHAT IT READS IS OF BULK AT MOST 1048576: true; the input reads as it did. -/
def pngLinesUptoRow : OpenClaim := { program := "ythbejefodelpkaagreat", sum := "0baa37c437ca7f18977fd2405fa6f1f9e1f794ccf5f284cbd954c9e2e9f96aec", func := "imageeditor/imageeditorlaw48.PngLines", spec := "pngLines", inPlace := ["internal/abi.NoEscape", "internal/bytealg.IndexByteString", "internal/bytealg.IndexString"], unfollowed := true, recurses := true, named := ["internal/bytealg.MaxLen"], apart := false, narrowed := true }
def PngLinesUptoSaid : Prop := pngLinesUptoRow.holds Tryz.pinned (OpenSpec.upto pngLinesSpec)

/-- 'imageeditorlaw48.PngParts', WHERE WHAT IT READS IS OF BULK AT MOST 1048576: true; the input reads as it did. -/
def pngPartsUptoRow : OpenClaim := { program := "ythbejefodelpkaagreat", sum := "0baa37c437ca7f18977fd2405fa6f1f9e1f794ccf5f284cbd954c9e2e9f96aec", func := "imageeditor/imageeditorlaw48.PngParts", spec := "pngParts", inPlace := ["internal/abi.NoEscape", "internal/bytealg.IndexByteString", "internal/bytealg.IndexString"], unfollowed := true, recurses := true, named := ["internal/bytealg.MaxLen"], apart := false, narrowed := true }
def PngPartsUptoSaid : Prop := pngPartsUptoRow.holds Tryz.pinned (OpenSpec.upto pngPartsSpec)

/-- 'imageeditorlaw48.PngTold', WHERE WHAT IT READS IS OF BULK AT MOST 1048576: true; the input reads as it did. -/
def pngToldUptoRow : OpenClaim := { program := "ythbejefodelpkaagreat", sum := "0baa37c437ca7f18977fd2405fa6f1f9e1f794ccf5f284cbd954c9e2e9f96aec", func := "imageeditor/imageeditorlaw48.PngTold", spec := "pngTold", inPlace := ["internal/abi.NoEscape", "internal/bytealg.IndexByteString", "internal/bytealg.IndexString"], unfollowed := true, recurses := true, named := ["internal/bytealg.MaxLen"], apart := false, narrowed := true }
def PngToldUptoSaid : Prop := pngToldUptoRow.holds Tryz.pinned (OpenSpec.upto pngToldSpec)

/-- 'imageeditorlaw48.PngRight', WHERE WHAT IT READS IS OF BULK AT MOST 1048576: true; the input reads as it did. -/
def pngRightUptoRow : OpenClaim := { program := "ythbejefodelpkaagreat", sum := "0baa37c437ca7f18977fd2405fa6f1f9e1f794ccf5f284cbd954c9e2e9f96aec", func := "imageeditor/imageeditorlaw48.PngRight", spec := "pngRight", inPlace := ["internal/abi.NoEscape", "internal/bytealg.IndexByteString", "internal/bytealg.IndexString"], unfollowed := true, recurses := true, named := ["internal/bytealg.MaxLen"], apart := false, narrowed := true }
def PngRightUptoSaid : Prop := pngRightUptoRow.holds Tryz.pinned (OpenSpec.upto pngRightSpec)

end Rows
end Go.Proofs.YthbejefodelpkaaGreat
