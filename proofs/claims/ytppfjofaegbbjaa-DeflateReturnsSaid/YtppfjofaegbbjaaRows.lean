/-
  No cell of these rows narrows 'for every input' (looked for: loops, veiled, ifaces, maps, wideKeys, modest, calm, conditions, laid).
  DERIVED. THE GIVEN ROWS OF THIS SEAT. 6 by the template 'for every input the law returns true; each argument reads behind the call as it read before'; 0 by the template 'total and deterministic' (their statements: YtppfjofaegbbjaaTotals.lean).
  GIVEN WITH THE SEED: the statements are not yours to turn. If you find one false, say at which input.
  Laid BY PROGRAM, IN A SANDBOX (cutbox-rows.mjs): the forced cells as the released guide's own fill.sh prints them over the translation d5401a75109ccbe8… (all of the seat's roots in one cut). By AI agents, Wed Nov 11 2026. No macro, syntax, notation, axiom, sorry.
-/
import Derived.Test.YtppfjofaegbbjaaChecked
import GoSem.Claim
import GoSem.ClaimJoined
import GoSem.ClaimMapViews
import Derived.JoinedTies
import Derived.KernelRfl
namespace Go.Proofs.Ytppfjofaegbbjaa
/- THE CELL 'sum', in the pinned program and in every row, IS THE sha256 OF THE DUMP (.gsa) THAT YtppfjofaegbbjaaProg.lean LOADS. Nothing in Lean hashes anything: it is a label: what it is worth is what the hold of that sum in a sandbox is worth. -/
noncomputable def Try.pinned : Pinned := { name := "ytppfjofaegbbjaa", sum := "d5401a75109ccbe8f7f62a333206fac7644499f2aff02fd47e0746bfd0e919f5", checked := Try.checked }
namespace Rows
def none {H : Type} : Left H := { results := [], args := [] }

/-- 'imageeditorlaw47.DeflateStores': WHATEVER THE INPUT: true; the input reads as it did. -/
def deflateStoresSpec : ChangeSpec := { name := "deflateStores", fn := fun _ => fun
  | [d] => { results := [.lit (.bool true)], args := [d] }
  | _ => none }
def deflateStoresRow : OpenClaim := { program := "ytppfjofaegbbjaa", sum := "d5401a75109ccbe8f7f62a333206fac7644499f2aff02fd47e0746bfd0e919f5", func := "imageeditor/imageeditorlaw47.DeflateStores", spec := "deflateStores", apart := false }
def DeflateStoresSaid : Prop := deflateStoresRow.holds Try.pinned (OpenSpec.ofChange deflateStoresSpec)

/-- ITS FALSE NEIGHBOUR: 'it returns false'. Refute it at one input. -/
def deflateStoresWrong : ChangeSpec := { name := "deflateStores", fn := fun _ => fun
  | [d] => { results := [.lit (.bool false)], args := [d] }
  | _ => none }
def DeflateStoresWrongFalsely : Prop := deflateStoresRow.holds Try.pinned (OpenSpec.ofChange deflateStoresWrong)

/-- 'imageeditorlaw47.DeflateFixes': WHATEVER THE INPUT: true; the input reads as it did. -/
def deflateFixesSpec : ChangeSpec := { name := "deflateFixes", fn := fun _ => fun
  | [d] => { results := [.lit (.bool true)], args := [d] }
  | _ => none }
def deflateFixesRow : OpenClaim := { program := "ytppfjofaegbbjaa", sum := "d5401a75109ccbe8f7f62a333206fac7644499f2aff02fd47e0746bfd0e919f5", func := "imageeditor/imageeditorlaw47.DeflateFixes", spec := "deflateFixes", apart := false }
def DeflateFixesSaid : Prop := deflateFixesRow.holds Try.pinned (OpenSpec.ofChange deflateFixesSpec)

/-- ITS FALSE NEIGHBOUR: 'it returns false'. Refute it at one input. -/
def deflateFixesWrong : ChangeSpec := { name := "deflateFixes", fn := fun _ => fun
  | [d] => { results := [.lit (.bool false)], args := [d] }
  | _ => none }
def DeflateFixesWrongFalsely : Prop := deflateFixesRow.holds Try.pinned (OpenSpec.ofChange deflateFixesWrong)

/-- 'imageeditorlaw47.DeflateTokens': WHATEVER THE INPUT: true; the input reads as it did. -/
def deflateTokensSpec : ChangeSpec := { name := "deflateTokens", fn := fun _ => fun
  | [d] => { results := [.lit (.bool true)], args := [d] }
  | _ => none }
def deflateTokensRow : OpenClaim := { program := "ytppfjofaegbbjaa", sum := "d5401a75109ccbe8f7f62a333206fac7644499f2aff02fd47e0746bfd0e919f5", func := "imageeditor/imageeditorlaw47.DeflateTokens", spec := "deflateTokens", apart := false }
def DeflateTokensSaid : Prop := deflateTokensRow.holds Try.pinned (OpenSpec.ofChange deflateTokensSpec)

/-- ITS FALSE NEIGHBOUR: 'it returns false'. Refute it at one input. -/
def deflateTokensWrong : ChangeSpec := { name := "deflateTokens", fn := fun _ => fun
  | [d] => { results := [.lit (.bool false)], args := [d] }
  | _ => none }
def DeflateTokensWrongFalsely : Prop := deflateTokensRow.holds Try.pinned (OpenSpec.ofChange deflateTokensWrong)

/-- 'imageeditorlaw47.DeflateWraps': WHATEVER THE INPUT: true; the input reads as it did. -/
def deflateWrapsSpec : ChangeSpec := { name := "deflateWraps", fn := fun _ => fun
  | [d] => { results := [.lit (.bool true)], args := [d] }
  | _ => none }
def deflateWrapsRow : OpenClaim := { program := "ytppfjofaegbbjaa", sum := "d5401a75109ccbe8f7f62a333206fac7644499f2aff02fd47e0746bfd0e919f5", func := "imageeditor/imageeditorlaw47.DeflateWraps", spec := "deflateWraps", apart := false }
def DeflateWrapsSaid : Prop := deflateWrapsRow.holds Try.pinned (OpenSpec.ofChange deflateWrapsSpec)

/-- ITS FALSE NEIGHBOUR: 'it returns false'. Refute it at one input. -/
def deflateWrapsWrong : ChangeSpec := { name := "deflateWraps", fn := fun _ => fun
  | [d] => { results := [.lit (.bool false)], args := [d] }
  | _ => none }
def DeflateWrapsWrongFalsely : Prop := deflateWrapsRow.holds Try.pinned (OpenSpec.ofChange deflateWrapsWrong)

/-- 'imageeditorlaw47.DeflateSizes': WHATEVER THE INPUT: true; the input reads as it did. -/
def deflateSizesSpec : ChangeSpec := { name := "deflateSizes", fn := fun _ => fun
  | [d] => { results := [.lit (.bool true)], args := [d] }
  | _ => none }
def deflateSizesRow : OpenClaim := { program := "ytppfjofaegbbjaa", sum := "d5401a75109ccbe8f7f62a333206fac7644499f2aff02fd47e0746bfd0e919f5", func := "imageeditor/imageeditorlaw47.DeflateSizes", spec := "deflateSizes", apart := false }
def DeflateSizesSaid : Prop := deflateSizesRow.holds Try.pinned (OpenSpec.ofChange deflateSizesSpec)

/-- ITS FALSE NEIGHBOUR: 'it returns false'. Refute it at one input. -/
def deflateSizesWrong : ChangeSpec := { name := "deflateSizes", fn := fun _ => fun
  | [d] => { results := [.lit (.bool false)], args := [d] }
  | _ => none }
def DeflateSizesWrongFalsely : Prop := deflateSizesRow.holds Try.pinned (OpenSpec.ofChange deflateSizesWrong)

/-- 'imageeditorlaw47.DeflateReturns': WHATEVER THE INPUT: true; the input reads as it did. -/
def deflateReturnsSpec : ChangeSpec := { name := "deflateReturns", fn := fun _ => fun
  | [d] => { results := [.lit (.bool true)], args := [d] }
  | _ => none }
def deflateReturnsRow : OpenClaim := { program := "ytppfjofaegbbjaa", sum := "d5401a75109ccbe8f7f62a333206fac7644499f2aff02fd47e0746bfd0e919f5", func := "imageeditor/imageeditorlaw47.DeflateReturns", spec := "deflateReturns", apart := false }
def DeflateReturnsSaid : Prop := deflateReturnsRow.holds Try.pinned (OpenSpec.ofChange deflateReturnsSpec)

/-- ITS FALSE NEIGHBOUR: 'it returns false'. Refute it at one input. -/
def deflateReturnsWrong : ChangeSpec := { name := "deflateReturns", fn := fun _ => fun
  | [d] => { results := [.lit (.bool false)], args := [d] }
  | _ => none }
def DeflateReturnsWrongFalsely : Prop := deflateReturnsRow.holds Try.pinned (OpenSpec.ofChange deflateReturnsWrong)

/- THE SECOND FORM. 'bulk': how many values and letters a reading holds, each counted each time it is reached (what is shared counts as often as it is met; a slice's spare places count too). A statement '..UptoSaid' is the law's where the arguments, and the package variables that the reading takes, are together of bulk at most 1048576: NARROWER than '..Said'. Prove '..Said' where nothing that the law and all that it calls make is longer than what came in: it says more and counts as full. Else prove '..UptoSaid'. A law counts once. -/
mutual
def uptoBulk {H : Type} : DataW H → Nat
  | .lit (.string bytes) => bytes.length + 1
  | .lit _ => 1
  | .nil => 1
  | .ptr d => uptoBulk d + 1
  | .slice elems spare => uptoBulkAll elems + uptoBulkAll spare + 1
  | .agg parts => uptoBulkAll parts + 1
  | .iface _ d => uptoBulk d + 1
  | .map entries => uptoBulkEntries entries + 1
  | .held _ => 1
def uptoBulkAll {H : Type} : List (DataW H) → Nat
  | [] => 0
  | d :: r => uptoBulk d + uptoBulkAll r
def uptoBulkEntries {H : Type} : List (Lit × DataW H) → Nat
  | [] => 0
  | x :: r => uptoBulkEntry x + uptoBulkEntries r
def uptoBulkEntry {H : Type} : Lit × DataW H → Nat
  | (.string bytes, d) => bytes.length + uptoBulk d + 1
  | (_, d) => uptoBulk d + 1
 end
def uptoSmall : (H : Type) → List (DataW H) → Bool := fun _ ds => decide (uptoBulkAll ds ≤ 1048576)
def OpenSpec.upto (s : _root_.Go.ChangeSpec) : _root_.Go.OpenSpec := { _root_.Go.OpenSpec.ofChange s with cond := some uptoSmall }

/-- 'imageeditorlaw47.DeflateStores', WHERE WHAT IT READS IS OF BULK AT MOST 1048576: true; the input reads as it did. -/
def deflateStoresUptoRow : OpenClaim := { program := "ytppfjofaegbbjaa", sum := "d5401a75109ccbe8f7f62a333206fac7644499f2aff02fd47e0746bfd0e919f5", func := "imageeditor/imageeditorlaw47.DeflateStores", spec := "deflateStores", apart := false, narrowed := true }
def DeflateStoresUptoSaid : Prop := deflateStoresUptoRow.holds Try.pinned (OpenSpec.upto deflateStoresSpec)

/-- 'imageeditorlaw47.DeflateFixes', WHERE WHAT IT READS IS OF BULK AT MOST 1048576: true; the input reads as it did. -/
def deflateFixesUptoRow : OpenClaim := { program := "ytppfjofaegbbjaa", sum := "d5401a75109ccbe8f7f62a333206fac7644499f2aff02fd47e0746bfd0e919f5", func := "imageeditor/imageeditorlaw47.DeflateFixes", spec := "deflateFixes", apart := false, narrowed := true }
def DeflateFixesUptoSaid : Prop := deflateFixesUptoRow.holds Try.pinned (OpenSpec.upto deflateFixesSpec)

/-- 'imageeditorlaw47.DeflateTokens', WHERE WHAT IT READS IS OF BULK AT MOST 1048576: true; the input reads as it did. -/
def deflateTokensUptoRow : OpenClaim := { program := "ytppfjofaegbbjaa", sum := "d5401a75109ccbe8f7f62a333206fac7644499f2aff02fd47e0746bfd0e919f5", func := "imageeditor/imageeditorlaw47.DeflateTokens", spec := "deflateTokens", apart := false, narrowed := true }
def DeflateTokensUptoSaid : Prop := deflateTokensUptoRow.holds Try.pinned (OpenSpec.upto deflateTokensSpec)

/-- 'imageeditorlaw47.DeflateWraps', WHERE WHAT IT READS IS OF BULK AT MOST 1048576: true; the input reads as it did. -/
def deflateWrapsUptoRow : OpenClaim := { program := "ytppfjofaegbbjaa", sum := "d5401a75109ccbe8f7f62a333206fac7644499f2aff02fd47e0746bfd0e919f5", func := "imageeditor/imageeditorlaw47.DeflateWraps", spec := "deflateWraps", apart := false, narrowed := true }
def DeflateWrapsUptoSaid : Prop := deflateWrapsUptoRow.holds Try.pinned (OpenSpec.upto deflateWrapsSpec)

/-- 'imageeditorlaw47.DeflateSizes', WHERE WHAT IT READS IS OF BULK AT MOST 1048576: true; the input reads as it did. -/
def deflateSizesUptoRow : OpenClaim := { program := "ytppfjofaegbbjaa", sum := "d5401a75109ccbe8f7f62a333206fac7644499f2aff02fd47e0746bfd0e919f5", func := "imageeditor/imageeditorlaw47.DeflateSizes", spec := "deflateSizes", apart := false, narrowed := true }
def DeflateSizesUptoSaid : Prop := deflateSizesUptoRow.holds Try.pinned (OpenSpec.upto deflateSizesSpec)

/-- 'imageeditorlaw47.DeflateReturns', WHERE WHAT IT READS IS OF BULK AT MOST 1048576: true; the input reads as it did. -/
def deflateReturnsUptoRow : OpenClaim := { program := "ytppfjofaegbbjaa", sum := "d5401a75109ccbe8f7f62a333206fac7644499f2aff02fd47e0746bfd0e919f5", func := "imageeditor/imageeditorlaw47.DeflateReturns", spec := "deflateReturns", apart := false, narrowed := true }
def DeflateReturnsUptoSaid : Prop := deflateReturnsUptoRow.holds Try.pinned (OpenSpec.upto deflateReturnsSpec)

end Rows
end Go.Proofs.Ytppfjofaegbbjaa
