/-
  The lengths of the fixed codes.
-/
import Derived.Test.YtppfjofaegbbjaaJ5
namespace Go.Proofs.Ytppfjofaegbbjaa
open Go.RowKit

def fixAt (i : Nat) : Nat := if 256 ≤ i ∧ i < 280 then 7 else if 144 ≤ i ∧ i < 256 then 9 else 8
theorem fixL_eq : (List.range 288).map fixAt = fixL := by decide +kernel
theorem fixD_eq : (List.range 32).map (fun _ => 5) = fixD := by decide +kernel

end Go.Proofs.Ytppfjofaegbbjaa
