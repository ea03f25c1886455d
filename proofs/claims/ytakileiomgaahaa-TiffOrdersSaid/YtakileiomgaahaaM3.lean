/-
  Walks: the value of a key; two equal lists are the same.
-/
import Derived.Test.YtakileiomgaahaaM2
namespace Go.Proofs.Ytakileiomgaahaa
open Go.RowKit

theorem getP_drop (l : List Mt) (k : List UInt8) (i : Nat) (hi : i < l.length) (m : Mt) (hm : l[i] = m) : getP (l.drop i) k = if (m.1 == k) = true then some m.2 else getP (l.drop (i + 1)) k := by
  subst hm
  rw [List.drop_eq_getElem_cons hi]
  unfold getP
  rw [List.find?_cons]
  cases (l[i].1 == k) <;> rfl
def optV (o : Option (List UInt8)) : Value := .tuple #[.string ⟨(o.getD []).toArray⟩, .bool o.isSome]

end Go.Proofs.Ytakileiomgaahaa
