/-
  Walk: a value set, in the reference.
-/
import Derived.Test.YtakileiomgaahaaM4
namespace Go.Proofs.Ytakileiomgaahaa
open Go.RowKit

theorem mown_shape {w : World} {b : Nat} {v : Value} {l : List Mt} (h : MOwn w b v l) : ∃ x c, v = .slice x l.length c := by
  rcases h.2 with ⟨rfl, h0⟩ | ⟨g, cap, cur, rfl, _⟩
  · exact ⟨none, 0, by rw [h0]⟩
  · exact ⟨_, _, rfl⟩

end Go.Proofs.Ytakileiomgaahaa
