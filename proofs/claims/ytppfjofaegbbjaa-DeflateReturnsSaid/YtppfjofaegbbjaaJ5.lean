/-
  Rows of ints that a call owns.
-/
import Derived.Test.YtppfjofaegbbjaaI3
namespace Go.Proofs.Ytppfjofaegbbjaa
open Go.RowKit

def icells (l : List Nat) : List Value := l.map fun (n : Nat) => Value.int .i64 (n : Int)
theorem icells_append (a b : List Nat) : icells (a ++ b) = icells a ++ icells b := by simp [icells]
theorem icells_get (l : List Nat) (i : Nat) (h : i < l.length) : (icells l)[i]? = some (.int .i64 (l[i] : Int)) := by simp [icells, h]
/-- The call's own row of ints. -/
def ORow (w : World) (base : Nat) (v : Value) (l : List Nat) : Prop := w.ownsRow base 3 1 v l.length (icells l)
theorem el_int : Elem Try.prog 61 3 (.int .i64 0) 1 8 := by
  refine ⟨Try.underlying61, ?_, rfl, by decide⟩
  exact info_parts (by kernel_rfl)
theorem orow_more {w : World} {base : Nat} {v : Value} {n : Nat} {l : List Nat} {xs : List Value} (h : w.ownsRow base 3 1 v n (icells l ++ xs)) (new : List Nat) (hx : xs = icells new) (hn : n = l.length + new.length) : ORow w base v (l ++ new) := by
  subst hx; subst hn
  unfold ORow
  rw [icells_append, List.length_append]
  exact h
theorem ORow.read {w : World} {base : Nat} {v : Value} {l : List Nat} (h : ORow w base v l) : IRead w v l := by
  rcases h.2 with ⟨rfl, h0⟩ | ⟨g, cap, cur, rfl, _, hg, hnc, hcm, _, _⟩
  · have : l = [] := List.eq_nil_of_length_eq_zero h0
    subst this
    exact ⟨none, 0, rfl, Nat.le_refl _, Nat.zero_le _, fun hne => absurd rfl hne⟩
  · refine ⟨_, cap, rfl, hnc, hcm, fun _ => ⟨g, 0, rfl, fun j hj => ?_⟩⟩
    have := World.ownsRow.cells h (g := g) rfl j _ (icells_get l j hj)
    rw [Addr.add_lit] at this
    exact this
theorem ORow.irow {w : World} {base : Nat} {v : Value} {l : List Nat} (h : ORow w base v l) : IRow w v l := by
  rcases h.2 with ⟨rfl, h0⟩ | ⟨g, cap, cur, rfl, _, hg, hnc, hcm, hcs, ht⟩
  · have : l = [] := List.eq_nil_of_length_eq_zero h0
    subst this
    exact ⟨none, 0, rfl, Nat.le_refl _, Nat.zero_le _, fun hne => absurd rfl hne⟩
  · refine ⟨_, cap, rfl, hnc, hcm, fun _ => ⟨g, 0, cur, rfl, hg, fun j hj => ?_⟩⟩
    have h1 := icells_get l j hj
    rw [← ht, List.getElem?_take] at h1
    rw [Nat.zero_add]
    split at h1
    · simpa using h1
    · cases h1
end Go.Proofs.Ytppfjofaegbbjaa
