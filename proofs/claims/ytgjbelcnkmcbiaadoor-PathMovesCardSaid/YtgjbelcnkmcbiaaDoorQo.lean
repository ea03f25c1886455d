/-
  Rows of points and of segments that a call owns.
-/
import Derived.Test.YtgjbelcnkmcbiaaDoorQc
namespace Go.Proofs.YtgjbelcnkmcbiaaDoor
open Go.RowKit

def pcell (p : Pt) : List Value := [.int .i64 p.1, .int .i64 p.2]
def pcells (l : List Pt) : List Value := l.flatMap pcell
theorem pcells_append (a b : List Pt) : pcells (a ++ b) = pcells a ++ pcells b := by simp [pcells]
theorem pcells_length (l : List Pt) : (pcells l).length = l.length * 2 := by
  induction l with
  | nil => rfl
  | cons t l ih => show (pcell t ++ pcells l).length = _; rw [List.length_append, ih]; simp [pcell]; omega
theorem pcells_get (l : List Pt) (i : Nat) (h : i < l.length) : (pcells l)[i * 2]? = some (.int .i64 l[i].1) ∧ (pcells l)[i * 2 + 1]? = some (.int .i64 l[i].2) := by
  induction l generalizing i with
  | nil => simp at h
  | cons t l ih =>
    cases i with
    | zero => simp [pcells, pcell]
    | succ i =>
      have := ih i (by simpa using h)
      have e : pcells (t :: l) = pcell t ++ pcells l := rfl
      rw [e]
      have hl : (pcell t).length = 2 := rfl
      refine ⟨?_, ?_⟩ <;> rw [List.getElem?_append_right (by rw [hl]; omega), hl]
      · rw [show (i + 1) * 2 - 2 = i * 2 from by omega]; simpa using this.1
      · rw [show (i + 1) * 2 + 1 - 2 = i * 2 + 1 from by omega]; simpa using this.2
/-- The slice value v owns a row of points, from block base on. -/
def QOwn (w : World) (base : Nat) (v : Value) (l : List Pt) : Prop := w.ownsRow base 32 2 v l.length (pcells l)
theorem QOwn.row {w : World} {base : Nat} {v : Value} {l : List Pt} (h : QOwn w base v l) : QRow w v l := by
  rcases h.2 with ⟨rfl, h0⟩ | ⟨g, cap, cur, rfl, _, hg, hc, hm, _⟩
  · have : l = [] := List.eq_nil_of_length_eq_zero h0
    subst this
    exact qrow_nil w
  · refine ⟨_, cap, rfl, hc, hm, (fun h => by cases h), fun _ => ⟨g, 0, rfl, fun i hi => ?_⟩⟩
    have hgt := pcells_get l i hi
    have a1 := World.ownsRow.cells h (g := g) rfl _ _ hgt.1
    have a2 := World.ownsRow.cells h (g := g) rfl _ _ hgt.2
    rw [Addr.add_lit] at a1 a2
    exact ⟨a1, by simpa [Nat.add_assoc] using a2⟩
theorem qown_more {w : World} {base : Nat} {v : Value} {n : Nat} {l : List Pt} {xs : List Value} (h : w.ownsRow base 32 2 v n (pcells l ++ xs)) (new : List Pt) (hx : xs = pcells new) (hn : n = l.length + new.length) : QOwn w base v (l ++ new) := by
  subst hx; subst hn
  unfold QOwn
  rw [pcells_append, List.length_append]
  exact h
theorem el_pt : Elem Tryd.prog 37 32 (.agg #[.int .i64 0, .int .i64 0]) 2 16 := by
  refine ⟨Tryd.underlying37, ?_, rfl, by decide⟩
  exact info_parts (by kernel_rfl)
theorem qown_shape {w : World} {base : Nat} {v : Value} {l : List Pt} (h : QOwn w base v l) (hl : l ≠ []) : ∃ g cap, v = .slice (some ⟨g, 0, none⟩) l.length cap ∧ base ≤ g ∧ l.length ≤ cap ∧ cap ≤ maxLen ∧ g < w.heap.size := by
  rcases h.2 with ⟨rfl, h0⟩ | ⟨g, cap, cur, rfl, hb, hg, hc, hm, _⟩
  · exact absurd (List.eq_nil_of_length_eq_zero h0) hl
  · exact ⟨g, cap, rfl, hb, hc, hm, (Array.getElem?_eq_some_iff.1 hg).1⟩
/-- From w to w' the blocks k0 and that of r may have turned, and new ones been laid. -/
structure Grw (k0 : Nat) (r : Option Nat) (w w' : World) : Prop where
  os : w'.os = w.os
  tape : w'.tape = w.tape
  output : w'.output = w.output
  size : w.heap.size ≤ w'.heap.size
  block : ∀ k, k < w.heap.size → k ≠ k0 → some k ≠ r → w'.heap[k]? = w.heap[k]?
theorem Grw.fr {B k0 : Nat} {T : List TypeId} {v : Value} {l : List Pt} {w0 w w' : World} (h : Grw k0 v.ownBlock w w') (hf : Fr B T w0 w) (hk : w0.heap.size ≤ k0) (ho : QOwn w B v l) (ht : 32 ∈ T) : Fr B T w0 w' := by
  refine ⟨h.os.trans hf.os, h.tape.trans hf.tape, h.output.trans hf.output, Nat.le_trans hf.size h.size, fun k hk0 hc => ?_⟩
  rw [h.block k (Nat.lt_of_lt_of_le hk0 hf.size) (by omega) ?_]
  · exact hf.block k hk0 hc
  · intro he
    rcases ho.2 with ⟨rfl, h0⟩ | ⟨g, cap, cur, rfl, hb, hg, _⟩
    · cases he
    · have he : k = g := by injection he
      subst he
      rcases hc with hc | ⟨cs, t, z, hc, hnt⟩
      · omega
      · have := hf.block k hk0 (.inr ⟨cs, t, z, hc, hnt⟩)
        rw [hg, hc] at this
        injection this with this
        injection this with h1 h2
        exact hnt (h2 ▸ ht)
end Go.Proofs.YtgjbelcnkmcbiaaDoor
