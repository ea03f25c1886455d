/-
  How an argument []int is read; the law InflateCodes.
-/
import Derived.Test.YtkbelkdephfhpaaK4
import Derived.ChangeSlices
import Derived.ChangeArms
import Derived.Deep.SlicePairs
namespace Go.Proofs.Ytkbelkdephfhpaa
open Go.RowKit Go.ChangeShapes Go.WideShapes

theorem open_codes {H : Type} {enc : TypeId × Value → H} {W : World} {base : Nat} {v : Value} {d : DataW H} {p : List MemPlace} (hv : Value.okWide Try.prog W .any base 29 v)
    (h : DataW.Trod enc Try.prog W 0 (fun _ => true) true 29 v d p) : ∃ L : List Int, IReadZ W v L := by
  obtain ⟨a0, len, cap, rfl⟩ := okWide_slice Try.underlying29 hv
  obtain ⟨fuel, hf⟩ := h
  rcases open_ints Try.underlying29 Try.underlying3 (by kernel_rfl) hf with ⟨hcs, _⟩ | ⟨a, len', cap', zs, hcs, _, hl, hm, hzl, _, hcell, _⟩
  · simp [Value.cells] at hcs
    obtain ⟨rfl, rfl, rfl⟩ := hcs
    exact ⟨[], none, 0, rfl, Nat.le_refl _, Nat.zero_le _, fun h => absurd rfl h⟩
  · simp [Value.cells] at hcs
    obtain ⟨rfl, rfl, rfl⟩ := hcs
    simp only [if_true] at hzl
    have hlt : (zs.take len).length = len := by simp; omega
    refine ⟨zs.take len, some a, cap, by rw [hlt], by omega, hm, fun hne => ?_⟩
    have hlen : 0 < len := by
      rcases Nat.eq_zero_or_pos len with h0 | h0
      · subst h0; simp at hne
      · exact h0
    obtain ⟨b, off, spot⟩ := a
    have hspot : spot = none := by
      have c0 := hcell 0 (by omega)
      simpa [Addr.add] using World.cell?_spot c0
    subst hspot
    refine ⟨b, off, rfl, fun i hi => ?_⟩
    rw [hlt] at hi
    have c0 := hcell i (by omega)
    rw [Addr.add_lit] at c0
    rw [c0]
    simp [List.getD, show i < zs.length by omega]
theorem lawCodesA (v : Value) (w : World) (h : ∃ L : List Int, IReadZ w v L) :
    Calls Try.prog 5 #[v] w fun e w' => e = .returned (.bool true) ∧ Below w.heap.size w w' := by
  obtain ⟨L, hr⟩ := h
  exact lawCodes v L w hr
end Go.Proofs.Ytkbelkdephfhpaa
