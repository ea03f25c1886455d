/-
  The library's Itoa, at numbers that are not negative.
-/
import Derived.Test.YtakkdgcmeeilbaaDoorIto
import Derived.Test.YtakkdgcmeeilbaaDoorFw
namespace Go.Proofs.YtakkdgcmeeilbaaDoor
open Go.RowKit

theorem below_grow (w : World) (k : Nat) (os : Array Obj) : Below w.heap.size w (Sort.grow (w.drewN k) os) := by
  have h := below_drewN (Below.refl w.heap.size w) k
  have hs : (w.drewN k).heap.size = w.heap.size := by simp
  refine ⟨h.os, h.tape, h.output, by have := h.size; simp [Sort.grow], fun b hb => ?_⟩
  rw [← h.block b hb]
  show ((w.drewN k).heap ++ os)[b]? = _
  rw [Array.getElem?_append_left (by omega)]
theorem itoa_nat (n : Nat) (h : n ≤ 1000000) (w : World) (htab : Lib.TabIs Tryd.prog w "internal/strconv.uint64pow10" .u64 Lib.pow10Tab) :
    Calls Tryd.prog 16 #[.int .i64 (n : Int)] w fun e w' => ∃ v, e = .returned v ∧ (v = .string ⟨(Lib.decDigits n).toArray⟩ ∧ Below w.heap.size w w') := by
  refine (Tryd.strconv_Itoa (n : Int) (by omega) (by omega) w htab).mono ?_
  rintro e w' ⟨rfl, k, os, rfl⟩
  exact ⟨_, rfl, by rw [Lib.itoa_nonneg], below_grow w k os⟩
theorem ORow2.below {w w' : World} {base : Nat} {e : TypeId} {v : Value} {l : List UInt8} (h : ORow2 w base e v l) (hb : Below w.heap.size w w') : ORow2 w' base e v l := by
  rcases h with h | h
  · exact .inl ((Fr.of_below (B := 0) hb []).owns h (by simp))
  · exact .inr (h.below hb)
end Go.Proofs.YtakkdgcmeeilbaaDoor
