/-
  Walk: writing a match.
-/
import Derived.Test.YtppfjofaegbbjaaT4
namespace Go.Proofs.Ytppfjofaegbbjaa
open Go.RowKit

set_option maxRecDepth 100000 in
set_option maxHeartbeats 1000000 in
theorem dmatch_any (w : World) (B g : Nat) (bs : List Bool) (n d : Nat) (h0 : 3 ≤ n) (h1 : n ≤ 258) (h2 : 1 ≤ d) (h3 : d ≤ 4096) (h : Wr 46 w B g bs) (hlen : bs.length < 800000000) :
    Calls Try.prog 33 #[.pointer (some ⟨g, 0, none⟩), .int .i64 n, .int .i64 d] w fun e w' => e = .returned (.tuple #[]) ∧ Wr 46 w' B g (bs ++ matchBits n d) ∧ Fr B [46, 5] w w' := by
  obtain ⟨a1, a2, a3, a4, a5⟩ := lenSym_ok n h0 h1
  obtain ⟨b1, b2, b3, b4⟩ := distSym_ok d h2 h3
  clear a4 b3
  go_enter Try.func33, Try.ntmps33
  go_wp2_with fail
  refine (lenSym_any n _ h1).mono ?_
  rintro e w1 ⟨rfl, rfl⟩
  go_wp2_with fail
  refine (dsymbol_any _ B g bs _ (by omega) (by omega) h (by omega)).mono ?_
  rintro e w1 ⟨rfl, hw1, hf1⟩
  have l1 := symBits_length (lenSym n).1
  rw [Int.toNat_natCast] at hw1
  go_wp2_with fail
  refine (dnumber_any _ B g _ _ _ (by omega) (by omega) (by omega) hw1 (by rw [List.length_append]; omega)).mono ?_
  rintro e w2 ⟨rfl, hw2, hf2⟩
  rw [Int.toNat_natCast] at hw2
  go_wp2_with fail
  refine (distSym_any d _ h2 h3).mono ?_
  rintro e w3 ⟨rfl, rfl⟩
  go_wp2_with fail
  refine (code_any _ B g _ _ _ (by omega) (by omega) (by omega) hw2 (by simp only [List.length_append, numBits_length]; omega)).mono ?_
  rintro e w3 ⟨rfl, hw3, hf3⟩
  rw [Int.toNat_natCast] at hw3
  go_wp2_with fail
  refine (dnumber_any _ B g _ _ _ (by omega) (by omega) (by omega) hw3 (by simp only [List.length_append, numBits_length, codeBits_length]; omega)).mono ?_
  rintro e w4 ⟨rfl, hw4, hf4⟩
  rw [Int.toNat_natCast] at hw4
  go_wp2_with fail
  go_end0
  refine ⟨rfl, ?_, hf1.trans (hf2.trans (hf3.trans hf4))⟩
  have e1 : ((n : Int) - ((lenSym n).2.1 : Int)).toNat = n - (lenSym n).2.1 := by omega
  have e2 : ((d : Int) - ((distSym d).2.1 : Int)).toNat = d - (distSym d).2.1 := by omega
  rw [e1, e2] at hw4
  simp only [List.append_assoc] at hw4
  simp only [matchBits, List.append_assoc]
  exact hw4
end Go.Proofs.Ytppfjofaegbbjaa
