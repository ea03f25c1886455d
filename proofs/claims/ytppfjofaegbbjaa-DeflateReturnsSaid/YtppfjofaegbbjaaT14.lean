/-
  Walks: deflate.Best, the examples of the chapter, and the law DeflateStores.
-/
import Derived.Test.YtppfjofaegbbjaaT13
namespace Go.Proofs.Ytppfjofaegbbjaa
open Go.RowKit

def best (l : List UInt8) : List UInt8 := if (fixed l).length < (stored l).length then fixed l else stored l

theorem ex_a : fixed ([97] : List UInt8) = [75, 4, 0] := by
  have h : fixedBits [97] = [true, true, false, true, false, false, true, false, false, false, true, false, false, false, false, false, false, false] := by decide +kernel
  rw [fixed, h]
  simp [pack, byteOf]
theorem ex_nil : fixed ([] : List UInt8) = [3, 0] := by
  have h : fixedBits [] = [true, true, false, false, false, false, false, false, false, false] := by decide +kernel
  rw [fixed, h]
  simp [pack, byteOf]
theorem ex_st : stored ([] : List UInt8) = [1, 0, 0, 255, 255] := by
  rw [stored]; decide
theorem ex_st_a : stored ([97] : List UInt8) = [1, 1, 0, 254, 255, 97] := by
  rw [stored]; decide

theorem fixed_a (w : World) : Calls Try.prog 12 #[.string ⟨#[97]⟩] w fun e w' => e = .returned (.string ⟨#[75, 4, 0]⟩) ∧ Below w.heap.size w w' := by
  have h := fixed_any ⟨#[97]⟩ w (by decide)
  have e : List.take 1048576 (⟨#[97]⟩ : ByteArray).data.toList = [97] := rfl
  rw [e, ex_a] at h
  exact h
theorem fixed_nil (w : World) : Calls Try.prog 12 #[.string ⟨#[]⟩] w fun e w' => e = .returned (.string ⟨#[3, 0]⟩) ∧ Below w.heap.size w w' := by
  have h := fixed_any ⟨#[]⟩ w (by decide)
  have e : List.take 1048576 (⟨#[]⟩ : ByteArray).data.toList = [] := rfl
  rw [e, ex_nil] at h
  exact h
theorem stored_nil (w : World) : Calls Try.prog 9 #[.string ⟨#[]⟩] w fun e w' => e = .returned (.string ⟨#[1, 0, 0, 255, 255]⟩) ∧ Below w.heap.size w w' := by
  have h := dstored_any ⟨#[]⟩ w (by decide)
  have e : List.take 1048576 (⟨#[]⟩ : ByteArray).data.toList = [] := rfl
  rw [e, ex_st] at h
  exact h

set_option maxHeartbeats 400000 in
theorem best_any (s : ByteArray) (w : World) (hs : s.size ≤ maxLen) :
    Calls Try.prog 20 #[.string s] w fun e w' => e = .returned (.string ⟨(best (s.data.toList.take 1048576)).toArray⟩) ∧ Below w.heap.size w w' := by
  have h1 := fun w => fixed_any s w hs
  have h2 := fun w => dstored_any s w hs
  have hb : Hid (best (s.data.toList.take 1048576) = if (fixed (s.data.toList.take 1048576)).length < (stored (s.data.toList.take 1048576)).length then fixed (s.data.toList.take 1048576) else stored (s.data.toList.take 1048576)) := rfl
  generalize fixed (s.data.toList.take 1048576) = a at *
  generalize stored (s.data.toList.take 1048576) = b at *
  have H1 := Lib.hid h1
  have H2 := Lib.hid h2
  clear h1 h2
  go_enter Try.func20, Try.ntmps20
  go_wp2_with fail
  refine (H1.out _).mono ?_
  rintro e w1 ⟨rfl, hb1⟩
  go_wp2_with fail
  refine (H2.out _).mono ?_
  rintro e w2 ⟨rfl, hb2⟩
  by_cases hlt : a.length < b.length
  · go_wp2_with fail
    go_ret
    rw [hb.out, if_pos hlt]
    exact ⟨rfl, bthen hb1 hb2⟩
  · go_wp2_with fail
    go_ret
    rw [hb.out, if_neg hlt]
    exact ⟨rfl, bthen hb1 hb2⟩
theorem best_a (w : World) : Calls Try.prog 20 #[.string ⟨#[97]⟩] w fun e w' => e = .returned (.string ⟨#[75, 4, 0]⟩) ∧ Below w.heap.size w w' := by
  have h := best_any ⟨#[97]⟩ w (by decide)
  have e : List.take 1048576 (⟨#[97]⟩ : ByteArray).data.toList = [97] := rfl
  have e2 : best [97] = [75, 4, 0] := by rw [best, ex_a, ex_st_a]; decide
  rw [e, e2] at h
  exact h

set_option maxHeartbeats 400000 in
theorem example_any (w : World) : Calls Try.prog 11 #[] w fun e w' => e = .returned (.bool true) ∧ Below w.heap.size w w' := by
  go_enter Try.func11, Try.ntmps11
  go_wp2_with fail
  refine (fixed_a _).mono ?_
  rintro e w1 ⟨rfl, hb1⟩
  go_wp2_with fail
  refine (fixed_nil _).mono ?_
  rintro e w2 ⟨rfl, hb2⟩
  go_wp2_with fail
  refine (stored_nil _).mono ?_
  rintro e w3 ⟨rfl, hb3⟩
  go_wp2_with fail
  refine (best_a _).mono ?_
  rintro e w4 ⟨rfl, hb4⟩
  go_wp2_with fail
  refine (fixed_a _).mono ?_
  rintro e w5 ⟨rfl, hb5⟩
  go_wp2_with fail
  go_ret
  exact ⟨rfl, bthen (bthen (bthen (bthen hb1 hb2) hb3) hb4) hb5⟩

set_option maxHeartbeats 400000 in
theorem lawStores (s : ByteArray) (w : World) (hs : s.size ≤ maxLen) :
    Calls Try.prog 3 #[.string s] w fun e w' => e = .returned (.bool true) ∧ Below w.heap.size w w' := by
  have h1 := fun w => dstored_any s w hs
  have h2 := fun w => rstored_any s w hs
  generalize stored (s.data.toList.take 1048576) = b at *
  have H1 := Lib.hid h1
  have H2 := Lib.hid h2
  clear h1 h2
  go_enter Try.func3, Try.ntmps3
  go_wp2_with fail
  refine (H1.out _).mono ?_
  rintro e w1 ⟨rfl, hb1⟩
  go_wp2_with fail
  refine (H2.out _).mono ?_
  rintro e w2 ⟨rfl, hb2⟩
  go_wp2_with fail
  refine (example_any _).mono ?_
  rintro e w3 ⟨rfl, hb3⟩
  go_wp2_with fail
  go_ret
  exact ⟨rfl, bthen (bthen hb1 hb2) hb3⟩
end Go.Proofs.Ytppfjofaegbbjaa
