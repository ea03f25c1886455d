/-
  Walks: whether a string of one or two bytes is an operator.
-/
import Derived.Test.YtalbmipncoohdaaX6
import Derived.Lib.Bytealg
namespace Go.Proofs.Ytalbmipncoohdaa
open Go.RowKit

set_option maxHeartbeats 1000000 in
set_option maxRecDepth 100000 in
theorem indexByte_any (s : ByteArray) (c : Int) (w : World) :
    Calls Try.prog 36 #[.string s, .int .u8 c] w fun e w' => e = .returned (.int .i64 (Lib.indexByte s.data.toList c.toNat.toUInt8)) ∧ w' = w := by
  go_enter Try.func36, Try.ntmps36
  go_wp2
  rw [run_callFunc_extern Try.func40 (by kernel_rfl) (by kernel_rfl) (by kernel_rfl) (e := Extern.BytealgIndexByte.indexByte) (by kernel_rfl), Lib.run_indexByteString]
  simp only [Result.andThen]
  rw [Oper.upon_value]
  go_wp2
  go_ret
  exact ⟨rfl, rfl⟩

/-- The string of the operators of one byte. -/
def onesS : ByteArray := ⟨#[43, 45, 42, 47, 37, 60, 62, 61, 33, 40, 41, 123, 125, 91, 93, 44, 59]⟩

theorem ones_has : ∀ c : UInt8, (0 ≤ Lib.indexByte onesS.data.toList c) = (c ∈ ones) := by
  have h : ∀ n : Fin 256, decide (0 ≤ Lib.indexByte onesS.data.toList (UInt8.ofNat n.val)) = decide ((UInt8.ofNat n.val) ∈ ones) := by decide +kernel
  intro c
  have := h ⟨c.toNat, c.toNat_lt⟩
  simpa using this

set_option maxHeartbeats 1000000 in
set_option maxRecDepth 100000 in
theorem index1_any (s t : ByteArray) (w : World) (ht : t.size = 1) (hs : 1 < s.size) :
    Calls Try.prog 35 #[.string s, .string t] w fun e w' => e = .returned (.int .i64 (Lib.indexByte s.data.toList t[0])) ∧ w' = w := by
  have hne : (t.toList == s.toList) = false := by
    rw [beq_eq_false_iff_ne]
    intro h
    rw [ByteArray.toList_eq, ByteArray.toList_eq] at h
    have h2 := congrArg List.length h
    simp at h2
    omega
  have e0 : ((t.size : Int) == 0) = false := by rw [ht]; rfl
  have e1 : ((t.size : Int) == 1) = true := by rw [ht]; rfl
  have hb := (t[0]).toNat_lt
  go_enter Try.func35, Try.ntmps35
  go_wp2_with fail
  refine (indexByte_any _ _ _).mono ?_
  rintro e w1 ⟨rfl, rfl⟩
  go_wp2_with fail
  go_ret
  refine ⟨?_, rfl⟩
  simp

set_option maxHeartbeats 1000000 in
set_option maxRecDepth 100000 in
theorem contains1_any (s t : ByteArray) (w : World) (ht : t.size = 1) (hs : 1 < s.size) :
    Calls Try.prog 32 #[.string s, .string t] w fun e w' => e = .returned (.bool (decide (0 ≤ Lib.indexByte s.data.toList t[0]))) ∧ w' = w := by
  have H : ∀ w, Hid (Calls Try.prog 34 #[.string s, .string t] w fun e w' => e = .returned (.int .i64 (Lib.indexByte s.data.toList t[0])) ∧ w' = w) := by
    intro w
    show Calls _ _ _ _ _
    go_enter Try.func34, Try.ntmps34
    go_wp2_with fail
    refine (index1_any _ _ _ ht hs).mono ?_
    rintro e w1 ⟨rfl, rfl⟩
    go_wp2_with fail
    go_ret
    exact ⟨rfl, rfl⟩
  go_enter Try.func32, Try.ntmps32
  go_wp2_with fail
  refine (H _).out.mono ?_
  rintro e w1 ⟨rfl, rfl⟩
  go_wp2_with fail
  go_ret
  exact ⟨rfl, rfl⟩

def isOp (l : List UInt8) : Bool := decide (l ∈ twos) || (l.length == 1 && decide (l.getD 0 0 ∈ ones))

set_option maxHeartbeats 2000000 in
set_option maxRecDepth 100000 in
theorem isOperator_any (s : ByteArray) (w : World) : Calls Try.prog 26 #[.string s] w fun e w' => e = .returned (.bool (isOp s.data.toList)) ∧ w' = w := by
  by_cases h1 : s.size = 1
  · have e1 : ((s.size : Int) == 1) = true := by simp; omega
    have hs : s.data.toList = [s[0]] := by have := drop_at s 0 (by omega); rw [drop_end s (0 + 1) (by omega)] at this; simpa using this
    have q0 : (s.toList == [61, 61]) = false := by rw [ByteArray.toList_eq, hs]; simp
    have q1 : (s.toList == [33, 61]) = false := by rw [ByteArray.toList_eq, hs]; simp
    have q2 : (s.toList == [60, 61]) = false := by rw [ByteArray.toList_eq, hs]; simp
    have q3 : (s.toList == [62, 61]) = false := by rw [ByteArray.toList_eq, hs]; simp
    have q4 : (s.toList == [38, 38]) = false := by rw [ByteArray.toList_eq, hs]; simp
    have q5 : (s.toList == [124, 124]) = false := by rw [ByteArray.toList_eq, hs]; simp
    have q6 : (s.toList == [46, 46]) = false := by rw [ByteArray.toList_eq, hs]; simp
    go_enter Try.func26, Try.ntmps26
    go_wp2_with (go_at_call 32; refine (contains1_any onesS _ _ h1 (by decide)).mono ?_; rintro e w' ⟨rfl, rfl⟩)
    go_ret
    refine ⟨ret_bool ?_, rfl⟩
    rw [hs, isOp]
    have := ones_has s[0]
    simp [this, twos, bytes]
  · have e1 : ((s.size : Int) == 1) = false := by simp; omega
    have hl : s.toList.length ≠ 1 := by rw [ByteArray.toList_eq]; simpa using h1
    go_enter Try.func26, Try.ntmps26
    go_wp2_with fail
    all_goals
      go_ret
      refine ⟨ret_bool ?_, rfl⟩
      rw [isOp, ← ByteArray.toList_eq]
      simp_all [twos, bytes]
end Go.Proofs.Ytalbmipncoohdaa
