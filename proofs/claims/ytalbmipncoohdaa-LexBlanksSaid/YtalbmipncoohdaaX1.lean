/-
  Walks: the classes of bytes, the reserved words, blanks and comments, in the program and in the reference.
-/
import Derived.Test.YtalbmipncoohdaaProg
import Derived.Test.YtalbmipncoohdaaLib
import Derived.Test.YtalbmipncoohdaaLx
namespace Go.Proofs.Ytalbmipncoohdaa
open Go.RowKit

theorem ret_bool {a b : Bool} (h : a = b) : Ending.returned (.bool a) = .returned (.bool b) := by rw [h]

theorem isDigit_any (c : UInt8) (w : World) : Calls Try.prog 21 #[.int .u8 (c.toNat : Int)] w fun e w' => e = .returned (.bool (dig c)) ∧ w = w' := by
  have hb := c.toNat_lt
  by_cases h1 : 48 ≤ c.toNat
  · go_enter Try.func21, Try.ntmps21
    go_wp2
    go_ret
    refine ⟨ret_bool ?_, rfl⟩
    simp [dig, h1]; omega
  · have hd : decide ((48 : Int) ≤ (c.toNat : Int)) = false := by simp; omega
    go_enter Try.func21, Try.ntmps21
    go_wp2
    go_ret
    refine ⟨ret_bool ?_, rfl⟩
    simp [dig, h1]
theorem rdigit_any (c : UInt8) (w : World) : Calls Try.prog 27 #[.int .u8 (c.toNat : Int)] w fun e w' => e = .returned (.bool (dig c)) ∧ w = w' := by
  have hb := c.toNat_lt
  by_cases h1 : 48 ≤ c.toNat
  · go_enter Try.func27, Try.ntmps27
    go_wp2
    go_ret
    refine ⟨ret_bool ?_, rfl⟩
    simp [dig, h1]; omega
  · have hd : decide ((48 : Int) ≤ (c.toNat : Int)) = false := by simp; omega
    go_enter Try.func27, Try.ntmps27
    go_wp2
    go_ret
    refine ⟨ret_bool ?_, rfl⟩
    simp [dig, h1]

theorem isLetter_any (c : UInt8) (w : World) : Calls Try.prog 23 #[.int .u8 (c.toNat : Int)] w fun e w' => e = .returned (.bool (let8 c)) ∧ w = w' := by
  have hb := c.toNat_lt
  go_enter Try.func23, Try.ntmps23
  go_wp2
  all_goals
    go_ret
    refine ⟨ret_bool ?_, rfl⟩
    rw [Bool.eq_iff_iff]
    simp [let8]
    omega
theorem rletter_any (c : UInt8) (w : World) : Calls Try.prog 29 #[.int .u8 (c.toNat : Int)] w fun e w' => e = .returned (.bool (let8 c)) ∧ w = w' := by
  have hb := c.toNat_lt
  go_enter Try.func29, Try.ntmps29
  go_wp2
  all_goals
    go_ret
    refine ⟨ret_bool ?_, rfl⟩
    rw [Bool.eq_iff_iff]
    simp [let8]
    omega

set_option maxHeartbeats 2000000 in
theorem reserved_any (s : ByteArray) (w : World) : Calls Try.prog 11 #[.string s] w fun e w' => e = .returned (.bool (resv s.data.toList)) ∧ w = w' := by
  go_enter Try.func11, Try.ntmps11
  go_wp2
  all_goals
    go_ret
    refine ⟨ret_bool ?_, rfl⟩
    rw [resv, ← ByteArray.toList_eq]
    simp_all [words, bytes]
set_option maxHeartbeats 2000000 in
theorem rreserved_any (s : ByteArray) (w : World) : Calls Try.prog 12 #[.string s] w fun e w' => e = .returned (.bool (resv s.data.toList)) ∧ w = w' := by
  go_enter Try.func12, Try.ntmps12
  go_wp2
  all_goals
    go_ret
    refine ⟨ret_bool ?_, rfl⟩
    rw [resv, ← ByteArray.toList_eq]
    simp_all [words, bytes]

theorem drop_at (s : ByteArray) (k : Nat) (h : k < s.size) : s.data.toList.drop k = s[k] :: s.data.toList.drop (k + 1) := by
  have h' : k < s.data.toList.length := by simpa using h
  rw [List.drop_eq_getElem_cons h']; rfl

set_option maxHeartbeats 1000000 in
theorem skip_any (s : ByteArray) (p : Nat) (w : World) (hp : p ≤ s.size) (hs : s.size < 1000000) :
    Calls Try.prog 17 #[.string s, .int .i64 p] w fun e w' => e = .returned (.int .i64 (p + skipN false (s.data.toList.drop p) : Nat)) ∧ w = w' := by
  go_enter Try.func17, Try.ntmps17
  go_wp2
  go_loop [1, 5, 6] (fun va vc _ => ∃ (k : Nat) (cm : Bool), va = .int .i64 k ∧ vc = .bool cm ∧ k ≤ s.size ∧ Hid (k + skipN cm (s.data.toList.drop k) = p + skipN false (s.data.toList.drop p))) (fun va _ _ => s.size - (intOf va).toNat)
  case atStart => exact ⟨p, false, rfl, rfl, hp, rfl⟩
  case round =>
    obtain ⟨k, cm, rfl, rfl, hk, hg⟩ := hrel
    by_cases hlt : k < s.size
    · have hd := hg.out
      rw [drop_at s k hlt, skipN] at hd
      have hb := (s[k]).toNat_lt
      have HD := Lib.hid hd
      clear hd hg
      by_cases h10 : (s[k]).toNat = 10
      · have e10 : (((s[k]).toNat : Int) == 10) = true := by simp; omega
        have hd := HD.out
        rw [if_pos h10] at hd
        have HD2 := Lib.hid hd
        clear hd HD
        go_wp2
        go_round
        case rel => exact ⟨k + 1, false, by go_num, rfl, by omega, by show _ = _; have := HD2.out; omega⟩
        case measure => simp [intOf]; omega
      cases cm
      · by_cases h32 : (s[k]).toNat = 32
        · have e10 : (((s[k]).toNat : Int) == 10) = false := by simp; omega
          have e32 : (((s[k]).toNat : Int) == 32) = true := by simp; omega
          have hd := HD.out
          rw [if_neg h10, if_pos (.inr (.inl h32))] at hd
          have HD2 := Lib.hid hd
          clear hd HD
          go_wp2
          go_round
          case rel => exact ⟨k + 1, false, by go_num, rfl, by omega, by show _ = _; have := HD2.out; omega⟩
          case measure => simp [intOf]; omega
        by_cases h9 : (s[k]).toNat = 9
        · have e10 : (((s[k]).toNat : Int) == 10) = false := by simp; omega
          have e32 : (((s[k]).toNat : Int) == 32) = false := by simp; omega
          have e9 : (((s[k]).toNat : Int) == 9) = true := by simp; omega
          have hd := HD.out
          rw [if_neg h10, if_pos (.inr (.inr h9))] at hd
          have HD2 := Lib.hid hd
          clear hd HD
          go_wp2
          go_round
          case rel => exact ⟨k + 1, false, by go_num, rfl, by omega, by show _ = _; have := HD2.out; omega⟩
          case measure => simp [intOf]; omega
        by_cases h35 : (s[k]).toNat = 35
        · have e10 : (((s[k]).toNat : Int) == 10) = false := by simp; omega
          have e32 : (((s[k]).toNat : Int) == 32) = false := by simp; omega
          have e9 : (((s[k]).toNat : Int) == 9) = false := by simp; omega
          have e35 : (((s[k]).toNat : Int) == 35) = true := by simp; omega
          have hd := HD.out
          rw [if_neg h10, if_neg (by simp [h32, h9]), if_pos h35] at hd
          have HD2 := Lib.hid hd
          clear hd HD
          go_wp2
          go_round
          case rel => exact ⟨k + 1, true, by go_num, rfl, by omega, by show _ = _; have := HD2.out; omega⟩
          case measure => simp [intOf]; omega
        have e10 : (((s[k]).toNat : Int) == 10) = false := by simp; omega
        have e32 : (((s[k]).toNat : Int) == 32) = false := by simp; omega
        have e9 : (((s[k]).toNat : Int) == 9) = false := by simp; omega
        have e35 : (((s[k]).toNat : Int) == 35) = false := by simp; omega
        have hd := HD.out
        rw [if_neg h10, if_neg (by simp [h32, h9]), if_neg h35] at hd
        have HD2 := Lib.hid hd
        clear hd HD
        go_wp2
        go_ret
        exact ⟨ret_int (by have := HD2.out; omega), rfl⟩
      · have e10 : (((s[k]).toNat : Int) == 10) = false := by simp; omega
        have hd := HD.out
        rw [if_neg h10, if_pos (.inl rfl)] at hd
        have HD2 := Lib.hid hd
        clear hd HD
        go_wp2
        go_round
        case rel => exact ⟨k + 1, true, by go_num, rfl, by omega, by show _ = _; have := HD2.out; omega⟩
        case measure => simp [intOf]; omega
    · have hend : Hid (p + skipN false (s.data.toList.drop p) = k) := by
        show _ = _
        rw [← hg.out, List.drop_of_length_le (by simp; omega)]; simp [skipN]
      go_wp2
      go_ret
      exact ⟨ret_int (by have := hend.out; omega), rfl⟩
end Go.Proofs.Ytalbmipncoohdaa
