/-
  Walks: keys and values, in the program and in the reference.
-/
import Derived.Test.YtakileiomgaahaaMp
import Derived.Test.YtakileiomgaahaaLib
import Derived.Test.YtakileiomgaahaaProg
import Derived.Outline
import Derived.StillTailTactics
namespace Go.Proofs.Ytakileiomgaahaa
open Go.RowKit

theorem ret_bool {a b : Bool} (h : a = b) : Ending.returned (.bool a) = .returned (.bool b) := by rw [h]
theorem take_snoc (s : ByteArray) (k : Nat) (h : k < s.size) : s.data.toList.take (k + 1) = s.data.toList.take k ++ [s[k]] := by
  rw [List.take_succ_eq_append_getElem (by simpa using h)]; rfl
theorem all_bad (p : UInt8 → Bool) (s : ByteArray) (k : Nat) (h : k < s.size) (hb : p s[k] = false) : s.data.toList.all p = false := by
  rw [← List.take_append_drop (k + 1) s.data.toList, take_snoc s k h]
  simp [hb]

set_option maxHeartbeats 1000000 in
theorem printable_any (s : ByteArray) (most lo : Nat) (w : World) (hm : most ≤ 1000) (_hlo : lo ≤ 126) :
    Calls Try.prog 102 #[.string s, .int .i64 most, .int .u8 lo] w fun e w' => e = .returned (.bool (okTxt most lo s.data.toList)) ∧ w = w' := by
  have hlen : s.data.toList.length = s.size := by simp
  have HL := Lib.hid hlen
  clear hlen
  by_cases h1 : s.size < 1
  · have hd : decide ((s.size : Int) < 1) = true := by simp; omega
    have HR : Hid (okTxt most lo s.data.toList = false) := by show _ = _; unfold okTxt; rw [HL.out, decide_eq_false (by omega)]; rfl
    go_enter Try.func102, Try.ntmps102
    go_wp2_with fail
    go_ret
    exact ⟨ret_bool HR.out.symm, rfl⟩
  have hd : decide ((s.size : Int) < 1) = false := by simp; omega
  by_cases h2 : most < s.size
  · have hd2 : decide ((most : Int) < (s.size : Int)) = true := by simp; omega
    have HR : Hid (okTxt most lo s.data.toList = false) := by show _ = _; unfold okTxt; rw [HL.out, decide_eq_false (show ¬ s.size ≤ most by omega)]; simp
    go_enter Try.func102, Try.ntmps102
    go_wp2_with fail
    go_ret
    exact ⟨ret_bool HR.out.symm, rfl⟩
  have hd2 : decide ((most : Int) < (s.size : Int)) = false := by simp; omega
  have HR : Hid (okTxt most lo s.data.toList = s.data.toList.all (okC lo)) := by
    show _ = _
    unfold okTxt
    rw [HL.out, decide_eq_true (show 1 ≤ s.size by omega), decide_eq_true (show s.size ≤ most by omega)]; rfl
  go_enter Try.func102, Try.ntmps102
  go_wp2_with fail
  go_loop [19] (fun vi => ∃ i : Nat, vi = .int .i64 i ∧ i ≤ s.size ∧ Hid ((s.data.toList.take i).all (okC lo) = true)) (fun vi => s.size - (intOf vi).toNat)
  case atStart => exact ⟨0, rfl, Nat.zero_le _, rfl⟩
  case round =>
    obtain ⟨i, rfl, hi, ha⟩ := hrel
    by_cases hlt : i < s.size
    · have hcl : decide ((i : Int) < (s.size : Int)) = true := by simp; omega
      have HS := Lib.hid (take_snoc s i hlt)
      by_cases hb1 : (s[i]).toNat < lo
      · have HB : Hid (s.data.toList.all (okC lo) = false) := all_bad _ s i hlt (by simp [okC]; omega)
        have e1 : decide (((s[i]).toNat : Int) < (lo : Int)) = true := by simp; omega
        go_wp2_with fail
        go_ret
        exact ⟨ret_bool (by rw [HR.out, HB.out]), rfl⟩
      have e1 : decide (((s[i]).toNat : Int) < (lo : Int)) = false := by simp; omega
      by_cases hb2 : 126 < (s[i]).toNat
      · have HB : Hid (s.data.toList.all (okC lo) = false) := all_bad _ s i hlt (by simp [okC]; omega)
        have e2 : decide ((126 : Int) < ((s[i]).toNat : Int)) = true := by simp; omega
        go_wp2_with fail
        go_ret
        exact ⟨ret_bool (by rw [HR.out, HB.out]), rfl⟩
      · have e2 : decide ((126 : Int) < ((s[i]).toNat : Int)) = false := by simp; omega
        have HO : Hid (okC lo s[i] = true) := by show _ = _; simp [okC]; omega
        go_wp2_with fail
        go_round
        case rel => exact ⟨i + 1, by go_num, by omega, by show _ = _; rw [HS.out, List.all_append, ha.out]; simp [HO.out]⟩
        case measure => simp [intOf]; omega
    · have hcl : decide ((i : Int) < (s.size : Int)) = false := by simp; omega
      have ha2 : Hid (s.data.toList.all (okC lo) = true) := by have := ha.out; rwa [List.take_of_length_le (by rw [HL.out]; omega)] at this
      go_wp2_with fail
      go_ret
      exact ⟨ret_bool (by rw [HR.out, ha2.out]), rfl⟩

theorem isKey_any (s : ByteArray) (w : World) : Calls Try.prog 83 #[.string s] w fun e w' => e = .returned (.bool (isK s.data.toList)) ∧ w = w' := by
  go_enter Try.func83, Try.ntmps83
  go_wp2_with fail
  refine (printable_any s 32 33 _ (by decide) (by decide)).mono ?_
  rintro e w1 ⟨rfl, rfl⟩
  go_wp2_with fail
  go_ret
  exact ⟨rfl, rfl⟩
theorem isValue_any (s : ByteArray) (w : World) : Calls Try.prog 84 #[.string s] w fun e w' => e = .returned (.bool (isV s.data.toList)) ∧ w = w' := by
  go_enter Try.func84, Try.ntmps84
  go_wp2_with fail
  refine (printable_any s 256 32 _ (by decide) (by decide)).mono ?_
  rintro e w1 ⟨rfl, rfl⟩
  go_wp2_with fail
  go_ret
  exact ⟨rfl, rfl⟩

theorem okTxt_all {most lo : Nat} {s : List UInt8} (h : s.all (okC lo) = false) : okTxt most lo s = false := by unfold okTxt; rw [h]; simp

set_option maxHeartbeats 1000000 in
theorem rName_any (s : ByteArray) (w : World) (hs : s.size ≤ maxLen) : Calls Try.prog 97 #[.string s] w fun e w' => e = .returned (.bool (isK s.data.toList)) ∧ w = w' := by
  unfold maxLen at hs
  have hlen : s.data.toList.length = s.size := by simp
  have HL := Lib.hid hlen
  clear hlen
  go_enter Try.func97, Try.ntmps97
  go_wp2_with fail
  go_loop [3] (fun vi => ∃ i : Nat, vi = .int .i64 i ∧ i ≤ s.size ∧ Hid ((s.data.toList.take i).all (okC 33) = true)) (fun vi => s.size - (intOf vi).toNat)
  case atStart => exact ⟨0, rfl, Nat.zero_le _, rfl⟩
  case round =>
    obtain ⟨i, rfl, hi, ha⟩ := hrel
    by_cases hlt : i < s.size
    · have hcl : decide ((i : Int) < (s.size : Int)) = true := by simp; omega
      have HS := Lib.hid (take_snoc s i hlt)
      by_cases hb1 : (s[i]).toNat < 33
      · have HB : Hid (s.data.toList.all (okC 33) = false) := all_bad _ s i hlt (by simp [okC]; omega)
        have e1 : decide (((s[i]).toNat : Int) < 33) = true := by simp; omega
        go_wp2_with fail
        go_ret
        exact ⟨ret_bool (okTxt_all HB.out).symm, rfl⟩
      have e1 : decide (((s[i]).toNat : Int) < 33) = false := by simp; omega
      by_cases hb2 : 126 < (s[i]).toNat
      · have HB : Hid (s.data.toList.all (okC 33) = false) := all_bad _ s i hlt (by simp [okC]; omega)
        have e2 : decide ((126 : Int) < ((s[i]).toNat : Int)) = true := by simp; omega
        go_wp2_with fail
        go_ret
        exact ⟨ret_bool (okTxt_all HB.out).symm, rfl⟩
      · have e2 : decide ((126 : Int) < ((s[i]).toNat : Int)) = false := by simp; omega
        have HO : Hid (okC 33 s[i] = true) := by show _ = _; simp [okC]; omega
        go_wp2_with fail
        go_round
        case rel => exact ⟨i + 1, by go_num, by omega, by show _ = _; rw [HS.out, List.all_append, ha.out]; simp [HO.out]⟩
        case measure => simp [intOf]; omega
    · have hcl : decide ((i : Int) < (s.size : Int)) = false := by simp; omega
      have ha2 : Hid (s.data.toList.all (okC 33) = true) := by have := ha.out; rwa [List.take_of_length_le (by rw [HL.out]; omega)] at this
      by_cases h1 : 1 ≤ s.size
      · have d1 : decide ((1 : Int) ≤ (s.size : Int)) = true := by simp; omega
        by_cases h2 : s.size ≤ 32
        · have d2 : decide ((s.size : Int) ≤ 32) = true := by simp; omega
          go_wp2_with fail
          go_ret
          exact ⟨ret_bool (by unfold isK okTxt; rw [ha2.out, HL.out, decide_eq_true h1, decide_eq_true h2]; rfl), rfl⟩
        · have d2 : decide ((s.size : Int) ≤ 32) = false := by simp; omega
          go_wp2_with fail
          go_ret
          exact ⟨ret_bool (by unfold isK okTxt; rw [HL.out, decide_eq_false h2]; simp), rfl⟩
      · have d1 : decide ((1 : Int) ≤ (s.size : Int)) = false := by simp; omega
        go_wp2_with fail
        go_ret
        exact ⟨ret_bool (by unfold isK okTxt; rw [HL.out, decide_eq_false h1]; rfl), rfl⟩


set_option maxHeartbeats 1000000 in
theorem rvalue_any (s : ByteArray) (w : World) (hs : s.size ≤ maxLen) : Calls Try.prog 98 #[.string s] w fun e w' => e = .returned (.bool (isV s.data.toList)) ∧ w = w' := by
  unfold maxLen at hs
  have hlen : s.data.toList.length = s.size := by simp
  have HL := Lib.hid hlen
  clear hlen
  go_enter Try.func98, Try.ntmps98
  go_wp2_with fail
  go_loop [3] (fun vi => ∃ i : Nat, vi = .int .i64 i ∧ i ≤ s.size ∧ Hid ((s.data.toList.take i).all (okC 32) = true)) (fun vi => s.size - (intOf vi).toNat)
  case atStart => exact ⟨0, rfl, Nat.zero_le _, rfl⟩
  case round =>
    obtain ⟨i, rfl, hi, ha⟩ := hrel
    by_cases hlt : i < s.size
    · have hcl : decide ((i : Int) < (s.size : Int)) = true := by simp; omega
      have HS := Lib.hid (take_snoc s i hlt)
      by_cases hb1 : (s[i]).toNat < 32
      · have HB : Hid (s.data.toList.all (okC 32) = false) := all_bad _ s i hlt (by simp [okC]; omega)
        have e1 : decide (((s[i]).toNat : Int) < 32) = true := by simp; omega
        go_wp2_with fail
        go_ret
        exact ⟨ret_bool (okTxt_all HB.out).symm, rfl⟩
      have e1 : decide (((s[i]).toNat : Int) < 32) = false := by simp; omega
      by_cases hb2 : 126 < (s[i]).toNat
      · have HB : Hid (s.data.toList.all (okC 32) = false) := all_bad _ s i hlt (by simp [okC]; omega)
        have e2 : decide ((126 : Int) < ((s[i]).toNat : Int)) = true := by simp; omega
        go_wp2_with fail
        go_ret
        exact ⟨ret_bool (okTxt_all HB.out).symm, rfl⟩
      · have e2 : decide ((126 : Int) < ((s[i]).toNat : Int)) = false := by simp; omega
        have HO : Hid (okC 32 s[i] = true) := by show _ = _; simp [okC]; omega
        go_wp2_with fail
        go_round
        case rel => exact ⟨i + 1, by go_num, by omega, by show _ = _; rw [HS.out, List.all_append, ha.out]; simp [HO.out]⟩
        case measure => simp [intOf]; omega
    · have hcl : decide ((i : Int) < (s.size : Int)) = false := by simp; omega
      have ha2 : Hid (s.data.toList.all (okC 32) = true) := by have := ha.out; rwa [List.take_of_length_le (by rw [HL.out]; omega)] at this
      by_cases h1 : 1 ≤ s.size
      · have d1 : decide ((1 : Int) ≤ (s.size : Int)) = true := by simp; omega
        by_cases h2 : s.size ≤ 256
        · have d2 : decide ((s.size : Int) ≤ 256) = true := by simp; omega
          go_wp2_with fail
          go_ret
          exact ⟨ret_bool (by unfold isV okTxt; rw [ha2.out, HL.out, decide_eq_true h1, decide_eq_true h2]; rfl), rfl⟩
        · have d2 : decide ((s.size : Int) ≤ 256) = false := by simp; omega
          go_wp2_with fail
          go_ret
          exact ⟨ret_bool (by unfold isV okTxt; rw [HL.out, decide_eq_false h2]; simp), rfl⟩
      · have d1 : decide ((1 : Int) ≤ (s.size : Int)) = false := by simp; omega
        go_wp2_with fail
        go_ret
        exact ⟨ret_bool (by unfold isV okTxt; rw [HL.out, decide_eq_false h1]; rfl), rfl⟩

end Go.Proofs.Ytakileiomgaahaa
