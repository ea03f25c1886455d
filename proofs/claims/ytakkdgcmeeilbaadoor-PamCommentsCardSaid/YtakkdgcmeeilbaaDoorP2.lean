/-
  Walks: beginnings, numbers, words, in the program and in the reference.
-/
import Derived.Test.YtakkdgcmeeilbaaDoorP1
import Derived.Test.YtakkdgcmeeilbaaDoorCut
namespace Go.Proofs.YtakkdgcmeeilbaaDoor
open Go.RowKit

/-- l begins with p. -/
def begP (p l : List UInt8) : Bool := decide (p.length ≤ l.length) && (l.take p.length == p)
theorem ba_extract_eq (s p : ByteArray) (n : Nat) : ((s.extract 0 n).toList == p.toList) = (s.data.toList.take n == p.data.toList) := by
  rw [ByteArray.toList_eq, ByteArray.toList_eq, extract_list]; simp
theorem hasPre0_any (s p : ByteArray) (w : World) : Calls Tryd.prog 47 #[.string s, .string p] w fun e w' => e = .returned (.bool (begP p.data.toList s.data.toList)) ∧ w = w' := by
  have HL : Hid (p.data.toList.length = p.size ∧ s.data.toList.length = s.size) := ⟨by simp, by simp⟩
  cases hc : decide (p.size ≤ s.size) with
  | true =>
    have hc0 : p.size ≤ s.size := by simpa using hc
    have hc' : decide ((p.size : Int) ≤ (s.size : Int)) = true := by simp at hc ⊢; omega
    have hc2 : (p.size : Int) ≤ (s.size : Int) := by omega
    clear hc
    go_enter Tryd.func47, Tryd.ntmps47
    go_wp2_with fail
    go_ret
    refine ⟨ret_bool ?_, rfl⟩
    unfold begP
    rw [HL.out.1, HL.out.2, decide_eq_true hc0, ← ba_extract_eq]
    simp
  | false =>
    have hc0 : ¬ p.size ≤ s.size := by simpa using hc
    have hc' : decide ((p.size : Int) ≤ (s.size : Int)) = false := by simp at hc ⊢; omega
    clear hc
    go_enter Tryd.func47, Tryd.ntmps47
    go_wp2_with fail
    go_ret
    refine ⟨ret_bool ?_, rfl⟩
    unfold begP
    rw [HL.out.1, HL.out.2, decide_eq_false hc0]
    rfl
theorem hasPre_any (s p : ByteArray) (w : World) : Calls Tryd.prog 35 #[.string s, .string p] w fun e w' => e = .returned (.bool (begP p.data.toList s.data.toList)) ∧ w = w' := by
  have H := Lib.hid (fun w => hasPre0_any s p w)
  go_enter Tryd.func35, Tryd.ntmps35
  go_wp2_with fail
  refine (H.out _).mono ?_
  rintro e w1 ⟨rfl, rfl⟩
  go_wp2_with fail
  go_ret
  exact ⟨rfl, rfl⟩
set_option maxHeartbeats 1000000 in
theorem within_any (s : ByteArray) (most lo : Nat) (w : World) (hs : s.size ≤ maxLen) (_hm : most ≤ 1000) (_hlo : lo ≤ 126) :
    Calls Tryd.prog 66 #[.string s, .int .i64 most, .int .u8 lo] w fun e w' => e = .returned (.bool (okTxt most lo s.data.toList)) ∧ w = w' := by
  unfold maxLen at hs
  have hlen : s.data.toList.length = s.size := by simp
  have HL := Lib.hid hlen
  clear hlen
  go_enter Tryd.func66, Tryd.ntmps66
  go_wp2_with fail
  go_loop [10] (fun vi => ∃ i : Nat, vi = .int .i64 i ∧ i ≤ s.size ∧ Hid ((s.data.toList.take i).all (okC lo) = true)) (fun vi => s.size - (intOf vi).toNat)
  case atStart => exact ⟨0, rfl, Nat.zero_le _, rfl⟩
  case round =>
    obtain ⟨i, rfl, hi, ha⟩ := hrel
    by_cases hlt : i < s.size
    · have hcl : decide ((i : Int) < (s.size : Int)) = true := by simp; omega
      have HS := Lib.hid (take_snoc s i hlt)
      by_cases hb1 : (s[i]).toNat < lo
      · have HB : Hid (s.data.toList.all (okC lo) = false) := all_bad _ s i hlt (by simp [okC]; omega)
        have e1 : decide (((s[i]).toNat : Int) < (lo : Int)) = true := by simp; omega
        go_wp2_with fail
        go_ret
        exact ⟨ret_bool (okTxt_all HB.out).symm, rfl⟩
      have e1 : decide (((s[i]).toNat : Int) < (lo : Int)) = false := by simp; omega
      by_cases hb2 : 126 < (s[i]).toNat
      · have HB : Hid (s.data.toList.all (okC lo) = false) := all_bad _ s i hlt (by simp [okC]; omega)
        have e2 : decide ((126 : Int) < ((s[i]).toNat : Int)) = true := by simp; omega
        go_wp2_with fail
        go_ret
        exact ⟨ret_bool (okTxt_all HB.out).symm, rfl⟩
      · have e2 : decide ((126 : Int) < ((s[i]).toNat : Int)) = false := by simp; omega
        have HO : Hid (okC lo s[i] = true) := by show _ = _; simp [okC]; omega
        go_wp2_with fail
        go_round
        case rel => exact ⟨i + 1, by go_num, by omega, by show _ = _; rw [HS.out, List.all_append, ha.out]; simp [HO.out]⟩
        case measure => simp [intOf]; omega
    · have hcl : decide ((i : Int) < (s.size : Int)) = false := by simp; omega
      have ha2 : Hid (s.data.toList.all (okC lo) = true) := by have := ha.out; rwa [List.take_of_length_le (by rw [HL.out]; omega)] at this
      by_cases h1 : 1 ≤ s.size
      · have d1 : decide ((1 : Int) ≤ (s.size : Int)) = true := by simp; omega
        by_cases h2 : s.size ≤ most
        · have d2 : decide ((s.size : Int) ≤ (most : Int)) = true := by simp; omega
          go_wp2_with fail
          go_ret
          exact ⟨ret_bool (by unfold okTxt; rw [ha2.out, HL.out, decide_eq_true h1, decide_eq_true h2]; rfl), rfl⟩
        · have d2 : decide ((s.size : Int) ≤ (most : Int)) = false := by simp; omega
          go_wp2_with fail
          go_ret
          exact ⟨ret_bool (by unfold okTxt; rw [HL.out, decide_eq_false h2]; simp), rfl⟩
      · have d1 : decide ((1 : Int) ≤ (s.size : Int)) = false := by simp; omega
        go_wp2_with fail
        go_ret
        exact ⟨ret_bool (by unfold okTxt; rw [HL.out, decide_eq_false h1]; rfl), rfl⟩

theorem NumAt.lt10 {s : ByteArray} {i n : Nat} (h : NumAt s i n) (hi : i ≤ 10) : n ≤ 9999999999 ∧ (i ≤ 9 → n ≤ 999999999) := by
  obtain ⟨h1, h2, rfl⟩ := h
  have h3 := decV_lt _ h2 0
  have h4 : (s.data.toList.take i).length = i := by simp; omega
  rw [h4] at h3
  have h5 : 10 ^ i ≤ 10 ^ 10 := Nat.pow_le_pow_right (by decide) hi
  refine ⟨by omega, fun h8 => ?_⟩
  have h6 : 10 ^ i ≤ 10 ^ 9 := Nat.pow_le_pow_right (by decide) h8
  omega
theorem numP_bad {s : ByteArray} {i : Nat} (hi : i < s.size) (hd : dig s[i] = false) : numP s.data.toList = none := by
  unfold numP
  rw [if_neg]
  rintro ⟨-, -, h⟩
  rw [all_bad dig s i hi hd] at h
  cases h
/-- The answer of the reference's number. -/
def numB (l : List UInt8) : Bool := (numP l).isSome
/-- The index of a word of a header, or -1. -/
def wIx (u : List UInt8) : Int := if u = [87, 73, 68, 84, 72] then 0 else if u = [72, 69, 73, 71, 72, 84] then 1 else if u = [68, 69, 80, 84, 72] then 2 else if u = [77, 65, 88, 86, 65, 76] then 3 else -1
theorem wordIndex_any (s : ByteArray) (w : World) : Calls Tryd.prog 50 #[.string s] w fun e w' => e = .returned (.int .i64 (wIx s.data.toList)) ∧ w = w' := by
  obtain ⟨b1, h1⟩ : ∃ b, (s.toList == [87, 73, 68, 84, 72]) = b := ⟨_, rfl⟩
  obtain ⟨b2, h2⟩ : ∃ b, (s.toList == [72, 69, 73, 71, 72, 84]) = b := ⟨_, rfl⟩
  obtain ⟨b3, h3⟩ : ∃ b, (s.toList == [68, 69, 80, 84, 72]) = b := ⟨_, rfl⟩
  obtain ⟨b4, h4⟩ : ∃ b, (s.toList == [77, 65, 88, 86, 65, 76]) = b := ⟨_, rfl⟩
  have HW : Hid (wIx s.data.toList = if b1 then 0 else if b2 then 1 else if b3 then 2 else if b4 then 3 else -1) := by
    show _ = _
    subst h1 h2 h3 h4
    simp only [ByteArray.toList_eq, wIx, beq_iff_eq]
  cases b1 with
  | true => go_enter Tryd.func50, Tryd.ntmps50; go_wp2_with fail; go_ret; exact ⟨by rw [HW.out]; rfl, rfl⟩
  | false =>
    cases b2 with
    | true => go_enter Tryd.func50, Tryd.ntmps50; go_wp2_with fail; go_ret; exact ⟨by rw [HW.out]; rfl, rfl⟩
    | false =>
      cases b3 with
      | true => go_enter Tryd.func50, Tryd.ntmps50; go_wp2_with fail; go_ret; exact ⟨by rw [HW.out]; rfl, rfl⟩
      | false =>
        cases b4 with
        | true => go_enter Tryd.func50, Tryd.ntmps50; go_wp2_with fail; go_ret; exact ⟨by rw [HW.out]; rfl, rfl⟩
        | false => go_enter Tryd.func50, Tryd.ntmps50; go_wp2_with fail; go_ret; exact ⟨by rw [HW.out]; rfl, rfl⟩
end Go.Proofs.YtakkdgcmeeilbaaDoor
