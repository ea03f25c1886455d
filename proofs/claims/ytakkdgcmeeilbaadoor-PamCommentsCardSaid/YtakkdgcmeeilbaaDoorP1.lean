/-
  Walks: spaces and numbers, in the program and in the reference.
-/
import Derived.Test.YtakkdgcmeeilbaaDoorPm
import Derived.Test.YtakkdgcmeeilbaaDoorM2
namespace Go.Proofs.YtakkdgcmeeilbaaDoor
open Go.RowKit

theorem spc_eq (c : UInt8) : spc c = (decide ((c.toNat : Int) = 9) || decide ((c.toNat : Int) = 10) || decide ((c.toNat : Int) = 13) || decide ((c.toNat : Int) = 32)) := by
  have key : ∀ n : Fin 256, spc (UInt8.ofNat n.val) = (decide ((n.val : Int) = 9) || decide ((n.val : Int) = 10) || decide ((n.val : Int) = 13) || decide ((n.val : Int) = 32)) := by decide +kernel
  have h := key ⟨c.toNat, c.toNat_lt⟩
  simpa using h
theorem spc4 (n : Int) : (n == 9 || n == 10 || n == 13 || n == 32) = (decide (n = 9) || decide (n = 10) || decide (n = 13) || decide (n = 32)) := by
  by_cases h : n = 9 <;> by_cases h2 : n = 10 <;> by_cases h3 : n = 13 <;> by_cases h4 : n = 32 <;> simp [h, h2, h3, h4]
theorem isSpace_any (c : UInt8) (w : World) : Calls Tryd.prog 56 #[.int .u8 (c.toNat : Int)] w fun e w' => e = .returned (.bool (spc c)) ∧ w = w' := by
  rw [spc_eq]
  generalize (c.toNat : Int) = n
  go_enter Tryd.func56, Tryd.ntmps56
  go_wp2_with fail
  all_goals
    go_ret
    refine ⟨?_, rfl⟩
    first
    | (simp_all; done)
    | exact ret_bool (spc4 n)
/-- The state of reading a number: n is the number of the first i bytes, which are digits. -/
def NumAt (s : ByteArray) (i n : Nat) : Prop := i ≤ s.size ∧ (s.data.toList.take i).all dig = true ∧ n = decV (s.data.toList.take i) 0
theorem NumAt.zero (s : ByteArray) : NumAt s 0 0 := ⟨Nat.zero_le _, rfl, rfl⟩
theorem NumAt.lt {s : ByteArray} {i n : Nat} (h : NumAt s i n) (hi : i ≤ 9) : n ≤ 999999999 ∧ (i ≤ 8 → n ≤ 99999999) := by
  obtain ⟨h1, h2, rfl⟩ := h
  have h3 := decV_lt _ h2 0
  have h4 : (s.data.toList.take i).length = i := by simp; omega
  rw [h4] at h3
  have h5 : 10 ^ i ≤ 10 ^ 9 := Nat.pow_le_pow_right (by decide) hi
  refine ⟨by omega, fun h8 => ?_⟩
  have h6 : 10 ^ i ≤ 10 ^ 8 := Nat.pow_le_pow_right (by decide) h8
  omega
theorem NumAt.step {s : ByteArray} {i n : Nat} (h : NumAt s i n) (hi : i < s.size) (hd : dig s[i] = true) : NumAt s (i + 1) (10 * n + ((s[i]).toNat - 48)) := by
  obtain ⟨h1, h2, rfl⟩ := h
  refine ⟨hi, ?_, ?_⟩
  · rw [take_snoc s i hi, List.all_append, h2]; simp [hd]
  · rw [take_snoc s i hi, decV_append]; rfl
theorem NumAt.fin {s : ByteArray} {i n : Nat} (h : NumAt s i n) (hi : i ≤ 9) (he : ∀ h : i < s.size, dig s[i] = false) : numAt s.data.toList = (n, i) := by
  obtain ⟨h1, h2, rfl⟩ := h
  have e := tw_end s.data.toList i (by simpa using h1) h2 (fun h => he (by simpa using h))
  unfold numAt
  rw [e]
  have h4 : (s.data.toList.take i).length = i := by simp; omega
  rw [h4, if_neg (by omega)]
theorem NumAt.many {s : ByteArray} {n : Nat} (h : NumAt s 9 n) (hi : 9 < s.size) (he : dig s[9] = true) : numAt s.data.toList = (0, 0) := by
  obtain ⟨h1, h2, rfl⟩ := h
  have e := tw_more s.data.toList 9 (by simpa using hi) h2 he
  unfold numAt
  rw [if_pos e]

set_option maxHeartbeats 1000000 in
set_option maxRecDepth 100000 in
theorem readNumber_any (s : ByteArray) (w : World) : Calls Tryd.prog 51 #[.string s] w fun e w' => e = .returned (.tuple #[.int .i64 (numAt s.data.toList).1, .int .i64 (numAt s.data.toList).2]) ∧ w = w' := by
  go_enter Tryd.func51, Tryd.ntmps51
  go_wp2_with fail
  go_loop [2, 3] (fun vn vi => ∃ i n : Nat, vi = .int .i64 i ∧ vn = .int .i64 n ∧ i ≤ s.size ∧ i ≤ 9 ∧ Hid (NumAt s i n)) (fun _ vi => s.size - (intOf vi).toNat)
  case atStart => exact ⟨0, 0, rfl, rfl, Nat.zero_le _, by decide, NumAt.zero s⟩
  case round =>
    obtain ⟨i, n, rfl, rfl, hi, h9, ha⟩ := hrel
    by_cases hlt : i < s.size
    · have hcl : decide ((i : Int) < (s.size : Int)) = true := by simp; omega
      cases hb1 : decide (48 ≤ (s[i]).toNat) with
      | false =>
        have HR : Hid (numAt s.data.toList = (n, i)) := ha.out.fin h9 (fun _ => by simp [dig, hb1])
        have e1 : decide ((48 : Int) ≤ ((s[i]).toNat : Int)) = false := by simp at hb1 ⊢; omega
        clear hb1
        go_wp2_with fail
        refine bodyPost_ret (v := .tuple #[.int .i64 (n : Nat), .int .i64 (i : Nat)]) (by simp [results, Tryd.f51, go_sem]) rfl ⟨?_, rfl⟩
        rw [HR.out]
      | true =>
        have e1 : decide ((48 : Int) ≤ ((s[i]).toNat : Int)) = true := by simp at hb1 ⊢; omega
        cases hb2 : decide ((s[i]).toNat ≤ 57) with
        | false =>
          have HR : Hid (numAt s.data.toList = (n, i)) := ha.out.fin h9 (fun _ => by simp [dig, hb2])
          have e2 : decide (((s[i]).toNat : Int) ≤ 57) = false := by simp at hb2 ⊢; omega
          clear hb2 hb1
          go_wp2_with fail
          refine bodyPost_ret (v := .tuple #[.int .i64 (n : Nat), .int .i64 (i : Nat)]) (by simp [results, Tryd.f51, go_sem]) rfl ⟨?_, rfl⟩
          rw [HR.out]
        | true =>
          have e2 : decide (((s[i]).toNat : Int) ≤ 57) = true := by simp at hb2 ⊢; omega
          have hd : dig s[i] = true := by simp [dig, hb1, hb2]
          by_cases hi9 : i = 9
          · subst hi9
            have HR : Hid (numAt s.data.toList = (0, 0)) := ha.out.many hlt hd
            clear hb1 hb2 hd
            go_wp2_with fail
            refine bodyPost_ret (v := .tuple #[.int .i64 (0 : Nat), .int .i64 (0 : Nat)]) (by simp [results, Tryd.f51, go_sem]) rfl ⟨?_, rfl⟩
            rw [HR.out]
          · have HN := Lib.hid (ha.out.step hlt hd)
            have hn8 := (ha.out.lt h9).2 (by omega)
            have e3 : ((i : Int) == 9) = false := by simp; omega
            simp only [decide_eq_true_eq] at hb1 hb2
            clear hd
            go_wp2_with fail
            go_round
            case rel => exact ⟨i + 1, 10 * n + ((s[i]).toNat - 48), by go_num, by congr 1; omega, by omega, by omega, HN⟩
            case measure => simp [intOf]; omega
    · have hcl : decide ((i : Int) < (s.size : Int)) = false := by simp; omega
      have HR : Hid (numAt s.data.toList = (n, i)) := ha.out.fin h9 (fun h => absurd h hlt)
      go_wp2_with fail
      refine bodyPost_ret (v := .tuple #[.int .i64 (n : Nat), .int .i64 (i : Nat)]) (by simp [results, Tryd.f51, go_sem]) rfl ⟨?_, rfl⟩
      rw [HR.out]
end Go.Proofs.YtakkdgcmeeilbaaDoor
