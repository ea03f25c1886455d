/-
  Walks: floors and rounded quotients by positive numbers, in the program and in the reference.
-/
import Derived.Test.YtgjbelcnkmcbiaaDoorLib
import Derived.Test.YtgjbelcnkmcbiaaDoorProg
import Derived.Outline
import Derived.StillTailTactics
namespace Go.Proofs.YtgjbelcnkmcbiaaDoor
open Go.RowKit

/-- a divided by b, rounded to the nearest integer, halves up. -/
def rdI (a b : Int) : Int := (2 * a + b) / (2 * b)
theorem tdiv_facts (a b : Int) (hb : 0 < b) : a = b * a.tdiv b + a.tmod b ∧ (0 ≤ a → 0 ≤ a.tmod b ∧ a.tmod b < b) ∧ (a < 0 → -b < a.tmod b ∧ a.tmod b ≤ 0) := by
  refine ⟨(Int.mul_tdiv_add_tmod a b).symm, fun h => ⟨Int.tmod_nonneg b h, Int.tmod_lt_of_pos a hb⟩, fun h => ?_⟩
  have h1 : (-a).tmod b = -(a.tmod b) := Int.neg_tmod a b
  have h2 := Int.tmod_nonneg b (show 0 ≤ -a by omega)
  have h3 := Int.tmod_lt_of_pos (-a) hb
  omega
theorem floor_facts (a b : Int) (hb : 0 < b) : a / b = if a.tmod b ≠ 0 ∧ a < 0 then a.tdiv b - 1 else a.tdiv b := by
  obtain ⟨h1, h2, h3⟩ := tdiv_facts a b hb
  generalize a.tdiv b = q at *
  generalize a.tmod b = r at *
  split
  · rename_i h
    have := h3 h.2
    exact (Int.ediv_emod_unique hb (r := r + b) (q := q - 1) |>.2 ⟨by rw [Int.mul_sub]; omega, by omega, by omega⟩).1
  · rename_i h
    have hr : 0 ≤ r ∧ r < b := by
      rcases Int.lt_or_le a 0 with h0 | h0
      · have := h3 h0
        have hz : r = 0 := Classical.byContradiction fun e => h ⟨e, h0⟩
        omega
      · exact h2 h0
    exact (Int.ediv_emod_unique hb (r := r) (q := q) |>.2 ⟨by omega, hr.1, hr.2⟩).1
theorem floor_le (a b M : Int) (hb : 0 < b) (h1 : -M ≤ a) (h2 : a ≤ M) (hM : 0 ≤ M) : -M - 1 ≤ a.tdiv b ∧ a.tdiv b ≤ M + 1 ∧ -M - 1 ≤ a / b ∧ a / b ≤ M := by
  have e1 : a / b ≤ M := by
    apply Int.le_of_lt_add_one
    rw [Int.ediv_lt_iff_lt_mul hb]
    have : M + 1 ≤ (M + 1) * b := by
      have := Int.mul_le_mul_of_nonneg_left (show (1 : Int) ≤ b by omega) (show 0 ≤ M + 1 by omega)
      omega
    omega
  have e2 : -M - 1 ≤ a / b := by
    rw [Int.le_ediv_iff_mul_le hb]
    have : (-M - 1) * b ≤ -M - 1 := by
      have := Int.mul_le_mul_of_nonneg_left (show (1 : Int) ≤ b by omega) (show 0 ≤ M + 1 by omega)
      rw [show -M - 1 = -(M + 1) by omega, Int.neg_mul]
      omega
    omega
  have e3 := floor_facts a b hb
  split at e3 <;> omega
theorem rd_facts (a b : Int) (hb : 0 < b) : rdI a b = if b - (a - b * (a / b)) ≤ a - b * (a / b) then a / b + 1 else a / b := by
  have h1 := Int.mul_ediv_add_emod a b
  have h2 := Int.emod_nonneg a (show b ≠ 0 by omega)
  have h3 := Int.emod_lt_of_pos a hb
  have e : a - b * (a / b) = a % b := by omega
  rw [e]
  unfold rdI
  generalize a / b = q at *
  generalize a % b = r at *
  have hm : (2 * b) * (q + 1) = 2 * (b * q) + 2 * b := by rw [Int.mul_add, Int.mul_one, Int.mul_assoc]
  have hm0 : (2 * b) * q = 2 * (b * q) := by rw [Int.mul_assoc]
  split
  · exact (Int.ediv_emod_unique (by omega) (r := 2 * r - b) (q := q + 1) |>.2 ⟨by omega, by omega, by omega⟩).1
  · exact (Int.ediv_emod_unique (by omega) (r := 2 * r + b) (q := q) |>.2 ⟨by omega, by omega, by omega⟩).1

section
variable (a b : Int) (w : World) (h1 : -2305843009213693952 ≤ a) (h2 : a ≤ 2305843009213693952) (hb : 0 < b) (hb2 : b ≤ 2147483648)
include h1 h2 hb hb2
set_option maxHeartbeats 1000000 in
theorem floorI_any : Calls Tryd.prog 72 #[.int .i64 a, .int .i64 b] w fun e w' => e = .returned (.int .i64 (a / b)) ∧ w = w' := by
  have HF := Lib.hid (floor_facts a b hb)
  have hle := floor_le a b 2305843009213693952 hb h1 h2 (by decide)
  have e0 : (b == 0) = false := by simp; omega
  have e1 : (a == -9223372036854775808) = false := by simp; omega
  have e2 : decide (b < 0) = false := by simp; omega
  generalize hq : a.tdiv b = q at *
  generalize hr : a.tmod b = r at *
  generalize hd : a / b = d at *
  have HD := Lib.hid hd
  clear hd
  obtain ⟨l1, l2, l3, l4⟩ := hle
  by_cases hr0 : r = 0
  · subst hr0
    have HR : Hid (d = q) := by show _ = _; rw [HF.out, if_neg (by simp)]
    go_enter Tryd.func72, Tryd.ntmps72
    go_wp2_with fail
    go_ret
    exact ⟨by rw [HR.out]; rfl, rfl⟩
  · have e3 : (r == 0) = false := by simp; omega
    by_cases ha : a < 0
    · have HR : Hid (d = q - 1) := by show _ = _; rw [HF.out, if_pos ⟨hr0, ha⟩]
      have e4 : decide (a < 0) = true := by simp; omega
      go_enter Tryd.func72, Tryd.ntmps72
      go_wp2_with fail
      go_ret
      exact ⟨by rw [HR.out]; rfl, rfl⟩
    · have HR : Hid (d = q) := by show _ = _; rw [HF.out, if_neg (by omega)]
      have e4 : decide (a < 0) = false := by simp; omega
      go_enter Tryd.func72, Tryd.ntmps72
      go_wp2_with fail
      go_ret
      exact ⟨by rw [HR.out]; rfl, rfl⟩
set_option maxHeartbeats 1000000 in
theorem divI_any : Calls Tryd.prog 54 #[.int .i64 a, .int .i64 b] w fun e w' => e = .returned (.int .i64 (rdI a b)) ∧ w = w' := by
  have HFL := Lib.hid (fun w => floorI_any a b w h1 h2 hb hb2)
  have hle := floor_le a b 2305843009213693952 hb h1 h2 (by decide)
  have HF := Lib.hid (rd_facts a b hb)
  have hm := Int.mul_ediv_add_emod a b
  have hm2 := Int.emod_nonneg a (show b ≠ 0 by omega)
  have hm3 := Int.emod_lt_of_pos a hb
  have e0 : (b == 0) = false := by simp; omega
  have e1 : (a == -9223372036854775808) = false := by simp; omega
  have e2 : decide (b < 0) = false := by simp; omega
  have e3 : decide (0 < b) = true := by simp; omega
  obtain ⟨-, -, l3, l4⟩ := hle
  generalize a / b = q at *
  generalize a % b = r at *
  obtain ⟨p, hp⟩ : ∃ p, p = b * q := ⟨_, rfl⟩
  rw [← hp] at HF hm
  have hw : IntKind.i64.wrap (b * q) = p := by rw [← hp]; exact IntWalk.i64_in _ (by omega)
  have hr : a - p = r := by omega
  rw [hr] at HF
  have HRR := Lib.hid hr
  have z1 : IntKind.i64.wrap (a - p) = r := by rw [hr]; exact IntWalk.i64_in _ (by omega)
  have z2 : IntKind.i64.wrap (b - r) = b - r := IntWalk.i64_in _ (by omega)
  have HP := Lib.hid hp
  have HM := Lib.hid hm
  clear hr hm hp
  by_cases hc : b - r ≤ r
  · have HR : Hid (rdI a b = q + 1) := by show _ = _; rw [HF.out, if_pos hc]
    have e4 : decide (b - r ≤ r) = true := by simp; omega
    go_enter Tryd.func54, Tryd.ntmps54
    go_wp2_with fail
    refine (HFL.out _).mono ?_
    rintro e w1 ⟨rfl, rfl⟩
    go_wp2_with fail
    go_ret
    exact ⟨by rw [HR.out]; rfl, rfl⟩
  · have HR : Hid (rdI a b = q) := by show _ = _; rw [HF.out, if_neg hc]
    have e4 : decide (b - r ≤ r) = false := by simp; omega
    go_enter Tryd.func54, Tryd.ntmps54
    go_wp2_with fail
    refine (HFL.out _).mono ?_
    rintro e w1 ⟨rfl, rfl⟩
    go_wp2_with fail
    go_ret
    exact ⟨by rw [HR.out]; rfl, rfl⟩
set_option maxHeartbeats 1000000 in
theorem rfloorI_any : Calls Tryd.prog 79 #[.int .i64 a, .int .i64 b] w fun e w' => e = .returned (.int .i64 (a / b)) ∧ ∃ n, w' = w.drewN n := by
  have HF := Lib.hid (floor_facts a b hb)
  have hle := floor_le a b 2305843009213693952 hb h1 h2 (by decide)
  obtain ⟨f1, f2, f3⟩ := tdiv_facts a b hb
  have e0 : (b == 0) = false := by simp; omega
  have e1 : (a == -9223372036854775808) = false := by simp; omega
  have e2 : decide (b < 0) = false := by simp; omega
  have e5 : (a.tmod b < 0) ↔ (a.tmod b ≠ 0 ∧ a < 0) := by
    constructor
    · intro h
      refine ⟨by omega, ?_⟩
      rcases Int.lt_or_le a 0 with h0 | h0
      · exact h0
      · have := f2 h0; omega
    · rintro ⟨h, h0⟩
      have := f3 h0; omega
  have hrb : -2147483648 ≤ a.tmod b ∧ a.tmod b ≤ 2147483648 := by
    rcases Int.lt_or_le a 0 with h0 | h0
    · have := f3 h0; omega
    · have := f2 h0; omega
  clear f1 f2 f3
  generalize hq : a.tdiv b = q at *
  generalize hr : a.tmod b = r at *
  have E5 := Lib.hid e5
  clear e5
  have q1 : b ≠ 0 := by omega
  obtain ⟨l1, l2, l3, l4⟩ := hle
  generalize hd : a / b = d at *
  have HD := Lib.hid hd
  clear hd
  by_cases hr0 : r = 0
  · subst hr0
    have HR : Hid (d = q) := by show _ = _; rw [HF.out, if_neg (by simp)]
    go_enter Tryd.func79, Tryd.ntmps79
    go_wp2_with fail
    go_quiet (fail)
    go_wp2_with fail
    go_ret
    exact ⟨by rw [HR.out]; rfl, _, rfl⟩
  · have e3 : (r == 0) = false := by simp; omega
    by_cases ha : r < 0
    · have HR : Hid (d = q - 1) := by show _ = _; rw [HF.out, if_pos (E5.out.1 ha)]
      have e4 : decide (r < 0) = true := by simp; omega
      go_enter Tryd.func79, Tryd.ntmps79
      go_wp2_with fail
      go_quiet (fail)
      go_wp2_with fail
      go_ret
      exact ⟨by rw [HR.out]; rfl, _, rfl⟩
    · have HR : Hid (d = q) := by show _ = _; rw [HF.out, if_neg (fun h => ha (E5.out.2 h))]
      have e4 : decide (r < 0) = false := by simp; omega
      go_enter Tryd.func79, Tryd.ntmps79
      go_wp2_with fail
      go_quiet (fail)
      go_wp2_with fail
      go_ret
      exact ⟨by rw [HR.out]; rfl, _, rfl⟩
end
theorem rabs_any (a : Int) (w : World) (h0 : 0 ≤ a) (h1 : a ≤ 4611686018427387904) : Calls Tryd.prog 68 #[.int .i64 a] w fun e w' => e = .returned (.int .u64 a) ∧ w = w' := by
  have e0 : decide (a < 0) = false := by simp; omega
  have z : IntKind.u64.wrap a = a := by rw [IntKind.wrap_u64]; omega
  go_enter Tryd.func68, Tryd.ntmps68
  go_wp2_with fail
  go_ret
  exact ⟨rfl, rfl⟩
section
variable (a b : Int) (w : World) (h1 : -2305843009213693952 ≤ a) (h2 : a ≤ 2305843009213693952) (hb : 0 < b) (hb2 : b ≤ 2147483648)
include h1 h2 hb hb2
set_option maxHeartbeats 1000000 in
theorem rdivI_any : Calls Tryd.prog 62 #[.int .i64 a, .int .i64 b] w fun e w' => e = .returned (.int .i64 (rdI a b)) ∧ ∃ n, w' = w.drewN n := by
  have HFL := Lib.hid (fun w => rfloorI_any a b w h1 h2 hb hb2)
  have hle := floor_le a b 2305843009213693952 hb h1 h2 (by decide)
  have HF := Lib.hid (rd_facts a b hb)
  have hm := Int.mul_ediv_add_emod a b
  have hm2 := Int.emod_nonneg a (show b ≠ 0 by omega)
  have hm3 := Int.emod_lt_of_pos a hb
  have e0 : (b == 0) = false := by simp; omega
  have e1 : (a == -9223372036854775808) = false := by simp; omega
  obtain ⟨-, -, l3, l4⟩ := hle
  generalize a / b = q at *
  generalize a % b = r at *
  obtain ⟨p, hp⟩ : ∃ p, p = b * q := ⟨_, rfl⟩
  rw [← hp] at HF hm
  have hw : IntKind.i64.wrap (b * q) = p := by rw [← hp]; exact IntWalk.i64_in _ (by omega)
  have hr : a - p = r := by omega
  rw [hr] at HF
  have z1 : IntKind.i64.wrap (a - p) = r := by rw [hr]; exact IntWalk.i64_in _ (by omega)
  have z2 : IntKind.u64.wrap (b - r) = b - r := by rw [IntKind.wrap_u64]; omega
  have HA1 := Lib.hid (fun w => rabs_any r w hm2 (by omega))
  have HA2 := Lib.hid (fun w => rabs_any b w (by omega) (by omega))
  clear hr hm hp
  by_cases hc : b - r ≤ r
  · have HR : Hid (rdI a b = q + 1) := by show _ = _; rw [HF.out, if_pos hc]
    have e4 : decide (b - r ≤ r) = true := by simp; omega
    go_enter Tryd.func62, Tryd.ntmps62
    go_wp2_with fail
    refine (HFL.out _).mono ?_
    rintro e w1 ⟨rfl, n1, rfl⟩
    go_wp2_with fail
    refine (HA1.out _).mono ?_
    rintro e w1 ⟨rfl, rfl⟩
    go_wp2_with fail
    refine (HA2.out _).mono ?_
    rintro e w1 ⟨rfl, rfl⟩
    go_wp2_with fail
    go_ret
    exact ⟨by rw [HR.out]; rfl, _, rfl⟩
  · have HR : Hid (rdI a b = q) := by show _ = _; rw [HF.out, if_neg hc]
    have e4 : decide (b - r ≤ r) = false := by simp; omega
    go_enter Tryd.func62, Tryd.ntmps62
    go_wp2_with fail
    refine (HFL.out _).mono ?_
    rintro e w1 ⟨rfl, n1, rfl⟩
    go_wp2_with fail
    refine (HA1.out _).mono ?_
    rintro e w1 ⟨rfl, rfl⟩
    go_wp2_with fail
    refine (HA2.out _).mono ?_
    rintro e w1 ⟨rfl, rfl⟩
    go_wp2_with fail
    go_ret
    exact ⟨by rw [HR.out]; rfl, _, rfl⟩
end
end Go.Proofs.YtgjbelcnkmcbiaaDoor
