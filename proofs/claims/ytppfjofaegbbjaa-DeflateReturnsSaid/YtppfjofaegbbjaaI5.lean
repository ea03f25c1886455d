/-
  Walks: bases and extra bits of lengths and distances, in the program and in the reference.
-/
import Derived.Test.YtppfjofaegbbjaaI3
namespace Go.Proofs.Ytppfjofaegbbjaa
open Go.RowKit

def pairV (x : Nat × Nat) : Value := .tuple #[.int .i64 x.1, .int .i64 x.2]
set_option maxRecDepth 100000 in
set_option maxHeartbeats 2000000 in
theorem lengthBase_any (s : Nat) (w : World) (h0 : 257 ≤ s) (h1 : s ≤ 285) :
    Calls Try.prog 60 #[.int .i64 s] w fun e w' => e = .returned (pairV (lenB s)) ∧ w = w' := by
  have hv : Hid (lenB s = if s < 265 then (s - 254, 0) else if s = 285 then (258, 0) else (3 + (4 + (s - 265) % 4) * 2 ^ ((s - 261) / 4), (s - 261) / 4)) := rfl
  by_cases c1 : s < 265
  · have d1 : decide ((s : Int) < 265) = true := by simp; omega
    go_enter Try.func60, Try.ntmps60
    go_wp2_with fail
    go_ret2
    refine ⟨?_, rfl⟩
    rw [hv.out, if_pos c1]
    show Ending.returned (.tuple #[.int .i64 ((s : Int) - 254), .int .i64 0]) = _
    unfold pairV
    simp
    omega
  have d1 : decide ((s : Int) < 265) = false := by simp; omega
  by_cases c2 : s = 285
  · subst c2
    go_enter Try.func60, Try.ntmps60
    go_wp2_with fail
    go_ret2
    refine ⟨?_, rfl⟩
    rw [hv.out]
    rfl
  have d2 : ((s : Int) == 285) = false := by simp; omega
  obtain ⟨k, hk⟩ : ∃ k, k = (s - 261) / 4 := ⟨_, rfl⟩
  have hk5 : k ≤ 5 := by omega
  obtain ⟨m, hm⟩ : ∃ m, m = (s - 265) % 4 := ⟨_, rfl⟩
  have hm3 : m ≤ 3 := by omega
  have z1 : ((s : Int) - 261) / 4 = (k : Int) := by omega
  have z2 : ((s : Int) - 265) % 4 = (m : Int) := by omega
  have hz : Hid (lenB s = (3 + (4 + m) * 2 ^ k, k)) := by show _ = _; rw [hv.out, if_neg c1, if_neg c2, ← hk, ← hm]
  have hp : (2 : Nat) ^ k ≤ 32 := by
    have : (2 : Nat) ^ k ≤ 2 ^ 5 := Nat.pow_le_pow_right (by omega) (by omega)
    simpa using this
  obtain ⟨Z, hZ⟩ : ∃ Z, 2 ^ k = Z := ⟨_, rfl⟩
  have hZi : (2 : Int) ^ k = (Z : Int) := by rw [← hZ]; simp
  rw [hZ] at hp hz
  have hmul : (4 + m) * Z ≤ 7 * 32 := Nat.mul_le_mul (by omega) hp
  clear hk hm hZ hv
  go_enter Try.func60, Try.ntmps60
  go_wp2_with fail
  go_ret2
  refine ⟨?_, rfl⟩
  rw [hz.out]
  show Ending.returned (.tuple #[.int .i64 (wrap64 (3 + wrap64 ((4 + (m : Int)) * (Z : Int)))), .int .i64 (((s : Int) - 261) / 4)]) = _
  have e : (4 + (m : Int)) * (Z : Int) = (((4 + m) * Z : Nat) : Int) := by simp
  rw [e, wrap64_of (((4 + m) * Z : Nat) : Int) (by omega), wrap64_of _ (by omega), z1]
  unfold pairV
  simp

set_option maxRecDepth 100000 in
set_option maxHeartbeats 2000000 in
theorem distanceBase_any (s : Nat) (w : World) (h1 : s ≤ 29) :
    Calls Try.prog 61 #[.int .i64 s] w fun e w' => e = .returned (pairV (disB s)) ∧ w = w' := by
  have hv : Hid (disB s = if s < 4 then (s + 1, 0) else (1 + (2 + s % 2) * 2 ^ ((s - 2) / 2), (s - 2) / 2)) := rfl
  by_cases c1 : s < 4
  · have d1 : decide ((s : Int) < 4) = true := by simp; omega
    go_enter Try.func61, Try.ntmps61
    go_wp2_with fail
    go_ret2
    refine ⟨?_, rfl⟩
    rw [hv.out, if_pos c1]
    show Ending.returned (.tuple #[.int .i64 ((s : Int) + 1), .int .i64 0]) = _
    unfold pairV
    simp
  have d1 : decide ((s : Int) < 4) = false := by simp; omega
  obtain ⟨k, hk⟩ : ∃ k, k = (s - 2) / 2 := ⟨_, rfl⟩
  have hk5 : k ≤ 13 := by omega
  obtain ⟨m, hm⟩ : ∃ m, m = s % 2 := ⟨_, rfl⟩
  have hm3 : m ≤ 1 := by omega
  have z1 : ((s : Int) - 2) / 2 = (k : Int) := by omega
  have z2 : (s : Int) % 2 = (m : Int) := by omega
  have hz : Hid (disB s = (1 + (2 + m) * 2 ^ k, k)) := by show _ = _; rw [hv.out, if_neg c1, ← hk, ← hm]
  have hp : (2 : Nat) ^ k ≤ 8192 := by
    have : (2 : Nat) ^ k ≤ 2 ^ 13 := Nat.pow_le_pow_right (by omega) (by omega)
    simpa using this
  obtain ⟨Z, hZ⟩ : ∃ Z, 2 ^ k = Z := ⟨_, rfl⟩
  have hZi : (2 : Int) ^ k = (Z : Int) := by rw [← hZ]; simp
  rw [hZ] at hp hz
  have hmul : (2 + m) * Z ≤ 3 * 8192 := Nat.mul_le_mul (by omega) hp
  clear hk hm hZ hv
  go_enter Try.func61, Try.ntmps61
  go_wp2_with fail
  go_ret2
  refine ⟨?_, rfl⟩
  rw [hz.out]
  show Ending.returned (.tuple #[.int .i64 (wrap64 (1 + wrap64 ((2 + (m : Int)) * (Z : Int)))), .int .i64 (((s : Int) - 2) / 2)]) = _
  have e : (2 + (m : Int)) * (Z : Int) = (((2 + m) * Z : Nat) : Int) := by simp
  rw [e, wrap64_of (((2 + m) * Z : Nat) : Int) (by omega), wrap64_of _ (by omega), z1]
  unfold pairV
  simp

end Go.Proofs.Ytppfjofaegbbjaa
