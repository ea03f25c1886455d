/-
  Walk: the check of the distance code, in the program.
-/
import Derived.Test.YtppfjofaegbbjaaI3
namespace Go.Proofs.Ytppfjofaegbbjaa
open Go.RowKit

theorem usedC_snoc (l : List Nat) (n : Nat) : usedC (l ++ [n]) = usedC l + (if n = 0 then 0 else 1) := by
  unfold usedC
  rw [List.countP_append]
  by_cases h : n = 0 <;> simp [h]
theorem usedC_le (l : List Nat) : usedC l ≤ l.length := List.countP_le_length
/-- A distance code is whole, or empty, or one code of one bit. -/
def disR (l : List Nat) : Prop := sumC l = 32768 ∨ usedC l = 0 ∨ usedC l = 1 ∧ sumC l = 16384
instance (l : List Nat) : Decidable (disR l) := by unfold disR; exact inferInstance

set_option maxRecDepth 100000 in
set_option maxHeartbeats 2000000 in
theorem distancesRight_any (v : Value) (ls : List Nat) (w : World) (hr : IRead w v ls) (h15 : ∀ n ∈ ls, n ≤ 15) (hl : ls.length ≤ 400) :
    Calls Try.prog 58 #[v] w fun e w' => e = .returned (.bool (decide (disR ls))) ∧ w = w' := by
  have HSUM := Lib.hid (sum_any v ls w hr h15 hl)
  obtain ⟨x, c, rfl, hc1, hc2, hcell⟩ := id hr
  unfold maxLen at hc2
  go_enter Try.func58, Try.ntmps58
  go_wp2_with fail
  go_loop [3, 9] (fun v3 vi => ∃ i : Nat, vi = .int .i64 i ∧ i ≤ ls.length ∧ v3 = .int .i64 (usedC (ls.take i) : Nat)) (fun _ vi => ls.length - (intOf vi).toNat)
  case atStart => exact ⟨0, rfl, Nat.zero_le _, rfl⟩
  case round =>
    obtain ⟨i, rfl, hi, rfl⟩ := hrel
    have hsl := usedC_le (ls.take i)
    have htl : (ls.take i).length = i := by simp; omega
    rw [htl] at hsl
    clear htl
    by_cases hlt : i < ls.length
    · have hne : ls ≠ [] := by rintro rfl; simp at hlt
      have hd : decide ((i : Int) < (ls.length : Int)) = true := by simp; omega
      obtain ⟨g, off, rfl, hcl⟩ := hcell hne
      have q := hcl i hlt
      have HS : Hid (usedC (ls.take (i + 1)) = usedC (ls.take i) + (if ls[i] = 0 then 0 else 1)) := by show _ = _; rw [List.take_succ_eq_append_getElem hlt, usedC_snoc]
      clear hcl hcell hr HSUM
      generalize ls[i] = y at *
      generalize usedC (ls.take i) = S at *
      generalize hn : ls.length = n at *
      have HN := Lib.hid hn
      clear hn
      by_cases hy : y = 0
      · subst hy
        go_wp2_with fail
        go_round
        case rel => exact ⟨i + 1, by go_num, by omega, by rw [HS.out]; rfl⟩
        case measure => simp [intOf]; omega
      · have hy1 : ((y : Int) != 0) = true := by simp; omega
        go_wp2_with fail
        go_round
        case rel => exact ⟨i + 1, by go_num, by omega, by rw [HS.out, if_neg hy]; simp⟩
        case measure => simp [intOf]; omega
    · have hd : decide ((i : Int) < (ls.length : Int)) = false := by simp; omega
      have hall : ls.take i = ls := List.take_of_length_le (by omega)
      rw [hall] at hsl ⊢
      clear hall
      go_wp2_with fail
      refine (HSUM.out).mono ?_
      rintro e w1 ⟨rfl, rfl⟩
      have hD : Hid (disR ls ↔ sumC ls = 32768 ∨ usedC ls = 0 ∨ usedC ls = 1 ∧ sumC ls = 16384) := Iff.rfl
      have hsm := sumC_le ls
      clear HSUM hcell hr
      generalize sumC ls = S at *
      generalize usedC ls = U at *
      have fin : ∀ b : Bool, Hid (b = true ↔ (S = 32768 ∨ U = 0 ∨ U = 1 ∧ S = 16384)) → b = decide (disR ls) := by
        intro b hb
        rw [Bool.eq_iff_iff, decide_eq_true_iff, hD.out]
        exact hb.out
      have FIN := Lib.hid fin
      clear fin hD
      by_cases a1 : S = 32768
      · have d1 : ((S : Int) == 32768) = true := by simp; omega
        have HR : Hid (true = decide (disR ls)) := FIN.out true (by show _ ↔ _; simp [a1])
        clear a1 FIN hsm
        go_wp2_with fail
        go_ret
        exact ⟨by rw [← HR.out]; rfl, rfl⟩
      have d1 : ((S : Int) == 32768) = false := by simp; omega
      by_cases a2 : U = 0
      · have d2 : ((U : Int) == 0) = true := by simp; omega
        have HR : Hid (true = decide (disR ls)) := FIN.out true (by show _ ↔ _; simp [a2])
        clear a1 a2 FIN hsm
        go_wp2_with fail
        go_ret
        exact ⟨by rw [← HR.out]; rfl, rfl⟩
      have d2 : ((U : Int) == 0) = false := by simp; omega
      by_cases a3 : U = 1
      · have d3 : ((U : Int) == 1) = true := by simp; omega
        by_cases a4 : S = 16384
        · have d4 : ((S : Int) == 16384) = true := by simp; omega
          have HR : Hid (true = decide (disR ls)) := FIN.out true (by show _ ↔ _; simp [a3, a4])
          clear a1 a2 a3 a4 FIN hsm
          go_wp2_with fail
          go_ret
          exact ⟨by rw [← HR.out]; rfl, rfl⟩
        · have d4 : ((S : Int) == 16384) = false := by simp; omega
          have HR : Hid (false = decide (disR ls)) := FIN.out false (by show _ ↔ _; simp [a1, a2, a4])
          clear a1 a2 a3 a4 FIN hsm
          go_wp2_with fail
          go_ret
          exact ⟨by rw [← HR.out]; rfl, rfl⟩
      · have d3 : ((U : Int) == 1) = false := by simp; omega
        have HR : Hid (false = decide (disR ls)) := FIN.out false (by show _ ↔ _; simp [a1, a2, a3])
        clear a1 a2 a3 FIN hsm
        go_wp2_with fail
        go_ret
        exact ⟨by rw [← HR.out]; rfl, rfl⟩
end Go.Proofs.Ytppfjofaegbbjaa
