/-
  Walk: the sum of code lengths, in the reference.
-/
import Derived.Test.YtkbelkdephfhpaaI3
namespace Go.Proofs.Ytkbelkdephfhpaa
open Go.RowKit

set_option maxRecDepth 100000 in
set_option maxHeartbeats 2000000 in
theorem refSum_any (v : Value) (ls : List Nat) (w : World) (hr : IRead w v ls) (h15 : ∀ n ∈ ls, n ≤ 15) (hl : ls.length ≤ 400) :
    Calls Try.prog 28 #[v] w fun e w' => e = .returned (.int .i64 (sumC ls)) ∧ w = w' := by
  obtain ⟨x, c, rfl, hc1, hc2, hcell⟩ := id hr
  unfold maxLen at hc2
  go_enter Try.func28, Try.ntmps28
  go_wp2_with fail
  go_loop [3, 7] (fun v3 vi => ∃ i : Nat, vi = .int .i64 i ∧ i ≤ ls.length ∧ v3 = .int .i64 (sumC (ls.take i) : Nat)) (fun _ vi => ls.length - (intOf vi).toNat)
  case atStart => exact ⟨0, rfl, Nat.zero_le _, rfl⟩
  case round =>
    obtain ⟨i, rfl, hi, rfl⟩ := hrel
    have hsl := sumC_le (ls.take i)
    have htl : (ls.take i).length = i := by simp; omega
    rw [htl] at hsl
    clear htl
    by_cases hlt : i < ls.length
    · have hne : ls ≠ [] := by rintro rfl; simp at hlt
      have hd : decide ((i : Int) < (ls.length : Int)) = true := by simp; omega
      obtain ⟨g, off, rfl, hcl⟩ := hcell hne
      have q := hcl i hlt
      have hx15 := h15 ls[i] (List.getElem_mem hlt)
      have HS : Hid (sumC (ls.take (i + 1)) = sumC (ls.take i) + (if ls[i] = 0 then 0 else 2 ^ (15 - ls[i]))) := by show _ = _; rw [List.take_succ_eq_append_getElem hlt, sumC_snoc]
      clear hcl hcell hr
      generalize ls[i] = y at *
      generalize sumC (ls.take i) = S at *
      generalize hn : ls.length = n at *
      have HN := Lib.hid hn
      clear hn
      by_cases hy : y = 0
      · subst hy
        go_wp2_with fail
        go_round
        case rel => exact ⟨i + 1, by go_num, by omega, by rw [HS.out]; rfl⟩
        case measure => simp [intOf]; omega
      · have hy1 : decide ((0 : Int) < (y : Int)) = true := by simp; omega
        have hp : (2 : Nat) ^ (15 - y) ≤ 32768 := by
          have : (2 : Nat) ^ (15 - y) ≤ 2 ^ 15 := Nat.pow_le_pow_right (by omega) (by omega)
          simpa using this
        obtain ⟨Z, hZ⟩ : ∃ Z, 2 ^ (15 - y) = Z := ⟨_, rfl⟩
        have hZi : (2 : Int) ^ (15 - y) = (Z : Int) := by rw [← hZ]; simp
        rw [hZ] at hp HS
        clear hZ
        go_wp2_with fail
        go_round
        case rel => exact ⟨i + 1, by go_num, by omega, by rw [HS.out, if_neg hy]; simp⟩
        case measure => simp [intOf]; omega
    · have hd : decide ((i : Int) < (ls.length : Int)) = false := by simp; omega
      have hall : ls.take i = ls := List.take_of_length_le (by omega)
      rw [hall]
      clear hall
      go_wp2_with fail
      go_ret
      exact ⟨rfl, rfl⟩
end Go.Proofs.Ytkbelkdephfhpaa
