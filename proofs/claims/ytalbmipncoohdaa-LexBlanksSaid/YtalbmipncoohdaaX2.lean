/-
  Walk: the reference's way over blanks and comments.
-/
import Derived.Test.YtalbmipncoohdaaX1
namespace Go.Proofs.Ytalbmipncoohdaa
open Go.RowKit

theorem skip_one (c : UInt8) (t : List UInt8) (h : c.toNat = 32 ∨ c.toNat = 9 ∨ c.toNat = 10) : skipN false (c :: t) = skipN false t + 1 := by
  rw [skipN]
  by_cases h10 : c.toNat = 10
  · rw [if_pos h10]
  · rw [if_neg h10, if_pos (by omega)]
theorem skip_in (c : UInt8) (t : List UInt8) (h : c.toNat ≠ 10) : skipN true (c :: t) = skipN true t + 1 := by
  rw [skipN, if_neg h, if_pos (.inl rfl)]
theorem skip_hash (c : UInt8) (t : List UInt8) (h : c.toNat = 35) : skipN false (c :: t) = skipN true (c :: t) := by
  rw [skip_in c t (by omega), skipN, if_neg (by omega), if_neg (by simp; omega), if_pos h]
theorem skip_nl (c : UInt8) (t : List UInt8) (h : c.toNat = 10) : skipN true (c :: t) = skipN false (c :: t) := by
  rw [skipN, skipN, if_pos h]
  simp [h]
theorem skip_stop (c : UInt8) (t : List UInt8) (h1 : c.toNat ≠ 32) (h2 : c.toNat ≠ 9) (h3 : c.toNat ≠ 10) (h4 : c.toNat ≠ 35) : skipN false (c :: t) = 0 := by
  rw [skipN, if_neg h3, if_neg (by simp [h1, h2]), if_neg h4]

set_option maxRecDepth 100000 in
set_option maxHeartbeats 2000000 in
theorem rskip_any (s : ByteArray) (p : Nat) (w : World) (hp : p ≤ s.size) (hs : s.size < 1000000) :
    Calls Try.prog 19 #[.string s, .int .i64 p] w fun e w' => e = .returned (.int .i64 (p + skipN false (s.data.toList.drop p) : Nat)) ∧ w = w' := by
  go_enter Try.func19, Try.ntmps19
  go_wp2
  go_loop [1] (fun va => ∃ (k : Nat), va = .int .i64 k ∧ k ≤ s.size ∧ Hid (k + skipN false (s.data.toList.drop k) = p + skipN false (s.data.toList.drop p))) (fun va => s.size - (intOf va).toNat)
  case atStart => exact ⟨p, rfl, hp, rfl⟩
  case round =>
    obtain ⟨k, rfl, hk, hg⟩ := hrel
    by_cases hlt : k < s.size
    · have hd := hg.out
      rw [drop_at s k hlt] at hd
      have hb := (s[k]).toNat_lt
      have hcl : decide ((k : Int) < (s.size : Int)) = true := by simp; omega
      by_cases hbl : (s[k]).toNat = 32 ∨ (s[k]).toNat = 9 ∨ (s[k]).toNat = 10
      · rw [skip_one _ _ hbl] at hd
        have HD := Lib.hid hd
        clear hd hg
        have e35 : (((s[k]).toNat : Int) == 35) = false := by simp; omega
        rcases hbl with h | h | h
        · have e32 : (((s[k]).toNat : Int) == 32) = true := by simp; omega
          clear h
          go_wp2
          go_round
          case rel => exact ⟨k + 1, by go_num, by omega, by show _ = _; have := HD.out; omega⟩
          case measure => simp [intOf]; omega
        · have e32 : (((s[k]).toNat : Int) == 32) = false := by simp; omega
          have e9 : (((s[k]).toNat : Int) == 9) = true := by simp; omega
          clear h
          go_wp2
          go_round
          case rel => exact ⟨k + 1, by go_num, by omega, by show _ = _; have := HD.out; omega⟩
          case measure => simp [intOf]; omega
        · have e32 : (((s[k]).toNat : Int) == 32) = false := by simp; omega
          have e9 : (((s[k]).toNat : Int) == 9) = false := by simp; omega
          have e10 : (((s[k]).toNat : Int) == 10) = true := by simp; omega
          clear h
          go_wp2
          go_round
          case rel => exact ⟨k + 1, by go_num, by omega, by show _ = _; have := HD.out; omega⟩
          case measure => simp [intOf]; omega
      · have e32 : (((s[k]).toNat : Int) == 32) = false := by simp; omega
        have e9 : (((s[k]).toNat : Int) == 9) = false := by simp; omega
        have e10 : (((s[k]).toNat : Int) == 10) = false := by simp; omega
        by_cases h35 : (s[k]).toNat = 35
        · rw [skip_hash _ _ h35, ← drop_at s k hlt] at hd
          have HD := Lib.hid hd
          have e35 : (((s[k]).toNat : Int) == 35) = true := by simp; omega
          have H35 := Lib.hid h35
          have HBL := Lib.hid hbl
          clear hd hg h35 hbl
          go_wp2
          go_loop [1] (fun va => ∃ (j : Nat), va = .int .i64 j ∧ k ≤ j ∧ j ≤ s.size ∧ Hid (j + skipN true (s.data.toList.drop j) = p + skipN false (s.data.toList.drop p))) (fun va => s.size - (intOf va).toNat)
          case atStart => exact ⟨k, rfl, Nat.le_refl _, hk, HD.out⟩
          case round =>
            clear e32 e9 e10 e35
            obtain ⟨j, rfl, hkj, hj, hgj⟩ := hrel
            by_cases hjs : j < s.size
            · have hd := hgj.out
              rw [drop_at s j hjs] at hd
              have hbj := (s[j]).toNat_lt
              have hcl' : decide ((j : Int) < (s.size : Int)) = true := by simp; omega
              by_cases hnl : (s[j]).toNat = 10
              · rw [skip_nl _ _ hnl, ← drop_at s j hjs] at hd
                have HDJ := Lib.hid hd
                have n10 : (((s[j]).toNat : Int) != 10) = false := by simp; omega
                have hkj' : k < j := by
                  rcases Nat.lt_or_ge k j with h | h
                  · exact h
                  · exfalso
                    have e : k = j := by omega
                    subst e
                    have := H35.out
                    omega
                clear hd hgj hnl
                go_wp2
                go_round
                case rel => exact ⟨j, rfl, hj, HDJ.out⟩
                case measure => simp [intOf]; omega
              · rw [skip_in _ _ hnl] at hd
                have HDJ := Lib.hid hd
                have n10 : (((s[j]).toNat : Int) != 10) = true := by simp; omega
                clear hd hgj hnl
                go_wp2
                go_round
                case rel => exact ⟨j + 1, by go_num, by omega, by omega, by show _ = _; have := HDJ.out; omega⟩
                case measure => simp [intOf]; omega
            · have hcl' : decide ((j : Int) < (s.size : Int)) = false := by simp; omega
              have hd := hgj.out
              rw [List.drop_of_length_le (by simp; omega)] at hd
              have HDJ := Lib.hid hd
              clear hd hgj
              go_wp2
              go_round
              case rel => exact ⟨j, rfl, hj, by show _ = _; rw [List.drop_of_length_le (by simp; omega)]; simpa [skipN] using HDJ.out⟩
              case measure => simp [intOf]; omega
        · rw [skip_stop _ _ (by omega) (by omega) (by omega) h35] at hd
          have HD := Lib.hid hd
          have e35 : (((s[k]).toNat : Int) == 35) = false := by simp; omega
          clear hd hg h35 hbl
          go_wp2
          go_ret
          exact ⟨ret_int (by have := HD.out; omega), rfl⟩
    · have hcl : decide ((k : Int) < (s.size : Int)) = false := by simp; omega
      have hend : Hid (p + skipN false (s.data.toList.drop p) = k) := by
        show _ = _
        rw [← hg.out, List.drop_of_length_le (by simp; omega)]; simp [skipN]
      clear hg
      go_wp2
      go_ret
      exact ⟨ret_int (by have := hend.out; omega), rfl⟩
end Go.Proofs.Ytalbmipncoohdaa
