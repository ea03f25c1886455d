/-
  Walks: the reference functions input, Common and Match.
-/
import Derived.Test.YtppfjofaegbbjaaT10
namespace Go.Proofs.Ytppfjofaegbbjaa
open Go.RowKit

theorem rinput_any (s : ByteArray) (w : World) (hs : s.size ≤ maxLen) :
    Calls Try.prog 28 #[.string s] w fun e w' => e = .returned (.string (inp s)) ∧ w = w' := by
  unfold maxLen at hs
  go_enter Try.func28, Try.ntmps28
  by_cases h : s.size ≤ 1048576
  · go_wp2
    go_ret
    refine ⟨?_, rfl⟩
    unfold inp
    rw [Nat.min_eq_left (by omega)]; simp
  · go_wp2
    go_ret
    refine ⟨?_, rfl⟩
    unfold inp
    rw [Nat.min_eq_right (by omega)]; rfl

set_option maxRecDepth 100000 in
set_option maxHeartbeats 1000000 in
theorem rcommon_any (w : World) (s : ByteArray) (p d : Nat) (hp : p < s.size) (hd : d ≤ p) (hs : s.size < 1000000000) :
    Calls Try.prog 39 #[.string s, .int .i64 p, .int .i64 d] w fun e w' => e = .returned (.int .i64 (cm s.data.toList p (p - d))) ∧ ∃ n, w' = w.drewN n := by
  have hl : s.data.toList.length = s.size := by simp
  obtain ⟨M, hM⟩ : ∃ M, M = most s.data.toList p := ⟨_, rfl⟩
  have hM1 : M ≤ 258 := by rw [hM]; unfold most; omega
  have hM2 : p + M ≤ s.size := by rw [hM]; unfold most; omega
  have hM3 : M = 258 ∨ p + M = s.size := by rw [hM]; unfold most; omega
  have HM := Lib.hid hM
  have HM3 := Lib.hid hM3
  clear hM hl hM3
  obtain ⟨q, hq⟩ : ∃ q, q = p - d := ⟨_, rfl⟩
  have hq1 : q + d ≤ p := by omega
  have hq2 : p ≤ q + d := by omega
  rw [← hq]
  clear hq
  go_enter Try.func39, Try.ntmps39
  go_wp2_with fail
  go_loopw [7] (fun vn wi => ∃ k : Nat, vn = .int .i64 k ∧ k ≤ M ∧ Hid (cmGo s.data.toList p q (M - k) k = cm s.data.toList p q) ∧ Hid (∃ n, wi = w.drewN n)) (fun vn _ => M - (intOf vn).toNat)
  case atStart => exact ⟨0, rfl, Nat.zero_le _, by show _ = _; rw [HM.out]; rfl, ⟨0, rfl⟩⟩
  case round =>
    obtain ⟨k, rfl, hk, hcm, hdi⟩ := hrel
    by_cases hkM : k < M
    · have hg1 : decide ((k : Int) < 258) = true := by simp; omega
      have hg2 : decide ((p : Int) + (k : Int) < (s.size : Int)) = true := by simp; omega
      have hx1 : (p : Int) + (k : Int) - (d : Int) < (s.size : Int) := by omega
      have hx2 : (p : Int) + (k : Int) < (s.size : Int) := by omega
      go_wp2_with fail
      have w2 : IntKind.i64.wrap ((p : Int) + (k : Int)) = (p : Int) + (k : Int) := IntWalk.i64_in _ (by omega)
      have w1 : IntKind.i64.wrap ((p : Int) + (k : Int) - (d : Int)) = (p : Int) + (k : Int) - (d : Int) := IntWalk.i64_in _ (by omega)
      have z1 : (0 : Int) ≤ (p : Int) + (k : Int) - (d : Int) := by omega
      have z1' : (d : Int) ≤ (p : Int) + (k : Int) := by omega
      have z2 : (0 : Int) ≤ (p : Int) + (k : Int) := by omega
      have n1 : ((p : Int) + (k : Int) - (d : Int)).toNat = q + k := by omega
      have n2 : ((p : Int) + (k : Int)).toNat = p + k := by omega
      go_quiet (fail)
      clear w1 w2
      go_wp2_with fail
      · have he : ((s[p + k].toNat : Int) == (s[q + k].toNat : Int)) = true := by assumption
        have he' := byte_beq he
        go_roundw
        case rel =>
          refine ⟨k + 1, by go_num, by omega, ?_, drewN_trans hdi.out ⟨_, rfl⟩⟩
          show _ = _
          rw [cmGo_yes _ _ _ _ _ hkM (by rw [at8, at8, ← byte_at s (q + k) (by omega), ← byte_at s (p + k) (by omega)]; exact he'.symm)]
          exact hcm.out
        case measure => simp [intOf]; omega
      · have he : ((s[p + k].toNat : Int) == (s[q + k].toNat : Int)) = false := by assumption
        have he' := byte_bne he
        go_ret
        refine ⟨ret_int ?_, drewN_trans hdi.out ⟨_, rfl⟩⟩
        rw [← hcm.out, cmGo_no _ _ _ _ _ hkM (by rw [at8, at8, ← byte_at s (q + k) (by omega), ← byte_at s (p + k) (by omega)]; exact fun h => he' h.symm)]
    · have hend : Hid (cm s.data.toList p q = k) := by
        show _ = _
        have e : M - k = 0 := by omega
        rw [← hcm.out, e]; rfl
      rcases HM3.out with hx | hx
      · have hg1 : decide ((k : Int) < 258) = false := by simp; omega
        go_wp2_with fail
        go_quiet (fail)
        go_wp2_with fail
        go_ret
        refine ⟨ret_int ?_, drewN_trans hdi.out ⟨_, rfl⟩⟩
        rw [hend.out]
      · by_cases h258 : k < 258
        · have hg1 : decide ((k : Int) < 258) = true := by simp; omega
          have hg2 : decide ((p : Int) + (k : Int) < (s.size : Int)) = false := by simp; omega
          have HX := Lib.hid hx
          clear hx
          go_wp2_with fail
          have w2 : IntKind.i64.wrap ((p : Int) + (k : Int)) = (p : Int) + (k : Int) := IntWalk.i64_in _ (by omega)
          go_quiet (fail)
          clear w2
          go_wp2_with fail
          go_ret
          refine ⟨ret_int ?_, drewN_trans hdi.out ⟨_, rfl⟩⟩
          rw [hend.out]
        · have hg1 : decide ((k : Int) < 258) = false := by simp; omega
          clear hx
          go_wp2_with fail
          go_quiet (fail)
          go_wp2_with fail
          go_ret
          refine ⟨ret_int ?_, drewN_trans hdi.out ⟨_, rfl⟩⟩
          rw [hend.out]

set_option maxRecDepth 100000 in
set_option maxHeartbeats 1000000 in
theorem rmatch_any (w : World) (s : ByteArray) (p : Nat) (hp : p < s.size) (hs : s.size < 1000000000) :
    Calls Try.prog 15 #[.string s, .int .i64 p] w fun e w' =>
      e = .returned (.tuple #[.int .i64 (matchP s.data.toList p).1, .int .i64 (matchP s.data.toList p).2]) ∧ ∃ n, w' = w.drewN n := by
  obtain ⟨m, hm⟩ : ∃ m, m = min p 4096 := ⟨_, rfl⟩
  have hm1 : m ≤ p := by omega
  have hm2 : m ≤ 4096 := by omega
  have hm3 : m = p ∨ m = 4096 := by omega
  have HM := Lib.hid hm
  have HM3 := Lib.hid hm3
  clear hm hm3
  have hmost : most s.data.toList p ≤ 258 := by unfold most; omega
  go_enter Try.func15, Try.ntmps15
  go_wp2_with fail
  go_loopw [6, 7, 8, 9] (fun vb va vd _ wr => ∃ b a d : Nat, vb = .int .i64 b ∧ va = .int .i64 a ∧ vd = .int .i64 ((d : Int) + 1) ∧ d ≤ m ∧ b ≤ 258 ∧ Hid (mtGo s.data.toList p d = (b, a)) ∧ Hid (∃ n, wr = w.drewN n)) (fun _ _ vd _ _ => m + 1 - (intOf vd).toNat)
  case atStart => exact ⟨0, 0, 0, rfl, rfl, rfl, Nat.zero_le _, by omega, rfl, ⟨0, rfl⟩⟩
  case round =>
    obtain ⟨b, a, d, rfl, rfl, rfl, hd, hb, hmt, hdr⟩ := hrel
    by_cases hdm : d < m
    · go_wp2_with fail
      have e1 : ((d : Int) + 1) = ((d + 1 : Nat) : Int) := by omega
      rw [e1]
      clear e1
      refine (rcommon_any _ s p (d + 1) hp (by omega) hs).mono ?_
      rintro e w1 ⟨rfl, n1, rfl⟩
      have hcm := cm_le s.data.toList p (p - (d + 1))
      have hstep : Hid (mtGo s.data.toList p (d + 1) = if b < cm s.data.toList p (p - (d + 1)) then (cm s.data.toList p (p - (d + 1)), d + 1) else (b, a)) := by
        show _ = _
        rw [mtGo, hmt.out]
      generalize cm s.data.toList p (p - (d + 1)) = c at *
      by_cases hbc : b < c
      · go_wp2_with fail
        go_roundw
        case rel =>
          refine ⟨c, d + 1, d + 1, rfl, by go_num, by go_num, by omega, by omega, ?_, drewN_trans hdr.out ⟨_, rfl⟩⟩
          show _ = _
          rw [hstep.out, if_pos hbc]
        case measure => simp [intOf]; omega
      · go_wp2_with fail
        go_roundw
        case rel =>
          refine ⟨b, a, d + 1, rfl, rfl, by go_num, by omega, by omega, ?_, drewN_trans hdr.out ⟨_, rfl⟩⟩
          show _ = _
          rw [hstep.out, if_neg hbc]
        case measure => simp [intOf]; omega
    · have hres : Hid (matchP s.data.toList p = norm3 (b, a)) := by
        show _ = _
        obtain rfl : d = m := by omega
        unfold matchP
        rw [← HM.out, hmt.out]
      have hx : (d : Int) + 1 ≤ 4096 → (p : Int) < (d : Int) + 1 := by have := HM3.out; omega
      by_cases h4 : d + 1 ≤ 4096
      · have hx' := hx (by omega)
        clear hx
        by_cases h3 : b < 3
        · go_wp2_with fail
          go_ret2
          rw [hres.out, norm3, if_pos h3]
          exact ⟨rfl, hdr.out⟩
        · go_wp2_with fail
          go_ret2
          rw [hres.out, norm3, if_neg h3]
          exact ⟨rfl, hdr.out⟩
      · have hg : decide ((d : Int) + 1 ≤ 4096) = false := by simp; omega
        clear hx
        by_cases h3 : b < 3
        · go_wp2_with fail
          go_ret2
          rw [hres.out, norm3, if_pos h3]
          exact ⟨rfl, hdr.out⟩
        · go_wp2_with fail
          go_ret2
          rw [hres.out, norm3, if_neg h3]
          exact ⟨rfl, hdr.out⟩
end Go.Proofs.Ytppfjofaegbbjaa
