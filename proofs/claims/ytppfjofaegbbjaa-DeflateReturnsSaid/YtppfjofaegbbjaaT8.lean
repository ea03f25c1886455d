/-
  Walk: the longest match that the finder returns is the one of the plain definition.
-/
import Derived.Test.YtppfjofaegbbjaaT7
import Derived.Deep.CutBlock
namespace Go.Proofs.Ytppfjofaegbbjaa
open Go.RowKit

theorem Fd.eq_drewN {w w1 : World} {B N f hd pv : Nat} {s : ByteArray} {p : Nat} (h : Fd w B N f hd pv s p) (hn : ∃ n, w1 = w.drewN n) : Fd w1 B N f hd pv s p := by
  obtain ⟨n, rfl⟩ := hn; exact h.drewN n
theorem drewN_trans {w w1 w2 : World} (h : ∃ n, w1 = w.drewN n) (h' : ∃ n, w2 = w1.drewN n) : ∃ n, w2 = w.drewN n := by
  obtain ⟨n, rfl⟩ := h; obtain ⟨m, rfl⟩ := h'; exact ⟨n + m, by rw [World.drewN_drewN]⟩

set_option maxRecDepth 100000 in
set_option maxHeartbeats 2000000 in
theorem longest_any (w : World) (B N f hd pv : Nat) (s : ByteArray) (p : Nat) (hF : Fd w B N f hd pv s p) (hp : p < s.size) (hs : s.size < 1000000000) :
    Calls Try.prog 31 #[.pointer (some ⟨f, 0, none⟩), .int .i64 p] w fun e w' =>
      e = .returned (.tuple #[.int .i64 (matchP s.data.toList p).1, .int .i64 (matchP s.data.toList p).2]) ∧ ∃ n, w' = w.drewN n := by
  have hc0 := hF.blk.cell 0
  simp at hc0
  have hl : s.data.toList.length = s.size := by simp
  obtain ⟨M, hM⟩ : ∃ M, M = most s.data.toList p := ⟨_, rfl⟩
  have hM1 : M ≤ 258 := by rw [hM]; unfold most; omega
  have hM2 : p + M ≤ s.size := by rw [hM]; unfold most; omega
  go_enter Try.func31, Try.ntmps31
  go_upto_region 1 with (fail)
  go_cut [6] (fun v wx => v = .int .i64 M ∧ wx = w)
  case first =>
    go_wp2_with fail
    all_goals
      go_meet
      refine ⟨?_, rfl⟩
      congr 1
      rw [hM]; unfold most; omega
  case rest =>
    obtain ⟨rfl, rfl⟩ := hcut
    have HM := Lib.hid hM
    clear hM hl
    by_cases h3 : M < 3
    · go_wp2_with fail
      go_ret2
      rw [matchP_short _ _ (by rw [← HM.out]; exact h3)]
      exact ⟨rfl, 0, rfl⟩
    · have h3p : p + 3 ≤ s.size := by omega
      have hd3 : decide ((M : Int) < 3) = false := by simp; omega
      obtain ⟨h, hh⟩ : ∃ h, h = hash3 s.data.toList p := ⟨_, rfl⟩
      have hcall := hash_any wc f p s _ _ hF.blk h3p hs
      rw [← hh] at hcall
      have HC : Hid (∀ n, Calls Try.prog 43 #[.pointer (some ⟨f, 0, none⟩), .int .i64 p] (wc.drewN n) fun e w' => e = .returned (.int .i64 h) ∧ ∃ m, w' = wc.drewN m) := by
        intro n
        rw [hh]
        exact (hash_any (wc.drewN n) f p s _ _ (hF.blk.drewN n) h3p hs).mono fun e w' ⟨he, m, hm⟩ => ⟨he, n + m, by rw [hm, World.drewN_drewN]⟩
      clear hcall
      obtain ⟨H, a, b⟩ := hF.head
      have hhN : h < N := by rw [hh, hF.hN.out]; exact hash3_lt _ _
      have ch := a.cell h
      rw [b h hhN] at ch
      have hc1 := hF.blk.cell 1
      simp at hc1
      obtain ⟨x, hx⟩ : ∃ x, x = headP s.data.toList p h := ⟨_, rfl⟩
      rw [← hx] at ch
      have hxl : x ≤ p := by rw [hx]; exact headP_le _ _ _
      have HX := Lib.hid hx
      have HH := Lib.hid hh
      clear hx hh b a
      go_wp2_with fail
      have hlt : (h : Int) < (N : Int) := by omega
      have hwx : IntKind.i64.wrap ((x : Int) - 1) = (x : Int) - 1 := IntWalk.i64_in _ (by omega)
      go_quiet ((go_at_call 43; exact HC.out _))
      clear hlt hwx hhN
      go_wp2_with fail
      go_loopw [4, 5, 7, 8] (fun vl vd vq _ wr => ∃ q1 a b : Nat, vq = .int .i64 ((q1 : Int) - 1) ∧ vl = .int .i64 a ∧ vd = .int .i64 b ∧ q1 ≤ p ∧ a ≤ 258 ∧
          Hid ((a, b) = norm3 (mtGo s.data.toList p (min (p - q1) 4096))) ∧ Hid (0 < q1 → hash3 s.data.toList (q1 - 1) = hash3 s.data.toList p) ∧ Fd wr B N f hd pv s p ∧ Hid (∃ n, wr = wc.drewN n)) (fun _ _ vq _ _ => (intOf vq + 1).toNat)
      case atStart =>
        refine ⟨x, 0, 0, rfl, rfl, rfl, hxl, by omega, ?_, ?_, hF.drewN _, ⟨_, rfl⟩⟩
        · show _ = _
          rw [HX.out, HH.out, chain_start _ _ (by simpa using h3p)]
        · intro h0
          rw [HX.out, headP_hash _ _ _ (by rw [← HX.out]; exact h0)]
          exact HH.out
      case round =>
        clear hF hc0 hc1 ch HC HH HX hxl
        obtain ⟨q1, a, b, rfl, rfl, rfl, hq1, ha, hab, hhq, hF, hdr⟩ := hrel
        by_cases hex : q1 = 0 ∨ 4096 < p - (q1 - 1)
        · have hres : Hid (matchP s.data.toList p = (a, b)) := by
            show _ = _
            rw [← match_end _ _ _ hex hq1, hab.out]
          by_cases hq0 : q1 = 0
          · subst hq0
            go_wp2_with fail
            go_ret2
            rw [hres.out]
            exact ⟨rfl, hdr.out⟩
          · have hge : decide ((0 : Int) ≤ (q1 : Int) - 1) = true := by simp; omega
            go_wp2_with fail
            go_ret2
            rw [hres.out]
            exact ⟨rfl, hdr.out⟩
        · obtain ⟨q, rfl⟩ : ∃ q, q1 = q + 1 := ⟨q1 - 1, by omega⟩
          have hcast : ((q + 1 : Nat) : Int) - 1 = (q : Int) := by omega
          rw [hcast]
          clear hcast
          have hd1 : (p : Int) - (q : Int) ≤ 4096 := by omega
          have hqp : q < p := by omega
          clear hex
          have htry := chain_try s.data.toList p (q + 1) a b (by omega) hq1 (by omega) hab.out
          rw [Nat.add_sub_cancel] at htry
          have HT := Lib.hid htry
          have hhq' := hhq.out (by omega)
          rw [Nat.add_sub_cancel] at hhq'
          have HQ := Lib.hid hhq'
          clear htry hhq hhq' hab
          have hc0 := hF.blk.cell 0
          simp at hc0
          obtain ⟨c, hc⟩ : ∃ c, c = cm s.data.toList p q := ⟨_, rfl⟩
          have hcM : c ≤ M := by rw [hc, HM.out]; exact cm_le _ _ _
          have HCM := Lib.hid hc
          clear hc
          obtain ⟨w0, rfl⟩ : ∃ w0 : World, w0 = wc := ⟨_, rfl⟩
          go_upto_block 2 with (fail)
          obtain ⟨wo, rfl⟩ : ∃ wo : World, wo = wr := ⟨_, rfl⟩
          go_cut [8] (fun vn wx => vn = .int .i64 c ∧ Fd wx B N f hd pv s p ∧ Hid (∃ n, wx = w0.drewN n))
          case first =>
            go_wp2_with fail
            go_loopw [8] (fun vn wi => ∃ k : Nat, vn = .int .i64 k ∧ k ≤ M ∧ Hid (cmGo s.data.toList p q (M - k) k = c) ∧ wi.cell? ⟨f, 0, none⟩ = some (.string s) ∧ Hid (∃ n, wi = wo.drewN n)) (fun vn _ => M - (intOf vn).toNat)
            case atStart => exact ⟨0, rfl, Nat.zero_le _, by show _ = _; rw [HCM.out, HM.out]; rfl, hc0, ⟨0, rfl⟩⟩
            case round =>
              clear hc0
              obtain ⟨k, rfl, hk, hcm, hc0, hdi⟩ := hrel
              by_cases hkM : k < M
              · have hg : decide ((k : Int) < (M : Int)) = true := by simp; omega
                have hx1 : (q : Int) + (k : Int) < (s.size : Int) := by omega
                have hx2 : (p : Int) + (k : Int) < (s.size : Int) := by omega
                go_wp2_with fail
                have w1 : IntKind.i64.wrap ((q : Int) + (k : Int)) = (q : Int) + (k : Int) := IntWalk.i64_in _ (by omega)
                have w2 : IntKind.i64.wrap ((p : Int) + (k : Int)) = (p : Int) + (k : Int) := IntWalk.i64_in _ (by omega)
                have z1 : (0 : Int) ≤ (q : Int) + (k : Int) := by omega
                have z2 : (0 : Int) ≤ (p : Int) + (k : Int) := by omega
                have n1 : ((q : Int) + (k : Int)).toNat = q + k := by omega
                have n2 : ((p : Int) + (k : Int)).toNat = p + k := by omega
                go_quiet (fail)
                clear w1 w2
                go_wp2_with fail
                · have he : ((s[q + k].toNat : Int) == (s[p + k].toNat : Int)) = true := by assumption
                  have he' := byte_beq he
                  go_roundw
                  case rel =>
                    refine ⟨k + 1, by go_num, by omega, ?_, hc0, drewN_trans hdi.out ⟨_, rfl⟩⟩
                    show _ = _
                    rw [cmGo_yes _ _ _ _ _ hkM (by rw [at8, at8, ← byte_at s (q + k) (by omega), ← byte_at s (p + k) (by omega)]; exact he')]
                    exact hcm.out
                  case measure => simp [intOf]; omega
                · have he : ((s[q + k].toNat : Int) == (s[p + k].toNat : Int)) = false := by assumption
                  have he' := byte_bne he
                  go_meet
                  refine ⟨?_, hF.eq_drewN (drewN_trans hdi.out ⟨_, rfl⟩), drewN_trans hdr.out (drewN_trans hdi.out ⟨_, rfl⟩)⟩
                  rw [← hcm.out, cmGo_no _ _ _ _ _ hkM (by rw [at8, at8, ← byte_at s (q + k) (by omega), ← byte_at s (p + k) (by omega)]; exact he')]
              · have hg : decide ((k : Int) < (M : Int)) = false := by simp; omega
                go_wp2_with fail
                go_quiet (fail)
                go_wp2_with fail
                go_meet
                refine ⟨?_, hF.eq_drewN (drewN_trans hdi.out ⟨_, rfl⟩), drewN_trans hdr.out (drewN_trans hdi.out ⟨_, rfl⟩)⟩
                have e : M - k = 0 := by omega
                rw [← hcm.out, e]
                rfl
          case rest =>
            clear hF hdr hc0
            obtain ⟨rfl, hF, hdr⟩ := hcut
            obtain ⟨V, cv, dv, ev⟩ := hF.prev
            have cq := cv.cell q
            rw [ev q hqp (by omega)] at cq
            have hc2 := hF.blk.cell 2
            simp at hc2
            obtain ⟨y, hy⟩ : ∃ y, y = headP s.data.toList q (hash3 s.data.toList q) := ⟨_, rfl⟩
            rw [← hy] at cq
            have hyl : y ≤ q := by rw [hy]; exact headP_le _ _ _
            have HY := Lib.hid hy
            clear hy ev dv cv
            have hqs : (q : Int) < (s.size : Int) := by omega
            go_wp2_with fail
            · have h1 : (3 : Int) ≤ (c : Int) := by assumption
              have h2 : a < c := by assumption
              have h4 : ((c : Int) == (M : Int)) = true := by assumption
              have e := HT.out
              rw [← HCM.out, if_pos ⟨by omega, h2⟩] at e
              have h5 := match_full s.data.toList p (p - q) c (p - q) (by omega) e.symm (by rw [← HM.out]; have := beq_iff_eq.1 h4; omega)
              go_ret2
              rw [← h5]
              refine ⟨?_, hdr.out⟩
              have e2 : (p : Int) - (q : Int) = ((p - q : Nat) : Int) := by omega
              rw [← e2]
              rfl
            · have h1 : (3 : Int) ≤ (c : Int) := by assumption
              have h2 : a < c := by assumption
              have e := HT.out
              rw [← HCM.out, if_pos ⟨by omega, h2⟩, ← chain_step _ _ q (by omega) (by simpa using h3p), ← HQ.out, ← HY.out] at e
              go_roundw
              case rel =>
                refine ⟨y, c, p - q, rfl, rfl, by go_num, by omega, by omega, e.symm, ?_, hF, hdr⟩
                intro h0
                rw [HY.out, headP_hash _ _ _ (by rw [← HY.out]; exact h0)]
                exact HQ.out
              case measure => simp [intOf]; omega
            · have h1 : (3 : Int) ≤ (c : Int) := by assumption
              have h2 : ¬ a < c := by assumption
              have h4 : ((a : Int) == (M : Int)) = true := by assumption
              have e := HT.out
              rw [← HCM.out, if_neg (by omega)] at e
              have h5 := match_full s.data.toList p (p - q) a b (by omega) e.symm (by rw [← HM.out]; have := beq_iff_eq.1 h4; omega)
              go_ret2
              rw [← h5]
              exact ⟨rfl, hdr.out⟩
            · have h1 : (3 : Int) ≤ (c : Int) := by assumption
              have h2 : ¬ a < c := by assumption
              have e := HT.out
              rw [← HCM.out, if_neg (by omega), ← chain_step _ _ q (by omega) (by simpa using h3p), ← HQ.out, ← HY.out] at e
              go_roundw
              case rel =>
                refine ⟨y, a, b, rfl, rfl, rfl, by omega, by omega, e.symm, ?_, hF, hdr⟩
                intro h0
                rw [HY.out, headP_hash _ _ _ (by rw [← HY.out]; exact h0)]
                exact HQ.out
              case measure => simp [intOf]; omega
            · have h1 : (c : Int) < 3 := by assumption
              have h4 : ((a : Int) == (M : Int)) = true := by assumption
              have e := HT.out
              rw [← HCM.out, if_neg (by omega)] at e
              have h5 := match_full s.data.toList p (p - q) a b (by omega) e.symm (by rw [← HM.out]; have := beq_iff_eq.1 h4; omega)
              go_ret2
              rw [← h5]
              exact ⟨rfl, hdr.out⟩
            · have h1 : ¬ (3 : Int) ≤ (c : Int) := by assumption
              have e := HT.out
              rw [← HCM.out, if_neg (by omega), ← chain_step _ _ q (by omega) (by simpa using h3p), ← HQ.out, ← HY.out] at e
              go_roundw
              case rel =>
                refine ⟨y, a, b, rfl, rfl, rfl, by omega, by omega, e.symm, ?_, hF, hdr⟩
                intro h0
                rw [HY.out, headP_hash _ _ _ (by rw [← HY.out]; exact h0)]
                exact HQ.out
              case measure => simp [intOf]; omega
end Go.Proofs.Ytppfjofaegbbjaa
