/-
  Walks: pixels of straight alpha, values of 8 bits, in the program and in the reference.
-/
import Derived.Test.YtakileiomgaahaaRas
import Derived.Test.YtakileiomgaahaaQt
namespace Go.Proofs.Ytakileiomgaahaa
open Go.RowKit

def from8I (x : Int) : Int := 257 * clampI x 0 255
/-- A premultiplied pixel with straight alpha. -/
def straQ (q : Px) : Px := if q.2.2.2 = 0 then (0, 0, 0, 0) else (uI (rdI (q.1 * 65535) q.2.2.2), uI (rdI (q.2.1 * 65535) q.2.2.2), uI (rdI (q.2.2.1 * 65535) q.2.2.2), q.2.2.2)
def straP (p : Px) : Px := straQ (limP p)
theorem from8_any (x : Int) (w : World) : Calls Try.prog 26 #[.int .i64 x] w fun e w' => e = .returned (.int .i64 (from8I x)) ∧ w = w' := by
  have H := Lib.hid (fun w => pclamp_any x 0 255 w)
  have HE : Hid (from8I x = 257 * clampI x 0 255) := rfl
  have h1 : 0 ≤ clampI x 0 255 ∧ clampI x 0 255 ≤ 255 := by unfold clampI; omega
  obtain ⟨h1, h2⟩ := h1
  generalize clampI x 0 255 = c at *
  go_enter Try.func26, Try.ntmps26
  go_wp2_with fail
  refine (H.out _).mono ?_
  rintro e w1 ⟨rfl, rfl⟩
  go_wp2_with fail
  go_ret
  exact ⟨by rw [HE.out]; rfl, rfl⟩
theorem rfrom8_any (x : Int) (w : World) : Calls Try.prog 78 #[.int .i64 x] w fun e w' => e = .returned (.int .i64 (from8I x)) ∧ w = w' := by
  have H := Lib.hid (fun w => rclamp_any x 0 255 w)
  have HE : Hid (from8I x = 257 * clampI x 0 255) := rfl
  have h1 : 0 ≤ clampI x 0 255 ∧ clampI x 0 255 ≤ 255 := by unfold clampI; omega
  obtain ⟨h1, h2⟩ := h1
  generalize clampI x 0 255 = c at *
  go_enter Try.func78, Try.ntmps78
  go_wp2_with fail
  refine (H.out _).mono ?_
  rintro e w1 ⟨rfl, rfl⟩
  go_wp2_with fail
  go_ret
  exact ⟨by rw [HE.out]; rfl, rfl⟩
theorem nunit_any (x : Int) (w : World) : Calls Try.prog 104 #[.int .i64 x] w fun e w' => e = .returned (.int .i64 (uI x)) ∧ w = w' := by
  have H := Lib.hid (fun w => pclamp_any x 0 65535 w)
  go_enter Try.func104, Try.ntmps104
  go_wp2_with fail
  refine (H.out _).mono ?_
  rintro e w1 ⟨rfl, rfl⟩
  go_wp2_with fail
  go_ret
  exact ⟨rfl, rfl⟩
theorem uI_id (x : Int) (h0 : 0 ≤ x) (h1 : x ≤ 65535) : uI x = x := by unfold uI clampI; omega
theorem rdI_nonneg (a b : Int) (ha : 0 ≤ a) (hb : 0 < b) : 0 ≤ rdI a b := by
  unfold rdI
  exact Int.ediv_nonneg (by omega) (by omega)
theorem quo_any (a b : Int) (w : World) (ha : 0 ≤ a) (ha2 : a ≤ 65535) (hb : 0 < b) (hb2 : b ≤ 65535) : Calls Try.prog 94 #[.int .i64 a, .int .i64 b] w fun e w' => e = .returned (.int .i64 (uI (rdI (a * 65535) b))) ∧ w = w' := by
  have H1 := Lib.hid (fun w => nunit_any a w)
  have H2 := Lib.hid (fun w => nunit_any b w)
  rw [uI_id a ha ha2] at H1
  rw [uI_id b (by omega) hb2] at H2
  have H3 := Lib.hid (fun w => divI_any (a * 65535) b w (by omega) (by omega) hb (by omega))
  have hn := rdI_nonneg (a * 65535) b (by omega) hb
  have HU : Hid (uI (rdI (a * 65535) b) = min 65535 (rdI (a * 65535) b)) := by show _ = _; unfold uI clampI; omega
  generalize rdI (a * 65535) b = r at *
  go_enter Try.func94, Try.ntmps94
  go_wp2_with fail
  refine (H1.out _).mono ?_
  rintro e w1 ⟨rfl, rfl⟩
  go_wp2_with fail
  refine (H2.out _).mono ?_
  rintro e w1 ⟨rfl, rfl⟩
  go_wp2_with fail
  refine (H3.out _).mono ?_
  rintro e w1 ⟨rfl, rfl⟩
  go_wp2_with fail
  go_ret
  exact ⟨by rw [HU.out]; rfl, rfl⟩

set_option maxHeartbeats 2000000 in
set_option maxRecDepth 100000 in
theorem straight_any (p : Px) (w : World) : Calls Try.prog 76 #[.agg (pxC p)] w fun e w' => e = .returned (.agg (pxC (straP p))) ∧ Below w.heap.size w w' := by
  have HL := Lib.hid (fun w => plimit_any p w)
  have HSP : Hid (straP p = straQ (limP p)) := rfl
  have hr : (0 ≤ (limP p).1 ∧ (limP p).1 ≤ 65535) ∧ (0 ≤ (limP p).2.1 ∧ (limP p).2.1 ≤ 65535) ∧ (0 ≤ (limP p).2.2.1 ∧ (limP p).2.2.1 ≤ 65535) ∧ (0 ≤ (limP p).2.2.2 ∧ (limP p).2.2.2 ≤ 65535) := ⟨uI_rng _, uI_rng _, uI_rng _, uI_rng _⟩
  generalize limP p = q at *
  rw [HSP.out]
  clear HSP
  obtain ⟨a, b, c, d⟩ := p
  obtain ⟨q0, q1, q2, q3⟩ := q
  obtain ⟨⟨a1, a2⟩, ⟨b1, b2⟩, ⟨c1, c2⟩, d1, d2⟩ := hr
  simp only at a1 a2 b1 b2 c1 c2 d1 d2
  unfold pxC at HL ⊢
  simp only at HL
  have h0 := (Blk.new w 46 (pxC (a, b, c, d))).alloc (.cells (pxC (0, 0, 0, 0)) 46)
  have h1 := Blk.new_at (w := w.alloc (.cells (pxC (a, b, c, d)) 46)) (k := w.heap.size + 1) (by simp) 46 (pxC (0, 0, 0, 0))
  have hb := ((Below.refl w.heap.size w).alloc (Nat.le_refl _) (.cells (pxC (a, b, c, d)) 46)).alloc (by simp) (.cells (pxC (0, 0, 0, 0)) 46)
  have e0 : (w.alloc (.cells #[.int .i64 a, .int .i64 b, .int .i64 c, .int .i64 d] 46)).alloc (.cells #[.int .i64 0, .int .i64 0, .int .i64 0, .int .i64 0] 46) = (w.alloc (.cells (pxC (a, b, c, d)) 46)).alloc (.cells (pxC (0, 0, 0, 0)) 46) := rfl
  go_enter Try.func76, Try.ntmps76
  go_upto_region 1 with fail
  generalize (w.alloc (.cells (pxC (a, b, c, d)) 46)).alloc (.cells (pxC (0, 0, 0, 0)) 46) = wz at *
  clear e0
  generalize hB : w.heap.size = B at *
  have HB := Lib.hid hB
  clear hB
  have y0 : wz.cell? ⟨B, 0, none⟩ = some (.int .i64 a) := h0.cell 0
  have y1 : wz.cell? ⟨B, 1, none⟩ = some (.int .i64 b) := h0.cell 1
  have y2 : wz.cell? ⟨B, 2, none⟩ = some (.int .i64 c) := h0.cell 2
  have y3 : wz.cell? ⟨B, 3, none⟩ = some (.int .i64 d) := h0.cell 3
  have HH0 := Lib.hid h0
  have HH1 := Lib.hid h1
  have HBL := Lib.hid hb
  clear h0 h1 hb
  go_wp2_with fail
  refine (HL.out _).mono ?_
  rintro e w1 ⟨rfl, hb1⟩
  have HX0 : Hid (Blk w1 B 46 (pxC (a, b, c, d))) := (hb1.block _ HH0.out.lt).trans HH0.out
  have HX1 : Hid (Blk w1 (B + 1) 46 (pxC (0, 0, 0, 0))) := (hb1.block _ HH1.out.lt).trans HH1.out
  have HXB : Hid (Below B w w1) := HBL.out.trans (hb1.mono (Nat.le_of_lt HH0.out.lt))
  clear hb1 y0 y1 y2 y3 HH0 HH1 HBL
  go_upto_region 2 with (refine wpList_store_rowTo rfl 46 (.tmp 1) (.tmp 4) rfl rfl B (pxC (q0, q1, q2, q3)) (by rfl) (by rfl) 46 (pxC (a, b, c, d)) (by exact HX0.out) (pxC_inf _) rfl (pxC_one _) ?_)
  have HY0 : Hid (Blk (w1.setRow B (pxC (q0, q1, q2, q3))) B 46 (pxC (q0, q1, q2, q3))) := HX0.out.rset _
  have HY1 : Hid (Blk (w1.setRow B (pxC (q0, q1, q2, q3))) (B + 1) 46 (pxC (0, 0, 0, 0))) := HX1.out.rset_ne _ (by omega)
  have HYB : Hid (Below B w (w1.setRow B (pxC (q0, q1, q2, q3)))) := below_rset HXB.out (Nat.le_refl _) _
  generalize w1.setRow B (pxC (q0, q1, q2, q3)) = w2 at *
  clear HX0 HX1 HXB
  have z0 : w2.cell? ⟨B, 0, none⟩ = some (.int .i64 q0) := HY0.out.cell 0
  have z1 : w2.cell? ⟨B, 1, none⟩ = some (.int .i64 q1) := HY0.out.cell 1
  have z2 : w2.cell? ⟨B, 2, none⟩ = some (.int .i64 q2) := HY0.out.cell 2
  have z3 : w2.cell? ⟨B, 3, none⟩ = some (.int .i64 q3) := HY0.out.cell 3
  by_cases hq : q3 = 0
  · have HF : Hid (straQ (q0, q1, q2, q3) = (0, 0, 0, 0)) := if_pos hq
    have e3 : (q3 == 0) = true := by simpa using hq
    clear hq
    go_wp2_with (refine wpList_rset_same rfl 46 (.tmp 2) (.tmp 8) rfl rfl (B + 1) (pxC (0, 0, 0, 0)) (by rfl) (by rfl) 46 (by exact HY1.out) (pxC_inf _) (pxC_one _) ?_)
    refine bodyPost_ret (v := .agg (pxC (0, 0, 0, 0))) (results_cell_row rfl _ _ (B + 1) 46 (pxC (0, 0, 0, 0)) (0, 0) _ rfl HY1.out Try.underlying46 rfl (pxC_inf _)) rfl ⟨?_, by rw [HB.out]; exact HYB.out⟩
    rw [HF.out]
    rfl
  · have hd : 0 < q3 := by omega
    have HF : Hid (straQ (q0, q1, q2, q3) = (uI (rdI (q0 * 65535) q3), uI (rdI (q1 * 65535) q3), uI (rdI (q2 * 65535) q3), q3)) := if_neg hq
    have e3 : (q3 == 0) = false := by simpa using hq
    have HQ : Hid (∀ x w, 0 ≤ x → x ≤ 65535 → Calls Try.prog 94 #[.int .i64 x, .int .i64 q3] w fun e w' => e = .returned (.int .i64 (uI (rdI (x * 65535) q3))) ∧ w' = w) := fun x w h1 h2 => (quo_any x q3 w h1 h2 hd d2).mono fun e w' h => ⟨h.1, h.2.symm⟩
    have Q0 := Lib.hid (fun w => HQ.out q0 w a1 a2)
    have Q1 := Lib.hid (fun w => HQ.out q1 w b1 b2)
    have Q2 := Lib.hid (fun w => HQ.out q2 w c1 c2)
    clear hq HQ
    generalize uI (rdI (q0 * 65535) q3) = s0 at *
    generalize uI (rdI (q1 * 65535) q3) = s1 at *
    generalize uI (rdI (q2 * 65535) q3) = s2 at *
    go_upto_region 4 with fail
    go_still_tail 18, (by kernel_rfl)
    still_call (Q0.out _)
    repeat still_step
    still_call (Q1.out _)
    repeat still_step
    still_call (Q2.out _)
    repeat still_step
    refine wpStill_nil ?_
    have HH2 : Hid (Blk w2.drew (B + 1) 46 (pxC (0, 0, 0, 0))) := HY1.out
    have HBL2 : Hid (Below B w w2.drew) := HYB.out.drew
    change wpList _ _ _ _ _ w2.drew
    clear z0 z1 z2 z3 HY0 HY1 HYB
    generalize w2.drew = wy at *
    refine wpList_store_rowTo rfl 46 (.tmp 2) (.tmp 26) rfl rfl (B + 1) (pxC (s0, s1, s2, q3)) (by rfl) (by rfl) 46 (pxC (0, 0, 0, 0)) HH2.out (pxC_inf _) rfl (pxC_one _) ?_
    go_wp2_with fail
    refine bodyPost_ret (v := .agg (pxC (s0, s1, s2, q3))) (results_cell_row rfl _ _ (B + 1) 46 (pxC (s0, s1, s2, q3)) (0, 0) _ rfl (HH2.out.rset _) Try.underlying46 rfl (pxC_inf _)) rfl ⟨?_, ?_⟩
    · rw [HF.out]; rfl
    · rw [HB.out]
      exact below_rset HBL2.out (by omega) _

set_option maxHeartbeats 2000000 in
set_option maxRecDepth 100000 in
theorem rstraight_any (p : Px) (w : World) : Calls Try.prog 81 #[.agg (pxC p)] w fun e w' => e = .returned (.agg (pxC (straP p))) ∧ Below w.heap.size w w' := by
  have HL := Lib.hid (fun w => rLimit_any p w)
  have HSP : Hid (straP p = straQ (limP p)) := rfl
  have hr : (0 ≤ (limP p).1 ∧ (limP p).1 ≤ 65535) ∧ (0 ≤ (limP p).2.1 ∧ (limP p).2.1 ≤ 65535) ∧ (0 ≤ (limP p).2.2.1 ∧ (limP p).2.2.1 ≤ 65535) ∧ (0 ≤ (limP p).2.2.2 ∧ (limP p).2.2.2 ≤ 65535) := ⟨uI_rng _, uI_rng _, uI_rng _, uI_rng _⟩
  generalize limP p = q at *
  rw [HSP.out]
  clear HSP
  obtain ⟨a, b, c, d⟩ := p
  obtain ⟨q0, q1, q2, q3⟩ := q
  obtain ⟨⟨a1, a2⟩, ⟨b1, b2⟩, ⟨c1, c2⟩, d1, d2⟩ := hr
  simp only at a1 a2 b1 b2 c1 c2 d1 d2
  unfold pxC at HL ⊢
  simp only at HL
  have h0 := (Blk.new w 46 (pxC (a, b, c, d))).alloc (.cells (pxC (0, 0, 0, 0)) 46)
  have h1 := Blk.new_at (w := w.alloc (.cells (pxC (a, b, c, d)) 46)) (k := w.heap.size + 1) (by simp) 46 (pxC (0, 0, 0, 0))
  have hb := ((Below.refl w.heap.size w).alloc (Nat.le_refl _) (.cells (pxC (a, b, c, d)) 46)).alloc (by simp) (.cells (pxC (0, 0, 0, 0)) 46)
  have e0 : (w.alloc (.cells #[.int .i64 a, .int .i64 b, .int .i64 c, .int .i64 d] 46)).alloc (.cells #[.int .i64 0, .int .i64 0, .int .i64 0, .int .i64 0] 46) = (w.alloc (.cells (pxC (a, b, c, d)) 46)).alloc (.cells (pxC (0, 0, 0, 0)) 46) := rfl
  go_enter Try.func81, Try.ntmps81
  go_upto_region 1 with fail
  generalize (w.alloc (.cells (pxC (a, b, c, d)) 46)).alloc (.cells (pxC (0, 0, 0, 0)) 46) = wz at *
  clear e0
  generalize hB : w.heap.size = B at *
  have HB := Lib.hid hB
  clear hB
  have y0 : wz.cell? ⟨B, 0, none⟩ = some (.int .i64 a) := h0.cell 0
  have y1 : wz.cell? ⟨B, 1, none⟩ = some (.int .i64 b) := h0.cell 1
  have y2 : wz.cell? ⟨B, 2, none⟩ = some (.int .i64 c) := h0.cell 2
  have y3 : wz.cell? ⟨B, 3, none⟩ = some (.int .i64 d) := h0.cell 3
  have HH0 := Lib.hid h0
  have HH1 := Lib.hid h1
  have HBL := Lib.hid hb
  clear h0 h1 hb
  go_wp2_with fail
  refine (HL.out _).mono ?_
  rintro e w1 ⟨rfl, hb1⟩
  have HX0 : Hid (Blk w1 B 46 (pxC (a, b, c, d))) := (hb1.block _ HH0.out.lt).trans HH0.out
  have HX1 : Hid (Blk w1 (B + 1) 46 (pxC (0, 0, 0, 0))) := (hb1.block _ HH1.out.lt).trans HH1.out
  have HXB : Hid (Below B w w1) := HBL.out.trans (hb1.mono (Nat.le_of_lt HH0.out.lt))
  clear hb1 y0 y1 y2 y3 HH0 HH1 HBL
  go_upto_region 2 with (refine wpList_store_rowTo rfl 46 (.tmp 1) (.tmp 4) rfl rfl B (pxC (q0, q1, q2, q3)) (by rfl) (by rfl) 46 (pxC (a, b, c, d)) (by exact HX0.out) (pxC_inf _) rfl (pxC_one _) ?_)
  have HY0 : Hid (Blk (w1.setRow B (pxC (q0, q1, q2, q3))) B 46 (pxC (q0, q1, q2, q3))) := HX0.out.rset _
  have HY1 : Hid (Blk (w1.setRow B (pxC (q0, q1, q2, q3))) (B + 1) 46 (pxC (0, 0, 0, 0))) := HX1.out.rset_ne _ (by omega)
  have HYB : Hid (Below B w (w1.setRow B (pxC (q0, q1, q2, q3)))) := below_rset HXB.out (Nat.le_refl _) _
  generalize w1.setRow B (pxC (q0, q1, q2, q3)) = w2 at *
  clear HX0 HX1 HXB
  have z3 : w2.cell? ⟨B, 3, none⟩ = some (.int .i64 q3) := HY0.out.cell 3
  by_cases hq : q3 = 0
  · have HF : Hid (straQ (q0, q1, q2, q3) = (0, 0, 0, 0)) := if_pos hq
    have e3 : (q3 == 0) = true := by simpa using hq
    clear hq
    go_wp2_with (refine wpList_rset_same rfl 46 (.tmp 2) (.tmp 8) rfl rfl (B + 1) (pxC (0, 0, 0, 0)) (by rfl) (by rfl) 46 (by exact HY1.out) (pxC_inf _) (pxC_one _) ?_)
    refine bodyPost_ret (v := .agg (pxC (0, 0, 0, 0))) (results_cell_row rfl _ _ (B + 1) 46 (pxC (0, 0, 0, 0)) (0, 0) _ rfl HY1.out Try.underlying46 rfl (pxC_inf _)) rfl ⟨?_, by rw [HB.out]; exact HYB.out⟩
    rw [HF.out]
    rfl
  · have hd : 0 < q3 := by omega
    have HF : Hid (straQ (q0, q1, q2, q3) = (uI (rdI (q0 * 65535) q3), uI (rdI (q1 * 65535) q3), uI (rdI (q2 * 65535) q3), q3)) := if_neg hq
    have e3 : (q3 == 0) = false := by simpa using hq
    have D0 := Lib.hid (fun w => rdivI_any (q0 * 65535) q3 w (by omega) (by omega) hd (by omega))
    have D1 := Lib.hid (fun w => rdivI_any (q1 * 65535) q3 w (by omega) (by omega) hd (by omega))
    have D2 := Lib.hid (fun w => rdivI_any (q2 * 65535) q3 w (by omega) (by omega) hd (by omega))
    have U0 := Lib.hid (fun w => rU_any (rdI (q0 * 65535) q3) w)
    have U1 := Lib.hid (fun w => rU_any (rdI (q1 * 65535) q3) w)
    have U2 := Lib.hid (fun w => rU_any (rdI (q2 * 65535) q3) w)
    clear hq
    generalize uI (rdI (q0 * 65535) q3) = s0 at *
    generalize uI (rdI (q1 * 65535) q3) = s1 at *
    generalize uI (rdI (q2 * 65535) q3) = s2 at *
    obtain ⟨m0, hm0⟩ : ∃ m, q0 * 65535 = m := ⟨_, rfl⟩
    obtain ⟨m1, hm1⟩ : ∃ m, q1 * 65535 = m := ⟨_, rfl⟩
    obtain ⟨m2, hm2⟩ : ∃ m, q2 * 65535 = m := ⟨_, rfl⟩
    rw [hm0] at D0 U0
    rw [hm1] at D1 U1
    rw [hm2] at D2 U2
    have n0 : IntKind.i64.wrap (q0 * 65535) = m0 := by rw [IntKind.wrap_i64]; omega
    have n1 : IntKind.i64.wrap (q1 * 65535) = m1 := by rw [IntKind.wrap_i64]; omega
    have n2 : IntKind.i64.wrap (q2 * 65535) = m2 := by rw [IntKind.wrap_i64]; omega
    generalize rdI m0 q3 = r0 at *
    generalize rdI m1 q3 = r1 at *
    generalize rdI m2 q3 = r2 at *
    clear hm0 hm1 hm2
    go_upto_region 4 with fail
    clear z3
    obtain ⟨K0, hK0⟩ : ∃ K0, K0 = w2.heap.size := ⟨_, rfl⟩
    have HK0 : Hid (K0 ≤ w2.heap.size) := by show _ ≤ _; omega
    have hPK : B + 1 < K0 := by rw [hK0]; exact HY1.out.lt
    have hPK0 : B < K0 := by omega
    clear hK0
    have c0 : ∀ u : BW K0 w2, u.w.cell? ⟨B, 0, none⟩ = some (.int .i64 q0) := fun u => (u.b.cell (p := ⟨B, 0, none⟩) hPK0).trans (HY0.out.cell 0)
    have c1 : ∀ u : BW K0 w2, u.w.cell? ⟨B, 1, none⟩ = some (.int .i64 q1) := fun u => (u.b.cell (p := ⟨B, 1, none⟩) hPK0).trans (HY0.out.cell 1)
    have c2 : ∀ u : BW K0 w2, u.w.cell? ⟨B, 2, none⟩ = some (.int .i64 q2) := fun u => (u.b.cell (p := ⟨B, 2, none⟩) hPK0).trans (HY0.out.cell 2)
    have c3 : ∀ u : BW K0 w2, u.w.cell? ⟨B, 3, none⟩ = some (.int .i64 q3) := fun u => (u.b.cell (p := ⟨B, 3, none⟩) hPK0).trans (HY0.out.cell 3)
    refine wp_region_bw_tail K0 w2 24 (Below.refl _ _) (by kernel_rfl) (by kernel_rfl) ?_
    simp only [List.take_succ_cons, List.take_zero, List.drop_succ_cons, List.drop_zero]
    repeat (go_big_quiet_step (first
      | (go_at_call_of 101 (Value.int .i64 m0); exact calls_bw_drew (D0.out _))
      | (go_at_call_of 101 (Value.int .i64 m1); exact calls_bw_drew (D1.out _))
      | (go_at_call_of 101 (Value.int .i64 m2); exact calls_bw_drew (D2.out _))
      | (go_at_call_of 100 (Value.int .i64 r0); exact calls_bw_same (U0.out _))
      | (go_at_call_of 100 (Value.int .i64 r1); exact calls_bw_same (U1.out _))
      | (go_at_call_of 100 (Value.int .i64 r2); exact calls_bw_same (U2.out _))))
    refine wpQuiet_nil ?_
    rintro _ ⟨u, rfl⟩
    have HH2 : Hid (Blk u.w (B + 1) 46 (pxC (0, 0, 0, 0))) := (u.b.block _ hPK).trans HY1.out
    have HBL2 : Hid (Below B w u.w) := HYB.out.trans (u.b.mono (Nat.le_of_lt hPK0))
    generalize u.w = wy at *
    clear c0 c1 c2 c3 HY0 HY1 HYB
    refine wpList_store_rowTo rfl 46 (.tmp 2) (.tmp 32) rfl rfl (B + 1) (pxC (s0, s1, s2, q3)) (by rfl) (by rfl) 46 (pxC (0, 0, 0, 0)) HH2.out (pxC_inf _) rfl (pxC_one _) ?_
    go_wp2_with fail
    refine bodyPost_ret (v := .agg (pxC (s0, s1, s2, q3))) (results_cell_row rfl _ _ (B + 1) 46 (pxC (s0, s1, s2, q3)) (0, 0) _ rfl (HH2.out.rset _) Try.underlying46 rfl (pxC_inf _)) rfl ⟨?_, ?_⟩
    · rw [HF.out]; rfl
    · rw [HB.out]
      exact below_rset HBL2.out (by omega) _
end Go.Proofs.Ytakileiomgaahaa
