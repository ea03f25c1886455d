/-
  Walks: limits of pixels, the error of an image, values of 8 bits, in the program.
-/
import Derived.Test.YtakileiomgaahaaPix2
namespace Go.Proofs.Ytakileiomgaahaa
open Go.RowKit

theorem pclamp_any (x lo hi : Int) (w : World) : Calls Try.prog 65 #[.int .i64 x, .int .i64 lo, .int .i64 hi] w fun e w' => e = .returned (.int .i64 (clampI x lo hi)) ∧ w = w' := by
  go_enter Try.func65, Try.ntmps65
  go_wp2_with fail
  go_ret
  refine ⟨?_, rfl⟩
  show Ending.returned (.int .i64 _) = _
  rfl
theorem punit_any (x : Int) (w : World) : Calls Try.prog 67 #[.int .i64 x] w fun e w' => e = .returned (.int .i64 (uI x)) ∧ w = w' := by
  have H := Lib.hid (fun w => pclamp_any x 0 65535 w)
  go_enter Try.func67, Try.ntmps67
  go_wp2_with fail
  refine (H.out _).mono ?_
  rintro e w1 ⟨rfl, rfl⟩
  go_wp2_with fail
  go_ret
  exact ⟨rfl, rfl⟩
set_option maxHeartbeats 1000000 in
set_option maxRecDepth 100000 in
theorem plimit_any (p : Px) (w : World) : Calls Try.prog 82 #[.agg (pxC p)] w fun e w' => e = .returned (.agg (pxC (limP p))) ∧ Below w.heap.size w w' := by
  obtain ⟨a, b, c, d⟩ := p
  have H := Lib.hid (fun x w => punit_any x w)
  have HL : Hid (limP (a, b, c, d) = (uI a, uI b, uI c, uI d)) := rfl
  unfold pxC
  simp only [limP]
  have e0 : (w.alloc (.cells #[.int .i64 a, .int .i64 b, .int .i64 c, .int .i64 d] 46)).alloc (.cells #[.int .i64 0, .int .i64 0, .int .i64 0, .int .i64 0] 46) = (w.alloc (.cells (pxC (a, b, c, d)) 46)).alloc (.cells (pxC (0, 0, 0, 0)) 46) := rfl
  have h0 := (Blk.new w 46 (pxC (a, b, c, d))).alloc (.cells (pxC (0, 0, 0, 0)) 46)
  have h1 := Blk.new_at (w := w.alloc (.cells (pxC (a, b, c, d)) 46)) (k := w.heap.size + 1) (by simp) 46 (pxC (0, 0, 0, 0))
  have hb := ((Below.refl w.heap.size w).alloc (Nat.le_refl _) (.cells (pxC (a, b, c, d)) 46)).alloc (by simp) (.cells (pxC (0, 0, 0, 0)) 46)
  go_enter Try.func82, Try.ntmps82
  go_upto_region 1 with fail
  generalize (w.alloc (.cells (pxC (a, b, c, d)) 46)).alloc (.cells (pxC (0, 0, 0, 0)) 46) = wz at *
  clear e0
  have y0 : wz.cell? ⟨w.heap.size, 0, none⟩ = some (.int .i64 a) := h0.cell 0
  have y1 : wz.cell? ⟨w.heap.size, 1, none⟩ = some (.int .i64 b) := h0.cell 1
  have y2 : wz.cell? ⟨w.heap.size, 2, none⟩ = some (.int .i64 c) := h0.cell 2
  have y3 : wz.cell? ⟨w.heap.size, 3, none⟩ = some (.int .i64 d) := h0.cell 3
  have HH1 := Lib.hid h1
  have HBL := Lib.hid hb
  clear h0 h1 hb
  generalize hB : w.heap.size = B at *
  have HB := Lib.hid hB
  clear hB
  go_still_tail 13, (by kernel_rfl)
  have HS : Hid (∀ x w, Calls Try.prog 67 #[.int .i64 x] w fun e w' => e = .returned (.int .i64 (uI x)) ∧ w' = w) := fun x w => (H.out x w).mono fun e w' h => ⟨h.1, h.2.symm⟩
  still_call (HS.out _ _)
  repeat still_step
  still_call (HS.out _ _)
  repeat still_step
  still_call (HS.out _ _)
  repeat still_step
  still_call (HS.out _ _)
  repeat still_step
  refine wpStill_nil ?_
  have HH2 : Hid (Blk wz.drew (B + 1) 46 (pxC (0, 0, 0, 0))) := HH1.out
  have HBL2 : Hid (Below B w wz.drew) := HBL.out.drew
  change wpList _ _ _ _ _ wz.drew
  clear y0 y1 y2 y3 HH1 HBL
  generalize wz.drew = wy at *
  refine wpList_store_rowTo rfl 46 (.tmp 2) (.tmp 15) rfl rfl (B + 1) (pxC (limP (a, b, c, d))) (by rfl) (by rfl) 46 (pxC (0, 0, 0, 0)) HH2.out (pxC_inf _) rfl (pxC_one _) ?_
  go_wp2_with fail
  refine bodyPost_ret (v := .agg (pxC (limP (a, b, c, d)))) (results_cell_row rfl _ _ (B + 1) 46 (pxC (limP (a, b, c, d))) (0, 0) _ rfl (HH2.out.rset _) Try.underlying46 rfl (pxC_inf _)) rfl ⟨rfl, ?_⟩
  rw [HB.out]
  exact below_rset HBL2.out (by omega) _
theorem valP_sym (p : Px) : ((p.1 == (limP p).1) && (p.2.1 == (limP p).2.1) && (p.2.2.1 == (limP p).2.2.1) && (p.2.2.2 == (limP p).2.2.2)) = valP p := by
  unfold valP limP
  simp only
  rw [Bool.beq_comm (a := p.1), Bool.beq_comm (a := p.2.1), Bool.beq_comm (a := p.2.2.1), Bool.beq_comm (a := p.2.2.2)]
set_option maxHeartbeats 1000000 in
set_option maxRecDepth 100000 in
theorem pvalid_any (p : Px) (w : World) : Calls Try.prog 54 #[.agg (pxC p)] w fun e w' => e = .returned (.bool (valP p)) ∧ Below w.heap.size w w' := by
  have HL := Lib.hid (fun w => plimit_any p w)
  have he : ∀ w, _ = Result.ok (valP p) w := fun w => (eqPx p (limP p) w).trans (by rw [valP_sym])
  obtain ⟨a, b, c, d⟩ := p
  have h0 := Blk.new w 46 (pxC (a, b, c, d))
  have hb := (Below.refl w.heap.size w).alloc (Nat.le_refl _) (.cells (pxC (a, b, c, d)) 46)
  generalize valP (a, b, c, d) = vp at *
  generalize limP (a, b, c, d) = q at *
  obtain ⟨a', b', c', d'⟩ := q
  unfold pxC at *
  simp only at *
  go_enter Try.func54, Try.ntmps54
  go_upto_region 1 with fail
  generalize w.alloc (.cells #[.int .i64 a, .int .i64 b, .int .i64 c, .int .i64 d] 46) = wz at *
  have y0 : wz.cell? ⟨w.heap.size, 0, none⟩ = some (.int .i64 a) := h0.cell 0
  have y1 : wz.cell? ⟨w.heap.size, 1, none⟩ = some (.int .i64 b) := h0.cell 1
  have y2 : wz.cell? ⟨w.heap.size, 2, none⟩ = some (.int .i64 c) := h0.cell 2
  have y3 : wz.cell? ⟨w.heap.size, 3, none⟩ = some (.int .i64 d) := h0.cell 3
  have hlt := h0.lt
  have HBL := Lib.hid hb
  clear h0 hb
  generalize hB : w.heap.size = B at *
  have HB := Lib.hid hB
  clear hB
  go_region_with (go_at_call 82; refine (HL.out _).mono ?_; rintro e w9 ⟨rfl, hb9⟩; have y0' : w9.cell? ⟨B, 0, none⟩ = some (.int .i64 a) := (hb9.cell (p := ⟨B, 0, none⟩) hlt).trans y0; have y1' : w9.cell? ⟨B, 1, none⟩ = some (.int .i64 b) := (hb9.cell (p := ⟨B, 1, none⟩) hlt).trans y1; have y2' : w9.cell? ⟨B, 2, none⟩ = some (.int .i64 c) := (hb9.cell (p := ⟨B, 2, none⟩) hlt).trans y2; have y3' : w9.cell? ⟨B, 3, none⟩ = some (.int .i64 d) := (hb9.cell (p := ⟨B, 3, none⟩) hlt).trans y3)
  all_goals
    go_wp2_with fail
    go_ret
    exact ⟨rfl, by rw [HB.out]; exact HBL.out.drew.trans (hb9.mono (by show B ≤ _; exact Nat.le_of_lt hlt))⟩
def sizedP (W H : Int) : Bool := !(decide (W < 0 ∨ 256 < W ∨ H < 0 ∨ 256 < H)) && ((W == 0) == (H == 0))
theorem psized_any (W H : Int) (w : World) : Calls Try.prog 53 #[.int .i64 W, .int .i64 H] w fun e w' => e = .returned (.bool (sizedP W H)) ∧ w = w' := by
  by_cases hW0 : W < 0
  · have d : decide (0 ≤ W) = false := by simp; omega
    have HF : Hid (sizedP W H = false) := by show _ = _; unfold sizedP; rw [decide_eq_true (by omega)]; rfl
    go_enter Try.func53, Try.ntmps53
    go_wp2_with fail
    go_ret
    exact ⟨by rw [HF.out]; rfl, rfl⟩
  have dW0 : decide (0 ≤ W) = true := by simp; omega
  by_cases h256W : 256 < W
  · have d : decide (W ≤ 256) = false := by simp; omega
    have HF : Hid (sizedP W H = false) := by show _ = _; unfold sizedP; rw [decide_eq_true (by omega)]; rfl
    go_enter Try.func53, Try.ntmps53
    go_wp2_with fail
    go_ret
    exact ⟨by rw [HF.out]; rfl, rfl⟩
  have d256W : decide (W ≤ 256) = true := by simp; omega
  by_cases hH0 : H < 0
  · have d : decide (0 ≤ H) = false := by simp; omega
    have HF : Hid (sizedP W H = false) := by show _ = _; unfold sizedP; rw [decide_eq_true (by omega)]; rfl
    go_enter Try.func53, Try.ntmps53
    go_wp2_with fail
    go_ret
    exact ⟨by rw [HF.out]; rfl, rfl⟩
  have dH0 : decide (0 ≤ H) = true := by simp; omega
  by_cases h256H : 256 < H
  · have d : decide (H ≤ 256) = false := by simp; omega
    have HF : Hid (sizedP W H = false) := by show _ = _; unfold sizedP; rw [decide_eq_true (by omega)]; rfl
    go_enter Try.func53, Try.ntmps53
    go_wp2_with fail
    go_ret
    exact ⟨by rw [HF.out]; rfl, rfl⟩
  have d256H : decide (H ≤ 256) = true := by simp; omega
  have HF : Hid (sizedP W H = ((W == 0) == (H == 0))) := by show _ = _; unfold sizedP; rw [decide_eq_false (by omega)]; rfl
  go_enter Try.func53, Try.ntmps53
  go_wp2_with fail
  go_ret
  exact ⟨by rw [HF.out]; rfl, rfl⟩
section
variable (x : Int) (w : World)
theorem uI_rng (x : Int) : 0 ≤ uI x ∧ uI x ≤ 65535 := by unfold uI clampI; omega
def to8I (x : Int) : Int := rdI (uI x) 257
theorem to8I_rng (x : Int) : 0 ≤ to8I x ∧ to8I x ≤ 255 := by
  obtain ⟨h1, h2⟩ := uI_rng x
  unfold to8I rdI
  omega
theorem pto8_any : Calls Try.prog 27 #[.int .i64 x] w fun e w' => e = .returned (.int .i64 (to8I x)) ∧ w = w' := by
  have H := Lib.hid (fun w => punit_any x w)
  obtain ⟨h1, h2⟩ := uI_rng x
  have H2 := Lib.hid (fun w => divI_any (uI x) 257 w (by omega) (by omega) (by omega) (by omega))
  have HE : Hid (to8I x = rdI (uI x) 257) := rfl
  generalize uI x = u at *
  go_enter Try.func27, Try.ntmps27
  go_wp2_with fail
  refine (H.out _).mono ?_
  rintro e w1 ⟨rfl, rfl⟩
  go_wp2_with fail
  refine (H2.out _).mono ?_
  rintro e w1 ⟨rfl, rfl⟩
  go_wp2_with fail
  go_ret
  exact ⟨by rw [HE.out]; rfl, rfl⟩
theorem rto8_any : Calls Try.prog 87 #[.int .i64 x] w fun e w' => e = .returned (.int .i64 (to8I x)) ∧ ∃ n, w' = w.drewN n := by
  have H := Lib.hid (fun w => rU_any x w)
  obtain ⟨h1, h2⟩ := uI_rng x
  have H2 := Lib.hid (fun w => rdivI_any (uI x) 257 w (by omega) (by omega) (by omega) (by omega))
  have HE : Hid (to8I x = rdI (uI x) 257) := rfl
  generalize uI x = u at *
  go_enter Try.func87, Try.ntmps87
  go_wp2_with fail
  refine (H.out _).mono ?_
  rintro e w1 ⟨rfl, rfl⟩
  go_wp2_with fail
  refine (H2.out _).mono ?_
  rintro e w1 ⟨rfl, n, rfl⟩
  go_wp2_with fail
  go_ret
  exact ⟨by rw [HE.out]; rfl, n, rfl⟩
end
set_option maxHeartbeats 2000000 in
set_option maxRecDepth 100000 in
theorem pcheckI_any (W H : Int) (v : Value) (px : List Px) (w : World) (hr : PRow w v px) : Calls Try.prog 22 #[.agg (imgI W H v)] w fun e w' => e = .returned (.int .i64 (rchk W H px)) ∧ Below w.heap.size w w' := by
  obtain ⟨x, c, rfl, hc1, hc2, hc3, hcell⟩ := id hr
  unfold maxLen at hc2
  unfold imgI
  have h0 := Blk.new w 34 #[.int .i64 W, .int .i64 H, .slice x px.length c]
  have hb := (Below.refl w.heap.size w).alloc (Nat.le_refl _) (.cells #[.int .i64 W, .int .i64 H, .slice x px.length c] 34)
  have hrz := hr.below ((Below.refl w.heap.size w).alloc (Nat.le_refl _) (.cells #[.int .i64 W, .int .i64 H, .slice x px.length c] 34))
  have HRC : Hid (rchk W H px = if W < 0 ∨ 256 < W ∨ H < 0 ∨ 256 < H then 15 else if (W = 0 ↔ H = 0) ∧ (px.length : Int) = W * H then (if px.all valP = true then 0 else 2) else 15) := rfl
  have HSZ := Lib.hid (fun w => psized_any W H w)
  have HSP : Hid (sizedP W H = (!(decide (W < 0 ∨ 256 < W ∨ H < 0 ∨ 256 < H)) && ((W == 0) == (H == 0)))) := rfl
  clear hr hcell
  go_enter Try.func22, Try.ntmps22
  go_upto_region 1 with fail
  generalize w.alloc (.cells #[.int .i64 W, .int .i64 H, .slice x px.length c] 34) = wz at *
  have y0 : wz.cell? ⟨w.heap.size, 0, none⟩ = some (.int .i64 W) := h0.cell 0
  have y1 : wz.cell? ⟨w.heap.size, 1, none⟩ = some (.int .i64 H) := h0.cell 1
  have y2 : wz.cell? ⟨w.heap.size, 2, none⟩ = some (.slice x px.length c) := h0.cell 2
  have HH0 := Lib.hid h0
  have HBL := Lib.hid hb
  have HRZ := Lib.hid hrz
  clear h0 hb hrz
  generalize hB : w.heap.size = B at *
  have HB := Lib.hid hB
  clear hB
  go_wp2_with fail
  refine (HSZ.out _).mono ?_
  rintro e w1 ⟨rfl, rfl⟩
  clear HSZ
  by_cases hS : W < 0 ∨ 256 < W ∨ H < 0 ∨ 256 < H
  · have hsz : sizedP W H = false := by rw [HSP.out, decide_eq_true hS]; rfl
    have HF : Hid (rchk W H px = 15) := by show _ = _; rw [HRC.out, if_pos hS]
    rw [hsz]
    clear hS hsz
    go_wp2_with fail
    go_ret
    exact ⟨by rw [HF.out]; rfl, by rw [HB.out]; exact HBL.out⟩
  by_cases hz : (W = 0 ↔ H = 0)
  · have e1' : (W == 0) = (H == 0) := by
      by_cases h : W = 0
      · have h' := hz.1 h; subst h h'; rfl
      · have h' : ¬ H = 0 := fun e => h (hz.2 e)
        rw [beq_false_of_ne h, beq_false_of_ne h']
    have hsz : sizedP W H = true := by rw [HSP.out, decide_eq_false hS, e1']; simp
    have hR2 : rchk W H px = if (px.length : Int) = W * H then (if px.all valP = true then 0 else 2) else 15 := by
      rw [HRC.out, if_neg hS]
      by_cases h : (px.length : Int) = W * H
      · rw [if_pos ⟨hz, h⟩, if_pos h]
      · rw [if_neg (fun a => h a.2), if_neg h]
    have HR2 := Lib.hid hR2
    obtain ⟨M, hM, hM0, hM2⟩ : ∃ M, M = W * H ∧ 0 ≤ M ∧ M ≤ 65536 := by
      refine ⟨_, rfl, Int.mul_nonneg (by omega) (by omega), ?_⟩
      have := Int.mul_le_mul (show W ≤ 256 by omega) (show H ≤ 256 by omega) (by omega) (by omega)
      omega
    have m1 : IntKind.i64.wrap (W * H) = M := by rw [← hM]; exact IntWalk.i64_in _ (by omega)
    rw [← hM] at HR2
    rw [hsz]
    clear hM hS hz hsz e1' hR2 HRC HSP
    by_cases hl : (px.length : Int) = M
    · have HR3 : Hid (rchk W H px = if px.all valP = true then 0 else 2) := by show _ = _; rw [HR2.out, if_pos hl]
      subst hl
      have e2 : ((px.length : Int) == (px.length : Int)) = true := by simp
      have hpl : px.length ≤ 65536 := by omega
      clear HR2
      go_wp2_with fail
      clear e2 m1 y0 y1
      go_loopw [25] (fun vi wr => ∃ i : Nat, vi = .int .i64 i ∧ i ≤ px.length ∧ Hid (∀ j (h : j < px.length), j < i → valP px[j] = true) ∧ Hid (Below wz.heap.size wz wr)) (fun vi _ => px.length - (intOf vi).toNat)
      case atStart => exact ⟨0, rfl, Nat.zero_le _, (fun j h h2 => absurd h2 (by omega)), Below.refl _ _⟩
      case round =>
        obtain ⟨i, rfl, hi, hch, hbw⟩ := hrel
        have HBW : Hid (Below B w wr) := HBL.out.trans (hbw.out.mono (by have := HH0.out.lt; omega))
        by_cases hli : i < px.length
        · have hne : px ≠ [] := by rintro rfl; simp at hli
          have hrw := HRZ.out.below hbw.out
          obtain ⟨x', c', hv, -, -, -, hcell'⟩ := hrw
          cases hv
          obtain ⟨b, off, rfl, hcl'⟩ := hcell' hne
          obtain ⟨q1, q2, q3, q4⟩ := hcl' i hli
          clear hcl' hcell'
          have HV := Lib.hid (fun w => pvalid_any px[i] w)
          have HOK : Hid (∀ b, valP px[i] = b → b = false → px.all valP = false) := fun b hb hb2 => by
            rw [Bool.eq_false_iff]; intro h
            have := List.all_eq_true.1 h px[i] (List.getElem_mem hli)
            rw [hb, hb2] at this; cases this
          obtain ⟨vp, hvp⟩ : ∃ vp, valP px[i] = vp := ⟨_, rfl⟩
          rw [hvp] at HV
          have HVP := Lib.hid hvp
          clear hvp
          obtain ⟨p, hp⟩ : ∃ p, px[i] = p := ⟨_, rfl⟩
          rw [hp] at q1 q2 q3 q4 HV HOK HVP
          have HP := Lib.hid hp
          clear hp
          obtain ⟨p0, p1, p2, p3⟩ := p
          unfold pxC at HV
          simp only at q1 q2 q3 q4 HV
          have hd : decide ((i : Int) < (px.length : Int)) = true := by simp; omega
          have i1 : (i : Int) < (px.length : Int) := by omega
          have HBA := Lib.hid (hbw.out.alloc hbw.out.size (.cells #[.int .i64 p0, .int .i64 p1, .int .i64 p2, .int .i64 p3] 46))
          go_wp2_with fail
          refine (HV.out _).mono ?_
          rintro e w1 ⟨rfl, hb1⟩
          have hbw1 := Lib.hid (HBA.out.trans (hb1.mono HBA.out.size))
          have HBW1 : Hid (Below B w w1) := HBL.out.trans (hbw1.out.mono (by have := HH0.out.lt; omega))
          clear q1 q2 q3 q4 hb1
          cases vp with
          | false =>
            have HF : Hid (rchk W H px = 2) := by show _ = _; rw [HR3.out, HOK.out _ HVP.out rfl]; rfl
            go_wp2_with fail
            go_ret
            exact ⟨by rw [HF.out]; rfl, by rw [HB.out]; exact HBW1.out⟩
          | true =>
            go_wp2_with fail
            go_roundw
            case rel =>
              refine ⟨i + 1, by go_num, by omega, fun j hj hji => ?_, hbw1⟩
              by_cases e : j = i
              · subst e; rw [HP.out]; exact HVP.out
              · exact hch.out j hj (by omega)
            case measure => simp [intOf]; omega
        · have hd : decide ((i : Int) < (px.length : Int)) = false := by simp; omega
          have HF : Hid (rchk W H px = 0) := by
            show _ = _
            rw [HR3.out, if_pos]
            rw [List.all_eq_true]
            intro p hp
            obtain ⟨j, hj, rfl⟩ := List.getElem_of_mem hp
            exact hch.out j hj (by omega)
          go_wp2_with fail
          go_ret
          exact ⟨by rw [HF.out]; rfl, by rw [HB.out]; exact HBW.out⟩
    · have e2 : ((px.length : Int) == M) = false := by simp [hl]
      have HF : Hid (rchk W H px = 15) := by show _ = _; rw [HR2.out, if_neg hl]
      clear HR2
      go_wp2_with fail
      go_ret
      exact ⟨by rw [HF.out]; rfl, by rw [HB.out]; exact HBL.out⟩
  · have hne : ((W == 0) == (H == 0)) = false := by
      rw [Bool.eq_false_iff]
      intro h
      have h2 : (W == 0) = (H == 0) := by simpa using h
      apply hz
      constructor
      · intro e; rw [e] at h2; simpa using h2.symm
      · intro e; rw [e] at h2; simpa using h2
    have hsz : sizedP W H = false := by rw [HSP.out, hne]; simp
    have HF : Hid (rchk W H px = 15) := by show _ = _; rw [HRC.out, if_neg hS, if_neg (fun h => hz h.1)]
    rw [hsz]
    clear hS hz hsz hne
    go_wp2_with fail
    go_ret
    exact ⟨by rw [HF.out]; rfl, by rw [HB.out]; exact HBL.out⟩
end Go.Proofs.Ytakileiomgaahaa
