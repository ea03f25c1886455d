/-
  Walks: the error of an image, in the reference.
-/
import Derived.Test.YtakileiomgaahaaPix
namespace Go.Proofs.Ytakileiomgaahaa
open Go.RowKit

def imgI (W H : Int) (v : Value) : Array Value := #[.int .i64 W, .int .i64 H, v]
/-- The error of an image. -/
def rchk (W H : Int) (px : List Px) : Nat :=
  if W < 0 ∨ 256 < W ∨ H < 0 ∨ 256 < H then 15
  else if (W = 0 ↔ H = 0) ∧ (px.length : Int) = W * H then (if px.all valP = true then 0 else 2) else 15
set_option maxHeartbeats 2000000 in
set_option maxRecDepth 100000 in
theorem rCheckI_any (W H : Int) (v : Value) (px : List Px) (w : World) (hr : PRow w v px) : Calls Try.prog 60 #[.agg (imgI W H v)] w fun e w' => e = .returned (.int .i64 (rchk W H px)) ∧ Below w.heap.size w w' := by
  obtain ⟨x, c, rfl, hc1, hc2, hc3, hcell⟩ := id hr
  unfold maxLen at hc2
  unfold imgI
  have h0 := Blk.new w 34 #[.int .i64 W, .int .i64 H, .slice x px.length c]
  have hb := (Below.refl w.heap.size w).alloc (Nat.le_refl _) (.cells #[.int .i64 W, .int .i64 H, .slice x px.length c] 34)
  have hrz := hr.below ((Below.refl w.heap.size w).alloc (Nat.le_refl _) (.cells #[.int .i64 W, .int .i64 H, .slice x px.length c] 34))
  have HRC : Hid (rchk W H px = if W < 0 ∨ 256 < W ∨ H < 0 ∨ 256 < H then 15 else if (W = 0 ↔ H = 0) ∧ (px.length : Int) = W * H then (if px.all valP = true then 0 else 2) else 15) := rfl
  clear hr hcell
  go_enter Try.func60, Try.ntmps60
  go_upto_region 1 with fail
  generalize w.alloc (.cells #[.int .i64 W, .int .i64 H, .slice x px.length c] 34) = wz at *
  have y0 : wz.cell? ⟨w.heap.size, 0, none⟩ = some (.int .i64 W) := h0.cell 0
  have y1 : wz.cell? ⟨w.heap.size, 1, none⟩ = some (.int .i64 H) := h0.cell 1
  have y2 : wz.cell? ⟨w.heap.size, 2, none⟩ = some (.slice x px.length c) := h0.cell 2
  have HH0 := Lib.hid h0
  have HBL := Lib.hid hb
  have HRZ := Lib.hid hrz
  clear h0 hb hrz
  generalize hB : w.heap.size = B at *
  have HB := Lib.hid hB
  clear hB
  by_cases hW1 : W < 0
  · have d1 : decide (W < 0) = true := by simp; omega
    have HF : Hid (rchk W H px = 15) := by show _ = _; rw [HRC.out, if_pos (by omega)]
    go_wp2_with fail
    go_ret
    exact ⟨by rw [HF.out]; rfl, by rw [HB.out]; exact HBL.out⟩
  have d1 : decide (W < 0) = false := by simp; omega
  by_cases hW2 : 256 < W
  · have d2 : decide (256 < W) = true := by simp; omega
    have HF : Hid (rchk W H px = 15) := by show _ = _; rw [HRC.out, if_pos (by omega)]
    go_wp2_with fail
    go_ret
    exact ⟨by rw [HF.out]; rfl, by rw [HB.out]; exact HBL.out⟩
  have d2 : decide (256 < W) = false := by simp; omega
  by_cases hH1 : H < 0
  · have d3 : decide (H < 0) = true := by simp; omega
    have HF : Hid (rchk W H px = 15) := by show _ = _; rw [HRC.out, if_pos (by omega)]
    go_wp2_with fail
    go_ret
    exact ⟨by rw [HF.out]; rfl, by rw [HB.out]; exact HBL.out⟩
  have d3 : decide (H < 0) = false := by simp; omega
  by_cases hH2 : 256 < H
  · have d4 : decide (256 < H) = true := by simp; omega
    have HF : Hid (rchk W H px = 15) := by show _ = _; rw [HRC.out, if_pos (by omega)]
    go_wp2_with fail
    go_ret
    exact ⟨by rw [HF.out]; rfl, by rw [HB.out]; exact HBL.out⟩
  have d4 : decide (256 < H) = false := by simp; omega
  go_upto_region 3 with fail
  clear d1 d2 d3 d4
  have hR2 : rchk W H px = if (W = 0 ↔ H = 0) ∧ (px.length : Int) = W * H then (if px.all valP = true then 0 else 2) else 15 := by rw [HRC.out, if_neg (by omega)]
  have HR2 := Lib.hid hR2
  clear hR2 HRC
  obtain ⟨M, hM, hM0, hM2⟩ : ∃ M, M = W * H ∧ 0 ≤ M ∧ M ≤ 65536 := by
    refine ⟨_, rfl, Int.mul_nonneg (by omega) (by omega), ?_⟩
    have := Int.mul_le_mul (show W ≤ 256 by omega) (show H ≤ 256 by omega) (by omega) (by omega)
    omega
  have m1 : IntKind.i64.wrap (W * H) = M := by rw [← hM]; exact IntWalk.i64_in _ (by omega)
  rw [← hM] at HR2
  clear hM
  by_cases hz : (W = 0 ↔ H = 0)
  · have e1 : ((W == 0) != (H == 0)) = false := by
      by_cases h : W = 0
      · have h' := hz.1 h; subst h h'; rfl
      · have h' : ¬ H = 0 := fun e => h (hz.2 e)
        rw [beq_false_of_ne h, beq_false_of_ne h']; rfl
    have e1' : (W == 0) = (H == 0) := by
      by_cases h : W = 0
      · have h' := hz.1 h; subst h h'; rfl
      · have h' : ¬ H = 0 := fun e => h (hz.2 e)
        rw [beq_false_of_ne h, beq_false_of_ne h']
    by_cases hl : (px.length : Int) = M
    · have HR3 : Hid (rchk W H px = if px.all valP = true then 0 else 2) := by show _ = _; rw [HR2.out, if_pos ⟨hz, hl⟩]
      subst hl
      have e2 : ((px.length : Int) == (px.length : Int)) = true := by simp
      have hpl : px.length ≤ 65536 := by omega
      clear hz HR2
      go_wp2_with fail
      clear e1 e1' e2 m1 y0 y1
      go_loopw [3] (fun vi wr => ∃ i : Nat, vi = .int .i64 i ∧ i ≤ px.length ∧ Hid (∀ j (h : j < px.length), j < i → valP px[j] = true) ∧ Hid (Below wz.heap.size wz wr)) (fun vi _ => px.length - (intOf vi).toNat)
      case atStart => exact ⟨0, rfl, Nat.zero_le _, (fun j h h2 => absurd h2 (by omega)), Below.refl _ _⟩
      case round =>
        obtain ⟨i, rfl, hi, hch, hbw⟩ := hrel
        have HBW : Hid (Below B w wr) := HBL.out.trans (hbw.out.mono (by have := HH0.out.lt; omega))
        have z2 : wr.cell? ⟨B, 2, none⟩ = some (.slice x px.length c) := (hbw.out.cell (p := ⟨B, 2, none⟩) HH0.out.lt).trans y2
        by_cases hli : i < px.length
        · have hne : px ≠ [] := by rintro rfl; simp at hli
          have hrw := HRZ.out.below hbw.out
          obtain ⟨x', c', hv, -, -, -, hcell'⟩ := hrw
          cases hv
          obtain ⟨b, off, rfl, hcl'⟩ := hcell' hne
          obtain ⟨q1, q2, q3, q4⟩ := hcl' i hli
          clear hcl' hcell'
          have HV := Lib.hid (fun w => rValid_any px[i] w)
          have HOK : Hid (∀ b, valP px[i] = b → b = false → px.all valP = false) := fun b hb hb2 => by
            rw [Bool.eq_false_iff]; intro h
            have := List.all_eq_true.1 h px[i] (List.getElem_mem hli)
            rw [hb, hb2] at this; cases this
          obtain ⟨vp, hvp⟩ : ∃ vp, valP px[i] = vp := ⟨_, rfl⟩
          rw [hvp] at HV
          have HVP := Lib.hid hvp
          clear hvp
          obtain ⟨p, hp⟩ : ∃ p, px[i] = p := ⟨_, rfl⟩
          rw [hp] at q1 q2 q3 q4 HV HOK HVP
          have HP := Lib.hid hp
          clear hp
          unfold pxC at HV
          have hd : decide ((i : Int) < (px.length : Int)) = true := by simp; omega
          have i1 : (i : Int) < (px.length : Int) := by omega
          go_wp2_with fail
          refine (HV.out _).mono ?_
          rintro e w1 ⟨rfl, hb1⟩
          have hbw1 := Lib.hid (hbw.out.trans (hb1.mono hbw.out.size))
          have HBW1 : Hid (Below B w w1) := HBL.out.trans (hbw1.out.mono (by have := HH0.out.lt; omega))
          clear q1 q2 q3 q4 hb1 z2
          cases vp with
          | false =>
            have HF : Hid (rchk W H px = 2) := by show _ = _; rw [HR3.out, HOK.out _ HVP.out rfl]; rfl
            go_wp2_with fail
            go_ret
            exact ⟨by rw [HF.out]; rfl, by rw [HB.out]; exact HBW1.out⟩
          | true =>
            go_wp2_with fail
            go_roundw
            case rel =>
              refine ⟨i + 1, by go_num, by omega, fun j hj hji => ?_, hbw1⟩
              by_cases e : j = i
              · subst e; rw [HP.out]; exact HVP.out
              · exact hch.out j hj (by omega)
            case measure => simp [intOf]; omega
        · have hd : decide ((i : Int) < (px.length : Int)) = false := by simp; omega
          have HF : Hid (rchk W H px = 0) := by
            show _ = _
            rw [HR3.out, if_pos]
            rw [List.all_eq_true]
            intro p hp
            obtain ⟨j, hj, rfl⟩ := List.getElem_of_mem hp
            exact hch.out j hj (by omega)
          go_wp2_with fail
          go_ret
          exact ⟨by rw [HF.out]; rfl, by rw [HB.out]; exact HBW.out⟩
    · have e2 : ((px.length : Int) == M) = false := by simp [hl]
      have HF : Hid (rchk W H px = 15) := by show _ = _; rw [HR2.out, if_neg (fun h => hl h.2)]
      clear hz HR2
      go_wp2_with fail
      go_ret
      exact ⟨by rw [HF.out]; rfl, by rw [HB.out]; exact HBL.out⟩
  · have e1' : (W == 0) = !(H == 0) := by
      by_cases h : W = 0
      · have h' : ¬ H = 0 := fun e => hz ⟨fun _ => e, fun _ => h⟩
        rw [beq_false_of_ne h', h]; rfl
      · have h' : H = 0 := Classical.byContradiction fun e => hz ⟨fun a => absurd a h, fun a => absurd a e⟩
        rw [beq_false_of_ne h, h']; rfl
    have HF : Hid (rchk W H px = 15) := by show _ = _; rw [HR2.out, if_neg (fun h => hz h.1)]
    clear hz HR2
    cases hh : (H == 0) with
    | true =>
      rw [hh] at e1'
      go_wp2_with fail
      go_ret
      exact ⟨by rw [HF.out]; rfl, by rw [HB.out]; exact HBL.out⟩
    | false =>
      rw [hh] at e1'
      go_wp2_with fail
      go_ret
      exact ⟨by rw [HF.out]; rfl, by rw [HB.out]; exact HBL.out⟩
end Go.Proofs.Ytakileiomgaahaa
