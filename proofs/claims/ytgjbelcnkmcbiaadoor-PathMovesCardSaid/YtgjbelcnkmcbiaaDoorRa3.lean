/-
  Walks: the error of a transform, the image of a point, of the program and of the reference. (Printed by wip/gen_ra3.py.)
-/
import Derived.Test.YtgjbelcnkmcbiaaDoorRa2
namespace Go.Proofs.YtgjbelcnkmcbiaaDoor
open Go.RowKit

set_option maxRecDepth 100000 in
set_option maxHeartbeats 2000000 in
theorem achk_any (t : Af) (w : World) : Calls Tryd.prog 39 #[.agg (afC t)] w fun e w' => e = .returned (.int .i64 (afChk t)) ∧ Below w.heap.size w w' := by
  have HL := Lib.hid (fun w => limited_any t w)
  have HEQ := Lib.hid (fun w => eqAf t (limP t) w)
  obtain ⟨r, hr⟩ : ∃ r, decide (t = limP t) = r := ⟨_, rfl⟩
  rw [hr] at HEQ
  have HR : Hid (afChk t = if r = true then 0 else 2) := by
    show _ = _
    unfold afChk
    rw [← hr]
    by_cases h : t = limP t
    · rw [if_pos h, if_pos (by rw [decide_eq_true_iff]; exact h)]
    · rw [if_neg h, if_neg (by rw [decide_eq_true_iff]; exact fun e => h e)]
  clear hr
  obtain ⟨LT, hLT⟩ : ∃ LT, limP t = LT := ⟨_, rfl⟩
  rw [hLT] at HL HEQ
  clear hLT
  obtain ⟨Z, hZ⟩ : ∃ Z, afChk t = Z := ⟨_, rfl⟩
  rw [hZ] at HR ⊢
  clear hZ
  obtain ⟨a, b, c, d, e0, f⟩ := t
  obtain ⟨la, lb, lc, ld, le, lf⟩ := LT
  unfold afC at HL HEQ ⊢
  simp only at HL HEQ ⊢
  go_enter Tryd.func39, Tryd.ntmps39
  go_upto_region 1 with fail
  obtain ⟨wk, hwk⟩ : ∃ wk, wk = (w.alloc (.cells #[.int .i64 a, .int .i64 b, .int .i64 c, .int .i64 d, .int .i64 e0, .int .i64 f] 45)) := ⟨_, rfl⟩
  have hA : Blk wk w.heap.size 45 #[.int .i64 a, .int .i64 b, .int .i64 c, .int .i64 d, .int .i64 e0, .int .i64 f] := by rw [hwk]; exact Blk.new _ _ _
  have hW : Below w.heap.size w wk := by rw [hwk]; exact (Below.refl _ _).alloc (Nat.le_refl _) _
  rw [← hwk]
  clear hwk
  obtain ⟨A, hAe⟩ : ∃ A, A = w.heap.size := ⟨_, rfl⟩
  have HAE := Lib.hid hAe
  rw [← hAe] at hA hW
  rw [← hAe]
  clear hAe
  obtain ⟨K0, hK0⟩ : ∃ K0, K0 = wk.heap.size := ⟨_, rfl⟩
  have HK0 : Hid (K0 ≤ wk.heap.size) := by show _ ≤ _; omega
  have HKB : Hid (∀ u : BW K0 wk, ∀ k, k < wk.heap.size → u.w.heap[k]? = wk.heap[k]?) := fun u k hk => u.b.block k (by omega)
  have HW : Hid (∀ u : BW K0 wk, Below A w u.w) := fun u => hW.trans (u.b.mono (by have := hA.lt; omega))
  have c0 : ∀ u : BW K0 wk, u.w.cell? ⟨A, 0, none⟩ = some (.int .i64 a) := fun u => Blk.cell ((HKB.out u A hA.lt).trans hA) 0
  have c1 : ∀ u : BW K0 wk, u.w.cell? ⟨A, 1, none⟩ = some (.int .i64 b) := fun u => Blk.cell ((HKB.out u A hA.lt).trans hA) 1
  have c2 : ∀ u : BW K0 wk, u.w.cell? ⟨A, 2, none⟩ = some (.int .i64 c) := fun u => Blk.cell ((HKB.out u A hA.lt).trans hA) 2
  have c3 : ∀ u : BW K0 wk, u.w.cell? ⟨A, 3, none⟩ = some (.int .i64 d) := fun u => Blk.cell ((HKB.out u A hA.lt).trans hA) 3
  have c4 : ∀ u : BW K0 wk, u.w.cell? ⟨A, 4, none⟩ = some (.int .i64 e0) := fun u => Blk.cell ((HKB.out u A hA.lt).trans hA) 4
  have c5 : ∀ u : BW K0 wk, u.w.cell? ⟨A, 5, none⟩ = some (.int .i64 f) := fun u => Blk.cell ((HKB.out u A hA.lt).trans hA) 5
  clear hA hW hK0
  have HQ := HEQ.out
  cases r with
  | false =>
    refine wp_region_bw K0 wk (Below.refl _ _) (by kernel_rfl) (by kernel_rfl) ?_
    repeat (go_big_quiet_step (first | (go_at_call 58; exact calls_bw HK0.out (HL.out _))))
    refine wpQuiet_nil ?_
    rintro _ ⟨u, rfl⟩
    have HWU := Lib.hid (HW.out u)
    generalize u.w = wy at *
    clear c0 c1 c2 c3 c4 c5 HQ
    go_wp2_with fail
    go_ret
    exact ⟨by rw [HR.out]; rfl, by rw [← HAE.out]; exact HWU.out⟩
  | true =>
    refine wp_region_bw K0 wk (Below.refl _ _) (by kernel_rfl) (by kernel_rfl) ?_
    repeat (go_big_quiet_step (first | (go_at_call 58; exact calls_bw HK0.out (HL.out _))))
    refine wpQuiet_nil ?_
    rintro _ ⟨u, rfl⟩
    have HWU := Lib.hid (HW.out u)
    generalize u.w = wy at *
    clear c0 c1 c2 c3 c4 c5 HQ
    go_wp2_with fail
    go_ret
    exact ⟨by rw [HR.out]; rfl, by rw [← HAE.out]; exact HWU.out⟩

set_option maxRecDepth 100000 in
set_option maxHeartbeats 2000000 in
theorem rachk_any (t : Af) (w : World) : Calls Tryd.prog 41 #[.agg (afC t)] w fun e w' => e = .returned (.int .i64 (afChk t)) ∧ Below w.heap.size w w' := by
  have HL := Lib.hid (fun w => rlimit_any t w)
  have HEQ := Lib.hid (fun w => eqAf (limP t) t w)
  obtain ⟨r, hr⟩ : ∃ r, decide (limP t = t) = r := ⟨_, rfl⟩
  rw [hr] at HEQ
  have HR : Hid (afChk t = if r = true then 0 else 2) := by
    show _ = _
    unfold afChk
    rw [← hr]
    by_cases h : t = limP t
    · rw [if_pos h, if_pos (by rw [decide_eq_true_iff]; exact h.symm)]
    · rw [if_neg h, if_neg (by rw [decide_eq_true_iff]; exact fun e => h e.symm)]
  clear hr
  obtain ⟨LT, hLT⟩ : ∃ LT, limP t = LT := ⟨_, rfl⟩
  rw [hLT] at HL HEQ
  clear hLT
  obtain ⟨Z, hZ⟩ : ∃ Z, afChk t = Z := ⟨_, rfl⟩
  rw [hZ] at HR ⊢
  clear hZ
  obtain ⟨a, b, c, d, e0, f⟩ := t
  obtain ⟨la, lb, lc, ld, le, lf⟩ := LT
  unfold afC at HL HEQ ⊢
  simp only at HL HEQ ⊢
  go_enter Tryd.func41, Tryd.ntmps41
  go_upto_region 1 with fail
  obtain ⟨wk, hwk⟩ : ∃ wk, wk = (w.alloc (.cells #[.int .i64 a, .int .i64 b, .int .i64 c, .int .i64 d, .int .i64 e0, .int .i64 f] 45)) := ⟨_, rfl⟩
  have hA : Blk wk w.heap.size 45 #[.int .i64 a, .int .i64 b, .int .i64 c, .int .i64 d, .int .i64 e0, .int .i64 f] := by rw [hwk]; exact Blk.new _ _ _
  have hW : Below w.heap.size w wk := by rw [hwk]; exact (Below.refl _ _).alloc (Nat.le_refl _) _
  rw [← hwk]
  clear hwk
  obtain ⟨A, hAe⟩ : ∃ A, A = w.heap.size := ⟨_, rfl⟩
  have HAE := Lib.hid hAe
  rw [← hAe] at hA hW
  rw [← hAe]
  clear hAe
  obtain ⟨K0, hK0⟩ : ∃ K0, K0 = wk.heap.size := ⟨_, rfl⟩
  have HK0 : Hid (K0 ≤ wk.heap.size) := by show _ ≤ _; omega
  have HKB : Hid (∀ u : BW K0 wk, ∀ k, k < wk.heap.size → u.w.heap[k]? = wk.heap[k]?) := fun u k hk => u.b.block k (by omega)
  have HW : Hid (∀ u : BW K0 wk, Below A w u.w) := fun u => hW.trans (u.b.mono (by have := hA.lt; omega))
  have c0 : ∀ u : BW K0 wk, u.w.cell? ⟨A, 0, none⟩ = some (.int .i64 a) := fun u => Blk.cell ((HKB.out u A hA.lt).trans hA) 0
  have c1 : ∀ u : BW K0 wk, u.w.cell? ⟨A, 1, none⟩ = some (.int .i64 b) := fun u => Blk.cell ((HKB.out u A hA.lt).trans hA) 1
  have c2 : ∀ u : BW K0 wk, u.w.cell? ⟨A, 2, none⟩ = some (.int .i64 c) := fun u => Blk.cell ((HKB.out u A hA.lt).trans hA) 2
  have c3 : ∀ u : BW K0 wk, u.w.cell? ⟨A, 3, none⟩ = some (.int .i64 d) := fun u => Blk.cell ((HKB.out u A hA.lt).trans hA) 3
  have c4 : ∀ u : BW K0 wk, u.w.cell? ⟨A, 4, none⟩ = some (.int .i64 e0) := fun u => Blk.cell ((HKB.out u A hA.lt).trans hA) 4
  have c5 : ∀ u : BW K0 wk, u.w.cell? ⟨A, 5, none⟩ = some (.int .i64 f) := fun u => Blk.cell ((HKB.out u A hA.lt).trans hA) 5
  clear hA hW hK0
  have HQ := HEQ.out
  cases r with
  | false =>
    refine wp_region_bw K0 wk (Below.refl _ _) (by kernel_rfl) (by kernel_rfl) ?_
    repeat (go_big_quiet_step (first | (go_at_call 60; exact calls_bw HK0.out (HL.out _))))
    refine wpQuiet_nil ?_
    rintro _ ⟨u, rfl⟩
    have HWU := Lib.hid (HW.out u)
    generalize u.w = wy at *
    clear c0 c1 c2 c3 c4 c5 HQ
    go_wp2_with fail
    go_ret
    exact ⟨by rw [HR.out]; rfl, by rw [← HAE.out]; exact HWU.out⟩
  | true =>
    refine wp_region_bw K0 wk (Below.refl _ _) (by kernel_rfl) (by kernel_rfl) ?_
    repeat (go_big_quiet_step (first | (go_at_call 60; exact calls_bw HK0.out (HL.out _))))
    refine wpQuiet_nil ?_
    rintro _ ⟨u, rfl⟩
    have HWU := Lib.hid (HW.out u)
    generalize u.w = wy at *
    clear c0 c1 c2 c3 c4 c5 HQ
    go_wp2_with fail
    go_ret
    exact ⟨by rw [HR.out]; rfl, by rw [← HAE.out]; exact HWU.out⟩

set_option maxRecDepth 100000 in
set_option maxHeartbeats 2000000 in
theorem image_any (t : Af) (p : Pt) (w : World) : Calls Tryd.prog 40 #[.agg (afC t), .agg (ptC p)] w fun e w' => e = .returned (.agg (ptC (imgP t p))) ∧ Below w.heap.size w w' := by
  obtain ⟨px, py⟩ := p
  obtain ⟨X, hX⟩ : ∃ X, wrap64 (4096 * px) = X := ⟨_, rfl⟩
  obtain ⟨Y, hY⟩ : ∃ Y, wrap64 (4096 * py) = Y := ⟨_, rfl⟩
  obtain ⟨q1, q2, hq, hb1, hb2⟩ : ∃ q1 q2, apP t X Y = (q1, q2) ∧ (-1099511627776 ≤ q1 ∧ q1 ≤ 1099511627776) ∧ (-1099511627776 ≤ q2 ∧ q2 ≤ 1099511627776) := ⟨_, _, rfl, plc_b _, plc_b _⟩
  have HAP := Lib.hid (fun w => apply_any t X Y w)
  rw [hq] at HAP
  have HD1 := Lib.hid (fun w => divI_any q1 4096 w (by omega) (by omega) (by decide) (by decide))
  have HD2 := Lib.hid (fun w => divI_any q2 4096 w (by omega) (by omega) (by decide) (by decide))
  have hR : imgP t (px, py) = (rdI q1 4096, rdI q2 4096) := by unfold imgP; simp only [hX, hY, hq]
  rw [hR]
  obtain ⟨r1, hr1⟩ : ∃ r1, rdI q1 4096 = r1 := ⟨_, rfl⟩
  obtain ⟨r2, hr2⟩ : ∃ r2, rdI q2 4096 = r2 := ⟨_, rfl⟩
  rw [hr1] at HD1
  rw [hr2] at HD2
  rw [hr1, hr2]
  obtain ⟨a, b, c, d, e0, f⟩ := t
  have HIN : Hid (∀ a b : Int, (Tryd.prog.info? 32).map (·.size) = some (#[Value.int .i64 a, .int .i64 b]).size) := fun a b => ptC_inf a b
  unfold afC at HAP ⊢
  unfold ptC
  simp only at HAP ⊢
  clear hq hb1 hb2 hR hr1 hr2
  go_enter Tryd.func40, Tryd.ntmps40
  go_wp2_with fail
  obtain ⟨wk, hwk⟩ : ∃ wk, wk = (((w.alloc (.cells #[.int .i64 a, .int .i64 b, .int .i64 c, .int .i64 d, .int .i64 e0, .int .i64 f] 45)).alloc (.cells #[.int .i64 px, .int .i64 py] 32)).alloc (.cells #[.int .i64 0, .int .i64 0] 32)) := ⟨_, rfl⟩
  have hC : Blk wk (w.heap.size + 2) 32 #[.int .i64 0, .int .i64 0] := by rw [hwk]; exact Blk.new_at (by simp) _ _
  have hW : Below w.heap.size w wk := by rw [hwk]; exact (((Below.refl _ _).alloc (Nat.le_refl _) _).alloc (by simp) _).alloc (by simp; omega) _
  rw [← hwk]
  clear hwk
  refine (HAP.out _).mono ?_
  rintro e w1 ⟨rfl, hb1⟩
  have hC : Blk w1 (w.heap.size + 2) 32 #[.int .i64 0, .int .i64 0] := (hb1.block _ hC.lt).trans hC
  have hW := bthen hW hb1
  obtain ⟨A, hAe⟩ : ∃ A, A = w.heap.size := ⟨_, rfl⟩
  have HAE := Lib.hid hAe
  rw [← hAe] at hC hW
  rw [← hAe]
  have HAL := Lib.hid (show A ≤ A + 2 from Nat.le_add_right A 2)
  generalize A + 2 = C at *
  have HC2 : Hid (Blk (w1.alloc (.cells #[.int .i64 q1, .int .i64 q2] 32)) C 32 #[.int .i64 0, .int .i64 0]) := hC.alloc _
  have HQ2 := Lib.hid (Blk.new w1 32 #[.int .i64 q1, .int .i64 q2])
  have HW2 : Hid (Below A w (w1.alloc (.cells #[.int .i64 q1, .int .i64 q2] 32))) := hW.alloc (by have := hW.size; omega) _
  clear hAe hb1 hW hC HAP hX hY
  go_upto_region 2 with fail
  generalize w1.alloc (.cells #[.int .i64 q1, .int .i64 q2] 32) = wk at *
  generalize w1.heap.size = B at *
  obtain ⟨K0, hK0⟩ : ∃ K0, K0 = wk.heap.size := ⟨_, rfl⟩
  have HK0 : Hid (K0 ≤ wk.heap.size) := by show _ ≤ _; omega
  have HKB : Hid (∀ u : BW K0 wk, ∀ k, k < wk.heap.size → u.w.heap[k]? = wk.heap[k]?) := fun u k hk => u.b.block k (by omega)
  have HWu : Hid (∀ u : BW K0 wk, Below A w u.w) := fun u => HW2.out.trans (u.b.mono (by have := HC2.out.lt; have := HAL.out; omega))
  have c0 : ∀ u : BW K0 wk, u.w.cell? ⟨B, 0, none⟩ = some (.int .i64 q1) := fun u => Blk.cell ((HKB.out u B HQ2.out.lt).trans HQ2.out) 0
  have c1 : ∀ u : BW K0 wk, u.w.cell? ⟨B, 1, none⟩ = some (.int .i64 q2) := fun u => Blk.cell ((HKB.out u B HQ2.out.lt).trans HQ2.out) 1
  have HBB : Hid (∀ u : BW K0 wk, Blk u.w C 32 #[.int .i64 0, .int .i64 0]) := fun u => (HKB.out u C HC2.out.lt).trans HC2.out
  clear hK0 HQ2 HC2 HW2
  refine wp_region_bw_tail K0 wk 7 (Below.refl _ _) (by kernel_rfl) (by kernel_rfl) ?_
  simp only [List.take_succ_cons, List.take_zero, List.drop_succ_cons, List.drop_zero]
  repeat (go_big_quiet_step (first
    | (go_at_call_of 54 (Value.int .i64 q1); exact calls_bw_same (HD1.out _))
    | (go_at_call_of 54 (Value.int .i64 q2); exact calls_bw_same (HD2.out _))))
  refine wpQuiet_nil ?_
  rintro _ ⟨u, rfl⟩
  have HBU := Lib.hid (HBB.out u)
  have HWU := Lib.hid (HWu.out u)
  generalize u.w = wy at *
  clear c0 c1 HKB HBB HWu HD1 HD2
  have m0 := HBU.out.cell 0
  have m1 := HBU.out.cell 1
  have g0 := HBU.out.frozen 0
  have g1 := HBU.out.frozen 1
  have HWF : Hid (Below A w ((wy.setCell ⟨C, 0, none⟩ (.int .i64 r1)).setCell ⟨C, 1, none⟩ (.int .i64 r2))) := (HWU.out.setCell HAL.out _).setCell HAL.out _
  have HFI : Hid (Blk ((wy.setCell ⟨C, 0, none⟩ (.int .i64 r1)).setCell ⟨C, 1, none⟩ (.int .i64 r2)) C 32 #[.int .i64 r1, .int .i64 r2]) := (HBU.out.put 0 (.int .i64 r1)).put 1 (.int .i64 r2)
  go_wp2_with fail
  exact bodyPost_ret (results_cell_row rfl _ _ C 32 _ (0, 0) _ rfl HFI.out Tryd.underlying32 rfl (HIN.out _ _)) rfl ⟨rfl, by rw [← HAE.out]; exact HWF.out⟩

set_option maxRecDepth 100000 in
set_option maxHeartbeats 2000000 in
theorem rimage_any (t : Af) (p : Pt) (w : World) : Calls Tryd.prog 44 #[.agg (afC t), .agg (ptC p)] w fun e w' => e = .returned (.agg (ptC (imgP t p))) ∧ Below w.heap.size w w' := by
  obtain ⟨px, py⟩ := p
  obtain ⟨X, hX⟩ : ∃ X, wrap64 (4096 * px) = X := ⟨_, rfl⟩
  obtain ⟨Y, hY⟩ : ∃ Y, wrap64 (4096 * py) = Y := ⟨_, rfl⟩
  obtain ⟨q1, q2, hq, hb1, hb2⟩ : ∃ q1 q2, apP t X Y = (q1, q2) ∧ (-1099511627776 ≤ q1 ∧ q1 ≤ 1099511627776) ∧ (-1099511627776 ≤ q2 ∧ q2 ≤ 1099511627776) := ⟨_, _, rfl, plc_b _, plc_b _⟩
  have HAP := Lib.hid (fun w => rapply_any t X Y w)
  rw [hq] at HAP
  have HD1 := Lib.hid (fun w => rdivI_any q1 4096 w (by omega) (by omega) (by decide) (by decide))
  have HD2 := Lib.hid (fun w => rdivI_any q2 4096 w (by omega) (by omega) (by decide) (by decide))
  have hR : imgP t (px, py) = (rdI q1 4096, rdI q2 4096) := by unfold imgP; simp only [hX, hY, hq]
  rw [hR]
  obtain ⟨r1, hr1⟩ : ∃ r1, rdI q1 4096 = r1 := ⟨_, rfl⟩
  obtain ⟨r2, hr2⟩ : ∃ r2, rdI q2 4096 = r2 := ⟨_, rfl⟩
  rw [hr1] at HD1
  rw [hr2] at HD2
  rw [hr1, hr2]
  obtain ⟨a, b, c, d, e0, f⟩ := t
  have HIN : Hid (∀ a b : Int, (Tryd.prog.info? 32).map (·.size) = some (#[Value.int .i64 a, .int .i64 b]).size) := fun a b => ptC_inf a b
  unfold afC at HAP ⊢
  unfold ptC
  simp only at HAP ⊢
  clear hq hb1 hb2 hR hr1 hr2
  go_enter Tryd.func44, Tryd.ntmps44
  go_wp2_with fail
  obtain ⟨wk, hwk⟩ : ∃ wk, wk = (((w.alloc (.cells #[.int .i64 a, .int .i64 b, .int .i64 c, .int .i64 d, .int .i64 e0, .int .i64 f] 45)).alloc (.cells #[.int .i64 px, .int .i64 py] 32)).alloc (.cells #[.int .i64 0, .int .i64 0] 32)) := ⟨_, rfl⟩
  have hC : Blk wk (w.heap.size + 2) 32 #[.int .i64 0, .int .i64 0] := by rw [hwk]; exact Blk.new_at (by simp) _ _
  have hW : Below w.heap.size w wk := by rw [hwk]; exact (((Below.refl _ _).alloc (Nat.le_refl _) _).alloc (by simp) _).alloc (by simp; omega) _
  rw [← hwk]
  clear hwk
  refine (HAP.out _).mono ?_
  rintro e w1 ⟨rfl, hb1⟩
  have hC : Blk w1 (w.heap.size + 2) 32 #[.int .i64 0, .int .i64 0] := (hb1.block _ hC.lt).trans hC
  have hW := bthen hW hb1
  obtain ⟨A, hAe⟩ : ∃ A, A = w.heap.size := ⟨_, rfl⟩
  have HAE := Lib.hid hAe
  rw [← hAe] at hC hW
  rw [← hAe]
  have HAL := Lib.hid (show A ≤ A + 2 from Nat.le_add_right A 2)
  generalize A + 2 = C at *
  have HC2 : Hid (Blk (w1.alloc (.cells #[.int .i64 q1, .int .i64 q2] 32)) C 32 #[.int .i64 0, .int .i64 0]) := hC.alloc _
  have HQ2 := Lib.hid (Blk.new w1 32 #[.int .i64 q1, .int .i64 q2])
  have HW2 : Hid (Below A w (w1.alloc (.cells #[.int .i64 q1, .int .i64 q2] 32))) := hW.alloc (by have := hW.size; omega) _
  clear hAe hb1 hW hC HAP hX hY
  go_upto_region 2 with fail
  generalize w1.alloc (.cells #[.int .i64 q1, .int .i64 q2] 32) = wk at *
  generalize w1.heap.size = B at *
  obtain ⟨K0, hK0⟩ : ∃ K0, K0 = wk.heap.size := ⟨_, rfl⟩
  have HK0 : Hid (K0 ≤ wk.heap.size) := by show _ ≤ _; omega
  have HKB : Hid (∀ u : BW K0 wk, ∀ k, k < wk.heap.size → u.w.heap[k]? = wk.heap[k]?) := fun u k hk => u.b.block k (by omega)
  have HWu : Hid (∀ u : BW K0 wk, Below A w u.w) := fun u => HW2.out.trans (u.b.mono (by have := HC2.out.lt; have := HAL.out; omega))
  have c0 : ∀ u : BW K0 wk, u.w.cell? ⟨B, 0, none⟩ = some (.int .i64 q1) := fun u => Blk.cell ((HKB.out u B HQ2.out.lt).trans HQ2.out) 0
  have c1 : ∀ u : BW K0 wk, u.w.cell? ⟨B, 1, none⟩ = some (.int .i64 q2) := fun u => Blk.cell ((HKB.out u B HQ2.out.lt).trans HQ2.out) 1
  have HBB : Hid (∀ u : BW K0 wk, Blk u.w C 32 #[.int .i64 0, .int .i64 0]) := fun u => (HKB.out u C HC2.out.lt).trans HC2.out
  clear hK0 HQ2 HC2 HW2
  refine wp_region_bw_tail K0 wk 7 (Below.refl _ _) (by kernel_rfl) (by kernel_rfl) ?_
  simp only [List.take_succ_cons, List.take_zero, List.drop_succ_cons, List.drop_zero]
  repeat (go_big_quiet_step (first
    | (go_at_call_of 62 (Value.int .i64 q1); exact calls_bw_drew (HD1.out _))
    | (go_at_call_of 62 (Value.int .i64 q2); exact calls_bw_drew (HD2.out _))))
  refine wpQuiet_nil ?_
  rintro _ ⟨u, rfl⟩
  have HBU := Lib.hid (HBB.out u)
  have HWU := Lib.hid (HWu.out u)
  generalize u.w = wy at *
  clear c0 c1 HKB HBB HWu HD1 HD2
  have m0 := HBU.out.cell 0
  have m1 := HBU.out.cell 1
  have g0 := HBU.out.frozen 0
  have g1 := HBU.out.frozen 1
  have HWF : Hid (Below A w ((wy.setCell ⟨C, 0, none⟩ (.int .i64 r1)).setCell ⟨C, 1, none⟩ (.int .i64 r2))) := (HWU.out.setCell HAL.out _).setCell HAL.out _
  have HFI : Hid (Blk ((wy.setCell ⟨C, 0, none⟩ (.int .i64 r1)).setCell ⟨C, 1, none⟩ (.int .i64 r2)) C 32 #[.int .i64 r1, .int .i64 r2]) := (HBU.out.put 0 (.int .i64 r1)).put 1 (.int .i64 r2)
  go_wp2_with fail
  exact bodyPost_ret (results_cell_row rfl _ _ C 32 _ (0, 0) _ rfl HFI.out Tryd.underlying32 rfl (HIN.out _ _)) rfl ⟨rfl, by rw [← HAE.out]; exact HWF.out⟩
end Go.Proofs.YtgjbelcnkmcbiaaDoor
