/-
  Walks: limits of pixels, the error of an image, in the reference.
-/
import Derived.Test.YtakileiomgaahaaPx
namespace Go.Proofs.Ytakileiomgaahaa
open Go.RowKit

def clampI (x lo hi : Int) : Int := min hi (max x lo)
theorem rclamp_any (x lo hi : Int) (w : World) : Calls Try.prog 96 #[.int .i64 x, .int .i64 lo, .int .i64 hi] w fun e w' => e = .returned (.int .i64 (clampI x lo hi)) ∧ w = w' := by
  go_enter Try.func96, Try.ntmps96
  go_wp2_with fail
  go_ret
  refine ⟨?_, rfl⟩
  show Ending.returned (.int .i64 _) = _
  rfl
def uI (x : Int) : Int := clampI x 0 65535
theorem rU_any (x : Int) (w : World) : Calls Try.prog 100 #[.int .i64 x] w fun e w' => e = .returned (.int .i64 (uI x)) ∧ w = w' := by
  have H := Lib.hid (fun w => rclamp_any x 0 65535 w)
  go_enter Try.func100, Try.ntmps100
  go_wp2_with fail
  refine (H.out _).mono ?_
  rintro e w1 ⟨rfl, rfl⟩
  go_wp2_with fail
  go_ret
  exact ⟨rfl, rfl⟩
def limP (p : Px) : Px := (uI p.1, uI p.2.1, uI p.2.2.1, uI p.2.2.2)
set_option maxHeartbeats 1000000 in
set_option maxRecDepth 100000 in
theorem rLimit_any (p : Px) (w : World) : Calls Try.prog 99 #[.agg (pxC p)] w fun e w' => e = .returned (.agg (pxC (limP p))) ∧ Below w.heap.size w w' := by
  obtain ⟨a, b, c, d⟩ := p
  have H := Lib.hid (fun x w => rU_any x w)
  have HL : Hid (limP (a, b, c, d) = (uI a, uI b, uI c, uI d)) := rfl
  unfold pxC
  simp only [limP]
  have e0 : (w.alloc (.cells #[.int .i64 a, .int .i64 b, .int .i64 c, .int .i64 d] 46)).alloc (.cells #[.int .i64 0, .int .i64 0, .int .i64 0, .int .i64 0] 46) = (w.alloc (.cells (pxC (a, b, c, d)) 46)).alloc (.cells (pxC (0, 0, 0, 0)) 46) := rfl
  have h0 := (Blk.new w 46 (pxC (a, b, c, d))).alloc (.cells (pxC (0, 0, 0, 0)) 46)
  have h1 := Blk.new_at (w := w.alloc (.cells (pxC (a, b, c, d)) 46)) (k := w.heap.size + 1) (by simp) 46 (pxC (0, 0, 0, 0))
  have hb := ((Below.refl w.heap.size w).alloc (Nat.le_refl _) (.cells (pxC (a, b, c, d)) 46)).alloc (by simp) (.cells (pxC (0, 0, 0, 0)) 46)
  go_enter Try.func99, Try.ntmps99
  go_upto_region 1 with fail
  generalize (w.alloc (.cells (pxC (a, b, c, d)) 46)).alloc (.cells (pxC (0, 0, 0, 0)) 46) = wz at *
  clear e0
  have y0 : wz.cell? ⟨w.heap.size, 0, none⟩ = some (.int .i64 a) := h0.cell 0
  have y1 : wz.cell? ⟨w.heap.size, 1, none⟩ = some (.int .i64 b) := h0.cell 1
  have y2 : wz.cell? ⟨w.heap.size, 2, none⟩ = some (.int .i64 c) := h0.cell 2
  have y3 : wz.cell? ⟨w.heap.size, 3, none⟩ = some (.int .i64 d) := h0.cell 3
  have HH1 := Lib.hid h1
  have HBL := Lib.hid hb
  clear h0 h1 hb
  generalize hB : w.heap.size = B at *
  have HB := Lib.hid hB
  clear hB
  go_still_tail 13, (by kernel_rfl)
  have HS : Hid (∀ x w, Calls Try.prog 100 #[.int .i64 x] w fun e w' => e = .returned (.int .i64 (uI x)) ∧ w' = w) := fun x w => (H.out x w).mono fun e w' h => ⟨h.1, h.2.symm⟩
  still_call (HS.out _ _)
  repeat still_step
  still_call (HS.out _ _)
  repeat still_step
  still_call (HS.out _ _)
  repeat still_step
  still_call (HS.out _ _)
  repeat still_step
  refine wpStill_nil ?_
  have HH2 : Hid (Blk wz.drew (B + 1) 46 (pxC (0, 0, 0, 0))) := HH1.out
  have HBL2 : Hid (Below B w wz.drew) := HBL.out.drew
  change wpList _ _ _ _ _ wz.drew
  clear y0 y1 y2 y3 HH1 HBL
  generalize wz.drew = wy at *
  refine wpList_store_rowTo rfl 46 (.tmp 2) (.tmp 15) rfl rfl (B + 1) (pxC (limP (a, b, c, d))) (by rfl) (by rfl) 46 (pxC (0, 0, 0, 0)) HH2.out (pxC_inf _) rfl (pxC_one _) ?_
  go_wp2_with fail
  refine bodyPost_ret (v := .agg (pxC (limP (a, b, c, d)))) (results_cell_row rfl _ _ (B + 1) 46 (pxC (limP (a, b, c, d))) (0, 0) _ rfl (HH2.out.rset _) Try.underlying46 rfl (pxC_inf _)) rfl ⟨rfl, ?_⟩
  rw [HB.out]
  exact below_rset HBL2.out (by omega) _
/-- A pixel is valid. -/
def valP (p : Px) : Bool := (uI p.1 == p.1) && (uI p.2.1 == p.2.1) && (uI p.2.2.1 == p.2.2.1) && (uI p.2.2.2 == p.2.2.2)
theorem eqPx (p q : Px) (w : World) : (Op.equalIn 10000 46 (.agg (pxC p)) (.agg (pxC q))).run Try.prog w = .ok ((p.1 == q.1) && (p.2.1 == q.2.1) && (p.2.2.1 == q.2.2.1) && (p.2.2.2 == q.2.2.2)) w := by
  obtain ⟨a, b, c, d⟩ := p
  obtain ⟨a', b', c', d'⟩ := q
  have u3 := Try.underlying3
  have a3 := Try.isAgg3
  have z3 := Try.sizeOf3
  have hS : Try.prog.underlying 46 = some (.struct (Try.prog.fieldsOf 46)) := by kernel_rfl
  rw [show (10000 : Nat) = 9999 + 1 from rfl, run_equalIn_agg w 9999 46 _ _ hS (by kernel_rfl)]
  simp only [Program.fieldsOf, Try.underlying46, pxC]
  go_simp
  by_cases h1 : a = a' <;> by_cases h2 : b = b' <;> by_cases h3 : c = c' <;> by_cases h4 : d = d' <;> simp [h1, h2, h3, h4]
set_option maxHeartbeats 1000000 in
set_option maxRecDepth 100000 in
theorem rValid_any (p : Px) (w : World) : Calls Try.prog 86 #[.agg (pxC p)] w fun e w' => e = .returned (.bool (valP p)) ∧ Below w.heap.size w w' := by
  have HL := Lib.hid (fun w => rLimit_any p w)
  have he := fun w => eqPx (limP p) p w
  change ∀ w, _ = Result.ok (valP p) w at he
  obtain ⟨a, b, c, d⟩ := p
  have h0 := Blk.new w 46 (pxC (a, b, c, d))
  have hb := (Below.refl w.heap.size w).alloc (Nat.le_refl _) (.cells (pxC (a, b, c, d)) 46)
  generalize valP (a, b, c, d) = vp at *
  generalize limP (a, b, c, d) = q at *
  obtain ⟨a', b', c', d'⟩ := q
  unfold pxC at *
  simp only at *
  go_enter Try.func86, Try.ntmps86
  go_upto_region 1 with fail
  generalize w.alloc (.cells #[.int .i64 a, .int .i64 b, .int .i64 c, .int .i64 d] 46) = wz at *
  have y0 : wz.cell? ⟨w.heap.size, 0, none⟩ = some (.int .i64 a) := h0.cell 0
  have y1 : wz.cell? ⟨w.heap.size, 1, none⟩ = some (.int .i64 b) := h0.cell 1
  have y2 : wz.cell? ⟨w.heap.size, 2, none⟩ = some (.int .i64 c) := h0.cell 2
  have y3 : wz.cell? ⟨w.heap.size, 3, none⟩ = some (.int .i64 d) := h0.cell 3
  have hlt := h0.lt
  have HBL := Lib.hid hb
  clear h0 hb
  generalize hB : w.heap.size = B at *
  have HB := Lib.hid hB
  clear hB
  go_region_with (go_at_call 99; refine (HL.out _).mono ?_; rintro e w9 ⟨rfl, hb9⟩; have y0' : w9.cell? ⟨B, 0, none⟩ = some (.int .i64 a) := (hb9.cell (p := ⟨B, 0, none⟩) hlt).trans y0; have y1' : w9.cell? ⟨B, 1, none⟩ = some (.int .i64 b) := (hb9.cell (p := ⟨B, 1, none⟩) hlt).trans y1; have y2' : w9.cell? ⟨B, 2, none⟩ = some (.int .i64 c) := (hb9.cell (p := ⟨B, 2, none⟩) hlt).trans y2; have y3' : w9.cell? ⟨B, 3, none⟩ = some (.int .i64 d) := (hb9.cell (p := ⟨B, 3, none⟩) hlt).trans y3)
  all_goals
    go_wp2_with fail
    go_ret
    exact ⟨rfl, by rw [HB.out]; exact HBL.out.drew.trans (hb9.mono (by show B ≤ _; exact Nat.le_of_lt hlt))⟩
end Go.Proofs.Ytakileiomgaahaa
