/-
  Walks: path.beyond, path.used; near and Used of the reference.
-/
import Derived.Test.YtgjbelcnkmcbiaaDoorQd
namespace Go.Proofs.YtgjbelcnkmcbiaaDoor
open Go.RowKit

theorem used_any (k : Int) (w : World) : Calls Tryd.prog 38 #[.int .i64 k] w fun e w' => e = .returned (.int .i64 (usedP k)) ∧ w = w' := by
  have H : Hid (usedP k = if k = 3 then 2 else if k = 4 then 3 else if k = 5 then 0 else 1) := rfl
  go_enter Tryd.func38, Tryd.ntmps38
  by_cases h3 : k = 3
  · subst h3; go_wp2_with fail; go_ret; exact ⟨by rw [H.out]; rfl, rfl⟩
  by_cases h4 : k = 4
  · subst h4; go_wp2_with fail; go_ret; exact ⟨by rw [H.out]; rfl, rfl⟩
  by_cases h5 : k = 5
  · subst h5; go_wp2_with fail; go_ret; exact ⟨by rw [H.out]; rfl, rfl⟩
  go_wp2_with fail
  go_ret
  exact ⟨by rw [H.out, if_neg h3, if_neg h4, if_neg h5]; rfl, rfl⟩
set_option maxRecDepth 100000 in
set_option maxHeartbeats 1000000 in
theorem beyond_any (p : Pt) (w : World) : Calls Tryd.prog 37 #[.agg (ptC p)] w fun e w' => e = .returned (.bool (farP p)) ∧ Below w.heap.size w w' := by
  obtain ⟨x, y⟩ := p
  have HF : Hid (farP (x, y) = (decide (x < -16777216) || decide (x > 16777216) || decide (y < -16777216) || decide (y > 16777216))) := rfl
  have hb := Lib.hid ((Below.refl w.heap.size w).alloc (Nat.le_refl _) (.cells #[.int .i64 x, .int .i64 y] 32))
  have h0 := Blk.new w 32 #[.int .i64 x, .int .i64 y]
  unfold ptC
  simp only
  go_enter Tryd.func37, Tryd.ntmps37
  go_upto_region 1 with fail
  generalize (w.alloc (.cells #[.int .i64 x, .int .i64 y] 32)) = wz at *
  have y0 : wz.cell? ⟨w.heap.size, 0, none⟩ = some (.int .i64 x) := h0.cell 0
  have y1 : wz.cell? ⟨w.heap.size, 1, none⟩ = some (.int .i64 y) := h0.cell 1
  by_cases h1 : x < -16777216
  · go_wp2_with fail
    go_ret
    exact ⟨by rw [HF.out]; simp [h1], hb.out⟩
  by_cases h2 : x > 16777216
  · go_wp2_with fail
    go_ret
    exact ⟨by rw [HF.out]; simp [h2], hb.out⟩
  by_cases h3 : y < -16777216
  · go_wp2_with fail
    go_ret
    exact ⟨by rw [HF.out]; simp [h3], hb.out⟩
  by_cases h4 : y > 16777216
  · go_wp2_with fail
    go_ret
    exact ⟨by rw [HF.out]; simp [h4], hb.out⟩
  go_wp2_with fail
  go_ret
  exact ⟨by rw [HF.out]; simp [h1, h2, h3, h4], hb.out⟩
theorem eqPt (a b a' b' : Int) (w : World) : (Op.equalIn 10000 32 (.agg #[.int .i64 a, .int .i64 b]) (.agg #[.int .i64 a', .int .i64 b'])).run Tryd.prog w = .ok ((a, b) == ((a', b') : Pt)) w := by
  have u3 := Tryd.underlying3
  have a3 := Tryd.isAgg3
  have z3 := Tryd.sizeOf3
  have hS : Tryd.prog.underlying 32 = some (.struct (Tryd.prog.fieldsOf 32)) := by kernel_rfl
  rw [show (10000 : Nat) = 9999 + 1 from rfl, run_equalIn_agg w 9999 32 _ _ hS (by kernel_rfl)]
  simp only [Program.fieldsOf, Tryd.underlying32]
  go_simp
  by_cases h1 : a = a' <;> by_cases h2 : b = b' <;> simp [h1, h2]
end Go.Proofs.YtgjbelcnkmcbiaaDoor
