/-
  Walk, in the reference of raster: Pick.
-/
import Derived.Test.YthbejefodelpkaaGreatZV9
namespace Go.Proofs.YthbejefodelpkaaGreat
open Go.RowKit
set_option maxRecDepth 100000

set_option maxHeartbeats 4000000 in
theorem vpick_any (W H x y k : Nat) (v : Value) (px : List Px) (w : World) (hr : PRow w v px) (hx : x < W) (hy : y < H) (hW : W ≤ 256) (hH : H ≤ 256) (hk : k = y * W + x) (hkl : k < px.length) :
    Calls Tryz.prog 52 #[.agg (imgI W H v), .int .i64 x, .int .i64 y] w fun e w' => e = .returned (.agg (pxC px[k])) ∧ Below w.heap.size w w' := by
  obtain ⟨xv, cv, rfl, hc1, hc2, -, hcell⟩ := id hr
  unfold maxLen at hc2
  obtain ⟨g, o, rfl, hcl⟩ := hcell (by rintro rfl; simp at hkl)
  have HK0 := Lib.hid ((Blk.new w 36 (imgI W H (.slice (some ⟨g, o, none⟩) px.length cv))).alloc (.cells (pxC (0, 0, 0, 0)) 41))
  have HK1 := Lib.hid (Blk.new_at (w := w.alloc (.cells (imgI W H (.slice (some ⟨g, o, none⟩) px.length cv)) 36)) (k := w.heap.size + 1) (by simp) 41 (pxC (0, 0, 0, 0)))
  have hb := ((Below.refl w.heap.size w).alloc (Nat.le_refl _) (.cells (imgI W H (.slice (some ⟨g, o, none⟩) px.length cv)) 36)).alloc (by simp) (.cells (pxC (0, 0, 0, 0)) 41)
  obtain ⟨q0, q1, q2, q3⟩ := hcl k hkl
  have hgl : g < w.heap.size := World.block_lt_of_cell? w _ q0
  obtain ⟨p, hp⟩ : ∃ p, px[k] = p := ⟨_, rfl⟩
  rw [hp] at q0 q1 q2 q3 ⊢
  obtain ⟨p0, p1, p2, p3⟩ := p
  simp only at q0 q1 q2 q3
  have c0 := (hb.cell (p := ⟨g, _, none⟩) hgl).trans q0
  have c1 := (hb.cell (p := ⟨g, _, none⟩) hgl).trans q1
  have c2 := (hb.cell (p := ⟨g, _, none⟩) hgl).trans q2
  have c3 := (hb.cell (p := ⟨g, _, none⟩) hgl).trans q3
  have HB := Lib.hid hb
  have hdx0 : decide ((x : Int) < 0) = false := by simp
  have hdx : decide ((W : Int) ≤ (x : Int)) = false := by simp; omega
  have hdy0 : decide ((y : Int) < 0) = false := by simp
  have hdy : decide ((H : Int) ≤ (y : Int)) = false := by simp; omega
  have nx : ¬ W ≤ x := by omega
  have ny : ¬ H ≤ y := by omega
  obtain ⟨yw, hyw⟩ : ∃ z, y * W = z := ⟨_, rfl⟩
  have hm : (y : Int) * (W : Int) = (yw : Int) := by rw [← hyw]; simp
  have hywb : yw ≤ 65536 := by rw [← hyw]; exact Nat.mul_le_mul (by omega : y ≤ 256) hW
  have hmk : (yw : Int) + (x : Int) = (k : Int) := by omega
  have hki : (k : Int) < (px.length : Int) := by omega
  clear hcl hcell hp hr q0 q1 q2 q3 hk hyw hb hc1
  unfold imgI at HK0 HK1 HB c0 c1 c2 c3 ⊢
  unfold pxC at HK0 HK1 HB c0 c1 c2 c3 ⊢
  go_enter Tryz.func52, Tryz.ntmps52
  go_upto_region 1 with fail
  generalize (w.alloc (.cells #[.int .i64 (W : Int), .int .i64 (H : Int), .slice (some ⟨g, o, none⟩) px.length cv] 36)).alloc (.cells #[.int .i64 0, .int .i64 0, .int .i64 0, .int .i64 0] 41) = w0 at *
  generalize hB : w.heap.size = B at *
  have HBB := Lib.hid hB
  clear hB
  have a0 : w0.cell? ⟨B, 0, none⟩ = some (.int .i64 (W : Int)) := HK0.out.cell 0
  have a1 : w0.cell? ⟨B, 1, none⟩ = some (.int .i64 (H : Int)) := HK0.out.cell 1
  have a2 : w0.cell? ⟨B, 2, none⟩ = some (.slice (some ⟨g, o, none⟩) px.length cv) := HK0.out.cell 2
  have b0 : w0.cell? ⟨B + 1, 0, none⟩ = some (.int .i64 0) := HK1.out.cell 0
  have b1 : w0.cell? ⟨B + 1, 1, none⟩ = some (.int .i64 0) := HK1.out.cell 1
  have b2 : w0.cell? ⟨B + 1, 2, none⟩ = some (.int .i64 0) := HK1.out.cell 2
  have b3 : w0.cell? ⟨B + 1, 3, none⟩ = some (.int .i64 0) := HK1.out.cell 3
  have z0 := HK1.out.frozen 0
  have z1 := HK1.out.frozen 1
  have z2 := HK1.out.frozen 2
  have z3 := HK1.out.frozen 3
  have HF : Hid (Blk ((((w0.setCell ⟨B + 1, 0, none⟩ (.int .i64 p0)).setCell ⟨B + 1, 1, none⟩ (.int .i64 p1)).setCell ⟨B + 1, 2, none⟩ (.int .i64 p2)).setCell ⟨B + 1, 3, none⟩ (.int .i64 p3)) (B + 1) 41 #[.int .i64 p0, .int .i64 p1, .int .i64 p2, .int .i64 p3]) := (((HK1.out.put 0 (.int .i64 p0)).put 1 (.int .i64 p1)).put 2 (.int .i64 p2)).put 3 (.int .i64 p3)
  have HBF : Hid (Below B w ((((w0.setCell ⟨B + 1, 0, none⟩ (.int .i64 p0)).setCell ⟨B + 1, 1, none⟩ (.int .i64 p1)).setCell ⟨B + 1, 2, none⟩ (.int .i64 p2)).setCell ⟨B + 1, 3, none⟩ (.int .i64 p3))) := below_put (below_put (below_put (below_put HB.out (p := ⟨B + 1, 0, none⟩) (by simp) _) (p := ⟨B + 1, 1, none⟩) (by simp) _) (p := ⟨B + 1, 2, none⟩) (by simp) _) (p := ⟨B + 1, 3, none⟩) (by simp) _
  go_wp2_with fail
  exact bodyPost_ret (results_cell_row rfl _ _ (B + 1) 41 _ (0, 0) _ rfl HF.out Tryz.underlying41 rfl (pxC_inf (p0, p1, p2, p3))) rfl ⟨rfl, by rw [HBB.out]; exact HBF.out⟩
end Go.Proofs.YthbejefodelpkaaGreat
