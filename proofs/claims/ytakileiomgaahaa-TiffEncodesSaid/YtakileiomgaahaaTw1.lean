/-
  Walks: two images are the same, two lists are the same (the law of tiff).
-/
import Derived.Test.YtakileiomgaahaaOm
import Derived.Test.YtakileiomgaahaaRas
namespace Go.Proofs.Ytakileiomgaahaa
open Go.RowKit

theorem teqMt (a b : ByteArray) (w : World) : (Op.equalIn 10000 67 (.agg #[.string a, .string b]) (.agg #[.string a, .string b])).run Try.prog w = .ok true w := by
  have u3 := Try.underlying9
  have a3 := Try.isAgg9
  have z3 := Try.sizeOf9
  have hS : Try.prog.underlying 67 = some (.struct (Try.prog.fieldsOf 67)) := by kernel_rfl
  rw [show (10000 : Nat) = 9999 + 1 from rfl, run_equalIn_agg w 9999 67 _ _ hS (by kernel_rfl)]
  simp only [Program.fieldsOf, Try.underlying67]
  go_simp

set_option maxHeartbeats 2000000 in
set_option maxRecDepth 100000 in
theorem tsame_any (W H : Int) (v1 v2 : Value) (px : List Px) (w : World) (h1 : PRow w v1 px) (h2 : PRow w v2 px) :
    Calls Try.prog 20 #[.agg (imgI W H v1), .agg (imgI W H v2)] w fun e w' => e = .returned (.bool true) ∧ Below w.heap.size w w' := by
  obtain ⟨x1, c1, rfl, hl1, hc1, -⟩ := id h1
  obtain ⟨x2, c2, rfl, -, hc2, -⟩ := id h2
  have hba := (Below.refl w.heap.size w).alloc (Nat.le_refl _) (.cells (imgI W H (.slice x1 px.length c1)) 34)
  have hbb := hba.alloc (by simp) (.cells (imgI W H (.slice x2 px.length c2)) 34)
  have HB1 := Lib.hid ((Blk.new w 34 (imgI W H (.slice x1 px.length c1))).alloc (.cells (imgI W H (.slice x2 px.length c2)) 34))
  have hb2 : Blk ((w.alloc (.cells (imgI W H (.slice x1 px.length c1)) 34)).alloc (.cells (imgI W H (.slice x2 px.length c2)) 34)) (w.heap.size + 1) 34 (imgI W H (.slice x2 px.length c2)) := Blk.new_at (by simp) _ _
  have HB2 := Lib.hid hb2
  have HP1 := Lib.hid (h1.below hbb)
  have HP2 := Lib.hid (h2.below hbb)
  have HBE := Lib.hid hbb
  unfold maxLen at hc1 hc2
  clear h1 h2 hb2 hba hbb
  simp only [imgI] at HB1 HB2 HP1 HP2 HBE ⊢
  go_enter Try.func20, Try.ntmps20
  go_upto_region 1 with fail
  generalize (w.alloc (.cells #[.int .i64 W, .int .i64 H, .slice x1 px.length c1] 34)).alloc (.cells #[.int .i64 W, .int .i64 H, .slice x2 px.length c2] 34) = wz at *
  generalize hB : w.heap.size = B at *
  have HBB := Lib.hid hB
  clear hB
  have a0 : wz.cell? ⟨B, 0, none⟩ = some (.int .i64 W) := HB1.out.cell 0
  have a1 : wz.cell? ⟨B, 1, none⟩ = some (.int .i64 H) := HB1.out.cell 1
  have a2 : wz.cell? ⟨B, 2, none⟩ = some (.slice x1 px.length c1) := HB1.out.cell 2
  have b0 : wz.cell? ⟨B + 1, 0, none⟩ = some (.int .i64 W) := HB2.out.cell 0
  have b1 : wz.cell? ⟨B + 1, 1, none⟩ = some (.int .i64 H) := HB2.out.cell 1
  have b2 : wz.cell? ⟨B + 1, 2, none⟩ = some (.slice x2 px.length c2) := HB2.out.cell 2
  have eW : (W == W) = true := by simp
  have eH : (H == H) = true := by simp
  go_wp2_with fail
  go_loopw [30] (fun vi wr => ∃ (i n : Nat), vi = .int .i64 i ∧ i ≤ px.length ∧ n = 0 ∧ Hid (Below wz.heap.size wz wr)) (fun vi _ => px.length - (intOf vi).toNat)
  case atStart => exact ⟨0, 0, rfl, Nat.zero_le _, rfl, Below.refl _ _⟩
  case round =>
    obtain ⟨i, n, rfl, hi, -, hbw⟩ := hrel
    have a2 : wr.cell? ⟨B, 2, none⟩ = some (.slice x1 px.length c1) := (hbw.out.cell (p := ⟨B, 2, none⟩) HB1.out.lt).trans (HB1.out.cell 2)
    have b2 : wr.cell? ⟨B + 1, 2, none⟩ = some (.slice x2 px.length c2) := (hbw.out.cell (p := ⟨B + 1, 2, none⟩) HB2.out.lt).trans (HB2.out.cell 2)
    by_cases hlt : i < px.length
    · have dlt : decide ((i : Int) < (px.length : Int)) = true := by simp; omega
      have hne : px ≠ [] := by rintro rfl; simp at hlt
      have hp1 : PRow wr (.slice x1 px.length c1) px := HP1.out.below hbw.out
      have hp2 : PRow wr (.slice x2 px.length c2) px := HP2.out.below hbw.out
      obtain ⟨x, c, hv, -, -, -, hcl⟩ := hp1
      cases hv
      obtain ⟨g1, o1, rfl, hc⟩ := hcl hne
      obtain ⟨q0, q1, q2, q3⟩ := hc i hlt
      clear hcl hc
      obtain ⟨x, c, hv, -, -, -, hcl⟩ := hp2
      cases hv
      obtain ⟨g2, o2, rfl, hc⟩ := hcl hne
      obtain ⟨r0, r1, r2, r3⟩ := hc i hlt
      clear hcl hc
      obtain ⟨p, hp⟩ : ∃ p, px[i] = p := ⟨_, rfl⟩
      rw [hp] at q0 q1 q2 q3 r0 r1 r2 r3
      clear hp
      obtain ⟨p0, p1, p2, p3⟩ := p
      simp only at q0 q1 q2 q3 r0 r1 r2 r3
      have heq : ∀ w, (Op.equalIn 10000 46 (.agg #[.int .i64 p0, .int .i64 p1, .int .i64 p2, .int .i64 p3]) (.agg #[.int .i64 p0, .int .i64 p1, .int .i64 p2, .int .i64 p3])).run Try.prog w = .ok true w := fun w => (eqPx (p0, p1, p2, p3) (p0, p1, p2, p3) w).trans (by simp)
      go_wp2_with fail
      go_quiet (fail)
      have hbn := Lib.hid (below_drewN hbw.out nq)
      clear q0 q1 q2 q3 r0 r1 r2 r3
      go_wp2_with fail
      go_roundw
      case rel => exact ⟨i + 1, 0, by go_num, by omega, rfl, hbn⟩
      case measure => simp [intOf]; omega
    · have dlt : decide ((i : Int) < (px.length : Int)) = false := by simp; omega
      go_wp2_with fail
      go_ret
      exact ⟨rfl, by rw [HBB.out]; exact HBE.out.trans (hbw.out.mono (by have := HB1.out.lt; omega))⟩

set_option maxHeartbeats 2000000 in
set_option maxRecDepth 100000 in
theorem talike_any (v1 v2 : Value) (ms : List Mt) (w : World) (h1 : MRow w v1 ms) (h2 : MRow w v2 ms) :
    Calls Try.prog 21 #[v1, v2] w fun e w' => e = .returned (.bool true) ∧ Below w.heap.size w w' := by
  obtain ⟨x1, c1, rfl, hl1, hc1, -⟩ := id h1
  obtain ⟨x2, c2, rfl, -, hc2, -⟩ := id h2
  have HP1 := Lib.hid h1
  have HP2 := Lib.hid h2
  unfold maxLen at hc1 hc2
  clear h1 h2
  go_enter Try.func21, Try.ntmps21
  go_wp2_with fail
  go_loopw [13] (fun vi wr => ∃ (i n : Nat), vi = .int .i64 i ∧ i ≤ ms.length ∧ n = 0 ∧ Hid (Below w.heap.size w wr)) (fun vi _ => ms.length - (intOf vi).toNat)
  case atStart => exact ⟨0, 0, rfl, Nat.zero_le _, rfl, Below.refl _ _⟩
  case round =>
    obtain ⟨i, n, rfl, hi, -, hbw⟩ := hrel
    by_cases hlt : i < ms.length
    · have dlt : decide ((i : Int) < (ms.length : Int)) = true := by simp; omega
      have hne : ms ≠ [] := by rintro rfl; simp at hlt
      have hp1 : MRow wr (.slice x1 ms.length c1) ms := HP1.out.below hbw.out
      have hp2 : MRow wr (.slice x2 ms.length c2) ms := HP2.out.below hbw.out
      obtain ⟨x, c, hv, -, -, -, hcl⟩ := hp1
      cases hv
      obtain ⟨g1, o1, rfl, hc⟩ := hcl hne
      obtain ⟨q0, q1⟩ := hc i hlt
      clear hcl hc
      obtain ⟨x, c, hv, -, -, -, hcl⟩ := hp2
      cases hv
      obtain ⟨g2, o2, rfl, hc⟩ := hcl hne
      obtain ⟨r0, r1⟩ := hc i hlt
      clear hcl hc
      obtain ⟨p, hp⟩ : ∃ p, ms[i] = p := ⟨_, rfl⟩
      rw [hp] at q0 q1 r0 r1
      clear hp
      obtain ⟨p0, p1⟩ := p
      simp only at q0 q1 r0 r1
      have heq : ∀ w, (Op.equalIn 10000 67 (.agg #[.string ⟨p0.toArray⟩, .string ⟨p1.toArray⟩]) (.agg #[.string ⟨p0.toArray⟩, .string ⟨p1.toArray⟩])).run Try.prog w = .ok true w := fun w => teqMt _ _ w
      go_wp2_with fail
      go_quiet (fail)
      have hbn := Lib.hid (below_drewN hbw.out nq)
      clear q0 q1 r0 r1
      go_wp2_with fail
      go_roundw
      case rel => exact ⟨i + 1, 0, by go_num, by omega, rfl, hbn⟩
      case measure => simp [intOf]; omega
    · have dlt : decide ((i : Int) < (ms.length : Int)) = false := by simp; omega
      go_wp2_with fail
      go_ret
      exact ⟨rfl, hbw.out⟩
end Go.Proofs.Ytakileiomgaahaa
