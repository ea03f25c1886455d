/-
  Walks: the helpers of the laws: same, sameMeta, sameChunks, is.
  Walk: the examples of the chapter (awake).
-/
import Derived.Test.YthbejefodelpkaaGreatZG20
import Derived.Test.YthbejefodelpkaaGreatZF
namespace Go.Proofs.YthbejefodelpkaaGreat
open Go.RowKit

theorem below_drewH {B : Nat} {w w' : World} (h : Below B w w') (n : Nat) : Below B w (w'.drewN n) := ⟨h.os, h.tape, h.output, h.size, h.block⟩
theorem eqMt (a b : ByteArray) (w : World) : (Op.equalIn 10000 65 (.agg #[.string a, .string b]) (.agg #[.string a, .string b])).run Tryz.prog w = .ok true w := by
  have u3 := Tryz.underlying9
  have a3 := Tryz.isAgg9
  have z3 := Tryz.sizeOf9
  have hS : Tryz.prog.underlying 65 = some (.struct (Tryz.prog.fieldsOf 65)) := by kernel_rfl
  rw [show (10000 : Nat) = 9999 + 1 from rfl, run_equalIn_agg w 9999 65 _ _ hS (by kernel_rfl)]
  simp only [Program.fieldsOf, Tryz.underlying65]
  go_simp

set_option maxHeartbeats 2000000 in
set_option maxRecDepth 100000 in
theorem same_any (W H : Int) (v1 v2 : Value) (px : List Px) (w : World) (h1 : PRow w v1 px) (h2 : PRow w v2 px) :
    Calls Tryz.prog 27 #[.agg (imgI W H v1), .agg (imgI W H v2)] w fun e w' => e = .returned (.bool true) ∧ Below w.heap.size w w' := by
  obtain ⟨x1, c1, rfl, hl1, hc1, -⟩ := id h1
  obtain ⟨x2, c2, rfl, -, hc2, -⟩ := id h2
  have hba := (Below.refl w.heap.size w).alloc (Nat.le_refl _) (.cells (imgI W H (.slice x1 px.length c1)) 36)
  have hbb := hba.alloc (by simp) (.cells (imgI W H (.slice x2 px.length c2)) 36)
  have HB1 := Lib.hid ((Blk.new w 36 (imgI W H (.slice x1 px.length c1))).alloc (.cells (imgI W H (.slice x2 px.length c2)) 36))
  have hb2 : Blk ((w.alloc (.cells (imgI W H (.slice x1 px.length c1)) 36)).alloc (.cells (imgI W H (.slice x2 px.length c2)) 36)) (w.heap.size + 1) 36 (imgI W H (.slice x2 px.length c2)) := Blk.new_at (by simp) _ _
  have HB2 := Lib.hid hb2
  have HP1 := Lib.hid (h1.below hbb)
  have HP2 := Lib.hid (h2.below hbb)
  have HBE := Lib.hid hbb
  unfold maxLen at hc1 hc2
  clear h1 h2 hb2 hba hbb
  simp only [imgI] at HB1 HB2 HP1 HP2 HBE ⊢
  go_enter Tryz.func27, Tryz.ntmps27
  go_upto_region 1 with fail
  generalize (w.alloc (.cells #[.int .i64 W, .int .i64 H, .slice x1 px.length c1] 36)).alloc (.cells #[.int .i64 W, .int .i64 H, .slice x2 px.length c2] 36) = wz at *
  generalize hB : w.heap.size = B at *
  have HBB := Lib.hid hB
  clear hB
  have a0 : wz.cell? ⟨B, 0, none⟩ = some (.int .i64 W) := HB1.out.cell 0
  have a1 : wz.cell? ⟨B, 1, none⟩ = some (.int .i64 H) := HB1.out.cell 1
  have a2 : wz.cell? ⟨B, 2, none⟩ = some (.slice x1 px.length c1) := HB1.out.cell 2
  have b0 : wz.cell? ⟨B + 1, 0, none⟩ = some (.int .i64 W) := HB2.out.cell 0
  have b1 : wz.cell? ⟨B + 1, 1, none⟩ = some (.int .i64 H) := HB2.out.cell 1
  have b2 : wz.cell? ⟨B + 1, 2, none⟩ = some (.slice x2 px.length c2) := HB2.out.cell 2
  have eW : (W == W) = true := by simp
  have eH : (H == H) = true := by simp
  go_wp2_with fail
  go_loopw [30] (fun vi wr => ∃ (i n : Nat), vi = .int .i64 i ∧ i ≤ px.length ∧ n = 0 ∧ Hid (Below wz.heap.size wz wr)) (fun vi _ => px.length - (intOf vi).toNat)
  case atStart => exact ⟨0, 0, rfl, Nat.zero_le _, rfl, Below.refl _ _⟩
  case round =>
    obtain ⟨i, n, rfl, hi, -, hbw⟩ := hrel
    have a2 : wr.cell? ⟨B, 2, none⟩ = some (.slice x1 px.length c1) := (hbw.out.cell (p := ⟨B, 2, none⟩) HB1.out.lt).trans (HB1.out.cell 2)
    have b2 : wr.cell? ⟨B + 1, 2, none⟩ = some (.slice x2 px.length c2) := (hbw.out.cell (p := ⟨B + 1, 2, none⟩) HB2.out.lt).trans (HB2.out.cell 2)
    by_cases hlt : i < px.length
    · have dlt : decide ((i : Int) < (px.length : Int)) = true := by simp; omega
      have hne : px ≠ [] := by rintro rfl; simp at hlt
      have hp1 : PRow wr (.slice x1 px.length c1) px := HP1.out.below hbw.out
      have hp2 : PRow wr (.slice x2 px.length c2) px := HP2.out.below hbw.out
      obtain ⟨x, c, hv, -, -, -, hcl⟩ := hp1
      cases hv
      obtain ⟨g1, o1, rfl, hc⟩ := hcl hne
      obtain ⟨q0, q1, q2, q3⟩ := hc i hlt
      clear hcl hc
      obtain ⟨x, c, hv, -, -, -, hcl⟩ := hp2
      cases hv
      obtain ⟨g2, o2, rfl, hc⟩ := hcl hne
      obtain ⟨r0, r1, r2, r3⟩ := hc i hlt
      clear hcl hc
      obtain ⟨p, hp⟩ : ∃ p, px[i] = p := ⟨_, rfl⟩
      rw [hp] at q0 q1 q2 q3 r0 r1 r2 r3
      clear hp
      obtain ⟨p0, p1, p2, p3⟩ := p
      simp only at q0 q1 q2 q3 r0 r1 r2 r3
      have heq : ∀ w, (Op.equalIn 10000 41 (.agg #[.int .i64 p0, .int .i64 p1, .int .i64 p2, .int .i64 p3]) (.agg #[.int .i64 p0, .int .i64 p1, .int .i64 p2, .int .i64 p3])).run Tryz.prog w = .ok true w := fun w => (eqPx (p0, p1, p2, p3) (p0, p1, p2, p3) w).trans (by simp)
      go_wp2_with fail
      go_quiet (fail)
      have hbn := Lib.hid (below_drewH hbw.out nq)
      clear q0 q1 q2 q3 r0 r1 r2 r3
      go_wp2_with fail
      go_roundw
      case rel => exact ⟨i + 1, 0, by go_num, by omega, rfl, hbn⟩
      case measure => simp [intOf]; omega
    · have dlt : decide ((i : Int) < (px.length : Int)) = false := by simp; omega
      go_wp2_with fail
      go_ret
      exact ⟨rfl, by rw [HBB.out]; exact HBE.out.trans (hbw.out.mono (by have := HB1.out.lt; omega))⟩

set_option maxHeartbeats 2000000 in
set_option maxRecDepth 100000 in
theorem sameMeta_any (v1 v2 : Value) (ms : List Mt) (w : World) (h1 : MRow w v1 ms) (h2 : MRow w v2 ms) :
    Calls Tryz.prog 28 #[v1, v2] w fun e w' => e = .returned (.bool true) ∧ Below w.heap.size w w' := by
  obtain ⟨x1, c1, rfl, hl1, hc1, -⟩ := id h1
  obtain ⟨x2, c2, rfl, -, hc2, -⟩ := id h2
  have HP1 := Lib.hid h1
  have HP2 := Lib.hid h2
  unfold maxLen at hc1 hc2
  clear h1 h2
  go_enter Tryz.func28, Tryz.ntmps28
  go_wp2_with fail
  go_loopw [13] (fun vi wr => ∃ (i n : Nat), vi = .int .i64 i ∧ i ≤ ms.length ∧ n = 0 ∧ Hid (Below w.heap.size w wr)) (fun vi _ => ms.length - (intOf vi).toNat)
  case atStart => exact ⟨0, 0, rfl, Nat.zero_le _, rfl, Below.refl _ _⟩
  case round =>
    obtain ⟨i, n, rfl, hi, -, hbw⟩ := hrel
    by_cases hlt : i < ms.length
    · have dlt : decide ((i : Int) < (ms.length : Int)) = true := by simp; omega
      have hne : ms ≠ [] := by rintro rfl; simp at hlt
      have hp1 : MRow wr (.slice x1 ms.length c1) ms := HP1.out.below hbw.out
      have hp2 : MRow wr (.slice x2 ms.length c2) ms := HP2.out.below hbw.out
      obtain ⟨x, c, hv, -, -, -, hcl⟩ := hp1
      cases hv
      obtain ⟨g1, o1, rfl, hc⟩ := hcl hne
      obtain ⟨q0, q1⟩ := hc i hlt
      clear hcl hc
      obtain ⟨x, c, hv, -, -, -, hcl⟩ := hp2
      cases hv
      obtain ⟨g2, o2, rfl, hc⟩ := hcl hne
      obtain ⟨r0, r1⟩ := hc i hlt
      clear hcl hc
      obtain ⟨p, hp⟩ : ∃ p, ms[i] = p := ⟨_, rfl⟩
      rw [hp] at q0 q1 r0 r1
      clear hp
      obtain ⟨p0, p1⟩ := p
      simp only at q0 q1 r0 r1
      have heq : ∀ w, (Op.equalIn 10000 65 (.agg #[.string ⟨p0.toArray⟩, .string ⟨p1.toArray⟩]) (.agg #[.string ⟨p0.toArray⟩, .string ⟨p1.toArray⟩])).run Tryz.prog w = .ok true w := fun w => eqMt _ _ w
      go_wp2_with fail
      go_quiet (fail)
      have hbn := Lib.hid (below_drewH hbw.out nq)
      clear q0 q1 r0 r1
      go_wp2_with fail
      go_roundw
      case rel => exact ⟨i + 1, 0, by go_num, by omega, rfl, hbn⟩
      case measure => simp [intOf]; omega
    · have dlt : decide ((i : Int) < (ms.length : Int)) = false := by simp; omega
      go_wp2_with fail
      go_ret
      exact ⟨rfl, hbw.out⟩
theorem eqCk (a b : ByteArray) (w : World) : (Op.equalIn 10000 53 (.agg #[.string a, .string b]) (.agg #[.string a, .string b])).run Tryz.prog w = .ok true w := by
  have u3 := Tryz.underlying9
  have a3 := Tryz.isAgg9
  have z3 := Tryz.sizeOf9
  have hS : Tryz.prog.underlying 53 = some (.struct (Tryz.prog.fieldsOf 53)) := by kernel_rfl
  rw [show (10000 : Nat) = 9999 + 1 from rfl, run_equalIn_agg w 9999 53 _ _ hS (by kernel_rfl)]
  simp only [Program.fieldsOf, Tryz.underlying53]
  go_simp

set_option maxHeartbeats 2000000 in
set_option maxRecDepth 100000 in
theorem sameChunks_any (v1 v2 : Value) (ms : List Mt) (w : World) (h1 : MRow w v1 ms) (h2 : MRow w v2 ms) :
    Calls Tryz.prog 15 #[v1, v2] w fun e w' => e = .returned (.bool true) ∧ Below w.heap.size w w' := by
  obtain ⟨x1, c1, rfl, hl1, hc1, -⟩ := id h1
  obtain ⟨x2, c2, rfl, -, hc2, -⟩ := id h2
  have HP1 := Lib.hid h1
  have HP2 := Lib.hid h2
  unfold maxLen at hc1 hc2
  clear h1 h2
  go_enter Tryz.func15, Tryz.ntmps15
  go_wp2_with fail
  go_loopw [13] (fun vi wr => ∃ (i n : Nat), vi = .int .i64 i ∧ i ≤ ms.length ∧ n = 0 ∧ Hid (Below w.heap.size w wr)) (fun vi _ => ms.length - (intOf vi).toNat)
  case atStart => exact ⟨0, 0, rfl, Nat.zero_le _, rfl, Below.refl _ _⟩
  case round =>
    obtain ⟨i, n, rfl, hi, -, hbw⟩ := hrel
    by_cases hlt : i < ms.length
    · have dlt : decide ((i : Int) < (ms.length : Int)) = true := by simp; omega
      have hne : ms ≠ [] := by rintro rfl; simp at hlt
      have hp1 : MRow wr (.slice x1 ms.length c1) ms := HP1.out.below hbw.out
      have hp2 : MRow wr (.slice x2 ms.length c2) ms := HP2.out.below hbw.out
      obtain ⟨x, c, hv, -, -, -, hcl⟩ := hp1
      cases hv
      obtain ⟨g1, o1, rfl, hc⟩ := hcl hne
      obtain ⟨q0, q1⟩ := hc i hlt
      clear hcl hc
      obtain ⟨x, c, hv, -, -, -, hcl⟩ := hp2
      cases hv
      obtain ⟨g2, o2, rfl, hc⟩ := hcl hne
      obtain ⟨r0, r1⟩ := hc i hlt
      clear hcl hc
      obtain ⟨p, hp⟩ : ∃ p, ms[i] = p := ⟨_, rfl⟩
      rw [hp] at q0 q1 r0 r1
      clear hp
      obtain ⟨p0, p1⟩ := p
      simp only at q0 q1 r0 r1
      have heq : ∀ w, (Op.equalIn 10000 53 (.agg #[.string ⟨p0.toArray⟩, .string ⟨p1.toArray⟩]) (.agg #[.string ⟨p0.toArray⟩, .string ⟨p1.toArray⟩])).run Tryz.prog w = .ok true w := fun w => eqCk _ _ w
      go_wp2_with fail
      go_quiet (fail)
      have hbn := Lib.hid (below_drewH hbw.out nq)
      clear q0 q1 r0 r1
      go_wp2_with fail
      go_roundw
      case rel => exact ⟨i + 1, 0, by go_num, by omega, rfl, hbn⟩
      case measure => simp [intOf]; omega
    · have dlt : decide ((i : Int) < (ms.length : Int)) = false := by simp; omega
      go_wp2_with fail
      go_ret
      exact ⟨rfl, hbw.out⟩

theorem mrow_one {w : World} {k : Nat} {t : TypeId} {a b : List UInt8} (h : Blk w k t #[.string ⟨a.toArray⟩, .string ⟨b.toArray⟩]) : MRow w (.slice (some ⟨k, 0, none⟩) 1 1) [(a, b)] := by
  refine ⟨_, 1, rfl, Nat.le_refl _, by decide, (fun h => by cases h), fun _ => ⟨k, 0, rfl, fun i hi => ?_⟩⟩
  have : i = 0 := by simp at hi; omega
  subst this
  exact ⟨h.cell 0, h.cell 1⟩
theorem prow_nil (w : World) : PRow w (.slice none 0 0) [] := ⟨none, 0, rfl, Nat.le_refl _, by unfold maxLen; omega, fun _ => rfl, fun h => absurd rfl h⟩
set_option maxHeartbeats 2000000 in
theorem is_any (k : Int) (l a : ByteArray) (m : List UInt8) (w : World) (hl : l.size ≤ 100) (h0 : fchk k 1 l.data.toList a.data.toList = 0) (hm : filP k 1 l.data.toList a.data.toList = m) :
    Calls Tryz.prog 39 #[.int .i64 k, .string l, .string a, .string ⟨m.toArray⟩] w fun e w' => e = .returned (.bool true) ∧ Below w.heap.size w w' := by
  have HF := Lib.hid (fun w => filter_any k 1 l a w (by omega))
  rw [if_pos h0, h0, show (1 : Int).toNat = 1 from rfl, hm] at HF
  have em : ((⟨m.toArray⟩ : ByteArray).toList == (⟨m.toArray⟩ : ByteArray).toList) = true := by simp
  generalize (⟨m.toArray⟩ : ByteArray) = M at *
  clear hm h0
  go_enter Tryz.func39, Tryz.ntmps39
  go_wp2_with fail
  refine (HF.out _).mono ?_
  rintro e w1 ⟨rfl, hb1⟩
  have HB1 := Lib.hid hb1
  clear hb1
  go_wp2_with fail
  go_ret
  exact ⟨rfl, HB1.out⟩
end Go.Proofs.YthbejefodelpkaaGreat
namespace Go.Proofs.YthbejefodelpkaaGreat
open Go.RowKit

def fileL : List UInt8 := [137, 80, 78, 71, 13, 10, 26, 10, 0, 0, 0, 0, 73, 69, 78, 68, 174, 66, 96, 130]
def exL : List UInt8 := [137, 80, 78, 71, 13, 10, 26, 10, 0, 0, 0, 13, 73, 72, 68, 82, 0, 0, 0, 1, 0, 0, 0, 1, 8, 6, 0, 0, 0, 31, 21, 196, 137, 0, 0, 0, 3, 116, 69, 88, 116, 107, 0, 118, 203, 4, 243, 144, 0, 0, 0, 13, 73, 68, 65, 84, 120, 1, 99, 96, 100, 98, 254, 15, 0, 1, 20, 1, 6, 36, 201, 37, 183, 0, 0, 0, 0, 73, 69, 78, 68, 174, 66, 96, 130]
theorem ax1 : joinP [(iendP, [])] = .ok fileL := by kernel_rfl
theorem ax2 : chunksP fileL = .ok [(iendP, [])] := by kernel_rfl
theorem ax3 : chunksP (fileL ++ [120]) = .error 6 := by kernel_rfl
theorem ax4 : decP fileL = .error 4 := by kernel_rfl
theorem ax5 : gencP 1 1 [(257, 514, 771, 65535)] 8 [([107], [118])] = .ok exL := by kernel_rfl
theorem ax6 : decP exL = .ok (1, 1, [(257, 514, 771, 65535)], [([107], [118])]) := by kernel_rfl

set_option maxHeartbeats 4000000 in
set_option maxRecDepth 100000 in
theorem awake_any (w : World) : Calls Tryz.prog 14 #[] w fun e w' => e = .returned (.bool true) ∧ Below w.heap.size w w' := by
  have HJO : Hid (∀ v w, MRow w v [(iendP, [])] → Calls Tryz.prog 16 #[v] w fun e w' => e = .returned (.tuple #[.string ⟨#[137, 80, 78, 71, 13, 10, 26, 10, 0, 0, 0, 0, 73, 69, 78, 68, 174, 66, 96, 130]⟩, .int .i64 0]) ∧ Below w.heap.size w w') := fun v w h => by
    have := join_any v [(iendP, [])] w h (by decide) (by decide)
    rw [ax1] at this
    exact this
  have HC1 : Hid (∀ w, Calls Tryz.prog 12 #[.string ⟨#[137, 80, 78, 71, 13, 10, 26, 10, 0, 0, 0, 0, 73, 69, 78, 68, 174, 66, 96, 130]⟩] w fun e w' => (∃ v, e = .returned (.tuple #[v, .int .i64 0]) ∧ MRow w' v [(iendP, [])]) ∧ Below w.heap.size w w') := fun w => by
    have := chunks_any ⟨#[137, 80, 78, 71, 13, 10, 26, 10, 0, 0, 0, 0, 73, 69, 78, 68, 174, 66, 96, 130]⟩ w (by decide)
    change Calls _ _ _ _ fun e w' => CkOk (chunksP fileL) e w' ∧ _ at this
    rw [ax2] at this
    exact this
  have HC2 : Hid (∀ w, Calls Tryz.prog 12 #[.string (⟨#[137, 80, 78, 71, 13, 10, 26, 10, 0, 0, 0, 0, 73, 69, 78, 68, 174, 66, 96, 130]⟩ ++ ⟨#[120]⟩)] w fun e w' => e = .returned (.tuple #[.slice none 0 0, .int .i64 6]) ∧ Below w.heap.size w w') := fun w => by
    have := chunks_any (⟨#[137, 80, 78, 71, 13, 10, 26, 10, 0, 0, 0, 0, 73, 69, 78, 68, 174, 66, 96, 130]⟩ ++ ⟨#[120]⟩) w (by decide)
    rw [ByteArray.data_append, Array.toList_append] at this
    change Calls _ _ _ _ fun e w' => CkOk (chunksP (fileL ++ [120])) e w' ∧ _ at this
    rw [ax3] at this
    exact this
  have HD1 : Hid (∀ w, Calls Tryz.prog 26 #[.string ⟨#[137, 80, 78, 71, 13, 10, 26, 10, 0, 0, 0, 0, 73, 69, 78, 68, 174, 66, 96, 130]⟩] w fun e w' => e = .returned (.tuple #[.agg #[.int .i64 0, .int .i64 0, .slice none 0 0], .slice none 0 0, .int .i64 4]) ∧ Below w.heap.size w w') := fun w => by
    have := decode_any ⟨#[137, 80, 78, 71, 13, 10, 26, 10, 0, 0, 0, 0, 73, 69, 78, 68, 174, 66, 96, 130]⟩ w (by decide)
    change Calls _ _ _ _ fun e w' => DecOk (decP fileL) e w' ∧ _ at this
    rw [ax4] at this
    exact this
  have HI1 := Lib.hid (fun w => is_any 1 ⟨#[5, 7, 7]⟩ ⟨#[]⟩ [5, 2, 0] w (by decide) (by kernel_rfl) (by kernel_rfl))
  have HI2 := Lib.hid (fun w => is_any 2 ⟨#[5, 7]⟩ ⟨#[1, 9]⟩ [4, 254] w (by decide) (by kernel_rfl) (by kernel_rfl))
  have HI3 := Lib.hid (fun w => is_any 3 ⟨#[5, 7]⟩ ⟨#[1, 9]⟩ [5, 0] w (by decide) (by kernel_rfl) (by kernel_rfl))
  have HI4 := Lib.hid (fun w => is_any 4 ⟨#[10, 12]⟩ ⟨#[9, 11]⟩ [1, 1] w (by decide) (by kernel_rfl) (by kernel_rfl))
  have HUN : Hid (∀ w, Calls Tryz.prog 20 #[.int .i64 4, .int .i64 1, .string ⟨#[1, 1]⟩, .string ⟨#[9, 11]⟩] w fun e w' => e = .returned (.tuple #[.string ⟨#[10, 12]⟩, .int .i64 0]) ∧ Below w.heap.size w w') := fun w => by
    have := unfilter_any 4 1 ⟨#[1, 1]⟩ ⟨#[9, 11]⟩ w (by decide)
    have h0 : fchk 4 1 [1, 1] [9, 11] = 0 := by kernel_rfl
    have h1 : unfP 4 (1 : Int).toNat [1, 1] [9, 11] = [10, 12] := by kernel_rfl
    change Calls _ _ _ _ fun e w' => e = .returned (.tuple #[.string (if fchk 4 1 [1, 1] [9, 11] = 0 then ⟨(unfP 4 (1 : Int).toNat [1, 1] [9, 11]).toArray⟩ else ⟨#[]⟩), .int .i64 (fchk 4 1 [1, 1] [9, 11] : Nat)]) ∧ _ at this
    rw [h0, if_pos rfl, h1] at this
    exact this
  obtain ⟨ES, hES⟩ : ∃ S : ByteArray, S = ⟨exL.toArray⟩ := ⟨_, rfl⟩
  have hESs : ES.size = 85 := by rw [hES]; rfl
  have hESx : (ES.extract 8 29).toList = [0, 0, 0, 13, 73, 72, 68, 82, 0, 0, 0, 1, 0, 0, 0, 1, 8, 6, 0, 0, 0] := by rw [ByteArray.toList_eq, extract_list, hES]; kernel_rfl
  have hESl : ES.data.toList = exL := by rw [hES]
  have HEN : Hid (∀ v mv w, PRow w v [(257, 514, 771, 65535)] → MRow w mv [([107], [118])] → Calls Tryz.prog 22 #[.agg #[.int .i64 1, .int .i64 1, v], .int .i64 8, mv] w fun e w' => e = .returned (.tuple #[.string ES, .int .i64 0]) ∧ Below w.heap.size w w') := fun v mv w hp hm => by
    have := encode_any 1 1 8 v mv [(257, 514, 771, 65535)] [([107], [118])] w hp hm
    rw [ax5] at this
    rw [hES]
    exact this
  have HDE : Hid (∀ w, Calls Tryz.prog 26 #[.string ES] w fun e w' => (∃ pv mv, e = .returned (.tuple #[.agg #[.int .i64 1, .int .i64 1, pv], mv, .int .i64 0]) ∧ PRow w' pv [(257, 514, 771, 65535)] ∧ MRow w' mv [([107], [118])]) ∧ Below w.heap.size w w') := fun w => by
    have := decode_any ES w (by omega)
    rw [hESl, ax6] at this
    exact this
  have eS : decide ((ES.size : Int) < 29) = false := by rw [hESs]; rfl
  have iS : (29 : Int) ≤ (ES.size : Int) := by omega
  have iN : 29 ≤ ES.size := by omega
  have eSx : ((ES.extract 8 29).toList == [0, 0, 0, 13, 73, 72, 68, 82, 0, 0, 0, 1, 0, 0, 0, 1, 8, 6, 0, 0, 0]) = true := by rw [hESx]; rfl
  have HB0 := Lib.hid ((Below.refl w.heap.size w).alloc (Nat.le_refl _) (.cells #[.string ⟨#[73, 69, 78, 68]⟩, .string ⟨#[]⟩] 53))
  have HM0 : Hid (MRow (w.alloc (.cells #[.string ⟨#[73, 69, 78, 68]⟩, .string ⟨#[]⟩] 53)) (.slice (some ⟨w.heap.size, 0, none⟩) 1 1) [(iendP, [])]) := mrow_one (Blk.new w 53 #[.string ⟨[73, 69, 78, 68].toArray⟩, .string ⟨[].toArray⟩])
  clear hES hESs hESx hESl
  go_enter Tryz.func14, Tryz.ntmps14
  go_wp2_with fail
  refine (HJO.out _ _ HM0.out).mono ?_
  rintro e w1 ⟨rfl, hb1⟩
  have HB1 := Lib.hid (bthen HB0.out hb1)
  clear hb1 HM0 HB0
  go_wp2_with fail
  refine (HC1.out _).mono ?_
  rintro e w2 ⟨⟨v2, rfl, hm2⟩, hb2⟩
  obtain ⟨x2, c2, hv2, -⟩ := _root_.id hm2
  subst hv2
  have hb3 := (Below.refl w2.heap.size w2).alloc (Nat.le_refl _) (.cells #[.string ⟨#[73, 69, 78, 68]⟩, .string ⟨#[]⟩] 53)
  have HM3 := Lib.hid (hm2.below hb3)
  have HM4 : Hid (MRow (w2.alloc (.cells #[.string ⟨#[73, 69, 78, 68]⟩, .string ⟨#[]⟩] 53)) (.slice (some ⟨w2.heap.size, 0, none⟩) 1 1) [(iendP, [])]) := mrow_one (Blk.new w2 53 #[.string ⟨[73, 69, 78, 68].toArray⟩, .string ⟨[].toArray⟩])
  have HB3 := Lib.hid (bthen (bthen HB1.out hb2) hb3)
  clear hb2 hb3 hm2 HB1
  go_wp2_with fail
  refine (sameChunks_any _ _ _ _ HM3.out HM4.out).mono ?_
  rintro e w4 ⟨rfl, hb4⟩
  have HB4 := Lib.hid (bthen HB3.out hb4)
  clear hb4 HB3 HM3 HM4
  go_wp2_with fail
  refine (HC2.out _).mono ?_
  rintro e w5 ⟨rfl, hb⟩
  have HB5 := Lib.hid (bthen HB4.out hb)
  clear hb HB4
  go_wp2_with fail
  refine (HD1.out _).mono ?_
  rintro e w6 ⟨rfl, hb⟩
  have HB6 := Lib.hid (bthen HB5.out hb)
  clear hb HB5
  go_wp2_with fail
  refine (HI1.out _).mono ?_
  rintro e w7 ⟨rfl, hb⟩
  have HB7 := Lib.hid (bthen HB6.out hb)
  clear hb HB6
  go_wp2_with fail
  refine (HI2.out _).mono ?_
  rintro e w8 ⟨rfl, hb⟩
  have HB8 := Lib.hid (bthen HB7.out hb)
  clear hb HB7
  go_wp2_with fail
  refine (HI3.out _).mono ?_
  rintro e w9 ⟨rfl, hb⟩
  have HB9 := Lib.hid (bthen HB8.out hb)
  clear hb HB8
  go_wp2_with fail
  refine (HI4.out _).mono ?_
  rintro e w10 ⟨rfl, hb⟩
  have HB10 := Lib.hid (bthen HB9.out hb)
  clear hb HB9
  go_wp2_with fail
  refine (HUN.out _).mono ?_
  rintro e w11 ⟨rfl, hb⟩
  have HB11 := Lib.hid (bthen HB10.out hb)
  clear hb HB10
  have hp0 := Blk.new w11 41 #[.int .i64 257, .int .i64 514, .int .i64 771, .int .i64 65535]
  have hp1 := hp0.alloc (.cells #[.int .i64 1, .int .i64 1, .slice (some ⟨w11.heap.size, 0, none⟩) 1 1] 36)
  have hi1 := Blk.new_at (w := w11.alloc (.cells #[.int .i64 257, .int .i64 514, .int .i64 771, .int .i64 65535] 41)) (k := w11.heap.size + 1) (by simp) 36 #[.int .i64 1, .int .i64 1, .slice (some ⟨w11.heap.size, 0, none⟩) 1 1]
  have hb := ((Below.refl w11.heap.size w11).alloc (Nat.le_refl _) (.cells #[.int .i64 257, .int .i64 514, .int .i64 771, .int .i64 65535] 41)).alloc (by simp) (.cells #[.int .i64 1, .int .i64 1, .slice (some ⟨w11.heap.size, 0, none⟩) 1 1] 36)
  go_upto_region 16 with fail
  generalize (w11.alloc (.cells #[.int .i64 257, .int .i64 514, .int .i64 771, .int .i64 65535] 41)).alloc (.cells #[.int .i64 1, .int .i64 1, .slice (some ⟨w11.heap.size, 0, none⟩) 1 1] 36) = wz at *
  have HBz := Lib.hid (bthen HB11.out hb)
  have HP : Hid (PRow wz (.slice (some ⟨w11.heap.size, 0, none⟩) 1 1) [(257, 514, 771, 65535)]) := Blk.prow (l := [(257, 514, 771, 65535)]) hp1 1 (Nat.le_refl _) (by decide)
  have HK := Lib.hid hi1
  clear hp0 hp1 hi1 hb HB11
  generalize w11.heap.size + 1 = K at *
  generalize w11.heap.size = Q at *
  have a0 : wz.cell? ⟨K, 0, none⟩ = some (.int .i64 1) := HK.out.cell 0
  have a1 : wz.cell? ⟨K, 1, none⟩ = some (.int .i64 1) := HK.out.cell 1
  have a2 : wz.cell? ⟨K, 2, none⟩ = some (.slice (some ⟨Q, 0, none⟩) 1 1) := HK.out.cell 2
  have hbm := (Below.refl wz.heap.size wz).alloc (Nat.le_refl _) (.cells #[.string ⟨#[107]⟩, .string ⟨#[118]⟩] 65)
  have HPm := Lib.hid (HP.out.below hbm)
  have HM : Hid (MRow (wz.alloc (.cells #[.string ⟨#[107]⟩, .string ⟨#[118]⟩] 65)) (.slice (some ⟨wz.heap.size, 0, none⟩) 1 1) [([107], [118])]) := mrow_one (Blk.new wz 65 #[.string ⟨[107].toArray⟩, .string ⟨[118].toArray⟩])
  have HKm := Lib.hid (HK.out.keep hbm)
  have HBm := Lib.hid (bthen HBz.out hbm)
  clear hbm
  go_wp2_with fail
  refine (HEN.out _ _ _ HPm.out HM.out).mono ?_
  rintro e w12 ⟨rfl, hb⟩
  have HP2 := Lib.hid (HPm.out.below hb)
  have HK2 := Lib.hid (HKm.out.keep hb)
  have HB12 := Lib.hid (bthen HBm.out hb)
  clear hb a0 a1 a2 HPm HM HKm HBm HP HK HBz
  go_wp2_with fail
  refine (HDE.out _).mono ?_
  rintro e w13 ⟨⟨pv, mv, rfl, hpv, hmv⟩, hb⟩
  obtain ⟨xp, cp, hpe, -⟩ := _root_.id hpv
  subst hpe
  obtain ⟨xm, cm, hme, -⟩ := _root_.id hmv
  subst hme
  simp only [List.length_cons, List.length_nil, Nat.zero_add] at *
  have hb13 := (Below.refl w13.heap.size w13).alloc (Nat.le_refl _) (.cells #[.int .i64 1, .int .i64 1, .slice xp 1 cp] 36)
  have HP3 := Lib.hid ((HP2.out.below hb).below hb13)
  have HK3 := Lib.hid ((HK2.out.keep hb).keep hb13)
  have HPV := Lib.hid (hpv.below hb13)
  have HMV := Lib.hid (hmv.below hb13)
  have HKV := Lib.hid (Blk.new w13 36 #[.int .i64 1, .int .i64 1, .slice xp 1 cp])
  have HB13 := Lib.hid (bthen (bthen HB12.out hb) hb13)
  clear hb hb13 hpv hmv HP2 HK2 HB12
  go_upto_region 20 with fail
  generalize w13.alloc (.cells #[.int .i64 1, .int .i64 1, .slice xp 1 cp] 36) = w14 at *
  generalize w13.heap.size = K2 at *
  have a0 : w14.cell? ⟨K, 0, none⟩ = some (.int .i64 1) := HK3.out.cell 0
  have a1 : w14.cell? ⟨K, 1, none⟩ = some (.int .i64 1) := HK3.out.cell 1
  have a2 : w14.cell? ⟨K, 2, none⟩ = some (.slice (some ⟨Q, 0, none⟩) 1 1) := HK3.out.cell 2
  have b0 : w14.cell? ⟨K2, 0, none⟩ = some (.int .i64 1) := HKV.out.cell 0
  have b1 : w14.cell? ⟨K2, 1, none⟩ = some (.int .i64 1) := HKV.out.cell 1
  have b2 : w14.cell? ⟨K2, 2, none⟩ = some (.slice xp 1 cp) := HKV.out.cell 2
  have HSA := Lib.hid (same_any 1 1 (.slice (some ⟨Q, 0, none⟩) 1 1) (.slice xp 1 cp) _ w14 HP3.out HPV.out)
  simp only [imgI] at HSA
  go_wp2_with fail
  refine HSA.out.mono ?_
  rintro e w15 ⟨rfl, hb⟩
  have hbm := (Below.refl w15.heap.size w15).alloc (Nat.le_refl _) (.cells #[.string ⟨#[107]⟩, .string ⟨#[118]⟩] 65)
  have HMV2 := Lib.hid ((HMV.out.below hb).below hbm)
  have HM : Hid (MRow (w15.alloc (.cells #[.string ⟨#[107]⟩, .string ⟨#[118]⟩] 65)) (.slice (some ⟨w15.heap.size, 0, none⟩) 1 1) [([107], [118])]) := mrow_one (Blk.new w15 65 #[.string ⟨[107].toArray⟩, .string ⟨[118].toArray⟩])
  have HB15 := Lib.hid (bthen (bthen HB13.out hb) hbm)
  clear hb hbm a0 a1 a2 b0 b1 b2 HSA
  go_wp2_with fail
  refine (sameMeta_any _ _ _ _ HMV2.out HM.out).mono ?_
  rintro e w16 ⟨rfl, hb⟩
  have HB16 := Lib.hid (bthen HB15.out hb)
  clear hb
  go_wp2_with fail
  go_ret
  exact ⟨rfl, HB16.out⟩
end Go.Proofs.YthbejefodelpkaaGreat
