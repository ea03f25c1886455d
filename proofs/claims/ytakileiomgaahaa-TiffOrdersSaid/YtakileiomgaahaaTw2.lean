/-
  Walks: the chapter's examples, which every law of tiff asks.
-/
import Derived.Test.YtakileiomgaahaaOm
import Derived.Test.YtakileiomgaahaaRas
import Derived.Test.YtakileiomgaahaaTj8
namespace Go.Proofs.Ytakileiomgaahaa
open Go.RowKit

theorem teqMt (a b : ByteArray) (w : World) : (Op.equalIn 10000 67 (.agg #[.string a, .string b]) (.agg #[.string a, .string b])).run Try.prog w = .ok true w := by
  have u3 := Try.underlying9
  have a3 := Try.isAgg9
  have z3 := Try.sizeOf9
  have hS : Try.prog.underlying 67 = some (.struct (Try.prog.fieldsOf 67)) := by kernel_rfl
  rw [show (10000 : Nat) = 9999 + 1 from rfl, run_equalIn_agg w 9999 67 _ _ hS (by kernel_rfl)]
  simp only [Program.fieldsOf, Try.underlying67]
  go_simp

set_option maxHeartbeats 2000000 in
set_option maxRecDepth 100000 in
theorem tsame_any (W H : Int) (v1 v2 : Value) (px : List Px) (w : World) (h1 : PRow w v1 px) (h2 : PRow w v2 px) :
    Calls Try.prog 20 #[.agg (imgI W H v1), .agg (imgI W H v2)] w fun e w' => e = .returned (.bool true) ∧ Below w.heap.size w w' := by
  obtain ⟨x1, c1, rfl, hl1, hc1, -⟩ := id h1
  obtain ⟨x2, c2, rfl, -, hc2, -⟩ := id h2
  have hba := (Below.refl w.heap.size w).alloc (Nat.le_refl _) (.cells (imgI W H (.slice x1 px.length c1)) 34)
  have hbb := hba.alloc (by simp) (.cells (imgI W H (.slice x2 px.length c2)) 34)
  have HB1 := Lib.hid ((Blk.new w 34 (imgI W H (.slice x1 px.length c1))).alloc (.cells (imgI W H (.slice x2 px.length c2)) 34))
  have hb2 : Blk ((w.alloc (.cells (imgI W H (.slice x1 px.length c1)) 34)).alloc (.cells (imgI W H (.slice x2 px.length c2)) 34)) (w.heap.size + 1) 34 (imgI W H (.slice x2 px.length c2)) := Blk.new_at (by simp) _ _
  have HB2 := Lib.hid hb2
  have HP1 := Lib.hid (h1.below hbb)
  have HP2 := Lib.hid (h2.below hbb)
  have HBE := Lib.hid hbb
  unfold maxLen at hc1 hc2
  clear h1 h2 hb2 hba hbb
  simp only [imgI] at HB1 HB2 HP1 HP2 HBE ⊢
  go_enter Try.func20, Try.ntmps20
  go_upto_region 1 with fail
  generalize (w.alloc (.cells #[.int .i64 W, .int .i64 H, .slice x1 px.length c1] 34)).alloc (.cells #[.int .i64 W, .int .i64 H, .slice x2 px.length c2] 34) = wz at *
  generalize hB : w.heap.size = B at *
  have HBB := Lib.hid hB
  clear hB
  have a0 : wz.cell? ⟨B, 0, none⟩ = some (.int .i64 W) := HB1.out.cell 0
  have a1 : wz.cell? ⟨B, 1, none⟩ = some (.int .i64 H) := HB1.out.cell 1
  have a2 : wz.cell? ⟨B, 2, none⟩ = some (.slice x1 px.length c1) := HB1.out.cell 2
  have b0 : wz.cell? ⟨B + 1, 0, none⟩ = some (.int .i64 W) := HB2.out.cell 0
  have b1 : wz.cell? ⟨B + 1, 1, none⟩ = some (.int .i64 H) := HB2.out.cell 1
  have b2 : wz.cell? ⟨B + 1, 2, none⟩ = some (.slice x2 px.length c2) := HB2.out.cell 2
  have eW : (W == W) = true := by simp
  have eH : (H == H) = true := by simp
  go_wp2_with fail
  go_loopw [30] (fun vi wr => ∃ (i n : Nat), vi = .int .i64 i ∧ i ≤ px.length ∧ n = 0 ∧ Hid (Below wz.heap.size wz wr)) (fun vi _ => px.length - (intOf vi).toNat)
  case atStart => exact ⟨0, 0, rfl, Nat.zero_le _, rfl, Below.refl _ _⟩
  case round =>
    obtain ⟨i, n, rfl, hi, -, hbw⟩ := hrel
    have a2 : wr.cell? ⟨B, 2, none⟩ = some (.slice x1 px.length c1) := (hbw.out.cell (p := ⟨B, 2, none⟩) HB1.out.lt).trans (HB1.out.cell 2)
    have b2 : wr.cell? ⟨B + 1, 2, none⟩ = some (.slice x2 px.length c2) := (hbw.out.cell (p := ⟨B + 1, 2, none⟩) HB2.out.lt).trans (HB2.out.cell 2)
    by_cases hlt : i < px.length
    · have dlt : decide ((i : Int) < (px.length : Int)) = true := by simp; omega
      have hne : px ≠ [] := by rintro rfl; simp at hlt
      have hp1 : PRow wr (.slice x1 px.length c1) px := HP1.out.below hbw.out
      have hp2 : PRow wr (.slice x2 px.length c2) px := HP2.out.below hbw.out
      obtain ⟨x, c, hv, -, -, -, hcl⟩ := hp1
      cases hv
      obtain ⟨g1, o1, rfl, hc⟩ := hcl hne
      obtain ⟨q0, q1, q2, q3⟩ := hc i hlt
      clear hcl hc
      obtain ⟨x, c, hv, -, -, -, hcl⟩ := hp2
      cases hv
      obtain ⟨g2, o2, rfl, hc⟩ := hcl hne
      obtain ⟨r0, r1, r2, r3⟩ := hc i hlt
      clear hcl hc
      obtain ⟨p, hp⟩ : ∃ p, px[i] = p := ⟨_, rfl⟩
      rw [hp] at q0 q1 q2 q3 r0 r1 r2 r3
      clear hp
      obtain ⟨p0, p1, p2, p3⟩ := p
      simp only at q0 q1 q2 q3 r0 r1 r2 r3
      have heq : ∀ w, (Op.equalIn 10000 46 (.agg #[.int .i64 p0, .int .i64 p1, .int .i64 p2, .int .i64 p3]) (.agg #[.int .i64 p0, .int .i64 p1, .int .i64 p2, .int .i64 p3])).run Try.prog w = .ok true w := fun w => (eqPx (p0, p1, p2, p3) (p0, p1, p2, p3) w).trans (by simp)
      go_wp2_with fail
      go_quiet (fail)
      have hbn := Lib.hid (below_drewN hbw.out nq)
      clear q0 q1 q2 q3 r0 r1 r2 r3
      go_wp2_with fail
      go_roundw
      case rel => exact ⟨i + 1, 0, by go_num, by omega, rfl, hbn⟩
      case measure => simp [intOf]; omega
    · have dlt : decide ((i : Int) < (px.length : Int)) = false := by simp; omega
      go_wp2_with fail
      go_ret
      exact ⟨rfl, by rw [HBB.out]; exact HBE.out.trans (hbw.out.mono (by have := HB1.out.lt; omega))⟩

set_option maxHeartbeats 2000000 in
set_option maxRecDepth 100000 in
theorem talike_any (v1 v2 : Value) (ms : List Mt) (w : World) (h1 : MRow w v1 ms) (h2 : MRow w v2 ms) :
    Calls Try.prog 21 #[v1, v2] w fun e w' => e = .returned (.bool true) ∧ Below w.heap.size w w' := by
  obtain ⟨x1, c1, rfl, hl1, hc1, -⟩ := id h1
  obtain ⟨x2, c2, rfl, -, hc2, -⟩ := id h2
  have HP1 := Lib.hid h1
  have HP2 := Lib.hid h2
  unfold maxLen at hc1 hc2
  clear h1 h2
  go_enter Try.func21, Try.ntmps21
  go_wp2_with fail
  go_loopw [13] (fun vi wr => ∃ (i n : Nat), vi = .int .i64 i ∧ i ≤ ms.length ∧ n = 0 ∧ Hid (Below w.heap.size w wr)) (fun vi _ => ms.length - (intOf vi).toNat)
  case atStart => exact ⟨0, 0, rfl, Nat.zero_le _, rfl, Below.refl _ _⟩
  case round =>
    obtain ⟨i, n, rfl, hi, -, hbw⟩ := hrel
    by_cases hlt : i < ms.length
    · have dlt : decide ((i : Int) < (ms.length : Int)) = true := by simp; omega
      have hne : ms ≠ [] := by rintro rfl; simp at hlt
      have hp1 : MRow wr (.slice x1 ms.length c1) ms := HP1.out.below hbw.out
      have hp2 : MRow wr (.slice x2 ms.length c2) ms := HP2.out.below hbw.out
      obtain ⟨x, c, hv, -, -, -, hcl⟩ := hp1
      cases hv
      obtain ⟨g1, o1, rfl, hc⟩ := hcl hne
      obtain ⟨q0, q1⟩ := hc i hlt
      clear hcl hc
      obtain ⟨x, c, hv, -, -, -, hcl⟩ := hp2
      cases hv
      obtain ⟨g2, o2, rfl, hc⟩ := hcl hne
      obtain ⟨r0, r1⟩ := hc i hlt
      clear hcl hc
      obtain ⟨p, hp⟩ : ∃ p, ms[i] = p := ⟨_, rfl⟩
      rw [hp] at q0 q1 r0 r1
      clear hp
      obtain ⟨p0, p1⟩ := p
      simp only at q0 q1 r0 r1
      have heq : ∀ w, (Op.equalIn 10000 67 (.agg #[.string ⟨p0.toArray⟩, .string ⟨p1.toArray⟩]) (.agg #[.string ⟨p0.toArray⟩, .string ⟨p1.toArray⟩])).run Try.prog w = .ok true w := fun w => teqMt _ _ w
      go_wp2_with fail
      go_quiet (fail)
      have hbn := Lib.hid (below_drewN hbw.out nq)
      clear q0 q1 r0 r1
      go_wp2_with fail
      go_roundw
      case rel => exact ⟨i + 1, 0, by go_num, by omega, rfl, hbn⟩
      case measure => simp [intOf]; omega
    · have dlt : decide ((i : Int) < (ms.length : Int)) = false := by simp; omega
      go_wp2_with fail
      go_ret
      exact ⟨rfl, hbw.out⟩
end Go.Proofs.Ytakileiomgaahaa
namespace Go.Proofs.Ytakileiomgaahaa
open Go.RowKit

def L8 : List UInt8 := [73, 73, 42, 0, 8, 0, 0, 0, 10, 0, 0, 1, 4, 0, 1, 0, 0, 0, 1, 0, 0, 0, 1, 1, 4, 0, 1, 0, 0, 0, 1, 0, 0, 0, 2, 1, 3, 0, 4, 0, 0, 0, 134, 0, 0, 0, 3, 1, 3, 0, 1, 0, 0, 0, 1, 0, 0, 0, 6, 1, 3, 0, 1, 0, 0, 0, 2, 0, 0, 0, 17, 1, 4, 0, 1, 0, 0, 0, 142, 0, 0, 0, 21, 1, 3, 0, 1, 0, 0, 0, 4, 0, 0, 0, 22, 1, 4, 0, 1, 0, 0, 0, 1, 0, 0, 0, 23, 1, 4, 0, 1, 0, 0, 0, 4, 0, 0, 0, 82, 1, 3, 0, 1, 0, 0, 0, 2, 0, 0, 0, 0, 0, 0, 0, 8, 0, 8, 0, 8, 0, 8, 0, 0, 0, 0, 255]
def L16 : List UInt8 := [73, 73, 42, 0, 8, 0, 0, 0, 11, 0, 0, 1, 4, 0, 1, 0, 0, 0, 1, 0, 0, 0, 1, 1, 4, 0, 1, 0, 0, 0, 1, 0, 0, 0, 2, 1, 3, 0, 4, 0, 0, 0, 146, 0, 0, 0, 3, 1, 3, 0, 1, 0, 0, 0, 5, 128, 0, 0, 6, 1, 3, 0, 1, 0, 0, 0, 2, 0, 0, 0, 14, 1, 2, 0, 5, 0, 0, 0, 154, 0, 0, 0, 17, 1, 4, 0, 1, 0, 0, 0, 159, 0, 0, 0, 21, 1, 3, 0, 1, 0, 0, 0, 4, 0, 0, 0, 22, 1, 4, 0, 1, 0, 0, 0, 1, 0, 0, 0, 23, 1, 4, 0, 1, 0, 0, 0, 9, 0, 0, 0, 82, 1, 3, 0, 1, 0, 0, 0, 2, 0, 0, 0, 0, 0, 0, 0, 16, 0, 16, 0, 16, 0, 16, 0, 107, 32, 118, 10, 0, 7, 1, 0, 2, 0, 3, 0, 255, 255]
theorem ax1 : encT 1 1 [(1, 2, 3, 65535)] 8 false [] = .ok L8 := by kernel_rfl
theorem ax2 : encT 1 1 [(1, 2, 3, 65535)] 16 true [([107], [118])] = .ok L16 := by kernel_rfl
theorem ax3 : decT L16 = .ok (1, 1, [(1, 2, 3, 65535)], [([107], [118])]) := by kernel_rfl
def TG8 : List Tg := [⟨256, 4, [1], []⟩, ⟨257, 4, [1], []⟩, ⟨258, 3, [8, 8, 8, 8], []⟩, ⟨259, 3, [1], []⟩, ⟨262, 3, [2], []⟩, ⟨273, 4, [142], []⟩, ⟨277, 3, [4], []⟩, ⟨278, 4, [1], []⟩, ⟨279, 4, [4], []⟩, ⟨338, 3, [2], []⟩]
theorem ax4 : tagsP L8 = .ok TG8 := by kernel_rfl
theorem ax5 : unpP [255, 97] 2 = .ok [97, 97] := by kernel_rfl
theorem ax6 : unpP [255, 97] 1 = .error 4 := by kernel_rfl
theorem ax7 : unpP [255, 97] 3 = .error 5 := by kernel_rfl
theorem ax8 : unpP [128, 128, 0, 97] 0 = .error 6 := by kernel_rfl
theorem ax9 : decT [] = .error 5 := by kernel_rfl
theorem ax10 : encT 0 0 [] 8 false [] = .error 15 := by kernel_rfl
theorem ax11 : packP [97, 97, 98, 99, 99, 100] = [255, 97, 3, 98, 99, 99, 100] := by kernel_rfl
theorem ax12 : packP [97, 98, 98, 98] = [0, 97, 254, 98] := by kernel_rfl
theorem mrow_one {w : World} {k : Nat} {t : TypeId} (h : Blk w k t #[.string ⟨#[107]⟩, .string ⟨#[118]⟩]) : MRow w (.slice (some ⟨k, 0, none⟩) 1 1) [([107], [118])] := by
  refine ⟨_, 1, rfl, Nat.le_refl _, by decide, (fun h => by cases h), fun _ => ⟨k, 0, rfl, fun i hi => ?_⟩⟩
  have : i = 0 := by simp at hi; omega
  subst this
  exact ⟨h.cell 0, h.cell 1⟩
set_option maxHeartbeats 4000000 in
set_option maxRecDepth 100000 in
theorem awakeT_any (w : World) : Calls Try.prog 14 #[] w fun e w' => e = .returned (.bool true) ∧ Below w.heap.size w w' := by
  obtain ⟨S, hS⟩ : ∃ S : ByteArray, S = ⟨L8.toArray⟩ := ⟨_, rfl⟩
  have hSs : S.size = 146 := by rw [hS]; rfl
  have hSx : (S.extract 142 S.size).toList = [0, 0, 0, 255] := by rw [ByteArray.toList_eq, extract_list, hSs, hS]; kernel_rfl
  have hSl : S.data.toList = L8 := by rw [hS]
  obtain ⟨S2, hS2⟩ : ∃ S : ByteArray, S = ⟨L16.toArray⟩ := ⟨_, rfl⟩
  have hS2s : S2.size = 168 := by rw [hS2]; rfl
  have hS2l : S2.data.toList = L16 := by rw [hS2]
  have H1 : Hid (∀ v w, PRow w v [(1, 2, 3, 65535)] → Calls Try.prog 24 #[.agg #[.int .i64 1, .int .i64 1, v], .int .i64 8, .bool false, .slice none 0 0] w fun e w' => e = .returned (.tuple #[.string S, .int .i64 0]) ∧ Below w.heap.size w w') := fun v w hp => by
    have := tencode_any 1 1 8 false v (.slice none 0 0) [(1, 2, 3, 65535)] [] w hp (mrow_nil w)
    rw [ax1] at this
    rw [hS]
    exact this
  have H2 : Hid (∀ v mv w, PRow w v [(1, 2, 3, 65535)] → MRow w mv [([107], [118])] → Calls Try.prog 24 #[.agg #[.int .i64 1, .int .i64 1, v], .int .i64 16, .bool true, mv] w fun e w' => e = .returned (.tuple #[.string S2, .int .i64 0]) ∧ Below w.heap.size w w') := fun v mv w hp hm => by
    have := tencode_any 1 1 16 true v mv [(1, 2, 3, 65535)] [([107], [118])] w hp hm
    rw [ax2] at this
    rw [hS2]
    exact this
  have H3 : Hid (∀ w, Calls Try.prog 17 #[.string S2] w fun e w' => (∃ pv mv, e = .returned (.tuple #[.agg #[.int .i64 1, .int .i64 1, pv], mv, .int .i64 0]) ∧ PRow w' pv [(1, 2, 3, 65535)] ∧ MRow w' mv [([107], [118])]) ∧ Below w.heap.size w w') := fun w => by
    have := tdecode_any S2 w (by omega)
    rw [hS2l, ax3] at this
    exact this
  have H4 : Hid (∀ w, Calls Try.prog 15 #[.string S] w fun e w' => (∃ v, e = .returned (.tuple #[v, .int .i64 0]) ∧ TRow w' v TG8) ∧ Below w.heap.size w w') := fun w => by
    have := ttags_any S w (by omega)
    rw [hSl, ax4] at this
    exact this
  have H5 : Hid (∀ w, Calls Try.prog 10 #[.string ⟨#[255, 97]⟩, .int .i64 2] w fun e w' => e = .returned (.tuple #[.string ⟨#[97, 97]⟩, .int .i64 0]) ∧ Below w.heap.size w w') := fun w => by
    have := unpack_any ⟨#[255, 97]⟩ 2 w (by decide)
    change Calls _ _ _ _ fun e w' => UnpOk (unpP [255, 97] 2) e ∧ _ at this
    rw [ax5] at this
    exact this
  have H6 : Hid (∀ w, Calls Try.prog 10 #[.string ⟨#[255, 97]⟩, .int .i64 1] w fun e w' => e = .returned (.tuple #[.string ⟨#[]⟩, .int .i64 4]) ∧ Below w.heap.size w w') := fun w => by
    have := unpack_any ⟨#[255, 97]⟩ 1 w (by decide)
    change Calls _ _ _ _ fun e w' => UnpOk (unpP [255, 97] 1) e ∧ _ at this
    rw [ax6] at this
    exact this
  have H7 : Hid (∀ w, Calls Try.prog 10 #[.string ⟨#[255, 97]⟩, .int .i64 3] w fun e w' => e = .returned (.tuple #[.string ⟨#[]⟩, .int .i64 5]) ∧ Below w.heap.size w w') := fun w => by
    have := unpack_any ⟨#[255, 97]⟩ 3 w (by decide)
    change Calls _ _ _ _ fun e w' => UnpOk (unpP [255, 97] 3) e ∧ _ at this
    rw [ax7] at this
    exact this
  have H8 : Hid (∀ w, Calls Try.prog 10 #[.string ⟨#[128, 128, 0, 97]⟩, .int .i64 0] w fun e w' => e = .returned (.tuple #[.string ⟨#[]⟩, .int .i64 6]) ∧ Below w.heap.size w w') := fun w => by
    have := unpack_any ⟨#[128, 128, 0, 97]⟩ 0 w (by decide)
    change Calls _ _ _ _ fun e w' => UnpOk (unpP [128, 128, 0, 97] 0) e ∧ _ at this
    rw [ax8] at this
    exact this
  have H9 : Hid (∀ w, Calls Try.prog 17 #[.string ⟨#[]⟩] w fun e w' => e = .returned (.tuple #[.agg #[.int .i64 0, .int .i64 0, .slice none 0 0], .slice none 0 0, .int .i64 5]) ∧ Below w.heap.size w w') := fun w => by
    have := tdecode_any ⟨#[]⟩ w (by decide)
    change Calls _ _ _ _ fun e w' => DecOkT (decT []) e w' ∧ _ at this
    rw [ax9] at this
    exact this
  have H10 : Hid (∀ w, Calls Try.prog 24 #[.agg #[.int .i64 0, .int .i64 0, .slice none 0 0], .int .i64 8, .bool false, .slice none 0 0] w fun e w' => e = .returned (.tuple #[.string ⟨#[]⟩, .int .i64 15]) ∧ Below w.heap.size w w') := fun w => by
    have := tencode_any 0 0 8 false (.slice none 0 0) (.slice none 0 0) [] [] w ⟨none, 0, rfl, Nat.le_refl _, Nat.zero_le _, fun _ => rfl, fun h => absurd rfl h⟩ (mrow_nil w)
    rw [ax10] at this
    exact this
  have H11 : Hid (∀ w, Calls Try.prog 12 #[.string ⟨#[97, 97, 98, 99, 99, 100]⟩] w fun e w' => e = .returned (.string ⟨#[255, 97, 3, 98, 99, 99, 100]⟩) ∧ Below w.heap.size w w') := fun w => by
    have := packBits_any ⟨#[97, 97, 98, 99, 99, 100]⟩ w (by decide)
    change Calls _ _ _ _ fun e w' => e = .returned (.string ⟨(packP [97, 97, 98, 99, 99, 100]).toArray⟩) ∧ _ at this
    rw [ax11] at this
    exact this
  have H12 : Hid (∀ w, Calls Try.prog 12 #[.string ⟨#[97, 98, 98, 98]⟩] w fun e w' => e = .returned (.string ⟨#[0, 97, 254, 98]⟩) ∧ Below w.heap.size w w') := fun w => by
    have := packBits_any ⟨#[97, 98, 98, 98]⟩ w (by decide)
    change Calls _ _ _ _ fun e w' => e = .returned (.string ⟨(packP [97, 98, 98, 98]).toArray⟩) ∧ _ at this
    rw [ax12] at this
    exact this
  have eS : ((S.size : Int) == 146) = true := by rw [hSs]; rfl
  have eSx : ((S.extract 142 S.size).toList == [0, 0, 0, 255]) = true := by rw [hSx]; rfl
  have iS : (142 : Int) ≤ (S.size : Int) := by omega
  clear hS hSs hSx hSl hS2 hS2s hS2l
  go_enter Try.func14, Try.ntmps14
  have h1 := Blk.new_at (w := w.alloc (.cells #[.int .i64 1, .int .i64 2, .int .i64 3, .int .i64 65535] 46)) (k := w.heap.size + 1) (by simp) 46 #[.int .i64 1, .int .i64 2, .int .i64 3, .int .i64 65535]
  have h1' := h1.alloc (.cells #[.int .i64 1, .int .i64 1, .slice (some ⟨w.heap.size + 1, 0, none⟩) 1 1] 34)
  have h2 := Blk.new_at (w := (w.alloc (.cells #[.int .i64 1, .int .i64 2, .int .i64 3, .int .i64 65535] 46)).alloc (.cells #[.int .i64 1, .int .i64 2, .int .i64 3, .int .i64 65535] 46)) (k := w.heap.size + 1 + 1) (by simp) 34 #[.int .i64 1, .int .i64 1, .slice (some ⟨w.heap.size + 1, 0, none⟩) 1 1]
  have hb := (((Below.refl w.heap.size w).alloc (Nat.le_refl _) (.cells #[.int .i64 1, .int .i64 2, .int .i64 3, .int .i64 65535] 46)).alloc (by simp) (.cells #[.int .i64 1, .int .i64 2, .int .i64 3, .int .i64 65535] 46)).alloc (by simp; omega) (.cells #[.int .i64 1, .int .i64 1, .slice (some ⟨w.heap.size + 1, 0, none⟩) 1 1] 34)
  go_upto_region 3 with fail
  generalize ((w.alloc (.cells #[.int .i64 1, .int .i64 2, .int .i64 3, .int .i64 65535] 46)).alloc (.cells #[.int .i64 1, .int .i64 2, .int .i64 3, .int .i64 65535] 46)).alloc (.cells #[.int .i64 1, .int .i64 1, .slice (some ⟨w.heap.size + 1, 0, none⟩) 1 1] 34) = wz at *
  clear h1
  have HP : Hid (PRow wz (.slice (some ⟨w.heap.size + 1, 0, none⟩) 1 1) [(1, 2, 3, 65535)]) := Blk.prow (l := [(1, 2, 3, 65535)]) h1' 1 (Nat.le_refl _) (by decide)
  have HK := Lib.hid h2
  have HB := Lib.hid hb
  have HBZ : Hid (w.heap.size ≤ wz.heap.size) := hb.size
  clear h1' h2 hb
  generalize w.heap.size + 1 + 1 = K at *
  generalize w.heap.size + 1 = Q at *
  generalize hB : w.heap.size = B at *
  have HBE := Lib.hid hB
  clear hB
  have HST : Hid (∀ wr, Below wz.heap.size wz wr → PRow wr (.slice (some ⟨Q, 0, none⟩) 1 1) [(1, 2, 3, 65535)] ∧ Blk wr K 34 #[.int .i64 1, .int .i64 1, .slice (some ⟨Q, 0, none⟩) 1 1]) := fun wr h => ⟨HP.out.below h, (h.block _ HK.out.lt).trans HK.out⟩
  have HNX : Hid (∀ wr w', Below wz.heap.size wz wr → Below wr.heap.size wr w' → Below wz.heap.size wz w') := fun wr w' h h' => h.trans (h'.mono h.size)
  have HJ0 : Hid (Below wz.heap.size wz wz) := Below.refl _ _
  have a0 : wz.cell? ⟨K, 0, none⟩ = some (.int .i64 1) := (HST.out _ HJ0.out).2.cell 0
  have a1 : wz.cell? ⟨K, 1, none⟩ = some (.int .i64 1) := (HST.out _ HJ0.out).2.cell 1
  have a2 : wz.cell? ⟨K, 2, none⟩ = some (.slice (some ⟨Q, 0, none⟩) 1 1) := (HST.out _ HJ0.out).2.cell 2
  go_wp2_with fail
  refine (H1.out _ _ (HST.out _ HJ0.out).1).mono ?_
  rintro e w1 ⟨rfl, hb1⟩
  have HJ1 := Lib.hid (HNX.out _ _ HJ0.out hb1)
  clear a0 a1 a2 hb1
  have a0 : w1.cell? ⟨K, 0, none⟩ = some (.int .i64 1) := (HST.out _ HJ1.out).2.cell 0
  have a1 : w1.cell? ⟨K, 1, none⟩ = some (.int .i64 1) := (HST.out _ HJ1.out).2.cell 1
  have a2 : w1.cell? ⟨K, 2, none⟩ = some (.slice (some ⟨Q, 0, none⟩) 1 1) := (HST.out _ HJ1.out).2.cell 2
  have HJ2 := Lib.hid (HNX.out _ _ HJ1.out ((Below.refl w1.heap.size w1).alloc (Nat.le_refl _) (.cells #[.string ⟨#[107]⟩, .string ⟨#[118]⟩] 67)))
  have HM2 := Lib.hid (mrow_one (Blk.new w1 67 #[.string ⟨#[107]⟩, .string ⟨#[118]⟩]))
  go_wp2_with fail
  refine (H2.out _ _ _ (HST.out _ HJ2.out).1 HM2.out).mono ?_
  rintro e w2 ⟨rfl, hb2⟩
  have HJ3 := Lib.hid (HNX.out _ _ HJ2.out hb2)
  clear a0 a1 a2 hb2 HM2
  go_wp2_with fail
  refine (H3.out _).mono ?_
  rintro e w3 ⟨⟨pv, mv, rfl, hpv, hmv⟩, hb3⟩
  have HJ4 := Lib.hid (HNX.out _ _ HJ3.out hb3)
  obtain ⟨xp, cp, hpe, -⟩ := _root_.id hpv
  subst hpe
  obtain ⟨xm, cm, hme, -⟩ := _root_.id hmv
  subst hme
  have HPV := Lib.hid hpv
  have HMV := Lib.hid hmv
  clear hb3 hpv hmv
  simp only [List.length_cons, List.length_nil, Nat.zero_add] at *
  have hk4 := Blk.new w3 34 #[.int .i64 1, .int .i64 1, .slice xp 1 cp]
  have hb4 := (Below.refl w3.heap.size w3).alloc (Nat.le_refl _) (.cells #[.int .i64 1, .int .i64 1, .slice xp 1 cp] 34)
  go_upto_region 6 with fail
  have HJ5 := Lib.hid (HNX.out _ _ HJ4.out hb4)
  have HPV4 := Lib.hid (HPV.out.below hb4)
  have HMV4 := Lib.hid (HMV.out.below hb4)
  generalize w3.alloc (.cells #[.int .i64 1, .int .i64 1, .slice xp 1 cp] 34) = w4 at *
  have HK4 := Lib.hid hk4
  clear hk4 hb4 HPV HMV
  generalize w3.heap.size = K4 at *
  go_wp2_with fail
  refine (H4.out _).mono ?_
  rintro e w5 ⟨⟨tv, rfl, htr⟩, hb5⟩
  have hl10 : TG8.length = 10 := rfl
  obtain ⟨xt, ct, hte, -⟩ := _root_.id htr
  rw [hl10] at hte
  subst hte
  have HTR := Lib.hid htr
  have HB5 := Lib.hid hb5
  clear htr hb5 hl10
  go_wp2_with fail
  refine (H5.out _).mono ?_
  rintro e w6 ⟨rfl, hb6⟩
  have HB6 := Lib.hid hb6
  clear hb6
  go_wp2_with fail
  refine (H6.out _).mono ?_
  rintro e w7 ⟨rfl, hb7⟩
  have HB7 := Lib.hid (bthen HB6.out hb7)
  clear hb7
  go_wp2_with fail
  refine (H7.out _).mono ?_
  rintro e w8 ⟨rfl, hb8⟩
  have HB8 := Lib.hid (bthen HB7.out hb8)
  clear hb8
  go_wp2_with fail
  refine (H8.out _).mono ?_
  rintro e w9 ⟨rfl, hb9⟩
  have HB9 := Lib.hid (bthen HB8.out hb9)
  clear hb9
  go_wp2_with fail
  refine (H9.out _).mono ?_
  rintro e w10 ⟨rfl, hb10⟩
  have HB10 := Lib.hid (bthen HB9.out hb10)
  have HB11 := Lib.hid (bthen HB10.out ((Below.refl w10.heap.size w10).alloc (Nat.le_refl _) (.cells #[.int .i64 0, .int .i64 0, .slice none 0 0] 34)))
  clear hb10
  go_upto_region 12 with fail
  generalize w10.alloc (.cells #[.int .i64 0, .int .i64 0, .slice none 0 0] 34) = w11 at *
  go_wp2_with fail
  refine (H10.out _).mono ?_
  rintro e w12 ⟨rfl, hb12⟩
  have HB12 := Lib.hid (bthen HB11.out hb12)
  clear hb12
  go_wp2_with fail
  refine (H11.out _).mono ?_
  rintro e w13 ⟨rfl, hb13⟩
  have HB13 := Lib.hid (bthen HB12.out hb13)
  clear hb13
  go_wp2_with fail
  refine (H12.out _).mono ?_
  rintro e w14 ⟨rfl, hb14⟩
  have HB14 := Lib.hid (bthen HB13.out hb14)
  clear hb14
  have HQ : Hid (Below w4.heap.size w4 w14) := bthen HB5.out HB14.out
  have HJ14 := Lib.hid (HNX.out _ _ HJ5.out HQ.out)
  have a0 : w14.cell? ⟨K, 0, none⟩ = some (.int .i64 1) := (HST.out _ HJ14.out).2.cell 0
  have a1 : w14.cell? ⟨K, 1, none⟩ = some (.int .i64 1) := (HST.out _ HJ14.out).2.cell 1
  have a2 : w14.cell? ⟨K, 2, none⟩ = some (.slice (some ⟨Q, 0, none⟩) 1 1) := (HST.out _ HJ14.out).2.cell 2
  have b0 : w14.cell? ⟨K4, 0, none⟩ = some (.int .i64 1) := (HQ.out.cell (p := ⟨K4, 0, none⟩) HK4.out.lt).trans (HK4.out.cell 0)
  have b1 : w14.cell? ⟨K4, 1, none⟩ = some (.int .i64 1) := (HQ.out.cell (p := ⟨K4, 1, none⟩) HK4.out.lt).trans (HK4.out.cell 1)
  have b2 : w14.cell? ⟨K4, 2, none⟩ = some (.slice xp 1 cp) := (HQ.out.cell (p := ⟨K4, 2, none⟩) HK4.out.lt).trans (HK4.out.cell 2)
  have HSA : Hid (Calls Try.prog 20 #[.agg #[.int .i64 1, .int .i64 1, .slice xp 1 cp], .agg #[.int .i64 1, .int .i64 1, .slice (some ⟨Q, 0, none⟩) 1 1]] w14 fun e w' => e = .returned (.bool true) ∧ Below w14.heap.size w14 w') := tsame_any 1 1 (.slice xp 1 cp) (.slice (some ⟨Q, 0, none⟩) 1 1) [(1, 2, 3, 65535)] w14 (HPV4.out.below HQ.out) (HST.out _ HJ14.out).1
  go_wp2_with fail
  refine HSA.out.mono ?_
  rintro e w15 ⟨rfl, hb15⟩
  have HB15 := Lib.hid (bthen HB14.out hb15)
  have HQ15 := Lib.hid (bthen HQ.out hb15)
  have HJ15 := Lib.hid (HNX.out _ _ HJ14.out hb15)
  clear a0 a1 a2 b0 b1 b2 hb15
  have hm15 := HMV4.out.below HQ15.out
  obtain ⟨x', c', hv, -, -, -, hcl⟩ := hm15
  cases hv
  obtain ⟨bm, om, hxm, hcm⟩ := hcl (by simp)
  subst hxm
  obtain ⟨m0, m1⟩ := hcm 0 (by simp)
  have ht15 := HTR.out.below HB15.out
  obtain ⟨x', c', hv, -, -, hcl⟩ := ht15
  cases hv
  obtain ⟨bt, ot, hxt, hct⟩ := hcl (by unfold TG8; simp)
  subst hxt
  have t0 : w15.cell? ⟨bt, ot, none⟩ = some (.int .i64 256) := (hct 0 (by decide)).1
  have m0' : w15.cell? ⟨bm, om, none⟩ = some (.string ⟨#[107]⟩) := m0
  have m1' : w15.cell? ⟨bm, om + 1, none⟩ = some (.string ⟨#[118]⟩) := m1
  have heq : ∀ w, (Op.equalIn 10000 67 (.agg #[.string ⟨#[107]⟩, .string ⟨#[118]⟩]) (.agg #[.string ⟨#[107]⟩, .string ⟨#[118]⟩])).run Try.prog w = .ok true w := fun w => teqMt _ _ w
  have HBF : Hid (Below B w w15) := HB.out.trans (HJ15.out.mono HBZ.out)
  clear hcm hct m0 m1 hcl
  go_wp2_with fail
  go_ret
  exact ⟨rfl, by rw [HBE.out]; exact HBF.out⟩
end Go.Proofs.Ytakileiomgaahaa
