/-
  The law: the points of the polygons lie between the points of the path. (Regions 3 and 11 by wip/gen_qa3.py.)
-/
import Derived.Test.YtgjbelcnkmcbiaaDoorQa2
import Derived.Test.YtgjbelcnkmcbiaaDoorQw
import Derived.Lib.MinMax
import Derived.Test.YtgjbelcnkmcbiaaDoorHs
namespace Go.Proofs.YtgjbelcnkmcbiaaDoor
open Go.RowKit

def mnP (a b : Pt) : Pt := (min a.1 b.1, min a.2 b.2)
def mxP (a b : Pt) : Pt := (max a.1 b.1, max a.2 b.2)
theorem inB_more {lo hi p : Pt} (q : Pt) (h : inB lo hi p) : inB (mnP lo q) (mxP hi q) p := by
  unfold inB mnP mxP at *
  simp only
  omega
theorem inB_self (lo hi q : Pt) : inB (mnP lo q) (mxP hi q) q := by
  unfold inB mnP mxP
  simp only
  omega
/-- The two boxes of the law. -/
structure HB (w0 W : World) (A B : Nat) (lo hi : Pt) : Prop where
  a : Blk W A 32 #[.int .i64 lo.1, .int .i64 lo.2]
  b : Blk W B 32 #[.int .i64 hi.1, .int .i64 hi.2]
  na : w0.heap.size ≤ A
  nb : w0.heap.size ≤ B
  d : A ≠ B
  w : Below w0.heap.size w0 W
theorem HB.below {w0 W W' : World} {A B : Nat} {lo hi : Pt} (h : HB w0 W A B lo hi) (hb : Below W.heap.size W W') : HB w0 W' A B lo hi :=
  ⟨(hb.block _ h.a.lt).trans h.a, (hb.block _ h.b.lt).trans h.b, h.na, h.nb, h.d, h.w.trans (hb.mono h.w.size)⟩
theorem HB.put {w0 W : World} {A B : Nat} {lo hi : Pt} (h : HB w0 W A B lo hi) (x y u v : Int) :
    HB w0 ((((W.setCell ⟨A, 0, none⟩ (.int .i64 x)).setCell ⟨A, 1, none⟩ (.int .i64 y)).setCell ⟨B, 0, none⟩ (.int .i64 u)).setCell ⟨B, 1, none⟩ (.int .i64 v)) A B (x, y) (u, v) := by
  refine ⟨?_, ?_, h.na, h.nb, h.d, (((h.w.setCell h.na _).setCell h.na _).setCell h.nb _).setCell h.nb _⟩
  · exact ((((h.a.put 0 _).put 1 _).other (p := ⟨B, 0, none⟩) h.d _).other (p := ⟨B, 1, none⟩) h.d _)
  · exact ((((h.b.other (p := ⟨A, 0, none⟩) (Ne.symm h.d) _).other (p := ⟨A, 1, none⟩) (Ne.symm h.d) _).put 0 _).put 1 _)

set_option maxRecDepth 100000 in
set_option maxHeartbeats 4000000 in
theorem lawHulls (v : Value) (W : World) (hd : Ldd W) (ho : ∃ l, SRow W v l) : Calls Tryd.prog 4 #[v] W fun e W' => e = .returned (.bool true) ∧ Below W.heap.size W W' := by
  obtain ⟨l, hr⟩ := ho
  have HCK := Lib.hid (rcheck_any v l W hr)
  have HSR := Lib.hid hr
  have HE := Lib.hid (fun w1 (hb : Below W.heap.size W w1) => example_any w1 (hd.below hb))
  have HFL := Lib.hid (fun w1 (hb : Below W.heap.size W w1) => flatten_any v l w1 (hr.below hb))
  have HEN := Lib.hid (fun w1 (hb : Below W.heap.size W w1) => ends_any v l w1 (hr.below hb))
  obtain ⟨x, c, rfl, hc1, hc2, -⟩ := hr
  unfold maxLen at hc2
  clear hd
  by_cases h0 : chkP l = 0
  · by_cases hne : l.length = 0
    · have hlz : ((l.length : Int) == 0) = true := beq_iff_eq.2 (by omega)
      rw [h0] at HCK
      clear h0 hne HE HFL HEN HSR hc1
      go_enter Tryd.func4, Tryd.ntmps4
      go_wp2_with fail
      refine HCK.out.mono ?_
      rintro e w1 ⟨rfl, hb1⟩
      have HB1 := Lib.hid hb1
      clear hb1 HCK
      go_wp2_with fail
      go_ret
      exact ⟨rfl, HB1.out⟩
    · obtain ⟨b0, off, rfl, hcl, -⟩ := HSR.out.at 0 (by omega)
      have hlz : ((l.length : Int) == 0) = false := beq_eq_false_iff_ne.2 (by omega)
      have hlp : 0 < l.length := by omega
      have hlp2 : (0 : Int) < (l.length : Int) := by omega
      have hq := hcl 0 (by omega)
      obtain ⟨p0x, p0y, hp0⟩ : ∃ a b, l[0].2.1 = (a, b) := ⟨_, _, rfl⟩
      have HYY : Hid (∀ W', Below W.heap.size W W' → W'.cell? ⟨b0, off + 1, none⟩ = some (.int .i64 p0x) ∧ W'.cell? ⟨b0, off + 2, none⟩ = some (.int .i64 p0y)) := by
        intro W' hb
        obtain ⟨-, a2, a3, -⟩ := hq
        rw [hp0] at a2 a3
        have e0 : off + 0 * 7 = off := by omega
        rw [e0] at a2 a3
        exact ⟨(hb.cell (p := ⟨b0, _, none⟩) (World.block_lt_of_cell? W _ a2)).trans a2, (hb.cell (p := ⟨b0, _, none⟩) (World.block_lt_of_cell? W _ a3)).trans a3⟩
      have HFO : Hid (∀ e w', FlOk l e w' = ∃ g, e = .returned (.tuple #[g, .int .i64 0]) ∧ GRow w' g (flP l)) := by
        intro e w'; unfold FlOk; rw [if_pos h0]
      have HU := Lib.hid (fun lo hi h => hull h0 (lo := lo) (hi := hi) h)
      have hok := Lib.hid (chkP_ok h0).2
      have hln := (chkP_ok h0).1
      have HEN := Lib.hid (fun w1 hb => HEN.out w1 hb h0)
      rw [h0] at HCK
      clear h0 hcl hq hp0 hne
      go_enter Tryd.func4, Tryd.ntmps4
      go_wp2_with fail
      refine HCK.out.mono ?_
      rintro e w1 ⟨rfl, hb1⟩
      have HB1 := Lib.hid hb1
      clear hb1 HCK
      go_upto_region 3 with fail
      go_cut [3, 4] from 24 (fun v3 v4 wx => ∃ A B : Nat, v3 = .pointer (some ⟨A, 0, none⟩) ∧ v4 = .pointer (some ⟨B, 0, none⟩) ∧ Hid (HB W wx A B (p0x, p0y) (p0x, p0y)))
      case first =>
        have hb0 : Below W.heap.size W w1.drew := HB1.out.drew
        have hS := HYY.out _ hb0
        --HELD3
        refine wp_region_held_drew (S := fun _ => True) (by kernel_rfl) trivial (fun hHeld => ?_)
        clear hHeld
        generalize w1.drew = wd at *
        refine wpAnyH_weaken (S2 := fun W => W.cell? ⟨b0, off + 1, none⟩ = some (.int .i64 p0x) ∧ W.cell? ⟨b0, off + 2, none⟩ = some (.int .i64 p0y)) (fun _ _ => trivial) ?_
        refine wpAnyH_take (i := 0) (oi := ⟨some 24, Op.move (Operand.tmp 0), 22, _, _, none⟩) (v := ?va1) rfl (by kernel_rfl) (by kernel_rfl) (by kernel_rfl) (fun _ _ _ h => h) (Or.inl ⟨by rfl, ?ya1⟩) hS ?ra1
        case ya1 => (intro w hSw; (try dsimp only at hSw); go_simp; try with_reducible rfl)
        try simp only [Act.put, List.setIfInBounds_toArray, List.set_cons_zero, List.set_cons_succ]
        refine wpAnyH_take (i := 1) (oi := ⟨some 25, Op.indexAddr 22 (Operand.tmp 24) (Operand.const (Value.int IntKind.i64 0)), 0, _, _, none⟩) (v := ?va2) rfl (by kernel_rfl) (by kernel_rfl) (by kernel_rfl) (fun _ _ _ h => h) (Or.inl ⟨by rfl, ?ya2⟩) hS ?ra2
        case ya2 => (intro w hSw; (try dsimp only at hSw); go_simp; try with_reducible rfl)
        try simp only [Act.put, List.setIfInBounds_toArray, List.set_cons_zero, List.set_cons_succ]
        refine wpAnyH_take (i := 2) (oi := ⟨some 26, Op.fieldAddr 35 (Operand.tmp 25) 1, 0, _, _, none⟩) (v := ?va3) rfl (by kernel_rfl) (by kernel_rfl) (by kernel_rfl) (fun _ _ _ h => h) (Or.inl ⟨by rfl, ?ya3⟩) hS ?ra3
        case ya3 => (intro w hSw; (try dsimp only at hSw); go_simp; try with_reducible rfl)
        try simp only [Act.put, List.setIfInBounds_toArray, List.set_cons_zero, List.set_cons_succ]
        refine wpAnyH_take (i := 3) (oi := ⟨some 27, Op.indexAddr 33 (Operand.tmp 26) (Operand.const (Value.int IntKind.i64 0)), 0, _, _, none⟩) (v := ?va4) rfl (by kernel_rfl) (by kernel_rfl) (by kernel_rfl) (fun _ _ _ h => h) (Or.inl ⟨by rfl, ?ya4⟩) hS ?ra4
        case ya4 => (intro w hSw; (try dsimp only at hSw); go_simp; try with_reducible rfl)
        try simp only [Act.put, List.setIfInBounds_toArray, List.set_cons_zero, List.set_cons_succ]
        refine wpAnyH_take (i := 4) (oi := ⟨some 28, Op.load 32 (Operand.tmp 27), 32, _, _, none⟩) (v := ?va5) rfl (by kernel_rfl) (by kernel_rfl) (by kernel_rfl) (fun _ _ _ h => h) (Or.inl ⟨by rfl, ?ya5⟩) hS ?ra5
        case ya5 => (intro w hSw; (try dsimp only at hSw); go_simp; try with_reducible rfl)
        try simp only [Act.put, List.setIfInBounds_toArray, List.set_cons_zero, List.set_cons_succ]
        refine wpAnyH_take (i := 5) (oi := ⟨some 29, Op.move (Operand.tmp 0), 22, _, _, none⟩) (v := ?va6) rfl (by kernel_rfl) (by kernel_rfl) (by kernel_rfl) (fun _ _ _ h => h) (Or.inl ⟨by rfl, ?ya6⟩) hS ?ra6
        case ya6 => (intro w hSw; (try dsimp only at hSw); go_simp; try with_reducible rfl)
        try simp only [Act.put, List.setIfInBounds_toArray, List.set_cons_zero, List.set_cons_succ]
        refine wpAnyH_take (i := 6) (oi := ⟨some 30, Op.indexAddr 22 (Operand.tmp 29) (Operand.const (Value.int IntKind.i64 0)), 0, _, _, none⟩) (v := ?va7) rfl (by kernel_rfl) (by kernel_rfl) (by kernel_rfl) (fun _ _ _ h => h) (Or.inl ⟨by rfl, ?ya7⟩) hS ?ra7
        case ya7 => (intro w hSw; (try dsimp only at hSw); go_simp; try with_reducible rfl)
        try simp only [Act.put, List.setIfInBounds_toArray, List.set_cons_zero, List.set_cons_succ]
        refine wpAnyH_take (i := 7) (oi := ⟨some 31, Op.fieldAddr 35 (Operand.tmp 30) 1, 0, _, _, none⟩) (v := ?va8) rfl (by kernel_rfl) (by kernel_rfl) (by kernel_rfl) (fun _ _ _ h => h) (Or.inl ⟨by rfl, ?ya8⟩) hS ?ra8
        case ya8 => (intro w hSw; (try dsimp only at hSw); go_simp; try with_reducible rfl)
        try simp only [Act.put, List.setIfInBounds_toArray, List.set_cons_zero, List.set_cons_succ]
        refine wpAnyH_take (i := 8) (oi := ⟨some 32, Op.indexAddr 33 (Operand.tmp 31) (Operand.const (Value.int IntKind.i64 0)), 0, _, _, none⟩) (v := ?va9) rfl (by kernel_rfl) (by kernel_rfl) (by kernel_rfl) (fun _ _ _ h => h) (Or.inl ⟨by rfl, ?ya9⟩) hS ?ra9
        case ya9 => (intro w hSw; (try dsimp only at hSw); go_simp; try with_reducible rfl)
        try simp only [Act.put, List.setIfInBounds_toArray, List.set_cons_zero, List.set_cons_succ]
        refine wpAnyH_take (i := 9) (oi := ⟨some 33, Op.load 32 (Operand.tmp 32), 32, _, _, none⟩) (v := ?va10) rfl (by kernel_rfl) (by kernel_rfl) (by kernel_rfl) (fun _ _ _ h => h) (Or.inl ⟨by rfl, ?ya10⟩) hS ?ra10
        case ya10 => (intro w hSw; (try dsimp only at hSw); go_simp; try with_reducible rfl)
        try simp only [Act.put, List.setIfInBounds_toArray, List.set_cons_zero, List.set_cons_succ]
        refine wpAnyH_ready (rs := [10, 11]) (by kernel_rfl) (by simp) ?ra11
        refine AllReadyH.cons (o := ⟨some 3, Op.alloc 32, 0, _, _, none⟩) rfl (fun K hK => ?saa11) (AllReadyH.cons (o := ⟨some 4, Op.alloc 32, 0, _, _, none⟩) rfl (fun K hK => ?sba11) AllReadyH.nil)
        case saa11 =>
          go_simp
          have hb1 := hb0.alloc hb0.size (.cells #[.int .i64 0, .int .i64 0] 32)
          refine hK.out _ _ ?ka11 (fun hHeld => ?_)
          case ka11 => exact HYY.out _ hb1
          clear hS
          have hS := hHeld
          clear hHeld
          clear hK K
          try simp only [Act.put, List.setIfInBounds_toArray, List.set_cons_zero, List.set_cons_succ]
          refine wpAnyH_ready (rs := [11]) (by kernel_rfl) (by simp) ?ra12
          refine AllReadyH.cons (o := ⟨some 4, Op.alloc 32, 0, _, _, none⟩) rfl (fun K hK => ?sa12) AllReadyH.nil
          go_simp
          have hb2 := hb1.alloc hb1.size (.cells #[.int .i64 0, .int .i64 0] 32)
          refine hK.out _ _ ?ka12 (fun hHeld => ?_)
          case ka12 => exact HYY.out _ hb2
          clear hS
          have hS := hHeld
          clear hHeld
          clear hK K
          try simp only [Act.put, List.setIfInBounds_toArray, List.set_cons_zero, List.set_cons_succ]
          have hA : Blk ((wd.alloc (.cells #[.int .i64 0, .int .i64 0] 32)).alloc (.cells #[.int .i64 0, .int .i64 0] 32)) wd.heap.size 32 #[.int .i64 0, .int .i64 0] := (Blk.new wd _ _).alloc _
          have hB : Blk ((wd.alloc (.cells #[.int .i64 0, .int .i64 0] 32)).alloc (.cells #[.int .i64 0, .int .i64 0] 32)) (wd.heap.size + 1) 32 #[.int .i64 0, .int .i64 0] := Blk.new_at (by simp) _ _
          have hH : HB W ((wd.alloc (.cells #[.int .i64 0, .int .i64 0] 32)).alloc (.cells #[.int .i64 0, .int .i64 0] 32)) wd.heap.size (wd.heap.size + 1) (0, 0) (0, 0) := ⟨hA, hB, (by have := hb0.size; omega), (by have := hb0.size; omega), (by omega), hb2⟩
          generalize (wd.alloc (.cells #[.int .i64 0, .int .i64 0] 32)).alloc (.cells #[.int .i64 0, .int .i64 0] 32) = wz at *
          generalize (wd.heap.size + 1) = B at *
          generalize wd.heap.size = A at *
          have hZ := hH.put p0x p0y p0x p0y
          have hdd := hH.d
          have hde := Ne.symm hH.d
          have m0 : wz.cell? ⟨A, 0, none⟩ = some (.int .i64 0) := hA.cell 0
          have f0 : wz.frozen? ⟨A, 0, none⟩ = false := hA.frozen 0
          have m1 : wz.cell? ⟨A, 1, none⟩ = some (.int .i64 0) := hA.cell 1
          have f1 : wz.frozen? ⟨A, 1, none⟩ = false := hA.frozen 1
          have m2 : wz.cell? ⟨B, 0, none⟩ = some (.int .i64 0) := hB.cell 0
          have f2 : wz.frozen? ⟨B, 0, none⟩ = false := hB.frozen 0
          have m3 : wz.cell? ⟨B, 1, none⟩ = some (.int .i64 0) := hB.cell 1
          have f3 : wz.frozen? ⟨B, 1, none⟩ = false := hB.frozen 1
          refine wpAnyH_ready (rs := [12]) (by kernel_rfl) (by simp) ?ra13
          refine AllReadyH.cons (o := ⟨none, Op.store 32 (Operand.tmp 3) (Operand.tmp 28), 0, _, _, none⟩) rfl (fun K hK => ?sa13) AllReadyH.nil
          go_simp
          refine hK.out _ _ ?ka13 (fun hHeld => ?_)
          case ka13 => exact HYY.out _ ((hH.w.setCell (p := ⟨A, 0, none⟩) hH.na _).setCell (p := ⟨A, 1, none⟩) hH.na _)
          clear hS
          have hS := hHeld
          clear hHeld
          clear hK K
          try simp only [Act.put, List.setIfInBounds_toArray, List.set_cons_zero, List.set_cons_succ]
          refine wpAnyH_ready (rs := [13]) (by kernel_rfl) (by simp) ?ra14
          refine AllReadyH.cons (o := ⟨none, Op.store 32 (Operand.tmp 4) (Operand.tmp 33), 0, _, _, none⟩) rfl (fun K hK => ?sa14) AllReadyH.nil
          go_simp
          refine hK.out _ _ ?ka14 (fun hHeld => ?_)
          case ka14 => exact HYY.out _ hZ.w
          clear hS
          have hS := hHeld
          clear hHeld
          clear hK K
          try simp only [Act.put, List.setIfInBounds_toArray, List.set_cons_zero, List.set_cons_succ]
          refine wpAnyH_done (by kernel_rfl) ?_ _
          have HZ := Lib.hid hZ
          clear hS hA hB hH hZ m0 m1 m2 m3 f0 f1 f2 f3 hdd hde
          go_wp2_with fail
          go_meet
          case rel => exact ⟨A, B, rfl, rfl, HZ⟩
        case sba11 =>
          go_simp
          have hb1 := hb0.alloc hb0.size (.cells #[.int .i64 0, .int .i64 0] 32)
          refine hK.out _ _ ?ka11 (fun hHeld => ?_)
          case ka11 => exact HYY.out _ hb1
          clear hS
          have hS := hHeld
          clear hHeld
          clear hK K
          try simp only [Act.put, List.setIfInBounds_toArray, List.set_cons_zero, List.set_cons_succ]
          refine wpAnyH_ready (rs := [10]) (by kernel_rfl) (by simp) ?ra15
          refine AllReadyH.cons (o := ⟨some 3, Op.alloc 32, 0, _, _, none⟩) rfl (fun K hK => ?sa15) AllReadyH.nil
          go_simp
          have hb2 := hb1.alloc hb1.size (.cells #[.int .i64 0, .int .i64 0] 32)
          refine hK.out _ _ ?ka15 (fun hHeld => ?_)
          case ka15 => exact HYY.out _ hb2
          clear hS
          have hS := hHeld
          clear hHeld
          clear hK K
          try simp only [Act.put, List.setIfInBounds_toArray, List.set_cons_zero, List.set_cons_succ]
          have hA : Blk ((wd.alloc (.cells #[.int .i64 0, .int .i64 0] 32)).alloc (.cells #[.int .i64 0, .int .i64 0] 32)) (wd.heap.size + 1) 32 #[.int .i64 0, .int .i64 0] := Blk.new_at (by simp) _ _
          have hB : Blk ((wd.alloc (.cells #[.int .i64 0, .int .i64 0] 32)).alloc (.cells #[.int .i64 0, .int .i64 0] 32)) wd.heap.size 32 #[.int .i64 0, .int .i64 0] := (Blk.new wd _ _).alloc _
          have hH : HB W ((wd.alloc (.cells #[.int .i64 0, .int .i64 0] 32)).alloc (.cells #[.int .i64 0, .int .i64 0] 32)) (wd.heap.size + 1) wd.heap.size (0, 0) (0, 0) := ⟨hA, hB, (by have := hb0.size; omega), (by have := hb0.size; omega), (by omega), hb2⟩
          generalize (wd.alloc (.cells #[.int .i64 0, .int .i64 0] 32)).alloc (.cells #[.int .i64 0, .int .i64 0] 32) = wz at *
          generalize (wd.heap.size + 1) = A at *
          generalize wd.heap.size = B at *
          have hZ := hH.put p0x p0y p0x p0y
          have hdd := hH.d
          have hde := Ne.symm hH.d
          have m0 : wz.cell? ⟨A, 0, none⟩ = some (.int .i64 0) := hA.cell 0
          have f0 : wz.frozen? ⟨A, 0, none⟩ = false := hA.frozen 0
          have m1 : wz.cell? ⟨A, 1, none⟩ = some (.int .i64 0) := hA.cell 1
          have f1 : wz.frozen? ⟨A, 1, none⟩ = false := hA.frozen 1
          have m2 : wz.cell? ⟨B, 0, none⟩ = some (.int .i64 0) := hB.cell 0
          have f2 : wz.frozen? ⟨B, 0, none⟩ = false := hB.frozen 0
          have m3 : wz.cell? ⟨B, 1, none⟩ = some (.int .i64 0) := hB.cell 1
          have f3 : wz.frozen? ⟨B, 1, none⟩ = false := hB.frozen 1
          refine wpAnyH_ready (rs := [12]) (by kernel_rfl) (by simp) ?ra16
          refine AllReadyH.cons (o := ⟨none, Op.store 32 (Operand.tmp 3) (Operand.tmp 28), 0, _, _, none⟩) rfl (fun K hK => ?sa16) AllReadyH.nil
          go_simp
          refine hK.out _ _ ?ka16 (fun hHeld => ?_)
          case ka16 => exact HYY.out _ ((hH.w.setCell (p := ⟨A, 0, none⟩) hH.na _).setCell (p := ⟨A, 1, none⟩) hH.na _)
          clear hS
          have hS := hHeld
          clear hHeld
          clear hK K
          try simp only [Act.put, List.setIfInBounds_toArray, List.set_cons_zero, List.set_cons_succ]
          refine wpAnyH_ready (rs := [13]) (by kernel_rfl) (by simp) ?ra17
          refine AllReadyH.cons (o := ⟨none, Op.store 32 (Operand.tmp 4) (Operand.tmp 33), 0, _, _, none⟩) rfl (fun K hK => ?sa17) AllReadyH.nil
          go_simp
          refine hK.out _ _ ?ka17 (fun hHeld => ?_)
          case ka17 => exact HYY.out _ hZ.w
          clear hS
          have hS := hHeld
          clear hHeld
          clear hK K
          try simp only [Act.put, List.setIfInBounds_toArray, List.set_cons_zero, List.set_cons_succ]
          refine wpAnyH_done (by kernel_rfl) ?_ _
          have HZ := Lib.hid hZ
          clear hS hA hB hH hZ m0 m1 m2 m3 f0 f1 f2 f3 hdd hde
          go_wp2_with fail
          go_meet
          case rel => exact ⟨A, B, rfl, rfl, HZ⟩
        --DLEH3
      case rest =>
        obtain ⟨A, B, rfl, rfl, hH0⟩ := hcut
        go_wp2_with fail
        go_loopw [5] (fun vi wr => ∃ (i : Nat) (lo hi : Pt), vi = .int .i64 i ∧ i ≤ l.length ∧ Hid (∀ s ∈ l.take i, ∀ k, k < usedP s.1 → inB lo hi (s.pt k)) ∧ Hid (HB W wr A B lo hi)) (fun vi _ => l.length - (intOf vi).toNat)
        case atStart => exact ⟨0, (p0x, p0y), (p0x, p0y), rfl, Nat.zero_le _, by intro s hs; simp at hs, hH0.out⟩
        case round =>
          obtain ⟨i, lo, hi, rfl, hi', hall, hH⟩ := hrel
          by_cases hlt : i < l.length
          · have hd : decide ((i : Int) < (l.length : Int)) = true := by simp; omega
            have HCL : Hid (∀ W', Below W.heap.size W W' → SCell W' b0 off i l[i]) := by
              intro W' hb
              obtain ⟨b', off', hv, hcl, -⟩ := (HSR.out.below hb).at i hlt
              obtain ⟨rfl, rfl⟩ : b0 = b' ∧ off = off' := by injection hv with hv; injection hv with h1 h2; exact ⟨h1, h2⟩
              exact hcl i hlt
            have hso := hok.out i hlt
            have HTK : Hid (l.take (i + 1) = l.take i ++ [l[i]]) := by show _ = _; rw [List.take_succ_eq_append_getElem hlt]
            obtain ⟨s, hm⟩ : ∃ s : Sg, l[i] = s := ⟨_, rfl⟩
            rw [hm] at HCL hso HTK
            have HUS := Lib.hid (fun w => rused_any s.1 w)
            rw [rusP_ok s.1 hso.lo hso.hi] at HUS
            have hu3 := usedP_le s.1
            obtain ⟨k, hk⟩ : ∃ k, s.1 = k := ⟨_, rfl⟩
            obtain ⟨u, hu⟩ : ∃ u, usedP s.1 = u := ⟨_, rfl⟩
            rw [hu] at HUS hu3
            rw [hk] at HUS
            have HUU := Lib.hid hu
            have HKC : Hid (∀ W', Below W.heap.size W W' → W'.cell? ⟨b0, off + i * 7, none⟩ = some (.int .i64 k)) := fun W' hb => by rw [← hk]; exact (HCL.out W' hb).1
            have HPC : Hid (∀ W', Below W.heap.size W W' → ∀ j, j < 3 → W'.cell? ⟨b0, off + i * 7 + 1 + j * 2, none⟩ = some (.int .i64 (s.pt j).1) ∧ W'.cell? ⟨b0, off + i * 7 + 1 + j * 2 + 1, none⟩ = some (.int .i64 (s.pt j).2)) := by
              intro W' hb j hj
              obtain ⟨b1, b2, b3, b4, b5, b6, b7⟩ := HCL.out W' hb
              rcases (by omega : j = 0 ∨ j = 1 ∨ j = 2) with rfl | rfl | rfl
              · exact ⟨b2, b3⟩
              · exact ⟨b4, b5⟩
              · exact ⟨b6, b7⟩
            clear hm hso hu hk
            go_wp2_with fail
            go_loopw [6] (fun vk wj => ∃ (j : Nat) (lo hi : Pt), vk = .int .i64 j ∧ j ≤ u ∧ Hid (∀ s ∈ l.take i, ∀ k, k < usedP s.1 → inB lo hi (s.pt k)) ∧ Hid (∀ j', j' < j → inB lo hi (s.pt j')) ∧ Hid (HB W wj A B lo hi)) (fun vk _ => u - (intOf vk).toNat)
            case atStart => exact ⟨0, lo, hi, rfl, Nat.zero_le _, hall.out, by intro j' h; omega, hH.out⟩
            case round =>
              obtain ⟨j, lo, hi, rfl, hj, hall, hin, hH⟩ := hrel
              have q1 := HKC.out wr hH.out.w
              by_cases hlj : j < u
              · have hdj : decide ((j : Int) < (u : Int)) = true := by simp; omega
                obtain ⟨z0, z1⟩ := HPC.out wr hH.out.w j (by omega)
                obtain ⟨px, py, hp⟩ : ∃ px py, s.pt j = (px, py) := ⟨_, _, rfl⟩
                have HIN : Hid (∀ j', j' < j + 1 → inB (mnP lo (px, py)) (mxP hi (px, py)) (s.pt j')) := by
                  intro j' h'
                  by_cases h2 : j' < j
                  · exact inB_more _ (hin.out j' h2)
                  · obtain rfl : j' = j := by omega
                    rw [hp]; exact inB_self _ _ _
                have HAL : Hid (∀ s ∈ l.take i, ∀ k, k < usedP s.1 → inB (mnP lo (px, py)) (mxP hi (px, py)) (s.pt k)) := fun s' hs' k' hk' => inB_more _ (hall.out s' hs' k' hk')
                rw [hp] at z0 z1
                simp only at z0 z1
                have HBP := Blk.new wr 32 #[.int .i64 px, .int .i64 py]
                have HHP : Hid (HB W (wr.alloc (.cells #[.int .i64 px, .int .i64 py] 32)) A B lo hi) := hH.out.below ((Below.refl _ _).alloc (Nat.le_refl _) _)
                have hAK : A < wr.heap.size := hH.out.a.lt
                have hBK : B < wr.heap.size := hH.out.b.lt
                have hj3 : (j : Int) < 3 := by omega
                clear hin hall hH hp
                obtain ⟨lx, ly⟩ := lo
                obtain ⟨hx, hy⟩ := hi
                go_wp2_with fail
                refine (HUS.out _).mono ?_
                rintro e w2 ⟨rfl, rfl⟩
                go_upto_region 11 with fail
                clear z0 z1 q1
                generalize wr.alloc (.cells #[.int .i64 px, .int .i64 py] 32) = wk at *
                generalize wr.heap.size = kp at *
                have hHD : HB W wk.drew A B (lx, ly) (hx, hy) := HHP.out.below (Below.refl _ _).drew
                have hKD : Blk wk.drew kp 32 #[.int .i64 px, .int .i64 py] := HBP.drew
                have n1 : A ≠ B := HHP.out.d
                have n2 : A ≠ kp := Nat.ne_of_lt hAK
                have n3 : B ≠ kp := Nat.ne_of_lt hBK
                have n1' : B ≠ A := Ne.symm n1
                have n2' : kp ≠ A := Ne.symm n2
                have n3' : kp ≠ B := Ne.symm n3
                clear HHP HBP hAK hBK
                refine wp_region_G (S2 22 23 (fun W => W.cell? ⟨A, 0, none⟩ = some (.int .i64 lx) ∧ W.cell? ⟨A, 1, none⟩ = some (.int .i64 ly)) (fun W => W.cell? ⟨B, 0, none⟩ = some (.int .i64 hx) ∧ W.cell? ⟨B, 1, none⟩ = some (.int .i64 hy)) (fun W => W.cell? ⟨kp, 0, none⟩ = some (.int .i64 px) ∧ W.cell? ⟨kp, 1, none⟩ = some (.int .i64 py))) (by kernel_rfl) ?_
                generalize wk.drew = wd at *
                have HFI := Lib.hid (hHD.put (min lx px) (min ly py) (max hx px) (max hy py))
                have hB2 := (hHD.b.other (p := ⟨A, 0, none⟩) n1' (.int .i64 (min lx px))).other (p := ⟨A, 1, none⟩) n1' (.int .i64 (min ly py))
                have hK2 := (hKD.other (p := ⟨A, 0, none⟩) n2' (.int .i64 (min lx px))).other (p := ⟨A, 1, none⟩) n2' (.int .i64 (min ly py))
                have hK3 := (hK2.other (p := ⟨B, 0, none⟩) n3' (.int .i64 (max hx px))).other (p := ⟨B, 1, none⟩) n3' (.int .i64 (max hy py))
                have fa0 : wd.frozen? ⟨A, 0, none⟩ = false := hHD.a.frozen 0
                have fa1 : wd.frozen? ⟨A, 1, none⟩ = false := hHD.a.frozen 1
                have a0 : wd.cell? ⟨A, 0, none⟩ = some (.int .i64 lx) := hHD.a.cell 0
                have a1 : wd.cell? ⟨A, 1, none⟩ = some (.int .i64 ly) := hHD.a.cell 1
                have b0' : wd.cell? ⟨B, 0, none⟩ = some (.int .i64 hx) := hHD.b.cell 0
                have b1' : wd.cell? ⟨B, 1, none⟩ = some (.int .i64 hy) := hHD.b.cell 1
                have k0 : wd.cell? ⟨kp, 0, none⟩ = some (.int .i64 px) := hKD.cell 0
                have k1 : wd.cell? ⟨kp, 1, none⟩ = some (.int .i64 py) := hKD.cell 1
                have fb0 : wd.frozen? ⟨B, 0, none⟩ = false := hHD.b.frozen 0
                have fb1 : wd.frozen? ⟨B, 1, none⟩ = false := hHD.b.frozen 1
                have HB2 : Hid (∀ i, ((wd.setCell ⟨A, 0, none⟩ (.int .i64 (min lx px))).setCell ⟨A, 1, none⟩ (.int .i64 (min ly py))).cell? ⟨B, i, none⟩ = #[Value.int .i64 hx, .int .i64 hy][i]?) := fun i => hB2.cell i
                have HK2 : Hid (∀ i, ((wd.setCell ⟨A, 0, none⟩ (.int .i64 (min lx px))).setCell ⟨A, 1, none⟩ (.int .i64 (min ly py))).cell? ⟨kp, i, none⟩ = #[Value.int .i64 px, .int .i64 py][i]?) := fun i => hK2.cell i
                have HK3 : Hid (∀ i, ((((wd.setCell ⟨A, 0, none⟩ (.int .i64 (min lx px))).setCell ⟨A, 1, none⟩ (.int .i64 (min ly py))).setCell ⟨B, 0, none⟩ (.int .i64 (max hx px))).setCell ⟨B, 1, none⟩ (.int .i64 (max hy py))).cell? ⟨kp, i, none⟩ = #[Value.int .i64 px, .int .i64 py][i]?) := fun i => hK3.cell i
                clear hHD hKD hB2 hK2 hK3
                --HELD11
                refine wpAnyG_take (i := 0) 22 (oi := ⟨some 57, Op.fieldAddr 32 (Operand.tmp 3) 0, 0, _, _, none⟩) (v := ?vb1) (fun _ => True) rfl (by kernel_rfl) (by kernel_rfl) (by kernel_rfl) (by kernel_rfl) (fun _ _ _ _ => trivial) (S2.set (by decide) (by decide)) (by kernel_rfl) (fun _ _ _ h => h) (Or.inl ⟨by rfl, ?yb1⟩) ⟨fun _ => ⟨a0, a1⟩, fun _ => ⟨b0', b1'⟩, k0, k1⟩ ?rb1
                case yb1 => (intro w hSw; (try dsimp only at hSw); go_simp; try with_reducible rfl)
                try simp only [Act.put, List.setIfInBounds_toArray, List.set_cons_zero, List.set_cons_succ]
                refine wpAnyG_take (i := 1) 22 (oi := ⟨some 58, Op.load 3 (Operand.tmp 57), 3, _, _, none⟩) (v := ?vb2) (fun W => W.cell? ⟨A, 0, none⟩ = some (.int .i64 lx) ∧ W.cell? ⟨A, 1, none⟩ = some (.int .i64 ly)) rfl (by kernel_rfl) (by kernel_rfl) (by kernel_rfl) (by kernel_rfl) (fun _ _ hl h => h.1 hl) (S2.set (by decide) (by decide)) (by kernel_rfl) (fun _ _ _ h => h) (Or.inl ⟨by rfl, ?yb2⟩) ⟨fun _ => ⟨a0, a1⟩, fun _ => ⟨b0', b1'⟩, k0, k1⟩ ?rb2
                case yb2 => (intro w hSw; (try dsimp only at hSw); go_simp; try with_reducible rfl)
                try simp only [Act.put, List.setIfInBounds_toArray, List.set_cons_zero, List.set_cons_succ]
                refine wpAnyG_take (i := 2) 22 (oi := ⟨some 59, Op.fieldAddr 32 (Operand.tmp 7) 0, 0, _, _, none⟩) (v := ?vb3) (fun _ => True) rfl (by kernel_rfl) (by kernel_rfl) (by kernel_rfl) (by kernel_rfl) (fun _ _ _ _ => trivial) (S2.set (by decide) (by decide)) (by kernel_rfl) (fun _ _ _ h => h) (Or.inl ⟨by rfl, ?yb3⟩) ⟨fun _ => ⟨a0, a1⟩, fun _ => ⟨b0', b1'⟩, k0, k1⟩ ?rb3
                case yb3 => (intro w hSw; (try dsimp only at hSw); go_simp; try with_reducible rfl)
                try simp only [Act.put, List.setIfInBounds_toArray, List.set_cons_zero, List.set_cons_succ]
                refine wpAnyG_take (i := 3) 22 (oi := ⟨some 60, Op.load 3 (Operand.tmp 59), 3, _, _, none⟩) (v := ?vb4) (fun W => W.cell? ⟨kp, 0, none⟩ = some (.int .i64 px) ∧ W.cell? ⟨kp, 1, none⟩ = some (.int .i64 py)) rfl (by kernel_rfl) (by kernel_rfl) (by kernel_rfl) (by kernel_rfl) (fun _ _ _ h => h.2.2) (S2.set (by decide) (by decide)) (by kernel_rfl) (fun _ _ _ h => h) (Or.inl ⟨by rfl, ?yb4⟩) ⟨fun _ => ⟨a0, a1⟩, fun _ => ⟨b0', b1'⟩, k0, k1⟩ ?rb4
                case yb4 => (intro w hSw; (try dsimp only at hSw); go_simp; try with_reducible rfl)
                try simp only [Act.put, List.setIfInBounds_toArray, List.set_cons_zero, List.set_cons_succ]
                refine wpAnyG_take (i := 4) 22 (oi := ⟨some 61, Op.call { callee := Callee.builtin Builtin.min, args := #[Operand.tmp 58, Operand.tmp 60], argTypes := #[3, 3] }, 3, _, _, none⟩) (v := ?vb5) (fun _ => True) rfl (by kernel_rfl) (by kernel_rfl) (by kernel_rfl) (by kernel_rfl) (fun _ _ _ _ => trivial) (S2.set (by decide) (by decide)) (by kernel_rfl) (fun _ _ _ h => h) (Or.inl ⟨by rfl, ?yb5⟩) ⟨fun _ => ⟨a0, a1⟩, fun _ => ⟨b0', b1'⟩, k0, k1⟩ ?rb5
                case yb5 => (intro w hSw; (try dsimp only at hSw); go_simp; try with_reducible rfl)
                try simp only [Act.put, List.setIfInBounds_toArray, List.set_cons_zero, List.set_cons_succ]
                refine wpAnyG_take (i := 5) 22 (oi := ⟨some 62, Op.fieldAddr 32 (Operand.tmp 3) 1, 0, _, _, none⟩) (v := ?vb6) (fun _ => True) rfl (by kernel_rfl) (by kernel_rfl) (by kernel_rfl) (by kernel_rfl) (fun _ _ _ _ => trivial) (S2.set (by decide) (by decide)) (by kernel_rfl) (fun _ _ _ h => h) (Or.inl ⟨by rfl, ?yb6⟩) ⟨fun _ => ⟨a0, a1⟩, fun _ => ⟨b0', b1'⟩, k0, k1⟩ ?rb6
                case yb6 => (intro w hSw; (try dsimp only at hSw); go_simp; try with_reducible rfl)
                try simp only [Act.put, List.setIfInBounds_toArray, List.set_cons_zero, List.set_cons_succ]
                refine wpAnyG_take (i := 6) 22 (oi := ⟨some 63, Op.load 3 (Operand.tmp 62), 3, _, _, none⟩) (v := ?vb7) (fun W => W.cell? ⟨A, 0, none⟩ = some (.int .i64 lx) ∧ W.cell? ⟨A, 1, none⟩ = some (.int .i64 ly)) rfl (by kernel_rfl) (by kernel_rfl) (by kernel_rfl) (by kernel_rfl) (fun _ _ hl h => h.1 hl) (S2.set (by decide) (by decide)) (by kernel_rfl) (fun _ _ _ h => h) (Or.inl ⟨by rfl, ?yb7⟩) ⟨fun _ => ⟨a0, a1⟩, fun _ => ⟨b0', b1'⟩, k0, k1⟩ ?rb7
                case yb7 => (intro w hSw; (try dsimp only at hSw); go_simp; try with_reducible rfl)
                try simp only [Act.put, List.setIfInBounds_toArray, List.set_cons_zero, List.set_cons_succ]
                refine wpAnyG_take (i := 7) 22 (oi := ⟨some 64, Op.fieldAddr 32 (Operand.tmp 7) 1, 0, _, _, none⟩) (v := ?vb8) (fun _ => True) rfl (by kernel_rfl) (by kernel_rfl) (by kernel_rfl) (by kernel_rfl) (fun _ _ _ _ => trivial) (S2.set (by decide) (by decide)) (by kernel_rfl) (fun _ _ _ h => h) (Or.inl ⟨by rfl, ?yb8⟩) ⟨fun _ => ⟨a0, a1⟩, fun _ => ⟨b0', b1'⟩, k0, k1⟩ ?rb8
                case yb8 => (intro w hSw; (try dsimp only at hSw); go_simp; try with_reducible rfl)
                try simp only [Act.put, List.setIfInBounds_toArray, List.set_cons_zero, List.set_cons_succ]
                refine wpAnyG_take (i := 8) 22 (oi := ⟨some 65, Op.load 3 (Operand.tmp 64), 3, _, _, none⟩) (v := ?vb9) (fun W => W.cell? ⟨kp, 0, none⟩ = some (.int .i64 px) ∧ W.cell? ⟨kp, 1, none⟩ = some (.int .i64 py)) rfl (by kernel_rfl) (by kernel_rfl) (by kernel_rfl) (by kernel_rfl) (fun _ _ _ h => h.2.2) (S2.set (by decide) (by decide)) (by kernel_rfl) (fun _ _ _ h => h) (Or.inl ⟨by rfl, ?yb9⟩) ⟨fun _ => ⟨a0, a1⟩, fun _ => ⟨b0', b1'⟩, k0, k1⟩ ?rb9
                case yb9 => (intro w hSw; (try dsimp only at hSw); go_simp; try with_reducible rfl)
                try simp only [Act.put, List.setIfInBounds_toArray, List.set_cons_zero, List.set_cons_succ]
                refine wpAnyG_take (i := 9) 22 (oi := ⟨some 66, Op.call { callee := Callee.builtin Builtin.min, args := #[Operand.tmp 63, Operand.tmp 65], argTypes := #[3, 3] }, 3, _, _, none⟩) (v := ?vb10) (fun _ => True) rfl (by kernel_rfl) (by kernel_rfl) (by kernel_rfl) (by kernel_rfl) (fun _ _ _ _ => trivial) (S2.set (by decide) (by decide)) (by kernel_rfl) (fun _ _ _ h => h) (Or.inl ⟨by rfl, ?yb10⟩) ⟨fun _ => ⟨a0, a1⟩, fun _ => ⟨b0', b1'⟩, k0, k1⟩ ?rb10
                case yb10 => (intro w hSw; (try dsimp only at hSw); go_simp; try with_reducible rfl)
                try simp only [Act.put, List.setIfInBounds_toArray, List.set_cons_zero, List.set_cons_succ]
                refine wpAnyG_take (i := 10) 22 (oi := ⟨some 67, Op.build 32 #[(0, Operand.tmp 61), (1, Operand.tmp 66)], 32, _, _, none⟩) (v := ?vb11) (fun _ => True) rfl (by kernel_rfl) (by kernel_rfl) (by kernel_rfl) (by kernel_rfl) (fun _ _ _ _ => trivial) (S2.set (by decide) (by decide)) (by kernel_rfl) (fun _ _ _ h => h) (Or.inl ⟨by rfl, ?yb11⟩) ⟨fun _ => ⟨a0, a1⟩, fun _ => ⟨b0', b1'⟩, k0, k1⟩ ?rb11
                case yb11 => (intro w hSw; (try dsimp only at hSw); go_simp; try with_reducible rfl)
                try simp only [Act.put, List.setIfInBounds_toArray, List.set_cons_zero, List.set_cons_succ]
                refine wpAnyG_take (i := 11) 23 (oi := ⟨some 68, Op.fieldAddr 32 (Operand.tmp 4) 0, 0, _, _, none⟩) (v := ?vb12) (fun _ => True) rfl (by kernel_rfl) (by kernel_rfl) (by kernel_rfl) (by kernel_rfl) (fun _ _ _ _ => trivial) (S2.set (by decide) (by decide)) (by kernel_rfl) (fun _ _ _ h => h) (Or.inl ⟨by rfl, ?yb12⟩) ⟨fun _ => ⟨a0, a1⟩, fun _ => ⟨b0', b1'⟩, k0, k1⟩ ?rb12
                case yb12 => (intro w hSw; (try dsimp only at hSw); go_simp; try with_reducible rfl)
                try simp only [Act.put, List.setIfInBounds_toArray, List.set_cons_zero, List.set_cons_succ]
                refine wpAnyG_take (i := 12) 23 (oi := ⟨some 69, Op.load 3 (Operand.tmp 68), 3, _, _, none⟩) (v := ?vb13) (fun W => W.cell? ⟨B, 0, none⟩ = some (.int .i64 hx) ∧ W.cell? ⟨B, 1, none⟩ = some (.int .i64 hy)) rfl (by kernel_rfl) (by kernel_rfl) (by kernel_rfl) (by kernel_rfl) (fun _ _ hl h => h.2.1 hl) (S2.set (by decide) (by decide)) (by kernel_rfl) (fun _ _ _ h => h) (Or.inl ⟨by rfl, ?yb13⟩) ⟨fun _ => ⟨a0, a1⟩, fun _ => ⟨b0', b1'⟩, k0, k1⟩ ?rb13
                case yb13 => (intro w hSw; (try dsimp only at hSw); go_simp; try with_reducible rfl)
                try simp only [Act.put, List.setIfInBounds_toArray, List.set_cons_zero, List.set_cons_succ]
                refine wpAnyG_take (i := 13) 23 (oi := ⟨some 70, Op.fieldAddr 32 (Operand.tmp 7) 0, 0, _, _, none⟩) (v := ?vb14) (fun _ => True) rfl (by kernel_rfl) (by kernel_rfl) (by kernel_rfl) (by kernel_rfl) (fun _ _ _ _ => trivial) (S2.set (by decide) (by decide)) (by kernel_rfl) (fun _ _ _ h => h) (Or.inl ⟨by rfl, ?yb14⟩) ⟨fun _ => ⟨a0, a1⟩, fun _ => ⟨b0', b1'⟩, k0, k1⟩ ?rb14
                case yb14 => (intro w hSw; (try dsimp only at hSw); go_simp; try with_reducible rfl)
                try simp only [Act.put, List.setIfInBounds_toArray, List.set_cons_zero, List.set_cons_succ]
                refine wpAnyG_take (i := 14) 23 (oi := ⟨some 71, Op.load 3 (Operand.tmp 70), 3, _, _, none⟩) (v := ?vb15) (fun W => W.cell? ⟨kp, 0, none⟩ = some (.int .i64 px) ∧ W.cell? ⟨kp, 1, none⟩ = some (.int .i64 py)) rfl (by kernel_rfl) (by kernel_rfl) (by kernel_rfl) (by kernel_rfl) (fun _ _ _ h => h.2.2) (S2.set (by decide) (by decide)) (by kernel_rfl) (fun _ _ _ h => h) (Or.inl ⟨by rfl, ?yb15⟩) ⟨fun _ => ⟨a0, a1⟩, fun _ => ⟨b0', b1'⟩, k0, k1⟩ ?rb15
                case yb15 => (intro w hSw; (try dsimp only at hSw); go_simp; try with_reducible rfl)
                try simp only [Act.put, List.setIfInBounds_toArray, List.set_cons_zero, List.set_cons_succ]
                refine wpAnyG_take (i := 15) 23 (oi := ⟨some 72, Op.call { callee := Callee.builtin Builtin.max, args := #[Operand.tmp 69, Operand.tmp 71], argTypes := #[3, 3] }, 3, _, _, none⟩) (v := ?vb16) (fun _ => True) rfl (by kernel_rfl) (by kernel_rfl) (by kernel_rfl) (by kernel_rfl) (fun _ _ _ _ => trivial) (S2.set (by decide) (by decide)) (by kernel_rfl) (fun _ _ _ h => h) (Or.inl ⟨by rfl, ?yb16⟩) ⟨fun _ => ⟨a0, a1⟩, fun _ => ⟨b0', b1'⟩, k0, k1⟩ ?rb16
                case yb16 => (intro w hSw; (try dsimp only at hSw); go_simp; try with_reducible rfl)
                try simp only [Act.put, List.setIfInBounds_toArray, List.set_cons_zero, List.set_cons_succ]
                refine wpAnyG_take (i := 16) 23 (oi := ⟨some 73, Op.fieldAddr 32 (Operand.tmp 4) 1, 0, _, _, none⟩) (v := ?vb17) (fun _ => True) rfl (by kernel_rfl) (by kernel_rfl) (by kernel_rfl) (by kernel_rfl) (fun _ _ _ _ => trivial) (S2.set (by decide) (by decide)) (by kernel_rfl) (fun _ _ _ h => h) (Or.inl ⟨by rfl, ?yb17⟩) ⟨fun _ => ⟨a0, a1⟩, fun _ => ⟨b0', b1'⟩, k0, k1⟩ ?rb17
                case yb17 => (intro w hSw; (try dsimp only at hSw); go_simp; try with_reducible rfl)
                try simp only [Act.put, List.setIfInBounds_toArray, List.set_cons_zero, List.set_cons_succ]
                refine wpAnyG_take (i := 17) 23 (oi := ⟨some 74, Op.load 3 (Operand.tmp 73), 3, _, _, none⟩) (v := ?vb18) (fun W => W.cell? ⟨B, 0, none⟩ = some (.int .i64 hx) ∧ W.cell? ⟨B, 1, none⟩ = some (.int .i64 hy)) rfl (by kernel_rfl) (by kernel_rfl) (by kernel_rfl) (by kernel_rfl) (fun _ _ hl h => h.2.1 hl) (S2.set (by decide) (by decide)) (by kernel_rfl) (fun _ _ _ h => h) (Or.inl ⟨by rfl, ?yb18⟩) ⟨fun _ => ⟨a0, a1⟩, fun _ => ⟨b0', b1'⟩, k0, k1⟩ ?rb18
                case yb18 => (intro w hSw; (try dsimp only at hSw); go_simp; try with_reducible rfl)
                try simp only [Act.put, List.setIfInBounds_toArray, List.set_cons_zero, List.set_cons_succ]
                refine wpAnyG_take (i := 18) 23 (oi := ⟨some 75, Op.fieldAddr 32 (Operand.tmp 7) 1, 0, _, _, none⟩) (v := ?vb19) (fun _ => True) rfl (by kernel_rfl) (by kernel_rfl) (by kernel_rfl) (by kernel_rfl) (fun _ _ _ _ => trivial) (S2.set (by decide) (by decide)) (by kernel_rfl) (fun _ _ _ h => h) (Or.inl ⟨by rfl, ?yb19⟩) ⟨fun _ => ⟨a0, a1⟩, fun _ => ⟨b0', b1'⟩, k0, k1⟩ ?rb19
                case yb19 => (intro w hSw; (try dsimp only at hSw); go_simp; try with_reducible rfl)
                try simp only [Act.put, List.setIfInBounds_toArray, List.set_cons_zero, List.set_cons_succ]
                refine wpAnyG_take (i := 19) 23 (oi := ⟨some 76, Op.load 3 (Operand.tmp 75), 3, _, _, none⟩) (v := ?vb20) (fun W => W.cell? ⟨kp, 0, none⟩ = some (.int .i64 px) ∧ W.cell? ⟨kp, 1, none⟩ = some (.int .i64 py)) rfl (by kernel_rfl) (by kernel_rfl) (by kernel_rfl) (by kernel_rfl) (fun _ _ _ h => h.2.2) (S2.set (by decide) (by decide)) (by kernel_rfl) (fun _ _ _ h => h) (Or.inl ⟨by rfl, ?yb20⟩) ⟨fun _ => ⟨a0, a1⟩, fun _ => ⟨b0', b1'⟩, k0, k1⟩ ?rb20
                case yb20 => (intro w hSw; (try dsimp only at hSw); go_simp; try with_reducible rfl)
                try simp only [Act.put, List.setIfInBounds_toArray, List.set_cons_zero, List.set_cons_succ]
                refine wpAnyG_take (i := 20) 23 (oi := ⟨some 77, Op.call { callee := Callee.builtin Builtin.max, args := #[Operand.tmp 74, Operand.tmp 76], argTypes := #[3, 3] }, 3, _, _, none⟩) (v := ?vb21) (fun _ => True) rfl (by kernel_rfl) (by kernel_rfl) (by kernel_rfl) (by kernel_rfl) (fun _ _ _ _ => trivial) (S2.set (by decide) (by decide)) (by kernel_rfl) (fun _ _ _ h => h) (Or.inl ⟨by rfl, ?yb21⟩) ⟨fun _ => ⟨a0, a1⟩, fun _ => ⟨b0', b1'⟩, k0, k1⟩ ?rb21
                case yb21 => (intro w hSw; (try dsimp only at hSw); go_simp; try with_reducible rfl)
                try simp only [Act.put, List.setIfInBounds_toArray, List.set_cons_zero, List.set_cons_succ]
                refine wpAnyG_take (i := 21) 23 (oi := ⟨some 78, Op.build 32 #[(0, Operand.tmp 72), (1, Operand.tmp 77)], 32, _, _, none⟩) (v := ?vb22) (fun _ => True) rfl (by kernel_rfl) (by kernel_rfl) (by kernel_rfl) (by kernel_rfl) (fun _ _ _ _ => trivial) (S2.set (by decide) (by decide)) (by kernel_rfl) (fun _ _ _ h => h) (Or.inl ⟨by rfl, ?yb22⟩) ⟨fun _ => ⟨a0, a1⟩, fun _ => ⟨b0', b1'⟩, k0, k1⟩ ?rb22
                case yb22 => (intro w hSw; (try dsimp only at hSw); go_simp; try with_reducible rfl)
                try simp only [Act.put, List.setIfInBounds_toArray, List.set_cons_zero, List.set_cons_succ]
                refine wpAnyG_one (i := 22) (o := ⟨none, Op.store 32 (Operand.tmp 3) (Operand.tmp 67), 0, _, _, none⟩) (by kernel_rfl) rfl (fun K hK => ?s22)
                go_simp
                refine hK.out _ _ ⟨fun h => absurd h (by decide), fun _ => ⟨HB2.out 0, HB2.out 1⟩, HK2.out 0, HK2.out 1⟩ ?_
                clear hK K
                try simp only [Act.put, List.setIfInBounds_toArray, List.set_cons_zero, List.set_cons_succ]
                refine wpAnyG_one (i := 23) (o := ⟨none, Op.store 32 (Operand.tmp 4) (Operand.tmp 78), 0, _, _, none⟩) (by kernel_rfl) rfl (fun K hK => ?s23)
                go_simp
                refine hK.out _ _ ⟨fun h => absurd h (by decide), fun h => absurd h (by decide), HK3.out 0, HK3.out 1⟩ ?_
                clear hK K
                try simp only [Act.put, List.setIfInBounds_toArray, List.set_cons_zero, List.set_cons_succ]
                refine wpAnyG_done (by kernel_rfl) ?_ _
                --DLEH11
                clear a0 a1 b0' b1' k0 k1 fa0 fa1 fb0 fb1 HB2 HK2 HK3
                go_wp2_with fail
                go_roundw
                case rel => exact ⟨j + 1, _, _, by go_num, by omega, HAL, HIN, HFI⟩
                case measure => simp [intOf]; omega
              · have hdj : decide ((j : Int) < (u : Int)) = false := by simp; omega
                have hju : j = u := by omega
                have HAL : Hid (∀ s ∈ l.take (i + 1), ∀ k, k < usedP s.1 → inB lo hi (s.pt k)) := by
                  intro s' hs' k' hk'
                  rw [HTK.out] at hs'
                  rcases List.mem_append.1 hs' with h | h
                  · exact hall.out s' h k' hk'
                  · obtain rfl : s' = s := by simpa using h
                    exact hin.out k' (by rw [hju, ← HUU.out]; exact hk')
                clear hin hall hju
                go_wp2_with fail
                refine (HUS.out _).mono ?_
                rintro e w2 ⟨rfl, rfl⟩
                go_wp2_with fail
                go_roundw
                case rel => exact ⟨i + 1, lo, hi, by go_num, by omega, HAL, hH⟩
                case measure => simp [intOf]; omega
          · have hd : decide ((i : Int) < (l.length : Int)) = false := by simp; omega
            have HAL : Hid (∀ q ∈ flP l, GP lo hi q) := HU.out lo hi (by have h := hall.out; rw [List.take_of_length_le (by omega)] at h; exact h)
            clear hall hok HU
            have HP := Lib.hid (HFL.out wr hH.out.w)
            go_wp2_with fail
            refine HP.out.mono ?_
            rintro e w2 ⟨hf, hb2⟩
            rw [HFO.out] at hf
            obtain ⟨g2, rfl, hg2⟩ := hf
            have HH2 := Lib.hid (hH.out.below hb2)
            have HEN := Lib.hid (HEN.out w2 HH2.out.w)
            have HG2 := Lib.hid hg2
            obtain ⟨P, hP⟩ : ∃ P, flP l = P := ⟨_, rfl⟩
            rw [hP] at HG2 HEN HAL
            rw [hP] at hg2
            obtain ⟨x2, c2, rfl, hpl1, hpl2, -⟩ := hg2
            unfold maxLen at hpl2
            clear hb2 HP HFL HFO hH hH0 hP
            go_wp2_with fail
            refine HEN.out.mono ?_
            rintro e w3 ⟨⟨g3, g4, rfl, hg3, hg4⟩, hb3⟩
            have HH3 := Lib.hid (HH2.out.below hb3)
            have HG3 := Lib.hid (HG2.out.below hb3)
            have HQ3 := Lib.hid hg3
            have HQ4 := Lib.hid hg4
            obtain ⟨x3, c3, rfl, -⟩ := hg3
            obtain ⟨x4, c4, rfl, -⟩ := hg4
            rw [List.length_map] at *
            clear hb3 HEN HH2 HG2
            have HEQ : Hid (∀ a b w, (Op.equalIn 10000 32 (.agg #[.int .i64 a, .int .i64 b]) (.agg #[.int .i64 a, .int .i64 b])).run Tryd.prog w = .ok true w) := fun a b w => (eqPt a b a b w).trans (by simp)
            obtain ⟨lx, ly⟩ := lo
            obtain ⟨hx, hy⟩ := hi
            go_wp2_with fail
            go_loopw [12] (fun vi wr => ∃ i : Nat, vi = .int .i64 i ∧ i ≤ P.length ∧ Hid (Below w3.heap.size w3 wr)) (fun vi _ => P.length - (intOf vi).toNat)
            case atStart => exact ⟨0, rfl, Nat.zero_le _, Below.refl _ _⟩
            case round =>
              obtain ⟨i, rfl, hi, hbw⟩ := hrel
              by_cases hlt : i < P.length
              · have hd : decide ((i : Int) < (P.length : Int)) = true := by simp; omega
                have hpne : P ≠ [] := by rintro rfl; simp at hlt
                have HGQ := Lib.hid (HAL.out P[i] (List.getElem_mem hlt))
                have h1 := HG3.out.below hbw.out
                have h2 := HQ3.out.below hbw.out
                have h3 := HQ4.out.below hbw.out
                obtain ⟨x, c, hv, -, -, -, hcl⟩ := h1
                cases hv
                obtain ⟨bg, og, rfl, hc⟩ := hcl hpne
                obtain ⟨uq, q0, hrq⟩ := hc i hlt
                clear hcl hc
                obtain ⟨x, c, hv, -, -, -, hcl⟩ := h2
                injection hv with hv1 hv2 hv3
                subst hv1
                subst hv3
                clear hv2
                obtain ⟨bf, of_, rfl, hc⟩ := hcl (by intro e; have := congrArg List.length e; simp at this; exact hpne this)
                obtain ⟨f0, f1⟩ := hc i (by rw [List.length_map]; exact hlt)
                clear hcl hc
                obtain ⟨x, c, hv, -, -, -, hcl⟩ := h3
                injection hv with hv1 hv2 hv3
                subst hv1
                subst hv3
                clear hv2
                obtain ⟨bl, ol, rfl, hc⟩ := hcl (by intro e; have := congrArg List.length e; simp at this; exact hpne this)
                obtain ⟨e0, e1⟩ := hc i (by rw [List.length_map]; exact hlt)
                clear hcl hc
                simp only [List.getElem_map] at f0 f1 e0 e1
                obtain ⟨q, hq⟩ : ∃ q, P[i] = q := ⟨_, rfl⟩
                rw [hq] at f0 f1 e0 e1 hrq HGQ
                clear hq
                have hqn := HGQ.out.ne
                obtain ⟨xq, cq, rfl, hq1, hq2, -, hqc⟩ := hrq
                obtain ⟨bq, oq, rfl, hqd⟩ := hqc hqn
                have hqp := List.length_pos_iff.2 hqn
                have g0 := hqd 0 hqp
                have gl := hqd (q.length - 1) (by omega)
                have HQC : Hid (∀ W', Below wr.heap.size wr W' → ∀ j (h : j < q.length), QCell W' bq oq j q[j]) := by
                  intro W' hb j h
                  obtain ⟨a1, a2⟩ := hqd j h
                  exact ⟨(hb.cell (p := ⟨bq, _, none⟩) (World.block_lt_of_cell? wr _ a1)).trans a1, (hb.cell (p := ⟨bq, _, none⟩) (World.block_lt_of_cell? wr _ a2)).trans a2⟩
                obtain ⟨fx, fy, hf⟩ : ∃ a b, hdP q = (a, b) := ⟨_, _, rfl⟩
                obtain ⟨ex, ey, he⟩ : ∃ a b, lastP q = (a, b) := ⟨_, _, rfl⟩
                have hf' : q[0] = (fx, fy) := by rw [← hf]; unfold hdP; rw [List.head?_eq_getElem?, List.getElem?_eq_getElem hqp]; rfl
                have he' : q[q.length - 1]'(by omega) = (ex, ey) := by rw [← he]; unfold lastP; rw [List.getLast?_eq_getElem?, List.getElem?_eq_getElem (by omega)]; rfl
                rw [hf'] at g0
                rw [he'] at gl
                rw [hf] at f0 f1
                rw [he] at e0 e1
                obtain ⟨g0, g1⟩ := g0
                obtain ⟨l0, l1⟩ := gl
                simp only [Nat.zero_mul, Nat.add_zero] at f0 f1 e0 e1 g0 g1 l0 l1
                have hn0 : ((q.length : Int) == 0) = false := beq_eq_false_iff_ne.2 (by omega)
                have heq1 := HEQ.out fx fy
                have heq2 := HEQ.out ex ey
                have hHB := HH3.out.below hbw.out
                have HHW := Lib.hid hHB
                have HQG : Hid (∀ W', Below wr.heap.size wr W' → W'.cell? ⟨bg, og + i, none⟩ = some (.slice (some ⟨bq, oq, none⟩) q.length cq)) := fun W' hb => (hb.cell (p := ⟨bg, _, none⟩) (World.block_lt_of_cell? wr _ q0)).trans q0
                have hw4 : (q.length : Int) - 1 < (q.length : Int) := by omega
                have hw5 : ((q.length : Int) - 1).toNat = q.length - 1 := by omega
                have hw6 : (1 : Int) ≤ (q.length : Int) := by omega
                have hw7 : (0 : Int) < (q.length : Int) := by omega
                unfold maxLen at hq2
                clear hqc hqd hf he hf' he' hHB hqn hpne
                go_upto_region 20 with fail
                go_quiet (fail)
                have HBQ : Hid (Below w3.heap.size w3 (wr.drewN nq)) := below_drewN hbw.out nq
                obtain ⟨wo, hwo⟩ : ∃ wo, wr.drewN nq = wo := ⟨_, rfl⟩
                have hwd : Below wr.heap.size wr wo := by rw [← hwo]; exact below_drewN (Below.refl _ _) nq
                have HHO := Lib.hid (HHW.out.below hwd)
                have HQO : Hid (∀ W', Below wo.heap.size wo W' → (W'.cell? ⟨bg, og + i, none⟩ = some (.slice (some ⟨bq, oq, none⟩) q.length cq)) ∧ ∀ j (h : j < q.length), QCell W' bq oq j q[j]) :=
                  fun W' hb => ⟨HQG.out W' (bthen hwd hb), HQC.out W' (bthen hwd hb)⟩
                rw [hwo] at HBQ
                rw [hwo]
                clear q0 f0 f1 e0 e1 g0 g1 l0 l1 hwd hwo heq1 heq2 HQG HQC HHW hw4 hw5 hw6 hn0 hbw
                go_wp2_with fail
                go_loopw [14] (fun vk wr => ∃ k : Nat, vk = .int .i64 k ∧ k ≤ q.length ∧ Hid (Below wo.heap.size wo wr)) (fun vk _ => q.length - (intOf vk).toNat)
                case atStart => exact ⟨0, rfl, Nat.zero_le _, Below.refl _ _⟩
                case round =>
                  obtain ⟨k, rfl, hk, hbw⟩ := hrel
                  have HB3 : Hid (Below w3.heap.size w3 wr) := HBQ.out.trans (hbw.out.mono HBQ.out.size)
                  by_cases hlk : k < q.length
                  · have hdk : decide ((k : Int) < (q.length : Int)) = true := by simp; omega
                    obtain ⟨q0, hqc⟩ := HQO.out wr hbw.out
                    obtain ⟨z0, z1⟩ := hqc k hlk
                    have hin := HGQ.out.inn q[k] (List.getElem_mem hlk)
                    obtain ⟨px, py, hp⟩ : ∃ a b, q[k] = (a, b) := ⟨_, _, rfl⟩
                    rw [hp] at z0 z1 hin
                    simp only at z0 z1
                    obtain ⟨⟨i1, i2⟩, i3, i4⟩ := hin
                    simp only at i1 i2 i3 i4
                    have t1 : decide (px < lx) = false := decide_eq_false (by omega)
                    have t2 : decide (hx < px) = false := decide_eq_false (by omega)
                    have t3 : decide (py < ly) = false := decide_eq_false (by omega)
                    have t4 : decide (hy < py) = false := decide_eq_false (by omega)
                    have hbx := (Below.refl wr.heap.size wr).alloc (Nat.le_refl _) (.cells #[.int .i64 px, .int .i64 py] 32)
                    have HHX := Lib.hid ((HHO.out.below hbw.out).below hbx)
                    have HBX : Hid (Below wo.heap.size wo (wr.alloc (.cells #[.int .i64 px, .int .i64 py] 32))) := hbw.out.alloc hbw.out.size _
                    have HBP := Blk.new wr 32 #[.int .i64 px, .int .i64 py]
                    have i1' : ¬ px < lx := by omega
                    have i2' : ¬ hx < px := by omega
                    have i3' : ¬ py < ly := by omega
                    have i4' : ¬ hy < py := by omega
                    by_cases hk0 : k = 0
                    · subst hk0
                      simp only [Nat.zero_mul, Nat.add_zero] at z0 z1
                      clear hqc hp i1 i2 i3 i4 hbx
                      go_upto_region 26 with fail
                      clear z0 z1 q0
                      generalize wr.alloc (.cells #[.int .i64 px, .int .i64 py] 32) = wk at *
                      generalize wr.heap.size = kp at *
                      have a0 : wk.cell? ⟨A, 0, none⟩ = some (.int .i64 lx) := HHX.out.a.cell 0
                      have a1 : wk.cell? ⟨A, 1, none⟩ = some (.int .i64 ly) := HHX.out.a.cell 1
                      have b0' : wk.cell? ⟨B, 0, none⟩ = some (.int .i64 hx) := HHX.out.b.cell 0
                      have b1' : wk.cell? ⟨B, 1, none⟩ = some (.int .i64 hy) := HHX.out.b.cell 1
                      have k0 : wk.cell? ⟨kp, 0, none⟩ = some (.int .i64 px) := HBP.cell 0
                      have k1 : wk.cell? ⟨kp, 1, none⟩ = some (.int .i64 py) := HBP.cell 1
                      go_quiet (fail)
                      clear a0 a1 b0' b1' k0 k1
                      have HBN := Lib.hid (below_drewN HBX.out nq)
                      go_wp2_with fail
                      go_roundw
                      case rel => exact ⟨1, by go_num, by omega, HBN⟩
                      case measure => simp [intOf]; omega
                    · obtain ⟨rx, ry, hr⟩ : ∃ a b, q[k - 1]'(by omega) = (a, b) := ⟨_, _, rfl⟩
                      obtain ⟨y0, y1⟩ := hqc (k - 1) (by omega)
                      rw [hr] at y0 y1
                      simp only at y0 y1
                      have hdif := HGQ.out.dif (k - 1) (by omega)
                      have hkk : k - 1 + 1 = k := by omega
                      simp only [hkk] at hdif
                      rw [hp, hr] at hdif
                      have hpr : ((px, py) == ((rx, ry) : Pt)) = false := by simpa using hdif
                      have heq3 : ∀ w, (Op.equalIn 10000 32 (.agg #[.int .i64 px, .int .i64 py]) (.agg #[.int .i64 rx, .int .i64 ry])).run Tryd.prog w = .ok false w := fun w => (eqPt px py rx ry w).trans (by rw [hpr])
                      clear hpr
                      have hkp : (1 : Int) ≤ (k : Int) := by omega
                      have hk1 : (k : Int) - 1 < (q.length : Int) := by omega
                      have hk2 : ((k : Int) - 1).toNat = k - 1 := by omega
                      have dk0 : decide (0 < k) = true := decide_eq_true (by omega)
                      have hk9 : 0 < k := by omega
                      have HRR := Lib.hid hr
                      clear hqc hp i1 i2 i3 i4 hbx hdif hkk hr
                      have HQX := Lib.hid (HQO.out _ HBX.out)
                      go_upto_region 26 with fail
                      clear z0 z1 q0 y0 y1
                      generalize wr.alloc (.cells #[.int .i64 px, .int .i64 py] 32) = wk at *
                      generalize wr.heap.size = kp at *
                      have a0 : wk.cell? ⟨A, 0, none⟩ = some (.int .i64 lx) := HHX.out.a.cell 0
                      have a1 : wk.cell? ⟨A, 1, none⟩ = some (.int .i64 ly) := HHX.out.a.cell 1
                      have b0' : wk.cell? ⟨B, 0, none⟩ = some (.int .i64 hx) := HHX.out.b.cell 0
                      have b1' : wk.cell? ⟨B, 1, none⟩ = some (.int .i64 hy) := HHX.out.b.cell 1
                      have k0 : wk.cell? ⟨kp, 0, none⟩ = some (.int .i64 px) := HBP.cell 0
                      have k1 : wk.cell? ⟨kp, 1, none⟩ = some (.int .i64 py) := HBP.cell 1
                      have q1 := HQX.out.1
                      have y0 : wk.cell? ⟨bq, oq + (k - 1) * 2, none⟩ = some (.int .i64 rx) := by have := (HQX.out.2 (k - 1) (by omega)).1; rw [HRR.out] at this; exact this
                      have y1 : wk.cell? ⟨bq, oq + (k - 1) * 2 + 1, none⟩ = some (.int .i64 ry) := by have := (HQX.out.2 (k - 1) (by omega)).2; rw [HRR.out] at this; exact this
                      go_quiet (fail)
                      clear a0 a1 b0' b1' k0 k1 q1 y0 y1
                      have HBN := Lib.hid (below_drewN HBX.out nq)
                      go_wp2_with fail
                      go_roundw
                      case rel => exact ⟨k + 1, by go_num, by omega, HBN⟩
                      case measure => simp [intOf]; omega
                  · have hdk : decide ((k : Int) < (q.length : Int)) = false := by simp; omega
                    go_wp2_with fail
                    go_roundw
                    case rel => exact ⟨i + 1, by go_num, by omega, HB3⟩
                    case measure => simp [intOf]; omega
              · have hd : decide ((i : Int) < (P.length : Int)) = false := by simp; omega
                have hW : Hid (Below W.heap.size W wr) := HH3.out.w.trans (hbw.out.mono HH3.out.w.size)
                have HEX := Lib.hid (HE.out wr hW.out)
                go_wp2_with fail
                refine HEX.out.mono ?_
                rintro e w6 ⟨rfl, hb6⟩
                have HB6 := Lib.hid (bthen hW.out hb6)
                clear hb6
                go_wp2_with fail
                go_ret
                exact ⟨rfl, HB6.out⟩
  · generalize chkP l = z at *
    have hz : (z != 0) = true := by simpa using h0
    clear h0 HE HFL HEN HSR hc1
    go_enter Tryd.func4, Tryd.ntmps4
    go_wp2_with fail
    refine HCK.out.mono ?_
    rintro e w1 ⟨rfl, hb1⟩
    have HB1 := Lib.hid hb1
    clear hb1 HCK
    go_wp2_with fail
    go_ret
    exact ⟨rfl, HB1.out⟩
end Go.Proofs.YtgjbelcnkmcbiaaDoor
