/-
  Walk: path.extend: a segment added to a polygon.
-/
import Derived.Test.YtgjbelcnkmcbiaaDoorQe
namespace Go.Proofs.YtgjbelcnkmcbiaaDoor
open Go.RowKit

set_option maxRecDepth 100000 in
set_option maxHeartbeats 4000000 in
theorem extend_any (l : List Pt) (v : Value) (k ax ay bx by_ cx cy px py : Int) (B : Nat) (w : World) (ho : QOwn w B v l) (hB : B ≤ w.heap.size) (hp : l.getLast? = some (px, py)) (hm : l.length ≤ 100000)
    (n1 : near24 ax) (n2 : near24 ay) (n3 : near24 bx) (n4 : near24 by_) (n5 : near24 cx) (n6 : near24 cy) (n7 : near24 px) (n8 : near24 py) :
    Calls Tryd.prog 33 #[v, .agg #[.int .i64 k, .int .i64 ax, .int .i64 ay, .int .i64 bx, .int .i64 by_, .int .i64 cx, .int .i64 cy]] w fun e w' => ∃ v', e = .returned v' ∧ QOwn w' B v' (bendP l (px, py) (k, (ax, ay), (bx, by_), cx, cy)) ∧ Fr B [32] w w' := by
  have hl : l ≠ [] := by rintro rfl; cases hp
  obtain ⟨g, cap, rfl, hg1, hg2, hg3, hg4⟩ := qown_shape ho hl
  have hlen := List.length_pos_iff.2 hl
  have hz : l[l.length - 1]'(by omega) = (px, py) := by rw [last_get l hl] at hp; injection hp
  have hcl := pcells_get l (l.length - 1) (by omega)
  rw [hz] at hcl
  have hc1 := World.ownsRow.cellAt ho ((l.length - 1) * 2) (by omega)
  have hc2 := World.ownsRow.cellAt ho ((l.length - 1) * 2 + 1) (by omega)
  rw [hcl.1] at hc1
  rw [hcl.2] at hc2
  have HB0 : Hid (bendP l (px, py) (k, (ax, ay), (bx, by_), cx, cy) = if k = 2 then pushP l (ax, ay) else if k = 3 then quadL l (px, py) (ax, ay) (bx, by_) 8 else if k = 4 then cubicL l (px, py) (ax, ay) (bx, by_) (cx, cy) 16 else l) := rfl
  have HX : Hid (XS w (((w.alloc (.cells #[.slice (some ⟨g, 0, none⟩) l.length cap] 37)).alloc (.cells #[.int .i64 k, .int .i64 ax, .int .i64 ay, .int .i64 bx, .int .i64 by_, .int .i64 cx, .int .i64 cy] 35)).alloc (.cells #[.int .i64 px, .int .i64 py] 32)) B w.heap.size #[.int .i64 k, .int .i64 ax, .int .i64 ay, .int .i64 bx, .int .i64 by_, .int .i64 cx, .int .i64 cy] px py (.slice (some ⟨g, 0, none⟩) l.length cap) l) := by
    refine ⟨((Blk.new w _ _).alloc _).alloc _, (Blk.new_at (by simp) _ _).alloc _, Blk.new_at (by simp) _ _, ((World.ownsRow.alloc ho _).alloc _).alloc _, ((Fr.refl B _ w).alloc _ |>.alloc _ |>.alloc _), ?_, hl, Nat.le_refl _, by simp; omega⟩
    intro e
    injection e with e
    have : g = w.heap.size + 2 := e
    omega
  have q1 : ((w.alloc (.cells #[.slice (some ⟨g, 0, none⟩) l.length cap] 37)).alloc (.cells #[.int .i64 k, .int .i64 ax, .int .i64 ay, .int .i64 bx, .int .i64 by_, .int .i64 cx, .int .i64 cy] 35)).cell? ⟨g, (l.length - 1) * 2, none⟩ = some (.int .i64 px) := ((((Below.refl w.heap.size w).alloc (Nat.le_refl _) _).alloc (by simp) _).cell (p := ⟨g, _, none⟩) hg4).trans hc1
  have q2 : ((w.alloc (.cells #[.slice (some ⟨g, 0, none⟩) l.length cap] 37)).alloc (.cells #[.int .i64 k, .int .i64 ax, .int .i64 ay, .int .i64 bx, .int .i64 by_, .int .i64 cx, .int .i64 cy] 35)).cell? ⟨g, (l.length - 1) * 2 + 1, none⟩ = some (.int .i64 py) := ((((Below.refl w.heap.size w).alloc (Nat.le_refl _) _).alloc (by simp) _).cell (p := ⟨g, _, none⟩) hg4).trans hc2
  have HO := Lib.hid ho
  have HP := Lib.hid hp
  clear hcl hz ho hp
  generalize hn : l.length = n at *
  have HN := Lib.hid hn
  clear hn
  have hn1 : wrap64 ((n : Int) - 1) = ((n - 1 : Nat) : Int) := by rw [wrap64_of _ (by omega)]; omega
  have hn2 : ((n - 1 : Nat) : Int) < (n : Int) := by omega
  have hn3 : (((n - 1 : Nat) : Int)).toNat = n - 1 := by omega
  have hn4 : (0 : Int) ≤ ((n - 1 : Nat) : Int) := by omega
  have hn5 : (1 : Int) ≤ (n : Int) := by omega
  have hn6 : (n : Int) - 1 < (n : Int) := by omega
  have hn7 : ((n : Int) - 1).toNat = n - 1 := by omega
  go_enter Tryd.func33, Tryd.ntmps33
  go_upto_region 3 with fail
  have hws : w.heap.size = w.heap.size := rfl
  generalize ((w.alloc (.cells #[.slice (some ⟨g, 0, none⟩) n cap] 37)).alloc (.cells #[.int .i64 k, .int .i64 ax, .int .i64 ay, .int .i64 bx, .int .i64 by_, .int .i64 cx, .int .i64 cy] 35)).alloc (.cells #[.int .i64 px, .int .i64 py] 32) = wz at *
  generalize w.heap.size = kb at *
  clear hws q1 q2 hc1 hc2
  have y0 : wz.cell? ⟨kb + 1, 0, none⟩ = some (.int .i64 k) := HX.out.sg.cell 0
  have y1 : wz.cell? ⟨kb + 1, 1, none⟩ = some (.int .i64 ax) := HX.out.sg.cell 1
  have y2 : wz.cell? ⟨kb + 1, 2, none⟩ = some (.int .i64 ay) := HX.out.sg.cell 2
  by_cases k2 : k = 2
  · subst k2
    have HBB : Hid (bendP l (px, py) (2, (ax, ay), (bx, by_), cx, cy) = pushP l (ax, ay)) := by show _ = _; rw [HB0.out, if_pos rfl]
    have HA := Lib.hid (add_any l (ax, ay) _ B kb wz HX.out.bx HX.out.ow HX.out.bl hl (by have := HN.out; omega))
    clear HB0
    go_wp2_with fail
    refine HA.out.mono ?_
    rintro e w' ⟨rfl, v', hb', ho', hg', hv'⟩
    have hx' := HX.out.step (push_ne _ _ hl) hb' ho' hg' hv'
    have y3 : w'.cell? ⟨kb, 0, none⟩ = some v' := hx'.bx.cell 0
    have HX2 := Lib.hid hx'
    obtain ⟨g', cap', rfl, -⟩ := qown_shape ho' (push_ne _ _ hl)
    clear hb' ho' hg' hv' hx'
    go_wp2_with fail
    go_ret
    exact ⟨_, rfl, by rw [HBB.out]; exact HX2.out.ow, HX2.out.fr⟩
  by_cases k3 : k = 3
  · subst k3
    have HBB : Hid (bendP l (px, py) (3, (ax, ay), (bx, by_), cx, cy) = quadL l (px, py) (ax, ay) (bx, by_) 8) := by show _ = _; rw [HB0.out, if_neg k2, if_pos rfl]
    clear HB0
    go_wp2_with fail
    go_loopw [7] (fun vi wr => ∃ (i : Nat) (I : Int) (v' : Value), vi = .int .i64 I ∧ Hid (I = ((i + 1 : Nat) : Int)) ∧ i ≤ 8 ∧ Hid (XS w wr B kb #[.int .i64 3, .int .i64 ax, .int .i64 ay, .int .i64 bx, .int .i64 by_, .int .i64 cx, .int .i64 cy] px py v' (quadL l (px, py) (ax, ay) (bx, by_) i))) (fun vi _ => 9 - (intOf vi).toNat)
    case atStart => exact ⟨0, 1, _, rfl, rfl, by omega, HX.out⟩
    case round =>
      obtain ⟨i, I, v', rfl, hI, hi, hxs⟩ := hrel
      have hll := quadL_len l (px, py) (ax, ay) (bx, by_) i
      have z0 : wr.cell? ⟨kb, 0, none⟩ = some v' := hxs.out.bx.cell 0
      have hIb : 1 ≤ I ∧ I ≤ 9 := by have := hI.out; omega
      by_cases hi8 : I ≤ 8
      · have hd : decide (I ≤ 8) = true := by simp; omega
        obtain ⟨A, Bq, C, x1, x2, x3, x4, SX, t1, t2, t3, t4, SY, e1, e2, e3, e4, e5, e6, e7, e8, e9, e10, e11, e12, e13, r1, r2, b1, b2, b3, b4⟩ := quad_b px ax bx py ay by_ I hIb.1 hi8 n7 n1 n3 n8 n2 n4
        have HD1 := Lib.hid (fun w => (divI_any SX 64 w b1 b2 (by decide) (by decide)).mono (fun e w' h => (⟨h.1, h.2.symm⟩ : e = _ ∧ w' = w)))
        have HD2 := Lib.hid (fun w => (divI_any SY 64 w b3 b4 (by decide) (by decide)).mono (fun e w' h => (⟨h.1, h.2.symm⟩ : e = _ ∧ w' = w)))
        rw [r1] at HD1
        rw [r2] at HD2
        have y1 : wr.cell? ⟨kb + 1, 1, none⟩ = some (.int .i64 ax) := hxs.out.sg.cell 1
        have y2 : wr.cell? ⟨kb + 1, 2, none⟩ = some (.int .i64 ay) := hxs.out.sg.cell 2
        have y3 : wr.cell? ⟨kb + 1, 3, none⟩ = some (.int .i64 bx) := hxs.out.sg.cell 3
        have y4 : wr.cell? ⟨kb + 1, 4, none⟩ = some (.int .i64 by_) := hxs.out.sg.cell 4
        have y5 : wr.cell? ⟨kb + 1 + 1, 0, none⟩ = some (.int .i64 px) := hxs.out.pt.cell 0
        have y6 : wr.cell? ⟨kb + 1 + 1, 1, none⟩ = some (.int .i64 py) := hxs.out.pt.cell 1
        have HQ : Hid (quadPt (px, py) (ax, ay) (bx, by_) I = (qdI px ax bx I, qdI py ay by_ I)) := rfl
        have HSU := Lib.hid (quadL_succ l (px, py) (ax, ay) (bx, by_) i)
        rw [← hI.out, HQ.out] at HSU
        have eI : wrap64 (I + 1) = I + 1 := wrap64_of _ (by omega)
        generalize qdI px ax bx I = QX at *
        generalize qdI py ay by_ I = QY at *
        clear r1 r2 b1 b2 b3 b4 HQ
        obtain ⟨gv, cv, rfl, hgv⟩ := qown_shape hxs.out.ow (hll.2 hl)
        generalize hL : quadL l (px, py) (ax, ay) (bx, by_) i = L at *
        have HL := Lib.hid hL
        clear hL
        generalize hLn : L.length = nl at *
        have HLN := Lib.hid hLn
        clear hLn
        go_upto_region 12 with fail
        go_still_tail 40, (by kernel_rfl)
        repeat still_step
        still_call (HD1.out _)
        repeat still_step
        still_call (HD2.out _)
        repeat still_step
        refine wpStill_nil ?_
        change wpList _ _ _ _ _ wr.drew
        have HXD : Hid (XS w wr.drew B kb #[.int .i64 3, .int .i64 ax, .int .i64 ay, .int .i64 bx, .int .i64 by_, .int .i64 cx, .int .i64 cy] px py (.slice (some ⟨gv, 0, none⟩) nl cv) L) := hxs.out.drew
        have HA := Lib.hid (add_any L (QX, QY) _ B kb wr.drew HXD.out.bx HXD.out.ow HXD.out.bl (hll.2 hl) (by rw [HLN.out]; have := HN.out; omega))
        clear hxs z0 y1 y2 y3 y4 y5 y6
        generalize wr.drew = wy at *
        go_wp2_with fail
        refine HA.out.mono ?_
        rintro e w' ⟨rfl, v2, hb', ho', hg', hv'⟩
        have hx' := HXD.out.step (push_ne _ _ (hll.2 hl)) hb' ho' hg' hv'
        rw [← HSU.out] at hx'
        have HX2 := Lib.hid hx'
        clear hb' ho' hg' hv' hx' HA HXD
        go_wp2_with fail
        go_roundw
        case rel => exact ⟨i + 1, I + 1, v2, rfl, (by have := hI.out; show _ = _; omega), by have := hI.out; omega, HX2⟩
        case measure => simp [intOf]; omega
      · obtain rfl : I = 9 := by omega
        obtain rfl : i = 8 := by have := hI.out; omega
        obtain ⟨gv, cv, rfl, hgv⟩ := qown_shape hxs.out.ow (hll.2 hl)
        go_wp2_with fail
        go_ret
        exact ⟨_, rfl, by rw [HBB.out]; exact hxs.out.ow, hxs.out.fr⟩
  by_cases k4 : k = 4
  · subst k4
    have HBB : Hid (bendP l (px, py) (4, (ax, ay), (bx, by_), cx, cy) = cubicL l (px, py) (ax, ay) (bx, by_) (cx, cy) 16) := by show _ = _; rw [HB0.out, if_neg k2, if_neg k3, if_pos rfl]
    clear HB0
    go_wp2_with fail
    go_loopw [12] (fun vi wr => ∃ (i : Nat) (I : Int) (v' : Value), vi = .int .i64 I ∧ Hid (I = ((i + 1 : Nat) : Int)) ∧ i ≤ 16 ∧ Hid (XS w wr B kb #[.int .i64 4, .int .i64 ax, .int .i64 ay, .int .i64 bx, .int .i64 by_, .int .i64 cx, .int .i64 cy] px py v' (cubicL l (px, py) (ax, ay) (bx, by_) (cx, cy) i))) (fun vi _ => 17 - (intOf vi).toNat)
    case atStart => exact ⟨0, 1, _, rfl, rfl, by omega, HX.out⟩
    case round =>
      obtain ⟨i, I, v', rfl, hI, hi, hxs⟩ := hrel
      have hll := cubicL_len l (px, py) (ax, ay) (bx, by_) (cx, cy) i
      have z0 : wr.cell? ⟨kb, 0, none⟩ = some v' := hxs.out.bx.cell 0
      have hIb : 1 ≤ I ∧ I ≤ 17 := by have := hI.out; omega
      by_cases hi8 : I ≤ 16
      · have hd : decide (I ≤ 16) = true := by simp; omega
        obtain ⟨A0, A, B1, Bq, C1, C, D0, D, x1, x2, x3, x4, x5, x6, SX, t1, t2, t3, t4, t5, t6, SY, e1, e2, e3, e4, e5, e6, e7, e8, e9, e10, e11, e12, e13, e14, e15, e16, e17, e18, e19, e20, e21, e22, r1, r2, b1, b2, b3, b4⟩ := cubic_b px ax bx cx py ay by_ cy I hIb.1 hi8 n7 n1 n3 n5 n8 n2 n4 n6
        have HD1 := Lib.hid (fun w => (divI_any SX 4096 w b1 b2 (by decide) (by decide)).mono (fun e w' h => (⟨h.1, h.2.symm⟩ : e = _ ∧ w' = w)))
        have HD2 := Lib.hid (fun w => (divI_any SY 4096 w b3 b4 (by decide) (by decide)).mono (fun e w' h => (⟨h.1, h.2.symm⟩ : e = _ ∧ w' = w)))
        rw [r1] at HD1
        rw [r2] at HD2
        have y1 : wr.cell? ⟨kb + 1, 1, none⟩ = some (.int .i64 ax) := hxs.out.sg.cell 1
        have y2 : wr.cell? ⟨kb + 1, 2, none⟩ = some (.int .i64 ay) := hxs.out.sg.cell 2
        have y3 : wr.cell? ⟨kb + 1, 3, none⟩ = some (.int .i64 bx) := hxs.out.sg.cell 3
        have y4 : wr.cell? ⟨kb + 1, 4, none⟩ = some (.int .i64 by_) := hxs.out.sg.cell 4
        have y7 : wr.cell? ⟨kb + 1, 5, none⟩ = some (.int .i64 cx) := hxs.out.sg.cell 5
        have y8 : wr.cell? ⟨kb + 1, 6, none⟩ = some (.int .i64 cy) := hxs.out.sg.cell 6
        have y5 : wr.cell? ⟨kb + 1 + 1, 0, none⟩ = some (.int .i64 px) := hxs.out.pt.cell 0
        have y6 : wr.cell? ⟨kb + 1 + 1, 1, none⟩ = some (.int .i64 py) := hxs.out.pt.cell 1
        have HQ : Hid (cubicPt (px, py) (ax, ay) (bx, by_) (cx, cy) I = (cbI px ax bx cx I, cbI py ay by_ cy I)) := rfl
        have HSU := Lib.hid (cubicL_succ l (px, py) (ax, ay) (bx, by_) (cx, cy) i)
        rw [← hI.out, HQ.out] at HSU
        have eI : wrap64 (I + 1) = I + 1 := wrap64_of _ (by omega)
        generalize cbI px ax bx cx I = QX at *
        generalize cbI py ay by_ cy I = QY at *
        clear r1 r2 b1 b2 b3 b4 HQ
        obtain ⟨gv, cv, rfl, hgv⟩ := qown_shape hxs.out.ow (hll.2 hl)
        generalize hL : cubicL l (px, py) (ax, ay) (bx, by_) (cx, cy) i = L at *
        have HL := Lib.hid hL
        clear hL
        generalize hLn : L.length = nl at *
        have HLN := Lib.hid hLn
        clear hLn
        go_upto_region 19 with fail
        go_still_tail 54, (by kernel_rfl)
        repeat still_step
        still_call (HD1.out _)
        repeat still_step
        still_call (HD2.out _)
        repeat still_step
        refine wpStill_nil ?_
        change wpList _ _ _ _ _ wr.drew
        have HXD : Hid (XS w wr.drew B kb #[.int .i64 4, .int .i64 ax, .int .i64 ay, .int .i64 bx, .int .i64 by_, .int .i64 cx, .int .i64 cy] px py (.slice (some ⟨gv, 0, none⟩) nl cv) L) := hxs.out.drew
        have HA := Lib.hid (add_any L (QX, QY) _ B kb wr.drew HXD.out.bx HXD.out.ow HXD.out.bl (hll.2 hl) (by rw [HLN.out]; have := HN.out; omega))
        clear hxs z0 y1 y2 y3 y4 y5 y6 y7 y8
        generalize wr.drew = wy at *
        go_wp2_with fail
        refine HA.out.mono ?_
        rintro e w' ⟨rfl, v2, hb', ho', hg', hv'⟩
        have hx' := HXD.out.step (push_ne _ _ (hll.2 hl)) hb' ho' hg' hv'
        rw [← HSU.out] at hx'
        have HX2 := Lib.hid hx'
        clear hb' ho' hg' hv' hx' HA HXD
        go_wp2_with fail
        go_roundw
        case rel => exact ⟨i + 1, I + 1, v2, rfl, (by have := hI.out; show _ = _; omega), by have := hI.out; omega, HX2⟩
        case measure => simp [intOf]; omega
      · obtain rfl : I = 17 := by omega
        obtain rfl : i = 16 := by have := hI.out; omega
        obtain ⟨gv, cv, rfl, hgv⟩ := qown_shape hxs.out.ow (hll.2 hl)
        go_wp2_with fail
        go_ret
        exact ⟨_, rfl, by rw [HBB.out]; exact hxs.out.ow, hxs.out.fr⟩
  · have HBB : Hid (bendP l (px, py) (k, (ax, ay), (bx, by_), cx, cy) = l) := by show _ = _; rw [HB0.out, if_neg k2, if_neg k3, if_neg k4]
    have z0 : wz.cell? ⟨kb, 0, none⟩ = some (.slice (some ⟨g, 0, none⟩) n cap) := HX.out.bx.cell 0
    clear HB0
    go_wp2_with fail
    go_ret
    exact ⟨_, rfl, by rw [HBB.out]; exact HX.out.ow, HX.out.fr⟩
end Go.Proofs.YtgjbelcnkmcbiaaDoor
