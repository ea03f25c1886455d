/-
  Walk: bend of the reference: the points of a segment added to a polygon.
-/
import Derived.Test.YtgjbelcnkmcbiaaDoorQi
import Derived.Test.YtgjbelcnkmcbiaaDoorQt
namespace Go.Proofs.YtgjbelcnkmcbiaaDoor
open Go.RowKit

/-- What the reference's bend makes of a polygon. -/
def rbP (l : List Pt) (p : Pt) (s : Sg) : List Pt := if s.1 = 1 then pushP l s.2.1 else bendP l p s
/-- What bend holds: the point, the segment, the row; the frame. -/
structure BS (w0 wr : World) (B k0 : Nat) (cs : Array Value) (px py : Int) (v : Value) (l : List Pt) : Prop where
  pt : Blk wr k0 32 #[.int .i64 px, .int .i64 py]
  sg : Blk wr (k0 + 1) 35 cs
  ow : QOwn wr B v l
  fr : Fr B [32] w0 wr
  bl : B ≤ wr.heap.size
  ne : v.ownBlock ≠ some k0
  le : w0.heap.size ≤ k0
theorem BS.step {w0 wr w' : World} {B k0 : Nat} {cs : Array Value} {px py : Int} {v v' : Value} {l l' : List Pt} (h : BS w0 wr B k0 cs px py v l) (ho : QOwn w' B v' l') (hg : wr.grownBy w' v.ownBlock)
    (hv : v'.ownBlock = v.ownBlock ∨ ∃ g, v'.ownBlock = some g ∧ wr.heap.size ≤ g) : BS w0 w' B k0 cs px py v' l' where
  pt := (hg.block _ h.pt.lt (fun e => h.ne e.symm)).trans h.pt
  sg := (hg.block _ h.sg.lt (own_type h.ow h.sg (by decide))).trans h.sg
  ow := ho
  fr := h.fr.grown h.ow (Nat.le_refl B) (by simp) hg
  bl := Nat.le_trans h.bl hg.size
  ne := by
    rcases hv with e | ⟨g, e, hge⟩
    · rw [e]; exact h.ne
    · rw [e]; intro e2; injection e2 with e2; have := h.pt.lt; omega
  le := h.le
theorem BS.below {w0 wr w' : World} {B k0 : Nat} {cs : Array Value} {px py : Int} {v : Value} {l : List Pt} (h : BS w0 wr B k0 cs px py v l) (hb : Below wr.heap.size wr w') : BS w0 w' B k0 cs px py v l where
  pt := (hb.block _ h.pt.lt).trans h.pt
  sg := (hb.block _ h.sg.lt).trans h.sg
  ow := (Fr.of_below (B := 0) hb []).owns h.ow (by simp)
  fr := h.fr.trans (Fr.of_below hb _)
  bl := Nat.le_trans h.bl hb.size
  ne := h.ne
  le := h.le
theorem qown_val {w : World} {B : Nat} {v : Value} {l : List Pt} (h : QOwn w B v l) : ∃ x c, v = .slice x l.length c := by
  rcases h.2 with ⟨rfl, h0⟩ | ⟨g, cap, cur, rfl, _⟩
  · exact ⟨none, 0, by rw [h0]⟩
  · exact ⟨_, _, rfl⟩

set_option maxRecDepth 100000 in
set_option maxHeartbeats 4000000 in
theorem rbend_any (l : List Pt) (v : Value) (k ax ay bx by_ cx cy px py : Int) (B : Nat) (w : World) (ho : QOwn w B v l) (hB : B ≤ w.heap.size) (hm : l.length ≤ 100000)
    (n1 : near24 ax) (n2 : near24 ay) (n3 : near24 bx) (n4 : near24 by_) (n5 : near24 cx) (n6 : near24 cy) (n7 : near24 px) (n8 : near24 py) :
    Calls Tryd.prog 34 #[v, .agg #[.int .i64 px, .int .i64 py], .agg #[.int .i64 k, .int .i64 ax, .int .i64 ay, .int .i64 bx, .int .i64 by_, .int .i64 cx, .int .i64 cy]] w fun e w' => ∃ v', e = .returned v' ∧ QOwn w' B v' (rbP l (px, py) (k, (ax, ay), (bx, by_), cx, cy)) ∧ Fr B [32] w w' := by
  have HB0 : Hid (rbP l (px, py) (k, (ax, ay), (bx, by_), cx, cy) = if k = 1 then pushP l (ax, ay) else if k = 2 then pushP l (ax, ay) else if k = 3 then quadL l (px, py) (ax, ay) (bx, by_) 8 else if k = 4 then cubicL l (px, py) (ax, ay) (bx, by_) (cx, cy) 16 else l) := rfl
  have HX : Hid (BS w ((w.alloc (.cells #[.int .i64 px, .int .i64 py] 32)).alloc (.cells #[.int .i64 k, .int .i64 ax, .int .i64 ay, .int .i64 bx, .int .i64 by_, .int .i64 cx, .int .i64 cy] 35)) B w.heap.size #[.int .i64 k, .int .i64 ax, .int .i64 ay, .int .i64 bx, .int .i64 by_, .int .i64 cx, .int .i64 cy] px py v l) := by
    refine ⟨(Blk.new w _ _).alloc _, Blk.new_at (by simp) _ _, (World.ownsRow.alloc ho _).alloc _, ((Fr.refl B _ w).alloc _ |>.alloc _), by simp; omega, ?_, Nat.le_refl _⟩
    intro e
    have := (World.ownsRow.lt ho _ e).2
    omega
  obtain ⟨x, c, rfl⟩ := qown_val ho
  have HM := Lib.hid hm
  clear ho
  go_enter Tryd.func34, Tryd.ntmps34
  go_upto_region 1 with fail
  generalize (w.alloc (.cells #[.int .i64 px, .int .i64 py] 32)).alloc (.cells #[.int .i64 k, .int .i64 ax, .int .i64 ay, .int .i64 bx, .int .i64 by_, .int .i64 cx, .int .i64 cy] 35) = wz at *
  generalize w.heap.size = kb at *
  have y0 : wz.cell? ⟨kb + 1, 0, none⟩ = some (.int .i64 k) := HX.out.sg.cell 0
  have y1 : wz.cell? ⟨kb + 1, 1, none⟩ = some (.int .i64 ax) := HX.out.sg.cell 1
  have y2 : wz.cell? ⟨kb + 1, 2, none⟩ = some (.int .i64 ay) := HX.out.sg.cell 2
  by_cases k1 : k = 1
  · subst k1
    have HBB : Hid (rbP l (px, py) (1, (ax, ay), (bx, by_), cx, cy) = pushP l (ax, ay)) := rfl
    have HA := Lib.hid (push_any l ax ay _ B wz HX.out.ow HX.out.bl (by have := HM.out; omega))
    clear HB0
    go_wp2_with fail
    refine HA.out.mono ?_
    rintro e w' ⟨v2, rfl, ho', hg', hv'⟩
    have HX2 := Lib.hid (HX.out.step ho' hg' hv')
    obtain ⟨x2, c2, rfl⟩ := qown_val ho'
    clear ho' hg' hv' HA y0 y1 y2
    go_wp2_with fail
    go_ret
    exact ⟨_, rfl, by rw [HBB.out]; exact HX2.out.ow, HX2.out.fr⟩
  by_cases k2 : k = 2
  · subst k2
    have HBB : Hid (rbP l (px, py) (2, (ax, ay), (bx, by_), cx, cy) = pushP l (ax, ay)) := rfl
    have HA := Lib.hid (push_any l ax ay _ B wz HX.out.ow HX.out.bl (by have := HM.out; omega))
    clear HB0
    go_wp2_with fail
    refine HA.out.mono ?_
    rintro e w' ⟨v2, rfl, ho', hg', hv'⟩
    have HX2 := Lib.hid (HX.out.step ho' hg' hv')
    obtain ⟨x2, c2, rfl⟩ := qown_val ho'
    clear ho' hg' hv' HA y0 y1 y2
    go_wp2_with fail
    go_ret
    exact ⟨_, rfl, by rw [HBB.out]; exact HX2.out.ow, HX2.out.fr⟩
  by_cases k3 : k = 3
  · subst k3
    have HBB : Hid (rbP l (px, py) (3, (ax, ay), (bx, by_), cx, cy) = quadL l (px, py) (ax, ay) (bx, by_) 8) := rfl
    clear HB0
    go_wp2_with fail
    go_loopw [0, 7] (fun vv vi wr => ∃ (i : Nat) (I : Int) (v' : Value), v' = vv ∧ vi = .int .i64 I ∧ Hid (I = ((i + 1 : Nat) : Int)) ∧ i ≤ 8 ∧ Hid (BS w wr B kb #[.int .i64 3, .int .i64 ax, .int .i64 ay, .int .i64 bx, .int .i64 by_, .int .i64 cx, .int .i64 cy] px py v' (quadL l (px, py) (ax, ay) (bx, by_) i))) (fun _ vi _ => 9 - (intOf vi).toNat)
    case atStart => exact ⟨0, 1, _, rfl, rfl, rfl, by omega, HX.out⟩
    case round =>
      obtain ⟨i, I, v', rfl, rfl, hI, hi, hxs⟩ := hrel
      have hll := quadL_len l (px, py) (ax, ay) (bx, by_) i
      have hIb : 1 ≤ I ∧ I ≤ 9 := by have := hI.out; omega
      obtain ⟨xv, cv, rfl⟩ := qown_val hxs.out.ow
      by_cases hi8 : I ≤ 8
      · have hd : decide (I ≤ 8) = true := by simp; omega
        have HD1 := Lib.hid (fun w => rquad_any px ax bx I w hIb.1 hi8 n7 n1 n3)
        have HD2 := Lib.hid (fun w => rquad_any py ay by_ I w hIb.1 hi8 n8 n2 n4)
        have HQ : Hid (quadPt (px, py) (ax, ay) (bx, by_) I = (qdI px ax bx I, qdI py ay by_ I)) := rfl
        have HSU := Lib.hid (quadL_succ l (px, py) (ax, ay) (bx, by_) i)
        rw [← hI.out, HQ.out] at HSU
        have eI : wrap64 (I + 1) = I + 1 := wrap64_of _ (by omega)
        generalize qdI px ax bx I = QX at *
        generalize qdI py ay by_ I = QY at *
        clear HQ
        generalize hL : quadL l (px, py) (ax, ay) (bx, by_) i = L at *
        have HL := Lib.hid hL
        clear hL
        generalize hLn : L.length = nl at *
        have HLN := Lib.hid hLn
        clear hLn
        go_upto_region 9 with fail
        obtain ⟨K0, hK0⟩ : ∃ K0, K0 = wr.heap.size := ⟨_, rfl⟩
        have hP1 : kb < K0 := by rw [hK0]; exact hxs.out.pt.lt
        have hP2 : kb + 1 < K0 := by rw [hK0]; exact hxs.out.sg.lt
        have HKW : Hid (K0 = wr.heap.size) := hK0
        clear hK0
        have c0 : ∀ u : BW K0 wr, u.w.cell? ⟨kb, 0, none⟩ = some (.int .i64 px) := fun u => (u.b.cell (p := ⟨kb, 0, none⟩) hP1).trans (hxs.out.pt.cell 0)
        have c1 : ∀ u : BW K0 wr, u.w.cell? ⟨kb, 1, none⟩ = some (.int .i64 py) := fun u => (u.b.cell (p := ⟨kb, 1, none⟩) hP1).trans (hxs.out.pt.cell 1)
        have d0 : ∀ u : BW K0 wr, u.w.cell? ⟨kb + 1, 1, none⟩ = some (.int .i64 ax) := fun u => (u.b.cell (p := ⟨kb + 1, 1, none⟩) hP2).trans (hxs.out.sg.cell 1)
        have d1 : ∀ u : BW K0 wr, u.w.cell? ⟨kb + 1, 2, none⟩ = some (.int .i64 ay) := fun u => (u.b.cell (p := ⟨kb + 1, 2, none⟩) hP2).trans (hxs.out.sg.cell 2)
        have d2 : ∀ u : BW K0 wr, u.w.cell? ⟨kb + 1, 3, none⟩ = some (.int .i64 bx) := fun u => (u.b.cell (p := ⟨kb + 1, 3, none⟩) hP2).trans (hxs.out.sg.cell 3)
        have d3 : ∀ u : BW K0 wr, u.w.cell? ⟨kb + 1, 4, none⟩ = some (.int .i64 by_) := fun u => (u.b.cell (p := ⟨kb + 1, 4, none⟩) hP2).trans (hxs.out.sg.cell 4)
        refine wp_region_bw_tail K0 wr 26 (Below.refl _ _) (by kernel_rfl) (by kernel_rfl) ?_
        simp only [List.take_succ_cons, List.take_zero, List.drop_succ_cons, List.drop_zero]
        repeat (go_big_quiet_step (first
          | (go_at_call_of 56 (Value.int .i64 px); exact calls_bw_drew (HD1.out _))
          | (go_at_call_of 56 (Value.int .i64 py); exact calls_bw_drew (HD2.out _))))
        refine wpQuiet_nil ?_
        rintro _ ⟨u, rfl⟩
        have HX1 := Lib.hid (hxs.out.below (u.b.mono (Nat.le_of_eq HKW.out.symm)))
        clear c0 c1 d0 d1 d2 d3 hxs HKW
        generalize u.w = wy at *
        have HA := Lib.hid (push_any L QX QY _ B wy HX1.out.ow HX1.out.bl (by rw [HLN.out]; have := HM.out; omega))
        go_wp2_with fail
        refine HA.out.mono ?_
        rintro e w' ⟨v2, rfl, ho', hg', hv'⟩
        have hx' := HX1.out.step ho' hg' hv'
        rw [← HSU.out] at hx'
        have HX2 := Lib.hid hx'
        clear ho' hg' hv' hx' HA HX1
        go_wp2_with fail
        go_roundw
        case rel => exact ⟨i + 1, I + 1, v2, rfl, rfl, (by have := hI.out; show _ = _; omega), by have := hI.out; omega, HX2⟩
        case measure => simp [intOf]; omega
      · obtain rfl : I = 9 := by omega
        obtain rfl : i = 8 := by have := hI.out; omega
        go_wp2_with fail
        go_ret
        exact ⟨_, rfl, by rw [HBB.out]; exact hxs.out.ow, hxs.out.fr⟩
  by_cases k4 : k = 4
  · subst k4
    have HBB : Hid (rbP l (px, py) (4, (ax, ay), (bx, by_), cx, cy) = cubicL l (px, py) (ax, ay) (bx, by_) (cx, cy) 16) := rfl
    clear HB0
    go_wp2_with fail
    go_loopw [0, 8] (fun vv vi wr => ∃ (i : Nat) (I : Int) (v' : Value), v' = vv ∧ vi = .int .i64 I ∧ Hid (I = ((i + 1 : Nat) : Int)) ∧ i ≤ 16 ∧ Hid (BS w wr B kb #[.int .i64 4, .int .i64 ax, .int .i64 ay, .int .i64 bx, .int .i64 by_, .int .i64 cx, .int .i64 cy] px py v' (cubicL l (px, py) (ax, ay) (bx, by_) (cx, cy) i))) (fun _ vi _ => 17 - (intOf vi).toNat)
    case atStart => exact ⟨0, 1, _, rfl, rfl, rfl, by omega, HX.out⟩
    case round =>
      obtain ⟨i, I, v', rfl, rfl, hI, hi, hxs⟩ := hrel
      have hll := cubicL_len l (px, py) (ax, ay) (bx, by_) (cx, cy) i
      have hIb : 1 ≤ I ∧ I ≤ 17 := by have := hI.out; omega
      obtain ⟨xv, cv, rfl⟩ := qown_val hxs.out.ow
      by_cases hi8 : I ≤ 16
      · have hd : decide (I ≤ 16) = true := by simp; omega
        have HD1 := Lib.hid (fun w => rcubic_any px ax bx cx I w hIb.1 hi8 n7 n1 n3 n5)
        have HD2 := Lib.hid (fun w => rcubic_any py ay by_ cy I w hIb.1 hi8 n8 n2 n4 n6)
        have HQ : Hid (cubicPt (px, py) (ax, ay) (bx, by_) (cx, cy) I = (cbI px ax bx cx I, cbI py ay by_ cy I)) := rfl
        have HSU := Lib.hid (cubicL_succ l (px, py) (ax, ay) (bx, by_) (cx, cy) i)
        rw [← hI.out, HQ.out] at HSU
        have eI : wrap64 (I + 1) = I + 1 := wrap64_of _ (by omega)
        generalize cbI px ax bx cx I = QX at *
        generalize cbI py ay by_ cy I = QY at *
        clear HQ
        generalize hL : cubicL l (px, py) (ax, ay) (bx, by_) (cx, cy) i = L at *
        have HL := Lib.hid hL
        clear hL
        generalize hLn : L.length = nl at *
        have HLN := Lib.hid hLn
        clear hLn
        go_upto_region 14 with fail
        obtain ⟨K0, hK0⟩ : ∃ K0, K0 = wr.heap.size := ⟨_, rfl⟩
        have hP1 : kb < K0 := by rw [hK0]; exact hxs.out.pt.lt
        have hP2 : kb + 1 < K0 := by rw [hK0]; exact hxs.out.sg.lt
        have HKW : Hid (K0 = wr.heap.size) := hK0
        clear hK0
        have c0 : ∀ u : BW K0 wr, u.w.cell? ⟨kb, 0, none⟩ = some (.int .i64 px) := fun u => (u.b.cell (p := ⟨kb, 0, none⟩) hP1).trans (hxs.out.pt.cell 0)
        have c1 : ∀ u : BW K0 wr, u.w.cell? ⟨kb, 1, none⟩ = some (.int .i64 py) := fun u => (u.b.cell (p := ⟨kb, 1, none⟩) hP1).trans (hxs.out.pt.cell 1)
        have d0 : ∀ u : BW K0 wr, u.w.cell? ⟨kb + 1, 1, none⟩ = some (.int .i64 ax) := fun u => (u.b.cell (p := ⟨kb + 1, 1, none⟩) hP2).trans (hxs.out.sg.cell 1)
        have d1 : ∀ u : BW K0 wr, u.w.cell? ⟨kb + 1, 2, none⟩ = some (.int .i64 ay) := fun u => (u.b.cell (p := ⟨kb + 1, 2, none⟩) hP2).trans (hxs.out.sg.cell 2)
        have d2 : ∀ u : BW K0 wr, u.w.cell? ⟨kb + 1, 3, none⟩ = some (.int .i64 bx) := fun u => (u.b.cell (p := ⟨kb + 1, 3, none⟩) hP2).trans (hxs.out.sg.cell 3)
        have d3 : ∀ u : BW K0 wr, u.w.cell? ⟨kb + 1, 4, none⟩ = some (.int .i64 by_) := fun u => (u.b.cell (p := ⟨kb + 1, 4, none⟩) hP2).trans (hxs.out.sg.cell 4)
        have d4 : ∀ u : BW K0 wr, u.w.cell? ⟨kb + 1, 5, none⟩ = some (.int .i64 cx) := fun u => (u.b.cell (p := ⟨kb + 1, 5, none⟩) hP2).trans (hxs.out.sg.cell 5)
        have d5 : ∀ u : BW K0 wr, u.w.cell? ⟨kb + 1, 6, none⟩ = some (.int .i64 cy) := fun u => (u.b.cell (p := ⟨kb + 1, 6, none⟩) hP2).trans (hxs.out.sg.cell 6)
        refine wp_region_bw_tail K0 wr 34 (Below.refl _ _) (by kernel_rfl) (by kernel_rfl) ?_
        simp only [List.take_succ_cons, List.take_zero, List.drop_succ_cons, List.drop_zero]
        repeat (go_big_quiet_step (first
          | (go_at_call_of 57 (Value.int .i64 px); exact calls_bw_drew (HD1.out _))
          | (go_at_call_of 57 (Value.int .i64 py); exact calls_bw_drew (HD2.out _))))
        refine wpQuiet_nil ?_
        rintro _ ⟨u, rfl⟩
        have HX1 := Lib.hid (hxs.out.below (u.b.mono (Nat.le_of_eq HKW.out.symm)))
        clear c0 c1 d0 d1 d2 d3 d4 d5 hxs HKW
        generalize u.w = wy at *
        have HA := Lib.hid (push_any L QX QY _ B wy HX1.out.ow HX1.out.bl (by rw [HLN.out]; have := HM.out; omega))
        go_wp2_with fail
        refine HA.out.mono ?_
        rintro e w' ⟨v2, rfl, ho', hg', hv'⟩
        have hx' := HX1.out.step ho' hg' hv'
        rw [← HSU.out] at hx'
        have HX2 := Lib.hid hx'
        clear ho' hg' hv' hx' HA HX1
        go_wp2_with fail
        go_roundw
        case rel => exact ⟨i + 1, I + 1, v2, rfl, rfl, (by have := hI.out; show _ = _; omega), by have := hI.out; omega, HX2⟩
        case measure => simp [intOf]; omega
      · obtain rfl : I = 17 := by omega
        obtain rfl : i = 16 := by have := hI.out; omega
        go_wp2_with fail
        go_ret
        exact ⟨_, rfl, by rw [HBB.out]; exact hxs.out.ow, hxs.out.fr⟩
  · have HBB : Hid (rbP l (px, py) (k, (ax, ay), (bx, by_), cx, cy) = l) := by show _ = _; rw [HB0.out, if_neg k1, if_neg k2, if_neg k3, if_neg k4]
    clear HB0
    go_wp2_with fail
    go_ret
    exact ⟨_, rfl, by rw [HBB.out]; exact HX.out.ow, HX.out.fr⟩
end Go.Proofs.YtgjbelcnkmcbiaaDoor
