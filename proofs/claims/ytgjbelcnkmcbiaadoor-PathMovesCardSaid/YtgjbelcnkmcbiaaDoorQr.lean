/-
  Walks: Used, near, points and Check of the reference.
-/
import Derived.Test.YtgjbelcnkmcbiaaDoorQk
namespace Go.Proofs.YtgjbelcnkmcbiaaDoor
open Go.RowKit

def rusP (k : Int) : Int := if k = 1 then 1 else if k = 2 then 1 else if k = 3 then 2 else if k = 4 then 3 else if k = 5 then 0 else -1
theorem rusP_ok (k : Int) (h1 : 1 ≤ k) (h5 : k ≤ 5) : rusP k = usedP k := by
  rcases (by omega : k = 1 ∨ k = 2 ∨ k = 3 ∨ k = 4 ∨ k = 5) with rfl | rfl | rfl | rfl | rfl <;> rfl
theorem rused_any (k : Int) (w : World) : Calls Tryd.prog 15 #[.int .i64 k] w fun e w' => e = .returned (.int .i64 (rusP k)) ∧ w = w' := by
  have H : Hid (rusP k = if k = 1 then 1 else if k = 2 then 1 else if k = 3 then 2 else if k = 4 then 3 else if k = 5 then 0 else -1) := rfl
  go_enter Tryd.func15, Tryd.ntmps15
  by_cases h1 : k = 1
  · subst h1; go_wp2_with fail; go_ret; exact ⟨by rw [H.out]; rfl, rfl⟩
  by_cases h2 : k = 2
  · subst h2; go_wp2_with fail; go_ret; exact ⟨by rw [H.out]; rfl, rfl⟩
  by_cases h3 : k = 3
  · subst h3; go_wp2_with fail; go_ret; exact ⟨by rw [H.out]; rfl, rfl⟩
  by_cases h4 : k = 4
  · subst h4; go_wp2_with fail; go_ret; exact ⟨by rw [H.out]; rfl, rfl⟩
  by_cases h5 : k = 5
  · subst h5; go_wp2_with fail; go_ret; exact ⟨by rw [H.out]; rfl, rfl⟩
  go_wp2_with fail
  go_ret
  exact ⟨by rw [H.out, if_neg h1, if_neg h2, if_neg h3, if_neg h4, if_neg h5]; rfl, rfl⟩
set_option maxRecDepth 100000 in
set_option maxHeartbeats 1000000 in
theorem near_any (p : Pt) (w : World) : Calls Tryd.prog 43 #[.agg (ptC p)] w fun e w' => e = .returned (.bool (!farP p)) ∧ Below w.heap.size w w' := by
  obtain ⟨x, y⟩ := p
  have HF : Hid (farP (x, y) = (decide (x < -16777216) || decide (x > 16777216) || decide (y < -16777216) || decide (y > 16777216))) := rfl
  have hb := Lib.hid ((Below.refl w.heap.size w).alloc (Nat.le_refl _) (.cells #[.int .i64 x, .int .i64 y] 32))
  have h0 := Blk.new w 32 #[.int .i64 x, .int .i64 y]
  unfold ptC
  simp only
  go_enter Tryd.func43, Tryd.ntmps43
  go_upto_region 1 with fail
  generalize (w.alloc (.cells #[.int .i64 x, .int .i64 y] 32)) = wz at *
  have y0 : wz.cell? ⟨w.heap.size, 0, none⟩ = some (.int .i64 x) := h0.cell 0
  have y1 : wz.cell? ⟨w.heap.size, 1, none⟩ = some (.int .i64 y) := h0.cell 1
  by_cases h1 : -16777216 ≤ x
  · by_cases h2 : x ≤ 16777216
    · by_cases h3 : -16777216 ≤ y
      · by_cases h4 : y ≤ 16777216
        · go_wp2_with fail
          go_ret
          exact ⟨by rw [HF.out]; simp [h1, h2, h3, h4], hb.out⟩
        · go_wp2_with fail
          go_ret
          exact ⟨by rw [HF.out]; simp [h4], hb.out⟩
      · go_wp2_with fail
        go_ret
        exact ⟨by rw [HF.out]; simp [h3], hb.out⟩
    · go_wp2_with fail
      go_ret
      exact ⟨by rw [HF.out]; simp [h2], hb.out⟩
  · go_wp2_with fail
    go_ret
    exact ⟨by rw [HF.out]; simp [h1], hb.out⟩
set_option maxRecDepth 100000 in
set_option maxHeartbeats 2000000 in
theorem points_any (k ax ay bx by_ cx cy : Int) (hk1 : 1 ≤ k) (hk5 : k ≤ 5) (w : World) : Calls Tryd.prog 36 #[.agg #[.int .i64 k, .int .i64 ax, .int .i64 ay, .int .i64 bx, .int .i64 by_, .int .i64 cx, .int .i64 cy]] w fun e w' => e = .returned (.bool (!ptsBad (k, (ax, ay), (bx, by_), cx, cy))) ∧ Below w.heap.size w w' := by
  have hbl := Blk.new w 35 #[.int .i64 k, .int .i64 ax, .int .i64 ay, .int .i64 bx, .int .i64 by_, .int .i64 cx, .int .i64 cy]
  have hbz := (Below.refl w.heap.size w).alloc (Nat.le_refl _) (.cells #[.int .i64 k, .int .i64 ax, .int .i64 ay, .int .i64 bx, .int .i64 by_, .int .i64 cx, .int .i64 cy] 35)
  have HUS := Lib.hid (fun w => rused_any k w)
  rw [rusP_ok k hk1 hk5] at HUS
  go_enter Tryd.func36, Tryd.ntmps36
  go_wp2_with fail
  generalize w.alloc (.cells #[.int .i64 k, .int .i64 ax, .int .i64 ay, .int .i64 bx, .int .i64 by_, .int .i64 cx, .int .i64 cy] 35) = wz at *
  generalize hB : w.heap.size = kb at *
  have HB := Lib.hid hB
  clear hB
  have hkb := hbl.lt
  have HBZ := Lib.hid hbz
  have HBL := Lib.hid hbl
  clear hbz hbl
  go_loopw [3] (fun vj wx => ∃ j : Nat, vj = .int .i64 j ∧ j ≤ 3 ∧ Hid (∀ j' < j, badPt (usedP k) j' (Sg.pt (k, (ax, ay), (bx, by_), cx, cy) j') = false) ∧ Hid (Below wz.heap.size wz wx)) (fun vj _ => 3 - (intOf vj).toNat)
  case atStart => exact ⟨0, rfl, by omega, (by intro j' h; omega), Below.refl _ _⟩
  case round =>
    obtain ⟨j, rfl, hj, hok, hbx⟩ := hrel
    by_cases hj3 : j < 3
    · obtain ⟨px, py, hp⟩ : ∃ px py, Sg.pt (k, (ax, ay), (bx, by_), cx, cy) j = (px, py) := ⟨_, _, rfl⟩
      have HNE := Lib.hid (fun w => near_any (px, py) w)
      have hblx : Blk wr kb 35 #[.int .i64 k, .int .i64 ax, .int .i64 ay, .int .i64 bx, .int .i64 by_, .int .i64 cx, .int .i64 cy] := (hbx.out.block kb hkb).trans HBL.out
      have y0 : wr.cell? ⟨kb, 0, none⟩ = some (.int .i64 k) := hblx.cell 0
      have y1 : wr.cell? ⟨kb, 1 + j * 2, none⟩ = some (.int .i64 px) := by
        rw [hblx.cell]
        rcases (by omega : j = 0 ∨ j = 1 ∨ j = 2) with rfl | rfl | rfl <;> (cases hp; rfl)
      have y2 : wr.cell? ⟨kb, 1 + j * 2 + 1, none⟩ = some (.int .i64 py) := by
        rw [hblx.cell]
        rcases (by omega : j = 0 ∨ j = 1 ∨ j = 2) with rfl | rfl | rfl <;> (cases hp; rfl)
      have HEQ := fun w => eqPt px py 0 0 w
      have HBD : Hid (badPt (usedP k) j (px, py) = (farP (px, py) || (decide (usedP k ≤ j) && ((px, py) != (0, 0))))) := rfl
      have HF0 : Hid (((px, py) == ((0, 0) : Pt)) = true → farP (px, py) = false) := by
        intro h
        have h := eq_of_beq h
        rw [h]; rfl
      have HBAD : Hid (badPt (usedP k) j (px, py) = true → ptsBad (k, (ax, ay), (bx, by_), cx, cy) = true) := by
        intro hb
        unfold ptsBad
        rcases (by omega : j = 0 ∨ j = 1 ∨ j = 2) with rfl | rfl | rfl
        · cases hp; simp only [hb, Bool.true_or]
        · cases hp; simp only [hb, Bool.true_or, Bool.or_true]
        · cases hp; simp only [hb, Bool.or_true]
      have HOK : Hid (badPt (usedP k) j (px, py) = false → ∀ j' < j + 1, badPt (usedP k) j' (Sg.pt (k, (ax, ay), (bx, by_), cx, cy) j') = false) := by
        intro hb j' hj'
        rcases Nat.lt_or_ge j' j with h | h
        · exact hok.out j' h
        · have : j' = j := by omega
          subst this
          rw [hp]; exact hb
      have hjd : decide ((j : Int) < 3) = true := by simp; omega
      have j0 : (0 : Int) ≤ (j : Int) := by omega
      have j3 : (j : Int) < 3 := by omega
      clear hp hok
      generalize hu0 : usedP k = u at *
      have HU0 := Lib.hid hu0
      clear hu0
      clear hblx
      have HBX := Lib.hid hbx.out
      clear hbx
      go_wp2_with fail
      refine (HUS.out _).mono ?_
      rintro e w3 ⟨rfl, rfl⟩
      by_cases hu : u ≤ j
      · have hud : decide ((u : Int) ≤ (j : Int)) = true := by simp; omega
        have hud2 : decide ((j : Int) < (u : Int)) = false := by simp; omega
        go_wp2_with fail
        refine (HUS.out _).mono ?_
        rintro e w3 ⟨rfl, rfl⟩
        cases hz : ((px, py) == ((0, 0) : Pt)) with
        | true =>
          rw [hz] at HEQ
          have HZ := Lib.hid (HOK.out (by rw [HBD.out, HF0.out hz]; simp only [bne, hz]; simp))
          go_wp2_with fail
          go_roundw
          case rel => exact ⟨j + 1, by go_num, by omega, (by first | exact HZ | (rw [HU0.out]; exact HZ)), HBX.out⟩
          case measure => simp [intOf]; omega
        | false =>
          rw [hz] at HEQ
          have HZ := Lib.hid (HBAD.out (by rw [HBD.out]; simp only [bne, hz]; simp [hu]))
          go_wp2_with fail
          go_ret
          exact ⟨by rw [HZ.out]; rfl, (by rw [HB.out]; exact HBZ.out.trans (HBX.out.mono (by omega)))⟩
      · have hud : decide ((u : Int) ≤ (j : Int)) = false := by simp; omega
        have hud2 : decide ((j : Int) < (u : Int)) = true := by simp; omega
        go_wp2_with fail
        refine (HNE.out _).mono ?_
        rintro e w4 ⟨rfl, hb4⟩
        have HB4 : Hid (Below wz.heap.size wz w4) := HBX.out.trans (hb4.mono HBX.out.size)
        have z0 : w4.cell? ⟨kb, 0, none⟩ = some (.int .i64 k) := (show Blk w4 kb 35 _ from (HB4.out.block kb hkb).trans HBL.out).cell 0
        generalize farP (px, py) = fp at *
        cases fp with
        | true =>
          have HZ := Lib.hid (HBAD.out (by rw [HBD.out]; rfl))
          go_wp2_with fail
          go_ret
          exact ⟨by rw [HZ.out]; rfl, (by rw [HB.out]; exact HBZ.out.trans (HB4.out.mono (by omega)))⟩
        | false =>
          have HZ := Lib.hid (HOK.out (by rw [HBD.out]; simp [hu]))
          go_wp2_with fail
          refine (HUS.out _).mono ?_
          rintro e w5 ⟨rfl, rfl⟩
          go_wp2_with fail
          go_roundw
          case rel => exact ⟨j + 1, by go_num, by omega, (by first | exact HZ | (rw [HU0.out]; exact HZ)), HB4⟩
          case measure => simp [intOf]; omega
    · obtain rfl : j = 3 := by omega
      have HPB : Hid (ptsBad (k, (ax, ay), (bx, by_), cx, cy) = false) := by
        have e0 : badPt (usedP k) 0 (ax, ay) = false := hok.out 0 (by omega)
        have e1 : badPt (usedP k) 1 (bx, by_) = false := hok.out 1 (by omega)
        have e2 : badPt (usedP k) 2 (cx, cy) = false := hok.out 2 (by omega)
        show ptsBad _ = _
        unfold ptsBad
        simp only [e0, e1, e2, Bool.or_false]
      go_wp2_with fail
      go_ret
      exact ⟨by rw [HPB.out]; rfl, (by rw [HB.out]; exact HBZ.out.trans (hbx.out.mono (by omega)))⟩
set_option maxRecDepth 100000 in
set_option maxHeartbeats 2000000 in
theorem rcheck_any (v : Value) (l : List Sg) (w : World) (hr : SRow w v l) :
    Calls Tryd.prog 14 #[v] w fun e w' => e = .returned (.int .i64 (chkP l)) ∧ Below w.heap.size w w' := by
  obtain ⟨x, c, rfl, hc1, hc2, hc3, hcell⟩ := id hr
  unfold maxLen at hc2
  by_cases hbig : 128 < l.length
  · have HC : Hid (chkP l = 3) := by show _ = _; unfold chkP; rw [if_pos hbig]
    have d1 : decide ((128 : Int) < (l.length : Int)) = true := by simp; omega
    go_enter Tryd.func14, Tryd.ntmps14
    go_wp2_with fail
    go_ret
    exact ⟨by rw [HC.out]; rfl, Below.refl _ _⟩
  have HC : Hid (chkP l = chkGo none l) := by show _ = _; unfold chkP; rw [if_neg hbig]
  have d1 : decide ((128 : Int) < (l.length : Int)) = false := by simp; omega
  go_enter Tryd.func14, Tryd.ntmps14
  go_wp2_with fail
  go_loopw [3] (fun vi wr => ∃ i : Nat, vi = .int .i64 i ∧ i ≤ l.length ∧ Hid (chkGo none l = chkGo ((l.take i).getLast?) (l.drop i)) ∧ Hid (Below w.heap.size w wr)) (fun vi _ => l.length - (intOf vi).toNat)
  case atStart => exact ⟨0, rfl, Nat.zero_le _, rfl, Below.refl _ _⟩
  case round =>
    obtain ⟨i, rfl, hi, hch, hbw⟩ := hrel
    by_cases hlt : i < l.length
    · have hne : l ≠ [] := by rintro rfl; simp at hlt
      have hrw : SRow wr (.slice x l.length c) l := hr.below hbw.out
      have HRW := Lib.hid hrw
      obtain ⟨x', c', hv, -, -, -, hcell'⟩ := hrw
      cases hv
      obtain ⟨b, off, rfl, hcl⟩ := hcell' hne
      obtain ⟨q1, q2, q3, q4, q5, q6, q7⟩ := hcl i hlt
      have HP0 : Hid (i = 0 → (l.take i).getLast? = none) := by rintro rfl; simp
      clear hcell' hcell hr
      obtain ⟨⟨k, ⟨ax, ay⟩, ⟨bx, by_⟩, ⟨cx, cy⟩⟩, hm⟩ : ∃ s : Sg, l[i] = s := ⟨_, rfl⟩
      have HAT := Lib.hid (chkGo_at _ l i hlt _ hm hch.out)
      have HNX := Lib.hid (prev_at l i hlt)
      have HCL : Hid (0 < i → ∃ s : Sg, (l.take i).getLast? = some s ∧ wr.cell? ⟨b, off + (i - 1) * 7, none⟩ = some (.int .i64 s.1)) := by
        intro h0
        exact ⟨_, prev_get l i h0 hi, (hcl (i - 1) (by omega)).1⟩
      rw [hm] at q1 q2 q3 q4 q5 q6 q7 HNX
      simp only at q1 q2 q3 q4 q5 q6 q7
      clear hch hm hc3 hcl HRW
      have hd : decide ((i : Int) < (l.length : Int)) = true := by simp; omega
      generalize (l.take i).getLast? = pq at *
      generalize hn : l.length = n at *
      have HN := Lib.hid hn
      clear hn
      have HUS := Lib.hid (fun w => rused_any k w)
      have HPT := Lib.hid (fun h1 h5 w => points_any k ax ay bx by_ cx cy h1 h5 w)
      have i0 : (0 : Int) ≤ (i : Int) := by omega
      have ic : (i : Int) < (n : Int) := by omega
      go_wp2_with fail
      refine (HUS.out _).mono ?_
      rintro e w3 ⟨rfl, rfl⟩
      by_cases hk : 1 ≤ k ∧ k ≤ 5
      · have hru := rusP_ok k hk.1 hk.2
        rw [hru]
        have hru0 : decide (((usedP k : Nat) : Int) < 0) = false := by simp
        generalize usedP k = u at *
        clear hru
        have HPT2 := Lib.hid (HPT.out hk.1 hk.2)
        clear HPT
        have HSE : Hid (sgErr pq (k, (ax, ay), (bx, by_), cx, cy) = if ptsBad (k, (ax, ay), (bx, by_), cx, cy) = true then 2 else if k ≠ 1 ∧ isC pq = true then 24 else 0) := by
          show _ = _
          unfold sgErr
          rw [if_neg (by simp; omega)]
        go_wp2_with fail
        refine (HPT2.out _).mono ?_
        rintro e w4 ⟨rfl, hb4⟩
        have HB4 : Hid (Below w.heap.size w w4) := hbw.out.trans (hb4.mono hbw.out.size)
        have p1 : w4.cell? ⟨b, off + i * 7, none⟩ = some (.int .i64 k) := (hb4.cell (p := ⟨b, _, none⟩) (World.block_lt_of_cell? _ _ q1)).trans q1
        have HPV3 : Hid (0 < i → ∃ s : Sg, pq = some s ∧ w4.cell? ⟨b, off + (i - 1) * 7, none⟩ = some (.int .i64 s.1)) := by
          intro h0
          obtain ⟨s, e1, e2⟩ := HCL.out h0
          exact ⟨s, e1, (hb4.cell (p := ⟨b, _, none⟩) (World.block_lt_of_cell? _ _ e2)).trans e2⟩
        clear q1 q2 q3 q4 q5 q6 q7 HCL hb4 hbw HPT2 HUS
        generalize ptsBad (k, (ax, ay), (bx, by_), cx, cy) = pb at *
        cases pb with
        | true =>
          have HZ := Lib.hid (HAT.out.2 (by rw [HSE.out, if_pos rfl]; decide))
          rw [show sgErr pq (k, (ax, ay), (bx, by_), cx, cy) = 2 from HSE.out] at HZ
          go_wp2_with fail
          go_ret
          exact ⟨by rw [HC.out, HZ.out]; rfl, HB4.out⟩
        | false =>
          by_cases hk1 : k = 1
          · subst hk1
            have HZ := Lib.hid (HAT.out.1 (by rw [HSE.out]; simp))
            go_wp2_with fail
            go_roundw
            case rel => exact ⟨i + 1, by go_num, by omega, by rw [HNX.out]; exact HZ, HB4⟩
            case measure => simp [intOf]; omega
          by_cases hi00 : i = 0
          · have hse : sgErr pq (k, (ax, ay), (bx, by_), cx, cy) = 24 := by rw [HSE.out, HP0.out hi00]; simp [hk1, isC]
            have p10 : w4.cell? ⟨b, off, none⟩ = some (.int .i64 k) := by have := p1; rw [hi00] at this; exact this
            have hkb1 : (k != 1) = true := by simpa using hk1
            have HZ := Lib.hid (HAT.out.2 (by rw [hse]; decide))
            rw [hse] at HZ
            clear hse
            go_wp2_with fail
            go_ret
            exact ⟨by rw [HC.out, HZ.out]; rfl, HB4.out⟩
          obtain ⟨⟨pk, pa, pb, pc⟩, hpq, yp⟩ := HPV3.out (by omega)
          subst hpq
          simp only at yp
          have hin : ¬ ((i : Int) = 0) := by omega
          have him : wrap64 ((i : Int) - 1) = ((i - 1 : Nat) : Int) := by rw [wrap64_of _ (by omega)]; omega
          have hix : ((i - 1 : Nat) : Int) ≤ (c : Int) := by omega
          have hiz : i - 1 < n := by omega
          have hiy : (((i - 1 : Nat) : Int)).toNat = i - 1 := by omega
          have hiw : ((i : Int) - 1).toNat = i - 1 := by omega
          have hib : 1 ≤ (i : Int) := by omega
          have hib2 : (i : Int) - 1 < (n : Int) := by omega
          have hkb1 : (k != 1) = true := by simpa using hk1
          have hib0 : ((i : Int) == 0) = false := by simpa using hin
          by_cases hp5 : pk = 5
          · subst hp5
            have hse : sgErr (some (5, pa, pb, pc)) (k, (ax, ay), (bx, by_), cx, cy) = 24 := by rw [HSE.out]; simp [hk1, isC]
            have HZ := Lib.hid (HAT.out.2 (by rw [hse]; decide))
            rw [hse] at HZ
            clear hse
            go_wp2_with fail
            go_ret
            exact ⟨by rw [HC.out, HZ.out]; rfl, HB4.out⟩
          · have HZ := Lib.hid (HAT.out.1 (by rw [HSE.out]; simp [hk1, isC, hp5]))
            have hp5b : (pk == 5) = false := by simpa using hp5
            go_wp2_with fail
            go_roundw
            case rel => exact ⟨i + 1, by go_num, by omega, by rw [HNX.out]; exact HZ, HB4⟩
            case measure => simp [intOf]; omega
      · have hse : sgErr pq (k, (ax, ay), (bx, by_), cx, cy) = 8 := by unfold sgErr; rw [if_pos (by omega)]
        have HE := Lib.hid (HAT.out.2 (by rw [hse]; decide))
        rw [hse] at HE
        have hru : rusP k = -1 := by
          unfold rusP
          rw [if_neg (by omega), if_neg (by omega), if_neg (by omega), if_neg (by omega), if_neg (by omega)]
        rw [hru]
        clear HAT hse hru
        go_wp2_with fail
        go_ret
        exact ⟨by rw [HC.out, HE.out]; rfl, hbw.out⟩
    · have hd : decide ((i : Int) < (l.length : Int)) = false := by simp; omega
      have HZ : Hid (chkGo none l = 0) := by show _ = _; rw [hch.out, List.drop_of_length_le (by omega)]; rfl
      go_wp2_with fail
      go_ret
      exact ⟨by rw [HC.out, HZ.out]; rfl, hbw.out⟩
end Go.Proofs.YtgjbelcnkmcbiaaDoor
