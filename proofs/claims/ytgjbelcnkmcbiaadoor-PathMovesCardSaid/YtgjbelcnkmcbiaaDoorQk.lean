/-
  Walk: path.Check: the error of a path.
-/
import Derived.Test.YtgjbelcnkmcbiaaDoorQc
namespace Go.Proofs.YtgjbelcnkmcbiaaDoor
open Go.RowKit

theorem chkGo_cons (q : Option Sg) (s : Sg) (r : List Sg) : chkGo q (s :: r) = if sgErr q s ≠ 0 then sgErr q s else chkGo (some s) r := by cases q <;> rfl
theorem chkGo_at (q : Option Sg) (l : List Sg) (i : Nat) (hi : i < l.length) (s : Sg) (hs : l[i] = s) (h : chkGo none l = chkGo q (l.drop i)) :
    (sgErr q s = 0 → chkGo none l = chkGo (some s) (l.drop (i + 1))) ∧ (sgErr q s ≠ 0 → chkGo none l = sgErr q s) := by
  rw [List.drop_eq_getElem_cons hi, hs, chkGo_cons] at h
  constructor
  · intro h0; rw [if_neg (by simp [h0])] at h; exact h
  · intro h0; rw [if_pos h0] at h; exact h
theorem prev_at (l : List Sg) (i : Nat) (hi : i < l.length) : (l.take (i + 1)).getLast? = some l[i] := by
  rw [List.take_add_one, List.getElem?_eq_getElem hi]
  exact List.getLast?_concat
def ptsC (a b c : Pt) : Array Value := #[.int .i64 a.1, .int .i64 a.2, .int .i64 b.1, .int .i64 b.2, .int .i64 c.1, .int .i64 c.2]
theorem ixp0 (a b c d e f : Int) (w : World) : (Instr.index 33 (.agg #[.int .i64 a, .int .i64 b, .int .i64 c, .int .i64 d, .int .i64 e, .int .i64 f]) (.int .i64 0)).run Tryd.prog w = .ok (.agg #[.int .i64 a, .int .i64 b]) w := by kernel_rfl
theorem ixp1 (a b c d e f : Int) (w : World) : (Instr.index 33 (.agg #[.int .i64 a, .int .i64 b, .int .i64 c, .int .i64 d, .int .i64 e, .int .i64 f]) (.int .i64 1)).run Tryd.prog w = .ok (.agg #[.int .i64 c, .int .i64 d]) w := by kernel_rfl
theorem ixp2 (a b c d e f : Int) (w : World) : (Instr.index 33 (.agg #[.int .i64 a, .int .i64 b, .int .i64 c, .int .i64 d, .int .i64 e, .int .i64 f]) (.int .i64 2)).run Tryd.prog w = .ok (.agg #[.int .i64 e, .int .i64 f]) w := by kernel_rfl
theorem ixp (k a b c d e f : Int) (j : Nat) (hj : j < 3) (px py : Int) (h : Sg.pt (k, (a, b), (c, d), e, f) j = (px, py)) (w : World) : (Instr.index 33 (.agg #[.int .i64 a, .int .i64 b, .int .i64 c, .int .i64 d, .int .i64 e, .int .i64 f]) (.int .i64 (j : Int))).run Tryd.prog w = .ok (.agg #[.int .i64 px, .int .i64 py]) w := by
  rcases (by omega : j = 0 ∨ j = 1 ∨ j = 2) with rfl | rfl | rfl
  · cases h; exact ixp0 _ _ _ _ _ _ w
  · cases h; exact ixp1 _ _ _ _ _ _ w
  · cases h; exact ixp2 _ _ _ _ _ _ w
theorem prev_get (l : List Sg) (i : Nat) (h0 : 0 < i) (hi : i ≤ l.length) : (l.take i).getLast? = some (l[i - 1]'(by omega)) := by
  obtain ⟨j, rfl⟩ : ∃ j, i = j + 1 := ⟨i - 1, by omega⟩
  exact prev_at l j (by omega)
set_option maxRecDepth 100000 in
set_option maxHeartbeats 2000000 in
theorem check_any (v : Value) (l : List Sg) (w : World) (hr : SRow w v l) :
    Calls Tryd.prog 19 #[v] w fun e w' => e = .returned (.int .i64 (chkP l)) ∧ Below w.heap.size w w' := by
  obtain ⟨x, c, rfl, hc1, hc2, hc3, hcell⟩ := id hr
  unfold maxLen at hc2
  by_cases hbig : 128 < l.length
  · have HC : Hid (chkP l = 3) := by show _ = _; unfold chkP; rw [if_pos hbig]
    have d1 : decide ((128 : Int) < (l.length : Int)) = true := by simp; omega
    go_enter Tryd.func19, Tryd.ntmps19
    go_wp2_with fail
    go_ret
    exact ⟨by rw [HC.out]; rfl, Below.refl _ _⟩
  have HC : Hid (chkP l = chkGo none l) := by show _ = _; unfold chkP; rw [if_neg hbig]
  have d1 : decide ((128 : Int) < (l.length : Int)) = false := by simp; omega
  go_enter Tryd.func19, Tryd.ntmps19
  go_wp2_with fail
  go_loopw [12] (fun vi wr => ∃ i : Nat, vi = .int .i64 i ∧ i ≤ l.length ∧ Hid (chkGo none l = chkGo ((l.take i).getLast?) (l.drop i)) ∧ Hid (Below w.heap.size w wr)) (fun vi _ => l.length - (intOf vi).toNat)
  case atStart => exact ⟨0, rfl, Nat.zero_le _, rfl, Below.refl _ _⟩
  case round =>
    obtain ⟨i, rfl, hi, hch, hbw⟩ := hrel
    by_cases hlt : i < l.length
    · have hne : l ≠ [] := by rintro rfl; simp at hlt
      have hrw : SRow wr (.slice x l.length c) l := hr.below hbw.out
      obtain ⟨x', c', hv, -, -, -, hcell'⟩ := hrw
      cases hv
      obtain ⟨b, off, rfl, hcl⟩ := hcell' hne
      obtain ⟨q1, q2, q3, q4, q5, q6, q7⟩ := hcl i hlt
      have HPV : Hid (0 < i → ∃ s : Sg, (l.take i).getLast? = some s ∧ wr.cell? ⟨b, off + (i - 1) * 7, none⟩ = some (.int .i64 s.1)) := by
        intro h0
        exact ⟨_, prev_get l i h0 hi, (hcl (i - 1) (by omega)).1⟩
      have HP0 : Hid (i = 0 → (l.take i).getLast? = none) := by rintro rfl; simp
      clear hcl hcell' hcell hr
      obtain ⟨⟨k, ⟨ax, ay⟩, ⟨bx, by_⟩, ⟨cx, cy⟩⟩, hm⟩ : ∃ s : Sg, l[i] = s := ⟨_, rfl⟩
      have HAT := Lib.hid (chkGo_at _ l i hlt _ hm hch.out)
      have HNX := Lib.hid (prev_at l i hlt)
      rw [hm] at q1 q2 q3 q4 q5 q6 q7 HNX
      simp only at q1 q2 q3 q4 q5 q6 q7
      clear hch hm hc3
      have hd : decide ((i : Int) < (l.length : Int)) = true := by simp; omega
      generalize (l.take i).getLast? = pq at *
      generalize hn : l.length = n at *
      have HN := Lib.hid hn
      clear hn
      by_cases hk1 : k < 1
      · have hse : sgErr pq (k, (ax, ay), (bx, by_), cx, cy) = 8 := by unfold sgErr; rw [if_pos (.inl hk1)]
        have HE := Lib.hid (HAT.out.2 (by rw [hse]; decide))
        rw [hse] at HE
        have hbz := Lib.hid (hbw.out.alloc hbw.out.size (.cells #[.int .i64 k, .int .i64 ax, .int .i64 ay, .int .i64 bx, .int .i64 by_, .int .i64 cx, .int .i64 cy] 35))
        clear HAT hse
        go_wp2_with fail
        go_ret
        exact ⟨by rw [HC.out, HE.out]; rfl, hbz.out⟩
      by_cases hk5 : 5 < k
      · have hse : sgErr pq (k, (ax, ay), (bx, by_), cx, cy) = 8 := by unfold sgErr; rw [if_pos (.inr hk5)]
        have HE := Lib.hid (HAT.out.2 (by rw [hse]; decide))
        rw [hse] at HE
        have hbz := Lib.hid (hbw.out.alloc hbw.out.size (.cells #[.int .i64 k, .int .i64 ax, .int .i64 ay, .int .i64 bx, .int .i64 by_, .int .i64 cx, .int .i64 cy] 35))
        clear HAT hse
        go_wp2_with fail
        go_ret
        exact ⟨by rw [HC.out, HE.out]; rfl, hbz.out⟩
      have hg1 : 1 ≤ k := by omega
      have hg5 : k ≤ 5 := by omega
      go_wp2_with fail
      have hbl := Blk.new wr 35 #[.int .i64 k, .int .i64 ax, .int .i64 ay, .int .i64 bx, .int .i64 by_, .int .i64 cx, .int .i64 cy]
      have hbz := Lib.hid (hbw.out.alloc hbw.out.size (.cells #[.int .i64 k, .int .i64 ax, .int .i64 ay, .int .i64 bx, .int .i64 by_, .int .i64 cx, .int .i64 cy] 35))
      have hpv2 : Hid (0 < i → ∃ s : Sg, pq = some s ∧ (wr.alloc (.cells #[.int .i64 k, .int .i64 ax, .int .i64 ay, .int .i64 bx, .int .i64 by_, .int .i64 cx, .int .i64 cy] 35)).cell? ⟨b, off + (i - 1) * 7, none⟩ = some (.int .i64 s.1)) := by
        intro h0
        obtain ⟨s, e1, e2⟩ := HPV.out h0
        exact ⟨s, e1, (((Below.refl _ wr).alloc (Nat.le_refl _) _).cell (p := ⟨b, _, none⟩) (World.block_lt_of_cell? _ _ e2)).trans e2⟩
      clear q1 q2 q3 q4 q5 q6 q7 hbw HPV
      generalize wr.alloc (.cells #[.int .i64 k, .int .i64 ax, .int .i64 ay, .int .i64 bx, .int .i64 by_, .int .i64 cx, .int .i64 cy] 35) = wz at *
      generalize wr.heap.size = kb at *
      have hkb := hbl.lt
      go_loopw [27] (fun vj wx => ∃ j : Nat, vj = .int .i64 j ∧ j ≤ 3 ∧ Hid (∀ j' < j, badPt (usedP k) j' (Sg.pt (k, (ax, ay), (bx, by_), cx, cy) j') = false) ∧ Hid (Below wz.heap.size wz wx)) (fun vj _ => 3 - (intOf vj).toNat)
      case atStart => exact ⟨0, rfl, by omega, (by intro j' h; omega), Below.refl _ _⟩
      case round =>
        obtain ⟨j, rfl, hj, hok, hbx⟩ := hrel
        have hblx : Blk wr kb 35 #[.int .i64 k, .int .i64 ax, .int .i64 ay, .int .i64 bx, .int .i64 by_, .int .i64 cx, .int .i64 cy] := (hbx.out.block kb hkb).trans hbl
        by_cases hj3 : j < 3
        · obtain ⟨px, py, hp⟩ : ∃ px py, Sg.pt (k, (ax, ay), (bx, by_), cx, cy) j = (px, py) := ⟨_, _, rfl⟩
          have HIX := ixp k ax ay bx by_ cx cy j hj3 px py hp
          have HBY := Lib.hid (fun w => beyond_any (px, py) w)
          have HUS := Lib.hid (fun w => used_any k w)
          have hjd : decide ((j : Int) < 3) = true := by simp; omega
          go_wp2_with fail
          refine (HBY.out _).mono ?_
          rintro e w2 ⟨rfl, hb2⟩
          have hbp := Blk.new wr 32 #[.int .i64 px, .int .i64 py]
          have hbw2 : Below wz.heap.size wz w2 := (hbx.out.alloc hbx.out.size (.cells #[.int .i64 px, .int .i64 py] 32)).trans (hb2.mono (by have := hbx.out.size; simp; omega))
          have y4 : w2.cell? ⟨kb, 0, none⟩ = some (.int .i64 k) := (show Blk w2 kb 35 _ from (hbw2.block kb hkb).trans hbl).cell 0
          have hbp2 : Blk w2 wr.heap.size 32 #[.int .i64 px, .int .i64 py] := (hb2.block _ hbp.lt).trans hbp
          have y5 : w2.cell? ⟨wr.heap.size, 0, none⟩ = some (.int .i64 px) := hbp2.cell 0
          have y6 : w2.cell? ⟨wr.heap.size, 1, none⟩ = some (.int .i64 py) := hbp2.cell 1
          have HEQ := fun w => eqPt px py 0 0 w
          have HBD : Hid (badPt (usedP k) j (px, py) = (farP (px, py) || (decide (usedP k ≤ j) && ((px, py) != (0, 0))))) := rfl
          have HBW2 := Lib.hid (hbz.out.trans (hbw2.mono hbz.out.size))
          have HBWZ := Lib.hid hbw2
          have HBAD : Hid (badPt (usedP k) j (px, py) = true → chkGo none l = 2) := by
            intro hb
            have hse : sgErr pq (k, (ax, ay), (bx, by_), cx, cy) = 2 := by
              have : ptsBad (k, (ax, ay), (bx, by_), cx, cy) = true := by
                unfold ptsBad
                rcases (by omega : j = 0 ∨ j = 1 ∨ j = 2) with rfl | rfl | rfl
                · cases hp; simp only [hb, Bool.true_or]
                · cases hp; simp only [hb, Bool.true_or, Bool.or_true]
                · cases hp; simp only [hb, Bool.or_true]
              unfold sgErr
              rw [if_neg (by simp; omega), if_pos this]
            rw [← hse]; exact HAT.out.2 (by rw [hse]; decide)
          have HOK : Hid (badPt (usedP k) j (px, py) = false → ∀ j' < j + 1, badPt (usedP k) j' (Sg.pt (k, (ax, ay), (bx, by_), cx, cy) j') = false) := by
            intro hb j' hj'
            rcases Nat.lt_or_ge j' j with h | h
            · exact hok.out j' h
            · have : j' = j := by omega
              subst this
              rw [hp]; exact hb
          clear hb2 hbp hbp2 hbw2 hp HAT
          generalize farP (px, py) = fp at *
          cases fp with
          | true =>
            have HZ := Lib.hid (HBAD.out (by rw [HBD.out]; rfl))
            go_wp2_with fail
            go_ret
            exact ⟨by rw [HC.out, HZ.out]; rfl, HBW2.out⟩
          | false =>
            go_wp2_with fail
            refine (HUS.out _).mono ?_
            rintro e w3 ⟨rfl, rfl⟩
            generalize hu0 : usedP k = u at *
            have HU0 := Lib.hid hu0
            clear hu0
            by_cases hu : u ≤ j
            · have hud : decide ((u : Int) ≤ (j : Int)) = true := by simp; omega
              cases hz : ((px, py) == ((0, 0) : Pt)) with
              | true =>
                rw [hz] at HEQ
                have HZ := Lib.hid (HOK.out (by rw [HBD.out]; simp only [bne, hz]; simp))
                go_wp2_with fail
                go_roundw
                case rel => exact ⟨j + 1, by go_num, by omega, by rw [HU0.out]; exact HZ, HBWZ⟩
                case measure => simp [intOf]; omega
              | false =>
                rw [hz] at HEQ
                have HZ := Lib.hid (HBAD.out (by rw [HBD.out]; simp only [bne, hz]; simp [hu]))
                go_wp2_with fail
                go_ret
                exact ⟨by rw [HC.out, HZ.out]; rfl, HBW2.out⟩
            · have hud : decide ((u : Int) ≤ (j : Int)) = false := by simp; omega
              have HZ := Lib.hid (HOK.out (by rw [HBD.out]; simp [hu]))
              go_wp2_with fail
              go_roundw
              case rel => exact ⟨j + 1, by go_num, by omega, by rw [HU0.out]; exact HZ, HBWZ⟩
              case measure => simp [intOf]; omega
        · obtain rfl : j = 3 := by omega
          have HPB : Hid (ptsBad (k, (ax, ay), (bx, by_), cx, cy) = false) := by
            have e0 : badPt (usedP k) 0 (ax, ay) = false := hok.out 0 (by omega)
            have e1 : badPt (usedP k) 1 (bx, by_) = false := hok.out 1 (by omega)
            have e2 : badPt (usedP k) 2 (cx, cy) = false := hok.out 2 (by omega)
            show ptsBad _ = _
            unfold ptsBad
            simp only [e0, e1, e2, Bool.or_false]
          have HSE : Hid (sgErr pq (k, (ax, ay), (bx, by_), cx, cy) = if k ≠ 1 ∧ isC pq = true then 24 else 0) := by
            show _ = _
            unfold sgErr
            rw [if_neg (by simp; omega), if_neg (by rw [HPB.out]; decide)]
          have HBWX := Lib.hid (hbz.out.trans (hbx.out.mono hbz.out.size))
          have y4 : wr.cell? ⟨kb, 0, none⟩ = some (.int .i64 k) := hblx.cell 0
          have HPV3 : Hid (0 < i → ∃ s : Sg, pq = some s ∧ wr.cell? ⟨b, off + (i - 1) * 7, none⟩ = some (.int .i64 s.1)) := by
            intro h0
            obtain ⟨s, e1, e2⟩ := hpv2.out h0
            exact ⟨s, e1, (hbx.out.cell (p := ⟨b, _, none⟩) (World.block_lt_of_cell? _ _ e2)).trans e2⟩
          clear hbx hblx hbl hbz hok HPB
          have hi0 : (0 : Int) ≤ (i : Int) := by omega
          by_cases hk : k = 1
          · subst hk
            have HZ := Lib.hid (HAT.out.1 (by rw [HSE.out]; simp))
            go_wp2_with fail
            go_roundw
            case rel => exact ⟨i + 1, by go_num, by omega, by rw [HNX.out]; exact HZ, HBWX⟩
            case measure => simp [intOf]; omega
          by_cases hi00 : i = 0
          · subst hi00
            have HZ := Lib.hid (HAT.out.2 (by rw [HSE.out, HP0.out rfl]; simp [hk, isC]))
            have hse : sgErr pq (k, (ax, ay), (bx, by_), cx, cy) = 24 := by rw [HSE.out, HP0.out rfl]; simp [hk, isC]
            rw [hse] at HZ
            clear hse
            go_wp2_with fail
            go_ret
            exact ⟨by rw [HC.out, HZ.out]; rfl, HBWX.out⟩
          obtain ⟨⟨pk, pa, pb, pc⟩, hpq, yp⟩ := HPV3.out (by omega)
          subst hpq
          simp only at yp
          have hin : ¬ ((i : Int) = 0) := by omega
          have him : wrap64 ((i : Int) - 1) = ((i - 1 : Nat) : Int) := by rw [wrap64_of _ (by omega)]; omega
          have hix : ((i - 1 : Nat) : Int) ≤ (c : Int) := by omega
          have hiz : i - 1 < n := by omega
          have hiy : (((i - 1 : Nat) : Int)).toNat = i - 1 := by omega
          have hiw : ((i : Int) - 1).toNat = i - 1 := by omega
          have hib : 1 ≤ (i : Int) := by omega
          have hib2 : (i : Int) - 1 < (n : Int) := by omega
          have hkb1 : (k != 1) = true := by simpa using hk
          have hib0 : ((i : Int) == 0) = false := by simpa using hin
          by_cases hp5 : pk = 5
          · subst hp5
            have hse : sgErr (some (5, pa, pb, pc)) (k, (ax, ay), (bx, by_), cx, cy) = 24 := by rw [HSE.out]; simp [hk, isC]
            have HZ := Lib.hid (HAT.out.2 (by rw [hse]; decide))
            rw [hse] at HZ
            clear hse
            go_wp2_with fail
            go_ret
            exact ⟨by rw [HC.out, HZ.out]; rfl, HBWX.out⟩
          · have HZ := Lib.hid (HAT.out.1 (by rw [HSE.out]; simp [hk, isC, hp5]))
            have hp5b : (pk == 5) = false := by simpa using hp5
            go_wp2_with fail
            go_roundw
            case rel => exact ⟨i + 1, by go_num, by omega, by rw [HNX.out]; exact HZ, HBWX⟩
            case measure => simp [intOf]; omega
    · have hd : decide ((i : Int) < (l.length : Int)) = false := by simp; omega
      have HZ : Hid (chkGo none l = 0) := by show _ = _; rw [hch.out, List.drop_of_length_le (by omega)]; rfl
      go_wp2_with fail
      go_ret
      exact ⟨by rw [HC.out, HZ.out]; rfl, hbw.out⟩
end Go.Proofs.YtgjbelcnkmcbiaaDoor
