/-
  The law: the identity, and translations by whole pixels.
-/
import Derived.Test.YtgjbelcnkmcbiaaDoorMv4
import Derived.Test.YtgjbelcnkmcbiaaDoorQw
import Derived.Test.YtgjbelcnkmcbiaaDoorRows
namespace Go.Proofs.YtgjbelcnkmcbiaaDoor
open Go.RowKit

theorem GRow.shape {w : World} {v : Value} {l : List (List Pt)} (h : GRow w v l) : ∃ x c, v = .slice x l.length c ∧ c ≤ 9223372036854775807 := by
  obtain ⟨x, c, rfl, h1, h2, -⟩ := h
  exact ⟨x, c, rfl, h2⟩
theorem QRow.shape {w : World} {v : Value} {l : List Pt} (h : QRow w v l) : ∃ x c, v = .slice x l.length c ∧ l.length ≤ c ∧ c ≤ 9223372036854775807 := by
  obtain ⟨x, c, rfl, h1, h2, -⟩ := h
  exact ⟨x, c, rfl, h1, h2⟩

set_option maxRecDepth 100000 in
set_option maxHeartbeats 4000000 in
theorem lawMoves (v : Value) (x0 y0 : Int) (W : World) (hd : Ldd W) (ho : ∃ l, SRow W v l) (_ : (Lit.int IntKind.i64 x0).wf = true) (_ : (Lit.int IntKind.i64 y0).wf = true) : Calls Tryd.prog 9 #[v, .int .i64 x0, .int .i64 y0] W fun e W' => e = .returned (.bool true) ∧ Below W.heap.size W W' := by
  obtain ⟨l, hr⟩ := ho
  have HCK := Lib.hid (rcheck_any v l W hr)
  by_cases h0 : chkP l = 0
  · have HE := Lib.hid (fun w1 (hb : Below W.heap.size W w1) => example_any w1 (hd.below hb))
    have HC1 := Lib.hid (fun w => rclampA_any x0 (-1000) 1000 w)
    have HC2 := Lib.hid (fun w => rclampA_any y0 (-1000) 1000 w)
    obtain ⟨x, hx, hxb⟩ : ∃ x, clP x0 (-1000) 1000 = x ∧ (-1000 ≤ x ∧ x ≤ 1000) := ⟨_, rfl, by unfold clP; omega⟩
    obtain ⟨y, hy, hyb⟩ : ∃ y, clP y0 (-1000) 1000 = y ∧ (-1000 ≤ y ∧ y ≤ 1000) := ⟨_, rfl, by unfold clP; omega⟩
    rw [hx] at HC1
    rw [hy] at HC2
    rw [h0] at HCK
    have e0 : afC (mvA 0 0) = #[.int .i64 65536, .int .i64 0, .int .i64 0, .int .i64 65536, .int .i64 0, .int .i64 0] := rfl
    have HSA := Lib.hid (fun w => rsame_any w)
    have HMV := Lib.hid (fun w => rmove_any x y hxb hyb w)
    have HP0 : Hid (∀ w1, Below W.heap.size W w1 → Calls Tryd.prog 29 #[v, .agg #[.int .i64 65536, .int .i64 0, .int .i64 0, .int .i64 65536, .int .i64 0, .int .i64 0]] w1 fun e w' => (∃ g, e = .returned (.tuple #[g, .int .i64 0]) ∧ SRow w' g l) ∧ Below w1.heap.size w1 w') := by
      intro w1 hb
      have h := place_any v l (mvA 0 0) w1 (hr.below hb) h0 (chk_mv 0 0 (by decide) (by decide))
      rw [e0] at h
      refine h.mono fun e w' hh => ⟨?_, hh.2⟩
      have h1 := hh.1
      unfold PlOk at h1
      rw [if_pos (same_img h0).2, (same_img h0).1] at h1
      exact h1
    have HFL : Hid (∀ w1, Below W.heap.size W w1 → Calls Tryd.prog 10 #[v] w1 fun e w' => (∃ g, e = .returned (.tuple #[g, .int .i64 0]) ∧ GRow w' g (flP l)) ∧ Below w1.heap.size w1 w') := by
      intro w1 hb
      refine (flatten_any v l w1 (hr.below hb)).mono fun e w' hh => ⟨?_, hh.2⟩
      have h1 := hh.1
      unfold FlOk at h1
      rw [if_pos h0] at h1
      exact h1
    have HSH : Hid (∀ g w1, GRow w1 g (flP l) → Calls Tryd.prog 21 #[g, .agg #[.int .i64 65536, .int .i64 0, .int .i64 0, .int .i64 65536, .int .i64 0, .int .i64 0]] w1 fun e w' => (∃ g, e = .returned (.tuple #[g, .int .i64 0]) ∧ GRow w' g (flP l)) ∧ Below w1.heap.size w1 w') := by
      intro g w1 hg
      have ht := fl_tot h0
      have h := shift_any g (flP l) (mvA 0 0) w1 hg (by omega) (by omega)
      rw [e0] at h
      refine h.mono fun e w' hh => ⟨?_, hh.2⟩
      have h1 := hh.1
      have himg : ∀ q ∈ flP l, ∀ p ∈ q, imgP (mvA 0 0) p = p := fun q hq p hp => by
        rw [img_mv 0 0 (by decide) (by decide) _ (fl_near h0 q hq p hp)]; unfold trP; simp
      unfold ShOk at h1
      rw [if_neg (by rw [chk_mv 0 0 (by decide) (by decide)]; decide), if_neg (by omega), if_pos (fun q hq p hp => by
        unfold badP
        rw [himg q hq p hp, far_of_near (fl_near h0 q hq p hp)]; rfl)] at h1
      have hm : (flP l).map (·.map (imgP (mvA 0 0))) = flP l := by
        conv => rhs; rw [← List.map_id (flP l)]
        refine List.map_congr_left fun q hq => ?_
        conv => rhs; rw [id, ← List.map_id q]
        exact List.map_congr_left fun p hp => himg q hq p hp
      rw [hm] at h1
      exact h1
    have HPM : Hid (∀ w1, Below W.heap.size W w1 → Calls Tryd.prog 29 #[v, .agg (afC (mvA x y))] w1 fun e w' => PlOk (mvA x y) l e w' ∧ Below w1.heap.size w1 w') := fun w1 hb => place_any v l (mvA x y) w1 (hr.below hb) h0 (chk_mv x y hxb hyb)
    have HRM : Hid (∀ w1, Below W.heap.size W w1 → Calls Tryd.prog 32 #[v, .agg (afC (mvA x y))] w1 fun e w' => RpOk (mvA x y) l e ∧ Below w1.heap.size w1 w') := fun w1 hb => rplace_any v l (mvA x y) w1 (hr.below hb) h0 (chk_mv x y hxb hyb)
    have HSR := Lib.hid hr
    obtain ⟨xv, cv, rfl, hcv1, hcv2, -⟩ := hr
    generalize hA : afC (mvA x y) = A at *
    have HH0 := Lib.hid h0
    have HMVL : Hid (∀ _ : ∀ s ∈ l, plBad (mvA x y) s = false, flP (l.map (plS (mvA x y))) = (flP l).map (·.map (trP (16 * x) (16 * y)))) := fun hall => fl_move x y hxb hyb h0 hall
    have HNE := Lib.hid (fl_near h0)
    have HLN : Hid ((flP l).length ≤ 128 ∧ ∀ q ∈ flP l, q.length ≤ 2048) := by
      refine ⟨(fl_tot h0).2, fun q hq => ?_⟩
      have h1 := (fl_tot h0).1
      obtain ⟨i, hi, rfl⟩ := List.getElem_of_mem hq
      have h2 := tot_take (flP l) i hi
      have h3 := tot_le (flP l) (i + 1)
      omega
    generalize flP l = ps at *
    clear hx hy hd e0 h0 hA
    go_enter Tryd.func9, Tryd.ntmps9
    go_wp2_with fail
    refine HCK.out.mono ?_
    rintro e w1 ⟨rfl, hb1⟩
    have HB1 := Lib.hid hb1
    clear hb1 HCK
    go_wp2_with fail
    refine (HC1.out _).mono ?_
    rintro e w' ⟨rfl, rfl⟩
    go_wp2_with fail
    refine (HC2.out _).mono ?_
    rintro e w' ⟨rfl, rfl⟩
    clear HC1 HC2
    go_wp2_with fail
    refine (HSA.out _).mono ?_
    rintro e w2 ⟨rfl, hb2⟩
    have HB2 := Lib.hid (bthen HB1.out hb2)
    clear hb2 HB1
    go_wp2_with fail
    refine (HP0.out _ HB2.out).mono ?_
    rintro e w3 ⟨⟨g3, rfl, hg3⟩, hb3⟩
    have HB3 := Lib.hid (bthen HB2.out hb3)
    have HSM := Lib.hid (sameSegs_any _ _ l w3 hg3 (HSR.out.below HB3.out))
    obtain ⟨x3, c3, rfl, -⟩ := hg3
    clear hb3 HB2 HP0
    go_wp2_with fail
    refine HSM.out.mono ?_
    rintro e w4 ⟨rfl, n4, rfl⟩
    have HB4 := Lib.hid (below_drewN HB3.out n4)
    clear HSM HB3
    generalize w3.drewN n4 = w4 at *
    go_wp2_with fail
    refine (HFL.out _ HB4.out).mono ?_
    rintro e w5 ⟨⟨g5, rfl, hg5⟩, hb5⟩
    have HB5 := Lib.hid (bthen HB4.out hb5)
    have HG5 := Lib.hid hg5
    have HS5 := Lib.hid (HSH.out g5)
    obtain ⟨x5, c5, rfl, -⟩ := hg5
    clear hb5 HB4 HFL HSH
    go_wp2_with fail
    refine (HSA.out _).mono ?_
    rintro e w6 ⟨rfl, hb6⟩
    have HB6 := Lib.hid (bthen HB5.out hb6)
    have HG6 := Lib.hid (HG5.out.below hb6)
    clear hb6 HB5 HG5
    go_wp2_with fail
    refine (HS5.out _ HG6.out).mono ?_
    rintro e w7 ⟨⟨g7, rfl, hg7⟩, hb7⟩
    have HB7 := Lib.hid (bthen HB6.out hb7)
    have HG7 := Lib.hid (HG6.out.below hb7)
    have HSM := Lib.hid (samePolys_any _ _ ps w7 hg7 HG7.out)
    obtain ⟨x7, c7, rfl, -⟩ := hg7
    clear hb7 HB6 HG6 HS5
    go_wp2_with fail
    refine HSM.out.mono ?_
    rintro e w8 ⟨rfl, n8, rfl⟩
    have HB8 := Lib.hid (below_drewN HB7.out n8)
    have HG8 : Hid (GRow (w7.drewN n8) _ ps) := HG7.out.below (below_drewN (Below.refl _ _) n8)
    clear HSM HB7 HG7
    generalize w7.drewN n8 = w8 at *
    go_wp2_with fail
    refine (HMV.out _).mono ?_
    rintro e w9 ⟨rfl, hb9⟩
    have HB9 := Lib.hid (bthen HB8.out hb9)
    have HG9 := Lib.hid (HG8.out.below hb9)
    clear hb9 HB8 HG8
    go_wp2_with fail
    refine (HPM.out _ HB9.out).mono ?_
    rintro e w10 ⟨hpl, hb10⟩
    have HB10 := Lib.hid (bthen HB9.out hb10)
    have HG10 := Lib.hid (HG9.out.below hb10)
    clear hb10 HB9 HG9 HPM
    unfold PlOk at hpl
    cases hgo : goodB (mvA x y) l with
    | true =>
      have HRX : Hid (∀ w1, Below W.heap.size W w1 → Calls Tryd.prog 32 #[.slice xv l.length cv, .agg A] w1 fun e w' => (∃ x n c, e = .returned (.tuple #[.slice x n c, .int .i64 0])) ∧ Below w1.heap.size w1 w') := by
        intro w1 hb
        refine (HRM.out w1 hb).mono fun e w' hh => ⟨?_, hh.2⟩
        have h1 := hh.1
        unfold RpOk at h1
        rw [if_pos hgo] at h1
        exact h1
      have hall := (goodB_iff _ _).1 hgo
      rw [if_pos hall] at hpl
      obtain ⟨g10, rfl, hg10⟩ := hpl
      have hckL := chk_pl hall HH0.out
      have hflL := HMVL.out hall
      generalize l.map (plS (mvA x y)) = L at *
      have HFM := Lib.hid (fun w1 h => flatten_any g10 L w1 h)
      have HFQ : Hid (∀ e w', FlOk L e w' → ∃ g, e = .returned (.tuple #[g, .int .i64 0]) ∧ GRow w' g (ps.map (·.map (trP (16 * x) (16 * y))))) := by
        intro e w' h
        unfold FlOk at h
        rw [if_pos hckL, hflL] at h
        exact h
      have HSG := Lib.hid hg10
      obtain ⟨x10, c10, rfl, -⟩ := hg10
      clear hall hckL hflL
      go_wp2_with fail
      refine (HMV.out _).mono ?_
      rintro e w11 ⟨rfl, hb11⟩
      have HB11 := Lib.hid (bthen HB10.out hb11)
      have HG11 := Lib.hid (HG10.out.below hb11)
      have HS11 := Lib.hid (HSG.out.below hb11)
      clear hb11 HB10 HG10 HSG
      go_wp2_with fail
      refine (HRX.out _ HB11.out).mono ?_
      rintro e w12 ⟨⟨x12, n12, c12, rfl⟩, hb12⟩
      have HB12 := Lib.hid (bthen HB11.out hb12)
      have HG12 := Lib.hid (HG11.out.below hb12)
      have HS12 := Lib.hid (HS11.out.below hb12)
      clear hb12 HB11 HG11 HS11 HRM HRX HMV hgo
      go_wp2_with fail
      refine (HFM.out _ HS12.out).mono ?_
      rintro e w13 ⟨hf, hb13⟩
      obtain ⟨g13, rfl, hg13⟩ := HFQ.out _ _ hf
      have HB13 := Lib.hid (bthen HB12.out hb13)
      have HG13 := Lib.hid (HG12.out.below hb13)
      have HN13 := Lib.hid hg13
      obtain ⟨x13, c13, rfl, hc13⟩ := hg13.shape
      rw [List.length_map] at HN13 ⊢
      have hpl := HLN.out.1
      clear hb13 HB12 HG12 HS12 HFM HFQ hf hg13 HMVL
      go_wp2_with fail
      go_loopw [16] (fun vi wr => ∃ i : Nat, vi = .int .i64 i ∧ i ≤ ps.length ∧ Hid (Below w13.heap.size w13 wr)) (fun vi _ => ps.length - (intOf vi).toNat)
      case atStart => exact ⟨0, rfl, Nat.zero_le _, Below.refl _ _⟩
      case round =>
        obtain ⟨i, rfl, hi, hbw⟩ := hrel
        have HWR := Lib.hid (HB13.out.trans (hbw.out.mono HB13.out.size))
        have HGW := Lib.hid (HG13.out.below hbw.out)
        have HNW := Lib.hid (HN13.out.below hbw.out)
        by_cases hlt : i < ps.length
        · have dlt : decide ((i : Int) < (ps.length : Int)) = true := by simp; omega
          obtain ⟨bb, off, rfl, u, hu, hqr⟩ := HGW.out.at i hlt
          obtain ⟨cb, cof, hx, u2, hu2, hqr2⟩ : ∃ cb cof, x13 = some ⟨cb, cof, none⟩ ∧ ∃ u2, wr.cell? ⟨cb, cof + i, none⟩ = some u2 ∧ QRow wr u2 (ps[i].map (trP (16 * x) (16 * y))) := by
            have h := HNW.out
            rw [show ps.length = (ps.map (·.map (trP (16 * x) (16 * y)))).length by rw [List.length_map]] at h
            obtain ⟨b, o, h1, u, h2, h3⟩ := h.at i (by rw [List.length_map]; exact hlt)
            rw [List.getElem_map] at h3
            exact ⟨b, o, h1, u, h2, h3⟩
          subst hx
          have HPI : Hid (ps[i] ∈ ps) := List.getElem_mem hlt
          obtain ⟨Q, hQ⟩ : ∃ Q, ps[i] = Q := ⟨_, rfl⟩
          rw [hQ] at hqr hqr2 HPI
          have HQ1 := Lib.hid hqr
          have HQ2 := Lib.hid hqr2
          obtain ⟨xq, cq, rfl, hq1, hq2⟩ := hqr.shape
          obtain ⟨xr, cr, rfl, hr1, hr2⟩ := hqr2.shape
          rw [List.length_map] at hu2 HQ2 hr1
          have hql := HLN.out.2 Q HPI.out
          have HUW := Lib.hid hu
          have HUW2 := Lib.hid hu2
          clear hqr hqr2 hQ
          go_wp2_with fail
          go_quiet (fail)
          clear hu hu2
          have HBN := Lib.hid (below_drewN (Below.refl wr.heap.size wr) nq)
          go_wp2_with fail
          go_loopw [17] (fun vk wx => ∃ k : Nat, vk = .int .i64 k ∧ k ≤ Q.length ∧ Hid (Below wr.heap.size wr wx)) (fun vk _ => Q.length - (intOf vk).toNat)
          case atStart => exact ⟨0, rfl, Nat.zero_le _, HBN.out⟩
          case round =>
            obtain ⟨k, rfl, hk, hbx⟩ := hrel
            have hu := (hbx.out.cell (p := ⟨bb, off + i, none⟩) (World.block_lt_of_cell? _ _ HUW.out)).trans HUW.out
            have hu2 := (hbx.out.cell (p := ⟨cb, cof + i, none⟩) (World.block_lt_of_cell? _ _ HUW2.out)).trans HUW2.out
            by_cases hlk : k < Q.length
            · have dlk : decide ((k : Int) < (Q.length : Int)) = true := by simp; omega
              obtain ⟨b1, o1, rfl, z0, z1⟩ := (HQ1.out.below hbx.out).at k hlk
              obtain ⟨b2, o2, hx2, y0, y1⟩ : ∃ b o, xr = some ⟨b, o, none⟩ ∧ QCell wr b o k (trP (16 * x) (16 * y) Q[k]) := by
                have h := HQ2.out.below hbx.out
                rw [show Q.length = (Q.map (trP (16 * x) (16 * y))).length by rw [List.length_map]] at h
                obtain ⟨b, o, h1, h2⟩ := h.at k (by rw [List.length_map]; exact hlk)
                rw [List.getElem_map] at h2
                exact ⟨b, o, h1, h2⟩
              subst hx2
              have hnp := HNE.out Q HPI.out Q[k] (List.getElem_mem hlk)
              obtain ⟨px, py, hp⟩ : ∃ a b, Q[k] = (a, b) := ⟨_, _, rfl⟩
              rw [hp] at z0 z1 y0 y1 hnp
              obtain ⟨⟨n1, n2⟩, n3, n4⟩ := hnp
              replace z0 : wr.cell? ⟨b1, o1 + k * 2, none⟩ = some (.int .i64 px) := z0
              replace z1 : wr.cell? ⟨b1, o1 + k * 2 + 1, none⟩ = some (.int .i64 py) := z1
              replace y0 : wr.cell? ⟨b2, o2 + k * 2, none⟩ = some (.int .i64 (px + 16 * x)) := y0
              replace y1 : wr.cell? ⟨b2, o2 + k * 2 + 1, none⟩ = some (.int .i64 (py + 16 * y)) := y1
              have heq : ∀ w, (Op.equalIn 10000 32 (.agg #[.int .i64 (px + 16 * x), .int .i64 (py + 16 * y)]) (.agg #[.int .i64 (px + 16 * x), .int .i64 (py + 16 * y)])).run Tryd.prog w = .ok true w := fun w => (eqPt _ _ _ _ w).trans (by simp)
              have hw1 : IntKind.i64.wrap (16 * x) = 16 * x := by rw [IntKind.wrap_i64]; omega
              have hw2 : IntKind.i64.wrap (16 * y) = 16 * y := by rw [IntKind.wrap_i64]; omega
              have hw3 : IntKind.i64.wrap (px + 16 * x) = px + 16 * x := by rw [IntKind.wrap_i64]; omega
              have hw4 : IntKind.i64.wrap (py + 16 * y) = py + 16 * y := by rw [IntKind.wrap_i64]; omega
              clear hp
              go_wp2_with fail
              go_quiet (fail)
              clear z0 z1 y0 y1 hu hu2
              have HBM := Lib.hid (bthen hbx.out (below_drewN (Below.refl _ wr) nq))
              go_wp2_with fail
              go_roundw
              case rel => exact ⟨k + 1, by go_num, by omega, HBM⟩
              case measure => simp [intOf]; omega
            · have dlk : decide ((k : Int) < (Q.length : Int)) = false := by simp; omega
              have HBM := Lib.hid (bthen hbw.out hbx.out)
              go_wp2_with fail
              go_roundw
              case rel => exact ⟨i + 1, by go_num, by omega, HBM⟩
              case measure => simp [intOf]; omega
        · have dlt : decide ((i : Int) < (ps.length : Int)) = false := by simp; omega
          go_wp2_with fail
          refine (HE.out _ HWR.out).mono ?_
          rintro e w14 ⟨rfl, hb14⟩
          have HB14 := Lib.hid (bthen HWR.out hb14)
          clear hb14
          go_wp2_with fail
          go_ret
          exact ⟨rfl, HB14.out⟩
    | false =>
      have HRX : Hid (∀ w1, Below W.heap.size W w1 → Calls Tryd.prog 32 #[.slice xv l.length cv, .agg A] w1 fun e w' => (∃ x n c, e = .returned (.tuple #[.slice x n c, .int .i64 2])) ∧ Below w1.heap.size w1 w') := by
        intro w1 hb
        refine (HRM.out w1 hb).mono fun e w' hh => ⟨?_, hh.2⟩
        have h1 := hh.1
        unfold RpOk at h1
        rw [if_neg (by rw [hgo]; decide)] at h1
        exact h1
      rw [if_neg (fun h => by rw [(goodB_iff _ _).2 h] at hgo; cases hgo)] at hpl
      subst hpl
      go_wp2_with fail
      refine (HMV.out _).mono ?_
      rintro e w11 ⟨rfl, hb11⟩
      have HB11 := Lib.hid (bthen HB10.out hb11)
      clear hb11 HB10 HG10
      go_wp2_with fail
      refine (HRX.out _ HB11.out).mono ?_
      rintro e w12 ⟨⟨x12, n12, c12, rfl⟩, hb12⟩
      have HB12 := Lib.hid (bthen HB11.out hb12)
      clear hb12 HB11 HRM HRX HMV hgo
      go_wp2_with fail
      refine (HE.out _ HB12.out).mono ?_
      rintro e w13 ⟨rfl, hb13⟩
      have HB13 := Lib.hid (bthen HB12.out hb13)
      clear hb13
      go_wp2_with fail
      go_ret
      exact ⟨rfl, HB13.out⟩
  · obtain ⟨z, hz⟩ : ∃ z, chkP l = z := ⟨_, rfl⟩
    rw [hz] at HCK h0
    have hz0 : (z == 0) = false := by simpa using h0
    obtain ⟨xv, cv, rfl, -⟩ := hr
    clear hz h0 hd
    go_enter Tryd.func9, Tryd.ntmps9
    go_wp2_with fail
    refine HCK.out.mono ?_
    rintro e w1 ⟨rfl, hb1⟩
    have HB1 := Lib.hid hb1
    clear hb1 HCK
    go_wp2_with fail
    go_ret
    exact ⟨rfl, HB1.out⟩
end Go.Proofs.YtgjbelcnkmcbiaaDoor
