/-
  Walk: the reference's Place: its error (of a right path, by a right transform).
-/
import Derived.Test.YtgjbelcnkmcbiaaDoorMv2
import Derived.Test.YtgjbelcnkmcbiaaDoorQr
namespace Go.Proofs.YtgjbelcnkmcbiaaDoor
open Go.RowKit

def goodB (t : Af) (l : List Sg) : Bool := l.all fun s => !plBad t s
theorem goodB_iff (t : Af) (l : List Sg) : goodB t l = true ↔ ∀ s ∈ l, plBad t s = false := by
  unfold goodB; rw [List.all_eq_true]; simp
/-- What the reference's Place answers. -/
def RpOk (t : Af) (l : List Sg) (e : Ending) : Prop := ∃ x n c, e = .returned (.tuple #[.slice x n c, .int .i64 (if goodB t l = true then 0 else 2)])
theorem sgC_put (s : Sg) (j : Nat) (hj : j < 3) (X Y : Int) : ((sgC s).setIfInBounds (1 + j * 2) (.int .i64 X)).setIfInBounds (1 + j * 2 + 1) (.int .i64 Y) = sgC (putN (putN s (2 * j) X) (2 * j + 1) Y) := by
  rcases (by omega : j = 0 ∨ j = 1 ∨ j = 2) with rfl | rfl | rfl <;> rfl
theorem put_pt (s : Sg) (j : Nat) (hj : j < 3) (X Y : Int) : (putN (putN s (2 * j) X) (2 * j + 1) Y).pt j = (X, Y) ∧ ∀ m, j < m → m < 3 → (putN (putN s (2 * j) X) (2 * j + 1) Y).pt m = s.pt m := by
  rcases (by omega : j = 0 ∨ j = 1 ∨ j = 2) with rfl | rfl | rfl
  · refine ⟨rfl, fun m h1 h2 => ?_⟩
    rcases (by omega : m = 1 ∨ m = 2) with rfl | rfl <;> rfl
  · refine ⟨rfl, fun m h1 h2 => ?_⟩
    rcases (by omega : m = 2) with rfl
    rfl
  · exact ⟨rfl, fun m h1 h2 => by omega⟩

set_option maxRecDepth 100000 in
set_option maxHeartbeats 4000000 in
theorem rplace_any (v : Value) (l : List Sg) (t : Af) (w : World) (hr : SRow w v l) (h0 : chkP l = 0) (ht : afChk t = 0) : Calls Tryd.prog 32 #[v, .agg (afC t)] w fun e w' => RpOk t l e ∧ Below w.heap.size w w' := by
  have hl128 := (chkP_ok h0).1
  have HCO := Lib.hid (chkP_ok h0).2
  have HCK := Lib.hid (fun w hr => rcheck_any v l w hr)
  have HAC := Lib.hid (fun w => rachk_any t w)
  have HIM := Lib.hid (fun p w => rimage_any t p w)
  have HSR := Lib.hid hr
  rw [h0] at HCK
  rw [ht] at HAC
  obtain ⟨x, c, rfl, hc1, hc2, -⟩ := hr
  unfold maxLen at hc2
  have hbx := (Below.refl w.heap.size w).alloc (Nat.le_refl _) (.cells (afC t) 45)
  have hK0 := Blk.new w 45 (afC t)
  unfold afC at HAC HIM hbx hK0 ⊢
  have HBX := Lib.hid hbx
  have HKB := Lib.hid hK0
  clear h0 ht hbx hK0
  go_enter Tryd.func32, Tryd.ntmps32
  go_wp2_with fail
  refine (HCK.out _ (HSR.out.below HBX.out)).mono ?_
  rintro e w1 ⟨rfl, hb1⟩
  have HB1 := Lib.hid (HBX.out.trans (hb1.mono HBX.out.size))
  have HK1 := Lib.hid (HKB.out.keep hb1)
  have k0 := HK1.out.cell 0
  have k1 := HK1.out.cell 1
  have k2 := HK1.out.cell 2
  have k3 := HK1.out.cell 3
  have k4 := HK1.out.cell 4
  have k5 := HK1.out.cell 5
  clear hb1 HBX HKB HCK
  go_wp2_with fail
  refine (HAC.out _).mono ?_
  rintro e w2 ⟨rfl, hb2⟩
  have HB2 := Lib.hid (HB1.out.trans (hb2.mono HB1.out.size))
  have HK2 := Lib.hid (HK1.out.keep hb2)
  clear hb2 HB1 HK1 k0 k1 k2 k3 k4 k5 HAC
  go_wp2_with fail
  have HO0 : Hid ((w2.alloc (.cells #[] 35)).ownsRow w.heap.size 35 7 (.slice (some ⟨w2.heap.size, 0, none⟩) 0 0) 0 []) := World.ownsRow_lit (e := 35) (size := 7) (base := w.heap.size) w2 #[] 0 HB2.out.size (by unfold maxLen; omega) rfl
  have HB3 : Hid (Below w.heap.size w (w2.alloc (.cells #[] 35))) := HB2.out.alloc HB2.out.size _
  have HK3 : Hid (Blk (w2.alloc (.cells #[] 35)) w.heap.size 45 #[.int .i64 t.a, .int .i64 t.b, .int .i64 t.c, .int .i64 t.d, .int .i64 t.e, .int .i64 t.f]) := HK2.out.alloc _
  generalize w2.alloc (.cells #[] 35) = wg at *
  generalize w2.heap.size = g0 at *
  clear HB2 HK2
  go_loopw [8, 9] (fun vo vi wj => ∃ (i : Nat) (xs : List Value) (xo : Option Addr) (co : Nat), vi = .int .i64 i ∧ vo = .slice xo i co ∧ i ≤ l.length ∧ Hid (∀ j (h : j < l.length), j < i → plBad t l[j] = false) ∧ Hid (wj.ownsRow w.heap.size 35 7 (.slice xo i co) i xs) ∧ Hid (Blk wj w.heap.size 45 #[.int .i64 t.a, .int .i64 t.b, .int .i64 t.c, .int .i64 t.d, .int .i64 t.e, .int .i64 t.f]) ∧ Hid (Below w.heap.size w wj)) (fun _ vi _ => l.length - (intOf vi).toNat)
  case atStart => exact ⟨0, [], some ⟨g0, 0, none⟩, 0, rfl, rfl, Nat.zero_le _, fun j h h2 => absurd h2 (by omega), HO0.out, HK3.out, HB3.out⟩
  case round =>
    obtain ⟨i, xs, xo, co, rfl, rfl, hi, hbd, how, hka, hbw⟩ := hrel
    by_cases hlt : i < l.length
    · have hd : decide ((i : Int) < (l.length : Int)) = true := by simp; omega
      obtain ⟨bb, off, rfl, hcl, -⟩ := (HSR.out.below hbw.out).at i hlt
      obtain ⟨q1, q2, q3, q4, q5, q6, q7⟩ := hcl i hlt
      have hsok := HCO.out i hlt
      obtain ⟨s, hs⟩ : ∃ s : Sg, l[i] = s := ⟨_, rfl⟩
      have HSM : Hid (s ∈ l) := by rw [← hs]; exact List.getElem_mem hlt
      rw [hs] at q1 q2 q3 q4 q5 q6 q7 hsok
      have HS := Lib.hid hs
      have hk1 := hsok.lo
      have hk5 := hsok.hi
      obtain ⟨k, ⟨ax, ay⟩, ⟨bx, by_⟩, ⟨cx, cy⟩⟩ := s
      simp only at q1 q2 q3 q4 q5 q6 q7 hk1 hk5
      clear hcl hs hsok
      have HO1 : Hid ((wr.alloc (.cells #[.int .i64 k, .int .i64 ax, .int .i64 ay, .int .i64 bx, .int .i64 by_, .int .i64 cx, .int .i64 cy] 35)).ownsRow w.heap.size 35 7 (.slice xo i co) i xs) := World.ownsRow.alloc how.out _
      have HS1 : Hid (Blk (wr.alloc (.cells #[.int .i64 k, .int .i64 ax, .int .i64 ay, .int .i64 bx, .int .i64 by_, .int .i64 cx, .int .i64 cy] 35)) wr.heap.size 35 #[.int .i64 k, .int .i64 ax, .int .i64 ay, .int .i64 bx, .int .i64 by_, .int .i64 cx, .int .i64 cy]) := Blk.new wr _ _
      have HA1 := Lib.hid (hka.out.alloc (.cells #[.int .i64 k, .int .i64 ax, .int .i64 ay, .int .i64 bx, .int .i64 by_, .int .i64 cx, .int .i64 cy] 35))
      have HBW1 := Lib.hid (hbw.out.alloc hbw.out.size (.cells #[.int .i64 k, .int .i64 ax, .int .i64 ay, .int .i64 bx, .int .i64 by_, .int .i64 cx, .int .i64 cy] 35))
      have HAS : Hid (w.heap.size < wr.heap.size) := hka.out.lt
      have HRS : Hid (∀ r, (Value.slice xo i co).ownBlock = some r → r < wr.heap.size) := fun r h => (World.ownsRow.lt how.out r h).2
      go_upto_region 12 with fail
      clear q1 q2 q3 q4 q5 q6 q7 how hka hbw
      generalize wr.alloc (.cells #[.int .i64 k, .int .i64 ax, .int .i64 ay, .int .i64 bx, .int .i64 by_, .int .i64 cx, .int .i64 cy] 35) = wz at *
      generalize wr.heap.size = S at *
      obtain ⟨z, hz⟩ : ∃ z : Sg, z = (k, (ax, ay), (bx, by_), cx, cy) := ⟨_, rfl⟩
      have HZK : Hid (z.1 = k) := by rw [hz]; rfl
      rw [← hz] at HSM HS
      have HS2 : Hid (Blk wz S 35 (sgC z)) := by rw [hz]; exact HS1.out
      have HUS := Lib.hid (fun w => rused_any k w)
      have hu3 := used3 k
      have hru := rusP_ok k hk1 hk5
      rw [hru] at HUS
      obtain ⟨u, hu⟩ : ∃ u, usedP k = u := ⟨_, rfl⟩
      rw [hu] at HUS hu3
      have HUE : Hid (usedP z.1 = u) := by rw [HZK.out]; exact hu
      clear hu hz hru HS1
      go_wp2_with fail
      go_loopw [11] (fun vj wx => ∃ (j : Nat) (y : Sg), vj = .int .i64 j ∧ j ≤ u ∧ Hid (y.1 = k) ∧ Hid (∀ m, j ≤ m → m < 3 → y.pt m = z.pt m) ∧ Hid (∀ j', j' < j → farP (imgP t (z.pt j')) = false) ∧ Hid (Blk wx S 35 (sgC y)) ∧ Hid (wx.ownsRow w.heap.size 35 7 (.slice xo i co) i xs) ∧ Hid (Blk wx w.heap.size 45 #[.int .i64 t.a, .int .i64 t.b, .int .i64 t.c, .int .i64 t.d, .int .i64 t.e, .int .i64 t.f]) ∧ Hid (Below w.heap.size w wx)) (fun vj _ => u - (intOf vj).toNat)
      case atStart => exact ⟨0, z, rfl, Nat.zero_le _, HZK.out, fun _ _ _ => rfl, fun j' h => absurd h (by omega), HS2.out, HO1.out, HA1.out, HBW1.out⟩
      case round =>
        obtain ⟨j, y, rfl, hj, hyk, hyp, hgd, hsx, hox, hax, hbx⟩ := hrel
        have z0 : wr.cell? ⟨S, 0, none⟩ = some (.int .i64 k) := by rw [hsx.out.cell, ← hyk.out]; rfl
        by_cases hlj : j < u
        · have hdj : decide ((j : Int) < (u : Int)) = true := by simp; omega
          have hj3 : j < 3 := by omega
          go_wp2_with fail
          refine (HUS.out _).mono ?_
          rintro e w' ⟨rfl, rfl⟩
          clear z0
          obtain ⟨px, py, hp⟩ : ∃ a b, z.pt j = (a, b) := ⟨_, _, rfl⟩
          obtain ⟨X, Y, hq⟩ : ∃ a b, imgP t (px, py) = (a, b) := ⟨_, _, rfl⟩
          have hyj : y.pt j = (px, py) := by rw [hyp.out j (Nat.le_refl _) hj3, hp]
          have HQ : Hid (imgP t (z.pt j) = (X, Y)) := by show _ = _; rw [hp, hq]
          have HIP := Lib.hid (fun w => HIM.out (px, py) w)
          rw [hq] at HIP
          unfold ptC at HIP
          simp only at HIP
          have HNE := Lib.hid (fun w => near_any (X, Y) w)
          unfold ptC at HNE
          simp only at HNE
          obtain ⟨ff, hff⟩ : ∃ ff, farP (X, Y) = ff := ⟨_, rfl⟩
          rw [hff] at HNE
          have HFF := Lib.hid hff
          have hi3 : ((j : Nat) : Int) < 3 := by omega
          have hi0 : (0 : Int) ≤ (j : Int) := by omega
          obtain ⟨K0, hK0⟩ : ∃ K0, K0 = wr.heap.size := ⟨_, rfl⟩
          have HK0 : Hid (K0 ≤ wr.heap.size) := by show _ ≤ _; omega
          have HBU : Hid (∀ u : BW K0 wr, Below wr.heap.size wr u.w) := fun u => u.b.mono (by omega)
          have b0 : ∀ u : BW K0 wr, u.w.cell? ⟨S, 1 + j * 2, none⟩ = some (.int .i64 px) := fun u => by rw [(hsx.out.keep (HBU.out u)).cell, (sg_cells y j hj3).1, hyj]
          have b1 : ∀ u : BW K0 wr, u.w.cell? ⟨S, 1 + j * 2 + 1, none⟩ = some (.int .i64 py) := fun u => by rw [(hsx.out.keep (HBU.out u)).cell, (sg_cells y j hj3).2, hyj]
          have m0 : ∀ u : BW K0 wr, u.w.cell? ⟨w.heap.size, 0, none⟩ = some (.int .i64 t.a) := fun u => (hax.out.keep (HBU.out u)).cell 0
          have m1 : ∀ u : BW K0 wr, u.w.cell? ⟨w.heap.size, 1, none⟩ = some (.int .i64 t.b) := fun u => (hax.out.keep (HBU.out u)).cell 1
          have m2 : ∀ u : BW K0 wr, u.w.cell? ⟨w.heap.size, 2, none⟩ = some (.int .i64 t.c) := fun u => (hax.out.keep (HBU.out u)).cell 2
          have m3 : ∀ u : BW K0 wr, u.w.cell? ⟨w.heap.size, 3, none⟩ = some (.int .i64 t.d) := fun u => (hax.out.keep (HBU.out u)).cell 3
          have m4 : ∀ u : BW K0 wr, u.w.cell? ⟨w.heap.size, 4, none⟩ = some (.int .i64 t.e) := fun u => (hax.out.keep (HBU.out u)).cell 4
          have m5 : ∀ u : BW K0 wr, u.w.cell? ⟨w.heap.size, 5, none⟩ = some (.int .i64 t.f) := fun u => (hax.out.keep (HBU.out u)).cell 5
          clear hp hq hff hK0 hyj
          go_upto_region 15 with fail
          refine wp_region_bw_tail K0 wr 9 (Below.refl _ _) (by kernel_rfl) (by kernel_rfl) ?_
          simp only [List.take_succ_cons, List.take_zero, List.drop_succ_cons, List.drop_zero]
          repeat (go_big_quiet_step (first | (go_at_call 44; exact calls_bw HK0.out (HIP.out _))))
          refine wpQuiet_nil ?_
          rintro _ ⟨v9, rfl⟩
          have HB5 := Lib.hid (HBU.out v9)
          generalize v9.w = w5 at *
          clear b0 b1 m0 m1 m2 m3 m4 m5 HBU HK0 HIP
          have HO5 : Hid (w5.ownsRow w.heap.size 35 7 (.slice xo i co) i xs) := (Fr.of_below (B := 0) HB5.out []).owns hox.out (by simp)
          have HS5 := Lib.hid (hsx.out.keep HB5.out)
          have HA5 := Lib.hid (hax.out.keep HB5.out)
          have HB6 := Lib.hid (hbx.out.trans (HB5.out.mono hbx.out.size))
          have t0 : w5.cell? ⟨S, 1 + j * 2, none⟩ = some (.int .i64 (y.pt j).1) := by rw [HS5.out.cell, (sg_cells y j hj3).1]
          have t1 : w5.cell? ⟨S, 1 + j * 2 + 1, none⟩ = some (.int .i64 (y.pt j).2) := by rw [HS5.out.cell, (sg_cells y j hj3).2]
          have f0 := HS5.out.frozen (1 + j * 2)
          have f1 := HS5.out.frozen (1 + j * 2 + 1)
          obtain ⟨y', hy'⟩ : ∃ y', y' = putN (putN y (2 * j) X) (2 * j + 1) Y := ⟨_, rfl⟩
          have hpp := put_pt y j hj3 X Y
          rw [← hy'] at hpp
          have HYJ := Lib.hid hpp.1
          have HSN : Hid (Blk ((w5.setCell ⟨S, 1 + j * 2, none⟩ (.int .i64 X)).setCell ⟨S, 1 + j * 2 + 1, none⟩ (.int .i64 Y)) S 35 (sgC y')) := by
            have h := (HS5.out.put (1 + j * 2) (.int .i64 X)).put (1 + j * 2 + 1) (.int .i64 Y)
            rw [sgC_put y j hj3, ← hy'] at h
            exact h
          have HYK : Hid (y'.1 = k) := by show _ = _; rw [hy', putN_kind, putN_kind]; exact hyk.out
          have HYP : Hid (∀ m, j + 1 ≤ m → m < 3 → y'.pt m = z.pt m) := fun m h1 h2 => by rw [hpp.2 m (by omega) h2]; exact hyp.out m (by omega) h2
          have HON : Hid (((w5.setCell ⟨S, 1 + j * 2, none⟩ (.int .i64 X)).setCell ⟨S, 1 + j * 2 + 1, none⟩ (.int .i64 Y)).ownsRow w.heap.size 35 7 (.slice xo i co) i xs) :=
            ownsRow_setCell_other (ownsRow_setCell_other HO5.out (a := ⟨S, _, none⟩) (by intro e; have := HRS.out S e; omega) _) (a := ⟨S, _, none⟩) (by intro e; have := HRS.out S e; omega) _
          have HAN : Hid (Blk ((w5.setCell ⟨S, 1 + j * 2, none⟩ (.int .i64 X)).setCell ⟨S, 1 + j * 2 + 1, none⟩ (.int .i64 Y)) w.heap.size 45 #[.int .i64 t.a, .int .i64 t.b, .int .i64 t.c, .int .i64 t.d, .int .i64 t.e, .int .i64 t.f]) := (HA5.out.other (p := ⟨S, _, none⟩) (by show _ ≠ S; have := HAS.out; omega) _).other (p := ⟨S, _, none⟩) (by show _ ≠ S; have := HAS.out; omega) _
          have HBN : Hid (Below w.heap.size w ((w5.setCell ⟨S, 1 + j * 2, none⟩ (.int .i64 X)).setCell ⟨S, 1 + j * 2 + 1, none⟩ (.int .i64 Y))) := (HB6.out.setCell (Nat.le_of_lt HAS.out) _).setCell (Nat.le_of_lt HAS.out) _
          clear hy' hpp hyp hyk hsx hox hax hbx HO5 HS5 HA5 HB6 HB5
          go_upto_region 16 with fail
          generalize ((w5.setCell ⟨S, 1 + j * 2, none⟩ (.int .i64 X)).setCell ⟨S, 1 + j * 2 + 1, none⟩ (.int .i64 Y)) = w6 at *
          clear t0 t1 f0 f1
          have b0 : w6.cell? ⟨S, 1 + j * 2, none⟩ = some (.int .i64 X) := by rw [HSN.out.cell, (sg_cells y' j hj3).1, HYJ.out]
          have b1 : w6.cell? ⟨S, 1 + j * 2 + 1, none⟩ = some (.int .i64 Y) := by rw [HSN.out.cell, (sg_cells y' j hj3).2, HYJ.out]
          go_wp2_with fail
          refine (HNE.out _).mono ?_
          rintro e w7 ⟨rfl, hb7⟩
          have HB7 := Lib.hid hb7
          clear hb7 b0 b1
          cases ff with
          | true =>
            have HNO : Hid (RpOk t l (.returned (.tuple #[.slice none 0 0, .int .i64 2]))) := by
              refine ⟨none, 0, 0, ?_⟩
              rw [if_neg (fun h => by
                have h1 := bad_at (t := t) (s := z) (j := j) (by rw [HUE.out]; exact hlj) (by rw [HQ.out]; exact HFF.out)
                rw [(goodB_iff t l).1 h z HSM.out] at h1; cases h1)]
            go_wp2_with fail
            go_ret2
            exact ⟨HNO.out, HBN.out.trans (HB7.out.mono HBN.out.size)⟩
          | false =>
            have HO7 : Hid (w7.ownsRow w.heap.size 35 7 (.slice xo i co) i xs) := (Fr.of_below (B := 0) HB7.out []).owns HON.out (by simp)
            have HS7 := Lib.hid (HSN.out.keep HB7.out)
            have HA7 := Lib.hid (HAN.out.keep HB7.out)
            have HB8 := Lib.hid (HBN.out.trans (HB7.out.mono HBN.out.size))
            have HGD : Hid (∀ j', j' < j + 1 → farP (imgP t (z.pt j')) = false) := by
              intro j' h
              by_cases he : j' = j
              · subst he; rw [HQ.out]; exact HFF.out
              · exact hgd.out j' (by omega)
            clear hgd HON HSN HAN HBN HB7
            go_wp2_with fail
            go_roundw
            case rel => exact ⟨j + 1, y', by go_num, by omega, HYK, HYP, HGD, HS7, HO7, HA7, HB8⟩
            case measure => simp [intOf]; omega
        · have hdj : decide ((j : Int) < (u : Int)) = false := by simp; omega
          go_wp2_with fail
          refine (HUS.out _).mono ?_
          rintro e w' ⟨rfl, rfl⟩
          clear z0
          have hju : j = u := by omega
          have HGN : Hid (∀ j (h : j < l.length), j < i + 1 → plBad t l[j] = false) := by
            intro j' h hj'
            by_cases he : j' = i
            · subst he
              rw [HS.out]
              exact good_all fun m hm => hgd.out m (by rw [HUE.out] at hm; omega)
            · exact hbd.out j' h (by omega)
          obtain ⟨k', ⟨a1, a2⟩, ⟨a3, a4⟩, ⟨a5, a6⟩⟩ := y
          have s0 : wr.cell? ⟨S, 0, none⟩ = some (.int .i64 k') := hsx.out.cell 0
          have s1 : wr.cell? ⟨S, 1, none⟩ = some (.int .i64 a1) := hsx.out.cell 1
          have s2 : wr.cell? ⟨S, 2, none⟩ = some (.int .i64 a2) := hsx.out.cell 2
          have s3 : wr.cell? ⟨S, 3, none⟩ = some (.int .i64 a3) := hsx.out.cell 3
          have s4 : wr.cell? ⟨S, 4, none⟩ = some (.int .i64 a4) := hsx.out.cell 4
          have s5 : wr.cell? ⟨S, 5, none⟩ = some (.int .i64 a5) := hsx.out.cell 5
          have s6 : wr.cell? ⟨S, 6, none⟩ = some (.int .i64 a6) := hsx.out.cell 6
          have hown := hox.out
          have hszr := hbx.out.size
          clear hgd hyk hyp hju
          go_wp2_with (at_builtin; refine wpList_app el_sg hown hszr rfl rfl rfl (m := 0) rfl (by simp [Value.oneCell']) rfl (by omega) (by unfold maxLen; omega) ?_)
          intro r2 cap2 w5 ho5 hg5 _
          have HO5 := Lib.hid ho5
          have hal := hax.out.alloc (.cells #[.int .i64 k', .int .i64 a1, .int .i64 a2, .int .i64 a3, .int .i64 a4, .int .i64 a5, .int .i64 a6] 35)
          have HA5 : Hid (Blk w5 w.heap.size 45 #[.int .i64 t.a, .int .i64 t.b, .int .i64 t.c, .int .i64 t.d, .int .i64 t.e, .int .i64 t.f]) := (hg5.block _ hal.lt (own_blk_ne' hal (World.ownsRow.alloc hox.out _).2 (by decide))).trans hal
          have HB5 : Hid (Below w.heap.size w w5) := (below_app hbx.out hszr hown hg5).1
          clear s0 s1 s2 s3 s4 s5 s6 hown hszr ho5 hg5 hal hsx hox hax hbx
          go_wp2_with fail
          go_roundw
          case rel => exact ⟨i + 1, _, _, _, by go_num, rfl, by omega, HGN, HO5.out, HA5, HB5⟩
          case measure => simp [intOf]; omega
    · have hd : decide ((i : Int) < (l.length : Int)) = false := by simp; omega
      have HFI : Hid (RpOk t l (.returned (.tuple #[.slice xo i co, .int .i64 0]))) := by
        have hg : goodB t l = true := (goodB_iff t l).2 fun s hs => by
          obtain ⟨j, hj, rfl⟩ := List.getElem_of_mem hs
          exact hbd.out j hj (by omega)
        exact ⟨_, _, _, by rw [if_pos hg]⟩
      clear how hka hbd
      go_wp2_with fail
      go_ret2
      exact ⟨HFI.out, hbw.out⟩
end Go.Proofs.YtgjbelcnkmcbiaaDoor
