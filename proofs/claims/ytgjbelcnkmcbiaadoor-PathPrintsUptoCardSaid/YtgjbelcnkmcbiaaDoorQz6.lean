/-
  Walk: Print of the reference: the text of a path.
-/
import Derived.Test.YtgjbelcnkmcbiaaDoorQz3
import Derived.Test.YtgjbelcnkmcbiaaDoorQz4
import Derived.Test.YtgjbelcnkmcbiaaDoorQv
import Derived.Test.YtgjbelcnkmcbiaaDoorQr
namespace Go.Proofs.YtgjbelcnkmcbiaaDoor
open Go.RowKit

theorem seg_x (s : Sg) (h : ptsBad s = false) : ∀ x ∈ segW s, x.length ≤ 21 := fun x hx => words_x [s] (by intro t ht; rw [List.mem_singleton.1 ht]; exact h) x (by simpa [wordsP] using hx)
theorem segK_len (s : Sg) (h : ptsBad s = false) (j : Nat) (hj : j ≤ usedP s.1) : (joinP (segK s j)).length ≤ 154 := by
  have h1 : ∀ x ∈ segK s j, x.length ≤ 21 := by
    intro x hx
    apply seg_x s h
    unfold segK at hx
    unfold segW
    rcases List.mem_cons.1 hx with rfl | hx
    · simp
    · obtain ⟨v, hv, rfl⟩ := List.mem_map.1 hx
      have hv2 : v ∈ (nums s).take (2 * usedP s.1) := by
        have := List.take_subset_take_left (nums s) (show 2 * j ≤ 2 * usedP s.1 by omega)
        exact this hv
      exact List.mem_cons_of_mem _ (List.mem_map_of_mem hv2)
  have h2 := joinP_len (segK s j) h1
  have h3 : (segK s j).length ≤ 7 := by unfold segK; simp [nums]; omega
  omega
theorem print_len2 {l : List Sg} (h : chkP l = 0) (i : Nat) : (printP (l.take i)).length ≤ 19712 := by
  have h1 := joinP_len (wordsP (l.take i)) (words_x _ fun s hs => (chk_all h s (List.mem_of_mem_take hs)).2.2)
  have h2 := words_len (l.take i)
  have h3 := (chkP_ok h).1
  have h4 : (l.take i).length ≤ l.length := by simp; omega
  unfold printP
  omega
theorem seg_cells {w : World} {b off i : Nat} {s : Sg} (h : SCell w b off i s) (j : Nat) (hj : j < 3) :
    w.cell? ⟨b, off + i * 7 + 1 + j * 2, none⟩ = some (.int .i64 (s.pt j).1) ∧ w.cell? ⟨b, off + i * 7 + 1 + j * 2 + 1, none⟩ = some (.int .i64 (s.pt j).2) := by
  obtain ⟨h1, h2, h3, h4, h5, h6, h7⟩ := h
  rcases (by omega : j = 0 ∨ j = 1 ∨ j = 2) with rfl | rfl | rfl
  · exact ⟨h2, h3⟩
  · exact ⟨h4, h5⟩
  · exact ⟨h6, h7⟩
theorem ba_app (a b : List UInt8) : (⟨a.toArray⟩ : ByteArray) ++ ⟨b.toArray⟩ = ⟨(a ++ b).toArray⟩ := by
  apply ba_ext1
  simp
theorem ba_size (a : List UInt8) : (⟨a.toArray⟩ : ByteArray).size = a.length := by simp [ByteArray.size]

set_option maxRecDepth 100000 in
set_option maxHeartbeats 4000000 in
theorem rprint_any (v : Value) (l : List Sg) (w : World) (hr : SRow w v l) : Calls Tryd.prog 24 #[v] w fun e w' => PrOk l e ∧ Below w.heap.size w w' := by
  have HCK := Lib.hid (rcheck_any v l w hr)
  obtain ⟨x, c, rfl, hc1, hc2, -⟩ := id hr
  unfold maxLen at hc2
  have HSR := Lib.hid hr
  clear hr
  by_cases h0 : chkP l = 0
  · have hall := Lib.hid (chk_all h0)
    have HPL := Lib.hid (print_len2 h0)
    have hln := (chkP_ok h0).1
    have HR : Hid (∀ e, PrOk l e = (e = .returned (.tuple #[.string ⟨(printP l).toArray⟩, .int .i64 0]))) := by
      intro e; unfold PrOk; rw [if_pos h0]
    rw [h0] at HCK
    clear h0
    go_enter Tryd.func24, Tryd.ntmps24
    go_wp2_with fail
    refine HCK.out.mono ?_
    rintro e w1 ⟨rfl, hb1⟩
    have HB1 := Lib.hid hb1
    clear hb1 HCK
    go_wp2_with fail
    go_loopw [5, 6] (fun vo vi wr => ∃ (i : Nat) (OB : ByteArray), vo = .string OB ∧ vi = .int .i64 i ∧ i ≤ l.length ∧ Hid (OB = ⟨(printP (l.take i)).toArray⟩) ∧ Hid (Below w.heap.size w wr)) (fun _ vi _ => l.length - (intOf vi).toNat)
    case atStart => exact ⟨0, ⟨#[]⟩, rfl, rfl, Nat.zero_le _, rfl, HB1.out⟩
    case round =>
      obtain ⟨i, OB, rfl, rfl, hi, hob, hbw⟩ := hrel
      by_cases hlt : i < l.length
      · have hd : decide ((i : Int) < (l.length : Int)) = true := by simp; omega
        have hrw := HSR.out.below hbw.out
        obtain ⟨bb, off, rfl, hcl, -⟩ := hrw.at i hlt
        have hq := hcl i hlt
        have hso := hall.out l[i] (List.getElem_mem hlt)
        have HAT := Lib.hid (print_at l i hlt)
        have hsb : OB.size ≤ 19712 := by rw [hob.out, ba_size]; exact HPL.out i
        obtain ⟨s, hm⟩ : ∃ s : Sg, l[i] = s := ⟨_, rfl⟩
        rw [hm] at hq hso HAT
        have hkr : ∃ k, s.1 = k := ⟨_, rfl⟩
        obtain ⟨k, hk⟩ := hkr
        obtain ⟨hk1, hk5, hbad⟩ := hso
        have q1 := hq.1
        rw [hk] at q1 hk1 hk5
        have HSC : Hid (∀ W, Below wr.heap.size wr W → ∀ j, j < 3 → W.cell? ⟨bb, off + i * 7 + 1 + j * 2, none⟩ = some (.int .i64 (s.pt j).1) ∧ W.cell? ⟨bb, off + i * 7 + 1 + j * 2 + 1, none⟩ = some (.int .i64 (s.pt j).2)) := by
          intro W hb j hj
          obtain ⟨a1, a2⟩ := seg_cells hq j hj
          exact ⟨(hb.cell (p := ⟨bb, _, none⟩) (World.block_lt_of_cell? wr _ a1)).trans a1, (hb.cell (p := ⟨bb, _, none⟩) (World.block_lt_of_cell? wr _ a2)).trans a2⟩
        obtain ⟨pre, hpre⟩ : ∃ pre : List UInt8, (if 0 < i then printP (l.take i) ++ [32] else printP (l.take i)) = pre := ⟨_, rfl⟩
        rw [hpre] at HAT
        have hpl : pre.length ≤ 19713 := by have := HPL.out i; rw [← hpre]; split <;> simp <;> omega
        obtain ⟨OC, hOC⟩ : ∃ OC : ByteArray, OC = ⟨pre.toArray⟩ := ⟨_, rfl⟩
        have hsc : OC.size ≤ 19713 := by rw [hOC, ba_size]; exact hpl
        have HC1 : Hid (0 < i → OB ++ ⟨#[32]⟩ = OC) := by
          intro h; rw [hob.out, hOC, ← hpre, if_pos h]; exact ba_app _ [32]
        have HC2 : Hid (¬ 0 < i → OC = OB) := by
          intro h; rw [hob.out, hOC, ← hpre, if_neg h]
        have HOC := Lib.hid hOC
        have HSL := Lib.hid (letters k hk1 hk5)
        obtain ⟨SL, hSL⟩ : ∃ SL : ByteArray, SL = ⟨(letP k).toArray⟩ := ⟨_, rfl⟩
        have hlt' := letters k hk1 hk5
        rw [← hSL] at hlt'
        have hszL : SL.size = 1 := by rw [hSL, ba_size, let_len]
        obtain ⟨OD, hOD⟩ : ∃ OD : ByteArray, OC ++ SL = OD := ⟨_, rfl⟩
        have HOD : Hid (OD = ⟨(pre ++ joinP (segK s 0)).toArray⟩) := by show _ = _; rw [← hOD, hOC, hSL, segK_zero, hk]; exact ba_app _ _
        have ek : wrap64 (k - 1) = k - 1 := wrap64_of _ (by omega)
        have e1 : (0 : Int) ≤ k - 1 := by omega
        have e2 : k - 1 ≤ k := by omega
        have HU := Lib.hid (fun w => rused_any k w)
        have hrk := rusP_ok k hk1 hk5
        rw [hrk] at HU
        have hu3 := used_le k
        have HSK := Lib.hid (fun j (h : j < 3) => segK_succ s j h)
        have HEN := Lib.hid (segK_end s)
        rw [hk] at HEN
        have HLN : Hid (∀ j, j ≤ usedP k → (joinP (segK s j)).length ≤ 154) := fun j hj => segK_len s hbad j (by rw [hk]; exact hj)
        have HNS : Hid (∀ j, j < 3 → -9223372036854775808 ≤ (s.pt j).1 ∧ (s.pt j).1 ≤ 9223372036854775807 ∧ -9223372036854775808 ≤ (s.pt j).2 ∧ (s.pt j).2 ≤ 9223372036854775807) := by
          intro j hj
          obtain ⟨n1, n2, n3⟩ := near_pts hbad
          unfold nearP near24 at n1 n2 n3
          rcases (by omega : j = 0 ∨ j = 1 ∨ j = 2) with rfl | rfl | rfl <;> simp [Sg.pt] <;> omega
        clear hpre hob hOC hSL hrk hbad hm hq hcl hrw HPL HSL
        by_cases h0 : 0 < i
        case' pos =>
          have d0 : decide (0 < i) = true := by simp; omega
          have hcat := HC1.out h0
          clear HC1 HC2 h0
          go_upto_region 10 with fail
        case' neg =>
          have d0 : decide (0 < i) = false := by simp; omega
          have hcat := HC2.out h0
          subst hcat
          clear HC1 HC2 h0
          go_upto_region 10 with fail
        all_goals
          obtain ⟨u, hu⟩ : ∃ u, usedP k = u := ⟨_, rfl⟩
          rw [hu] at hu3 HU HEN HLN
          clear hu d0 hsb
          go_quiet (fail)
          (try clear hcat)
          clear hlt' hOD ek e1 e2
          have HBQ := Lib.hid (below_drewN hbw.out nq)
          have HQK : Hid (∀ W, Below wr.heap.size (wr.drewN nq) W → W.cell? ⟨bb, off + i * 7, none⟩ = some (.int .i64 k)) := fun W hb => (((below_drewN (Below.refl _ _) nq).trans hb).cell (p := ⟨bb, _, none⟩) (World.block_lt_of_cell? wr _ q1)).trans q1
          clear q1
          have HSQ := Lib.hid (fun W (hb : Below wr.heap.size (wr.drewN nq) W) => HSC.out W ((below_drewN (Below.refl _ _) nq).trans hb))
          go_wp2_with fail
          obtain ⟨wo, hwo⟩ : ∃ wo, wo = wr := ⟨_, rfl⟩
          rw [← hwo] at HBQ HSQ HQK
          go_loopw [5, 7] (fun vo vj wj => ∃ (j : Nat) (O : ByteArray), vo = .string O ∧ vj = .int .i64 j ∧ j ≤ u ∧ Hid (O = ⟨(pre ++ joinP (segK s j)).toArray⟩) ∧ Hid (Below wo.heap.size (wo.drewN nq) wj)) (fun _ vj _ => u - (intOf vj).toNat)
          case atStart => exact ⟨0, OD, rfl, rfl, Nat.zero_le _, HOD.out, by rw [hwo]; exact Below.refl _ _⟩
          case round =>
            obtain ⟨j, O, rfl, rfl, hj, ho, hbj⟩ := hrel
            have q1 := HQK.out _ hbj.out
            have HBJ : Hid (Below w.heap.size w wr) := HBQ.out.trans (hbj.out.mono HBQ.out.size)
            by_cases hlj : j < u
            · have hdj : decide ((j : Int) < (u : Int)) = true := by simp; omega
              obtain ⟨z0, z1⟩ := HSQ.out _ hbj.out j (by omega)
              have HSJ := HSK.out j (by omega)
              obtain ⟨px, py, hp⟩ : ∃ px py, s.pt j = (px, py) := ⟨_, _, rfl⟩
              obtain ⟨hp1, hp2, hp3, hp4⟩ := HNS.out j (by omega)
              rw [hp] at z0 z1 hp1 hp2 hp3 hp4 HSJ
              simp only at z0 z1 hp1 hp2 hp3 hp4 HSJ
              have hso : O.size ≤ 19867 := by rw [ho.out, ba_size]; have := HLN.out j hj; simp; omega
              obtain ⟨SX, hSX⟩ : ∃ SX : ByteArray, SX = ⟨(Lib.itoa px).toArray⟩ := ⟨_, rfl⟩
              obtain ⟨SY, hSY⟩ : ∃ SY : ByteArray, SY = ⟨(Lib.itoa py).toArray⟩ := ⟨_, rfl⟩
              have HN1 := Lib.hid (rNumber_any px hp1 hp2)
              have HN2 := Lib.hid (rNumber_any py hp3 hp4)
              rw [← hSX] at HN1
              rw [← hSY] at HN2
              have hsx : SX.size ≤ 21 := by rw [hSX, ba_size]; exact itoa_len px hp1 hp2
              have hsy : SY.size ≤ 21 := by rw [hSY, ba_size]; exact itoa_len py hp3 hp4
              obtain ⟨ON, hON⟩ : ∃ ON : ByteArray, (((O ++ ⟨#[32]⟩) ++ SX) ++ ⟨#[32]⟩) ++ SY = ON := ⟨_, rfl⟩
              have HON : Hid (ON = ⟨(pre ++ joinP (segK s (j + 1))).toArray⟩) := by
                show _ = _
                rw [← hON, HSJ, ho.out, hSX, hSY]
                rw [show (⟨#[32]⟩ : ByteArray) = ⟨[32].toArray⟩ from rfl, ba_app, ba_app, ba_app, ba_app]
                simp
              have hblk := World.block_lt_of_cell? wr _ z0
              obtain ⟨K0, hK0⟩ : ∃ K0, K0 = wr.heap.size := ⟨_, rfl⟩
              have HK0 : Hid (K0 ≤ wr.heap.size) := by show _ ≤ _; omega
              have c0 : ∀ u : BW K0 wr, u.w.cell? ⟨bb, off + i * 7 + 1 + j * 2, none⟩ = some (.int .i64 px) := fun u => (u.b.cell (p := ⟨bb, _, none⟩) (by show bb < K0; rw [hK0]; exact hblk)).trans z0
              have c1 : ∀ u : BW K0 wr, u.w.cell? ⟨bb, off + i * 7 + 1 + j * 2 + 1, none⟩ = some (.int .i64 py) := fun u => (u.b.cell (p := ⟨bb, _, none⟩) (by show bb < K0; rw [hK0]; exact hblk)).trans z1
              have HBZ : Hid (∀ u : BW K0 wr, Below wo.heap.size (wo.drewN nq) u.w) := fun u => hbj.out.trans (u.b.mono (by have := hbj.out.size; simp only [World.drewN] at this; omega))
              clear hblk hK0 ho hp hSX hSY hp1 hp2 hp3 hp4 HSJ hbj
              go_wp2_with fail
              refine (HU.out _).mono ?_
              rintro e w2 ⟨rfl, rfl⟩
              go_upto_region 14 with fail
              clear z0 z1 q1
              refine wp_region_bw K0 wr (Below.refl _ _) (by kernel_rfl) (by kernel_rfl) ?_
              repeat (go_big_quiet_step (first
                | (go_at_call_of 47 (Value.int .i64 px); exact calls_bw HK0.out (HN1.out _))
                | (go_at_call_of 47 (Value.int .i64 py); exact calls_bw HK0.out (HN2.out _))))
              refine wpQuiet_nil ?_
              rintro _ ⟨u2, rfl⟩
              have HBZ := Lib.hid (HBZ.out u2)
              generalize u2.w = wy at *
              clear c0 c1 hON HN1 HN2
              go_wp2_with fail
              go_roundw
              case rel => exact ⟨j + 1, ON, rfl, by go_num, by omega, HON, HBZ⟩
              case measure => simp [intOf]; omega
            · have hdj : decide ((j : Int) < (u : Int)) = false := by simp; omega
              have hju : j = u := by omega
              subst hju
              have HZ : Hid (O = ⟨(printP (l.take (i + 1))).toArray⟩) := by show _ = _; rw [ho.out, HEN.out, ← HAT.out]
              clear ho
              go_wp2_with fail
              refine (HU.out _).mono ?_
              rintro e w2 ⟨rfl, rfl⟩
              go_wp2_with fail
              go_roundw
              case rel => exact ⟨i + 1, O, rfl, by go_num, by omega, HZ, HBJ⟩
              case measure => simp [intOf]; omega
      · have hd : decide ((i : Int) < (l.length : Int)) = false := by simp; omega
        have hi2 : i = l.length := by omega
        have HZ : Hid (OB = ⟨(printP l).toArray⟩) := by show _ = _; rw [hob.out, hi2, List.take_length]
        clear hob
        go_wp2_with fail
        go_ret2
        exact ⟨by rw [HR.out, ← HZ.out]; rfl, hbw.out⟩
  · have HR : Hid (∀ e, PrOk l e = (e = .returned (.tuple #[.string ⟨#[]⟩, .int .i64 (chkP l)]))) := by
      intro e; unfold PrOk; rw [if_neg h0]
    generalize chkP l = z at *
    have hz : (z != 0) = true := by simpa using h0
    clear HSR
    go_enter Tryd.func24, Tryd.ntmps24
    go_wp2_with fail
    refine HCK.out.mono ?_
    rintro e w1 ⟨rfl, hb1⟩
    have HB1 := Lib.hid hb1
    clear hb1 HCK
    go_wp2_with fail
    go_ret2
    exact ⟨by rw [HR.out]; rfl, HB1.out⟩
end Go.Proofs.YtgjbelcnkmcbiaaDoor
