/-
  Walks, in the references of png and digest: four, number, letters, Crc.
-/
import Derived.Test.YthbejefodelpkaaGreatZO
namespace Go.Proofs.YthbejefodelpkaaGreat
open Go.RowKit
set_option maxRecDepth 100000

set_option maxHeartbeats 2000000 in
theorem vfour_any (n : Nat) (hn : n < 4294967296) (w : World) : Calls Tryz.prog 37 #[.int .i64 n] w fun e w' => e = .returned (.string ⟨(be4 n).toArray⟩) ∧ Below w.heap.size w w' := by
  have HW := Lib.hid (fun (o : Obj) => (Below.refl w.heap.size w).alloc (Nat.le_refl _) o)
  have w1 : IntKind.u8.wrap ((n : Int) / 16777216 % 256) = (n : Int) / 16777216 := by rw [IntKind.wrap_u8]; omega
  have w2 : IntKind.u8.wrap ((n : Int) / 65536 % 256) = (n : Int) / 65536 % 256 := by rw [IntKind.wrap_u8]; omega
  have w3 : IntKind.u8.wrap ((n : Int) / 256 % 256) = (n : Int) / 256 % 256 := by rw [IntKind.wrap_u8]; omega
  have w4 : IntKind.u8.wrap ((n : Int) % 256) = (n : Int) % 256 := by rw [IntKind.wrap_u8]; omega
  have v1 : (n : Int) / 16777216 % 256 = (n : Int) / 16777216 := by omega
  have hk := Blk.new w 5 #[.int .u8 ((n : Int) / 16777216), .int .u8 ((n : Int) / 65536 % 256), .int .u8 ((n : Int) / 256 % 256), .int .u8 ((n : Int) % 256)]
  have hc := conv4 n hn (w.alloc (.cells #[.int .u8 ((n : Int) / 16777216), .int .u8 ((n : Int) / 65536 % 256), .int .u8 ((n : Int) / 256 % 256), .int .u8 ((n : Int) % 256)] 5)) w.heap.size (hk.cell 0) (hk.cell 1) (hk.cell 2) (hk.cell 3)
  clear hk
  go_enter Tryz.func37, Tryz.ntmps37
  go_wp2_with fail
  go_ret
  exact ⟨rfl, HW.out _⟩

set_option maxHeartbeats 4000000 in
theorem vnumber_any (s : ByteArray) (w : World) (hs : 4 ≤ s.size) : Calls Tryz.prog 35 #[.string s] w fun e w' => e = .returned (.int .i64 (beP (s.data.toList.take 4) : Nat)) ∧ Below w.heap.size w w' := by
  obtain ⟨a, ha⟩ : ∃ x, (s[0]'(by omega)) = x := ⟨_, rfl⟩
  obtain ⟨b, hb⟩ : ∃ x, (s[1]'(by omega)) = x := ⟨_, rfl⟩
  obtain ⟨c, hc⟩ : ∃ x, (s[2]'(by omega)) = x := ⟨_, rfl⟩
  obtain ⟨d, hd⟩ : ∃ x, (s[3]'(by omega)) = x := ⟨_, rfl⟩
  have hl : s.data.toList.length = s.size := by simp
  have ht : s.data.toList.take 4 = [a, b, c, d] := by
    have e : ∀ k (h : k < s.data.toList.length), s.data.toList[k] = s[k]'(by omega) := fun k h => rfl
    match hL : s.data.toList, hl with
    | x0 :: x1 :: x2 :: x3 :: r, hl =>
      simp only [List.take_succ_cons, List.take_zero]
      have e0 := e 0 (by rw [hL]; simp)
      have e1 := e 1 (by rw [hL]; simp)
      have e2 := e 2 (by rw [hL]; simp)
      have e3 := e 3 (by rw [hL]; simp)
      simp only [hL, List.getElem_cons_zero, List.getElem_cons_succ] at e0 e1 e2 e3
      rw [e0.trans ha, e1.trans hb, e2.trans hc, e3.trans hd]
    | [], hl => exact absurd hl (by simp; omega)
    | [_], hl => exact absurd hl (by simp; omega)
    | [_, _], hl => exact absurd hl (by simp; omega)
    | [_, _, _], hl => exact absurd hl (by simp; omega)
  have la := a.toNat_lt
  have lb := b.toNat_lt
  have lc := c.toNat_lt
  have ld := d.toNat_lt
  have HE : Hid (((beP (s.data.toList.take 4) : Nat) : Int) = (a.toNat : Int) * 16777216 + (b.toNat : Int) * 65536 + (c.toNat : Int) * 256 + (d.toNat : Int)) := by
    show _ = _
    rw [ht]
    unfold beP
    simp only [List.foldl_cons, List.foldl_nil]
    omega
  have h0 : (0 : Int) < (s.size : Int) := by omega
  have h1 : (1 : Int) < (s.size : Int) := by omega
  have h2 : (2 : Int) < (s.size : Int) := by omega
  have h3 : (3 : Int) < (s.size : Int) := by omega
  have k0 : 0 < s.size := by omega
  have k1 : 1 < s.size := by omega
  have k2 : 2 < s.size := by omega
  have k3 : 3 < s.size := by omega
  have wa : IntKind.i64.wrap (a.toNat : Int) = (a.toNat : Int) := by rw [IntKind.wrap_i64]; omega
  have wb : IntKind.i64.wrap (b.toNat : Int) = (b.toNat : Int) := by rw [IntKind.wrap_i64]; omega
  have wc : IntKind.i64.wrap (c.toNat : Int) = (c.toNat : Int) := by rw [IntKind.wrap_i64]; omega
  have wd : IntKind.i64.wrap (d.toNat : Int) = (d.toNat : Int) := by rw [IntKind.wrap_i64]; omega
  have m1 : IntKind.i64.wrap ((a.toNat : Int) * 16777216) = (a.toNat : Int) * 16777216 := by rw [IntKind.wrap_i64]; omega
  have m2 : IntKind.i64.wrap ((b.toNat : Int) * 65536) = (b.toNat : Int) * 65536 := by rw [IntKind.wrap_i64]; omega
  have m3 : IntKind.i64.wrap ((c.toNat : Int) * 256) = (c.toNat : Int) * 256 := by rw [IntKind.wrap_i64]; omega
  have s1 : IntKind.i64.wrap ((a.toNat : Int) * 16777216 + (b.toNat : Int) * 65536) = (a.toNat : Int) * 16777216 + (b.toNat : Int) * 65536 := by rw [IntKind.wrap_i64]; omega
  have s2 : IntKind.i64.wrap ((a.toNat : Int) * 16777216 + (b.toNat : Int) * 65536 + (c.toNat : Int) * 256) = (a.toNat : Int) * 16777216 + (b.toNat : Int) * 65536 + (c.toNat : Int) * 256 := by rw [IntKind.wrap_i64]; omega
  have s3 : IntKind.i64.wrap ((a.toNat : Int) * 16777216 + (b.toNat : Int) * 65536 + (c.toNat : Int) * 256 + (d.toNat : Int)) = (a.toNat : Int) * 16777216 + (b.toNat : Int) * 65536 + (c.toNat : Int) * 256 + (d.toNat : Int) := by rw [IntKind.wrap_i64]; omega
  have HBU : Hid (∀ u : BW w.heap.size w, Below w.heap.size w u.w) := fun u => u.b
  clear ht hl
  go_enter Tryz.func35, Tryz.ntmps35
  go_upto_region 1 with fail
  refine wp_region_bw w.heap.size w (Below.refl _ _) (by kernel_rfl) (by kernel_rfl) ?_
  repeat (go_big_quiet_step (fail))
  refine wpQuiet_nil ?_
  rintro _ ⟨v9, rfl⟩
  have HB1 := Lib.hid (HBU.out v9)
  generalize v9.w = w1 at *
  go_wp2_with fail
  go_ret
  refine ⟨?_, HB1.out⟩
  rw [HE.out]
  rfl

set_option maxHeartbeats 4000000 in
theorem vletters_any (s : ByteArray) (w : World) (hs : s.size ≤ maxLen) : Calls Tryz.prog 36 #[.string s] w fun e w' => e = .returned (.bool (nameP s.data.toList)) ∧ w = w' := by
  unfold maxLen at hs
  have HSZ : Hid (s.size = s.data.toList.length) := by show _ = _; simp
  go_enter Tryz.func36, Tryz.ntmps36
  go_wp2_with fail
  go_loopw [3] (fun vi wr => ∃ i : Nat, vi = .int .i64 i ∧ i ≤ s.size ∧ Hid (nameP s.data.toList = (decide (s.size = 4) && (s.data.toList.drop i).all letB)) ∧ Hid (w = wr)) (fun vi _ => s.size - (intOf vi).toNat)
  case atStart => exact ⟨0, rfl, Nat.zero_le _, by show _ = _; unfold nameP; rw [← HSZ.out, List.drop_zero]; rfl, rfl⟩
  case round =>
    obtain ⟨i, rfl, hi, hn, hwr⟩ := hrel
    have hsz := HSZ.out
    by_cases hlt : i < s.size
    · have hd : decide ((i : Int) < (s.size : Int)) = true := by simp; omega
      obtain ⟨b, hb⟩ : ∃ b, s[i] = b := ⟨_, rfl⟩
      have hbl : s.data.toList[i]'(by omega) = b := by rw [← hb]; rfl
      have HNX : Hid (nameP s.data.toList = (decide (s.size = 4) && (letB b && (s.data.toList.drop (i + 1)).all letB))) := by
        show _ = _
        rw [hn.out, List.drop_eq_getElem_cons (by omega), List.all_cons, hbl]
      have hbt := b.toNat_lt
      have HLB : Hid (letB b = ((decide (65 ≤ b.toNat) && decide (b.toNat ≤ 90)) || (decide (97 ≤ b.toNat) && decide (b.toNat ≤ 122)))) := rfl
      obtain ⟨n, hn2⟩ : ∃ n, b.toNat = n := ⟨_, rfl⟩
      rw [hn2] at HLB
      obtain ⟨lv, hlv⟩ : ∃ x, letB b = x := ⟨_, rfl⟩
      rw [hlv] at HLB HNX
      have HYES : Hid (lv = true → nameP s.data.toList = (decide (s.size = 4) && (s.data.toList.drop (i + 1)).all letB)) := fun h => by rw [HNX.out, h, Bool.true_and]
      have HNO : Hid (lv = false → nameP s.data.toList = false) := fun h => by rw [HNX.out, h, Bool.false_and, Bool.and_false]
      clear hbl hn hsz HNX hlv
      by_cases c1 : 65 ≤ n
      · have d1 : decide ((65 : Int) ≤ (n : Int)) = true := by simp; omega
        by_cases c2 : n ≤ 90
        · have d2 : decide ((n : Int) ≤ 90) = true := by simp; omega
          have HF := Lib.hid (HYES.out (by rw [HLB.out]; simp [c1, c2]))
          clear HYES HNO HLB
          go_wp2_with fail
          go_roundw
          case rel => exact ⟨i + 1, by go_num, by omega, HF, hwr⟩
          case measure => simp [intOf]; omega
        · have d2 : decide ((n : Int) ≤ 90) = false := by simp; omega
          by_cases c3 : 97 ≤ n
          · have d3 : decide ((97 : Int) ≤ (n : Int)) = true := by simp; omega
            by_cases c4 : n ≤ 122
            · have d4 : decide ((n : Int) ≤ 122) = true := by simp; omega
              have HF := Lib.hid (HYES.out (by rw [HLB.out]; simp [c3, c4]))
              clear HYES HNO HLB
              go_wp2_with fail
              go_roundw
              case rel => exact ⟨i + 1, by go_num, by omega, HF, hwr⟩
              case measure => simp [intOf]; omega
            · have d4 : decide ((n : Int) ≤ 122) = false := by simp; omega
              have HF := Lib.hid (HNO.out (by rw [HLB.out]; simp [c2, c4]))
              clear HYES HNO HLB
              go_wp2_with fail
              go_ret
              exact ⟨by rw [HF.out]; rfl, hwr.out⟩
          · have d3 : decide ((97 : Int) ≤ (n : Int)) = false := by simp; omega
            have HF := Lib.hid (HNO.out (by rw [HLB.out]; simp [c2, c3]))
            clear HYES HNO HLB
            go_wp2_with fail
            go_ret
            exact ⟨by rw [HF.out]; rfl, hwr.out⟩
      · have d1 : decide ((65 : Int) ≤ (n : Int)) = false := by simp; omega
        have c3 : ¬ 97 ≤ n := by omega
        have d3 : decide ((97 : Int) ≤ (n : Int)) = false := by simp; omega
        have HF := Lib.hid (HNO.out (by rw [HLB.out]; simp [c1, c3]))
        clear HYES HNO HLB
        go_wp2_with fail
        go_ret
        exact ⟨by rw [HF.out]; rfl, hwr.out⟩
    · have hd : decide ((i : Int) < (s.size : Int)) = false := by simp; omega
      have HF : Hid (nameP s.data.toList = decide (s.size = 4)) := by
        show _ = _
        rw [hn.out, List.drop_of_length_le (by omega)]; simp
      have h4 : ((s.size : Int) == 4) = decide (s.size = 4) := by
        by_cases h : s.size = 4
        · simp [h]
        · rw [decide_eq_false h, beq_eq_false_iff_ne]; omega
      clear hn hsz
      go_wp2_with fail
      go_ret
      exact ⟨by rw [HF.out]; rfl, hwr.out⟩

set_option maxHeartbeats 4000000 in
theorem vcrc_any (s : ByteArray) (w : World) (hs : s.size ≤ maxLen) : Calls Tryz.prog 38 #[.string s] w fun e w' => e = .returned (.int .u32 (crcP s.data.toList : Nat)) ∧ w = w' := by
  unfold maxLen at hs
  have HSZ : Hid (s.size = s.data.toList.length) := by show _ = _; simp
  go_enter Tryz.func38, Tryz.ntmps38
  go_wp2_with fail
  go_loopw [3, 4] (fun vc vi wr => ∃ (i c : Nat), vc = .int .u32 c ∧ vi = .int .i64 i ∧ i ≤ s.size ∧ c < 4294967296 ∧ Hid (c = crcGo 4294967295 (s.data.toList.take i)) ∧ Hid (w = wr)) (fun _ vi _ => s.size - (intOf vi).toNat)
  case atStart => exact ⟨0, 4294967295, rfl, rfl, Nat.zero_le _, by decide, rfl, rfl⟩
  case round =>
    obtain ⟨i, c, rfl, rfl, hi, hc, hcg, hwr⟩ := hrel
    have hsz := HSZ.out
    by_cases hlt : i < s.size
    · have hd : decide ((i : Int) < (s.size : Int)) = true := by simp; omega
      obtain ⟨b, hb⟩ : ∃ b, s[i] = b := ⟨_, rfl⟩
      have hbl : s.data.toList[i]'(by omega) = b := by rw [← hb]; rfl
      have hbt := b.toNat_lt
      have HNX : Hid (crcSteps 8 (c ^^^ b.toNat) = crcGo 4294967295 (s.data.toList.take (i + 1))) := by
        show _ = _
        rw [crcGo_take _ _ i (by omega), ← hcg.out, hbl, crcB_steps]
      have hcv : IntKind.u32.wrap (b.toNat : Int) = (b.toNat : Int) := by rw [IntKind.wrap_u32]; omega
      have hx := xor_u32 c b.toNat hc (by omega)
      have hxl := xor_lt32 c b.toNat hc (by omega)
      obtain ⟨x, hxe⟩ : ∃ x, c ^^^ b.toNat = x := ⟨_, rfl⟩
      rw [hxe] at hx hxl HNX
      clear hbl hcg hsz hxe
      go_wp2_with fail
      go_loopw [3, 5] (fun vc vj wx => ∃ (j c : Nat), vc = .int .u32 c ∧ vj = .int .i64 j ∧ j ≤ 8 ∧ c < 4294967296 ∧ Hid (crcSteps (8 - j) c = crcGo 4294967295 (s.data.toList.take (i + 1))) ∧ Hid (w = wx)) (fun _ vj _ => 8 - (intOf vj).toNat)
      case atStart => exact ⟨0, x, rfl, rfl, by decide, hxl, HNX.out, hwr.out⟩
      case round =>
        obtain ⟨j, c, rfl, rfl, hj, hc, hcs, hwx⟩ := hrel
        by_cases hlj : j < 8
        · have hdj : decide ((j : Int) < 8) = true := by simp; omega
          have ha := and1_u32 c hc
          have hst : crcSteps (8 - j) c = crcSteps (8 - (j + 1)) (crcStep c) := by rw [show 8 - j = (8 - (j + 1)) + 1 by omega]; rfl
          have HST : Hid (crcSteps (8 - (j + 1)) (crcStep c) = crcGo 4294967295 (s.data.toList.take (i + 1))) := by rw [← hst]; exact hcs.out
          have hslt := crcStep_lt c hc
          have hsh : (c : Int) / 2 = ((c / 2 : Nat) : Int) := by omega
          by_cases hm : c % 2 = 1
          · have hx := xor_u32 (c / 2) 3988292384 (by omega) (by decide)
            have e : crcStep c = c / 2 ^^^ 3988292384 := by unfold crcStep; rw [if_pos hm]
            rw [e] at HST hslt
            rw [hm] at ha
            generalize hz : c / 2 ^^^ 3988292384 = z at *
            generalize hy : c / 2 = y at *
            clear hm e hz hy hst hcs
            go_wp2_with fail
            go_roundw
            case rel => exact ⟨j + 1, z, by go_num, by go_num, by omega, hslt, HST, hwx⟩
            case measure => simp [intOf]; omega
          · have e : crcStep c = c / 2 := by unfold crcStep; rw [if_neg hm]
            rw [e] at HST hslt
            rw [show c % 2 = 0 by omega] at ha
            generalize hy : c / 2 = y at *
            clear hm e hy hst hcs
            go_wp2_with fail
            go_roundw
            case rel => exact ⟨j + 1, y, by go_num, by go_num, by omega, hslt, HST, hwx⟩
            case measure => simp [intOf]; omega
        · have hdj : decide ((j : Int) < 8) = false := by simp; omega
          have hj8 : j = 8 := by omega
          have HCG : Hid (c = crcGo 4294967295 (s.data.toList.take (i + 1))) := by
            show _ = _
            have := hcs.out
            rw [hj8] at this
            exact this
          clear hcs hj8
          go_wp2_with fail
          go_roundw
          case rel => exact ⟨i + 1, c, rfl, by go_num, by omega, hc, HCG, hwx⟩
          case measure => simp [intOf]; omega
    · have hd : decide ((i : Int) < (s.size : Int)) = false := by simp; omega
      have HF : Hid (crcP s.data.toList = 4294967295 - c) := by
        show _ = _
        unfold crcP
        rw [hcg.out, List.take_of_length_le (by omega)]
      have hnot := not_u32 c hc
      clear hcg hsz
      go_wp2_with fail
      go_ret
      refine ⟨?_, hwr.out⟩
      rw [HF.out]
      first | rfl | (rw [← hnot]; rfl)
end Go.Proofs.YthbejefodelpkaaGreat
