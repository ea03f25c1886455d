/-
  Walks: the law PamComments.
-/
import Derived.Test.YtakkdgcmeeilbaaDoorE6
import Derived.Deep.RegionHeld3
import Derived.Deep.CutRange
namespace Go.Proofs.YtakkdgcmeeilbaaDoor
open Go.RowKit

/-- A text without the bytes 10. -/
def no10 (l : List UInt8) : List UInt8 := l.filter fun b => b != 10
theorem no10_len (l : List UInt8) : (no10 l).length ≤ l.length := List.length_filter_le _ _
theorem no10_free (l : List UInt8) : (10 : UInt8) ∉ no10 l := by
  unfold no10
  intro h
  have := (List.mem_filter.1 h).2
  simp at this
theorem no10_snoc (l : List UInt8) (b : UInt8) : no10 (l ++ [b]) = no10 l ++ (if b = 10 then [] else [b]) := by
  unfold no10
  rw [List.filter_append]
  congr 1
  by_cases e : b = 10
  · rw [if_pos e, e]; rfl
  · rw [if_neg e, List.filter_cons, if_pos (by simpa using e)]; rfl

set_option maxHeartbeats 8000000 in
set_option maxRecDepth 100000 in
theorem lawComments (v mv : Value) (cm : ByteArray) (w : World) (htab : Lib.TabIs Tryd.prog w "internal/strconv.uint64pow10" .u64 Lib.pow10Tab) (hv : IArg w v) (hm : MArg w mv) (hcm : cm.size ≤ 1000000000000000) :
    Calls Tryd.prog 5 #[v, mv, .string cm] w fun e w' => e = .returned (.bool true) ∧ Below w.heap.size w w' := by
  obtain ⟨W, H, pv, px, rfl, hp⟩ := hv
  obtain ⟨ms, hm, -⟩ := hm
  obtain ⟨x, c, rfl, -, hcp, -⟩ := id hp
  obtain ⟨xm, cmm, rfl, -⟩ := id hm
  unfold maxLen at hcp
  have HA := Lib.hid (fun w h1 h2 h3 => pencode_run W H 16 (.slice x px.length c) (.slice xm ms.length cmm) px ms w h1 h2 h3)
  have HEX := Lib.hid (fun w => example_any w)
  have HBK1 := Lib.hid (fun h => enc_note (W := W) (H := H) (px := px) (ms := ms) h)
  generalize encS (encP W H px 16 ms) = s1 at *
  generalize encK (encP W H px 16 ms) = k1 at *
  have hba := (Below.refl w.heap.size w).alloc (Nat.le_refl _) (.cells #[.int .i64 W, .int .i64 H, .slice x px.length c] 24)
  have HP1 := Lib.hid (hp.below hba)
  have HM1 := Lib.hid (hm.below hba)
  have HT1 := Lib.hid (tab_below htab hba)
  have HK1 := Lib.hid (Blk.new w 24 #[.int .i64 W, .int .i64 H, .slice x px.length c])
  have HB1 := Lib.hid hba
  clear hp hm htab hba
  go_enter Tryd.func5, Tryd.ntmps5
  go_upto_region 1 with fail
  generalize w.alloc (.cells #[.int .i64 W, .int .i64 H, .slice x px.length c] 24) = wz at *
  generalize hB : w.heap.size = B at *
  have HBB := Lib.hid hB
  clear hB
  have y0 : wz.cell? ⟨B, 0, none⟩ = some (.int .i64 W) := HK1.out.cell 0
  have y1 : wz.cell? ⟨B, 1, none⟩ = some (.int .i64 H) := HK1.out.cell 1
  have y2 : wz.cell? ⟨B, 2, none⟩ = some (.slice x px.length c) := HK1.out.cell 2
  go_wp2_with fail
  refine (HA.out _ HP1.out HM1.out HT1.out).mono ?_
  rintro e w2 ⟨rfl, hb1⟩
  have HP3 := Lib.hid (HP1.out.below hb1)
  have HM3 := Lib.hid (HM1.out.below hb1)
  have HK3 : Hid (Blk w2 B 24 #[.int .i64 W, .int .i64 H, .slice x px.length c]) := (hb1.block _ HK1.out.lt).trans HK1.out
  have HB3 : Hid (Below B w w2) := HB1.out.trans (hb1.mono (by have := HK1.out.lt; omega))
  have HS3 : Hid (B ≤ w2.heap.size) := by have := HK3.out.lt; show _ ≤ _; omega
  clear y0 y1 y2 hb1 HA HP1 HM1 HT1 HK1 HB1
  by_cases hk1 : k1 = 0
  case neg =>
    have ek1 : ((k1 : Int) == 0) = false := by simp; omega
    have ek2 : ((k1 : Int) != 0) = true := by unfold bne; rw [ek1]; rfl
    go_wp2_with fail
    refine (HEX.out _).mono ?_
    rintro e w9 ⟨rfl, hb9⟩
    have HB9 : Hid (Below B w w9) := HB3.out.trans (hb9.mono HS3.out)
    clear hb9
    go_wp2_with fail
    go_ret
    exact ⟨rfl, by rw [HBB.out]; exact HB9.out⟩
  obtain ⟨wn, hn, rfl, rfl, hpl, hs3, hsm, hd⟩ := HBK1.out hk1
  have HDE := Lib.hid hd
  have ek1 : ((k1 : Int) != 0) = false := by rw [hk1]; rfl
  have hl3 : decide ((s1.size : Int) < 3) = false := by simp; omega
  clear hk1 hd HBK1
  go_wp2_with fail
  clear ek1 hl3
  go_loopw [9, 10] (fun vl vk wr => ∃ (k : Nat) (L : ByteArray), vl = .string L ∧ vk = .int .i64 k ∧ k ≤ cm.size ∧ Hid (L.data.toList = 35 :: no10 (cm.data.toList.take k)) ∧ L.size ≤ k + 1 ∧ wr = w2) (fun _ vk _ => cm.size - (intOf vk).toNat)
  case atStart => exact ⟨0, ⟨#[35]⟩, rfl, rfl, Nat.zero_le _, rfl, Nat.le_refl _, rfl⟩
  case round =>
    obtain ⟨k, L, rfl, rfl, hk, hL, hLs, rfl⟩ := hrel
    by_cases hlt : k < cm.size
    · have dlt : decide ((k : Int) < (cm.size : Int)) = true := by simp; omega
      have hsn := take_snoc cm k hlt
      have hel : (cm.extract k (k + 1)).data.toList = [cm[k]] := by
        rw [extract_list, hsn, List.drop_left' (by rw [List.length_take]; simp; omega)]
      obtain ⟨bk, hbk⟩ : ∃ bk, cm[k] = bk := ⟨_, rfl⟩
      rw [hbk] at hsn hel
      have HE : Hid ((cm.extract k (k + 1)).data.toList = [bk] ∧ (cm.extract k (k + 1)).size = 1) := ⟨hel, by rw [ByteArray.size_extract]; omega⟩
      have HN2 : Hid (no10 (cm.data.toList.take (k + 1)) = no10 (cm.data.toList.take k) ++ (if bk = 10 then [] else [bk])) := by show _ = _; rw [hsn, no10_snoc]
      have hks : k + 1 ≤ cm.size := hlt
      clear hsn hel
      by_cases hb : bk = 10
      · have eb0 : ((bk.toNat : Int) == 10) = true := by rw [hb]; rfl
        have eb1 : ((bk.toNat : Int) != 10) = false := by rw [hb]; rfl
        have HN3 : Hid (L.data.toList = 35 :: no10 (cm.data.toList.take (k + 1))) := by show _ = _; rw [HN2.out, if_pos hb, List.append_nil]; exact hL.out
        clear hb
        go_wp2_with fail
        go_roundw
        case rel => exact ⟨k + 1, L, rfl, by go_num, by omega, HN3.out, by omega, trivial⟩
        case measure => simp [intOf]; omega
      · have eb0 : ((bk.toNat : Int) == 10) = false := by
          rw [beq_eq_false_iff_ne]
          intro h
          exact hb (UInt8.toNat_inj.1 (by show bk.toNat = 10; omega))
        have eb1 : ((bk.toNat : Int) != 10) = true := by unfold bne; rw [eb0]; rfl
        have HN3 : Hid ((L ++ cm.extract k (k + 1)).data.toList = 35 :: no10 (cm.data.toList.take (k + 1))) := by
          show _ = _
          rw [HN2.out, if_neg hb]
          have h1 := hL.out
          have h2 := HE.out.1
          simp only [ByteArray.data_append, Array.toList_append]
          rw [h1, h2]; rfl
        have HN4 : Hid ((L ++ cm.extract k (k + 1)).size ≤ k + 1 + 1) := by have := HE.out.2; show _ ≤ _; rw [ByteArray.size_append]; omega
        have hes := HE.out.2
        clear hb
        go_wp2_with fail
        go_roundw
        case rel => exact ⟨k + 1, _, rfl, by go_num, by omega, HN3.out, HN4.out, trivial⟩
        case measure => simp [intOf]; omega
    · have dlt : decide ((k : Int) < (cm.size : Int)) = false := by simp; omega
      have HLA : Hid (L.data.toList = 35 :: no10 cm.data.toList) := by show _ = _; rw [hL.out, List.take_of_length_le (by simp; omega)]
      have hLs2 : L.size ≤ cm.size + 1 := by omega
      clear hL hLs hk
      go_upto_region 12 with fail
      clear dlt hlt
      go_cut [9, 49] from 25 (fun v9 v49 wx => ∃ b : Bool, v9 = .string L ∧ v49 = .bool b ∧ Hid (b = decide (1 < L.size ∧ L.data.toList.getD 1 0 = 32)) ∧ wx = wr)
      case first =>
        by_cases h1 : 1 < L.size
        · have d1 : decide ((1 : Int) < (L.size : Int)) = true := by simp; omega
          have hg : L.data.toList.getD 1 0 = L[1] := by
            rw [List.getD_eq_getElem?_getD, List.getElem?_eq_getElem (by simpa using h1)]
            simp only [Option.getD_some, Array.getElem_toList]
            rfl
          obtain ⟨c1, hc1⟩ : ∃ c1, L[1] = c1 := ⟨_, rfl⟩
          rw [hc1] at hg
          have HG := Lib.hid hg
          clear hg
          by_cases h2 : c1 = 32
          · have e2 : ((c1.toNat : Int) == 32) = true := by rw [h2]; rfl
            have HR : Hid (true = decide (1 < L.size ∧ L.data.toList.getD 1 0 = 32)) := by show _ = _; rw [HG.out, h2]; simp [h1]
            clear h2
            go_wp2_with fail
            go_meet
            case rel => exact ⟨true, rfl, rfl, HR.out, rfl⟩
          · have e2 : ((c1.toNat : Int) == 32) = false := by
              rw [beq_eq_false_iff_ne]
              intro h
              exact h2 (UInt8.toNat_inj.1 (by show c1.toNat = 32; omega))
            have HR : Hid (false = decide (1 < L.size ∧ L.data.toList.getD 1 0 = 32)) := by show _ = _; rw [HG.out]; simp [h2]
            clear h2
            go_wp2_with fail
            go_meet
            case rel => exact ⟨false, rfl, rfl, HR.out, rfl⟩
        · have d1 : decide ((1 : Int) < (L.size : Int)) = false := by simp; omega
          have HR : Hid (false = decide (1 < L.size ∧ L.data.toList.getD 1 0 = 32)) := by show _ = _; simp [h1]
          go_wp2_with fail
          go_meet
          case rel => exact ⟨false, rfl, rfl, HR.out, rfl⟩
      case rest =>
        obtain ⟨b, rfl, rfl, HBV, hwc⟩ := hcut
        have hwc2 := hwc.symm
        subst hwc2
        clear hwc
        go_upto_if 49 with fail
        go_cut [9] from 25 (fun v9 wx => ∃ L2 : ByteArray, v9 = .string L2 ∧ L2.size ≤ cm.size + 2 ∧ Hid ((10 : UInt8) ∉ L2.data.toList ∧ L2.data.toList.getD 0 0 = 35 ∧ L2.data.toList.getD 1 0 ≠ 32) ∧ wx = wr)
        case first =>
          cases b with
          | true =>
            have HR : Hid ((10 : UInt8) ∉ ((⟨#[35]⟩ : ByteArray) ++ L).data.toList ∧ ((⟨#[35]⟩ : ByteArray) ++ L).data.toList.getD 0 0 = 35 ∧ ((⟨#[35]⟩ : ByteArray) ++ L).data.toList.getD 1 0 ≠ 32) := by
              have e : ((⟨#[35]⟩ : ByteArray) ++ L).data.toList = 35 :: 35 :: no10 cm.data.toList := by
                simp only [ByteArray.data_append, Array.toList_append]
                rw [HLA.out]; rfl
              show _ ∧ _ ∧ _
              rw [e]
              have := no10_free cm.data.toList
              simp [this]
            have HRS : Hid (((⟨#[35]⟩ : ByteArray) ++ L).size ≤ cm.size + 2) := by show _ ≤ _; rw [ByteArray.size_append]; show 1 + L.size ≤ _; omega
            go_wp2_with fail
            go_meet
            case rel => exact ⟨_, rfl, HRS.out, HR.out, rfl⟩
          | false =>
            have HR : Hid ((10 : UInt8) ∉ L.data.toList ∧ L.data.toList.getD 0 0 = 35 ∧ L.data.toList.getD 1 0 ≠ 32) := by
              have h := of_decide_eq_false HBV.out.symm
              have hl : L.data.toList.length = L.size := by simp
              refine ⟨?_, ?_, ?_⟩
              · rw [HLA.out]
                have := no10_free cm.data.toList
                simp [this]
              · rw [HLA.out]; rfl
              · intro h2
                refine h ⟨?_, h2⟩
                rcases Nat.lt_or_ge 1 L.size with h3 | h3
                · exact h3
                · rw [List.getD_eq_getElem?_getD, List.getElem?_eq_none (by omega)] at h2; exact absurd h2 (by decide)
            go_wp2_with fail
            go_meet
            case rel => exact ⟨_, rfl, by omega, HR.out, rfl⟩
        case rest =>
          obtain ⟨L2, rfl, hL2, HL2, hwc⟩ := hcut
          have hwc2 := hwc.symm
          subst hwc2
          clear hwc
          clear HBV HLA hLs2
          go_upto_region 14 with fail
          have HSO : Hid (decP ((((s1.extract 0 3 ++ L2) ++ ⟨#[10, 10]⟩) ++ s1.extract 3 s1.size)).data.toList = .ok (wn, hn, px, ms)) := by
            have e : ((((s1.extract 0 3 ++ L2) ++ ⟨#[10, 10]⟩) ++ s1.extract 3 s1.size)).data.toList = s1.data.toList.take 3 ++ (L2.data.toList ++ [10, 10]) ++ s1.data.toList.drop 3 := by
              simp only [ByteArray.data_append, Array.toList_append, extract_list, List.drop_zero]
              rw [List.take_of_length_le (show s1.data.toList.length ≤ s1.size by simp)]
              simp
            show decP _ = _
            rw [e]
            exact HDE.out _ HL2.out.1 HL2.out.2.1 HL2.out.2.2
          have hx3 : (s1.extract 0 3).size = 3 := by rw [ByteArray.size_extract]; omega
          have hx4 : (s1.extract 3 s1.size).size ≤ 1048576 := by rw [ByteArray.size_extract]; omega
          have HTS : Hid (((((s1.extract 0 3 ++ L2) ++ ⟨#[10, 10]⟩) ++ s1.extract 3 s1.size)).size ≤ maxLen) := by
            show _ ≤ _
            simp only [ByteArray.size_append]
            rw [hx3]
            have : (⟨#[10, 10]⟩ : ByteArray).size = 2 := rfl
            unfold maxLen
            omega
          have HBA := Lib.hid (back_of HSO.out HTS.out rfl)
          have n1 : ¬ (9223372036854775807 < 3 + L2.size) := by omega
          have n2 : ¬ (9223372036854775807 < 3 + L2.size + 2) := by omega
          have n3 : ¬ (9223372036854775807 < 3 + L2.size + 2 + (s1.size - 3)) := by omega
          have h3i : (3 : Int) ≤ (s1.size : Int) := by omega
          clear HSO HTS
          go_cut [8, 11, 12] from 25 (fun v8 v11 v12 wx => ∃ (K1 : Nat) (x1 : Option Addr) (c1 : Nat) (xm1 : Option Addr) (cm1 : Nat), v8 = .int .i64 0 ∧ v11 = .pointer (some ⟨K1, 0, none⟩) ∧ v12 = .slice xm1 ms.length cm1 ∧ Hid (RtS w wx B K1 #[.int .i64 (wn : Int), .int .i64 (hn : Int), .slice x px.length c] #[.int .i64 (wn : Int), .int .i64 (hn : Int), .slice x1 px.length c1] (.slice x px.length c) (.slice x1 px.length c1) (.slice xm ms.length cmm) (.slice xm1 ms.length cm1) (.slice xm1 ms.length cm1) px px ms))
          case first =>
            have HBk : Hid (Below wr.heap.size wr wr.drew) := (Below.refl wr.heap.size wr).drew
            have HPW := HP3
            refine wp_region_noPanic ?_
            refine wp_region_held_drew (S := fun _ => True) (by kernel_rfl) trivial (fun hS => ?_)
            generalize wr.drew = w0 at *
            refine wpAnyH_take (i := 0) (oi := ⟨some 53, Op.move (Operand.tmp 7), 9, _, _, none⟩) (v := ?v1) rfl (by kernel_rfl) (by kernel_rfl) (by kernel_rfl) (fun _ _ _ h => h) (Or.inl ⟨by rfl, ?y1⟩) trivial ?r1
            case y1 => (intro w hSw; (try dsimp only at hSw); go_simp; try with_reducible rfl)
            try simp only [Act.put, List.setIfInBounds_toArray, List.set_cons_zero, List.set_cons_succ]
            refine wpAnyH_take (i := 2) (oi := ⟨some 55, Op.move (Operand.tmp 9), 9, _, _, none⟩) (v := ?v2) rfl (by kernel_rfl) (by kernel_rfl) (by kernel_rfl) (fun _ _ _ h => h) (Or.inl ⟨by rfl, ?y2⟩) trivial ?r2
            case y2 => (intro w hSw; (try dsimp only at hSw); go_simp; try with_reducible rfl)
            try simp only [Act.put, List.setIfInBounds_toArray, List.set_cons_zero, List.set_cons_succ]
            refine wpAnyH_take (i := 5) (oi := ⟨some 58, Op.move (Operand.tmp 7), 9, _, _, none⟩) (v := ?v3) rfl (by kernel_rfl) (by kernel_rfl) (by kernel_rfl) (fun _ _ _ h => h) (Or.inl ⟨by rfl, ?y3⟩) trivial ?r3
            case y3 => (intro w hSw; (try dsimp only at hSw); go_simp; try with_reducible rfl)
            try simp only [Act.put, List.setIfInBounds_toArray, List.set_cons_zero, List.set_cons_succ]
            refine wpAnyH_take (i := 1) (oi := ⟨some 54, Op.slice 9 (Operand.tmp 53) none (some (Operand.const (Value.int IntKind.i64 3))) none, 9, _, _, none⟩) (v := ?v4) rfl (by kernel_rfl) (by kernel_rfl) (by kernel_rfl) (fun _ _ _ h => h) (Or.inl ⟨by rfl, ?y4⟩) trivial ?r4
            case y4 => (intro w hSw; (try dsimp only at hSw); go_simp; try with_reducible rfl)
            try simp only [Act.put, List.setIfInBounds_toArray, List.set_cons_zero, List.set_cons_succ]
            refine wpAnyH_take (i := 6) (oi := ⟨some 59, Op.slice 9 (Operand.tmp 58) (some (Operand.const (Value.int IntKind.i64 3))) none none, 9, _, _, none⟩) (v := ?v5) rfl (by kernel_rfl) (by kernel_rfl) (by kernel_rfl) (fun _ _ _ h => h) (Or.inl ⟨by rfl, ?y5⟩) trivial ?r5
            case y5 => (intro w hSw; (try dsimp only at hSw); go_simp; try with_reducible rfl)
            try simp only [Act.put, List.setIfInBounds_toArray, List.set_cons_zero, List.set_cons_succ]
            refine wpAnyH_take (i := 3) (oi := ⟨some 56, Op.binOp BinOp.add 9 (Operand.tmp 54) (Operand.tmp 55) 9, 9, _, _, none⟩) (v := ?v6) rfl (by kernel_rfl) (by kernel_rfl) (by kernel_rfl) (fun _ _ _ h => h) (Or.inl ⟨by rfl, ?y6⟩) trivial ?r6
            case y6 => (intro w hSw; (try dsimp only at hSw); go_simp; try with_reducible rfl)
            try simp only [Act.put, List.setIfInBounds_toArray, List.set_cons_zero, List.set_cons_succ]
            refine wpAnyH_take (i := 4) (oi := ⟨some 57, Op.binOp BinOp.add 9 (Operand.tmp 56) (Operand.const (Value.string ⟨#[10, 10]⟩)) 9, 9, _, _, none⟩) (v := ?v7) rfl (by kernel_rfl) (by kernel_rfl) (by kernel_rfl) (fun _ _ _ h => h) (Or.inl ⟨by rfl, ?y7⟩) trivial ?r7
            case y7 => (intro w hSw; (try dsimp only at hSw); go_simp; try with_reducible rfl)
            try simp only [Act.put, List.setIfInBounds_toArray, List.set_cons_zero, List.set_cons_succ]
            refine wpAnyH_take (i := 7) (oi := ⟨some 60, Op.binOp BinOp.add 9 (Operand.tmp 57) (Operand.tmp 59) 9, 9, _, _, none⟩) (v := ?v8) rfl (by kernel_rfl) (by kernel_rfl) (by kernel_rfl) (fun _ _ _ h => h) (Or.inl ⟨by rfl, ?y8⟩) trivial ?r8
            case y8 => (intro w hSw; (try dsimp only at hSw); go_simp; try with_reducible rfl)
            try simp only [Act.put, List.setIfInBounds_toArray, List.set_cons_zero, List.set_cons_succ]
            refine wpAnyH_ready (rs := [8, 13]) (by kernel_rfl) (by simp) ?_
            refine AllReadyH.cons (o := ⟨some 61, Op.call { callee := Callee.value (Operand.func 9), args := #[Operand.tmp 60], argTypes := #[9] }, 31, _, _, none⟩) rfl (fun K hK => ?_) (AllReadyH.cons (o := ⟨some 11, Op.alloc 24, 0, _, _, none⟩) rfl (fun K hK => ?_) AllReadyH.nil)
            · go_simp
              refine (HBA.out w0).mono ?_
              rintro e w1008 ⟨⟨x1, c1, xm1, cm1, rfl, hp1, hm1⟩, hb⟩
              have HBk2 : Hid (Below wr.heap.size wr w1008) := HBk.out.trans (hb.mono HBk.out.size)
              have HP1 := Lib.hid hp1
              have HM1 := Lib.hid hm1
              clear HBk hb hp1 hm1
              have HBk := HBk2
              clear HBk2
              refine hK.out _ _ trivial (fun hS => ?_)
              clear hK K
              try simp only [Act.put, List.setIfInBounds_toArray, List.set_cons_zero, List.set_cons_succ]
              refine wpAnyH_take (i := 9) (oi := ⟨some 52, Op.move (Operand.tmp 61), 31, _, _, none⟩) (v := ?v10) rfl (by kernel_rfl) (by kernel_rfl) (by kernel_rfl) (fun _ _ _ h => h) (Or.inl ⟨by rfl, ?y10⟩) trivial ?r10
              case y10 => (intro w hSw; (try dsimp only at hSw); go_simp; try with_reducible rfl)
              try simp only [Act.put, List.setIfInBounds_toArray, List.set_cons_zero, List.set_cons_succ]
              refine wpAnyH_take (i := 10) (oi := ⟨some 62, Op.extract (Operand.tmp 52) 0, 24, _, _, none⟩) (v := ?v11) rfl (by kernel_rfl) (by kernel_rfl) (by kernel_rfl) (fun _ _ _ h => h) (Or.inl ⟨by rfl, ?y11⟩) trivial ?r11
              case y11 => (intro w hSw; (try dsimp only at hSw); go_simp; try with_reducible rfl)
              try simp only [Act.put, List.setIfInBounds_toArray, List.set_cons_zero, List.set_cons_succ]
              refine wpAnyH_take (i := 11) (oi := ⟨some 63, Op.extract (Operand.tmp 52) 1, 25, _, _, none⟩) (v := ?v12) rfl (by kernel_rfl) (by kernel_rfl) (by kernel_rfl) (fun _ _ _ h => h) (Or.inl ⟨by rfl, ?y12⟩) trivial ?r12
              case y12 => (intro w hSw; (try dsimp only at hSw); go_simp; try with_reducible rfl)
              try simp only [Act.put, List.setIfInBounds_toArray, List.set_cons_zero, List.set_cons_succ]
              refine wpAnyH_take (i := 12) (oi := ⟨some 64, Op.extract (Operand.tmp 52) 2, 26, _, _, none⟩) (v := ?v13) rfl (by kernel_rfl) (by kernel_rfl) (by kernel_rfl) (fun _ _ _ h => h) (Or.inl ⟨by rfl, ?y13⟩) trivial ?r13
              case y13 => (intro w hSw; (try dsimp only at hSw); go_simp; try with_reducible rfl)
              try simp only [Act.put, List.setIfInBounds_toArray, List.set_cons_zero, List.set_cons_succ]
              refine wpAnyH_ready (rs := [13]) (by kernel_rfl) (by simp) ?_
              refine AllReadyH.cons (o := ⟨some 11, Op.alloc 24, 0, _, _, none⟩) rfl (fun K hK => ?_) AllReadyH.nil
              go_simp
              have HBk2 := Lib.hid (HBk.out.alloc HBk.out.size (.cells #[.int .i64 0, .int .i64 0, .slice none 0 0] 24))
              have HQ := Lib.hid (Blk.new w1008 24 #[.int .i64 0, .int .i64 0, .slice none 0 0])
              have hal := (Below.refl w1008.heap.size w1008).alloc (Nat.le_refl _) (.cells #[.int .i64 0, .int .i64 0, .slice none 0 0] 24)
              have HP2 := Lib.hid (HP1.out.below hal)
              have HM2 := Lib.hid (HM1.out.below hal)
              clear HP1 HM1 hal
              have HP1 := HP2
              have HM1 := HM2
              clear HP2 HM2
              obtain ⟨Qn, hQn⟩ : ∃ Qn, Qn = w1008.heap.size := ⟨_, rfl⟩
              have hQ0 : wr.heap.size ≤ Qn := by rw [hQn]; exact HBk.out.size
              rw [← hQn] at HQ
              refine hK.out _ _ trivial (fun hS => ?_)
              clear hK K HBk
              have HBk := HBk2
              clear HBk2
              generalize w1008.alloc (.cells #[.int .i64 0, .int .i64 0, .slice none 0 0] 24) = w1013 at *
              rw [← hQn]
              clear hQn
              try simp only [Act.put, List.setIfInBounds_toArray, List.set_cons_zero, List.set_cons_succ]
              have q0 : w1013.cell? ⟨Qn, 0, none⟩ = some (.int .i64 0) := HQ.out.cell 0
              have z0 := HQ.out.frozen 0
              have q1 : w1013.cell? ⟨Qn, 1, none⟩ = some (.int .i64 0) := HQ.out.cell 1
              have z1 := HQ.out.frozen 1
              have q2 : w1013.cell? ⟨Qn, 2, none⟩ = some (.slice none 0 0) := HQ.out.cell 2
              have z2 := HQ.out.frozen 2
              refine wpAnyH_ready (rs := [14]) (by kernel_rfl) (by simp) ?_
              refine AllReadyH.cons (o := ⟨none, Op.store 24 (Operand.tmp 11) (Operand.tmp 62), 0, _, _, none⟩) rfl (fun K hK => ?_) AllReadyH.nil
              go_simp
              have HF := Lib.hid (below_put (below_put (below_put HBk.out (p := ⟨Qn, 0, none⟩) hQ0 (.int .i64 (wn : Int))) (p := ⟨Qn, 1, none⟩) hQ0 (.int .i64 (hn : Int))) (p := ⟨Qn, 2, none⟩) hQ0 (.slice x1 px.length c1))
              have hq1 := HQ.out.put 0 (.int .i64 (wn : Int))
              have hq2 := hq1.put 1 (.int .i64 (hn : Int))
              have HQ3 := Lib.hid (hq2.put 2 (.slice x1 px.length c1))
              have HP3 := Lib.hid (prow_put (prow_put (prow_put HP1.out HQ.out (by decide) 0 (.int .i64 (wn : Int))) hq1 (by simp) 1 (.int .i64 (hn : Int))) hq2 (by simp) 2 (.slice x1 px.length c1))
              have HM4 := Lib.hid (mrow_put (mrow_put (mrow_put HM1.out HQ.out (no_str _ _ _ _ _) 0 (.int .i64 (wn : Int))) hq1 (no_str _ _ _ _ _) 1 (.int .i64 (hn : Int))) hq2 (no_str _ _ _ _ _) 2 (.slice x1 px.length c1))
              clear hq1 hq2 q0 q1 q2 z0 z1 z2
              refine hK.out _ _ trivial (fun hS => ?_)
              clear hK K
              try simp only [Act.put, List.setIfInBounds_toArray, List.set_cons_zero, List.set_cons_succ]
              refine wpAnyH_take (i := 15) (oi := ⟨some 12, Op.assign (Operand.tmp 63), 25, _, _, none⟩) (v := ?v15) rfl (by kernel_rfl) (by kernel_rfl) (by kernel_rfl) (fun _ _ _ h => h) (Or.inl ⟨by rfl, ?y15⟩) trivial ?r15
              case y15 => (intro w hSw; (try dsimp only at hSw); go_simp; try with_reducible rfl)
              try simp only [Act.put, List.setIfInBounds_toArray, List.set_cons_zero, List.set_cons_succ]
              refine wpAnyH_take (i := 16) (oi := ⟨some 8, Op.assign (Operand.tmp 64), 26, _, _, none⟩) (v := ?v16) rfl (by kernel_rfl) (by kernel_rfl) (by kernel_rfl) (fun _ _ _ h => h) (Or.inl ⟨by rfl, ?y16⟩) trivial ?r16
              case y16 => (intro w hSw; (try dsimp only at hSw); go_simp; try with_reducible rfl)
              try simp only [Act.put, List.setIfInBounds_toArray, List.set_cons_zero, List.set_cons_succ]
              refine wpAnyH_done (by kernel_rfl) ?_ _
              refine NoPanic.normal ?_
              go_wp2_with fail
              go_meet
              case rel => exact ⟨Qn, x1, c1, xm1, cm1, rfl, rfl, rfl, ⟨HB3.out.trans (HF.out.mono HS3.out), Nat.le_trans HS3.out HF.out.size, (HF.out.block _ HK3.out.lt).trans HK3.out, HQ3.out, HPW.out.below HF.out, HP3.out, HM3.out.below HF.out, HM4.out, HM4.out⟩⟩
            · go_simp
              have HBk2 := Lib.hid (HBk.out.alloc HBk.out.size (.cells #[.int .i64 0, .int .i64 0, .slice none 0 0] 24))
              have HQ := Lib.hid (Blk.new w0 24 #[.int .i64 0, .int .i64 0, .slice none 0 0])
              obtain ⟨Qn, hQn⟩ : ∃ Qn, Qn = w0.heap.size := ⟨_, rfl⟩
              have hQ0 : wr.heap.size ≤ Qn := by rw [hQn]; exact HBk.out.size
              rw [← hQn] at HQ
              refine hK.out _ _ trivial (fun hS => ?_)
              clear hK K HBk
              have HBk := HBk2
              clear HBk2
              generalize w0.alloc (.cells #[.int .i64 0, .int .i64 0, .slice none 0 0] 24) = w1016 at *
              rw [← hQn]
              clear hQn
              try simp only [Act.put, List.setIfInBounds_toArray, List.set_cons_zero, List.set_cons_succ]
              refine wpAnyH_ready (rs := [8]) (by kernel_rfl) (by simp) ?_
              refine AllReadyH.cons (o := ⟨some 61, Op.call { callee := Callee.value (Operand.func 9), args := #[Operand.tmp 60], argTypes := #[9] }, 31, _, _, none⟩) rfl (fun K hK => ?_) AllReadyH.nil
              go_simp
              refine (HBA.out w1016).mono ?_
              rintro e w1017 ⟨⟨x1, c1, xm1, cm1, rfl, hp1, hm1⟩, hb⟩
              have HBk2 : Hid (Below wr.heap.size wr w1017) := HBk.out.trans (hb.mono HBk.out.size)
              have HP1 := Lib.hid hp1
              have HM1 := Lib.hid hm1
              have HQ2 : Hid (Blk w1017 Qn 24 #[.int .i64 0, .int .i64 0, .slice none 0 0]) := blk_go HQ.out hb
              clear HQ
              have HQ := HQ2
              clear HBk hb hp1 hm1
              have HBk := HBk2
              clear HBk2
              refine hK.out _ _ trivial (fun hS => ?_)
              clear hK K
              try simp only [Act.put, List.setIfInBounds_toArray, List.set_cons_zero, List.set_cons_succ]
              refine wpAnyH_take (i := 9) (oi := ⟨some 52, Op.move (Operand.tmp 61), 31, _, _, none⟩) (v := ?v19) rfl (by kernel_rfl) (by kernel_rfl) (by kernel_rfl) (fun _ _ _ h => h) (Or.inl ⟨by rfl, ?y19⟩) trivial ?r19
              case y19 => (intro w hSw; (try dsimp only at hSw); go_simp; try with_reducible rfl)
              try simp only [Act.put, List.setIfInBounds_toArray, List.set_cons_zero, List.set_cons_succ]
              refine wpAnyH_take (i := 10) (oi := ⟨some 62, Op.extract (Operand.tmp 52) 0, 24, _, _, none⟩) (v := ?v20) rfl (by kernel_rfl) (by kernel_rfl) (by kernel_rfl) (fun _ _ _ h => h) (Or.inl ⟨by rfl, ?y20⟩) trivial ?r20
              case y20 => (intro w hSw; (try dsimp only at hSw); go_simp; try with_reducible rfl)
              try simp only [Act.put, List.setIfInBounds_toArray, List.set_cons_zero, List.set_cons_succ]
              refine wpAnyH_take (i := 11) (oi := ⟨some 63, Op.extract (Operand.tmp 52) 1, 25, _, _, none⟩) (v := ?v21) rfl (by kernel_rfl) (by kernel_rfl) (by kernel_rfl) (fun _ _ _ h => h) (Or.inl ⟨by rfl, ?y21⟩) trivial ?r21
              case y21 => (intro w hSw; (try dsimp only at hSw); go_simp; try with_reducible rfl)
              try simp only [Act.put, List.setIfInBounds_toArray, List.set_cons_zero, List.set_cons_succ]
              refine wpAnyH_take (i := 12) (oi := ⟨some 64, Op.extract (Operand.tmp 52) 2, 26, _, _, none⟩) (v := ?v22) rfl (by kernel_rfl) (by kernel_rfl) (by kernel_rfl) (fun _ _ _ h => h) (Or.inl ⟨by rfl, ?y22⟩) trivial ?r22
              case y22 => (intro w hSw; (try dsimp only at hSw); go_simp; try with_reducible rfl)
              try simp only [Act.put, List.setIfInBounds_toArray, List.set_cons_zero, List.set_cons_succ]
              have q0 : w1017.cell? ⟨Qn, 0, none⟩ = some (.int .i64 0) := HQ.out.cell 0
              have z0 := HQ.out.frozen 0
              have q1 : w1017.cell? ⟨Qn, 1, none⟩ = some (.int .i64 0) := HQ.out.cell 1
              have z1 := HQ.out.frozen 1
              have q2 : w1017.cell? ⟨Qn, 2, none⟩ = some (.slice none 0 0) := HQ.out.cell 2
              have z2 := HQ.out.frozen 2
              refine wpAnyH_ready (rs := [14]) (by kernel_rfl) (by simp) ?_
              refine AllReadyH.cons (o := ⟨none, Op.store 24 (Operand.tmp 11) (Operand.tmp 62), 0, _, _, none⟩) rfl (fun K hK => ?_) AllReadyH.nil
              go_simp
              have HF := Lib.hid (below_put (below_put (below_put HBk.out (p := ⟨Qn, 0, none⟩) hQ0 (.int .i64 (wn : Int))) (p := ⟨Qn, 1, none⟩) hQ0 (.int .i64 (hn : Int))) (p := ⟨Qn, 2, none⟩) hQ0 (.slice x1 px.length c1))
              have hq1 := HQ.out.put 0 (.int .i64 (wn : Int))
              have hq2 := hq1.put 1 (.int .i64 (hn : Int))
              have HQ3 := Lib.hid (hq2.put 2 (.slice x1 px.length c1))
              have HP3 := Lib.hid (prow_put (prow_put (prow_put HP1.out HQ.out (by decide) 0 (.int .i64 (wn : Int))) hq1 (by simp) 1 (.int .i64 (hn : Int))) hq2 (by simp) 2 (.slice x1 px.length c1))
              have HM4 := Lib.hid (mrow_put (mrow_put (mrow_put HM1.out HQ.out (no_str _ _ _ _ _) 0 (.int .i64 (wn : Int))) hq1 (no_str _ _ _ _ _) 1 (.int .i64 (hn : Int))) hq2 (no_str _ _ _ _ _) 2 (.slice x1 px.length c1))
              clear hq1 hq2 q0 q1 q2 z0 z1 z2
              refine hK.out _ _ trivial (fun hS => ?_)
              clear hK K
              try simp only [Act.put, List.setIfInBounds_toArray, List.set_cons_zero, List.set_cons_succ]
              refine wpAnyH_take (i := 15) (oi := ⟨some 12, Op.assign (Operand.tmp 63), 25, _, _, none⟩) (v := ?v23) rfl (by kernel_rfl) (by kernel_rfl) (by kernel_rfl) (fun _ _ _ h => h) (Or.inl ⟨by rfl, ?y23⟩) trivial ?r23
              case y23 => (intro w hSw; (try dsimp only at hSw); go_simp; try with_reducible rfl)
              try simp only [Act.put, List.setIfInBounds_toArray, List.set_cons_zero, List.set_cons_succ]
              refine wpAnyH_take (i := 16) (oi := ⟨some 8, Op.assign (Operand.tmp 64), 26, _, _, none⟩) (v := ?v24) rfl (by kernel_rfl) (by kernel_rfl) (by kernel_rfl) (fun _ _ _ h => h) (Or.inl ⟨by rfl, ?y24⟩) trivial ?r24
              case y24 => (intro w hSw; (try dsimp only at hSw); go_simp; try with_reducible rfl)
              try simp only [Act.put, List.setIfInBounds_toArray, List.set_cons_zero, List.set_cons_succ]
              refine wpAnyH_done (by kernel_rfl) ?_ _
              refine NoPanic.normal ?_
              go_wp2_with fail
              go_meet
              case rel => exact ⟨Qn, x1, c1, xm1, cm1, rfl, rfl, rfl, ⟨HB3.out.trans (HF.out.mono HS3.out), Nat.le_trans HS3.out HF.out.size, (HF.out.block _ HK3.out.lt).trans HK3.out, HQ3.out, HPW.out.below HF.out, HP3.out, HM3.out.below HF.out, HM4.out, HM4.out⟩⟩
          case rest =>
            obtain ⟨K1, x1, c1, xm1, cm1, rfl, rfl, rfl, HR4⟩ := hcut
            clear HP3 HM3 HK3 HB3 HS3 HBA hx3 hx4 n1 n2 n3 h3i HL2 hL2
            have y0 : wc.cell? ⟨B, 0, none⟩ = some (.int .i64 (wn : Int)) := HR4.out.ib.cell 0
            have y1 : wc.cell? ⟨B, 1, none⟩ = some (.int .i64 (hn : Int)) := HR4.out.ib.cell 1
            have y2 : wc.cell? ⟨B, 2, none⟩ = some (.slice x px.length c) := HR4.out.ib.cell 2
            have a0 : wc.cell? ⟨K1, 0, none⟩ = some (.int .i64 (wn : Int)) := HR4.out.bb.cell 0
            have a1 : wc.cell? ⟨K1, 1, none⟩ = some (.int .i64 (hn : Int)) := HR4.out.bb.cell 1
            have a2 : wc.cell? ⟨K1, 2, none⟩ = some (.slice x1 px.length c1) := HR4.out.bb.cell 2
            have HSA := Lib.hid (same_any (wn : Int) (hn : Int) _ _ px wc HR4.out.pb HR4.out.pi)
            unfold imgI at HSA
            have HSM := Lib.hid (fun v1 v2 w h1 h2 => sameMeta_any v1 v2 ms w h1 h2)
            go_wp2_with fail
            refine HSA.out.mono ?_
            rintro e w5 ⟨rfl, hb5⟩
            have HR5 := Lib.hid (HR4.out.go hb5)
            clear a0 a1 a2 y0 y1 y2 hb5 HSA HR4
            go_wp2_with fail
            refine (HSM.out _ _ _ HR5.out.m1 HR5.out.mi).mono ?_
            rintro e w6 ⟨rfl, hb6⟩
            have HR6 := Lib.hid (HR5.out.go hb6)
            clear hb6 HR5
            go_wp2_with fail
            refine (HEX.out _).mono ?_
            rintro e w9 ⟨rfl, hb9⟩
            have HB9 : Hid (Below B w w9) := HR6.out.bel.trans (hb9.mono HR6.out.hB)
            clear hb9
            go_wp2_with fail
            go_ret
            exact ⟨rfl, by rw [HBB.out]; exact HB9.out⟩
end Go.Proofs.YtakkdgcmeeilbaaDoor
