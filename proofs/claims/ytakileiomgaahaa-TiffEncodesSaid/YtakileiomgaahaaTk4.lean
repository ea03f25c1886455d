/-
  The reference of tiff: Encode.
-/
import Derived.Test.YtakileiomgaahaaTk3
namespace Go.Proofs.Ytakileiomgaahaa
open Go.RowKit

theorem litB_42 : litB 42 2 = [42, 0] := by decide
theorem litB_8 : litB 8 4 = [8, 0, 0, 0] := by decide
theorem litB_tg {tg : Nat} (h : tg = 10 ∨ tg = 11) : litB tg 2 = [UInt8.ofNat tg, 0] := by rcases h with rfl | rfl <;> decide
theorem ext_ba {a b : ByteArray} (h : a.data.toList = b.data.toList) : a = b := by
  apply ByteArray.ext
  exact Array.toList_inj.1 h
set_option maxHeartbeats 8000000 in
set_option maxRecDepth 100000 in
theorem trencode_any (W H d : Int) (pk : Bool) (v mv : Value) (px : List Px) (ms : List Mt) (w : World) (hp : PRow w v px) (hm : MRow w mv ms) (hsz : ∀ m ∈ ms, m.1.length ≤ maxLen ∧ m.2.length ≤ maxLen) :
    Calls Try.prog 25 #[.agg (imgI W H v), .int .i64 d, .bool pk, mv] w fun e w' => EncOkT (encT W H px d pk ms) e ∧ Below w.heap.size w w' := by
  have HE : Hid (encT W H px d pk ms = if rchk W H px ≠ 0 then .error (rchk W H px) else if W = 0 then .error 15 else if d ≠ 8 ∧ d ≠ 16 then .error 2 else if chkP ms ≠ 0 then .error (chkP ms) else if 1048576 < (fileT W.toNat H.toNat d.toNat pk ms px).length then .error 3 else .ok (fileT W.toNat H.toNat d.toNat pk ms px)) := rfl
  obtain ⟨x, c, rfl, -, hcp, -⟩ := id hp
  obtain ⟨xm, cm, rfl, -, hcm, -⟩ := id hm
  unfold maxLen at hcp hcm
  have h0 := Blk.new w 34 (imgI W H (.slice x px.length c))
  have hbl := (Below.refl w.heap.size w).alloc (Nat.le_refl _) (.cells (imgI W H (.slice x px.length c)) 34)
  have HPZ := Lib.hid (hp.below hbl)
  have HMZ := Lib.hid (hm.below hbl)
  have HCI := Lib.hid (fun w h => rCheckI_any W H (.slice x px.length c) px w h)
  have HPR := Lib.hid (fun w h => rprint_any (.slice xm ms.length cm) ms w h hsz)
  have HRZ := Lib.hid (fun h => trchk_zero (W := W) (H := H) (px := px) h)
  clear hp hm hsz
  unfold imgI at *
  go_enter Try.func25, Try.ntmps25
  go_upto_region 1 with fail
  generalize w.alloc (.cells #[.int .i64 W, .int .i64 H, .slice x px.length c] 34) = wz at *
  have HH0 := Lib.hid h0
  have HBL0 := Lib.hid hbl
  clear h0 hbl
  generalize hB : w.heap.size = B at *
  have HB := Lib.hid hB
  clear hB
  have y0 : wz.cell? ⟨B, 0, none⟩ = some (.int .i64 W) := HH0.out.cell 0
  have y1 : wz.cell? ⟨B, 1, none⟩ = some (.int .i64 H) := HH0.out.cell 1
  have y2 : wz.cell? ⟨B, 2, none⟩ = some (.slice x px.length c) := HH0.out.cell 2
  go_wp2_with fail
  refine (HCI.out _ HPZ.out).mono ?_
  rintro e w1 ⟨rfl, hb1⟩
  have HBL : Hid (Below B w w1) := HBL0.out.trans (hb1.mono (by have := HH0.out.lt; omega))
  have HH1 : Hid (Blk w1 B 34 #[.int .i64 W, .int .i64 H, .slice x px.length c]) := (hb1.block _ HH0.out.lt).trans HH0.out
  have HP1 := Lib.hid (HPZ.out.below hb1)
  have HM1 := Lib.hid (HMZ.out.below hb1)
  clear y0 y1 y2 hb1 HH0 HBL0 HPZ HMZ HCI
  obtain ⟨ck, hck⟩ : ∃ ck, rchk W H px = ck := ⟨_, rfl⟩
  rw [hck] at HE HRZ ⊢
  clear hck
  by_cases hc0 : ck = 0
  case neg =>
    have e0 : ((ck : Int) == 0) = false := by simp; omega
    have e1 : ((ck : Int) != 0) = true := by unfold bne; rw [e0]; rfl
    have HF : Hid (encT W H px d pk ms = .error ck) := by show _ = _; rw [HE.out, if_pos hc0]
    go_wp2_with fail
    refine bodyPost_ret (v := .tuple #[.string ⟨#[]⟩, .int .i64 ck]) (by simp [results, Try.f25, go_sem]) rfl ⟨?_, by rw [HB.out]; exact HBL.out⟩
    rw [HF.out]; rfl
  obtain ⟨W, H, rfl, rfl, hW, hH, hpl, hva, hwh⟩ := HRZ.out hc0
  have HVA := Lib.hid hva
  have HPL := Lib.hid hpl
  have hpl2 : px.length ≤ 65536 := by rw [hpl]; exact Nat.mul_le_mul hW hH
  have e1 : ((ck : Int) != 0) = false := by rw [hc0]; rfl
  have HE1 : Hid (encT W H px d pk ms = if (W : Int) = 0 then .error 15 else if d ≠ 8 ∧ d ≠ 16 then .error 2 else if chkP ms ≠ 0 then .error (chkP ms) else if 1048576 < (fileT W H d.toNat pk ms px).length then .error 3 else .ok (fileT W H d.toNat pk ms px)) := by show _ = _; rw [HE.out, if_neg (by simp [hc0])]; rfl
  have y0 : w1.cell? ⟨B, 0, none⟩ = some (.int .i64 (W : Int)) := HH1.out.cell 0
  clear hva hpl hc0 HE HRZ
  by_cases hW0 : W = 0
  case pos =>
    have e2 : ((W : Int) == 0) = true := by rw [hW0]; rfl
    have HF : Hid (encT W H px d pk ms = .error 15) := by show _ = _; rw [HE1.out, if_pos (by omega)]
    clear hW0
    go_wp2_with fail
    refine bodyPost_ret (v := .tuple #[.string ⟨#[]⟩, .int .i64 15]) (by simp [results, Try.f25, go_sem]) rfl ⟨?_, by rw [HB.out]; exact HBL.out⟩
    rw [HF.out]; rfl
  have e2 : ((W : Int) == 0) = false := by simp; omega
  by_cases hd8 : d = 8 ∨ d = 16
  case neg =>
    have e8 : (d == 8) = false := by rw [beq_eq_false_iff_ne]; intro h; exact hd8 (.inl h)
    have e16 : (d == 16) = false := by rw [beq_eq_false_iff_ne]; intro h; exact hd8 (.inr h)
    have b8 : (d != 8) = true := by unfold bne; rw [e8]; rfl
    have b16 : (d != 16) = true := by unfold bne; rw [e16]; rfl
    have HF : Hid (encT W H px d pk ms = .error 2) := by show _ = _; rw [HE1.out, if_neg (by omega), if_pos ⟨fun h => hd8 (.inl h), fun h => hd8 (.inr h)⟩]
    go_wp2_with fail
    refine bodyPost_ret (v := .tuple #[.string ⟨#[]⟩, .int .i64 2]) (by simp [results, Try.f25, go_sem]) rfl ⟨?_, by rw [HB.out]; exact HBL.out⟩
    rw [HF.out]; rfl
  obtain ⟨D, rfl⟩ : ∃ D : Nat, d = (D : Int) := ⟨d.toNat, by omega⟩
  have hD : D = 8 ∨ D = 16 := by omega
  have HE2 : Hid (encT W H px D pk ms = if chkP ms ≠ 0 then .error (chkP ms) else if 1048576 < (fileT W H D pk ms px).length then .error 3 else .ok (fileT W H D pk ms px)) := by
    show _ = _; rw [HE1.out, if_neg (by omega), if_neg (by omega)]; rfl
  have HPR1 := Lib.hid (HPR.out w1 HM1.out)
  have hW1 : 1 ≤ W := by omega
  have hH1 : 1 ≤ H := by omega
  clear hwh
  have bd : ∃ b, ((D : Int) != 8) = b ∧ (b = true → ((D : Int) != 16) = false) := by
    refine ⟨_, rfl, fun h => ?_⟩
    have h2 : D ≠ 8 := by rintro rfl; cases h
    have h3 : D = 16 := by omega
    rw [h3]; rfl
  obtain ⟨b8, hb8, hb16⟩ := bd
  have HB16 := Lib.hid hb16
  clear HE1 HPR hd8 hW0 hb16
  go_upto_region 6 with fail
  go_cut [31] from 18 (fun v31 wx => v31 = .bool false ∧ wx = w1)
  case first =>
    cases b8 with
    | true =>
      have hb16 := HB16.out rfl
      clear HB16
      go_wp2_with fail
      go_meet
      case rel => exact ⟨rfl, rfl⟩
    | false =>
      clear HB16
      go_wp2_with fail
      go_meet
      case rel => exact ⟨rfl, rfl⟩
  case rest =>
    obtain ⟨rfl, hwc⟩ := hcut
    have hwc2 := hwc.symm
    subst hwc2
    clear hwc HB16 hb8 e1 e2 y0
    go_wp2_with fail
    refine HPR1.out.mono ?_
    rintro e w2 ⟨rfl, hb2⟩
    have HBL2 : Hid (Below B w w2) := HBL.out.trans (hb2.mono (by have := HH1.out.lt; omega))
    have HH2 : Hid (Blk w2 B 34 #[.int .i64 (W : Int), .int .i64 (H : Int), .slice x px.length c]) := (hb2.block _ HH1.out.lt).trans HH1.out
    have HP2 := Lib.hid (HP1.out.below hb2)
    clear hb2 HBL HH1 HP1 HM1 HPR1
    obtain ⟨cm0, hcm0⟩ : ∃ ck, chkP ms = ck := ⟨_, rfl⟩
    have HPT : Hid (cm0 = 0 → prtP ms = textP ms ∧ (textP ms).length ≤ 4640) := by
      intro h
      obtain ⟨h16, hasc⟩ := (chkP_zero ms).1 (by rw [hcm0]; exact h)
      have := textP_len ms (fun m hm => asc_get ms hasc m hm)
      refine ⟨by unfold prtP; rw [if_pos (by rw [hcm0]; exact h)], by omega⟩
    rw [hcm0] at HE2 ⊢
    clear hcm0
    by_cases hc1 : cm0 = 0
    case neg =>
      have e0 : ((cm0 : Int) == 0) = false := by simp; omega
      have e1 : ((cm0 : Int) != 0) = true := by unfold bne; rw [e0]; rfl
      have HF : Hid (encT W H px D pk ms = .error cm0) := by show _ = _; rw [HE2.out, if_pos hc1]
      go_wp2_with fail
      refine bodyPost_ret (v := .tuple #[.string ⟨#[]⟩, .int .i64 cm0]) (by simp [results, Try.f25, go_sem]) rfl ⟨?_, by rw [HB.out]; exact HBL2.out⟩
      rw [HF.out]; rfl
    have e1 : ((cm0 : Int) != 0) = false := by rw [hc1]; rfl
    have HE3 : Hid (encT W H px D pk ms = if 1048576 < (fileT W H D pk ms px).length then .error 3 else .ok (fileT W H D pk ms px)) := by show _ = _; rw [HE2.out, if_neg (by simp [hc1])]
    obtain ⟨hpt1, hpt2⟩ := HPT.out hc1
    rw [hpt1]
    obtain ⟨T0, hT0⟩ : ∃ t : ByteArray, t = ⟨(textP ms).toArray⟩ := ⟨_, rfl⟩
    have hT0s : T0.size ≤ 4640 := by rw [hT0, ba_len]; exact hpt2
    have HT0 : Hid (T0.data.toList = textP ms) := by show _ = _; rw [hT0]
    rw [← hT0]
    clear hT0 hpt1 hpt2 hc1 HE2 HPT
    go_upto_if 42 with fail
    go_cut [11, 12] from 18 (fun v11 v12 wx => ∃ T : ByteArray, v11 = .string T ∧ v12 = .int .i64 (tagsT ms : Nat) ∧ Hid (T.data.toList = txtT ms) ∧ T.size ≤ 4641 ∧ wx = w2)
    case first =>
      by_cases hms : ms = []
      · have hml : ms.length = 0 := by rw [hms]; rfl
        have d0 : decide ((0 : Int) < (ms.length : Int)) = false := by simp; omega
        have HTX : Hid (T0.data.toList = txtT ms) := by show _ = _; rw [HT0.out, hms]; rfl
        have HTG : Hid (tagsT ms = 10) := by show _ = _; rw [hms]; rfl
        clear hms
        go_wp2_with fail
        go_meet
        case rel => exact ⟨T0, rfl, by rw [HTG.out]; rfl, HTX.out, by omega, rfl⟩
      · have hml : 0 < ms.length := List.length_pos_iff.2 hms
        have d0 : decide ((0 : Int) < (ms.length : Int)) = true := by simp; omega
        have HTX : Hid ((T0 ++ ⟨#[0]⟩ : ByteArray).data.toList = txtT ms) := by
          show _ = _
          unfold txtT
          rw [if_neg hms, ← HT0.out]
          simp [ByteArray.data_append]
        have HTS : Hid ((T0 ++ ⟨#[0]⟩ : ByteArray).size ≤ 4641) := by show _ ≤ _; rw [ByteArray.size_append]; show T0.size + 1 ≤ _; omega
        have HTG : Hid (tagsT ms = 11) := by show _ = _; unfold tagsT; rw [if_neg hms]
        clear hms
        go_wp2_with fail
        go_meet
        case rel => exact ⟨_, rfl, by rw [HTG.out]; rfl, HTX.out, HTS.out, rfl⟩
    case rest =>
      obtain ⟨T, rfl, rfl, HTX, hTs, hwc⟩ := hcut
      have hwc2 := hwc.symm
      subst hwc2
      clear hwc HT0 hT0s e1
      have y0 : w2.cell? ⟨B, 0, none⟩ = some (.int .i64 (W : Int)) := HH2.out.cell 0
      have y1 : w2.cell? ⟨B, 1, none⟩ = some (.int .i64 (H : Int)) := HH2.out.cell 1
      have y2 : w2.cell? ⟨B, 2, none⟩ = some (.slice x px.length c) := HH2.out.cell 2
      have HRO := Lib.hid (rsamples_any W H D pk _ px w2 HP2.out hW hH HPL.out hD HVA.out)
      have HRL : Hid ((rowsB D pk W px H).length ≤ 4096 * 256) := Nat.le_trans (rowsB_len D pk W px H hW) (Nat.mul_le_mul_left _ hH)
      go_wp2_with fail
      refine HRO.out.mono ?_
      rintro e w3 ⟨rfl, hb3⟩
      have HBL3 : Hid (Below B w w3) := HBL2.out.trans (hb3.mono (by have := HH2.out.lt; omega))
      have HH3 : Hid (Blk w3 B 34 #[.int .i64 (W : Int), .int .i64 (H : Int), .slice x px.length c]) := (hb3.block _ HH2.out.lt).trans HH2.out
      obtain ⟨tg, htg⟩ : ∃ tg, tagsT ms = tg := ⟨_, rfl⟩
      have htg2 : tg = 10 ∨ tg = 11 := by rw [← htg]; unfold tagsT; split <;> omega
      have HTGM : Hid ((ms = [] → tg = 10) ∧ (ms ≠ [] → tg = 11)) := ⟨fun h => by rw [← htg, h]; rfl, fun h => by rw [← htg]; unfold tagsT; rw [if_neg h]⟩
      obtain ⟨cp, hcp⟩ : ∃ cp, compT pk = cp := ⟨_, rfl⟩
      have hcp2 : cp ≤ 32773 := by rw [← hcp]; unfold compT; split <;> omega
      obtain ⟨R, hR⟩ : ∃ R : ByteArray, R = ⟨(rowsB D pk W px H).toArray⟩ := ⟨_, rfl⟩
      have HRD : Hid (R.data.toList = rowsB D pk W px H) := by show _ = _; rw [hR]
      have hRs : R.size ≤ 1048576 := by rw [hR, ba_len]; exact HRL.out
      rw [← hR]
      rw [htg]
      have HTG := Lib.hid htg
      have HCP := Lib.hid hcp
      obtain ⟨four, hfour⟩ : ∃ q, 14 + 12 * tg = q := ⟨_, rfl⟩
      obtain ⟨t12, ht12⟩ : ∃ q, 12 * tg = q := ⟨_, rfl⟩
      have m1 : 12 * (tg : Int) = (t12 : Int) := by omega
      have m2 : 10 + (t12 : Int) + 4 = (four : Int) := by omega
      obtain ⟨place, hplace⟩ : ∃ q, four + 8 + T.size = q := ⟨_, rfl⟩
      have m3 : (four : Int) + 8 + (T.size : Int) = (place : Int) := by omega
      have hfb : four ≤ 200 := by omega
      have hpb : place ≤ 5000 := by omega
      have HFO : Hid (four = 14 + 12 * tg ∧ place = 22 + 12 * tg + T.size) := ⟨hfour.symm, by omega⟩
      clear hb3 y0 y1 y2 HH2 HP2 HRO HBL2 hR HRL htg hcp hfour ht12 hplace
      go_upto_region 17 with fail
      clear m1 m2 m3
      go_upto_if 58 with fail
      go_cut [16] from 18 (fun v16 wx => v16 = .int .i64 (cp : Nat) ∧ wx = w3)
      case first =>
        cases pk with
        | true =>
          have e : cp = 32773 := HCP.out.symm
          go_wp2_with fail
          go_meet
          case rel => exact ⟨by rw [e]; rfl, rfl⟩
        | false =>
          have e : cp = 1 := HCP.out.symm
          go_wp2_with fail
          go_meet
          case rel => exact ⟨by rw [e]; rfl, rfl⟩
      case rest =>
        obtain ⟨rfl, hwc⟩ := hcut
        have hwc2 := hwc.symm
        subst hwc2
        clear hwc
        have HL42 := Lib.hid (fun w => rlittle_any 42 2 w (by decide))
        have HL8 := Lib.hid (fun w => rlittle_any 8 4 w (by decide))
        have HLT := Lib.hid (fun w => rlittle_any tg 2 w (by decide))
        rw [litB_42] at HL42
        rw [litB_8] at HL8
        rw [litB_tg htg2] at HLT
        obtain ⟨l42, h42, h42s⟩ : ∃ t : ByteArray, t = ⟨#[42, 0]⟩ ∧ t.size ≤ 12 := ⟨_, rfl, by decide⟩
        obtain ⟨l8, h8, h8s⟩ : ∃ t : ByteArray, t = ⟨#[8, 0, 0, 0]⟩ ∧ t.size ≤ 12 := ⟨_, rfl, by decide⟩
        obtain ⟨lt, hlt, hlts⟩ : ∃ t : ByteArray, t = ⟨[UInt8.ofNat tg, 0].toArray⟩ ∧ t.size ≤ 12 := ⟨_, rfl, by rw [ba_len]; simp⟩
        have HL42' : Hid (∀ w, Calls Try.prog 63 #[.int .i64 42, .int .i64 2] w fun e w' => e = .returned (.string l42) ∧ Below w.heap.size w w') := by rw [h42]; exact HL42.out
        have HL8' : Hid (∀ w, Calls Try.prog 63 #[.int .i64 8, .int .i64 4] w fun e w' => e = .returned (.string l8) ∧ Below w.heap.size w w') := by rw [h8]; exact HL8.out
        rw [← hlt] at HLT
        have HS1 : Hid ((((⟨#[73, 73]⟩ : ByteArray) ++ l42) ++ l8) ++ lt = (((⟨#[73, 73]⟩ : ByteArray) ++ l42) ++ l8) ++ lt) := rfl
        have hL1 : ((((⟨#[73, 73]⟩ : ByteArray) ++ l42) ++ l8) ++ lt).data.toList = [73, 73] ++ [42, 0, 8, 0, 0, 0, UInt8.ofNat tg, 0] ∧ ((((⟨#[73, 73]⟩ : ByteArray) ++ l42) ++ l8) ++ lt).size ≤ 100 := by
          refine ⟨?_, by simp only [ba_sz]; have : (⟨#[73, 73]⟩ : ByteArray).size = 2 := rfl; omega⟩
          rw [ba_app _ _ _ _ (ba_app _ _ _ _ (ba_app _ _ _ _ rfl rfl) rfl) rfl, h42, h8, hlt]; rfl
        clear HS1 HL42 HL8 h42 h8 hlt
        go_wp2_with fail
        refine (HL42'.out _).mono ?_
        rintro e w4 ⟨rfl, hb4⟩
        have HJ4 : Hid (Below w3.heap.size w3 w4) := hb4
        clear hb4
        go_wp2_with fail
        refine (HL8'.out _).mono ?_
        rintro e w5 ⟨rfl, hb5⟩
        have HJ5 := Lib.hid (bthen HJ4.out hb5)
        clear hb5
        go_wp2_with fail
        refine (HLT.out _).mono ?_
        rintro e w6 ⟨rfl, hb6⟩
        have HJ6 := Lib.hid (bthen HJ5.out hb6)
        clear hb6 HJ4 HJ5
        have HST : Hid (∀ wr, Below w3.heap.size w3 wr → Below B w wr ∧ Blk wr B 34 #[.int .i64 (W : Int), .int .i64 (H : Int), .slice x px.length c]) := fun wr h => ⟨HBL3.out.trans (h.mono (Nat.le_of_lt HH3.out.lt)), (h.block _ HH3.out.lt).trans HH3.out⟩
        go_upto_region 21 with fail
        generalize (((⟨#[73, 73]⟩ : ByteArray) ++ l42) ++ l8) ++ lt = S1 at *
        have HS1 := Lib.hid hL1.1
        have hS1s := hL1.2
        clear hL1
        obtain ⟨e1, he1, e1s⟩ : ∃ t : ByteArray, t = ⟨(tagB 256 4 1 W).toArray⟩ ∧ t.size ≤ 12 := ⟨_, rfl, by rw [ba_len, tagB_len]; decide⟩
        have He1 : Hid (∀ w, Calls Try.prog 64 #[.int .i64 256, .int .i64 4, .int .i64 1, .int .i64 (W : Int)] w fun e w' => e = .returned (.string e1) ∧ Below w.heap.size w w') := fun w => by have h := rentry_any 256 4 1 W w; rw [← he1] at h; exact h
        obtain ⟨e2, he2, e2s⟩ : ∃ t : ByteArray, t = ⟨(tagB 257 4 1 H).toArray⟩ ∧ t.size ≤ 12 := ⟨_, rfl, by rw [ba_len, tagB_len]; decide⟩
        have He2 : Hid (∀ w, Calls Try.prog 64 #[.int .i64 257, .int .i64 4, .int .i64 1, .int .i64 (H : Int)] w fun e w' => e = .returned (.string e2) ∧ Below w.heap.size w w') := fun w => by have h := rentry_any 257 4 1 H w; rw [← he2] at h; exact h
        obtain ⟨e3, he3, e3s⟩ : ∃ t : ByteArray, t = ⟨(tagB 258 3 4 four).toArray⟩ ∧ t.size ≤ 12 := ⟨_, rfl, by rw [ba_len, tagB_len]; decide⟩
        have He3 : Hid (∀ w, Calls Try.prog 64 #[.int .i64 258, .int .i64 3, .int .i64 4, .int .i64 (four : Int)] w fun e w' => e = .returned (.string e3) ∧ Below w.heap.size w w') := fun w => by have h := rentry_any 258 3 4 four w; rw [← he3] at h; exact h
        obtain ⟨e4, he4, e4s⟩ : ∃ t : ByteArray, t = ⟨(tagB 259 3 1 cp).toArray⟩ ∧ t.size ≤ 12 := ⟨_, rfl, by rw [ba_len, tagB_len]; decide⟩
        have He4 : Hid (∀ w, Calls Try.prog 64 #[.int .i64 259, .int .i64 3, .int .i64 1, .int .i64 (cp : Int)] w fun e w' => e = .returned (.string e4) ∧ Below w.heap.size w w') := fun w => by have h := rentry_any 259 3 1 cp w; rw [← he4] at h; exact h
        obtain ⟨e5, he5, e5s⟩ : ∃ t : ByteArray, t = ⟨(tagB 262 3 1 2).toArray⟩ ∧ t.size ≤ 12 := ⟨_, rfl, by rw [ba_len, tagB_len]; decide⟩
        have He5 : Hid (∀ w, Calls Try.prog 64 #[.int .i64 262, .int .i64 3, .int .i64 1, .int .i64 2] w fun e w' => e = .returned (.string e5) ∧ Below w.heap.size w w') := fun w => by have h := rentry_any 262 3 1 2 w; rw [← he5] at h; exact h
        have hLS2 : (S1 ++ ((((e1 ++ e2) ++ e3) ++ e4) ++ e5)).data.toList = S1.data.toList ++ (tagB 256 4 1 W ++ tagB 257 4 1 H ++ tagB 258 3 4 four ++ tagB 259 3 1 cp ++ tagB 262 3 1 2) ∧ (S1 ++ ((((e1 ++ e2) ++ e3) ++ e4) ++ e5)).size ≤ S1.size + 60 := by
          refine ⟨?_, by simp only [ba_sz]; omega⟩
          rw [ba_app _ _ _ _ rfl (ba_app _ _ _ _ (ba_app _ _ _ _ (ba_app _ _ _ _ (ba_app _ _ _ _ rfl rfl) rfl) rfl) rfl), he1, he2, he3, he4, he5]
        clear he1 he2 he3 he4 he5
        go_upto_region 21 with fail
        obtain ⟨K0, hK0⟩ : ∃ K0, K0 = w6.heap.size := ⟨_, rfl⟩
        have HK0 : Hid (K0 ≤ w6.heap.size) := by show _ ≤ _; omega
        have hPK : B < K0 := by rw [hK0]; exact (HST.out _ HJ6.out).2.lt
        have HBK : Hid (Below w3.heap.size w3 w6 ∧ w3.heap.size ≤ K0) := ⟨HJ6.out, by rw [hK0]; exact HJ6.out.size⟩
        clear hK0
        have c0 : ∀ u : BW K0 w6, u.w.cell? ⟨B, 0, none⟩ = some (.int .i64 (W : Int)) := fun u => (u.b.cell (p := ⟨B, 0, none⟩) hPK).trans ((HST.out _ HJ6.out).2.cell 0)
        have c1 : ∀ u : BW K0 w6, u.w.cell? ⟨B, 1, none⟩ = some (.int .i64 (H : Int)) := fun u => (u.b.cell (p := ⟨B, 1, none⟩) hPK).trans ((HST.out _ HJ6.out).2.cell 1)
        refine wp_region_bw K0 w6 (Below.refl _ _) (by kernel_rfl) (by kernel_rfl) ?_
        repeat (go_big_quiet_step (first
          | (go_at_call_of 64 (Value.int .i64 256); exact calls_bw HK0.out (He1.out _))
          | (go_at_call_of 64 (Value.int .i64 257); exact calls_bw HK0.out (He2.out _))
          | (go_at_call_of 64 (Value.int .i64 258); exact calls_bw HK0.out (He3.out _))
          | (go_at_call_of 64 (Value.int .i64 259); exact calls_bw HK0.out (He4.out _))
          | (go_at_call_of 64 (Value.int .i64 262); exact calls_bw HK0.out (He5.out _))))
        refine wpQuiet_nil ?_
        rintro _ ⟨u, rfl⟩
        have hbu : Below w3.heap.size w3 u.w := HBK.out.1.trans (u.b.mono HBK.out.2)
        generalize u.w = w7 at *
        clear c0 c1
        have HJ7 := Lib.hid hbu
        clear hbu
        generalize S1 ++ ((((e1 ++ e2) ++ e3) ++ e4) ++ e5) = S2 at *
        have HS2 := Lib.hid hLS2.1
        have hS2s := hLS2.2
        clear hLS2 He1 He2 He3 He4 He5
        go_upto_if 85 with fail
        go_cut [17] from 18 (fun v17 wx => ∃ S3 : ByteArray, v17 = .string S3 ∧ Hid (S3.data.toList = S2.data.toList ++ (if ms = [] then [] else tagB 270 2 T.size (four + 8))) ∧ S3.size ≤ S2.size + 12 ∧ Hid (Below w3.heap.size w3 wx))
        case first =>
          by_cases hms : ms = []
          · have hml : ms.length = 0 := by rw [hms]; rfl
            have d0 : decide ((0 : Int) < (ms.length : Int)) = false := by simp; omega
            have HX : Hid (S2.data.toList = S2.data.toList ++ (if ms = [] then [] else tagB 270 2 T.size (four + 8))) := by show _ = _; rw [if_pos hms, List.append_nil]
            clear hms
            go_wp2_with fail
            go_meet
            case rel => exact ⟨S2, rfl, HX.out, by omega, HJ7.out⟩
          · have hml : 0 < ms.length := List.length_pos_iff.2 hms
            have d0 : decide ((0 : Int) < (ms.length : Int)) = true := by simp; omega
            obtain ⟨f8, hf8⟩ : ∃ q, four + 8 = q := ⟨_, rfl⟩
            have m4 : (four : Int) + 8 = (f8 : Int) := by omega
            obtain ⟨e6, he6, he6s⟩ : ∃ t : ByteArray, t = ⟨(tagB 270 2 T.size f8).toArray⟩ ∧ t.size ≤ 12 := ⟨_, rfl, by rw [ba_len, tagB_len]; decide⟩
            have HE6 : Hid (∀ w, Calls Try.prog 64 #[.int .i64 270, .int .i64 2, .int .i64 (T.size : Int), .int .i64 (f8 : Int)] w fun e w' => e = .returned (.string e6) ∧ Below w.heap.size w w') := fun w => by have h := rentry_any 270 2 T.size f8 w; rw [← he6] at h; exact h
            have HX : Hid ((S2 ++ e6).data.toList = S2.data.toList ++ (if ms = [] then [] else tagB 270 2 T.size (four + 8)) ∧ (S2 ++ e6).size ≤ S2.size + 12) := by
              refine ⟨?_, by simp only [ba_sz]; omega⟩
              rw [if_neg hms, hf8, ba_app _ _ _ _ rfl rfl, he6]
            clear hms hf8 he6
            go_wp2_with fail
            refine (HE6.out _).mono ?_
            rintro e w8 ⟨rfl, hb8⟩
            have HJ8 := Lib.hid (bthen HJ7.out hb8)
            clear hb8
            go_wp2_with fail
            go_meet
            case rel => exact ⟨_, rfl, HX.out.1, HX.out.2, HJ8.out⟩
        case rest =>
          obtain ⟨S3, rfl, HS3, hS3s, HJ8⟩ := hcut
          obtain ⟨g1, hg1, g1s⟩ : ∃ t : ByteArray, t = ⟨(tagB 273 4 1 place).toArray⟩ ∧ t.size ≤ 12 := ⟨_, rfl, by rw [ba_len, tagB_len]; decide⟩
          have Hg1 : Hid (∀ w, Calls Try.prog 64 #[.int .i64 273, .int .i64 4, .int .i64 1, .int .i64 (place : Int)] w fun e w' => e = .returned (.string g1) ∧ Below w.heap.size w w') := fun w => by have h := rentry_any 273 4 1 place w; rw [← hg1] at h; exact h
          obtain ⟨g2, hg2, g2s⟩ : ∃ t : ByteArray, t = ⟨(tagB 277 3 1 4).toArray⟩ ∧ t.size ≤ 12 := ⟨_, rfl, by rw [ba_len, tagB_len]; decide⟩
          have Hg2 : Hid (∀ w, Calls Try.prog 64 #[.int .i64 277, .int .i64 3, .int .i64 1, .int .i64 4] w fun e w' => e = .returned (.string g2) ∧ Below w.heap.size w w') := fun w => by have h := rentry_any 277 3 1 4 w; rw [← hg2] at h; exact h
          obtain ⟨g3, hg3, g3s⟩ : ∃ t : ByteArray, t = ⟨(tagB 278 4 1 H).toArray⟩ ∧ t.size ≤ 12 := ⟨_, rfl, by rw [ba_len, tagB_len]; decide⟩
          have Hg3 : Hid (∀ w, Calls Try.prog 64 #[.int .i64 278, .int .i64 4, .int .i64 1, .int .i64 (H : Int)] w fun e w' => e = .returned (.string g3) ∧ Below w.heap.size w w') := fun w => by have h := rentry_any 278 4 1 H w; rw [← hg3] at h; exact h
          obtain ⟨g4, hg4, g4s⟩ : ∃ t : ByteArray, t = ⟨(tagB 279 4 1 R.size).toArray⟩ ∧ t.size ≤ 12 := ⟨_, rfl, by rw [ba_len, tagB_len]; decide⟩
          have Hg4 : Hid (∀ w, Calls Try.prog 64 #[.int .i64 279, .int .i64 4, .int .i64 1, .int .i64 (R.size : Int)] w fun e w' => e = .returned (.string g4) ∧ Below w.heap.size w w') := fun w => by have h := rentry_any 279 4 1 R.size w; rw [← hg4] at h; exact h
          obtain ⟨g5, hg5, g5s⟩ : ∃ t : ByteArray, t = ⟨(tagB 338 3 1 2).toArray⟩ ∧ t.size ≤ 12 := ⟨_, rfl, by rw [ba_len, tagB_len]; decide⟩
          have Hg5 : Hid (∀ w, Calls Try.prog 64 #[.int .i64 338, .int .i64 3, .int .i64 1, .int .i64 2] w fun e w' => e = .returned (.string g5) ∧ Below w.heap.size w w') := fun w => by have h := rentry_any 338 3 1 2 w; rw [← hg5] at h; exact h
          have hLS4 : (S3 ++ ((((g1 ++ g2) ++ g3) ++ g4) ++ g5)).data.toList = S3.data.toList ++ (tagB 273 4 1 place ++ tagB 277 3 1 4 ++ tagB 278 4 1 H ++ tagB 279 4 1 R.size ++ tagB 338 3 1 2) ∧ (S3 ++ ((((g1 ++ g2) ++ g3) ++ g4) ++ g5)).size ≤ S3.size + 60 := by
            refine ⟨?_, by simp only [ba_sz]; omega⟩
            rw [ba_app _ _ _ _ rfl (ba_app _ _ _ _ (ba_app _ _ _ _ (ba_app _ _ _ _ (ba_app _ _ _ _ rfl rfl) rfl) rfl) rfl), hg1, hg2, hg3, hg4, hg5]
          clear hg1 hg2 hg3 hg4 hg5
          go_upto_region 24 with fail
          obtain ⟨K0, hK0⟩ : ∃ K0, K0 = wc.heap.size := ⟨_, rfl⟩
          have HK0 : Hid (K0 ≤ wc.heap.size) := by show _ ≤ _; omega
          have hPK : B < K0 := by rw [hK0]; exact (HST.out _ HJ8.out).2.lt
          have HBK : Hid (Below w3.heap.size w3 wc ∧ w3.heap.size ≤ K0) := ⟨HJ8.out, by rw [hK0]; exact HJ8.out.size⟩
          clear hK0
          have c0 : ∀ u : BW K0 wc, u.w.cell? ⟨B, 0, none⟩ = some (.int .i64 (W : Int)) := fun u => (u.b.cell (p := ⟨B, 0, none⟩) hPK).trans ((HST.out _ HJ8.out).2.cell 0)
          have c1 : ∀ u : BW K0 wc, u.w.cell? ⟨B, 1, none⟩ = some (.int .i64 (H : Int)) := fun u => (u.b.cell (p := ⟨B, 1, none⟩) hPK).trans ((HST.out _ HJ8.out).2.cell 1)
          refine wp_region_bw K0 wc (Below.refl _ _) (by kernel_rfl) (by kernel_rfl) ?_
          repeat (go_big_quiet_step (first
            | (go_at_call_of 64 (Value.int .i64 273); exact calls_bw HK0.out (Hg1.out _))
            | (go_at_call_of 64 (Value.int .i64 277); exact calls_bw HK0.out (Hg2.out _))
            | (go_at_call_of 64 (Value.int .i64 278); exact calls_bw HK0.out (Hg3.out _))
            | (go_at_call_of 64 (Value.int .i64 279); exact calls_bw HK0.out (Hg4.out _))
            | (go_at_call_of 64 (Value.int .i64 338); exact calls_bw HK0.out (Hg5.out _))))
          refine wpQuiet_nil ?_
          rintro _ ⟨u, rfl⟩
          have hbu : Below w3.heap.size w3 u.w := HBK.out.1.trans (u.b.mono HBK.out.2)
          generalize u.w = w9 at *
          clear c0 c1
          have HJ9 := Lib.hid hbu
          clear hbu
          generalize S3 ++ ((((g1 ++ g2) ++ g3) ++ g4) ++ g5) = S4 at *
          have HS4 := Lib.hid hLS4.1
          have hS4s := hLS4.2
          clear hLS4 Hg1 Hg2 Hg3 Hg4 Hg5
          have HZ4 : Hid (∀ w, Calls Try.prog 63 #[.int .i64 0, .int .i64 4] w fun e w' => e = .returned (.string ⟨(litB 0 4).toArray⟩) ∧ Below w.heap.size w w') := fun w => rlittle_any 0 4 w (by decide)
          have HD2 := Lib.hid (fun w => rlittle_any D 2 w (by decide))
          obtain ⟨z4, hz4, hz4s⟩ : ∃ t : ByteArray, t = ⟨(litB 0 4).toArray⟩ ∧ t.size ≤ 12 := ⟨_, rfl, by rw [ba_len, litB_len]; decide⟩
          obtain ⟨d2, hd2, hd2s⟩ : ∃ t : ByteArray, t = ⟨(litB D 2).toArray⟩ ∧ t.size ≤ 12 := ⟨_, rfl, by rw [ba_len, litB_len]; decide⟩
          rw [← hz4] at HZ4
          rw [← hd2] at HD2
          have hLF : (S4 ++ ((((((z4 ++ d2) ++ d2) ++ d2) ++ d2) ++ T) ++ R)).data.toList = S4.data.toList ++ (litB 0 4 ++ litB D 2 ++ litB D 2 ++ litB D 2 ++ litB D 2 ++ T.data.toList ++ R.data.toList) ∧ (S4 ++ ((((((z4 ++ d2) ++ d2) ++ d2) ++ d2) ++ T) ++ R)).size ≤ 2000000 := by
            refine ⟨?_, by simp only [ba_sz]; omega⟩
            rw [ba_app _ _ _ _ rfl (ba_app _ _ _ _ (ba_app _ _ _ _ (ba_app _ _ _ _ (ba_app _ _ _ _ (ba_app _ _ _ _ (ba_app _ _ _ _ rfl rfl) rfl) rfl) rfl) rfl) rfl), hz4, hd2]
          have hs4 : S4.size ≤ 300 := by omega
          clear hz4 hd2
          go_wp2_with fail
          refine (HZ4.out _).mono ?_
          rintro e v1 ⟨rfl, hbv⟩
          have HV1 := Lib.hid (bthen HJ9.out hbv)
          clear hbv
          go_wp2_with fail
          refine (HD2.out _).mono ?_
          rintro e v2 ⟨rfl, hbv⟩
          have HV2 := Lib.hid (bthen HV1.out hbv)
          clear hbv
          go_wp2_with fail
          refine (HD2.out _).mono ?_
          rintro e v3 ⟨rfl, hbv⟩
          have HV3 := Lib.hid (bthen HV2.out hbv)
          clear hbv
          go_wp2_with fail
          refine (HD2.out _).mono ?_
          rintro e v4 ⟨rfl, hbv⟩
          have HV4 := Lib.hid (bthen HV3.out hbv)
          clear hbv
          go_wp2_with fail
          refine (HD2.out _).mono ?_
          rintro e v5 ⟨rfl, hbv⟩
          have HV5 := Lib.hid (bthen HV4.out hbv)
          clear hbv
          have HBF := Lib.hid (HST.out _ HV5.out).1
          go_upto_region 26 with fail
          generalize S4 ++ ((((((z4 ++ d2) ++ d2) ++ d2) ++ d2) ++ T) ++ R) = SF at *
          have HSF : Hid (SF.data.toList = fileT W H D pk ms px) := by
            show _ = _
            have hTl : (txtT ms).length = T.size := by rw [← HTX.out, ba_size]
            have hRl : (rowsB D pk W px H).length = R.size := by rw [← HRD.out, ba_size]
            unfold fileT
            rw [hLF.1, HS4.out, HS3.out, HS2.out, HS1.out, hTl, hRl, HTG.out, HCP.out, ← HFO.out.1, HTX.out, HRD.out]
            rw [show 22 + 12 * tg = four + 8 by have := HFO.out.1; omega, show four + 8 + T.size = place by have := HFO.out; omega]
            simp only [List.append_assoc]
          have hSFs : SF.size ≤ 2000000 := hLF.2
          have HSL : Hid ((fileT W H D pk ms px).length = SF.size) := by show _ = _; rw [← HSF.out, ba_size]
          clear hLF HS1 HS2 HS3 HS4
          by_cases hbig : 1048576 < SF.size
          · have db : decide ((1048576 : Int) < (SF.size : Int)) = true := by simp; omega
            have HF : Hid (encT W H px D pk ms = .error 3) := by show _ = _; rw [HE3.out, if_pos (by rw [HSL.out]; exact hbig)]
            go_wp2_with fail
            refine bodyPost_ret (v := .tuple #[.string ⟨#[]⟩, .int .i64 3]) (by simp [results, Try.f25, go_sem]) rfl ⟨?_, by rw [HB.out]; exact HBF.out⟩
            rw [HF.out]; rfl
          · have db : decide ((1048576 : Int) < (SF.size : Int)) = false := by simp; omega
            have HF : Hid (encT W H px D pk ms = .ok (fileT W H D pk ms px)) := by show _ = _; rw [HE3.out, if_neg (by rw [HSL.out]; exact hbig)]
            have HSE : Hid (SF = ⟨(fileT W H D pk ms px).toArray⟩) := by show _ = _; rw [← HSF.out]
            go_wp2_with fail
            refine bodyPost_ret (v := .tuple #[.string SF, .int .i64 0]) (by simp [results, Try.f25, go_sem]) rfl ⟨?_, by rw [HB.out]; exact HBF.out⟩
            rw [HF.out, HSE.out]; rfl
end Go.Proofs.Ytakileiomgaahaa
