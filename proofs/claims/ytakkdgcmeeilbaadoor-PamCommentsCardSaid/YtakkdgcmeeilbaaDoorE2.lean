/-
  Walks: Encode, in the program of pam.
-/
import Derived.Test.YtakkdgcmeeilbaaDoorE4
import Derived.Test.YtakkdgcmeeilbaaDoorIto
import Derived.Test.YtakkdgcmeeilbaaDoorItb
import Derived.Lib.SlBytesConst
import Derived.Deep.RegionLaw
namespace Go.Proofs.YtakkdgcmeeilbaaDoor
open Go.RowKit

set_option maxHeartbeats 8000000 in
set_option maxRecDepth 100000 in
theorem encode_any (W H d : Int) (v mv : Value) (px : List Px) (ms : List Mt) (w : World) (hp : PRow w v px) (hm : MRow w mv ms) (htab : Lib.TabIs Tryd.prog w "internal/strconv.uint64pow10" .u64 Lib.pow10Tab) :
    Calls Tryd.prog 6 #[.agg (imgI W H v), .int .i64 d, mv] w fun e w' => EncOk (encP W H px d ms) e ∧ Below w.heap.size w w' := by
  have HE : Hid (encP W H px d ms = if rchk W H px ≠ 0 then .error (rchk W H px) else if W = 0 then .error 15 else if d ≠ 8 ∧ d ≠ 16 then .error 2 else if chkP ms ≠ 0 then .error (chkP ms) else if 1048576 < (fileB W.toNat H.toNat d.toNat ms px).length then .error 3 else .ok (fileB W.toNat H.toNat d.toNat ms px)) := rfl
  obtain ⟨x, c, rfl, -, hcp, -⟩ := id hp
  obtain ⟨xm, cm, rfl, -, hcm, -⟩ := id hm
  unfold maxLen at hcp hcm
  have h0 := Blk.new w 24 (imgI W H (.slice x px.length c))
  have hbl := (Below.refl w.heap.size w).alloc (Nat.le_refl _) (.cells (imgI W H (.slice x px.length c)) 24)
  have HTZ := Lib.hid (tab_below htab hbl)
  have HPZ := Lib.hid (hp.below hbl)
  have HMZ := Lib.hid (hm.below hbl)
  have HCI := Lib.hid (fun w h => pcheckI_any W H (.slice x px.length c) px w h)
  have HCM := Lib.hid (fun w h => check_any (.slice xm ms.length cm) ms w h)
  have HRZ := Lib.hid (fun h => rchk_zero (W := W) (H := H) (px := px) h)
  have HCL := Lib.hid (fun h => chk_lens (ms := ms) h)
  clear hp hm htab
  unfold imgI at *
  go_enter Tryd.func6, Tryd.ntmps6
  go_upto_region 1 with fail
  generalize w.alloc (.cells #[.int .i64 W, .int .i64 H, .slice x px.length c] 24) = wz at *
  have HH0 := Lib.hid h0
  have HBL0 := Lib.hid hbl
  clear h0 hbl
  generalize hB : w.heap.size = B at *
  have HB := Lib.hid hB
  clear hB
  have y0 : wz.cell? ⟨B, 0, none⟩ = some (.int .i64 W) := HH0.out.cell 0
  have y1 : wz.cell? ⟨B, 1, none⟩ = some (.int .i64 H) := HH0.out.cell 1
  have y2 : wz.cell? ⟨B, 2, none⟩ = some (.slice x px.length c) := HH0.out.cell 2
  go_wp2_with fail
  refine (HCI.out _ HPZ.out).mono ?_
  rintro e w1 ⟨rfl, hb1⟩
  have HBL : Hid (Below B w w1) := HBL0.out.trans (hb1.mono (by have := HH0.out.lt; omega))
  have HH1 : Hid (Blk w1 B 24 #[.int .i64 W, .int .i64 H, .slice x px.length c]) := (hb1.block _ HH0.out.lt).trans HH0.out
  have HP1 := Lib.hid (HPZ.out.below hb1)
  have HM1 := Lib.hid (HMZ.out.below hb1)
  have HT1 := Lib.hid (tab_below HTZ.out hb1)
  clear y0 y1 y2 hb1 HH0 HBL0 HPZ HMZ HCI HTZ
  obtain ⟨ck, hck⟩ : ∃ ck, rchk W H px = ck := ⟨_, rfl⟩
  rw [hck] at HE HRZ ⊢
  clear hck
  by_cases hc0 : ck = 0
  case neg =>
    have e0 : ((ck : Int) == 0) = false := by simp; omega
    have HF : Hid (encP W H px d ms = .error ck) := by show _ = _; rw [HE.out, if_pos hc0]
    go_wp2_with fail
    refine bodyPost_ret (v := .tuple #[.string ⟨#[]⟩, .int .i64 ck]) (by simp [results, Tryd.f6, go_sem]) rfl ⟨?_, by rw [HB.out]; exact HBL.out⟩
    rw [HF.out]; rfl
  subst hc0
  obtain ⟨W, H, rfl, rfl, hW, hH, hpl, hval⟩ := HRZ.out rfl
  have HVA := Lib.hid hval
  have hpl2 : px.length ≤ 65536 := by rw [hpl]; have := Nat.mul_le_mul hW hH; omega
  clear HRZ hpl hval
  have y0 : w1.cell? ⟨B, 0, none⟩ = some (.int .i64 W) := HH1.out.cell 0
  by_cases hW0 : W = 0
  case pos =>
    have e1 : ((W : Int) == 0) = true := by rw [hW0]; rfl
    have HF : Hid (encP W H px d ms = .error 15) := by show _ = _; rw [HE.out, if_neg (by simp), if_pos (by omega)]
    go_wp2_with fail
    refine bodyPost_ret (v := .tuple #[.string ⟨#[]⟩, .int .i64 15]) (by simp [results, Tryd.f6, go_sem]) rfl ⟨?_, by rw [HB.out]; exact HBL.out⟩
    rw [HF.out]; rfl
  have e1 : ((W : Int) == 0) = false := by simp; omega
  by_cases hd8 : d = 8 ∨ d = 16
  case neg =>
    have e8 : (d == 8) = false := by rw [beq_eq_false_iff_ne]; intro h; exact hd8 (.inl h)
    have e16 : (d == 16) = false := by rw [beq_eq_false_iff_ne]; intro h; exact hd8 (.inr h)
    have b8 : (d != 8) = true := by unfold bne; rw [e8]; rfl
    have b16 : (d != 16) = true := by unfold bne; rw [e16]; rfl
    have HF : Hid (encP W H px d ms = .error 2) := by show _ = _; rw [HE.out, if_neg (by simp), if_neg (by omega), if_pos ⟨fun h => hd8 (.inl h), fun h => hd8 (.inr h)⟩]
    go_wp2_with fail
    refine bodyPost_ret (v := .tuple #[.string ⟨#[]⟩, .int .i64 2]) (by simp [results, Tryd.f6, go_sem]) rfl ⟨?_, by rw [HB.out]; exact HBL.out⟩
    rw [HF.out]; rfl
  obtain ⟨D, rfl⟩ : ∃ D : Nat, d = (D : Int) := ⟨d.toNat, by omega⟩
  have hD : D = 8 ∨ D = 16 := by omega
  have HE2 : Hid (encP W H px D ms = if chkP ms ≠ 0 then .error (chkP ms) else if 1048576 < (fileB W H D ms px).length then .error 3 else .ok (fileB W H D ms px)) := by
    show _ = _; rw [HE.out, if_neg (by simp), if_neg (by omega), if_neg (by omega)]; rfl
  have HCM1 := Lib.hid (HCM.out w1 HM1.out)
  clear HE HCM hd8
  obtain ⟨is16, his16⟩ : ∃ b, b = decide (D = 16) := ⟨_, rfl⟩
  have e16 : ((D : Int) == 16) = is16 := by rw [his16]; by_cases h : D = 16 <;> simp [h] <;> omega
  have e8 : is16 = false → ((D : Int) == 8) = true := by rw [his16]; intro h; have := of_decide_eq_false h; simp; omega
  have HIS := Lib.hid his16
  have H8 := Lib.hid e8
  clear his16 e8
  cases is16 with
  | true =>
    have b16 : ((D : Int) != 16) = false := by unfold bne; rw [e16]; rfl
    have e8 : ((D : Int) == 8) = false := by have := of_decide_eq_true HIS.out.symm; simp; omega
    have b8 : ((D : Int) != 8) = true := by unfold bne; rw [e8]; rfl
    go_wp2_with fail
    refine HCM1.out.mono ?_
    rintro e w2 ⟨rfl, hb2⟩
    have HBL2 : Hid (Below B w w2) := HBL.out.trans (hb2.mono (by have := HH1.out.lt; omega))
    have HH2 : Hid (Blk w2 B 24 #[.int .i64 (W : Int), .int .i64 (H : Int), .slice x px.length c]) := (hb2.block _ HH1.out.lt).trans HH1.out
    have HP2 : Hid (PRow w2 (.slice x px.length c) px) := HP1.out.below hb2
    have HM2 : Hid (MRow w2 (.slice xm ms.length cm) ms) := HM1.out.below hb2
    have HT2 := Lib.hid (tab_below HT1.out hb2)
    clear y0 HBL HH1 HP1 HM1 HCM1 HT1 hb2
    obtain ⟨cm0, hcm0⟩ : ∃ ck, chkP ms = ck := ⟨_, rfl⟩
    rw [hcm0] at HE2 HCL ⊢
    clear hcm0
    by_cases hc0 : cm0 = 0
    case neg =>
      have e0 : ((cm0 : Int) == 0) = false := by simp; omega
      have HF : Hid (encP W H px D ms = .error cm0) := by show _ = _; rw [HE2.out, if_pos hc0]
      go_wp2_with fail
      refine bodyPost_ret (v := .tuple #[.string ⟨#[]⟩, .int .i64 cm0]) (by simp [results, Tryd.f6, go_sem]) rfl ⟨?_, by rw [HB.out]; exact HBL2.out⟩
      rw [HF.out]; rfl
    subst hc0
    have hml := (HCL.out rfl).1
    have HML := Lib.hid (HCL.out rfl).2
    clear HCL
    have HE3 : Hid (encP W H px D ms = if 1048576 < (fileB W H D ms px).length then .error 3 else .ok (fileB W H D ms px)) := by show _ = _; rw [HE2.out, if_neg (by simp)]
    clear HE2
    have HO0 : Hid (Full (w2.alloc (.cells #[.int .u8 80, .int .u8 55, .int .u8 10] 5 (3, 4))) (.slice (some ⟨w2.heap.size, 0, none⟩) 3 3) ([80, 55, 10] ++ metB [])) := by
      refine ⟨w2.heap.size, rfl, fun j hj => ?_⟩
      have hb : (w2.alloc (.cells #[.int .u8 80, .int .u8 55, .int .u8 10] 5 (3, 4))).heap[w2.heap.size]? = some (.cells #[.int .u8 80, .int .u8 55, .int .u8 10] 5 (3, 4)) := heap_alloc_new w2 _
      have hj3 : j < 3 := hj
      have := cell_of_row (w2.alloc (.cells #[.int .u8 80, .int .u8 55, .int .u8 10] 5 (3, 4))) w2.heap.size j _ _ _ hb
      rw [this]
      match j, hj3 with
      | 0, _ => rfl
      | 1, _ => rfl
      | 2, _ => rfl
    have HOB : Hid (Below w2.heap.size w2 (w2.alloc (.cells #[.int .u8 80, .int .u8 55, .int .u8 10] 5 (3, 4)))) := (Below.refl _ _).alloc (Nat.le_refl _) _
    have hcv := Lib.run_convert_bytes_const (P := Tryd.prog) w2 42 5 #[.int .u8 80, .int .u8 55, .int .u8 10] 3 3 Tryd.underlying42 Tryd.underlying5
    change _ = Result.ok _ (w2.alloc (.cells #[.int .u8 80, .int .u8 55, .int .u8 10] 5 (3, 4))) at hcv
    go_wp2_with fail
    clear hcv
    generalize w2.alloc (.cells #[.int .u8 80, .int .u8 55, .int .u8 10] 5 (3, 4)) = w3 at *
    generalize hB2 : w2.heap.size = B2 at *
    have HB2 := Lib.hid hB2
    clear hB2
    have hmax : maxLen = 9223372036854775807 := rfl
    go_loopw [11, 41] (fun vo vk wr => ∃ (k : Nat), vk = .int .i64 k ∧ k ≤ ms.length ∧ ORow2 wr B2 5 vo ([80, 55, 10] ++ metB (ms.take k)) ∧ B2 ≤ wr.heap.size ∧ Hid (Below B2 w2 wr)) (fun _ vk _ => ms.length - (intOf vk).toNat)
    case atStart => exact ⟨0, rfl, Nat.zero_le _, by show ORow2 _ _ _ _ _; exact .inr HO0.out, by have := HOB.out.size; have := HB2.out; omega, HOB.out⟩
    case round =>
      obtain ⟨k, rfl, hk, hrow, hszr, hbw⟩ := hrel
      obtain ⟨acc, hacc⟩ : ∃ acc, acc = [80, 55, 10] ++ metB (ms.take k) := ⟨_, rfl⟩
      have hal : acc.length ≤ 5000 := by
        rw [hacc, List.length_append]
        have := metB_len (ms.take k) (fun m hm => HML.out m (List.mem_of_mem_take hm))
        have : (ms.take k).length ≤ 16 := by rw [List.length_take]; omega
        simp only [List.length_cons, List.length_nil]
        omega
      rw [← hacc] at hrow
      have HACC := Lib.hid hacc
      clear hacc
      obtain ⟨x2, c2, rfl⟩ := hrow.shape
      by_cases hlt : k < ms.length
      · have dlt : decide ((k : Int) < (ms.length : Int)) = true := by simp; omega
        have hne : ms ≠ [] := by rintro rfl; simp at hlt
        have hmw : MRow wr (.slice xm ms.length cm) ms := HM2.out.below (by rw [HB2.out]; exact hbw.out)
        obtain ⟨x', c', hv, -, -, -, hcl⟩ := hmw
        cases hv
        obtain ⟨b, off, rfl, hc⟩ := hcl hne
        obtain ⟨q1, q2⟩ := hc k hlt
        clear hcl hc
        have HMK := Lib.hid (HML.out ms[k] (List.getElem_mem hlt))
        have HTK : Hid (metB (ms.take (k + 1)) = metB (ms.take k) ++ entB ms[k]) := by
          show _ = _
          unfold metB
          rw [List.take_succ_eq_append_getElem hlt, List.flatMap_append]; simp
        obtain ⟨KB, hKB, hKs⟩ : ∃ t : ByteArray, t = ⟨ms[k].1.toArray⟩ ∧ t.size ≤ 32 := ⟨_, rfl, by rw [ba_len]; exact HMK.out.1⟩
        obtain ⟨VB, hVB, hVs⟩ : ∃ t : ByteArray, t = ⟨ms[k].2.toArray⟩ ∧ t.size ≤ 256 := ⟨_, rfl, by rw [ba_len]; exact HMK.out.2⟩
        have HEN : Hid (entB ms[k] = [35, 32] ++ KB.data.toList ++ [32] ++ VB.data.toList ++ [10]) := by show _ = _; rw [hKB, hVB]; rfl
        rw [← hKB] at q1
        rw [← hVB] at q2
        clear hKB hVB
        have HBX := Lib.hid (Blk.new wr 44 #[.string KB, .string VB])
        have HRX : Hid (ORow2 (wr.alloc (.cells #[.string KB, .string VB] 44)) B2 5 (.slice x2 acc.length c2) acc) := hrow.alloc _
        have HBW : Hid (Below B2 w2 (wr.alloc (.cells #[.string KB, .string VB] 44))) := hbw.out.alloc hszr _
        go_upto_region 18 with fail
        clear q1 q2 hrow hbw
        have hsz3 : B2 ≤ (wr.alloc (.cells #[.string KB, .string VB] 44)).heap.size := by simp; omega
        clear hszr
        generalize wr.alloc (.cells #[.string KB, .string VB] 44) = w4 at *
        generalize wr.heap.size = MB at *
        have q1 : w4.cell? ⟨MB, 0, none⟩ = some (.string KB) := HBX.out.cell 0
        have q2 : w4.cell? ⟨MB, 1, none⟩ = some (.string VB) := HBX.out.cell 1
        have hrow := HRX.out
        have hpos : 1 ≤ ((((((⟨#[35, 32]⟩ : ByteArray) ++ KB) ++ ⟨#[32]⟩) ++ VB) ++ ⟨#[10]⟩)).size := by
          simp only [ByteArray.size_append]
          simp only [ByteArray.size, List.size_toArray, List.length_cons, List.length_nil] at *
          omega
        have hlen : acc.length + ((((((⟨#[35, 32]⟩ : ByteArray) ++ KB) ++ ⟨#[32]⟩) ++ VB) ++ ⟨#[10]⟩)).size ≤ 140737488355328 := by
          simp only [ByteArray.size_append]
          simp only [ByteArray.size, List.size_toArray, List.length_cons, List.length_nil] at *
          omega
        go_wp2_with (at_builtin; refine wpList_app2 el_u8 Tryd.underlying9 hrow hsz3 rfl rfl rfl rfl hpos hlen ?_)
        intro v5 w5 hrow5 hbe5
        have hbel5 : Below B2 w2 w5 := HBW.out.trans hbe5
        have hsz5 : B2 ≤ w5.heap.size := Nat.le_trans hsz3 hbe5.size
        clear hbe5 hrow q1 q2 hlen hpos
        have HR5 : Hid (BRow w5 B2 5 v5 ([80, 55, 10] ++ metB (ms.take (k + 1)))) := by
          have e : [80, 55, 10] ++ metB (ms.take (k + 1)) = acc ++ ((((((⟨#[35, 32]⟩ : ByteArray) ++ KB) ++ ⟨#[32]⟩) ++ VB) ++ ⟨#[10]⟩)).data.toList := by
            rw [HTK.out, HEN.out, HACC.out]
            simp [ByteArray.data_append]
          show BRow _ _ _ _ _
          rw [e]; simpa [ByteArray.data_append] using hrow5
        obtain ⟨x5, n5, c5, rfl⟩ : ∃ x n c, v5 = .slice x n c := by obtain ⟨x, c, h⟩ := brow_shape hrow5; exact ⟨x, _, c, h⟩
        clear hrow5
        go_wp2_with fail
        go_roundw
        case rel => exact ⟨k + 1, by go_num, by omega, .inl HR5.out, hsz5, hbel5⟩
        case measure => simp [intOf]; omega
      · have dlt : decide ((k : Int) < (ms.length : Int)) = false := by simp; omega
        have HACM : Hid (acc = [80, 55, 10] ++ metB ms) := by show _ = _; rw [HACC.out, List.take_of_length_le (by omega)]
        clear HACC HML
        obtain ⟨dW, hdW, hdWs⟩ : ∃ t : ByteArray, t = ⟨(Lib.decDigits W).toArray⟩ ∧ t.size ≤ 257 := ⟨_, rfl, by rw [ba_len]; have := dec_len W (by omega); omega⟩
        obtain ⟨dH, hdH, hdHs⟩ : ∃ t : ByteArray, t = ⟨(Lib.decDigits H).toArray⟩ ∧ t.size ≤ 257 := ⟨_, rfl, by rw [ba_len]; have := dec_len H (by omega); omega⟩
        have HSB : Hid (sizB W H = [87, 73, 68, 84, 72, 32] ++ dW.data.toList ++ [10, 72, 69, 73, 71, 72, 84, 32] ++ dH.data.toList ++ [10]) := by show _ = _; rw [hdW, hdH]; rfl
        have HIW := Lib.hid (fun w h => itoa_nat W (by omega) w h)
        have HIH := Lib.hid (fun w h => itoa_nat H (by omega) w h)
        rw [← hdW] at HIW
        rw [← hdH] at HIH
        clear hdW hdH
        have HDR : Hid (Below wr.heap.size wr wr.drew) := (Below.refl _ _).drew
        have HRA : Hid (ORow2 wr.drew B2 5 (.slice x2 acc.length c2) acc) := hrow.below HDR.out
        have HHA : Hid (Blk wr.drew B 24 #[.int .i64 (W : Int), .int .i64 (H : Int), .slice x px.length c]) := (HDR.out.block _ (by have := hbw.out.size; have := HH2.out.lt; omega)).trans ((hbw.out.block _ (by have := HH2.out.lt; have := HB2.out; omega)).trans HH2.out)
        have HTA := Lib.hid (tab_below (tab_below HT2.out (by rw [HB2.out]; exact hbw.out)) HDR.out)
        have HBA : Hid (Below B2 w2 wr.drew) := hbw.out.trans (HDR.out.mono hszr)
        have HSA : Hid (B2 ≤ wr.drew.heap.size) := hszr
        have z0 : wr.cell? ⟨B, 0, none⟩ = some (.int .i64 (W : Int)) := HHA.out.cell 0
        have z1 : wr.cell? ⟨B, 1, none⟩ = some (.int .i64 (H : Int)) := HHA.out.cell 1
        clear HDR hrow hszr hbw
        go_upto_region 20 with fail
        clear hlt dlt
        have HPOS : Hid (1 ≤ ((((((⟨#[87, 73, 68, 84, 72, 32]⟩ : ByteArray) ++ dW) ++ ⟨#[10, 72, 69, 73, 71, 72, 84, 32]⟩) ++ dH) ++ ⟨#[10]⟩)).size) := by
          show _ ≤ _
          simp only [ByteArray.size_append]
          simp only [ByteArray.size, List.size_toArray, List.length_cons, List.length_nil] at *
          omega
        have HLEN : Hid (acc.length + ((((((⟨#[87, 73, 68, 84, 72, 32]⟩ : ByteArray) ++ dW) ++ ⟨#[10, 72, 69, 73, 71, 72, 84, 32]⟩) ++ dH) ++ ⟨#[10]⟩)).size ≤ 140737488355328) := by
          show _ ≤ _
          simp only [ByteArray.size_append]
          simp only [ByteArray.size, List.size_toArray, List.length_cons, List.length_nil] at *
          omega
        have n1 : ¬ (9223372036854775807 < 6 + dW.size) := by omega
        have n2 : ¬ (9223372036854775807 < 6 + dW.size + 8) := by omega
        have n3 : ¬ (9223372036854775807 < 6 + dW.size + 8 + dH.size) := by omega
        have n4 : ¬ (9223372036854775807 < 6 + dW.size + 8 + dH.size + 1) := by omega
        go_cut [11] from 16 (fun v11 wx => BRow wx B2 5 v11 ([80, 55, 10] ++ metB ms ++ sizB W H) ∧ B2 ≤ wx.heap.size ∧ Hid (Below B2 w2 wx))
        case first =>
          go_region_law (first
            | (refine step_call (vs := #[.int .i64 (W : Int)]) rfl rfl ?_ (itoa_run _ _) (HIW.out _ HTA.out) ?_; simp [Act.eval, Act.put]; rintro vX wX ⟨rfl, hbX⟩; have HRA := Lib.hid (HRA.out.below hbX); have HBA := Lib.hid (HBA.out.trans (hbX.mono HSA.out)); have HTA := Lib.hid (tab_below HTA.out hbX); have HSA := Lib.hid (Nat.le_trans HSA.out hbX.size); have HHA : Hid (Blk wX B 24 #[.int .i64 (W : Int), .int .i64 (H : Int), .slice x px.length c]) := (hbX.block _ HHA.out.lt).trans HHA.out; have z0 : wX.cell? ⟨B, 0, none⟩ = some (.int .i64 (W : Int)) := HHA.out.cell 0; have z1 : wX.cell? ⟨B, 1, none⟩ = some (.int .i64 (H : Int)) := HHA.out.cell 1; clear hbX)
            | (refine step_call (vs := #[.int .i64 (H : Int)]) rfl rfl ?_ (itoa_run _ _) (HIH.out _ HTA.out) ?_; simp [Act.eval, Act.put]; rintro vX wX ⟨rfl, hbX⟩; have HRA := Lib.hid (HRA.out.below hbX); have HBA := Lib.hid (HBA.out.trans (hbX.mono HSA.out)); have HTA := Lib.hid (tab_below HTA.out hbX); have HSA := Lib.hid (Nat.le_trans HSA.out hbX.size); have HHA : Hid (Blk wX B 24 #[.int .i64 (W : Int), .int .i64 (H : Int), .slice x px.length c]) := (hbX.block _ HHA.out.lt).trans HHA.out; have z0 : wX.cell? ⟨B, 0, none⟩ = some (.int .i64 (W : Int)) := HHA.out.cell 0; have z1 : wX.cell? ⟨B, 1, none⟩ = some (.int .i64 (H : Int)) := HHA.out.cell 1; clear hbX)
            | (refine step_app2 el_u8 Tryd.underlying9 HRA.out HSA.out rfl rfl ?_ (s := (((((⟨#[87, 73, 68, 84, 72, 32]⟩ : ByteArray) ++ dW) ++ ⟨#[10, 72, 69, 73, 71, 72, 84, 32]⟩) ++ dH) ++ ⟨#[10]⟩)) ?_ HPOS.out HLEN.out ?_; (first | (simp [Act.eval, Act.put]; done) | rfl); (first | (simp [Act.eval, Act.put]; done) | rfl); intro vX wX hrX hbX; have HRX := Lib.hid hrX; have HBX := Lib.hid (HBA.out.trans hbX); have HSX := Lib.hid (Nat.le_trans HSA.out hbX.size); clear hrX hbX))
          all_goals
            go_wp2_with fail
            go_meet
            case rel =>
              refine ⟨?_, HSX.out, HBX.out⟩
              have e : [80, 55, 10] ++ metB ms ++ sizB W H = acc ++ ((((((⟨#[87, 73, 68, 84, 72, 32]⟩ : ByteArray) ++ dW) ++ ⟨#[10, 72, 69, 73, 71, 72, 84, 32]⟩) ++ dH) ++ ⟨#[10]⟩)).data.toList := by
                rw [HACM.out, HSB.out]
                simp [ByteArray.data_append]
              rw [e]; exact HRX.out
        case rest =>
          obtain ⟨hrow6, hsz6, HB6⟩ := hcut
          obtain ⟨acc6, hacc6⟩ : ∃ a, a = [80, 55, 10] ++ metB ms ++ sizB W H := ⟨_, rfl⟩
          have hal6 : acc6.length ≤ 6000 := by
            rw [hacc6, ← HACM.out, HSB.out]
            simp only [List.length_append, List.length_cons, List.length_nil, ba_size]
            omega
          rw [← hacc6] at hrow6
          have HACC6 := Lib.hid hacc6
          clear hacc6 HACM HSB hal hdWs hdHs HSA HBA HTA HHA HRA z0 z1 n1 n2 n3 n4 HPOS HLEN HIW HIH
          obtain ⟨x6, c6, rfl⟩ := brow_shape hrow6
          obtain ⟨EB, hEB⟩ : ∃ t : ByteArray, t = ((⟨#[68, 69, 80, 84, 72, 32, 52, 10, 77, 65, 88, 86, 65, 76, 32]⟩ : ByteArray) ++ ⟨#[54, 53, 53, 51, 53]⟩) ++ ⟨#[10, 84, 85, 80, 76, 84, 89, 80, 69, 32, 82, 71, 66, 95, 65, 76, 80, 72, 65, 10, 69, 78, 68, 72, 68, 82, 10]⟩ := ⟨_, rfl⟩
          have HEB : Hid (endB D = EB.data.toList) := by show _ = _; rw [hEB]; unfold endB grB; rw [if_pos (of_decide_eq_true HIS.out.symm)]; rfl
          have hEBs : 1 ≤ EB.size ∧ EB.size ≤ 60 := by rw [hEB]; decide +kernel
          have HEB2 := Lib.hid hEB
          clear hEB
          have hpos7 : 1 ≤ EB.size := hEBs.1
          have hlen7 : acc6.length + EB.size ≤ 140737488355328 := by omega
          go_wp2_with (at_builtin; refine wpList_app2 (s := EB) el_u8 Tryd.underlying9 (.inl hrow6) hsz6 rfl rfl rfl (by rw [HEB2.out]; rfl) hpos7 hlen7 ?_)
          intro v7 w7 hrow7 hbe7
          have HB7 : Hid (Below B2 w2 w7) := HB6.out.trans hbe7
          have hsz7 : B2 ≤ w7.heap.size := Nat.le_trans hsz6 hbe7.size
          have HH7 : Hid (Blk w7 B 24 #[.int .i64 (W : Int), .int .i64 (H : Int), .slice x px.length c]) := (HB7.out.block _ (by have := HH2.out.lt; have := HB2.out; omega)).trans HH2.out
          obtain ⟨hd, hhd⟩ : ∃ a, a = acc6 ++ EB.data.toList := ⟨_, rfl⟩
          have hhl : hd.length ≤ 6100 := by rw [hhd, List.length_append, ba_size]; omega
          rw [← hhd] at hrow7
          have HHD : Hid (hd = [80, 55, 10] ++ metB ms ++ sizB W H ++ endB D) := by show _ = _; rw [hhd, HACC6.out, HEB.out]
          clear hhd HACC6 HEB HEB2 hEBs hpos7 hlen7 hal6 hbe7 hrow6 hsz6 HB6
          have hrow0 : BRow w7 B2 5 v7 (hd ++ pixB D (px.take 0)) := by simpa [pixB] using hrow7
          obtain ⟨x7, c7, rfl⟩ := brow_shape hrow7
          have HR0 := Lib.hid hrow0
          clear hrow0 hrow7
          have y2 : w7.cell? ⟨B, 2, none⟩ = some (.slice x px.length c) := HH7.out.cell 2
          go_wp2_with fail
          clear y2
          go_loopw [11, 76] (fun v11 vk wr => ∃ k : Nat, vk = .int .i64 k ∧ k ≤ px.length ∧ BRow wr B2 5 v11 (hd ++ pixB D (px.take k)) ∧ B2 ≤ wr.heap.size ∧ Hid (Below B2 w2 wr)) (fun _ vk _ => px.length - (intOf vk).toNat)
          case atStart => exact ⟨0, rfl, Nat.zero_le _, HR0.out, hsz7, HB7.out⟩
          case round =>
            obtain ⟨k, rfl, hk, hrow, hszr, hbw⟩ := hrel
            obtain ⟨acc, hacc⟩ : ∃ acc, acc = hd ++ pixB D (px.take k) := ⟨_, rfl⟩
            have hal : acc.length ≤ 6100 + 8 * k := by
              rw [hacc, List.length_append]
              have := pixB_len D (px.take k)
              have : (px.take k).length ≤ k := by rw [List.length_take]; omega
              omega
            rw [← hacc] at hrow
            have HACC := Lib.hid hacc
            clear hacc
            obtain ⟨x8, c8, rfl⟩ := brow_shape hrow
            by_cases hlt : k < px.length
            · have dlt : decide ((k : Int) < (px.length : Int)) = true := by simp; omega
              have hne : px ≠ [] := by rintro rfl; simp at hlt
              have hpw : PRow wr (.slice x px.length c) px := HP2.out.below (by rw [HB2.out]; exact hbw.out)
              obtain ⟨x', c', hv, -, -, -, hcl⟩ := hpw
              cases hv
              obtain ⟨b, off, rfl, hc⟩ := hcl hne
              obtain ⟨q1, q2, q3, q4⟩ := hc k hlt
              clear hcl hc
              have HTK : Hid (pixB D (px.take (k + 1)) = pixB D (px.take k) ++ pxB D px[k]) := by
                show _ = _
                unfold pixB
                rw [List.take_succ_eq_append_getElem hlt, List.flatMap_append]; simp
              have hvp := HVA.out px[k] (List.getElem_mem hlt)
              obtain ⟨p, hp⟩ : ∃ p, px[k] = p := ⟨_, rfl⟩
              rw [hp] at q1 q2 q3 q4 HTK hvp
              clear hp
              have HAP := Lib.hid (fun w v h1 h2 => appendPixel_any v acc p D B2 w h1 h2 (by omega) hD hvp)
              obtain ⟨pa, pb, pc, pq⟩ := p
              unfold pxC at HAP
              simp only at q1 q2 q3 q4 HAP
              have HPX := Lib.hid (Blk.new wr 36 #[.int .i64 pa, .int .i64 pb, .int .i64 pc, .int .i64 pq])
              have HRW : Hid (BRow (wr.alloc (.cells #[.int .i64 pa, .int .i64 pb, .int .i64 pc, .int .i64 pq] 36)) B2 5 (.slice x8 acc.length c8) acc) := World.ownsRow.alloc hrow _
              have HBA := Lib.hid (hbw.out.alloc hszr (.cells #[.int .i64 pa, .int .i64 pb, .int .i64 pc, .int .i64 pq] 36))
              have HSA : Hid (B2 ≤ (wr.alloc (.cells #[.int .i64 pa, .int .i64 pb, .int .i64 pc, .int .i64 pq] 36)).heap.size) := by show _ ≤ _; simp; omega
              clear hvp hbw hrow hszr
              go_upto_region 25 with fail
              clear q1 q2 q3 q4
              generalize wr.alloc (.cells #[.int .i64 pa, .int .i64 pb, .int .i64 pc, .int .i64 pq] 36) = wk at *
              generalize wr.heap.size = PB at *
              have c0 : wk.cell? ⟨PB, 0, none⟩ = some (.int .i64 pa) := HPX.out.cell 0
              have c1 : wk.cell? ⟨PB, 1, none⟩ = some (.int .i64 pb) := HPX.out.cell 1
              have c2 : wk.cell? ⟨PB, 2, none⟩ = some (.int .i64 pc) := HPX.out.cell 2
              have c3 : wk.cell? ⟨PB, 3, none⟩ = some (.int .i64 pq) := HPX.out.cell 3
              go_wp2_with fail
              refine (HAP.out _ _ HRW.out HSA.out).mono ?_
              rintro e w5 ⟨v5, rfl, hr5, hb5⟩
              have HR5 : Hid (BRow w5 B2 5 v5 (hd ++ pixB D (px.take (k + 1)))) := by
                show BRow _ _ _ _ _
                rw [HTK.out, ← List.append_assoc, ← HACC.out]; exact hr5
              have HB5 : Hid (Below B2 w2 w5) := HBA.out.trans hb5
              have HS5 : Hid (B2 ≤ w5.heap.size) := Nat.le_trans HSA.out hb5.size
              clear c0 c1 c2 c3 hr5 hb5
              go_wp2_with fail
              go_roundw
              case rel => exact ⟨k + 1, by go_num, by omega, HR5.out, HS5.out, HB5.out⟩
              case measure => simp [intOf]; omega
            · have dlt : decide ((k : Int) < (px.length : Int)) = false := by simp; omega
              have HFL : Hid (acc = fileB W H D ms px) := by show _ = _; rw [HACC.out, List.take_of_length_le (by omega), HHD.out]; rfl
              have db : decide ((1048576 : Int) < (acc.length : Int)) = false := by simp; omega
              have HF : Hid (encP W H px D ms = .ok (fileB W H D ms px)) := by show _ = _; rw [HE3.out, if_neg (by rw [← HFL.out]; omega)]
              have HBW : Hid (Below B w wr) := HBL2.out.trans (hbw.out.mono (by have := HH2.out.lt; have := HB2.out; omega))
              have hst := run_str_of Tryd.underlying42 Tryd.underlying5 Tryd.underlying9 hrow
              clear hbw
              go_wp2_with fail
              refine bodyPost_ret (v := .tuple #[.string ⟨acc.toArray⟩, .int .i64 0]) (by simp [results, Tryd.f6, go_sem]) rfl ⟨?_, by rw [HB.out]; exact HBW.out⟩
              rw [HF.out, ← HFL.out]; rfl
  | false =>
    have e8 := H8.out rfl
    have b8 : ((D : Int) != 8) = false := by unfold bne; rw [e8]; rfl
    go_wp2_with fail
    refine HCM1.out.mono ?_
    rintro e w2 ⟨rfl, hb2⟩
    have HBL2 : Hid (Below B w w2) := HBL.out.trans (hb2.mono (by have := HH1.out.lt; omega))
    have HH2 : Hid (Blk w2 B 24 #[.int .i64 (W : Int), .int .i64 (H : Int), .slice x px.length c]) := (hb2.block _ HH1.out.lt).trans HH1.out
    have HP2 : Hid (PRow w2 (.slice x px.length c) px) := HP1.out.below hb2
    have HM2 : Hid (MRow w2 (.slice xm ms.length cm) ms) := HM1.out.below hb2
    have HT2 := Lib.hid (tab_below HT1.out hb2)
    clear y0 HBL HH1 HP1 HM1 HCM1 HT1 hb2
    obtain ⟨cm0, hcm0⟩ : ∃ ck, chkP ms = ck := ⟨_, rfl⟩
    rw [hcm0] at HE2 HCL ⊢
    clear hcm0
    by_cases hc0 : cm0 = 0
    case neg =>
      have e0 : ((cm0 : Int) == 0) = false := by simp; omega
      have HF : Hid (encP W H px D ms = .error cm0) := by show _ = _; rw [HE2.out, if_pos hc0]
      go_wp2_with fail
      refine bodyPost_ret (v := .tuple #[.string ⟨#[]⟩, .int .i64 cm0]) (by simp [results, Tryd.f6, go_sem]) rfl ⟨?_, by rw [HB.out]; exact HBL2.out⟩
      rw [HF.out]; rfl
    subst hc0
    have hml := (HCL.out rfl).1
    have HML := Lib.hid (HCL.out rfl).2
    clear HCL
    have HE3 : Hid (encP W H px D ms = if 1048576 < (fileB W H D ms px).length then .error 3 else .ok (fileB W H D ms px)) := by show _ = _; rw [HE2.out, if_neg (by simp)]
    clear HE2
    have HO0 : Hid (Full (w2.alloc (.cells #[.int .u8 80, .int .u8 55, .int .u8 10] 5 (3, 4))) (.slice (some ⟨w2.heap.size, 0, none⟩) 3 3) ([80, 55, 10] ++ metB [])) := by
      refine ⟨w2.heap.size, rfl, fun j hj => ?_⟩
      have hb : (w2.alloc (.cells #[.int .u8 80, .int .u8 55, .int .u8 10] 5 (3, 4))).heap[w2.heap.size]? = some (.cells #[.int .u8 80, .int .u8 55, .int .u8 10] 5 (3, 4)) := heap_alloc_new w2 _
      have hj3 : j < 3 := hj
      have := cell_of_row (w2.alloc (.cells #[.int .u8 80, .int .u8 55, .int .u8 10] 5 (3, 4))) w2.heap.size j _ _ _ hb
      rw [this]
      match j, hj3 with
      | 0, _ => rfl
      | 1, _ => rfl
      | 2, _ => rfl
    have HOB : Hid (Below w2.heap.size w2 (w2.alloc (.cells #[.int .u8 80, .int .u8 55, .int .u8 10] 5 (3, 4)))) := (Below.refl _ _).alloc (Nat.le_refl _) _
    have hcv := Lib.run_convert_bytes_const (P := Tryd.prog) w2 42 5 #[.int .u8 80, .int .u8 55, .int .u8 10] 3 3 Tryd.underlying42 Tryd.underlying5
    change _ = Result.ok _ (w2.alloc (.cells #[.int .u8 80, .int .u8 55, .int .u8 10] 5 (3, 4))) at hcv
    go_wp2_with fail
    clear hcv
    generalize w2.alloc (.cells #[.int .u8 80, .int .u8 55, .int .u8 10] 5 (3, 4)) = w3 at *
    generalize hB2 : w2.heap.size = B2 at *
    have HB2 := Lib.hid hB2
    clear hB2
    have hmax : maxLen = 9223372036854775807 := rfl
    go_loopw [11, 41] (fun vo vk wr => ∃ (k : Nat), vk = .int .i64 k ∧ k ≤ ms.length ∧ ORow2 wr B2 5 vo ([80, 55, 10] ++ metB (ms.take k)) ∧ B2 ≤ wr.heap.size ∧ Hid (Below B2 w2 wr)) (fun _ vk _ => ms.length - (intOf vk).toNat)
    case atStart => exact ⟨0, rfl, Nat.zero_le _, by show ORow2 _ _ _ _ _; exact .inr HO0.out, by have := HOB.out.size; have := HB2.out; omega, HOB.out⟩
    case round =>
      obtain ⟨k, rfl, hk, hrow, hszr, hbw⟩ := hrel
      obtain ⟨acc, hacc⟩ : ∃ acc, acc = [80, 55, 10] ++ metB (ms.take k) := ⟨_, rfl⟩
      have hal : acc.length ≤ 5000 := by
        rw [hacc, List.length_append]
        have := metB_len (ms.take k) (fun m hm => HML.out m (List.mem_of_mem_take hm))
        have : (ms.take k).length ≤ 16 := by rw [List.length_take]; omega
        simp only [List.length_cons, List.length_nil]
        omega
      rw [← hacc] at hrow
      have HACC := Lib.hid hacc
      clear hacc
      obtain ⟨x2, c2, rfl⟩ := hrow.shape
      by_cases hlt : k < ms.length
      · have dlt : decide ((k : Int) < (ms.length : Int)) = true := by simp; omega
        have hne : ms ≠ [] := by rintro rfl; simp at hlt
        have hmw : MRow wr (.slice xm ms.length cm) ms := HM2.out.below (by rw [HB2.out]; exact hbw.out)
        obtain ⟨x', c', hv, -, -, -, hcl⟩ := hmw
        cases hv
        obtain ⟨b, off, rfl, hc⟩ := hcl hne
        obtain ⟨q1, q2⟩ := hc k hlt
        clear hcl hc
        have HMK := Lib.hid (HML.out ms[k] (List.getElem_mem hlt))
        have HTK : Hid (metB (ms.take (k + 1)) = metB (ms.take k) ++ entB ms[k]) := by
          show _ = _
          unfold metB
          rw [List.take_succ_eq_append_getElem hlt, List.flatMap_append]; simp
        obtain ⟨KB, hKB, hKs⟩ : ∃ t : ByteArray, t = ⟨ms[k].1.toArray⟩ ∧ t.size ≤ 32 := ⟨_, rfl, by rw [ba_len]; exact HMK.out.1⟩
        obtain ⟨VB, hVB, hVs⟩ : ∃ t : ByteArray, t = ⟨ms[k].2.toArray⟩ ∧ t.size ≤ 256 := ⟨_, rfl, by rw [ba_len]; exact HMK.out.2⟩
        have HEN : Hid (entB ms[k] = [35, 32] ++ KB.data.toList ++ [32] ++ VB.data.toList ++ [10]) := by show _ = _; rw [hKB, hVB]; rfl
        rw [← hKB] at q1
        rw [← hVB] at q2
        clear hKB hVB
        have HBX := Lib.hid (Blk.new wr 44 #[.string KB, .string VB])
        have HRX : Hid (ORow2 (wr.alloc (.cells #[.string KB, .string VB] 44)) B2 5 (.slice x2 acc.length c2) acc) := hrow.alloc _
        have HBW : Hid (Below B2 w2 (wr.alloc (.cells #[.string KB, .string VB] 44))) := hbw.out.alloc hszr _
        go_upto_region 18 with fail
        clear q1 q2 hrow hbw
        have hsz3 : B2 ≤ (wr.alloc (.cells #[.string KB, .string VB] 44)).heap.size := by simp; omega
        clear hszr
        generalize wr.alloc (.cells #[.string KB, .string VB] 44) = w4 at *
        generalize wr.heap.size = MB at *
        have q1 : w4.cell? ⟨MB, 0, none⟩ = some (.string KB) := HBX.out.cell 0
        have q2 : w4.cell? ⟨MB, 1, none⟩ = some (.string VB) := HBX.out.cell 1
        have hrow := HRX.out
        have hpos : 1 ≤ ((((((⟨#[35, 32]⟩ : ByteArray) ++ KB) ++ ⟨#[32]⟩) ++ VB) ++ ⟨#[10]⟩)).size := by
          simp only [ByteArray.size_append]
          simp only [ByteArray.size, List.size_toArray, List.length_cons, List.length_nil] at *
          omega
        have hlen : acc.length + ((((((⟨#[35, 32]⟩ : ByteArray) ++ KB) ++ ⟨#[32]⟩) ++ VB) ++ ⟨#[10]⟩)).size ≤ 140737488355328 := by
          simp only [ByteArray.size_append]
          simp only [ByteArray.size, List.size_toArray, List.length_cons, List.length_nil] at *
          omega
        go_wp2_with (at_builtin; refine wpList_app2 el_u8 Tryd.underlying9 hrow hsz3 rfl rfl rfl rfl hpos hlen ?_)
        intro v5 w5 hrow5 hbe5
        have hbel5 : Below B2 w2 w5 := HBW.out.trans hbe5
        have hsz5 : B2 ≤ w5.heap.size := Nat.le_trans hsz3 hbe5.size
        clear hbe5 hrow q1 q2 hlen hpos
        have HR5 : Hid (BRow w5 B2 5 v5 ([80, 55, 10] ++ metB (ms.take (k + 1)))) := by
          have e : [80, 55, 10] ++ metB (ms.take (k + 1)) = acc ++ ((((((⟨#[35, 32]⟩ : ByteArray) ++ KB) ++ ⟨#[32]⟩) ++ VB) ++ ⟨#[10]⟩)).data.toList := by
            rw [HTK.out, HEN.out, HACC.out]
            simp [ByteArray.data_append]
          show BRow _ _ _ _ _
          rw [e]; simpa [ByteArray.data_append] using hrow5
        obtain ⟨x5, n5, c5, rfl⟩ : ∃ x n c, v5 = .slice x n c := by obtain ⟨x, c, h⟩ := brow_shape hrow5; exact ⟨x, _, c, h⟩
        clear hrow5
        go_wp2_with fail
        go_roundw
        case rel => exact ⟨k + 1, by go_num, by omega, .inl HR5.out, hsz5, hbel5⟩
        case measure => simp [intOf]; omega
      · have dlt : decide ((k : Int) < (ms.length : Int)) = false := by simp; omega
        have HACM : Hid (acc = [80, 55, 10] ++ metB ms) := by show _ = _; rw [HACC.out, List.take_of_length_le (by omega)]
        clear HACC HML
        obtain ⟨dW, hdW, hdWs⟩ : ∃ t : ByteArray, t = ⟨(Lib.decDigits W).toArray⟩ ∧ t.size ≤ 257 := ⟨_, rfl, by rw [ba_len]; have := dec_len W (by omega); omega⟩
        obtain ⟨dH, hdH, hdHs⟩ : ∃ t : ByteArray, t = ⟨(Lib.decDigits H).toArray⟩ ∧ t.size ≤ 257 := ⟨_, rfl, by rw [ba_len]; have := dec_len H (by omega); omega⟩
        have HSB : Hid (sizB W H = [87, 73, 68, 84, 72, 32] ++ dW.data.toList ++ [10, 72, 69, 73, 71, 72, 84, 32] ++ dH.data.toList ++ [10]) := by show _ = _; rw [hdW, hdH]; rfl
        have HIW := Lib.hid (fun w h => itoa_nat W (by omega) w h)
        have HIH := Lib.hid (fun w h => itoa_nat H (by omega) w h)
        rw [← hdW] at HIW
        rw [← hdH] at HIH
        clear hdW hdH
        have HDR : Hid (Below wr.heap.size wr wr.drew) := (Below.refl _ _).drew
        have HRA : Hid (ORow2 wr.drew B2 5 (.slice x2 acc.length c2) acc) := hrow.below HDR.out
        have HHA : Hid (Blk wr.drew B 24 #[.int .i64 (W : Int), .int .i64 (H : Int), .slice x px.length c]) := (HDR.out.block _ (by have := hbw.out.size; have := HH2.out.lt; omega)).trans ((hbw.out.block _ (by have := HH2.out.lt; have := HB2.out; omega)).trans HH2.out)
        have HTA := Lib.hid (tab_below (tab_below HT2.out (by rw [HB2.out]; exact hbw.out)) HDR.out)
        have HBA : Hid (Below B2 w2 wr.drew) := hbw.out.trans (HDR.out.mono hszr)
        have HSA : Hid (B2 ≤ wr.drew.heap.size) := hszr
        have z0 : wr.cell? ⟨B, 0, none⟩ = some (.int .i64 (W : Int)) := HHA.out.cell 0
        have z1 : wr.cell? ⟨B, 1, none⟩ = some (.int .i64 (H : Int)) := HHA.out.cell 1
        clear HDR hrow hszr hbw
        go_upto_region 20 with fail
        clear hlt dlt
        have HPOS : Hid (1 ≤ ((((((⟨#[87, 73, 68, 84, 72, 32]⟩ : ByteArray) ++ dW) ++ ⟨#[10, 72, 69, 73, 71, 72, 84, 32]⟩) ++ dH) ++ ⟨#[10]⟩)).size) := by
          show _ ≤ _
          simp only [ByteArray.size_append]
          simp only [ByteArray.size, List.size_toArray, List.length_cons, List.length_nil] at *
          omega
        have HLEN : Hid (acc.length + ((((((⟨#[87, 73, 68, 84, 72, 32]⟩ : ByteArray) ++ dW) ++ ⟨#[10, 72, 69, 73, 71, 72, 84, 32]⟩) ++ dH) ++ ⟨#[10]⟩)).size ≤ 140737488355328) := by
          show _ ≤ _
          simp only [ByteArray.size_append]
          simp only [ByteArray.size, List.size_toArray, List.length_cons, List.length_nil] at *
          omega
        have n1 : ¬ (9223372036854775807 < 6 + dW.size) := by omega
        have n2 : ¬ (9223372036854775807 < 6 + dW.size + 8) := by omega
        have n3 : ¬ (9223372036854775807 < 6 + dW.size + 8 + dH.size) := by omega
        have n4 : ¬ (9223372036854775807 < 6 + dW.size + 8 + dH.size + 1) := by omega
        go_cut [11] from 16 (fun v11 wx => BRow wx B2 5 v11 ([80, 55, 10] ++ metB ms ++ sizB W H) ∧ B2 ≤ wx.heap.size ∧ Hid (Below B2 w2 wx))
        case first =>
          go_region_law (first
            | (refine step_call (vs := #[.int .i64 (W : Int)]) rfl rfl ?_ (itoa_run _ _) (HIW.out _ HTA.out) ?_; simp [Act.eval, Act.put]; rintro vX wX ⟨rfl, hbX⟩; have HRA := Lib.hid (HRA.out.below hbX); have HBA := Lib.hid (HBA.out.trans (hbX.mono HSA.out)); have HTA := Lib.hid (tab_below HTA.out hbX); have HSA := Lib.hid (Nat.le_trans HSA.out hbX.size); have HHA : Hid (Blk wX B 24 #[.int .i64 (W : Int), .int .i64 (H : Int), .slice x px.length c]) := (hbX.block _ HHA.out.lt).trans HHA.out; have z0 : wX.cell? ⟨B, 0, none⟩ = some (.int .i64 (W : Int)) := HHA.out.cell 0; have z1 : wX.cell? ⟨B, 1, none⟩ = some (.int .i64 (H : Int)) := HHA.out.cell 1; clear hbX)
            | (refine step_call (vs := #[.int .i64 (H : Int)]) rfl rfl ?_ (itoa_run _ _) (HIH.out _ HTA.out) ?_; simp [Act.eval, Act.put]; rintro vX wX ⟨rfl, hbX⟩; have HRA := Lib.hid (HRA.out.below hbX); have HBA := Lib.hid (HBA.out.trans (hbX.mono HSA.out)); have HTA := Lib.hid (tab_below HTA.out hbX); have HSA := Lib.hid (Nat.le_trans HSA.out hbX.size); have HHA : Hid (Blk wX B 24 #[.int .i64 (W : Int), .int .i64 (H : Int), .slice x px.length c]) := (hbX.block _ HHA.out.lt).trans HHA.out; have z0 : wX.cell? ⟨B, 0, none⟩ = some (.int .i64 (W : Int)) := HHA.out.cell 0; have z1 : wX.cell? ⟨B, 1, none⟩ = some (.int .i64 (H : Int)) := HHA.out.cell 1; clear hbX)
            | (refine step_app2 el_u8 Tryd.underlying9 HRA.out HSA.out rfl rfl ?_ (s := (((((⟨#[87, 73, 68, 84, 72, 32]⟩ : ByteArray) ++ dW) ++ ⟨#[10, 72, 69, 73, 71, 72, 84, 32]⟩) ++ dH) ++ ⟨#[10]⟩)) ?_ HPOS.out HLEN.out ?_; (first | (simp [Act.eval, Act.put]; done) | rfl); (first | (simp [Act.eval, Act.put]; done) | rfl); intro vX wX hrX hbX; have HRX := Lib.hid hrX; have HBX := Lib.hid (HBA.out.trans hbX); have HSX := Lib.hid (Nat.le_trans HSA.out hbX.size); clear hrX hbX))
          all_goals
            go_wp2_with fail
            go_meet
            case rel =>
              refine ⟨?_, HSX.out, HBX.out⟩
              have e : [80, 55, 10] ++ metB ms ++ sizB W H = acc ++ ((((((⟨#[87, 73, 68, 84, 72, 32]⟩ : ByteArray) ++ dW) ++ ⟨#[10, 72, 69, 73, 71, 72, 84, 32]⟩) ++ dH) ++ ⟨#[10]⟩)).data.toList := by
                rw [HACM.out, HSB.out]
                simp [ByteArray.data_append]
              rw [e]; exact HRX.out
        case rest =>
          obtain ⟨hrow6, hsz6, HB6⟩ := hcut
          obtain ⟨acc6, hacc6⟩ : ∃ a, a = [80, 55, 10] ++ metB ms ++ sizB W H := ⟨_, rfl⟩
          have hal6 : acc6.length ≤ 6000 := by
            rw [hacc6, ← HACM.out, HSB.out]
            simp only [List.length_append, List.length_cons, List.length_nil, ba_size]
            omega
          rw [← hacc6] at hrow6
          have HACC6 := Lib.hid hacc6
          clear hacc6 HACM HSB hal hdWs hdHs HSA HBA HTA HHA HRA z0 z1 n1 n2 n3 n4 HPOS HLEN HIW HIH
          obtain ⟨x6, c6, rfl⟩ := brow_shape hrow6
          obtain ⟨EB, hEB⟩ : ∃ t : ByteArray, t = ((⟨#[68, 69, 80, 84, 72, 32, 52, 10, 77, 65, 88, 86, 65, 76, 32]⟩ : ByteArray) ++ ⟨#[50, 53, 53]⟩) ++ ⟨#[10, 84, 85, 80, 76, 84, 89, 80, 69, 32, 82, 71, 66, 95, 65, 76, 80, 72, 65, 10, 69, 78, 68, 72, 68, 82, 10]⟩ := ⟨_, rfl⟩
          have HEB : Hid (endB D = EB.data.toList) := by show _ = _; rw [hEB]; unfold endB grB; rw [if_neg (of_decide_eq_false HIS.out.symm)]; rfl
          have hEBs : 1 ≤ EB.size ∧ EB.size ≤ 60 := by rw [hEB]; decide +kernel
          have HEB2 := Lib.hid hEB
          clear hEB
          have hpos7 : 1 ≤ EB.size := hEBs.1
          have hlen7 : acc6.length + EB.size ≤ 140737488355328 := by omega
          go_wp2_with (at_builtin; refine wpList_app2 (s := EB) el_u8 Tryd.underlying9 (.inl hrow6) hsz6 rfl rfl rfl (by rw [HEB2.out]; rfl) hpos7 hlen7 ?_)
          intro v7 w7 hrow7 hbe7
          have HB7 : Hid (Below B2 w2 w7) := HB6.out.trans hbe7
          have hsz7 : B2 ≤ w7.heap.size := Nat.le_trans hsz6 hbe7.size
          have HH7 : Hid (Blk w7 B 24 #[.int .i64 (W : Int), .int .i64 (H : Int), .slice x px.length c]) := (HB7.out.block _ (by have := HH2.out.lt; have := HB2.out; omega)).trans HH2.out
          obtain ⟨hd, hhd⟩ : ∃ a, a = acc6 ++ EB.data.toList := ⟨_, rfl⟩
          have hhl : hd.length ≤ 6100 := by rw [hhd, List.length_append, ba_size]; omega
          rw [← hhd] at hrow7
          have HHD : Hid (hd = [80, 55, 10] ++ metB ms ++ sizB W H ++ endB D) := by show _ = _; rw [hhd, HACC6.out, HEB.out]
          clear hhd HACC6 HEB HEB2 hEBs hpos7 hlen7 hal6 hbe7 hrow6 hsz6 HB6
          have hrow0 : BRow w7 B2 5 v7 (hd ++ pixB D (px.take 0)) := by simpa [pixB] using hrow7
          obtain ⟨x7, c7, rfl⟩ := brow_shape hrow7
          have HR0 := Lib.hid hrow0
          clear hrow0 hrow7
          have y2 : w7.cell? ⟨B, 2, none⟩ = some (.slice x px.length c) := HH7.out.cell 2
          go_wp2_with fail
          clear y2
          go_loopw [11, 76] (fun v11 vk wr => ∃ k : Nat, vk = .int .i64 k ∧ k ≤ px.length ∧ BRow wr B2 5 v11 (hd ++ pixB D (px.take k)) ∧ B2 ≤ wr.heap.size ∧ Hid (Below B2 w2 wr)) (fun _ vk _ => px.length - (intOf vk).toNat)
          case atStart => exact ⟨0, rfl, Nat.zero_le _, HR0.out, hsz7, HB7.out⟩
          case round =>
            obtain ⟨k, rfl, hk, hrow, hszr, hbw⟩ := hrel
            obtain ⟨acc, hacc⟩ : ∃ acc, acc = hd ++ pixB D (px.take k) := ⟨_, rfl⟩
            have hal : acc.length ≤ 6100 + 8 * k := by
              rw [hacc, List.length_append]
              have := pixB_len D (px.take k)
              have : (px.take k).length ≤ k := by rw [List.length_take]; omega
              omega
            rw [← hacc] at hrow
            have HACC := Lib.hid hacc
            clear hacc
            obtain ⟨x8, c8, rfl⟩ := brow_shape hrow
            by_cases hlt : k < px.length
            · have dlt : decide ((k : Int) < (px.length : Int)) = true := by simp; omega
              have hne : px ≠ [] := by rintro rfl; simp at hlt
              have hpw : PRow wr (.slice x px.length c) px := HP2.out.below (by rw [HB2.out]; exact hbw.out)
              obtain ⟨x', c', hv, -, -, -, hcl⟩ := hpw
              cases hv
              obtain ⟨b, off, rfl, hc⟩ := hcl hne
              obtain ⟨q1, q2, q3, q4⟩ := hc k hlt
              clear hcl hc
              have HTK : Hid (pixB D (px.take (k + 1)) = pixB D (px.take k) ++ pxB D px[k]) := by
                show _ = _
                unfold pixB
                rw [List.take_succ_eq_append_getElem hlt, List.flatMap_append]; simp
              have hvp := HVA.out px[k] (List.getElem_mem hlt)
              obtain ⟨p, hp⟩ : ∃ p, px[k] = p := ⟨_, rfl⟩
              rw [hp] at q1 q2 q3 q4 HTK hvp
              clear hp
              have HAP := Lib.hid (fun w v h1 h2 => appendPixel_any v acc p D B2 w h1 h2 (by omega) hD hvp)
              obtain ⟨pa, pb, pc, pq⟩ := p
              unfold pxC at HAP
              simp only at q1 q2 q3 q4 HAP
              have HPX := Lib.hid (Blk.new wr 36 #[.int .i64 pa, .int .i64 pb, .int .i64 pc, .int .i64 pq])
              have HRW : Hid (BRow (wr.alloc (.cells #[.int .i64 pa, .int .i64 pb, .int .i64 pc, .int .i64 pq] 36)) B2 5 (.slice x8 acc.length c8) acc) := World.ownsRow.alloc hrow _
              have HBA := Lib.hid (hbw.out.alloc hszr (.cells #[.int .i64 pa, .int .i64 pb, .int .i64 pc, .int .i64 pq] 36))
              have HSA : Hid (B2 ≤ (wr.alloc (.cells #[.int .i64 pa, .int .i64 pb, .int .i64 pc, .int .i64 pq] 36)).heap.size) := by show _ ≤ _; simp; omega
              clear hvp hbw hrow hszr
              go_upto_region 25 with fail
              clear q1 q2 q3 q4
              generalize wr.alloc (.cells #[.int .i64 pa, .int .i64 pb, .int .i64 pc, .int .i64 pq] 36) = wk at *
              generalize wr.heap.size = PB at *
              have c0 : wk.cell? ⟨PB, 0, none⟩ = some (.int .i64 pa) := HPX.out.cell 0
              have c1 : wk.cell? ⟨PB, 1, none⟩ = some (.int .i64 pb) := HPX.out.cell 1
              have c2 : wk.cell? ⟨PB, 2, none⟩ = some (.int .i64 pc) := HPX.out.cell 2
              have c3 : wk.cell? ⟨PB, 3, none⟩ = some (.int .i64 pq) := HPX.out.cell 3
              go_wp2_with fail
              refine (HAP.out _ _ HRW.out HSA.out).mono ?_
              rintro e w5 ⟨v5, rfl, hr5, hb5⟩
              have HR5 : Hid (BRow w5 B2 5 v5 (hd ++ pixB D (px.take (k + 1)))) := by
                show BRow _ _ _ _ _
                rw [HTK.out, ← List.append_assoc, ← HACC.out]; exact hr5
              have HB5 : Hid (Below B2 w2 w5) := HBA.out.trans hb5
              have HS5 : Hid (B2 ≤ w5.heap.size) := Nat.le_trans HSA.out hb5.size
              clear c0 c1 c2 c3 hr5 hb5
              go_wp2_with fail
              go_roundw
              case rel => exact ⟨k + 1, by go_num, by omega, HR5.out, HS5.out, HB5.out⟩
              case measure => simp [intOf]; omega
            · have dlt : decide ((k : Int) < (px.length : Int)) = false := by simp; omega
              have HFL : Hid (acc = fileB W H D ms px) := by show _ = _; rw [HACC.out, List.take_of_length_le (by omega), HHD.out]; rfl
              have db : decide ((1048576 : Int) < (acc.length : Int)) = false := by simp; omega
              have HF : Hid (encP W H px D ms = .ok (fileB W H D ms px)) := by show _ = _; rw [HE3.out, if_neg (by rw [← HFL.out]; omega)]
              have HBW : Hid (Below B w wr) := HBL2.out.trans (hbw.out.mono (by have := HH2.out.lt; have := HB2.out; omega))
              have hst := run_str_of Tryd.underlying42 Tryd.underlying5 Tryd.underlying9 hrow
              clear hbw
              go_wp2_with fail
              refine bodyPost_ret (v := .tuple #[.string ⟨acc.toArray⟩, .int .i64 0]) (by simp [results, Tryd.f6, go_sem]) rfl ⟨?_, by rw [HB.out]; exact HBW.out⟩
              rw [HF.out, ← HFL.out]; rfl
end Go.Proofs.YtakkdgcmeeilbaaDoor
