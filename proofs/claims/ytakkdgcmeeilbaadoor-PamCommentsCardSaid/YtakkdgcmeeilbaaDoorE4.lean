/-
  Walks: Encode, in the reference of pam.
-/
import Derived.Test.YtakkdgcmeeilbaaDoorEn
namespace Go.Proofs.YtakkdgcmeeilbaaDoor
open Go.RowKit

theorem px_nat (p : Px) (h : valP p = true) : ∃ n0 n1 n2 n3 : Nat, p = ((n0 : Int), (n1 : Int), (n2 : Int), (n3 : Int)) ∧ n0 ≤ 65535 ∧ n1 ≤ 65535 ∧ n2 ≤ 65535 ∧ n3 ≤ 65535 := by
  obtain ⟨n0, e0, b0⟩ := valP_at p h 0
  obtain ⟨n1, e1, b1⟩ := valP_at p h 1
  obtain ⟨n2, e2, b2⟩ := valP_at p h 2
  obtain ⟨n3, e3, b3⟩ := valP_at p h 3
  refine ⟨n0, n1, n2, n3, ?_, b0, b1, b2, b3⟩
  obtain ⟨a, b, c, d⟩ := p
  simp only [pxAt] at e0 e1 e2 e3
  simp at e0 e1 e2 e3
  rw [e0, e1, e2, e3]
theorem smB_len (d : Nat) (v : Int) : (smB d v).length ≤ 2 := by unfold smB; split <;> simp

set_option maxHeartbeats 8000000 in
set_option maxRecDepth 100000 in
theorem rencode_any (W H d : Int) (v mv : Value) (px : List Px) (ms : List Mt) (w : World) (hp : PRow w v px) (hm : MRow w mv ms) (hsz : ∀ m ∈ ms, m.1.length ≤ maxLen ∧ m.2.length ≤ maxLen) :
    Calls Tryd.prog 7 #[.agg (imgI W H v), .int .i64 d, mv] w fun e w' => EncOk (encP W H px d ms) e ∧ Below w.heap.size w w' := by
  have HE : Hid (encP W H px d ms = if rchk W H px ≠ 0 then .error (rchk W H px) else if W = 0 then .error 15 else if d ≠ 8 ∧ d ≠ 16 then .error 2 else if chkP ms ≠ 0 then .error (chkP ms) else if 1048576 < (fileB W.toNat H.toNat d.toNat ms px).length then .error 3 else .ok (fileB W.toNat H.toNat d.toNat ms px)) := rfl
  obtain ⟨x, c, rfl, -, hcp, -⟩ := id hp
  obtain ⟨xm, cm, rfl, -, hcm, -⟩ := id hm
  unfold maxLen at hcp hcm
  have h0 := Blk.new w 24 (imgI W H (.slice x px.length c))
  have hbl := (Below.refl w.heap.size w).alloc (Nat.le_refl _) (.cells (imgI W H (.slice x px.length c)) 24)
  have HPZ := Lib.hid (hp.below hbl)
  have HMZ := Lib.hid (hm.below hbl)
  have HCI := Lib.hid (fun w h => rCheckI_any W H (.slice x px.length c) px w h)
  have HCM := Lib.hid (fun w h => rcheck_any (.slice xm ms.length cm) ms w h hsz)
  have HRZ := Lib.hid (fun h => rchk_zero (W := W) (H := H) (px := px) h)
  have HCL := Lib.hid (fun h => chk_lens (ms := ms) h)
  clear hp hm hsz
  unfold imgI at *
  go_enter Tryd.func7, Tryd.ntmps7
  go_upto_region 1 with fail
  generalize w.alloc (.cells #[.int .i64 W, .int .i64 H, .slice x px.length c] 24) = wz at *
  have HH0 := Lib.hid h0
  have HBL0 := Lib.hid hbl
  clear h0 hbl
  generalize hB : w.heap.size = B at *
  have HB := Lib.hid hB
  clear hB
  have y0 : wz.cell? ⟨B, 0, none⟩ = some (.int .i64 W) := HH0.out.cell 0
  have y1 : wz.cell? ⟨B, 1, none⟩ = some (.int .i64 H) := HH0.out.cell 1
  have y2 : wz.cell? ⟨B, 2, none⟩ = some (.slice x px.length c) := HH0.out.cell 2
  go_wp2_with fail
  refine (HCI.out _ HPZ.out).mono ?_
  rintro e w1 ⟨rfl, hb1⟩
  have HBL : Hid (Below B w w1) := HBL0.out.trans (hb1.mono (by have := HH0.out.lt; omega))
  have HH1 : Hid (Blk w1 B 24 #[.int .i64 W, .int .i64 H, .slice x px.length c]) := (hb1.block _ HH0.out.lt).trans HH0.out
  have HP1 := Lib.hid (HPZ.out.below hb1)
  have HM1 := Lib.hid (HMZ.out.below hb1)
  clear y0 y1 y2 hb1 HH0 HBL0 HPZ HMZ HCI
  obtain ⟨ck, hck⟩ : ∃ ck, rchk W H px = ck := ⟨_, rfl⟩
  rw [hck] at HE HRZ ⊢
  clear hck
  by_cases hc0 : ck = 0
  case neg =>
    have e0 : ((ck : Int) == 0) = false := by simp; omega
    have HF : Hid (encP W H px d ms = .error ck) := by show _ = _; rw [HE.out, if_pos hc0]
    go_wp2_with fail
    refine bodyPost_ret (v := .tuple #[.string ⟨#[]⟩, .int .i64 ck]) (by simp [results, Tryd.f7, go_sem]) rfl ⟨?_, by rw [HB.out]; exact HBL.out⟩
    rw [HF.out]; rfl
  subst hc0
  obtain ⟨W, H, rfl, rfl, hW, hH, hpl, hval⟩ := HRZ.out rfl
  have HVA := Lib.hid hval
  have hpl2 : px.length ≤ 65536 := by rw [hpl]; have := Nat.mul_le_mul hW hH; omega
  clear HRZ hpl hval
  have y0 : w1.cell? ⟨B, 0, none⟩ = some (.int .i64 W) := HH1.out.cell 0
  by_cases hW0 : W = 0
  case pos =>
    have e1 : ((W : Int) == 0) = true := by rw [hW0]; rfl
    have HF : Hid (encP W H px d ms = .error 15) := by show _ = _; rw [HE.out, if_neg (by simp), if_pos (by omega)]
    go_wp2_with fail
    refine bodyPost_ret (v := .tuple #[.string ⟨#[]⟩, .int .i64 15]) (by simp [results, Tryd.f7, go_sem]) rfl ⟨?_, by rw [HB.out]; exact HBL.out⟩
    rw [HF.out]; rfl
  have e1 : ((W : Int) == 0) = false := by simp; omega
  by_cases hd8 : d = 8 ∨ d = 16
  case neg =>
    have e8 : (d == 8) = false := by rw [beq_eq_false_iff_ne]; intro h; exact hd8 (.inl h)
    have e16 : (d == 16) = false := by rw [beq_eq_false_iff_ne]; intro h; exact hd8 (.inr h)
    have b8 : (d != 8) = true := by unfold bne; rw [e8]; rfl
    have b16 : (d != 16) = true := by unfold bne; rw [e16]; rfl
    have HF : Hid (encP W H px d ms = .error 2) := by show _ = _; rw [HE.out, if_neg (by simp), if_neg (by omega), if_pos ⟨fun h => hd8 (.inl h), fun h => hd8 (.inr h)⟩]
    go_wp2_with fail
    refine bodyPost_ret (v := .tuple #[.string ⟨#[]⟩, .int .i64 2]) (by simp [results, Tryd.f7, go_sem]) rfl ⟨?_, by rw [HB.out]; exact HBL.out⟩
    rw [HF.out]; rfl
  obtain ⟨D, rfl⟩ : ∃ D : Nat, d = (D : Int) := ⟨d.toNat, by omega⟩
  have hD : D = 8 ∨ D = 16 := by omega
  have HE2 : Hid (encP W H px D ms = if chkP ms ≠ 0 then .error (chkP ms) else if 1048576 < (fileB W H D ms px).length then .error 3 else .ok (fileB W H D ms px)) := by
    show _ = _; rw [HE.out, if_neg (by simp), if_neg (by omega), if_neg (by omega)]; rfl
  obtain ⟨is8, his8⟩ : ∃ b, b = decide (D = 8) := ⟨_, rfl⟩
  have e8 : ((D : Int) == 8) = is8 := by rw [his8]; by_cases h : D = 8 <;> simp [h] <;> omega
  have e16 : is8 = false → ((D : Int) == 16) = true := by rw [his8]; intro h; have := of_decide_eq_false h; simp; omega
  have HIS := Lib.hid his8
  clear HE his8 hd8
  have H16 := Lib.hid e16
  clear e16
  have HCM1 := Lib.hid (HCM.out w1 HM1.out)
  clear HCM
  cases is8 with
  | false =>
    have e16 := H16.out rfl
    have b8 : ((D : Int) != 8) = true := by unfold bne; rw [e8]; rfl
    have b16 : ((D : Int) != 16) = false := by unfold bne; rw [e16]; rfl
    go_wp2_with fail
    refine HCM1.out.mono ?_
    rintro e w2 ⟨rfl, n2, rfl⟩
    have HBL2 : Hid (Below B w (w1.drewN n2)) := below_drewN HBL.out n2
    have HH2 : Hid (Blk (w1.drewN n2) B 24 #[.int .i64 (W : Int), .int .i64 (H : Int), .slice x px.length c]) := HH1.out.drewN n2
    have HP2 : Hid (PRow (w1.drewN n2) (.slice x px.length c) px) := HP1.out
    have HM2 : Hid (MRow (w1.drewN n2) (.slice xm ms.length cm) ms) := HM1.out
    clear y0 HBL HH1 HP1 HM1 HCM1
    generalize w1.drewN n2 = w2 at *
    obtain ⟨cm0, hcm0⟩ : ∃ ck, chkP ms = ck := ⟨_, rfl⟩
    rw [hcm0] at HE2 HCL ⊢
    clear hcm0
    by_cases hc0 : cm0 = 0
    case neg =>
      have e0 : ((cm0 : Int) == 0) = false := by simp; omega
      have HF : Hid (encP W H px D ms = .error cm0) := by show _ = _; rw [HE2.out, if_pos hc0]
      go_wp2_with fail
      refine bodyPost_ret (v := .tuple #[.string ⟨#[]⟩, .int .i64 cm0]) (by simp [results, Tryd.f7, go_sem]) rfl ⟨?_, by rw [HB.out]; exact HBL2.out⟩
      rw [HF.out]; rfl
    subst hc0
    have hml := (HCL.out rfl).1
    have HML := Lib.hid (HCL.out rfl).2
    clear HCL
    have HE3 : Hid (encP W H px D ms = if 1048576 < (fileB W H D ms px).length then .error 3 else .ok (fileB W H D ms px)) := by show _ = _; rw [HE2.out, if_neg (by simp)]
    clear HE2
    go_wp2_with fail
    go_loopw [10, 11] (fun vs vk wr => ∃ (k : Nat) (sb : ByteArray), vs = .string sb ∧ vk = .int .i64 k ∧ k ≤ ms.length ∧ Hid (sb.data.toList = [80, 55, 10] ++ metB (ms.take k)) ∧ sb.size ≤ 3 + 300 * k ∧ Hid (Below w2.heap.size w2 wr)) (fun _ vk _ => ms.length - (intOf vk).toNat)
    case atStart => exact ⟨0, _, rfl, rfl, Nat.zero_le _, by show _ = _; simp [metB], by decide, Below.refl _ _⟩
    case round =>
      obtain ⟨k, sb, rfl, rfl, hk, hsb, hsbs, hbw⟩ := hrel
      by_cases hlt : k < ms.length
      · have dlt : decide ((k : Int) < (ms.length : Int)) = true := by simp; omega
        have hne : ms ≠ [] := by rintro rfl; simp at hlt
        have hmw : MRow wr (.slice xm ms.length cm) ms := HM2.out.below hbw.out
        obtain ⟨x', c', hv, -, -, -, hcl⟩ := hmw
        cases hv
        obtain ⟨b, off, rfl, hc⟩ := hcl hne
        obtain ⟨q1, q2⟩ := hc k hlt
        clear hcl hc
        have HMK := Lib.hid (HML.out ms[k] (List.getElem_mem hlt))
        have HTK : Hid (metB (ms.take (k + 1)) = metB (ms.take k) ++ entB ms[k]) := by
          show _ = _
          unfold metB
          rw [List.take_succ_eq_append_getElem hlt, List.flatMap_append]; simp
        obtain ⟨KB, hKB, hKs⟩ : ∃ t : ByteArray, t = ⟨ms[k].1.toArray⟩ ∧ t.size ≤ 32 := ⟨_, rfl, by rw [ba_len]; exact HMK.out.1⟩
        obtain ⟨VB, hVB, hVs⟩ : ∃ t : ByteArray, t = ⟨ms[k].2.toArray⟩ ∧ t.size ≤ 256 := ⟨_, rfl, by rw [ba_len]; exact HMK.out.2⟩
        have HEN : Hid (entB ms[k] = [35, 32] ++ KB.data.toList ++ [32] ++ VB.data.toList ++ [10]) := by show _ = _; rw [hKB, hVB]; rfl
        rw [← hKB] at q1
        rw [← hVB] at q2
        clear hKB hVB
        go_wp2_with fail
        go_quiet (fail)
        have hbn := Lib.hid (below_drewN hbw.out nq)
        clear q1 q2 hbw
        go_wp2_with fail
        refine ⟨⟨k + 1, _, rfl, by go_num, by omega, ?_, ?_, hbn⟩, by simp [intOf]; omega⟩
        · show _ = _
          rw [HTK.out, HEN.out]
          simp [ByteArray.data_append, hsb.out]
        · simp [ByteArray.size_append]
          simp only [ByteArray.size, List.size_toArray, List.length_cons, List.length_nil] at *
          omega
      · have dlt : decide ((k : Int) < (ms.length : Int)) = false := by simp; omega
        have HSB : Hid (sb.data.toList = [80, 55, 10] ++ metB ms) := by show _ = _; have := hsb.out; rwa [List.take_of_length_le (by omega)] at this
        have hsb5 : sb.size ≤ 5000 := by omega
        obtain ⟨wk, hwk⟩ : ∃ wk, wk = wr := ⟨_, rfl⟩
        rw [← hwk] at hbw ⊢
        clear hwk wr hsb hsbs
        have HHk : Hid (Blk wk B 24 #[.int .i64 (W : Int), .int .i64 (H : Int), .slice x px.length c]) := (hbw.out.block _ HH2.out.lt).trans HH2.out
        have HPk := Lib.hid (HP2.out.below hbw.out)
        have HBk : Hid (Below B w wk) := HBL2.out.trans (hbw.out.mono (by have := HH2.out.lt; omega))
        obtain ⟨dW, hdW, hdWs⟩ : ∃ t : ByteArray, t = ⟨(Lib.decDigits W).toArray⟩ ∧ t.size ≤ 257 := ⟨_, rfl, by rw [ba_len]; have := dec_len W (by omega); omega⟩
        obtain ⟨dH, hdH, hdHs⟩ : ∃ t : ByteArray, t = ⟨(Lib.decDigits H).toArray⟩ ∧ t.size ≤ 257 := ⟨_, rfl, by rw [ba_len]; have := dec_len H (by omega); omega⟩
        have HDW := Lib.hid (rdecimal_any W (by omega))
        have HDH := Lib.hid (rdecimal_any H (by omega))
        rw [← hdW] at HDW
        rw [← hdH] at HDH
        have HGR : Hid (endB D = [68, 69, 80, 84, 72, 32, 52, 10, 77, 65, 88, 86, 65, 76, 32] ++ [54, 53, 53, 51, 53] ++ [10, 84, 85, 80, 76, 84, 89, 80, 69, 32, 82, 71, 66, 95, 65, 76, 80, 72, 65, 10, 69, 78, 68, 72, 68, 82, 10]) := by show _ = _; unfold endB grB; rw [if_pos (by have := of_decide_eq_false HIS.out.symm; omega)]
        have HSZ : Hid (sizB W H = [87, 73, 68, 84, 72, 32] ++ dW.data.toList ++ [10, 72, 69, 73, 71, 72, 84, 32] ++ dH.data.toList ++ [10]) := by show _ = _; rw [hdW, hdH]; rfl
        clear hdW hdH hbw HH2 HP2 HBL2 HM2
        have HFL : Hid (fileB W H D ms px = sb.data.toList ++ sizB W H ++ endB D ++ pixB D px) := by show _ = _; rw [HSB.out]; rfl
        obtain ⟨K0, hK0⟩ : ∃ K0, K0 = wk.heap.size := ⟨_, rfl⟩
        have HK0 : Hid (K0 ≤ wk.heap.size) := by show _ ≤ _; omega
        have HK0' := Lib.hid hK0
        clear hK0
        have c0 : ∀ u : BW K0 wk, u.w.cell? ⟨B, 0, none⟩ = some (.int .i64 (W : Int)) := fun u => (u.b.cell (p := ⟨B, 0, none⟩) (by have := HHk.out.lt; have := HK0'.out; show B < K0; omega)).trans (HHk.out.cell 0)
        have c1 : ∀ u : BW K0 wk, u.w.cell? ⟨B, 1, none⟩ = some (.int .i64 (H : Int)) := fun u => (u.b.cell (p := ⟨B, 1, none⟩) (by have := HHk.out.lt; have := HK0'.out; show B < K0; omega)).trans (HHk.out.cell 1)
        go_upto_region 16 with fail
        refine wp_region_bw K0 wk (Below.refl _ _) (by kernel_rfl) (by kernel_rfl) ?_
        repeat (go_big_quiet_step (first | (go_at_call_of 20 (Value.int .i64 (W : Int)); exact calls_bw HK0.out (HDW.out _)) | (go_at_call_of 20 (Value.int .i64 (H : Int)); exact calls_bw HK0.out (HDH.out _))))
        refine wpQuiet_nil ?_
        rintro _ ⟨u, rfl⟩
        obtain ⟨w5, hw5⟩ : ∃ w5, w5 = u.w := ⟨_, rfl⟩
        have hb5 : Below K0 wk w5 := by rw [hw5]; exact u.b
        rw [← hw5]
        clear hw5 u c0 c1
        have HH5 : Hid (Blk w5 B 24 #[.int .i64 (W : Int), .int .i64 (H : Int), .slice x px.length c]) := (hb5.block _ (by have := HHk.out.lt; have := HK0'.out; omega)).trans HHk.out
        have HP5 := Lib.hid (HPk.out.below (by rw [← HK0'.out]; exact hb5))
        have HB5 : Hid (Below B w w5) := HBk.out.trans (hb5.mono (by have := HHk.out.lt; have := HK0'.out; omega))
        clear hb5 HHk HPk HBk HK0 HK0' HDW HDH
        clear wk
        have y2 : w5.cell? ⟨B, 2, none⟩ = some (.slice x px.length c) := HH5.out.cell 2
        go_wp2_with fail
        clear y2
        go_loopw [10, 12] (fun vs vk wr => ∃ (k : Nat) (s2 : ByteArray), vs = .string s2 ∧ vk = .int .i64 k ∧ k ≤ px.length ∧ Hid (s2.data.toList = sb.data.toList ++ sizB W H ++ endB D ++ pixB D (px.take k)) ∧ s2.size ≤ 7000 + 8 * k ∧ Hid (Below w5.heap.size w5 wr)) (fun _ vk _ => px.length - (intOf vk).toNat)
        case atStart =>
          refine ⟨0, _, rfl, rfl, Nat.zero_le _, ?_, ?_, Below.refl _ _⟩
          · show _ = _
            rw [HSZ.out, HGR.out]
            simp [ByteArray.data_append, pixB]
          · simp [ByteArray.size_append]
            simp only [ByteArray.size, List.size_toArray, List.length_cons, List.length_nil] at *
            omega
        case round =>
          obtain ⟨k, s2, rfl, rfl, hk, hs2, hs2s, hbw⟩ := hrel
          have y2 : wr.cell? ⟨B, 2, none⟩ = some (.slice x px.length c) := (hbw.out.cell (p := ⟨B, 2, none⟩) HH5.out.lt).trans (HH5.out.cell 2)
          by_cases hlt : k < px.length
          · have dlt : decide ((k : Int) < (px.length : Int)) = true := by simp; omega
            have hne : px ≠ [] := by rintro rfl; simp at hlt
            have hpw : PRow wr (.slice x px.length c) px := HP5.out.below hbw.out
            obtain ⟨x', c', hv, -, -, -, hcl⟩ := hpw
            cases hv
            obtain ⟨b, off, rfl, hc⟩ := hcl hne
            obtain ⟨q1, q2, q3, q4⟩ := hc k hlt
            clear hcl hc
            have HTK : Hid (pixB D (px.take (k + 1)) = pixB D (px.take k) ++ pxB D px[k]) := by
              show _ = _
              unfold pixB
              rw [List.take_succ_eq_append_getElem hlt, List.flatMap_append]; simp
            have hvp := HVA.out px[k] (List.getElem_mem hlt)
            obtain ⟨p, hp⟩ : ∃ p, px[k] = p := ⟨_, rfl⟩
            rw [hp] at q1 q2 q3 q4 HTK hvp
            clear hp
            obtain ⟨n0, n1, n2', n3, rfl, n0b, n1b, n2b, n3b⟩ := px_nat p hvp
            simp only at q1 q2 q3 q4
            have HPX := Lib.hid (Blk.new wr 36 (pxC ((n0 : Int), (n1 : Int), (n2' : Int), (n3 : Int))))
            have HPW : Hid (w5.heap.size ≤ wr.heap.size) := hbw.out.size
            have HBA := Lib.hid (hbw.out.alloc hbw.out.size (.cells (pxC ((n0 : Int), (n1 : Int), (n2' : Int), (n3 : Int))) 36))
            unfold pxC at HPX HBA
            simp only at HPX HBA
            clear hvp hbw
            go_upto_region 25 with fail
            clear q1 q2 q3 q4 y2
            generalize wr.alloc (.cells #[.int .i64 (n0 : Int), .int .i64 (n1 : Int), .int .i64 (n2' : Int), .int .i64 (n3 : Int)] 36) = wk at *
            generalize wr.heap.size = PB at *
            have HPB : Hid (pxB D ((n0 : Int), (n1 : Int), (n2' : Int), (n3 : Int)) = smB D n0 ++ smB D n1 ++ smB D n2' ++ smB D n3) := by
              have h16 : D = 16 := by have := of_decide_eq_false HIS.out.symm; omega
              show _ = _
              rw [h16]; rfl
            have hS0 : Hid (∀ w, Calls Tryd.prog 21 #[.int .i64 (n0 : Int), .int .i64 (D : Int)] w fun e w' => e = .returned (.string ⟨(smB D (n0 : Int)).toArray⟩) ∧ Below w.heap.size w w') := fun w => rsample_any n0 D hD (by omega) w
            have hS1 : Hid (∀ w, Calls Tryd.prog 21 #[.int .i64 (n1 : Int), .int .i64 (D : Int)] w fun e w' => e = .returned (.string ⟨(smB D (n1 : Int)).toArray⟩) ∧ Below w.heap.size w w') := fun w => rsample_any n1 D hD (by omega) w
            have hS2 : Hid (∀ w, Calls Tryd.prog 21 #[.int .i64 (n2' : Int), .int .i64 (D : Int)] w fun e w' => e = .returned (.string ⟨(smB D (n2' : Int)).toArray⟩) ∧ Below w.heap.size w w') := fun w => rsample_any n2' D hD (by omega) w
            have hS3 : Hid (∀ w, Calls Tryd.prog 21 #[.int .i64 (n3 : Int), .int .i64 (D : Int)] w fun e w' => e = .returned (.string ⟨(smB D (n3 : Int)).toArray⟩) ∧ Below w.heap.size w w') := fun w => rsample_any n3 D hD (by omega) w
            obtain ⟨t0, ht0, ht0s⟩ : ∃ t : ByteArray, t = ⟨(smB D (n0 : Int)).toArray⟩ ∧ t.size ≤ 2 := ⟨_, rfl, by rw [ba_len]; exact smB_len _ _⟩
            rw [← ht0] at hS0
            obtain ⟨t1, ht1, ht1s⟩ : ∃ t : ByteArray, t = ⟨(smB D (n1 : Int)).toArray⟩ ∧ t.size ≤ 2 := ⟨_, rfl, by rw [ba_len]; exact smB_len _ _⟩
            rw [← ht1] at hS1
            obtain ⟨t2, ht2, ht2s⟩ : ∃ t : ByteArray, t = ⟨(smB D (n2' : Int)).toArray⟩ ∧ t.size ≤ 2 := ⟨_, rfl, by rw [ba_len]; exact smB_len _ _⟩
            rw [← ht2] at hS2
            obtain ⟨t3, ht3, ht3s⟩ : ∃ t : ByteArray, t = ⟨(smB D (n3 : Int)).toArray⟩ ∧ t.size ≤ 2 := ⟨_, rfl, by rw [ba_len]; exact smB_len _ _⟩
            rw [← ht3] at hS3
            have HT : Hid (t0.data.toList ++ t1.data.toList ++ t2.data.toList ++ t3.data.toList = pxB D ((n0 : Int), (n1 : Int), (n2' : Int), (n3 : Int))) := by show _ = _; rw [ht0, ht1, ht2, ht3, HPB.out]
            clear ht0 ht1 ht2 ht3
            obtain ⟨K0, hK0⟩ : ∃ K0, K0 = wk.heap.size := ⟨_, rfl⟩
            have HK0 : Hid (K0 ≤ wk.heap.size) := by show _ ≤ _; omega
            have hPK : PB < K0 := by rw [hK0]; exact HPX.out.lt
            have HBK : Hid (Below w5.heap.size w5 wk ∧ w5.heap.size ≤ K0) := ⟨HBA.out, by rw [hK0]; exact HBA.out.size⟩
            clear hK0
            have c0 : ∀ u : BW K0 wk, u.w.cell? ⟨PB, 0, none⟩ = some (.int .i64 (n0 : Int)) := fun u => (u.b.cell (p := ⟨PB, 0, none⟩) hPK).trans (HPX.out.cell 0)
            have c1 : ∀ u : BW K0 wk, u.w.cell? ⟨PB, 1, none⟩ = some (.int .i64 (n1 : Int)) := fun u => (u.b.cell (p := ⟨PB, 1, none⟩) hPK).trans (HPX.out.cell 1)
            have c2 : ∀ u : BW K0 wk, u.w.cell? ⟨PB, 2, none⟩ = some (.int .i64 (n2' : Int)) := fun u => (u.b.cell (p := ⟨PB, 2, none⟩) hPK).trans (HPX.out.cell 2)
            have c3 : ∀ u : BW K0 wk, u.w.cell? ⟨PB, 3, none⟩ = some (.int .i64 (n3 : Int)) := fun u => (u.b.cell (p := ⟨PB, 3, none⟩) hPK).trans (HPX.out.cell 3)
            go_upto_region 27 with fail
            refine wp_region_bw K0 wk (Below.refl _ _) (by kernel_rfl) (by kernel_rfl) ?_
            repeat (go_big_quiet_step (first | (go_at_call_of 21 (Value.int .i64 (n0 : Int)); exact calls_bw HK0.out (hS0.out _)) | (go_at_call_of 21 (Value.int .i64 (n1 : Int)); exact calls_bw HK0.out (hS1.out _)) | (go_at_call_of 21 (Value.int .i64 (n2' : Int)); exact calls_bw HK0.out (hS2.out _)) | (go_at_call_of 21 (Value.int .i64 (n3 : Int)); exact calls_bw HK0.out (hS3.out _))))
            refine wpQuiet_nil ?_
            rintro _ ⟨u, rfl⟩
            have hb6 : Below w5.heap.size w5 u.w := HBK.out.1.trans (u.b.mono HBK.out.2)
            generalize u.w = w6 at *
            clear c0 c1 c2 c3
            have HB6 := Lib.hid hb6
            clear hb6
            go_wp2_with fail
            refine ⟨⟨k + 1, _, rfl, by go_num, by omega, ?_, ?_, HB6⟩, by simp [intOf]; omega⟩
            · show _ = _
              rw [HTK.out, ← HT.out]
              simp [ByteArray.data_append, hs2.out]
            · simp [ByteArray.size_append]
              omega
          · have dlt : decide ((k : Int) < (px.length : Int)) = false := by simp; omega
            have HS2 : Hid (s2.data.toList = fileB W H D ms px) := by show _ = _; rw [HFL.out]; have := hs2.out; rwa [List.take_of_length_le (by omega)] at this
            have HBW : Hid (Below B w wr) := HB5.out.trans (hbw.out.mono (by have := HH5.out.lt; omega))
            have HSL : Hid ((fileB W H D ms px).length = s2.size) := by show _ = _; rw [← HS2.out, ba_size]
            by_cases hbig : 1048576 < s2.size
            · exact absurd hbig (by omega)
            · have db : decide ((1048576 : Int) < (s2.size : Int)) = false := by simp; omega
              have HF : Hid (encP W H px D ms = .ok (fileB W H D ms px)) := by show _ = _; rw [HE3.out, if_neg (by rw [HSL.out]; exact hbig)]
              go_wp2_with fail
              refine bodyPost_ret (v := .tuple #[.string s2, .int .i64 0]) (by simp [results, Tryd.f7, go_sem]) rfl ⟨?_, by rw [HB.out]; exact HBW.out⟩
              rw [HF.out, ← HS2.out]; rfl
  | true =>
    have b8 : ((D : Int) != 8) = false := by unfold bne; rw [e8]; rfl
    go_wp2_with fail
    refine HCM1.out.mono ?_
    rintro e w2 ⟨rfl, n2, rfl⟩
    have HBL2 : Hid (Below B w (w1.drewN n2)) := below_drewN HBL.out n2
    have HH2 : Hid (Blk (w1.drewN n2) B 24 #[.int .i64 (W : Int), .int .i64 (H : Int), .slice x px.length c]) := HH1.out.drewN n2
    have HP2 : Hid (PRow (w1.drewN n2) (.slice x px.length c) px) := HP1.out
    have HM2 : Hid (MRow (w1.drewN n2) (.slice xm ms.length cm) ms) := HM1.out
    clear y0 HBL HH1 HP1 HM1 HCM1
    generalize w1.drewN n2 = w2 at *
    obtain ⟨cm0, hcm0⟩ : ∃ ck, chkP ms = ck := ⟨_, rfl⟩
    rw [hcm0] at HE2 HCL ⊢
    clear hcm0
    by_cases hc0 : cm0 = 0
    case neg =>
      have e0 : ((cm0 : Int) == 0) = false := by simp; omega
      have HF : Hid (encP W H px D ms = .error cm0) := by show _ = _; rw [HE2.out, if_pos hc0]
      go_wp2_with fail
      refine bodyPost_ret (v := .tuple #[.string ⟨#[]⟩, .int .i64 cm0]) (by simp [results, Tryd.f7, go_sem]) rfl ⟨?_, by rw [HB.out]; exact HBL2.out⟩
      rw [HF.out]; rfl
    subst hc0
    have hml := (HCL.out rfl).1
    have HML := Lib.hid (HCL.out rfl).2
    clear HCL
    have HE3 : Hid (encP W H px D ms = if 1048576 < (fileB W H D ms px).length then .error 3 else .ok (fileB W H D ms px)) := by show _ = _; rw [HE2.out, if_neg (by simp)]
    clear HE2
    go_wp2_with fail
    go_loopw [10, 11] (fun vs vk wr => ∃ (k : Nat) (sb : ByteArray), vs = .string sb ∧ vk = .int .i64 k ∧ k ≤ ms.length ∧ Hid (sb.data.toList = [80, 55, 10] ++ metB (ms.take k)) ∧ sb.size ≤ 3 + 300 * k ∧ Hid (Below w2.heap.size w2 wr)) (fun _ vk _ => ms.length - (intOf vk).toNat)
    case atStart => exact ⟨0, _, rfl, rfl, Nat.zero_le _, by show _ = _; simp [metB], by decide, Below.refl _ _⟩
    case round =>
      obtain ⟨k, sb, rfl, rfl, hk, hsb, hsbs, hbw⟩ := hrel
      by_cases hlt : k < ms.length
      · have dlt : decide ((k : Int) < (ms.length : Int)) = true := by simp; omega
        have hne : ms ≠ [] := by rintro rfl; simp at hlt
        have hmw : MRow wr (.slice xm ms.length cm) ms := HM2.out.below hbw.out
        obtain ⟨x', c', hv, -, -, -, hcl⟩ := hmw
        cases hv
        obtain ⟨b, off, rfl, hc⟩ := hcl hne
        obtain ⟨q1, q2⟩ := hc k hlt
        clear hcl hc
        have HMK := Lib.hid (HML.out ms[k] (List.getElem_mem hlt))
        have HTK : Hid (metB (ms.take (k + 1)) = metB (ms.take k) ++ entB ms[k]) := by
          show _ = _
          unfold metB
          rw [List.take_succ_eq_append_getElem hlt, List.flatMap_append]; simp
        obtain ⟨KB, hKB, hKs⟩ : ∃ t : ByteArray, t = ⟨ms[k].1.toArray⟩ ∧ t.size ≤ 32 := ⟨_, rfl, by rw [ba_len]; exact HMK.out.1⟩
        obtain ⟨VB, hVB, hVs⟩ : ∃ t : ByteArray, t = ⟨ms[k].2.toArray⟩ ∧ t.size ≤ 256 := ⟨_, rfl, by rw [ba_len]; exact HMK.out.2⟩
        have HEN : Hid (entB ms[k] = [35, 32] ++ KB.data.toList ++ [32] ++ VB.data.toList ++ [10]) := by show _ = _; rw [hKB, hVB]; rfl
        rw [← hKB] at q1
        rw [← hVB] at q2
        clear hKB hVB
        go_wp2_with fail
        go_quiet (fail)
        have hbn := Lib.hid (below_drewN hbw.out nq)
        clear q1 q2 hbw
        go_wp2_with fail
        refine ⟨⟨k + 1, _, rfl, by go_num, by omega, ?_, ?_, hbn⟩, by simp [intOf]; omega⟩
        · show _ = _
          rw [HTK.out, HEN.out]
          simp [ByteArray.data_append, hsb.out]
        · simp [ByteArray.size_append]
          simp only [ByteArray.size, List.size_toArray, List.length_cons, List.length_nil] at *
          omega
      · have dlt : decide ((k : Int) < (ms.length : Int)) = false := by simp; omega
        have HSB : Hid (sb.data.toList = [80, 55, 10] ++ metB ms) := by show _ = _; have := hsb.out; rwa [List.take_of_length_le (by omega)] at this
        have hsb5 : sb.size ≤ 5000 := by omega
        obtain ⟨wk, hwk⟩ : ∃ wk, wk = wr := ⟨_, rfl⟩
        rw [← hwk] at hbw ⊢
        clear hwk wr hsb hsbs
        have HHk : Hid (Blk wk B 24 #[.int .i64 (W : Int), .int .i64 (H : Int), .slice x px.length c]) := (hbw.out.block _ HH2.out.lt).trans HH2.out
        have HPk := Lib.hid (HP2.out.below hbw.out)
        have HBk : Hid (Below B w wk) := HBL2.out.trans (hbw.out.mono (by have := HH2.out.lt; omega))
        obtain ⟨dW, hdW, hdWs⟩ : ∃ t : ByteArray, t = ⟨(Lib.decDigits W).toArray⟩ ∧ t.size ≤ 257 := ⟨_, rfl, by rw [ba_len]; have := dec_len W (by omega); omega⟩
        obtain ⟨dH, hdH, hdHs⟩ : ∃ t : ByteArray, t = ⟨(Lib.decDigits H).toArray⟩ ∧ t.size ≤ 257 := ⟨_, rfl, by rw [ba_len]; have := dec_len H (by omega); omega⟩
        have HDW := Lib.hid (rdecimal_any W (by omega))
        have HDH := Lib.hid (rdecimal_any H (by omega))
        rw [← hdW] at HDW
        rw [← hdH] at HDH
        have HGR : Hid (endB D = [68, 69, 80, 84, 72, 32, 52, 10, 77, 65, 88, 86, 65, 76, 32] ++ [50, 53, 53] ++ [10, 84, 85, 80, 76, 84, 89, 80, 69, 32, 82, 71, 66, 95, 65, 76, 80, 72, 65, 10, 69, 78, 68, 72, 68, 82, 10]) := by show _ = _; unfold endB grB; rw [if_neg (by have := of_decide_eq_true HIS.out.symm; omega)]
        have HSZ : Hid (sizB W H = [87, 73, 68, 84, 72, 32] ++ dW.data.toList ++ [10, 72, 69, 73, 71, 72, 84, 32] ++ dH.data.toList ++ [10]) := by show _ = _; rw [hdW, hdH]; rfl
        clear hdW hdH hbw HH2 HP2 HBL2 HM2
        have HFL : Hid (fileB W H D ms px = sb.data.toList ++ sizB W H ++ endB D ++ pixB D px) := by show _ = _; rw [HSB.out]; rfl
        obtain ⟨K0, hK0⟩ : ∃ K0, K0 = wk.heap.size := ⟨_, rfl⟩
        have HK0 : Hid (K0 ≤ wk.heap.size) := by show _ ≤ _; omega
        have HK0' := Lib.hid hK0
        clear hK0
        have c0 : ∀ u : BW K0 wk, u.w.cell? ⟨B, 0, none⟩ = some (.int .i64 (W : Int)) := fun u => (u.b.cell (p := ⟨B, 0, none⟩) (by have := HHk.out.lt; have := HK0'.out; show B < K0; omega)).trans (HHk.out.cell 0)
        have c1 : ∀ u : BW K0 wk, u.w.cell? ⟨B, 1, none⟩ = some (.int .i64 (H : Int)) := fun u => (u.b.cell (p := ⟨B, 1, none⟩) (by have := HHk.out.lt; have := HK0'.out; show B < K0; omega)).trans (HHk.out.cell 1)
        go_upto_region 16 with fail
        refine wp_region_bw K0 wk (Below.refl _ _) (by kernel_rfl) (by kernel_rfl) ?_
        repeat (go_big_quiet_step (first | (go_at_call_of 20 (Value.int .i64 (W : Int)); exact calls_bw HK0.out (HDW.out _)) | (go_at_call_of 20 (Value.int .i64 (H : Int)); exact calls_bw HK0.out (HDH.out _))))
        refine wpQuiet_nil ?_
        rintro _ ⟨u, rfl⟩
        obtain ⟨w5, hw5⟩ : ∃ w5, w5 = u.w := ⟨_, rfl⟩
        have hb5 : Below K0 wk w5 := by rw [hw5]; exact u.b
        rw [← hw5]
        clear hw5 u c0 c1
        have HH5 : Hid (Blk w5 B 24 #[.int .i64 (W : Int), .int .i64 (H : Int), .slice x px.length c]) := (hb5.block _ (by have := HHk.out.lt; have := HK0'.out; omega)).trans HHk.out
        have HP5 := Lib.hid (HPk.out.below (by rw [← HK0'.out]; exact hb5))
        have HB5 : Hid (Below B w w5) := HBk.out.trans (hb5.mono (by have := HHk.out.lt; have := HK0'.out; omega))
        clear hb5 HHk HPk HBk HK0 HK0' HDW HDH
        clear wk
        have y2 : w5.cell? ⟨B, 2, none⟩ = some (.slice x px.length c) := HH5.out.cell 2
        go_wp2_with fail
        clear y2
        go_loopw [10, 12] (fun vs vk wr => ∃ (k : Nat) (s2 : ByteArray), vs = .string s2 ∧ vk = .int .i64 k ∧ k ≤ px.length ∧ Hid (s2.data.toList = sb.data.toList ++ sizB W H ++ endB D ++ pixB D (px.take k)) ∧ s2.size ≤ 7000 + 8 * k ∧ Hid (Below w5.heap.size w5 wr)) (fun _ vk _ => px.length - (intOf vk).toNat)
        case atStart =>
          refine ⟨0, _, rfl, rfl, Nat.zero_le _, ?_, ?_, Below.refl _ _⟩
          · show _ = _
            rw [HSZ.out, HGR.out]
            simp [ByteArray.data_append, pixB]
          · simp [ByteArray.size_append]
            simp only [ByteArray.size, List.size_toArray, List.length_cons, List.length_nil] at *
            omega
        case round =>
          obtain ⟨k, s2, rfl, rfl, hk, hs2, hs2s, hbw⟩ := hrel
          have y2 : wr.cell? ⟨B, 2, none⟩ = some (.slice x px.length c) := (hbw.out.cell (p := ⟨B, 2, none⟩) HH5.out.lt).trans (HH5.out.cell 2)
          by_cases hlt : k < px.length
          · have dlt : decide ((k : Int) < (px.length : Int)) = true := by simp; omega
            have hne : px ≠ [] := by rintro rfl; simp at hlt
            have hpw : PRow wr (.slice x px.length c) px := HP5.out.below hbw.out
            obtain ⟨x', c', hv, -, -, -, hcl⟩ := hpw
            cases hv
            obtain ⟨b, off, rfl, hc⟩ := hcl hne
            obtain ⟨q1, q2, q3, q4⟩ := hc k hlt
            clear hcl hc
            have HTK : Hid (pixB D (px.take (k + 1)) = pixB D (px.take k) ++ pxB D px[k]) := by
              show _ = _
              unfold pixB
              rw [List.take_succ_eq_append_getElem hlt, List.flatMap_append]; simp
            have hvp := HVA.out px[k] (List.getElem_mem hlt)
            obtain ⟨p, hp⟩ : ∃ p, px[k] = p := ⟨_, rfl⟩
            rw [hp] at q1 q2 q3 q4 HTK hvp
            clear hp
            obtain ⟨n0, n1, n2', n3, rfl, n0b, n1b, n2b, n3b⟩ := px_nat p hvp
            simp only at q1 q2 q3 q4
            have HPX := Lib.hid (Blk.new wr 36 (pxC ((n0 : Int), (n1 : Int), (n2' : Int), (n3 : Int))))
            have HPW : Hid (w5.heap.size ≤ wr.heap.size) := hbw.out.size
            have HBA := Lib.hid (hbw.out.alloc hbw.out.size (.cells (pxC ((n0 : Int), (n1 : Int), (n2' : Int), (n3 : Int))) 36))
            unfold pxC at HPX HBA
            simp only at HPX HBA
            clear hvp hbw
            go_upto_region 25 with fail
            clear q1 q2 q3 q4 y2
            generalize wr.alloc (.cells #[.int .i64 (n0 : Int), .int .i64 (n1 : Int), .int .i64 (n2' : Int), .int .i64 (n3 : Int)] 36) = wk at *
            generalize wr.heap.size = PB at *
            have h8 : D = 8 := of_decide_eq_true HIS.out.symm
            have HPBZ : Hid (to8I (n3 : Int) = 0 → pxB D ((n0 : Int), (n1 : Int), (n2' : Int), (n3 : Int)) = smB D 0 ++ smB D 0 ++ smB D 0 ++ smB D 0) := by
              intro h
              rw [h8]
              unfold pxB
              rw [if_neg (by decide), if_pos h]
              decide +kernel
            have HPBN : Hid (to8I (n3 : Int) ≠ 0 → pxB D ((n0 : Int), (n1 : Int), (n2' : Int), (n3 : Int)) = smB D n0 ++ smB D n1 ++ smB D n2' ++ smB D n3) := by
              intro h
              rw [h8]
              unfold pxB
              rw [if_neg (by decide), if_neg h]
            have y3 : wk.cell? ⟨PB, 3, none⟩ = some (.int .i64 (n3 : Int)) := HPX.out.cell 3
            have HT8 := Lib.hid (fun w => rto8_any (n3 : Int) w)
            obtain ⟨tq, htq⟩ : ∃ tq, to8I (n3 : Int) = tq := ⟨_, rfl⟩
            rw [htq] at HT8 HPBZ HPBN
            clear htq h8
            go_wp2_with fail
            refine (HT8.out _).mono ?_
            rintro e w7 ⟨rfl, m7, rfl⟩
            have HPX7 : Hid (Blk (wk.drewN m7) PB 36 #[.int .i64 (n0 : Int), .int .i64 (n1 : Int), .int .i64 (n2' : Int), .int .i64 (n3 : Int)]) := HPX.out.drewN m7
            have HBA7 : Hid (Below w5.heap.size w5 (wk.drewN m7)) := below_drewN HBA.out m7
            clear y3 HPX HBA HT8
            generalize wk.drewN m7 = wj at *
            have HPX := HPX7
            have HBA := HBA7
            clear HPX7 HBA7
            by_cases hq0 : tq = 0
            · have eq0 : (tq == 0) = true := by rw [hq0]; rfl
              have HPB := Lib.hid (HPBZ.out hq0)
              clear hq0 HPBZ HPBN
              have hPW : w5.heap.size ≤ PB := HPW.out
              have y0 : wj.cell? ⟨PB, 0, none⟩ = some (.int .i64 (n0 : Int)) := HPX.out.cell 0
              have y1 : wj.cell? ⟨PB, 1, none⟩ = some (.int .i64 (n1 : Int)) := HPX.out.cell 1
              have y2 : wj.cell? ⟨PB, 2, none⟩ = some (.int .i64 (n2' : Int)) := HPX.out.cell 2
              have y3 : wj.cell? ⟨PB, 3, none⟩ = some (.int .i64 (n3 : Int)) := HPX.out.cell 3
              have z0 := HPX.out.frozen 0
              have z1 := HPX.out.frozen 1
              have z2 := HPX.out.frozen 2
              have z3 := HPX.out.frozen 3
              have HPX8 : Hid (Blk ((((wj.setCell ⟨PB, 0, none⟩ (.int .i64 0)).setCell ⟨PB, 1, none⟩ (.int .i64 0)).setCell ⟨PB, 2, none⟩ (.int .i64 0)).setCell ⟨PB, 3, none⟩ (.int .i64 0)) PB 36 #[.int .i64 0, .int .i64 0, .int .i64 0, .int .i64 0]) := (((HPX.out.put 0 _).put 1 _).put 2 _).put 3 _
              have HBA8 : Hid (Below w5.heap.size w5 ((((wj.setCell ⟨PB, 0, none⟩ (.int .i64 0)).setCell ⟨PB, 1, none⟩ (.int .i64 0)).setCell ⟨PB, 2, none⟩ (.int .i64 0)).setCell ⟨PB, 3, none⟩ (.int .i64 0))) := below_put (below_put (below_put (below_put HBA.out (p := ⟨PB, 0, none⟩) hPW _) (p := ⟨PB, 1, none⟩) hPW _) (p := ⟨PB, 2, none⟩) hPW _) (p := ⟨PB, 3, none⟩) hPW _
              go_upto_region 27 with fail
              clear y0 y1 y2 y3 z0 z1 z2 z3 HPX HBA
              generalize ((((wj.setCell ⟨PB, 0, none⟩ (.int .i64 0)).setCell ⟨PB, 1, none⟩ (.int .i64 0)).setCell ⟨PB, 2, none⟩ (.int .i64 0)).setCell ⟨PB, 3, none⟩ (.int .i64 0)) = wq at *
              have HPX := HPX8
              have HBA := HBA8
              have hS0 : Hid (∀ w, Calls Tryd.prog 21 #[.int .i64 (0 : Int), .int .i64 (D : Int)] w fun e w' => e = .returned (.string ⟨(smB D (0 : Int)).toArray⟩) ∧ Below w.heap.size w w') := fun w => rsample_any 0 D hD (by omega) w
              obtain ⟨t0, ht0, ht0s⟩ : ∃ t : ByteArray, t = ⟨(smB D (0 : Int)).toArray⟩ ∧ t.size ≤ 2 := ⟨_, rfl, by rw [ba_len]; exact smB_len _ _⟩
              rw [← ht0] at hS0
              have HT : Hid (t0.data.toList ++ t0.data.toList ++ t0.data.toList ++ t0.data.toList = pxB D ((n0 : Int), (n1 : Int), (n2' : Int), (n3 : Int))) := by show _ = _; rw [ht0, HPB.out]
              clear ht0
              obtain ⟨K0, hK0⟩ : ∃ K0, K0 = wq.heap.size := ⟨_, rfl⟩
              have HK0 : Hid (K0 ≤ wq.heap.size) := by show _ ≤ _; omega
              have hPK : PB < K0 := by rw [hK0]; exact HPX.out.lt
              have HBK : Hid (Below w5.heap.size w5 wq ∧ w5.heap.size ≤ K0) := ⟨HBA.out, by rw [hK0]; exact HBA.out.size⟩
              clear hK0
              have c0 : ∀ u : BW K0 wq, u.w.cell? ⟨PB, 0, none⟩ = some (.int .i64 (0 : Int)) := fun u => (u.b.cell (p := ⟨PB, 0, none⟩) hPK).trans (HPX.out.cell 0)
              have c1 : ∀ u : BW K0 wq, u.w.cell? ⟨PB, 1, none⟩ = some (.int .i64 (0 : Int)) := fun u => (u.b.cell (p := ⟨PB, 1, none⟩) hPK).trans (HPX.out.cell 1)
              have c2 : ∀ u : BW K0 wq, u.w.cell? ⟨PB, 2, none⟩ = some (.int .i64 (0 : Int)) := fun u => (u.b.cell (p := ⟨PB, 2, none⟩) hPK).trans (HPX.out.cell 2)
              have c3 : ∀ u : BW K0 wq, u.w.cell? ⟨PB, 3, none⟩ = some (.int .i64 (0 : Int)) := fun u => (u.b.cell (p := ⟨PB, 3, none⟩) hPK).trans (HPX.out.cell 3)
              go_upto_region 27 with fail
              refine wp_region_bw K0 wq (Below.refl _ _) (by kernel_rfl) (by kernel_rfl) ?_
              repeat (go_big_quiet_step (first | (go_at_call_of 21 (Value.int .i64 (0 : Int)); exact calls_bw HK0.out (hS0.out _))))
              refine wpQuiet_nil ?_
              rintro _ ⟨u, rfl⟩
              have hb6 : Below w5.heap.size w5 u.w := HBK.out.1.trans (u.b.mono HBK.out.2)
              generalize u.w = w6 at *
              clear c0 c1 c2 c3
              have HB6 := Lib.hid hb6
              clear hb6
              go_wp2_with fail
              refine ⟨⟨k + 1, _, rfl, by go_num, by omega, ?_, ?_, HB6⟩, by simp [intOf]; omega⟩
              · show _ = _
                rw [HTK.out, ← HT.out]
                simp [ByteArray.data_append, hs2.out]
              · simp [ByteArray.size_append]
                omega
            · have eq0 : (tq == 0) = false := by simpa using hq0
              have HPB := Lib.hid (HPBN.out hq0)
              clear hq0 HPBZ HPBN
              go_upto_region 27 with fail
              have hS0 : Hid (∀ w, Calls Tryd.prog 21 #[.int .i64 (n0 : Int), .int .i64 (D : Int)] w fun e w' => e = .returned (.string ⟨(smB D (n0 : Int)).toArray⟩) ∧ Below w.heap.size w w') := fun w => rsample_any n0 D hD (by omega) w
              have hS1 : Hid (∀ w, Calls Tryd.prog 21 #[.int .i64 (n1 : Int), .int .i64 (D : Int)] w fun e w' => e = .returned (.string ⟨(smB D (n1 : Int)).toArray⟩) ∧ Below w.heap.size w w') := fun w => rsample_any n1 D hD (by omega) w
              have hS2 : Hid (∀ w, Calls Tryd.prog 21 #[.int .i64 (n2' : Int), .int .i64 (D : Int)] w fun e w' => e = .returned (.string ⟨(smB D (n2' : Int)).toArray⟩) ∧ Below w.heap.size w w') := fun w => rsample_any n2' D hD (by omega) w
              have hS3 : Hid (∀ w, Calls Tryd.prog 21 #[.int .i64 (n3 : Int), .int .i64 (D : Int)] w fun e w' => e = .returned (.string ⟨(smB D (n3 : Int)).toArray⟩) ∧ Below w.heap.size w w') := fun w => rsample_any n3 D hD (by omega) w
              obtain ⟨t0, ht0, ht0s⟩ : ∃ t : ByteArray, t = ⟨(smB D (n0 : Int)).toArray⟩ ∧ t.size ≤ 2 := ⟨_, rfl, by rw [ba_len]; exact smB_len _ _⟩
              rw [← ht0] at hS0
              obtain ⟨t1, ht1, ht1s⟩ : ∃ t : ByteArray, t = ⟨(smB D (n1 : Int)).toArray⟩ ∧ t.size ≤ 2 := ⟨_, rfl, by rw [ba_len]; exact smB_len _ _⟩
              rw [← ht1] at hS1
              obtain ⟨t2, ht2, ht2s⟩ : ∃ t : ByteArray, t = ⟨(smB D (n2' : Int)).toArray⟩ ∧ t.size ≤ 2 := ⟨_, rfl, by rw [ba_len]; exact smB_len _ _⟩
              rw [← ht2] at hS2
              obtain ⟨t3, ht3, ht3s⟩ : ∃ t : ByteArray, t = ⟨(smB D (n3 : Int)).toArray⟩ ∧ t.size ≤ 2 := ⟨_, rfl, by rw [ba_len]; exact smB_len _ _⟩
              rw [← ht3] at hS3
              have HT : Hid (t0.data.toList ++ t1.data.toList ++ t2.data.toList ++ t3.data.toList = pxB D ((n0 : Int), (n1 : Int), (n2' : Int), (n3 : Int))) := by show _ = _; rw [ht0, ht1, ht2, ht3, HPB.out]
              clear ht0 ht1 ht2 ht3
              obtain ⟨K0, hK0⟩ : ∃ K0, K0 = wj.heap.size := ⟨_, rfl⟩
              have HK0 : Hid (K0 ≤ wj.heap.size) := by show _ ≤ _; omega
              have hPK : PB < K0 := by rw [hK0]; exact HPX.out.lt
              have HBK : Hid (Below w5.heap.size w5 wj ∧ w5.heap.size ≤ K0) := ⟨HBA.out, by rw [hK0]; exact HBA.out.size⟩
              clear hK0
              have c0 : ∀ u : BW K0 wj, u.w.cell? ⟨PB, 0, none⟩ = some (.int .i64 (n0 : Int)) := fun u => (u.b.cell (p := ⟨PB, 0, none⟩) hPK).trans (HPX.out.cell 0)
              have c1 : ∀ u : BW K0 wj, u.w.cell? ⟨PB, 1, none⟩ = some (.int .i64 (n1 : Int)) := fun u => (u.b.cell (p := ⟨PB, 1, none⟩) hPK).trans (HPX.out.cell 1)
              have c2 : ∀ u : BW K0 wj, u.w.cell? ⟨PB, 2, none⟩ = some (.int .i64 (n2' : Int)) := fun u => (u.b.cell (p := ⟨PB, 2, none⟩) hPK).trans (HPX.out.cell 2)
              have c3 : ∀ u : BW K0 wj, u.w.cell? ⟨PB, 3, none⟩ = some (.int .i64 (n3 : Int)) := fun u => (u.b.cell (p := ⟨PB, 3, none⟩) hPK).trans (HPX.out.cell 3)
              go_upto_region 27 with fail
              refine wp_region_bw K0 wj (Below.refl _ _) (by kernel_rfl) (by kernel_rfl) ?_
              repeat (go_big_quiet_step (first | (go_at_call_of 21 (Value.int .i64 (n0 : Int)); exact calls_bw HK0.out (hS0.out _)) | (go_at_call_of 21 (Value.int .i64 (n1 : Int)); exact calls_bw HK0.out (hS1.out _)) | (go_at_call_of 21 (Value.int .i64 (n2' : Int)); exact calls_bw HK0.out (hS2.out _)) | (go_at_call_of 21 (Value.int .i64 (n3 : Int)); exact calls_bw HK0.out (hS3.out _))))
              refine wpQuiet_nil ?_
              rintro _ ⟨u, rfl⟩
              have hb6 : Below w5.heap.size w5 u.w := HBK.out.1.trans (u.b.mono HBK.out.2)
              generalize u.w = w6 at *
              clear c0 c1 c2 c3
              have HB6 := Lib.hid hb6
              clear hb6
              go_wp2_with fail
              refine ⟨⟨k + 1, _, rfl, by go_num, by omega, ?_, ?_, HB6⟩, by simp [intOf]; omega⟩
              · show _ = _
                rw [HTK.out, ← HT.out]
                simp [ByteArray.data_append, hs2.out]
              · simp [ByteArray.size_append]
                omega
          · have dlt : decide ((k : Int) < (px.length : Int)) = false := by simp; omega
            have HS2 : Hid (s2.data.toList = fileB W H D ms px) := by show _ = _; rw [HFL.out]; have := hs2.out; rwa [List.take_of_length_le (by omega)] at this
            have HBW : Hid (Below B w wr) := HB5.out.trans (hbw.out.mono (by have := HH5.out.lt; omega))
            have HSL : Hid ((fileB W H D ms px).length = s2.size) := by show _ = _; rw [← HS2.out, ba_size]
            by_cases hbig : 1048576 < s2.size
            · exact absurd hbig (by omega)
            · have db : decide ((1048576 : Int) < (s2.size : Int)) = false := by simp; omega
              have HF : Hid (encP W H px D ms = .ok (fileB W H D ms px)) := by show _ = _; rw [HE3.out, if_neg (by rw [HSL.out]; exact hbig)]
              go_wp2_with fail
              refine bodyPost_ret (v := .tuple #[.string s2, .int .i64 0]) (by simp [results, Tryd.f7, go_sem]) rfl ⟨?_, by rw [HB.out]; exact HBW.out⟩
              rw [HF.out, ← HS2.out]; rfl
end Go.Proofs.YtakkdgcmeeilbaaDoor
