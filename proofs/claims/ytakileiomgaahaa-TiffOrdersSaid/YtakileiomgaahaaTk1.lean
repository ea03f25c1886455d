/-
  The reference of tiff: Unpack.
-/
import Derived.Test.YtakileiomgaahaaTi7
import Derived.Test.YtakileiomgaahaaM7
import Derived.Deep.CutRange
namespace Go.Proofs.Ytakileiomgaahaa
open Go.RowKit

theorem repeatL_one (b : UInt8) (n : Nat) : Lib.repeatL [b] n = List.replicate n b := by
  induction n with
  | zero => rfl
  | succ n ih => rw [List.replicate_succ, ← ih]; rfl
theorem repeatL_once (l : List UInt8) : Lib.repeatL l 1 = l := by simp [Lib.repeatL]
/-- What a piece gives, byte by byte. -/
theorem pcB_get (h : UInt8) (t : List UInt8) (h5 : ¬ t.length < pcN h) (k : Nat) (hk : k < pcS h) : (pcB h t)[k]? = some (t.getD (if 128 < h.toNat then 0 else k) 0) := by
  unfold pcB
  unfold pcS at hk ⊢
  unfold pcN at h5 ⊢
  by_cases hb : 128 < h.toNat
  · simp only [if_pos hb] at h5 hk ⊢
    cases t with
    | nil => simp at h5
    | cons b t =>
      simp only [List.take_succ_cons, List.take_zero]
      rw [Nat.div_one, repeatL_one, List.getElem?_replicate, if_pos hk]
      simp
  · simp only [if_neg hb] at h5 hk ⊢
    rw [Nat.div_self (by omega), repeatL_once, List.getElem?_take, if_pos hk, List.getElem?_eq_getElem (by omega)]
    simp [List.getD_eq_getElem?_getD, List.getElem?_eq_getElem (show k < t.length by omega)]

set_option maxHeartbeats 4000000 in
set_option maxRecDepth 100000 in
theorem runpack_any (s : ByteArray) (n : Int) (w : World) (hs : s.size ≤ 1000000000000000) : Calls Try.prog 11 #[.string s, .int .i64 n] w fun e w' => UnpOk (unpP s.data.toList n) e ∧ Below w.heap.size w w' := by
  by_cases hn : n < 0 ∨ 1048576 < n
  · have HF : Hid (unpP s.data.toList n = .error 2) := by show _ = _; unfold unpP; rw [if_pos hn]
    by_cases h0 : n < 0
    · have d0 : decide (n < 0) = true := by simp; omega
      go_enter Try.func11, Try.ntmps11
      go_wp2_with fail
      refine bodyPost_ret (v := .tuple #[.string ⟨#[]⟩, .int .i64 2]) (by simp [results, Try.f11, go_sem]) rfl ⟨?_, Below.refl _ _⟩
      rw [HF.out]; rfl
    · have d0 : decide (n < 0) = false := by simp; omega
      have d1 : decide (1048576 < n) = true := by simp; omega
      go_enter Try.func11, Try.ntmps11
      go_wp2_with fail
      refine bodyPost_ret (v := .tuple #[.string ⟨#[]⟩, .int .i64 2]) (by simp [results, Try.f11, go_sem]) rfl ⟨?_, Below.refl _ _⟩
      rw [HF.out]; rfl
  · obtain ⟨N, rfl⟩ : ∃ N : Nat, n = (N : Int) := ⟨n.toNat, by omega⟩
    have hN : N ≤ 1048576 := by omega
    have HU : Hid (unpP s.data.toList (N : Int) = unpG N s.data.toList []) := by show _ = _; unfold unpP; rw [if_neg hn]; rfl
    have d0 : decide ((N : Int) < 0) = false := by simp
    have d1 : decide ((1048576 : Int) < (N : Int)) = false := by simp; omega
    obtain ⟨res, hres⟩ : ∃ r, unpP s.data.toList (N : Int) = r := ⟨_, rfl⟩
    rw [hres] at HU ⊢
    clear hn hres
    have HSZ : Hid (s.data.toList.length = s.size) := ba_size s
    generalize hB : w.heap.size = B at *
    have HB := Lib.hid hB
    clear hB
    go_enter Try.func11, Try.ntmps11
    go_upto_region 3 with fail
    clear d0 d1
    go_wp2_with fail
    go_loopw [7, 6] (fun va vo wr => ∃ (a : Nat) (out : List UInt8), va = .int .i64 a ∧ a ≤ s.size ∧ Hid (BRow wr B 5 vo out) ∧ Hid (unpG N (s.data.toList.drop a) out = res) ∧ out.length ≤ N ∧ Hid (Below B w wr) ∧ B ≤ wr.heap.size) (fun va _ _ => s.size - (intOf va).toNat)
    case atStart => exact ⟨0, [], rfl, Nat.zero_le _, World.ownsRow_nil _ _ _ _, HU.out.symm, Nat.zero_le _, Below.refl _ _, by rw [← HB.out]; exact Nat.le_refl _⟩
    case round =>
      obtain ⟨a, out, rfl, ha, hrow, hun, hol, hbw, hszr⟩ := hrel
      obtain ⟨xo, co, rfl⟩ := brow_shape hrow.out
      by_cases hlt : out.length < N
      · have dlt : decide ((out.length : Int) < (N : Int)) = true := by simp; omega
        by_cases h0 : s.size ≤ a
        · have hln : s.data.toList.drop a = [] := List.drop_of_length_le (by rw [HSZ.out]; exact h0)
          have e1 : decide ((s.size : Int) ≤ (a : Int)) = true := by simp; omega
          have HF : Hid (res = .error 5) := by show _ = _; rw [← hun.out, hln, unpG_nil hlt]
          clear hln
          go_wp2_with fail
          refine bodyPost_ret (v := .tuple #[.string ⟨#[]⟩, .int .i64 5]) (by simp [results, Try.f11, go_sem]) rfl ⟨?_, hbw.out⟩
          rw [HF.out]; rfl
        · have has : a < s.size := by omega
          have e1 : decide ((s.size : Int) ≤ (a : Int)) = false := by simp; omega
          have hda := drop_at s a has
          obtain ⟨h, hh⟩ : ∃ h, s[a] = h := ⟨_, rfl⟩
          rw [hh] at hda
          have HUT : Hid (unpG N (h :: s.data.toList.drop (a + 1)) out = res) := by show _ = _; rw [← hun.out, hda]
          have h256 := h.toNat_lt
          obtain ⟨hv, hhv⟩ : ∃ hv, h.toNat = hv := ⟨_, rfl⟩
          have hr0 : (s[a]).toNat = hv := by rw [hh]; exact hhv
          have HHV := Lib.hid hhv
          rw [hhv] at h256
          have HR0 : Hid (wrap64 ((s[a]).toNat : Int) = (hv : Int)) := by show _ = _; rw [wrap64_byte', hr0]
          obtain ⟨a1, ha1⟩ : ∃ a1, a + 1 = a1 := ⟨_, rfl⟩
          rw [ha1] at HUT
          have m1 : (a : Int) + 1 = (a1 : Int) := by omega
          have ha1s : a1 ≤ s.size := by omega
          clear hda hh hhv hr0 h0 hun
          have i0 : (a : Int) < (s.size : Int) := by omega
          go_upto_region 8 with fail
          go_cut [8] (fun v8 wx => v8 = .int .i64 (hv : Nat) ∧ wx = wr)
          case first =>
            go_wp2_with fail
            go_meet
            case rel => exact ⟨by rw [HR0.out], rfl⟩
          case rest =>
            obtain ⟨rfl, hwc⟩ := hcut
            have hwc2 := hwc.symm
            subst hwc2
            clear hwc HR0
            by_cases h128 : hv = 128
            · have e2 : ((hv : Int) == 128) = true := by rw [h128]; rfl
              have HU2 : Hid (unpG N (s.data.toList.drop a1) out = res) := by show _ = _; rw [← HUT.out, unpG_skip hlt (by rw [HHV.out]; exact h128)]
              clear h128
              go_wp2_with fail
              go_roundw
              case rel => exact ⟨a1, out, rfl, ha1s, hrow.out, HU2.out, hol, hbw.out, hszr⟩
              case measure => simp [intOf]; omega
            · have e2 : ((hv : Int) == 128) = false := by rw [beq_eq_false_iff_ne]; intro hx; exact h128 (Int.ofNat.inj hx)
              have H128 := Lib.hid h128
              clear h128
              go_upto_if 39 with fail
              go_cut [9, 10] (fun v9 v10 wx => v9 = .int .i64 (pcS h : Nat) ∧ v10 = .int .i64 (pcN h : Nat) ∧ wx = wr)
              case first =>
                by_cases hb : 128 < hv
                · have db : decide ((128 : Int) < (hv : Int)) = true := by simp; omega
                  obtain ⟨q, hq⟩ : ∃ q : Nat, q = 257 - hv := ⟨_, rfl⟩
                  have hqi : (257 : Int) - (hv : Int) = (q : Int) := by omega
                  have HPN : Hid (pcN h = 1) := by show _ = _; unfold pcN; rw [HHV.out, if_pos hb]
                  have HPS : Hid (pcS h = q) := by show _ = _; unfold pcS; rw [HHV.out, if_pos hb, hq]
                  clear hq
                  go_wp2_with fail
                  go_meet
                  case rel => exact ⟨by rw [HPS.out], by rw [HPN.out]; rfl, rfl⟩
                · have db : decide ((128 : Int) < (hv : Int)) = false := by simp; omega
                  have HPN : Hid (pcN h = hv + 1) := by show _ = _; unfold pcN; rw [HHV.out, if_neg hb]
                  have HPS : Hid (pcS h = hv + 1) := by show _ = _; unfold pcS; rw [HHV.out, if_neg hb]
                  go_wp2_with fail
                  go_meet
                  case rel => exact ⟨by rw [HPS.out]; rfl, by rw [HPN.out]; rfl, rfl⟩
              case rest =>
                obtain ⟨rfl, rfl, hwc⟩ := hcut
                have hwc2 := hwc.symm
                subst hwc2
                clear hwc m1
                have HNS := Lib.hid (pcN_S h)
                obtain ⟨pn, hpn⟩ : ∃ pn, pcN h = pn := ⟨_, rfl⟩
                obtain ⟨ps, hps⟩ : ∃ ps, pcS h = ps := ⟨_, rfl⟩
                rw [hpn, hps]
                rw [hpn, hps] at HNS
                have HPN := Lib.hid hpn
                have HPS := Lib.hid hps
                have hpn1 := HNS.out.1
                have hps1 := HNS.out.2.2.1
                have hpn2 := HNS.out.2.1
                clear hpn hps
                have HTL : Hid ((s.data.toList.drop a1).length = s.size - a1) := by show _ = _; rw [List.length_drop, HSZ.out]
                by_cases h4 : N - out.length < ps
                · have d4 : decide ((N : Int) - (out.length : Int) < (ps : Int)) = true := by simp; omega
                  have HF : Hid (res = .error 4) := by show _ = _; rw [← HUT.out, unpG_form hlt (by rw [HHV.out]; exact H128.out) (by rw [HPS.out]; exact h4)]
                  go_wp2_with fail
                  refine bodyPost_ret (v := .tuple #[.string ⟨#[]⟩, .int .i64 4]) (by simp [results, Try.f11, go_sem]) rfl ⟨?_, hbw.out⟩
                  rw [HF.out]; rfl
                · have d4 : decide ((N : Int) - (out.length : Int) < (ps : Int)) = false := by simp; omega
                  by_cases h5 : s.size - a1 < pn
                  · have d5 : decide ((s.size : Int) - (a1 : Int) < (pn : Int)) = true := by simp; omega
                    have HF : Hid (res = .error 5) := by show _ = _; rw [← HUT.out, unpG_short hlt (by rw [HHV.out]; exact H128.out) (by rw [HPS.out]; exact h4) (by rw [HPN.out, HTL.out]; exact h5)]
                    go_wp2_with fail
                    refine bodyPost_ret (v := .tuple #[.string ⟨#[]⟩, .int .i64 5]) (by simp [results, Try.f11, go_sem]) rfl ⟨?_, hbw.out⟩
                    rw [HF.out]; rfl
                  · have d5 : decide ((s.size : Int) - (a1 : Int) < (pn : Int)) = false := by simp; omega
                    have HUS : Hid (unpG N ((s.data.toList.drop a1).drop pn) (out ++ pcB h (s.data.toList.drop a1)) = res) := by
                      show _ = _
                      rw [← HUT.out, unpG_step hlt (by rw [HHV.out]; exact H128.out) (by rw [HPS.out]; exact h4) (by rw [HPN.out, HTL.out]; exact h5), HPN.out]
                    have HGET : Hid (∀ k, k < ps → (pcB h (s.data.toList.drop a1))[k]? = some ((s.data.toList.drop a1).getD (if 128 < hv then 0 else k) 0)) := fun k hk => by
                      have := pcB_get h (s.data.toList.drop a1) (by rw [HPN.out, HTL.out]; exact h5) k (by rw [HPS.out]; exact hk)
                      rw [HHV.out] at this
                      exact this
                    have HPL : Hid ((pcB h (s.data.toList.drop a1)).length = ps) := by show _ = _; rw [pcB_len h _ (by rw [HPN.out, HTL.out]; exact h5), HPS.out]
                    have HPNV : Hid ((128 < hv → pn = 1 ∧ ps = 257 - hv) ∧ (¬ 128 < hv → pn = hv + 1 ∧ ps = hv + 1)) := by
                      have e1 := HPN.out
                      have e2 := HPS.out
                      unfold pcN at e1
                      unfold pcS at e2
                      rw [HHV.out] at e1 e2
                      refine ⟨fun hb => ?_, fun hb => ?_⟩
                      · rw [if_pos hb] at e1 e2; exact ⟨e1.symm, e2.symm⟩
                      · rw [if_neg hb] at e1 e2; exact ⟨e1.symm, e2.symm⟩
                    have hroom : a1 + pn ≤ s.size := by omega
                    have hol2 : out.length + ps ≤ N := by omega
                    obtain ⟨pb, hpb⟩ : ∃ pb, pcB h (s.data.toList.drop a1) = pb := ⟨_, rfl⟩
                    rw [hpb] at HUS HGET HPL
                    clear hpb HUT H128 h4 h5 HNS HTL
                    go_upto_region 18 with fail
                    clear d4 d5
                    go_wp2_with fail
                    go_loopw [11, 6] (fun vk vo wq => ∃ k : Nat, vk = .int .i64 k ∧ k ≤ ps ∧ Hid (BRow wq B 5 vo (out ++ pb.take k)) ∧ Hid (Below B w wq) ∧ B ≤ wq.heap.size) (fun vk _ _ => ps - (intOf vk).toNat)
                    case atStart => exact ⟨0, rfl, Nat.zero_le _, by show BRow _ _ _ _ _; rw [List.take_zero, List.append_nil]; exact hrow.out, hbw.out, hszr⟩
                    case round =>
                      clear hrow hbw hszr
                      obtain ⟨k, rfl, hk, hrow, hbw, hszr⟩ := hrel
                      have hlk : (out ++ pb.take k).length = out.length + k := by rw [List.length_append, List.length_take, HPL.out, Nat.min_eq_left hk]
                      obtain ⟨acc, hacc⟩ : ∃ acc, out ++ pb.take k = acc := ⟨_, rfl⟩
                      rw [hacc] at hrow hlk
                      have HACC := Lib.hid hacc
                      have HLK := Lib.hid hlk
                      have hacl : acc.length ≤ N := by omega
                      obtain ⟨xk, ck, rfl⟩ := brow_shape hrow.out
                      have hrow1 := hrow.out
                      clear hacc hlk
                      by_cases hlt2 : k < ps
                      · have dk : decide ((k : Int) < (ps : Int)) = true := by simp; omega
                        have hg := HGET.out k hlt2
                        by_cases hb : 128 < hv
                        · have db : decide ((128 : Int) < (hv : Int)) = true := by simp; omega
                          rw [if_pos hb] at hg
                          have ha1' : a1 < s.size := by have := (HPNV.out.1 hb).1; omega
                          have hbyte : (s.data.toList.drop a1).getD 0 0 = s[a1] := by
                            rw [byte_at s a1 ha1', List.getD_eq_getElem?_getD, List.getD_eq_getElem?_getD, List.getElem?_drop, Nat.add_zero]
                          rw [hbyte] at hg
                          obtain ⟨b0, hb0⟩ : ∃ b, s[a1] = b := ⟨_, rfl⟩
                          rw [hb0] at hg
                          have HTK : Hid (out ++ pb.take (k + 1) = acc ++ [b0]) := by
                            show _ = _
                            rw [List.take_add_one, hg, ← HACC.out, List.append_assoc]; rfl
                          clear hg hbyte hb
                          go_wp2_with (at_builtin; refine wpList_app el_u8 hrow1 hszr rfl rfl rfl (m := 0) rfl (by simp [Value.oneCell']) rfl (by omega) (by unfold maxLen; omega) ?_)
                          intro r2 cap2 w4 ho2 hg2 _
                          have hown2 := brow_more ho2 [b0] (by simp [bcells]) rfl
                          obtain ⟨hbel2, hsz2⟩ := below_app hbw.out hszr hrow1 hg2
                          have HO2 := Lib.hid hown2
                          have HBE2 := Lib.hid hbel2
                          clear ho2 hg2 hown2 hbel2 hrow1 hrow hbw
                          go_wp2_with fail
                          go_roundw
                          case rel => exact ⟨k + 1, by go_num, by omega, by show BRow _ _ _ _ _; rw [HTK.out]; exact HO2.out, HBE2.out, hsz2⟩
                          case measure => simp [intOf]; omega
                        · have db : decide ((128 : Int) < (hv : Int)) = false := by simp; omega
                          rw [if_neg hb] at hg
                          have hpn : pn = ps := by have := HPNV.out.2 hb; omega
                          have hak : a1 + k < s.size := by omega
                          obtain ⟨ak, hake⟩ : ∃ ak, a1 + k = ak := ⟨_, rfl⟩
                          have m2 : (a1 : Int) + (k : Int) = (ak : Int) := by omega
                          rw [hake] at hak
                          have hbyte : (s.data.toList.drop a1).getD k 0 = s[ak] := by
                            rw [byte_at s ak hak, List.getD_eq_getElem?_getD, List.getD_eq_getElem?_getD, List.getElem?_drop, hake]
                          rw [hbyte] at hg
                          obtain ⟨b0, hb0⟩ : ∃ b, s[ak] = b := ⟨_, rfl⟩
                          rw [hb0] at hg
                          have HTK : Hid (out ++ pb.take (k + 1) = acc ++ [b0]) := by
                            show _ = _
                            rw [List.take_add_one, hg, ← HACC.out, List.append_assoc]; rfl
                          clear hg hbyte hb hpn hake
                          go_wp2_with (at_builtin; refine wpList_app el_u8 hrow1 hszr rfl rfl rfl (m := 0) rfl (by simp [Value.oneCell']) rfl (by omega) (by unfold maxLen; omega) ?_)
                          intro r2 cap2 w4 ho2 hg2 _
                          have hown2 := brow_more ho2 [b0] (by simp [bcells]) rfl
                          obtain ⟨hbel2, hsz2⟩ := below_app hbw.out hszr hrow1 hg2
                          have HO2 := Lib.hid hown2
                          have HBE2 := Lib.hid hbel2
                          clear ho2 hg2 hown2 hbel2 hrow1 hrow hbw
                          go_wp2_with fail
                          go_roundw
                          case rel => exact ⟨k + 1, by go_num, by omega, by show BRow _ _ _ _ _; rw [HTK.out]; exact HO2.out, HBE2.out, hsz2⟩
                          case measure => simp [intOf]; omega
                      · have dk : decide ((k : Int) < (ps : Int)) = false := by simp; omega
                        have hks : k = ps := by omega
                        have HAF : Hid (acc = out ++ pb) := by show _ = _; rw [← HACC.out, List.take_of_length_le (by rw [HPL.out]; omega)]
                        obtain ⟨a2, ha2⟩ : ∃ a2, a1 + pn = a2 := ⟨_, rfl⟩
                        have m3 : (a1 : Int) + (pn : Int) = (a2 : Int) := by omega
                        have HUS2 : Hid (unpG N (s.data.toList.drop a2) acc = res) := by show _ = _; rw [HAF.out, ← HUS.out, List.drop_drop, ha2]
                        clear hks
                        go_wp2_with fail
                        go_roundw
                        case rel => exact ⟨a2, acc, rfl, by omega, hrow.out, HUS2.out, by omega, hbw.out, hszr⟩
                        case measure => simp [intOf]; omega
      · have dlt : decide ((out.length : Int) < (N : Int)) = false := by simp; omega
        by_cases h0 : a < s.size
        · have e1 : decide ((a : Int) < (s.size : Int)) = true := by simp; omega
          have HF : Hid (res = .error 6) := by
            show _ = _
            rw [← hun.out, unpG_more hlt (fun h => by have := congrArg List.length h; rw [List.length_drop, HSZ.out, List.length_nil] at this; omega)]
          go_wp2_with fail
          refine bodyPost_ret (v := .tuple #[.string ⟨#[]⟩, .int .i64 6]) (by simp [results, Try.f11, go_sem]) rfl ⟨?_, hbw.out⟩
          rw [HF.out]; rfl
        · have e1 : decide ((a : Int) < (s.size : Int)) = false := by simp; omega
          have HF : Hid (res = .ok out) := by
            show _ = _
            rw [← hun.out, List.drop_of_length_le (by rw [HSZ.out]; omega), unpG_done hlt]
          have hst := run_str_of Try.underlying54 Try.underlying5 Try.underlying9 hrow.out
          go_wp2_with fail
          refine bodyPost_ret (v := .tuple #[.string ⟨out.toArray⟩, .int .i64 0]) (by simp [results, Try.f11, go_sem]) rfl ⟨?_, hbw.out⟩
          rw [HF.out]; rfl
end Go.Proofs.Ytakileiomgaahaa
