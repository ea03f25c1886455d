/-
  Walk, in the reference of png: Join.
-/
import Derived.Test.YthbejefodelpkaaGreatZV4
import Derived.Test.YthbejefodelpkaaGreatZG7
import Derived.Test.YthbejefodelpkaaGreatZJ
namespace Go.Proofs.YthbejefodelpkaaGreat
open Go.RowKit
set_option maxRecDepth 100000

theorem jErr_len {l : List Mt} (h : jErr l = 0) : ∀ k (hk : k < l.length), l[k].2.length ≤ 1048576 := by
  have key : ∀ m : List Mt, jErr m = 0 → ∀ c ∈ m, c.2.length ≤ 1048576 := by
    intro m
    induction m with
    | nil => intro _ c hc; cases hc
    | cons a r ih =>
      intro h c hc
      unfold jErr at h
      split at h; · cases h
      split at h; · cases h
      rcases List.mem_cons.1 hc with rfl | hc
      · omega
      · exact ih h c hc
  intro k hk
  exact key l h _ (List.getElem_mem hk)

set_option maxHeartbeats 8000000 in
theorem vjoin_any (v : Value) (l : List Mt) (w : World) (hr : MRow w v l) (hl : l.length ≤ 10000000) (hsz : (l.flatMap ckB).length ≤ 100000000) : Calls Tryz.prog 17 #[v] w fun e w' => JoOk (joinP l) e ∧ Below w.heap.size w w' := by
  have HSR := Lib.hid hr
  obtain ⟨x, c, rfl, hc1, hc2, -⟩ := hr
  unfold maxLen at hc2
  have HSZ : Hid (∀ k (h : k < l.length), ((l.take k).flatMap ckB).length + 8 + l[k].1.length + l[k].2.length ≤ 100000000) := by
    intro k h
    have h1 : ((l.take (k + 1)).flatMap ckB).length ≤ (l.flatMap ckB).length := by
      conv => rhs; rw [← List.take_append_drop (k + 1) l]
      rw [List.flatMap_append, List.length_append]; omega
    rw [ckB_take l k h, List.length_append, ckB_len] at h1
    omega
  have HED := Lib.hid (jErr_drop l)
  have HOD := Lib.hid (jOrd_drop l)
  clear hsz
  go_enter Tryz.func17, Tryz.ntmps17
  go_wp2_with fail
  go_loopw [4] (fun vi wr => ∃ i : Nat, vi = .int .i64 i ∧ i ≤ l.length ∧ Hid (jErr l = jErr (l.drop i)) ∧ Hid (w = wr)) (fun vi _ => l.length - (intOf vi).toNat)
  case atStart => exact ⟨0, rfl, Nat.zero_le _, rfl, rfl⟩
  case round =>
    obtain ⟨i, rfl, hi, hje, hwr⟩ := hrel
    have hwr' := hwr.out
    subst hwr'
    by_cases hlt : i < l.length
    · have hd : decide ((i : Int) < (l.length : Int)) = true := by simp; omega
      have i1 : (i : Int) < (l.length : Int) := by omega
      obtain ⟨bb, off, rfl, q1, q2⟩ := HSR.out.at i hlt
      have HE1 := Lib.hid (HED.out i hlt)
      have hsz := HSZ.out i hlt
      obtain ⟨c1, hc1'⟩ : ∃ m : Mt, l[i] = m := ⟨_, rfl⟩
      obtain ⟨nm, dt⟩ := c1
      rw [hc1'] at q1 q2 HE1 hsz
      simp only at q1 q2 HE1 hsz
      have HNA := Lib.hid (fun w => vletters_any (⟨nm.toArray⟩ : ByteArray) w (by unfold maxLen; simp [ByteArray.size]; omega))
      have hnl : (⟨nm.toArray⟩ : ByteArray).data.toList = nm := by simp
      rw [hnl] at HNA
      obtain ⟨nb, hnb⟩ : ∃ b, nameP nm = b := ⟨_, rfl⟩
      rw [hnb] at HNA HE1
      have hdl : (⟨dt.toArray⟩ : ByteArray).size = dt.length := by simp [ByteArray.size]
      have HJ := Lib.hid (hje.out.trans HE1.out)
      clear hnb hnl hje HE1 hc1'
      go_wp2_with fail
      refine (HNA.out _).mono ?_
      rintro e w1 ⟨rfl, hw⟩
      subst hw
      clear HNA
      cases nb with
      | false =>
        have HF : Hid (joinP l = .error 13) := by
          show _ = _
          unfold joinP
          rw [HJ.out, if_pos rfl]; rfl
        clear HJ q1 q2
        go_wp2_with fail
        go_ret2
        exact ⟨by rw [HF.out]; rfl, Below.refl _ _⟩
      | true =>
        have HJ2 : Hid (jErr l = if 1048576 < dt.length then 3 else jErr (l.drop (i + 1))) := by show _ = _; rw [HJ.out, if_neg (by decide)]
        clear HJ
        by_cases hbig : 1048576 < dt.length
        · have hdb : decide ((1048576 : Int) < (dt.length : Int)) = true := by simp; omega
          have HF : Hid (joinP l = .error 3) := by
            show _ = _
            unfold joinP
            rw [HJ2.out, if_pos hbig]; rfl
          clear HJ2
          go_wp2_with fail
          go_ret2
          exact ⟨by rw [HF.out]; rfl, Below.refl _ _⟩
        · have hdb : decide ((1048576 : Int) < (dt.length : Int)) = false := by simp; omega
          rw [if_neg hbig] at HJ2
          go_wp2_with fail
          go_roundw
          case rel => exact ⟨i + 1, by go_num, by omega, HJ2, by first | exact rfl | exact trivial⟩
          case measure => simp [intOf]; omega
    · have hd : decide ((i : Int) < (l.length : Int)) = false := by simp; omega
      have HJ0 : Hid (jErr l = 0) := by show _ = _; rw [hje.out, List.drop_of_length_le (by omega)]; rfl
      clear hje
      go_wp2_with fail
      go_loopw [5] (fun vi wx => ∃ i : Nat, vi = .int .i64 i ∧ i ≤ l.length ∧ Hid (jOrd l = jOrd (l.drop i)) ∧ Hid (w = wx)) (fun vi _ => l.length - (intOf vi).toNat)
      case atStart => exact ⟨0, rfl, Nat.zero_le _, rfl, rfl⟩
      case round =>
        obtain ⟨k, rfl, hk, hjo, hwx⟩ := hrel
        have hwx' := hwx.out
        subst hwx'
        by_cases hlk : k < l.length
        · have hdk : decide ((k : Int) < (l.length : Int)) = true := by simp; omega
          have i1 : (k : Int) < (l.length : Int) := by omega
          obtain ⟨bb, off, rfl, q1, q2⟩ := HSR.out.at k hlk
          have HO1 := Lib.hid (HOD.out k hlk)
          obtain ⟨c1, hc1'⟩ : ∃ m : Mt, l[k] = m := ⟨_, rfl⟩
          obtain ⟨nm, dt⟩ := c1
          rw [hc1'] at q1 q2 HO1
          simp only at q1 q2 HO1
          have HJ := Lib.hid (hjo.out.trans HO1.out)
          have hw1 : wrap64 ((l.length : Int) - 1) = (l.length : Int) - 1 := by unfold wrap64; omega
          obtain ⟨eb, heb⟩ : ∃ b, (nm == iendP) = b := ⟨_, rfl⟩
          obtain ⟨lb, hlb⟩ : ∃ b, decide (k + 1 = l.length) = b := ⟨_, rfl⟩
          have he2 : (nm == [73, 69, 78, 68]) = eb := heb
          have hl2 : ((k : Int) == (l.length : Int) - 1) = lb := by rw [← hlb]; apply Bool.eq_iff_iff.2; simp; omega
          rw [heb, hlb] at HJ
          clear heb hlb hc1' HO1 hjo
          cases hxx : (eb == lb) with
          | false =>
            have HF : Hid (joinP l = .error 24) := by
              show _ = _
              unfold joinP
              rw [HJ0.out, if_neg (by decide), if_pos (.inl (by rw [HJ.out, hxx]; rfl))]
            clear HJ
            go_wp2_with fail
            go_ret2
            exact ⟨by rw [HF.out]; rfl, Below.refl _ _⟩
          | true =>
            have HF : Hid (jOrd l = jOrd (l.drop (k + 1))) := by show _ = _; rw [HJ.out, hxx]; rfl
            clear HJ
            go_wp2_with fail
            go_roundw
            case rel => exact ⟨k + 1, by go_num, by omega, HF, by first | exact rfl | exact trivial⟩
            case measure => simp [intOf]; omega
        · have hdk : decide ((k : Int) < (l.length : Int)) = false := by simp; omega
          have HJ1 : Hid (jOrd l = true) := by show _ = _; rw [hjo.out, List.drop_of_length_le (by omega)]; rfl
          clear hjo
          by_cases hz : l.length = 0
          · have hz0 : ((l.length : Int) == 0) = true := by rw [hz]; rfl
            have HF : Hid (joinP l = .error 24) := by
              show _ = _
              unfold joinP
              rw [HJ0.out, if_neg (by decide), if_pos (.inr (List.length_eq_zero_iff.1 hz))]
            clear hz
            go_wp2_with fail
            go_ret2
            exact ⟨by rw [HF.out]; rfl, Below.refl _ _⟩
          · have hz0 : ((l.length : Int) == 0) = false := by simp; exact fun h => hz (by rw [h]; rfl)
            obtain ⟨n, hn⟩ : ∃ n, l.length = n + 1 := ⟨l.length - 1, by omega⟩
            have HNE : Hid (l ≠ []) := fun h => hz (by rw [h]; rfl)
            have hnl : n < l.length := by omega
            obtain ⟨bb, off, rfl, q1, q2⟩ := HSR.out.at n hnl
            have HLD : Hid (lastD l = l[n].2) := by
              show _ = _
              unfold lastD
              rw [List.getLast?_eq_getElem?, show l.length - 1 = n by omega, List.getElem?_eq_getElem hnl]; rfl
            obtain ⟨c1, hc1'⟩ : ∃ m : Mt, l[n] = m := ⟨_, rfl⟩
            obtain ⟨nm, dt⟩ := c1
            rw [hc1'] at q1 q2 HLD
            simp only at q1 q2 HLD
            have hw1 : wrap64 ((l.length : Int) - 1) = (n : Int) := by unfold wrap64; omega
            have hw2 : wrap64 (n : Int) = (n : Int) := by unfold wrap64; omega
            have hN := Lib.hid hn
            have hn0 : (0 : Int) ≤ (n : Int) := by omega
            have hn1 : (n : Int) < (l.length : Int) := by omega
            have hn2 : (l.length : Int) - 1 = (n : Int) := by omega
            clear hc1' hz hn
            by_cases hdt : dt = []
            · have hde : dt.isEmpty = true := by rw [hdt]; rfl
              have HF : Hid (joinP l = .ok (sigP ++ l.flatMap ckB)) := by
                show _ = _
                unfold joinP
                rw [HJ0.out, if_neg (by decide), if_neg (by rw [HJ1.out]; simp [HNE.out]), if_neg (by rw [HLD.out, hdt]; simp)]
              have HNM := Lib.hid (jErr_len HJ0.out)
              clear hdt
              go_wp2_with fail
              clear q1 q2 hw1 hw2 hn0 hn1 hn2 hde hz0
              go_loopw [6, 7] (fun vs vk wx => ∃ (k : Nat) (S : ByteArray), vs = .string S ∧ vk = .int .i64 k ∧ k ≤ l.length ∧ S.size ≤ 100000008 ∧ Hid (S.data.toList = sigP ++ (l.take k).flatMap ckB) ∧ Hid (Below w.heap.size w wx)) (fun _ vk _ => l.length - (intOf vk).toNat)
              case atStart => exact ⟨0, ⟨#[137, 80, 78, 71, 13, 10, 26, 10]⟩, rfl, rfl, Nat.zero_le _, by decide, rfl, Below.refl _ _⟩
              case round =>
                obtain ⟨k, S, rfl, rfl, hk, hS, hSd, hbx⟩ := hrel
                by_cases hlk : k < l.length
                · have hdk : decide ((k : Int) < (l.length : Int)) = true := by simp; omega
                  have i1 : (k : Int) < (l.length : Int) := by omega
                  have HR := Lib.hid (HSR.out.below hbx.out)
                  have hsz := HSZ.out k hlk
                  have hlen := HNM.out k hlk
                  have HTK := Lib.hid (ckB_take l k hlk)
                  obtain ⟨c1, hc1'⟩ : ∃ m : Mt, l[k] = m := ⟨_, rfl⟩
                  obtain ⟨nm, dt⟩ := c1
                  obtain ⟨NM, hNM⟩ : ∃ t : ByteArray, t = ⟨nm.toArray⟩ := ⟨_, rfl⟩
                  obtain ⟨DT, hDT⟩ : ∃ t : ByteArray, t = ⟨dt.toArray⟩ := ⟨_, rfl⟩
                  have HCE : Hid (∀ wx, Below wr.heap.size wr wx → wx.cell? ⟨bb, off + k * 2, none⟩ = some (.string NM) ∧ wx.cell? ⟨bb, off + k * 2 + 1, none⟩ = some (.string DT)) := fun wx hb => by
                    obtain ⟨b', o', hx', q1, q2⟩ := (HR.out.below hb).at k hlk
                    injection hx' with hx'
                    injection hx' with h1 h2 h3
                    subst h1 h2
                    rw [hc1'] at q1 q2
                    rw [hNM, hDT]
                    exact ⟨q1, q2⟩
                  rw [hc1'] at hsz hlen HTK
                  simp only at hsz hlen
                  have hNMs : NM.size = nm.length := by rw [hNM]; rfl
                  have hDTs : DT.size = dt.length := by rw [hDT]; rfl
                  have hNMd : NM.data.toList = nm := by rw [hNM]
                  have hDTd : DT.data.toList = dt := by rw [hDT]
                  rw [← hNMs, ← hDTs] at hsz
                  rw [← hDTs] at hlen
                  have HF1 := Lib.hid (fun w => vfour_any DT.size (by omega) w)
                  obtain ⟨T, hT⟩ : ∃ T, NM ++ DT = T := ⟨_, rfl⟩
                  have hTs : T.size = NM.size + DT.size := by rw [← hT, ByteArray.size_append]
                  have hTd : T.data.toList = nm ++ dt := by rw [← hT, ByteArray.data_append, Array.toList_append, hNMd, hDTd]
                  have HCR := Lib.hid (fun w => vcrc_any T w (by unfold maxLen; omega))
                  rw [hTd] at HCR
                  have hcl := crcP_lt (nm ++ dt)
                  obtain ⟨m2, hm2⟩ : ∃ m, crcP (nm ++ dt) = m := ⟨_, rfl⟩
                  rw [hm2] at HCR hcl
                  have HF2 := Lib.hid (fun w => vfour_any m2 hcl w)
                  obtain ⟨F1, hF1⟩ : ∃ t : ByteArray, (⟨(be4 DT.size).toArray⟩ : ByteArray) = t := ⟨_, rfl⟩
                  obtain ⟨F2, hF2⟩ : ∃ t : ByteArray, (⟨(be4 m2).toArray⟩ : ByteArray) = t := ⟨_, rfl⟩
                  rw [hF1] at HF1
                  rw [hF2] at HF2
                  have hF1s : F1.size = 4 := by rw [← hF1]; rfl
                  have hF2s : F2.size = 4 := by rw [← hF2]; rfl
                  have HSN : Hid ((S ++ ((F1 ++ T) ++ F2)).data.toList = sigP ++ (l.take (k + 1)).flatMap ckB) := by
                    show _ = _
                    rw [HTK.out, ByteArray.data_append, ByteArray.data_append, ByteArray.data_append, Array.toList_append, Array.toList_append, Array.toList_append, hSd.out, ← hF1, ← hF2, hTd]
                    unfold ckB
                    rw [hm2, hDTs]
                    simp
                  have hcv : IntKind.i64.wrap (m2 : Int) = (m2 : Int) := by rw [IntKind.wrap_i64]; omega
                  have hSz : (S ++ ((F1 ++ T) ++ F2)).size ≤ 100000008 := by
                    have h1 : (S ++ ((F1 ++ T) ++ F2)).size = (S ++ ((F1 ++ T) ++ F2)).data.toList.length := by simp; omega
                    rw [h1, HSN.out, List.length_append, HTK.out, List.length_append, ckB_len]
                    have h2 : sigP.length = 8 := rfl
                    simp only
                    omega
                  have HSZN := Lib.hid hSz
                  obtain ⟨K0, hK0⟩ : ∃ K0, K0 = wr.heap.size := ⟨_, rfl⟩
                  have HBU : Hid (∀ u : BW K0 wr, Below wr.heap.size wr u.w) := fun u => u.b.mono (by omega)
                  have c0 : ∀ u : BW K0 wr, u.w.cell? ⟨bb, off + k * 2, none⟩ = some (.string NM) := fun u => (HCE.out _ (HBU.out u)).1
                  have c1 : ∀ u : BW K0 wr, u.w.cell? ⟨bb, off + k * 2 + 1, none⟩ = some (.string DT) := fun u => (HCE.out _ (HBU.out u)).2
                  clear hc1' hNM hDT hNMd hDTd hm2 hF1 hF2 hTd hSd hK0 HTK hSz hNMs hDTs
                  go_upto_region 21 with fail
                  refine wp_region_bw K0 wr (Below.refl _ _) (by kernel_rfl) (by kernel_rfl) ?_
                  repeat (go_big_quiet_step (fail))
                  refine wpQuiet_nil ?_
                  rintro _ ⟨v9, rfl⟩
                  have HB3 := Lib.hid (HBU.out v9)
                  generalize v9.w = w3 at *
                  clear HBU c0 c1
                  have q2 : w3.cell? ⟨bb, off + k * 2 + 1, none⟩ = some (.string DT) := (HCE.out _ HB3.out).2
                  clear HCE
                  have HW3 := Lib.hid (bthen hbx.out HB3.out)
                  clear hT
                  go_wp2_with fail
                  refine (HF1.out _).mono ?_
                  rintro e w4 ⟨rfl, hb⟩
                  have HW4 := Lib.hid (bthen HW3.out hb)
                  clear hb q2
                  go_wp2_with fail
                  refine (HCR.out _).mono ?_
                  rintro e w5 ⟨rfl, hw⟩
                  subst hw
                  go_wp2_with fail
                  refine (HF2.out _).mono ?_
                  rintro e w5 ⟨rfl, hb⟩
                  have HW5 := Lib.hid (bthen HW4.out hb)
                  clear hb
                  go_wp2_with fail
                  go_roundw
                  case rel => exact ⟨k + 1, S ++ ((F1 ++ T) ++ F2), rfl, by go_num, by omega, HSZN.out, HSN, HW5⟩
                  case measure => simp [intOf]; omega
                · have hdk : decide ((k : Int) < (l.length : Int)) = false := by simp; omega
                  have hkl : l.take k = l := List.take_of_length_le (by omega)
                  rw [hkl] at hSd
                  have HSE : Hid (S = ⟨(sigP ++ l.flatMap ckB).toArray⟩) := by show _ = _; rw [← hSd.out]
                  clear hSd hkl
                  go_wp2_with fail
                  go_ret2
                  exact ⟨by rw [HF.out, HSE.out]; rfl, hbx.out⟩
            · have hde : dt.isEmpty = false := by simpa using hdt
              have HF : Hid (joinP l = .error 4) := by
                show _ = _
                unfold joinP
                rw [HJ0.out, if_neg (by decide), if_neg (by rw [HJ1.out]; simp [HNE.out]), if_pos (by rw [HLD.out]; exact hdt)]
              clear hdt
              go_wp2_with fail
              go_ret2
              exact ⟨by rw [HF.out]; rfl, Below.refl _ _⟩
end Go.Proofs.YthbejefodelpkaaGreat
