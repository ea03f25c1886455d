/-
  Walk, in the reference of png: Chunks.
-/
import Derived.Test.YthbejefodelpkaaGreatZV4
import Derived.Test.YthbejefodelpkaaGreatZG3
namespace Go.Proofs.YthbejefodelpkaaGreat
open Go.RowKit
set_option maxRecDepth 100000

theorem take_drop_sub (l : List UInt8) (p a b : Nat) : (l.take (p + b)).drop (p + a) = ((l.drop p).take b).drop a := by
  rw [List.take_drop, List.drop_drop]
theorem drop_drop' (l : List UInt8) (p a : Nat) : l.drop (p + a) = (l.drop p).drop a := by rw [List.drop_drop]

set_option maxHeartbeats 8000000 in
theorem vchunks_any (s : ByteArray) (w : World) (hs : s.size ≤ 100000000) : Calls Tryz.prog 13 #[.string s] w fun e w' => CkOk (chunksP s.data.toList) e w' ∧ Below w.heap.size w w' := by
  have HSL : Hid (s.data.toList.length = s.size) := by show _ = _; simp
  have HC0 : Hid (chunksP s.data.toList = if begP sigP s.data.toList = true then ckGo (s.data.toList.length + 1) [] (s.data.toList.drop 8) else .error 4) := rfl
  by_cases h8 : s.size < 8
  · have d8 : decide ((s.size : Int) < 8) = true := by simp; omega
    have HE : Hid (chunksP s.data.toList = .error 4) := by
      show _ = _
      rw [HC0.out, if_neg]
      unfold begP
      have h0 : sigP.length = 8 := rfl
      rw [HSL.out, h0]
      simp
      omega
    clear HC0
    go_enter Tryz.func13, Tryz.ntmps13
    go_wp2_with fail
    go_ret2
    exact ⟨by rw [HE.out]; rfl, Below.refl _ _⟩
  have d8 : decide ((s.size : Int) < 8) = false := by simp; omega
  have hn8 : ¬ s.size < 8 := h8
  have hi8 : (8 : Int) ≤ (s.size : Int) := by omega
  have hj8 : 8 ≤ s.size := by omega
  obtain ⟨sg, hsg⟩ : ∃ b : Bool, ((s.extract 0 8).toList == [137, 80, 78, 71, 13, 10, 26, 10]) = b := ⟨_, rfl⟩
  have HBG : Hid (begP sigP s.data.toList = sg) := by
    show _ = _
    rw [← hsg, ByteArray.toList_eq, el2, List.drop_zero]
    unfold begP
    rw [HSL.out, show decide (sigP.length ≤ s.size) = true by simp; exact hj8, Bool.true_and]
    rfl
  rw [HBG.out] at HC0
  clear h8 HBG
  cases sg with
  | false =>
    have HE : Hid (chunksP s.data.toList = .error 4) := HC0.out
    clear HC0
    go_enter Tryz.func13, Tryz.ntmps13
    go_wp2_with fail
    go_ret2
    exact ⟨by rw [HE.out]; rfl, Below.refl _ _⟩
  | true =>
  have HC1 : Hid (chunksP s.data.toList = ckGo ((s.data.toList.drop 8).length + 1) [] (s.data.toList.drop 8)) := by
    show _ = _
    rw [HC0.out, if_pos rfl]
    exact ckGo_fuel _ _ _ _ (by rw [List.length_drop]; omega) (by omega)
  clear HC0
  go_enter Tryz.func13, Tryz.ntmps13
  go_wp2_with fail
  clear hsg d8 hn8 hi8
  go_loopw [4, 5] (fun vl vp wr => ∃ (p : Nat) (acc : List Mt) (x : Option Addr) (c : Nat), vl = .slice x acc.length c ∧ vp = .int .i64 p ∧ p ≤ s.size ∧ Hid (acc.length * 12 + 8 ≤ p) ∧ Hid (COwn wr w.heap.size (.slice x acc.length c) acc) ∧ Hid (chunksP s.data.toList = ckGo ((s.data.toList.drop p).length + 1) acc (s.data.toList.drop p)) ∧ Hid (Below w.heap.size w wr)) (fun _ vp _ => s.size + 1 - (intOf vp).toNat)
  case atStart => exact ⟨8, [], none, 0, rfl, rfl, hj8, by show _ ≤ _; simp, World.ownsRow_nil _ _ _ _, HC1.out, Below.refl _ _⟩
  case round =>
    clear HC1
    obtain ⟨p, acc, x, c, rfl, rfl, hp, hra, how, hgo, hbw⟩ := hrel
    obtain ⟨r, hr⟩ : ∃ r, s.data.toList.drop p = r := ⟨_, rfl⟩
    have HRL : Hid (r.length = s.size - p) := by show _ = _; rw [← hr, List.length_drop, HSL.out]
    rw [hr] at hgo
    have HGN : Hid (ckGo (r.length + 1) acc r = match ckStep r with
        | .error e => .error e
        | .ok (c, q) => if c.1 = iendP then (if c.2 ≠ [] then .error 4 else if q ≠ [] then .error 6 else .ok (acc ++ [c])) else ckGo r.length (acc ++ [c]) q) := rfl
    have HER : Hid (∀ k : Nat, ckStep r = .error k → chunksP s.data.toList = .error k) := by
      intro k hk
      rw [hgo.out, HGN.out, hk]
    by_cases hl8 : s.size < p + 8
    · have hd8 : decide ((p : Int) + 8 ≤ (s.size : Int)) = false := by simp; omega
      have hnn : ¬ p + 8 ≤ s.size := by omega
      have HE := Lib.hid (HER.out 5 (by unfold ckStep; rw [if_pos (by rw [HRL.out]; omega)]))
      clear how hgo hra HER hr
      go_wp2_with fail
      go_ret2
      exact ⟨by rw [HE.out]; rfl, hbw.out⟩
    have hd8 : decide ((p : Int) + 8 ≤ (s.size : Int)) = true := by simp; omega
    have hp8 : p + 8 ≤ s.size := by omega
    have hpi : (p : Int) ≤ (s.size : Int) := by omega
    have HN := Lib.hid (fun w => vnumber_any (s.extract p s.size) w (by simp; omega))
    have e4 : (s.extract p s.size).data.toList = r := by rw [el2, List.take_of_length_le (by rw [HSL.out]; omega), hr]
    rw [e4] at HN
    obtain ⟨n, hn⟩ : ∃ n, beP (r.take 4) = n := ⟨_, rfl⟩
    have hnlt : n < 4294967296 := by
      rw [← hn]
      have h1 := beP_lt (r.take 4)
      have h2 : 256 ^ (r.take 4).length ≤ 256 ^ 4 := Nat.pow_le_pow_right (by decide) (by rw [List.length_take]; omega)
      omega
    rw [hn] at HN
    have HR0 := Lib.hid hr
    have HCK1 : Hid (ckStep r = if 1048576 < n then .error 3 else if nameP ((r.take 8).drop 4) = false then .error 13 else if r.length < 12 + n then .error 5
        else if beP ((r.take (12 + n)).drop (8 + n)) ≠ crcP ((r.take (8 + n)).drop 4) then .error 7
        else .ok (((r.take 8).drop 4, (r.take (8 + n)).drop 8), r.drop (12 + n))) := by
      show _ = _
      unfold ckStep
      rw [if_neg (by rw [HRL.out]; omega), hn]
    have h48 : (p : Int) + 4 ≤ (p : Int) + 8 := by omega
    clear e4 hn hr hl8
    go_wp2_with fail
    refine (HN.out _).mono ?_
    rintro e w1 ⟨rfl, hb1⟩
    have HW1 := Lib.hid (bthen hbw.out hb1)
    have HB1 := Lib.hid hb1
    clear hb1 HN
    obtain ⟨NM, hNM⟩ : ∃ t, s.extract (p + 4) (p + 8) = t := ⟨_, rfl⟩
    have HNMd : Hid (NM.data.toList = (r.take 8).drop 4) := by show _ = _; rw [← hNM, el2, take_drop_sub, HR0.out]
    have hNMs : NM.size = 4 := by rw [← hNM]; simp; omega
    by_cases hlim : 1048576 < n
    · have hdl : decide ((1048576 : Int) < (n : Int)) = true := by simp; omega
      have HE := Lib.hid (HER.out 3 (by rw [HCK1.out, if_pos hlim]))
      clear how hgo hra HER HCK1
      go_wp2_with fail
      go_ret2
      exact ⟨by rw [HE.out]; rfl, HW1.out⟩
    have hdl : decide ((1048576 : Int) < (n : Int)) = false := by simp; omega
    have HNA := Lib.hid (fun w => vletters_any NM w (by unfold maxLen; omega))
    rw [HNMd.out] at HNA
    obtain ⟨nb, hnb⟩ : ∃ b, nameP ((r.take 8).drop 4) = b := ⟨_, rfl⟩
    rw [hnb] at HNA
    have HNB := Lib.hid hnb
    clear hnb
    go_wp2_with fail
    refine (HNA.out _).mono ?_
    rintro e w2 ⟨rfl, hw⟩
    subst hw
    rw [hNM]
    clear HNA
    cases nb with
    | false =>
      have HE := Lib.hid (HER.out 13 (by rw [HCK1.out, if_neg hlim, if_pos HNB.out]))
      clear how hgo hra HER HCK1
      go_wp2_with fail
      go_ret2
      exact ⟨by rw [HE.out]; rfl, HW1.out⟩
    | true =>
    obtain ⟨q, hq⟩ : ∃ q, p + (8 + n) = q := ⟨_, rfl⟩
    have hqi : (p : Int) + 8 + (n : Int) = (q : Int) := by omega
    by_cases hsh : s.size < q + 4
    · have hds : decide ((s.size : Int) < (q : Int) + 4) = true := by simp; omega
      have HE := Lib.hid (HER.out 5 (by rw [HCK1.out, if_neg hlim, if_neg (by rw [HNB.out]; decide), if_pos (by rw [HRL.out]; omega)]))
      clear how hgo hra HER HCK1
      go_wp2_with fail
      go_ret2
      exact ⟨by rw [HE.out]; rfl, HW1.out⟩
    have hds : decide ((s.size : Int) < (q : Int) + 4) = false := by simp; omega
    have hq4 : q + 4 ≤ s.size := by omega
    have hq4i : (q : Int) + 4 ≤ (s.size : Int) := by omega
    have hqs : q ≤ s.size := by omega
    have hp4q : p + 4 ≤ q := by omega
    have hp8q : p + 8 ≤ q := by omega
    have hqq4 : q ≤ q + 4 := by omega
    obtain ⟨SM, hSM⟩ : ∃ t, s.extract q (q + 4) = t := ⟨_, rfl⟩
    have HSMd : Hid (SM.data.toList = (r.take (12 + n)).drop (8 + n)) := by show _ = _; rw [← hSM, el2, ← hq, show p + (8 + n) + 4 = p + (12 + n) by omega, take_drop_sub, HR0.out]
    obtain ⟨CS, hCS⟩ : ∃ t, s.extract (p + 4) q = t := ⟨_, rfl⟩
    have HCSd : Hid (CS.data.toList = (r.take (8 + n)).drop 4) := by show _ = _; rw [← hCS, el2, ← hq, take_drop_sub, HR0.out]
    obtain ⟨DT, hDT⟩ : ∃ t, s.extract (p + 8) q = t := ⟨_, rfl⟩
    have HDTd : Hid (DT.data.toList = (r.take (8 + n)).drop 8) := by show _ = _; rw [← hDT, el2, ← hq, take_drop_sub, HR0.out]
    have hDTs : DT.size = n := by rw [← hDT]; simp; omega
    have hCSs : CS.size ≤ 100000000 := by rw [← hCS]; simp; omega
    have HCR := Lib.hid (fun w => vcrc_any CS w (by unfold maxLen; omega))
    rw [HCSd.out] at HCR
    obtain ⟨m2, hm2⟩ : ∃ m, crcP ((r.take (8 + n)).drop 4) = m := ⟨_, rfl⟩
    have hml : m2 < 4294967296 := by rw [← hm2]; exact crcP_lt _
    have HF4 := Lib.hid (fun w => vfour_any m2 hml w)
    obtain ⟨FS, hFS⟩ : ∃ t : ByteArray, (⟨(be4 m2).toArray⟩ : ByteArray) = t := ⟨_, rfl⟩
    rw [hm2] at HCR
    rw [hFS] at HF4
    obtain ⟨mb, hmb⟩ : ∃ b : Bool, (SM.toList == FS.toList) = b := ⟨_, rfl⟩
    have HMB : Hid (mb = true ↔ beP ((r.take (12 + n)).drop (8 + n)) = crcP ((r.take (8 + n)).drop 4)) := by
      show _ ↔ _
      rw [← hmb, ← hFS, ByteArray.toList_eq, ByteArray.toList_eq, HSMd.out, hm2]
      have hl4 : ((r.take (12 + n)).drop (8 + n)).length = 4 := by rw [List.length_drop, List.length_take, HRL.out]; omega
      constructor
      · intro h
        have h' : (r.take (12 + n)).drop (8 + n) = be4 m2 := by simpa using h
        rw [h', beP_be4 _ hml]
      · intro h
        have h' := be4_beP _ hl4
        rw [h] at h'
        simp [← h']
    have hcv : IntKind.i64.wrap (m2 : Int) = (m2 : Int) := by rw [IntKind.wrap_i64]; omega
    obtain ⟨K0, hK0⟩ : ∃ K0, K0 = w1.heap.size := ⟨_, rfl⟩
    have HK0 : Hid (K0 ≤ w1.heap.size) := by show _ ≤ _; omega
    have HBU : Hid (∀ u : BW K0 w1, Below w1.heap.size w1 u.w) := fun u => u.b.mono (by omega)
    have HQ := Lib.hid hq
    clear hK0 hm2 hFS hq hsh
    go_upto_region 15 with fail
    refine wp_region_bw K0 w1 (Below.refl _ _) (by kernel_rfl) (by kernel_rfl) ?_
    repeat (go_big_quiet_step (first | (go_at_call 38; exact calls_bw_same (HCR.out _)) | (go_at_call 37; exact calls_bw HK0.out (HF4.out _))))
    refine wpQuiet_nil ?_
    rintro _ ⟨v9, rfl⟩
    have HB3 := Lib.hid (HBU.out v9)
    generalize v9.w = w3 at *
    clear HBU HCR HF4 HK0
    have HW3 := Lib.hid (bthen HW1.out HB3.out)
    cases mb with
    | false =>
      have HE := Lib.hid (HER.out 7 (by rw [HCK1.out, if_neg hlim, if_neg (by rw [HNB.out]; decide), if_neg (by rw [HRL.out]; have := HQ.out; omega), if_pos (fun h => by have := HMB.out.2 h; cases this)]))
      clear how hgo hra HER HCK1 HMB
      go_wp2_with fail
      go_ret2
      exact ⟨by rw [HE.out]; rfl, HW3.out⟩
    | true =>
    obtain ⟨nm, hnm⟩ : ∃ l, (r.take 8).drop 4 = l := ⟨_, rfl⟩
    obtain ⟨dt, hdt⟩ : ∃ l, (r.take (8 + n)).drop 8 = l := ⟨_, rfl⟩
    have HST : Hid (ckStep r = .ok ((nm, dt), r.drop (12 + n))) := by
      show _ = _
      rw [HCK1.out, if_neg hlim, if_neg (by rw [HNB.out]; decide), if_neg (by rw [HRL.out]; have := HQ.out; omega), if_neg (fun h => h (HMB.out.1 rfl)), hnm, hdt]
    rw [hnm] at HNMd
    rw [hdt] at HDTd
    have HX : Hid ([Value.string NM, Value.string DT] = mcells [(nm, dt)]) := by
      show _ = _
      simp only [mcells, mcell, List.flatMap_cons, List.flatMap_nil, List.append_nil]
      rw [← HNMd.out, ← HDTd.out]
    have hown : w3.ownsRow w.heap.size 53 2 (.slice x acc.length c) acc.length (mcells acc) := (Fr.of_below (B := 0) (HB1.out.trans (HB3.out.mono HB1.out.size)) []).owns how.out (by simp)
    have HOWN := Lib.hid hown
    have hszr := HW3.out.size
    have hal : acc.length * 12 + 8 ≤ p := hra.out
    have HRA := Lib.hid hal
    have hal2 : (acc.length + 1) * 32 ≤ 140737488355328 := by omega
    have hal3 : acc.length + 1 ≤ 9223372036854775807 := by omega
    have hnl : NM.toList = nm := by rw [ByteArray.toList_eq, HNMd.out]
    have HNL := Lib.hid hnl
    have HDN : Hid (dt.length = n) := by show _ = _; rw [← HDTd.out]; simp; exact hDTs
    clear hnm hdt how hra hal hnl HMB
    go_wp2_with (at_builtin; refine wpList_app el_chunk hown hszr rfl rfl rfl (m := 0) rfl (by simp [Value.oneCell']) rfl (by omega) (by unfold maxLen; omega) ?_)
    intro r2 cap2 w5 ho5 hg5 _
    have HO5 : Hid (COwn w5 w.heap.size (.slice (some ⟨r2, 0, none⟩) (acc.length + 1) cap2) (acc ++ [(nm, dt)])) := cown_more ho5 [(nm, dt)] HX.out rfl
    have HB5 : Hid (Below w.heap.size w w5) := (below_app HW3.out hszr HOWN.out hg5).1
    clear ho5 hg5 hszr hal2 hal3 hown
    have HGS : Hid (chunksP s.data.toList = if nm = iendP then (if dt ≠ [] then .error 4 else if r.drop (12 + n) ≠ [] then .error 6 else .ok (acc ++ [(nm, dt)])) else ckGo r.length (acc ++ [(nm, dt)]) (r.drop (12 + n))) := by
      show _ = _
      rw [hgo.out, HGN.out, HST.out]
    have HQ4 : Hid (r.drop (12 + n) = s.data.toList.drop (q + 4)) := by
      show _ = _
      rw [← HR0.out, ← drop_drop', ← HQ.out]
      congr 1
      omega
    rw [HQ4.out] at HGS
    by_cases hi : nm = iendP
    · have hie : (NM.toList == [73, 69, 78, 68]) = true := by rw [HNL.out, hi]; rfl
      rw [if_pos hi] at HGS
      clear hgo HGN HCK1 HER HST hi
      by_cases hn0 : n = 0
      · have dn : ((n : Int) != 0) = false := by simp [hn0]
        have hd0 : dt = [] := List.eq_nil_of_length_eq_zero (by rw [HDN.out]; exact hn0)
        rw [if_neg (by rw [hd0]; simp)] at HGS
        by_cases hqe : q + 4 = s.size
        · have dq : (((q : Int) + 4) != (s.size : Int)) = false := by simp; omega
          rw [if_neg (by rw [List.drop_of_length_le (by rw [HSL.out]; omega)]; simp)] at HGS
          have HFI : Hid (CkOk (chunksP s.data.toList) (.returned (.tuple #[.slice (some ⟨r2, 0, none⟩) (acc.length + 1) cap2, .int .i64 0])) w5) := by
            show CkOk _ _ _
            rw [HGS.out]
            exact ⟨_, rfl, HO5.out.row⟩
          clear hd0 hqe hn0
          go_wp2_with fail
          go_ret2
          exact ⟨HFI.out, HB5.out⟩
        · have dq : (((q : Int) + 4) != (s.size : Int)) = true := by simp; omega
          rw [if_pos (fun h => by have h2 := congrArg List.length h; rw [List.length_drop, HSL.out] at h2; simp at h2; omega)] at HGS
          clear hd0 hqe hn0
          go_wp2_with fail
          go_ret2
          exact ⟨by rw [HGS.out]; rfl, HB5.out⟩
      · have dn : ((n : Int) != 0) = true := by simp; omega
        rw [if_pos (fun h => hn0 (by rw [← HDN.out, h]; rfl))] at HGS
        clear hn0
        go_wp2_with fail
        go_ret2
        exact ⟨by rw [HGS.out]; rfl, HB5.out⟩
    · have hie : (NM.toList == [73, 69, 78, 68]) = false := by rw [HNL.out]; simpa [iendP] using hi
      rw [if_neg hi] at HGS
      have HGF : Hid (chunksP s.data.toList = ckGo ((s.data.toList.drop (q + 4)).length + 1) (acc ++ [(nm, dt)]) (s.data.toList.drop (q + 4))) := by
        show _ = _
        rw [HGS.out]
        exact ckGo_fuel _ _ _ _ (by rw [HRL.out, List.length_drop, HSL.out]; have := HQ.out; omega) (by omega)
      have HRB : Hid ((acc ++ [(nm, dt)]).length * 12 + 8 ≤ q + 4) := by
        show _ ≤ _
        have h1 := HRA.out
        have h2 := HQ.out
        rw [List.length_append, List.length_singleton]
        omega
      have HO6 : Hid (COwn w5 w.heap.size (.slice (some ⟨r2, 0, none⟩) (acc ++ [(nm, dt)]).length cap2) (acc ++ [(nm, dt)])) := by
        show COwn _ _ _ _
        rw [List.length_append, List.length_singleton]
        exact HO5.out
      have hqp : p < q + 4 := by have := HQ.out; omega
      clear hgo HGN HCK1 HER HST hi HGS HQ4 HO5
      go_wp2_with fail
      go_roundw
      case rel => exact ⟨q + 4, acc ++ [(nm, dt)], some ⟨r2, 0, none⟩, cap2, by rw [List.length_append, List.length_singleton], by go_num, by omega, HRB, HO6, HGF, HB5⟩
      case measure => simp [intOf]; omega
end Go.Proofs.YthbejefodelpkaaGreat
