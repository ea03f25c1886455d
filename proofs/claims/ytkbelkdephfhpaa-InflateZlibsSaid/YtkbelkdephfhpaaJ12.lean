/-
  Walk: a stored block, in the reference.
-/
import Derived.Test.YtkbelkdephfhpaaJ9
import Derived.Test.YtkbelkdephfhpaaI8
namespace Go.Proofs.Ytkbelkdephfhpaa
open Go.RowKit

set_option maxRecDepth 100000 in
set_option maxHeartbeats 16000000 in
theorem refStored_any (s : ByteArray) (p most B zb : Nat) (out : List UInt8) (v0 : Value) (w : World) (hz : Blk w zb 49 (rc s p 0)) (hrow : BRow w B 5 v0 out) (hB : B ≤ zb) (hs : s.size ≤ 1000000000000000) (hp : p ≤ 8 * s.size) (hm : most ≤ 1048576) (ho : out.length ≤ most) :
    Calls Try.prog 21 #[.pointer (some ⟨zb, 0, none⟩), v0, .int .i64 most] w fun e w' => RDat s B zb (stoT most out (bitsAt s p)) e w' ∧ FR B w w' := by
  obtain ⟨k, hk⟩ : ∃ k, k = (p + 7) / 8 := ⟨_, rfl⟩
  have hks : k ≤ s.size := by omega
  have hbd : (bitsAt s p).drop ((bitsAt s p).length % 8) = bitsAt s (8 * k) := by rw [bitsAt_drop, bitsAt_length]; congr 1; omega
  have hst : stoT most out (bitsAt s p) = match numT (bitsAt s (8 * k)) 32 with
    | .error e => .error e
    | .ok (x, b1) =>
      if x % 65536 + x / 65536 ≠ 65535 then .error 4
      else if b1.length < 8 * (x % 65536) then .error 5
      else if most < out.length + x % 65536 then .error 3
      else .ok (out ++ pack (b1.take (8 * (x % 65536))), b1.drop (8 * (x % 65536))) := by unfold stoT; rw [hbd]; rfl
  clear hbd
  obtain ⟨r0, hr0⟩ : ∃ r0, stoT most out (bitsAt s p) = r0 := ⟨_, rfl⟩
  rw [hr0] at hst ⊢
  clear hr0
  have HST := Lib.hid hst
  obtain ⟨P8, hP8⟩ : ∃ P, P = 8 * k := ⟨_, rfl⟩
  rw [← hP8] at HST
  have k1 := hz.cell 1
  have f1 := hz.frozen 1
  simp [rc] at k1
  have z1 : ((p : Int) + 7) / 8 = (k : Int) := by omega
  have z2 : (k : Int) * 8 = (P8 : Int) := by omega
  have hPb : P8 ≤ 8 * s.size := by omega
  have hz1 := hz.put 1 (.int .i64 (P8 : Nat))
  have hf1 := (Fr.refl B [49, 5] w).put hz hB (by simp) 1 (.int .i64 (P8 : Nat))
  have hro : BRow (w.setCell ⟨zb, 1, none⟩ (.int .i64 (P8 : Nat))) B 5 v0 out := ((Fr.refl B [49] w).put hz hB (by simp) 1 (.int .i64 (P8 : Nat))).owns hrow (by decide)
  have HZ1 := Lib.hid hz1
  have HF1 := Lib.hid hf1
  have HRO := Lib.hid hro
  have HK := Lib.hid hk
  have HP8 := Lib.hid hP8
  have HZZ := Lib.hid (And.intro z1 z2)
  clear hst hz1 hf1 hro hk hP8 hz hrow z1 z2
  go_enter Try.func21, Try.ntmps21
  go_upto_region 2 with fail
  rw [HZZ.out.1, HZZ.out.2]
  have hz1 : Blk (w.setCell ⟨zb, 1, none⟩ (.int .i64 (P8 : Nat))) zb 49 (rc s P8 0) := by have := HZ1.out; simpa [rc] using this
  have hf1 := HF1.out
  have hro := HRO.out
  clear HZ1 HF1 HRO k1 f1 HZZ
  generalize w.setCell ⟨zb, 1, none⟩ (.int .i64 (P8 : Nat)) = w1 at hz1 hf1 hro ⊢
  go_wp2_with fail
  refine (refNumber_any s P8 32 zb _ hz1 hs hPb (by decide)).mono ?_
  rintro e w2 ⟨hok, hf2⟩
  have hst := hok.sy hPb
  have hfr2 := hf1.trans (fr_of hf2 hB)
  have hrow2 : BRow w2 B 5 v0 out := hf2.owns hro (by decide)
  have hE := HST.out
  clear hok hf2 hz1 hf1 hro HST
  cases hn : numT (bitsAt s P8) 32 with
  | error k3 =>
    rw [hn] at hst hE
    obtain ⟨rfl, p2, hp2, hz2⟩ := hst
    have HE : Hid (r0 = .error k3) := hE
    have hk3 := numT_err hn
    have hk1 : ((k3 : Int) != 0) = true := by simp; omega
    have hk0 : ((k3 : Int) == 0) = false := beq_false_of_ne (by omega)
    have k2 := hz2.cell 2
    simp [rc] at k2
    clear hn hE
    go_wp2_with fail
    go_ret
    refine ⟨?_, hfr2⟩
    rw [HE.out]
    exact ⟨⟨_, rfl⟩, p2, hz2⟩
  | ok xb =>
    obtain ⟨x, b1⟩ := xb
    obtain ⟨hl32, hbe, -, hx⟩ := numT_ok hn
    rw [bitsAt_length] at hl32
    rw [bitsAt_drop] at hbe
    unfold RSym at hst
    have hok2 : Ending.returned (.int .i64 x) = Ending.returned (.int .i64 x) := rfl
    clear hok2
    rw [hn] at hst hE
    obtain ⟨rfl, p2, hp2, hb2, hz2⟩ := hst
    have hpp : p2 = P8 + 32 := by
      have h1 := congrArg List.length (hb2.symm.trans hbe)
      rw [bitsAt_length, bitsAt_length] at h1
      omega
    subst hpp
    subst hbe
    simp only at hE hx
    obtain ⟨Nn, hN⟩ : ∃ N, x % 65536 = N := ⟨_, rfl⟩
    obtain ⟨Mm, hM⟩ : ∃ N, x / 65536 = N := ⟨_, rfl⟩
    rw [hN, hM] at hE
    have hN1 : Nn < 65536 := by omega
    have hM1 : Mm < 65536 := by omega
    have q1 : (x : Int) % 65536 = (Nn : Int) := by omega
    have q2 : (x : Int) / 65536 = (Mm : Int) := by omega
    have hP8 := HP8.out
    obtain ⟨K4, hK4⟩ : ∃ K, K = k + 4 := ⟨_, rfl⟩
    have hp4 : P8 + 32 = 8 * K4 := by omega
    rw [hp4] at hE hz2
    have hK4s : K4 ≤ s.size := by omega
    have q3 : (8 * (K4 : Int)) / 8 = (K4 : Int) := by omega
    rw [bitsAt_length, bitsAt_drop, show 8 * K4 + 8 * Nn = 8 * (K4 + Nn) from by omega, bitsAt_byte s K4, unp_take, pack_unp] at hE
    have hE2 : r0 = if Nn + Mm ≠ 65535 then .error 4 else if s.size - K4 < Nn then .error 5 else if most < out.length + Nn then .error 3 else .ok (out ++ (s.data.toList.drop K4).take Nn, bitsAt s (8 * (K4 + Nn))) := by
      rw [hE]
      have : (8 * s.size - 8 * K4 < 8 * Nn) = (s.size - K4 < Nn) := by apply propext; omega
      simp only [this]
    have HE2 := Lib.hid hE2
    have HQ := Lib.hid (And.intro q1 q2)
    obtain ⟨x3, c3, rfl⟩ := row_shape hrow2
    have hPz : hE = hE := rfl
    clear hE hE2 hn hN hM hP8 hp4 hPz hb2
    have k2 := hz2.cell 2
    have k0 := hz2.cell 0
    have k1 := hz2.cell 1
    simp [rc] at k0 k1 k2
    have HK4 := Lib.hid hK4
    clear hK4 hl32 hp2
    by_cases hNM : Nn + Mm ≠ 65535
    · have HE : Hid (r0 = .error 4) := by show _ = _; rw [HE2.out, if_pos hNM]
      have d1 : ((Nn : Int) + (Mm : Int) != 65535) = true := by simp; omega
      clear HE2 hNM
      have kE := hz2.cell 2
      have fE := hz2.frozen 2
      simp [rc] at kE
      have hz0 := hz2.put 2 (.int .i64 4)
      have hf0 := hfr2.put hz2 hB (by simp) 2 (.int .i64 4)
      have HZ0 := Lib.hid hz0
      have HF0 := Lib.hid hf0
      clear hz0 hf0
      go_upto_region 5 with fail
      have hzE := HZ0.out
      have hfE := HF0.out
      clear HZ0 HF0 kE fE
      generalize w2.setCell ⟨zb, 2, none⟩ (.int .i64 4) = wE at hzE hfE ⊢
      have kE := hzE.cell 2
      simp [rc] at kE
      go_wp2_with fail
      go_ret
      refine ⟨?_, hfE⟩
      rw [HE.out]
      exact ⟨⟨_, rfl⟩, 8 * K4, by simpa [rc] using hzE⟩
    have d1 : ((Nn : Int) + (Mm : Int) != 65535) = false := by simp; omega
    by_cases hsh : s.size - K4 < Nn
    · have HE : Hid (r0 = .error 5) := by show _ = _; rw [HE2.out, if_neg hNM, if_pos hsh]
      have d2 : decide ((s.size : Int) - (K4 : Int) < (Nn : Int)) = true := by simp; omega
      clear HE2 hNM
      have kE := hz2.cell 2
      have fE := hz2.frozen 2
      simp [rc] at kE
      have hz0 := hz2.put 2 (.int .i64 5)
      have hf0 := hfr2.put hz2 hB (by simp) 2 (.int .i64 5)
      have HZ0 := Lib.hid hz0
      have HF0 := Lib.hid hf0
      clear hz0 hf0
      go_upto_region 11 with fail
      have hzE := HZ0.out
      have hfE := HF0.out
      clear HZ0 HF0 kE fE
      generalize w2.setCell ⟨zb, 2, none⟩ (.int .i64 5) = wE at hzE hfE ⊢
      have kE := hzE.cell 2
      simp [rc] at kE
      go_wp2_with fail
      go_ret
      refine ⟨?_, hfE⟩
      rw [HE.out]
      exact ⟨⟨_, rfl⟩, 8 * K4, by simpa [rc] using hzE⟩
    have d2 : decide ((s.size : Int) - (K4 : Int) < (Nn : Int)) = false := by simp; omega
    by_cases hlim : most < out.length + Nn
    · have HE : Hid (r0 = .error 3) := by show _ = _; rw [HE2.out, if_neg hNM, if_neg hsh, if_pos hlim]
      have d3 : decide ((most : Int) - (out.length : Int) < (Nn : Int)) = true := by simp; omega
      clear HE2 hNM
      have kE := hz2.cell 2
      have fE := hz2.frozen 2
      simp [rc] at kE
      have hz0 := hz2.put 2 (.int .i64 3)
      have hf0 := hfr2.put hz2 hB (by simp) 2 (.int .i64 3)
      have HZ0 := Lib.hid hz0
      have HF0 := Lib.hid hf0
      clear hz0 hf0
      go_upto_region 14 with fail
      have hzE := HZ0.out
      have hfE := HF0.out
      clear HZ0 HF0 kE fE
      generalize w2.setCell ⟨zb, 2, none⟩ (.int .i64 3) = wE at hzE hfE ⊢
      have kE := hzE.cell 2
      simp [rc] at kE
      go_wp2_with fail
      go_ret
      refine ⟨?_, hfE⟩
      rw [HE.out]
      exact ⟨⟨_, rfl⟩, 8 * K4, by simpa [rc] using hzE⟩
    have d3 : decide ((most : Int) - (out.length : Int) < (Nn : Int)) = false := by simp; omega
    have HE : Hid (r0 = .ok (out ++ (s.data.toList.drop K4).take Nn, bitsAt s (8 * (K4 + Nn)))) := by show _ = _; rw [HE2.out, if_neg hNM, if_neg hsh, if_neg hlim]
    clear HE2 hNM
    obtain ⟨K5, hK5⟩ : ∃ K, K = K4 + Nn := ⟨_, rfl⟩
    have w1' : 8 * (K4 : Int) + 8 * (Nn : Int) = ((8 * K5 : Nat) : Int) := by omega
    have f1 := hz2.frozen 1
    have hz3 := hz2.put 1 (.int .i64 ((8 * K5 : Nat) : Int))
    have hf3 := hfr2.put hz2 hB (by simp) 1 (.int .i64 ((8 * K5 : Nat) : Int))
    have hr3 : BRow (w2.setCell ⟨zb, 1, none⟩ (.int .i64 ((8 * K5 : Nat) : Int))) B 5 (.slice x3 out.length c3) out := ((Fr.refl B [49] w2).put hz2 hB (by simp) 1 (.int .i64 ((8 * K5 : Nat) : Int))).owns hrow2 (by decide)
    have HW1 := Lib.hid w1'
    have HZ3 := Lib.hid hz3
    have HF3 := Lib.hid hf3
    have HR3 := Lib.hid hr3
    clear w1' hz3 hf3 hr3
    go_upto_region 16 with fail
    rw [HW1.out, HQ.out.1]
    have hz3 : Blk (w2.setCell ⟨zb, 1, none⟩ (.int .i64 ((8 * K5 : Nat) : Int))) zb 49 (rc s (8 * K5) 0) := by have := HZ3.out; simpa [rc] using this
    have hf3 := HF3.out
    have hr3 := HR3.out
    clear HZ3 HF3 HR3 k0 k1 k2 f1 q1 q2 q3 d1 d2 d3 hz2 hrow2 hfr2
    generalize w2.setCell ⟨zb, 1, none⟩ (.int .i64 ((8 * K5 : Nat) : Int)) = w3 at hz3 hf3 hr3 ⊢
    have k0 := hz3.cell 0
    simp [rc] at k0
    have hsz3 : B ≤ w3.heap.size := Nat.le_of_lt (Nat.lt_of_le_of_lt hB hz3.lt)
    have W5 : IntKind.i64.wrap ((K4 : Int) + (Nn : Int)) = (K5 : Int) := by rw [IntKind.wrap_i64]; omega
    have e0 : (K4 : Int) + (Nn : Int) = (K5 : Int) := by omega
    have e1 : (0 : Int) ≤ (K4 : Int) := by omega
    have e2 : (K4 : Int) ≤ (K5 : Int) := by omega
    have e3 : (K5 : Int) ≤ (s.size : Int) := by omega
    have hq1 : (s.extract K4 K5).size = Nn := by rw [ByteArray.size_extract]; omega
    have hq2 : (s.extract K4 K5).data.toList = (s.data.toList.drop K4).take Nn := by
      rw [ByteArray.data_extract, Array.toList_extract, List.extract_eq_take_drop]
      congr 1
      omega
    have HQ5 := Lib.hid (And.intro hq1 hq2)
    have hlen : out.length + (s.extract K4 K5).size ≤ 140737488355328 := by rw [hq1]; omega
    have HLEN := Lib.hid hlen
    have HK5 := Lib.hid hK5
    clear hq1 hq2 hlen hK5
    go_wp2_with (at_builtin; refine wpList_app_str el_u8 Try.underlying9 hr3 hsz3 rfl rfl rfl (s := s.extract K4 K5) (by rfl) HLEN.out ?_)
    intro v4 w4 hr4 hg4
    have HR4 := Lib.hid hr4
    have hne : some zb ≠ (Value.slice x3 out.length c3).ownBlock := own_blk_ne' hz3 hr3.2 (by decide)
    have hz4 : Blk w4 zb 49 (rc s (8 * K5) 0) := (hg4.block zb hz3.lt hne).trans hz3
    have hf4 : FR B w w4 := hf3.grown hr3 (Nat.le_refl _) (by decide) hg4
    clear hr4 hg4 hne hr3 hz3 hf3 hsz3 k0
    go_wp2_with fail
    go_ret
    refine ⟨?_, hf4⟩
    rw [HE.out]
    refine ⟨⟨_, rfl, ?_⟩, 8 * K5, by omega, by rw [HK5.out], hz4⟩
    have hr5 := HR4.out
    rw [show K5 - K4 = Nn from by have := HK5.out; omega] at hr5
    exact hr5
end Go.Proofs.Ytkbelkdephfhpaa
