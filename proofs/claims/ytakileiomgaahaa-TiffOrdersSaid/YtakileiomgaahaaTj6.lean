/-
  The program of tiff: readPixel.
-/
import Derived.Test.YtakileiomgaahaaTj4
import Derived.Test.YtakileiomgaahaaStra
namespace Go.Proofs.Ytakileiomgaahaa
open Go.RowKit

/-- Sample k of the bytes of a pixel. -/
def smpN (H : Hd) (c : List UInt8) (k : Nat) : Nat := if H.bytes = 1 then 257 * nAt H.big c k 1 else nAt H.big c (k * H.bytes) H.bytes
/-- The pixel with some bytes. -/
def pixP (H : Hd) (c : List UInt8) : Px :=
  if H.samples = 1 then (if H.photo = 0 then 65535 - (smpN H c 0 : Int) else smpN H c 0, if H.photo = 0 then 65535 - (smpN H c 0 : Int) else smpN H c 0, if H.photo = 0 then 65535 - (smpN H c 0 : Int) else smpN H c 0, 65535)
  else if H.samples = 3 then (smpN H c 0, smpN H c 1, smpN H c 2, 65535)
  else if H.alpha = 1 then straP (smpN H c 0, smpN H c 1, smpN H c 2, smpN H c 3) else (smpN H c 0, smpN H c 1, smpN H c 2, smpN H c 3)
theorem smpN_le (H : Hd) (c : List UInt8) (k : Nat) (hb : H.bytes = 1 ∨ H.bytes = 2) : smpN H c k ≤ 65535 := by
  unfold smpN
  rcases hb with h | h
  · rw [if_pos h]
    have : nAt H.big c k 1 < 256 := nAt_lt H.big c k 1
    omega
  · rw [if_neg (by omega), h]
    have : nAt H.big c (k * 2) 2 < 65536 := nAt_lt H.big c (k * 2) 2
    omega
theorem from8I_nat (n : Nat) (h : n ≤ 255) : from8I (n : Int) = ((257 * n : Nat) : Int) := by unfold from8I clampI; omega

set_option maxHeartbeats 4000000 in
set_option maxRecDepth 100000 in
theorem treadPixel_any (s : ByteArray) (H : Hd) (w : World) (hb : H.bytes = 1 ∨ H.bytes = 2) (hsm : H.samples = 1 ∨ H.samples = 3 ∨ H.samples = 4) (hs : s.size = H.samples * H.bytes) :
    Calls Try.prog 45 #[.string s, .agg (hdA H)] w fun e w' => e = .returned (.agg (pxC (pixP H s.data.toList))) ∧ Below w.heap.size w w' := by
  have HPX : Hid (pixP H s.data.toList = if H.samples = 1 then (if H.photo = 0 then 65535 - (smpN H s.data.toList 0 : Int) else smpN H s.data.toList 0, if H.photo = 0 then 65535 - (smpN H s.data.toList 0 : Int) else smpN H s.data.toList 0, if H.photo = 0 then 65535 - (smpN H s.data.toList 0 : Int) else smpN H s.data.toList 0, 65535)
    else if H.samples = 3 then (smpN H s.data.toList 0, smpN H s.data.toList 1, smpN H s.data.toList 2, 65535)
    else if H.alpha = 1 then straP (smpN H s.data.toList 0, smpN H s.data.toList 1, smpN H s.data.toList 2, smpN H s.data.toList 3) else (smpN H s.data.toList 0, smpN H s.data.toList 1, smpN H s.data.toList 2, smpN H s.data.toList 3)) := rfl
  have HLE := Lib.hid (fun k => smpN_le H s.data.toList k hb)
  have HSN : Hid (∀ k, smpN H s.data.toList k = if H.bytes = 1 then 257 * nAt H.big s.data.toList k 1 else nAt H.big s.data.toList (k * H.bytes) H.bytes) := fun k => rfl
  obtain ⟨HW, HH, by_, sm, ph, al, ro, pk, big⟩ := H
  simp only at hb hsm hs HPX HSN
  obtain ⟨px, hpx⟩ : ∃ p, pixP ⟨HW, HH, by_, sm, ph, al, ro, pk, big⟩ s.data.toList = p := ⟨_, rfl⟩
  rw [hpx] at HPX ⊢
  generalize hf : smpN ⟨HW, HH, by_, sm, ph, al, ro, pk, big⟩ s.data.toList = f at *
  clear hf hpx
  have HNN : Hid (∀ k w, k < sm → Calls Try.prog 36 #[.string (s.extract (k * by_) ((k + 1) * by_)), .bool big] w fun e w' => e = .returned (.int .i64 (nAt big s.data.toList (k * by_) by_ : Nat)) ∧ w' = w) := fun k w hk => by
    have e1 : (k + 1) * by_ = k * by_ + by_ := Nat.succ_mul k by_
    have e2 : (k + 1) * by_ ≤ s.size := by rw [hs]; exact Nat.mul_le_mul_right by_ hk
    have := number_at s (k * by_) ((k + 1) * by_) big e2 (by omega) w
    rw [show (k + 1) * by_ - k * by_ = by_ by omega] at this
    exact this.mono fun e w' h => by obtain ⟨v, rfl, rfl, h⟩ := h; exact ⟨rfl, h.symm⟩
  have HS := Lib.hid hs
  clear hs
  have h0 := ((Blk.new w 81 (hdA ⟨HW, HH, by_, sm, ph, al, ro, pk, big⟩)).alloc (.cells (pxC (0, 0, 0, 0)) 46))
  have h1 := Blk.new_at (w := w.alloc (.cells (hdA ⟨HW, HH, by_, sm, ph, al, ro, pk, big⟩) 81)) (k := w.heap.size + 1) (by simp) 46 (pxC (0, 0, 0, 0))
  have hb0 := ((Below.refl w.heap.size w).alloc (Nat.le_refl _) (.cells (hdA ⟨HW, HH, by_, sm, ph, al, ro, pk, big⟩) 81)).alloc (by simp) (.cells (pxC (0, 0, 0, 0)) 46)
  have hz0 : ((w.alloc (.cells (hdA ⟨HW, HH, by_, sm, ph, al, ro, pk, big⟩) 81)).alloc (.cells (pxC (0, 0, 0, 0)) 46)).heap.size = w.heap.size + 2 := by simp
  have e0 : (w.alloc (.cells #[.int .i64 (HW : Int), .int .i64 (HH : Int), .int .i64 (by_ : Int), .int .i64 (sm : Int), .int .i64 (ph : Int), .int .i64 (al : Int), .int .i64 (ro : Int), .bool pk, .bool big] 81)).alloc (.cells #[.int .i64 0, .int .i64 0, .int .i64 0, .int .i64 0] 46) = (w.alloc (.cells (hdA ⟨HW, HH, by_, sm, ph, al, ro, pk, big⟩) 81)).alloc (.cells (pxC (0, 0, 0, 0)) 46) := rfl
  unfold hdA
  simp only
  go_enter Try.func45, Try.ntmps45
  go_upto_region 1 with fail
  generalize (w.alloc (.cells (hdA ⟨HW, HH, by_, sm, ph, al, ro, pk, big⟩) 81)).alloc (.cells (pxC (0, 0, 0, 0)) 46) = wz at *
  clear e0
  generalize hB : w.heap.size = B at *
  have HB := Lib.hid hB
  clear hB
  have h2 : Blk (wz.alloc (.cells #[.int .i64 0, .int .i64 0, .int .i64 0, .int .i64 0] 112)) (B + 2) 112 #[.int .i64 0, .int .i64 0, .int .i64 0, .int .i64 0] := Blk.new_at hz0.symm _ _
  have h0' := h0.alloc (.cells #[.int .i64 0, .int .i64 0, .int .i64 0, .int .i64 0] 112)
  have h1' := h1.alloc (.cells #[.int .i64 0, .int .i64 0, .int .i64 0, .int .i64 0] 112)
  have hb1 := hb0.alloc (by omega) (.cells #[.int .i64 0, .int .i64 0, .int .i64 0, .int .i64 0] 112)
  go_upto_region 2 with fail
  generalize wz.alloc (.cells #[.int .i64 0, .int .i64 0, .int .i64 0, .int .i64 0] 112) = wk at *
  have c3 : wk.cell? ⟨B, 3, none⟩ = some (.int .i64 (sm : Int)) := h0'.cell 3
  have HZ0 := Lib.hid h0'
  have HZ1 := Lib.hid h1'
  have HZ2 := Lib.hid h2
  have HZB := Lib.hid hb1
  clear h0 h1 h2 h0' h1' hb0 hb1 hz0
  go_upto_region 3 with fail
  clear c3
  go_wp2_with fail
  go_loopw [10] (fun vi wr => ∃ (i : Nat) (cs : Array Value), vi = .int .i64 i ∧ i ≤ sm ∧ Hid (Blk wr B 81 (hdA ⟨HW, HH, by_, sm, ph, al, ro, pk, big⟩)) ∧ Hid (Blk wr (B + 1) 46 (pxC (0, 0, 0, 0))) ∧ Hid (Blk wr (B + 2) 112 cs) ∧ Hid (cs.size = 4 ∧ ∀ j, j < i → cs[j]? = some (.int .i64 (f j : Int))) ∧ Hid (Below B w wr)) (fun vi _ => sm - (intOf vi).toNat)
  case atStart => exact ⟨0, _, rfl, Nat.zero_le _, HZ0.out, HZ1.out, HZ2.out, ⟨rfl, fun j h => absurd h (by omega)⟩, HZB.out⟩
  case round =>
    obtain ⟨i, cs, rfl, hi, hk0, hk1, hk2, hcs, hbw⟩ := hrel
    clear HZ0 HZ1 HZ2 HZB
    by_cases hlt : i < sm
    · have dlt : decide ((i : Int) < (sm : Int)) = true := by simp; omega
      have HN1 := Lib.hid (fun w => HNN.out i w hlt)
      obtain ⟨ib, hib⟩ : ∃ q, i * by_ = q := ⟨_, rfl⟩
      obtain ⟨i1, hi1⟩ : ∃ q, i + 1 = q := ⟨_, rfl⟩
      rw [hib, hi1] at HN1
      obtain ⟨ib1, hib1⟩ : ∃ q, i1 * by_ = q := ⟨_, rfl⟩
      rw [hib1] at HN1
      obtain ⟨nv, hnv⟩ : ∃ q, nAt big s.data.toList ib by_ = q := ⟨_, rfl⟩
      rw [hnv] at HN1
      have m1 : (i : Int) * (by_ : Int) = (ib : Int) := by rw [← hib]; simp
      have m2 : (i1 : Int) * (by_ : Int) = (ib1 : Int) := by rw [← hib1]; simp
      have m3 : (i : Int) + 1 = (i1 : Int) := by omega
      have hle1 : ib ≤ ib1 := by rw [← hib, ← hib1]; exact Nat.mul_le_mul_right by_ (by omega)
      have hle2 : ib1 ≤ s.size := by rw [HS.out, ← hib1]; exact Nat.mul_le_mul_right by_ (by omega)
      have hs8 : s.size ≤ 8 := by
        rw [HS.out]
        rcases hb with h | h <;> rcases hsm with h2 | h2 | h2 <;> rw [h, h2] <;> decide
      have w1 : IntKind.i64.wrap (ib : Int) = (ib : Int) := by rw [IntKind.wrap_i64]; omega
      have w2 : IntKind.i64.wrap (ib1 : Int) = (ib1 : Int) := by rw [IntKind.wrap_i64]; omega
      have w3 : IntKind.i64.wrap (i1 : Int) = (i1 : Int) := by rw [IntKind.wrap_i64]; omega
      have l1 : (ib : Int) ≤ (ib1 : Int) := by omega
      have l2 : (ib1 : Int) ≤ (s.size : Int) := by omega
      have HFI : Hid ((by_ = 1 → f i = 257 * nv ∧ nv ≤ 255) ∧ (by_ = 2 → f i = nv)) := by
        refine ⟨fun h => ?_, fun h => ?_⟩
        · have e1 := HSN.out i
          rw [if_pos h] at e1
          rw [h, Nat.mul_one] at hib
          rw [← hib, h] at hnv
          have : nAt big s.data.toList i 1 < 256 := nAt_lt big s.data.toList i 1
          exact ⟨by rw [e1, hnv], by omega⟩
        · have e1 := HSN.out i
          rw [if_neg (by omega), hib, hnv] at e1
          exact e1
      have hnvb : nv ≤ 65535 := by
        have := HLE.out i
        rcases hb with h | h
        · have := HFI.out.1 h; omega
        · have := HFI.out.2 h; omega
      have x2 : wr.cell? ⟨B, 2, none⟩ = some (.int .i64 (by_ : Int)) := hk0.out.cell 2
      have x8 : wr.cell? ⟨B, 8, none⟩ = some (.bool big) := hk0.out.cell 8
      have i4 : (i : Int) < 4 := by omega
      have i0 : (0 : Int) ≤ (i : Int) := by omega
      obtain ⟨u0, hu0⟩ : ∃ u, cs[i]? = some u := ⟨_, Array.getElem?_eq_getElem (by have := hcs.out.1; omega)⟩
      have hc5 : wr.cell? ⟨B + 2, i, none⟩ = some u0 := (hk2.out.cell i).trans hu0
      have hf5 : wr.frozen? ⟨B + 2, i, none⟩ = false := hk2.out.frozen i
      have HK0 : Hid (Blk ((wr.setCell ⟨B + 2, i, none⟩ (.int .i64 (nv : Int))).drew) B 81 (hdA ⟨HW, HH, by_, sm, ph, al, ro, pk, big⟩)) := Blk.other (w := wr.drew) hk0.out (p := ⟨B + 2, i, none⟩) (by simp) _
      have HK1 : Hid (Blk ((wr.setCell ⟨B + 2, i, none⟩ (.int .i64 (nv : Int))).drew) (B + 1) 46 (pxC (0, 0, 0, 0))) := Blk.other (w := wr.drew) hk1.out (p := ⟨B + 2, i, none⟩) (by simp) _
      have HK2 : Hid (Blk ((wr.setCell ⟨B + 2, i, none⟩ (.int .i64 (nv : Int))).drew) (B + 2) 112 (cs.setIfInBounds i (.int .i64 (nv : Int)))) := Blk.put (w := wr.drew) hk2.out i _
      have HKB : Hid (Below B w ((wr.setCell ⟨B + 2, i, none⟩ (.int .i64 (nv : Int))).drew)) := below_put (w' := wr.drew) hbw.out.drew (p := ⟨B + 2, i, none⟩) (by simp) _
      have HLT := Lib.hid hlt
      clear hu0 hib hi1 hib1 hnv HNN hk0 hk1 hk2 hbw hlt
      go_upto_region 5 with fail
      go_still_tail 16, (by kernel_rfl)
      still_call (HN1.out _)
      repeat still_step
      refine wpStill_nil ?_
      go_upto_region 6 with fail
      generalize (wr.setCell ⟨B + 2, i, none⟩ (.int .i64 (nv : Int))).drew = wq at *
      clear hc5 hf5 x2 x8 m1 m2 m3 w1 w2 w3 l1 l2
      have x2 : wq.cell? ⟨B, 2, none⟩ = some (.int .i64 (by_ : Int)) := HK0.out.cell 2
      have hcs4 := hcs.out.1
      have HCS : Hid (∀ u : Int, u = (f i : Int) → ((cs.setIfInBounds i (.int .i64 u)).size = 4 ∧ ∀ j, j < i + 1 → (cs.setIfInBounds i (.int .i64 u))[j]? = some (.int .i64 (f j : Int)))) := by
        intro u hu
        refine ⟨by simpa using hcs4, fun j hj => ?_⟩
        by_cases hji : j = i
        · subst hji
          rw [Array.getElem?_setIfInBounds_self_of_lt (by omega), hu]
        · rw [Array.getElem?_setIfInBounds_ne (fun e => hji e.symm), hcs.out.2 j (by omega)]
      by_cases hb1 : by_ = 1
      · have e1 : ((by_ : Int) == 1) = true := by rw [hb1]; rfl
        have HFV := Lib.hid (HFI.out.1 hb1)
        have c5 : wq.cell? ⟨B + 2, i, none⟩ = some (.int .i64 (nv : Int)) := by
          rw [HK2.out.cell i, Array.getElem?_setIfInBounds_self_of_lt (by omega)]
        have f5 : wq.frozen? ⟨B + 2, i, none⟩ = false := HK2.out.frozen i
        have HF8 := Lib.hid (fun w => from8_any (nv : Int) w)
        have e8 : from8I (nv : Int) = (f i : Int) := by rw [from8I_nat nv HFV.out.2, HFV.out.1]
        rw [e8] at HF8
        have HL0 : Hid (Blk (wq.setCell ⟨B + 2, i, none⟩ (.int .i64 (f i : Int))) B 81 (hdA ⟨HW, HH, by_, sm, ph, al, ro, pk, big⟩)) := HK0.out.other (p := ⟨B + 2, i, none⟩) (by simp) _
        have HL1 : Hid (Blk (wq.setCell ⟨B + 2, i, none⟩ (.int .i64 (f i : Int))) (B + 1) 46 (pxC (0, 0, 0, 0))) := HK1.out.other (p := ⟨B + 2, i, none⟩) (by simp) _
        have HL2 : Hid (Blk (wq.setCell ⟨B + 2, i, none⟩ (.int .i64 (f i : Int))) (B + 2) 112 (cs.setIfInBounds i (.int .i64 (f i : Int)))) := by
          have := HK2.out.put i (.int .i64 (f i : Int))
          rw [Array.setIfInBounds_setIfInBounds] at this
          exact this
        have HLB : Hid (Below B w (wq.setCell ⟨B + 2, i, none⟩ (.int .i64 (f i : Int)))) := below_put HKB.out (p := ⟨B + 2, i, none⟩) (by simp) _
        have HC2 := Lib.hid (HCS.out _ rfl)
        clear hb1 HFV e8 HFI HK0 HK1 HK2 HKB HCS hcs hcs4
        go_wp2_with fail
        refine (HF8.out _).mono ?_
        rintro e wx ⟨rfl, rfl⟩
        go_wp2_with fail
        go_roundw
        case rel => exact ⟨i + 1, _, by go_num, by have := HLT.out; omega, HL0.out, HL1.out, HL2.out, HC2.out, HLB.out⟩
        case measure => have := HLT.out; simp [intOf]; omega
      · have e1 : ((by_ : Int) == 1) = false := by rw [beq_eq_false_iff_ne]; omega
        have HFV := Lib.hid (HFI.out.2 (by omega))
        have HC2 := Lib.hid (HCS.out (nv : Int) (by rw [HFV.out]))
        clear hb1 HFV HFI HCS hcs hcs4
        go_wp2_with fail
        go_roundw
        case rel => exact ⟨i + 1, _, by go_num, by have := HLT.out; omega, HK0.out, HK1.out, HK2.out, HC2.out, HKB.out⟩
        case measure => have := HLT.out; simp [intOf]; omega
    · have dlt : decide ((i : Int) < (sm : Int)) = false := by simp; omega
      have hin : i = sm := by omega
      rw [hin] at hcs
      clear hin HNN HSN
      have x3 : wr.cell? ⟨B, 3, none⟩ = some (.int .i64 (sm : Int)) := hk0.out.cell 3
      have x4 : wr.cell? ⟨B, 4, none⟩ = some (.int .i64 (ph : Int)) := hk0.out.cell 4
      have x5 : wr.cell? ⟨B, 5, none⟩ = some (.int .i64 (al : Int)) := hk0.out.cell 5
      have HCC : Hid (∀ j, j < sm → wr.cell? ⟨B + 2, j, none⟩ = some (.int .i64 (f j : Int))) := fun j hj => (hk2.out.cell j).trans (hcs.out.2 j hj)
      have hcs4 := hcs.out.1
      go_upto_region 9 with fail
      rcases hsm with hsm1 | hsm1 | hsm1
      · have c0 := HCC.out 0 (by omega)
        have HP2 : Hid (px = (if ph = 0 then 65535 - (f 0 : Int) else f 0, if ph = 0 then 65535 - (f 0 : Int) else f 0, if ph = 0 then 65535 - (f 0 : Int) else f 0, 65535)) := by show _ = _; rw [HPX.out, if_pos hsm1]
        have hf0 := HLE.out 0
        have e1 : ((sm : Int) == 1) = true := by rw [hsm1]; rfl
        by_cases hp : ph = 0
        · have e2 : ((ph : Int) == 0) = true := by rw [hp]; rfl
          have HP3 : Hid (px = (65535 - (f 0 : Int), 65535 - (f 0 : Int), 65535 - (f 0 : Int), 65535)) := by show _ = _; rw [HP2.out, if_pos hp]
          have f0 : wr.frozen? ⟨B + 2, 0, none⟩ = false := hk2.out.frozen 0
          have HL1 : Hid (Blk (wr.setCell ⟨B + 2, 0, none⟩ (.int .i64 (65535 - (f 0 : Int)))) (B + 1) 46 (pxC (0, 0, 0, 0))) := hk1.out.other (p := ⟨B + 2, 0, none⟩) (by simp) _
          have HL2 : Hid ((wr.setCell ⟨B + 2, 0, none⟩ (.int .i64 (65535 - (f 0 : Int)))).cell? ⟨B + 2, 0, none⟩ = some (.int .i64 (65535 - (f 0 : Int)))) := by
            show _ = _
            rw [(hk2.out.put 0 (.int .i64 (65535 - (f 0 : Int)))).cell 0, Array.getElem?_setIfInBounds_self_of_lt (by omega)]
          have HLB : Hid (Below B w (wr.setCell ⟨B + 2, 0, none⟩ (.int .i64 (65535 - (f 0 : Int))))) := below_put hbw.out (p := ⟨B + 2, 0, none⟩) (by simp) _
          clear HP2 hp hsm1 HCC hk0 hk1 hk2 hbw hcs4 hcs HPX HLE
          obtain ⟨g, hg⟩ : ∃ g : Int, 65535 - (f 0 : Int) = g := ⟨_, rfl⟩
          rw [hg] at HP3 HL1 HL2 HLB
          have hwg : IntKind.i64.wrap (65535 - (f 0 : Int)) = g := by rw [IntKind.wrap_i64]; omega
          go_upto_region 13 with fail
          try rw [hg]
          generalize wr.setCell ⟨B + 2, 0, none⟩ (.int .i64 g) = wq at *
          clear hg hwg c0 x3 x4 x5 f0
          have d0 : wq.cell? ⟨B + 2, 0, none⟩ = some (.int .i64 g) := HL2.out
          go_wp2_with (refine wpList_store_rowTo rfl 46 (.tmp 4) (.tmp 56) rfl rfl (B + 1) (pxC (g, g, g, 65535)) (by rfl) (by rfl) 46 (pxC (0, 0, 0, 0)) (by exact HL1.out) (pxC_inf _) rfl (pxC_one _) ?_)
          refine bodyPost_ret (v := .agg (pxC (g, g, g, 65535))) (results_cell_row rfl _ _ (B + 1) 46 (pxC (g, g, g, 65535)) (0, 0) _ rfl (HL1.out.rset _) Try.underlying46 rfl (pxC_inf _)) rfl ⟨?_, by rw [HB.out]; exact below_rset HLB.out (by omega) _⟩
          rw [HP3.out]
        · have e2 : ((ph : Int) == 0) = false := by rw [beq_eq_false_iff_ne]; omega
          have HP3 : Hid (px = ((f 0 : Int), (f 0 : Int), (f 0 : Int), 65535)) := by show _ = _; rw [HP2.out, if_neg hp]
          clear HP2 hp hsm1 HCC hk0 hk2 hcs4 hcs HPX HLE
          go_wp2_with (refine wpList_store_rowTo rfl 46 (.tmp 4) (.tmp 56) rfl rfl (B + 1) (pxC ((f 0 : Int), (f 0 : Int), (f 0 : Int), 65535)) (by rfl) (by rfl) 46 (pxC (0, 0, 0, 0)) (by exact hk1.out) (pxC_inf _) rfl (pxC_one _) ?_)
          refine bodyPost_ret (v := .agg (pxC ((f 0 : Int), (f 0 : Int), (f 0 : Int), 65535))) (results_cell_row rfl _ _ (B + 1) 46 (pxC ((f 0 : Int), (f 0 : Int), (f 0 : Int), 65535)) (0, 0) _ rfl (hk1.out.rset _) Try.underlying46 rfl (pxC_inf _)) rfl ⟨?_, by rw [HB.out]; exact below_rset hbw.out (by omega) _⟩
          rw [HP3.out]
      · have c0 := HCC.out 0 (by omega)
        have c1 := HCC.out 1 (by omega)
        have c2 := HCC.out 2 (by omega)
        have HP3 : Hid (px = ((f 0 : Int), (f 1 : Int), (f 2 : Int), 65535)) := by show _ = _; rw [HPX.out, if_neg (by omega), if_pos hsm1]
        have e1 : ((sm : Int) == 1) = false := by rw [hsm1]; rfl
        have e2 : ((sm : Int) == 3) = true := by rw [hsm1]; rfl
        clear hsm1 HCC hk0 hk2 hcs4 hcs HPX HLE
        go_wp2_with (refine wpList_store_rowTo rfl 46 (.tmp 4) (.tmp 65) rfl rfl (B + 1) (pxC ((f 0 : Int), (f 1 : Int), (f 2 : Int), 65535)) (by rfl) (by rfl) 46 (pxC (0, 0, 0, 0)) (by exact hk1.out) (pxC_inf _) rfl (pxC_one _) ?_)
        refine bodyPost_ret (v := .agg (pxC ((f 0 : Int), (f 1 : Int), (f 2 : Int), 65535))) (results_cell_row rfl _ _ (B + 1) 46 (pxC ((f 0 : Int), (f 1 : Int), (f 2 : Int), 65535)) (0, 0) _ rfl (hk1.out.rset _) Try.underlying46 rfl (pxC_inf _)) rfl ⟨?_, by rw [HB.out]; exact below_rset hbw.out (by omega) _⟩
        rw [HP3.out]
      · have c0 := HCC.out 0 (by omega)
        have c1 := HCC.out 1 (by omega)
        have c2 := HCC.out 2 (by omega)
        have c3 := HCC.out 3 (by omega)
        have HP2 : Hid (px = if al = 1 then straP ((f 0 : Int), (f 1 : Int), (f 2 : Int), (f 3 : Int)) else ((f 0 : Int), (f 1 : Int), (f 2 : Int), (f 3 : Int))) := by show _ = _; rw [HPX.out, if_neg (by omega), if_neg (by omega)]
        have e1 : ((sm : Int) == 1) = false := by rw [hsm1]; rfl
        have e2 : ((sm : Int) == 3) = false := by rw [hsm1]; rfl
        clear hsm1 HCC hk2 hcs4 hcs HPX HLE
        generalize (f 0 : Int) = g0 at *
        generalize (f 1 : Int) = g1 at *
        generalize (f 2 : Int) = g2 at *
        generalize (f 3 : Int) = g3 at *
        have hkn := Blk.new wr 46 #[.int .i64 g0, .int .i64 g1, .int .i64 g2, .int .i64 g3]
        have hk1n := hk1.out.alloc (.cells #[.int .i64 g0, .int .i64 g1, .int .i64 g2, .int .i64 g3] 46)
        have hk0n := hk0.out.alloc (.cells #[.int .i64 g0, .int .i64 g1, .int .i64 g2, .int .i64 g3] 46)
        have hbn := hbw.out.alloc (by have := hk0.out.lt; omega) (.cells #[.int .i64 g0, .int .i64 g1, .int .i64 g2, .int .i64 g3] 46)
        have hK : B + 1 < wr.heap.size := hk1.out.lt
        go_upto_region 17 with fail
        generalize wr.alloc (.cells #[.int .i64 g0, .int .i64 g1, .int .i64 g2, .int .i64 g3] 46) = wq at *
        have d0 : wq.cell? ⟨wr.heap.size, 0, none⟩ = some (.int .i64 g0) := hkn.cell 0
        have d1 : wq.cell? ⟨wr.heap.size, 1, none⟩ = some (.int .i64 g1) := hkn.cell 1
        have d2 : wq.cell? ⟨wr.heap.size, 2, none⟩ = some (.int .i64 g2) := hkn.cell 2
        have d3 : wq.cell? ⟨wr.heap.size, 3, none⟩ = some (.int .i64 g3) := hkn.cell 3
        have y5 : wq.cell? ⟨B, 5, none⟩ = some (.int .i64 (al : Int)) := hk0n.cell 5
        have HK1 := Lib.hid hk1n
        have HKN := Lib.hid hbn
        clear hkn hk1n hk0n hbn hk0 hk1 hbw c0 c1 c2 c3 x3 x4 x5
        generalize wr.heap.size = K at *
        by_cases ha : al = 1
        · have e3 : ((al : Int) == 1) = true := by rw [ha]; rfl
          have HP3 : Hid (px = straP (g0, g1, g2, g3)) := by show _ = _; rw [HP2.out, if_pos ha]
          have HST := Lib.hid (fun w => straight_any (g0, g1, g2, g3) w)
          rw [← HP3.out] at HST
          unfold pxC at HST
          simp only at HST
          clear ha HP2
          go_wp2_with fail
          refine (HST.out _).mono ?_
          rintro e w3 ⟨rfl, hb3⟩
          have HM1 : Hid (Blk w3 (B + 1) 46 (pxC (0, 0, 0, 0))) := (hb3.block _ HK1.out.lt).trans HK1.out
          have HMB : Hid (Below B w w3) := HKN.out.trans (hb3.mono (by have := HK1.out.lt; omega))
          obtain ⟨p0, p1, p2, p3⟩ := px
          simp only
          clear hb3 d0 d1 d2 d3 y5
          go_wp2_with (refine wpList_store_rowTo rfl 46 (.tmp 4) (.tmp 79) rfl rfl (B + 1) (pxC (p0, p1, p2, p3)) (by rfl) (by rfl) 46 (pxC (0, 0, 0, 0)) (by exact HM1.out) (pxC_inf _) rfl (pxC_one _) ?_)
          exact bodyPost_ret (v := .agg (pxC (p0, p1, p2, p3))) (results_cell_row rfl _ _ (B + 1) 46 (pxC (p0, p1, p2, p3)) (0, 0) _ rfl (HM1.out.rset _) Try.underlying46 rfl (pxC_inf _)) rfl ⟨rfl, by rw [HB.out]; exact below_rset HMB.out (by omega) _⟩
        · have e3 : ((al : Int) == 1) = false := by rw [beq_eq_false_iff_ne]; omega
          have HP3 : Hid (px = (g0, g1, g2, g3)) := by show _ = _; rw [HP2.out, if_neg ha]
          clear ha HP2
          go_wp2_with (refine wpList_store_rowTo rfl 46 (.tmp 4) (.tmp 80) rfl rfl (B + 1) (pxC (g0, g1, g2, g3)) (by rfl) (by rfl) 46 (pxC (0, 0, 0, 0)) (by exact HK1.out) (pxC_inf _) rfl (pxC_one _) ?_)
          refine bodyPost_ret (v := .agg (pxC (g0, g1, g2, g3))) (results_cell_row rfl _ _ (B + 1) 46 (pxC (g0, g1, g2, g3)) (0, 0) _ rfl (HK1.out.rset _) Try.underlying46 rfl (pxC_inf _)) rfl ⟨?_, by rw [HB.out]; exact below_rset HKN.out (by omega) _⟩
          rw [HP3.out]
end Go.Proofs.Ytakileiomgaahaa
