/-
  Walks: the law PamReturns.
-/
import Derived.Test.YtakkdgcmeeilbaaDoorE6
import Derived.Deep.RegionHeld3
import Derived.Deep.CutRange
namespace Go.Proofs.YtakkdgcmeeilbaaDoor
open Go.RowKit

theorem below_eq {c w' : World} {n : Nat} (h : w' = c.drewN n) : Below c.heap.size c w' := by rw [h]; exact below_drewN (Below.refl _ _) n

set_option maxHeartbeats 8000000 in
set_option maxRecDepth 100000 in
theorem lawReturns (v mv : Value) (w : World) (htab : Lib.TabIs Tryd.prog w "internal/strconv.uint64pow10" .u64 Lib.pow10Tab) (hv : IArg w v) (hm : MArg w mv) :
    Calls Tryd.prog 4 #[v, mv] w fun e w' => e = .returned (.bool true) ∧ Below w.heap.size w w' := by
  obtain ⟨W, H, pv, px, rfl, hp⟩ := hv
  obtain ⟨ms, hm, -⟩ := hm
  obtain ⟨x, c, rfl, -, hcp, -⟩ := id hp
  obtain ⟨xm, cm, rfl, -⟩ := id hm
  unfold maxLen at hcp
  have HA := Lib.hid (fun w h1 h2 h3 => pencode_run W H 16 (.slice x px.length c) (.slice xm ms.length cm) px ms w h1 h2 h3)
  have HB := Lib.hid (fun w h1 h2 h3 => pencode_run W H 8 (.slice x px.length c) (.slice xm ms.length cm) px ms w h1 h2 h3)
  have HEX := Lib.hid (fun w => example_any w)
  have HBK1 := Lib.hid (fun h => enc_back16 (W := W) (H := H) (px := px) (ms := ms) h)
  have HBK2 := Lib.hid (fun h wn hn h1 h2 => enc_back8 (W := W) (H := H) (px := px) (ms := ms) h wn hn h1 h2)
  generalize encS (encP W H px 16 ms) = s1 at *
  generalize encK (encP W H px 16 ms) = k1 at *
  generalize encS (encP W H px 8 ms) = s2 at *
  generalize encK (encP W H px 8 ms) = k2 at *
  have hba := (Below.refl w.heap.size w).alloc (Nat.le_refl _) (.cells #[.int .i64 W, .int .i64 H, .slice x px.length c] 24)
  have HP1 := Lib.hid (hp.below hba)
  have HM1 := Lib.hid (hm.below hba)
  have HT1 := Lib.hid (tab_below htab hba)
  have HK1 := Lib.hid (Blk.new w 24 #[.int .i64 W, .int .i64 H, .slice x px.length c])
  have HB1 := Lib.hid hba
  clear hp hm htab hba
  go_enter Tryd.func4, Tryd.ntmps4
  go_upto_region 1 with fail
  generalize w.alloc (.cells #[.int .i64 W, .int .i64 H, .slice x px.length c] 24) = wz at *
  generalize hB : w.heap.size = B at *
  have HBB := Lib.hid hB
  clear hB
  have y0 : wz.cell? ⟨B, 0, none⟩ = some (.int .i64 W) := HK1.out.cell 0
  have y1 : wz.cell? ⟨B, 1, none⟩ = some (.int .i64 H) := HK1.out.cell 1
  have y2 : wz.cell? ⟨B, 2, none⟩ = some (.slice x px.length c) := HK1.out.cell 2
  go_wp2_with fail
  refine (HA.out _ HP1.out HM1.out HT1.out).mono ?_
  rintro e w1 ⟨rfl, hb1⟩
  have HP2 := Lib.hid (HP1.out.below hb1)
  have HM2 := Lib.hid (HM1.out.below hb1)
  have HT2 := Lib.hid (tab_below HT1.out hb1)
  have HK2 : Hid (Blk w1 B 24 #[.int .i64 W, .int .i64 H, .slice x px.length c]) := (hb1.block _ HK1.out.lt).trans HK1.out
  have HB2 : Hid (Below B w w1) := HB1.out.trans (hb1.mono (by have := HK1.out.lt; omega))
  clear y0 y1 y2 hb1 HA HP1 HM1 HT1 HK1 HB1
  have y0 : w1.cell? ⟨B, 0, none⟩ = some (.int .i64 W) := HK2.out.cell 0
  have y1 : w1.cell? ⟨B, 1, none⟩ = some (.int .i64 H) := HK2.out.cell 1
  have y2 : w1.cell? ⟨B, 2, none⟩ = some (.slice x px.length c) := HK2.out.cell 2
  go_wp2_with fail
  refine (HB.out _ HP2.out HM2.out HT2.out).mono ?_
  rintro e w2 ⟨rfl, hb2⟩
  have HP3 := Lib.hid (HP2.out.below hb2)
  have HM3 := Lib.hid (HM2.out.below hb2)
  have HK3 : Hid (Blk w2 B 24 #[.int .i64 W, .int .i64 H, .slice x px.length c]) := (hb2.block _ HK2.out.lt).trans HK2.out
  have HB3 : Hid (Below B w w2) := HB2.out.trans (hb2.mono (by have := HK2.out.lt; omega))
  have HS3 : Hid (B ≤ w2.heap.size) := by have := HK3.out.lt; show _ ≤ _; omega
  clear y0 y1 y2 hb2 HB HP2 HM2 HT2 HK2 HB2
  by_cases hk1 : k1 = 0
  case neg =>
    have ek1 : ((k1 : Int) == 0) = false := by simp; omega
    have ek2 : ((k1 : Int) != 0) = true := by unfold bne; rw [ek1]; rfl
    go_wp2_with fail
    refine (HEX.out _).mono ?_
    rintro e w9 ⟨rfl, hb9⟩
    have HB9 : Hid (Below B w w9) := HB3.out.trans (hb9.mono HS3.out)
    clear hb9
    go_wp2_with fail
    go_ret
    exact ⟨rfl, by rw [HBB.out]; exact HB9.out⟩
  by_cases hk2 : k2 = 0
  case neg =>
    have ek1 : ((k1 : Int) != 0) = false := by rw [hk1]; rfl
    have ek2 : ((k2 : Int) == 0) = false := by simp; omega
    have ek3 : ((k2 : Int) != 0) = true := by unfold bne; rw [ek2]; rfl
    clear hk1
    go_wp2_with fail
    refine (HEX.out _).mono ?_
    rintro e w9 ⟨rfl, hb9⟩
    have HB9 : Hid (Below B w w9) := HB3.out.trans (hb9.mono HS3.out)
    clear hb9
    go_wp2_with fail
    go_ret
    exact ⟨rfl, by rw [HBB.out]; exact HB9.out⟩
  obtain ⟨wn, hn, rfl, rfl, hpl, hd1⟩ := HBK1.out hk1
  have hd2 := HBK2.out hk2 wn hn rfl rfl
  unfold Back at hd1 hd2
  have HD1 := Lib.hid hd1
  have HD2 := Lib.hid hd2
  have ek1 : ((k1 : Int) != 0) = false := by rw [hk1]; rfl
  have ek2 : ((k2 : Int) != 0) = false := by rw [hk2]; rfl
  clear hk1 hk2 hd1 hd2 HBK1 HBK2
  go_wp2_with fail
  refine (HD1.out _).mono ?_
  rintro e w3 ⟨⟨x1, c1, xm1, cm1, rfl, hp3, hm3⟩, hb3⟩
  have hba := (Below.refl w3.heap.size w3).alloc (Nat.le_refl _) (.cells #[.int .i64 (wn : Int), .int .i64 (hn : Int), .slice x1 px.length c1] 24)
  have hbb := hb3.alloc hb3.size (.cells #[.int .i64 (wn : Int), .int .i64 (hn : Int), .slice x1 px.length c1] 24)
  have HKA := Lib.hid (Blk.new w3 24 #[.int .i64 (wn : Int), .int .i64 (hn : Int), .slice x1 px.length c1])
  have HPA := Lib.hid (hp3.below hba)
  have HMA := Lib.hid (hm3.below hba)
  have HP4 := Lib.hid (HP3.out.below hbb)
  have HM4 := Lib.hid (HM3.out.below hbb)
  have HK4 : Hid (Blk (w3.alloc (.cells #[.int .i64 (wn : Int), .int .i64 (hn : Int), .slice x1 px.length c1] 24)) B 24 #[.int .i64 (wn : Int), .int .i64 (hn : Int), .slice x px.length c]) := (hbb.block _ HK3.out.lt).trans HK3.out
  have HB4 := Lib.hid (HB3.out.trans (hbb.mono HS3.out))
  have HS4 : Hid (B ≤ (w3.alloc (.cells #[.int .i64 (wn : Int), .int .i64 (hn : Int), .slice x1 px.length c1] 24)).heap.size) := by have := hbb.size; have := HS3.out; show _ ≤ _; omega
  clear hba hbb hp3 hm3 hb3 HP3 HM3 HK3 HB3 HS3 HD1
  go_upto_region 6 with fail
  generalize w3.alloc (.cells #[.int .i64 (wn : Int), .int .i64 (hn : Int), .slice x1 px.length c1] 24) = wa at *
  generalize w3.heap.size = K1 at *
  go_wp2_with fail
  refine (HD2.out _).mono ?_
  rintro e w4 ⟨⟨x2, c2, xm2, cm2, rfl, hp4, hm4⟩, hb4⟩
  have hba := (Below.refl w4.heap.size w4).alloc (Nat.le_refl _) (.cells #[.int .i64 (wn : Int), .int .i64 (hn : Int), .slice x2 px.length c2] 24)
  have hbb := hb4.alloc hb4.size (.cells #[.int .i64 (wn : Int), .int .i64 (hn : Int), .slice x2 px.length c2] 24)
  have HKB := Lib.hid (Blk.new w4 24 #[.int .i64 (wn : Int), .int .i64 (hn : Int), .slice x2 px.length c2])
  have HKC : Hid (Blk (w4.alloc (.cells #[.int .i64 (wn : Int), .int .i64 (hn : Int), .slice x2 px.length c2] 24)) K1 24 #[.int .i64 (wn : Int), .int .i64 (hn : Int), .slice x1 px.length c1]) := (hbb.block _ HKA.out.lt).trans HKA.out
  have HPC := Lib.hid (HPA.out.below hbb)
  have HR4 : Hid (RtS w (w4.alloc (.cells #[.int .i64 (wn : Int), .int .i64 (hn : Int), .slice x2 px.length c2] 24)) B w4.heap.size #[.int .i64 (wn : Int), .int .i64 (hn : Int), .slice x px.length c] #[.int .i64 (wn : Int), .int .i64 (hn : Int), .slice x2 px.length c2] (.slice x px.length c) (.slice x2 px.length c2) (.slice xm ms.length cm) (.slice xm1 ms.length cm1) (.slice xm2 ms.length cm2) px (px.map q8P) ms) := ⟨HB4.out.trans (hbb.mono HS4.out), Nat.le_trans HS4.out hbb.size, (hbb.block _ HK4.out.lt).trans HK4.out, HKB.out, HP4.out.below hbb, hp4.below hba, HM4.out.below hbb, HMA.out.below hbb, hm4.below hba⟩
  clear hba hbb hp4 hm4 hb4 HKA HPA HMA HP4 HM4 HK4 HB4 HS4 HD2 HKB
  go_upto_region 7 with fail
  generalize w4.alloc (.cells #[.int .i64 (wn : Int), .int .i64 (hn : Int), .slice x2 px.length c2] 24) = wb at *
  generalize w4.heap.size = K2 at *
  have a0 : wb.cell? ⟨K1, 0, none⟩ = some (.int .i64 (wn : Int)) := HKC.out.cell 0
  have a1 : wb.cell? ⟨K1, 1, none⟩ = some (.int .i64 (hn : Int)) := HKC.out.cell 1
  have a2 : wb.cell? ⟨K1, 2, none⟩ = some (.slice x1 px.length c1) := HKC.out.cell 2
  have y0 : wb.cell? ⟨B, 0, none⟩ = some (.int .i64 (wn : Int)) := HR4.out.ib.cell 0
  have y1 : wb.cell? ⟨B, 1, none⟩ = some (.int .i64 (hn : Int)) := HR4.out.ib.cell 1
  have y2 : wb.cell? ⟨B, 2, none⟩ = some (.slice x px.length c) := HR4.out.ib.cell 2
  have b0 : wb.cell? ⟨K2, 0, none⟩ = some (.int .i64 (wn : Int)) := HR4.out.bb.cell 0
  have b1 : wb.cell? ⟨K2, 1, none⟩ = some (.int .i64 (hn : Int)) := HR4.out.bb.cell 1
  have b2 : wb.cell? ⟨K2, 2, none⟩ = some (.slice x2 px.length c2) := HR4.out.bb.cell 2
  have HSA := Lib.hid (same_any (wn : Int) (hn : Int) _ _ px wb HPC.out HR4.out.pi)
  unfold imgI at HSA
  have HSM := Lib.hid (fun v1 v2 w h1 h2 => sameMeta_any v1 v2 ms w h1 h2)
  clear HKC HPC
  go_wp2_with fail
  refine HSA.out.mono ?_
  rintro e w5 ⟨rfl, hb5⟩
  have HR5 := Lib.hid (HR4.out.go hb5)
  clear a0 a1 a2 y0 y1 y2 b0 b1 b2 hb5 HSA HR4
  go_wp2_with fail
  refine (HSM.out _ _ _ HR5.out.m1 HR5.out.mi).mono ?_
  rintro e w6 ⟨rfl, hb6⟩
  have HR6 := Lib.hid (HR5.out.go hb6)
  clear hb6 HR5
  go_wp2_with fail
  refine (HSM.out _ _ _ HR6.out.m2 HR6.out.mi).mono ?_
  rintro e w7 ⟨rfl, hb7⟩
  have HR7 := Lib.hid (HR6.out.go hb7)
  clear hb7 HR6 HSM
  have y0 : w7.cell? ⟨B, 0, none⟩ = some (.int .i64 (wn : Int)) := HR7.out.ib.cell 0
  have y1 : w7.cell? ⟨B, 1, none⟩ = some (.int .i64 (hn : Int)) := HR7.out.ib.cell 1
  have y2 : w7.cell? ⟨B, 2, none⟩ = some (.slice x px.length c) := HR7.out.ib.cell 2
  have b0 : w7.cell? ⟨K2, 0, none⟩ = some (.int .i64 (wn : Int)) := HR7.out.bb.cell 0
  have b1 : w7.cell? ⟨K2, 1, none⟩ = some (.int .i64 (hn : Int)) := HR7.out.bb.cell 1
  have b2 : w7.cell? ⟨K2, 2, none⟩ = some (.slice x2 px.length c2) := HR7.out.bb.cell 2
  have eW : ((wn : Int) != (wn : Int)) = false := by simp
  have eH : ((hn : Int) != (hn : Int)) = false := by simp
  have eL : ((px.length : Int) != (px.length : Int)) = false := by simp
  go_wp2_with fail
  clear y0 y1 y2 b0 b1 b2 eW eH eL
  go_loopw [13] (fun vk wr => ∃ k : Nat, vk = .int .i64 k ∧ k ≤ px.length ∧ Hid (RtS w wr B K2 #[.int .i64 (wn : Int), .int .i64 (hn : Int), .slice x px.length c] #[.int .i64 (wn : Int), .int .i64 (hn : Int), .slice x2 px.length c2] (.slice x px.length c) (.slice x2 px.length c2) (.slice xm ms.length cm) (.slice xm1 ms.length cm1) (.slice xm2 ms.length cm2) px (px.map q8P) ms)) (fun vk _ => px.length - (intOf vk).toNat)
  case atStart => exact ⟨0, rfl, Nat.zero_le _, HR7.out⟩
  case round =>
    obtain ⟨k, rfl, hk, hR⟩ := hrel
    have y2 : wr.cell? ⟨B, 2, none⟩ = some (.slice x px.length c) := hR.out.ib.cell 2
    by_cases hlt : k < px.length
    · have dlt : decide ((k : Int) < (px.length : Int)) = true := by simp; omega
      have hne : px ≠ [] := by rintro rfl; simp at hlt
      have hpw := hR.out.pi
      obtain ⟨x', c', hv, -, -, -, hcl⟩ := hpw
      cases hv
      obtain ⟨b, off, rfl, hc⟩ := hcl hne
      obtain ⟨q1, q2, q3, q4⟩ := hc k hlt
      clear hcl hc
      have hkq : k < (px.map q8P).length := by simpa using hlt
      have HMQ : Hid ((px.map q8P)[k] = q8P px[k]) := by show _ = _; simp
      obtain ⟨p, hp⟩ : ∃ p, px[k] = p := ⟨_, rfl⟩
      rw [hp] at q1 q2 q3 q4 HMQ
      clear hp
      obtain ⟨pa, pb, pc, pq⟩ := p
      simp only at q1 q2 q3 q4
      have HRA := Lib.hid (hR.out.go ((Below.refl wr.heap.size wr).alloc (Nat.le_refl _) (.cells #[.int .i64 pa, .int .i64 pb, .int .i64 pc, .int .i64 pq] 36)))
      have HPX := Lib.hid (Blk.new wr 36 #[.int .i64 pa, .int .i64 pb, .int .i64 pc, .int .i64 pq])
      clear hR
      go_upto_region 13 with fail
      clear q1 q2 q3 q4 y2
      generalize wr.alloc (.cells #[.int .i64 pa, .int .i64 pb, .int .i64 pc, .int .i64 pq] 36) = wk at *
      generalize wr.heap.size = PB at *
      obtain ⟨f, hf⟩ : ∃ f : Int → Int, ∀ x, f x = 257 * to8I x := ⟨_, fun _ => rfl⟩
      have HT := Lib.hid (fun x w => rto8_any x w)
      have HF : Hid (∀ x w, Calls Tryd.prog 12 #[.int .i64 (to8I x)] w fun e w' => e = .returned (.int .i64 (f x)) ∧ w = w') := fun x w => by
        have := rfrom8_any (to8I x) w
        rw [clamp_to8] at this
        rw [hf]; exact this
      have HFE := Lib.hid hf
      clear hf
      have p0 : wk.cell? ⟨PB, 0, none⟩ = some (.int .i64 pa) := HPX.out.cell 0
      have p1 : wk.cell? ⟨PB, 1, none⟩ = some (.int .i64 pb) := HPX.out.cell 1
      have p2 : wk.cell? ⟨PB, 2, none⟩ = some (.int .i64 pc) := HPX.out.cell 2
      have p3 : wk.cell? ⟨PB, 3, none⟩ = some (.int .i64 pq) := HPX.out.cell 3
      go_cut [15] from 94 to 133 (fun v15 wx => ∃ Q : Nat, v15 = .pointer (some ⟨Q, 0, none⟩) ∧ Hid (Blk wx Q 36 #[.int .i64 (f pa), .int .i64 (f pb), .int .i64 (f pc), .int .i64 (f pq)]) ∧ Hid (wk.heap.size ≤ Q) ∧ Hid (Below wk.heap.size wk wx))
      case first =>
        have HW := Lib.hid ((Below.refl wk.heap.size wk).drew)
        have HP0 : Hid (Blk wk.drew PB 36 #[.int .i64 pa, .int .i64 pb, .int .i64 pc, .int .i64 pq]) := blk_go HPX.out ((Below.refl wk.heap.size wk).drew)
        have HBk := Lib.hid (Below.refl wk.drew.heap.size wk.drew)
        refine wp_region_noPanic ?_
        refine wp_region_held_drew (S := fun W => W.cell? ⟨PB, 0, none⟩ = some (.int .i64 pa) ∧ W.cell? ⟨PB, 1, none⟩ = some (.int .i64 pb) ∧ W.cell? ⟨PB, 2, none⟩ = some (.int .i64 pc) ∧ W.cell? ⟨PB, 3, none⟩ = some (.int .i64 pq)) (by kernel_rfl) ⟨HP0.out.cell 0, HP0.out.cell 1, HP0.out.cell 2, HP0.out.cell 3⟩ (fun hS => ?_)
        clear HPX p0 p1 p2 p3
        generalize wk.drew = w0 at *
        refine wpAnyH_take (i := 0) (oi := ⟨some 106, Op.fieldAddr 36 (Operand.tmp 14) 0, 0, _, _, none⟩) (v := ?v1) rfl (by kernel_rfl) (by kernel_rfl) (by kernel_rfl) (fun _ _ _ h => h) (Or.inl ⟨by rfl, ?y1⟩) hS ?r1
        case y1 => (intro w hSw; (try dsimp only at hSw); go_simp; try with_reducible rfl)
        try simp only [Act.put, List.setIfInBounds_toArray, List.set_cons_zero, List.set_cons_succ]
        refine wpAnyH_take (i := 1) (oi := ⟨some 107, Op.load 3 (Operand.tmp 106), 3, _, _, none⟩) (v := ?v2) rfl (by kernel_rfl) (by kernel_rfl) (by kernel_rfl) (fun _ _ _ h => h) (Or.inl ⟨by rfl, ?y2⟩) hS ?r2
        case y2 => (intro w hSw; (try dsimp only at hSw); go_simp; try with_reducible rfl)
        try simp only [Act.put, List.setIfInBounds_toArray, List.set_cons_zero, List.set_cons_succ]
        refine wpAnyH_take (i := 4) (oi := ⟨some 110, Op.fieldAddr 36 (Operand.tmp 14) 1, 0, _, _, none⟩) (v := ?v3) rfl (by kernel_rfl) (by kernel_rfl) (by kernel_rfl) (fun _ _ _ h => h) (Or.inl ⟨by rfl, ?y3⟩) hS ?r3
        case y3 => (intro w hSw; (try dsimp only at hSw); go_simp; try with_reducible rfl)
        try simp only [Act.put, List.setIfInBounds_toArray, List.set_cons_zero, List.set_cons_succ]
        refine wpAnyH_take (i := 5) (oi := ⟨some 111, Op.load 3 (Operand.tmp 110), 3, _, _, none⟩) (v := ?v4) rfl (by kernel_rfl) (by kernel_rfl) (by kernel_rfl) (fun _ _ _ h => h) (Or.inl ⟨by rfl, ?y4⟩) hS ?r4
        case y4 => (intro w hSw; (try dsimp only at hSw); go_simp; try with_reducible rfl)
        try simp only [Act.put, List.setIfInBounds_toArray, List.set_cons_zero, List.set_cons_succ]
        refine wpAnyH_take (i := 8) (oi := ⟨some 114, Op.fieldAddr 36 (Operand.tmp 14) 2, 0, _, _, none⟩) (v := ?v5) rfl (by kernel_rfl) (by kernel_rfl) (by kernel_rfl) (fun _ _ _ h => h) (Or.inl ⟨by rfl, ?y5⟩) hS ?r5
        case y5 => (intro w hSw; (try dsimp only at hSw); go_simp; try with_reducible rfl)
        try simp only [Act.put, List.setIfInBounds_toArray, List.set_cons_zero, List.set_cons_succ]
        refine wpAnyH_take (i := 9) (oi := ⟨some 115, Op.load 3 (Operand.tmp 114), 3, _, _, none⟩) (v := ?v6) rfl (by kernel_rfl) (by kernel_rfl) (by kernel_rfl) (fun _ _ _ h => h) (Or.inl ⟨by rfl, ?y6⟩) hS ?r6
        case y6 => (intro w hSw; (try dsimp only at hSw); go_simp; try with_reducible rfl)
        try simp only [Act.put, List.setIfInBounds_toArray, List.set_cons_zero, List.set_cons_succ]
        refine wpAnyH_take (i := 12) (oi := ⟨some 118, Op.fieldAddr 36 (Operand.tmp 14) 3, 0, _, _, none⟩) (v := ?v7) rfl (by kernel_rfl) (by kernel_rfl) (by kernel_rfl) (fun _ _ _ h => h) (Or.inl ⟨by rfl, ?y7⟩) hS ?r7
        case y7 => (intro w hSw; (try dsimp only at hSw); go_simp; try with_reducible rfl)
        try simp only [Act.put, List.setIfInBounds_toArray, List.set_cons_zero, List.set_cons_succ]
        refine wpAnyH_take (i := 13) (oi := ⟨some 119, Op.load 3 (Operand.tmp 118), 3, _, _, none⟩) (v := ?v8) rfl (by kernel_rfl) (by kernel_rfl) (by kernel_rfl) (fun _ _ _ h => h) (Or.inl ⟨by rfl, ?y8⟩) hS ?r8
        case y8 => (intro w hSw; (try dsimp only at hSw); go_simp; try with_reducible rfl)
        try simp only [Act.put, List.setIfInBounds_toArray, List.set_cons_zero, List.set_cons_succ]
        refine wpAnyH_ready (rs := [2, 17]) (by kernel_rfl) (by simp) ?_
        refine AllReadyH.cons (o := ⟨some 108, Op.call { callee := Callee.value (Operand.func 13), args := #[Operand.tmp 107], argTypes := #[3] }, 3, _, _, none⟩) rfl (fun K hK => ?_) (AllReadyH.cons (o := ⟨some 15, Op.alloc 36, 0, _, _, none⟩) rfl (fun K hK => ?_) AllReadyH.nil)
        · go_simp
          refine (HT.out pa _).mono ?_
          rintro e w1008 ⟨rfl, nX, hw⟩
          have hb := below_eq hw
          have HBk : Hid (Below w0.heap.size w0 w1008) := HBk.out.trans (hb.mono HBk.out.size)
          clear hw hb
          refine hK.out _ _ ⟨(blk_go HP0.out HBk.out).cell 0, (blk_go HP0.out HBk.out).cell 1, (blk_go HP0.out HBk.out).cell 2, (blk_go HP0.out HBk.out).cell 3⟩ (fun hS => ?_)
          clear hK K
          try simp only [Act.put, List.setIfInBounds_toArray, List.set_cons_zero, List.set_cons_succ]
          refine wpAnyH_ready (rs := [3, 17]) (by kernel_rfl) (by simp) ?_
          refine AllReadyH.cons (o := ⟨some 109, Op.call { callee := Callee.value (Operand.func 12), args := #[Operand.tmp 108], argTypes := #[3] }, 3, _, _, none⟩) rfl (fun K hK => ?_) (AllReadyH.cons (o := ⟨some 15, Op.alloc 36, 0, _, _, none⟩) rfl (fun K hK => ?_) AllReadyH.nil)
          · go_simp
            refine (HF.out pa _).mono ?_
            rintro e wE ⟨rfl, hw⟩
            subst hw
            refine hK.out _ _ ⟨(blk_go HP0.out HBk.out).cell 0, (blk_go HP0.out HBk.out).cell 1, (blk_go HP0.out HBk.out).cell 2, (blk_go HP0.out HBk.out).cell 3⟩ (fun hS => ?_)
            clear hK K
            try simp only [Act.put, List.setIfInBounds_toArray, List.set_cons_zero, List.set_cons_succ]
            refine wpAnyH_ready (rs := [6, 17]) (by kernel_rfl) (by simp) ?_
            refine AllReadyH.cons (o := ⟨some 112, Op.call { callee := Callee.value (Operand.func 13), args := #[Operand.tmp 111], argTypes := #[3] }, 3, _, _, none⟩) rfl (fun K hK => ?_) (AllReadyH.cons (o := ⟨some 15, Op.alloc 36, 0, _, _, none⟩) rfl (fun K hK => ?_) AllReadyH.nil)
            · go_simp
              refine (HT.out pb _).mono ?_
              rintro e w1009 ⟨rfl, nX, hw⟩
              have hb := below_eq hw
              have HBk : Hid (Below w0.heap.size w0 w1009) := HBk.out.trans (hb.mono HBk.out.size)
              clear hw hb
              refine hK.out _ _ ⟨(blk_go HP0.out HBk.out).cell 0, (blk_go HP0.out HBk.out).cell 1, (blk_go HP0.out HBk.out).cell 2, (blk_go HP0.out HBk.out).cell 3⟩ (fun hS => ?_)
              clear hK K
              try simp only [Act.put, List.setIfInBounds_toArray, List.set_cons_zero, List.set_cons_succ]
              refine wpAnyH_ready (rs := [7, 17]) (by kernel_rfl) (by simp) ?_
              refine AllReadyH.cons (o := ⟨some 113, Op.call { callee := Callee.value (Operand.func 12), args := #[Operand.tmp 112], argTypes := #[3] }, 3, _, _, none⟩) rfl (fun K hK => ?_) (AllReadyH.cons (o := ⟨some 15, Op.alloc 36, 0, _, _, none⟩) rfl (fun K hK => ?_) AllReadyH.nil)
              · go_simp
                refine (HF.out pb _).mono ?_
                rintro e wE ⟨rfl, hw⟩
                subst hw
                refine hK.out _ _ ⟨(blk_go HP0.out HBk.out).cell 0, (blk_go HP0.out HBk.out).cell 1, (blk_go HP0.out HBk.out).cell 2, (blk_go HP0.out HBk.out).cell 3⟩ (fun hS => ?_)
                clear hK K
                try simp only [Act.put, List.setIfInBounds_toArray, List.set_cons_zero, List.set_cons_succ]
                refine wpAnyH_ready (rs := [10, 17]) (by kernel_rfl) (by simp) ?_
                refine AllReadyH.cons (o := ⟨some 116, Op.call { callee := Callee.value (Operand.func 13), args := #[Operand.tmp 115], argTypes := #[3] }, 3, _, _, none⟩) rfl (fun K hK => ?_) (AllReadyH.cons (o := ⟨some 15, Op.alloc 36, 0, _, _, none⟩) rfl (fun K hK => ?_) AllReadyH.nil)
                · go_simp
                  refine (HT.out pc _).mono ?_
                  rintro e w1010 ⟨rfl, nX, hw⟩
                  have hb := below_eq hw
                  have HBk : Hid (Below w0.heap.size w0 w1010) := HBk.out.trans (hb.mono HBk.out.size)
                  clear hw hb
                  refine hK.out _ _ ⟨(blk_go HP0.out HBk.out).cell 0, (blk_go HP0.out HBk.out).cell 1, (blk_go HP0.out HBk.out).cell 2, (blk_go HP0.out HBk.out).cell 3⟩ (fun hS => ?_)
                  clear hK K
                  try simp only [Act.put, List.setIfInBounds_toArray, List.set_cons_zero, List.set_cons_succ]
                  refine wpAnyH_ready (rs := [11, 17]) (by kernel_rfl) (by simp) ?_
                  refine AllReadyH.cons (o := ⟨some 117, Op.call { callee := Callee.value (Operand.func 12), args := #[Operand.tmp 116], argTypes := #[3] }, 3, _, _, none⟩) rfl (fun K hK => ?_) (AllReadyH.cons (o := ⟨some 15, Op.alloc 36, 0, _, _, none⟩) rfl (fun K hK => ?_) AllReadyH.nil)
                  · go_simp
                    refine (HF.out pc _).mono ?_
                    rintro e wE ⟨rfl, hw⟩
                    subst hw
                    refine hK.out _ _ ⟨(blk_go HP0.out HBk.out).cell 0, (blk_go HP0.out HBk.out).cell 1, (blk_go HP0.out HBk.out).cell 2, (blk_go HP0.out HBk.out).cell 3⟩ (fun hS => ?_)
                    clear hK K
                    try simp only [Act.put, List.setIfInBounds_toArray, List.set_cons_zero, List.set_cons_succ]
                    refine wpAnyH_ready (rs := [14, 17]) (by kernel_rfl) (by simp) ?_
                    refine AllReadyH.cons (o := ⟨some 120, Op.call { callee := Callee.value (Operand.func 13), args := #[Operand.tmp 119], argTypes := #[3] }, 3, _, _, none⟩) rfl (fun K hK => ?_) (AllReadyH.cons (o := ⟨some 15, Op.alloc 36, 0, _, _, none⟩) rfl (fun K hK => ?_) AllReadyH.nil)
                    · go_simp
                      refine (HT.out pq _).mono ?_
                      rintro e w1011 ⟨rfl, nX, hw⟩
                      have hb := below_eq hw
                      have HBk : Hid (Below w0.heap.size w0 w1011) := HBk.out.trans (hb.mono HBk.out.size)
                      clear hw hb
                      refine hK.out _ _ ⟨(blk_go HP0.out HBk.out).cell 0, (blk_go HP0.out HBk.out).cell 1, (blk_go HP0.out HBk.out).cell 2, (blk_go HP0.out HBk.out).cell 3⟩ (fun hS => ?_)
                      clear hK K
                      try simp only [Act.put, List.setIfInBounds_toArray, List.set_cons_zero, List.set_cons_succ]
                      refine wpAnyH_ready (rs := [15, 17]) (by kernel_rfl) (by simp) ?_
                      refine AllReadyH.cons (o := ⟨some 121, Op.call { callee := Callee.value (Operand.func 12), args := #[Operand.tmp 120], argTypes := #[3] }, 3, _, _, none⟩) rfl (fun K hK => ?_) (AllReadyH.cons (o := ⟨some 15, Op.alloc 36, 0, _, _, none⟩) rfl (fun K hK => ?_) AllReadyH.nil)
                      · go_simp
                        refine (HF.out pq _).mono ?_
                        rintro e wE ⟨rfl, hw⟩
                        subst hw
                        refine hK.out _ _ ⟨(blk_go HP0.out HBk.out).cell 0, (blk_go HP0.out HBk.out).cell 1, (blk_go HP0.out HBk.out).cell 2, (blk_go HP0.out HBk.out).cell 3⟩ (fun hS => ?_)
                        clear hK K
                        try simp only [Act.put, List.setIfInBounds_toArray, List.set_cons_zero, List.set_cons_succ]
                        refine wpAnyH_take (i := 16) (oi := ⟨some 122, Op.build 36 #[(0, Operand.tmp 109), (1, Operand.tmp 113), (2, Operand.tmp 117), (3, Operand.tmp 121)], 36, _, _, none⟩) (v := ?v13) rfl (by kernel_rfl) (by kernel_rfl) (by kernel_rfl) (fun _ _ _ h => h) (Or.inl ⟨by rfl, ?y13⟩) hS ?r13
                        case y13 => (intro w hSw; (try dsimp only at hSw); go_simp; try with_reducible rfl)
                        try simp only [Act.put, List.setIfInBounds_toArray, List.set_cons_zero, List.set_cons_succ]
                        refine wpAnyH_ready (rs := [17]) (by kernel_rfl) (by simp) ?_
                        refine AllReadyH.cons (o := ⟨some 15, Op.alloc 36, 0, _, _, none⟩) rfl (fun K hK => ?_) AllReadyH.nil
                        go_simp
                        have HBk2 := Lib.hid (HBk.out.alloc HBk.out.size (.cells #[.int .i64 0, .int .i64 0, .int .i64 0, .int .i64 0] 36))
                        have HQ := Lib.hid (Blk.new w1011 36 #[.int .i64 0, .int .i64 0, .int .i64 0, .int .i64 0])
                        obtain ⟨Qn, hQn⟩ : ∃ Qn, Qn = w1011.heap.size := ⟨_, rfl⟩
                        have hQ0 : w0.heap.size ≤ Qn := by rw [hQn]; exact HBk.out.size
                        rw [← hQn] at HQ
                        refine hK.out _ _ ⟨(blk_go HP0.out HBk2.out).cell 0, (blk_go HP0.out HBk2.out).cell 1, (blk_go HP0.out HBk2.out).cell 2, (blk_go HP0.out HBk2.out).cell 3⟩ (fun hS => ?_)
                        clear hK K HBk
                        have HBk := HBk2
                        clear HBk2
                        generalize w1011.alloc (.cells #[.int .i64 0, .int .i64 0, .int .i64 0, .int .i64 0] 36) = w1013 at *
                        rw [← hQn]
                        clear hQn
                        try simp only [Act.put, List.setIfInBounds_toArray, List.set_cons_zero, List.set_cons_succ]
                        have q0 : w1013.cell? ⟨Qn, 0, none⟩ = some (.int .i64 0) := HQ.out.cell 0
                        have z0 := HQ.out.frozen 0
                        have q1 : w1013.cell? ⟨Qn, 1, none⟩ = some (.int .i64 0) := HQ.out.cell 1
                        have z1 := HQ.out.frozen 1
                        have q2 : w1013.cell? ⟨Qn, 2, none⟩ = some (.int .i64 0) := HQ.out.cell 2
                        have z2 := HQ.out.frozen 2
                        have q3 : w1013.cell? ⟨Qn, 3, none⟩ = some (.int .i64 0) := HQ.out.cell 3
                        have z3 := HQ.out.frozen 3
                        refine wpAnyH_ready (rs := [18]) (by kernel_rfl) (by simp) ?_
                        refine AllReadyH.cons (o := ⟨none, Op.store 36 (Operand.tmp 15) (Operand.tmp 122), 0, _, _, none⟩) rfl (fun K hK => ?_) AllReadyH.nil
                        go_simp
                        have HB2 := Lib.hid (below_put (below_put (below_put (below_put (HBk.out) (p := ⟨Qn, 0, none⟩) hQ0 (.int .i64 (f pa))) (p := ⟨Qn, 1, none⟩) hQ0 (.int .i64 (f pb))) (p := ⟨Qn, 2, none⟩) hQ0 (.int .i64 (f pc))) (p := ⟨Qn, 3, none⟩) hQ0 (.int .i64 (f pq)))
                        have HQ2 := Lib.hid ((((HQ.out.put 0 (.int .i64 (f pa))).put 1 (.int .i64 (f pb))).put 2 (.int .i64 (f pc))).put 3 (.int .i64 (f pq)))
                        refine hK.out _ _ ⟨(blk_go HP0.out HB2.out).cell 0, (blk_go HP0.out HB2.out).cell 1, (blk_go HP0.out HB2.out).cell 2, (blk_go HP0.out HB2.out).cell 3⟩ (fun hS => ?_)
                        clear hK K
                        try simp only [Act.put, List.setIfInBounds_toArray, List.set_cons_zero, List.set_cons_succ]
                        refine wpAnyH_done (by kernel_rfl) ?_ _
                        refine NoPanic.normal ?_
                        go_wp2_with fail
                        go_meet
                        case rel => exact ⟨Qn, rfl, HQ2.out, Nat.le_trans HW.out.size hQ0, HW.out.trans (HB2.out.mono HW.out.size)⟩
                      · go_simp
                        have HBk2 := Lib.hid (HBk.out.alloc HBk.out.size (.cells #[.int .i64 0, .int .i64 0, .int .i64 0, .int .i64 0] 36))
                        have HQ := Lib.hid (Blk.new w1011 36 #[.int .i64 0, .int .i64 0, .int .i64 0, .int .i64 0])
                        obtain ⟨Qn, hQn⟩ : ∃ Qn, Qn = w1011.heap.size := ⟨_, rfl⟩
                        have hQ0 : w0.heap.size ≤ Qn := by rw [hQn]; exact HBk.out.size
                        rw [← hQn] at HQ
                        refine hK.out _ _ ⟨(blk_go HP0.out HBk2.out).cell 0, (blk_go HP0.out HBk2.out).cell 1, (blk_go HP0.out HBk2.out).cell 2, (blk_go HP0.out HBk2.out).cell 3⟩ (fun hS => ?_)
                        clear hK K HBk
                        have HBk := HBk2
                        clear HBk2
                        generalize w1011.alloc (.cells #[.int .i64 0, .int .i64 0, .int .i64 0, .int .i64 0] 36) = w1014 at *
                        rw [← hQn]
                        clear hQn
                        try simp only [Act.put, List.setIfInBounds_toArray, List.set_cons_zero, List.set_cons_succ]
                        refine wpAnyH_ready (rs := [15]) (by kernel_rfl) (by simp) ?_
                        refine AllReadyH.cons (o := ⟨some 121, Op.call { callee := Callee.value (Operand.func 12), args := #[Operand.tmp 120], argTypes := #[3] }, 3, _, _, none⟩) rfl (fun K hK => ?_) AllReadyH.nil
                        go_simp
                        refine (HF.out pq _).mono ?_
                        rintro e wE ⟨rfl, hw⟩
                        subst hw
                        refine hK.out _ _ ⟨(blk_go HP0.out HBk.out).cell 0, (blk_go HP0.out HBk.out).cell 1, (blk_go HP0.out HBk.out).cell 2, (blk_go HP0.out HBk.out).cell 3⟩ (fun hS => ?_)
                        clear hK K
                        try simp only [Act.put, List.setIfInBounds_toArray, List.set_cons_zero, List.set_cons_succ]
                        refine wpAnyH_take (i := 16) (oi := ⟨some 122, Op.build 36 #[(0, Operand.tmp 109), (1, Operand.tmp 113), (2, Operand.tmp 117), (3, Operand.tmp 121)], 36, _, _, none⟩) (v := ?v16) rfl (by kernel_rfl) (by kernel_rfl) (by kernel_rfl) (fun _ _ _ h => h) (Or.inl ⟨by rfl, ?y16⟩) hS ?r16
                        case y16 => (intro w hSw; (try dsimp only at hSw); go_simp; try with_reducible rfl)
                        try simp only [Act.put, List.setIfInBounds_toArray, List.set_cons_zero, List.set_cons_succ]
                        have q0 : w1014.cell? ⟨Qn, 0, none⟩ = some (.int .i64 0) := HQ.out.cell 0
                        have z0 := HQ.out.frozen 0
                        have q1 : w1014.cell? ⟨Qn, 1, none⟩ = some (.int .i64 0) := HQ.out.cell 1
                        have z1 := HQ.out.frozen 1
                        have q2 : w1014.cell? ⟨Qn, 2, none⟩ = some (.int .i64 0) := HQ.out.cell 2
                        have z2 := HQ.out.frozen 2
                        have q3 : w1014.cell? ⟨Qn, 3, none⟩ = some (.int .i64 0) := HQ.out.cell 3
                        have z3 := HQ.out.frozen 3
                        refine wpAnyH_ready (rs := [18]) (by kernel_rfl) (by simp) ?_
                        refine AllReadyH.cons (o := ⟨none, Op.store 36 (Operand.tmp 15) (Operand.tmp 122), 0, _, _, none⟩) rfl (fun K hK => ?_) AllReadyH.nil
                        go_simp
                        have HB2 := Lib.hid (below_put (below_put (below_put (below_put (HBk.out) (p := ⟨Qn, 0, none⟩) hQ0 (.int .i64 (f pa))) (p := ⟨Qn, 1, none⟩) hQ0 (.int .i64 (f pb))) (p := ⟨Qn, 2, none⟩) hQ0 (.int .i64 (f pc))) (p := ⟨Qn, 3, none⟩) hQ0 (.int .i64 (f pq)))
                        have HQ2 := Lib.hid ((((HQ.out.put 0 (.int .i64 (f pa))).put 1 (.int .i64 (f pb))).put 2 (.int .i64 (f pc))).put 3 (.int .i64 (f pq)))
                        refine hK.out _ _ ⟨(blk_go HP0.out HB2.out).cell 0, (blk_go HP0.out HB2.out).cell 1, (blk_go HP0.out HB2.out).cell 2, (blk_go HP0.out HB2.out).cell 3⟩ (fun hS => ?_)
                        clear hK K
                        try simp only [Act.put, List.setIfInBounds_toArray, List.set_cons_zero, List.set_cons_succ]
                        refine wpAnyH_done (by kernel_rfl) ?_ _
                        refine NoPanic.normal ?_
                        go_wp2_with fail
                        go_meet
                        case rel => exact ⟨Qn, rfl, HQ2.out, Nat.le_trans HW.out.size hQ0, HW.out.trans (HB2.out.mono HW.out.size)⟩
                    · go_simp
                      have HBk2 := Lib.hid (HBk.out.alloc HBk.out.size (.cells #[.int .i64 0, .int .i64 0, .int .i64 0, .int .i64 0] 36))
                      have HQ := Lib.hid (Blk.new w1010 36 #[.int .i64 0, .int .i64 0, .int .i64 0, .int .i64 0])
                      obtain ⟨Qn, hQn⟩ : ∃ Qn, Qn = w1010.heap.size := ⟨_, rfl⟩
                      have hQ0 : w0.heap.size ≤ Qn := by rw [hQn]; exact HBk.out.size
                      rw [← hQn] at HQ
                      refine hK.out _ _ ⟨(blk_go HP0.out HBk2.out).cell 0, (blk_go HP0.out HBk2.out).cell 1, (blk_go HP0.out HBk2.out).cell 2, (blk_go HP0.out HBk2.out).cell 3⟩ (fun hS => ?_)
                      clear hK K HBk
                      have HBk := HBk2
                      clear HBk2
                      generalize w1010.alloc (.cells #[.int .i64 0, .int .i64 0, .int .i64 0, .int .i64 0] 36) = w1016 at *
                      rw [← hQn]
                      clear hQn
                      try simp only [Act.put, List.setIfInBounds_toArray, List.set_cons_zero, List.set_cons_succ]
                      refine wpAnyH_ready (rs := [14]) (by kernel_rfl) (by simp) ?_
                      refine AllReadyH.cons (o := ⟨some 120, Op.call { callee := Callee.value (Operand.func 13), args := #[Operand.tmp 119], argTypes := #[3] }, 3, _, _, none⟩) rfl (fun K hK => ?_) AllReadyH.nil
                      go_simp
                      refine (HT.out pq _).mono ?_
                      rintro e w1017 ⟨rfl, nX, hw⟩
                      have hb := below_eq hw
                      have HBk : Hid (Below w0.heap.size w0 w1017) := HBk.out.trans (hb.mono HBk.out.size)
                      have HQ : Hid (Blk w1017 Qn 36 #[.int .i64 0, .int .i64 0, .int .i64 0, .int .i64 0]) := blk_go HQ.out hb
                      clear hw hb
                      refine hK.out _ _ ⟨(blk_go HP0.out HBk.out).cell 0, (blk_go HP0.out HBk.out).cell 1, (blk_go HP0.out HBk.out).cell 2, (blk_go HP0.out HBk.out).cell 3⟩ (fun hS => ?_)
                      clear hK K
                      try simp only [Act.put, List.setIfInBounds_toArray, List.set_cons_zero, List.set_cons_succ]
                      refine wpAnyH_ready (rs := [15]) (by kernel_rfl) (by simp) ?_
                      refine AllReadyH.cons (o := ⟨some 121, Op.call { callee := Callee.value (Operand.func 12), args := #[Operand.tmp 120], argTypes := #[3] }, 3, _, _, none⟩) rfl (fun K hK => ?_) AllReadyH.nil
                      go_simp
                      refine (HF.out pq _).mono ?_
                      rintro e wE ⟨rfl, hw⟩
                      subst hw
                      refine hK.out _ _ ⟨(blk_go HP0.out HBk.out).cell 0, (blk_go HP0.out HBk.out).cell 1, (blk_go HP0.out HBk.out).cell 2, (blk_go HP0.out HBk.out).cell 3⟩ (fun hS => ?_)
                      clear hK K
                      try simp only [Act.put, List.setIfInBounds_toArray, List.set_cons_zero, List.set_cons_succ]
                      refine wpAnyH_take (i := 16) (oi := ⟨some 122, Op.build 36 #[(0, Operand.tmp 109), (1, Operand.tmp 113), (2, Operand.tmp 117), (3, Operand.tmp 121)], 36, _, _, none⟩) (v := ?v19) rfl (by kernel_rfl) (by kernel_rfl) (by kernel_rfl) (fun _ _ _ h => h) (Or.inl ⟨by rfl, ?y19⟩) hS ?r19
                      case y19 => (intro w hSw; (try dsimp only at hSw); go_simp; try with_reducible rfl)
                      try simp only [Act.put, List.setIfInBounds_toArray, List.set_cons_zero, List.set_cons_succ]
                      have q0 : w1017.cell? ⟨Qn, 0, none⟩ = some (.int .i64 0) := HQ.out.cell 0
                      have z0 := HQ.out.frozen 0
                      have q1 : w1017.cell? ⟨Qn, 1, none⟩ = some (.int .i64 0) := HQ.out.cell 1
                      have z1 := HQ.out.frozen 1
                      have q2 : w1017.cell? ⟨Qn, 2, none⟩ = some (.int .i64 0) := HQ.out.cell 2
                      have z2 := HQ.out.frozen 2
                      have q3 : w1017.cell? ⟨Qn, 3, none⟩ = some (.int .i64 0) := HQ.out.cell 3
                      have z3 := HQ.out.frozen 3
                      refine wpAnyH_ready (rs := [18]) (by kernel_rfl) (by simp) ?_
                      refine AllReadyH.cons (o := ⟨none, Op.store 36 (Operand.tmp 15) (Operand.tmp 122), 0, _, _, none⟩) rfl (fun K hK => ?_) AllReadyH.nil
                      go_simp
                      have HB2 := Lib.hid (below_put (below_put (below_put (below_put (HBk.out) (p := ⟨Qn, 0, none⟩) hQ0 (.int .i64 (f pa))) (p := ⟨Qn, 1, none⟩) hQ0 (.int .i64 (f pb))) (p := ⟨Qn, 2, none⟩) hQ0 (.int .i64 (f pc))) (p := ⟨Qn, 3, none⟩) hQ0 (.int .i64 (f pq)))
                      have HQ2 := Lib.hid ((((HQ.out.put 0 (.int .i64 (f pa))).put 1 (.int .i64 (f pb))).put 2 (.int .i64 (f pc))).put 3 (.int .i64 (f pq)))
                      refine hK.out _ _ ⟨(blk_go HP0.out HB2.out).cell 0, (blk_go HP0.out HB2.out).cell 1, (blk_go HP0.out HB2.out).cell 2, (blk_go HP0.out HB2.out).cell 3⟩ (fun hS => ?_)
                      clear hK K
                      try simp only [Act.put, List.setIfInBounds_toArray, List.set_cons_zero, List.set_cons_succ]
                      refine wpAnyH_done (by kernel_rfl) ?_ _
                      refine NoPanic.normal ?_
                      go_wp2_with fail
                      go_meet
                      case rel => exact ⟨Qn, rfl, HQ2.out, Nat.le_trans HW.out.size hQ0, HW.out.trans (HB2.out.mono HW.out.size)⟩
                  · go_simp
                    have HBk2 := Lib.hid (HBk.out.alloc HBk.out.size (.cells #[.int .i64 0, .int .i64 0, .int .i64 0, .int .i64 0] 36))
                    have HQ := Lib.hid (Blk.new w1010 36 #[.int .i64 0, .int .i64 0, .int .i64 0, .int .i64 0])
                    obtain ⟨Qn, hQn⟩ : ∃ Qn, Qn = w1010.heap.size := ⟨_, rfl⟩
                    have hQ0 : w0.heap.size ≤ Qn := by rw [hQn]; exact HBk.out.size
                    rw [← hQn] at HQ
                    refine hK.out _ _ ⟨(blk_go HP0.out HBk2.out).cell 0, (blk_go HP0.out HBk2.out).cell 1, (blk_go HP0.out HBk2.out).cell 2, (blk_go HP0.out HBk2.out).cell 3⟩ (fun hS => ?_)
                    clear hK K HBk
                    have HBk := HBk2
                    clear HBk2
                    generalize w1010.alloc (.cells #[.int .i64 0, .int .i64 0, .int .i64 0, .int .i64 0] 36) = w1019 at *
                    rw [← hQn]
                    clear hQn
                    try simp only [Act.put, List.setIfInBounds_toArray, List.set_cons_zero, List.set_cons_succ]
                    refine wpAnyH_ready (rs := [11]) (by kernel_rfl) (by simp) ?_
                    refine AllReadyH.cons (o := ⟨some 117, Op.call { callee := Callee.value (Operand.func 12), args := #[Operand.tmp 116], argTypes := #[3] }, 3, _, _, none⟩) rfl (fun K hK => ?_) AllReadyH.nil
                    go_simp
                    refine (HF.out pc _).mono ?_
                    rintro e wE ⟨rfl, hw⟩
                    subst hw
                    refine hK.out _ _ ⟨(blk_go HP0.out HBk.out).cell 0, (blk_go HP0.out HBk.out).cell 1, (blk_go HP0.out HBk.out).cell 2, (blk_go HP0.out HBk.out).cell 3⟩ (fun hS => ?_)
                    clear hK K
                    try simp only [Act.put, List.setIfInBounds_toArray, List.set_cons_zero, List.set_cons_succ]
                    refine wpAnyH_ready (rs := [14]) (by kernel_rfl) (by simp) ?_
                    refine AllReadyH.cons (o := ⟨some 120, Op.call { callee := Callee.value (Operand.func 13), args := #[Operand.tmp 119], argTypes := #[3] }, 3, _, _, none⟩) rfl (fun K hK => ?_) AllReadyH.nil
                    go_simp
                    refine (HT.out pq _).mono ?_
                    rintro e w1020 ⟨rfl, nX, hw⟩
                    have hb := below_eq hw
                    have HBk : Hid (Below w0.heap.size w0 w1020) := HBk.out.trans (hb.mono HBk.out.size)
                    have HQ : Hid (Blk w1020 Qn 36 #[.int .i64 0, .int .i64 0, .int .i64 0, .int .i64 0]) := blk_go HQ.out hb
                    clear hw hb
                    refine hK.out _ _ ⟨(blk_go HP0.out HBk.out).cell 0, (blk_go HP0.out HBk.out).cell 1, (blk_go HP0.out HBk.out).cell 2, (blk_go HP0.out HBk.out).cell 3⟩ (fun hS => ?_)
                    clear hK K
                    try simp only [Act.put, List.setIfInBounds_toArray, List.set_cons_zero, List.set_cons_succ]
                    refine wpAnyH_ready (rs := [15]) (by kernel_rfl) (by simp) ?_
                    refine AllReadyH.cons (o := ⟨some 121, Op.call { callee := Callee.value (Operand.func 12), args := #[Operand.tmp 120], argTypes := #[3] }, 3, _, _, none⟩) rfl (fun K hK => ?_) AllReadyH.nil
                    go_simp
                    refine (HF.out pq _).mono ?_
                    rintro e wE ⟨rfl, hw⟩
                    subst hw
                    refine hK.out _ _ ⟨(blk_go HP0.out HBk.out).cell 0, (blk_go HP0.out HBk.out).cell 1, (blk_go HP0.out HBk.out).cell 2, (blk_go HP0.out HBk.out).cell 3⟩ (fun hS => ?_)
                    clear hK K
                    try simp only [Act.put, List.setIfInBounds_toArray, List.set_cons_zero, List.set_cons_succ]
                    refine wpAnyH_take (i := 16) (oi := ⟨some 122, Op.build 36 #[(0, Operand.tmp 109), (1, Operand.tmp 113), (2, Operand.tmp 117), (3, Operand.tmp 121)], 36, _, _, none⟩) (v := ?v22) rfl (by kernel_rfl) (by kernel_rfl) (by kernel_rfl) (fun _ _ _ h => h) (Or.inl ⟨by rfl, ?y22⟩) hS ?r22
                    case y22 => (intro w hSw; (try dsimp only at hSw); go_simp; try with_reducible rfl)
                    try simp only [Act.put, List.setIfInBounds_toArray, List.set_cons_zero, List.set_cons_succ]
                    have q0 : w1020.cell? ⟨Qn, 0, none⟩ = some (.int .i64 0) := HQ.out.cell 0
                    have z0 := HQ.out.frozen 0
                    have q1 : w1020.cell? ⟨Qn, 1, none⟩ = some (.int .i64 0) := HQ.out.cell 1
                    have z1 := HQ.out.frozen 1
                    have q2 : w1020.cell? ⟨Qn, 2, none⟩ = some (.int .i64 0) := HQ.out.cell 2
                    have z2 := HQ.out.frozen 2
                    have q3 : w1020.cell? ⟨Qn, 3, none⟩ = some (.int .i64 0) := HQ.out.cell 3
                    have z3 := HQ.out.frozen 3
                    refine wpAnyH_ready (rs := [18]) (by kernel_rfl) (by simp) ?_
                    refine AllReadyH.cons (o := ⟨none, Op.store 36 (Operand.tmp 15) (Operand.tmp 122), 0, _, _, none⟩) rfl (fun K hK => ?_) AllReadyH.nil
                    go_simp
                    have HB2 := Lib.hid (below_put (below_put (below_put (below_put (HBk.out) (p := ⟨Qn, 0, none⟩) hQ0 (.int .i64 (f pa))) (p := ⟨Qn, 1, none⟩) hQ0 (.int .i64 (f pb))) (p := ⟨Qn, 2, none⟩) hQ0 (.int .i64 (f pc))) (p := ⟨Qn, 3, none⟩) hQ0 (.int .i64 (f pq)))
                    have HQ2 := Lib.hid ((((HQ.out.put 0 (.int .i64 (f pa))).put 1 (.int .i64 (f pb))).put 2 (.int .i64 (f pc))).put 3 (.int .i64 (f pq)))
                    refine hK.out _ _ ⟨(blk_go HP0.out HB2.out).cell 0, (blk_go HP0.out HB2.out).cell 1, (blk_go HP0.out HB2.out).cell 2, (blk_go HP0.out HB2.out).cell 3⟩ (fun hS => ?_)
                    clear hK K
                    try simp only [Act.put, List.setIfInBounds_toArray, List.set_cons_zero, List.set_cons_succ]
                    refine wpAnyH_done (by kernel_rfl) ?_ _
                    refine NoPanic.normal ?_
                    go_wp2_with fail
                    go_meet
                    case rel => exact ⟨Qn, rfl, HQ2.out, Nat.le_trans HW.out.size hQ0, HW.out.trans (HB2.out.mono HW.out.size)⟩
                · go_simp
                  have HBk2 := Lib.hid (HBk.out.alloc HBk.out.size (.cells #[.int .i64 0, .int .i64 0, .int .i64 0, .int .i64 0] 36))
                  have HQ := Lib.hid (Blk.new w1009 36 #[.int .i64 0, .int .i64 0, .int .i64 0, .int .i64 0])
                  obtain ⟨Qn, hQn⟩ : ∃ Qn, Qn = w1009.heap.size := ⟨_, rfl⟩
                  have hQ0 : w0.heap.size ≤ Qn := by rw [hQn]; exact HBk.out.size
                  rw [← hQn] at HQ
                  refine hK.out _ _ ⟨(blk_go HP0.out HBk2.out).cell 0, (blk_go HP0.out HBk2.out).cell 1, (blk_go HP0.out HBk2.out).cell 2, (blk_go HP0.out HBk2.out).cell 3⟩ (fun hS => ?_)
                  clear hK K HBk
                  have HBk := HBk2
                  clear HBk2
                  generalize w1009.alloc (.cells #[.int .i64 0, .int .i64 0, .int .i64 0, .int .i64 0] 36) = w1022 at *
                  rw [← hQn]
                  clear hQn
                  try simp only [Act.put, List.setIfInBounds_toArray, List.set_cons_zero, List.set_cons_succ]
                  refine wpAnyH_ready (rs := [10]) (by kernel_rfl) (by simp) ?_
                  refine AllReadyH.cons (o := ⟨some 116, Op.call { callee := Callee.value (Operand.func 13), args := #[Operand.tmp 115], argTypes := #[3] }, 3, _, _, none⟩) rfl (fun K hK => ?_) AllReadyH.nil
                  go_simp
                  refine (HT.out pc _).mono ?_
                  rintro e w1023 ⟨rfl, nX, hw⟩
                  have hb := below_eq hw
                  have HBk : Hid (Below w0.heap.size w0 w1023) := HBk.out.trans (hb.mono HBk.out.size)
                  have HQ : Hid (Blk w1023 Qn 36 #[.int .i64 0, .int .i64 0, .int .i64 0, .int .i64 0]) := blk_go HQ.out hb
                  clear hw hb
                  refine hK.out _ _ ⟨(blk_go HP0.out HBk.out).cell 0, (blk_go HP0.out HBk.out).cell 1, (blk_go HP0.out HBk.out).cell 2, (blk_go HP0.out HBk.out).cell 3⟩ (fun hS => ?_)
                  clear hK K
                  try simp only [Act.put, List.setIfInBounds_toArray, List.set_cons_zero, List.set_cons_succ]
                  refine wpAnyH_ready (rs := [11]) (by kernel_rfl) (by simp) ?_
                  refine AllReadyH.cons (o := ⟨some 117, Op.call { callee := Callee.value (Operand.func 12), args := #[Operand.tmp 116], argTypes := #[3] }, 3, _, _, none⟩) rfl (fun K hK => ?_) AllReadyH.nil
                  go_simp
                  refine (HF.out pc _).mono ?_
                  rintro e wE ⟨rfl, hw⟩
                  subst hw
                  refine hK.out _ _ ⟨(blk_go HP0.out HBk.out).cell 0, (blk_go HP0.out HBk.out).cell 1, (blk_go HP0.out HBk.out).cell 2, (blk_go HP0.out HBk.out).cell 3⟩ (fun hS => ?_)
                  clear hK K
                  try simp only [Act.put, List.setIfInBounds_toArray, List.set_cons_zero, List.set_cons_succ]
                  refine wpAnyH_ready (rs := [14]) (by kernel_rfl) (by simp) ?_
                  refine AllReadyH.cons (o := ⟨some 120, Op.call { callee := Callee.value (Operand.func 13), args := #[Operand.tmp 119], argTypes := #[3] }, 3, _, _, none⟩) rfl (fun K hK => ?_) AllReadyH.nil
                  go_simp
                  refine (HT.out pq _).mono ?_
                  rintro e w1024 ⟨rfl, nX, hw⟩
                  have hb := below_eq hw
                  have HBk : Hid (Below w0.heap.size w0 w1024) := HBk.out.trans (hb.mono HBk.out.size)
                  have HQ : Hid (Blk w1024 Qn 36 #[.int .i64 0, .int .i64 0, .int .i64 0, .int .i64 0]) := blk_go HQ.out hb
                  clear hw hb
                  refine hK.out _ _ ⟨(blk_go HP0.out HBk.out).cell 0, (blk_go HP0.out HBk.out).cell 1, (blk_go HP0.out HBk.out).cell 2, (blk_go HP0.out HBk.out).cell 3⟩ (fun hS => ?_)
                  clear hK K
                  try simp only [Act.put, List.setIfInBounds_toArray, List.set_cons_zero, List.set_cons_succ]
                  refine wpAnyH_ready (rs := [15]) (by kernel_rfl) (by simp) ?_
                  refine AllReadyH.cons (o := ⟨some 121, Op.call { callee := Callee.value (Operand.func 12), args := #[Operand.tmp 120], argTypes := #[3] }, 3, _, _, none⟩) rfl (fun K hK => ?_) AllReadyH.nil
                  go_simp
                  refine (HF.out pq _).mono ?_
                  rintro e wE ⟨rfl, hw⟩
                  subst hw
                  refine hK.out _ _ ⟨(blk_go HP0.out HBk.out).cell 0, (blk_go HP0.out HBk.out).cell 1, (blk_go HP0.out HBk.out).cell 2, (blk_go HP0.out HBk.out).cell 3⟩ (fun hS => ?_)
                  clear hK K
                  try simp only [Act.put, List.setIfInBounds_toArray, List.set_cons_zero, List.set_cons_succ]
                  refine wpAnyH_take (i := 16) (oi := ⟨some 122, Op.build 36 #[(0, Operand.tmp 109), (1, Operand.tmp 113), (2, Operand.tmp 117), (3, Operand.tmp 121)], 36, _, _, none⟩) (v := ?v26) rfl (by kernel_rfl) (by kernel_rfl) (by kernel_rfl) (fun _ _ _ h => h) (Or.inl ⟨by rfl, ?y26⟩) hS ?r26
                  case y26 => (intro w hSw; (try dsimp only at hSw); go_simp; try with_reducible rfl)
                  try simp only [Act.put, List.setIfInBounds_toArray, List.set_cons_zero, List.set_cons_succ]
                  have q0 : w1024.cell? ⟨Qn, 0, none⟩ = some (.int .i64 0) := HQ.out.cell 0
                  have z0 := HQ.out.frozen 0
                  have q1 : w1024.cell? ⟨Qn, 1, none⟩ = some (.int .i64 0) := HQ.out.cell 1
                  have z1 := HQ.out.frozen 1
                  have q2 : w1024.cell? ⟨Qn, 2, none⟩ = some (.int .i64 0) := HQ.out.cell 2
                  have z2 := HQ.out.frozen 2
                  have q3 : w1024.cell? ⟨Qn, 3, none⟩ = some (.int .i64 0) := HQ.out.cell 3
                  have z3 := HQ.out.frozen 3
                  refine wpAnyH_ready (rs := [18]) (by kernel_rfl) (by simp) ?_
                  refine AllReadyH.cons (o := ⟨none, Op.store 36 (Operand.tmp 15) (Operand.tmp 122), 0, _, _, none⟩) rfl (fun K hK => ?_) AllReadyH.nil
                  go_simp
                  have HB2 := Lib.hid (below_put (below_put (below_put (below_put (HBk.out) (p := ⟨Qn, 0, none⟩) hQ0 (.int .i64 (f pa))) (p := ⟨Qn, 1, none⟩) hQ0 (.int .i64 (f pb))) (p := ⟨Qn, 2, none⟩) hQ0 (.int .i64 (f pc))) (p := ⟨Qn, 3, none⟩) hQ0 (.int .i64 (f pq)))
                  have HQ2 := Lib.hid ((((HQ.out.put 0 (.int .i64 (f pa))).put 1 (.int .i64 (f pb))).put 2 (.int .i64 (f pc))).put 3 (.int .i64 (f pq)))
                  refine hK.out _ _ ⟨(blk_go HP0.out HB2.out).cell 0, (blk_go HP0.out HB2.out).cell 1, (blk_go HP0.out HB2.out).cell 2, (blk_go HP0.out HB2.out).cell 3⟩ (fun hS => ?_)
                  clear hK K
                  try simp only [Act.put, List.setIfInBounds_toArray, List.set_cons_zero, List.set_cons_succ]
                  refine wpAnyH_done (by kernel_rfl) ?_ _
                  refine NoPanic.normal ?_
                  go_wp2_with fail
                  go_meet
                  case rel => exact ⟨Qn, rfl, HQ2.out, Nat.le_trans HW.out.size hQ0, HW.out.trans (HB2.out.mono HW.out.size)⟩
              · go_simp
                have HBk2 := Lib.hid (HBk.out.alloc HBk.out.size (.cells #[.int .i64 0, .int .i64 0, .int .i64 0, .int .i64 0] 36))
                have HQ := Lib.hid (Blk.new w1009 36 #[.int .i64 0, .int .i64 0, .int .i64 0, .int .i64 0])
                obtain ⟨Qn, hQn⟩ : ∃ Qn, Qn = w1009.heap.size := ⟨_, rfl⟩
                have hQ0 : w0.heap.size ≤ Qn := by rw [hQn]; exact HBk.out.size
                rw [← hQn] at HQ
                refine hK.out _ _ ⟨(blk_go HP0.out HBk2.out).cell 0, (blk_go HP0.out HBk2.out).cell 1, (blk_go HP0.out HBk2.out).cell 2, (blk_go HP0.out HBk2.out).cell 3⟩ (fun hS => ?_)
                clear hK K HBk
                have HBk := HBk2
                clear HBk2
                generalize w1009.alloc (.cells #[.int .i64 0, .int .i64 0, .int .i64 0, .int .i64 0] 36) = w1026 at *
                rw [← hQn]
                clear hQn
                try simp only [Act.put, List.setIfInBounds_toArray, List.set_cons_zero, List.set_cons_succ]
                refine wpAnyH_ready (rs := [7]) (by kernel_rfl) (by simp) ?_
                refine AllReadyH.cons (o := ⟨some 113, Op.call { callee := Callee.value (Operand.func 12), args := #[Operand.tmp 112], argTypes := #[3] }, 3, _, _, none⟩) rfl (fun K hK => ?_) AllReadyH.nil
                go_simp
                refine (HF.out pb _).mono ?_
                rintro e wE ⟨rfl, hw⟩
                subst hw
                refine hK.out _ _ ⟨(blk_go HP0.out HBk.out).cell 0, (blk_go HP0.out HBk.out).cell 1, (blk_go HP0.out HBk.out).cell 2, (blk_go HP0.out HBk.out).cell 3⟩ (fun hS => ?_)
                clear hK K
                try simp only [Act.put, List.setIfInBounds_toArray, List.set_cons_zero, List.set_cons_succ]
                refine wpAnyH_ready (rs := [10]) (by kernel_rfl) (by simp) ?_
                refine AllReadyH.cons (o := ⟨some 116, Op.call { callee := Callee.value (Operand.func 13), args := #[Operand.tmp 115], argTypes := #[3] }, 3, _, _, none⟩) rfl (fun K hK => ?_) AllReadyH.nil
                go_simp
                refine (HT.out pc _).mono ?_
                rintro e w1027 ⟨rfl, nX, hw⟩
                have hb := below_eq hw
                have HBk : Hid (Below w0.heap.size w0 w1027) := HBk.out.trans (hb.mono HBk.out.size)
                have HQ : Hid (Blk w1027 Qn 36 #[.int .i64 0, .int .i64 0, .int .i64 0, .int .i64 0]) := blk_go HQ.out hb
                clear hw hb
                refine hK.out _ _ ⟨(blk_go HP0.out HBk.out).cell 0, (blk_go HP0.out HBk.out).cell 1, (blk_go HP0.out HBk.out).cell 2, (blk_go HP0.out HBk.out).cell 3⟩ (fun hS => ?_)
                clear hK K
                try simp only [Act.put, List.setIfInBounds_toArray, List.set_cons_zero, List.set_cons_succ]
                refine wpAnyH_ready (rs := [11]) (by kernel_rfl) (by simp) ?_
                refine AllReadyH.cons (o := ⟨some 117, Op.call { callee := Callee.value (Operand.func 12), args := #[Operand.tmp 116], argTypes := #[3] }, 3, _, _, none⟩) rfl (fun K hK => ?_) AllReadyH.nil
                go_simp
                refine (HF.out pc _).mono ?_
                rintro e wE ⟨rfl, hw⟩
                subst hw
                refine hK.out _ _ ⟨(blk_go HP0.out HBk.out).cell 0, (blk_go HP0.out HBk.out).cell 1, (blk_go HP0.out HBk.out).cell 2, (blk_go HP0.out HBk.out).cell 3⟩ (fun hS => ?_)
                clear hK K
                try simp only [Act.put, List.setIfInBounds_toArray, List.set_cons_zero, List.set_cons_succ]
                refine wpAnyH_ready (rs := [14]) (by kernel_rfl) (by simp) ?_
                refine AllReadyH.cons (o := ⟨some 120, Op.call { callee := Callee.value (Operand.func 13), args := #[Operand.tmp 119], argTypes := #[3] }, 3, _, _, none⟩) rfl (fun K hK => ?_) AllReadyH.nil
                go_simp
                refine (HT.out pq _).mono ?_
                rintro e w1028 ⟨rfl, nX, hw⟩
                have hb := below_eq hw
                have HBk : Hid (Below w0.heap.size w0 w1028) := HBk.out.trans (hb.mono HBk.out.size)
                have HQ : Hid (Blk w1028 Qn 36 #[.int .i64 0, .int .i64 0, .int .i64 0, .int .i64 0]) := blk_go HQ.out hb
                clear hw hb
                refine hK.out _ _ ⟨(blk_go HP0.out HBk.out).cell 0, (blk_go HP0.out HBk.out).cell 1, (blk_go HP0.out HBk.out).cell 2, (blk_go HP0.out HBk.out).cell 3⟩ (fun hS => ?_)
                clear hK K
                try simp only [Act.put, List.setIfInBounds_toArray, List.set_cons_zero, List.set_cons_succ]
                refine wpAnyH_ready (rs := [15]) (by kernel_rfl) (by simp) ?_
                refine AllReadyH.cons (o := ⟨some 121, Op.call { callee := Callee.value (Operand.func 12), args := #[Operand.tmp 120], argTypes := #[3] }, 3, _, _, none⟩) rfl (fun K hK => ?_) AllReadyH.nil
                go_simp
                refine (HF.out pq _).mono ?_
                rintro e wE ⟨rfl, hw⟩
                subst hw
                refine hK.out _ _ ⟨(blk_go HP0.out HBk.out).cell 0, (blk_go HP0.out HBk.out).cell 1, (blk_go HP0.out HBk.out).cell 2, (blk_go HP0.out HBk.out).cell 3⟩ (fun hS => ?_)
                clear hK K
                try simp only [Act.put, List.setIfInBounds_toArray, List.set_cons_zero, List.set_cons_succ]
                refine wpAnyH_take (i := 16) (oi := ⟨some 122, Op.build 36 #[(0, Operand.tmp 109), (1, Operand.tmp 113), (2, Operand.tmp 117), (3, Operand.tmp 121)], 36, _, _, none⟩) (v := ?v30) rfl (by kernel_rfl) (by kernel_rfl) (by kernel_rfl) (fun _ _ _ h => h) (Or.inl ⟨by rfl, ?y30⟩) hS ?r30
                case y30 => (intro w hSw; (try dsimp only at hSw); go_simp; try with_reducible rfl)
                try simp only [Act.put, List.setIfInBounds_toArray, List.set_cons_zero, List.set_cons_succ]
                have q0 : w1028.cell? ⟨Qn, 0, none⟩ = some (.int .i64 0) := HQ.out.cell 0
                have z0 := HQ.out.frozen 0
                have q1 : w1028.cell? ⟨Qn, 1, none⟩ = some (.int .i64 0) := HQ.out.cell 1
                have z1 := HQ.out.frozen 1
                have q2 : w1028.cell? ⟨Qn, 2, none⟩ = some (.int .i64 0) := HQ.out.cell 2
                have z2 := HQ.out.frozen 2
                have q3 : w1028.cell? ⟨Qn, 3, none⟩ = some (.int .i64 0) := HQ.out.cell 3
                have z3 := HQ.out.frozen 3
                refine wpAnyH_ready (rs := [18]) (by kernel_rfl) (by simp) ?_
                refine AllReadyH.cons (o := ⟨none, Op.store 36 (Operand.tmp 15) (Operand.tmp 122), 0, _, _, none⟩) rfl (fun K hK => ?_) AllReadyH.nil
                go_simp
                have HB2 := Lib.hid (below_put (below_put (below_put (below_put (HBk.out) (p := ⟨Qn, 0, none⟩) hQ0 (.int .i64 (f pa))) (p := ⟨Qn, 1, none⟩) hQ0 (.int .i64 (f pb))) (p := ⟨Qn, 2, none⟩) hQ0 (.int .i64 (f pc))) (p := ⟨Qn, 3, none⟩) hQ0 (.int .i64 (f pq)))
                have HQ2 := Lib.hid ((((HQ.out.put 0 (.int .i64 (f pa))).put 1 (.int .i64 (f pb))).put 2 (.int .i64 (f pc))).put 3 (.int .i64 (f pq)))
                refine hK.out _ _ ⟨(blk_go HP0.out HB2.out).cell 0, (blk_go HP0.out HB2.out).cell 1, (blk_go HP0.out HB2.out).cell 2, (blk_go HP0.out HB2.out).cell 3⟩ (fun hS => ?_)
                clear hK K
                try simp only [Act.put, List.setIfInBounds_toArray, List.set_cons_zero, List.set_cons_succ]
                refine wpAnyH_done (by kernel_rfl) ?_ _
                refine NoPanic.normal ?_
                go_wp2_with fail
                go_meet
                case rel => exact ⟨Qn, rfl, HQ2.out, Nat.le_trans HW.out.size hQ0, HW.out.trans (HB2.out.mono HW.out.size)⟩
            · go_simp
              have HBk2 := Lib.hid (HBk.out.alloc HBk.out.size (.cells #[.int .i64 0, .int .i64 0, .int .i64 0, .int .i64 0] 36))
              have HQ := Lib.hid (Blk.new w1008 36 #[.int .i64 0, .int .i64 0, .int .i64 0, .int .i64 0])
              obtain ⟨Qn, hQn⟩ : ∃ Qn, Qn = w1008.heap.size := ⟨_, rfl⟩
              have hQ0 : w0.heap.size ≤ Qn := by rw [hQn]; exact HBk.out.size
              rw [← hQn] at HQ
              refine hK.out _ _ ⟨(blk_go HP0.out HBk2.out).cell 0, (blk_go HP0.out HBk2.out).cell 1, (blk_go HP0.out HBk2.out).cell 2, (blk_go HP0.out HBk2.out).cell 3⟩ (fun hS => ?_)
              clear hK K HBk
              have HBk := HBk2
              clear HBk2
              generalize w1008.alloc (.cells #[.int .i64 0, .int .i64 0, .int .i64 0, .int .i64 0] 36) = w1030 at *
              rw [← hQn]
              clear hQn
              try simp only [Act.put, List.setIfInBounds_toArray, List.set_cons_zero, List.set_cons_succ]
              refine wpAnyH_ready (rs := [6]) (by kernel_rfl) (by simp) ?_
              refine AllReadyH.cons (o := ⟨some 112, Op.call { callee := Callee.value (Operand.func 13), args := #[Operand.tmp 111], argTypes := #[3] }, 3, _, _, none⟩) rfl (fun K hK => ?_) AllReadyH.nil
              go_simp
              refine (HT.out pb _).mono ?_
              rintro e w1031 ⟨rfl, nX, hw⟩
              have hb := below_eq hw
              have HBk : Hid (Below w0.heap.size w0 w1031) := HBk.out.trans (hb.mono HBk.out.size)
              have HQ : Hid (Blk w1031 Qn 36 #[.int .i64 0, .int .i64 0, .int .i64 0, .int .i64 0]) := blk_go HQ.out hb
              clear hw hb
              refine hK.out _ _ ⟨(blk_go HP0.out HBk.out).cell 0, (blk_go HP0.out HBk.out).cell 1, (blk_go HP0.out HBk.out).cell 2, (blk_go HP0.out HBk.out).cell 3⟩ (fun hS => ?_)
              clear hK K
              try simp only [Act.put, List.setIfInBounds_toArray, List.set_cons_zero, List.set_cons_succ]
              refine wpAnyH_ready (rs := [7]) (by kernel_rfl) (by simp) ?_
              refine AllReadyH.cons (o := ⟨some 113, Op.call { callee := Callee.value (Operand.func 12), args := #[Operand.tmp 112], argTypes := #[3] }, 3, _, _, none⟩) rfl (fun K hK => ?_) AllReadyH.nil
              go_simp
              refine (HF.out pb _).mono ?_
              rintro e wE ⟨rfl, hw⟩
              subst hw
              refine hK.out _ _ ⟨(blk_go HP0.out HBk.out).cell 0, (blk_go HP0.out HBk.out).cell 1, (blk_go HP0.out HBk.out).cell 2, (blk_go HP0.out HBk.out).cell 3⟩ (fun hS => ?_)
              clear hK K
              try simp only [Act.put, List.setIfInBounds_toArray, List.set_cons_zero, List.set_cons_succ]
              refine wpAnyH_ready (rs := [10]) (by kernel_rfl) (by simp) ?_
              refine AllReadyH.cons (o := ⟨some 116, Op.call { callee := Callee.value (Operand.func 13), args := #[Operand.tmp 115], argTypes := #[3] }, 3, _, _, none⟩) rfl (fun K hK => ?_) AllReadyH.nil
              go_simp
              refine (HT.out pc _).mono ?_
              rintro e w1032 ⟨rfl, nX, hw⟩
              have hb := below_eq hw
              have HBk : Hid (Below w0.heap.size w0 w1032) := HBk.out.trans (hb.mono HBk.out.size)
              have HQ : Hid (Blk w1032 Qn 36 #[.int .i64 0, .int .i64 0, .int .i64 0, .int .i64 0]) := blk_go HQ.out hb
              clear hw hb
              refine hK.out _ _ ⟨(blk_go HP0.out HBk.out).cell 0, (blk_go HP0.out HBk.out).cell 1, (blk_go HP0.out HBk.out).cell 2, (blk_go HP0.out HBk.out).cell 3⟩ (fun hS => ?_)
              clear hK K
              try simp only [Act.put, List.setIfInBounds_toArray, List.set_cons_zero, List.set_cons_succ]
              refine wpAnyH_ready (rs := [11]) (by kernel_rfl) (by simp) ?_
              refine AllReadyH.cons (o := ⟨some 117, Op.call { callee := Callee.value (Operand.func 12), args := #[Operand.tmp 116], argTypes := #[3] }, 3, _, _, none⟩) rfl (fun K hK => ?_) AllReadyH.nil
              go_simp
              refine (HF.out pc _).mono ?_
              rintro e wE ⟨rfl, hw⟩
              subst hw
              refine hK.out _ _ ⟨(blk_go HP0.out HBk.out).cell 0, (blk_go HP0.out HBk.out).cell 1, (blk_go HP0.out HBk.out).cell 2, (blk_go HP0.out HBk.out).cell 3⟩ (fun hS => ?_)
              clear hK K
              try simp only [Act.put, List.setIfInBounds_toArray, List.set_cons_zero, List.set_cons_succ]
              refine wpAnyH_ready (rs := [14]) (by kernel_rfl) (by simp) ?_
              refine AllReadyH.cons (o := ⟨some 120, Op.call { callee := Callee.value (Operand.func 13), args := #[Operand.tmp 119], argTypes := #[3] }, 3, _, _, none⟩) rfl (fun K hK => ?_) AllReadyH.nil
              go_simp
              refine (HT.out pq _).mono ?_
              rintro e w1033 ⟨rfl, nX, hw⟩
              have hb := below_eq hw
              have HBk : Hid (Below w0.heap.size w0 w1033) := HBk.out.trans (hb.mono HBk.out.size)
              have HQ : Hid (Blk w1033 Qn 36 #[.int .i64 0, .int .i64 0, .int .i64 0, .int .i64 0]) := blk_go HQ.out hb
              clear hw hb
              refine hK.out _ _ ⟨(blk_go HP0.out HBk.out).cell 0, (blk_go HP0.out HBk.out).cell 1, (blk_go HP0.out HBk.out).cell 2, (blk_go HP0.out HBk.out).cell 3⟩ (fun hS => ?_)
              clear hK K
              try simp only [Act.put, List.setIfInBounds_toArray, List.set_cons_zero, List.set_cons_succ]
              refine wpAnyH_ready (rs := [15]) (by kernel_rfl) (by simp) ?_
              refine AllReadyH.cons (o := ⟨some 121, Op.call { callee := Callee.value (Operand.func 12), args := #[Operand.tmp 120], argTypes := #[3] }, 3, _, _, none⟩) rfl (fun K hK => ?_) AllReadyH.nil
              go_simp
              refine (HF.out pq _).mono ?_
              rintro e wE ⟨rfl, hw⟩
              subst hw
              refine hK.out _ _ ⟨(blk_go HP0.out HBk.out).cell 0, (blk_go HP0.out HBk.out).cell 1, (blk_go HP0.out HBk.out).cell 2, (blk_go HP0.out HBk.out).cell 3⟩ (fun hS => ?_)
              clear hK K
              try simp only [Act.put, List.setIfInBounds_toArray, List.set_cons_zero, List.set_cons_succ]
              refine wpAnyH_take (i := 16) (oi := ⟨some 122, Op.build 36 #[(0, Operand.tmp 109), (1, Operand.tmp 113), (2, Operand.tmp 117), (3, Operand.tmp 121)], 36, _, _, none⟩) (v := ?v35) rfl (by kernel_rfl) (by kernel_rfl) (by kernel_rfl) (fun _ _ _ h => h) (Or.inl ⟨by rfl, ?y35⟩) hS ?r35
              case y35 => (intro w hSw; (try dsimp only at hSw); go_simp; try with_reducible rfl)
              try simp only [Act.put, List.setIfInBounds_toArray, List.set_cons_zero, List.set_cons_succ]
              have q0 : w1033.cell? ⟨Qn, 0, none⟩ = some (.int .i64 0) := HQ.out.cell 0
              have z0 := HQ.out.frozen 0
              have q1 : w1033.cell? ⟨Qn, 1, none⟩ = some (.int .i64 0) := HQ.out.cell 1
              have z1 := HQ.out.frozen 1
              have q2 : w1033.cell? ⟨Qn, 2, none⟩ = some (.int .i64 0) := HQ.out.cell 2
              have z2 := HQ.out.frozen 2
              have q3 : w1033.cell? ⟨Qn, 3, none⟩ = some (.int .i64 0) := HQ.out.cell 3
              have z3 := HQ.out.frozen 3
              refine wpAnyH_ready (rs := [18]) (by kernel_rfl) (by simp) ?_
              refine AllReadyH.cons (o := ⟨none, Op.store 36 (Operand.tmp 15) (Operand.tmp 122), 0, _, _, none⟩) rfl (fun K hK => ?_) AllReadyH.nil
              go_simp
              have HB2 := Lib.hid (below_put (below_put (below_put (below_put (HBk.out) (p := ⟨Qn, 0, none⟩) hQ0 (.int .i64 (f pa))) (p := ⟨Qn, 1, none⟩) hQ0 (.int .i64 (f pb))) (p := ⟨Qn, 2, none⟩) hQ0 (.int .i64 (f pc))) (p := ⟨Qn, 3, none⟩) hQ0 (.int .i64 (f pq)))
              have HQ2 := Lib.hid ((((HQ.out.put 0 (.int .i64 (f pa))).put 1 (.int .i64 (f pb))).put 2 (.int .i64 (f pc))).put 3 (.int .i64 (f pq)))
              refine hK.out _ _ ⟨(blk_go HP0.out HB2.out).cell 0, (blk_go HP0.out HB2.out).cell 1, (blk_go HP0.out HB2.out).cell 2, (blk_go HP0.out HB2.out).cell 3⟩ (fun hS => ?_)
              clear hK K
              try simp only [Act.put, List.setIfInBounds_toArray, List.set_cons_zero, List.set_cons_succ]
              refine wpAnyH_done (by kernel_rfl) ?_ _
              refine NoPanic.normal ?_
              go_wp2_with fail
              go_meet
              case rel => exact ⟨Qn, rfl, HQ2.out, Nat.le_trans HW.out.size hQ0, HW.out.trans (HB2.out.mono HW.out.size)⟩
          · go_simp
            have HBk2 := Lib.hid (HBk.out.alloc HBk.out.size (.cells #[.int .i64 0, .int .i64 0, .int .i64 0, .int .i64 0] 36))
            have HQ := Lib.hid (Blk.new w1008 36 #[.int .i64 0, .int .i64 0, .int .i64 0, .int .i64 0])
            obtain ⟨Qn, hQn⟩ : ∃ Qn, Qn = w1008.heap.size := ⟨_, rfl⟩
            have hQ0 : w0.heap.size ≤ Qn := by rw [hQn]; exact HBk.out.size
            rw [← hQn] at HQ
            refine hK.out _ _ ⟨(blk_go HP0.out HBk2.out).cell 0, (blk_go HP0.out HBk2.out).cell 1, (blk_go HP0.out HBk2.out).cell 2, (blk_go HP0.out HBk2.out).cell 3⟩ (fun hS => ?_)
            clear hK K HBk
            have HBk := HBk2
            clear HBk2
            generalize w1008.alloc (.cells #[.int .i64 0, .int .i64 0, .int .i64 0, .int .i64 0] 36) = w1035 at *
            rw [← hQn]
            clear hQn
            try simp only [Act.put, List.setIfInBounds_toArray, List.set_cons_zero, List.set_cons_succ]
            refine wpAnyH_ready (rs := [3]) (by kernel_rfl) (by simp) ?_
            refine AllReadyH.cons (o := ⟨some 109, Op.call { callee := Callee.value (Operand.func 12), args := #[Operand.tmp 108], argTypes := #[3] }, 3, _, _, none⟩) rfl (fun K hK => ?_) AllReadyH.nil
            go_simp
            refine (HF.out pa _).mono ?_
            rintro e wE ⟨rfl, hw⟩
            subst hw
            refine hK.out _ _ ⟨(blk_go HP0.out HBk.out).cell 0, (blk_go HP0.out HBk.out).cell 1, (blk_go HP0.out HBk.out).cell 2, (blk_go HP0.out HBk.out).cell 3⟩ (fun hS => ?_)
            clear hK K
            try simp only [Act.put, List.setIfInBounds_toArray, List.set_cons_zero, List.set_cons_succ]
            refine wpAnyH_ready (rs := [6]) (by kernel_rfl) (by simp) ?_
            refine AllReadyH.cons (o := ⟨some 112, Op.call { callee := Callee.value (Operand.func 13), args := #[Operand.tmp 111], argTypes := #[3] }, 3, _, _, none⟩) rfl (fun K hK => ?_) AllReadyH.nil
            go_simp
            refine (HT.out pb _).mono ?_
            rintro e w1036 ⟨rfl, nX, hw⟩
            have hb := below_eq hw
            have HBk : Hid (Below w0.heap.size w0 w1036) := HBk.out.trans (hb.mono HBk.out.size)
            have HQ : Hid (Blk w1036 Qn 36 #[.int .i64 0, .int .i64 0, .int .i64 0, .int .i64 0]) := blk_go HQ.out hb
            clear hw hb
            refine hK.out _ _ ⟨(blk_go HP0.out HBk.out).cell 0, (blk_go HP0.out HBk.out).cell 1, (blk_go HP0.out HBk.out).cell 2, (blk_go HP0.out HBk.out).cell 3⟩ (fun hS => ?_)
            clear hK K
            try simp only [Act.put, List.setIfInBounds_toArray, List.set_cons_zero, List.set_cons_succ]
            refine wpAnyH_ready (rs := [7]) (by kernel_rfl) (by simp) ?_
            refine AllReadyH.cons (o := ⟨some 113, Op.call { callee := Callee.value (Operand.func 12), args := #[Operand.tmp 112], argTypes := #[3] }, 3, _, _, none⟩) rfl (fun K hK => ?_) AllReadyH.nil
            go_simp
            refine (HF.out pb _).mono ?_
            rintro e wE ⟨rfl, hw⟩
            subst hw
            refine hK.out _ _ ⟨(blk_go HP0.out HBk.out).cell 0, (blk_go HP0.out HBk.out).cell 1, (blk_go HP0.out HBk.out).cell 2, (blk_go HP0.out HBk.out).cell 3⟩ (fun hS => ?_)
            clear hK K
            try simp only [Act.put, List.setIfInBounds_toArray, List.set_cons_zero, List.set_cons_succ]
            refine wpAnyH_ready (rs := [10]) (by kernel_rfl) (by simp) ?_
            refine AllReadyH.cons (o := ⟨some 116, Op.call { callee := Callee.value (Operand.func 13), args := #[Operand.tmp 115], argTypes := #[3] }, 3, _, _, none⟩) rfl (fun K hK => ?_) AllReadyH.nil
            go_simp
            refine (HT.out pc _).mono ?_
            rintro e w1037 ⟨rfl, nX, hw⟩
            have hb := below_eq hw
            have HBk : Hid (Below w0.heap.size w0 w1037) := HBk.out.trans (hb.mono HBk.out.size)
            have HQ : Hid (Blk w1037 Qn 36 #[.int .i64 0, .int .i64 0, .int .i64 0, .int .i64 0]) := blk_go HQ.out hb
            clear hw hb
            refine hK.out _ _ ⟨(blk_go HP0.out HBk.out).cell 0, (blk_go HP0.out HBk.out).cell 1, (blk_go HP0.out HBk.out).cell 2, (blk_go HP0.out HBk.out).cell 3⟩ (fun hS => ?_)
            clear hK K
            try simp only [Act.put, List.setIfInBounds_toArray, List.set_cons_zero, List.set_cons_succ]
            refine wpAnyH_ready (rs := [11]) (by kernel_rfl) (by simp) ?_
            refine AllReadyH.cons (o := ⟨some 117, Op.call { callee := Callee.value (Operand.func 12), args := #[Operand.tmp 116], argTypes := #[3] }, 3, _, _, none⟩) rfl (fun K hK => ?_) AllReadyH.nil
            go_simp
            refine (HF.out pc _).mono ?_
            rintro e wE ⟨rfl, hw⟩
            subst hw
            refine hK.out _ _ ⟨(blk_go HP0.out HBk.out).cell 0, (blk_go HP0.out HBk.out).cell 1, (blk_go HP0.out HBk.out).cell 2, (blk_go HP0.out HBk.out).cell 3⟩ (fun hS => ?_)
            clear hK K
            try simp only [Act.put, List.setIfInBounds_toArray, List.set_cons_zero, List.set_cons_succ]
            refine wpAnyH_ready (rs := [14]) (by kernel_rfl) (by simp) ?_
            refine AllReadyH.cons (o := ⟨some 120, Op.call { callee := Callee.value (Operand.func 13), args := #[Operand.tmp 119], argTypes := #[3] }, 3, _, _, none⟩) rfl (fun K hK => ?_) AllReadyH.nil
            go_simp
            refine (HT.out pq _).mono ?_
            rintro e w1038 ⟨rfl, nX, hw⟩
            have hb := below_eq hw
            have HBk : Hid (Below w0.heap.size w0 w1038) := HBk.out.trans (hb.mono HBk.out.size)
            have HQ : Hid (Blk w1038 Qn 36 #[.int .i64 0, .int .i64 0, .int .i64 0, .int .i64 0]) := blk_go HQ.out hb
            clear hw hb
            refine hK.out _ _ ⟨(blk_go HP0.out HBk.out).cell 0, (blk_go HP0.out HBk.out).cell 1, (blk_go HP0.out HBk.out).cell 2, (blk_go HP0.out HBk.out).cell 3⟩ (fun hS => ?_)
            clear hK K
            try simp only [Act.put, List.setIfInBounds_toArray, List.set_cons_zero, List.set_cons_succ]
            refine wpAnyH_ready (rs := [15]) (by kernel_rfl) (by simp) ?_
            refine AllReadyH.cons (o := ⟨some 121, Op.call { callee := Callee.value (Operand.func 12), args := #[Operand.tmp 120], argTypes := #[3] }, 3, _, _, none⟩) rfl (fun K hK => ?_) AllReadyH.nil
            go_simp
            refine (HF.out pq _).mono ?_
            rintro e wE ⟨rfl, hw⟩
            subst hw
            refine hK.out _ _ ⟨(blk_go HP0.out HBk.out).cell 0, (blk_go HP0.out HBk.out).cell 1, (blk_go HP0.out HBk.out).cell 2, (blk_go HP0.out HBk.out).cell 3⟩ (fun hS => ?_)
            clear hK K
            try simp only [Act.put, List.setIfInBounds_toArray, List.set_cons_zero, List.set_cons_succ]
            refine wpAnyH_take (i := 16) (oi := ⟨some 122, Op.build 36 #[(0, Operand.tmp 109), (1, Operand.tmp 113), (2, Operand.tmp 117), (3, Operand.tmp 121)], 36, _, _, none⟩) (v := ?v40) rfl (by kernel_rfl) (by kernel_rfl) (by kernel_rfl) (fun _ _ _ h => h) (Or.inl ⟨by rfl, ?y40⟩) hS ?r40
            case y40 => (intro w hSw; (try dsimp only at hSw); go_simp; try with_reducible rfl)
            try simp only [Act.put, List.setIfInBounds_toArray, List.set_cons_zero, List.set_cons_succ]
            have q0 : w1038.cell? ⟨Qn, 0, none⟩ = some (.int .i64 0) := HQ.out.cell 0
            have z0 := HQ.out.frozen 0
            have q1 : w1038.cell? ⟨Qn, 1, none⟩ = some (.int .i64 0) := HQ.out.cell 1
            have z1 := HQ.out.frozen 1
            have q2 : w1038.cell? ⟨Qn, 2, none⟩ = some (.int .i64 0) := HQ.out.cell 2
            have z2 := HQ.out.frozen 2
            have q3 : w1038.cell? ⟨Qn, 3, none⟩ = some (.int .i64 0) := HQ.out.cell 3
            have z3 := HQ.out.frozen 3
            refine wpAnyH_ready (rs := [18]) (by kernel_rfl) (by simp) ?_
            refine AllReadyH.cons (o := ⟨none, Op.store 36 (Operand.tmp 15) (Operand.tmp 122), 0, _, _, none⟩) rfl (fun K hK => ?_) AllReadyH.nil
            go_simp
            have HB2 := Lib.hid (below_put (below_put (below_put (below_put (HBk.out) (p := ⟨Qn, 0, none⟩) hQ0 (.int .i64 (f pa))) (p := ⟨Qn, 1, none⟩) hQ0 (.int .i64 (f pb))) (p := ⟨Qn, 2, none⟩) hQ0 (.int .i64 (f pc))) (p := ⟨Qn, 3, none⟩) hQ0 (.int .i64 (f pq)))
            have HQ2 := Lib.hid ((((HQ.out.put 0 (.int .i64 (f pa))).put 1 (.int .i64 (f pb))).put 2 (.int .i64 (f pc))).put 3 (.int .i64 (f pq)))
            refine hK.out _ _ ⟨(blk_go HP0.out HB2.out).cell 0, (blk_go HP0.out HB2.out).cell 1, (blk_go HP0.out HB2.out).cell 2, (blk_go HP0.out HB2.out).cell 3⟩ (fun hS => ?_)
            clear hK K
            try simp only [Act.put, List.setIfInBounds_toArray, List.set_cons_zero, List.set_cons_succ]
            refine wpAnyH_done (by kernel_rfl) ?_ _
            refine NoPanic.normal ?_
            go_wp2_with fail
            go_meet
            case rel => exact ⟨Qn, rfl, HQ2.out, Nat.le_trans HW.out.size hQ0, HW.out.trans (HB2.out.mono HW.out.size)⟩
        · go_simp
          have HBk2 := Lib.hid (HBk.out.alloc HBk.out.size (.cells #[.int .i64 0, .int .i64 0, .int .i64 0, .int .i64 0] 36))
          have HQ := Lib.hid (Blk.new w0 36 #[.int .i64 0, .int .i64 0, .int .i64 0, .int .i64 0])
          obtain ⟨Qn, hQn⟩ : ∃ Qn, Qn = w0.heap.size := ⟨_, rfl⟩
          have hQ0 : w0.heap.size ≤ Qn := by rw [hQn]; exact HBk.out.size
          rw [← hQn] at HQ
          refine hK.out _ _ ⟨(blk_go HP0.out HBk2.out).cell 0, (blk_go HP0.out HBk2.out).cell 1, (blk_go HP0.out HBk2.out).cell 2, (blk_go HP0.out HBk2.out).cell 3⟩ (fun hS => ?_)
          clear hK K HBk
          have HBk := HBk2
          clear HBk2
          generalize w0.alloc (.cells #[.int .i64 0, .int .i64 0, .int .i64 0, .int .i64 0] 36) = w1040 at *
          rw [← hQn]
          clear hQn
          try simp only [Act.put, List.setIfInBounds_toArray, List.set_cons_zero, List.set_cons_succ]
          refine wpAnyH_ready (rs := [2]) (by kernel_rfl) (by simp) ?_
          refine AllReadyH.cons (o := ⟨some 108, Op.call { callee := Callee.value (Operand.func 13), args := #[Operand.tmp 107], argTypes := #[3] }, 3, _, _, none⟩) rfl (fun K hK => ?_) AllReadyH.nil
          go_simp
          refine (HT.out pa _).mono ?_
          rintro e w1041 ⟨rfl, nX, hw⟩
          have hb := below_eq hw
          have HBk : Hid (Below w0.heap.size w0 w1041) := HBk.out.trans (hb.mono HBk.out.size)
          have HQ : Hid (Blk w1041 Qn 36 #[.int .i64 0, .int .i64 0, .int .i64 0, .int .i64 0]) := blk_go HQ.out hb
          clear hw hb
          refine hK.out _ _ ⟨(blk_go HP0.out HBk.out).cell 0, (blk_go HP0.out HBk.out).cell 1, (blk_go HP0.out HBk.out).cell 2, (blk_go HP0.out HBk.out).cell 3⟩ (fun hS => ?_)
          clear hK K
          try simp only [Act.put, List.setIfInBounds_toArray, List.set_cons_zero, List.set_cons_succ]
          refine wpAnyH_ready (rs := [3]) (by kernel_rfl) (by simp) ?_
          refine AllReadyH.cons (o := ⟨some 109, Op.call { callee := Callee.value (Operand.func 12), args := #[Operand.tmp 108], argTypes := #[3] }, 3, _, _, none⟩) rfl (fun K hK => ?_) AllReadyH.nil
          go_simp
          refine (HF.out pa _).mono ?_
          rintro e wE ⟨rfl, hw⟩
          subst hw
          refine hK.out _ _ ⟨(blk_go HP0.out HBk.out).cell 0, (blk_go HP0.out HBk.out).cell 1, (blk_go HP0.out HBk.out).cell 2, (blk_go HP0.out HBk.out).cell 3⟩ (fun hS => ?_)
          clear hK K
          try simp only [Act.put, List.setIfInBounds_toArray, List.set_cons_zero, List.set_cons_succ]
          refine wpAnyH_ready (rs := [6]) (by kernel_rfl) (by simp) ?_
          refine AllReadyH.cons (o := ⟨some 112, Op.call { callee := Callee.value (Operand.func 13), args := #[Operand.tmp 111], argTypes := #[3] }, 3, _, _, none⟩) rfl (fun K hK => ?_) AllReadyH.nil
          go_simp
          refine (HT.out pb _).mono ?_
          rintro e w1042 ⟨rfl, nX, hw⟩
          have hb := below_eq hw
          have HBk : Hid (Below w0.heap.size w0 w1042) := HBk.out.trans (hb.mono HBk.out.size)
          have HQ : Hid (Blk w1042 Qn 36 #[.int .i64 0, .int .i64 0, .int .i64 0, .int .i64 0]) := blk_go HQ.out hb
          clear hw hb
          refine hK.out _ _ ⟨(blk_go HP0.out HBk.out).cell 0, (blk_go HP0.out HBk.out).cell 1, (blk_go HP0.out HBk.out).cell 2, (blk_go HP0.out HBk.out).cell 3⟩ (fun hS => ?_)
          clear hK K
          try simp only [Act.put, List.setIfInBounds_toArray, List.set_cons_zero, List.set_cons_succ]
          refine wpAnyH_ready (rs := [7]) (by kernel_rfl) (by simp) ?_
          refine AllReadyH.cons (o := ⟨some 113, Op.call { callee := Callee.value (Operand.func 12), args := #[Operand.tmp 112], argTypes := #[3] }, 3, _, _, none⟩) rfl (fun K hK => ?_) AllReadyH.nil
          go_simp
          refine (HF.out pb _).mono ?_
          rintro e wE ⟨rfl, hw⟩
          subst hw
          refine hK.out _ _ ⟨(blk_go HP0.out HBk.out).cell 0, (blk_go HP0.out HBk.out).cell 1, (blk_go HP0.out HBk.out).cell 2, (blk_go HP0.out HBk.out).cell 3⟩ (fun hS => ?_)
          clear hK K
          try simp only [Act.put, List.setIfInBounds_toArray, List.set_cons_zero, List.set_cons_succ]
          refine wpAnyH_ready (rs := [10]) (by kernel_rfl) (by simp) ?_
          refine AllReadyH.cons (o := ⟨some 116, Op.call { callee := Callee.value (Operand.func 13), args := #[Operand.tmp 115], argTypes := #[3] }, 3, _, _, none⟩) rfl (fun K hK => ?_) AllReadyH.nil
          go_simp
          refine (HT.out pc _).mono ?_
          rintro e w1043 ⟨rfl, nX, hw⟩
          have hb := below_eq hw
          have HBk : Hid (Below w0.heap.size w0 w1043) := HBk.out.trans (hb.mono HBk.out.size)
          have HQ : Hid (Blk w1043 Qn 36 #[.int .i64 0, .int .i64 0, .int .i64 0, .int .i64 0]) := blk_go HQ.out hb
          clear hw hb
          refine hK.out _ _ ⟨(blk_go HP0.out HBk.out).cell 0, (blk_go HP0.out HBk.out).cell 1, (blk_go HP0.out HBk.out).cell 2, (blk_go HP0.out HBk.out).cell 3⟩ (fun hS => ?_)
          clear hK K
          try simp only [Act.put, List.setIfInBounds_toArray, List.set_cons_zero, List.set_cons_succ]
          refine wpAnyH_ready (rs := [11]) (by kernel_rfl) (by simp) ?_
          refine AllReadyH.cons (o := ⟨some 117, Op.call { callee := Callee.value (Operand.func 12), args := #[Operand.tmp 116], argTypes := #[3] }, 3, _, _, none⟩) rfl (fun K hK => ?_) AllReadyH.nil
          go_simp
          refine (HF.out pc _).mono ?_
          rintro e wE ⟨rfl, hw⟩
          subst hw
          refine hK.out _ _ ⟨(blk_go HP0.out HBk.out).cell 0, (blk_go HP0.out HBk.out).cell 1, (blk_go HP0.out HBk.out).cell 2, (blk_go HP0.out HBk.out).cell 3⟩ (fun hS => ?_)
          clear hK K
          try simp only [Act.put, List.setIfInBounds_toArray, List.set_cons_zero, List.set_cons_succ]
          refine wpAnyH_ready (rs := [14]) (by kernel_rfl) (by simp) ?_
          refine AllReadyH.cons (o := ⟨some 120, Op.call { callee := Callee.value (Operand.func 13), args := #[Operand.tmp 119], argTypes := #[3] }, 3, _, _, none⟩) rfl (fun K hK => ?_) AllReadyH.nil
          go_simp
          refine (HT.out pq _).mono ?_
          rintro e w1044 ⟨rfl, nX, hw⟩
          have hb := below_eq hw
          have HBk : Hid (Below w0.heap.size w0 w1044) := HBk.out.trans (hb.mono HBk.out.size)
          have HQ : Hid (Blk w1044 Qn 36 #[.int .i64 0, .int .i64 0, .int .i64 0, .int .i64 0]) := blk_go HQ.out hb
          clear hw hb
          refine hK.out _ _ ⟨(blk_go HP0.out HBk.out).cell 0, (blk_go HP0.out HBk.out).cell 1, (blk_go HP0.out HBk.out).cell 2, (blk_go HP0.out HBk.out).cell 3⟩ (fun hS => ?_)
          clear hK K
          try simp only [Act.put, List.setIfInBounds_toArray, List.set_cons_zero, List.set_cons_succ]
          refine wpAnyH_ready (rs := [15]) (by kernel_rfl) (by simp) ?_
          refine AllReadyH.cons (o := ⟨some 121, Op.call { callee := Callee.value (Operand.func 12), args := #[Operand.tmp 120], argTypes := #[3] }, 3, _, _, none⟩) rfl (fun K hK => ?_) AllReadyH.nil
          go_simp
          refine (HF.out pq _).mono ?_
          rintro e wE ⟨rfl, hw⟩
          subst hw
          refine hK.out _ _ ⟨(blk_go HP0.out HBk.out).cell 0, (blk_go HP0.out HBk.out).cell 1, (blk_go HP0.out HBk.out).cell 2, (blk_go HP0.out HBk.out).cell 3⟩ (fun hS => ?_)
          clear hK K
          try simp only [Act.put, List.setIfInBounds_toArray, List.set_cons_zero, List.set_cons_succ]
          refine wpAnyH_take (i := 16) (oi := ⟨some 122, Op.build 36 #[(0, Operand.tmp 109), (1, Operand.tmp 113), (2, Operand.tmp 117), (3, Operand.tmp 121)], 36, _, _, none⟩) (v := ?v46) rfl (by kernel_rfl) (by kernel_rfl) (by kernel_rfl) (fun _ _ _ h => h) (Or.inl ⟨by rfl, ?y46⟩) hS ?r46
          case y46 => (intro w hSw; (try dsimp only at hSw); go_simp; try with_reducible rfl)
          try simp only [Act.put, List.setIfInBounds_toArray, List.set_cons_zero, List.set_cons_succ]
          have q0 : w1044.cell? ⟨Qn, 0, none⟩ = some (.int .i64 0) := HQ.out.cell 0
          have z0 := HQ.out.frozen 0
          have q1 : w1044.cell? ⟨Qn, 1, none⟩ = some (.int .i64 0) := HQ.out.cell 1
          have z1 := HQ.out.frozen 1
          have q2 : w1044.cell? ⟨Qn, 2, none⟩ = some (.int .i64 0) := HQ.out.cell 2
          have z2 := HQ.out.frozen 2
          have q3 : w1044.cell? ⟨Qn, 3, none⟩ = some (.int .i64 0) := HQ.out.cell 3
          have z3 := HQ.out.frozen 3
          refine wpAnyH_ready (rs := [18]) (by kernel_rfl) (by simp) ?_
          refine AllReadyH.cons (o := ⟨none, Op.store 36 (Operand.tmp 15) (Operand.tmp 122), 0, _, _, none⟩) rfl (fun K hK => ?_) AllReadyH.nil
          go_simp
          have HB2 := Lib.hid (below_put (below_put (below_put (below_put (HBk.out) (p := ⟨Qn, 0, none⟩) hQ0 (.int .i64 (f pa))) (p := ⟨Qn, 1, none⟩) hQ0 (.int .i64 (f pb))) (p := ⟨Qn, 2, none⟩) hQ0 (.int .i64 (f pc))) (p := ⟨Qn, 3, none⟩) hQ0 (.int .i64 (f pq)))
          have HQ2 := Lib.hid ((((HQ.out.put 0 (.int .i64 (f pa))).put 1 (.int .i64 (f pb))).put 2 (.int .i64 (f pc))).put 3 (.int .i64 (f pq)))
          refine hK.out _ _ ⟨(blk_go HP0.out HB2.out).cell 0, (blk_go HP0.out HB2.out).cell 1, (blk_go HP0.out HB2.out).cell 2, (blk_go HP0.out HB2.out).cell 3⟩ (fun hS => ?_)
          clear hK K
          try simp only [Act.put, List.setIfInBounds_toArray, List.set_cons_zero, List.set_cons_succ]
          refine wpAnyH_done (by kernel_rfl) ?_ _
          refine NoPanic.normal ?_
          go_wp2_with fail
          go_meet
          case rel => exact ⟨Qn, rfl, HQ2.out, Nat.le_trans HW.out.size hQ0, HW.out.trans (HB2.out.mono HW.out.size)⟩
      case rest =>
        obtain ⟨Q, rfl, HQ, hQw, HBc⟩ := hcut
        clear p0 p1 p2 p3
        have s3 : wc.cell? ⟨Q, 3, none⟩ = some (.int .i64 (f pq)) := HQ.out.cell 3
        by_cases hz : f pq = 0
        · have eq0 : (f pq == 0) = true := by simp [hz]
          have HQZ : Hid (q8P (pa, pb, pc, pq) = (0, 0, 0, 0)) := by show _ = _; unfold q8P; rw [if_pos (by have := HFE.out pq; show to8I pq = 0; omega)]
          have s0 : wc.cell? ⟨Q, 0, none⟩ = some (.int .i64 (f pa)) := HQ.out.cell 0
          have s1 : wc.cell? ⟨Q, 1, none⟩ = some (.int .i64 (f pb)) := HQ.out.cell 1
          have s2 : wc.cell? ⟨Q, 2, none⟩ = some (.int .i64 (f pc)) := HQ.out.cell 2
          have z0 := HQ.out.frozen 0
          have z1 := HQ.out.frozen 1
          have z2 := HQ.out.frozen 2
          have z3 := HQ.out.frozen 3
          have HBd := Lib.hid (below_put (below_put (below_put (below_put HBc.out (p := ⟨Q, 0, none⟩) hQw.out (.int .i64 0)) (p := ⟨Q, 1, none⟩) hQw.out (.int .i64 0)) (p := ⟨Q, 2, none⟩) hQw.out (.int .i64 0)) (p := ⟨Q, 3, none⟩) hQw.out (.int .i64 0))
          have HQd : Hid (Blk ((((wc.setCell ⟨Q, 0, none⟩ (.int .i64 0)).setCell ⟨Q, 1, none⟩ (.int .i64 0)).setCell ⟨Q, 2, none⟩ (.int .i64 0)).setCell ⟨Q, 3, none⟩ (.int .i64 0)) Q 36 #[.int .i64 0, .int .i64 0, .int .i64 0, .int .i64 0]) := (((HQ.out.put 0 (.int .i64 0)).put 1 (.int .i64 0)).put 2 (.int .i64 0)).put 3 (.int .i64 0)
          clear hz
          go_upto_region 16 with fail
          clear s0 s1 s2 s3 z0 z1 z2 z3 eq0
          generalize (((wc.setCell ⟨Q, 0, none⟩ (.int .i64 0)).setCell ⟨Q, 1, none⟩ (.int .i64 0)).setCell ⟨Q, 2, none⟩ (.int .i64 0)).setCell ⟨Q, 3, none⟩ (.int .i64 0) = wd at *
          have HRd := Lib.hid (HRA.out.go HBd.out)
          have b2 : wd.cell? ⟨K2, 2, none⟩ = some (.slice x2 px.length c2) := HRd.out.bb.cell 2
          have hpw := HRd.out.pb
          obtain ⟨x', c', hv, -, -, -, hcl⟩ := hpw
          injection hv with e1 e2 e3
          subst e1 e3
          obtain ⟨g2, o2, rfl, hc⟩ := hcl (by intro h; rw [h] at hkq; simp at hkq)
          obtain ⟨r0, r1, r2, r3⟩ := hc k hkq
          clear hcl hc e2
          rw [HMQ.out, HQZ.out] at r0 r1 r2 r3
          clear HMQ HQZ hkq
          simp only at r0 r1 r2 r3
          have t0 : wd.cell? ⟨Q, 0, none⟩ = some (.int .i64 0) := HQd.out.cell 0
          have t1 : wd.cell? ⟨Q, 1, none⟩ = some (.int .i64 0) := HQd.out.cell 1
          have t2 : wd.cell? ⟨Q, 2, none⟩ = some (.int .i64 0) := HQd.out.cell 2
          have t3 : wd.cell? ⟨Q, 3, none⟩ = some (.int .i64 0) := HQd.out.cell 3
          have heq : ∀ w, (Op.equalIn 10000 36 (.agg #[.int .i64 0, .int .i64 0, .int .i64 0, .int .i64 0]) (.agg #[.int .i64 0, .int .i64 0, .int .i64 0, .int .i64 0])).run Tryd.prog w = .ok true w := fun w => (eqPx (0, 0, 0, 0) (0, 0, 0, 0) w).trans (by simp)
          go_wp2_with fail
          go_quiet (fail)
          have hbn := Lib.hid (HRd.out.go (below_drewN (Below.refl wd.heap.size wd) nq))
          clear r0 r1 r2 r3 t0 t1 t2 t3 b2 heq
          go_wp2_with fail
          go_roundw
          case rel => exact ⟨k + 1, by go_num, by omega, hbn⟩
          case measure => simp [intOf]; omega
        · have eq0 : (f pq == 0) = false := by simpa using hz
          have HQZ : Hid (q8P (pa, pb, pc, pq) = (f pa, f pb, f pc, f pq)) := by show _ = _; unfold q8P; rw [if_neg (by have := HFE.out pq; show ¬ to8I pq = 0; omega), HFE.out, HFE.out, HFE.out, HFE.out]
          have HBd := HBc
          have HQd := HQ
          clear hz
          go_upto_region 16 with fail
          clear s3 eq0
          have HRd := Lib.hid (HRA.out.go HBd.out)
          have b2 : wc.cell? ⟨K2, 2, none⟩ = some (.slice x2 px.length c2) := HRd.out.bb.cell 2
          have hpw := HRd.out.pb
          obtain ⟨x', c', hv, -, -, -, hcl⟩ := hpw
          injection hv with e1 e2 e3
          subst e1 e3
          obtain ⟨g2, o2, rfl, hc⟩ := hcl (by intro h; rw [h] at hkq; simp at hkq)
          obtain ⟨r0, r1, r2, r3⟩ := hc k hkq
          clear hcl hc e2
          rw [HMQ.out, HQZ.out] at r0 r1 r2 r3
          clear HMQ HQZ hkq
          simp only at r0 r1 r2 r3
          have t0 : wc.cell? ⟨Q, 0, none⟩ = some (.int .i64 (f pa)) := HQd.out.cell 0
          have t1 : wc.cell? ⟨Q, 1, none⟩ = some (.int .i64 (f pb)) := HQd.out.cell 1
          have t2 : wc.cell? ⟨Q, 2, none⟩ = some (.int .i64 (f pc)) := HQd.out.cell 2
          have t3 : wc.cell? ⟨Q, 3, none⟩ = some (.int .i64 (f pq)) := HQd.out.cell 3
          have heq : ∀ w, (Op.equalIn 10000 36 (.agg #[.int .i64 (f pa), .int .i64 (f pb), .int .i64 (f pc), .int .i64 (f pq)]) (.agg #[.int .i64 (f pa), .int .i64 (f pb), .int .i64 (f pc), .int .i64 (f pq)])).run Tryd.prog w = .ok true w := fun w => (eqPx ((f pa), (f pb), (f pc), (f pq)) ((f pa), (f pb), (f pc), (f pq)) w).trans (by simp)
          go_wp2_with fail
          go_quiet (fail)
          have hbn := Lib.hid (HRd.out.go (below_drewN (Below.refl wc.heap.size wc) nq))
          clear r0 r1 r2 r3 t0 t1 t2 t3 b2 heq
          go_wp2_with fail
          go_roundw
          case rel => exact ⟨k + 1, by go_num, by omega, hbn⟩
          case measure => simp [intOf]; omega
    · have dlt : decide ((k : Int) < (px.length : Int)) = false := by simp; omega
      go_wp2_with fail
      refine (HEX.out _).mono ?_
      rintro e w9 ⟨rfl, hb9⟩
      have HB9 : Hid (Below B w w9) := hR.out.bel.trans (hb9.mono hR.out.hB)
      clear hb9
      go_wp2_with fail
      go_ret
      exact ⟨rfl, by rw [HBB.out]; exact HB9.out⟩
end Go.Proofs.YtakkdgcmeeilbaaDoor
