/-
  The reference of tiff: samples.
-/
import Derived.Test.YtakileiomgaahaaTk2
import Derived.Test.YtakileiomgaahaaTi8
namespace Go.Proofs.Ytakileiomgaahaa
open Go.RowKit

theorem litB_one (t : Nat) (h : t ≤ 255) : litB t 1 = [UInt8.ofNat t] := by
  rw [show (1 : Nat) = 0 + 1 from rfl, litB_succ]
  show [] ++ [UInt8.ofNat (t / 2 ^ (8 * 0) % 256)] = _
  rw [List.nil_append, Nat.mul_zero, Nat.pow_zero, Nat.div_one, Nat.mod_eq_of_lt (by omega)]
theorem to8I_nat (v : Int) : ∃ n : Nat, to8I v = (n : Int) ∧ n ≤ 255 := ⟨(to8I v).toNat, by have := to8I_rng v; omega, by have := to8I_rng v; omega⟩
theorem valP_nat {p : Px} (h : valP p = true) : ∃ a b c d : Nat, p = ((a : Int), (b : Int), (c : Int), (d : Int)) ∧ a ≤ 65535 ∧ b ≤ 65535 ∧ c ≤ 65535 ∧ d ≤ 65535 := by
  unfold valP at h
  simp only [Bool.and_eq_true, beq_iff_eq] at h
  obtain ⟨⟨⟨h1, h2⟩, h3⟩, h4⟩ := h
  have r1 := uI_rng p.1
  have r2 := uI_rng p.2.1
  have r3 := uI_rng p.2.2.1
  have r4 := uI_rng p.2.2.2
  refine ⟨p.1.toNat, p.2.1.toNat, p.2.2.1.toNat, p.2.2.2.toNat, ?_, by omega, by omega, by omega, by omega⟩
  obtain ⟨a, b, c, d⟩ := p
  simp only at *
  congr 1
  · omega
  · congr 1
    · omega
    · congr 1 <;> omega
theorem ba_app (a b : ByteArray) (la lb : List UInt8) (ha : a.data.toList = la) (hb : b.data.toList = lb) : (a ++ b).data.toList = la ++ lb := by rw [ByteArray.data_append, Array.toList_append, ha, hb]
theorem ba_sz (a b : ByteArray) : (a ++ b).size = a.size + b.size := by simp [ByteArray.size_append]

set_option maxHeartbeats 8000000 in
set_option maxRecDepth 100000 in
theorem rsamples_any (W H d : Nat) (pk : Bool) (v : Value) (px : List Px) (w : World) (hp : PRow w v px) (hW2 : W ≤ 256) (hH : H ≤ 256) (hpl : px.length = W * H) (hd : d = 8 ∨ d = 16) (hv : ∀ p ∈ px, valP p = true) :
    Calls Try.prog 62 #[.agg #[.int .i64 (W : Int), .int .i64 (H : Int), v], .int .i64 d, .bool pk] w fun e w' => e = .returned (.string ⟨(rowsB d pk W px H).toArray⟩) ∧ Below w.heap.size w w' := by
  obtain ⟨x, c, rfl, hlc, hcm, -⟩ := id hp
  unfold maxLen at hcm
  have HV := Lib.hid hv
  have HD := Lib.hid hd
  have HPL := Lib.hid hpl
  have hba := (Below.refl w.heap.size w).alloc (Nat.le_refl _) (.cells #[.int .i64 (W : Int), .int .i64 (H : Int), .slice x px.length c] 34)
  have HP1 := Lib.hid (hp.below hba)
  have HK1 := Lib.hid (Blk.new w 34 #[.int .i64 (W : Int), .int .i64 (H : Int), .slice x px.length c])
  have HB1 := Lib.hid hba
  clear hp hba hv hd hpl
  go_enter Try.func62, Try.ntmps62
  go_upto_region 1 with fail
  generalize w.alloc (.cells #[.int .i64 (W : Int), .int .i64 (H : Int), .slice x px.length c] 34) = wz at *
  generalize hB : w.heap.size = B at *
  have HBB := Lib.hid hB
  clear hB
  have HPK := Lib.hid (fun (s : ByteArray) w (h : s.size ≤ 140737488355328) => rpackBits_any s w h)
  go_wp2_with fail
  go_loopw [8, 7] (fun vy vo wr => ∃ (y : Nat) (out : ByteArray), vy = .int .i64 y ∧ vo = .string out ∧ y ≤ H ∧ Hid (out.data.toList = rowsB d pk W px y) ∧ out.size ≤ 4096 * y ∧ Hid (Below wz.heap.size wz wr)) (fun vy _ _ => H - (intOf vy).toNat)
  case atStart => exact ⟨0, ⟨#[]⟩, rfl, rfl, Nat.zero_le _, rfl, by decide, Below.refl _ _⟩
  case round =>
    obtain ⟨y, out, rfl, rfl, hy, hout, hos, hbw⟩ := hrel
    have c1 : wr.cell? ⟨B, 1, none⟩ = some (.int .i64 (H : Int)) := (hbw.out.cell (p := ⟨B, 1, none⟩) HK1.out.lt).trans (HK1.out.cell 1)
    by_cases hlt : y < H
    · have dlt : decide ((y : Int) < (H : Int)) = true := by simp; omega
      obtain ⟨yw, hyw⟩ : ∃ q, y * W = q := ⟨_, rfl⟩
      have m1 : (y : Int) * (W : Int) = (yw : Int) := by rw [← hyw]; simp
      have hyw2 : yw + W ≤ px.length := by
        have : (y + 1) * W ≤ H * W := Nat.mul_le_mul_right W hlt
        rw [Nat.succ_mul, hyw] at this
        rw [HPL.out, Nat.mul_comm W H]; exact this
      have hywb : yw ≤ 65536 := by rw [← hyw]; exact Nat.mul_le_mul (show y ≤ 256 by omega) hW2
      have HYW := Lib.hid hyw
      clear hyw
      go_upto_region 6 with fail
      clear c1
      go_wp2_with fail
      go_loopw [10, 9] (fun vx vr wq => ∃ (x2 : Nat) (row : ByteArray), vx = .int .i64 x2 ∧ vr = .string row ∧ x2 ≤ W ∧ Hid (row.data.toList = ((px.drop yw).take x2).flatMap (pxT d)) ∧ row.size ≤ 8 * x2 ∧ Hid (Below wz.heap.size wz wq)) (fun vx _ _ => W - (intOf vx).toNat)
      case atStart => exact ⟨0, ⟨#[]⟩, rfl, rfl, Nat.zero_le _, rfl, by decide, hbw.out⟩
      case round =>
        clear hbw
        obtain ⟨x2, row, rfl, rfl, hx2, hrow, hrs, hbw⟩ := hrel
        have c0 : wr.cell? ⟨B, 0, none⟩ = some (.int .i64 (W : Int)) := (hbw.out.cell (p := ⟨B, 0, none⟩) HK1.out.lt).trans (HK1.out.cell 0)
        by_cases hltx : x2 < W
        · have dltx : decide ((x2 : Int) < (W : Int)) = true := by simp; omega
          obtain ⟨ix, hix⟩ : ∃ q, yw + x2 = q := ⟨_, rfl⟩
          have m2 : (yw : Int) + (x2 : Int) = (ix : Int) := by omega
          have hixl : ix < px.length := by omega
          have hne : px ≠ [] := by rintro rfl; simp at hixl
          obtain ⟨x', c', hvv, -, -, -, hcell⟩ := HP1.out.below hbw.out
          cases hvv
          obtain ⟨b, off, hxe, hcl⟩ := hcell hne
          subst hxe
          obtain ⟨q0, q1, q2, q3⟩ := hcl ix hixl
          obtain ⟨n0, n1, n2, n3, hpe, h0, h1, h2, h3⟩ := valP_nat (HV.out px[ix] (List.getElem_mem hixl))
          have HTK : Hid (((px.drop yw).take (x2 + 1)).flatMap (pxT d) = ((px.drop yw).take x2).flatMap (pxT d) ++ pxT d ((n0 : Int), (n1 : Int), (n2 : Int), (n3 : Int))) := by
            show _ = _
            have e : (px.drop yw)[x2]? = some px[ix] := by rw [List.getElem?_drop, hix, List.getElem?_eq_getElem hixl]
            rw [List.take_add_one, e, hpe, List.flatMap_append]
            simp
          rw [hpe] at q0 q1 q2 q3
          simp only at q0 q1 q2 q3
          have a2 : wr.cell? ⟨B, 2, none⟩ = some (.slice (some ⟨b, off, none⟩) px.length c) := (hbw.out.cell (p := ⟨B, 2, none⟩) HK1.out.lt).trans (HK1.out.cell 2)
          have i1 : (ix : Int) < (px.length : Int) := by omega
          have hkb := Blk.new wr 46 #[.int .i64 (n0 : Int), .int .i64 (n1 : Int), .int .i64 (n2 : Int), .int .i64 (n3 : Int)]
          have hbb := hbw.out.alloc hbw.out.size (.cells #[.int .i64 (n0 : Int), .int .i64 (n1 : Int), .int .i64 (n2 : Int), .int .i64 (n3 : Int)] 46)
          clear hpe hcell hcl hix
          go_upto_region 10 with fail
          clear q0 q1 q2 q3 a2 c0 m2 i1
          generalize wr.alloc (.cells #[.int .i64 (n0 : Int), .int .i64 (n1 : Int), .int .i64 (n2 : Int), .int .i64 (n3 : Int)] 46) = wk at *
          have HPX := Lib.hid hkb
          have HBK := Lib.hid hbb
          have hzp : wz.heap.size ≤ wr.heap.size := hbw.out.size
          clear hkb hbb hbw
          generalize wr.heap.size = PB at *
          by_cases h16 : d = 16
          · have e16 : ((d : Int) == 16) = true := by rw [h16]; rfl
            have HPT : Hid (pxT d ((n0 : Int), (n1 : Int), (n2 : Int), (n3 : Int)) = litB n0 2 ++ litB n1 2 ++ litB n2 2 ++ litB n3 2) := by
              show _ = _
              unfold pxT smT
              rw [if_pos h16]; rfl
            have hS0 := Lib.hid (fun w => rlittle_any n0 2 w (by decide))
            have hS1 := Lib.hid (fun w => rlittle_any n1 2 w (by decide))
            have hS2 := Lib.hid (fun w => rlittle_any n2 2 w (by decide))
            have hS3 := Lib.hid (fun w => rlittle_any n3 2 w (by decide))
            obtain ⟨t0, ht0, ht0s⟩ : ∃ t : ByteArray, t = ⟨(litB n0 2).toArray⟩ ∧ t.size = 2 := ⟨_, rfl, by rw [ba_len, litB_len]⟩
            rw [← ht0] at hS0
            obtain ⟨t1, ht1, ht1s⟩ : ∃ t : ByteArray, t = ⟨(litB n1 2).toArray⟩ ∧ t.size = 2 := ⟨_, rfl, by rw [ba_len, litB_len]⟩
            rw [← ht1] at hS1
            obtain ⟨t2, ht2, ht2s⟩ : ∃ t : ByteArray, t = ⟨(litB n2 2).toArray⟩ ∧ t.size = 2 := ⟨_, rfl, by rw [ba_len, litB_len]⟩
            rw [← ht2] at hS2
            obtain ⟨t3, ht3, ht3s⟩ : ∃ t : ByteArray, t = ⟨(litB n3 2).toArray⟩ ∧ t.size = 2 := ⟨_, rfl, by rw [ba_len, litB_len]⟩
            rw [← ht3] at hS3
            have HT : Hid ((row ++ (((t0 ++ t1) ++ t2) ++ t3)).data.toList = ((px.drop yw).take (x2 + 1)).flatMap (pxT d) ∧ (row ++ (((t0 ++ t1) ++ t2) ++ t3)).size ≤ 8 * (x2 + 1)) := by
              refine ⟨?_, by simp only [ba_sz]; omega⟩
              rw [HTK.out, HPT.out, ← hrow.out]
              refine ba_app _ _ _ _ rfl (ba_app _ _ _ _ (ba_app _ _ _ _ (ba_app _ _ _ _ ?_ ?_) ?_) ?_)
              · rw [ht0]
              · rw [ht1]
              · rw [ht2]
              · rw [ht3]
            have z0 : t0.size ≤ 4 := by omega
            have z1 : t1.size ≤ 4 := by omega
            have z2 : t2.size ≤ 4 := by omega
            have z3 : t3.size ≤ 4 := by omega
            clear ht0 ht1 ht2 ht3 ht0s ht1s ht2s ht3s h16 HPT HTK
            go_upto_region 11 with fail
            obtain ⟨K0, hK0⟩ : ∃ K0, K0 = wk.heap.size := ⟨_, rfl⟩
            have HK0 : Hid (K0 ≤ wk.heap.size) := by show _ ≤ _; omega
            have hPK : PB < K0 := by rw [hK0]; exact HPX.out.lt
            have HBK2 : Hid (Below wz.heap.size wz wk ∧ wz.heap.size ≤ K0) := ⟨HBK.out, by rw [hK0]; exact HBK.out.size⟩
            clear hK0
            have c0 : ∀ u : BW K0 wk, u.w.cell? ⟨PB, 0, none⟩ = some (.int .i64 (n0 : Int)) := fun u => (u.b.cell (p := ⟨PB, 0, none⟩) hPK).trans (HPX.out.cell 0)
            have c1 : ∀ u : BW K0 wk, u.w.cell? ⟨PB, 1, none⟩ = some (.int .i64 (n1 : Int)) := fun u => (u.b.cell (p := ⟨PB, 1, none⟩) hPK).trans (HPX.out.cell 1)
            have c2 : ∀ u : BW K0 wk, u.w.cell? ⟨PB, 2, none⟩ = some (.int .i64 (n2 : Int)) := fun u => (u.b.cell (p := ⟨PB, 2, none⟩) hPK).trans (HPX.out.cell 2)
            have c3 : ∀ u : BW K0 wk, u.w.cell? ⟨PB, 3, none⟩ = some (.int .i64 (n3 : Int)) := fun u => (u.b.cell (p := ⟨PB, 3, none⟩) hPK).trans (HPX.out.cell 3)
            refine wp_region_bw K0 wk (Below.refl _ _) (by kernel_rfl) (by kernel_rfl) ?_
            repeat (go_big_quiet_step (first | (go_at_call_of 63 (Value.int .i64 (n0 : Int)); exact calls_bw HK0.out (hS0.out _)) | (go_at_call_of 63 (Value.int .i64 (n1 : Int)); exact calls_bw HK0.out (hS1.out _)) | (go_at_call_of 63 (Value.int .i64 (n2 : Int)); exact calls_bw HK0.out (hS2.out _)) | (go_at_call_of 63 (Value.int .i64 (n3 : Int)); exact calls_bw HK0.out (hS3.out _))))
            refine wpQuiet_nil ?_
            rintro _ ⟨u, rfl⟩
            have hb6 : Below wz.heap.size wz u.w := HBK2.out.1.trans (u.b.mono HBK2.out.2)
            generalize u.w = w6 at *
            clear c0 c1 c2 c3
            have HB6 := Lib.hid hb6
            clear hb6
            go_wp2_with fail
            go_roundw
            case rel => exact ⟨x2 + 1, _, by go_num, rfl, by omega, HT.out.1, HT.out.2, HB6.out⟩
            case measure => simp [intOf]; omega
          · have e16 : ((d : Int) == 16) = false := by rw [beq_eq_false_iff_ne]; omega
            have hPT : pxT d ((n0 : Int), (n1 : Int), (n2 : Int), (n3 : Int)) = if to8I (n3 : Int) = 0 then [0, 0, 0, 0] else smT 8 (n0 : Int) ++ smT 8 (n1 : Int) ++ smT 8 (n2 : Int) ++ smT 8 (n3 : Int) := by
              unfold pxT
              rw [if_neg h16]
            obtain ⟨g0, hg0, gl0⟩ := to8I_nat (n0 : Int)
            obtain ⟨g1, hg1, gl1⟩ := to8I_nat (n1 : Int)
            obtain ⟨g2, hg2, gl2⟩ := to8I_nat (n2 : Int)
            obtain ⟨g3, hg3, gl3⟩ := to8I_nat (n3 : Int)
            have hsm : ∀ (n g : Nat), to8I (n : Int) = (g : Int) → smT 8 (n : Int) = [UInt8.ofNat g] := fun n g h => by unfold smT; rw [if_neg (by decide), h]; rfl
            rw [hsm n0 g0 hg0, hsm n1 g1 hg1, hsm n2 g2 hg2, hsm n3 g3 hg3, hg3] at hPT
            have HPT := Lib.hid hPT
            have T0 := Lib.hid (fun w => rto8_any (n0 : Int) w)
            have T1 := Lib.hid (fun w => rto8_any (n1 : Int) w)
            have T2 := Lib.hid (fun w => rto8_any (n2 : Int) w)
            have T3 := Lib.hid (fun w => rto8_any (n3 : Int) w)
            rw [hg0] at T0
            rw [hg1] at T1
            rw [hg2] at T2
            rw [hg3] at T3
            clear hPT hsm hg0 hg1 hg2 hg3 h16
            have y3 : wk.cell? ⟨PB, 3, none⟩ = some (.int .i64 (n3 : Int)) := HPX.out.cell 3
            go_wp2_with fail
            refine (T3.out _).mono ?_
            rintro e w7 ⟨rfl, m7, rfl⟩
            have HPX7 : Hid (Blk (wk.drewN m7) PB 46 #[.int .i64 (n0 : Int), .int .i64 (n1 : Int), .int .i64 (n2 : Int), .int .i64 (n3 : Int)]) := HPX.out.drewN m7
            have HBK7 : Hid (Below wz.heap.size wz (wk.drewN m7)) := below_drewN HBK.out m7
            clear y3 HPX HBK
            generalize wk.drewN m7 = wj at *
            by_cases hz : g3 = 0
            · have ez : ((g3 : Int) == 0) = true := by rw [hz]; rfl
              have hS0 := Lib.hid (fun w => rlittle_any 0 4 w (by decide))
              obtain ⟨t0, ht0, ht0s⟩ : ∃ t : ByteArray, t = ⟨(litB 0 4).toArray⟩ ∧ t.size = 4 := ⟨_, rfl, by rw [ba_len, litB_len]⟩
              rw [← ht0] at hS0
              have HT : Hid ((row ++ t0).data.toList = ((px.drop yw).take (x2 + 1)).flatMap (pxT d) ∧ (row ++ t0).size ≤ 8 * (x2 + 1)) := by
                refine ⟨?_, by simp only [ba_sz]; omega⟩
                rw [HTK.out, HPT.out, if_pos (by rw [hz]; rfl), ← hrow.out]
                refine ba_app _ _ _ _ rfl ?_
                rw [ht0]; rfl
              have z0 : t0.size ≤ 4 := by omega
              clear ht0 ht0s hz HPT HTK
              have hS0' : Hid (∀ w, Calls Try.prog 63 #[.int .i64 0, .int .i64 4] w fun e w' => e = .returned (.string t0) ∧ Below w.heap.size w w') := hS0.out
              go_wp2_with fail
              refine (hS0'.out _).mono ?_
              rintro e w8 ⟨rfl, hb8⟩
              have HB8 : Hid (Below wz.heap.size wz w8) := HBK7.out.trans (hb8.mono HBK7.out.size)
              clear hb8
              go_wp2_with fail
              go_roundw
              case rel => exact ⟨x2 + 1, _, by go_num, rfl, by omega, HT.out.1, HT.out.2, HB8.out⟩
              case measure => simp [intOf]; omega
            · have ez : ((g3 : Int) == 0) = false := by rw [beq_eq_false_iff_ne]; omega
              have hS0 := Lib.hid (fun w => rlittle_any g0 1 w (by decide))
              have hS1 := Lib.hid (fun w => rlittle_any g1 1 w (by decide))
              have hS2 := Lib.hid (fun w => rlittle_any g2 1 w (by decide))
              have hS3 := Lib.hid (fun w => rlittle_any g3 1 w (by decide))
              obtain ⟨t0, ht0, ht0s⟩ : ∃ t : ByteArray, t = ⟨(litB g0 1).toArray⟩ ∧ t.size = 1 := ⟨_, rfl, by rw [ba_len, litB_len]⟩
              rw [← ht0] at hS0
              obtain ⟨t1, ht1, ht1s⟩ : ∃ t : ByteArray, t = ⟨(litB g1 1).toArray⟩ ∧ t.size = 1 := ⟨_, rfl, by rw [ba_len, litB_len]⟩
              rw [← ht1] at hS1
              obtain ⟨t2, ht2, ht2s⟩ : ∃ t : ByteArray, t = ⟨(litB g2 1).toArray⟩ ∧ t.size = 1 := ⟨_, rfl, by rw [ba_len, litB_len]⟩
              rw [← ht2] at hS2
              obtain ⟨t3, ht3, ht3s⟩ : ∃ t : ByteArray, t = ⟨(litB g3 1).toArray⟩ ∧ t.size = 1 := ⟨_, rfl, by rw [ba_len, litB_len]⟩
              rw [← ht3] at hS3
              have HT : Hid ((row ++ (((t0 ++ t1) ++ t2) ++ t3)).data.toList = ((px.drop yw).take (x2 + 1)).flatMap (pxT d) ∧ (row ++ (((t0 ++ t1) ++ t2) ++ t3)).size ≤ 8 * (x2 + 1)) := by
                refine ⟨?_, by simp only [ba_sz]; omega⟩
                rw [HTK.out, HPT.out, if_neg (by omega), ← hrow.out]
                refine ba_app _ _ _ _ rfl (ba_app _ _ _ _ (ba_app _ _ _ _ (ba_app _ _ _ _ ?_ ?_) ?_) ?_)
                · rw [ht0, litB_one _ gl0]
                · rw [ht1, litB_one _ gl1]
                · rw [ht2, litB_one _ gl2]
                · rw [ht3, litB_one _ gl3]
              have z0 : t0.size ≤ 4 := by omega
              have z1 : t1.size ≤ 4 := by omega
              have z2 : t2.size ≤ 4 := by omega
              have z3 : t3.size ≤ 4 := by omega
              clear ht0 ht1 ht2 ht3 ht0s ht1s ht2s ht3s HPT HTK hz
              go_upto_region 14 with fail
              obtain ⟨K0, hK0⟩ : ∃ K0, K0 = wj.heap.size := ⟨_, rfl⟩
              have HK0 : Hid (K0 ≤ wj.heap.size) := by show _ ≤ _; omega
              have hPK : PB < K0 := by rw [hK0]; exact HPX7.out.lt
              have HBK2 : Hid (Below wz.heap.size wz wj ∧ wz.heap.size ≤ K0) := ⟨HBK7.out, by rw [hK0]; exact HBK7.out.size⟩
              clear hK0
              have c0 : ∀ u : BW K0 wj, u.w.cell? ⟨PB, 0, none⟩ = some (.int .i64 (n0 : Int)) := fun u => (u.b.cell (p := ⟨PB, 0, none⟩) hPK).trans (HPX7.out.cell 0)
              have c1 : ∀ u : BW K0 wj, u.w.cell? ⟨PB, 1, none⟩ = some (.int .i64 (n1 : Int)) := fun u => (u.b.cell (p := ⟨PB, 1, none⟩) hPK).trans (HPX7.out.cell 1)
              have c2 : ∀ u : BW K0 wj, u.w.cell? ⟨PB, 2, none⟩ = some (.int .i64 (n2 : Int)) := fun u => (u.b.cell (p := ⟨PB, 2, none⟩) hPK).trans (HPX7.out.cell 2)
              have c3 : ∀ u : BW K0 wj, u.w.cell? ⟨PB, 3, none⟩ = some (.int .i64 (n3 : Int)) := fun u => (u.b.cell (p := ⟨PB, 3, none⟩) hPK).trans (HPX7.out.cell 3)
              refine wp_region_bw K0 wj (Below.refl _ _) (by kernel_rfl) (by kernel_rfl) ?_
              repeat (go_big_quiet_step (first
                | (go_at_call_of 87 (Value.int .i64 (n0 : Int)); exact calls_bw_drew (T0.out _))
                | (go_at_call_of 87 (Value.int .i64 (n1 : Int)); exact calls_bw_drew (T1.out _))
                | (go_at_call_of 87 (Value.int .i64 (n2 : Int)); exact calls_bw_drew (T2.out _))
                | (go_at_call_of 87 (Value.int .i64 (n3 : Int)); exact calls_bw_drew (T3.out _))
                | (go_at_call_of 63 (Value.int .i64 (g0 : Int)); exact calls_bw HK0.out (hS0.out _))
                | (go_at_call_of 63 (Value.int .i64 (g1 : Int)); exact calls_bw HK0.out (hS1.out _))
                | (go_at_call_of 63 (Value.int .i64 (g2 : Int)); exact calls_bw HK0.out (hS2.out _))
                | (go_at_call_of 63 (Value.int .i64 (g3 : Int)); exact calls_bw HK0.out (hS3.out _))))
              refine wpQuiet_nil ?_
              rintro _ ⟨u, rfl⟩
              have hb6 : Below wz.heap.size wz u.w := HBK2.out.1.trans (u.b.mono HBK2.out.2)
              generalize u.w = w6 at *
              clear c0 c1 c2 c3
              have HB6 := Lib.hid hb6
              clear hb6
              go_wp2_with fail
              go_roundw
              case rel => exact ⟨x2 + 1, _, by go_num, rfl, by omega, HT.out.1, HT.out.2, HB6.out⟩
              case measure => simp [intOf]; omega
        · have dltx : decide ((x2 : Int) < (W : Int)) = false := by simp; omega
          have hxW : x2 = W := by omega
          have HROW : Hid (row.data.toList = rowB d W px y) := by
            show _ = _
            rw [hrow.out, hxW]
            unfold rowB
            rw [HYW.out]
          have hrs2 : row.size ≤ 2048 := by omega
          clear hxW hrow
          cases pk with
          | false =>
            have HRB : Hid ((out ++ row).data.toList = rowsB d false W px (y + 1) ∧ (out ++ row).size ≤ 4096 * (y + 1)) := by
              refine ⟨?_, by simp only [ba_sz]; omega⟩
              rw [rowsB, ← hout.out, ← HROW.out]
              exact ba_app _ _ _ _ rfl rfl
            have hos2 : out.size ≤ 2000000 := by omega
            clear HROW hout
            go_wp2_with fail
            go_roundw
            case rel => exact ⟨y + 1, _, by go_num, rfl, by omega, HRB.out.1, HRB.out.2, hbw.out⟩
            case measure => simp [intOf]; omega
          | true =>
            have HPK1 := Lib.hid (fun w => HPK.out row w (by omega))
            rw [HROW.out] at HPK1
            obtain ⟨pr, hpr⟩ : ∃ t : ByteArray, t = ⟨(packP (rowB d W px y)).toArray⟩ := ⟨_, rfl⟩
            have hprs : pr.size ≤ 4096 := by
              rw [hpr, ba_len]
              have h1 := packP_len (rowB d W px y)
              have h2 : (rowB d W px y).length = row.size := by rw [← HROW.out, ba_size]
              omega
            have HRB : Hid ((out ++ pr).data.toList = rowsB d true W px (y + 1) ∧ (out ++ pr).size ≤ 4096 * (y + 1)) := by
              refine ⟨?_, by simp only [ba_sz]; omega⟩
              rw [rowsB, ← hout.out]
              refine ba_app _ _ _ _ rfl ?_
              rw [hpr]; rfl
            rw [← hpr] at HPK1
            have hos2 : out.size ≤ 2000000 := by omega
            clear HROW hout hpr
            go_wp2_with fail
            refine (HPK1.out _).mono ?_
            rintro e w9 ⟨rfl, hb9⟩
            have HB9 : Hid (Below wz.heap.size wz w9) := hbw.out.trans (hb9.mono hbw.out.size)
            clear hb9
            go_wp2_with fail
            go_roundw
            case rel => exact ⟨y + 1, _, by go_num, rfl, by omega, HRB.out.1, HRB.out.2, HB9.out⟩
            case measure => simp [intOf]; omega
    · have dlt : decide ((y : Int) < (H : Int)) = false := by simp; omega
      have hyH : y = H := by omega
      have HF : Hid (out = ⟨(rowsB d pk W px H).toArray⟩) := by show _ = _; rw [← hyH, ← hout.out]
      have HBF : Hid (Below B w wr) := HB1.out.trans (hbw.out.mono (by have := HK1.out.lt; omega))
      clear hyH
      go_wp2_with fail
      go_ret
      exact ⟨by rw [HF.out]; rfl, by rw [HBB.out]; exact HBF.out⟩
end Go.Proofs.Ytakileiomgaahaa
