/-
  The law TiffTags.
-/
import Derived.Test.YtakileiomgaahaaTj1
import Derived.BigQuiet
import Derived.Test.YtakileiomgaahaaTw2
import Derived.Test.YtakileiomgaahaaTj8
import Derived.Test.YtakileiomgaahaaTr8
namespace Go.Proofs.Ytakileiomgaahaa
open Go.RowKit

set_option maxHeartbeats 4000000 in
set_option maxRecDepth 100000 in
theorem ltags_any (v1 v2 : Value) (l : List Tg) (w : World) (h1 : TRow w v1 l) (h2 : TRow w v2 l) : Calls Try.prog 19 #[v1, v2] w fun e w' => e = .returned (.bool true) ∧ Below w.heap.size w w' := by
  obtain ⟨x1, c1, rfl, hlc1, hcm1, hcell1⟩ := h1
  obtain ⟨x2, c2, rfl, hlc2, hcm2, hcell2⟩ := h2
  have HC1 : Hid (∀ i (hi : i < l.length), ∃ b off u, x1 = some ⟨b, off, none⟩ ∧ b < w.heap.size ∧ w.cell? ⟨b, off + i * 4, none⟩ = some (.int .i64 (l[i].id : Int)) ∧ w.cell? ⟨b, off + i * 4 + 1, none⟩ = some (.int .i64 (l[i].ty : Int)) ∧ w.cell? ⟨b, off + i * 4 + 2, none⟩ = some u ∧ w.cell? ⟨b, off + i * 4 + 3, none⟩ = some (.string ⟨l[i].text.toArray⟩) ∧ IRow w u l[i].vals) := fun i hi => by
    obtain ⟨b, off, rfl, hc⟩ := hcell1 (by rintro rfl; simp at hi)
    obtain ⟨k0, k1, k3, u, k2, hu⟩ := hc i hi
    exact ⟨b, off, u, rfl, World.block_lt_of_cell? w _ k0, k0, k1, k2, k3, hu⟩
  have HC2 : Hid (∀ i (hi : i < l.length), ∃ b off u, x2 = some ⟨b, off, none⟩ ∧ b < w.heap.size ∧ w.cell? ⟨b, off + i * 4, none⟩ = some (.int .i64 (l[i].id : Int)) ∧ w.cell? ⟨b, off + i * 4 + 1, none⟩ = some (.int .i64 (l[i].ty : Int)) ∧ w.cell? ⟨b, off + i * 4 + 2, none⟩ = some u ∧ w.cell? ⟨b, off + i * 4 + 3, none⟩ = some (.string ⟨l[i].text.toArray⟩) ∧ IRow w u l[i].vals) := fun i hi => by
    obtain ⟨b, off, rfl, hc⟩ := hcell2 (by rintro rfl; simp at hi)
    obtain ⟨k0, k1, k3, u, k2, hu⟩ := hc i hi
    exact ⟨b, off, u, rfl, World.block_lt_of_cell? w _ k0, k0, k1, k2, k3, hu⟩
  obtain ⟨n, hn⟩ : ∃ n, l.length = n := ⟨_, rfl⟩
  have hn63 : n ≤ 9223372036854775807 := by unfold maxLen at hcm1; omega
  rw [hn]
  have HN := Lib.hid hn
  have en : ((n : Int) != (n : Int)) = false := by simp
  clear hcell1 hcell2 hlc1 hlc2 hcm1 hcm2 hn
  go_enter Try.func19, Try.ntmps19
  go_wp2_with fail
  go_loopw [14] (fun vi wr => ∃ i : Nat, vi = .int .i64 i ∧ i ≤ n ∧ Hid (Below w.heap.size w wr)) (fun vi _ => n - (intOf vi).toNat)
  case atStart => exact ⟨0, rfl, Nat.zero_le _, Below.refl _ _⟩
  case round =>
    obtain ⟨i, rfl, hi, hbw⟩ := hrel
    by_cases hlt : i < n
    · have dlt : decide ((i : Int) < (n : Int)) = true := by simp; omega
      have hil : i < l.length := by rw [HN.out]; exact hlt
      have i1 : (i : Int) < (n : Int) := by omega
      obtain ⟨b1, o1, u1, rfl, hb1, p0, p1, p2, p3, hu1⟩ := HC1.out i hil
      obtain ⟨b2, o2, u2, rfl, hb2, q0, q1, q2, q3, hu2⟩ := HC2.out i hil
      obtain ⟨t, ht⟩ : ∃ t, l[i] = t := ⟨_, rfl⟩
      rw [ht] at p0 p1 p3 hu1 q0 q1 q3 hu2
      obtain ⟨ti, ty, tv, tx⟩ := t
      simp only at p0 p1 p3 hu1 q0 q1 q3 hu2
      obtain ⟨y1, d1, rfl, hvc, hvm, hcv1⟩ := hu1
      obtain ⟨y2, d2, rfl, -, -, hcv2⟩ := hu2
      obtain ⟨nt, hnt⟩ : ∃ n, tv.length = n := ⟨_, rfl⟩
      have HNT := Lib.hid hnt
      rw [hnt] at p2 q2 hvc
      have hnt63 : nt ≤ 9223372036854775807 := by unfold maxLen at hvm; omega
      have HV1 := Lib.hid hcv1
      have HV2 := Lib.hid hcv2
      have P2 := Lib.hid p2
      have Q2 := Lib.hid q2
      have HBB : Hid (b1 < w.heap.size ∧ b2 < w.heap.size) := ⟨hb1, hb2⟩
      replace p0 := (hbw.out.cell (p := ⟨b1, _, none⟩) hb1).trans p0
      replace p1 := (hbw.out.cell (p := ⟨b1, _, none⟩) hb1).trans p1
      replace p2 := (hbw.out.cell (p := ⟨b1, _, none⟩) hb1).trans p2
      replace p3 := (hbw.out.cell (p := ⟨b1, _, none⟩) hb1).trans p3
      replace q0 := (hbw.out.cell (p := ⟨b2, _, none⟩) hb2).trans q0
      replace q1 := (hbw.out.cell (p := ⟨b2, _, none⟩) hb2).trans q1
      replace q2 := (hbw.out.cell (p := ⟨b2, _, none⟩) hb2).trans q2
      replace q3 := (hbw.out.cell (p := ⟨b2, _, none⟩) hb2).trans q3
      obtain ⟨TX, hTX⟩ : ∃ X : ByteArray, (⟨tx.toArray⟩ : ByteArray) = X := ⟨_, rfl⟩
      rw [hTX] at p3 q3
      have e0 : ((ti : Int) != (ti : Int)) = false := by simp
      have e1 : ((ty : Int) != (ty : Int)) = false := by simp
      have e2 : (TX.toList != TX.toList) = false := by simp
      have e3 : ((nt : Int) != (nt : Int)) = false := by simp
      clear ht hcv1 hcv2 hvc hvm hnt hTX hb1 hb2
      go_upto_region 6 with fail
      go_quiet (fail)
      have HBQ := Lib.hid (below_drewN hbw.out nq)
      replace p2 : (wr.drewN nq).cell? ⟨b1, o1 + i * 4 + 2, none⟩ = _ := p2
      replace q2 : (wr.drewN nq).cell? ⟨b2, o2 + i * 4 + 2, none⟩ = _ := q2
      clear hbw p0 p1 p3 q0 q1 q3
      generalize wr.drewN nq = wq at *
      clear e0 e1 e2 e3
      go_wp2_with fail
      clear p2 q2
      go_loopw [75] (fun vi wr => ∃ k : Nat, vi = .int .i64 k ∧ k ≤ nt ∧ Hid (Below w.heap.size w wr)) (fun vi _ => nt - (intOf vi).toNat)
      case atStart => exact ⟨0, rfl, Nat.zero_le _, HBQ.out⟩
      case round =>
        obtain ⟨k, rfl, hk, hbw⟩ := hrel
        by_cases hkl : k < nt
        · have dk : decide ((k : Int) < (nt : Int)) = true := by simp; omega
          have hkt : k < tv.length := by rw [HNT.out]; exact hkl
          have k1 : (k : Int) < (nt : Int) := by omega
          have hne : tv ≠ [] := by rintro rfl; simp at hkt
          obtain ⟨g1, f1, rfl, hg1⟩ := HV1.out hne
          obtain ⟨g2, f2, rfl, hg2⟩ := HV2.out hne
          have z1 := hg1 k hkt
          have z2 := hg2 k hkt
          replace z1 := (hbw.out.cell (p := ⟨g1, _, none⟩) (World.block_lt_of_cell? w _ z1)).trans z1
          replace z2 := (hbw.out.cell (p := ⟨g2, _, none⟩) (World.block_lt_of_cell? w _ z2)).trans z2
          have p2 := (hbw.out.cell (p := ⟨b1, _, none⟩) HBB.out.1).trans P2.out
          have q2 := (hbw.out.cell (p := ⟨b2, _, none⟩) HBB.out.2).trans Q2.out
          generalize tv[k] = y at *
          have ey : ((y : Int) != (y : Int)) = false := by simp
          clear hg1 hg2 hne
          go_upto_region 11 with fail
          go_quiet (fail)
          have HBQ2 := Lib.hid (below_drewN hbw.out nq)
          clear hbw p2 q2 z1 z2
          generalize wr.drewN nq = wy at *
          clear ey
          go_wp2_with fail
          go_roundw
          case rel => exact ⟨k + 1, by go_num, by omega, HBQ2.out⟩
          case measure => simp [intOf]; omega
        · have dk : decide ((k : Int) < (nt : Int)) = false := by simp; omega
          go_wp2_with fail
          go_roundw
          case rel => exact ⟨i + 1, by go_num, by omega, hbw.out⟩
          case measure => simp [intOf]; omega
    · have dlt : decide ((i : Int) < (n : Int)) = false := by simp; omega
      go_wp2_with fail
      go_ret
      exact ⟨rfl, hbw.out⟩
end Go.Proofs.Ytakileiomgaahaa
namespace Go.Proofs.Ytakileiomgaahaa
open Go.RowKit

def tgL (r : Except Nat (List Tg)) : List Tg := match r with | .error _ => [] | .ok l => l
def tgK (r : Except Nat (List Tg)) : Nat := match r with | .error k => k | .ok _ => 0
theorem tgs_shape {r : Except Nat (List Tg)} {e : Ending} {w : World} (h : TgsOk r e w) : ∃ v, e = .returned (.tuple #[v, .int .i64 (tgK r : Nat)]) ∧ TRow w v (tgL r) := by
  cases r with
  | error k => exact ⟨_, h, TRow.nil w⟩
  | ok l => obtain ⟨v, h1, h2⟩ := h; exact ⟨v, h1, h2⟩
def dcA (r : DResT) : Nat := match r with | .error _ => 0 | .ok q => q.1
def dcB (r : DResT) : Nat := match r with | .error _ => 0 | .ok q => q.2.1
def dcP (r : DResT) : List Px := match r with | .error _ => [] | .ok q => q.2.2.1
def dcM (r : DResT) : List Mt := match r with | .error _ => [] | .ok q => q.2.2.2
def dcK (r : DResT) : Nat := match r with | .error k => k | .ok _ => 0
theorem prow_nil (w : World) : PRow w (.slice none 0 0) [] := ⟨none, 0, rfl, Nat.le_refl _, Nat.zero_le _, fun _ => rfl, fun h => absurd rfl h⟩
theorem dec_shape {r : DResT} {e : Ending} {w : World} (h : DecOkT r e w) : ∃ pv mv, e = .returned (.tuple #[.agg #[.int .i64 (dcA r : Nat), .int .i64 (dcB r : Nat), pv], mv, .int .i64 (dcK r : Nat)]) ∧ PRow w pv (dcP r) ∧ MRow w mv (dcM r) := by
  cases r with
  | error k => exact ⟨.slice none 0 0, .slice none 0 0, h, prow_nil w, mrow_nil w⟩
  | ok q => obtain ⟨a, b, px, ms⟩ := q; obtain ⟨pv, mv, h1, h2, h3⟩ := h; exact ⟨pv, mv, h1, h2, h3⟩

set_option maxHeartbeats 4000000 in
set_option maxRecDepth 100000 in
theorem lawTags (s : ByteArray) (w : World) (hs : s.size ≤ 1000000000000000) : Calls Try.prog 5 #[.string s] w fun e w' => e = .returned (.bool true) ∧ Below w.heap.size w w' := by
  have HA := Lib.hid (fun w => (ttags_any s w hs).mono fun e w' h => (⟨tgs_shape h.1, h.2⟩ : _ ∧ _))
  have HB := Lib.hid (fun w => (rtags_any s w hs).mono fun e w' h => (⟨tgs_shape h.1, h.2⟩ : _ ∧ _))
  have HC := Lib.hid (fun w => (tdecode_any s w hs).mono fun e w' h => (⟨dec_shape h.1, h.2⟩ : _ ∧ _))
  have HD := Lib.hid (fun w => (rdecodeT_any s w hs).mono fun e w' h => (⟨dec_shape h.1, h.2⟩ : _ ∧ _))
  have HAW := Lib.hid (fun w => awakeT_any w)
  generalize tgL (tagsP s.data.toList) = l at *
  generalize tgK (tagsP s.data.toList) = k1 at *
  generalize dcA (decT s.data.toList) = W at *
  generalize dcB (decT s.data.toList) = H at *
  generalize dcP (decT s.data.toList) = px at *
  generalize dcM (decT s.data.toList) = ms at *
  generalize dcK (decT s.data.toList) = k2 at *
  have ek1 : ((k1 : Int) == (k1 : Int)) = true := by simp
  have ek2 : ((k2 : Int) == (k2 : Int)) = true := by simp
  go_enter Try.func5, Try.ntmps5
  go_wp2_with fail
  refine (HA.out _).mono ?_
  rintro e w1 ⟨⟨va, rfl, hra⟩, hb1⟩
  have HB1 := Lib.hid hb1
  have HRA := Lib.hid hra
  obtain ⟨xa, ca, rfl, -⟩ := hra
  clear hb1 HA
  go_wp2_with fail
  refine (HB.out _).mono ?_
  rintro e w2 ⟨⟨vb, rfl, hrb⟩, hb2⟩
  have HB2 := Lib.hid (bthen HB1.out hb2)
  have HRA2 := Lib.hid (HRA.out.below hb2)
  have HRB := Lib.hid hrb
  obtain ⟨xb, cb, rfl, -⟩ := hrb
  clear hb2 HB HB1 HRA
  go_wp2_with fail
  refine (HC.out _).mono ?_
  rintro e w3 ⟨⟨pv, mv, rfl, hp, hm⟩, hb3⟩
  have HB3 := Lib.hid (bthen HB2.out hb3)
  have HRA3 := Lib.hid (HRA2.out.below hb3)
  have HRB3 := Lib.hid (HRB.out.below hb3)
  have hal := fun o => (Below.refl w3.heap.size w3).alloc (Nat.le_refl _) o
  obtain ⟨xp, cp, rfl, -⟩ := id hp
  obtain ⟨xm, cm, rfl, -⟩ := id hm
  obtain ⟨np, hnp⟩ : ∃ n, px.length = n := ⟨_, rfl⟩
  obtain ⟨nm, hnm⟩ : ∃ n, ms.length = n := ⟨_, rfl⟩
  rw [hnp] at hp ⊢
  rw [hnm] at hm ⊢
  have HK4 := Lib.hid (Blk.new w3 34 #[.int .i64 (W : Int), .int .i64 (H : Int), .slice xp np cp])
  have HBA := Lib.hid (hal (.cells #[.int .i64 (W : Int), .int .i64 (H : Int), .slice xp np cp] 34))
  have HP3 := Lib.hid hp
  have HM3 := Lib.hid hm
  have HNP := Lib.hid hnp
  have HNM := Lib.hid hnm
  clear hal hp hm hnp hnm hb3 HC HB2 HRA2 HRB
  go_upto_region 4 with fail
  have HP4 := Lib.hid (HP3.out.below HBA.out)
  have HM4 := Lib.hid (HM3.out.below HBA.out)
  have HRA4 := Lib.hid (HRA3.out.below HBA.out)
  have HRB4 := Lib.hid (HRB3.out.below HBA.out)
  have HB4 := Lib.hid (bthen HB3.out HBA.out)
  clear HP3 HM3 HRA3 HRB3 HB3 HBA
  generalize w3.alloc (.cells #[.int .i64 (W : Int), .int .i64 (H : Int), .slice xp np cp] 34) = w4 at *
  generalize w3.heap.size = K1 at *
  go_wp2_with fail
  refine (HD.out _).mono ?_
  rintro e w5 ⟨⟨pv2, mv2, rfl, hp2, hm2⟩, hb5⟩
  have HB5 := Lib.hid (bthen HB4.out hb5)
  have HRA5 := Lib.hid (HRA4.out.below hb5)
  have HRB5 := Lib.hid (HRB4.out.below hb5)
  have HP5 := Lib.hid (HP4.out.below hb5)
  have HM5 := Lib.hid (HM4.out.below hb5)
  have HK5 : Hid (Blk w5 K1 34 #[.int .i64 (W : Int), .int .i64 (H : Int), .slice xp np cp]) := (hb5.block _ HK4.out.lt).trans HK4.out
  obtain ⟨xp2, cp2, rfl, -⟩ := id hp2
  obtain ⟨xm2, cm2, rfl, -⟩ := id hm2
  rw [HNP.out] at hp2 ⊢
  rw [HNM.out] at hm2 ⊢
  have HK6 := Lib.hid (Blk.new w5 34 #[.int .i64 (W : Int), .int .i64 (H : Int), .slice xp2 np cp2])
  have HBA := Lib.hid ((Below.refl w5.heap.size w5).alloc (Nat.le_refl _) (.cells #[.int .i64 (W : Int), .int .i64 (H : Int), .slice xp2 np cp2] 34))
  have HK7 := Lib.hid (HK5.out.alloc (.cells #[.int .i64 (W : Int), .int .i64 (H : Int), .slice xp2 np cp2] 34))
  have HQ5 := Lib.hid hp2
  have HN5 := Lib.hid hm2
  clear hp2 hm2 hb5 HD HB4 HRA4 HRB4 HP4 HM4 HK4 HK5
  go_upto_region 5 with fail
  have HP6 := Lib.hid (HP5.out.below HBA.out)
  have HM6 := Lib.hid (HM5.out.below HBA.out)
  have HQ6 := Lib.hid (HQ5.out.below HBA.out)
  have HN6 := Lib.hid (HN5.out.below HBA.out)
  have HRA6 := Lib.hid (HRA5.out.below HBA.out)
  have HRB6 := Lib.hid (HRB5.out.below HBA.out)
  have HB6 := Lib.hid (bthen HB5.out HBA.out)
  clear HP5 HM5 HQ5 HN5 HRA5 HRB5 HB5 HBA
  generalize w5.alloc (.cells #[.int .i64 (W : Int), .int .i64 (H : Int), .slice xp2 np cp2] 34) = w6 at *
  generalize w5.heap.size = K2 at *
  have HTG := Lib.hid (ltags_any _ _ l w6 HRA6.out HRB6.out)
  go_wp2_with fail
  refine HTG.out.mono ?_
  rintro e w7 ⟨rfl, hb7⟩
  have HB7 := Lib.hid (bthen HB6.out hb7)
  have HSM : Hid (Calls Try.prog 20 #[.agg #[.int .i64 (W : Int), .int .i64 (H : Int), .slice xp np cp], .agg #[.int .i64 (W : Int), .int .i64 (H : Int), .slice xp2 np cp2]] w7 fun e w' => e = .returned (.bool true) ∧ Below w7.heap.size w7 w') := tsame_any W H _ _ px w7 (HP6.out.below hb7) (HQ6.out.below hb7)
  have HM7 := Lib.hid (HM6.out.below hb7)
  have HN7 := Lib.hid (HN6.out.below hb7)
  have q1 : Blk w7 K1 34 #[.int .i64 (W : Int), .int .i64 (H : Int), .slice xp np cp] := (hb7.block _ HK7.out.lt).trans HK7.out
  have q2 : Blk w7 K2 34 #[.int .i64 (W : Int), .int .i64 (H : Int), .slice xp2 np cp2] := (hb7.block _ HK6.out.lt).trans HK6.out
  have a0 : w7.cell? ⟨K1, 0, none⟩ = some (.int .i64 (W : Int)) := q1.cell 0
  have a1 : w7.cell? ⟨K1, 1, none⟩ = some (.int .i64 (H : Int)) := q1.cell 1
  have a2 : w7.cell? ⟨K1, 2, none⟩ = some (.slice xp np cp) := q1.cell 2
  have b0 : w7.cell? ⟨K2, 0, none⟩ = some (.int .i64 (W : Int)) := q2.cell 0
  have b1 : w7.cell? ⟨K2, 1, none⟩ = some (.int .i64 (H : Int)) := q2.cell 1
  have b2 : w7.cell? ⟨K2, 2, none⟩ = some (.slice xp2 np cp2) := q2.cell 2
  clear hb7 HTG HB6 HRA6 HRB6 HP6 HQ6 HM6 HN6 HK6 HK7 q1 q2
  go_wp2_with fail
  refine HSM.out.mono ?_
  rintro e w8 ⟨rfl, hb8⟩
  have HB8 := Lib.hid (bthen HB7.out hb8)
  have HAL := Lib.hid (talike_any _ _ ms w8 (HM7.out.below hb8) (HN7.out.below hb8))
  clear hb8 HB7 HM7 HN7 HSM a0 a1 a2 b0 b1 b2
  go_wp2_with fail
  refine HAL.out.mono ?_
  rintro e w9 ⟨rfl, hb9⟩
  have HB9 := Lib.hid (bthen HB8.out hb9)
  clear hb9 HAL HB8
  go_wp2_with fail
  refine (HAW.out _).mono ?_
  rintro e w10 ⟨rfl, hb10⟩
  have HB10 := Lib.hid (bthen HB9.out hb10)
  clear hb10
  go_wp2_with fail
  go_ret
  exact ⟨rfl, HB10.out⟩
end Go.Proofs.Ytakileiomgaahaa
