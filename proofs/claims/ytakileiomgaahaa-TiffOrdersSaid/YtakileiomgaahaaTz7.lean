/-
  The law TiffOrders.
-/
import Derived.Test.YtakileiomgaahaaTw2
import Derived.Test.YtakileiomgaahaaTj8
import Derived.Test.YtakileiomgaahaaTo2
namespace Go.Proofs.Ytakileiomgaahaa
open Go.RowKit

set_option maxHeartbeats 4000000 in
set_option maxRecDepth 100000 in
theorem lawOrders (v : Value) (w : World) (hv : UArg w v) :
    Calls Try.prog 9 #[v] w fun e w' => e = .returned (.bool true) ∧ Below w.heap.size w w' := by
  obtain ⟨l, hr, hvl⟩ := hv
  have HAW := Lib.hid (fun w => awakeT_any w)
  obtain ⟨x, c, rfl, -, hcm, -⟩ := id hr
  obtain ⟨n, hn⟩ : ∃ n, l.length = n := ⟨_, rfl⟩
  have HN := Lib.hid hn
  have hl63 : n ≤ 9223372036854775807 := by
    obtain ⟨x', c', hve, h1, -, -⟩ := hr
    injection hve with e1 e2 e3
    unfold maxLen at hcm
    omega
  unfold maxLen at hcm
  have HR := Lib.hid hr
  rw [hn] at HR ⊢
  clear hr
  by_cases h1 : n < 1
  · have d1 : decide ((n : Int) < 1) = true := by simp; omega
    clear hn
    go_enter Try.func9, Try.ntmps9
    go_wp2_with fail
    refine (HAW.out _).mono ?_
    rintro e w1 ⟨rfl, hb1⟩
    have HB1 := Lib.hid hb1
    clear hb1
    go_wp2_with fail
    go_ret
    exact ⟨rfl, HB1.out⟩
  have d1 : decide ((n : Int) < 1) = false := by simp; omega
  by_cases h2 : 256 < n
  · have d2 : decide ((256 : Int) < (n : Int)) = true := by simp; omega
    clear hn
    go_enter Try.func9, Try.ntmps9
    go_wp2_with fail
    refine (HAW.out _).mono ?_
    rintro e w1 ⟨rfl, hb1⟩
    have HB1 := Lib.hid hb1
    clear hb1
    go_wp2_with fail
    go_ret
    exact ⟨rfl, HB1.out⟩
  have d2 : decide ((256 : Int) < (n : Int)) = false := by simp; omega
  have HG : Hid (∀ big w, URow w (.slice x n c) l → Calls Try.prog 28 #[.slice x n c, .bool big] w fun e w' => e = .returned (.string ⟨(grayE big l).toArray⟩) ∧ Below w.heap.size w w') := fun big w h => lgray_any _ l big w h (by omega) hvl
  obtain ⟨sF, hsF⟩ : ∃ s : ByteArray, s = ⟨(grayE false l).toArray⟩ := ⟨_, rfl⟩
  obtain ⟨sT, hsT⟩ : ∃ s : ByteArray, s = ⟨(grayE true l).toArray⟩ := ⟨_, rfl⟩
  have HGF := Lib.hid (HG.out false)
  have HGT := Lib.hid (HG.out true)
  rw [← hsF] at HGF
  rw [← hsT] at HGT
  obtain ⟨PX, hPX⟩ : ∃ PX, l.map (fun (v : Nat) => (((v : Int), (v : Int), (v : Int), (65535 : Int)) : Px)) = PX := ⟨_, rfl⟩
  have HDF : Hid (∀ w, Calls Try.prog 17 #[.string sF] w fun e w' => DecOkT (.ok (n, 1, PX, [])) e w' ∧ Below w.heap.size w w') := fun w => by
    have h := tdecode_any sF w (by rw [hsF, ba_len, grayE_len]; omega)
    have e : sF.data.toList = grayE false l := by rw [hsF]
    rwa [e, decT_gray false l (by omega) (by omega) hvl, hn, hPX] at h
  have HDT : Hid (∀ w, Calls Try.prog 17 #[.string sT] w fun e w' => DecOkT (.ok (n, 1, PX, [])) e w' ∧ Below w.heap.size w w') := fun w => by
    have h := tdecode_any sT w (by rw [hsT, ba_len, grayE_len]; omega)
    have e : sT.data.toList = grayE true l := by rw [hsT]
    rwa [e, decT_gray true l (by omega) (by omega) hvl, hn, hPX] at h
  have HPL : Hid (PX.length = n) := by show _ = _; rw [← hPX, List.length_map, hn]
  have HPG : Hid (∀ i (h : i < l.length) (h2 : i < PX.length), PX[i] = ((l[i] : Int), (l[i] : Int), (l[i] : Int), (65535 : Int))) := fun i h h2 => by simp only [← hPX, List.getElem_map]
  have HVB := Lib.hid hvl
  clear hsF hsT hPX hn hvl HG
  go_enter Try.func9, Try.ntmps9
  go_wp2_with fail
  refine (HGF.out _ HR.out).mono ?_
  rintro e w1 ⟨rfl, hb1⟩
  have HB1 := Lib.hid hb1
  clear hb1 HGF
  go_wp2_with fail
  refine (HDF.out _).mono ?_
  rintro e w2 ⟨hok, hb2⟩
  obtain ⟨pv, mv, he, hp, hm⟩ := hok
  subst he
  obtain ⟨xa, ca, rfl, -⟩ := id hp
  obtain ⟨xm, cm, rfl, -⟩ := id hm
  rw [HPL.out] at hp ⊢
  unfold imgC
  have HB2 := Lib.hid (bthen HB1.out hb2)
  have hal := (Below.refl w2.heap.size w2).alloc (Nat.le_refl _) (.cells #[.int .i64 (n : Int), .int .i64 ((1 : Nat) : Int), .slice xa n ca] 34)
  have HP3 := Lib.hid (hp.below hal)
  have HK3 := Lib.hid (Blk.new w2 34 #[.int .i64 (n : Int), .int .i64 ((1 : Nat) : Int), .slice xa n ca])
  have HB3 := Lib.hid (bthen HB2.out hal)
  clear hb2 hal hp hm HDF HB1 HB2
  go_upto_region 4 with fail
  change Hid (PRow (w2.alloc (.cells #[.int .i64 (n : Int), .int .i64 1, .slice xa n ca] 34)) _ _) at HP3
  change Hid (Blk (w2.alloc (.cells #[.int .i64 (n : Int), .int .i64 1, .slice xa n ca] 34)) _ _ #[.int .i64 (n : Int), .int .i64 1, .slice xa n ca]) at HK3
  change Hid (Below w.heap.size w (w2.alloc (.cells #[.int .i64 (n : Int), .int .i64 1, .slice xa n ca] 34))) at HB3
  generalize w2.alloc (.cells #[.int .i64 (n : Int), .int .i64 1, .slice xa n ca] 34) = w3 at *
  generalize w2.heap.size = J at *
  go_wp2_with fail
  refine (HGT.out _ (HR.out.below HB3.out)).mono ?_
  rintro e w4 ⟨rfl, hb4⟩
  have HP4 := Lib.hid (HP3.out.below hb4)
  have HK4 : Hid (Blk w4 J 34 #[.int .i64 (n : Int), .int .i64 1, .slice xa n ca]) := (hb4.block _ HK3.out.lt).trans HK3.out
  have HB4 := Lib.hid (bthen HB3.out hb4)
  clear hb4 HGT HP3 HK3 HB3
  go_wp2_with fail
  refine (HDT.out _).mono ?_
  rintro e w5 ⟨hok, hb5⟩
  obtain ⟨pv, mv, he, hp, hm⟩ := hok
  subst he
  obtain ⟨xc, cc, rfl, -⟩ := id hp
  obtain ⟨xd, cd, rfl, -⟩ := id hm
  rw [HPL.out] at hp ⊢
  unfold imgC
  have HP5 := Lib.hid (HP4.out.below hb5)
  have HK5 : Hid (Blk w5 J 34 #[.int .i64 (n : Int), .int .i64 1, .slice xa n ca]) := (hb5.block _ HK4.out.lt).trans HK4.out
  have HB5 := Lib.hid (bthen HB4.out hb5)
  have hal := (Below.refl w5.heap.size w5).alloc (Nat.le_refl _) (.cells #[.int .i64 (n : Int), .int .i64 ((1 : Nat) : Int), .slice xc n cc] 34)
  have HP6 := Lib.hid (HP5.out.below hal)
  have HQ6 := Lib.hid (hp.below hal)
  have HK6 : Hid (Blk (w5.alloc (.cells #[.int .i64 (n : Int), .int .i64 ((1 : Nat) : Int), .slice xc n cc] 34)) J 34 #[.int .i64 (n : Int), .int .i64 1, .slice xa n ca]) := (hal.block _ HK5.out.lt).trans HK5.out
  have HI6 := Lib.hid (Blk.new w5 34 #[.int .i64 (n : Int), .int .i64 ((1 : Nat) : Int), .slice xc n cc])
  have HB6 := Lib.hid (bthen HB5.out hal)
  clear hb5 hal hp hm HDT HP4 HK4 HB4 HP5 HK5 HB5
  go_upto_region 5 with fail
  change Hid (PRow (w5.alloc (.cells #[.int .i64 (n : Int), .int .i64 1, .slice xc n cc] 34)) _ _) at HP6
  change Hid (PRow (w5.alloc (.cells #[.int .i64 (n : Int), .int .i64 1, .slice xc n cc] 34)) _ _) at HQ6
  change Hid (Blk (w5.alloc (.cells #[.int .i64 (n : Int), .int .i64 1, .slice xc n cc] 34)) _ _ _) at HK6
  change Hid (Blk (w5.alloc (.cells #[.int .i64 (n : Int), .int .i64 1, .slice xc n cc] 34)) _ _ #[.int .i64 (n : Int), .int .i64 1, .slice xc n cc]) at HI6
  change Hid (Below w.heap.size w (w5.alloc (.cells #[.int .i64 (n : Int), .int .i64 1, .slice xc n cc] 34))) at HB6
  generalize w5.alloc (.cells #[.int .i64 (n : Int), .int .i64 1, .slice xc n cc] 34) = w6 at *
  generalize w5.heap.size = K at *
  have HSM : Hid (Calls Try.prog 20 #[.agg #[.int .i64 (n : Int), .int .i64 1, .slice xa n ca], .agg #[.int .i64 (n : Int), .int .i64 1, .slice xc n cc]] w6 fun e w' => e = .returned (.bool true) ∧ Below w6.heap.size w6 w') := tsame_any n 1 _ _ PX w6 HP6.out HQ6.out
  have a0 : w6.cell? ⟨J, 0, none⟩ = some (.int .i64 (n : Int)) := HK6.out.cell 0
  have a1 : w6.cell? ⟨J, 1, none⟩ = some (.int .i64 1) := HK6.out.cell 1
  have a2 : w6.cell? ⟨J, 2, none⟩ = some (.slice xa n ca) := HK6.out.cell 2
  have b0 : w6.cell? ⟨K, 0, none⟩ = some (.int .i64 (n : Int)) := HI6.out.cell 0
  have b1 : w6.cell? ⟨K, 1, none⟩ = some (.int .i64 1) := HI6.out.cell 1
  have b2 : w6.cell? ⟨K, 2, none⟩ = some (.slice xc n cc) := HI6.out.cell 2
  go_wp2_with fail
  refine HSM.out.mono ?_
  rintro e w7 ⟨rfl, hb7⟩
  have HP7 := Lib.hid (HP6.out.below hb7)
  have HK7 : Hid (Blk w7 J 34 #[.int .i64 (n : Int), .int .i64 1, .slice xa n ca]) := (hb7.block _ HK6.out.lt).trans HK6.out
  have HB7 := Lib.hid (bthen HB6.out hb7)
  clear a0 a1 a2 b0 b1 b2 hb7 HSM HP6 HQ6 HK6 HI6 HB6
  have a0 : w7.cell? ⟨J, 0, none⟩ = some (.int .i64 (n : Int)) := HK7.out.cell 0
  have a1 : w7.cell? ⟨J, 1, none⟩ = some (.int .i64 1) := HK7.out.cell 1
  have a2 : w7.cell? ⟨J, 2, none⟩ = some (.slice xa n ca) := HK7.out.cell 2
  have en : ((n : Int) != (n : Int)) = false := by simp
  go_wp2_with fail
  clear a0 a1 en
  have HCE : Hid (∀ i (h : i < l.length), ∃ b off, x = some ⟨b, off, none⟩ ∧ w7.cell? ⟨b, off + i, none⟩ = some (.int .u16 (l[i] : Int))) := fun i hi => by
    obtain ⟨x', c', hve, -, -, hcell⟩ := HR.out.below HB7.out
    obtain ⟨rfl, rfl⟩ : x = x' ∧ c = c' := by injection hve with e1 e2 e3; exact ⟨e1, e3⟩
    obtain ⟨b, off, rfl, hc⟩ := hcell (by rintro rfl; simp at hi)
    exact ⟨b, off, rfl, hc i hi⟩
  have HPC : Hid (∀ i (h : i < PX.length), ∃ g o, xa = some ⟨g, o, none⟩ ∧ PCell w7 g o i PX[i]) := fun i hi => by
    obtain ⟨x', c', hve, -, -, -, hcell⟩ := HP7.out
    obtain ⟨rfl, rfl⟩ : xa = x' ∧ ca = c' := by injection hve with e1 e2 e3; exact ⟨e1, e3⟩
    obtain ⟨g, o, rfl, hc⟩ := hcell (by rintro rfl; simp at hi)
    exact ⟨g, o, rfl, hc i hi⟩
  go_loopw [69] (fun vi wr => ∃ i : Nat, vi = .int .i64 i ∧ i ≤ n ∧ wr = w7) (fun vi _ => n - (intOf vi).toNat)
  case atStart => exact ⟨0, rfl, Nat.zero_le _, rfl⟩
  case round =>
    obtain ⟨i, rfl, hi, hwr⟩ := hrel
    have hwr2 := hwr.symm
    subst hwr2
    clear hwr
    by_cases hlt : i < n
    · have dlt : decide ((i : Int) < (n : Int)) = true := by simp; omega
      have hil : i < l.length := by rw [HN.out]; exact hlt
      have hip : i < PX.length := by rw [HPL.out]; exact hlt
      have i1 : (i : Int) < (n : Int) := by omega
      obtain ⟨b, off, rfl, c0⟩ := HCE.out i hil
      obtain ⟨g, o, rfl, q0, q1, q2, q3⟩ := HPC.out i hip
      rw [HPG.out i hil hip] at q0 q1 q2 q3
      have hx := HVB.out l[i] (List.getElem_mem hil)
      generalize l[i] = y at *
      simp only at q0 q1 q2 q3
      have wy : IntKind.i64.wrap (y : Int) = (y : Int) := by rw [IntKind.wrap_i64]; omega
      have heq : ∀ w, (Op.equalIn 10000 46 (.agg #[.int .i64 (y : Int), .int .i64 (y : Int), .int .i64 (y : Int), .int .i64 65535]) (.agg #[.int .i64 (y : Int), .int .i64 (y : Int), .int .i64 (y : Int), .int .i64 65535])).run Try.prog w = .ok true w := fun w => (eqPx ((y : Int), (y : Int), (y : Int), 65535) ((y : Int), (y : Int), (y : Int), 65535) w).trans (by simp)
      clear hil hip HCE HPC
      go_wp2_with fail
      go_roundw
      case rel => exact ⟨i + 1, by go_num, by omega, trivial⟩
      case measure => simp [intOf]; omega
    · have dlt : decide ((i : Int) < (n : Int)) = false := by simp; omega
      go_wp2_with fail
      refine (HAW.out _).mono ?_
      rintro e w8 ⟨rfl, hb8⟩
      have HB8 := Lib.hid (bthen HB7.out hb8)
      clear hb8
      go_wp2_with fail
      go_ret
      exact ⟨rfl, HB8.out⟩
end Go.Proofs.Ytakileiomgaahaa
