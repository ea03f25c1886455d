/-
  Walks: the law PamDecodes.
-/
import Derived.Test.YtakkdgcmeeilbaaR6
import Derived.Test.YtakkdgcmeeilbaaR7
namespace Go.Proofs.Ytakkdgcmeeilbaa
open Go.RowKit

def shp : DRes → Nat × Nat × Nat × List Px × List Mt
  | .error k => (0, 0, k, [], [])
  | .ok (W, H, px, ms) => (W, H, 0, px, ms)
theorem prow_nil (w : World) : PRow w (.slice none 0 0) [] := ⟨none, 0, rfl, Nat.le_refl _, by unfold maxLen; omega, fun _ => rfl, fun h => absurd rfl h⟩
theorem dec_shape {r : DRes} {e : Ending} {w : World} (h : DecOk r e w) {W H k : Nat} {px : List Px} {ms : List Mt} (hs : shp r = (W, H, k, px, ms)) :
    ∃ (v mv : Value), e = .returned (.tuple #[.agg #[.int .i64 W, .int .i64 H, v], mv, .int .i64 k]) ∧ PRow w v px ∧ MRow w mv ms := by
  match r, h, hs with
  | .error k, h, hs =>
    simp only [shp, Prod.mk.injEq] at hs
    obtain ⟨rfl, rfl, rfl, rfl, rfl⟩ := hs
    exact ⟨.slice none 0 0, .slice none 0 0, h, prow_nil w, mrow_nil w⟩
  | .ok (W, H, px, ms), h, hs =>
    simp only [shp, Prod.mk.injEq] at hs
    obtain ⟨rfl, rfl, rfl, rfl, rfl⟩ := hs
    obtain ⟨pv, mv, he, hp, hm⟩ := h
    exact ⟨pv, mv, he, hp, hm⟩

set_option maxHeartbeats 2000000 in
set_option maxRecDepth 100000 in
theorem lawDecodes (s : ByteArray) (w : World) (hs : s.size ≤ maxLen) :
    Calls Try.prog 3 #[.string s] w fun e w' => e = .returned (.bool true) ∧ Below w.heap.size w w' := by
  have HD := Lib.hid (decode_any s w hs)
  have HR := Lib.hid (fun w => rdecode_any s w hs)
  have HEX := Lib.hid (fun w => example_any w)
  obtain ⟨W, H, k, px, ms, hsh⟩ : ∃ W H k px ms, shp (decP s.data.toList) = (W, H, k, px, ms) := ⟨_, _, _, _, _, rfl⟩
  generalize decP s.data.toList = r at *
  have HSH := Lib.hid hsh
  clear hsh
  go_enter Try.func3, Try.ntmps3
  go_wp2_with fail
  refine HD.out.mono ?_
  rintro e w1 ⟨hok, hb1⟩
  obtain ⟨v, mv, rfl, hp1, hm1⟩ := dec_shape hok HSH.out
  have hba := (Below.refl w1.heap.size w1).alloc (Nat.le_refl _) (.cells #[.int .i64 W, .int .i64 H, v] 24)
  have HBA := Lib.hid (hb1.alloc hb1.size (.cells #[.int .i64 W, .int .i64 H, v] 24))
  have HPA := Lib.hid (hp1.below hba)
  have HMA := Lib.hid (hm1.below hba)
  have HBL := Lib.hid (Blk.new w1 24 #[.int .i64 W, .int .i64 H, v])
  obtain ⟨x, c, rfl, -⟩ := id hp1
  obtain ⟨xm, cm, rfl, -⟩ := id hm1
  clear hb1 hm1 hp1 hba hok HD
  go_upto_region 2 with fail
  generalize w1.alloc (.cells #[.int .i64 W, .int .i64 H, .slice x px.length c] 24) = wa at *
  generalize w1.heap.size = K1 at *
  go_wp2_with fail
  refine (HR.out _).mono ?_
  rintro e w2 ⟨hok, hb2⟩
  obtain ⟨v, mv, rfl, hp2, hm2⟩ := dec_shape hok HSH.out
  have hba := (Below.refl w2.heap.size w2).alloc (Nat.le_refl _) (.cells #[.int .i64 W, .int .i64 H, v] 24)
  have hbb := hb2.alloc hb2.size (.cells #[.int .i64 W, .int .i64 H, v] 24)
  have HBL2 := Lib.hid (Blk.new w2 24 #[.int .i64 W, .int .i64 H, v])
  have HBL1 : Hid (Blk (w2.alloc (.cells #[.int .i64 W, .int .i64 H, v] 24)) K1 24 #[.int .i64 W, .int .i64 H, .slice x px.length c]) := (hbb.block _ HBL.out.lt).trans HBL.out
  have HPB := Lib.hid (hp2.below hba)
  have HMB := Lib.hid (hm2.below hba)
  have HPC := Lib.hid (HPA.out.below hbb)
  have HMC := Lib.hid (HMA.out.below hbb)
  have HBB := Lib.hid (bthen HBA.out hbb)
  obtain ⟨x2, c2, rfl, -⟩ := id hp2
  obtain ⟨xm2, cm2, rfl, -⟩ := id hm2
  clear hb2 hm2 hp2 hba hbb hok HR HPA HMA HBL HBA
  go_upto_region 3 with fail
  generalize w2.alloc (.cells #[.int .i64 W, .int .i64 H, .slice x2 px.length c2] 24) = wb at *
  generalize w2.heap.size = K2 at *
  have a0 : wb.cell? ⟨K1, 0, none⟩ = some (.int .i64 W) := HBL1.out.cell 0
  have a1 : wb.cell? ⟨K1, 1, none⟩ = some (.int .i64 H) := HBL1.out.cell 1
  have a2 : wb.cell? ⟨K1, 2, none⟩ = some (.slice x px.length c) := HBL1.out.cell 2
  have b0 : wb.cell? ⟨K2, 0, none⟩ = some (.int .i64 W) := HBL2.out.cell 0
  have b1 : wb.cell? ⟨K2, 1, none⟩ = some (.int .i64 H) := HBL2.out.cell 1
  have b2 : wb.cell? ⟨K2, 2, none⟩ = some (.slice x2 px.length c2) := HBL2.out.cell 2
  have HSA := Lib.hid (same_any (W : Int) (H : Int) _ _ px wb HPC.out HPB.out)
  unfold imgI at HSA
  go_wp2_with fail
  refine HSA.out.mono ?_
  rintro e w3 ⟨rfl, hb3⟩
  have HSM := Lib.hid (sameMeta_any _ _ ms w3 (HMC.out.below hb3) (HMB.out.below hb3))
  have HB3 := Lib.hid (bthen HBB.out hb3)
  clear hb3
  go_wp2_with fail
  refine HSM.out.mono ?_
  rintro e w4 ⟨rfl, hb4⟩
  have HB4 := Lib.hid (bthen HB3.out hb4)
  clear hb4
  have ek : ((k : Int) == (k : Int)) = true := by simp
  go_wp2_with fail
  refine (HEX.out _).mono ?_
  rintro e w5 ⟨rfl, hb5⟩
  have HB5 := Lib.hid (bthen HB4.out hb5)
  clear hb5
  go_wp2_with fail
  go_ret
  exact ⟨rfl, HB5.out⟩
end Go.Proofs.Ytakkdgcmeeilbaa
