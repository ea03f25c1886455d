/-
  The law: the image of any polygons by any transform.
-/
import Derived.Test.YtgjbelcnkmcbiaaDoorRb3
import Derived.Test.YtgjbelcnkmcbiaaDoorQw
import Derived.Test.YtgjbelcnkmcbiaaDoorRows
namespace Go.Proofs.YtgjbelcnkmcbiaaDoor
open Go.RowKit

theorem sh_form (t : Af) (ps : List (List Pt)) : ∃ L z, ∀ e w', ShOk t ps e w' → ∃ g, e = .returned (.tuple #[g, .int .i64 z]) ∧ GRow w' g L := by
  by_cases h0 : afChk t = 0
  · by_cases h1 : 4096 < totP ps
    · refine ⟨[], 3, fun e w' h => ?_⟩
      unfold ShOk at h
      rw [if_neg (by simp [h0]), if_pos h1] at h
      exact ⟨_, h, grow_nil _⟩
    · by_cases h2 : ∀ q ∈ ps, ∀ p ∈ q, badP t p = false
      · refine ⟨ps.map (·.map (imgP t)), 0, fun e w' h => ?_⟩
        unfold ShOk at h
        rw [if_neg (by simp [h0]), if_neg h1, if_pos h2] at h
        exact h
      · refine ⟨[], 2, fun e w' h => ?_⟩
        unfold ShOk at h
        rw [if_neg (by simp [h0]), if_neg h1, if_neg h2] at h
        exact ⟨_, h, grow_nil _⟩
  · refine ⟨[], afChk t, fun e w' h => ?_⟩
    unfold ShOk at h
    rw [if_pos h0] at h
    exact ⟨_, h, grow_nil _⟩

set_option maxRecDepth 100000 in
set_option maxHeartbeats 2000000 in
theorem lawShifts (v va : Value) (W : World) (hd : Ldd W) (ho : ∃ ps, GRow W v ps ∧ totP ps ≤ 1048576 ∧ ps.length ≤ 1048576) (ha : ∃ t, va = .agg (afC t)) : Calls Tryd.prog 6 #[v, va] W fun e W' => e = .returned (.bool true) ∧ Below W.heap.size W W' := by
  obtain ⟨ps, hr, ht, hl⟩ := ho
  obtain ⟨t, rfl⟩ := ha
  obtain ⟨L, z, hform⟩ := sh_form t ps
  have HFO := Lib.hid hform
  have HA := Lib.hid (fun w1 (hb : Below W.heap.size W w1) => shift_any v ps t w1 (hr.below hb) ht hl)
  have HB := Lib.hid (fun w1 (hb : Below W.heap.size W w1) => rshift_any v ps t w1 (hr.below hb) ht hl)
  have HE := Lib.hid (fun w1 (hb : Below W.heap.size W w1) => example_any w1 (hd.below hb))
  obtain ⟨x, c, rfl, -⟩ := hr
  unfold afC at HA HB ⊢
  clear hd hform ht hl
  have hbx := (Below.refl W.heap.size W).alloc (Nat.le_refl _) (.cells #[.int .i64 t.a, .int .i64 t.b, .int .i64 t.c, .int .i64 t.d, .int .i64 t.e, .int .i64 t.f] 45)
  have HBX := Lib.hid hbx
  have hkb := Blk.new W 45 #[.int .i64 t.a, .int .i64 t.b, .int .i64 t.c, .int .i64 t.d, .int .i64 t.e, .int .i64 t.f]
  have HKB := Lib.hid hkb
  clear hbx hkb
  go_enter Tryd.func6, Tryd.ntmps6
  go_wp2_with fail
  refine (HA.out _ HBX.out).mono ?_
  rintro e w1 ⟨hf, hb1⟩
  obtain ⟨g1, rfl, hg1⟩ := HFO.out _ _ hf
  have HB1 := Lib.hid (HBX.out.trans (hb1.mono HBX.out.size))
  have hK1 := (hb1.block _ HKB.out.lt).trans HKB.out
  have k0 := Blk.cell hK1 0
  have k1 := Blk.cell hK1 1
  have k2 := Blk.cell hK1 2
  have k3 := Blk.cell hK1 3
  have k4 := Blk.cell hK1 4
  have k5 := Blk.cell hK1 5
  have HG1 := Lib.hid hg1
  obtain ⟨x1, c1, rfl, -⟩ := hg1
  clear hb1 HA hf hK1 HBX HKB
  go_wp2_with fail
  refine (HB.out _ HB1.out).mono ?_
  rintro e w2 ⟨hf, hb2⟩
  obtain ⟨g2, rfl, hg2⟩ := HFO.out _ _ hf
  have HB2 := Lib.hid (bthen HB1.out hb2)
  have HSM := Lib.hid (samePolys_any _ _ L w2 (HG1.out.below hb2) hg2)
  obtain ⟨x2, c2, rfl, -⟩ := hg2
  clear hb2 HB hf HFO HG1 HB1 k0 k1 k2 k3 k4 k5
  go_wp2_with fail
  refine HSM.out.mono ?_
  rintro e w3 ⟨rfl, n3, rfl⟩
  have HB3 := Lib.hid (below_drewN HB2.out n3)
  clear HSM HB2
  generalize w2.drewN n3 = w3 at *
  go_wp2_with fail
  refine (HE.out _ HB3.out).mono ?_
  rintro e w4 ⟨rfl, hb4⟩
  have HB4 := Lib.hid (bthen HB3.out hb4)
  clear hb4
  go_wp2_with fail
  go_ret
  exact ⟨rfl, HB4.out⟩
end Go.Proofs.YtgjbelcnkmcbiaaDoor
