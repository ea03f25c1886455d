/-
  Walks: the examples; the law PamValid.
-/
import Derived.Test.YtakkdgcmeeilbaaDoorP11
import Derived.Test.YtakkdgcmeeilbaaDoorPv
namespace Go.Proofs.YtakkdgcmeeilbaaDoor
open Go.RowKit

theorem ex1 : decP [80, 53, 32, 49, 32, 49, 32, 50, 53, 53, 10, 128] = .ok (1, 1, [(32896, 32896, 32896, 65535)], []) := by kernel_rfl
theorem ex2 : decP [80, 54, 32, 50, 32, 49, 32, 49, 10, 1, 0, 0, 0, 0, 2] = .error 2 := by kernel_rfl
theorem ex3 : decP [80, 54, 32, 50, 32, 49, 32, 49, 10, 1, 0, 0, 0, 0] = .error 5 := by kernel_rfl
theorem ex4 : decP [80, 53, 32, 49, 32, 49, 32, 54, 53, 53, 51, 54, 10] = .error 2 := by kernel_rfl
set_option maxHeartbeats 2000000 in
set_option maxRecDepth 100000 in
theorem example_any (w : World) : Calls Tryd.prog 8 #[] w fun e w' => e = .returned (.bool true) ∧ Below w.heap.size w w' := by
  have H1 : Hid (∀ w, Calls Tryd.prog 9 #[.string ⟨#[80, 53, 32, 49, 32, 49, 32, 50, 53, 53, 10, 128]⟩] w fun e w' => DecOk (.ok (1, 1, [(32896, 32896, 32896, 65535)], [])) e w' ∧ Below w.heap.size w w') := fun w => by
    have := decode_any ⟨#[80, 53, 32, 49, 32, 49, 32, 50, 53, 53, 10, 128]⟩ w (by decide)
    change Calls _ _ _ _ fun e w' => DecOk (decP [80, 53, 32, 49, 32, 49, 32, 50, 53, 53, 10, 128]) e w' ∧ _ at this
    rwa [ex1] at this
  have H2 : Hid (∀ w, Calls Tryd.prog 9 #[.string ⟨#[80, 54, 32, 50, 32, 49, 32, 49, 10, 1, 0, 0, 0, 0, 2]⟩] w fun e w' => DecOk (.error 2) e w' ∧ Below w.heap.size w w') := fun w => by
    have := decode_any ⟨#[80, 54, 32, 50, 32, 49, 32, 49, 10, 1, 0, 0, 0, 0, 2]⟩ w (by decide)
    change Calls _ _ _ _ fun e w' => DecOk (decP [80, 54, 32, 50, 32, 49, 32, 49, 10, 1, 0, 0, 0, 0, 2]) e w' ∧ _ at this
    rwa [ex2] at this
  have H3 : Hid (∀ w, Calls Tryd.prog 9 #[.string ⟨#[80, 54, 32, 50, 32, 49, 32, 49, 10, 1, 0, 0, 0, 0]⟩] w fun e w' => DecOk (.error 5) e w' ∧ Below w.heap.size w w') := fun w => by
    have := decode_any ⟨#[80, 54, 32, 50, 32, 49, 32, 49, 10, 1, 0, 0, 0, 0]⟩ w (by decide)
    change Calls _ _ _ _ fun e w' => DecOk (decP [80, 54, 32, 50, 32, 49, 32, 49, 10, 1, 0, 0, 0, 0]) e w' ∧ _ at this
    rwa [ex3] at this
  have H4 : Hid (∀ w, Calls Tryd.prog 9 #[.string ⟨#[80, 53, 32, 49, 32, 49, 32, 54, 53, 53, 51, 54, 10]⟩] w fun e w' => DecOk (.error 2) e w' ∧ Below w.heap.size w w') := fun w => by
    have := decode_any ⟨#[80, 53, 32, 49, 32, 49, 32, 54, 53, 53, 51, 54, 10]⟩ w (by decide)
    change Calls _ _ _ _ fun e w' => DecOk (decP [80, 53, 32, 49, 32, 49, 32, 54, 53, 53, 51, 54, 10]) e w' ∧ _ at this
    rwa [ex4] at this
  go_enter Tryd.func8, Tryd.ntmps8
  go_wp2_with fail
  refine (H1.out _).mono ?_
  rintro e w1 ⟨⟨pv, mv, rfl, hp1, hm1⟩, hb1⟩
  obtain ⟨x, c, rfl, hc1, hc2, hc3, hcell⟩ := id hp1
  obtain ⟨b, off, rfl, hcl⟩ := hcell (by simp)
  obtain ⟨xm, cm, rfl, -⟩ := hm1
  have hq := hcl 0 (by decide)
  obtain ⟨q0, q1, q2, q3⟩ : PCell w1 b off 0 (32896, 32896, 32896, 65535) := hq
  have hblt : b < w1.heap.size := World.block_lt_of_cell? w1 _ q0
  have e0 : (w1.alloc (.cells #[.int .i64 1, .int .i64 1, .slice (some ⟨b, off, none⟩) 1 c] 24)).cell? ⟨w1.heap.size, 2, none⟩ = some (.slice (some ⟨b, off, none⟩) 1 c) := (Blk.new w1 24 #[.int .i64 1, .int .i64 1, .slice (some ⟨b, off, none⟩) 1 c]).cell 2
  have hba := (Below.refl w1.heap.size w1).alloc (Nat.le_refl _) (.cells #[.int .i64 1, .int .i64 1, .slice (some ⟨b, off, none⟩) 1 c] 24)
  have HBA := Lib.hid (hb1.alloc hb1.size (.cells #[.int .i64 1, .int .i64 1, .slice (some ⟨b, off, none⟩) 1 c] 24))
  have HQA : Hid (PCell (w1.alloc (.cells #[.int .i64 1, .int .i64 1, .slice (some ⟨b, off, none⟩) 1 c] 24)) b off 0 (32896, 32896, 32896, 65535)) :=
    ⟨(hba.cell (p := ⟨b, _, none⟩) hblt).trans q0, (hba.cell (p := ⟨b, _, none⟩) hblt).trans q1, (hba.cell (p := ⟨b, _, none⟩) hblt).trans q2, (hba.cell (p := ⟨b, _, none⟩) hblt).trans q3⟩
  have HLT : Hid (b < (w1.alloc (.cells #[.int .i64 1, .int .i64 1, .slice (some ⟨b, off, none⟩) 1 c] 24)).heap.size ∧ w1.heap.size < (w1.alloc (.cells #[.int .i64 1, .int .i64 1, .slice (some ⟨b, off, none⟩) 1 c] 24)).heap.size) := by
    show _ ∧ _; simp; omega
  have HE0 := Lib.hid e0
  simp only [imgC]
  clear hb1 hcl hcell hp1 hc3 q0 q1 q2 q3 hba e0 hblt
  go_upto_region 2 with fail
  generalize w1.alloc (.cells #[.int .i64 1, .int .i64 1, .slice (some ⟨b, off, none⟩) 1 c] 24) = wa at *
  generalize w1.heap.size = K1 at *
  go_wp2_with fail
  refine (H2.out _).mono ?_
  rintro e w2 ⟨hd2, hb2⟩
  obtain rfl : e = .returned (errV 2) := hd2
  simp only [errV, img0, imgC]
  have HB2 := Lib.hid (hb2.alloc hb2.size (.cells #[.int .i64 0, .int .i64 0, .slice none 0 0] 24))
  clear hb2
  go_upto_region 3 with fail
  generalize w2.alloc (.cells #[.int .i64 0, .int .i64 0, .slice none 0 0] 24) = wb at *
  go_wp2_with fail
  refine (H3.out _).mono ?_
  rintro e w3 ⟨hd3, hb3⟩
  obtain rfl : e = .returned (errV 5) := hd3
  simp only [errV, img0, imgC]
  have HB3 := Lib.hid (hb3.alloc hb3.size (.cells #[.int .i64 0, .int .i64 0, .slice none 0 0] 24))
  clear hb3
  go_upto_region 4 with fail
  generalize w3.alloc (.cells #[.int .i64 0, .int .i64 0, .slice none 0 0] 24) = wd at *
  go_wp2_with fail
  refine (H4.out _).mono ?_
  rintro e w4 ⟨hd4, hb4⟩
  obtain rfl : e = .returned (errV 2) := hd4
  simp only [errV, img0, imgC]
  have HB4 := Lib.hid (hb4.alloc hb4.size (.cells #[.int .i64 0, .int .i64 0, .slice none 0 0] 24))
  clear hb4
  go_upto_region 5 with fail
  generalize w4.alloc (.cells #[.int .i64 0, .int .i64 0, .slice none 0 0] 24) = wf at *
  have HALL : Hid (Below wa.heap.size wa wf) := bthen HB2.out (bthen HB3.out HB4.out)
  have e0 : wf.cell? ⟨K1, 2, none⟩ = some (.slice (some ⟨b, off, none⟩) 1 c) := (HALL.out.cell (p := ⟨K1, 2, none⟩) HLT.out.2).trans HE0.out
  have q0 : wf.cell? ⟨b, off, none⟩ = some (.int .i64 32896) := (HALL.out.cell (p := ⟨b, _, none⟩) HLT.out.1).trans HQA.out.1
  have q1 : wf.cell? ⟨b, off + 1, none⟩ = some (.int .i64 32896) := (HALL.out.cell (p := ⟨b, _, none⟩) HLT.out.1).trans HQA.out.2.1
  have q2 : wf.cell? ⟨b, off + 2, none⟩ = some (.int .i64 32896) := (HALL.out.cell (p := ⟨b, _, none⟩) HLT.out.1).trans HQA.out.2.2.1
  have q3 : wf.cell? ⟨b, off + 3, none⟩ = some (.int .i64 65535) := (HALL.out.cell (p := ⟨b, _, none⟩) HLT.out.1).trans HQA.out.2.2.2
  have heq : ∀ w, (Op.equalIn 10000 36 (.agg #[.int .i64 32896, .int .i64 32896, .int .i64 32896, .int .i64 65535]) (.agg #[.int .i64 32896, .int .i64 32896, .int .i64 32896, .int .i64 65535])).run Tryd.prog w = .ok true w := fun w => eqPx (32896, 32896, 32896, 65535) (32896, 32896, 32896, 65535) w
  go_wp2_with fail
  go_ret
  exact ⟨rfl, bthen HBA.out HALL.out⟩

end Go.Proofs.YtakkdgcmeeilbaaDoor
