/-
  The law on errors and open subpaths.
-/
import Derived.Test.YtgjbelcnkmcbiaaDoorQy3
import Derived.Test.YtgjbelcnkmcbiaaDoorQw
namespace Go.Proofs.YtgjbelcnkmcbiaaDoor
open Go.RowKit

set_option maxRecDepth 100000 in
set_option maxHeartbeats 2000000 in
theorem lawChecks (v : Value) (W : World) (hd : Ldd W) (ho : ∃ l, SRow W v l) : Calls Tryd.prog 5 #[v] W fun e W' => e = .returned (.bool true) ∧ Below W.heap.size W W' := by
  obtain ⟨l, hr⟩ := ho
  have HA := Lib.hid (open_any v l W hr)
  have HB := Lib.hid (fun w1 (hb : Below W.heap.size W w1) => ropen_any v l w1 (hr.below hb))
  have HC := Lib.hid (fun w1 (hb : Below W.heap.size W w1) => check_any v l w1 (hr.below hb))
  have HD := Lib.hid (fun w1 (hb : Below W.heap.size W w1) => rcheck_any v l w1 (hr.below hb))
  have HE := Lib.hid (fun w1 (hb : Below W.heap.size W w1) => example_any w1 (hd.below hb))
  obtain ⟨x, c, rfl, -⟩ := hr
  clear hd
  obtain ⟨z, hz⟩ : ∃ z, chkP l = z := ⟨_, rfl⟩
  have HFO : Hid (∀ e w', OpOk l e w' → ∃ g b, e = .returned (.tuple #[g, .int .i64 z]) ∧ BoRow w' g b ∧ (b = if z = 0 then opP l else [])) := by
    intro e w' h
    unfold OpOk at h
    by_cases h0 : chkP l = 0
    · rw [if_pos h0] at h
      obtain ⟨g, h1, h2⟩ := h
      exact ⟨g, opP l, by rw [← hz, h0]; exact h1, h2, by rw [if_pos (by rw [← hz]; exact h0)]⟩
    · rw [if_neg h0] at h
      exact ⟨_, [], by rw [← hz]; exact h, borow_nil _, by rw [if_neg (by rw [← hz]; exact h0)]⟩
  rw [hz] at HC HD
  clear hz
  obtain ⟨bl, hbl⟩ : ∃ bl, (if z = 0 then opP l else []) = bl := ⟨_, rfl⟩
  rw [hbl] at HFO
  clear hbl
  go_enter Tryd.func5, Tryd.ntmps5
  go_wp2_with (refine HA.out.mono ?_)
  rintro e w1 ⟨hf, hb1⟩
  obtain ⟨g1, b1, rfl, hg1, rfl⟩ := HFO.out _ _ hf
  have HB1 := Lib.hid hb1
  have HG1 := Lib.hid hg1
  obtain ⟨x1, c1, rfl, -⟩ := hg1
  clear hb1 HA hf
  go_wp2_with (refine (HB.out _ HB1.out).mono ?_)
  rintro e w2 ⟨hf, hb2⟩
  obtain ⟨g2, b2, rfl, hg2, rfl⟩ := HFO.out _ _ hf
  have HB2 := Lib.hid (bthen HB1.out hb2)
  have HSM := Lib.hid (fun w3 (hb : Below w2.heap.size w2 w3) => sameBools_any _ _ b2 w3 ((HG1.out.below hb2).below hb) (hg2.below hb))
  obtain ⟨x2, c2, rfl, -⟩ := hg2
  clear hb2 HB HG1 hf HFO
  go_wp2_with (refine (HC.out _ HB2.out).mono ?_)
  rintro e w3 ⟨rfl, hb3⟩
  have HB3 := Lib.hid (bthen HB2.out hb3)
  have HZ3 := Lib.hid hb3
  clear hb3 HC
  go_wp2_with (refine (HD.out _ HB3.out).mono ?_)
  rintro e w4 ⟨rfl, hb4⟩
  have HB4 := Lib.hid (bthen HB3.out hb4)
  have HSM := Lib.hid (HSM.out w4 (bthen HZ3.out hb4))
  clear hb4 HD HZ3
  go_wp2_with (refine HSM.out.mono ?_)
  rintro e w5 ⟨rfl, n5, rfl⟩
  have HB5 := Lib.hid (below_drewN HB4.out n5)
  clear HSM
  generalize w4.drewN n5 = w5 at *
  go_wp2_with (refine (HE.out _ HB5.out).mono ?_)
  rintro e w6 ⟨rfl, hb6⟩
  have HB6 := Lib.hid (bthen HB5.out hb6)
  clear hb6
  go_wp2_with fail
  go_ret
  exact ⟨rfl, HB6.out⟩
end Go.Proofs.YtgjbelcnkmcbiaaDoor
