/-
  The law: the text of any path, and the path with any text.
-/
import Derived.Test.YtgjbelcnkmcbiaaDoorQz6
import Derived.Test.YtgjbelcnkmcbiaaDoorQz7
import Derived.Test.YtgjbelcnkmcbiaaDoorQy3
import Derived.Test.YtgjbelcnkmcbiaaDoorQw
namespace Go.Proofs.YtgjbelcnkmcbiaaDoor
open Go.RowKit

set_option maxRecDepth 100000 in
set_option maxHeartbeats 2000000 in
theorem lawPrints (v : Value) (s : ByteArray) (W : World) (hd : Ldd W) (ho : ∃ l, SRow W v l) (hs : s.size ≤ 1048576) : Calls Tryd.prog 7 #[v, .string s] W fun e W' => e = .returned (.bool true) ∧ Below W.heap.size W W' := by
  obtain ⟨l, hr⟩ := ho
  obtain ⟨T, z, hT⟩ : ∃ (T : ByteArray) (z : Int), (if chkP l = 0 then Value.tuple #[.string ⟨(printP l).toArray⟩, .int .i64 0] else .tuple #[.string ⟨#[]⟩, .int .i64 (chkP l)]) = .tuple #[.string T, .int .i64 z] := by
    by_cases h : chkP l = 0
    · exact ⟨_, _, by rw [if_pos h]⟩
    · exact ⟨_, _, by rw [if_neg h]⟩
  obtain ⟨pa, pb, pc, hp⟩ : ∃ a b c, parseP s.data.toList = (a, b, c) := ⟨_, _, _, rfl⟩
  have HA : Hid (Calls Tryd.prog 23 #[v] W fun e w' => e = .returned (.tuple #[.string T, .int .i64 z]) ∧ Below W.heap.size W w') := by
    have h := print_any v l W hr hd
    unfold PrOk at h
    rw [hT] at h
    exact h
  have HB : Hid (∀ w1, Below W.heap.size W w1 → Calls Tryd.prog 24 #[v] w1 fun e w' => e = .returned (.tuple #[.string T, .int .i64 z]) ∧ Below w1.heap.size w1 w') := by
    intro w1 hb
    have h := rprint_any v l w1 (hr.below hb)
    unfold PrOk at h
    rw [hT] at h
    exact h
  have HC : Hid (∀ w1, Below W.heap.size W w1 → Calls Tryd.prog 25 #[.string s] w1 fun e w' => (∃ g, e = .returned (.tuple #[g, .int .i64 (pb : Nat), .int .i64 pc]) ∧ SRow w' g pa) ∧ Below w1.heap.size w1 w') := by
    intro w1 hb
    have h := parse_any s w1 hs (hd.below hb)
    unfold PaOk at h
    rw [hp] at h
    exact h
  have HD : Hid (∀ w1, Calls Tryd.prog 26 #[.string s] w1 fun e w' => (∃ g, e = .returned (.tuple #[g, .int .i64 (pb : Nat), .int .i64 pc]) ∧ SRow w' g pa) ∧ Below w1.heap.size w1 w') := by
    intro w1
    have h := rparse_any s w1 hs
    unfold PaOk at h
    rw [hp] at h
    exact h
  have HE := Lib.hid (fun w1 (hb : Below W.heap.size W w1) => example_any w1 (hd.below hb))
  obtain ⟨x, c, rfl, -⟩ := hr
  clear hd hp hT hs
  go_enter Tryd.func7, Tryd.ntmps7
  go_wp2_with fail
  refine HA.out.mono ?_
  rintro e w1 ⟨rfl, hb1⟩
  have HB1 := Lib.hid hb1
  clear hb1 HA
  go_wp2_with fail
  refine (HB.out _ HB1.out).mono ?_
  rintro e w2 ⟨rfl, hb2⟩
  have HB2 := Lib.hid (bthen HB1.out hb2)
  clear hb2 HB HB1
  go_wp2_with fail
  refine (HC.out _ HB2.out).mono ?_
  rintro e w3 ⟨⟨g3, rfl, hg3⟩, hb3⟩
  have HB3 := Lib.hid (bthen HB2.out hb3)
  have HG3 := Lib.hid hg3
  obtain ⟨x3, c3, rfl, -⟩ := hg3
  clear hb3 HC HB2
  go_wp2_with fail
  refine (HD.out _).mono ?_
  rintro e w4 ⟨⟨g4, rfl, hg4⟩, hb4⟩
  have HB4 := Lib.hid (bthen HB3.out hb4)
  have HSM := Lib.hid (sameSegs_any _ _ pa w4 (HG3.out.below hb4) hg4)
  obtain ⟨x4, c4, rfl, -⟩ := hg4
  clear hb4 HD HB3 HG3
  go_wp2_with fail
  refine HSM.out.mono ?_
  rintro e w5 ⟨rfl, n5, rfl⟩
  have HB5 := Lib.hid (below_drewN HB4.out n5)
  clear HSM HB4
  generalize w4.drewN n5 = w5 at *
  go_wp2_with fail
  refine (HE.out _ HB5.out).mono ?_
  rintro e w6 ⟨rfl, hb6⟩
  have HB6 := Lib.hid (bthen HB5.out hb6)
  clear hb6
  go_wp2_with fail
  go_ret
  exact ⟨rfl, HB6.out⟩
end Go.Proofs.YtgjbelcnkmcbiaaDoor
