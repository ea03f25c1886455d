/-
  The law: texts and paths are read back.
-/
import Derived.Test.YtgjbelcnkmcbiaaDoorQz3
import Derived.Test.YtgjbelcnkmcbiaaDoorQy3
import Derived.Test.YtgjbelcnkmcbiaaDoorQw
namespace Go.Proofs.YtgjbelcnkmcbiaaDoor
open Go.RowKit

theorem print_len {l : List Sg} (h : chkP l = 0) : (printP l).length ≤ 19712 := by
  have h1 := joinP_len (wordsP l) (words_x l fun s hs => (chk_all h s hs).2.2)
  have h2 := words_len l
  have h3 := (chkP_ok h).1
  unfold printP
  omega

set_option maxRecDepth 100000 in
set_option maxHeartbeats 2000000 in
theorem lawReturns (v : Value) (s : ByteArray) (W : World) (hd : Ldd W) (ho : ∃ l, SRow W v l) (hs : s.size ≤ 1048576) : Calls Tryd.prog 8 #[v, .string s] W fun e W' => e = .returned (.bool true) ∧ Below W.heap.size W W' := by
  obtain ⟨l, hr⟩ := ho
  have HE := Lib.hid (fun w1 (hb : Below W.heap.size W w1) => example_any w1 (hd.below hb))
  have HPA : Hid (∀ w1, Below W.heap.size W w1 → Calls Tryd.prog 25 #[.string s] w1 fun e w' => (∃ g, e = .returned (.tuple #[g, .int .i64 ((parseP s.data.toList).2.1 : Nat), .int .i64 (parseP s.data.toList).2.2]) ∧ SRow w' g (parseP s.data.toList).1) ∧ Below w1.heap.size w1 w') :=
    fun w1 hb => parse_any s w1 hs (hd.below hb)
  have HPM : Hid (∀ v m w1, Below W.heap.size W w1 → SRow w1 v m → chkP m = 0 ∧ printP m = s.data.toList → Calls Tryd.prog 23 #[v] w1 fun e w' => e = .returned (.tuple #[.string s, .int .i64 0]) ∧ Below w1.heap.size w1 w') := by
    intro v m w1 hb hm hc
    refine (print_any v m w1 hm (hd.below hb)).mono ?_
    rintro e w' ⟨h1, h2⟩
    unfold PrOk at h1
    rw [if_pos hc.1, hc.2, ba_eta] at h1
    exact ⟨h1, h2⟩
  have HPP : Hid (∀ a b c, parseP s.data.toList = (a, b, c) → c = 0 → chkP a = 0 ∧ printP a = s.data.toList) := by
    rintro a b c h rfl; exact print_parse h
  have HPR := Lib.hid (print_any v l W hr hd)
  obtain ⟨pa, pb, pc, hp⟩ : ∃ a b c, parseP s.data.toList = (a, b, c) := ⟨_, _, _, rfl⟩
  rw [hp] at HPA
  have HPP := Lib.hid (HPP.out _ _ _ hp)
  clear hp
  by_cases h0 : chkP l = 0
  · have HT : Hid (∀ w1, Below W.heap.size W w1 → Calls Tryd.prog 25 #[.string ⟨(printP l).toArray⟩] w1 fun e w' => (∃ g, e = .returned (.tuple #[g, .int .i64 0, .int .i64 0]) ∧ SRow w' g l) ∧ Below w1.heap.size w1 w') :=
      fun w1 hb => pa_at (printP l) _ (parse_print h0) (by have := print_len h0; omega) w1 (hd.below hb)
    have HPR : Hid (Calls Tryd.prog 23 #[v] W fun e w' => e = .returned (.tuple #[.string ⟨(printP l).toArray⟩, .int .i64 0]) ∧ Below W.heap.size W w') := by
      have h := HPR.out
      unfold PrOk at h
      rw [if_pos h0] at h
      exact h
    have HSR := Lib.hid hr
    obtain ⟨x, c, rfl, -⟩ := hr
    obtain ⟨T, hT⟩ : ∃ T : ByteArray, T = ⟨(printP l).toArray⟩ := ⟨_, rfl⟩
    rw [← hT] at HT HPR
    clear hd h0 hT
    go_enter Tryd.func8, Tryd.ntmps8
    go_wp2_with fail
    refine HPR.out.mono ?_
    rintro e w1 ⟨rfl, hb1⟩
    have HB1 := Lib.hid hb1
    clear hb1 HPR
    go_wp2_with fail
    refine (HT.out _ HB1.out).mono ?_
    rintro e w2 ⟨⟨g2, rfl, hg2⟩, hb2⟩
    have HB2 := Lib.hid (bthen HB1.out hb2)
    have HSM := Lib.hid (sameSegs_any _ _ l w2 (HSR.out.below HB2.out) hg2)
    obtain ⟨x2, c2, rfl, -⟩ := hg2
    clear hb2 HT HSR HB1
    go_wp2_with fail
    refine HSM.out.mono ?_
    rintro e w3 ⟨rfl, n3, rfl⟩
    have HB9 := Lib.hid (below_drewN HB2.out n3)
    clear HSM HB2
    generalize w2.drewN n3 = w9 at *
    go_wp2_with fail
    refine (HPA.out _ HB9.out).mono ?_
    rintro e w4 ⟨⟨g4, rfl, hg4⟩, hb4⟩
    have hg4 : SRow w4 g4 pa := hg4
    have HB4 := Lib.hid (bthen HB9.out hb4)
    by_cases hc : pc = 0
    · subst hc
      have HPZ := Lib.hid (HPM.out g4 pa w4 HB4.out hg4 (HPP.out rfl))
      obtain ⟨x4, c4, rfl, -⟩ := hg4
      clear hb4 HPA HPM HPP HB9
      go_wp2_with fail
      refine HPZ.out.mono ?_
      rintro e w5 ⟨rfl, hb5⟩
      have HB5 := Lib.hid (bthen HB4.out hb5)
      clear hb5 HPZ HB4
      go_wp2_with fail
      refine (HE.out _ HB5.out).mono ?_
      rintro e w6 ⟨rfl, hb6⟩
      have HB6 := Lib.hid (bthen HB5.out hb6)
      clear hb6
      go_wp2_with fail
      go_ret
      exact ⟨rfl, HB6.out⟩
    · have hz : (pc == 0) = false := by simpa using hc
      obtain ⟨x4, c4, rfl, -⟩ := hg4
      clear hb4 HPA HPM HPP HB9
      go_wp2_with fail
      refine (HE.out _ HB4.out).mono ?_
      rintro e w6 ⟨rfl, hb6⟩
      have HB6 := Lib.hid (bthen HB4.out hb6)
      clear hb6
      go_wp2_with fail
      go_ret
      exact ⟨rfl, HB6.out⟩
  · have HPR : Hid (Calls Tryd.prog 23 #[v] W fun e w' => e = .returned (.tuple #[.string ⟨#[]⟩, .int .i64 (chkP l)]) ∧ Below W.heap.size W w') := by
      have h := HPR.out
      unfold PrOk at h
      rw [if_neg h0] at h
      exact h
    obtain ⟨x, c, rfl, -⟩ := hr
    generalize chkP l = z at *
    have hz0 : (z == 0) = false := by simpa using h0
    clear hd h0
    go_enter Tryd.func8, Tryd.ntmps8
    go_wp2_with fail
    refine HPR.out.mono ?_
    rintro e w1 ⟨rfl, hb1⟩
    have HB9 := Lib.hid hb1
    clear hb1 HPR
    go_wp2_with fail
    refine (HPA.out _ HB9.out).mono ?_
    rintro e w4 ⟨⟨g4, rfl, hg4⟩, hb4⟩
    have hg4 : SRow w4 g4 pa := hg4
    have HB4 := Lib.hid (bthen HB9.out hb4)
    by_cases hc : pc = 0
    · subst hc
      have HPZ := Lib.hid (HPM.out g4 pa w4 HB4.out hg4 (HPP.out rfl))
      obtain ⟨x4, c4, rfl, -⟩ := hg4
      clear hb4 HPA HPM HPP HB9
      go_wp2_with fail
      refine HPZ.out.mono ?_
      rintro e w5 ⟨rfl, hb5⟩
      have HB5 := Lib.hid (bthen HB4.out hb5)
      clear hb5 HPZ HB4
      go_wp2_with fail
      refine (HE.out _ HB5.out).mono ?_
      rintro e w6 ⟨rfl, hb6⟩
      have HB6 := Lib.hid (bthen HB5.out hb6)
      clear hb6
      go_wp2_with fail
      go_ret
      exact ⟨rfl, HB6.out⟩
    · have hz : (pc == 0) = false := by simpa using hc
      obtain ⟨x4, c4, rfl, -⟩ := hg4
      clear hb4 HPA HPM HPP HB9
      go_wp2_with fail
      refine (HE.out _ HB4.out).mono ?_
      rintro e w6 ⟨rfl, hb6⟩
      have HB6 := Lib.hid (bthen HB4.out hb6)
      clear hb6
      go_wp2_with fail
      go_ret
      exact ⟨rfl, HB6.out⟩
end Go.Proofs.YtgjbelcnkmcbiaaDoor
