/-
  The law InflateCuts: its walk.
-/
import Derived.Test.YtkbelkdephfhpaaK8
namespace Go.Proofs.Ytkbelkdephfhpaa
open Go.RowKit

set_option maxRecDepth 100000 in
set_option maxHeartbeats 8000000 in
theorem lawCuts (s : ByteArray) (n cut less : Int) (w : World) (hs : s.size ≤ 1000000000000000) (_ : (Lit.int IntKind.i64 n).wf = true) (_ : (Lit.int IntKind.i64 cut).wf = true) (_ : (Lit.int IntKind.i64 less).wf = true) :
    Calls Try.prog 7 #[.string s, .int .i64 n, .int .i64 cut, .int .i64 less] w fun e w' => e = .returned (.bool true) ∧ Below w.heap.size w w' := by
  by_cases hn : n < 0
  · have d1 : decide (n < 0) = true := by simp; omega
    go_enter Try.func7, Try.ntmps7
    go_wp2_with fail
    refine (awake_any _).mono ?_
    rintro e w1 ⟨rfl, hb1⟩
    go_wp2_with fail
    go_ret
    exact ⟨rfl, hb1⟩
  have d1 : decide (n < 0) = false := by simp; omega
  go_enter Try.func7, Try.ntmps7
  go_wp2_with fail
  refine (inflate_any s n _ hs).mono ?_
  rintro e w1 ⟨hok, hb1⟩
  cases hr : infP (mostN n) s.data.toList with
  | error k =>
    have hk := infP_err hr
    have hk1 : ((k : Int) != 0) = true := by simp; omega
    rw [hr] at hok
    obtain rfl := hok
    clear hr
    go_wp2_with fail
    refine (awake_any _).mono ?_
    rintro e w2 ⟨rfl, hb2⟩
    have hbb := bthen hb1 hb2
    clear hb1 hb2
    go_wp2_with fail
    go_ret
    exact ⟨rfl, hbb⟩
  | ok ou =>
    obtain ⟨o, u⟩ := ou
    obtain ⟨u1, u2, u3, hpre, hcut, hless⟩ := inf_cuts _ _ _ _ hr
    rw [hr] at hok
    obtain rfl := hok
    rw [ba_size] at u2
    have hM := mostN_le n
    have hMn : ((mostN n : Nat) : Int) ≤ n := by unfold mostN; omega
    have hob : (⟨o.toArray⟩ : ByteArray).size = o.length := by show o.toArray.size = _; simp
    have hext : ∀ k, k ≤ s.size → (s.extract 0 k).data.toList = s.data.toList.take k := fun k hk => by rw [extract_list]; simp
    have HPRE : Hid (infP (mostN ((o.length : Nat) : Int)) (s.extract 0 u).data.toList = .ok (o, u)) := by show _ = _; rw [mostN_id _ (by omega), hext u u2]; exact hpre
    have HCU : Hid (∀ (h0 : 0 ≤ cut) (h1 : cut < (u : Int)), infP (mostN n) (s.extract 0 cut.toNat).data.toList = .error 5) := by
      intro h0 h1
      rw [hext _ (by omega)]
      exact hcut _ (by omega)
    obtain ⟨ob, hobe⟩ : ∃ ob, (⟨o.toArray⟩ : ByteArray) = ob := ⟨_, rfl⟩
    rw [hobe] at hob ⊢
    have HLE : Hid (0 ≤ less → less < (ob.size : Int) → infP (mostN less) s.data.toList = .error 3) := by
      intro h0 h1
      refine hless _ ?_
      rw [hob] at h1
      unfold mostN
      omega
    have HI2 := Lib.hid (fun w => inf_call (s.extract 0 u) ((o.length : Nat) : Int) (.ok (o, u)) w (by rw [ByteArray.size_extract]; omega) HPRE.out)
    have hbs : ob.size ≤ 1048576 := by omega
    have hbn : (ob.size : Int) ≤ n := by omega
    have q1 : decide ((u : Int) < 1) = false := by simp; omega
    have q2 : decide ((s.size : Int) < (u : Int)) = false := by simp; omega
    have q3 : decide (n < (ob.size : Int)) = false := by simp; omega
    have q4 : (u : Int) ≤ (s.size : Int) := by omega
    rw [← hob] at HI2
    have HOBE := Lib.hid hobe
    have hbb := hb1
    clear hr hpre hcut hless hext HPRE hob hobe hb1 hMn hM u3
    go_wp2_with fail
    refine (HI2.out _).mono ?_
    rintro e w2 ⟨hok, hb2⟩
    have hok2 : e = .returned (.tuple #[.string ob, .int .i64 u, .int .i64 0]) := by rw [← HOBE.out]; exact hok
    subst hok2
    have hbb := bthen hbb hb2
    clear hok hb2 HI2 q1 q2 q3
    by_cases c1 : 0 ≤ cut
    · have f1 : decide ((0 : Int) ≤ cut) = true := by simp; omega
      by_cases c2 : cut < (u : Int)
      · have f2 : decide (cut < (u : Int)) = true := by simp; omega
        have hcs : cut ≤ (s.size : Int) := by omega
        have HI4 := Lib.hid (fun w => inf_call (s.extract 0 cut.toNat) n (.error 5) w (by rw [ByteArray.size_extract]; omega) (HCU.out c1 c2))
        go_wp2_with fail
        refine (HI4.out _).mono ?_
        rintro e w7 ⟨rfl, hb7⟩
        have hbb := bthen hbb hb7
        clear hb7 HI4 HCU
        by_cases e1 : 0 ≤ less
        · have g1 : decide ((0 : Int) ≤ less) = true := by simp; omega
          by_cases e2 : less < (ob.size : Int)
          · have g2 : decide (less < (ob.size : Int)) = true := by simp; omega
            have HI3 := Lib.hid (fun w => inf_call s less (.error 3) w hs (HLE.out e1 e2))
            go_wp2_with fail
            refine (HI3.out _).mono ?_
            rintro e w8 ⟨rfl, hb8⟩
            have hbb := bthen hbb hb8
            clear hb8 HI3
            go_wp2_with fail
            refine (awake_any _).mono ?_
            rintro e w9 ⟨rfl, hb9⟩
            have hbb9 := bthen hbb hb9
            clear hb9 hbb
            go_wp2_with fail
            go_ret
            exact ⟨rfl, hbb9⟩
          · have g2 : decide (less < (ob.size : Int)) = false := by simp; omega
            go_wp2_with fail
            refine (awake_any _).mono ?_
            rintro e w9 ⟨rfl, hb9⟩
            have hbb9 := bthen hbb hb9
            clear hb9 hbb
            go_wp2_with fail
            go_ret
            exact ⟨rfl, hbb9⟩
        · have g1 : decide ((0 : Int) ≤ less) = false := by simp; omega
          go_wp2_with fail
          refine (awake_any _).mono ?_
          rintro e w9 ⟨rfl, hb9⟩
          have hbb9 := bthen hbb hb9
          clear hb9 hbb
          go_wp2_with fail
          go_ret
          exact ⟨rfl, hbb9⟩
      · have f2 : decide (cut < (u : Int)) = false := by simp; omega
        by_cases e1 : 0 ≤ less
        · have g1 : decide ((0 : Int) ≤ less) = true := by simp; omega
          by_cases e2 : less < (ob.size : Int)
          · have g2 : decide (less < (ob.size : Int)) = true := by simp; omega
            have HI3 := Lib.hid (fun w => inf_call s less (.error 3) w hs (HLE.out e1 e2))
            go_wp2_with fail
            refine (HI3.out _).mono ?_
            rintro e w8 ⟨rfl, hb8⟩
            have hbb := bthen hbb hb8
            clear hb8 HI3
            go_wp2_with fail
            refine (awake_any _).mono ?_
            rintro e w9 ⟨rfl, hb9⟩
            have hbb9 := bthen hbb hb9
            clear hb9 hbb
            go_wp2_with fail
            go_ret
            exact ⟨rfl, hbb9⟩
          · have g2 : decide (less < (ob.size : Int)) = false := by simp; omega
            go_wp2_with fail
            refine (awake_any _).mono ?_
            rintro e w9 ⟨rfl, hb9⟩
            have hbb9 := bthen hbb hb9
            clear hb9 hbb
            go_wp2_with fail
            go_ret
            exact ⟨rfl, hbb9⟩
        · have g1 : decide ((0 : Int) ≤ less) = false := by simp; omega
          go_wp2_with fail
          refine (awake_any _).mono ?_
          rintro e w9 ⟨rfl, hb9⟩
          have hbb9 := bthen hbb hb9
          clear hb9 hbb
          go_wp2_with fail
          go_ret
          exact ⟨rfl, hbb9⟩
    · have f1 : decide ((0 : Int) ≤ cut) = false := by simp; omega
      by_cases e1 : 0 ≤ less
      · have g1 : decide ((0 : Int) ≤ less) = true := by simp; omega
        by_cases e2 : less < (ob.size : Int)
        · have g2 : decide (less < (ob.size : Int)) = true := by simp; omega
          have HI3 := Lib.hid (fun w => inf_call s less (.error 3) w hs (HLE.out e1 e2))
          go_wp2_with fail
          refine (HI3.out _).mono ?_
          rintro e w8 ⟨rfl, hb8⟩
          have hbb := bthen hbb hb8
          clear hb8 HI3
          go_wp2_with fail
          refine (awake_any _).mono ?_
          rintro e w9 ⟨rfl, hb9⟩
          have hbb9 := bthen hbb hb9
          clear hb9 hbb
          go_wp2_with fail
          go_ret
          exact ⟨rfl, hbb9⟩
        · have g2 : decide (less < (ob.size : Int)) = false := by simp; omega
          go_wp2_with fail
          refine (awake_any _).mono ?_
          rintro e w9 ⟨rfl, hb9⟩
          have hbb9 := bthen hbb hb9
          clear hb9 hbb
          go_wp2_with fail
          go_ret
          exact ⟨rfl, hbb9⟩
      · have g1 : decide ((0 : Int) ≤ less) = false := by simp; omega
        go_wp2_with fail
        refine (awake_any _).mono ?_
        rintro e w9 ⟨rfl, hb9⟩
        have hbb9 := bthen hbb hb9
        clear hb9 hbb
        go_wp2_with fail
        go_ret
        exact ⟨rfl, hbb9⟩
end Go.Proofs.Ytkbelkdephfhpaa
