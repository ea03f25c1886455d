/-
  Walk: the fixed codes' lengths, in the reference.
-/
import Derived.Test.YtkbelkdephfhpaaJ5
namespace Go.Proofs.Ytkbelkdephfhpaa
open Go.RowKit

def fixAt (i : Nat) : Nat := if 256 ≤ i ∧ i < 280 then 7 else if 144 ≤ i ∧ i < 256 then 9 else 8
theorem fixL_eq : (List.range 288).map fixAt = fixL := by decide +kernel
theorem fixD_eq : (List.range 32).map (fun _ => 5) = fixD := by decide +kernel

set_option maxRecDepth 100000 in
set_option maxHeartbeats 2000000 in
theorem refFixed_any (w : World) :
    Calls Try.prog 22 #[] w fun e w' => (∃ v u, e = .returned (.tuple #[v, u]) ∧ IRow w' v fixL ∧ IRow w' u fixD) ∧ Below w.heap.size w w' := by
  go_enter Try.func22, Try.ntmps22
  go_wp2_with fail
  go_loopw [0, 2] (fun v0 vi wr => ∃ i : Nat, vi = .int .i64 i ∧ i ≤ 288 ∧ ORow wr w.heap.size v0 ((List.range i).map fixAt) ∧ Below w.heap.size w wr ∧ w.heap.size ≤ wr.heap.size) (fun _ vi _ => 288 - (intOf vi).toNat)
  case atStart => exact ⟨0, rfl, Nat.zero_le _, ⟨rfl, .inl ⟨rfl, rfl⟩⟩, Below.refl _ _, Nat.le_refl _⟩
  case round =>
    obtain ⟨i, rfl, hi, hrow, hb, hsz⟩ := hrel
    by_cases hlt : i < 288
    · have HM : Hid (((List.range i).map fixAt).length = i) := by show _ = _; simp
      have HX : Hid ((List.range (i + 1)).map fixAt = (List.range i).map fixAt ++ [fixAt i]) := by show _ = _; rw [List.range_succ, List.map_append]; rfl
      have hown : wr.ownsRow w.heap.size 3 1 u0 i (icells ((List.range i).map fixAt)) := by have := hrow; unfold ORow at this; rwa [HM.out] at this
      go_wp2_with (at_builtin; refine wpList_app el_int hown hsz rfl rfl rfl (m := 0) rfl (by simp [Value.oneCell']) rfl (by omega) (by unfold maxLen; omega) ?_)
      all_goals
        intro r cap w1 ho hg hat
        have hrow2 : ORow w1 w.heap.size (.slice (some ⟨r, 0, none⟩) (i + 1) cap) ((List.range (i + 1)).map fixAt) := by
          rw [HX.out]
          refine orow_more ho [fixAt i] ?_ (by rw [HM.out]; rfl)
          show _ = [Value.int .i64 ((fixAt i : Nat) : Int)]
          unfold fixAt
          split <;> (try split) <;> first | rfl | (exfalso; omega)
        obtain ⟨hb1, hs1⟩ := below_app hb hsz hown hg
        clear ho hg hat hown hrow HX HM hb hsz
        go_wp2_with fail
        exact ⟨⟨i + 1, by go_num, by omega, hrow2, hb1, hs1⟩, by simp [intOf]; omega⟩
    · obtain rfl : i = 288 := by omega
      rw [fixL_eq] at hrow
      have hread := hrow.irow
      clear hrow
      go_wp2_with fail
      go_loopw [1, 4] (fun v1 vj ws => ∃ j : Nat, vj = .int .i64 j ∧ j ≤ 32 ∧ ORow ws wr.heap.size v1 ((List.range j).map (fun _ => 5)) ∧ Below wr.heap.size wr ws ∧ wr.heap.size ≤ ws.heap.size) (fun _ vj _ => 32 - (intOf vj).toNat)
      case atStart => exact ⟨0, rfl, Nat.zero_le _, ⟨rfl, .inl ⟨rfl, rfl⟩⟩, Below.refl _ _, Nat.le_refl _⟩
      case round =>
        obtain ⟨j, rfl, hj, hrow, hb2, hsz2⟩ := hrel
        by_cases hjl : j < 32
        · have HM : Hid (((List.range j).map (fun _ => 5)).length = j) := by show _ = _; simp
          have HX : Hid ((List.range (j + 1)).map (fun _ => 5) = (List.range j).map (fun _ => 5) ++ [5]) := by show _ = _; rw [List.range_succ, List.map_append]; rfl
          have hown := id hrow
          unfold ORow at hown
          rw [HM.out] at hown
          go_wp2_with (at_builtin; refine wpList_app el_int hown hsz2 rfl rfl rfl (m := 0) rfl (by simp [Value.oneCell']) rfl (by omega) (by unfold maxLen; omega) ?_)
          intro r cap w1 ho hg hat
          have hrow2 := orow_more ho [5] rfl (by rw [HM.out]; rfl)
          rw [← HX.out] at hrow2
          obtain ⟨hb1, hs1⟩ := below_app hb2 hsz2 hown hg
          clear ho hg hat hown hrow HX HM hb2 hsz2
          go_wp2_with fail
          refine ⟨⟨_, .int .i64 ((j : Int) + 1), _, _, _, _, _, _, _, ⟨j + 1, by go_num, by omega, hrow2, hb1, hs1⟩, rfl⟩, ?_⟩
          simp [intOf]; omega
        · obtain rfl : j = 32 := by omega
          rw [fixD_eq] at hrow
          have hread2 := hrow.irow
          have hread1 : IRow _ _ fixL := hread.fr (Fr.of_below (B := 0) hb2 []) (by simp)
          have hbb := hb.trans (hb2.mono hsz)
          clear hrow hread hb2 hb
          go_wp2_with fail
          go_ret2
          exact ⟨⟨_, _, rfl, hread1, hread2⟩, hbb⟩
end Go.Proofs.Ytkbelkdephfhpaa
