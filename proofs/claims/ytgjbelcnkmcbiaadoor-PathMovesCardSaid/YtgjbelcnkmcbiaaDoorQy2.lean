/-
  Walks: Open of the reference; two lists of bools, two paths are the same. The law on errors and open subpaths.
-/
import Derived.Test.YtgjbelcnkmcbiaaDoorQy
namespace Go.Proofs.YtgjbelcnkmcbiaaDoor
open Go.RowKit

theorem BOwn.last {w : World} {B g c : Nat} {acc : List Bool} (h : BOwn w B (.slice (some ⟨g, 0, none⟩) acc.length c) acc) (hne : acc ≠ []) :
    BOwn (w.setCell ⟨g, acc.length - 1, none⟩ (.bool false)) B (.slice (some ⟨g, 0, none⟩) acc.length c) (acc.dropLast ++ [false]) ∧ w.grownBy (w.setCell ⟨g, acc.length - 1, none⟩ (.bool false)) (some g) := by
  have hp := List.length_pos_iff.2 hne
  obtain ⟨h1, h2⟩ := World.ownsRow.stored h (acc.length - 1) (.bool false)
  refine ⟨?_, h2⟩
  unfold BOwn
  have e : (acc.dropLast ++ [false]).length = acc.length := by simp; omega
  rw [e]
  have e2 : (bocells acc).set (acc.length - 1) (.bool false) = bocells (acc.dropLast ++ [false]) := by
    unfold bocells
    have h3 : acc = acc.dropLast ++ [acc.getLast hne] := (List.dropLast_concat_getLast hne).symm
    conv => lhs; rw [h3]
    rw [List.map_append, List.map_append, List.set_append_right _ _ (by simp)]
    simp
  rw [← e2]
  exact h1

set_option maxRecDepth 100000 in
set_option maxHeartbeats 4000000 in
theorem ropen_any (v : Value) (l : List Sg) (w : World) (hr : SRow w v l) : Calls Tryd.prog 18 #[v] w fun e w' => OpOk l e w' ∧ Below w.heap.size w w' := by
  have HCK := Lib.hid (rcheck_any v l w hr)
  obtain ⟨x, c, rfl, hc1, hc2, -⟩ := id hr
  unfold maxLen at hc2
  have HSR := Lib.hid hr
  clear hr
  by_cases h0 : chkP l = 0
  · obtain ⟨hln, hok⟩ := chkP_ok h0
    have HOK := Lib.hid hok
    have HR : Hid (∀ e w', OpOk l e w' = ∃ g, e = .returned (.tuple #[g, .int .i64 0]) ∧ BoRow w' g (opP l)) := by
      intro e w'; unfold OpOk; rw [if_pos h0]
    have HRO := Lib.hid (ro_op h0)
    rw [h0] at HCK
    clear h0 hok
    go_enter Tryd.func18, Tryd.ntmps18
    go_wp2_with fail
    refine HCK.out.mono ?_
    rintro e w1 ⟨rfl, hb1⟩
    have HB1 := Lib.hid (hb1.alloc hb1.size (.cells #[] 4))
    have HO1 : Hid (BOwn (w1.alloc (.cells #[] 4)) w.heap.size (.slice (some ⟨w1.heap.size, 0, none⟩) 0 0) []) := World.ownsRow_lit w1 #[] 0 hb1.size (by decide) rfl
    clear hb1 HCK
    go_wp2_with fail
    go_loopw [5, 6] (fun vo vi wr => ∃ (i : Nat) (acc : List Bool) (O : Value), O = vo ∧ vi = .int .i64 i ∧ i ≤ l.length ∧ acc.length ≤ i ∧ (0 < i → acc ≠ []) ∧ Hid (roGo [] l = roGo acc (l.drop i)) ∧ Hid (BOwn wr w.heap.size O acc) ∧ Hid (Below w.heap.size w wr)) (fun _ vi _ => l.length - (intOf vi).toNat)
    case atStart => exact ⟨0, [], _, rfl, rfl, Nat.zero_le _, Nat.le_refl _, by simp, rfl, HO1, HB1⟩
    case round =>
      obtain ⟨i, acc, O, rfl, rfl, hi, hal, hne, hop, hbo, hbw⟩ := hrel
      by_cases hlt : i < l.length
      · have hd : decide ((i : Int) < (l.length : Int)) = true := by simp; omega
        have hrw := HSR.out.below hbw.out
        obtain ⟨bb, off, rfl, hcl, -⟩ := hrw.at i hlt
        obtain ⟨q1, -⟩ := hcl i hlt
        have HAT := Lib.hid (hop.out.trans (roGo_at acc l i hlt))
        have hso := HOK.out i hlt
        obtain ⟨⟨k, ⟨ax, ay⟩, ⟨bx, by_⟩, ⟨cx, cy⟩⟩, hm⟩ : ∃ s : Sg, l[i] = s := ⟨_, rfl⟩
        rw [hm] at q1 HAT hso
        simp only at q1 HAT
        have hmax : maxLen = 9223372036854775807 := rfl
        obtain ⟨xo, co, rfl⟩ := hbo.out.shape
        have hk : l[i].1 = k := by rw [hm]
        clear hop hm hrw hcl
        by_cases k1 : k = 1
        · subst k1
          have HZ := HAT.out
          rw [if_pos rfl] at HZ
          have HZ := Lib.hid HZ
          clear HAT hso hne
          go_wp2_with (refine wpList_app (P := Tryd.prog) el_bool (hown := hbo.out) (by exact hbw.out.size) rfl rfl rfl (m := 0) (cs := #[.bool true]) rfl (by intro z hz; simp at hz; rw [hz]; rfl) rfl (by omega) (by omega) ?_)
          intro r cap' w5 h5 hg5 hr5
          have HB5 := Lib.hid (below_app hbw.out hbw.out.size hbo.out hg5)
          have HO5 := Lib.hid (BOwn.more rfl h5)
          obtain ⟨b', off', hv, hcl, -⟩ := (HSR.out.below HB5.out.1).at i hlt
          obtain ⟨rfl, rfl⟩ : b' = bb ∧ off' = off := by injection hv with hv; injection hv with h1 h2; exact ⟨h1.symm, h2.symm⟩
          have q2 := (hcl i hlt).1
          rw [hk] at q2
          clear h5 hg5 hr5 hcl hv q1 hk
          go_wp2_with fail
          go_roundw
          case rel => exact ⟨i + 1, acc ++ [true], _, rfl, by go_num, by omega, by simp; omega, by simp, HZ, HO5, Lib.hid HB5.out.1⟩
          case measure => simp [intOf]; omega
        · have hk1 : (k == 1) = false := by simpa using k1
          have hi0 : 0 < i := by
            rcases hso.ord with h | ⟨p, hp, -⟩
            · exact absurd h k1
            · rcases Nat.eq_zero_or_pos i with h0 | h0
              · subst h0; simp at hp
              · exact h0
          have hacc := hne hi0
          by_cases k5 : k = 5
          · subst k5
            have HZ := HAT.out
            rw [if_neg (by decide), if_pos rfl] at HZ
            have HZ := Lib.hid HZ
            have hap := List.length_pos_iff.2 hacc
            obtain ⟨g, co', hv, hg1, hg2⟩ := World.ownsRow.form hbo.out hap
            injection hv with hv1 hv2 hv3
            subst hv1
            have hst := Lib.hid (BOwn.last hbo.out hacc)
            have hw1 : wrap64 ((acc.length : Int) - 1) = ((acc.length - 1 : Nat) : Int) := by rw [wrap64_of _ (by omega)]; omega
            have hw2 : ((acc.length - 1 : Nat) : Int) < (acc.length : Int) := by omega
            have hw3 : (0 : Int) ≤ ((acc.length - 1 : Nat) : Int) := by omega
            have hw4 : (((acc.length - 1 : Nat) : Int)).toNat = acc.length - 1 := by omega
            have hw5 : (acc.length : Int) - 1 < (acc.length : Int) := by omega
            have hw6 : ((acc.length : Int) - 1).toNat = acc.length - 1 := by omega
            have hw7 : (1 : Int) ≤ (acc.length : Int) := by omega
            have hc0 := World.ownsRow.cellAt hbo.out (acc.length - 1) (by omega)
            rw [show (bocells acc)[acc.length - 1]? = some (.bool acc[acc.length - 1]) by simp [bocells]] at hc0
            have hf0 := World.ownsRow.frozenAt hbo.out (acc.length - 1)
            have HBW : Hid (Below w.heap.size w (wr.setCell ⟨g, acc.length - 1, none⟩ (.bool false))) := hbw.out.setCell hg1 _
            clear HAT hso hne hk
            go_wp2_with fail
            go_roundw
            case rel => exact ⟨i + 1, acc.dropLast ++ [false], _, rfl, by go_num, by omega, by simp; omega, by simp, HZ, by have := hst.out.1; exact this, HBW⟩
            case measure => simp [intOf]; omega
          · have hk5 : (k == 5) = false := by simpa using k5
            have HZ := HAT.out
            rw [if_neg k1, if_neg k5] at HZ
            have HZ := Lib.hid HZ
            clear HAT hso hne hk
            go_wp2_with fail
            go_roundw
            case rel => exact ⟨i + 1, acc, _, rfl, by go_num, by omega, by omega, fun _ => hacc, HZ, hbo, hbw⟩
            case measure => simp [intOf]; omega
      · have hd : decide ((i : Int) < (l.length : Int)) = false := by simp; omega
        have HZ : Hid (opP l = acc) := by show _ = _; rw [← HRO.out, hop.out, List.drop_of_length_le (by omega)]; rfl
        obtain ⟨xo, co, rfl⟩ := hbo.out.shape
        clear hop
        go_wp2_with fail
        go_ret2
        exact ⟨by rw [HR.out]; exact ⟨_, rfl, by rw [HZ.out]; exact hbo.out.row⟩, hbw.out⟩
  · have HR : Hid (∀ e w', OpOk l e w' = (e = .returned (.tuple #[.slice none 0 0, .int .i64 (chkP l)]))) := by
      intro e w'; unfold OpOk; rw [if_neg h0]
    generalize chkP l = z at *
    have hz : (z != 0) = true := by simpa using h0
    clear HSR
    go_enter Tryd.func18, Tryd.ntmps18
    go_wp2_with fail
    refine HCK.out.mono ?_
    rintro e w1 ⟨rfl, hb1⟩
    have HB1 := Lib.hid hb1
    clear hb1 HCK
    go_wp2_with fail
    go_ret2
    exact ⟨by rw [HR.out]; rfl, HB1.out⟩
end Go.Proofs.YtgjbelcnkmcbiaaDoor
