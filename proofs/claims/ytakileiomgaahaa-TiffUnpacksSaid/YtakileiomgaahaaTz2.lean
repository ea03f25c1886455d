/-
  The law TiffUnpacks.
-/
import Derived.Test.YtakileiomgaahaaTw2
import Derived.Test.YtakileiomgaahaaTup
namespace Go.Proofs.Ytakileiomgaahaa
open Go.RowKit

theorem ba_back (s : ByteArray) : (⟨s.data.toList.toArray⟩ : ByteArray) = s := by cases s; simp
set_option maxHeartbeats 2000000 in
set_option maxRecDepth 100000 in
theorem lawUnpacks (s : ByteArray) (w : World) (hs : s.size ≤ 1000000000000000) : Calls Try.prog 4 #[.string s] w fun e w' => e = .returned (.bool true) ∧ Below w.heap.size w w' := by
  have HAW := Lib.hid (fun w => awakeT_any w)
  by_cases hbig : 1048576 < s.size
  · have d0 : decide ((1048576 : Int) < (s.size : Int)) = true := by simp; omega
    go_enter Try.func4, Try.ntmps4
    go_wp2_with fail
    refine (HAW.out _).mono ?_
    rintro e w1 ⟨rfl, hb1⟩
    have HB1 := Lib.hid hb1
    clear hb1
    go_wp2_with fail
    go_ret
    exact ⟨rfl, HB1.out⟩
  have d0 : decide ((1048576 : Int) < (s.size : Int)) = false := by simp; omega
  have hsz : s.size ≤ 1048576 := by omega
  have hsl : s.data.toList.length = s.size := by simp
  have HP := Lib.hid (fun w => packBits_any s w (by omega))
  have hbnd := packP_bound s.data.toList.length s.data.toList (Nat.le_refl _)
  obtain ⟨p, hp⟩ : ∃ p : ByteArray, (⟨(packP s.data.toList).toArray⟩ : ByteArray) = p := ⟨_, rfl⟩
  have hpl : p.data.toList = packP s.data.toList := by rw [← hp]
  have hps : p.size = (packP s.data.toList).length := by rw [← hp, ba_len]
  rw [hp] at HP
  rw [← hps, hsl] at hbnd
  have HU1 : Hid (∀ w, Calls Try.prog 10 #[.string p, .int .i64 s.size] w fun e w' => e = .returned (.tuple #[.string s, .int .i64 0]) ∧ Below w.heap.size w w') := fun w => by
    have h := unpack_any p s.size w (by unfold maxLen; omega)
    rw [hpl, ← hsl, unp_back _ (by omega), hsl] at h
    refine h.mono fun e w' h => ⟨?_, h.2⟩
    have h1 : e = .returned (.tuple #[.string ⟨s.data.toList.toArray⟩, .int .i64 0]) := h.1
    rw [h1, ba_back]
  have HU2 : Hid (∀ w, Calls Try.prog 10 #[.string (p ++ ⟨#[120]⟩), .int .i64 s.size] w fun e w' => e = .returned (.tuple #[.string ⟨#[]⟩, .int .i64 6]) ∧ Below w.heap.size w w') := fun w => by
    have h := unpack_any (p ++ ⟨#[120]⟩) s.size w (by have : (p ++ (⟨#[120]⟩ : ByteArray)).size = p.size + 1 := by simp [ByteArray.size_append]; rfl
                                                      unfold maxLen; omega)
    have hpx : (p ++ (⟨#[120]⟩ : ByteArray)).data.toList = packP s.data.toList ++ [120] := by rw [ByteArray.data_append, Array.toList_append, hpl]
    rw [hpx, ← hsl, unp_more _ _ (by omega), hsl] at h
    exact h
  have HU3 : Hid (∀ w, s.size ≠ 0 → Calls Try.prog 10 #[.string (p.extract 0 (p.size - 1)), .int .i64 s.size] w fun e w' => e = .returned (.tuple #[.string ⟨#[]⟩, .int .i64 5]) ∧ Below w.heap.size w w') := fun w h0 => by
    have hne : s.data.toList ≠ [] := by intro h; rw [h] at hsl; simp at hsl; omega
    have h := unpack_any (p.extract 0 (p.size - 1)) s.size w (by rw [ByteArray.size_extract]; unfold maxLen; omega)
    have hpx : (p.extract 0 (p.size - 1)).data.toList = (packP s.data.toList).dropLast := by
      rw [extract_list, List.drop_zero, hpl, List.dropLast_eq_take, hps]
    rw [hpx, ← hsl, unp_less _ (by omega) hne, hsl] at h
    exact h
  have HP0 : Hid (s.size = 0 → p = ⟨#[]⟩) := fun h0 => by
    have : s.data.toList = [] := List.eq_nil_of_length_eq_zero (by omega)
    rw [← hp, this, packP_nil]
  have HPN : Hid (s.size ≠ 0 → 1 ≤ p.size) := fun h0 => by
    have hne : s.data.toList ≠ [] := by intro h; rw [h] at hsl; simp at hsl; omega
    have := List.length_pos_iff.2 (packP_ne0 hne)
    omega
  have hpb : p.size ≤ 1100000 := by omega
  have ess : (s.toList != s.toList) = false := by simp
  obtain ⟨a, ha⟩ : ∃ a, s.size + 127 = a := ⟨_, rfl⟩
  rw [ha] at hbnd
  obtain ⟨b, hb⟩ : ∃ b, a / 128 = b := ⟨_, rfl⟩
  rw [hb] at hbnd
  obtain ⟨c, hc⟩ : ∃ c, s.size + b = c := ⟨_, rfl⟩
  rw [hc] at hbnd
  have m1 : (s.size : Int) + 127 = (a : Int) := by omega
  have m2 : (a : Int).tdiv 128 = (b : Int) := by rw [← hb]; exact tdiv_nat a 128
  have m3 : (s.size : Int) + (b : Int) = (c : Int) := by omega
  have d1 : decide ((c : Int) < (p.size : Int)) = false := by simp; omega
  have hab : a ≤ 2000000 := by omega
  have hbb : b ≤ 2000000 := by rw [← hb]; exact Nat.le_trans (Nat.div_le_self _ _) hab
  clear hbig hsl hp hpl hps ha hb hc
  go_enter Try.func4, Try.ntmps4
  go_wp2_with fail
  refine (HP.out _).mono ?_
  rintro e w1 ⟨rfl, hb1⟩
  have HB1 := Lib.hid hb1
  clear hb1
  go_wp2_with fail
  refine (HU1.out _).mono ?_
  rintro e w2 ⟨rfl, hb2⟩
  have HB2 := Lib.hid (bthen HB1.out hb2)
  clear hb2
  go_wp2_with fail
  refine (HU2.out _).mono ?_
  rintro e w3 ⟨rfl, hb3⟩
  have HB3 := Lib.hid (bthen HB2.out hb3)
  clear hb3
  go_wp2_with fail
  refine (HAW.out _).mono ?_
  rintro e w4 ⟨rfl, hb4⟩
  have HB4 := Lib.hid (bthen HB3.out hb4)
  clear hb4
  clear m1 m2 m3 d1
  by_cases h0 : s.size = 0
  · have e0 : ((s.size : Int) == 0) = true := by rw [h0]; rfl
    have hpe := HP0.out h0
    have ep : (p.toList == []) = true := by rw [hpe, ByteArray.toList_eq]; rfl
    clear h0 hpe
    go_wp2_with fail
    go_ret
    exact ⟨rfl, HB4.out⟩
  · have e0 : ((s.size : Int) == 0) = false := by rw [beq_eq_false_iff_ne]; omega
    have hp1 := HPN.out h0
    have HU4 := Lib.hid (fun w => HU3.out w h0)
    obtain ⟨q, hq⟩ : ∃ q, p.size - 1 = q := ⟨_, rfl⟩
    rw [hq] at HU4
    have m4 : (p.size : Int) - 1 = (q : Int) := by omega
    have hql : (q : Int) ≤ (p.size : Int) := by omega
    clear hq HU3 h0
    go_wp2_with fail
    refine (HU4.out _).mono ?_
    rintro e w5 ⟨rfl, hb5⟩
    have HB5 := Lib.hid (bthen HB4.out hb5)
    clear hb5
    go_wp2_with fail
    go_ret
    exact ⟨rfl, HB5.out⟩
end Go.Proofs.Ytakileiomgaahaa
