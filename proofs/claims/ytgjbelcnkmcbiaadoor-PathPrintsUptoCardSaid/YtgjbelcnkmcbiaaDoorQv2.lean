/-
  Walks: ReadNumber, kindOf of the reference.
-/
import Derived.Test.YtgjbelcnkmcbiaaDoorQv
namespace Go.Proofs.YtgjbelcnkmcbiaaDoor
open Go.RowKit

theorem take_snoc' (s : ByteArray) (i : Nat) (h : i < s.size) : s.data.toList.take (i + 1) = s.data.toList.take i ++ [s[i]] := by
  rw [List.take_add_one, List.getElem?_eq_getElem (by simpa using h)]
  rfl
theorem rd_snoc (s : ByteArray) (i : Nat) (h : i < s.size) : (s.data.toList.take (i + 1)).foldl rdStep 0 = rdStep ((s.data.toList.take i).foldl rdStep 0) s[i] := by
  rw [take_snoc' s i h, List.foldl_append]; rfl
theorem rd_end (s : ByteArray) (i : Nat) (hi : i ≤ s.size) (h20 : i ≤ 20) (h : ¬ (i < s.size ∧ i < 20)) : rdP s.data.toList = (s.data.toList.take i).foldl rdStep 0 := by
  unfold rdP
  by_cases h2 : i = 20
  · rw [h2]
  · have : i = s.size := by omega
    rw [List.take_of_length_le (by simp; omega), List.take_of_length_le (by simp; omega)]
theorem rnum_split (s : ByteArray) : rnumP s.data.toList = if h : 0 < s.size then (if s[0] = 45 then rdP s.data.toList else wrap64 (-(rdP s.data.toList))) else rdP s.data.toList := by
  unfold rnumP
  by_cases h : 0 < s.size
  · rw [dif_pos h]
    have hsl : s.data.toList.length = s.size := by simp
    have hne : s.data.toList ≠ [] := by intro e; rw [e] at hsl; simp at hsl; omega
    have hh : s.data.toList.head? = some s[0] := by
      rw [List.head?_eq_getElem?, List.getElem?_eq_getElem (by simpa using h)]; rfl
    rw [hh]
    by_cases h2 : s[0] = 45
    · rw [if_neg (by simp [h2]), if_pos h2]
    · rw [if_pos ⟨hne, by simpa using h2⟩, if_neg h2]
  · rw [dif_neg h]
    have hsl : s.data.toList.length = s.size := by simp
    have he : s.data.toList = [] := List.eq_nil_of_length_eq_zero (by omega)
    rw [he]; rfl
theorem rd_bounds (l : List UInt8) (n : Int) (h : -9223372036854775808 ≤ n ∧ n ≤ 9223372036854775807) : -9223372036854775808 ≤ l.foldl rdStep n ∧ l.foldl rdStep n ≤ 9223372036854775807 := by
  induction l generalizing n with
  | nil => exact h
  | cons c r ih =>
    refine ih _ ?_
    unfold rdStep
    split
    · exact wrap64_bounds _
    · exact h
theorem rnum_bounds (l : List UInt8) : -9223372036854775808 ≤ rnumP l ∧ rnumP l ≤ 9223372036854775807 := by
  unfold rnumP
  split
  · exact wrap64_bounds _
  · exact rd_bounds _ 0 (by decide)
theorem wrap_wrap (n d : Int) : wrap64 (wrap64 n - d) = wrap64 (n - d) := by unfold wrap64; omega

set_option maxHeartbeats 2000000 in
set_option maxRecDepth 100000 in
/-- ReadNumber: a number, and whether its text is the given one. -/
theorem rread_any (s : ByteArray) (w : World) : Calls Tryd.prog 52 #[.string s] w fun e w' =>
    e = .returned (.tuple #[.int .i64 (rnumP s.data.toList), .bool (Lib.itoa (rnumP s.data.toList) == s.data.toList)]) ∧ Below w.heap.size w w' := by
  have HRN := Lib.hid (rnum_split s)
  have hrb := rnum_bounds s.data.toList
  generalize rnumP s.data.toList = m at *
  have HNW := Lib.hid (fun w => rNumber_any m hrb.1 hrb.2 w)
  clear hrb
  go_enter Tryd.func52, Tryd.ntmps52
  go_wp2_with fail
  go_loop [4, 5] (fun vn vi => ∃ (i : Nat) (n : Int), vi = .int .i64 i ∧ vn = .int .i64 n ∧ i ≤ s.size ∧ i ≤ 20 ∧ Hid (n = (s.data.toList.take i).foldl rdStep 0)) (fun _ vi => 20 - (intOf vi).toNat)
  case atStart => exact ⟨0, 0, rfl, rfl, Nat.zero_le _, by decide, rfl⟩
  case round =>
    obtain ⟨i, n, rfl, rfl, hi, h20, hn⟩ := hrel
    by_cases hlt : i < s.size
    · have hcl : decide ((i : Int) < (s.size : Int)) = true := by simp; omega
      by_cases hl2 : i < 20
      · have hc2 : decide ((i : Int) < 20) = true := by simp; omega
        have HS := Lib.hid (rd_snoc s i hlt)
        obtain ⟨c, hc⟩ : ∃ c, s[i] = c := ⟨_, rfl⟩
        rw [hc] at HS
        have hcb := c.toNat_lt
        cases hb1 : decide (48 ≤ c.toNat) with
        | false =>
          have hb1' : decide (48 ≤ (c.toNat : Int)) = false := by simp at hb1 ⊢; omega
          have HST : Hid (rdStep n c = n) := by show _ = _; unfold rdStep; rw [if_neg (by simp at hb1; omega)]
          go_wp2_with fail
          go_round
          case rel => exact ⟨i + 1, n, by go_num, rfl, by omega, by omega, by show _ = _; rw [HS.out, ← hn.out, HST.out]⟩
          case measure => simp [intOf]; omega
        | true =>
          have hb1' : decide (48 ≤ (c.toNat : Int)) = true := by simp at hb1 ⊢; omega
          cases hb2 : decide (c.toNat ≤ 57) with
          | false =>
            have hb2' : decide ((c.toNat : Int) ≤ 57) = false := by simp at hb2 ⊢; omega
            have HST : Hid (rdStep n c = n) := by show _ = _; unfold rdStep; rw [if_neg (by simp at hb1 hb2; omega)]
            go_wp2_with fail
            go_round
            case rel => exact ⟨i + 1, n, by go_num, rfl, by omega, by omega, by show _ = _; rw [HS.out, ← hn.out, HST.out]⟩
            case measure => simp [intOf]; omega
          | true =>
            have hb2' : decide ((c.toNat : Int) ≤ 57) = true := by simp at hb2 ⊢; omega
            have hd1 : IntKind.u8.wrap ((c.toNat : Int) - 48) = (c.toNat : Int) - 48 := by rw [IntKind.wrap_u8]; simp at hb1; omega
            have hd2 : wrap64 ((c.toNat : Int) - 48) = (c.toNat : Int) - 48 := wrap64_of _ (by omega)
            have hww : wrap64 (wrap64 (n * 10) - ((c.toNat : Int) - 48)) = rdStep n c := by unfold rdStep; rw [if_pos (by simp at hb1 hb2; omega)]; exact wrap_wrap _ _
            generalize hr : rdStep n c = n2 at *
            have HST := Lib.hid hr
            clear hr
            go_wp2_with fail
            go_round
            case rel => exact ⟨i + 1, n2, by go_num, by rw [hww], by omega, by omega, by show _ = _; rw [HS.out, ← hn.out, HST.out]⟩
            case measure => simp [intOf]; omega
      · obtain rfl : i = 20 := by omega
        have HF := Lib.hid (hn.out.trans (rd_end s 20 (by omega) (by omega) (by omega)).symm)
        clear hn
        by_cases h0 : 0 < s.size
        · have hs0 : decide ((0 : Int) < (s.size : Int)) = true := by simp; omega
          have hr := HRN.out
          rw [dif_pos h0, ← HF.out] at hr
          obtain ⟨c, hc⟩ : ∃ c, s[0] = c := ⟨_, rfl⟩
          rw [hc] at hr
          by_cases h45 : c = 45
          · subst h45
            rw [if_pos rfl] at hr
            subst hr
            clear HF HRN
            by_cases he : Lib.itoa m = s.data.toList
            · have he2 : (Lib.itoa m == s.data.toList) = true := by simpa using he
              have he3 : (Lib.itoa m == s.toList) = true := by rw [ByteArray.toList_eq]; exact he2
              have HE := Lib.hid he2
              clear he
              go_wp2_with (refine (HNW.out _).mono ?_; rintro e w1 ⟨rfl, hb⟩)
              go_ret2
              exact ⟨by rw [HE.out]; rfl, hb⟩
            · have he2 : (Lib.itoa m == s.data.toList) = false := by simpa using he
              have he3 : (Lib.itoa m == s.toList) = false := by rw [ByteArray.toList_eq]; exact he2
              have HE := Lib.hid he2
              clear he
              go_wp2_with (refine (HNW.out _).mono ?_; rintro e w1 ⟨rfl, hb⟩)
              go_ret2
              exact ⟨by rw [HE.out]; rfl, hb⟩
          · have h45b : ((c.toNat : Int) == 45) = false := by
              have : c.toNat ≠ 45 := fun e => h45 (UInt8.toNat_inj.1 e)
              simp; omega
            rw [if_neg h45] at hr
            clear HF HRN
            have hwm : wrap64 (-n) = m := hr.symm
            clear hr
            by_cases he : Lib.itoa m = s.data.toList
            · have he2 : (Lib.itoa m == s.data.toList) = true := by simpa using he
              have he3 : (Lib.itoa m == s.toList) = true := by rw [ByteArray.toList_eq]; exact he2
              have HE := Lib.hid he2
              clear he
              go_wp2_with (refine (HNW.out _).mono ?_; rintro e w1 ⟨rfl, hb⟩)
              go_ret2
              exact ⟨by rw [HE.out]; rfl, hb⟩
            · have he2 : (Lib.itoa m == s.data.toList) = false := by simpa using he
              have he3 : (Lib.itoa m == s.toList) = false := by rw [ByteArray.toList_eq]; exact he2
              have HE := Lib.hid he2
              clear he
              go_wp2_with (refine (HNW.out _).mono ?_; rintro e w1 ⟨rfl, hb⟩)
              go_ret2
              exact ⟨by rw [HE.out]; rfl, hb⟩
        · exact absurd (by omega : 0 < s.size) h0
    · obtain rfl : i = s.size := by omega
      have HF := Lib.hid (hn.out.trans (rd_end s s.size (Nat.le_refl _) h20 (fun h => Nat.lt_irrefl _ h.1)).symm)
      clear hn
      by_cases h0 : 0 < s.size
      · have hs0 : decide ((0 : Int) < (s.size : Int)) = true := by simp; omega
        have hr := HRN.out
        rw [dif_pos h0, ← HF.out] at hr
        obtain ⟨c, hc⟩ : ∃ c, s[0] = c := ⟨_, rfl⟩
        rw [hc] at hr
        by_cases h45 : c = 45
        · subst h45
          rw [if_pos rfl] at hr
          subst hr
          clear HF HRN
          by_cases he : Lib.itoa m = s.data.toList
          · have he2 : (Lib.itoa m == s.data.toList) = true := by simpa using he
            have he3 : (Lib.itoa m == s.toList) = true := by rw [ByteArray.toList_eq]; exact he2
            have HE := Lib.hid he2
            clear he
            go_wp2_with (refine (HNW.out _).mono ?_; rintro e w1 ⟨rfl, hb⟩)
            go_ret2
            exact ⟨by rw [HE.out]; rfl, hb⟩
          · have he2 : (Lib.itoa m == s.data.toList) = false := by simpa using he
            have he3 : (Lib.itoa m == s.toList) = false := by rw [ByteArray.toList_eq]; exact he2
            have HE := Lib.hid he2
            clear he
            go_wp2_with (refine (HNW.out _).mono ?_; rintro e w1 ⟨rfl, hb⟩)
            go_ret2
            exact ⟨by rw [HE.out]; rfl, hb⟩
        · have h45b : ((c.toNat : Int) == 45) = false := by
            have : c.toNat ≠ 45 := fun e => h45 (UInt8.toNat_inj.1 e)
            simp; omega
          rw [if_neg h45] at hr
          clear HF HRN
          have hwm : wrap64 (-n) = m := hr.symm
          clear hr
          by_cases he : Lib.itoa m = s.data.toList
          · have he2 : (Lib.itoa m == s.data.toList) = true := by simpa using he
            have he3 : (Lib.itoa m == s.toList) = true := by rw [ByteArray.toList_eq]; exact he2
            have HE := Lib.hid he2
            clear he
            go_wp2_with (refine (HNW.out _).mono ?_; rintro e w1 ⟨rfl, hb⟩)
            go_ret2
            exact ⟨by rw [HE.out]; rfl, hb⟩
          · have he2 : (Lib.itoa m == s.data.toList) = false := by simpa using he
            have he3 : (Lib.itoa m == s.toList) = false := by rw [ByteArray.toList_eq]; exact he2
            have HE := Lib.hid he2
            clear he
            go_wp2_with (refine (HNW.out _).mono ?_; rintro e w1 ⟨rfl, hb⟩)
            go_ret2
            exact ⟨by rw [HE.out]; rfl, hb⟩
      · have hs0 : decide ((0 : Int) < (s.size : Int)) = false := decide_eq_false (by omega)
        have hr := HRN.out
        rw [dif_neg h0, ← HF.out] at hr
        subst hr
        clear HF HRN
        by_cases he : Lib.itoa m = s.data.toList
        · have he2 : (Lib.itoa m == s.data.toList) = true := by simpa using he
          have he3 : (Lib.itoa m == s.toList) = true := by rw [ByteArray.toList_eq]; exact he2
          have HE := Lib.hid he2
          clear he
          go_wp2_with (refine (HNW.out _).mono ?_; rintro e w1 ⟨rfl, hb⟩)
          go_ret2
          exact ⟨by rw [HE.out]; rfl, hb⟩
        · have he2 : (Lib.itoa m == s.data.toList) = false := by simpa using he
          have he3 : (Lib.itoa m == s.toList) = false := by rw [ByteArray.toList_eq]; exact he2
          have HE := Lib.hid he2
          clear he
          go_wp2_with (refine (HNW.out _).mono ?_; rintro e w1 ⟨rfl, hb⟩)
          go_ret2
          exact ⟨by rw [HE.out]; rfl, hb⟩
set_option maxHeartbeats 2000000 in
set_option maxRecDepth 100000 in
theorem rkindOf_any (l : List UInt8) (w : World) : Calls Tryd.prog 51 #[.string ⟨l.toArray⟩] w fun e w' => e = .returned (.int .i64 (kindP l)) ∧ w' = w := by
  have hsl : ∀ a b : Nat, (ByteArray.mk #[77, 76, 81, 67, 90]).extract a b = ⟨(([77, 76, 81, 67, 90] : List UInt8).take b |>.drop a).toArray⟩ := fun a b => by
    apply ba_ext1; rw [extract_list]
  have HK : Hid (kindP l = if l = [77] then 1 else if l = [76] then 2 else if l = [81] then 3 else if l = [67] then 4 else if l = [90] then 5 else 0) := rfl
  go_enter Tryd.func51, Tryd.ntmps51
  go_wp2_with fail
  go_loop [3] (fun vi => ∃ i : Nat, vi = .int .i64 ((i + 1 : Nat) : Int) ∧ i ≤ 5 ∧ Hid (∀ j, j < i → l ≠ [([77, 76, 81, 67, 90] : List UInt8).getD j 0])) (fun vi => 6 - (intOf vi).toNat)
  case atStart => exact ⟨0, rfl, by decide, fun j hj => by omega⟩
  case round =>
    obtain ⟨i, rfl, hi, hne⟩ := hrel
    rcases (by omega : i = 0 ∨ i = 1 ∨ i = 2 ∨ i = 3 ∨ i = 4 ∨ i = 5) with rfl | rfl | rfl | rfl | rfl | rfl
    · by_cases h : l = [77]
      · subst h
        go_wp2_with fail
        go_ret
        exact ⟨by rw [HK.out]; rfl, rfl⟩
      · have hb : (l == [77]) = false := by simpa using h
        have HN := Lib.hid h
        clear h
        go_wp2_with fail
        go_round
        case rel => exact ⟨1, by go_num, by decide, fun j hj => by
          rcases Nat.lt_succ_iff_lt_or_eq.1 hj with h | rfl
          · exact hne.out j h
          · exact HN.out⟩
        case measure => simp [intOf]
    · by_cases h : l = [76]
      · subst h
        go_wp2_with fail
        go_ret
        exact ⟨by rw [HK.out]; rfl, rfl⟩
      · have hb : (l == [76]) = false := by simpa using h
        have HN := Lib.hid h
        clear h
        go_wp2_with fail
        go_round
        case rel => exact ⟨2, by go_num, by decide, fun j hj => by
          rcases Nat.lt_succ_iff_lt_or_eq.1 hj with h | rfl
          · exact hne.out j h
          · exact HN.out⟩
        case measure => simp [intOf]
    · by_cases h : l = [81]
      · subst h
        go_wp2_with fail
        go_ret
        exact ⟨by rw [HK.out]; rfl, rfl⟩
      · have hb : (l == [81]) = false := by simpa using h
        have HN := Lib.hid h
        clear h
        go_wp2_with fail
        go_round
        case rel => exact ⟨3, by go_num, by decide, fun j hj => by
          rcases Nat.lt_succ_iff_lt_or_eq.1 hj with h | rfl
          · exact hne.out j h
          · exact HN.out⟩
        case measure => simp [intOf]
    · by_cases h : l = [67]
      · subst h
        go_wp2_with fail
        go_ret
        exact ⟨by rw [HK.out]; rfl, rfl⟩
      · have hb : (l == [67]) = false := by simpa using h
        have HN := Lib.hid h
        clear h
        go_wp2_with fail
        go_round
        case rel => exact ⟨4, by go_num, by decide, fun j hj => by
          rcases Nat.lt_succ_iff_lt_or_eq.1 hj with h | rfl
          · exact hne.out j h
          · exact HN.out⟩
        case measure => simp [intOf]
    · by_cases h : l = [90]
      · subst h
        go_wp2_with fail
        go_ret
        exact ⟨by rw [HK.out]; rfl, rfl⟩
      · have hb : (l == [90]) = false := by simpa using h
        have HN := Lib.hid h
        clear h
        go_wp2_with fail
        go_round
        case rel => exact ⟨5, by go_num, by decide, fun j hj => by
          rcases Nat.lt_succ_iff_lt_or_eq.1 hj with h | rfl
          · exact hne.out j h
          · exact HN.out⟩
        case measure => simp [intOf]
    · go_wp2_with fail
      go_ret
      have h0 : l ≠ [77] := hne.out 0 (by decide)
      have h1 : l ≠ [76] := hne.out 1 (by decide)
      have h2 : l ≠ [81] := hne.out 2 (by decide)
      have h3 : l ≠ [67] := hne.out 3 (by decide)
      have h4 : l ≠ [90] := hne.out 4 (by decide)
      exact ⟨by rw [HK.out, if_neg h0, if_neg h1, if_neg h2, if_neg h3, if_neg h4]; rfl, rfl⟩
end Go.Proofs.YtgjbelcnkmcbiaaDoor
