/-
  Walks, in the reference of png: abs, predict, at, wrong.
-/
import Derived.Test.YthbejefodelpkaaGreatZO
import Derived.Test.YthbejefodelpkaaGreatZI
namespace Go.Proofs.YthbejefodelpkaaGreat
open Go.RowKit
set_option maxRecDepth 100000

theorem vabs_any (n : Int) (hn : -100000 ≤ n ∧ n ≤ 100000) (w : World) : Calls Tryz.prog 70 #[.int .i64 n] w fun e w' => e = .returned (.int .i64 (max n (-n))) ∧ w = w' := by
  go_enter Tryz.func70, Tryz.ntmps70
  go_wp2_with fail
  go_ret
  exact ⟨rfl, rfl⟩
theorem preP4 (a b c : Int) : preP 4 a b c = if disP (a + b - c) a ≤ disP (a + b - c) b ∧ disP (a + b - c) a ≤ disP (a + b - c) c then a else if disP (a + b - c) b ≤ disP (a + b - c) c then b else c := rfl
theorem vpre_any (kind a b c : Int) (ha : 0 ≤ a ∧ a < 256) (hb : 0 ≤ b ∧ b < 256) (hc : 0 ≤ c ∧ c < 256) (w : World) : Calls Tryz.prog 45 #[.int .i64 kind, .int .i64 a, .int .i64 b, .int .i64 c] w fun e w' => e = .returned (.int .i64 (preP kind a b c)) ∧ w = w' := by
  have HP : Hid (preP kind a b c = if kind = 1 then a else if kind = 2 then b else if kind = 3 then (a + b) / 2
      else if kind = 4 then (if disP (a + b - c) a ≤ disP (a + b - c) b ∧ disP (a + b - c) a ≤ disP (a + b - c) c then a else if disP (a + b - c) b ≤ disP (a + b - c) c then b else c) else 0) := rfl
  by_cases h1 : kind = 1
  · subst h1
    go_enter Tryz.func45, Tryz.ntmps45
    go_wp2_with fail
    go_ret
    exact ⟨by rw [HP.out]; rfl, rfl⟩
  have d1 : (kind == 1) = false := by simpa using h1
  by_cases h2 : kind = 2
  · subst h2
    go_enter Tryz.func45, Tryz.ntmps45
    go_wp2_with fail
    go_ret
    exact ⟨by rw [HP.out]; rfl, rfl⟩
  have d2 : (kind == 2) = false := by simpa using h2
  by_cases h3 : kind = 3
  · subst h3
    have ht : (a + b).tdiv 2 = (a + b) / 2 := Int.tdiv_eq_ediv_of_nonneg (by omega)
    have hw : wrap64 ((a + b) / 2) = (a + b) / 2 := by unfold wrap64; omega
    go_enter Tryz.func45, Tryz.ntmps45
    go_wp2_with fail
    go_ret
    exact ⟨by rw [HP.out]; rfl, rfl⟩
  have d3 : (kind == 3) = false := by simpa using h3
  by_cases h4 : kind = 4
  · subst h4
    replace HP := Lib.hid (preP4 a b c)
    obtain ⟨p, hp⟩ : ∃ p, a + b - c = p := ⟨_, rfl⟩
    obtain ⟨u1, hu1⟩ : ∃ u, p - a = u := ⟨_, rfl⟩
    obtain ⟨u2, hu2⟩ : ∃ u, p - b = u := ⟨_, rfl⟩
    obtain ⟨u3, hu3⟩ : ∃ u, p - c = u := ⟨_, rfl⟩
    have HD1 := Lib.hid (fun w => vabs_any u1 (by omega) w)
    have HD2 := Lib.hid (fun w => vabs_any u2 (by omega) w)
    have HD3 := Lib.hid (fun w => vabs_any u3 (by omega) w)
    have e1 : disP (a + b - c) a = max u1 (-u1) := by unfold disP; rw [hp, hu1]; congr 1; omega
    have e2 : disP (a + b - c) b = max u2 (-u2) := by unfold disP; rw [hp, hu2]; congr 1; omega
    have e3 : disP (a + b - c) c = max u3 (-u3) := by unfold disP; rw [hp, hu3]; congr 1; omega
    rw [e1, e2, e3] at HP
    have hp9 : -100000 ≤ p ∧ p ≤ 100000 := by omega
    obtain ⟨x, hx⟩ : ∃ x, max u1 (-u1) = x := ⟨_, rfl⟩
    obtain ⟨y, hy⟩ : ∃ x, max u2 (-u2) = x := ⟨_, rfl⟩
    obtain ⟨z, hz⟩ : ∃ x, max u3 (-u3) = x := ⟨_, rfl⟩
    rw [hx] at HD1 HP
    rw [hy] at HD2 HP
    rw [hz] at HD3 HP
    clear e1 e2 e3 hx hy hz h1 h2 h3
    go_enter Tryz.func45, Tryz.ntmps45
    go_wp2_with fail
    refine (HD1.out _).mono ?_
    rintro e w1 ⟨rfl, rfl⟩
    go_wp2_with fail
    refine (HD2.out _).mono ?_
    rintro e w1 ⟨rfl, rfl⟩
    by_cases e1 : x ≤ y
    · have d1 : decide (x ≤ y) = true := by simpa using e1
      go_wp2_with fail
      refine (HD1.out _).mono ?_
      rintro e w1 ⟨rfl, rfl⟩
      go_wp2_with fail
      refine (HD3.out _).mono ?_
      rintro e w1 ⟨rfl, rfl⟩
      by_cases e2 : x ≤ z
      · have d2 : decide (x ≤ z) = true := by simpa using e2
        have HF : Hid (preP 4 a b c = a) := by show _ = _; rw [HP.out, if_pos ⟨e1, e2⟩]
        clear HP
        go_wp2_with fail
        go_ret
        exact ⟨by rw [HF.out]; rfl, rfl⟩
      · have d2 : decide (x ≤ z) = false := by simpa using e2
        go_wp2_with fail
        refine (HD2.out _).mono ?_
        rintro e w1 ⟨rfl, rfl⟩
        go_wp2_with fail
        refine (HD3.out _).mono ?_
        rintro e w1 ⟨rfl, rfl⟩
        by_cases e3 : y ≤ z
        · have d3 : decide (y ≤ z) = true := by simpa using e3
          have HF : Hid (preP 4 a b c = b) := by show _ = _; rw [HP.out, if_neg (fun h => absurd h.2 (by omega)), if_pos e3]
          clear HP
          go_wp2_with fail
          go_ret
          exact ⟨by rw [HF.out]; rfl, rfl⟩
        · have d3 : decide (y ≤ z) = false := by simpa using e3
          have HF : Hid (preP 4 a b c = c) := by show _ = _; rw [HP.out, if_neg (fun h => absurd h.2 (by omega)), if_neg e3]
          clear HP
          go_wp2_with fail
          go_ret
          exact ⟨by rw [HF.out]; rfl, rfl⟩
    · have d1 : decide (x ≤ y) = false := by simpa using e1
      go_wp2_with fail
      refine (HD2.out _).mono ?_
      rintro e w1 ⟨rfl, rfl⟩
      go_wp2_with fail
      refine (HD3.out _).mono ?_
      rintro e w1 ⟨rfl, rfl⟩
      by_cases e3 : y ≤ z
      · have d3 : decide (y ≤ z) = true := by simpa using e3
        have HF : Hid (preP 4 a b c = b) := by show _ = _; rw [HP.out, if_neg (fun h => absurd h.1 (by omega)), if_pos e3]
        clear HP
        go_wp2_with fail
        go_ret
        exact ⟨by rw [HF.out]; rfl, rfl⟩
      · have d3 : decide (y ≤ z) = false := by simpa using e3
        have HF : Hid (preP 4 a b c = c) := by show _ = _; rw [HP.out, if_neg (fun h => absurd h.1 (by omega)), if_neg e3]
        clear HP
        go_wp2_with fail
        go_ret
        exact ⟨by rw [HF.out]; rfl, rfl⟩
  have d4 : (kind == 4) = false := by simpa using h4
  have HF : Hid (preP kind a b c = 0) := by show _ = _; rw [HP.out, if_neg h1, if_neg h2, if_neg h3, if_neg h4]
  clear HP
  go_enter Tryz.func45, Tryz.ntmps45
  go_wp2_with fail
  go_ret
  exact ⟨by rw [HF.out]; rfl, rfl⟩
theorem vat_any (s : ByteArray) (k : Int) (w : World) : Calls Tryz.prog 46 #[.string s, .int .i64 k] w fun e w' => e = .returned (.int .i64 (atP s.data.toList k : Nat)) ∧ w = w' := by
  by_cases h0 : k < 0
  · have d0 : decide (k < 0) = true := by simpa using h0
    have HF : Hid (atP s.data.toList k = 0) := by show _ = _; unfold atP; rw [if_pos h0]
    go_enter Tryz.func46, Tryz.ntmps46
    go_wp2_with fail
    go_ret
    exact ⟨by rw [HF.out]; rfl, rfl⟩
  · have d0 : decide (k < 0) = false := by simpa using h0
    obtain ⟨n, rfl⟩ : ∃ n : Nat, k = n := ⟨k.toNat, by omega⟩
    by_cases h1 : n < s.size
    · have d1 : decide ((s.size : Int) ≤ (n : Int)) = false := by simp; omega
      obtain ⟨b, hb⟩ : ∃ b, s[n] = b := ⟨_, rfl⟩
      have HF : Hid (atP s.data.toList n = b.toNat) := by
        show _ = _
        unfold atP
        rw [if_neg h0, Int.toNat_natCast, List.getElem?_eq_getElem (by simpa using h1), ← hb]; rfl
      clear h0
      go_enter Tryz.func46, Tryz.ntmps46
      go_wp2_with fail
      go_ret
      exact ⟨by rw [HF.out]; exact congrArg (fun z => Ending.returned (Value.int .i64 z)) (wrap64_byte' b), rfl⟩
    · have d1 : decide ((s.size : Int) ≤ (n : Int)) = true := by simp; omega
      have HF : Hid (atP s.data.toList n = 0) := by
        show _ = _
        unfold atP
        rw [if_neg h0, Int.toNat_natCast, List.getElem?_eq_none (by simpa using h1)]; rfl
      clear h0
      go_enter Tryz.func46, Tryz.ntmps46
      go_wp2_with fail
      go_ret
      exact ⟨by rw [HF.out]; rfl, rfl⟩
theorem vwrong_any (kind bpp : Int) (line above : ByteArray) (w : World) : Calls Tryz.prog 44 #[.int .i64 kind, .int .i64 bpp, .string line, .string above] w fun e w' => e = .returned (.int .i64 (fchk kind bpp line.data.toList above.data.toList : Nat)) ∧ w = w' := by
  have HL : Hid (line.data.toList.length = line.size ∧ above.data.toList.length = above.size) := ⟨by simp, by simp⟩
  have HR : Hid (fchk kind bpp line.data.toList above.data.toList = if kind < 0 ∨ 4 < kind then 8 else if bpp < 1 ∨ 8 < bpp then 2 else if above.data.toList ≠ [] ∧ above.size ≠ line.size then 15 else 0) := by
    show _ = _; unfold fchk; rw [HL.out.1, HL.out.2]
  by_cases k0 : kind < 0
  · have d0 : decide (kind < 0) = true := by simpa using k0
    go_enter Tryz.func44, Tryz.ntmps44
    go_wp2_with fail
    go_ret
    exact ⟨by rw [HR.out, if_pos (.inl k0)]; rfl, rfl⟩
  have d0 : decide (kind < 0) = false := by simpa using k0
  by_cases k4 : 4 < kind
  · have d4 : decide (4 < kind) = true := by simpa using k4
    go_enter Tryz.func44, Tryz.ntmps44
    go_wp2_with fail
    go_ret
    exact ⟨by rw [HR.out, if_pos (.inr k4)]; rfl, rfl⟩
  have d4 : decide (4 < kind) = false := by simpa using k4
  by_cases b1 : bpp < 1
  · have e1 : decide (bpp < 1) = true := by simpa using b1
    go_enter Tryz.func44, Tryz.ntmps44
    go_wp2_with fail
    go_ret
    exact ⟨by rw [HR.out, if_neg (by omega), if_pos (.inl b1)]; rfl, rfl⟩
  have e1 : decide (bpp < 1) = false := by simpa using b1
  by_cases b8 : 8 < bpp
  · have e8 : decide (8 < bpp) = true := by simpa using b8
    go_enter Tryz.func44, Tryz.ntmps44
    go_wp2_with fail
    go_ret
    exact ⟨by rw [HR.out, if_neg (by omega), if_pos (.inr b8)]; rfl, rfl⟩
  have e8 : decide (8 < bpp) = false := by simpa using b8
  have HR2 : Hid (fchk kind bpp line.data.toList above.data.toList = if above.data.toList ≠ [] ∧ above.size ≠ line.size then 15 else 0) := by
    show _ = _; rw [HR.out, if_neg (by omega), if_neg (by omega)]
  clear HR
  by_cases he : above.data.toList = []
  · have hee : above.toList.isEmpty = true := by rw [ByteArray.toList_eq, he]; rfl
    have HF : Hid (fchk kind bpp line.data.toList above.data.toList = 0) := by show _ = _; rw [HR2.out]; simp [he]
    clear he
    go_enter Tryz.func44, Tryz.ntmps44
    go_wp2_with fail
    go_ret
    exact ⟨by rw [HF.out]; rfl, rfl⟩
  · have hee : above.toList.isEmpty = false := by rw [ByteArray.toList_eq]; simpa using he
    by_cases hz : above.size = line.size
    · have dz : ((above.size : Int) != (line.size : Int)) = false := by simp; omega
      have HF : Hid (fchk kind bpp line.data.toList above.data.toList = 0) := by show _ = _; rw [HR2.out, if_neg (by simp [hz])]
      clear he hz
      go_enter Tryz.func44, Tryz.ntmps44
      go_wp2_with fail
      go_ret
      exact ⟨by rw [HF.out]; rfl, rfl⟩
    · have dz : ((above.size : Int) != (line.size : Int)) = true := by simp; omega
      have HF : Hid (fchk kind bpp line.data.toList above.data.toList = 15) := by show _ = _; rw [HR2.out, if_pos ⟨he, hz⟩]
      clear he hz
      go_enter Tryz.func44, Tryz.ntmps44
      go_wp2_with fail
      go_ret
      exact ⟨by rw [HF.out]; rfl, rfl⟩
end Go.Proofs.YthbejefodelpkaaGreat
