/-
  Plain: the filters of lines, and that a filtered line is restored.
  Walks: what a filter asks of its arguments, and what it predicts.
-/
import Derived.Test.YthbejefodelpkaaGreatZA
import Derived.Test.YthbejefodelpkaaGreatZV
import Derived.Lib.MinMax
import Derived.Outline
import Derived.StillTailTactics
namespace Go.Proofs.YthbejefodelpkaaGreat
open Go.RowKit
set_option maxRecDepth 100000

/-- The error of a filter's arguments. -/
def fchk (kind bpp : Int) (line above : List UInt8) : Nat :=
  if kind < 0 ∨ 4 < kind then 8 else if bpp < 1 ∨ 8 < bpp then 2 else if above ≠ [] ∧ above.length ≠ line.length then 15 else 0
/-- The byte at a place, 0 outside. -/
def atP (l : List UInt8) (k : Int) : Nat := if k < 0 then 0 else (l[k.toNat]?.getD 0).toNat
theorem atP_lt (l : List UInt8) (k : Int) : atP l k < 256 := by
  unfold atP; split
  · decide
  · exact (l[k.toNat]?.getD 0).toNat_lt
def disP (a b : Int) : Int := max (a - b) (b - a)
/-- The prediction. -/
def preP (kind a b c : Int) : Int :=
  if kind = 1 then a else if kind = 2 then b else if kind = 3 then (a + b) / 2
  else if kind = 4 then (if disP (a + b - c) a ≤ disP (a + b - c) b ∧ disP (a + b - c) a ≤ disP (a + b - c) c then a else if disP (a + b - c) b ≤ disP (a + b - c) c then b else c)
  else 0
theorem preP_b (kind a b c : Int) (ha : 0 ≤ a ∧ a < 256) (hb : 0 ≤ b ∧ b < 256) (hc : 0 ≤ c ∧ c < 256) : 0 ≤ preP kind a b c ∧ preP kind a b c < 256 := by
  unfold preP
  split; · exact ha
  split; · exact hb
  split; · omega
  split
  · split; · exact ha
    split; · exact hb
    exact hc
  · omega
/-- The prediction of the byte k, out of the line (filtered or not) and the one above. -/
def prN (kind : Int) (bpp : Nat) (line above : List UInt8) (k : Nat) : Nat := (preP kind (atP line ((k : Int) - bpp)) (atP above k) (atP above ((k : Int) - bpp))).toNat
theorem prN_lt (kind : Int) (bpp : Nat) (line above : List UInt8) (k : Nat) : prN kind bpp line above k < 256 := by
  have h := preP_b kind (atP line ((k : Int) - bpp)) (atP above k) (atP above ((k : Int) - bpp)) (by have := atP_lt line ((k : Int) - bpp); omega) (by have := atP_lt above k; omega) (by have := atP_lt above ((k : Int) - bpp); omega)
  unfold prN
  omega
def filB (kind : Int) (bpp : Nat) (line above : List UInt8) (k : Nat) : UInt8 := UInt8.ofNat ((line.getD k 0).toNat + 256 - prN kind bpp line above k)
/-- The filtered bytes. -/
def filP (kind : Int) (bpp : Nat) (line above : List UInt8) : List UInt8 := (List.range line.length).map (filB kind bpp line above)
/-- The first k restored bytes. -/
def unfN (kind : Int) (bpp : Nat) (line above : List UInt8) : Nat → List UInt8
  | 0 => []
  | k + 1 => unfN kind bpp line above k ++ [UInt8.ofNat ((line.getD k 0).toNat + prN kind bpp (unfN kind bpp line above k) above k)]
def unfP (kind : Int) (bpp : Nat) (line above : List UInt8) : List UInt8 := unfN kind bpp line above line.length
theorem unfN_len (kind : Int) (bpp : Nat) (line above : List UInt8) : ∀ k, (unfN kind bpp line above k).length = k
  | 0 => rfl
  | k + 1 => by unfold unfN; rw [List.length_append, unfN_len kind bpp line above k]; rfl
theorem filP_len (kind : Int) (bpp : Nat) (line above : List UInt8) : (filP kind bpp line above).length = line.length := by simp [filP]
theorem unfP_len (kind : Int) (bpp : Nat) (line above : List UInt8) : (unfP kind bpp line above).length = line.length := unfN_len _ _ _ _ _
theorem atP_take (l : List UInt8) (k b : Nat) (hb : 1 ≤ b) : atP (l.take k) ((k : Int) - b) = atP l ((k : Int) - b) := by
  unfold atP
  split
  · rfl
  · rename_i h
    rw [List.getElem?_take_of_lt (by omega)]
theorem prN_take (kind : Int) (bpp : Nat) (hb : 1 ≤ bpp) (line above : List UInt8) (k : Nat) : prN kind bpp (line.take k) above k = prN kind bpp line above k := by
  unfold prN; rw [atP_take line k bpp hb]
theorem unf_fil (kind : Int) (bpp : Nat) (hb : 1 ≤ bpp) (line above : List UInt8) : ∀ k, k ≤ line.length → unfN kind bpp (filP kind bpp line above) above k = line.take k
  | 0, _ => by simp [unfN]
  | k + 1, h => by
    unfold unfN
    rw [unf_fil kind bpp hb line above k (by omega), prN_take kind bpp hb, List.take_succ_eq_append_getElem (by omega)]
    congr 2
    have e : (filP kind bpp line above).getD k 0 = filB kind bpp line above k := by
      unfold filP
      rw [List.getD_eq_getElem?_getD, List.getElem?_map, List.getElem?_range (by omega)]; rfl
    rw [e]
    have hp := prN_lt kind bpp line above k
    have e2 : line.getD k 0 = line[k] := by rw [List.getD_eq_getElem?_getD, List.getElem?_eq_getElem (by omega)]; rfl
    have hl := line[k].toNat_lt
    unfold filB
    rw [e2]
    apply UInt8.toNat_inj.1
    rw [UInt8.toNat_ofNat', UInt8.toNat_ofNat']
    omega
/-- A filtered line is restored. -/
theorem unf_filP (kind : Int) (bpp : Nat) (hb : 1 ≤ bpp) (line above : List UInt8) : unfP kind bpp (filP kind bpp line above) above = line := by
  unfold unfP
  rw [filP_len, unf_fil kind bpp hb line above _ (Nat.le_refl _), List.take_length]
end Go.Proofs.YthbejefodelpkaaGreat
namespace Go.Proofs.YthbejefodelpkaaGreat
open Go.RowKit
set_option maxRecDepth 100000

theorem gdist_any (a b : Int) (ha : -100000 ≤ a ∧ a ≤ 100000) (hb : -100000 ≤ b ∧ b ≤ 100000) (w : World) : Calls Tryz.prog 69 #[.int .i64 a, .int .i64 b] w fun e w' => e = .returned (.int .i64 (disP a b)) ∧ w = w' := by
  go_enter Tryz.func69, Tryz.ntmps69
  go_wp2_with fail
  go_ret
  exact ⟨rfl, rfl⟩
theorem gbyteAt_any (s : ByteArray) (k : Int) (w : World) : Calls Tryz.prog 43 #[.string s, .int .i64 k] w fun e w' => e = .returned (.int .i64 (atP s.data.toList k : Nat)) ∧ w = w' := by
  by_cases h0 : k < 0
  · have d0 : decide (k < 0) = true := by simpa using h0
    have HF : Hid (atP s.data.toList k = 0) := by show _ = _; unfold atP; rw [if_pos h0]
    go_enter Tryz.func43, Tryz.ntmps43
    go_wp2_with fail
    go_ret
    exact ⟨by rw [HF.out]; rfl, rfl⟩
  · have d0 : decide (k < 0) = false := by simpa using h0
    obtain ⟨n, rfl⟩ : ∃ n : Nat, k = n := ⟨k.toNat, by omega⟩
    by_cases h1 : n < s.size
    · have d1 : decide ((s.size : Int) ≤ (n : Int)) = false := by simp; omega
      obtain ⟨b, hb⟩ : ∃ b, s[n] = b := ⟨_, rfl⟩
      have HF : Hid (atP s.data.toList n = b.toNat) := by
        show _ = _
        unfold atP
        rw [if_neg h0, Int.toNat_natCast, List.getElem?_eq_getElem (by simpa using h1), ← hb]; rfl
      clear h0
      go_enter Tryz.func43, Tryz.ntmps43
      go_wp2_with fail
      go_ret
      exact ⟨by rw [HF.out]; exact congrArg (fun z => Ending.returned (Value.int .i64 z)) (wrap64_byte' b), rfl⟩
    · have d1 : decide ((s.size : Int) ≤ (n : Int)) = true := by simp; omega
      have HF : Hid (atP s.data.toList n = 0) := by
        show _ = _
        unfold atP
        rw [if_neg h0, Int.toNat_natCast, List.getElem?_eq_none (by simpa using h1)]; rfl
      clear h0
      go_enter Tryz.func43, Tryz.ntmps43
      go_wp2_with fail
      go_ret
      exact ⟨by rw [HF.out]; rfl, rfl⟩
theorem gpre_any (kind a b c : Int) (ha : 0 ≤ a ∧ a < 256) (hb : 0 ≤ b ∧ b < 256) (hc : 0 ≤ c ∧ c < 256) (w : World) : Calls Tryz.prog 42 #[.int .i64 kind, .int .i64 a, .int .i64 b, .int .i64 c] w fun e w' => e = .returned (.int .i64 (preP kind a b c)) ∧ w = w' := by
  have HP : Hid (preP kind a b c = if kind = 1 then a else if kind = 2 then b else if kind = 3 then (a + b) / 2
      else if kind = 4 then (if disP (a + b - c) a ≤ disP (a + b - c) b ∧ disP (a + b - c) a ≤ disP (a + b - c) c then a else if disP (a + b - c) b ≤ disP (a + b - c) c then b else c) else 0) := rfl
  by_cases h1 : kind = 1
  · subst h1
    go_enter Tryz.func42, Tryz.ntmps42
    go_wp2_with fail
    go_ret
    exact ⟨by rw [HP.out]; rfl, rfl⟩
  by_cases h2 : kind = 2
  · subst h2
    go_enter Tryz.func42, Tryz.ntmps42
    go_wp2_with fail
    go_ret
    exact ⟨by rw [HP.out]; rfl, rfl⟩
  by_cases h3 : kind = 3
  · subst h3
    have ht : (a + b).tdiv 2 = (a + b) / 2 := Int.tdiv_eq_ediv_of_nonneg (by omega)
    have hw : wrap64 ((a + b) / 2) = (a + b) / 2 := by unfold wrap64; omega
    go_enter Tryz.func42, Tryz.ntmps42
    go_wp2_with fail
    go_ret
    exact ⟨by rw [HP.out]; rfl, rfl⟩
  by_cases h4 : kind = 4
  · subst h4
    have HD1 := Lib.hid (fun w => gdist_any (a + b - c) a (by omega) (by omega) w)
    have HD2 := Lib.hid (fun w => gdist_any (a + b - c) b (by omega) (by omega) w)
    have HD3 := Lib.hid (fun w => gdist_any (a + b - c) c (by omega) (by omega) w)
    obtain ⟨x, hx⟩ : ∃ x, disP (a + b - c) a = x := ⟨_, rfl⟩
    obtain ⟨y, hy⟩ : ∃ x, disP (a + b - c) b = x := ⟨_, rfl⟩
    obtain ⟨z, hz⟩ : ∃ x, disP (a + b - c) c = x := ⟨_, rfl⟩
    rw [hx] at HD1
    rw [hy] at HD2
    rw [hz] at HD3
    rw [hx, hy, hz] at HP
    clear hx hy hz h1 h2 h3
    go_enter Tryz.func42, Tryz.ntmps42
    go_wp2_with fail
    refine (HD1.out _).mono ?_
    rintro e w1 ⟨rfl, rfl⟩
    go_wp2_with fail
    refine (HD2.out _).mono ?_
    rintro e w1 ⟨rfl, rfl⟩
    go_wp2_with fail
    refine (HD3.out _).mono ?_
    rintro e w1 ⟨rfl, rfl⟩
    by_cases e1 : x ≤ y
    · have d1 : decide (x ≤ y) = true := by simpa using e1
      by_cases e2 : x ≤ z
      · have d2 : decide (x ≤ z) = true := by simpa using e2
        have HF : Hid (preP 4 a b c = a) := by show _ = _; rw [HP.out]; simp [e1, e2]
        clear HP
        go_wp2_with fail
        go_ret
        exact ⟨by rw [HF.out]; rfl, rfl⟩
      · have d2 : decide (x ≤ z) = false := by simpa using e2
        by_cases e3 : y ≤ z
        · have d3 : decide (y ≤ z) = true := by simpa using e3
          have HF : Hid (preP 4 a b c = b) := by show _ = _; rw [HP.out]; simp [e2, e3]
          clear HP
          go_wp2_with fail
          go_ret
          exact ⟨by rw [HF.out]; rfl, rfl⟩
        · have d3 : decide (y ≤ z) = false := by simpa using e3
          have HF : Hid (preP 4 a b c = c) := by show _ = _; rw [HP.out]; simp [e2, e3]
          clear HP
          go_wp2_with fail
          go_ret
          exact ⟨by rw [HF.out]; rfl, rfl⟩
    · have d1 : decide (x ≤ y) = false := by simpa using e1
      by_cases e3 : y ≤ z
      · have d3 : decide (y ≤ z) = true := by simpa using e3
        have HF : Hid (preP 4 a b c = b) := by show _ = _; rw [HP.out]; simp [e1, e3]
        clear HP
        go_wp2_with fail
        go_ret
        exact ⟨by rw [HF.out]; rfl, rfl⟩
      · have d3 : decide (y ≤ z) = false := by simpa using e3
        have HF : Hid (preP 4 a b c = c) := by show _ = _; rw [HP.out]; simp [e1, e3]
        clear HP
        go_wp2_with fail
        go_ret
        exact ⟨by rw [HF.out]; rfl, rfl⟩
  have HF : Hid (preP kind a b c = 0) := by show _ = _; rw [HP.out, if_neg h1, if_neg h2, if_neg h3, if_neg h4]
  clear HP
  go_enter Tryz.func42, Tryz.ntmps42
  go_wp2_with fail
  go_ret
  exact ⟨by rw [HF.out]; rfl, rfl⟩
theorem gcheck_any (kind bpp : Int) (line above : ByteArray) (w : World) : Calls Tryz.prog 41 #[.int .i64 kind, .int .i64 bpp, .string line, .string above] w fun e w' => e = .returned (.int .i64 (fchk kind bpp line.data.toList above.data.toList : Nat)) ∧ w = w' := by
  have HL : Hid (line.data.toList.length = line.size ∧ above.data.toList.length = above.size) := ⟨by simp, by simp⟩
  have HR : Hid (fchk kind bpp line.data.toList above.data.toList = if kind < 0 ∨ 4 < kind then 8 else if bpp < 1 ∨ 8 < bpp then 2 else if above.data.toList ≠ [] ∧ above.size ≠ line.size then 15 else 0) := by
    show _ = _; unfold fchk; rw [HL.out.1, HL.out.2]
  by_cases k0 : kind < 0
  · have d0 : decide (kind < 0) = true := by simpa using k0
    go_enter Tryz.func41, Tryz.ntmps41
    go_wp2_with fail
    go_ret
    exact ⟨by rw [HR.out, if_pos (.inl k0)]; rfl, rfl⟩
  have d0 : decide (kind < 0) = false := by simpa using k0
  by_cases k4 : 4 < kind
  · have d4 : decide (4 < kind) = true := by simpa using k4
    go_enter Tryz.func41, Tryz.ntmps41
    go_wp2_with fail
    go_ret
    exact ⟨by rw [HR.out, if_pos (.inr k4)]; rfl, rfl⟩
  have d4 : decide (4 < kind) = false := by simpa using k4
  by_cases b1 : bpp < 1
  · have e1 : decide (bpp < 1) = true := by simpa using b1
    go_enter Tryz.func41, Tryz.ntmps41
    go_wp2_with fail
    go_ret
    exact ⟨by rw [HR.out, if_neg (by omega), if_pos (.inl b1)]; rfl, rfl⟩
  have e1 : decide (bpp < 1) = false := by simpa using b1
  by_cases b8 : 8 < bpp
  · have e8 : decide (8 < bpp) = true := by simpa using b8
    go_enter Tryz.func41, Tryz.ntmps41
    go_wp2_with fail
    go_ret
    exact ⟨by rw [HR.out, if_neg (by omega), if_pos (.inr b8)]; rfl, rfl⟩
  have e8 : decide (8 < bpp) = false := by simpa using b8
  have HR2 : Hid (fchk kind bpp line.data.toList above.data.toList = if above.data.toList ≠ [] ∧ above.size ≠ line.size then 15 else 0) := by
    show _ = _; rw [HR.out, if_neg (by omega), if_neg (by omega)]
  clear HR
  by_cases he : above.data.toList = []
  · have hee : above.toList.isEmpty = true := by rw [ByteArray.toList_eq, he]; rfl
    have HF : Hid (fchk kind bpp line.data.toList above.data.toList = 0) := by show _ = _; rw [HR2.out]; simp [he]
    clear he
    go_enter Tryz.func41, Tryz.ntmps41
    go_wp2_with fail
    go_ret
    exact ⟨by rw [HF.out]; rfl, rfl⟩
  · have hee : above.toList.isEmpty = false := by rw [ByteArray.toList_eq]; simpa using he
    by_cases hz : above.size = line.size
    · have dz : ((above.size : Int) != (line.size : Int)) = false := by simp; omega
      have HF : Hid (fchk kind bpp line.data.toList above.data.toList = 0) := by show _ = _; rw [HR2.out, if_neg (by simp [hz])]
      clear he hz
      go_enter Tryz.func41, Tryz.ntmps41
      go_wp2_with fail
      go_ret
      exact ⟨by rw [HF.out]; rfl, rfl⟩
    · have dz : ((above.size : Int) != (line.size : Int)) = true := by simp; omega
      have HF : Hid (fchk kind bpp line.data.toList above.data.toList = 15) := by show _ = _; rw [HR2.out, if_pos ⟨he, hz⟩]
      clear he hz
      go_enter Tryz.func41, Tryz.ntmps41
      go_wp2_with fail
      go_ret
      exact ⟨by rw [HF.out]; rfl, rfl⟩
end Go.Proofs.YthbejefodelpkaaGreat
