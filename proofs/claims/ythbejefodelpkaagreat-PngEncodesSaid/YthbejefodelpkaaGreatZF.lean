/-
  Walks: floors and rounded quotients by positive numbers, in the program and in the reference.
  Plain definitions: pixels, rows of pixels (what P9 and P10 hold of them, for seats without pam).
  Plain laws: a string appended to a row of bytes that is full (the row of a constant, which bears the run-time's mark).
  Walks: limits of pixels, the error of an image, in the reference.
  Walks: the error of an image, in the reference.
  Walks: limits of pixels, the error of an image, values of 8 bits, in the program.
  Walks: pixels of straight alpha, values of 8 bits, in the program and in the reference.
-/
import Derived.Test.YthbejefodelpkaaGreatZA
import Derived.Test.YthbejefodelpkaaGreatProg
import Derived.Outline
import Derived.StillTailTactics
import Derived.Test.YthbejefodelpkaaGreatZE
import Derived.Deep.Cut
import Derived.Lib.MinMax
import Derived.Lib.Bytealg
import Derived.CellFam
import Derived.BigQuiet
import Derived.Deep.Draws
import Derived.Deep.QuietTactic
import Derived.Deep.RegionLaw
import Derived.Deep.AppendLies
import Derived.OrdersHeld
import Derived.WalkLawsBesides
import Derived.WalkSpells
import Derived.Test.YthbejefodelpkaaGreatZV
namespace Go.Proofs.YthbejefodelpkaaGreat
open Go.RowKit

/-- a divided by b, rounded to the nearest integer, halves up. -/
def rdI (a b : Int) : Int := (2 * a + b) / (2 * b)
theorem tdiv_facts (a b : Int) (hb : 0 < b) : a = b * a.tdiv b + a.tmod b ∧ (0 ≤ a → 0 ≤ a.tmod b ∧ a.tmod b < b) ∧ (a < 0 → -b < a.tmod b ∧ a.tmod b ≤ 0) := by
  refine ⟨(Int.mul_tdiv_add_tmod a b).symm, fun h => ⟨Int.tmod_nonneg b h, Int.tmod_lt_of_pos a hb⟩, fun h => ?_⟩
  have h1 : (-a).tmod b = -(a.tmod b) := Int.neg_tmod a b
  have h2 := Int.tmod_nonneg b (show 0 ≤ -a by omega)
  have h3 := Int.tmod_lt_of_pos (-a) hb
  omega
theorem floor_facts (a b : Int) (hb : 0 < b) : a / b = if a.tmod b ≠ 0 ∧ a < 0 then a.tdiv b - 1 else a.tdiv b := by
  obtain ⟨h1, h2, h3⟩ := tdiv_facts a b hb
  generalize a.tdiv b = q at *
  generalize a.tmod b = r at *
  split
  · rename_i h
    have := h3 h.2
    exact (Int.ediv_emod_unique hb (r := r + b) (q := q - 1) |>.2 ⟨by rw [Int.mul_sub]; omega, by omega, by omega⟩).1
  · rename_i h
    have hr : 0 ≤ r ∧ r < b := by
      rcases Int.lt_or_le a 0 with h0 | h0
      · have := h3 h0
        have hz : r = 0 := Classical.byContradiction fun e => h ⟨e, h0⟩
        omega
      · exact h2 h0
    exact (Int.ediv_emod_unique hb (r := r) (q := q) |>.2 ⟨by omega, hr.1, hr.2⟩).1
theorem floor_le (a b M : Int) (hb : 0 < b) (h1 : -M ≤ a) (h2 : a ≤ M) (hM : 0 ≤ M) : -M - 1 ≤ a.tdiv b ∧ a.tdiv b ≤ M + 1 ∧ -M - 1 ≤ a / b ∧ a / b ≤ M := by
  have e1 : a / b ≤ M := by
    apply Int.le_of_lt_add_one
    rw [Int.ediv_lt_iff_lt_mul hb]
    have : M + 1 ≤ (M + 1) * b := by
      have := Int.mul_le_mul_of_nonneg_left (show (1 : Int) ≤ b by omega) (show 0 ≤ M + 1 by omega)
      omega
    omega
  have e2 : -M - 1 ≤ a / b := by
    rw [Int.le_ediv_iff_mul_le hb]
    have : (-M - 1) * b ≤ -M - 1 := by
      have := Int.mul_le_mul_of_nonneg_left (show (1 : Int) ≤ b by omega) (show 0 ≤ M + 1 by omega)
      rw [show -M - 1 = -(M + 1) by omega, Int.neg_mul]
      omega
    omega
  have e3 := floor_facts a b hb
  split at e3 <;> omega
theorem rd_facts (a b : Int) (hb : 0 < b) : rdI a b = if b - (a - b * (a / b)) ≤ a - b * (a / b) then a / b + 1 else a / b := by
  have h1 := Int.mul_ediv_add_emod a b
  have h2 := Int.emod_nonneg a (show b ≠ 0 by omega)
  have h3 := Int.emod_lt_of_pos a hb
  have e : a - b * (a / b) = a % b := by omega
  rw [e]
  unfold rdI
  generalize a / b = q at *
  generalize a % b = r at *
  have hm : (2 * b) * (q + 1) = 2 * (b * q) + 2 * b := by rw [Int.mul_add, Int.mul_one, Int.mul_assoc]
  have hm0 : (2 * b) * q = 2 * (b * q) := by rw [Int.mul_assoc]
  split
  · exact (Int.ediv_emod_unique (by omega) (r := 2 * r - b) (q := q + 1) |>.2 ⟨by omega, by omega, by omega⟩).1
  · exact (Int.ediv_emod_unique (by omega) (r := 2 * r + b) (q := q) |>.2 ⟨by omega, by omega, by omega⟩).1

section
variable (a b : Int) (w : World) (h1 : -2305843009213693952 ≤ a) (h2 : a ≤ 2305843009213693952) (hb : 0 < b) (hb2 : b ≤ 2147483648)
include h1 h2 hb hb2
set_option maxHeartbeats 1000000 in
theorem floorI_any : Calls Tryz.prog 83 #[.int .i64 a, .int .i64 b] w fun e w' => e = .returned (.int .i64 (a / b)) ∧ w = w' := by
  have HF := Lib.hid (floor_facts a b hb)
  have hle := floor_le a b 2305843009213693952 hb h1 h2 (by decide)
  have e0 : (b == 0) = false := by simp; omega
  have e1 : (a == -9223372036854775808) = false := by simp; omega
  have e2 : decide (b < 0) = false := by simp; omega
  generalize hq : a.tdiv b = q at *
  generalize hr : a.tmod b = r at *
  generalize hd : a / b = d at *
  have HD := Lib.hid hd
  clear hd
  obtain ⟨l1, l2, l3, l4⟩ := hle
  by_cases hr0 : r = 0
  · subst hr0
    have HR : Hid (d = q) := by show _ = _; rw [HF.out, if_neg (by simp)]
    go_enter Tryz.func83, Tryz.ntmps83
    go_wp2_with fail
    go_ret
    exact ⟨by rw [HR.out]; rfl, rfl⟩
  · have e3 : (r == 0) = false := by simp; omega
    by_cases ha : a < 0
    · have HR : Hid (d = q - 1) := by show _ = _; rw [HF.out, if_pos ⟨hr0, ha⟩]
      have e4 : decide (a < 0) = true := by simp; omega
      go_enter Tryz.func83, Tryz.ntmps83
      go_wp2_with fail
      go_ret
      exact ⟨by rw [HR.out]; rfl, rfl⟩
    · have HR : Hid (d = q) := by show _ = _; rw [HF.out, if_neg (by omega)]
      have e4 : decide (a < 0) = false := by simp; omega
      go_enter Tryz.func83, Tryz.ntmps83
      go_wp2_with fail
      go_ret
      exact ⟨by rw [HR.out]; rfl, rfl⟩
set_option maxHeartbeats 1000000 in
theorem divI_any : Calls Tryz.prog 55 #[.int .i64 a, .int .i64 b] w fun e w' => e = .returned (.int .i64 (rdI a b)) ∧ w = w' := by
  have HFL := Lib.hid (fun w => floorI_any a b w h1 h2 hb hb2)
  have hle := floor_le a b 2305843009213693952 hb h1 h2 (by decide)
  have HF := Lib.hid (rd_facts a b hb)
  have hm := Int.mul_ediv_add_emod a b
  have hm2 := Int.emod_nonneg a (show b ≠ 0 by omega)
  have hm3 := Int.emod_lt_of_pos a hb
  have e0 : (b == 0) = false := by simp; omega
  have e1 : (a == -9223372036854775808) = false := by simp; omega
  have e2 : decide (b < 0) = false := by simp; omega
  have e3 : decide (0 < b) = true := by simp; omega
  obtain ⟨-, -, l3, l4⟩ := hle
  generalize a / b = q at *
  generalize a % b = r at *
  obtain ⟨p, hp⟩ : ∃ p, p = b * q := ⟨_, rfl⟩
  rw [← hp] at HF hm
  have hw : IntKind.i64.wrap (b * q) = p := by rw [← hp]; exact IntWalk.i64_in _ (by omega)
  have hr : a - p = r := by omega
  rw [hr] at HF
  have HRR := Lib.hid hr
  have z1 : IntKind.i64.wrap (a - p) = r := by rw [hr]; exact IntWalk.i64_in _ (by omega)
  have z2 : IntKind.i64.wrap (b - r) = b - r := IntWalk.i64_in _ (by omega)
  have HP := Lib.hid hp
  have HM := Lib.hid hm
  clear hr hm hp
  by_cases hc : b - r ≤ r
  · have HR : Hid (rdI a b = q + 1) := by show _ = _; rw [HF.out, if_pos hc]
    have e4 : decide (b - r ≤ r) = true := by simp; omega
    go_enter Tryz.func55, Tryz.ntmps55
    go_wp2_with fail
    refine (HFL.out _).mono ?_
    rintro e w1 ⟨rfl, rfl⟩
    go_wp2_with fail
    go_ret
    exact ⟨by rw [HR.out]; rfl, rfl⟩
  · have HR : Hid (rdI a b = q) := by show _ = _; rw [HF.out, if_neg hc]
    have e4 : decide (b - r ≤ r) = false := by simp; omega
    go_enter Tryz.func55, Tryz.ntmps55
    go_wp2_with fail
    refine (HFL.out _).mono ?_
    rintro e w1 ⟨rfl, rfl⟩
    go_wp2_with fail
    go_ret
    exact ⟨by rw [HR.out]; rfl, rfl⟩
set_option maxHeartbeats 1000000 in
theorem rfloorI_any : Calls Tryz.prog 124 #[.int .i64 a, .int .i64 b] w fun e w' => e = .returned (.int .i64 (a / b)) ∧ ∃ n, w' = w.drewN n := by
  have HF := Lib.hid (floor_facts a b hb)
  have hle := floor_le a b 2305843009213693952 hb h1 h2 (by decide)
  obtain ⟨f1, f2, f3⟩ := tdiv_facts a b hb
  have e0 : (b == 0) = false := by simp; omega
  have e1 : (a == -9223372036854775808) = false := by simp; omega
  have e2 : decide (b < 0) = false := by simp; omega
  have e5 : (a.tmod b < 0) ↔ (a.tmod b ≠ 0 ∧ a < 0) := by
    constructor
    · intro h
      refine ⟨by omega, ?_⟩
      rcases Int.lt_or_le a 0 with h0 | h0
      · exact h0
      · have := f2 h0; omega
    · rintro ⟨h, h0⟩
      have := f3 h0; omega
  have hrb : -2147483648 ≤ a.tmod b ∧ a.tmod b ≤ 2147483648 := by
    rcases Int.lt_or_le a 0 with h0 | h0
    · have := f3 h0; omega
    · have := f2 h0; omega
  clear f1 f2 f3
  generalize hq : a.tdiv b = q at *
  generalize hr : a.tmod b = r at *
  have E5 := Lib.hid e5
  clear e5
  have q1 : b ≠ 0 := by omega
  obtain ⟨l1, l2, l3, l4⟩ := hle
  generalize hd : a / b = d at *
  have HD := Lib.hid hd
  clear hd
  by_cases hr0 : r = 0
  · subst hr0
    have HR : Hid (d = q) := by show _ = _; rw [HF.out, if_neg (by simp)]
    go_enter Tryz.func124, Tryz.ntmps124
    go_wp2_with fail
    go_quiet (fail)
    go_wp2_with fail
    go_ret
    exact ⟨by rw [HR.out]; rfl, _, rfl⟩
  · have e3 : (r == 0) = false := by simp; omega
    by_cases ha : r < 0
    · have HR : Hid (d = q - 1) := by show _ = _; rw [HF.out, if_pos (E5.out.1 ha)]
      have e4 : decide (r < 0) = true := by simp; omega
      go_enter Tryz.func124, Tryz.ntmps124
      go_wp2_with fail
      go_quiet (fail)
      go_wp2_with fail
      go_ret
      exact ⟨by rw [HR.out]; rfl, _, rfl⟩
    · have HR : Hid (d = q) := by show _ = _; rw [HF.out, if_neg (fun h => ha (E5.out.2 h))]
      have e4 : decide (r < 0) = false := by simp; omega
      go_enter Tryz.func124, Tryz.ntmps124
      go_wp2_with fail
      go_quiet (fail)
      go_wp2_with fail
      go_ret
      exact ⟨by rw [HR.out]; rfl, _, rfl⟩
end
theorem rabs_any (a : Int) (w : World) (h0 : 0 ≤ a) (h1 : a ≤ 4611686018427387904) : Calls Tryz.prog 125 #[.int .i64 a] w fun e w' => e = .returned (.int .u64 a) ∧ w = w' := by
  have e0 : decide (a < 0) = false := by simp; omega
  have z : IntKind.u64.wrap a = a := by rw [IntKind.wrap_u64]; omega
  go_enter Tryz.func125, Tryz.ntmps125
  go_wp2_with fail
  go_ret
  exact ⟨rfl, rfl⟩
section
variable (a b : Int) (w : World) (h1 : -2305843009213693952 ≤ a) (h2 : a ≤ 2305843009213693952) (hb : 0 < b) (hb2 : b ≤ 2147483648)
include h1 h2 hb hb2
set_option maxHeartbeats 1000000 in
theorem rdivI_any : Calls Tryz.prog 103 #[.int .i64 a, .int .i64 b] w fun e w' => e = .returned (.int .i64 (rdI a b)) ∧ ∃ n, w' = w.drewN n := by
  have HFL := Lib.hid (fun w => rfloorI_any a b w h1 h2 hb hb2)
  have hle := floor_le a b 2305843009213693952 hb h1 h2 (by decide)
  have HF := Lib.hid (rd_facts a b hb)
  have hm := Int.mul_ediv_add_emod a b
  have hm2 := Int.emod_nonneg a (show b ≠ 0 by omega)
  have hm3 := Int.emod_lt_of_pos a hb
  have e0 : (b == 0) = false := by simp; omega
  have e1 : (a == -9223372036854775808) = false := by simp; omega
  obtain ⟨-, -, l3, l4⟩ := hle
  generalize a / b = q at *
  generalize a % b = r at *
  obtain ⟨p, hp⟩ : ∃ p, p = b * q := ⟨_, rfl⟩
  rw [← hp] at HF hm
  have hw : IntKind.i64.wrap (b * q) = p := by rw [← hp]; exact IntWalk.i64_in _ (by omega)
  have hr : a - p = r := by omega
  rw [hr] at HF
  have z1 : IntKind.i64.wrap (a - p) = r := by rw [hr]; exact IntWalk.i64_in _ (by omega)
  have z2 : IntKind.u64.wrap (b - r) = b - r := by rw [IntKind.wrap_u64]; omega
  have HA1 := Lib.hid (fun w => rabs_any r w hm2 (by omega))
  have HA2 := Lib.hid (fun w => rabs_any b w (by omega) (by omega))
  clear hr hm hp
  by_cases hc : b - r ≤ r
  · have HR : Hid (rdI a b = q + 1) := by show _ = _; rw [HF.out, if_pos hc]
    have e4 : decide (b - r ≤ r) = true := by simp; omega
    go_enter Tryz.func103, Tryz.ntmps103
    go_wp2_with fail
    refine (HFL.out _).mono ?_
    rintro e w1 ⟨rfl, n1, rfl⟩
    go_wp2_with fail
    refine (HA1.out _).mono ?_
    rintro e w1 ⟨rfl, rfl⟩
    go_wp2_with fail
    refine (HA2.out _).mono ?_
    rintro e w1 ⟨rfl, rfl⟩
    go_wp2_with fail
    go_ret
    exact ⟨by rw [HR.out]; rfl, _, rfl⟩
  · have HR : Hid (rdI a b = q) := by show _ = _; rw [HF.out, if_neg hc]
    have e4 : decide (b - r ≤ r) = false := by simp; omega
    go_enter Tryz.func103, Tryz.ntmps103
    go_wp2_with fail
    refine (HFL.out _).mono ?_
    rintro e w1 ⟨rfl, n1, rfl⟩
    go_wp2_with fail
    refine (HA1.out _).mono ?_
    rintro e w1 ⟨rfl, rfl⟩
    go_wp2_with fail
    refine (HA2.out _).mono ?_
    rintro e w1 ⟨rfl, rfl⟩
    go_wp2_with fail
    go_ret
    exact ⟨by rw [HR.out]; rfl, _, rfl⟩
end
end Go.Proofs.YthbejefodelpkaaGreat
namespace Go.Proofs.YthbejefodelpkaaGreat
open Go.RowKit

abbrev Px := Int × Int × Int × Int
def pxC (p : Px) : Array Value := #[.int .i64 p.1, .int .i64 p.2.1, .int .i64 p.2.2.1, .int .i64 p.2.2.2]
theorem pxC_inf (p : Px) : (Tryz.prog.info? 41).map (·.size) = some (pxC p).size := by show _ = some 4; kernel_rfl
theorem pxC_one (p : Px) : (pxC p).all (·.oneCell') = true := by simp [pxC, Value.oneCell']
/-- Pixel i of the row at an address. -/
def PCell (w : World) (b off : Nat) (i : Nat) (p : Px) : Prop := w.cell? ⟨b, off + i * 4, none⟩ = some (.int .i64 p.1) ∧ w.cell? ⟨b, off + i * 4 + 1, none⟩ = some (.int .i64 p.2.1) ∧ w.cell? ⟨b, off + i * 4 + 2, none⟩ = some (.int .i64 p.2.2.1) ∧ w.cell? ⟨b, off + i * 4 + 3, none⟩ = some (.int .i64 p.2.2.2)
/-- The slice value v reads as the pixels l. -/
def PRow (w : World) (v : Value) (l : List Px) : Prop :=
  ∃ x c, v = .slice x l.length c ∧ l.length ≤ c ∧ c ≤ maxLen ∧ (x = none → c = 0) ∧ (l ≠ [] → ∃ b off, x = some ⟨b, off, none⟩ ∧ ∀ i (h : i < l.length), PCell w b off i l[i])
theorem PRow.one {w : World} {v : Value} {l : List Px} (h : PRow w v l) : v.oneCell' = true := by obtain ⟨x, c, rfl, -⟩ := h; rfl
theorem PRow.below {w w' : World} {v : Value} {l : List Px} (h : PRow w v l) (hb : Below w.heap.size w w') : PRow w' v l := by
  obtain ⟨x, c, rfl, h1, h2, h3, h4⟩ := h
  refine ⟨x, c, rfl, h1, h2, h3, fun hne => ?_⟩
  obtain ⟨b, off, rfl, hc⟩ := h4 hne
  refine ⟨b, off, rfl, fun i hi => ?_⟩
  obtain ⟨c1, c2, c3, c4⟩ := hc i hi
  have hlt : b < w.heap.size := World.block_lt_of_cell? w _ c1
  exact ⟨(hb.cell (p := ⟨b, _, none⟩) hlt).trans c1, (hb.cell (p := ⟨b, _, none⟩) hlt).trans c2, (hb.cell (p := ⟨b, _, none⟩) hlt).trans c3, (hb.cell (p := ⟨b, _, none⟩) hlt).trans c4⟩
/-- The cells of a row of pixels. -/
def pixA (l : List Px) : Array Value := (l.flatMap fun p => (pxC p).toList).toArray
theorem pixA_size (l : List Px) : (pixA l).size = l.length * 4 := by
  unfold pixA
  induction l with
  | nil => rfl
  | cons p l ih =>
    simp only [List.size_toArray, List.flatMap_cons, List.length_append, List.length_cons] at ih ⊢
    rw [ih]
    simp [pxC]; omega
def pxG (p : Px) (j : Nat) : Int := if j = 0 then p.1 else if j = 1 then p.2.1 else if j = 2 then p.2.2.1 else p.2.2.2
theorem pixA_get (l : List Px) (i j : Nat) (h : i < l.length) (hj : j < 4) : (pixA l)[i * 4 + j]? = some (.int .i64 (pxG l[i] j)) := by
  unfold pixA
  induction l generalizing i with
  | nil => simp at h
  | cons p l ih =>
    rw [List.getElem?_toArray, List.flatMap_cons]
    have hl : (pxC p).toList.length = 4 := rfl
    cases i with
    | zero =>
      rw [List.getElem?_append_left (by rw [hl]; omega)]
      match j, hj with
      | 0, _ => rfl
      | 1, _ => rfl
      | 2, _ => rfl
      | 3, _ => rfl
    | succ i =>
      rw [List.getElem?_append_right (by rw [hl]; omega), hl]
      have := ih i (by simpa using h)
      rw [List.getElem?_toArray] at this
      rw [show (i + 1) * 4 + j - 4 = i * 4 + j by omega, this]
      rfl
theorem pixA_set (l : List Px) (k : Nat) (hk : k < l.length) (p : Px) :
    ((((pixA l).setIfInBounds (k * 4) (.int .i64 p.1)).setIfInBounds (k * 4 + 1) (.int .i64 p.2.1)).setIfInBounds (k * 4 + 2) (.int .i64 p.2.2.1)).setIfInBounds (k * 4 + 3) (.int .i64 p.2.2.2) = pixA (l.set k p) := by
  apply Array.ext_getElem?
  intro j
  have hs := pixA_size l
  by_cases hj : j < l.length * 4
  · have hi : j / 4 < l.length := by omega
    have e := pixA_get (l.set k p) (j / 4) (j % 4) (by simpa using hi) (by omega)
    have e0 := pixA_get l (j / 4) (j % 4) hi (by omega)
    rw [show j / 4 * 4 + j % 4 = j by omega] at e e0
    rw [e]
    by_cases hjk : j / 4 = k
    · subst hjk
      rw [List.getElem_set_self]
      have h4 : j % 4 = 0 ∨ j % 4 = 1 ∨ j % 4 = 2 ∨ j % 4 = 3 := by omega
      rcases h4 with h | h | h | h
      · rw [Array.getElem?_setIfInBounds_ne (by omega), Array.getElem?_setIfInBounds_ne (by omega), Array.getElem?_setIfInBounds_ne (by omega), h, show j / 4 * 4 = j by omega, Array.getElem?_setIfInBounds_self_of_lt (by omega)]; rfl
      · rw [Array.getElem?_setIfInBounds_ne (by omega), Array.getElem?_setIfInBounds_ne (by omega), h, show j / 4 * 4 + 1 = j by omega, Array.getElem?_setIfInBounds_self_of_lt (by simp; omega)]; rfl
      · rw [Array.getElem?_setIfInBounds_ne (by omega), h, show j / 4 * 4 + 2 = j by omega, Array.getElem?_setIfInBounds_self_of_lt (by simp; omega)]; rfl
      · rw [h, show j / 4 * 4 + 3 = j by omega, Array.getElem?_setIfInBounds_self_of_lt (by simp; omega)]; rfl
    · rw [List.getElem_set_ne (fun e => hjk e.symm), Array.getElem?_setIfInBounds_ne (by omega), Array.getElem?_setIfInBounds_ne (by omega), Array.getElem?_setIfInBounds_ne (by omega), Array.getElem?_setIfInBounds_ne (by omega), e0]
  · rw [Array.getElem?_eq_none (by simp; omega), Array.getElem?_eq_none (by rw [pixA_size]; simp; omega)]
theorem Blk.prow {w : World} {b : Nat} {l : List Px} (h : Blk w b 41 (pixA l)) (c : Nat) (hc : l.length ≤ c) (hm : c ≤ maxLen) : PRow w (.slice (some ⟨b, 0, none⟩) l.length c) l := by
  refine ⟨_, c, rfl, hc, hm, (fun h => by cases h), fun _ => ⟨b, 0, rfl, fun i hi => ?_⟩⟩
  have g := fun j hj => (h.cell (i * 4 + j)).trans (pixA_get l i j hi hj)
  refine ⟨?_, ?_, ?_, ?_⟩
  · have := g 0 (by decide); simp only [pxG, Nat.zero_add, Nat.add_zero] at this ⊢; exact this
  · have := g 1 (by decide); simp only [pxG, Nat.zero_add] at this ⊢; exact this
  · have := g 2 (by decide); simp only [pxG, Nat.zero_add] at this ⊢; exact this
  · have := g 3 (by decide); simp only [pxG, Nat.zero_add] at this ⊢; exact this
theorem el_pix : Elem Tryz.prog 34 41 (.agg (pxC (0, 0, 0, 0))) 4 32 := by
  refine ⟨Tryz.underlying34, ?_, rfl, by decide⟩
  exact info_parts (by kernel_rfl)
theorem made_pix (n : Nat) : madeCells (Value.agg (pxC (0, 0, 0, 0))).cells (n * 4) = pixA (List.replicate n (0, 0, 0, 0)) := by
  apply Array.ext_getElem?
  intro j
  have hs := pixA_size (List.replicate n (0, 0, 0, 0))
  have hs2 : (madeCells (Value.agg (pxC (0, 0, 0, 0))).cells (n * 4)).size = n * 4 := by simp [size_madeCells]
  simp only [List.length_replicate] at hs
  by_cases hj : j < n * 4
  · have e := pixA_get (List.replicate n (0, 0, 0, 0)) (j / 4) (j % 4) (by simp; omega) (by omega)
    rw [show j / 4 * 4 + j % 4 = j by omega] at e
    rw [e, Array.getElem?_eq_getElem (by omega)]
    simp only [madeCells, List.getElem_replicate]
    have h4 : j % 4 = 0 ∨ j % 4 = 1 ∨ j % 4 = 2 ∨ j % 4 = 3 := by omega
    have hc : (Value.agg (pxC (0, 0, 0, 0))).cells.size = 4 := rfl
    rcases h4 with h | h | h | h <;> simp [h, Value.cells, pxC, pxG]
  · rw [Array.getElem?_eq_none (by omega), Array.getElem?_eq_none (by omega)]
theorem run_mkpix (n : Nat) (hb : n ≤ 1000000) (w : World) :
    (Instr.makeSlice 34 (.int .i64 (n : Int)) (.int .i64 (n : Int))).run Tryz.prog w = .ok (.slice (some ⟨w.heap.size, 0, none⟩) n n) (w.alloc (.cells (pixA (List.replicate n (0, 0, 0, 0))) 41)) := by
  obtain ⟨ht, ⟨i, hi, hzz, hsz, hby⟩, _, _⟩ := el_pix
  have hr := run_make (P := Tryz.prog) w 34 41 i (.agg (pxC (0, 0, 0, 0))) ht hi hzz .i64 .i64 n n (by omega) (by omega) (by rw [hby]; omega) (by omega)
  rw [hr, Int.toNat_natCast, hsz, made_pix]

def imgC (w h : Nat) (v : Value) : Array Value := #[.int .i64 w, .int .i64 h, v]
def img0 : Array Value := imgC 0 0 (.slice none 0 0)
theorem imgC_inf (w h : Nat) (v : Value) : (Tryz.prog.info? 36).map (·.size) = some (imgC w h v).size := by show _ = some 3; kernel_rfl
theorem imgC_one (w h : Nat) (v : Value) (hv : v.oneCell' = true) : (imgC w h v).all (·.oneCell') = true := by
  unfold Value.oneCell' at hv
  simp [imgC, Value.oneCell']; exact hv
theorem img0_one : img0.all (·.oneCell') = true := imgC_one _ _ _ rfl
theorem img0_inf : (Tryz.prog.info? 36).map (·.size) = some img0.size := imgC_inf _ _ _
theorem ba_size (s : ByteArray) : s.data.toList.length = s.size := by simp
theorem ba_len (l : List UInt8) : (ByteArray.mk l.toArray).size = l.length := by simp [ByteArray.size]
end Go.Proofs.YthbejefodelpkaaGreat
namespace Go.Proofs.YthbejefodelpkaaGreat
open Go.RowKit

/-- The slice value v reads as the bytes l, and its row is full. -/
def Full (w : World) (v : Value) (l : List UInt8) : Prop := ∃ g, v = .slice (some ⟨g, 0, none⟩) l.length l.length ∧ ∀ j (h : j < l.length), w.cell? ⟨g, j, none⟩ = some (.int .u8 (l[j].toNat : Int))
theorem run_app_full {P : Program} {w : World} {base : Nat} {t u ty e : TypeId} (hE : Elem P t e (.int .u8 0) 1 1) (hu : P.underlying u = some .string) {v : Value} {l : List UInt8} (hf : Full w v l) {s : ByteArray} (hs : 1 ≤ s.size) (hlen : l.length + s.size ≤ 140737488355328) (hbase : base ≤ w.heap.size) :
    ∃ v' w', (Builtin.append_ #[t, u] ty #[v, .string s]).run P w = .ok v' w' ∧ BRow w' base e v' (l ++ s.data.toList) ∧ w.grownBy w' none := by
  obtain ⟨g, rfl, hc⟩ := hf
  obtain ⟨ht, ⟨i, hi, hz, hsz, hby⟩, _, _⟩ := hE
  have hr := Lib.run_append_grow_string (P := P) (w := w) t u ty e i (.int .u8 0) ht hu hi hz ⟨g, 0, none⟩ l.length l.length (bcells l) (by rw [hsz, bcells_length]; omega)
    (fun j v hj => by
      have hjl : j < l.length := by have := (List.getElem?_eq_some_iff.1 hj).1; rwa [bcells_length] at this
      rw [bcells_get l j hjl] at hj
      cases hj
      rw [Addr.add_lit]
      simpa using hc j hjl) s (by omega) (by omega) (by rw [hby]; exact growslice_fits (by omega) (by omega))
  refine ⟨_, _, hr, ?_, ⟨rfl, rfl, rfl, by simp, fun k hk _ => Below.heap_alloc w.drew _ k hk⟩⟩
  have hge := grownCap_ge w (l.length + s.size) l.length e
  have hcm : grownCap w (l.length + s.size) l.length e ≤ maxLen := grownCap_le_maxLen w (l.length + s.size) l.length e (by unfold maxLen; omega)
  have hsc : Lib.strCells s = bcells s.data.toList := rfl
  unfold BRow
  rw [List.length_append, ba_size]
  refine ⟨by rw [bcells_length, List.length_append, ba_size]; omega, .inr ⟨w.heap.size, _, _, rfl, hbase, heap_alloc_new w.drew _, hge, hcm, ?_, ?_⟩⟩
  · have hz1 : (Value.int IntKind.u8 0).cells.size = 1 := rfl
    simp only [Array.size_append, List.size_toArray, size_zeroCells, hz1, bcells_length, Lib.strCells_length]
    omega
  · simp only [Array.toList_append, List.append_assoc]
    rw [← List.append_assoc, hsc, ← bcells_append]
    have hll : (l.length + s.size) * 1 = (bcells (l ++ s.data.toList)).length := by rw [bcells_length, List.length_append, ba_size]; omega
    rw [hll]
    exact List.take_left
/-- A row of bytes that is the call's own, or full. -/
def ORow2 (w : World) (base : Nat) (e : TypeId) (v : Value) (l : List UInt8) : Prop := BRow w base e v l ∨ Full w v l
theorem Full.shape {w : World} {v : Value} {l : List UInt8} (h : Full w v l) : ∃ x c, v = .slice x l.length c := by
  obtain ⟨g, rfl, -⟩ := h; exact ⟨_, _, rfl⟩
theorem Full.below {w w' : World} {v : Value} {l : List UInt8} (h : Full w v l) (hb : Below w.heap.size w w') : Full w' v l := by
  obtain ⟨g, rfl, hc⟩ := h
  refine ⟨g, rfl, fun j hj => ?_⟩
  have := hc j hj
  exact (hb.cell (p := ⟨g, j, none⟩) (World.block_lt_of_cell? w _ this)).trans this
theorem ORow2.alloc {w : World} {base : Nat} {e : TypeId} {v : Value} {l : List UInt8} (h : ORow2 w base e v l) (o : Obj) : ORow2 (w.alloc o) base e v l := by
  rcases h with h | h
  · exact .inl (World.ownsRow.alloc h o)
  · exact .inr (h.below ((Below.refl _ _).alloc (Nat.le_refl _) o))
theorem ORow2.shape {w : World} {base : Nat} {e : TypeId} {v : Value} {l : List UInt8} (h : ORow2 w base e v l) : ∃ x c, v = .slice x l.length c := by
  rcases h with h | h
  · rcases h.2 with ⟨rfl, h0⟩ | ⟨g, cap, cur, rfl, _⟩
    · exact ⟨none, 0, by rw [h0]⟩
    · exact ⟨_, _, rfl⟩
  · exact h.shape
theorem run_app2 {P : Program} {w : World} {base : Nat} {t u ty e : TypeId} (hE : Elem P t e (.int .u8 0) 1 1) (hu : P.underlying u = some .string) {v : Value} {l : List UInt8} (hf : ORow2 w base e v l) {s : ByteArray} (hs : 1 ≤ s.size) (hlen : l.length + s.size ≤ 140737488355328) (hbase : base ≤ w.heap.size) :
    ∃ v' w', (Builtin.append_ #[t, u] ty #[v, .string s]).run P w = .ok v' w' ∧ BRow w' base e v' (l ++ s.data.toList) ∧ Below base w w' := by
  rcases hf with hf | hf
  · obtain ⟨ht, ⟨i, hi, hz, hsz, hby⟩, _, _⟩ := hE
    obtain ⟨v', w', hr, h2, h3, h4⟩ := Lib.run_append_own_string (P := P) w base t u ty e i ht hu hi hz hsz hby v l.length (bcells l) hf s (by unfold maxLen; omega) hlen hbase
    refine ⟨v', w', hr, ?_, (Below.refl base w).grown h3 hbase (fun k hk => (World.ownsRow.lt hf k hk).1)⟩
    unfold BRow
    rw [bcells_append, List.length_append]
    exact h2
  · obtain ⟨v', w', hr, h2, h3⟩ := run_app_full (ty := ty) hE hu hf hs hlen hbase
    exact ⟨v', w', hr, h2, (Below.refl base w).grown h3 hbase (fun k hk => by cases hk)⟩
theorem wpList_app2 {P : Program} {w : World} {ops : Array Oper} {rest : List Oper} {o : Oper} {a : Act} {Q : Exit → Act → World → Prop} {sl x : Operand} {t u e : TypeId}
    (hE : Elem P t e (.int .u8 0) 1 1) (hu : P.underlying u = some .string) {base : Nat} {v : Value} {l : List UInt8} (hown : ORow2 w base e v l) (hbase : base ≤ w.heap.size)
    (hgd : o.guard = none) (ho : o.op = .call { callee := .builtin .append, args := #[sl, x], argTypes := #[t, u] }) (hs : a.eval sl = v) {s : ByteArray} (hx : a.eval x = .string s) (h1 : 1 ≤ s.size) (hlen : l.length + s.size ≤ 140737488355328)
    (h : ∀ v' w', BRow w' base e v' (l ++ s.data.toList) → Below base w w' → wpList P ops Q rest (a.put o.dst v') w') : wpList P ops Q (o :: rest) a w := by
  refine wpList_plain hgd fun K hK => ?_
  obtain ⟨v', w', hr, h2, h3⟩ := run_app2 (ty := o.type) hE hu hown h1 hlen hbase
  unfold Oper.wp execOp
  simp only [ho, resolve, invoke, builtin, Sem.run_bind, Sem.run_pure, Result.andThen_ok, List.map_toArray, List.map_cons, List.map_nil, hs, hx, hr]
  exact hK _ _ (h v' w' h2 h3)
theorem step_app2 {P : Program} {w : World} {ops : Array Oper} {o : Oper} {a : Act} {K : Act → World → Prop} {Q : Exit → Act → World → Prop} {E : Prop} {sl x : Operand} {t u e : TypeId}
    (hE : Elem P t e (.int .u8 0) 1 1) (hu : P.underlying u = some .string) {base : Nat} {v : Value} {l : List UInt8} (hown : ORow2 w base e v l) (hbase : base ≤ w.heap.size)
    (hgd : o.guard = none) (ho : o.op = .call { callee := .builtin .append, args := #[sl, x], argTypes := #[t, u] }) (hs : a.eval sl = v) {s : ByteArray} (hx : a.eval x = .string s) (h1 : 1 ≤ s.size) (hlen : l.length + s.size ≤ 140737488355328)
    (h : ∀ v' w', BRow w' base e v' (l ++ s.data.toList) → Below base w w' → K (a.put o.dst v') w') : if Region.wanted o (yielded ops a.tmps) = true then Oper.wp P o a w K Q else E := by
  have hw : Region.wanted o (yielded ops a.tmps) = true := by simp [Region.wanted, hgd]
  rw [if_pos hw]
  obtain ⟨v', w', hr, h2, h3⟩ := run_app2 (ty := o.type) hE hu hown h1 hlen hbase
  unfold Oper.wp execOp
  simp only [ho, resolve, invoke, builtin, Sem.run_bind, Sem.run_pure, Result.andThen_ok, List.map_toArray, List.map_cons, List.map_nil, hs, hx, hr]
  exact h v' w' h2 h3
end Go.Proofs.YthbejefodelpkaaGreat
namespace Go.Proofs.YthbejefodelpkaaGreat
open Go.RowKit

def clampI (x lo hi : Int) : Int := min hi (max x lo)
theorem rclamp_any (x lo hi : Int) (w : World) : Calls Tryz.prog 126 #[.int .i64 x, .int .i64 lo, .int .i64 hi] w fun e w' => e = .returned (.int .i64 (clampI x lo hi)) ∧ w = w' := by
  go_enter Tryz.func126, Tryz.ntmps126
  go_wp2_with fail
  go_ret
  refine ⟨?_, rfl⟩
  show Ending.returned (.int .i64 _) = _
  rfl
def uI (x : Int) : Int := clampI x 0 65535
theorem rU_any (x : Int) (w : World) : Calls Tryz.prog 104 #[.int .i64 x] w fun e w' => e = .returned (.int .i64 (uI x)) ∧ w = w' := by
  have H := Lib.hid (fun w => rclamp_any x 0 65535 w)
  go_enter Tryz.func104, Tryz.ntmps104
  go_wp2_with fail
  refine (H.out _).mono ?_
  rintro e w1 ⟨rfl, rfl⟩
  go_wp2_with fail
  go_ret
  exact ⟨rfl, rfl⟩
def limP (p : Px) : Px := (uI p.1, uI p.2.1, uI p.2.2.1, uI p.2.2.2)
set_option maxHeartbeats 1000000 in
set_option maxRecDepth 100000 in
theorem rLimit_any (p : Px) (w : World) : Calls Tryz.prog 102 #[.agg (pxC p)] w fun e w' => e = .returned (.agg (pxC (limP p))) ∧ Below w.heap.size w w' := by
  obtain ⟨a, b, c, d⟩ := p
  have H := Lib.hid (fun x w => rU_any x w)
  have HL : Hid (limP (a, b, c, d) = (uI a, uI b, uI c, uI d)) := rfl
  unfold pxC
  simp only [limP]
  have e0 : (w.alloc (.cells #[.int .i64 a, .int .i64 b, .int .i64 c, .int .i64 d] 41)).alloc (.cells #[.int .i64 0, .int .i64 0, .int .i64 0, .int .i64 0] 41) = (w.alloc (.cells (pxC (a, b, c, d)) 41)).alloc (.cells (pxC (0, 0, 0, 0)) 41) := rfl
  have h0 := (Blk.new w 41 (pxC (a, b, c, d))).alloc (.cells (pxC (0, 0, 0, 0)) 41)
  have h1 := Blk.new_at (w := w.alloc (.cells (pxC (a, b, c, d)) 41)) (k := w.heap.size + 1) (by simp) 41 (pxC (0, 0, 0, 0))
  have hb := ((Below.refl w.heap.size w).alloc (Nat.le_refl _) (.cells (pxC (a, b, c, d)) 41)).alloc (by simp) (.cells (pxC (0, 0, 0, 0)) 41)
  go_enter Tryz.func102, Tryz.ntmps102
  go_upto_region 1 with fail
  generalize (w.alloc (.cells (pxC (a, b, c, d)) 41)).alloc (.cells (pxC (0, 0, 0, 0)) 41) = wz at *
  clear e0
  have y0 : wz.cell? ⟨w.heap.size, 0, none⟩ = some (.int .i64 a) := h0.cell 0
  have y1 : wz.cell? ⟨w.heap.size, 1, none⟩ = some (.int .i64 b) := h0.cell 1
  have y2 : wz.cell? ⟨w.heap.size, 2, none⟩ = some (.int .i64 c) := h0.cell 2
  have y3 : wz.cell? ⟨w.heap.size, 3, none⟩ = some (.int .i64 d) := h0.cell 3
  have HH1 := Lib.hid h1
  have HBL := Lib.hid hb
  clear h0 h1 hb
  generalize hB : w.heap.size = B at *
  have HB := Lib.hid hB
  clear hB
  go_still_tail 13, (by kernel_rfl)
  have HS : Hid (∀ x w, Calls Tryz.prog 104 #[.int .i64 x] w fun e w' => e = .returned (.int .i64 (uI x)) ∧ w' = w) := fun x w => (H.out x w).mono fun e w' h => ⟨h.1, h.2.symm⟩
  still_call (HS.out _ _)
  repeat still_step
  still_call (HS.out _ _)
  repeat still_step
  still_call (HS.out _ _)
  repeat still_step
  still_call (HS.out _ _)
  repeat still_step
  refine wpStill_nil ?_
  have HH2 : Hid (Blk wz.drew (B + 1) 41 (pxC (0, 0, 0, 0))) := HH1.out
  have HBL2 : Hid (Below B w wz.drew) := HBL.out.drew
  change wpList _ _ _ _ _ wz.drew
  clear y0 y1 y2 y3 HH1 HBL
  generalize wz.drew = wy at *
  refine wpList_store_rowTo rfl 41 (.tmp 2) (.tmp 15) rfl rfl (B + 1) (pxC (limP (a, b, c, d))) (by rfl) (by rfl) 41 (pxC (0, 0, 0, 0)) HH2.out (pxC_inf _) rfl (pxC_one _) ?_
  go_wp2_with fail
  refine bodyPost_ret (v := .agg (pxC (limP (a, b, c, d)))) (results_cell_row rfl _ _ (B + 1) 41 (pxC (limP (a, b, c, d))) (0, 0) _ rfl (HH2.out.rset _) Tryz.underlying41 rfl (pxC_inf _)) rfl ⟨rfl, ?_⟩
  rw [HB.out]
  exact below_rset HBL2.out (by omega) _
/-- A pixel is valid. -/
def valP (p : Px) : Bool := (uI p.1 == p.1) && (uI p.2.1 == p.2.1) && (uI p.2.2.1 == p.2.2.1) && (uI p.2.2.2 == p.2.2.2)
theorem eqPx (p q : Px) (w : World) : (Op.equalIn 10000 41 (.agg (pxC p)) (.agg (pxC q))).run Tryz.prog w = .ok ((p.1 == q.1) && (p.2.1 == q.2.1) && (p.2.2.1 == q.2.2.1) && (p.2.2.2 == q.2.2.2)) w := by
  obtain ⟨a, b, c, d⟩ := p
  obtain ⟨a', b', c', d'⟩ := q
  have u3 := Tryz.underlying3
  have a3 := Tryz.isAgg3
  have z3 := Tryz.sizeOf3
  have hS : Tryz.prog.underlying 41 = some (.struct (Tryz.prog.fieldsOf 41)) := by kernel_rfl
  rw [show (10000 : Nat) = 9999 + 1 from rfl, run_equalIn_agg w 9999 41 _ _ hS (by kernel_rfl)]
  simp only [Program.fieldsOf, Tryz.underlying41, pxC]
  go_simp
  by_cases h1 : a = a' <;> by_cases h2 : b = b' <;> by_cases h3 : c = c' <;> by_cases h4 : d = d' <;> simp [h1, h2, h3, h4]
set_option maxHeartbeats 1000000 in
set_option maxRecDepth 100000 in
theorem rValid_any (p : Px) (w : World) : Calls Tryz.prog 76 #[.agg (pxC p)] w fun e w' => e = .returned (.bool (valP p)) ∧ Below w.heap.size w w' := by
  have HL := Lib.hid (fun w => rLimit_any p w)
  have he := fun w => eqPx (limP p) p w
  change ∀ w, _ = Result.ok (valP p) w at he
  obtain ⟨a, b, c, d⟩ := p
  have h0 := Blk.new w 41 (pxC (a, b, c, d))
  have hb := (Below.refl w.heap.size w).alloc (Nat.le_refl _) (.cells (pxC (a, b, c, d)) 41)
  generalize valP (a, b, c, d) = vp at *
  generalize limP (a, b, c, d) = q at *
  obtain ⟨a', b', c', d'⟩ := q
  unfold pxC at *
  simp only at *
  go_enter Tryz.func76, Tryz.ntmps76
  go_upto_region 1 with fail
  generalize w.alloc (.cells #[.int .i64 a, .int .i64 b, .int .i64 c, .int .i64 d] 41) = wz at *
  have y0 : wz.cell? ⟨w.heap.size, 0, none⟩ = some (.int .i64 a) := h0.cell 0
  have y1 : wz.cell? ⟨w.heap.size, 1, none⟩ = some (.int .i64 b) := h0.cell 1
  have y2 : wz.cell? ⟨w.heap.size, 2, none⟩ = some (.int .i64 c) := h0.cell 2
  have y3 : wz.cell? ⟨w.heap.size, 3, none⟩ = some (.int .i64 d) := h0.cell 3
  have hlt := h0.lt
  have HBL := Lib.hid hb
  clear h0 hb
  generalize hB : w.heap.size = B at *
  have HB := Lib.hid hB
  clear hB
  go_region_with (go_at_call 102; refine (HL.out _).mono ?_; rintro e w9 ⟨rfl, hb9⟩; have y0' : w9.cell? ⟨B, 0, none⟩ = some (.int .i64 a) := (hb9.cell (p := ⟨B, 0, none⟩) hlt).trans y0; have y1' : w9.cell? ⟨B, 1, none⟩ = some (.int .i64 b) := (hb9.cell (p := ⟨B, 1, none⟩) hlt).trans y1; have y2' : w9.cell? ⟨B, 2, none⟩ = some (.int .i64 c) := (hb9.cell (p := ⟨B, 2, none⟩) hlt).trans y2; have y3' : w9.cell? ⟨B, 3, none⟩ = some (.int .i64 d) := (hb9.cell (p := ⟨B, 3, none⟩) hlt).trans y3)
  all_goals
    go_wp2_with fail
    go_ret
    exact ⟨rfl, by rw [HB.out]; exact HBL.out.drew.trans (hb9.mono (by show B ≤ _; exact Nat.le_of_lt hlt))⟩
end Go.Proofs.YthbejefodelpkaaGreat
namespace Go.Proofs.YthbejefodelpkaaGreat
open Go.RowKit

def imgI (W H : Int) (v : Value) : Array Value := #[.int .i64 W, .int .i64 H, v]
/-- The error of an image. -/
def rchk (W H : Int) (px : List Px) : Nat :=
  if W < 0 ∨ 256 < W ∨ H < 0 ∨ 256 < H then 15
  else if (W = 0 ↔ H = 0) ∧ (px.length : Int) = W * H then (if px.all valP = true then 0 else 2) else 15
set_option maxHeartbeats 2000000 in
set_option maxRecDepth 100000 in
theorem rCheckI_any (W H : Int) (v : Value) (px : List Px) (w : World) (hr : PRow w v px) : Calls Tryz.prog 49 #[.agg (imgI W H v)] w fun e w' => e = .returned (.int .i64 (rchk W H px)) ∧ Below w.heap.size w w' := by
  obtain ⟨x, c, rfl, hc1, hc2, hc3, hcell⟩ := id hr
  unfold maxLen at hc2
  unfold imgI
  have h0 := Blk.new w 36 #[.int .i64 W, .int .i64 H, .slice x px.length c]
  have hb := (Below.refl w.heap.size w).alloc (Nat.le_refl _) (.cells #[.int .i64 W, .int .i64 H, .slice x px.length c] 36)
  have hrz := hr.below ((Below.refl w.heap.size w).alloc (Nat.le_refl _) (.cells #[.int .i64 W, .int .i64 H, .slice x px.length c] 36))
  have HRC : Hid (rchk W H px = if W < 0 ∨ 256 < W ∨ H < 0 ∨ 256 < H then 15 else if (W = 0 ↔ H = 0) ∧ (px.length : Int) = W * H then (if px.all valP = true then 0 else 2) else 15) := rfl
  clear hr hcell
  go_enter Tryz.func49, Tryz.ntmps49
  go_upto_region 1 with fail
  generalize w.alloc (.cells #[.int .i64 W, .int .i64 H, .slice x px.length c] 36) = wz at *
  have y0 : wz.cell? ⟨w.heap.size, 0, none⟩ = some (.int .i64 W) := h0.cell 0
  have y1 : wz.cell? ⟨w.heap.size, 1, none⟩ = some (.int .i64 H) := h0.cell 1
  have y2 : wz.cell? ⟨w.heap.size, 2, none⟩ = some (.slice x px.length c) := h0.cell 2
  have HH0 := Lib.hid h0
  have HBL := Lib.hid hb
  have HRZ := Lib.hid hrz
  clear h0 hb hrz
  generalize hB : w.heap.size = B at *
  have HB := Lib.hid hB
  clear hB
  by_cases hW1 : W < 0
  · have d1 : decide (W < 0) = true := by simp; omega
    have HF : Hid (rchk W H px = 15) := by show _ = _; rw [HRC.out, if_pos (by omega)]
    go_wp2_with fail
    go_ret
    exact ⟨by rw [HF.out]; rfl, by rw [HB.out]; exact HBL.out⟩
  have d1 : decide (W < 0) = false := by simp; omega
  by_cases hW2 : 256 < W
  · have d2 : decide (256 < W) = true := by simp; omega
    have HF : Hid (rchk W H px = 15) := by show _ = _; rw [HRC.out, if_pos (by omega)]
    go_wp2_with fail
    go_ret
    exact ⟨by rw [HF.out]; rfl, by rw [HB.out]; exact HBL.out⟩
  have d2 : decide (256 < W) = false := by simp; omega
  by_cases hH1 : H < 0
  · have d3 : decide (H < 0) = true := by simp; omega
    have HF : Hid (rchk W H px = 15) := by show _ = _; rw [HRC.out, if_pos (by omega)]
    go_wp2_with fail
    go_ret
    exact ⟨by rw [HF.out]; rfl, by rw [HB.out]; exact HBL.out⟩
  have d3 : decide (H < 0) = false := by simp; omega
  by_cases hH2 : 256 < H
  · have d4 : decide (256 < H) = true := by simp; omega
    have HF : Hid (rchk W H px = 15) := by show _ = _; rw [HRC.out, if_pos (by omega)]
    go_wp2_with fail
    go_ret
    exact ⟨by rw [HF.out]; rfl, by rw [HB.out]; exact HBL.out⟩
  have d4 : decide (256 < H) = false := by simp; omega
  go_upto_region 3 with fail
  clear d1 d2 d3 d4
  have hR2 : rchk W H px = if (W = 0 ↔ H = 0) ∧ (px.length : Int) = W * H then (if px.all valP = true then 0 else 2) else 15 := by rw [HRC.out, if_neg (by omega)]
  have HR2 := Lib.hid hR2
  clear hR2 HRC
  obtain ⟨M, hM, hM0, hM2⟩ : ∃ M, M = W * H ∧ 0 ≤ M ∧ M ≤ 65536 := by
    refine ⟨_, rfl, Int.mul_nonneg (by omega) (by omega), ?_⟩
    have := Int.mul_le_mul (show W ≤ 256 by omega) (show H ≤ 256 by omega) (by omega) (by omega)
    omega
  have m1 : IntKind.i64.wrap (W * H) = M := by rw [← hM]; exact IntWalk.i64_in _ (by omega)
  rw [← hM] at HR2
  clear hM
  by_cases hz : (W = 0 ↔ H = 0)
  · have e1 : ((W == 0) != (H == 0)) = false := by
      by_cases h : W = 0
      · have h' := hz.1 h; subst h h'; rfl
      · have h' : ¬ H = 0 := fun e => h (hz.2 e)
        rw [beq_false_of_ne h, beq_false_of_ne h']; rfl
    have e1' : (W == 0) = (H == 0) := by
      by_cases h : W = 0
      · have h' := hz.1 h; subst h h'; rfl
      · have h' : ¬ H = 0 := fun e => h (hz.2 e)
        rw [beq_false_of_ne h, beq_false_of_ne h']
    by_cases hl : (px.length : Int) = M
    · have HR3 : Hid (rchk W H px = if px.all valP = true then 0 else 2) := by show _ = _; rw [HR2.out, if_pos ⟨hz, hl⟩]
      subst hl
      have e2 : ((px.length : Int) == (px.length : Int)) = true := by simp
      have hpl : px.length ≤ 65536 := by omega
      clear hz HR2
      go_wp2_with fail
      clear e1 e1' e2 m1 y0 y1
      go_loopw [3] (fun vi wr => ∃ i : Nat, vi = .int .i64 i ∧ i ≤ px.length ∧ Hid (∀ j (h : j < px.length), j < i → valP px[j] = true) ∧ Hid (Below wz.heap.size wz wr)) (fun vi _ => px.length - (intOf vi).toNat)
      case atStart => exact ⟨0, rfl, Nat.zero_le _, (fun j h h2 => absurd h2 (by omega)), Below.refl _ _⟩
      case round =>
        obtain ⟨i, rfl, hi, hch, hbw⟩ := hrel
        have HBW : Hid (Below B w wr) := HBL.out.trans (hbw.out.mono (by have := HH0.out.lt; omega))
        have z2 : wr.cell? ⟨B, 2, none⟩ = some (.slice x px.length c) := (hbw.out.cell (p := ⟨B, 2, none⟩) HH0.out.lt).trans y2
        by_cases hli : i < px.length
        · have hne : px ≠ [] := by rintro rfl; simp at hli
          have hrw := HRZ.out.below hbw.out
          obtain ⟨x', c', hv, -, -, -, hcell'⟩ := hrw
          cases hv
          obtain ⟨b, off, rfl, hcl'⟩ := hcell' hne
          obtain ⟨q1, q2, q3, q4⟩ := hcl' i hli
          clear hcl' hcell'
          have HV := Lib.hid (fun w => rValid_any px[i] w)
          have HOK : Hid (∀ b, valP px[i] = b → b = false → px.all valP = false) := fun b hb hb2 => by
            rw [Bool.eq_false_iff]; intro h
            have := List.all_eq_true.1 h px[i] (List.getElem_mem hli)
            rw [hb, hb2] at this; cases this
          obtain ⟨vp, hvp⟩ : ∃ vp, valP px[i] = vp := ⟨_, rfl⟩
          rw [hvp] at HV
          have HVP := Lib.hid hvp
          clear hvp
          obtain ⟨p, hp⟩ : ∃ p, px[i] = p := ⟨_, rfl⟩
          rw [hp] at q1 q2 q3 q4 HV HOK HVP
          have HP := Lib.hid hp
          clear hp
          unfold pxC at HV
          have hd : decide ((i : Int) < (px.length : Int)) = true := by simp; omega
          have i1 : (i : Int) < (px.length : Int) := by omega
          go_wp2_with fail
          refine (HV.out _).mono ?_
          rintro e w1 ⟨rfl, hb1⟩
          have hbw1 := Lib.hid (hbw.out.trans (hb1.mono hbw.out.size))
          have HBW1 : Hid (Below B w w1) := HBL.out.trans (hbw1.out.mono (by have := HH0.out.lt; omega))
          clear q1 q2 q3 q4 hb1 z2
          cases vp with
          | false =>
            have HF : Hid (rchk W H px = 2) := by show _ = _; rw [HR3.out, HOK.out _ HVP.out rfl]; rfl
            go_wp2_with fail
            go_ret
            exact ⟨by rw [HF.out]; rfl, by rw [HB.out]; exact HBW1.out⟩
          | true =>
            go_wp2_with fail
            go_roundw
            case rel =>
              refine ⟨i + 1, by go_num, by omega, fun j hj hji => ?_, hbw1⟩
              by_cases e : j = i
              · subst e; rw [HP.out]; exact HVP.out
              · exact hch.out j hj (by omega)
            case measure => simp [intOf]; omega
        · have hd : decide ((i : Int) < (px.length : Int)) = false := by simp; omega
          have HF : Hid (rchk W H px = 0) := by
            show _ = _
            rw [HR3.out, if_pos]
            rw [List.all_eq_true]
            intro p hp
            obtain ⟨j, hj, rfl⟩ := List.getElem_of_mem hp
            exact hch.out j hj (by omega)
          go_wp2_with fail
          go_ret
          exact ⟨by rw [HF.out]; rfl, by rw [HB.out]; exact HBW.out⟩
    · have e2 : ((px.length : Int) == M) = false := by simp [hl]
      have HF : Hid (rchk W H px = 15) := by show _ = _; rw [HR2.out, if_neg (fun h => hl h.2)]
      clear hz HR2
      go_wp2_with fail
      go_ret
      exact ⟨by rw [HF.out]; rfl, by rw [HB.out]; exact HBL.out⟩
  · have e1' : (W == 0) = !(H == 0) := by
      by_cases h : W = 0
      · have h' : ¬ H = 0 := fun e => hz ⟨fun _ => e, fun _ => h⟩
        rw [beq_false_of_ne h', h]; rfl
      · have h' : H = 0 := Classical.byContradiction fun e => hz ⟨fun a => absurd a h, fun a => absurd a e⟩
        rw [beq_false_of_ne h, h']; rfl
    have HF : Hid (rchk W H px = 15) := by show _ = _; rw [HR2.out, if_neg (fun h => hz h.1)]
    clear hz HR2
    cases hh : (H == 0) with
    | true =>
      rw [hh] at e1'
      go_wp2_with fail
      go_ret
      exact ⟨by rw [HF.out]; rfl, by rw [HB.out]; exact HBL.out⟩
    | false =>
      rw [hh] at e1'
      go_wp2_with fail
      go_ret
      exact ⟨by rw [HF.out]; rfl, by rw [HB.out]; exact HBL.out⟩
end Go.Proofs.YthbejefodelpkaaGreat
namespace Go.Proofs.YthbejefodelpkaaGreat
open Go.RowKit

theorem pclamp_any (x lo hi : Int) (w : World) : Calls Tryz.prog 57 #[.int .i64 x, .int .i64 lo, .int .i64 hi] w fun e w' => e = .returned (.int .i64 (clampI x lo hi)) ∧ w = w' := by
  go_enter Tryz.func57, Tryz.ntmps57
  go_wp2_with fail
  go_ret
  refine ⟨?_, rfl⟩
  show Ending.returned (.int .i64 _) = _
  rfl
theorem punit_any (x : Int) (w : World) : Calls Tryz.prog 56 #[.int .i64 x] w fun e w' => e = .returned (.int .i64 (uI x)) ∧ w = w' := by
  have H := Lib.hid (fun w => pclamp_any x 0 65535 w)
  go_enter Tryz.func56, Tryz.ntmps56
  go_wp2_with fail
  refine (H.out _).mono ?_
  rintro e w1 ⟨rfl, rfl⟩
  go_wp2_with fail
  go_ret
  exact ⟨rfl, rfl⟩
set_option maxHeartbeats 1000000 in
set_option maxRecDepth 100000 in
theorem plimit_any (p : Px) (w : World) : Calls Tryz.prog 97 #[.agg (pxC p)] w fun e w' => e = .returned (.agg (pxC (limP p))) ∧ Below w.heap.size w w' := by
  obtain ⟨a, b, c, d⟩ := p
  have H := Lib.hid (fun x w => punit_any x w)
  have HL : Hid (limP (a, b, c, d) = (uI a, uI b, uI c, uI d)) := rfl
  unfold pxC
  simp only [limP]
  have e0 : (w.alloc (.cells #[.int .i64 a, .int .i64 b, .int .i64 c, .int .i64 d] 41)).alloc (.cells #[.int .i64 0, .int .i64 0, .int .i64 0, .int .i64 0] 41) = (w.alloc (.cells (pxC (a, b, c, d)) 41)).alloc (.cells (pxC (0, 0, 0, 0)) 41) := rfl
  have h0 := (Blk.new w 41 (pxC (a, b, c, d))).alloc (.cells (pxC (0, 0, 0, 0)) 41)
  have h1 := Blk.new_at (w := w.alloc (.cells (pxC (a, b, c, d)) 41)) (k := w.heap.size + 1) (by simp) 41 (pxC (0, 0, 0, 0))
  have hb := ((Below.refl w.heap.size w).alloc (Nat.le_refl _) (.cells (pxC (a, b, c, d)) 41)).alloc (by simp) (.cells (pxC (0, 0, 0, 0)) 41)
  go_enter Tryz.func97, Tryz.ntmps97
  go_upto_region 1 with fail
  generalize (w.alloc (.cells (pxC (a, b, c, d)) 41)).alloc (.cells (pxC (0, 0, 0, 0)) 41) = wz at *
  clear e0
  have y0 : wz.cell? ⟨w.heap.size, 0, none⟩ = some (.int .i64 a) := h0.cell 0
  have y1 : wz.cell? ⟨w.heap.size, 1, none⟩ = some (.int .i64 b) := h0.cell 1
  have y2 : wz.cell? ⟨w.heap.size, 2, none⟩ = some (.int .i64 c) := h0.cell 2
  have y3 : wz.cell? ⟨w.heap.size, 3, none⟩ = some (.int .i64 d) := h0.cell 3
  have HH1 := Lib.hid h1
  have HBL := Lib.hid hb
  clear h0 h1 hb
  generalize hB : w.heap.size = B at *
  have HB := Lib.hid hB
  clear hB
  go_still_tail 13, (by kernel_rfl)
  have HS : Hid (∀ x w, Calls Tryz.prog 56 #[.int .i64 x] w fun e w' => e = .returned (.int .i64 (uI x)) ∧ w' = w) := fun x w => (H.out x w).mono fun e w' h => ⟨h.1, h.2.symm⟩
  still_call (HS.out _ _)
  repeat still_step
  still_call (HS.out _ _)
  repeat still_step
  still_call (HS.out _ _)
  repeat still_step
  still_call (HS.out _ _)
  repeat still_step
  refine wpStill_nil ?_
  have HH2 : Hid (Blk wz.drew (B + 1) 41 (pxC (0, 0, 0, 0))) := HH1.out
  have HBL2 : Hid (Below B w wz.drew) := HBL.out.drew
  change wpList _ _ _ _ _ wz.drew
  clear y0 y1 y2 y3 HH1 HBL
  generalize wz.drew = wy at *
  refine wpList_store_rowTo rfl 41 (.tmp 2) (.tmp 15) rfl rfl (B + 1) (pxC (limP (a, b, c, d))) (by rfl) (by rfl) 41 (pxC (0, 0, 0, 0)) HH2.out (pxC_inf _) rfl (pxC_one _) ?_
  go_wp2_with fail
  refine bodyPost_ret (v := .agg (pxC (limP (a, b, c, d)))) (results_cell_row rfl _ _ (B + 1) 41 (pxC (limP (a, b, c, d))) (0, 0) _ rfl (HH2.out.rset _) Tryz.underlying41 rfl (pxC_inf _)) rfl ⟨rfl, ?_⟩
  rw [HB.out]
  exact below_rset HBL2.out (by omega) _
theorem valP_sym (p : Px) : ((p.1 == (limP p).1) && (p.2.1 == (limP p).2.1) && (p.2.2.1 == (limP p).2.2.1) && (p.2.2.2 == (limP p).2.2.2)) = valP p := by
  unfold valP limP
  simp only
  rw [Bool.beq_comm (a := p.1), Bool.beq_comm (a := p.2.1), Bool.beq_comm (a := p.2.2.1), Bool.beq_comm (a := p.2.2.2)]
set_option maxHeartbeats 1000000 in
set_option maxRecDepth 100000 in
theorem pvalid_any (p : Px) (w : World) : Calls Tryz.prog 65 #[.agg (pxC p)] w fun e w' => e = .returned (.bool (valP p)) ∧ Below w.heap.size w w' := by
  have HL := Lib.hid (fun w => plimit_any p w)
  have he : ∀ w, _ = Result.ok (valP p) w := fun w => (eqPx p (limP p) w).trans (by rw [valP_sym])
  obtain ⟨a, b, c, d⟩ := p
  have h0 := Blk.new w 41 (pxC (a, b, c, d))
  have hb := (Below.refl w.heap.size w).alloc (Nat.le_refl _) (.cells (pxC (a, b, c, d)) 41)
  generalize valP (a, b, c, d) = vp at *
  generalize limP (a, b, c, d) = q at *
  obtain ⟨a', b', c', d'⟩ := q
  unfold pxC at *
  simp only at *
  go_enter Tryz.func65, Tryz.ntmps65
  go_upto_region 1 with fail
  generalize w.alloc (.cells #[.int .i64 a, .int .i64 b, .int .i64 c, .int .i64 d] 41) = wz at *
  have y0 : wz.cell? ⟨w.heap.size, 0, none⟩ = some (.int .i64 a) := h0.cell 0
  have y1 : wz.cell? ⟨w.heap.size, 1, none⟩ = some (.int .i64 b) := h0.cell 1
  have y2 : wz.cell? ⟨w.heap.size, 2, none⟩ = some (.int .i64 c) := h0.cell 2
  have y3 : wz.cell? ⟨w.heap.size, 3, none⟩ = some (.int .i64 d) := h0.cell 3
  have hlt := h0.lt
  have HBL := Lib.hid hb
  clear h0 hb
  generalize hB : w.heap.size = B at *
  have HB := Lib.hid hB
  clear hB
  go_region_with (go_at_call 97; refine (HL.out _).mono ?_; rintro e w9 ⟨rfl, hb9⟩; have y0' : w9.cell? ⟨B, 0, none⟩ = some (.int .i64 a) := (hb9.cell (p := ⟨B, 0, none⟩) hlt).trans y0; have y1' : w9.cell? ⟨B, 1, none⟩ = some (.int .i64 b) := (hb9.cell (p := ⟨B, 1, none⟩) hlt).trans y1; have y2' : w9.cell? ⟨B, 2, none⟩ = some (.int .i64 c) := (hb9.cell (p := ⟨B, 2, none⟩) hlt).trans y2; have y3' : w9.cell? ⟨B, 3, none⟩ = some (.int .i64 d) := (hb9.cell (p := ⟨B, 3, none⟩) hlt).trans y3)
  all_goals
    go_wp2_with fail
    go_ret
    exact ⟨rfl, by rw [HB.out]; exact HBL.out.drew.trans (hb9.mono (by show B ≤ _; exact Nat.le_of_lt hlt))⟩
def sizedP (W H : Int) : Bool := !(decide (W < 0 ∨ 256 < W ∨ H < 0 ∨ 256 < H)) && ((W == 0) == (H == 0))
theorem psized_any (W H : Int) (w : World) : Calls Tryz.prog 64 #[.int .i64 W, .int .i64 H] w fun e w' => e = .returned (.bool (sizedP W H)) ∧ w = w' := by
  by_cases hW0 : W < 0
  · have d : decide (0 ≤ W) = false := by simp; omega
    have HF : Hid (sizedP W H = false) := by show _ = _; unfold sizedP; rw [decide_eq_true (by omega)]; rfl
    go_enter Tryz.func64, Tryz.ntmps64
    go_wp2_with fail
    go_ret
    exact ⟨by rw [HF.out]; rfl, rfl⟩
  have dW0 : decide (0 ≤ W) = true := by simp; omega
  by_cases h256W : 256 < W
  · have d : decide (W ≤ 256) = false := by simp; omega
    have HF : Hid (sizedP W H = false) := by show _ = _; unfold sizedP; rw [decide_eq_true (by omega)]; rfl
    go_enter Tryz.func64, Tryz.ntmps64
    go_wp2_with fail
    go_ret
    exact ⟨by rw [HF.out]; rfl, rfl⟩
  have d256W : decide (W ≤ 256) = true := by simp; omega
  by_cases hH0 : H < 0
  · have d : decide (0 ≤ H) = false := by simp; omega
    have HF : Hid (sizedP W H = false) := by show _ = _; unfold sizedP; rw [decide_eq_true (by omega)]; rfl
    go_enter Tryz.func64, Tryz.ntmps64
    go_wp2_with fail
    go_ret
    exact ⟨by rw [HF.out]; rfl, rfl⟩
  have dH0 : decide (0 ≤ H) = true := by simp; omega
  by_cases h256H : 256 < H
  · have d : decide (H ≤ 256) = false := by simp; omega
    have HF : Hid (sizedP W H = false) := by show _ = _; unfold sizedP; rw [decide_eq_true (by omega)]; rfl
    go_enter Tryz.func64, Tryz.ntmps64
    go_wp2_with fail
    go_ret
    exact ⟨by rw [HF.out]; rfl, rfl⟩
  have d256H : decide (H ≤ 256) = true := by simp; omega
  have HF : Hid (sizedP W H = ((W == 0) == (H == 0))) := by show _ = _; unfold sizedP; rw [decide_eq_false (by omega)]; rfl
  go_enter Tryz.func64, Tryz.ntmps64
  go_wp2_with fail
  go_ret
  exact ⟨by rw [HF.out]; rfl, rfl⟩
section
variable (x : Int) (w : World)
theorem uI_rng (x : Int) : 0 ≤ uI x ∧ uI x ≤ 65535 := by unfold uI clampI; omega
def to8I (x : Int) : Int := rdI (uI x) 257
theorem to8I_rng (x : Int) : 0 ≤ to8I x ∧ to8I x ≤ 255 := by
  obtain ⟨h1, h2⟩ := uI_rng x
  unfold to8I rdI
  omega
theorem pto8_any : Calls Tryz.prog 24 #[.int .i64 x] w fun e w' => e = .returned (.int .i64 (to8I x)) ∧ w = w' := by
  have H := Lib.hid (fun w => punit_any x w)
  obtain ⟨h1, h2⟩ := uI_rng x
  have H2 := Lib.hid (fun w => divI_any (uI x) 257 w (by omega) (by omega) (by omega) (by omega))
  have HE : Hid (to8I x = rdI (uI x) 257) := rfl
  generalize uI x = u at *
  go_enter Tryz.func24, Tryz.ntmps24
  go_wp2_with fail
  refine (H.out _).mono ?_
  rintro e w1 ⟨rfl, rfl⟩
  go_wp2_with fail
  refine (H2.out _).mono ?_
  rintro e w1 ⟨rfl, rfl⟩
  go_wp2_with fail
  go_ret
  exact ⟨by rw [HE.out]; rfl, rfl⟩
theorem rto8_any : Calls Tryz.prog 79 #[.int .i64 x] w fun e w' => e = .returned (.int .i64 (to8I x)) ∧ ∃ n, w' = w.drewN n := by
  have H := Lib.hid (fun w => rU_any x w)
  obtain ⟨h1, h2⟩ := uI_rng x
  have H2 := Lib.hid (fun w => rdivI_any (uI x) 257 w (by omega) (by omega) (by omega) (by omega))
  have HE : Hid (to8I x = rdI (uI x) 257) := rfl
  generalize uI x = u at *
  go_enter Tryz.func79, Tryz.ntmps79
  go_wp2_with fail
  refine (H.out _).mono ?_
  rintro e w1 ⟨rfl, rfl⟩
  go_wp2_with fail
  refine (H2.out _).mono ?_
  rintro e w1 ⟨rfl, n, rfl⟩
  go_wp2_with fail
  go_ret
  exact ⟨by rw [HE.out]; rfl, n, rfl⟩
end
set_option maxHeartbeats 2000000 in
set_option maxRecDepth 100000 in
theorem pcheckI_any (W H : Int) (v : Value) (px : List Px) (w : World) (hr : PRow w v px) : Calls Tryz.prog 29 #[.agg (imgI W H v)] w fun e w' => e = .returned (.int .i64 (rchk W H px)) ∧ Below w.heap.size w w' := by
  obtain ⟨x, c, rfl, hc1, hc2, hc3, hcell⟩ := id hr
  unfold maxLen at hc2
  unfold imgI
  have h0 := Blk.new w 36 #[.int .i64 W, .int .i64 H, .slice x px.length c]
  have hb := (Below.refl w.heap.size w).alloc (Nat.le_refl _) (.cells #[.int .i64 W, .int .i64 H, .slice x px.length c] 36)
  have hrz := hr.below ((Below.refl w.heap.size w).alloc (Nat.le_refl _) (.cells #[.int .i64 W, .int .i64 H, .slice x px.length c] 36))
  have HRC : Hid (rchk W H px = if W < 0 ∨ 256 < W ∨ H < 0 ∨ 256 < H then 15 else if (W = 0 ↔ H = 0) ∧ (px.length : Int) = W * H then (if px.all valP = true then 0 else 2) else 15) := rfl
  have HSZ := Lib.hid (fun w => psized_any W H w)
  have HSP : Hid (sizedP W H = (!(decide (W < 0 ∨ 256 < W ∨ H < 0 ∨ 256 < H)) && ((W == 0) == (H == 0)))) := rfl
  clear hr hcell
  go_enter Tryz.func29, Tryz.ntmps29
  go_upto_region 1 with fail
  generalize w.alloc (.cells #[.int .i64 W, .int .i64 H, .slice x px.length c] 36) = wz at *
  have y0 : wz.cell? ⟨w.heap.size, 0, none⟩ = some (.int .i64 W) := h0.cell 0
  have y1 : wz.cell? ⟨w.heap.size, 1, none⟩ = some (.int .i64 H) := h0.cell 1
  have y2 : wz.cell? ⟨w.heap.size, 2, none⟩ = some (.slice x px.length c) := h0.cell 2
  have HH0 := Lib.hid h0
  have HBL := Lib.hid hb
  have HRZ := Lib.hid hrz
  clear h0 hb hrz
  generalize hB : w.heap.size = B at *
  have HB := Lib.hid hB
  clear hB
  go_wp2_with fail
  refine (HSZ.out _).mono ?_
  rintro e w1 ⟨rfl, rfl⟩
  clear HSZ
  by_cases hS : W < 0 ∨ 256 < W ∨ H < 0 ∨ 256 < H
  · have hsz : sizedP W H = false := by rw [HSP.out, decide_eq_true hS]; rfl
    have HF : Hid (rchk W H px = 15) := by show _ = _; rw [HRC.out, if_pos hS]
    rw [hsz]
    clear hS hsz
    go_wp2_with fail
    go_ret
    exact ⟨by rw [HF.out]; rfl, by rw [HB.out]; exact HBL.out⟩
  by_cases hz : (W = 0 ↔ H = 0)
  · have e1' : (W == 0) = (H == 0) := by
      by_cases h : W = 0
      · have h' := hz.1 h; subst h h'; rfl
      · have h' : ¬ H = 0 := fun e => h (hz.2 e)
        rw [beq_false_of_ne h, beq_false_of_ne h']
    have hsz : sizedP W H = true := by rw [HSP.out, decide_eq_false hS, e1']; simp
    have hR2 : rchk W H px = if (px.length : Int) = W * H then (if px.all valP = true then 0 else 2) else 15 := by
      rw [HRC.out, if_neg hS]
      by_cases h : (px.length : Int) = W * H
      · rw [if_pos ⟨hz, h⟩, if_pos h]
      · rw [if_neg (fun a => h a.2), if_neg h]
    have HR2 := Lib.hid hR2
    obtain ⟨M, hM, hM0, hM2⟩ : ∃ M, M = W * H ∧ 0 ≤ M ∧ M ≤ 65536 := by
      refine ⟨_, rfl, Int.mul_nonneg (by omega) (by omega), ?_⟩
      have := Int.mul_le_mul (show W ≤ 256 by omega) (show H ≤ 256 by omega) (by omega) (by omega)
      omega
    have m1 : IntKind.i64.wrap (W * H) = M := by rw [← hM]; exact IntWalk.i64_in _ (by omega)
    rw [← hM] at HR2
    rw [hsz]
    clear hM hS hz hsz e1' hR2 HRC HSP
    by_cases hl : (px.length : Int) = M
    · have HR3 : Hid (rchk W H px = if px.all valP = true then 0 else 2) := by show _ = _; rw [HR2.out, if_pos hl]
      subst hl
      have e2 : ((px.length : Int) == (px.length : Int)) = true := by simp
      have hpl : px.length ≤ 65536 := by omega
      clear HR2
      go_wp2_with fail
      clear e2 m1 y0 y1
      go_loopw [25] (fun vi wr => ∃ i : Nat, vi = .int .i64 i ∧ i ≤ px.length ∧ Hid (∀ j (h : j < px.length), j < i → valP px[j] = true) ∧ Hid (Below wz.heap.size wz wr)) (fun vi _ => px.length - (intOf vi).toNat)
      case atStart => exact ⟨0, rfl, Nat.zero_le _, (fun j h h2 => absurd h2 (by omega)), Below.refl _ _⟩
      case round =>
        obtain ⟨i, rfl, hi, hch, hbw⟩ := hrel
        have HBW : Hid (Below B w wr) := HBL.out.trans (hbw.out.mono (by have := HH0.out.lt; omega))
        by_cases hli : i < px.length
        · have hne : px ≠ [] := by rintro rfl; simp at hli
          have hrw := HRZ.out.below hbw.out
          obtain ⟨x', c', hv, -, -, -, hcell'⟩ := hrw
          cases hv
          obtain ⟨b, off, rfl, hcl'⟩ := hcell' hne
          obtain ⟨q1, q2, q3, q4⟩ := hcl' i hli
          clear hcl' hcell'
          have HV := Lib.hid (fun w => pvalid_any px[i] w)
          have HOK : Hid (∀ b, valP px[i] = b → b = false → px.all valP = false) := fun b hb hb2 => by
            rw [Bool.eq_false_iff]; intro h
            have := List.all_eq_true.1 h px[i] (List.getElem_mem hli)
            rw [hb, hb2] at this; cases this
          obtain ⟨vp, hvp⟩ : ∃ vp, valP px[i] = vp := ⟨_, rfl⟩
          rw [hvp] at HV
          have HVP := Lib.hid hvp
          clear hvp
          obtain ⟨p, hp⟩ : ∃ p, px[i] = p := ⟨_, rfl⟩
          rw [hp] at q1 q2 q3 q4 HV HOK HVP
          have HP := Lib.hid hp
          clear hp
          obtain ⟨p0, p1, p2, p3⟩ := p
          unfold pxC at HV
          simp only at q1 q2 q3 q4 HV
          have hd : decide ((i : Int) < (px.length : Int)) = true := by simp; omega
          have i1 : (i : Int) < (px.length : Int) := by omega
          have HBA := Lib.hid (hbw.out.alloc hbw.out.size (.cells #[.int .i64 p0, .int .i64 p1, .int .i64 p2, .int .i64 p3] 41))
          go_wp2_with fail
          refine (HV.out _).mono ?_
          rintro e w1 ⟨rfl, hb1⟩
          have hbw1 := Lib.hid (HBA.out.trans (hb1.mono HBA.out.size))
          have HBW1 : Hid (Below B w w1) := HBL.out.trans (hbw1.out.mono (by have := HH0.out.lt; omega))
          clear q1 q2 q3 q4 hb1
          cases vp with
          | false =>
            have HF : Hid (rchk W H px = 2) := by show _ = _; rw [HR3.out, HOK.out _ HVP.out rfl]; rfl
            go_wp2_with fail
            go_ret
            exact ⟨by rw [HF.out]; rfl, by rw [HB.out]; exact HBW1.out⟩
          | true =>
            go_wp2_with fail
            go_roundw
            case rel =>
              refine ⟨i + 1, by go_num, by omega, fun j hj hji => ?_, hbw1⟩
              by_cases e : j = i
              · subst e; rw [HP.out]; exact HVP.out
              · exact hch.out j hj (by omega)
            case measure => simp [intOf]; omega
        · have hd : decide ((i : Int) < (px.length : Int)) = false := by simp; omega
          have HF : Hid (rchk W H px = 0) := by
            show _ = _
            rw [HR3.out, if_pos]
            rw [List.all_eq_true]
            intro p hp
            obtain ⟨j, hj, rfl⟩ := List.getElem_of_mem hp
            exact hch.out j hj (by omega)
          go_wp2_with fail
          go_ret
          exact ⟨by rw [HF.out]; rfl, by rw [HB.out]; exact HBW.out⟩
    · have e2 : ((px.length : Int) == M) = false := by simp [hl]
      have HF : Hid (rchk W H px = 15) := by show _ = _; rw [HR2.out, if_neg hl]
      clear HR2
      go_wp2_with fail
      go_ret
      exact ⟨by rw [HF.out]; rfl, by rw [HB.out]; exact HBL.out⟩
  · have hne : ((W == 0) == (H == 0)) = false := by
      rw [Bool.eq_false_iff]
      intro h
      have h2 : (W == 0) = (H == 0) := by simpa using h
      apply hz
      constructor
      · intro e; rw [e] at h2; simpa using h2.symm
      · intro e; rw [e] at h2; simpa using h2
    have hsz : sizedP W H = false := by rw [HSP.out, hne]; simp
    have HF : Hid (rchk W H px = 15) := by show _ = _; rw [HRC.out, if_neg hS, if_neg (fun h => hz h.1)]
    rw [hsz]
    clear hS hz hsz hne
    go_wp2_with fail
    go_ret
    exact ⟨by rw [HF.out]; rfl, by rw [HB.out]; exact HBL.out⟩
end Go.Proofs.YthbejefodelpkaaGreat
namespace Go.Proofs.YthbejefodelpkaaGreat
open Go.RowKit

def from8I (x : Int) : Int := 257 * clampI x 0 255
/-- A premultiplied pixel with straight alpha. -/
def straQ (q : Px) : Px := if q.2.2.2 = 0 then (0, 0, 0, 0) else (uI (rdI (q.1 * 65535) q.2.2.2), uI (rdI (q.2.1 * 65535) q.2.2.2), uI (rdI (q.2.2.1 * 65535) q.2.2.2), q.2.2.2)
def straP (p : Px) : Px := straQ (limP p)
theorem from8_any (x : Int) (w : World) : Calls Tryz.prog 25 #[.int .i64 x] w fun e w' => e = .returned (.int .i64 (from8I x)) ∧ w = w' := by
  have H := Lib.hid (fun w => pclamp_any x 0 255 w)
  have HE : Hid (from8I x = 257 * clampI x 0 255) := rfl
  have h1 : 0 ≤ clampI x 0 255 ∧ clampI x 0 255 ≤ 255 := by unfold clampI; omega
  obtain ⟨h1, h2⟩ := h1
  generalize clampI x 0 255 = c at *
  go_enter Tryz.func25, Tryz.ntmps25
  go_wp2_with fail
  refine (H.out _).mono ?_
  rintro e w1 ⟨rfl, rfl⟩
  go_wp2_with fail
  go_ret
  exact ⟨by rw [HE.out]; rfl, rfl⟩
theorem uI_id (x : Int) (h0 : 0 ≤ x) (h1 : x ≤ 65535) : uI x = x := by unfold uI clampI; omega
theorem rdI_nonneg (a b : Int) (ha : 0 ≤ a) (hb : 0 < b) : 0 ≤ rdI a b := by
  unfold rdI
  exact Int.ediv_nonneg (by omega) (by omega)
end Go.Proofs.YthbejefodelpkaaGreat
