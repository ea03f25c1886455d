/-
  Plain laws: the samples of a file, all in one row; the header by its letters.
-/
import Derived.Test.YtakkdgcmeeilbaaRs
import Derived.Test.YtakkdgcmeeilbaaP10
namespace Go.Proofs.Ytakkdgcmeeilbaa
open Go.RowKit

theorem getD_chunk (size : Nat) (rest : List UInt8) (m i : Nat) (hi : i < size) : (chunk size rest m).getD i 0 = rest.getD (m * size + i) 0 := by
  unfold chunk
  simp [List.getD_eq_getElem?_getD, List.getElem?_take, List.getElem?_drop, hi]
theorem smp_chunk (two : Bool) (D : Nat) (rest : List UInt8) (m j : Nat) (hj : j < D) : smpP two (chunk (D * (if two = true then 2 else 1)) rest m) j = smpP two rest (m * D + j) := by
  cases two with
  | false =>
    simp only [smpP, Bool.false_eq_true, if_false, Nat.mul_one]
    rw [getD_chunk _ _ _ _ hj]
  | true =>
    simp only [smpP, if_true]
    rw [getD_chunk _ _ _ _ (by omega), getD_chunk _ _ _ _ (by omega)]
    have e1 : m * (D * 2) + 2 * j = 2 * (m * D + j) := by rw [Nat.mul_add, ← Nat.mul_assoc, Nat.mul_comm 2 (m * D)]
    have e2 : m * (D * 2) + (2 * j + 1) = 2 * (m * D + j) + 1 := by omega
    rw [e1, e2]
theorem pixOk_iff (two : Bool) (D G N : Nat) (rest : List UInt8) (hD : 1 ≤ D) : pixOk two D G (D * (if two = true then 2 else 1)) N rest = true ↔ ∀ k, k < N * D → smpP two rest k ≤ G := by
  unfold pixOk
  rw [List.all_eq_true]
  constructor
  · intro h k hk
    have hm : k / D < N := Nat.div_lt_of_lt_mul (by rw [Nat.mul_comm]; exact hk)
    have hr : k % D < D := Nat.mod_lt _ (by omega)
    have h2 := h (k / D) (List.mem_range.2 hm)
    unfold okS at h2
    have h3 := List.all_eq_true.1 h2 (k % D) (List.mem_range.2 hr)
    rw [decide_eq_true_eq, smp_chunk two D rest _ _ hr] at h3
    have e : k / D * D + k % D = k := by rw [Nat.mul_comm]; exact Nat.div_add_mod k D
    rwa [e] at h3
  · intro h m hm
    refine okS_all _ _ _ _ fun k hk => ?_
    rw [smp_chunk two D rest _ _ hk]
    refine h _ ?_
    have := List.mem_range.1 hm
    have h2 : (m + 1) * D ≤ N * D := Nat.mul_le_mul_right _ this
    rw [Nat.add_mul, Nat.one_mul] at h2
    omega
/-- The value of sample k of all. -/
def sv (two : Bool) (G : Nat) (rest : List UInt8) (k : Nat) : Int := valS two G rest k
theorem valS_chunk (two : Bool) (D G : Nat) (rest : List UInt8) (m j : Nat) (hj : j < D) : valS two G (chunk (D * (if two = true then 2 else 1)) rest m) j = sv two G rest (m * D + j) := by
  unfold sv valS
  rw [smp_chunk two D rest m j hj]
theorem pxS_1 (two : Bool) (G : Nat) (rest : List UInt8) (m : Nat) : pxS two 1 G (chunk (1 * (if two = true then 2 else 1)) rest m) = (sv two G rest (m * 1), sv two G rest (m * 1), sv two G rest (m * 1), 65535) := by
  have h0 := valS_chunk two 1 G rest m 0 (by decide)
  unfold pxS; rw [if_pos rfl, h0]; rfl
theorem pxS_2 (two : Bool) (G : Nat) (rest : List UInt8) (m : Nat) : pxS two 2 G (chunk (2 * (if two = true then 2 else 1)) rest m) = (sv two G rest (m * 2), sv two G rest (m * 2), sv two G rest (m * 2), sv two G rest (m * 2 + 1)) := by
  have h0 := valS_chunk two 2 G rest m 0 (by decide)
  have h1 := valS_chunk two 2 G rest m 1 (by decide)
  unfold pxS; rw [if_neg (by decide), if_pos rfl, h0, h1]; rfl
theorem pxS_3 (two : Bool) (G : Nat) (rest : List UInt8) (m : Nat) : pxS two 3 G (chunk (3 * (if two = true then 2 else 1)) rest m) = (sv two G rest (m * 3), sv two G rest (m * 3 + 1), sv two G rest (m * 3 + 2), 65535) := by
  have h0 := valS_chunk two 3 G rest m 0 (by decide)
  have h1 := valS_chunk two 3 G rest m 1 (by decide)
  have h2 := valS_chunk two 3 G rest m 2 (by decide)
  unfold pxS; rw [if_neg (by decide), if_neg (by decide), if_pos rfl, h0, h1, h2]; rfl
theorem pxS_4 (two : Bool) (G : Nat) (rest : List UInt8) (m : Nat) : pxS two 4 G (chunk (4 * (if two = true then 2 else 1)) rest m) = (sv two G rest (m * 4), sv two G rest (m * 4 + 1), sv two G rest (m * 4 + 2), sv two G rest (m * 4 + 3)) := by
  have h0 := valS_chunk two 4 G rest m 0 (by decide)
  have h1 := valS_chunk two 4 G rest m 1 (by decide)
  have h2 := valS_chunk two 4 G rest m 2 (by decide)
  have h3 := valS_chunk two 4 G rest m 3 (by decide)
  unfold pxS; rw [if_neg (by decide), if_neg (by decide), if_neg (by decide), h0, h1, h2, h3]; rfl

theorem begP_two (a b : UInt8) (l : List UInt8) : begP [a, b] l = true ↔ 2 ≤ l.length ∧ l.getD 0 0 = a ∧ l.getD 1 0 = b := by
  match l with
  | [] => simp [begP]
  | [x] => simp [begP]
  | x :: y :: r =>
    rw [begP_cons, begP_cons, begP_nil]; simp
theorem head_ref (l : List UInt8) : (begP [80, 55] l = true → headP l = sevR l) ∧
    (begP [80, 55] l = false → begP [80, 53] l = true → headP l = toHd (plainP 1 (l.drop 2)) ∧ l.getD 1 0 = 53 ∧ 2 ≤ l.length) ∧
    (begP [80, 55] l = false → begP [80, 53] l = false → begP [80, 54] l = true → headP l = toHd (plainP 3 (l.drop 2)) ∧ l.getD 1 0 ≠ 53 ∧ 2 ≤ l.length) ∧
    (begP [80, 55] l = false → begP [80, 53] l = false → begP [80, 54] l = false → headP l = none) := by
  have h73 : begP [80, 55, 10] l = true → begP [80, 55] l = true := by
    intro h
    match l, h with
    | [], h => simp [begP] at h
    | [x], h => simp [begP] at h
    | x :: y :: r, h =>
      rw [begP_cons, begP_cons] at h ⊢
      rw [begP_nil]
      simp only [Bool.and_eq_true] at h ⊢
      exact ⟨h.1, h.2.1, trivial⟩
  have hn : begP [80, 55] l = false → begP [80, 55, 10] l = false := by
    intro h
    rw [Bool.eq_false_iff]; intro h'; rw [h73 h'] at h; cases h
  refine ⟨fun h => ?_, fun h h5 => ?_, fun h h5 h6 => ?_, fun h h5 h6 => ?_⟩
  · have a := (begP_two _ _ _).1 h
    have h6 : begP [80, 54] l = false := by
      rw [Bool.eq_false_iff]; intro h'; have b := ((begP_two _ _ _).1 h').2.2; rw [a.2.2] at b; revert b; decide
    have h5 : begP [80, 53] l = false := by
      rw [Bool.eq_false_iff]; intro h'; have b := ((begP_two _ _ _).1 h').2.2; rw [a.2.2] at b; revert b; decide
    unfold headP sevR
    rw [h6, h5]; rfl
  · have a := (begP_two _ _ _).1 h5
    have h6 : begP [80, 54] l = false := by
      rw [Bool.eq_false_iff]; intro h'; have b := ((begP_two _ _ _).1 h').2.2; rw [a.2.2] at b; revert b; decide
    refine ⟨?_, a.2.2, a.1⟩
    unfold headP
    rw [hn h, h6, h5]; rfl
  · have a := (begP_two _ _ _).1 h6
    refine ⟨?_, by rw [a.2.2]; decide, a.1⟩
    unfold headP
    rw [hn h, h6]; rfl
  · unfold headP
    rw [hn h, h6, h5]; rfl
end Go.Proofs.Ytakkdgcmeeilbaa
