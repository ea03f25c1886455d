/-
  Plain definitions: what the layer pam reads.
-/
import Derived.Test.YtakkdgcmeeilbaaDoorMp
namespace Go.Proofs.YtakkdgcmeeilbaaDoor
open Go

def spc (c : UInt8) : Bool := c == 9 || c == 10 || c == 13 || c == 32
def dig (c : UInt8) : Bool := decide (48 ≤ c.toNat) && decide (c.toNat ≤ 57)
/-- The number with the digits l. -/
def decV : List UInt8 → Nat → Nat
  | [], n => n
  | c :: l, n => decV l (10 * n + (c.toNat - 48))
/-- The number at the beginning, and its digits; zeros if there are more than 9. -/
def numAt (l : List UInt8) : Nat × Nat := if 9 < (l.takeWhile dig).length then (0, 0) else (decV (l.takeWhile dig) 0, (l.takeWhile dig).length)
theorem decV_append (a b : List UInt8) (n : Nat) : decV (a ++ b) n = decV b (decV a n) := by
  induction a generalizing n with
  | nil => rfl
  | cons c a ih => exact ih _
theorem decV_lt (l : List UInt8) (h : l.all dig = true) (n : Nat) : decV l n < (n + 1) * 10 ^ l.length := by
  induction l generalizing n with
  | nil => simp [decV]
  | cons c l ih =>
    simp only [List.all_cons, Bool.and_eq_true] at h
    have h1 := h.1
    simp only [dig, Bool.and_eq_true, decide_eq_true_eq] at h1
    refine Nat.lt_of_lt_of_le (ih h.2 _) ?_
    rw [List.length_cons, Nat.pow_succ', ← Nat.mul_assoc]
    exact Nat.mul_le_mul_right _ (by omega)
theorem tw_end (l : List UInt8) (i : Nat) (hi : i ≤ l.length) (ha : (l.take i).all dig = true) (he : ∀ h : i < l.length, dig l[i] = false) : l.takeWhile dig = l.take i := by
  induction l generalizing i with
  | nil => simp
  | cons c l ih =>
    cases i with
    | zero =>
      have := he (by simp)
      simp only [List.getElem_cons_zero] at this
      simp [this]
    | succ i =>
      simp only [List.take_succ_cons, List.all_cons, Bool.and_eq_true] at ha
      simp only [List.length_cons, Nat.add_le_add_iff_right] at hi
      rw [List.takeWhile_cons, if_pos ha.1, List.take_succ_cons, ih i hi ha.2 (fun h => by have := he (by simp; omega); simpa using this)]
theorem tw_more (l : List UInt8) (i : Nat) (hi : i < l.length) (ha : (l.take i).all dig = true) (he : dig l[i] = true) : i < (l.takeWhile dig).length := by
  induction l generalizing i with
  | nil => simp at hi
  | cons c l ih =>
    cases i with
    | zero => simp only [List.getElem_cons_zero] at he; simp [he]
    | succ i =>
      simp only [List.take_succ_cons, List.all_cons, Bool.and_eq_true] at ha
      simp only [List.length_cons, Nat.add_lt_add_iff_right] at hi
      have := ih i hi ha.2 (by simpa using he)
      rw [List.takeWhile_cons, if_pos ha.1]
      simp; omega
theorem tw_all (l : List UInt8) : (l.takeWhile dig).all dig = true := by
  induction l with
  | nil => rfl
  | cons c l ih =>
    rw [List.takeWhile_cons]
    split
    · simp_all
    · rfl
/-- The number that a text is. -/
def numP (t : List UInt8) : Option Nat := if 1 ≤ t.length ∧ t.length ≤ 9 ∧ t.all dig = true then some (decV t 0) else none
/-- How many bytes stand before the first c. -/
def fnd (c : UInt8) : List UInt8 → Nat
  | [] => 0
  | b :: l => if b = c then 0 else fnd c l + 1
/-- Behind all spaces and comments; none where a comment has no end. -/
def skipF : Nat → List UInt8 → Option (List UInt8)
  | 0, _ => none
  | _ + 1, [] => some []
  | f + 1, c :: l => if spc c then skipF f l else if c = 35 then (if fnd 10 l < l.length then skipF f (l.drop (fnd 10 l + 1)) else none) else some (c :: l)
def skipP (l : List UInt8) : Option (List UInt8) := skipF (l.length + 1) l
end Go.Proofs.YtakkdgcmeeilbaaDoor
