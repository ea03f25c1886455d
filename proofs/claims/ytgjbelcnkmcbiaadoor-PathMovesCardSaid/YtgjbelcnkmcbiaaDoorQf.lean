/-
  Plain: the polygons of a path; what a right path is.
-/
import Derived.Test.YtgjbelcnkmcbiaaDoorQe
import Derived.Test.YtgjbelcnkmcbiaaDoorQk
namespace Go.Proofs.YtgjbelcnkmcbiaaDoor
open Go.RowKit

def lastP (q : List Pt) : Pt := q.getLast?.getD (0, 0)
def moveNext : List Sg → Bool
  | [] => true
  | t :: _ => t.1 == 1
def flGo (ps : List (List Pt)) (q : List Pt) : List Sg → List (List Pt)
  | [] => ps
  | s :: r => flGo (if moveNext r = true then ps ++ [if s.1 = 1 then [s.2.1] else bendP q (lastP q) s] else ps) (if s.1 = 1 then [s.2.1] else bendP q (lastP q) s) r
def flP (l : List Sg) : List (List Pt) := flGo [] [] l
theorem push_last (l : List Pt) (q : Pt) : (pushP l q).getLast? = some q := by
  unfold pushP; split
  · assumption
  · simp
theorem rd_mul (x b : Int) (hb : 0 < b) : rdI (b * x) b = x := by
  unfold rdI
  have e : 2 * (b * x) + b = b + (2 * b) * x := by rw [Int.mul_assoc]; omega
  rw [e, Int.add_mul_ediv_left _ _ (by omega), Int.ediv_eq_zero_of_lt (by omega) (by omega)]
  omega
theorem quad_end (a b c : Int) : qdI a b c 8 = c := by
  unfold qdI
  have e : (8 - 8) * (8 - 8) * a + 2 * 8 * (8 - 8) * b + 8 * 8 * c = 64 * c := by omega
  rw [e, rd_mul c 64 (by decide)]
theorem cubic_end (a b c d : Int) : cbI a b c d 16 = d := by
  unfold cbI
  have e : (16 - 16) * (16 - 16) * (16 - 16) * a + 3 * 16 * (16 - 16) * (16 - 16) * b + 3 * 16 * 16 * (16 - 16) * c + 16 * 16 * 16 * d = 4096 * d := by omega
  rw [e, rd_mul d 4096 (by decide)]
theorem quadL_last (l : List Pt) (p a b : Pt) : (quadL l p a b 8).getLast? = some b := by
  rw [quadL_succ, push_last]
  show some (quadPt p a b 8) = _
  unfold quadPt
  rw [quad_end, quad_end]
theorem cubicL_last (l : List Pt) (p a b c : Pt) : (cubicL l p a b c 16).getLast? = some c := by
  rw [cubicL_succ, push_last]
  show some (cubicPt p a b c 16) = _
  unfold cubicPt
  rw [cubic_end, cubic_end]
/-- The current point behind a segment. -/
def curP (p : Pt) (s : Sg) : Pt := if s.1 = 1 then s.2.1 else if s.1 = 2 then s.2.1 else if s.1 = 3 then s.2.2.1 else if s.1 = 4 then s.2.2.2 else p
theorem bend_last (l : List Pt) (p : Pt) (s : Sg) (h1 : s.1 ≠ 1) (hp : l.getLast? = some p) : (bendP l p s).getLast? = some (curP p s) := by
  unfold bendP curP
  rw [if_neg h1]
  by_cases h2 : s.1 = 2
  · rw [if_pos h2, if_pos h2]; exact push_last _ _
  rw [if_neg h2, if_neg h2]
  by_cases h3 : s.1 = 3
  · rw [if_pos h3, if_pos h3]; exact quadL_last _ _ _ _
  rw [if_neg h3, if_neg h3]
  by_cases h4 : s.1 = 4
  · rw [if_pos h4, if_pos h4]; exact cubicL_last _ _ _ _ _
  rw [if_neg h4, if_neg h4, hp]
theorem bend_len (l : List Pt) (p : Pt) (s : Sg) : (bendP l p s).length ≤ l.length + 16 := by
  unfold bendP
  split
  · have := (push_len l s.2.1).1; omega
  · split
    · have := (quadL_len l p s.2.1 s.2.2.1 8).1; omega
    · split
      · exact (cubicL_len l p s.2.1 s.2.2.1 s.2.2.2 16).1
      · omega
def nearP (p : Pt) : Prop := near24 p.1 ∧ near24 p.2
theorem near_of_far {p : Pt} (h : farP p = false) : nearP p := by
  unfold farP at h
  simp at h
  exact ⟨⟨by omega, by omega⟩, ⟨by omega, by omega⟩⟩
theorem far_of_near {p : Pt} (h : nearP p) : farP p = false := by
  obtain ⟨⟨a, b⟩, c, d⟩ := h
  unfold farP
  simp
  omega
theorem near_pts {s : Sg} (h : ptsBad s = false) : nearP s.2.1 ∧ nearP s.2.2.1 ∧ nearP s.2.2.2 := by
  unfold ptsBad badPt at h
  simp only [Bool.or_eq_false_iff] at h
  exact ⟨near_of_far h.1.1.1, near_of_far h.1.2.1, near_of_far h.2.1⟩
/-- A right segment behind q. -/
structure SgOk (q : Option Sg) (s : Sg) : Prop where
  lo : 1 ≤ s.1
  hi : s.1 ≤ 5
  pts : ptsBad s = false
  ord : s.1 = 1 ∨ ∃ p, q = some p ∧ p.1 ≠ 5
theorem sgErr_ok {q : Option Sg} {s : Sg} : sgErr q s = 0 ↔ SgOk q s := by
  unfold sgErr
  constructor
  · intro h
    by_cases h1 : s.1 < 1 ∨ 5 < s.1
    · rw [if_pos h1] at h; cases h
    rw [if_neg h1] at h
    by_cases h2 : ptsBad s = true
    · rw [if_pos h2] at h; cases h
    rw [if_neg h2] at h
    by_cases h3 : s.1 ≠ 1 ∧ isC q = true
    · rw [if_pos h3] at h; cases h
    refine ⟨by omega, by omega, by simpa using h2, ?_⟩
    by_cases h4 : s.1 = 1
    · exact .inl h4
    · right
      cases q with
      | none => exact absurd ⟨h4, rfl⟩ h3
      | some p => exact ⟨p, rfl, fun e => h3 ⟨h4, by simp [isC, e]⟩⟩
  · rintro ⟨h1, h2, h3, h4⟩
    rw [if_neg (by omega), if_neg (by rw [h3]; decide), if_neg]
    rintro ⟨h5, h6⟩
    rcases h4 with h | ⟨p, rfl, h⟩
    · exact h5 h
    · simp [isC] at h6; exact h h6
theorem chkGo_ok {q : Option Sg} {l : List Sg} (h : chkGo q l = 0) : ∀ i (hi : i < l.length), SgOk (if i = 0 then q else l[i - 1]?) l[i] := by
  induction l generalizing q with
  | nil => intro i hi; cases hi
  | cons s r ih =>
    rw [chkGo_cons] at h
    by_cases h0 : sgErr q s = 0
    · rw [if_neg (by simp [h0])] at h
      intro i hi
      cases i with
      | zero => exact sgErr_ok.1 h0
      | succ i =>
        have := ih h i (by simpa using hi)
        rw [if_neg (by omega)]
        cases i with
        | zero => exact this
        | succ i => simpa using this
    · rw [if_pos h0] at h; exact absurd h h0
theorem chkP_ok {l : List Sg} (h : chkP l = 0) : l.length ≤ 128 ∧ ∀ i (hi : i < l.length), SgOk (if i = 0 then none else l[i - 1]?) l[i] := by
  unfold chkP at h
  by_cases h1 : 128 < l.length
  · rw [if_pos h1] at h; cases h
  · rw [if_neg h1] at h; exact ⟨by omega, chkGo_ok h⟩
end Go.Proofs.YtgjbelcnkmcbiaaDoor
