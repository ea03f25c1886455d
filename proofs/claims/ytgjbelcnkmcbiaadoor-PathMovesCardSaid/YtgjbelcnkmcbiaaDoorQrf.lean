/-
  Plain: the polygons as the reference makes them are those of the program.
-/
import Derived.Test.YtgjbelcnkmcbiaaDoorQf
namespace Go.Proofs.YtgjbelcnkmcbiaaDoor
open Go.RowKit

/-- The reference's way: all polygons so far, the current point. -/
def rGo : List (List Pt) → Pt → List Sg → List (List Pt)
  | out, _, [] => out
  | out, p, s :: r => rGo (if s.1 = 1 then out ++ [[s.2.1]] else out.dropLast ++ [bendP (out.getLast?.getD []) p s]) (curP p s) r
theorem rGo_cons (out : List (List Pt)) (p : Pt) (s : Sg) (r : List Sg) : rGo out p (s :: r) = rGo (if s.1 = 1 then out ++ [[s.2.1]] else out.dropLast ++ [bendP (out.getLast?.getD []) p s]) (curP p s) r := rfl
theorem flGo_cons (ps : List (List Pt)) (q : List Pt) (s : Sg) (r : List Sg) :
    flGo ps q (s :: r) = flGo (if moveNext r = true then ps ++ [if s.1 = 1 then [s.2.1] else bendP q (lastP q) s] else ps) (if s.1 = 1 then [s.2.1] else bendP q (lastP q) s) r := rfl
theorem cur_move {p : Pt} {s : Sg} (h : s.1 = 1) : curP p s = s.2.1 := by unfold curP; rw [if_pos h]
theorem rGo_flGo (l : List Sg) :
    (moveNext l = true → ∀ ps p q, rGo ps p l = flGo ps q l) ∧ (moveNext l = false → ∀ ps p q, q.getLast? = some p → rGo (ps ++ [q]) p l = flGo ps q l) := by
  induction l with
  | nil => exact ⟨fun _ _ _ _ => rfl, fun h => by cases h⟩
  | cons s r ih =>
    constructor
    · intro h ps p q
      have hs : s.1 = 1 := by simpa [moveNext] using h
      rw [rGo_cons, flGo_cons, if_pos hs, if_pos hs, cur_move hs]
      cases hm : moveNext r with
      | true => rw [if_pos rfl]; exact ih.1 hm _ _ _
      | false => rw [if_neg (by decide)]; exact ih.2 hm _ _ _ rfl
    · intro h ps p q hq
      have hs : ¬ s.1 = 1 := by simpa [moveNext] using h
      have hl : lastP q = p := by unfold lastP; rw [hq]; rfl
      rw [rGo_cons, flGo_cons, if_neg hs, if_neg hs, hl, List.dropLast_concat, List.getLast?_concat]
      have hb := bend_last q p s hs hq
      cases hm : moveNext r with
      | true => rw [if_pos rfl]; exact ih.1 hm _ _ _
      | false => rw [if_neg (by decide)]; exact ih.2 hm _ _ _ hb
theorem ref_fl {l : List Sg} (h : chkP l = 0) : rGo [] (0, 0) l = flP l := by
  refine (rGo_flGo l).1 ?_ _ _ _
  cases l with
  | nil => rfl
  | cons s r =>
    obtain ⟨-, h2⟩ := chkP_ok h
    have h3 := (h2 0 (by simp)).ord
    rcases h3 with h3 | ⟨p, h4, -⟩
    · simpa [moveNext] using h3
    · cases h4
end Go.Proofs.YtgjbelcnkmcbiaaDoor
