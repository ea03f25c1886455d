/-
  Plain: a path that is translated flattens to its polygons translated.
-/
import Derived.Test.YtgjbelcnkmcbiaaDoorRb1
import Derived.Test.YtgjbelcnkmcbiaaDoorQz1
namespace Go.Proofs.YtgjbelcnkmcbiaaDoor
open Go.RowKit

def trP (dx dy : Int) (p : Pt) : Pt := (p.1 + dx, p.2 + dy)
/-- The image of a segment: its kind, the images of the points it uses. -/
def plS (t : Af) (s : Sg) : Sg :=
  (s.1, (if 0 < usedP s.1 then imgP t s.2.1 else (0, 0)), (if 1 < usedP s.1 then imgP t s.2.2.1 else (0, 0)), (if 2 < usedP s.1 then imgP t s.2.2.2 else (0, 0)))
/-- A used point of the segment goes out of range. -/
def plBad (t : Af) (s : Sg) : Bool := (decide (0 < usedP s.1) && farP (imgP t s.2.1)) || (decide (1 < usedP s.1) && farP (imgP t s.2.2.1)) || (decide (2 < usedP s.1) && farP (imgP t s.2.2.2))
def mvA (x y : Int) : Af := ⟨65536, 0, 0, 65536, x * 65536, y * 65536⟩
theorem img_mv (x y : Int) (hx : -1000 ≤ x ∧ x ≤ 1000) (hy : -1000 ≤ y ∧ y ≤ 1000) (p : Pt) (hp : nearP p) : imgP (mvA x y) p = trP (16 * x) (16 * y) p := by
  obtain ⟨a, b⟩ := p
  obtain ⟨⟨a1, a2⟩, b1, b2⟩ := hp
  simp only at a1 a2 b1 b2
  have w1 : wrap64 (4096 * a) = 4096 * a := by unfold wrap64; omega
  have w2 : wrap64 (4096 * b) = 4096 * b := by unfold wrap64; omega
  have f1 : facP 65536 = 65536 := by decide
  have f0 : facP 0 = 0 := by decide
  have e1 : plcP (x * 65536) = x * 65536 := by unfold plcP clP; omega
  have e2 : plcP (y * 65536) = y * 65536 := by unfold plcP clP; omega
  have e3 : plcP (4096 * a) = 4096 * a := by unfold plcP clP; omega
  have e4 : plcP (4096 * b) = 4096 * b := by unfold plcP clP; omega
  have d1 : dotP 65536 (4096 * a) 0 (4096 * b) = 4096 * a := by
    unfold dotP rdI; omega
  have d2 : dotP 0 (4096 * a) 65536 (4096 * b) = 4096 * b := by
    unfold dotP rdI; omega
  have e5 : plcP (4096 * a + x * 65536) = 4096 * (a + 16 * x) := by unfold plcP clP; omega
  have e6 : plcP (4096 * b + y * 65536) = 4096 * (b + 16 * y) := by unfold plcP clP; omega
  unfold imgP apP limP mvA trP
  simp only [w1, w2, f1, f0, e1, e2, e3, e4, d1, d2, e5, e6, rd_mul _ 4096 (by decide : (0:Int) < 4096)]
theorem chk_mv (x y : Int) (hx : -1000 ≤ x ∧ x ≤ 1000) (hy : -1000 ≤ y ∧ y ≤ 1000) : afChk (mvA x y) = 0 := by
  have f1 : facP 65536 = 65536 := by decide
  have f0 : facP 0 = 0 := by decide
  have e1 : plcP (x * 65536) = x * 65536 := by unfold plcP clP; omega
  have e2 : plcP (y * 65536) = y * 65536 := by unfold plcP clP; omega
  unfold afChk
  rw [if_pos]
  unfold limP mvA
  simp only [f1, f0, e1, e2]
theorem tr_inj {dx dy : Int} {p q : Pt} (h : trP dx dy p = trP dx dy q) : p = q := by
  obtain ⟨a, b⟩ := p
  obtain ⟨c, d⟩ := q
  unfold trP at h
  simp only [Prod.mk.injEq] at h ⊢
  omega
theorem push_tr (dx dy : Int) (l : List Pt) (q : Pt) : pushP (l.map (trP dx dy)) (trP dx dy q) = (pushP l q).map (trP dx dy) := by
  unfold pushP
  rw [List.getLast?_map]
  by_cases h : l.getLast? = some q
  · rw [if_pos h, h]; exact if_pos rfl
  · rw [if_neg h, if_neg, List.map_append, List.map_singleton]
    intro h2
    cases hl : l.getLast? with
    | none => rw [hl] at h2; cases h2
    | some z =>
      rw [hl] at h2 h
      simp only [Option.map_some, Option.some.injEq] at h2
      exact h (by rw [tr_inj h2])
theorem rd_add (x b d : Int) (hb : 0 < b) : rdI (x + b * d) b = rdI x b + d := by
  unfold rdI
  have e : 2 * (x + b * d) + b = 2 * x + b + (2 * b) * d := by rw [Int.mul_add, ← Int.mul_assoc]; omega
  rw [e, Int.add_mul_ediv_left _ _ (by omega)]
theorem quad_tr (a b c k d : Int) (h1 : 1 ≤ k) (h8 : k ≤ 8) : qdI (a + d) (b + d) (c + d) k = qdI a b c k + d := by
  unfold qdI
  rw [← rd_add _ 64 d (by decide)]
  congr 1
  rcases (by omega : k = 1 ∨ k = 2 ∨ k = 3 ∨ k = 4 ∨ k = 5 ∨ k = 6 ∨ k = 7 ∨ k = 8) with rfl | rfl | rfl | rfl | rfl | rfl | rfl | rfl
  all_goals omega
theorem cubic_tr (a b c e k d : Int) (h1 : 1 ≤ k) (h8 : k ≤ 16) : cbI (a + d) (b + d) (c + d) (e + d) k = cbI a b c e k + d := by
  unfold cbI
  rw [← rd_add _ 4096 d (by decide)]
  congr 1
  rcases (by omega : k = 1 ∨ k = 2 ∨ k = 3 ∨ k = 4 ∨ k = 5 ∨ k = 6 ∨ k = 7 ∨ k = 8 ∨ k = 9 ∨ k = 10 ∨ k = 11 ∨ k = 12 ∨ k = 13 ∨ k = 14 ∨ k = 15 ∨ k = 16) with rfl | rfl | rfl | rfl | rfl | rfl | rfl | rfl | rfl | rfl | rfl | rfl | rfl | rfl | rfl | rfl
  all_goals omega
theorem quadL_tr (dx dy : Int) (l : List Pt) (p a b : Pt) : ∀ n, n ≤ 8 → quadL (l.map (trP dx dy)) (trP dx dy p) (trP dx dy a) (trP dx dy b) n = (quadL l p a b n).map (trP dx dy)
  | 0, _ => rfl
  | n + 1, hn => by
    rw [quadL_succ, quadL_succ, quadL_tr dx dy l p a b n (by omega), ← push_tr]
    congr 1
    unfold quadPt trP
    simp only
    rw [quad_tr _ _ _ _ _ (by omega) (by omega), quad_tr _ _ _ _ _ (by omega) (by omega)]
theorem cubicL_tr (dx dy : Int) (l : List Pt) (p a b c : Pt) : ∀ n, n ≤ 16 → cubicL (l.map (trP dx dy)) (trP dx dy p) (trP dx dy a) (trP dx dy b) (trP dx dy c) n = (cubicL l p a b c n).map (trP dx dy)
  | 0, _ => rfl
  | n + 1, hn => by
    rw [cubicL_succ, cubicL_succ, cubicL_tr dx dy l p a b c n (by omega), ← push_tr]
    congr 1
    unfold cubicPt trP
    simp only
    rw [cubic_tr _ _ _ _ _ _ (by omega) (by omega), cubic_tr _ _ _ _ _ _ (by omega) (by omega)]
theorem used_vals (k : Int) : (k = 3 → usedP k = 2) ∧ (k = 4 → usedP k = 3) ∧ (k = 5 → usedP k = 0) ∧ (k ≠ 3 → k ≠ 4 → k ≠ 5 → usedP k = 1) := by
  refine ⟨?_, ?_, ?_, ?_⟩
  · rintro rfl; rfl
  · rintro rfl; rfl
  · rintro rfl; rfl
  · intro h1 h2 h3; unfold usedP; rw [if_neg h1, if_neg h2, if_neg h3]
/-- The images of the used points are translations. -/
def TrOn (t : Af) (dx dy : Int) (s : Sg) : Prop := ∀ k, k < usedP s.1 → imgP t (s.pt k) = trP dx dy (s.pt k)
theorem bend_tr {t : Af} {dx dy : Int} {s : Sg} (h : TrOn t dx dy s) (l : List Pt) (p : Pt) : bendP (l.map (trP dx dy)) (trP dx dy p) (plS t s) = (bendP l p s).map (trP dx dy) := by
  obtain ⟨u3, u4, -, u1⟩ := used_vals s.1
  unfold bendP plS
  simp only
  by_cases h2 : s.1 = 2
  · have hu := u1 (by omega) (by omega) (by omega)
    rw [if_pos h2, if_pos h2, if_pos (by omega), show imgP t s.2.1 = _ from h 0 (by omega), push_tr]; rfl
  rw [if_neg h2, if_neg h2]
  by_cases h3 : s.1 = 3
  · have hu := u3 h3
    rw [if_pos h3, if_pos h3, if_pos (by omega), if_pos (by omega), show imgP t s.2.1 = _ from h 0 (by omega), show imgP t s.2.2.1 = _ from h 1 (by omega)]
    exact quadL_tr dx dy l p s.2.1 s.2.2.1 8 (by decide)
  rw [if_neg h3, if_neg h3]
  by_cases h4 : s.1 = 4
  · have hu := u4 h4
    rw [if_pos h4, if_pos h4, if_pos (by omega), if_pos (by omega), if_pos (by omega), show imgP t s.2.1 = _ from h 0 (by omega), show imgP t s.2.2.1 = _ from h 1 (by omega), show imgP t s.2.2.2 = _ from h 2 (by omega)]
    exact cubicL_tr dx dy l p s.2.1 s.2.2.1 s.2.2.2 16 (by decide)
  rw [if_neg h4, if_neg h4]
theorem cur_tr {t : Af} {dx dy : Int} {s : Sg} (h : TrOn t dx dy s) (p : Pt) : curP (trP dx dy p) (plS t s) = trP dx dy (curP p s) := by
  obtain ⟨u3, u4, -, u1⟩ := used_vals s.1
  unfold curP plS
  simp only
  by_cases h1 : s.1 = 1
  · have hu := u1 (by omega) (by omega) (by omega)
    rw [if_pos h1, if_pos h1, if_pos (by omega)]; exact h 0 (by omega)
  rw [if_neg h1, if_neg h1]
  by_cases h2 : s.1 = 2
  · have hu := u1 (by omega) (by omega) (by omega)
    rw [if_pos h2, if_pos h2, if_pos (by omega)]; exact h 0 (by omega)
  rw [if_neg h2, if_neg h2]
  by_cases h3 : s.1 = 3
  · have hu := u3 h3
    rw [if_pos h3, if_pos h3, if_pos (by omega)]; exact h 1 (by omega)
  rw [if_neg h3, if_neg h3]
  by_cases h4 : s.1 = 4
  · have hu := u4 h4
    rw [if_pos h4, if_pos h4, if_pos (by omega)]; exact h 2 (by omega)
  rw [if_neg h4, if_neg h4]
theorem rGo_tr {t : Af} {dx dy : Int} (l : List Sg) (hl : ∀ s ∈ l, TrOn t dx dy s) : ∀ (out : List (List Pt)) (p p' : Pt), (moveNext l = true ∨ p' = trP dx dy p) →
    rGo (out.map (·.map (trP dx dy))) p' (l.map (plS t)) = (rGo out p l).map (·.map (trP dx dy)) := by
  induction l with
  | nil => intro out p p' _; rfl
  | cons s r ih =>
    intro out p p' hc
    have hs := hl s (by simp)
    have ih' := ih (fun z hz => hl z (by simp [hz]))
    rw [List.map_cons, rGo_cons, rGo_cons]
    have e1 : (plS t s).1 = s.1 := rfl
    rw [e1]
    by_cases h1 : s.1 = 1
    · have hu := (used_vals s.1).2.2.2 (by omega) (by omega) (by omega)
      have e2 : (plS t s).2.1 = trP dx dy s.2.1 := by
        show (if 0 < usedP s.1 then _ else _) = _
        rw [if_pos (by omega)]; exact hs 0 (by omega)
      rw [if_pos h1, if_pos h1]
      rw [show curP p' (plS t s) = curP (trP dx dy p) (plS t s) by rw [cur_move (by exact h1), cur_move (by exact h1)], cur_tr hs]
      have := ih' (out ++ [[s.2.1]]) (curP p s) _ (.inr rfl)
      rw [← this, List.map_append, e2]
      rfl
    · have hp : p' = trP dx dy p := by
        rcases hc with hc | hc
        · exact absurd (by simpa [moveNext] using hc) h1
        · exact hc
      rw [if_neg h1, if_neg h1, hp, cur_tr hs]
      have := ih' (out.dropLast ++ [bendP (out.getLast?.getD []) p s]) (curP p s) _ (.inr rfl)
      rw [← this, List.map_append]
      congr 1
      rw [← List.map_dropLast, List.map_singleton, ← bend_tr hs, List.getLast?_map]
      cases out.getLast? <;> rfl
theorem bad_near {t : Af} {s : Sg} (h : plBad t s = false) : ∀ k, k < usedP s.1 → farP (imgP t (s.pt k)) = false := by
  have h3 : usedP s.1 ≤ 3 := by unfold usedP; (repeat' split) <;> omega
  unfold plBad at h
  simp only [Bool.or_eq_false_iff, Bool.and_eq_false_iff, decide_eq_false_iff_not] at h
  intro k hk
  rcases (by omega : k = 0 ∨ k = 1 ∨ k = 2) with rfl | rfl | rfl
  · rcases h.1.1 with h | h
    · omega
    · exact h
  · rcases h.1.2 with h | h
    · omega
    · exact h
  · rcases h.2 with h | h
    · omega
    · exact h
theorem pts_pl {t : Af} {s : Sg} (h : plBad t s = false) : ptsBad (plS t s) = false := by
  have hb := bad_near h
  have f0 : farP (0, 0) = false := by decide
  unfold ptsBad badPt plS
  simp only [Bool.or_eq_false_iff, Bool.and_eq_false_iff, decide_eq_false_iff_not]
  refine ⟨⟨⟨?_, ?_⟩, ?_, ?_⟩, ?_, ?_⟩
  · split
    · exact hb 0 (by assumption)
    · exact f0
  · by_cases hu : 0 < usedP s.1
    · exact .inl (by omega)
    · exact .inr (by rw [if_neg hu]; rfl)
  · split
    · exact hb 1 (by assumption)
    · exact f0
  · by_cases hu : 1 < usedP s.1
    · exact .inl (by omega)
    · exact .inr (by rw [if_neg hu]; rfl)
  · split
    · exact hb 2 (by assumption)
    · exact f0
  · by_cases hu : 2 < usedP s.1
    · exact .inl (by omega)
    · exact .inr (by rw [if_neg hu]; rfl)
theorem chkGo_pl {t : Af} (l : List Sg) (hl : ∀ s ∈ l, plBad t s = false) : ∀ q q' : Option Sg, isC q = isC q' → chkGo q l = 0 → chkGo q' (l.map (plS t)) = 0 := by
  induction l with
  | nil => intro q q' _ _; cases q' <;> rfl
  | cons s r ih =>
    intro q q' hq h
    rw [chkGo_cons] at h
    by_cases h0 : sgErr q s = 0
    · rw [if_neg (by simp [h0])] at h
      have hs := sgErr_ok.1 h0
      rw [List.map_cons, chkGo_cons]
      have h1 : sgErr q' (plS t s) = 0 := by
        have hc := h0
        unfold sgErr at hc ⊢
        have e1 : (plS t s).1 = s.1 := rfl
        rw [e1, pts_pl (hl s (by simp)), ← hq]
        have hlo := hs.lo
        have hhi := hs.hi
        rw [hs.pts] at hc
        exact hc
      rw [if_neg (by simp [h1])]
      exact ih (fun z hz => hl z (by simp [hz])) (some s) (some (plS t s)) rfl h
    · rw [if_pos h0] at h; exact absurd h h0
theorem chk_pl {t : Af} {l : List Sg} (hl : ∀ s ∈ l, plBad t s = false) (h : chkP l = 0) : chkP (l.map (plS t)) = 0 := by
  unfold chkP at h ⊢
  rw [List.length_map]
  by_cases h1 : 128 < l.length
  · rw [if_pos h1] at h; cases h
  · rw [if_neg h1] at h ⊢; exact chkGo_pl l hl none none rfl h
theorem near_seg {l : List Sg} (h : chkP l = 0) : ∀ s ∈ l, ∀ k, nearP (s.pt k) := by
  intro s hs k
  obtain ⟨i, hi, rfl⟩ := List.getElem_of_mem hs
  have hp := near_pts ((chkP_ok h).2 i hi).pts
  unfold Sg.pt
  split
  · exact hp.1
  split
  · exact hp.2.1
  · exact hp.2.2
theorem fl_move (x y : Int) (hx : -1000 ≤ x ∧ x ≤ 1000) (hy : -1000 ≤ y ∧ y ≤ 1000) {l : List Sg} (h : chkP l = 0) (hl : ∀ s ∈ l, plBad (mvA x y) s = false) :
    flP (l.map (plS (mvA x y))) = (flP l).map (·.map (trP (16 * x) (16 * y))) := by
  rw [← ref_fl h, ← ref_fl (chk_pl hl h)]
  exact rGo_tr (t := mvA x y) l (fun s hs k _ => img_mv x y hx hy _ (near_seg h s hs k)) [] (0, 0) _ (.inl (move_first h))
theorem fl_near {l : List Sg} (h : chkP l = 0) : ∀ q ∈ flP l, ∀ p ∈ q, nearP p := by
  intro q hq p hp
  have := (hull h (lo := (-16777216, -16777216)) (hi := (16777216, 16777216)) (fun s hs k _ => by
    obtain ⟨⟨a, b⟩, c, d⟩ := near_seg h s hs k
    exact ⟨⟨a, b⟩, c, d⟩) q hq).inn p hp
  obtain ⟨⟨a, b⟩, c, d⟩ := this
  exact ⟨⟨a, b⟩, c, d⟩
theorem rGo_tot (l : List Sg) : ∀ (out : List (List Pt)) (p : Pt), totP (rGo out p l) ≤ totP out + 16 * l.length ∧ (rGo out p l).length ≤ out.length + l.length := by
  induction l with
  | nil => intro out p; exact ⟨by show totP out ≤ _; simp, by show out.length ≤ _; simp⟩
  | cons s r ih =>
    intro out p
    rw [rGo_cons]
    have key : totP (if s.1 = 1 then out ++ [[s.2.1]] else out.dropLast ++ [bendP (out.getLast?.getD []) p s]) ≤ totP out + 16 ∧ (if s.1 = 1 then out ++ [[s.2.1]] else out.dropLast ++ [bendP (out.getLast?.getD []) p s]).length ≤ out.length + 1 := by
      split
      · unfold totP; simp
      · rcases List.eq_nil_or_concat out with rfl | ⟨a, b, rfl⟩
        · have := bend_len [] p s
          unfold totP
          simp at this ⊢
          omega
        · have := bend_len b p s
          unfold totP
          simp at this ⊢
          omega
    have h2 := ih (if s.1 = 1 then out ++ [[s.2.1]] else out.dropLast ++ [bendP (out.getLast?.getD []) p s]) (curP p s)
    rw [List.length_cons]
    omega
theorem fl_tot {l : List Sg} (h : chkP l = 0) : totP (flP l) ≤ 2048 ∧ (flP l).length ≤ 128 := by
  have h1 := rGo_tot l [] (0, 0)
  have h2 := (chkP_ok h).1
  rw [ref_fl h] at h1
  have h3 : totP [] = 0 := rfl
  simp only [List.length_nil] at h1
  omega
theorem same_img {l : List Sg} (h : chkP l = 0) : l.map (plS (mvA 0 0)) = l ∧ ∀ s ∈ l, plBad (mvA 0 0) s = false := by
  have e : ∀ s ∈ l, ∀ k, imgP (mvA 0 0) (s.pt k) = s.pt k := by
    intro s hs k
    rw [img_mv 0 0 (by decide) (by decide) _ (near_seg h s hs k)]
    unfold trP; simp
  constructor
  · conv => rhs; rw [← List.map_id l]
    refine List.map_congr_left fun s hs => ?_
    have e0 := e s hs 0
    have e1 := e s hs 1
    have e2 := e s hs 2
    obtain ⟨i, hi, hsi⟩ := List.getElem_of_mem hs
    have hp := ((chkP_ok h).2 i hi).pts
    rw [hsi] at hp
    unfold ptsBad badPt at hp
    simp only [Bool.or_eq_false_iff, Bool.and_eq_false_iff, decide_eq_false_iff_not] at hp
    obtain ⟨k, a, b, c⟩ := s
    unfold plS
    simp only [id_eq] at *
    have e0 : imgP (mvA 0 0) a = a := e0
    have e1 : imgP (mvA 0 0) b = b := e1
    have e2 : imgP (mvA 0 0) c = c := e2
    rw [e0, e1, e2]
    have z : ∀ (j : Nat) (q : Pt), (¬ usedP k ≤ j ∨ (q != (0, 0)) = false) → (if j < usedP k then q else (0, 0)) = q := by
      intro j q hq
      split
      · rfl
      · rcases hq with hq | hq
        · omega
        · simp at hq; exact hq.symm
    rw [z 0 a hp.1.1.2, z 1 b hp.1.2.2, z 2 c hp.2.2]
  · intro s hs
    have n := near_seg h s hs
    have n0 := far_of_near (n 0)
    have n1 := far_of_near (n 1)
    have n2 := far_of_near (n 2)
    have e0 : imgP (mvA 0 0) s.2.1 = s.pt 0 := e s hs 0
    have e1 : imgP (mvA 0 0) s.2.2.1 = s.pt 1 := e s hs 1
    have e2 : imgP (mvA 0 0) s.2.2.2 = s.pt 2 := e s hs 2
    unfold plBad
    rw [e0, e1, e2, n0, n1, n2]
    simp
end Go.Proofs.YtgjbelcnkmcbiaaDoor
