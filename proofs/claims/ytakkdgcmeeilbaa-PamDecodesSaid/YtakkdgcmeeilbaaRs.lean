/-
  Plain laws: the words of a header of P7; sorted metadata with an entry more.
-/
import Derived.Test.YtakkdgcmeeilbaaR4
namespace Go.Proofs.Ytakkdgcmeeilbaa
open Go

def wrd : Nat → List UInt8
  | 0 => [87, 73, 68, 84, 72, 32]
  | 1 => [72, 69, 73, 71, 72, 84, 32]
  | 2 => [68, 69, 80, 84, 72, 32]
  | _ => [77, 65, 88, 86, 65, 76, 32]
theorem begP_cons (a c : UInt8) (p l : List UInt8) : begP (a :: p) (c :: l) = ((c == a) && begP p l) := by
  unfold begP
  simp only [List.length_cons, List.take_succ_cons]
  by_cases h : c = a
  · subst h; simp
  · have : (c == a) = false := by simpa using h
    simp [this]
theorem begP_nil (l : List UInt8) : begP [] l = true := by simp [begP]
theorem begW (w line : List UInt8) (h : (32 : UInt8) ∉ w) : begP (w ++ [32]) line = decide (fnd 32 line < line.length ∧ line.take (fnd 32 line) = w) := by
  induction line generalizing w with
  | nil => simp [begP, fnd]
  | cons c l ih =>
    cases w with
    | nil =>
      show begP [32] (c :: l) = _
      rw [begP_cons, begP_nil]
      unfold fnd
      by_cases hc : c = 32
      · rw [if_pos hc, hc]; simp
      · rw [if_neg hc]; simp [hc]
    | cons a w =>
      have hF : fnd 32 (c :: l) = if c = 32 then 0 else fnd 32 l + 1 := rfl
      show begP (a :: (w ++ [32])) (c :: l) = _
      have h2 : (32 : UInt8) ∉ w := fun e => h (List.mem_cons_of_mem _ e)
      have ha : a ≠ 32 := fun e => h (by rw [e]; exact List.mem_cons_self)
      rw [begP_cons, ih w h2, hF]
      by_cases hc : c = 32
      · rw [if_pos hc]
        have : (c == a) = false := by rw [hc]; simpa using fun e => ha e.symm
        simp [this]
      · rw [if_neg hc]
        simp only [List.length_cons, List.take_succ_cons, Nat.add_lt_add_iff_right]
        by_cases hca : c = a
        · subst hca; simp
        · have : (c == a) = false := by simpa using hca
          simp [this, hca]
theorem wix_of {line u : List UInt8} {k : Nat} (hu : u ++ [32] = wrd k) (hi : wIx u = (k : Int)) (h32 : (32 : UInt8) ∉ u) (hb : begP (wrd k) line = true) : numL line = (numP (line.drop (wrd k).length)).map fun n => (k, n) := by
  rw [← hu, begW u line h32] at hb
  have h := of_decide_eq_true hb
  have hl : fnd 32 line = u.length := by
    have := congrArg List.length h.2
    rw [List.length_take] at this; omega
  have e : (wrd k).length = fnd 32 line + 1 := by rw [← hu, hl]; simp
  rw [e]
  unfold numL
  rw [h.2, hi, if_neg (by omega)]
  cases numP (line.drop (fnd 32 line + 1)) <;> rfl
theorem words_split (line : List UInt8) : ∃ ki, ki ≤ 4 ∧ (∀ j, j < 4 → begP (wrd j) line = decide (j = ki)) ∧ (ki = 4 → numL line = none) ∧ (ki < 4 → numL line = (numP (line.drop (wrd ki).length)).map fun n => (ki, n)) := by
  have w0 := begW [87, 73, 68, 84, 72] line (by decide)
  have w1 := begW [72, 69, 73, 71, 72, 84] line (by decide)
  have w2 := begW [68, 69, 80, 84, 72] line (by decide)
  have w3 := begW [77, 65, 88, 86, 65, 76] line (by decide)
  change begP (wrd 0) line = _ at w0
  change begP (wrd 1) line = _ at w1
  change begP (wrd 2) line = _ at w2
  change begP (wrd 3) line = _ at w3
  have four : ∀ ki : Nat, begP (wrd 0) line = decide (0 = ki) → begP (wrd 1) line = decide (1 = ki) → begP (wrd 2) line = decide (2 = ki) → begP (wrd 3) line = decide (3 = ki) → ∀ j, j < 4 → begP (wrd j) line = decide (j = ki) := by
    intro ki h0 h1 h2 h3 j hj
    match j, hj with
    | 0, _ => exact h0
    | 1, _ => exact h1
    | 2, _ => exact h2
    | 3, _ => exact h3
  generalize hu : line.take (fnd 32 line) = u at *
  by_cases hl : fnd 32 line < line.length
  · by_cases h0 : u = [87, 73, 68, 84, 72]
    · subst h0
      refine ⟨0, by decide, four 0 ?_ ?_ ?_ ?_, fun h => absurd h (by decide), fun _ => wix_of (u := [87, 73, 68, 84, 72]) rfl rfl (by decide) ?_⟩
      · rw [w0]; simp [hl]
      · rw [w1]; simp
      · rw [w2]; simp
      · rw [w3]; simp
      · rw [w0]; simp [hl]
    by_cases h1 : u = [72, 69, 73, 71, 72, 84]
    · subst h1
      refine ⟨1, by decide, four 1 ?_ ?_ ?_ ?_, fun h => absurd h (by decide), fun _ => wix_of (u := [72, 69, 73, 71, 72, 84]) rfl rfl (by decide) ?_⟩
      · rw [w0]; simp
      · rw [w1]; simp [hl]
      · rw [w2]; simp
      · rw [w3]; simp
      · rw [w1]; simp [hl]
    by_cases h2 : u = [68, 69, 80, 84, 72]
    · subst h2
      refine ⟨2, by decide, four 2 ?_ ?_ ?_ ?_, fun h => absurd h (by decide), fun _ => wix_of (u := [68, 69, 80, 84, 72]) rfl rfl (by decide) ?_⟩
      · rw [w0]; simp
      · rw [w1]; simp
      · rw [w2]; simp [hl]
      · rw [w3]; simp
      · rw [w2]; simp [hl]
    by_cases h3 : u = [77, 65, 88, 86, 65, 76]
    · subst h3
      refine ⟨3, by decide, four 3 ?_ ?_ ?_ ?_, fun h => absurd h (by decide), fun _ => wix_of (u := [77, 65, 88, 86, 65, 76]) rfl rfl (by decide) ?_⟩
      · rw [w0]; simp
      · rw [w1]; simp
      · rw [w2]; simp
      · rw [w3]; simp [hl]
      · rw [w3]; simp [hl]
    refine ⟨4, by decide, four 4 ?_ ?_ ?_ ?_, fun _ => ?_, fun h => absurd h (by decide)⟩
    · rw [w0]; simp [h0]
    · rw [w1]; simp [h1]
    · rw [w2]; simp [h2]
    · rw [w3]; simp [h3]
    · refine numL_neg ?_
      rw [hu]
      unfold wIx
      rw [if_neg h0, if_neg h1, if_neg h2, if_neg h3]
  · refine ⟨4, by decide, four 4 ?_ ?_ ?_ ?_, fun _ => ?_, fun h => absurd h (by decide)⟩
    · rw [w0]; simp [hl]
    · rw [w1]; simp [hl]
    · rw [w2]; simp [hl]
    · rw [w3]; simp [hl]
    · refine numL_none ?_
      rw [List.drop_of_length_le (by omega)]; rfl

theorem sortM_len (ms : List Mt) (hd : DistK ms) : (sortM ms).length = ms.length := (sortM_perm ms hd).1.length_eq
theorem anyK_perm {a b : List Mt} (h : a.Perm b) (k : List UInt8) : anyK a k = anyK b k := by
  unfold anyK
  rw [Bool.eq_iff_iff, List.any_eq_true, List.any_eq_true]
  constructor
  · rintro ⟨x, hx, hk⟩; exact ⟨x, h.mem_iff.1 hx, hk⟩
  · rintro ⟨x, hx, hk⟩; exact ⟨x, h.mem_iff.2 hx, hk⟩
theorem sort_addP (ms : List Mt) (line : List UInt8) (hd : DistK ms) (hl : ms.length ≤ 16) : sortM (addP ms line) = match entL line with | none => sortM ms | some m => insR (sortM ms) m := by
  unfold addP
  cases entL line with
  | none => rfl
  | some m =>
    simp only [insR]
    rw [sortM_len ms hd, anyK_perm (sortM_perm ms hd).1]
    by_cases h : anyK ms m.1 = true ∨ 16 ≤ ms.length
    · rw [if_pos h, if_pos]
      rcases h with h | h
      · exact .inr h
      · exact .inl (by omega)
    · rw [if_neg h, if_neg]
      · unfold sortM; rw [List.foldl_append]; rfl
      · rintro (e | e)
        · exact h (.inr (by omega))
        · exact h (.inl e)
/-- What the reference's reader of P7 answers. -/
def sevR (l : List UInt8) : Option (Nat × Nat × Nat × Nat × List Mt × List UInt8) := if begP [80, 55, 10] l = true then sevP (l.drop 3) else none
theorem sevR_first (l : List UInt8) : (¬ fnd 10 l < l.length → sevR l = none) ∧ (l.take (fnd 10 l) ≠ [80, 55] → sevR l = none) ∧ (fnd 10 l < l.length → l.take (fnd 10 l) = [80, 55] → fnd 10 l = 2 ∧ sevR l = sevP (l.drop (fnd 10 l + 1))) := by
  have key : begP [80, 55, 10] l = decide (fnd 10 l < l.length ∧ l.take (fnd 10 l) = [80, 55]) := by
    match l with
    | [] => rfl
    | [a] => 
      have : begP [80, 55, 10] [a] = false := by simp [begP]
      rw [this]; unfold fnd; split <;> simp [fnd]
    | [a, b] =>
      have : begP [80, 55, 10] [a, b] = false := by simp [begP]
      rw [this]; simp only [fnd]
      by_cases ha : a = 10
      · simp [ha]
      · by_cases hb : b = 10 <;> simp [ha, hb]
    | a :: b :: c :: r =>
      rw [begP_cons, begP_cons, begP_cons, begP_nil]
      simp only [fnd]
      by_cases ha : a = 10
      · subst ha; simp
      · by_cases hb : b = 10
        · subst hb; simp [ha]
        · by_cases hc : c = 10
          · subst hc; simp [ha, hb]; rfl
          · simp [ha, hb, hc]
  unfold sevR
  rw [key]
  refine ⟨fun h => ?_, fun h => ?_, fun h h2 => ⟨?_, ?_⟩⟩
  · rw [if_neg (by simp [h])]
  · rw [if_neg (by simp [h])]
  · have := congrArg List.length h2
    rw [List.length_take] at this; simp at this; omega
  · have h3 : fnd 10 l = 2 := by
      have := congrArg List.length h2
      rw [List.length_take] at this; simp at this; omega
    rw [if_pos (by simp [h, h2]), h3]
end Go.Proofs.Ytakkdgcmeeilbaa
