/-
  Plain: how the reference prints and parses, piece by piece.
-/
import Derived.Test.YtgjbelcnkmcbiaaDoorQu
namespace Go.Proofs.YtgjbelcnkmcbiaaDoor
open Go.RowKit

theorem joinP_app (a b : List (List UInt8)) (ha : a ≠ []) (hb : b ≠ []) : joinP (a ++ b) = joinP a ++ 32 :: joinP b := by
  induction a with
  | nil => exact absurd rfl ha
  | cons x r ih =>
    cases r with
    | nil =>
      cases b with
      | nil => exact absurd rfl hb
      | cons y s => rfl
    | cons y r =>
      have h1 := ih (by simp)
      show joinP (x :: y :: (r ++ b)) = joinP (x :: y :: r) ++ 32 :: joinP b
      rw [joinP, joinP]
      have h2 : joinP (y :: (r ++ b)) = joinP (y :: r) ++ 32 :: joinP b := h1
      rw [h2]
      simp
theorem segW_ne (s : Sg) : segW s ≠ [] := by unfold segW; simp
theorem words_ne (l : List Sg) (h : l ≠ []) : wordsP l ≠ [] := by
  cases l with
  | nil => exact absurd rfl h
  | cons s r => unfold wordsP; simp [segW]
theorem words_at (l : List Sg) (i : Nat) (h : i < l.length) : wordsP (l.take (i + 1)) = wordsP (l.take i) ++ segW l[i] := by
  rw [List.take_succ_eq_append_getElem h, words_append]; simp [wordsP]
/-- Segment i behind what is printed. -/
theorem print_at (l : List Sg) (i : Nat) (h : i < l.length) : printP (l.take (i + 1)) = (if 0 < i then printP (l.take i) ++ [32] else printP (l.take i)) ++ joinP (segW l[i]) := by
  unfold printP
  rw [words_at l i h]
  by_cases h0 : 0 < i
  · rw [if_pos h0, joinP_app _ _ (words_ne _ (by intro e; have := congrArg List.length e; simp at this; rcases this with h1 | h1 <;> first | omega | (rw [h1] at h; simp at h))) (segW_ne _)]
    simp
  · have h1 : i = 0 := by omega
    subst h1
    rw [if_neg h0]
    simp [wordsP, joinP]
/-- The words of a segment so far. -/
def segK (s : Sg) (j : Nat) : List (List UInt8) := letP s.1 :: ((nums s).take (2 * j)).map Lib.itoa
theorem segK_zero (s : Sg) : joinP (segK s 0) = letP s.1 := by unfold segK; simp [joinP]
theorem segK_end (s : Sg) : segK s (usedP s.1) = segW s := rfl
theorem segK_succ (s : Sg) (j : Nat) (h : j < 3) : joinP (segK s (j + 1)) = joinP (segK s j) ++ [32] ++ Lib.itoa (s.pt j).1 ++ [32] ++ Lib.itoa (s.pt j).2 := by
  have e : segK s (j + 1) = segK s j ++ [Lib.itoa (s.pt j).1, Lib.itoa (s.pt j).2] := by
    rcases (by omega : j = 0 ∨ j = 1 ∨ j = 2) with rfl | rfl | rfl <;> rfl
  rw [e, joinP_app _ _ (by unfold segK; simp) (by simp)]
  simp [joinP]

/-! ### The next word of a text -/
theorem spl_take (s : List UInt8) : ∀ n, n ≤ s.length → (∀ i (h : i < s.length), i < n → s[i] ≠ 32) → (n = s.length → spl 32 s = [s]) ∧ (∀ h : n < s.length, s[n] = 32 → spl 32 s = s.take n :: spl 32 (s.drop (n + 1))) := by
  induction s with
  | nil => intro n hn _; exact ⟨fun _ => rfl, fun h => absurd h (by simp)⟩
  | cons a r ih =>
    intro n hn hx
    cases n with
    | zero =>
      refine ⟨fun h => by simp at h, fun h h0 => ?_⟩
      have h0 : a = 32 := h0
      conv => lhs; unfold spl
      rw [if_pos h0]; rfl
    | succ n =>
      have ha : ¬ a = 32 := hx 0 (by simp) (by omega)
      obtain ⟨h1, h2⟩ := ih n (by simpa using hn) (fun i h hi => by have := hx (i + 1) (by simpa using h) (by omega); simpa using this)
      constructor
      · intro h
        have h := h1 (by simpa using h)
        conv => lhs; unfold spl
        rw [if_neg ha, h]
      · intro h h0
        have h := h2 (by simpa using h) (by simpa using h0)
        conv => lhs; unfold spl
        rw [if_neg ha, h]; rfl
/-- The words that are left from a place on. -/
def restW (s : List UInt8) (a : Nat) : List (List UInt8) := if a ≤ s.length then spl 32 (s.drop a) else []
theorem rest_at (s : List UInt8) (a e : Nat) (ha : a ≤ e) (he : e ≤ s.length) (hx : ∀ i (h : i < s.length), a ≤ i → i < e → s[i] ≠ 32) (hend : e = s.length ∨ ∃ h : e < s.length, s[e] = 32) :
    restW s a = (s.take e).drop a :: restW s (e + 1) := by
  have hd : (s.take e).drop a = (s.drop a).take (e - a) := by rw [List.drop_take]
  obtain ⟨h1, h2⟩ := spl_take (s.drop a) (e - a) (by simp; omega) (fun i h hi => by
    rw [List.getElem_drop]; exact hx (a + i) (by simp at h; omega) (by omega) (by omega))
  unfold restW
  rw [if_pos (by omega)]
  rcases hend with rfl | ⟨hl, h0⟩
  · rw [h1 (by simp), if_neg (by omega), List.take_length]
  · rw [h2 (by simp; omega) (by rw [List.getElem_drop]; simpa [show a + (e - a) = e by omega] using h0), if_pos (by omega), hd, List.drop_drop]
    congr 3
    omega
/-- The segment's count: what is read and what is missing are its numbers. -/
def RInv (st : PS) : Prop := 0 < st.ms → ∃ (L : List Sg) (z : Sg), st.l = L ++ [z] ∧ st.rd + st.ms = 2 * usedP z.1 ∧ 1 ≤ z.1 ∧ z.1 ≤ 5
theorem kind_le (x : List UInt8) (h : kindP x ≠ 0) : 1 ≤ kindP x ∧ kindP x ≤ 5 := (let_kind x h).2
theorem rinv_step {st st' : PS} {x : List UInt8} (h : RInv st) (hs : psStep st x = .ok st') : RInv st' := by
  unfold psStep at hs
  by_cases h0 : st.ms = 0
  · rw [if_pos h0] at hs
    by_cases hk : kindP x = 0
    · rw [if_pos hk] at hs; cases hs
    · rw [if_neg hk] at hs
      injection hs with hs
      subst hs
      intro hm
      exact ⟨st.l, zeroSg (kindP x), rfl, by simp [zeroSg], kind_le x hk⟩
  · rw [if_neg h0] at hs
    obtain ⟨L, z, hl, hr, hz⟩ := h (by omega)
    cases hn : numP x with
    | none => rw [hn] at hs; cases hs
    | some v =>
      rw [hn] at hs
      simp only at hs
      injection hs with hs
      subst hs
      intro hm
      refine ⟨L, putN z st.rd v, by simp [hl], ?_, by rw [putN_kind]; exact hz⟩
      simp only at hm ⊢
      rw [putN_kind]; omega
theorem fold_err (m : List (List UInt8)) (e : Nat) : m.foldl psF (.error e) = .error e := by
  induction m with
  | nil => rfl
  | cons x r ih => exact ih
theorem rinv_fold : ∀ (m : List (List UInt8)) {st0 st : PS}, RInv st0 → m.foldl psF (.ok st0) = .ok st → RInv st
  | [], st0, st, h0, h => by injection h with h; subst h; exact h0
  | x :: r, st0, st, h0, h => by
    rw [List.foldl_cons] at h
    cases hs : psStep st0 x with
    | error e =>
      rw [show psF (.ok st0) x = .error e from hs, fold_err] at h
      cases h
    | ok s1 =>
      rw [show psF (.ok st0) x = .ok s1 from hs] at h
      exact rinv_fold r (rinv_step h0 hs) h
theorem rinv_run {pre : List (List UInt8)} {st : PS} (h : psRun pre = .ok st) : RInv st :=
  rinv_fold pre (st0 := ⟨[], 0, 0, 0⟩) (fun hm => absurd hm (by decide)) h
end Go.Proofs.YtgjbelcnkmcbiaaDoor
