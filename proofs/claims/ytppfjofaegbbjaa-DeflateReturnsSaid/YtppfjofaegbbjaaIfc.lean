/-
  Plain laws: canonical codes.
-/
import Derived.Test.YtppfjofaegbbjaaIfp
namespace Go.Proofs.Ytppfjofaegbbjaa

theorem fstC_succ (ls : List Nat) (n : Nat) : fstC ls (n + 1) = 2 * endC ls n := rfl
theorem lngC_le (ls : List Nat) (n : Nat) : lngC ls n ≤ n := by
  induction n with
  | zero => exact Nat.le_refl _
  | succ n ih => unfold lngC; split <;> omega
theorem lngC_above (ls : List Nat) (n m : Nat) (h : lngC ls n < m) (hm : m ≤ n) : cntC ls m = 0 := by
  induction n with
  | zero => omega
  | succ n ih =>
    unfold lngC at h
    split at h
    · rename_i h0
      by_cases hmn : m = n + 1
      · rw [hmn]; exact h0
      · exact ih h (by omega)
    · omega
theorem lngC_pos (ls : List Nat) (n : Nat) (h : 0 < lngC ls n) : 0 < cntC ls (lngC ls n) := by
  induction n with
  | zero => simp [lngC] at h
  | succ n ih =>
    by_cases h0 : cntC ls (n + 1) = 0
    · have e : lngC ls (n + 1) = lngC ls n := by rw [lngC, if_pos h0]
      rw [e] at h ⊢; exact ih h
    · have e : lngC ls (n + 1) = n + 1 := by rw [lngC, if_neg h0]
      rw [e]; omega
theorem lngC_ge (ls : List Nat) (n m : Nat) (hm : m ≤ n) (h : 0 < cntC ls m) : m ≤ lngC ls n := by
  rcases Nat.lt_or_ge (lngC ls n) m with h1 | h1
  · have := lngC_above ls n m h1 hm; omega
  · exact h1
theorem endC_mono (ls : List Nat) (n k : Nat) : endC ls n * 2 ^ k ≤ endC ls (n + k) := by
  induction k with
  | zero => simp
  | succ k ih =>
    have e : endC ls (n + (k + 1)) = 2 * endC ls (n + k) + cntC ls (n + k + 1) := rfl
    rw [e, Nat.pow_succ, ← Nat.mul_assoc]
    omega
theorem endC_fst (ls : List Nat) (n k : Nat) : endC ls n * 2 ^ (k + 1) ≤ fstC ls (n + k + 1) := by
  rw [fstC_succ, Nat.pow_succ, ← Nat.mul_assoc]
  have := endC_mono ls n k
  omega

/-- Bits that are no code are the beginning of one just where the last code says so. -/
theorem begins_iff (ls : List Nat) (n c : Nat) (hn : n ≤ lngC ls 15) (hc : endC ls n ≤ c) :
    (∃ m, n < m ∧ m ≤ 15 ∧ ∃ y, fstC ls m ≤ y ∧ y < endC ls m ∧ y / 2 ^ (m - n) = c) ↔ c * 2 ^ (lngC ls 15 - n) < endC ls (lngC ls 15) := by
  have hl15 := lngC_le ls 15
  constructor
  · rintro ⟨m, h1, h2, y, h3, h4, h5⟩
    have hm : m ≤ lngC ls 15 := lngC_ge ls 15 m h2 (by unfold endC at h4; omega)
    have hy : c * 2 ^ (m - n) ≤ y := by rw [← h5]; exact Nat.div_mul_le_self _ _
    have e : c * 2 ^ (lngC ls 15 - n) = c * 2 ^ (m - n) * 2 ^ (lngC ls 15 - m) := by rw [Nat.mul_assoc, ← Nat.pow_add]; congr 2; omega
    have hmono := endC_mono ls m (lngC ls 15 - m)
    rw [show m + (lngC ls 15 - m) = lngC ls 15 from by omega] at hmono
    rw [e]
    refine Nat.lt_of_lt_of_le ?_ hmono
    exact Nat.mul_lt_mul_of_pos_right (by omega) (Nat.two_pow_pos _)
  · intro h
    generalize hL : lngC ls 15 = L at *
    -- the least length behind n at which the place lies before the end
    have key : ∀ k, n + k ≤ L → c * 2 ^ k < endC ls (n + k) → ∃ m, n < m ∧ m ≤ n + k ∧ fstC ls m ≤ c * 2 ^ (m - n) ∧ c * 2 ^ (m - n) < endC ls m := by
      intro k
      induction k with
      | zero => intro _ h0; simp at h0; omega
      | succ k ih =>
        intro hk hlt
        by_cases h1 : c * 2 ^ k < endC ls (n + k)
        · obtain ⟨m, a, b, d, e⟩ := ih (by omega) h1
          exact ⟨m, a, by omega, d, e⟩
        · refine ⟨n + k + 1, by omega, by omega, ?_, ?_⟩
          · rw [fstC_succ, show n + k + 1 - n = k + 1 from by omega, Nat.pow_succ, ← Nat.mul_assoc]; omega
          · rw [show n + k + 1 - n = k + 1 from by omega]; exact hlt
    obtain ⟨m, a, b, d, e⟩ := key (L - n) (by omega) (by rw [show n + (L - n) = L from by omega]; exact h)
    exact ⟨m, a, by omega, c * 2 ^ (m - n), d, e, Nat.mul_div_cancel _ (Nat.two_pow_pos _)⟩

/-- How many symbols before i have a code of the same length. -/
def rankC (ls : List Nat) (i : Nat) : Nat := (ls.take i).count (ls.getD i 0)
/-- The code of symbol i. -/
def codC (ls : List Nat) (i : Nat) : Nat := fstC ls (ls.getD i 0) + rankC ls i
def upC (ls : List Nat) (n i : Nat) : List Nat := (List.range i).filter fun j => ls.getD j 0 == n
theorem upC_succ (ls : List Nat) (n i : Nat) : upC ls n (i + 1) = upC ls n i ++ (if ls.getD i 0 = n then [i] else []) := by
  unfold upC
  rw [List.range_succ, List.filter_append]
  congr 1
  by_cases h : ls.getD i 0 = n
  · have hb : (ls.getD i 0 == n) = true := by simpa using h
    rw [if_pos h]; simp only [List.filter_cons, hb, if_true, List.filter_nil]
  · have hb : (ls.getD i 0 == n) = false := by simpa using h
    rw [if_neg h]; simp only [List.filter_cons, hb, List.filter_nil]; rfl
theorem upC_length (ls : List Nat) (n i : Nat) (hi : i ≤ ls.length) : (upC ls n i).length = (ls.take i).count n := by
  induction i with
  | zero => simp [upC]
  | succ i ih =>
    rw [upC_succ, List.length_append, ih (by omega), List.take_succ_eq_append_getElem (by omega), List.count_append]
    congr 1
    have e : ls.getD i 0 = ls[i] := by simp [List.getD, show i < ls.length by omega]
    rw [e]
    by_cases h : ls[i] = n
    · simp [h]
    · simp [h]
theorem upC_prefix (ls : List Nat) (n i k : Nat) : ∃ r, upC ls n (i + k) = upC ls n i ++ r := by
  induction k with
  | zero => exact ⟨[], by simp⟩
  | succ k ih =>
    obtain ⟨r, hr⟩ := ih
    exact ⟨r ++ _, by rw [← Nat.add_assoc, upC_succ, hr, List.append_assoc]⟩
theorem symsC_rank (ls : List Nat) (i : Nat) (hi : i < ls.length) : (symsC ls (ls.getD i 0))[rankC ls i]? = some i := by
  have e : symsC ls (ls.getD i 0) = upC ls (ls.getD i 0) (i + 1 + (ls.length - (i + 1))) := by
    rw [show i + 1 + (ls.length - (i + 1)) = ls.length from by omega]; rfl
  obtain ⟨r, hr⟩ := upC_prefix ls (ls.getD i 0) (i + 1) (ls.length - (i + 1))
  rw [e, hr, upC_succ, if_pos rfl, List.append_assoc]
  have hl := upC_length ls (ls.getD i 0) i (by omega)
  unfold rankC
  rw [← hl, List.getElem?_append_right (Nat.le_refl _), Nat.sub_self]
  rfl
theorem symsC_length (ls : List Nat) (n : Nat) (hn : n ≠ 0) : (symsC ls n).length = cntC ls n := by
  have := upC_length ls n ls.length (Nat.le_refl _)
  rw [List.take_length] at this
  unfold cntC
  rw [if_neg hn]
  exact this
theorem symsC_get (ls : List Nat) (n k : Nat) (hn : n ≠ 0) (hk : k < cntC ls n) : (symsC ls n).getD k 0 < ls.length ∧ ls.getD ((symsC ls n).getD k 0) 0 = n ∧ rankC ls ((symsC ls n).getD k 0) = k := by
  have hl := symsC_length ls n hn
  have hk' : k < (symsC ls n).length := by omega
  have e : (symsC ls n).getD k 0 = (symsC ls n)[k] := by simp [List.getD, hk']
  rw [e]
  have hm : (symsC ls n)[k] ∈ symsC ls n := List.getElem_mem hk'
  have hm' := List.mem_filter.1 hm
  have h1 : (symsC ls n)[k] < ls.length := List.mem_range.1 hm'.1
  have h2 : ls.getD (symsC ls n)[k] 0 = n := by simpa using hm'.2
  refine ⟨h1, h2, ?_⟩
  have h3 := symsC_rank ls _ h1
  rw [h2] at h3
  have hnd : (symsC ls n).Pairwise (· ≠ ·) := List.Pairwise.filter _ List.nodup_range
  have h4 : (symsC ls n)[k]? = some (symsC ls n)[k] := List.getElem?_eq_getElem hk'
  have h5 := List.getElem?_eq_some_iff.1 h3
  obtain ⟨h6, h7⟩ := h5
  have hp := List.pairwise_iff_getElem.1 hnd
  rcases Nat.lt_trichotomy (rankC ls (symsC ls n)[k]) k with hlt | heq | hgt
  · exact absurd h7 (hp _ _ h6 hk' hlt)
  · exact heq
  · exact absurd h7.symm (hp _ _ hk' h6 hgt)
theorem rank_lt (ls : List Nat) (i : Nat) (hi : i < ls.length) (h0 : ls.getD i 0 ≠ 0) : rankC ls i < cntC ls (ls.getD i 0) := by
  have h := symsC_rank ls i hi
  rw [← symsC_length ls _ h0]
  exact (List.getElem?_eq_some_iff.1 h).1
theorem cod_lt (ls : List Nat) (i : Nat) (hi : i < ls.length) (h0 : ls.getD i 0 ≠ 0) : codC ls i < endC ls (ls.getD i 0) := by
  have := rank_lt ls i hi h0
  unfold codC endC; omega
theorem cod_inj (ls : List Nat) (i j : Nat) (hi : i < ls.length) (hj : j < ls.length) (h : ls.getD i 0 = ls.getD j 0) (hc : codC ls i = codC ls j) : i = j := by
  have h1 := symsC_rank ls i hi
  have h2 := symsC_rank ls j hj
  unfold codC at hc
  rw [h] at hc
  have hr : rankC ls i = rankC ls j := by omega
  rw [h, hr] at h1
  rw [h1] at h2
  exact Option.some.inj h2
/-- The symbol with a code. -/
theorem cod_find (ls : List Nat) (n c : Nat) (hn : n ≠ 0) (h1 : fstC ls n ≤ c) (h2 : c < endC ls n) :
    (symsC ls n).getD (c - fstC ls n) 0 < ls.length ∧ ls.getD ((symsC ls n).getD (c - fstC ls n) 0) 0 = n ∧ codC ls ((symsC ls n).getD (c - fstC ls n) 0) = c := by
  obtain ⟨a, b, d⟩ := symsC_get ls n (c - fstC ls n) hn (by unfold endC at h2; omega)
  refine ⟨a, b, ?_⟩
  unfold codC
  rw [b, d]; omega
/-- No code is a beginning of another one. -/
theorem cod_prefix (ls : List Nat) (i j : Nat) (hi : i < ls.length) (hj : j < ls.length) (hij : i ≠ j) (h0 : 0 < ls.getD i 0) (hl : ls.getD i 0 ≤ ls.getD j 0) : codC ls j / 2 ^ (ls.getD j 0 - ls.getD i 0) ≠ codC ls i := by
  intro he
  by_cases h : ls.getD i 0 = ls.getD j 0
  · rw [h, Nat.sub_self, Nat.pow_zero, Nat.div_one] at he
    exact hij (cod_inj ls i j hi hj h he.symm)
  · obtain ⟨k, hk⟩ : ∃ k, ls.getD j 0 = ls.getD i 0 + k + 1 := ⟨ls.getD j 0 - ls.getD i 0 - 1, by omega⟩
    have h1 := endC_fst ls (ls.getD i 0) k
    have h2 := cod_lt ls i hi (by omega)
    have h3 : fstC ls (ls.getD j 0) ≤ codC ls j := by unfold codC; omega
    rw [← hk] at h1
    have h4 : endC ls (ls.getD i 0) ≤ codC ls j / 2 ^ (ls.getD j 0 - ls.getD i 0) := by
      rw [Nat.le_div_iff_mul_le (Nat.two_pow_pos _), show ls.getD j 0 - ls.getD i 0 = k + 1 from by omega]
      omega
    omega
end Go.Proofs.Ytppfjofaegbbjaa
