/-
  Plain definitions and lemmas: matches, and how the finder's chains lead to the longest and nearest one.
-/
namespace Go.Proofs.Ytppfjofaegbbjaa

def at8 (s : List UInt8) (i : Nat) : UInt8 := s.getD i 0

/-- How many bytes from p on are those from q on, from the n-th on, at most f more. -/
def cmGo (s : List UInt8) (p q : Nat) : Nat → Nat → Nat
  | 0, n => n
  | f + 1, n => if at8 s (q + n) = at8 s (p + n) then cmGo s p q f (n + 1) else n
def most (s : List UInt8) (p : Nat) : Nat := min 258 (s.length - p)
def cm (s : List UInt8) (p q : Nat) : Nat := cmGo s p q (most s p) 0

theorem cmGo_le (s : List UInt8) (p q f n : Nat) : cmGo s p q f n ≤ n + f := by
  induction f generalizing n with
  | zero => simp [cmGo]
  | succ f ih =>
    unfold cmGo
    split
    · have := ih (n + 1); omega
    · omega
theorem cmGo_ge (s : List UInt8) (p q f n : Nat) : n ≤ cmGo s p q f n := by
  induction f generalizing n with
  | zero => simp [cmGo]
  | succ f ih =>
    unfold cmGo
    split
    · have := ih (n + 1); omega
    · omega
theorem cmGo_eq (s : List UInt8) (p q f n i : Nat) (h0 : n ≤ i) (h : i < cmGo s p q f n) : at8 s (q + i) = at8 s (p + i) := by
  induction f generalizing n with
  | zero => simp [cmGo] at h; omega
  | succ f ih =>
    unfold cmGo at h
    split at h
    · rename_i e
      by_cases hi : i = n
      · subst hi; exact e
      · exact ih (n + 1) (by omega) h
    · omega
theorem cm_le (s : List UInt8) (p q : Nat) : cm s p q ≤ most s p := by
  have := cmGo_le s p q (most s p) 0; unfold cm; omega
theorem cm_eq (s : List UInt8) (p q i : Nat) (h : i < cm s p q) : at8 s (q + i) = at8 s (p + i) := cmGo_eq s p q _ 0 i (Nat.zero_le _) h

/-- The best match among the distances from 1 to k. -/
def mtGo (s : List UInt8) (p : Nat) : Nat → Nat × Nat
  | 0 => (0, 0)
  | k + 1 => if (mtGo s p k).1 < cm s p (p - (k + 1)) then (cm s p (p - (k + 1)), k + 1) else mtGo s p k
def norm3 (x : Nat × Nat) : Nat × Nat := if x.1 < 3 then (0, 0) else x
/-- The length and the distance of the token at p; zeros for a byte. -/
def matchP (s : List UInt8) (p : Nat) : Nat × Nat := norm3 (mtGo s p (min p 4096))

theorem norm3_aux (n a : Nat) (x : Nat × Nat) : norm3 (if x.1 < n then (n, a) else x) = if 3 ≤ n ∧ (norm3 x).1 < n then (n, a) else norm3 x := by
  unfold norm3
  by_cases h1 : x.1 < n <;> by_cases h2 : x.1 < 3 <;> by_cases h3 : n < 3 <;> simp [h1, h2, h3] <;> omega
theorem norm3_step (s : List UInt8) (p k : Nat) : norm3 (mtGo s p (k + 1)) =
    if 3 ≤ cm s p (p - (k + 1)) ∧ (norm3 (mtGo s p k)).1 < cm s p (p - (k + 1)) then (cm s p (p - (k + 1)), k + 1) else norm3 (mtGo s p k) := norm3_aux _ _ _

theorem norm3_skip (s : List UInt8) (p k j : Nat) (h : ∀ d, k < d → d ≤ k + j → cm s p (p - d) < 3) : norm3 (mtGo s p (k + j)) = norm3 (mtGo s p k) := by
  induction j with
  | zero => rfl
  | succ j ih =>
    have h1 := h (k + (j + 1)) (by omega) (Nat.le_refl _)
    rw [← Nat.add_assoc, norm3_step, if_neg (by rw [Nat.add_assoc]; omega)]
    exact ih fun d hd hd' => h d hd (by omega)

theorem mtGo_full (s : List UInt8) (p k j : Nat) (h : (norm3 (mtGo s p k)).1 = most s p) : norm3 (mtGo s p (k + j)) = norm3 (mtGo s p k) := by
  induction j with
  | zero => rfl
  | succ j ih =>
    have h1 := cm_le s p (p - (k + j + 1))
    rw [← Nat.add_assoc, norm3_step, if_neg (by rw [ih, h]; omega)]
    exact ih

theorem mtGo_bound (s : List UInt8) (p k : Nat) : (mtGo s p k).1 ≤ most s p ∧ (mtGo s p k).2 ≤ k ∧ (0 < (mtGo s p k).1 → 0 < (mtGo s p k).2 ∧ (mtGo s p k).1 = cm s p (p - (mtGo s p k).2)) := by
  induction k with
  | zero => simp [mtGo]
  | succ k ih =>
    unfold mtGo
    split
    · exact ⟨cm_le _ _ _, Nat.le_refl _, fun _ => ⟨by simp, rfl⟩⟩
    · exact ⟨ih.1, by omega, ih.2.2⟩

theorem matchP_ok (s : List UInt8) (p : Nat) (h : (matchP s p).1 ≠ 0) : 3 ≤ (matchP s p).1 ∧ (matchP s p).1 ≤ 258 ∧ p + (matchP s p).1 ≤ s.length ∧ 1 ≤ (matchP s p).2 ∧ (matchP s p).2 ≤ 4096 ∧ (matchP s p).2 ≤ p ∧
    ∀ i, i < (matchP s p).1 → at8 s (p - (matchP s p).2 + i) = at8 s (p + i) := by
  have hb := mtGo_bound s p (min p 4096)
  unfold matchP norm3 at h ⊢
  split at h
  · simp at h
  · rename_i h3
    rw [if_neg h3]
    have h4 := hb.2.2 (by omega)
    have h5 := hb.1
    unfold most at h5
    refine ⟨by omega, by omega, by omega, h4.1, by omega, by omega, fun i hi => cm_eq s p _ i (by rw [← h4.2]; exact hi)⟩

/-- The hash of three bytes. -/
def hash3 (s : List UInt8) (p : Nat) : Nat := ((at8 s p).toNat * 1024 ^^^ (at8 s (p + 1)).toNat * 32 ^^^ (at8 s (p + 2)).toNat) % 32768

theorem cm_hash (s : List UInt8) (p q : Nat) (h : 3 ≤ cm s p q) : hash3 s q = hash3 s p := by
  have h0 := cm_eq s p q 0 (by omega)
  have h1 := cm_eq s p q 1 (by omega)
  have h2 := cm_eq s p q 2 (by omega)
  simp only [Nat.add_zero] at h0
  unfold hash3
  rw [h0, h1, h2]

/-- One more than the last place before p with the hash h, or 0. -/
def headP (s : List UInt8) : Nat → Nat → Nat
  | 0, _ => 0
  | p + 1, h => if p + 3 ≤ s.length ∧ hash3 s p = h then p + 1 else headP s p h

theorem headP_le (s : List UInt8) (p h : Nat) : headP s p h ≤ p := by
  induction p with
  | zero => simp [headP]
  | succ p ih => unfold headP; split <;> omega
theorem headP_gap (s : List UInt8) (p h q : Nat) (h0 : headP s p h ≤ q) (h1 : q < p) (h3 : q + 3 ≤ s.length) : hash3 s q ≠ h := by
  induction p with
  | zero => omega
  | succ p ih =>
    unfold headP at h0
    split at h0
    · omega
    · rename_i hn
      by_cases e : q = p
      · subst e; intro hh; exact hn ⟨h3, hh⟩
      · exact ih h0 (by omega)
theorem headP_short (s : List UInt8) (p h : Nat) (hp : ¬ p + 3 ≤ s.length) : headP s (p + 1) h = headP s p h := by
  conv => lhs; unfold headP
  rw [if_neg (fun hh => hp hh.1)]

/-- The step of the search: from the place q0 (all distances up to p - q0 are done) to the next one of the chain. -/
theorem chain_step (s : List UInt8) (p q0 : Nat) (hq : q0 ≤ p) (hp : p + 3 ≤ s.length) :
    norm3 (mtGo s p (min (p - headP s q0 (hash3 s p)) 4096)) = norm3 (mtGo s p (min (p - q0) 4096)) := by
  have hle := headP_le s q0 (hash3 s p)
  have e : min (p - headP s q0 (hash3 s p)) 4096 = min (p - q0) 4096 + (min (p - headP s q0 (hash3 s p)) 4096 - min (p - q0) 4096) := by omega
  rw [e]
  refine norm3_skip s p _ _ fun d hd hd' => ?_
  have hgap := headP_gap s q0 (hash3 s p) (p - d) (by omega) (by omega) (by omega)
  rcases Nat.lt_or_ge (cm s p (p - d)) 3 with h | h
  · exact h
  · exact absurd (cm_hash s p (p - d) h) hgap

theorem headP_hash (s : List UInt8) (p h : Nat) (h0 : 0 < headP s p h) : hash3 s (headP s p h - 1) = h := by
  induction p with
  | zero => simp [headP] at h0
  | succ p ih =>
    unfold headP at h0 ⊢
    split
    · rename_i hc; simpa using hc.2
    · rename_i hc; rw [if_neg hc] at h0; exact ih h0
theorem matchP_short (s : List UInt8) (p : Nat) (h : most s p < 3) : matchP s p = (0, 0) := by
  have := (mtGo_bound s p (min p 4096)).1
  unfold matchP norm3
  rw [if_pos (by omega)]
theorem chain_start (s : List UInt8) (p : Nat) (hp : p + 3 ≤ s.length) : norm3 (mtGo s p (min (p - headP s p (hash3 s p)) 4096)) = (0, 0) := by
  rw [chain_step s p p (Nat.le_refl _) hp]
  simp [mtGo, norm3]
/-- The place q = q1 - 1 is tried: the new best. -/
theorem chain_try (s : List UInt8) (p q1 a b : Nat) (h1 : 0 < q1) (h2 : q1 ≤ p) (hd : p - (q1 - 1) ≤ 4096) (h : (a, b) = norm3 (mtGo s p (min (p - q1) 4096))) :
    norm3 (mtGo s p (min (p - (q1 - 1)) 4096)) = if 3 ≤ cm s p (q1 - 1) ∧ a < cm s p (q1 - 1) then (cm s p (q1 - 1), p - (q1 - 1)) else (a, b) := by
  have e1 : min (p - (q1 - 1)) 4096 = (p - q1) + 1 := by omega
  have e2 : min (p - q1) 4096 = p - q1 := by omega
  have e3 : p - (p - q1 + 1) = q1 - 1 := by omega
  have e4 : p - q1 + 1 = p - (q1 - 1) := by omega
  rw [e2] at h
  rw [e1, norm3_step, e3, ← h, e4]
theorem match_end (s : List UInt8) (p q1 : Nat) (h : q1 = 0 ∨ 4096 < p - (q1 - 1)) (_hq : q1 ≤ p) : norm3 (mtGo s p (min (p - q1) 4096)) = matchP s p := by
  unfold matchP
  congr 2
  omega
theorem match_full (s : List UInt8) (p k a b : Nat) (hk : k ≤ p) (h : (a, b) = norm3 (mtGo s p (min k 4096))) (ha : a = most s p) : (a, b) = matchP s p := by
  have e : min p 4096 = min k 4096 + (min p 4096 - min k 4096) := by omega
  unfold matchP
  rw [e, mtGo_full s p _ _ (by rw [← h]; exact ha)]
  exact h

theorem cmGo_yes (s : List UInt8) (p q M k : Nat) (hk : k < M) (h : at8 s (q + k) = at8 s (p + k)) : cmGo s p q (M - (k + 1)) (k + 1) = cmGo s p q (M - k) k := by
  have e : M - k = (M - (k + 1)) + 1 := by omega
  rw [e]
  conv => rhs; unfold cmGo
  rw [if_pos h]
theorem cmGo_no (s : List UInt8) (p q M k : Nat) (hk : k < M) (h : ¬ at8 s (q + k) = at8 s (p + k)) : cmGo s p q (M - k) k = k := by
  have e : M - k = (M - (k + 1)) + 1 := by omega
  rw [e]
  unfold cmGo
  rw [if_neg h]

end Go.Proofs.Ytppfjofaegbbjaa
