/-
  Plain law: blanks, comments and writing the tokens anew change only the places.
-/
import Derived.Test.YtalbmipncoohdaaX17
namespace Go.Proofs.Ytalbmipncoohdaa

/-- A byte that ends every token. -/
def sepC (x : UInt8) : Prop := x.toNat = 10 ∨ x.toNat = 32

theorem sep_dig {x : UInt8} (h : sepC x) : dig x = false := by
  rcases h with h | h <;> simp [dig, h]
theorem sep_let {x : UInt8} (h : sepC x) : let8 x = false := by
  rcases h with h | h <;> simp [let8, h]
theorem sep_two {x : UInt8} (h : sepC x) (c : UInt8) : [c, x] ∉ twos := by
  have hx : x = 10 ∨ x = 32 := by
    rcases h with h | h
    · exact .inl (UInt8.toNat_inj.1 h)
    · exact .inr (UInt8.toNat_inj.1 h)
  rcases hx with rfl | rfl <;> simp [twos, bytes]

theorem runN_sep (p : UInt8 → Bool) (u : List UInt8) (x : UInt8) (r : List UInt8) (hx : p x = false) : runN p (u ++ x :: r) = runN p u := by
  induction u with
  | nil => simp [runN, hx]
  | cons c u ih => simp only [List.cons_append, runN, ih]
theorem numR_sep (v : Nat) (u : List UInt8) (x : UInt8) (r : List UInt8) (hx : dig x = false) : numR v (u ++ x :: r) = numR v u := by
  induction u generalizing v with
  | nil => simp [numR, hx]
  | cons c u ih => simp only [List.cons_append, numR, ih]
theorem quoR_more (u : List UInt8) (v : List UInt8) (n : Nat) (r : List UInt8) (h : quoR u = some (v, n)) : quoR (u ++ r) = some (v, n) := by
  fun_induction quoR u generalizing v n with
  | case1 => cases h
  | case2 c t hc => rw [List.cons_append, quoR_end hc]; exact h
  | case3 => cases h
  | case4 => cases h
  | case5 c h1 h2 h3 d u hd ih =>
    obtain ⟨⟨v', n'⟩, hm, he⟩ := Option.map_eq_some_iff.1 h
    cases he
    rw [List.cons_append, List.cons_append, quoR_same h3 hd, ih _ _ hm]; rfl
  | case6 c h1 h2 h3 d u hd hd2 ih =>
    obtain ⟨⟨v', n'⟩, hm, he⟩ := Option.map_eq_some_iff.1 h
    cases he
    rw [List.cons_append, List.cons_append, quoR_line h3 hd2, ih _ _ hm]; rfl
  | case7 => cases h
  | case8 c t h1 h2 h3 ih =>
    obtain ⟨⟨v', n'⟩, hm, he⟩ := Option.map_eq_some_iff.1 h
    cases he
    rw [List.cons_append, quoR_plain (by omega) (by omega) h1 h3, ih _ _ hm]; rfl
theorem opR_sep (c : UInt8) (u : List UInt8) (x : UInt8) (r : List UInt8) (hx : sepC x) : opR (c :: u ++ x :: r) = opR (c :: u) := by
  cases u with
  | nil =>
    have h1 : ([c, x] : List UInt8) ∉ twos := sep_two hx c
    have h2 : ([c] : List UInt8) ∉ twos := by simp [twos, bytes]
    simp [opR, h1, h2]
  | cons d u => simp [opR]; rfl

/-- The token at the beginning of a text; the place is added to its place and its end. -/
def tokU (u : List UInt8) (p : Nat) : Except Nat (Tk × Nat) :=
  match u with
  | [] => .error 18
  | c :: t => if dig c then numT (c :: t) p else if let8 c then nameT (c :: t) p else if c.toNat = 34 then quoT t p else opT (c :: t) p
theorem tokP_u (l : List UInt8) (p : Nat) : tokP l p = tokU (l.drop p) p := rfl

/-- What is behind a separator plays no part; the place is free. -/
theorem tokU_sep (u : List UInt8) (p p' : Nat) (t : Tk) (q : Nat) (x : UInt8) (r : List UInt8) (hx : sepC x) (h : tokU u p = .ok (t, q)) :
    p ≤ q ∧ tokU (u ++ x :: r) p' = .ok (⟨t.kind, t.text, p'⟩, p' + (q - p)) := by
  cases u with
  | nil => cases h
  | cons c u =>
    unfold tokU at h ⊢
    simp only [List.cons_append] at h ⊢
    by_cases hd : dig c = true
    · rw [if_pos hd] at h ⊢
      unfold numT at h ⊢
      rw [← List.cons_append, numR_sep _ _ _ _ (sep_dig hx)]
      split at h
      · cases h
      · rename_i n hn
        split at h
        · cases h
        · rename_i hc
          cases h
          have hr := numR_run _ _ _ hn
          have hle := runN_le dig (c :: u)
          simp only
          rw [if_neg]
          · refine ⟨by omega, ?_⟩
            rw [List.take_append_of_le_length (by omega), show p + n - p = n from by omega]
          · intro ⟨h1, h2⟩
            by_cases hn2 : n < (c :: u).length
            · apply hc
              refine ⟨hn2, ?_⟩
              rw [← h2, List.getD_eq_getElem?_getD, List.getD_eq_getElem?_getD, List.getElem?_append_left hn2]
            · have : n = (c :: u).length := by omega
              rw [List.getD_eq_getElem?_getD, List.getElem?_append_right (by omega), this, Nat.sub_self] at h2
              simp [sep_let hx] at h2
    · rw [if_neg hd] at h ⊢
      by_cases hl : let8 c = true
      · rw [if_pos hl] at h ⊢
        unfold nameT at h ⊢
        have hw : wordN (c :: u ++ x :: r) = wordN (c :: u) := runN_sep _ _ _ _ (by simp [sep_dig hx, sep_let hx])
        have hle := runN_le (fun c => let8 c || dig c) (c :: u)
        rw [← List.cons_append, hw]
        split at h
        · cases h
        · rename_i hc
          cases h
          rw [if_neg hc, List.take_append_of_le_length (by exact hle)]
          refine ⟨by omega, ?_⟩
          rw [show p + wordN (c :: u) - p = wordN (c :: u) from by omega]
      · rw [if_neg hl] at h ⊢
        by_cases h34 : c.toNat = 34
        · rw [if_pos h34] at h ⊢
          unfold quoT at h ⊢
          split at h
          · cases h
          · rename_i v n hq
            rw [quoR_more _ _ _ _ hq]
            simp only
            split at h
            · cases h
            · rename_i hc
              cases h
              rw [if_neg hc]
              refine ⟨by omega, ?_⟩
              rw [show p + 1 + n - p = 1 + n from by omega, ← Nat.add_assoc]
        · rw [if_neg h34] at h ⊢
          unfold opT at h ⊢
          rw [← List.cons_append, opR_sep _ _ _ _ hx]
          split at h
          · cases h
          · rename_i hc
            cases h
            have hle : opR (c :: u) ≤ (c :: u).length := by
              by_cases h2 : (c :: u).take 2 ∈ twos
              · have := twos_len _ h2
                rw [opR_two h2]; simp at this; simp; omega
              · by_cases h1 : c ∈ ones
                · rw [opR_one h2 h1]; simp
                · rw [opR_none h2 h1]; simp
            rw [if_neg hc, List.take_append_of_le_length hle]
            refine ⟨by omega, ?_⟩
            rw [show p + opR (c :: u) - p = opR (c :: u) from by omega]

def preB : List UInt8 := [32, 9, 35, 32, 97, 32, 34, 32, 98, 10]
def sufB : List UInt8 := [10, 32, 35, 32, 99]
theorem skipN_suf (cm : Bool) (u : List UInt8) : skipN cm (u ++ sufB) = if skipN cm u = u.length then u.length + 5 else skipN cm u := by
  induction u generalizing cm with
  | nil => cases cm <;> decide
  | cons c u ih =>
    simp only [List.cons_append]
    unfold skipN
    split
    · rw [ih]; simp only [List.length_cons]; split <;> split <;> omega
    · split
      · rw [ih]; simp only [List.length_cons]; split <;> split <;> omega
      · split
        · rw [ih]; simp only [List.length_cons]; split <;> split <;> omega
        · simp

/-- Tokens with blanks before and behind. -/
theorem toksGo_wrap (l : List UInt8) (f n p : Nat) (r : List Tk) (hp : p ≤ l.length) (h : toksGo l f n p = .ok r) (f' : Nat) (hf : f ≤ f') :
    ∃ r', toksGo (preB ++ l ++ sufB) f' n (if p = l.length then l.length + 15 else p + 10) = .ok r' ∧ ktOf r' = ktOf r := by
  have hlen : (preB ++ l ++ sufB).length = l.length + 15 := by simp [preB, sufB]
  induction f generalizing n p r f' with
  | zero => cases h
  | succ f ih =>
    obtain ⟨g, rfl⟩ : ∃ g, f' = g + 1 := ⟨f' - 1, by omega⟩
    unfold toksGo at h
    split at h
    · cases h
    · rename_i hn
      split at h
      · rename_i hpe
        cases h
        rw [if_pos hpe, ← hlen, toksGo_end _ _ _ hn]
        exact ⟨_, rfl, rfl⟩
      · rename_i hpe
        rw [if_neg hpe]
        split at h
        · cases h
        · rename_i t q ht
          split at h
          · cases h
          · rename_i r' hr
            cases h
            have hst := tokP_step _ _ _ _ ht
            have hsk := skipN_le false (l.drop q)
            have hdl : (l.drop q).length = l.length - q := by simp
            obtain ⟨r2, h2, h3⟩ := ih (n + 1) (q + skipN false (l.drop q)) r' (by omega) hr g (by omega)
            have hdr : ∀ k, k ≤ l.length → (preB ++ l ++ sufB).drop (k + 10) = l.drop k ++ sufB := by
              intro k hk
              rw [List.append_assoc, show k + 10 = preB.length + k from by simp [preB]; omega, List.drop_append, Nat.add_sub_cancel_left, List.drop_append_of_le_length hk, List.drop_of_length_le (by omega)]; rfl
            rw [tokP_u] at ht
            obtain ⟨hpq, htok⟩ := tokU_sep _ _ (p + 10) _ _ 10 [32, 35, 32, 99] (.inl rfl) ht
            have htok' : tokP (preB ++ l ++ sufB) (p + 10) = .ok (⟨t.kind, t.text, p + 10⟩, q + 10) := by
              rw [tokP_u, hdr p (by omega)]
              rw [show q + 10 = p + 10 + (q - p) from by omega]
              exact htok
            rw [toksGo_step _ _ _ _ _ _ hn (by omega) htok', hdr q (by omega), skipN_suf]
            have e : q + 10 + (if skipN false (l.drop q) = (l.drop q).length then (l.drop q).length + 5 else skipN false (l.drop q)) = if q + skipN false (l.drop q) = l.length then l.length + 15 else q + skipN false (l.drop q) + 10 := by
              by_cases h5 : skipN false (l.drop q) = (l.drop q).length
              · rw [if_pos h5, if_pos (by omega)]; omega
              · rw [if_neg h5, if_neg (by omega)]; omega
            rw [e, h2]
            exact ⟨_, rfl, by simp [ktOf] at h3 ⊢; exact h3⟩
theorem skipN_pre (u : List UInt8) : skipN false (preB ++ u) = 10 + skipN false u := by
  simp [preB, skipN]; omega
theorem toksP_wrap (l : List UInt8) (r : List Tk) (hl : l.length ≤ 16364) (h : toksP l = .ok r) : ∃ r', toksP (preB ++ l ++ sufB) = .ok r' ∧ ktOf r' = ktOf r := by
  have hlen : (preB ++ l ++ sufB).length = l.length + 15 := by simp [preB, sufB]
  unfold toksP at h
  rw [if_neg (by omega)] at h
  have hsk := skipN_le false l
  obtain ⟨r', h1, h2⟩ := toksGo_wrap l _ _ _ _ hsk h ((preB ++ l ++ sufB).length + 1) (by omega)
  refine ⟨r', ?_, h2⟩
  rw [toksP, if_neg (by omega), ← h1, List.append_assoc, skipN_pre, skipN_suf]
  congr 1
  split
  · omega
  · omega
end Go.Proofs.Ytalbmipncoohdaa
