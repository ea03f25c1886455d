/-
  Plain law: writing the tokens anew.
-/
import Derived.Test.YtalbmipncoohdaaX18
namespace Go.Proofs.Ytalbmipncoohdaa

def render (t : Tk) : List UInt8 := if t.kind = 2 then [34] ++ escL t.text ++ [34] else t.text
def rendL (r : List Tk) : List UInt8 := r.flatMap fun t => render t ++ [32]
/-- A token that can be written anew. -/
def GoodT (t : Tk) : Prop := (t.kind = 2 → t.text.any badC = false ∧ t.text.length ≤ 256) ∧ (t.text.length ≤ 16384) ∧ (∀ r, skipN false (render t ++ r) = 0) ∧ (∀ p r, tokU (render t ++ 32 :: r) p = .ok (⟨t.kind, t.text, p⟩, p + (render t).length))

theorem numR_take (v : Nat) (u : List UInt8) (n : Nat) (h : numR v u = some n) : numR v (u.take n) = some n := by
  induction u generalizing v n with
  | nil => simp [numR] at h; simp [numR, h]
  | cons c u ih =>
    unfold numR at h
    split at h
    · rename_i hd
      split at h
      · cases h
      · rename_i hb
        obtain ⟨m, hm, rfl⟩ := Option.map_eq_some_iff.1 h
        rw [List.take_succ_cons]
        unfold numR
        rw [if_pos hd, if_neg hb, ih _ _ hm]; rfl
    · cases h; rfl
theorem runN_take (p : UInt8 → Bool) (u : List UInt8) : runN p (u.take (runN p u)) = runN p u := by
  induction u with
  | nil => rfl
  | cons c u ih =>
    by_cases h : p c = true
    · have e : runN p (c :: u) = runN p u + 1 := by simp [runN, h]
      rw [e, List.take_succ_cons]
      simp [runN, h, ih]
    · have e : runN p (c :: u) = 0 := by simp [runN, h]
      rw [e]; rfl
theorem quoR_good (u : List UInt8) (v : List UInt8) (n : Nat) (h : quoR u = some (v, n)) : v.any badC = false := by
  fun_induction quoR u generalizing v n with
  | case1 => cases h
  | case2 c t hc => cases h; rfl
  | case3 => cases h
  | case4 => cases h
  | case5 c h1 h2 h3 d u hd ih =>
    obtain ⟨⟨v', n'⟩, hm, he⟩ := Option.map_eq_some_iff.1 h
    cases he
    have hb : badC d = false := by rcases hd with hd | hd <;> simp [badC, hd]
    simp [hb, ih _ _ hm]
  | case6 c h1 h2 h3 d u hd hd2 ih =>
    obtain ⟨⟨v', n'⟩, hm, he⟩ := Option.map_eq_some_iff.1 h
    cases he
    have hb : badC 10 = false := by decide
    simp [hb, ih _ _ hm]
  | case7 => cases h
  | case8 c t h1 h2 h3 ih =>
    obtain ⟨⟨v', n'⟩, hm, he⟩ := Option.map_eq_some_iff.1 h
    cases he
    have hb : badC c = false := by simp [badC]; omega
    simp [hb, ih _ _ hm]

theorem skip_first (c : UInt8) (t : List UInt8) (h1 : c.toNat ≠ 10) (h2 : c.toNat ≠ 32) (h3 : c.toNat ≠ 9) (h4 : c.toNat ≠ 35) : skipN false (c :: t) = 0 := by
  unfold skipN
  rw [if_neg h1, if_neg (by simp; omega), if_neg h4]
theorem dig_not {c : UInt8} (h : dig c = true) : 48 ≤ c.toNat ∧ c.toNat ≤ 57 := by simpa [dig] using h
theorem let_not {c : UInt8} (h : let8 c = true) : 65 ≤ c.toNat ∧ c.toNat ≤ 122 := by
  simp [let8] at h; omega
theorem ones_not {c : UInt8} (h : c ∈ ones) : c.toNat ≠ 10 ∧ c.toNat ≠ 32 ∧ c.toNat ≠ 9 ∧ c.toNat ≠ 35 := by
  simp [ones, bytes] at h
  rcases h with rfl | rfl | rfl | rfl | rfl | rfl | rfl | rfl | rfl | rfl | rfl | rfl | rfl | rfl | rfl | rfl | rfl <;> decide
theorem twos_not {c d : UInt8} (h : [c, d] ∈ twos) : c.toNat ≠ 10 ∧ c.toNat ≠ 32 ∧ c.toNat ≠ 9 ∧ c.toNat ≠ 35 := by
  simp [twos, bytes] at h
  rcases h with ⟨rfl, _⟩ | ⟨rfl, _⟩ | ⟨rfl, _⟩ | ⟨rfl, _⟩ | ⟨rfl, _⟩ | ⟨rfl, _⟩ | ⟨rfl, _⟩ <;> decide

theorem tokU_good (u : List UInt8) (p : Nat) (t : Tk) (q : Nat) (hu : u.length ≤ 16384) (h : tokU u p = .ok (t, q)) : GoodT t := by
  cases u with
  | nil => cases h
  | cons c u =>
    unfold tokU at h
    simp only at h
    by_cases hd : dig c = true
    · rw [if_pos hd] at h
      unfold numT at h
      split at h
      · cases h
      · rename_i n hn
        split at h
        · cases h
        · cases h
          have hr := numR_run _ _ _ hn
          have hle := runN_le dig (c :: u)
          have hpos : 0 < n := by rw [hr]; simp [runN, hd]
          obtain ⟨m, rfl⟩ : ∃ m, n = m + 1 := ⟨n - 1, by omega⟩
          have hnt := numR_take _ _ _ hn
          rw [List.take_succ_cons] at hnt ⊢
          have hlen : (c :: u.take m).length = m + 1 := by simp at hle ⊢; omega
          generalize u.take m = x at *
          have hdn := dig_not hd
          refine ⟨(fun h => by cases h), by rw [hlen]; omega, fun r => ?_, fun p' r => ?_⟩
          · show skipN false (c :: (x ++ r)) = 0
            exact skip_first _ _ (by omega) (by omega) (by omega) (by omega)
          · show tokU (c :: (x ++ 32 :: r)) p' = .ok (_, p' + (c :: x).length)
            unfold tokU
            simp only
            rw [if_pos hd]
            unfold numT
            have e : numR 0 (c :: (x ++ 32 :: r)) = some (m + 1) := by rw [← List.cons_append, numR_sep _ _ _ _ (by decide), hnt]
            rw [e]
            simp only
            rw [if_neg, hlen]
            · congr 3
              rw [← List.cons_append, ← hlen, List.take_left]
            · intro ⟨_, h2⟩
              rw [← List.cons_append, List.getD_eq_getElem?_getD, List.getElem?_append_right (by omega), hlen, Nat.sub_self] at h2
              exact absurd (show let8 32 = true from h2) (by decide)
    · rw [if_neg hd] at h
      by_cases hl : let8 c = true
      · rw [if_pos hl] at h
        unfold nameT at h
        split at h
        · cases h
        · rename_i hc
          cases h
          have hle := runN_le (fun c => let8 c || dig c) (c :: u)
          have ht := runN_take (fun c => let8 c || dig c) (c :: u)
          have hpos : 0 < runN (fun c => let8 c || dig c) (c :: u) := by simp [runN, hl]
          unfold wordN at hc ⊢
          obtain ⟨m, hm⟩ : ∃ m, runN (fun c => let8 c || dig c) (c :: u) = m + 1 := ⟨runN (fun c => let8 c || dig c) (c :: u) - 1, by omega⟩
          rw [hm] at hc ht hle ⊢
          rw [List.take_succ_cons] at ht ⊢
          have hlen : (c :: u.take m).length = m + 1 := by simp at hle ⊢; omega
          generalize u.take m = x at *
          have hln := let_not hl
          have hk : (if resv (c :: x) = true then 5 else 3) ≠ 2 := by split <;> decide
          have hrd : render ⟨if resv (c :: x) = true then 5 else 3, c :: x, p⟩ = c :: x := by unfold render; rw [if_neg hk]
          refine ⟨fun h => absurd h hk, by rw [hlen]; omega, fun r => ?_, fun p' r => ?_⟩
          · rw [hrd]
            exact skip_first _ _ (by omega) (by omega) (by omega) (by omega)
          · rw [hrd]
            show tokU (c :: (x ++ 32 :: r)) p' = .ok (_, p' + (c :: x).length)
            unfold tokU
            simp only
            rw [if_neg hd, if_pos hl]
            unfold nameT
            have e : wordN (c :: (x ++ 32 :: r)) = m + 1 := by
              rw [← List.cons_append]
              exact (runN_sep _ _ _ _ (by decide)).trans ht
            rw [e, if_neg hc, hlen]
            have e2 : (c :: (x ++ 32 :: r)).take (m + 1) = c :: x := by rw [← List.cons_append, ← hlen, List.take_left]
            rw [e2]
      · rw [if_neg hl] at h
        by_cases h34 : c.toNat = 34
        · rw [if_pos h34] at h
          unfold quoT at h
          split at h
          · cases h
          · rename_i v n hq
            split at h
            · cases h
            · rename_i hc
              cases h
              have hg := quoR_good _ _ _ hq
              refine ⟨fun _ => ⟨hg, by show v.length ≤ 256; omega⟩, by show v.length ≤ _; omega, fun r => ?_, fun p' r => ?_⟩
              · show skipN false (34 :: _) = 0
                exact skip_first _ _ (by decide) (by decide) (by decide) (by decide)
              · have hrd : render ⟨2, v, p⟩ = 34 :: (escL v ++ [34]) := rfl
                rw [hrd]
                show tokU (34 :: (escL v ++ [34] ++ 32 :: r)) p' = _
                have hq2 := quoR_esc v (32 :: r) hg
                unfold tokU
                simp only
                rw [if_neg (by decide), if_neg (by decide), if_pos (by decide), List.append_assoc]
                unfold quoT
                rw [show [34] ++ 32 :: r = 34 :: 32 :: r from rfl, hq2]
                simp only
                rw [if_neg hc]
                simp; omega
        · rw [if_neg h34] at h
          unfold opT at h
          split at h
          · cases h
          · rename_i hc
            cases h
            by_cases h2 : (c :: u).take 2 ∈ twos
            · have hl2 := twos_len _ h2
              cases u with
              | nil => simp at hl2
              | cons d u =>
                have e0 : (c :: d :: u).take 2 = [c, d] := rfl
                rw [e0] at h2
                have hn := twos_not h2
                have eo : opR (c :: d :: u) = 2 := opR_two h2
                rw [eo]
                refine ⟨(fun h => by cases h), by show 2 ≤ _; omega, fun r => ?_, fun p' r => ?_⟩
                · exact skip_first _ _ hn.1 hn.2.1 hn.2.2.1 hn.2.2.2
                · show tokU (c :: d :: 32 :: r) p' = .ok (⟨4, [c, d], p'⟩, p' + 2)
                  unfold tokU
                  simp only
                  rw [if_neg hd, if_neg hl, if_neg h34, opT]
                  have eo2 : opR (c :: d :: 32 :: r) = 2 := opR_two h2
                  rw [eo2]; rfl
            · by_cases h1 : c ∈ ones
              · have hn := ones_not h1
                have eo : opR (c :: u) = 1 := opR_one h2 h1
                rw [eo]
                refine ⟨(fun h => by cases h), by show 1 ≤ _; omega, fun r => ?_, fun p' r => ?_⟩
                · exact skip_first _ _ hn.1 hn.2.1 hn.2.2.1 hn.2.2.2
                · show tokU (c :: 32 :: r) p' = .ok (⟨4, [c], p'⟩, p' + 1)
                  unfold tokU
                  simp only
                  rw [if_neg hd, if_neg hl, if_neg h34, opT]
                  have eo2 : opR (c :: 32 :: r) = 1 := opR_one (by exact sep_two (.inr rfl) c) h1
                  rw [eo2]; rfl
              · exact absurd (opR_none h2 h1) hc

/-- Good tokens, and the end behind them. -/
def GoodRow : List Tk → Prop
  | [] => False
  | t :: r => match r with
    | [] => t.kind = 0 ∧ t.text = []
    | _ :: _ => GoodT t ∧ GoodRow r
theorem toksGo_good (l : List UInt8) (hl : l.length ≤ 16384) (f n p : Nat) (r : List Tk) (h : toksGo l f n p = .ok r) : GoodRow r ∧ n + r.length ≤ 4096 := by
  induction f generalizing n p r with
  | zero => cases h
  | succ f ih =>
    unfold toksGo at h
    split at h
    · cases h
    · rename_i hn
      split at h
      · cases h
        exact ⟨⟨rfl, rfl⟩, by simp; omega⟩
      · split at h
        · cases h
        · rename_i t q ht
          split at h
          · cases h
          · rename_i r' hr
            cases h
            have h1 := ih _ _ _ hr
            rw [tokP_u] at ht
            have h2 := tokU_good _ _ _ _ (by simp; omega) ht
            refine ⟨?_, by simp; omega⟩
            cases r' with
            | nil => exact h1.1.elim
            | cons t' r' => exact ⟨h2, h1.1⟩
theorem toksP_good (l : List UInt8) (r : List Tk) (h : toksP l = .ok r) : GoodRow r ∧ r.length ≤ 4096 := by
  unfold toksP at h
  split at h
  · cases h
  · have := toksGo_good l (by omega) _ _ _ _ h
    exact ⟨this.1, by omega⟩
theorem goodRow_get (r : List Tk) (h : GoodRow r) (i : Nat) (hi : i < r.length) : (r[i].kind = 2 → r[i].text.any badC = false ∧ r[i].text.length ≤ 256) ∧ r[i].text.length ≤ 16384 := by
  induction r generalizing i with
  | nil => exact h.elim
  | cons t r ih =>
    cases r with
    | nil =>
      have : i = 0 := by simp at hi; exact hi
      subst this
      exact ⟨(fun h2 => by have := h.1; simp at h2; omega), by have := h.2; simp [this]⟩
    | cons t' r =>
      cases i with
      | zero => exact ⟨h.1.1, h.1.2.1⟩
      | succ i => exact ih h.2 i (by simpa using hi)
theorem toksGo_anew (r : List Tk) (hg : GoodRow r) (pre : List UInt8) (n f : Nat) (hn : n + r.length ≤ 4096) (hf : r.length ≤ f) :
    ∃ r', toksGo (pre ++ rendL r) f n (pre.length + skipN false (rendL r)) = .ok r' ∧ ktOf r' = ktOf r := by
  induction r generalizing pre n f with
  | nil => exact hg.elim
  | cons t r ih =>
    obtain ⟨g, rfl⟩ : ∃ g, f = g + 1 := ⟨f - 1, by simp at hf; omega⟩
    cases r with
    | nil =>
      have ht : render t = [] := by unfold render; rw [if_neg (by rw [hg.1]; decide), hg.2]
      have e : rendL [t] = [32] := by simp [rendL, ht]
      rw [e]
      have e2 : pre.length + skipN false [32] = (pre ++ [32]).length := by simp; decide
      rw [e2, toksGo_end _ _ _ (by simp at hn; omega)]
      exact ⟨_, rfl, by simp [ktOf, hg.1, hg.2]⟩
    | cons t' r =>
      obtain ⟨hgt, hgr⟩ := hg
      generalize hrr : t' :: r = rr at *
      have e : rendL (t :: rr) = render t ++ 32 :: rendL rr := by simp [rendL]
      rw [e, hgt.2.2.1]
      show ∃ r', toksGo (pre ++ (render t ++ 32 :: rendL rr)) (g + 1) n pre.length = Except.ok r' ∧ _
      have htok : tokP (pre ++ (render t ++ 32 :: rendL rr)) pre.length = .ok (⟨t.kind, t.text, pre.length⟩, pre.length + (render t).length) := by
        rw [tokP_u, List.drop_left]
        exact hgt.2.2.2 _ _
      have hpos : pre.length ≠ (pre ++ (render t ++ 32 :: rendL rr)).length := by simp
      rw [toksGo_step _ _ _ _ _ _ (by simp at hn; omega) hpos htok]
      have ed : (pre ++ (render t ++ 32 :: rendL rr)).drop (pre.length + (render t).length) = 32 :: rendL rr := by
        rw [← List.append_assoc, show pre.length + (render t).length = (pre ++ render t).length from by simp, List.drop_left]
      have es : skipN false (32 :: rendL rr) = skipN false (rendL rr) + 1 := by
        conv => lhs; unfold skipN
        rw [if_neg (by decide), if_pos (.inr (.inl (by decide)))]
      obtain ⟨r2, h2, h3⟩ := ih hgr (pre ++ render t ++ [32]) (n + 1) g (by simp at hn; omega) (by simp at hf; omega)
      rw [ed, es]
      have e3 : pre ++ (render t ++ 32 :: rendL rr) = pre ++ render t ++ [32] ++ rendL rr := by simp
      have e4 : pre.length + (render t).length + (skipN false (rendL rr) + 1) = (pre ++ render t ++ [32]).length + skipN false (rendL rr) := by simp; omega
      rw [e3, e4, h2]
      exact ⟨_, rfl, by simp [ktOf] at h3 ⊢; exact h3⟩
theorem rendL_len (r : List Tk) : r.length ≤ (rendL r).length := by
  induction r with
  | nil => simp
  | cons t r ih => simp [rendL] at ih ⊢; omega
theorem toksP_anew (l : List UInt8) (r : List Tk) (h : toksP l = .ok r) (hl : (rendL r).length ≤ 16384) : ∃ r', toksP (rendL r) = .ok r' ∧ ktOf r' = ktOf r := by
  obtain ⟨hg, hn⟩ := toksP_good l r h
  have hlen := rendL_len r
  have := toksGo_anew r hg [] 0 ((rendL r).length + 1) (by omega) (by omega)
  rw [toksP, if_neg (by omega)]
  simpa using this
end Go.Proofs.Ytalbmipncoohdaa
