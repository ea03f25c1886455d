/-
  Walk: the tokens of a script, in the program.
-/
import Derived.Test.YtalbmipncoohdaaX10
namespace Go.Proofs.Ytalbmipncoohdaa
open Go.RowKit

def tcell (t : Tk) : List Value := [.int .i64 t.kind, .string ⟨t.text.toArray⟩, .int .i64 t.at_]
def tcells (l : List Tk) : List Value := l.flatMap tcell
theorem tcells_length (l : List Tk) : (tcells l).length = l.length * 3 := by
  induction l with
  | nil => rfl
  | cons t l ih => simp [tcells, tcell] at ih ⊢; omega
theorem tcells_snoc (l : List Tk) (t : Tk) : tcells (l ++ [t]) = tcells l ++ tcell t := by simp [tcells]
/-- The slice value v owns a row of tokens, from block base on. -/
def TRow (w : World) (base : Nat) (v : Value) (l : List Tk) : Prop := w.ownsRow base 30 3 v l.length (tcells l)
theorem trow_shape {w : World} {b : Nat} {v : Value} {l : List Tk} (h : TRow w b v l) : ∃ x c, v = .slice x l.length c := by
  rcases h.2 with ⟨rfl, h0⟩ | ⟨g, cap, cur, rfl, _⟩
  · exact ⟨none, 0, by rw [h0]⟩
  · exact ⟨_, _, rfl⟩
theorem trow_more {w : World} {base : Nat} {v : Value} {n : Nat} {l : List Tk} {xs : List Value} (h : w.ownsRow base 30 3 v n (tcells l ++ xs)) (t : Tk) (hx : xs = tcell t) (hn : n = l.length + 1) : TRow w base v (l ++ [t]) := by
  subst hx; subst hn
  unfold TRow
  rw [tcells_snoc, List.length_append]
  exact h

theorem el_tok : Elem Try.prog 22 30 (.agg #[.int .i64 0, .string ⟨#[]⟩, .int .i64 0]) 3 32 := by
  refine ⟨Try.underlying22, ?_, rfl, by decide⟩
  exact info_parts (by kernel_rfl)

/-- The tokens before, put ahead of those of the rest. -/
def cont (done : List Tk) : Except (Nat × Nat) (List Tk) → Except (Nat × Nat) (List Tk)
  | .error x => .error x
  | .ok r => .ok (done ++ r)
theorem cont_snoc (done : List Tk) (t : Tk) (r : Except (Nat × Nat) (List Tk)) : cont (done ++ [t]) r = cont done (cont [t] r) := by
  cases r <;> simp [cont]
theorem toksGo_lim (l : List UInt8) (f n p : Nat) (h : 4096 ≤ n) : toksGo l (f + 1) n p = .error (p, 3) := by rw [toksGo, if_pos h]
theorem toksGo_end (l : List UInt8) (f n : Nat) (h : ¬ 4096 ≤ n) : toksGo l (f + 1) n l.length = .ok [⟨0, [], l.length⟩] := by rw [toksGo, if_neg h, if_pos rfl]
theorem toksGo_err (l : List UInt8) (f n p e : Nat) (h : ¬ 4096 ≤ n) (hp : p ≠ l.length) (ht : tokP l p = .error e) : toksGo l (f + 1) n p = .error (p, e) := by rw [toksGo, if_neg h, if_neg hp, ht]
theorem toksGo_step (l : List UInt8) (f n p : Nat) (t : Tk) (q : Nat) (h : ¬ 4096 ≤ n) (hp : p ≠ l.length) (ht : tokP l p = .ok (t, q)) : toksGo l (f + 1) n p = cont [t] (toksGo l f (n + 1) (q + skipN false (l.drop q))) := by
  rw [toksGo, if_neg h, if_neg hp, ht]
  simp only
  cases toksGo l f (n + 1) (q + skipN false (l.drop q)) <;> rfl

theorem quoR_pos (t : List UInt8) (v : List UInt8) (n : Nat) (h : quoR t = some (v, n)) : 0 < n ∧ n ≤ t.length := by
  fun_induction quoR t generalizing v n with
  | case1 => cases h
  | case2 => cases h; simp
  | case3 => cases h
  | case4 => cases h
  | case5 c _ _ _ d u _ ih =>
    obtain ⟨⟨v', n'⟩, hm, he⟩ := Option.map_eq_some_iff.1 h
    cases he
    have := ih _ _ hm
    simp; omega
  | case6 c _ _ _ d u _ _ ih =>
    obtain ⟨⟨v', n'⟩, hm, he⟩ := Option.map_eq_some_iff.1 h
    cases he
    have := ih _ _ hm
    simp; omega
  | case7 => cases h
  | case8 c t _ _ _ ih =>
    obtain ⟨⟨v', n'⟩, hm, he⟩ := Option.map_eq_some_iff.1 h
    cases he
    have := ih _ _ hm
    simp; omega
theorem tokP_step (l : List UInt8) (p : Nat) (t : Tk) (q : Nat) (h : tokP l p = .ok (t, q)) : p < q ∧ q ≤ l.length := by
  unfold tokP at h
  split at h
  · cases h
  · rename_i c u hu
    have hl : l.length - p = u.length + 1 := by have := congrArg List.length hu; simpa using this
    split at h
    · rename_i hd
      have := numT_ok _ _ _ h
      cases this
      have h1 := runN_le dig (c :: u)
      have h2 : 0 < runN dig (c :: u) := by simp [runN, hd]
      simp at h1
      omega
    · split at h
      · rename_i hd
        unfold nameT at h
        split at h
        · cases h
        · cases h
          have h1 := runN_le (fun c => let8 c || dig c) (c :: u)
          have h2 : 0 < runN (fun c => let8 c || dig c) (c :: u) := by simp [runN, hd]
          simp only [wordN]
          simp at h1
          omega
      · split at h
        · unfold quoT at h
          split at h
          · cases h
          · rename_i v n hq
            have := quoR_pos _ _ _ hq
            split at h
            · cases h
            · cases h; omega
        · unfold opT at h
          split at h
          · cases h
          · cases h
            rename_i h0
            have : opR (c :: u) ≤ (c :: u).length := by
              by_cases h2 : (c :: u).take 2 ∈ twos
              · have := twos_len _ h2
                rw [opR_two h2]; simp at this; simp; omega
              · by_cases h1 : c ∈ ones
                · rw [opR_one h2 h1]; simp
                · rw [opR_none h2 h1]; simp
            simp at this
            omega

/-- What Tokens promises. -/
def TokensOk (r : Except (Nat × Nat) (List Tk)) (B : Nat) (e : Ending) (w : World) : Prop :=
  match r with
  | .error (p, k) => e = .returned (.tuple #[.slice none 0 0, .int .i64 p, .int .i64 k])
  | .ok l => ∃ v, e = .returned (.tuple #[v, .int .i64 0, .int .i64 0]) ∧ TRow w B v l
end Go.Proofs.Ytalbmipncoohdaa
