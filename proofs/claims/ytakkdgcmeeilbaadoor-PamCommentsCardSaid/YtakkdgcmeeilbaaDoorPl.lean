/-
  Plain definitions and laws: the lines of a header of P7; sorted metadata.
-/
import Derived.Test.YtakkdgcmeeilbaaDoorP6
namespace Go.Proofs.YtakkdgcmeeilbaaDoor
open Go

def ENDH : List UInt8 := [69, 78, 68, 72, 68, 82]
def TUPL : List UInt8 := [84, 85, 80, 76, 84, 89, 80, 69, 32]
/-- The word's index and the number of a line. -/
def numL (line : List UInt8) : Option (Nat × Nat) :=
  if wIx (line.take (fnd 32 line)) < 0 then none
  else match numP (line.drop (fnd 32 line + 1)) with
    | none => none
    | some n => some ((wIx (line.take (fnd 32 line))).toNat, n)
def setL4 (vs : List (Option Nat)) (k n : Nat) : Option (List (Option Nat)) := if (vs.getD k none).isSome = true then none else some (vs.set k (some n))
/-- What a line does that is neither the last one, nor empty. -/
def lineP (line : List UInt8) (vs : List (Option Nat)) (ms : List Mt) : Option (List (Option Nat) × List Mt) :=
  if line = [] ∨ begP TUPL line = true then some (vs, ms)
  else if line.getD 0 0 = 35 then some (vs, addP ms line)
  else match numL line with
    | none => none
    | some (k, n) => match setL4 vs k n with
      | none => none
      | some vs' => some (vs', ms)
section
variable {line : List UInt8} {vs : List (Option Nat)} {ms : List Mt} (h : line ≠ []) (h2 : begP TUPL line = false)
include h h2
theorem lineP_hash (h3 : line.getD 0 0 = 35) : lineP line vs ms = some (vs, addP ms line) := by
  unfold lineP; rw [if_neg (by rintro (e | e); exact h e; rw [h2] at e; cases e), if_pos h3]
theorem lineP_bad1 (h3 : line.getD 0 0 ≠ 35) (hn : numL line = none) : lineP line vs ms = none := by
  unfold lineP; rw [if_neg (by rintro (e | e); exact h e; rw [h2] at e; cases e), if_neg h3, hn]
theorem lineP_bad2 (h3 : line.getD 0 0 ≠ 35) {k n : Nat} (hn : numL line = some (k, n)) (h4 : (vs.getD k none).isSome = true) : lineP line vs ms = none := by
  unfold lineP; rw [if_neg (by rintro (e | e); exact h e; rw [h2] at e; cases e), if_neg h3, hn]
  simp only [setL4]; rw [if_pos h4]
theorem lineP_good (h3 : line.getD 0 0 ≠ 35) {k n : Nat} (hn : numL line = some (k, n)) (h4 : (vs.getD k none).isSome = false) : lineP line vs ms = some (vs.set k (some n), ms) := by
  unfold lineP; rw [if_neg (by rintro (e | e); exact h e; rw [h2] at e; cases e), if_neg h3, hn]
  simp only [setL4]; rw [if_neg (by rw [h4]; decide)]
end
theorem numL_neg {line : List UInt8} (h : wIx (line.take (fnd 32 line)) = -1) : numL line = none := by
  unfold numL; rw [if_pos (by omega)]
theorem numL_none {line : List UInt8} (h : numP (line.drop (fnd 32 line + 1)) = none) : numL line = none := by
  unfold numL; rw [h]; split <;> rfl
theorem numL_some {line : List UInt8} {k n : Nat} (h : wIx (line.take (fnd 32 line)) = (k : Int)) (h2 : numP (line.drop (fnd 32 line + 1)) = some n) : numL line = some (k, n) := by
  unfold numL; rw [h, h2, if_neg (by omega)]; rfl
def linesF : Nat → List UInt8 → List (Option Nat) → List Mt → Option (List (Option Nat) × List Mt × List UInt8)
  | 0, _, _, _ => none
  | f + 1, u, vs, ms =>
    if fnd 10 u < u.length then
      if u.take (fnd 10 u) = ENDH then some (vs, ms, u.drop (fnd 10 u + 1))
      else match lineP (u.take (fnd 10 u)) vs ms with
        | none => none
        | some (vs', ms') => linesF f (u.drop (fnd 10 u + 1)) vs' ms'
    else none
theorem linesF_enough (f g : Nat) (u : List UInt8) (vs : List (Option Nat)) (ms : List Mt) (hf : u.length < f) (hg : u.length < g) : linesF f u vs ms = linesF g u vs ms := by
  induction f generalizing g u vs ms with
  | zero => omega
  | succ f ih =>
    cases g with
    | zero => omega
    | succ g =>
      unfold linesF
      by_cases h : fnd 10 u < u.length
      · rw [if_pos h, if_pos h]
        by_cases h2 : u.take (fnd 10 u) = ENDH
        · rw [if_pos h2, if_pos h2]
        · rw [if_neg h2, if_neg h2]
          cases lineP (u.take (fnd 10 u)) vs ms with
          | none => rfl
          | some r =>
            exact ih g _ r.1 r.2 (by rw [List.length_drop]; omega) (by rw [List.length_drop]; omega)
      · rw [if_neg h, if_neg h]
def linesP (u : List UInt8) (vs : List (Option Nat)) (ms : List Mt) : Option (List (Option Nat) × List Mt × List UInt8) := linesF (u.length + 1) u vs ms
theorem linesP_none {u : List UInt8} {vs : List (Option Nat)} {ms : List Mt} (h : ¬ fnd 10 u < u.length) : linesP u vs ms = none := by
  unfold linesP linesF; rw [if_neg h]
theorem linesP_end {u : List UInt8} {vs : List (Option Nat)} {ms : List Mt} (h : fnd 10 u < u.length) (h2 : u.take (fnd 10 u) = ENDH) : linesP u vs ms = some (vs, ms, u.drop (fnd 10 u + 1)) := by
  unfold linesP linesF; rw [if_pos h, if_pos h2]
theorem linesP_bad {u : List UInt8} {vs : List (Option Nat)} {ms : List Mt} (h : fnd 10 u < u.length) (h2 : u.take (fnd 10 u) ≠ ENDH) (h3 : lineP (u.take (fnd 10 u)) vs ms = none) : linesP u vs ms = none := by
  unfold linesP linesF; rw [if_pos h, if_neg h2, h3]
theorem linesP_step {u : List UInt8} {vs vs' : List (Option Nat)} {ms ms' : List Mt} (h : fnd 10 u < u.length) (h2 : u.take (fnd 10 u) ≠ ENDH) (h3 : lineP (u.take (fnd 10 u)) vs ms = some (vs', ms')) : linesP u vs ms = linesP (u.drop (fnd 10 u + 1)) vs' ms' := by
  unfold linesP; rw [linesF, if_pos h, if_neg h2, h3]
  exact linesF_enough _ _ _ _ _ (by rw [List.length_drop]; omega) (by omega)

/-- Insertion into sorted metadata. -/
def insM : List Mt → Mt → List Mt
  | [], m => [m]
  | q :: l, m => if Op.bytesLess m.1 q.1 = true then m :: q :: l else q :: insM l m
def sortM (l : List Mt) : List Mt := l.foldl insM []
def ltM (a b : Mt) : Prop := Op.bytesLess a.1 b.1 = true
theorem insM_perm (l : List Mt) (m : Mt) : (insM l m).Perm (m :: l) := by
  induction l with
  | nil => exact List.Perm.refl _
  | cons q l ih =>
    unfold insM
    split
    · exact List.Perm.refl _
    · exact (ih.cons q).trans (List.Perm.swap m q l)
theorem insM_sorted (l : List Mt) (m : Mt) (hs : l.Pairwise ltM) (hn : ∀ q ∈ l, q.1 ≠ m.1) : (insM l m).Pairwise ltM := by
  induction l with
  | nil => simp [insM]
  | cons q l ih =>
    rw [List.pairwise_cons] at hs
    unfold insM
    split
    · rename_i h
      rw [List.pairwise_cons, List.pairwise_cons]
      refine ⟨fun x hx => ?_, hs⟩
      rcases List.mem_cons.1 hx with rfl | hx
      · exact h
      · exact less_trans _ _ _ h (hs.1 x hx)
    · rename_i h
      rw [List.pairwise_cons]
      refine ⟨fun x hx => ?_, ih hs.2 (fun y hy => hn y (List.mem_cons_of_mem _ hy))⟩
      have hx' := (insM_perm l m).mem_iff.1 hx
      rcases List.mem_cons.1 hx' with rfl | hx'
      · exact less_total _ _ (by simpa using h) (fun e => hn q (List.mem_cons_self) e.symm)
      · exact hs.1 x hx'
/-- Keys are distinct. -/
def DistK (l : List Mt) : Prop := l.Pairwise fun a b => a.1 ≠ b.1
theorem distK_perm {l l' : List Mt} (h : l.Perm l') (hd : DistK l) : DistK l' := hd.perm h (fun h e => h e.symm)
theorem sortM_aux (l acc : List Mt) (hd : DistK (acc ++ l)) (hs : acc.Pairwise ltM) : (l.foldl insM acc).Perm (acc ++ l) ∧ (l.foldl insM acc).Pairwise ltM := by
  induction l generalizing acc with
  | nil => exact ⟨by simp, hs⟩
  | cons m l ih =>
    have hp : (insM acc m).Perm (acc ++ [m]) := (insM_perm acc m).trans (List.perm_append_comm (l₁ := [m]) (l₂ := acc))
    have hp2 : (insM acc m ++ l).Perm (acc ++ m :: l) := by
      have := hp.append_right l
      simpa using this
    have hn : ∀ q ∈ acc, q.1 ≠ m.1 := by
      intro q hq
      unfold DistK at hd
      rw [List.pairwise_append] at hd
      exact hd.2.2 q hq m List.mem_cons_self
    have := ih (insM acc m) (distK_perm hp2.symm hd) (insM_sorted acc m hs hn)
    exact ⟨this.1.trans hp2, this.2⟩
theorem sortM_perm (l : List Mt) (hd : DistK l) : (sortM l).Perm l ∧ (sortM l).Pairwise ltM := by
  have := sortM_aux l [] (by simpa using hd) (by simp)
  unfold sortM
  simpa using this
theorem sorted_one (a b : List Mt) (hp : a.Perm b) (ha : a.Pairwise ltM) (hb : b.Pairwise ltM) : a = b := by
  induction a generalizing b with
  | nil => exact (List.nil_perm.1 hp).symm
  | cons x a ih =>
    cases b with
    | nil => exact absurd hp (by simp)
    | cons y b =>
      rw [List.pairwise_cons] at ha hb
      have hxy : x = y := by
        have h1 := hp.mem_iff.1 (List.mem_cons_self (a := x) (l := a))
        have h2 := hp.mem_iff.2 (List.mem_cons_self (a := y) (l := b))
        rcases List.mem_cons.1 h1 with h | h
        · exact h
        · rcases List.mem_cons.1 h2 with h' | h'
          · exact h'.symm
          · have l1 := hb.1 x h
            have l2 := ha.1 y h'
            have := less_trans _ _ _ l1 l2
            rw [less_irrefl] at this; cases this
      subst hxy
      rw [ih b (List.Perm.cons_inv hp) ha.2 hb.2]
theorem addP_dist (l : List Mt) (line : List UInt8) (h : DistK l) : DistK (addP l line) := by
  unfold addP
  split
  · exact h
  · rename_i m _
    split
    · exact h
    · rename_i hn
      unfold DistK
      rw [List.pairwise_append]
      refine ⟨h, by simp, fun a ha b hb => ?_⟩
      simp at hb; subst hb
      intro e
      apply hn; left
      unfold anyK
      rw [List.any_eq_true]
      exact ⟨a, ha, by simpa using e⟩
/-- The header of P7 behind its first line. -/
def sevF : Option (List (Option Nat) × List Mt × List UInt8) → Option (Nat × Nat × Nat × Nat × List Mt × List UInt8)
  | some ([some a, some b, some c, some d], ms, r) => some (a, b, c, d, sortM ms, r)
  | _ => none
def sevP (u : List UInt8) : Option (Nat × Nat × Nat × Nat × List Mt × List UInt8) := sevF (linesP u [none, none, none, none] [])
theorem numAt_numP (t : List UInt8) : numP t = if (numAt t).2 = 0 ∨ (numAt t).2 < t.length then none else some (numAt t).1 := by
  have htw : (t.takeWhile dig).length ≤ t.length := (List.takeWhile_sublist dig).length_le
  unfold numP numAt
  by_cases h9 : 9 < (t.takeWhile dig).length
  · rw [if_pos h9, if_neg, if_pos (.inl rfl)]
    rintro ⟨_, h, _⟩; omega
  · rw [if_neg h9]
    simp only
    by_cases h : (t.takeWhile dig).length = 0 ∨ (t.takeWhile dig).length < t.length
    · rw [if_pos h, if_neg]
      rintro ⟨h1, _, h3⟩
      have : t.takeWhile dig = t := by
        have e := tw_end t t.length (Nat.le_refl _) (by rw [List.take_of_length_le (Nat.le_refl _)]; exact h3) (fun h => absurd h (Nat.lt_irrefl _))
        rwa [List.take_of_length_le (Nat.le_refl _)] at e
      rw [this] at h; omega
    · have e : t.takeWhile dig = t := (List.takeWhile_prefix dig).eq_of_length (by omega)
      rw [if_neg h, e]
      rw [e] at h h9
      have := tw_all t
      rw [e] at this
      rw [if_pos ⟨by omega, by omega, this⟩]
end Go.Proofs.YtakkdgcmeeilbaaDoor
