/-
  Plain definitions: what the layer deflate computes.
-/
import Derived.Test.YtppfjofaegbbjaaBits
import Derived.Test.YtppfjofaegbbjaaFnd
namespace Go.Proofs.Ytppfjofaegbbjaa

def lenGo : Nat → Nat → Nat → Nat → Nat → Nat × Nat × Nat
  | 0, s, b, e, _ => (s, b, e)
  | f + 1, s, b, e, n => if b + 2 ^ e ≤ n then lenGo f (s + 1) (b + 2 ^ e) (if 265 ≤ s + 1 then (s + 1 - 261) / 4 else e) n else (s, b, e)
/-- The symbol of a length, its base and its extra bits. -/
def lenSym (n : Nat) : Nat × Nat × Nat := if n = 258 then (285, 258, 0) else lenGo 27 257 3 0 n

def distGo : Nat → Nat → Nat → Nat → Nat → Nat × Nat × Nat
  | 0, s, b, e, _ => (s, b, e)
  | f + 1, s, b, e, n => if b + 2 ^ e ≤ n then distGo f (s + 1) (b + 2 ^ e) (if 4 ≤ s + 1 then (s + 1 - 2) / 2 else e) n else (s, b, e)
/-- The symbol of a distance, its base and its extra bits. -/
def distSym (d : Nat) : Nat × Nat × Nat := distGo 29 0 1 0 d

/-- The code of a byte or symbol. -/
def symBits (v : Nat) : List Bool :=
  if v < 144 then codeBits (48 + v) 8 else if v < 256 then codeBits (400 + v - 144) 9 else if v < 280 then codeBits (v - 256) 7 else codeBits (192 + v - 280) 8

/-- The bits of a match. -/
def matchBits (n d : Nat) : List Bool :=
  symBits (lenSym n).1 ++ numBits (n - (lenSym n).2.1) (lenSym n).2.2 ++ codeBits (distSym d).1 5 ++ numBits (d - (distSym d).2.1) (distSym d).2.2

def dext (s : Nat) : Nat := if 4 ≤ s then (s - 2) / 2 else 0
def dbase : Nat → Nat
  | 0 => 1
  | s + 1 => dbase s + 2 ^ dext s
theorem dbase_lt (s : Nat) (h : dbase s ≤ 4096) : s < 24 := by
  have mono : ∀ a b, a ≤ b → dbase a ≤ dbase b := by
    intro a b hab
    induction hab with
    | refl => exact Nat.le_refl _
    | step _ ih => exact Nat.le_trans ih (by simp [dbase])
  rcases Nat.lt_or_ge s 24 with h1 | h1
  · exact h1
  · have := mono 24 s h1
    have h24 : dbase 24 = 4097 := by decide
    omega

theorem lenSym_ok (n : Nat) (h0 : 3 ≤ n) (h1 : n ≤ 258) : 257 ≤ (lenSym n).1 ∧ (lenSym n).1 < 286 ∧ (lenSym n).2.1 ≤ n ∧ n < (lenSym n).2.1 + 2 ^ (lenSym n).2.2 ∧ (lenSym n).2.2 ≤ 5 := by
  have key : ∀ n : Fin 259, 3 ≤ n.val → 257 ≤ (lenSym n.val).1 ∧ (lenSym n.val).1 < 286 ∧ (lenSym n.val).2.1 ≤ n.val ∧ n.val < (lenSym n.val).2.1 + 2 ^ (lenSym n.val).2.2 ∧ (lenSym n.val).2.2 ≤ 5 := by decide +kernel
  exact key ⟨n, by omega⟩ h0
theorem distSym_ok (n : Nat) (h0 : 1 ≤ n) (h1 : n ≤ 4096) : (distSym n).1 < 24 ∧ (distSym n).2.1 ≤ n ∧ n < (distSym n).2.1 + 2 ^ (distSym n).2.2 ∧ (distSym n).2.2 ≤ 10 := by
  have key : ∀ a : Fin 65, ∀ b : Fin 64, 1 ≤ 64 * a.val + b.val → 64 * a.val + b.val ≤ 4096 → (distSym (64 * a.val + b.val)).1 < 24 ∧ (distSym (64 * a.val + b.val)).2.1 ≤ 64 * a.val + b.val ∧ 64 * a.val + b.val < (distSym (64 * a.val + b.val)).2.1 + 2 ^ (distSym (64 * a.val + b.val)).2.2 ∧ (distSym (64 * a.val + b.val)).2.2 ≤ 10 := by decide +kernel
  have h := key ⟨n / 64, by omega⟩ ⟨n % 64, by omega⟩
  have e : 64 * (n / 64) + n % 64 = n := by omega
  simp only [e] at h
  exact h h0 h1
theorem symBits_length (v : Nat) : (symBits v).length ≤ 9 := by
  unfold symBits
  split
  · simp [codeBits_length]
  · split
    · simp [codeBits_length]
    · split <;> simp [codeBits_length]
theorem matchBits_length (n d : Nat) (h0 : 3 ≤ n) (h1 : n ≤ 258) (h2 : 1 ≤ d) (h3 : d ≤ 4096) : (matchBits n d).length ≤ 29 := by
  have a := symBits_length (lenSym n).1
  have b := (lenSym_ok n h0 h1).2.2.2.2
  have c := (distSym_ok d h2 h3).2.2.2
  simp only [matchBits, List.length_append, numBits_length, codeBits_length]
  omega

/-- The token at p: its bits and how many bytes it stands for. -/
def tok (l : List UInt8) (p : Nat) : List Bool × Nat :=
  if (matchP l p).1 = 0 then (symBits (at8 l p).toNat, 1) else (matchBits (matchP l p).1 (matchP l p).2, (matchP l p).1)
def fixedGo (l : List UInt8) : Nat → Nat → List Bool
  | 0, _ => []
  | f + 1, p => if p < l.length then (tok l p).1 ++ fixedGo l f (p + (tok l p).2) else []
/-- The bits of the block with fixed codes. -/
def fixedBits (l : List UInt8) : List Bool := numBits 1 1 ++ numBits 1 2 ++ fixedGo l l.length 0 ++ symBits 256
def fixed (l : List UInt8) : List UInt8 := pack (fixedBits l)

theorem tok_pos (l : List UInt8) (p : Nat) (hp : p < l.length) : 1 ≤ (tok l p).2 ∧ p + (tok l p).2 ≤ l.length := by
  unfold tok
  split
  · simp; omega
  · rename_i h
    have := matchP_ok l p h
    simp only; omega
theorem tok_bits (l : List UInt8) (p : Nat) : (tok l p).1.length ≤ 29 := by
  unfold tok
  split
  · have := symBits_length (at8 l p).toNat; simp only; omega
  · rename_i h
    have hm := matchP_ok l p h
    exact matchBits_length _ _ (by omega) (by omega) (by omega) (by omega)
theorem fixedGo_fuel (l : List UInt8) (f p : Nat) (h : l.length - p ≤ f) : fixedGo l f p = fixedGo l (l.length - p) p := by
  induction hn : l.length - p using Nat.strongRecOn generalizing f p with
  | _ n ih =>
    subst hn
    by_cases hp : p < l.length
    · obtain ⟨f, rfl⟩ : ∃ g, f = g + 1 := ⟨f - 1, by omega⟩
      obtain ⟨k, hk⟩ : ∃ k, l.length - p = k + 1 := ⟨l.length - p - 1, by omega⟩
      have ht := tok_pos l p hp
      rw [hk]
      simp only [fixedGo, if_pos hp]
      rw [ih (l.length - (p + (tok l p).2)) (by omega) f _ (by omega) rfl, ih (l.length - (p + (tok l p).2)) (by omega) k _ (by omega) rfl]
    · have e : l.length - p = 0 := by omega
      rw [e]
      cases f with
      | zero => rfl
      | succ f => simp [fixedGo, hp]
theorem fixedGo_step (l : List UInt8) (p : Nat) (hp : p < l.length) : fixedGo l (l.length - p) p = (tok l p).1 ++ fixedGo l (l.length - (p + (tok l p).2)) (p + (tok l p).2) := by
  obtain ⟨k, hk⟩ : ∃ k, l.length - p = k + 1 := ⟨l.length - p - 1, by omega⟩
  have ht := tok_pos l p hp
  rw [hk]
  simp only [fixedGo, if_pos hp]
  rw [fixedGo_fuel l k _ (by omega)]
theorem fixedGo_end (l : List UInt8) (p : Nat) (hp : l.length ≤ p) : fixedGo l (l.length - p) p = [] := by
  have e : l.length - p = 0 := by omega
  rw [e]; rfl

end Go.Proofs.Ytppfjofaegbbjaa
