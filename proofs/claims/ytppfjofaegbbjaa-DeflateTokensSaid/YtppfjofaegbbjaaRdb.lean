/-
  Plain lemmas: reading back packed bits, and what the codes of a block are read as.
-/
import Derived.Test.YtppfjofaegbbjaaDfl
namespace Go.Proofs.Ytppfjofaegbbjaa

theorem pack_bit' (l : List Bool) (i : Nat) (hi : i / 8 < (pack l).length) : ((pack l).getD (i / 8) 0).toNat.testBit (i % 8) = l.getD i false := by
  rcases Nat.lt_or_ge i l.length with h | h
  · rw [pack_bit l i h]; simp [List.getD, h]
  · induction hn : l.length using Nat.strongRecOn generalizing l i with
    | _ n ih =>
      subst hn
      have hl : l ≠ [] := by rintro rfl; simp [pack_nil] at hi
      rw [pack_of l hl]
      by_cases hlt : i < 8
      · rw [Nat.div_eq_of_lt hlt, Nat.mod_eq_of_lt hlt]
        simp only [List.getD_cons_zero, UInt8.toNat_ofNat']
        have h2 : byteOf (l.take 8) < 2 ^ 8 := Nat.lt_of_lt_of_le (byteOf_lt _) (Nat.pow_le_pow_right (by omega) (by simp; omega))
        rw [Nat.mod_eq_of_lt h2, byteOf_bit]
        simp [List.getD, hlt]
      · have e1 : i / 8 = (i - 8) / 8 + 1 := by omega
        have e2 : i % 8 = (i - 8) % 8 := by omega
        have hp := pack_of l hl
        rw [hp, e1] at hi
        rw [e1, e2, List.getD_cons_succ]
        have hll : 8 ≤ l.length := by
          rcases Nat.lt_or_ge l.length 8 with h8 | h8
          · rw [List.drop_of_length_le (by omega), pack_nil] at hi; simp at hi
          · exact h8
        rw [ih (l.drop 8).length (by simp; omega) (l.drop 8) (i - 8) (by simpa using hi) (by simp; omega) rfl]
        simp only [List.getD, List.getElem?_drop]
        congr 2
        omega

/-- The i-th bit as a number; 0 behind the end. -/
def bitN (l : List Bool) (i : Nat) : Nat := (l.getD i false).toNat
theorem bitN_le (l : List Bool) (i : Nat) : bitN l i ≤ 1 := by unfold bitN; cases l.getD i false <;> simp
/-- n bits from k on, the least significant one first. -/
def numV (l : List Bool) (k : Nat) : Nat → Nat
  | 0 => 0
  | n + 1 => numV l k n + bitN l (k + n) * 2 ^ n
/-- n bits from k on, the most significant one first. -/
def codeV (l : List Bool) (k : Nat) : Nat → Nat
  | 0 => 0
  | n + 1 => 2 * codeV l k n + bitN l (k + n)
theorem numV_lt (l : List Bool) (k n : Nat) : numV l k n < 2 ^ n := by
  induction n with
  | zero => simp [numV]
  | succ n ih =>
    have := bitN_le l (k + n)
    have h : bitN l (k + n) = 0 ∨ bitN l (k + n) = 1 := by omega
    rw [numV, Nat.pow_succ]
    rcases h with h | h <;> rw [h] <;> omega
theorem codeV_lt (l : List Bool) (k n : Nat) : codeV l k n < 2 ^ n := by
  induction n with
  | zero => simp [codeV]
  | succ n ih =>
    have := bitN_le l (k + n)
    rw [codeV, Nat.pow_succ]
    omega

/-- The bits b stand at place k. -/
def Stands (l : List Bool) (k : Nat) (b : List Bool) : Prop := ∀ i, i < b.length → l.getD (k + i) false = b.getD i false
theorem Stands.left {l b c : List Bool} {k : Nat} (h : Stands l k (b ++ c)) : Stands l k b := fun i hi => by
  rw [h i (by simp; omega)]
  simp only [List.getD, List.getElem?_append_left hi]
theorem Stands.right {l b c : List Bool} {k n : Nat} (h : Stands l k (b ++ c)) (hn : b.length = n) : Stands l (k + n) c := fun i hi => by
  subst hn
  have := h (b.length + i) (by simp; omega)
  rw [← Nat.add_assoc] at this
  rw [this]
  simp only [List.getD, List.getElem?_append_right (Nat.le_add_right _ _), Nat.add_sub_cancel_left]
theorem stands_refl (l : List Bool) : Stands l 0 l := fun i _ => by simp

theorem numV_stands {l : List Bool} {k n v : Nat} (h : Stands l k (numBits v n)) (hv : v < 2 ^ n) : numV l k n = v := by
  have key : ∀ m, m ≤ n → numV l k m = v % 2 ^ m := by
    intro m
    induction m with
    | zero => intro _; simp [numV, Nat.mod_one]
    | succ m ih =>
      intro hm
      have hb := h m (by rw [numBits_length]; omega)
      have : (numBits v n).getD m false = v.testBit m := by
        simp [numBits, List.getD, show m < n by omega]
      rw [this] at hb
      rw [numV, ih (by omega), bitN, hb, Nat.testBit_eq_decide_div_mod_eq]
      have e : v % 2 ^ (m + 1) = v % 2 ^ m + 2 ^ m * (v / 2 ^ m % 2) := by rw [Nat.pow_succ, Nat.mod_mul]
      rw [e]
      have : v / 2 ^ m % 2 < 2 := Nat.mod_lt _ (by decide)
      by_cases h1 : v / 2 ^ m % 2 = 1
      · simp [h1]
      · have : v / 2 ^ m % 2 = 0 := by omega
        simp [this]
  rw [key n (Nat.le_refl _), Nat.mod_eq_of_lt hv]

theorem codeBits_snoc (v n : Nat) : codeBits v (n + 1) = codeBits (v / 2) n ++ [v.testBit 0] := by
  unfold codeBits numBits
  rw [List.range_succ_eq_map, List.map_cons, List.reverse_cons, List.map_map]
  congr 2
  apply List.map_congr_left
  intro i _
  simp [Nat.testBit_succ]
theorem codeV_stands {l : List Bool} {k n v : Nat} (h : Stands l k (codeBits v n)) (hv : v < 2 ^ n) : codeV l k n = v := by
  induction n generalizing v with
  | zero => simp [codeV] at hv ⊢; omega
  | succ n ih =>
    rw [codeBits_snoc] at h
    have h1 := ih h.left (by rw [Nat.pow_succ] at hv; omega)
    have h2 := h.right (codeBits_length (v / 2) n) 0 (by simp)
    rw [codeV, h1]
    simp only [Nat.add_zero, List.getD_cons_zero] at h2
    rw [bitN, h2, Nat.testBit_zero]
    by_cases hb : v % 2 = 1
    · simp [hb]; omega
    · simp [hb]; omega

theorem codeV_succ (l : List Bool) (k n : Nat) : codeV l k (n + 1) = 2 * codeV l k n + bitN l (k + n) := rfl

/-- What the law's reader makes of the next symbol: its value and its number of bits. -/
def symV (l : List Bool) (k : Nat) : Nat × Nat :=
  if codeV l k 7 < 24 then (256 + codeV l k 7, 7)
  else if 48 ≤ codeV l k 8 ∧ codeV l k 8 < 192 then (codeV l k 8 - 48, 8)
  else if 192 ≤ codeV l k 8 ∧ codeV l k 8 < 200 then (codeV l k 8 - 192 + 280, 8)
  else (codeV l k 9 + 144 - 400, 9)

theorem symV_stands {l : List Bool} {k v : Nat} (h : Stands l k (symBits v)) (hv : v < 288) : symV l k = (v, (symBits v).length) := by
  unfold symBits at h ⊢
  by_cases h1 : v < 144
  · rw [if_pos h1] at h ⊢
    have c8 := codeV_stands h (by omega)
    have c7 : codeV l k 7 = (48 + v) / 2 := by have h8 : codeV l k 8 = 2 * codeV l k 7 + bitN l (k + 7) := rfl; have := bitN_le l (k + 7); omega
    unfold symV
    rw [c7, c8, if_neg (by omega), if_pos (by omega), codeBits_length, show 48 + v - 48 = v by omega]
  rw [if_neg h1] at h ⊢
  by_cases h2 : v < 256
  · rw [if_pos h2] at h ⊢
    have c9 := codeV_stands h (by omega)
    have c8 : codeV l k 8 = (400 + v - 144) / 2 := by have h9 : codeV l k 9 = 2 * codeV l k 8 + bitN l (k + 8) := rfl; have := bitN_le l (k + 8); omega
    have c7 : codeV l k 7 = (400 + v - 144) / 2 / 2 := by have h8 : codeV l k 8 = 2 * codeV l k 7 + bitN l (k + 7) := rfl; have := bitN_le l (k + 7); omega
    unfold symV
    rw [c7, c8, c9, if_neg (by omega), if_neg (by omega), if_neg (by omega), codeBits_length, show 400 + v - 144 + 144 - 400 = v by omega]
  rw [if_neg h2] at h ⊢
  by_cases h3 : v < 280
  · rw [if_pos h3] at h ⊢
    have c7 := codeV_stands h (by omega)
    unfold symV
    rw [c7, if_pos (by omega), codeBits_length, show 256 + (v - 256) = v by omega]
  · rw [if_neg h3] at h ⊢
    have c8 := codeV_stands h (by omega)
    have c7 : codeV l k 7 = (192 + v - 280) / 2 := by have h8 : codeV l k 8 = 2 * codeV l k 7 + bitN l (k + 7) := rfl; have := bitN_le l (k + 7); omega
    unfold symV
    rw [c7, c8, if_neg (by omega), if_neg (by omega), if_pos (by omega), codeBits_length, show 192 + v - 280 - 192 + 280 = v by omega]

end Go.Proofs.Ytppfjofaegbbjaa
