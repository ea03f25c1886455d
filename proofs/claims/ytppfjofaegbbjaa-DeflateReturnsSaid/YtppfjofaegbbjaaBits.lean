/-
  Plain lemmas: bits packed into bytes, the least significant bit first.
-/
namespace Go.Proofs.Ytppfjofaegbbjaa

def byteOf : List Bool → Nat
  | [] => 0
  | b :: t => b.toNat + 2 * byteOf t

theorem byteOf_lt (l : List Bool) : byteOf l < 2 ^ l.length := by
  induction l with
  | nil => simp [byteOf]
  | cons b t ih =>
    simp only [byteOf, List.length_cons, Nat.pow_succ]
    cases b <;> simp <;> omega

theorem byteOf_snoc (l : List Bool) (b : Bool) : byteOf (l ++ [b]) = byteOf l + b.toNat * 2 ^ l.length := by
  induction l with
  | nil => simp [byteOf]
  | cons c t ih =>
    simp only [List.cons_append, byteOf, ih, List.length_cons, Nat.pow_succ]
    rw [Nat.mul_add, ← Nat.add_assoc]
    congr 1
    rw [Nat.mul_left_comm, Nat.mul_comm 2 (2 ^ t.length)]

theorem byteOf_bit (l : List Bool) (i : Nat) : (byteOf l).testBit i = l.getD i false := by
  induction l generalizing i with
  | nil => simp [byteOf]
  | cons b t ih =>
    cases i with
    | zero => cases b <;> simp [byteOf, Nat.testBit_zero] <;> omega
    | succ i =>
      rw [Nat.testBit_succ]
      have : (b.toNat + 2 * byteOf t) / 2 = byteOf t := by cases b <;> simp <;> omega
      simp only [byteOf, this, ih]
      simp

def pack (l : List Bool) : List UInt8 :=
  if l.length = 0 then [] else UInt8.ofNat (byteOf (l.take 8)) :: pack (l.drop 8)
termination_by l.length
decreasing_by simp; omega

theorem pack_nil : pack [] = [] := by rw [pack]; simp
theorem pack_of (l : List Bool) (h : l ≠ []) : pack l = UInt8.ofNat (byteOf (l.take 8)) :: pack (l.drop 8) := by
  rw [pack, if_neg (by simpa using h)]

theorem pack_length (l : List Bool) : (pack l).length = (l.length + 7) / 8 := by
  induction h : l.length using Nat.strongRecOn generalizing l with
  | _ n ih =>
    by_cases hl : l = []
    · subst hl; simp at h; subst h; simp [pack_nil]
    · have hp : 0 < l.length := List.length_pos_iff.2 hl
      rw [pack_of l hl, List.length_cons, ih (l.drop 8).length (by simp; omega) _ rfl, List.length_drop]
      omega

theorem pack_snoc_new (l : List Bool) (b : Bool) (h8 : l.length % 8 = 0) : pack (l ++ [b]) = pack l ++ [UInt8.ofNat b.toNat] := by
  induction h : l.length using Nat.strongRecOn generalizing l with
  | _ n ih =>
    by_cases hl : l = []
    · subst hl
      rw [pack_of _ (by simp)]; simp [pack_nil, byteOf]
    · have hp : 0 < l.length := List.length_pos_iff.2 hl
      have h8' : 8 ≤ l.length := by omega
      rw [pack_of _ (by simp), pack_of l hl, List.take_append_of_le_length h8', List.drop_append_of_le_length h8', ih (l.drop 8).length (by simp; omega) _ (by simp; omega) rfl]
      simp

theorem pack_snoc_old (l : List Bool) (b : Bool) (h8 : l.length % 8 ≠ 0) : ∃ init last, pack l = init ++ [last] ∧ last.toNat < 2 ^ (l.length % 8) ∧
    pack (l ++ [b]) = init ++ [UInt8.ofNat (last.toNat + b.toNat * 2 ^ (l.length % 8))] := by
  induction h : l.length using Nat.strongRecOn generalizing l with
  | _ n ih =>
    subst h
    have hl : l ≠ [] := by rintro rfl; simp at h8
    by_cases hlt : l.length < 8
    · refine ⟨[], UInt8.ofNat (byteOf l), ?_, ?_, ?_⟩
      · rw [pack_of l hl, List.take_of_length_le (by omega), List.drop_of_length_le (by omega), pack_nil]; rfl
      · have := byteOf_lt l
        rw [Nat.mod_eq_of_lt hlt, UInt8.toNat_ofNat']
        exact Nat.lt_of_le_of_lt (Nat.mod_le _ _) this
      · rw [pack_of _ (by simp), List.take_of_length_le (by simp; omega), List.drop_of_length_le (by simp; omega), pack_nil, byteOf_snoc, Nat.mod_eq_of_lt hlt, UInt8.toNat_ofNat']
        have h2 : byteOf l < 256 := Nat.lt_of_lt_of_le (byteOf_lt l) (by
          have : 2 ^ l.length ≤ 2 ^ 8 := Nat.pow_le_pow_right (by omega) (by omega)
          simpa using this)
        rw [Nat.mod_eq_of_lt (by simpa using h2)]; rfl
    · have h8' : 8 ≤ l.length := by omega
      obtain ⟨init, last, h1, h2, h3⟩ := ih (l.drop 8).length (by simp; omega) (l.drop 8) (by simp; omega) rfl
      have hm : (l.drop 8).length % 8 = l.length % 8 := by simp; omega
      rw [hm] at h2 h3
      refine ⟨UInt8.ofNat (byteOf (l.take 8)) :: init, last, ?_, h2, ?_⟩
      · rw [pack_of l hl, h1]; rfl
      · rw [pack_of _ (by simp), List.take_append_of_le_length h8', List.drop_append_of_le_length h8', h3]; rfl

theorem pack_bit (l : List Bool) (i : Nat) (hi : i < l.length) : ((pack l).getD (i / 8) 0).toNat.testBit (i % 8) = l[i] := by
  induction h : l.length using Nat.strongRecOn generalizing l i with
  | _ n ih =>
    subst h
    have hl : l ≠ [] := by rintro rfl; simp at hi
    rw [pack_of l hl]
    by_cases hlt : i < 8
    · rw [Nat.div_eq_of_lt hlt, Nat.mod_eq_of_lt hlt]
      simp only [List.getD_cons_zero, UInt8.toNat_ofNat']
      have h2 : byteOf (l.take 8) < 2 ^ 8 := Nat.lt_of_lt_of_le (byteOf_lt _) (Nat.pow_le_pow_right (by omega) (by simp; omega))
      rw [Nat.mod_eq_of_lt h2, byteOf_bit]
      simp [List.getD, hlt, hi]
    · have e1 : i / 8 = (i - 8) / 8 + 1 := by omega
      have e2 : i % 8 = (i - 8) % 8 := by omega
      rw [e1, e2, List.getD_cons_succ]
      rw [ih (l.drop 8).length (by simp; omega) (l.drop 8) (i - 8) (by simp; omega) rfl]
      simp
      congr 1
      omega

/-- The bits of a number, the least significant one first. -/
def numBits (v n : Nat) : List Bool := (List.range n).map fun i => v.testBit i
/-- The bits of a code, the most significant one first. -/
def codeBits (v n : Nat) : List Bool := (numBits v n).reverse
theorem numBits_length (v n : Nat) : (numBits v n).length = n := by simp [numBits]
theorem codeBits_length (v n : Nat) : (codeBits v n).length = n := by simp [codeBits, numBits]
theorem numBits_succ (v n : Nat) : numBits v (n + 1) = numBits v n ++ [v.testBit n] := by simp [numBits, List.range_succ]
theorem codeBits_succ (v n : Nat) : codeBits v (n + 1) = v.testBit n :: codeBits v n := by simp [codeBits, numBits_succ]

end Go.Proofs.Ytppfjofaegbbjaa
