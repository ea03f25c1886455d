/-
  Plain laws: stored blocks.
-/
import Derived.Test.YthbejefodelpkaaGreatZI8
namespace Go.Proofs.YthbejefodelpkaaGreat
open Go.RowKit

/-- A stored block. -/
def blockP (l : List UInt8) (last : Bool) : List UInt8 :=
  [UInt8.ofNat last.toNat, UInt8.ofNat l.length, UInt8.ofNat (l.length / 256), UInt8.ofNat (65535 - l.length), UInt8.ofNat ((65535 - l.length) / 256)] ++ l
theorem blockP_length (l : List UInt8) (last : Bool) : (blockP l last).length = 5 + l.length := by simp [blockP]; omega
theorem four_list (a b c d : UInt8) (t : List UInt8) : byteOf ((unp (a :: b :: c :: d :: t)).take 32) = a.toNat + 256 * b.toNat + 65536 * (c.toNat + 256 * d.toNat) := by
  rw [show (32 : Nat) = 8 * 4 from rfl, unp_take]
  simp only [List.take_succ_cons, List.take_zero]
  rw [unp_cons, unp_cons, unp_cons, unp_cons]
  have e : unp [] = [] := rfl
  rw [e, List.append_nil]
  simp only [byteOf_append, numBits_length, byteOf_numBits _ _ (UInt8.toNat_lt _)]
  omega
theorem unp_append (a b : List UInt8) : unp (a ++ b) = unp a ++ unp b := by simp [unp]
/-- A stored block is read as its bytes. -/
theorem blk_block (M : Nat) (out l rest : List UInt8) (last : Bool) (hl : l.length ≤ 65535) (hM : out.length + l.length ≤ M) :
    blkT M out (unp (blockP l last ++ rest)) = .ok (last, out ++ l, unp rest) := by
  have e : blockP l last ++ rest = UInt8.ofNat last.toNat :: (UInt8.ofNat l.length :: UInt8.ofNat (l.length / 256) :: UInt8.ofNat (65535 - l.length) :: UInt8.ofNat ((65535 - l.length) / 256) :: (l ++ rest)) := by simp [blockP]
  obtain ⟨T, hT⟩ : ∃ T, T = UInt8.ofNat l.length :: UInt8.ofNat (l.length / 256) :: UInt8.ofNat (65535 - l.length) :: UInt8.ofNat ((65535 - l.length) / 256) :: (l ++ rest) := ⟨_, rfl⟩
  rw [e, ← hT, unp_cons]
  have hb : numBits (UInt8.ofNat last.toNat).toNat 8 = [last, false, false, false, false, false, false, false] := by cases last <;> rfl
  rw [hb]
  have hTl : (unp T).length = 8 * (4 + (l.length + rest.length)) := by rw [unp_length, hT]; simp; omega
  have n1 : numT ([last, false, false, false, false, false, false, false] ++ unp T) 1 = .ok (last.toNat, [false, false, false, false, false, false, false] ++ unp T) := by
    unfold numT
    rw [if_neg (by simp)]
    simp [byteOf]
  have n2 : numT ([false, false, false, false, false, false, false] ++ unp T) 2 = .ok (0, [false, false, false, false, false] ++ unp T) := by
    unfold numT
    rw [if_neg (by simp)]
    simp [byteOf]
  have hsto : stoT M out ([false, false, false, false, false] ++ unp T) = .ok (out ++ l, unp rest) := by
    have hd : ([false, false, false, false, false] ++ unp T).drop (([false, false, false, false, false] ++ unp T).length % 8) = unp T := by
      rw [show ([false, false, false, false, false] ++ unp T).length % 8 = 5 from by rw [List.length_append, hTl]; simp]
      rfl
    unfold stoT
    rw [hd]
    have n3 : numT (unp T) 32 = .ok (l.length + 65536 * (65535 - l.length), unp (l ++ rest)) := by
      unfold numT
      rw [if_neg (by omega), hT, four_list]
      have h32 : (unp (UInt8.ofNat l.length :: UInt8.ofNat (l.length / 256) :: UInt8.ofNat (65535 - l.length) :: UInt8.ofNat ((65535 - l.length) / 256) :: (l ++ rest))).drop 32 = unp (l ++ rest) := by
        rw [show (32 : Nat) = 8 * 4 from rfl, unp_drop]
        rfl
      rw [h32]
      simp only [UInt8.toNat_ofNat']
      congr 2
      omega
    rw [n3]
    simp only
    have e1 : (l.length + 65536 * (65535 - l.length)) % 65536 = l.length := by omega
    have e2 : (l.length + 65536 * (65535 - l.length)) / 65536 = 65535 - l.length := by omega
    rw [e1, e2, if_neg (by omega), if_neg (by rw [unp_length]; simp), if_neg (by omega), unp_take, unp_drop, pack_unp]
    simp
  unfold blkT
  rw [n1]
  simp only
  rw [n2]
  simp only
  rw [if_pos trivial, hsto]
  cases last <;> rfl
theorem inf_block (M : Nat) (l rest : List UInt8) (hl : l.length ≤ 65535) (hM : l.length ≤ M) : infP M (blockP l true ++ rest) = .ok (l, 5 + l.length) := by
  unfold infP
  have h : infGo M (8 * (blockP l true ++ rest).length + 1) [] (unp (blockP l true ++ rest)) = .ok (l, unp rest) := by
    unfold infGo
    rw [blk_block M [] l rest true hl (by simpa using hM)]
    rfl
  rw [h]
  simp only
  rw [unp_length, List.length_append, blockP_length]
  congr 3
  omega
theorem inf_blocks (M : Nat) (a b rest : List UInt8) (ha : a.length ≤ 65535) (hb : b.length ≤ 65535) (hM : a.length + b.length ≤ M) : infP M (blockP a false ++ blockP b true ++ rest) = .ok (a ++ b, 10 + a.length + b.length) := by
  unfold infP
  have h : infGo M (8 * (blockP a false ++ blockP b true ++ rest).length + 1) [] (unp (blockP a false ++ blockP b true ++ rest)) = .ok (a ++ b, unp rest) := by
    rw [List.append_assoc]
    obtain ⟨f, hf⟩ : ∃ f, 8 * (blockP a false ++ (blockP b true ++ rest)).length = f + 1 := ⟨8 * (blockP a false ++ (blockP b true ++ rest)).length - 1, by rw [List.length_append, blockP_length]; omega⟩
    rw [hf]
    unfold infGo
    rw [blk_block M [] a (blockP b true ++ rest) false ha (by simp; omega)]
    simp only [List.nil_append, Bool.false_eq_true, if_false]
    unfold infGo
    rw [blk_block M a b rest true hb (by omega)]
    rfl
  rw [h]
  simp only
  rw [unp_length, List.length_append, List.length_append, blockP_length, blockP_length]
  congr 3
  omega
theorem inf_cut (M : Nat) (a : List UInt8) (ha : a.length ≤ 65535) (hM : a.length ≤ M) : infP M (blockP a false) = .error 5 := by
  unfold infP
  have h : infGo M (8 * (blockP a false).length + 1) [] (unp (blockP a false)) = .error 5 := by
    obtain ⟨f, hf⟩ : ∃ f, 8 * (blockP a false).length = f + 1 := ⟨8 * (blockP a false).length - 1, by rw [blockP_length]; omega⟩
    rw [hf]
    unfold infGo
    have := blk_block M [] a [] false ha (by simpa using hM)
    rw [List.append_nil] at this
    rw [this]
    simp only [List.nil_append, Bool.false_eq_true, if_false]
    unfold infGo
    rfl
  rw [h]
end Go.Proofs.YthbejefodelpkaaGreat
