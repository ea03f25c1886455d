/-
  Plain laws: what the decoder makes of the stored form and of the form with fixed codes.
  The law DeflateReturns: what a decoder makes of all forms of any text is the text.
-/
import Derived.Test.YthbejefodelpkaaGreatZB
import Derived.Test.YthbejefodelpkaaGreatZK5
import Derived.Test.YthbejefodelpkaaGreatZC
import Derived.Test.YthbejefodelpkaaGreatZK
namespace Go.Proofs.YthbejefodelpkaaGreat

theorem symGo_append (ls : List Nat) (f n c : Nat) (b0 b r : List Bool) (s : Nat) (h : symGo ls f n c b0 = .ok (s, r)) : symGo ls f n c (b0 ++ b) = .ok (s, r ++ b) := by
  induction f generalizing n c b0 with
  | zero => cases h
  | succ f ih =>
    cases b0 with
    | nil => cases h
    | cons x b0 =>
      rw [List.cons_append]
      unfold symGo at h ⊢
      split at h
      · rename_i hc
        cases h
        rw [if_pos hc]
      · rename_i hc
        rw [if_neg hc]
        split at h
        · cases h
        · rename_i h2
          rw [if_neg h2]
          exact ih _ _ _ h
def symOk (ls : List Nat) (b : List Bool) (v : Nat) : Bool := match symT ls b with
  | .ok (s, []) => s == v
  | _ => false
theorem symOk_of {ls : List Nat} {b : List Bool} {v : Nat} (h : symOk ls b v = true) (r : List Bool) : symT ls (b ++ r) = .ok (v, r) := by
  have h1 : symT ls b = .ok (v, []) := by
    unfold symOk at h
    split at h
    · rename_i s hs
      rw [hs]
      have : s = v := by simpa using h
      rw [this]
    · cases h
  exact symGo_append ls _ 0 0 b r [] v h1
theorem symOk_fix : ((List.range 288).all fun v => symOk fixL (symBits v) v) = true := by decide +kernel
theorem symOk_dis : ((List.range 32).all fun v => symOk fixD (codeBits v 5) v) = true := by decide +kernel
theorem sym_fix (v : Nat) (r : List Bool) (h : v < 288) : symT fixL (symBits v ++ r) = .ok (v, r) := symOk_of (List.all_eq_true.1 symOk_fix v (List.mem_range.2 h)) r
theorem sym_dis (v : Nat) (r : List Bool) (h : v < 32) : symT fixD (codeBits v 5 ++ r) = .ok (v, r) := symOk_of (List.all_eq_true.1 symOk_dis v (List.mem_range.2 h)) r
theorem num_num (v n : Nat) (r : List Bool) (h : v < 2 ^ n) : numT (numBits v n ++ r) n = .ok (v, r) := by
  unfold numT
  rw [if_neg (by simp [numBits_length]), List.take_left' (numBits_length v n), List.drop_left' (numBits_length v n), byteOf_numBits _ _ h]
theorem lenB_sym (n : Nat) (h0 : 3 ≤ n) (h1 : n ≤ 258) : lenB (lenSym n).1 = ((lenSym n).2.1, (lenSym n).2.2) := by
  have key : ∀ n : Fin 259, 3 ≤ n.val → lenB (lenSym n.val).1 = ((lenSym n.val).2.1, (lenSym n.val).2.2) := by decide +kernel
  exact key ⟨n, by omega⟩ h0
theorem disB_sym (d : Nat) (h0 : 1 ≤ d) (h1 : d ≤ 4096) : disB (distSym d).1 = ((distSym d).2.1, (distSym d).2.2) := by
  have key : ∀ a : Fin 65, ∀ b : Fin 64, 1 ≤ 64 * a.val + b.val → 64 * a.val + b.val ≤ 4096 → disB (distSym (64 * a.val + b.val)).1 = ((distSym (64 * a.val + b.val)).2.1, (distSym (64 * a.val + b.val)).2.2) := by decide +kernel
  have h := key ⟨d / 64, by omega⟩ ⟨d % 64, by omega⟩
  have e : 64 * (d / 64) + d % 64 = d := by omega
  simp only [e] at h
  exact h h0 h1
theorem copyB_take (l : List UInt8) (n d p : Nat) (h1 : 1 ≤ d) (hd : d ≤ p) (hp : p + n ≤ l.length) (h : ∀ i, i < n → at8 l (p - d + i) = at8 l (p + i)) : copyB (l.take p) n d = l.take (p + n) := by
  induction n generalizing p with
  | zero => rfl
  | succ n ih =>
    have hlen : (l.take p).length = p := by rw [List.length_take]; omega
    have hg : (l.take p).getD (p - d) 0 = l[p]'(by omega) := by
      have h0 := h 0 (by omega)
      simp only [Nat.add_zero, at8] at h0
      rw [show l.getD p 0 = l[p]'(by omega) from by simp [List.getD, show p < l.length by omega]] at h0
      rw [← h0]
      simp only [List.getD, List.getElem?_take, if_pos (show p - d < p by omega)]
    have hs : l.take p ++ [(l.take p).getD ((l.take p).length - d) 0] = l.take (p + 1) := by
      rw [hlen, hg, List.take_succ_eq_append_getElem (by omega)]
    show copyB (l.take p ++ [(l.take p).getD ((l.take p).length - d) 0]) n d = _
    rw [hs, ih (p + 1) (by omega) (by omega) fun i hi => ?_]
    · congr 1; omega
    · have := h (i + 1) (by omega)
      rw [show p + 1 - d + i = p - d + (i + 1) from by omega, show p + 1 + i = p + (i + 1) from by omega]
      exact this
theorem mat_match (M : Nat) (out : List UInt8) (n d : Nat) (r : List Bool) (h0 : 3 ≤ n) (h1 : n ≤ 258) (h2 : 1 ≤ d) (h3 : d ≤ 4096) (ho : d ≤ out.length) (hM : out.length + n ≤ M) :
    matT fixD M out (lenSym n).1 (numBits (n - (lenSym n).2.1) (lenSym n).2.2 ++ (codeBits (distSym d).1 5 ++ (numBits (d - (distSym d).2.1) (distSym d).2.2 ++ r))) = .ok (copyB out n d, r) := by
  have a := lenSym_ok n h0 h1
  have b := distSym_ok d h2 h3
  have e1 : (lenSym n).2.1 + (n - (lenSym n).2.1) = n := by omega
  have e2 : (distSym d).2.1 + (d - (distSym d).2.1) = d := by omega
  unfold matT
  rw [lenB_sym n h0 h1]
  dsimp only
  rw [num_num _ _ _ (by omega)]
  dsimp only
  rw [sym_dis _ _ (by omega)]
  dsimp only
  rw [if_neg (by omega), disB_sym d h2 h3]
  dsimp only
  rw [num_num _ _ _ (by omega)]
  dsimp only
  rw [e1, e2, if_neg (by omega), if_neg (by omega)]
theorem dat_lit (ll dl : List Nat) (M f : Nat) (out : List UInt8) (b b1 : List Bool) (s : Nat) (h : symT ll b = .ok (s, b1)) (hs : s < 256) (hm : out.length < M) : datGo ll dl M (f + 1) out b = datGo ll dl M f (out ++ [UInt8.ofNat s]) b1 := by
  rw [datGo, h]
  dsimp only
  rw [if_pos hs, if_neg (by omega)]
theorem dat_end (ll dl : List Nat) (M f : Nat) (out : List UInt8) (b b1 : List Bool) (h : symT ll b = .ok (256, b1)) : datGo ll dl M (f + 1) out b = .ok (out, b1) := by
  rw [datGo, h]
  dsimp only
  rw [if_neg (by omega), if_pos rfl]
theorem dat_mat (ll dl : List Nat) (M f : Nat) (out o : List UInt8) (b b1 b2 : List Bool) (s : Nat) (h : symT ll b = .ok (s, b1)) (h1 : 257 ≤ s) (h2 : s ≤ 285) (hm : matT dl M out s b1 = .ok (o, b2)) : datGo ll dl M (f + 1) out b = datGo ll dl M f o b2 := by
  rw [datGo, h]
  dsimp only
  rw [if_neg (by omega), if_neg (by omega), if_neg (by omega), hm]
theorem symBits_pos (v : Nat) : 7 ≤ (symBits v).length := by
  unfold symBits
  split
  · simp [codeBits_length]
  · split
    · simp [codeBits_length]
    · split <;> simp [codeBits_length]
theorem tok_pos1 (l : List UInt8) (p : Nat) : 1 ≤ (tok l p).1.length := by
  unfold tok
  split
  · have := symBits_pos (at8 l p).toNat; simp only; omega
  · have := symBits_pos (lenSym (matchP l p).1).1
    simp only [matchBits, List.length_append]; omega
/-- The data of the block with fixed codes are read as the text. -/
theorem dat_fixed (l : List UInt8) (M : Nat) (hM : l.length ≤ M) (k : Nat) : ∀ p f r, l.length - p = k → p ≤ l.length → (fixedGo l (l.length - p) p).length < f →
    datGo fixL fixD M f (l.take p) (fixedGo l (l.length - p) p ++ (symBits 256 ++ r)) = .ok (l, r) := by
  induction k using Nat.strongRecOn with
  | _ k ih =>
    intro p f r hk hp hf
    obtain ⟨f, rfl⟩ : ∃ g, f = g + 1 := ⟨f - 1, by omega⟩
    by_cases hlt : p < l.length
    · have ht := tok_pos l p hlt
      have ht1 := tok_pos1 l p
      rw [fixedGo_step l p hlt] at hf ⊢
      rw [List.length_append] at hf
      have hnext := ih (l.length - (p + (tok l p).2)) (by omega) (p + (tok l p).2) f r rfl ht.2 (by omega)
      have hlen : (l.take p).length = p := by rw [List.length_take]; omega
      rw [List.append_assoc]
      rw [← hnext]
      generalize fixedGo l (l.length - (p + (tok l p).2)) (p + (tok l p).2) ++ (symBits 256 ++ r) = R
      unfold tok at ht ⊢
      by_cases hm : (matchP l p).1 = 0
      · simp only [if_pos hm]
        have h8 : (at8 l p).toNat < 256 := UInt8.toNat_lt _
        rw [dat_lit fixL fixD M f (l.take p) _ R _ (sym_fix _ R (by omega)) h8 (by omega)]
        have hs : l.take p ++ [UInt8.ofNat (at8 l p).toNat] = l.take (p + 1) := by
          rw [UInt8.ofNat_toNat, List.take_succ_eq_append_getElem hlt]
          simp [at8, List.getD, hlt]
        rw [hs]
      · simp only [if_neg hm]
        have hmo := matchP_ok l p hm
        have hls := lenSym_ok (matchP l p).1 (by omega) (by omega)
        unfold matchBits
        rw [List.append_assoc, List.append_assoc, List.append_assoc]
        rw [dat_mat fixL fixD M f (l.take p) _ _ _ R _ (sym_fix _ _ (by omega)) (by omega) (by omega) (mat_match M (l.take p) _ _ R (by omega) (by omega) (by omega) (by omega) (by omega) (by omega))]
        rw [copyB_take l _ _ p (by omega) (by omega) (by omega) hmo.2.2.2.2.2.2]
    · rw [fixedGo_end l p (by omega), List.nil_append, dat_end fixL fixD M f _ _ r (sym_fix 256 r (by omega)), List.take_of_length_le (by omega)]

theorem numBits_byteOf (b : List Bool) (n : Nat) (h : b.length ≤ n) : numBits (byteOf b) n = b ++ List.replicate (n - b.length) false := by
  apply List.ext_getElem
  · simp [numBits_length]; omega
  · intro i h1 h2
    rw [numBits_length] at h1
    simp only [numBits, List.getElem_map, List.getElem_range, byteOf_bit, List.getElem_append, List.getElem_replicate]
    split
    · rename_i hi; simp [List.getD, hi]
    · rename_i hi; simp [List.getD, show b.length ≤ i by omega]
theorem unp_pack (b : List Bool) : ∃ pad, unp (pack b) = b ++ pad := by
  induction h : b.length using Nat.strongRecOn generalizing b with
  | _ n ih =>
    subst h
    by_cases hb : b = []
    · subst hb; exact ⟨[], by rw [pack_nil]; rfl⟩
    · have hp : 0 < b.length := List.length_pos_iff.2 hb
      rw [pack_of b hb, unp_cons]
      have h2 : byteOf (b.take 8) < 2 ^ 8 := Nat.lt_of_lt_of_le (byteOf_lt _) (Nat.pow_le_pow_right (by omega) (by simp; omega))
      rw [UInt8.toNat_ofNat', Nat.mod_eq_of_lt h2, numBits_byteOf (b.take 8) 8 (by simp; omega)]
      by_cases h8 : 8 ≤ b.length
      · obtain ⟨pad, hpad⟩ := ih (b.drop 8).length (by simp; omega) (b.drop 8) rfl
        refine ⟨pad, ?_⟩
        rw [hpad, show 8 - (b.take 8).length = 0 from by simp; omega]
        simp only [List.replicate_zero, List.append_nil]
        rw [← List.append_assoc, List.take_append_drop]
      · rw [List.take_of_length_le (by omega), List.append_assoc]
        exact ⟨_, rfl⟩
theorem blk_fixed (l : List UInt8) (M : Nat) (hM : l.length ≤ M) (r : List Bool) : blkT M [] (fixedBits l ++ r) = .ok (true, l, r) := by
  have e : fixedBits l ++ r = numBits 1 1 ++ (numBits 1 2 ++ (fixedGo l (l.length - 0) 0 ++ (symBits 256 ++ r))) := by simp [fixedBits]
  unfold blkT
  rw [e, num_num 1 1 _ (by decide)]
  dsimp only
  rw [num_num 1 2 _ (by decide)]
  dsimp only
  have hd : datT fixL fixD M [] (fixedGo l (l.length - 0) 0 ++ (symBits 256 ++ r)) = .ok (l, r) := by
    unfold datT
    exact dat_fixed l M hM (l.length - 0) 0 _ r rfl (Nat.zero_le _) (by simp only [List.length_append]; omega)
  rw [if_neg (by decide), if_pos rfl, hd]
  rfl
theorem inf_fixed (M : Nat) (l rest : List UInt8) (hM : l.length ≤ M) : infP M (fixed l ++ rest) = .ok (l, (fixed l).length) := by
  obtain ⟨pad, hpad⟩ := unp_pack (fixedBits l)
  have hl := congrArg List.length hpad
  rw [unp_length, pack_length, List.length_append] at hl
  unfold infP
  have h : infGo M (8 * (fixed l ++ rest).length + 1) [] (unp (fixed l ++ rest)) = .ok (l, pad ++ unp rest) := by
    unfold infGo
    rw [unp_append, fixed, hpad, List.append_assoc, blk_fixed l M hM]
    rfl
  rw [h]
  dsimp only
  rw [List.length_append, List.length_append, unp_length, fixed, pack_length]
  congr 3
  omega
theorem ofNat8 (a b : Nat) (h : a % 256 = b % 256) : UInt8.ofNat a = UInt8.ofNat b := UInt8.toNat_inj.1 (by simp only [UInt8.toNat_ofNat']; exact h)
theorem hdr_block (l : List UInt8) (last : Bool) (h : l.length ≤ 65535) : hdr last.toNat l.length ++ l = blockP l last := by
  unfold hdr blockP
  rw [ofNat8 (255 - l.length % 256) (65535 - l.length) (by omega), ofNat8 (255 - l.length / 256 % 256) ((65535 - l.length) / 256) (by omega)]
theorem infGo_stored (M : Nat) (n : Nat) : ∀ (l out rest : List UInt8) (f : Nat), l.length = n → l.length < f → out.length + l.length ≤ M → infGo M f out (unp (stored l ++ rest)) = .ok (out ++ l, unp rest) := by
  induction n using Nat.strongRecOn with
  | _ n ih =>
    intro l out rest f hn hf hM
    obtain ⟨f, rfl⟩ : ∃ g, f = g + 1 := ⟨f - 1, by omega⟩
    rw [stored]
    by_cases hl : l.length ≤ 65535
    · have hh := hdr_block l true hl
      change hdr 1 l.length ++ l = _ at hh
      rw [if_pos hl, hh]
      unfold infGo
      rw [blk_block M out l rest true hl hM]
      rfl
    · have ht : (l.take 65535).length = 65535 := by rw [List.length_take]; omega
      have hh := hdr_block (l.take 65535) false (by omega)
      rw [ht] at hh
      change hdr 0 65535 ++ _ = _ at hh
      rw [if_neg hl, ← List.append_assoc (hdr 0 65535), hh, List.append_assoc]
      unfold infGo
      rw [blk_block M out (l.take 65535) _ false (by omega) (by omega)]
      simp only [Bool.false_eq_true, if_false]
      rw [ih (l.drop 65535).length (by rw [List.length_drop]; omega) (l.drop 65535) _ rest f rfl (by rw [List.length_drop]; omega) (by rw [List.length_append, List.length_drop, ht]; omega)]
      rw [List.append_assoc, List.take_append_drop]
theorem stored_ge (l : List UInt8) : l.length ≤ (stored l).length := by
  induction h : l.length using Nat.strongRecOn generalizing l with
  | _ n ih =>
    subst h
    rw [stored]
    by_cases hl : l.length ≤ 65535
    · rw [if_pos hl]; simp
    · have := ih (l.drop 65535).length (by rw [List.length_drop]; omega) (l.drop 65535) rfl
      rw [if_neg hl]
      simp only [List.length_append, List.length_take, List.length_drop] at this ⊢
      omega
theorem inf_stored (M : Nat) (l rest : List UInt8) (hM : l.length ≤ M) : infP M (stored l ++ rest) = .ok (l, (stored l).length) := by
  unfold infP
  have hg := stored_ge l
  rw [infGo_stored M l.length l [] rest _ rfl (by rw [List.length_append]; omega) (by simpa using hM)]
  dsimp only
  rw [unp_length, List.length_append]
  simp only [List.nil_append]
  congr 3
  omega
end Go.Proofs.YthbejefodelpkaaGreat
namespace Go.Proofs.YthbejefodelpkaaGreat
open Go.RowKit

theorem fixedGo_len29 (l : List UInt8) (f p : Nat) : (fixedGo l f p).length ≤ 29 * f := by
  induction f generalizing p with
  | zero => simp [fixedGo]
  | succ f ih =>
    unfold fixedGo
    split
    · have h1 := ih (p + (tok l p).2)
      have h2 := tok_bits l p
      rw [List.length_append]; omega
    · simp
theorem fixed_small (l : List UInt8) (h : l.length ≤ 1048576) : (fixed l).length ≤ 5000000 := by
  have h1 := fixedGo_len29 l l.length 0
  have h2 := symBits_length 256
  rw [fixed, pack_length, fixedBits]
  simp only [List.length_append, numBits_length]
  omega
theorem stored_small (l : List UInt8) (h : l.length ≤ 1048576) : (stored l).length ≤ 5000000 := by
  have h1 := stored_length l
  omega
theorem inf_best (M : Nat) (l rest : List UInt8) (hM : l.length ≤ M) : infP M (best l ++ rest) = .ok (l, (best l).length) := by
  unfold best
  split
  · exact inf_fixed M l rest hM
  · exact inf_stored M l rest hM
theorem be32_be4 (x : Nat) (h : x < 4294967296) : be32 (be4 x) = x := by
  unfold be32 be4
  simp only [List.getD_cons_zero, List.getD_cons_succ, UInt8.toNat_ofNat']
  omega
theorem zli_zlib (M : Nat) (l : List UInt8) (hM : l.length ≤ M) : zliP M (zlibP l) = .ok l := by
  have hd : (zlibP l).drop 2 = best l ++ be4 (adler l) := rfl
  have hd2 : (zlibP l).drop (2 + (best l).length) = be4 (adler l) := by
    rw [← List.drop_drop, hd, List.drop_left' rfl]
  have h4 : (be4 (adler l)).length = 4 := rfl
  unfold zliP
  rw [if_neg (by simp [zlibP]), if_neg (by simp [zlibP]; decide), hd, inf_best M l _ hM]
  dsimp only
  rw [hd2]
  unfold zliE
  rw [h4, if_neg (by omega), be32_be4 _ (adler_lt l), if_neg (by simp), if_neg (by omega)]

theorem back_any (s t : ByteArray) (hs : s.size ≤ 1048576) (ht : t.size ≤ 5000000) (h : infP s.size t.data.toList = .ok (s.data.toList, t.size)) (w : World) :
    Calls Tryz.prog 111 #[.string t, .int .i64 s.size] w fun e w' => e = .returned (.tuple #[.string s, .int .i64 t.size, .int .i64 0]) ∧ Below w.heap.size w w' := by
  refine (inflate_any t s.size w (by omega)).mono ?_
  rintro e w' ⟨he, hb⟩
  have hm : mostN (s.size : Int) = s.size := by unfold mostN; omega
  rw [hm, h] at he
  exact ⟨he, hb⟩
theorem zback_any (s t : ByteArray) (hs : s.size ≤ 1048576) (ht : t.size ≤ 5000006) (h : zliP s.size t.data.toList = .ok s.data.toList) (w : World) :
    Calls Tryz.prog 87 #[.string t, .int .i64 s.size] w fun e w' => e = .returned (.tuple #[.string s, .int .i64 0]) ∧ Below w.heap.size w w' := by
  refine (izlib_any t s.size w (by omega)).mono ?_
  rintro e w' ⟨he, hb⟩
  have hm : mostN (s.size : Int) = s.size := by unfold mostN; omega
  rw [hm, h] at he
  exact ⟨he, hb⟩

end Go.Proofs.YthbejefodelpkaaGreat
