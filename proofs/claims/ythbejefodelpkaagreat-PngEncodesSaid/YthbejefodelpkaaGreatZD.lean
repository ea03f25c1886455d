/-
  Plain definitions: what the layer inflate computes, over the bits that are left.
  Plain laws: canonical codes.
  Walk: a number of bits, in the program.
-/
import Derived.Test.YthbejefodelpkaaGreatZB
import Derived.Test.YthbejefodelpkaaGreatZA
import Derived.Test.YthbejefodelpkaaGreatProg
import Derived.Outline
import Derived.StillTailTactics
namespace Go.Proofs.YthbejefodelpkaaGreat

/-- The bits of a text, the least significant bit of each byte first. -/
def unp (l : List UInt8) : List Bool := l.flatMap fun c => numBits c.toNat 8
theorem unp_length (l : List UInt8) : (unp l).length = 8 * l.length := by
  induction l with
  | nil => rfl
  | cons c l ih => simp [unp, numBits_length] at ih ⊢; omega

/-- A number of n bits. -/
def numT (b : List Bool) (n : Nat) : Except Nat (Nat × List Bool) := if b.length < n then .error 5 else .ok (byteOf (b.take n), b.drop n)

/-- How many symbols have a code of n bits. -/
def cntC (ls : List Nat) (n : Nat) : Nat := if n = 0 then 0 else ls.count n
/-- The first code of n bits. -/
def fstC (ls : List Nat) : Nat → Nat
  | 0 => 0
  | n + 1 => 2 * (fstC ls n + cntC ls n)
def endC (ls : List Nat) (n : Nat) : Nat := fstC ls n + cntC ls n
/-- The greatest length of a code up to n. -/
def lngC (ls : List Nat) : Nat → Nat
  | 0 => 0
  | n + 1 => if cntC ls (n + 1) = 0 then lngC ls n else n + 1
/-- The symbols whose codes have n bits, in order. -/
def symsC (ls : List Nat) (n : Nat) : List Nat := (List.range ls.length).filter fun i => ls.getD i 0 == n
def symGo (ls : List Nat) : Nat → Nat → Nat → List Bool → Except Nat (Nat × List Bool)
  | 0, _, _, _ => .error 4
  | _ + 1, _, _, [] => .error 5
  | f + 1, n, code, x :: b =>
    if 2 * code + x.toNat < endC ls (n + 1) then .ok ((symsC ls (n + 1)).getD (2 * code + x.toNat - fstC ls (n + 1)) 0, b)
    else if endC ls (lngC ls 15) ≤ (2 * code + x.toNat) * 2 ^ (lngC ls 15 - (n + 1)) then .error 4
    else symGo ls f (n + 1) (2 * code + x.toNat) b
/-- The next symbol. -/
def symT (ls : List Nat) (b : List Bool) : Except Nat (Nat × List Bool) := symGo ls (lngC ls 15) 0 0 b

def lenB (s : Nat) : Nat × Nat := if s < 265 then (s - 254, 0) else if s = 285 then (258, 0) else (3 + (4 + (s - 265) % 4) * 2 ^ ((s - 261) / 4), (s - 261) / 4)
def disB (s : Nat) : Nat × Nat := if s < 4 then (s + 1, 0) else (1 + (2 + s % 2) * 2 ^ ((s - 2) / 2), (s - 2) / 2)

/-- n bytes that stand d bytes before, one after the other. -/
def copyB : List UInt8 → Nat → Nat → List UInt8
  | out, 0, _ => out
  | out, n + 1, d => copyB (out ++ [out.getD (out.length - d) 0]) n d

/-- What a match whose length has the symbol s makes. -/
def matT (dl : List Nat) (most : Nat) (out : List UInt8) (s : Nat) (b : List Bool) : Except Nat (List UInt8 × List Bool) :=
  match numT b (lenB s).2 with
  | .error e => .error e
  | .ok (x, b1) => match symT dl b1 with
    | .error e => .error e
    | .ok (t, b2) => if 29 < t then .error 4 else match numT b2 (disB t).2 with
      | .error e => .error e
      | .ok (y, b3) => if out.length < (disB t).1 + y then .error 4 else if most < out.length + ((lenB s).1 + x) then .error 3 else .ok (copyB out ((lenB s).1 + x) ((disB t).1 + y), b3)
def datGo (ll dl : List Nat) (most : Nat) : Nat → List UInt8 → List Bool → Except Nat (List UInt8 × List Bool)
  | 0, _, _ => .error 0
  | f + 1, out, b => match symT ll b with
    | .error e => .error e
    | .ok (s, b1) =>
      if s < 256 then (if most ≤ out.length then .error 3 else datGo ll dl most f (out ++ [UInt8.ofNat s]) b1)
      else if s = 256 then .ok (out, b1)
      else if 285 < s then .error 4
      else match matT dl most out s b1 with
        | .error e => .error e
        | .ok (o, b2) => datGo ll dl most f o b2
/-- The data of a block. -/
def datT (ll dl : List Nat) (most : Nat) (out : List UInt8) (b : List Bool) : Except Nat (List UInt8 × List Bool) := datGo ll dl most (b.length + 1) out b

def fixL : List Nat := List.replicate 144 8 ++ List.replicate 112 9 ++ List.replicate 24 7 ++ List.replicate 8 8
def fixD : List Nat := List.replicate 32 5
/-- The sum of code lengths, in units of 2^-15. -/
def sumC : List Nat → Nat
  | [] => 0
  | n :: l => (if n = 0 then 0 else 2 ^ (15 - n)) + sumC l
def ordC : List Nat := [16, 17, 18, 0, 8, 7, 9, 6, 10, 5, 11, 4, 12, 3, 13, 2, 14, 1, 15]
/-- The lengths of the code for code lengths. -/
def clGo : List Nat → List Nat → List Bool → Except Nat (List Nat × List Bool)
  | [], c, b => .ok (c, b)
  | o :: r, c, b => match numT b 3 with
    | .error e => .error e
    | .ok (x, b1) => clGo r (c.set o x) b1
/-- Code lengths written with a code: how often a value, and which, a symbol stands for. -/
def lstGo (cl : List Nat) (n : Nat) : Nat → List Nat → List Bool → Except Nat (List Nat × List Bool)
  | 0, _, _ => .error 0
  | f + 1, acc, b =>
    if n ≤ acc.length then (if acc.length = n then .ok (acc, b) else .error 4)
    else match symT cl b with
    | .error e => .error e
    | .ok (s, b1) =>
      if s = 16 then (if acc.length = 0 then .error 4 else match numT b1 2 with | .error e => .error e | .ok (x, b2) => lstGo cl n f (acc ++ List.replicate (3 + x) (acc.getD (acc.length - 1) 0)) b2)
      else if s = 17 then (match numT b1 3 with | .error e => .error e | .ok (x, b2) => lstGo cl n f (acc ++ List.replicate (3 + x) 0) b2)
      else if s = 18 then (match numT b1 7 with | .error e => .error e | .ok (x, b2) => lstGo cl n f (acc ++ List.replicate (11 + x) 0) b2)
      else lstGo cl n f (acc ++ [s]) b1
def lstT (cl : List Nat) (n : Nat) (b : List Bool) : Except Nat (List Nat × List Bool) := lstGo cl n (n + 1) [] b
def usedC (l : List Nat) : Nat := l.countP (· != 0)
/-- The codes of a dynamic block. -/
def dynT (b : List Bool) : Except Nat ((List Nat × List Nat) × List Bool) :=
  match numT b 5 with
  | .error e => .error e
  | .ok (h, b1) => match numT b1 5 with
    | .error e => .error e
    | .ok (d, b2) => match numT b2 4 with
      | .error e => .error e
      | .ok (k, b3) =>
        if 29 < h ∨ 29 < d then .error 4 else
        match clGo (ordC.take (k + 4)) (List.replicate 19 0) b3 with
        | .error e => .error e
        | .ok (cl, b4) =>
          if sumC cl ≠ 32768 then .error 4 else
          match lstT cl (h + 257 + d + 1) b4 with
          | .error e => .error e
          | .ok (all, b5) =>
            if sumC (all.take (h + 257)) ≠ 32768 ∨ all.getD 256 0 = 0 then .error 4
            else if sumC (all.drop (h + 257)) = 32768 ∨ usedC (all.drop (h + 257)) = 0 ∨ usedC (all.drop (h + 257)) = 1 ∧ sumC (all.drop (h + 257)) = 16384 then .ok ((all.take (h + 257), all.drop (h + 257)), b5)
            else .error 4
/-- A stored block; the bits left begin behind its header. -/
def stoT (most : Nat) (out : List UInt8) (b : List Bool) : Except Nat (List UInt8 × List Bool) :=
  match numT (b.drop (b.length % 8)) 32 with
  | .error e => .error e
  | .ok (x, b1) =>
    if x % 65536 + x / 65536 ≠ 65535 then .error 4
    else if b1.length < 8 * (x % 65536) then .error 5
    else if most < out.length + x % 65536 then .error 3
    else .ok (out ++ pack (b1.take (8 * (x % 65536))), b1.drop (8 * (x % 65536)))
/-- A block: whether it is the last one. -/
def blkT (most : Nat) (out : List UInt8) (b : List Bool) : Except Nat (Bool × List UInt8 × List Bool) :=
  match numT b 1 with
  | .error e => .error e
  | .ok (l, b1) => match numT b1 2 with
    | .error e => .error e
    | .ok (k, b2) =>
      match (if k = 0 then stoT most out b2 else if k = 1 then datT fixL fixD most out b2 else if k = 2 then (match dynT b2 with | .error e => .error e | .ok ((ll, dl), b3) => datT ll dl most out b3) else .error 4) with
      | .error e => .error e
      | .ok (o, b3) => .ok (l == 1, o, b3)
def infGo (most : Nat) : Nat → List UInt8 → List Bool → Except Nat (List UInt8 × List Bool)
  | 0, _, _ => .error 0
  | f + 1, out, b => match blkT most out b with
    | .error e => .error e
    | .ok (last, o, b1) => if last then .ok (o, b1) else infGo most f o b1
/-- The output of a stream and the number of its bytes, or the error. -/
def infP (most : Nat) (l : List UInt8) : Except Nat (List UInt8 × Nat) :=
  match infGo most (8 * l.length + 1) [] (unp l) with
  | .error e => .error e
  | .ok (o, b) => .ok (o, (8 * l.length - b.length + 7) / 8)

theorem numT_ok {b b' : List Bool} {n x : Nat} (h : numT b n = .ok (x, b')) : n ≤ b.length ∧ b' = b.drop n ∧ x = byteOf (b.take n) ∧ x < 2 ^ n := by
  unfold numT at h
  split at h
  · cases h
  · cases h
    refine ⟨by omega, rfl, rfl, ?_⟩
    have := byteOf_lt (b.take n)
    rwa [show (b.take n).length = n from by simp; omega] at this
theorem symGo_len (ls : List Nat) (f n code : Nat) (b b' : List Bool) (s : Nat) (h : symGo ls f n code b = .ok (s, b')) : b'.length < b.length := by
  induction f generalizing n code b with
  | zero => cases h
  | succ f ih =>
    cases b with
    | nil => cases h
    | cons x b =>
      unfold symGo at h
      split at h
      · cases h; simp
      · split at h
        · cases h
        · have := ih _ _ _ h; simp; omega
theorem symT_len {ls : List Nat} {b b' : List Bool} {s : Nat} (h : symT ls b = .ok (s, b')) : b'.length < b.length := symGo_len _ _ _ _ _ _ _ h

end Go.Proofs.YthbejefodelpkaaGreat
namespace Go.Proofs.YthbejefodelpkaaGreat

theorem fstC_succ (ls : List Nat) (n : Nat) : fstC ls (n + 1) = 2 * endC ls n := rfl
theorem lngC_le (ls : List Nat) (n : Nat) : lngC ls n ≤ n := by
  induction n with
  | zero => exact Nat.le_refl _
  | succ n ih => unfold lngC; split <;> omega
theorem lngC_above (ls : List Nat) (n m : Nat) (h : lngC ls n < m) (hm : m ≤ n) : cntC ls m = 0 := by
  induction n with
  | zero => omega
  | succ n ih =>
    unfold lngC at h
    split at h
    · rename_i h0
      by_cases hmn : m = n + 1
      · rw [hmn]; exact h0
      · exact ih h (by omega)
    · omega
theorem lngC_pos (ls : List Nat) (n : Nat) (h : 0 < lngC ls n) : 0 < cntC ls (lngC ls n) := by
  induction n with
  | zero => simp [lngC] at h
  | succ n ih =>
    by_cases h0 : cntC ls (n + 1) = 0
    · have e : lngC ls (n + 1) = lngC ls n := by rw [lngC, if_pos h0]
      rw [e] at h ⊢; exact ih h
    · have e : lngC ls (n + 1) = n + 1 := by rw [lngC, if_neg h0]
      rw [e]; omega
theorem lngC_ge (ls : List Nat) (n m : Nat) (hm : m ≤ n) (h : 0 < cntC ls m) : m ≤ lngC ls n := by
  rcases Nat.lt_or_ge (lngC ls n) m with h1 | h1
  · have := lngC_above ls n m h1 hm; omega
  · exact h1
theorem endC_mono (ls : List Nat) (n k : Nat) : endC ls n * 2 ^ k ≤ endC ls (n + k) := by
  induction k with
  | zero => simp
  | succ k ih =>
    have e : endC ls (n + (k + 1)) = 2 * endC ls (n + k) + cntC ls (n + k + 1) := rfl
    rw [e, Nat.pow_succ, ← Nat.mul_assoc]
    omega
theorem endC_fst (ls : List Nat) (n k : Nat) : endC ls n * 2 ^ (k + 1) ≤ fstC ls (n + k + 1) := by
  rw [fstC_succ, Nat.pow_succ, ← Nat.mul_assoc]
  have := endC_mono ls n k
  omega

/-- Bits that are no code are the beginning of one just where the last code says so. -/
theorem begins_iff (ls : List Nat) (n c : Nat) (hn : n ≤ lngC ls 15) (hc : endC ls n ≤ c) :
    (∃ m, n < m ∧ m ≤ 15 ∧ ∃ y, fstC ls m ≤ y ∧ y < endC ls m ∧ y / 2 ^ (m - n) = c) ↔ c * 2 ^ (lngC ls 15 - n) < endC ls (lngC ls 15) := by
  have hl15 := lngC_le ls 15
  constructor
  · rintro ⟨m, h1, h2, y, h3, h4, h5⟩
    have hm : m ≤ lngC ls 15 := lngC_ge ls 15 m h2 (by unfold endC at h4; omega)
    have hy : c * 2 ^ (m - n) ≤ y := by rw [← h5]; exact Nat.div_mul_le_self _ _
    have e : c * 2 ^ (lngC ls 15 - n) = c * 2 ^ (m - n) * 2 ^ (lngC ls 15 - m) := by rw [Nat.mul_assoc, ← Nat.pow_add]; congr 2; omega
    have hmono := endC_mono ls m (lngC ls 15 - m)
    rw [show m + (lngC ls 15 - m) = lngC ls 15 from by omega] at hmono
    rw [e]
    refine Nat.lt_of_lt_of_le ?_ hmono
    exact Nat.mul_lt_mul_of_pos_right (by omega) (Nat.two_pow_pos _)
  · intro h
    generalize hL : lngC ls 15 = L at *
    -- the least length behind n at which the place lies before the end
    have key : ∀ k, n + k ≤ L → c * 2 ^ k < endC ls (n + k) → ∃ m, n < m ∧ m ≤ n + k ∧ fstC ls m ≤ c * 2 ^ (m - n) ∧ c * 2 ^ (m - n) < endC ls m := by
      intro k
      induction k with
      | zero => intro _ h0; simp at h0; omega
      | succ k ih =>
        intro hk hlt
        by_cases h1 : c * 2 ^ k < endC ls (n + k)
        · obtain ⟨m, a, b, d, e⟩ := ih (by omega) h1
          exact ⟨m, a, by omega, d, e⟩
        · refine ⟨n + k + 1, by omega, by omega, ?_, ?_⟩
          · rw [fstC_succ, show n + k + 1 - n = k + 1 from by omega, Nat.pow_succ, ← Nat.mul_assoc]; omega
          · rw [show n + k + 1 - n = k + 1 from by omega]; exact hlt
    obtain ⟨m, a, b, d, e⟩ := key (L - n) (by omega) (by rw [show n + (L - n) = L from by omega]; exact h)
    exact ⟨m, a, by omega, c * 2 ^ (m - n), d, e, Nat.mul_div_cancel _ (Nat.two_pow_pos _)⟩

/-- How many symbols before i have a code of the same length. -/
def rankC (ls : List Nat) (i : Nat) : Nat := (ls.take i).count (ls.getD i 0)
/-- The code of symbol i. -/
def codC (ls : List Nat) (i : Nat) : Nat := fstC ls (ls.getD i 0) + rankC ls i
def upC (ls : List Nat) (n i : Nat) : List Nat := (List.range i).filter fun j => ls.getD j 0 == n
theorem upC_succ (ls : List Nat) (n i : Nat) : upC ls n (i + 1) = upC ls n i ++ (if ls.getD i 0 = n then [i] else []) := by
  unfold upC
  rw [List.range_succ, List.filter_append]
  congr 1
  by_cases h : ls.getD i 0 = n
  · have hb : (ls.getD i 0 == n) = true := by simpa using h
    rw [if_pos h]; simp only [List.filter_cons, hb, if_true, List.filter_nil]
  · have hb : (ls.getD i 0 == n) = false := by simpa using h
    rw [if_neg h]; simp only [List.filter_cons, hb, List.filter_nil]; rfl
theorem upC_length (ls : List Nat) (n i : Nat) (hi : i ≤ ls.length) : (upC ls n i).length = (ls.take i).count n := by
  induction i with
  | zero => simp [upC]
  | succ i ih =>
    rw [upC_succ, List.length_append, ih (by omega), List.take_succ_eq_append_getElem (by omega), List.count_append]
    congr 1
    have e : ls.getD i 0 = ls[i] := by simp [List.getD, show i < ls.length by omega]
    rw [e]
    by_cases h : ls[i] = n
    · simp [h]
    · simp [h]
theorem upC_prefix (ls : List Nat) (n i k : Nat) : ∃ r, upC ls n (i + k) = upC ls n i ++ r := by
  induction k with
  | zero => exact ⟨[], by simp⟩
  | succ k ih =>
    obtain ⟨r, hr⟩ := ih
    exact ⟨r ++ _, by rw [← Nat.add_assoc, upC_succ, hr, List.append_assoc]⟩
theorem symsC_rank (ls : List Nat) (i : Nat) (hi : i < ls.length) : (symsC ls (ls.getD i 0))[rankC ls i]? = some i := by
  have e : symsC ls (ls.getD i 0) = upC ls (ls.getD i 0) (i + 1 + (ls.length - (i + 1))) := by
    rw [show i + 1 + (ls.length - (i + 1)) = ls.length from by omega]; rfl
  obtain ⟨r, hr⟩ := upC_prefix ls (ls.getD i 0) (i + 1) (ls.length - (i + 1))
  rw [e, hr, upC_succ, if_pos rfl, List.append_assoc]
  have hl := upC_length ls (ls.getD i 0) i (by omega)
  unfold rankC
  rw [← hl, List.getElem?_append_right (Nat.le_refl _), Nat.sub_self]
  rfl
theorem symsC_length (ls : List Nat) (n : Nat) (hn : n ≠ 0) : (symsC ls n).length = cntC ls n := by
  have := upC_length ls n ls.length (Nat.le_refl _)
  rw [List.take_length] at this
  unfold cntC
  rw [if_neg hn]
  exact this
theorem symsC_get (ls : List Nat) (n k : Nat) (hn : n ≠ 0) (hk : k < cntC ls n) : (symsC ls n).getD k 0 < ls.length ∧ ls.getD ((symsC ls n).getD k 0) 0 = n ∧ rankC ls ((symsC ls n).getD k 0) = k := by
  have hl := symsC_length ls n hn
  have hk' : k < (symsC ls n).length := by omega
  have e : (symsC ls n).getD k 0 = (symsC ls n)[k] := by simp [List.getD, hk']
  rw [e]
  have hm : (symsC ls n)[k] ∈ symsC ls n := List.getElem_mem hk'
  have hm' := List.mem_filter.1 hm
  have h1 : (symsC ls n)[k] < ls.length := List.mem_range.1 hm'.1
  have h2 : ls.getD (symsC ls n)[k] 0 = n := by simpa using hm'.2
  refine ⟨h1, h2, ?_⟩
  have h3 := symsC_rank ls _ h1
  rw [h2] at h3
  have hnd : (symsC ls n).Pairwise (· ≠ ·) := List.Pairwise.filter _ List.nodup_range
  have h4 : (symsC ls n)[k]? = some (symsC ls n)[k] := List.getElem?_eq_getElem hk'
  have h5 := List.getElem?_eq_some_iff.1 h3
  obtain ⟨h6, h7⟩ := h5
  have hp := List.pairwise_iff_getElem.1 hnd
  rcases Nat.lt_trichotomy (rankC ls (symsC ls n)[k]) k with hlt | heq | hgt
  · exact absurd h7 (hp _ _ h6 hk' hlt)
  · exact heq
  · exact absurd h7.symm (hp _ _ hk' h6 hgt)
theorem rank_lt (ls : List Nat) (i : Nat) (hi : i < ls.length) (h0 : ls.getD i 0 ≠ 0) : rankC ls i < cntC ls (ls.getD i 0) := by
  have h := symsC_rank ls i hi
  rw [← symsC_length ls _ h0]
  exact (List.getElem?_eq_some_iff.1 h).1
theorem cod_lt (ls : List Nat) (i : Nat) (hi : i < ls.length) (h0 : ls.getD i 0 ≠ 0) : codC ls i < endC ls (ls.getD i 0) := by
  have := rank_lt ls i hi h0
  unfold codC endC; omega
theorem cod_inj (ls : List Nat) (i j : Nat) (hi : i < ls.length) (hj : j < ls.length) (h : ls.getD i 0 = ls.getD j 0) (hc : codC ls i = codC ls j) : i = j := by
  have h1 := symsC_rank ls i hi
  have h2 := symsC_rank ls j hj
  unfold codC at hc
  rw [h] at hc
  have hr : rankC ls i = rankC ls j := by omega
  rw [h, hr] at h1
  rw [h1] at h2
  exact Option.some.inj h2
/-- The symbol with a code. -/
theorem cod_find (ls : List Nat) (n c : Nat) (hn : n ≠ 0) (h1 : fstC ls n ≤ c) (h2 : c < endC ls n) :
    (symsC ls n).getD (c - fstC ls n) 0 < ls.length ∧ ls.getD ((symsC ls n).getD (c - fstC ls n) 0) 0 = n ∧ codC ls ((symsC ls n).getD (c - fstC ls n) 0) = c := by
  obtain ⟨a, b, d⟩ := symsC_get ls n (c - fstC ls n) hn (by unfold endC at h2; omega)
  refine ⟨a, b, ?_⟩
  unfold codC
  rw [b, d]; omega
/-- No code is a beginning of another one. -/
theorem cod_prefix (ls : List Nat) (i j : Nat) (hi : i < ls.length) (hj : j < ls.length) (hij : i ≠ j) (h0 : 0 < ls.getD i 0) (hl : ls.getD i 0 ≤ ls.getD j 0) : codC ls j / 2 ^ (ls.getD j 0 - ls.getD i 0) ≠ codC ls i := by
  intro he
  by_cases h : ls.getD i 0 = ls.getD j 0
  · rw [h, Nat.sub_self, Nat.pow_zero, Nat.div_one] at he
    exact hij (cod_inj ls i j hi hj h he.symm)
  · obtain ⟨k, hk⟩ : ∃ k, ls.getD j 0 = ls.getD i 0 + k + 1 := ⟨ls.getD j 0 - ls.getD i 0 - 1, by omega⟩
    have h1 := endC_fst ls (ls.getD i 0) k
    have h2 := cod_lt ls i hi (by omega)
    have h3 : fstC ls (ls.getD j 0) ≤ codC ls j := by unfold codC; omega
    rw [← hk] at h1
    have h4 : endC ls (ls.getD i 0) ≤ codC ls j / 2 ^ (ls.getD j 0 - ls.getD i 0) := by
      rw [Nat.le_div_iff_mul_le (Nat.two_pow_pos _), show ls.getD j 0 - ls.getD i 0 = k + 1 from by omega]
      omega
    omega
end Go.Proofs.YthbejefodelpkaaGreat
namespace Go.Proofs.YthbejefodelpkaaGreat
open Go.RowKit

/-- The cells of a stream. -/
def zc (s : ByteArray) (p most : Nat) (v : Value) : Array Value := #[.string s, .int .i64 p, .int .i64 most, v]

theorem or_nat (a b : Nat) (ha : a < 9223372036854775808) (hb : b < 9223372036854775808) : bits .or .i64 (a : Int) (b : Int) = ((a ||| b : Nat) : Int) := by
  have hx : a ||| b < 2 ^ 63 := Nat.or_lt_two_pow (by omega) (by omega)
  have h1 : ∀ a : Nat, a < 9223372036854775808 → (BitVec.ofInt 64 (a : Int)).toNat = a := fun a ha => by
    rw [BitVec.ofInt_natCast, BitVec.toNat_ofNat]; exact Nat.mod_eq_of_lt (by omega)
  show IntKind.i64.wrap ((BitVec.ofInt 64 (a : Int) ||| BitVec.ofInt 64 (b : Int)).toNat : Int) = _
  rw [BitVec.toNat_or, h1 a ha, h1 b hb, IntKind.wrap_i64]
  omega
theorem or_add (V i k : Nat) (hV : V < 2 ^ i) (hi : i ≤ 40) (hk : k < 1048576) : bits .or .i64 (V : Int) ((k * 2 ^ i : Nat) : Int) = ((V + k * 2 ^ i : Nat) : Int) := by
  have h1 : 2 ^ i ≤ 2 ^ 40 := Nat.pow_le_pow_right (by omega) hi
  have h2 : k * 2 ^ i < 1048576 * 2 ^ 40 := by
    have : k * 2 ^ i ≤ k * 2 ^ 40 := Nat.mul_le_mul_left _ h1
    have : k * 2 ^ 40 < 1048576 * 2 ^ 40 := Nat.mul_lt_mul_of_pos_right hk (by decide)
    omega
  have h3 : (1048576 : Nat) * 2 ^ 40 < 9223372036854775808 := by decide
  rw [or_nat _ _ (by omega) (by omega), Nat.or_comm, Nat.mul_comm, ← Nat.two_pow_add_eq_or_of_lt hV, Nat.add_comm]
theorem num_step (V i r : Nat) (c : UInt8) (hi : i < 30) (hV : V < 2 ^ i) :
    bits .or .i64 (V : Int) (wrap64 (wrap64 (bits .and .u8 ((c.toNat : Int) / 2 ^ r) 1) * 2 ^ i)) = ((V + (c.toNat.testBit r).toNat * 2 ^ i : Nat) : Int) := by
  have key : ∀ y : Fin 256, bits .and .u8 (y.val : Int) 1 = ((y.val % 2 : Nat) : Int) := by decide +kernel
  have hc := c.toNat_lt
  have hy : c.toNat / 2 ^ r < 256 := Nat.lt_of_le_of_lt (Nat.div_le_self _ _) hc
  have e1 : (c.toNat : Int) / 2 ^ r = ((c.toNat / 2 ^ r : Nat) : Int) := by simp
  have hb : c.toNat / 2 ^ r % 2 = (c.toNat.testBit r).toNat := by
    rw [Nat.testBit_eq_decide_div_mod_eq]
    rcases Nat.mod_two_eq_zero_or_one (c.toNat / 2 ^ r) with h | h <;> simp [h]
  have hb2 : (c.toNat.testBit r).toNat ≤ 1 := by cases c.toNat.testBit r <;> simp
  have h1 : 2 ^ i ≤ 2 ^ 29 := Nat.pow_le_pow_right (by omega) (by omega)
  have h2 : (c.toNat.testBit r).toNat * 2 ^ i ≤ 2 ^ 29 := Nat.le_trans (Nat.mul_le_mul_right _ hb2) (by omega)
  have h3 : (2 : Nat) ^ 29 = 536870912 := by decide
  rw [e1, key ⟨_, hy⟩]
  simp only
  rw [hb, wrap64_of (((c.toNat.testBit r).toNat : Nat) : Int) (by omega)]
  have e2 : (((c.toNat.testBit r).toNat : Nat) : Int) * 2 ^ i = (((c.toNat.testBit r).toNat * 2 ^ i : Nat) : Int) := by simp
  rw [e2, wrap64_of _ (by omega), or_add _ _ _ hV (by omega) (by omega)]
theorem unp_get (l : List UInt8) (k : Nat) (h : k < 8 * l.length) : (unp l)[k]'(by rw [unp_length]; exact h) = (l.getD (k / 8) 0).toNat.testBit (k % 8) := by
  induction l generalizing k with
  | nil => simp at h
  | cons c l ih =>
    have e : unp (c :: l) = numBits c.toNat 8 ++ unp l := rfl
    simp only [e]
    by_cases hk : k < 8
    · rw [List.getElem_append_left (by rw [numBits_length]; exact hk)]
      simp [numBits, Nat.div_eq_of_lt hk, Nat.mod_eq_of_lt hk]
    · rw [List.getElem_append_right (by rw [numBits_length]; omega)]
      simp only [numBits_length]
      rw [ih (k - 8) (by simp at h; omega)]
      rw [show k / 8 = (k - 8) / 8 + 1 from by omega, List.getD_cons_succ, show k % 8 = (k - 8) % 8 from by omega]
/-- The bits from a place on. -/
def bitsAt (s : ByteArray) (p : Nat) : List Bool := (unp s.data.toList).drop p
theorem bitsAt_length (s : ByteArray) (p : Nat) : (bitsAt s p).length = 8 * s.size - p := by
  unfold bitsAt
  rw [List.length_drop, unp_length]; simp
theorem bitsAt_get (s : ByteArray) (p : Nat) (h : p < 8 * s.size) : bitsAt s p = (s[p / 8]'(by omega)).toNat.testBit (p % 8) :: bitsAt s (p + 1) := by
  unfold bitsAt
  have hl : p < (unp s.data.toList).length := by rw [unp_length]; simp; omega
  rw [List.drop_eq_getElem_cons hl, unp_get _ _ (by simp; omega), byte_at]
theorem bitsAt_drop (s : ByteArray) (p n : Nat) : (bitsAt s p).drop n = bitsAt s (p + n) := by unfold bitsAt; rw [List.drop_drop]
/-- What reading a number promises. -/
def NumOk (s : ByteArray) (p n most zb : Nat) (v : Value) (e : Ending) (w : World) : Prop :=
  match numT (bitsAt s p) n with
  | .error k => e = .returned (.tuple #[.int .i64 0, .int .i64 k]) ∧ Blk w zb 141 (zc s p most v)
  | .ok (x, _) => e = .returned (.tuple #[.int .i64 x, .int .i64 0]) ∧ Blk w zb 141 (zc s (p + n) most v)

set_option maxRecDepth 100000 in
set_option maxHeartbeats 2000000 in
theorem number_any (s : ByteArray) (p n most zb : Nat) (v : Value) (w : World) (hz : Blk w zb 141 (zc s p most v)) (hs : s.size ≤ 1000000000000000) (hp : p ≤ 8 * s.size) (hn : n ≤ 20) :
    Calls Tryz.prog 154 #[.pointer (some ⟨zb, 0, none⟩), .int .i64 n] w fun e w' => NumOk s p n most zb v e w' ∧ Fr zb [141] w w' := by
  have c0 := hz.cell 0
  have c1 := hz.cell 1
  simp [zc] at c0 c1
  have hbl := bitsAt_length s p
  by_cases hsh : 8 * s.size - p < n
  · have HN : Hid (numT (bitsAt s p) n = .error 5) := by show _ = _; unfold numT; rw [if_pos (by omega)]
    have d1 : decide ((8 * s.size : Int) - (p : Int) < (n : Int)) = true := by simp; omega
    have w1 : IntKind.i64.wrap (8 * (s.size : Int)) = 8 * (s.size : Int) := IntWalk.i64_in _ (by omega)
    have w2 : IntKind.i64.wrap (8 * (s.size : Int) - (p : Int)) = 8 * (s.size : Int) - (p : Int) := IntWalk.i64_in _ (by omega)
    clear hbl
    go_enter Tryz.func154, Tryz.ntmps154
    go_wp2_with fail
    go_quiet (fail)
    clear w1 w2
    go_wp2_with fail
    go_ret2
    refine ⟨?_, (Fr.refl _ _ _).drewN _⟩
    unfold NumOk
    rw [HN.out]
    exact ⟨rfl, hz.drewN _⟩
  · have HN : Hid (numT (bitsAt s p) n = .ok (byteOf ((bitsAt s p).take n), (bitsAt s p).drop n)) := by show _ = _; unfold numT; rw [if_neg (by omega)]
    have HBL := Lib.hid hbl
    clear hbl
    have d1 : decide ((8 * s.size : Int) - (p : Int) < (n : Int)) = false := by simp; omega
    have w1 : IntKind.i64.wrap (8 * (s.size : Int)) = 8 * (s.size : Int) := IntWalk.i64_in _ (by omega)
    have w2 : IntKind.i64.wrap (8 * (s.size : Int) - (p : Int)) = 8 * (s.size : Int) - (p : Int) := IntWalk.i64_in _ (by omega)
    go_enter Tryz.func154, Tryz.ntmps154
    go_wp2_with fail
    go_quiet (fail)
    clear w1 w2
    go_wp2_with fail
    have hz2 : Blk (w.drewN nq) zb 141 (zc s p most v) := hz
    have hf2 : Fr zb [141] w (w.drewN nq) := (Fr.refl _ _ _).drewN nq
    generalize w.drewN nq = w2 at *
    go_loopw [6, 22] (fun v6 vi wr => ∃ i V : Nat, vi = .int .i64 i ∧ i ≤ n ∧ v6 = .int .i64 V ∧ Hid (V = byteOf ((bitsAt s p).take i)) ∧ Blk wr zb 141 (zc s (p + i) most v) ∧ Fr zb [141] w wr) (fun _ vi _ => n - (intOf vi).toNat)
    case atStart => exact ⟨0, 0, rfl, Nat.zero_le _, rfl, rfl, hz2, hf2⟩
    case round =>
      clear hz2 hf2
      obtain ⟨i, V, rfl, hi, rfl, hV, hzr, hfr⟩ := hrel
      have htl : ((bitsAt s p).take i).length = i := by rw [List.length_take, HBL.out]; omega
      by_cases hlt : i < n
      · have hd : decide ((i : Int) < (n : Int)) = true := by simp; omega
        obtain ⟨P, hP⟩ : ∃ P, P = p + i := ⟨_, rfl⟩
        rw [← hP] at hzr
        have e0 := hzr.cell 0
        have e1 := hzr.cell 1
        simp [zc] at e0 e1
        have f1 := hzr.frozen 1
        obtain ⟨q, hq⟩ : ∃ q, q = P / 8 := ⟨_, rfl⟩
        obtain ⟨r, hr⟩ : ∃ r, r = P % 8 := ⟨_, rfl⟩
        have hPb : P < 8 * s.size := by omega
        have hqs : q < s.size := by omega
        have hr8 : r < 8 := by omega
        have hVlt : V < 2 ^ i := by
          have := byteOf_lt ((bitsAt s p).take i)
          rw [hV.out]; rwa [htl] at this
        have HST := Lib.hid (num_step V i r s[q] (by omega) hVlt)
        have HVN : Hid (V + ((s[q]).toNat.testBit r).toNat * 2 ^ i = byteOf ((bitsAt s p).take (i + 1))) := by
          show _ = _
          have hil : i < (bitsAt s p).length := by rw [HBL.out]; omega
          rw [List.take_succ_eq_append_getElem hil, byteOf_snoc, htl, ← hV.out]
          congr 2
          have hb : bitsAt s p = (bitsAt s p).take i ++ (bitsAt s p)[i] :: (bitsAt s p).drop (i + 1) := by rw [← List.drop_eq_getElem_cons hil, List.take_append_drop]
          have h1 := bitsAt_drop s p i
          rw [← hP, bitsAt_get s P hPb, List.drop_eq_getElem_cons hil] at h1
          injection h1 with h1 _
          rw [h1]
          simp only [hq, hr]
        have hq1 : (P : Int).tdiv 8 = (q : Int) := by rw [Int.tdiv_eq_ediv_of_nonneg (by omega)]; omega
        have hr1 : (P : Int).tmod 8 = (r : Int) := by rw [Int.tmod_eq_emod_of_nonneg (by omega)]; omega
        have hq2 : (0 : Int) ≤ (q : Int) := by omega
        have hq3 : (q : Int) < (s.size : Int) := by omega
        have hr2 : (0 : Int) ≤ (r : Int) := by omega
        have HP := Lib.hid hP
        have hzn := fun m => ((hzr.drewN m).put 1 (.int .i64 ((P : Int) + 1)))
        have hfn := fun m => (hfr.drewN m).put (hzr.drewN m) (Nat.le_refl _) (by simp) 1 (.int .i64 ((P : Int) + 1))
        have HZN := Lib.hid hzn
        have HFN := Lib.hid hfn
        clear hzn hfn
        clear hP hq hr c0 c1 htl hV hVlt
        go_wp2_with fail
        go_quiet (fail)
        clear hq1 hr1
        go_wp2_with fail
        refine ⟨⟨i + 1, _, by go_num, by omega, by rw [HST.out], by show _ = _; exact HVN.out, ?_, ?_⟩, by simp [intOf]; omega⟩
        · have := HZN.out nq
          rw [show p + (i + 1) = P + 1 from by have := HP.out; omega]
          simpa [zc] using this
        · exact HFN.out nq
      · have hd : decide ((i : Int) < (n : Int)) = false := by simp; omega
        obtain rfl : i = n := by omega
        go_wp2_with fail
        go_ret2
        refine ⟨?_, hfr⟩
        unfold NumOk
        rw [HN.out]
        exact ⟨by rw [← hV.out]; rfl, hzr⟩
end Go.Proofs.YthbejefodelpkaaGreat
