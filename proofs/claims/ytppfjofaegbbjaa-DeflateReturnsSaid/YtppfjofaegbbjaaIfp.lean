/-
  Plain definitions: what the layer inflate computes, over the bits that are left.
-/
import Derived.Test.YtppfjofaegbbjaaBits
namespace Go.Proofs.Ytppfjofaegbbjaa

/-- The bits of a text, the least significant bit of each byte first. -/
def unp (l : List UInt8) : List Bool := l.flatMap fun c => numBits c.toNat 8
theorem unp_length (l : List UInt8) : (unp l).length = 8 * l.length := by
  induction l with
  | nil => rfl
  | cons c l ih => simp [unp, numBits_length] at ih ⊢; omega

/-- A number of n bits. -/
def numT (b : List Bool) (n : Nat) : Except Nat (Nat × List Bool) := if b.length < n then .error 5 else .ok (byteOf (b.take n), b.drop n)

/-- How many symbols have a code of n bits. -/
def cntC (ls : List Nat) (n : Nat) : Nat := if n = 0 then 0 else ls.count n
/-- The first code of n bits. -/
def fstC (ls : List Nat) : Nat → Nat
  | 0 => 0
  | n + 1 => 2 * (fstC ls n + cntC ls n)
def endC (ls : List Nat) (n : Nat) : Nat := fstC ls n + cntC ls n
/-- The greatest length of a code up to n. -/
def lngC (ls : List Nat) : Nat → Nat
  | 0 => 0
  | n + 1 => if cntC ls (n + 1) = 0 then lngC ls n else n + 1
/-- The symbols whose codes have n bits, in order. -/
def symsC (ls : List Nat) (n : Nat) : List Nat := (List.range ls.length).filter fun i => ls.getD i 0 == n
def symGo (ls : List Nat) : Nat → Nat → Nat → List Bool → Except Nat (Nat × List Bool)
  | 0, _, _, _ => .error 4
  | _ + 1, _, _, [] => .error 5
  | f + 1, n, code, x :: b =>
    if 2 * code + x.toNat < endC ls (n + 1) then .ok ((symsC ls (n + 1)).getD (2 * code + x.toNat - fstC ls (n + 1)) 0, b)
    else if endC ls (lngC ls 15) ≤ (2 * code + x.toNat) * 2 ^ (lngC ls 15 - (n + 1)) then .error 4
    else symGo ls f (n + 1) (2 * code + x.toNat) b
/-- The next symbol. -/
def symT (ls : List Nat) (b : List Bool) : Except Nat (Nat × List Bool) := symGo ls (lngC ls 15) 0 0 b

def lenB (s : Nat) : Nat × Nat := if s < 265 then (s - 254, 0) else if s = 285 then (258, 0) else (3 + (4 + (s - 265) % 4) * 2 ^ ((s - 261) / 4), (s - 261) / 4)
def disB (s : Nat) : Nat × Nat := if s < 4 then (s + 1, 0) else (1 + (2 + s % 2) * 2 ^ ((s - 2) / 2), (s - 2) / 2)

/-- n bytes that stand d bytes before, one after the other. -/
def copyB : List UInt8 → Nat → Nat → List UInt8
  | out, 0, _ => out
  | out, n + 1, d => copyB (out ++ [out.getD (out.length - d) 0]) n d

/-- What a match whose length has the symbol s makes. -/
def matT (dl : List Nat) (most : Nat) (out : List UInt8) (s : Nat) (b : List Bool) : Except Nat (List UInt8 × List Bool) :=
  match numT b (lenB s).2 with
  | .error e => .error e
  | .ok (x, b1) => match symT dl b1 with
    | .error e => .error e
    | .ok (t, b2) => if 29 < t then .error 4 else match numT b2 (disB t).2 with
      | .error e => .error e
      | .ok (y, b3) => if out.length < (disB t).1 + y then .error 4 else if most < out.length + ((lenB s).1 + x) then .error 3 else .ok (copyB out ((lenB s).1 + x) ((disB t).1 + y), b3)
def datGo (ll dl : List Nat) (most : Nat) : Nat → List UInt8 → List Bool → Except Nat (List UInt8 × List Bool)
  | 0, _, _ => .error 0
  | f + 1, out, b => match symT ll b with
    | .error e => .error e
    | .ok (s, b1) =>
      if s < 256 then (if most ≤ out.length then .error 3 else datGo ll dl most f (out ++ [UInt8.ofNat s]) b1)
      else if s = 256 then .ok (out, b1)
      else if 285 < s then .error 4
      else match matT dl most out s b1 with
        | .error e => .error e
        | .ok (o, b2) => datGo ll dl most f o b2
/-- The data of a block. -/
def datT (ll dl : List Nat) (most : Nat) (out : List UInt8) (b : List Bool) : Except Nat (List UInt8 × List Bool) := datGo ll dl most (b.length + 1) out b

def fixL : List Nat := List.replicate 144 8 ++ List.replicate 112 9 ++ List.replicate 24 7 ++ List.replicate 8 8
def fixD : List Nat := List.replicate 32 5
/-- The sum of code lengths, in units of 2^-15. -/
def sumC : List Nat → Nat
  | [] => 0
  | n :: l => (if n = 0 then 0 else 2 ^ (15 - n)) + sumC l
def ordC : List Nat := [16, 17, 18, 0, 8, 7, 9, 6, 10, 5, 11, 4, 12, 3, 13, 2, 14, 1, 15]
/-- The lengths of the code for code lengths. -/
def clGo : List Nat → List Nat → List Bool → Except Nat (List Nat × List Bool)
  | [], c, b => .ok (c, b)
  | o :: r, c, b => match numT b 3 with
    | .error e => .error e
    | .ok (x, b1) => clGo r (c.set o x) b1
/-- Code lengths written with a code: how often a value, and which, a symbol stands for. -/
def lstGo (cl : List Nat) (n : Nat) : Nat → List Nat → List Bool → Except Nat (List Nat × List Bool)
  | 0, _, _ => .error 0
  | f + 1, acc, b =>
    if n ≤ acc.length then (if acc.length = n then .ok (acc, b) else .error 4)
    else match symT cl b with
    | .error e => .error e
    | .ok (s, b1) =>
      if s = 16 then (if acc.length = 0 then .error 4 else match numT b1 2 with | .error e => .error e | .ok (x, b2) => lstGo cl n f (acc ++ List.replicate (3 + x) (acc.getD (acc.length - 1) 0)) b2)
      else if s = 17 then (match numT b1 3 with | .error e => .error e | .ok (x, b2) => lstGo cl n f (acc ++ List.replicate (3 + x) 0) b2)
      else if s = 18 then (match numT b1 7 with | .error e => .error e | .ok (x, b2) => lstGo cl n f (acc ++ List.replicate (11 + x) 0) b2)
      else lstGo cl n f (acc ++ [s]) b1
def lstT (cl : List Nat) (n : Nat) (b : List Bool) : Except Nat (List Nat × List Bool) := lstGo cl n (n + 1) [] b
def usedC (l : List Nat) : Nat := l.countP (· != 0)
/-- The codes of a dynamic block. -/
def dynT (b : List Bool) : Except Nat ((List Nat × List Nat) × List Bool) :=
  match numT b 5 with
  | .error e => .error e
  | .ok (h, b1) => match numT b1 5 with
    | .error e => .error e
    | .ok (d, b2) => match numT b2 4 with
      | .error e => .error e
      | .ok (k, b3) =>
        if 29 < h ∨ 29 < d then .error 4 else
        match clGo (ordC.take (k + 4)) (List.replicate 19 0) b3 with
        | .error e => .error e
        | .ok (cl, b4) =>
          if sumC cl ≠ 32768 then .error 4 else
          match lstT cl (h + 257 + d + 1) b4 with
          | .error e => .error e
          | .ok (all, b5) =>
            if sumC (all.take (h + 257)) ≠ 32768 ∨ all.getD 256 0 = 0 then .error 4
            else if sumC (all.drop (h + 257)) = 32768 ∨ usedC (all.drop (h + 257)) = 0 ∨ usedC (all.drop (h + 257)) = 1 ∧ sumC (all.drop (h + 257)) = 16384 then .ok ((all.take (h + 257), all.drop (h + 257)), b5)
            else .error 4
/-- A stored block; the bits left begin behind its header. -/
def stoT (most : Nat) (out : List UInt8) (b : List Bool) : Except Nat (List UInt8 × List Bool) :=
  match numT (b.drop (b.length % 8)) 32 with
  | .error e => .error e
  | .ok (x, b1) =>
    if x % 65536 + x / 65536 ≠ 65535 then .error 4
    else if b1.length < 8 * (x % 65536) then .error 5
    else if most < out.length + x % 65536 then .error 3
    else .ok (out ++ pack (b1.take (8 * (x % 65536))), b1.drop (8 * (x % 65536)))
/-- A block: whether it is the last one. -/
def blkT (most : Nat) (out : List UInt8) (b : List Bool) : Except Nat (Bool × List UInt8 × List Bool) :=
  match numT b 1 with
  | .error e => .error e
  | .ok (l, b1) => match numT b1 2 with
    | .error e => .error e
    | .ok (k, b2) =>
      match (if k = 0 then stoT most out b2 else if k = 1 then datT fixL fixD most out b2 else if k = 2 then (match dynT b2 with | .error e => .error e | .ok ((ll, dl), b3) => datT ll dl most out b3) else .error 4) with
      | .error e => .error e
      | .ok (o, b3) => .ok (l == 1, o, b3)
def infGo (most : Nat) : Nat → List UInt8 → List Bool → Except Nat (List UInt8 × List Bool)
  | 0, _, _ => .error 0
  | f + 1, out, b => match blkT most out b with
    | .error e => .error e
    | .ok (last, o, b1) => if last then .ok (o, b1) else infGo most f o b1
/-- The output of a stream and the number of its bytes, or the error. -/
def infP (most : Nat) (l : List UInt8) : Except Nat (List UInt8 × Nat) :=
  match infGo most (8 * l.length + 1) [] (unp l) with
  | .error e => .error e
  | .ok (o, b) => .ok (o, (8 * l.length - b.length + 7) / 8)

theorem numT_ok {b b' : List Bool} {n x : Nat} (h : numT b n = .ok (x, b')) : n ≤ b.length ∧ b' = b.drop n ∧ x = byteOf (b.take n) ∧ x < 2 ^ n := by
  unfold numT at h
  split at h
  · cases h
  · cases h
    refine ⟨by omega, rfl, rfl, ?_⟩
    have := byteOf_lt (b.take n)
    rwa [show (b.take n).length = n from by simp; omega] at this
theorem symGo_len (ls : List Nat) (f n code : Nat) (b b' : List Bool) (s : Nat) (h : symGo ls f n code b = .ok (s, b')) : b'.length < b.length := by
  induction f generalizing n code b with
  | zero => cases h
  | succ f ih =>
    cases b with
    | nil => cases h
    | cons x b =>
      unfold symGo at h
      split at h
      · cases h; simp
      · split at h
        · cases h
        · have := ih _ _ _ h; simp; omega
theorem symT_len {ls : List Nat} {b b' : List Bool} {s : Nat} (h : symT ls b = .ok (s, b')) : b'.length < b.length := symGo_len _ _ _ _ _ _ _ h

end Go.Proofs.Ytppfjofaegbbjaa
