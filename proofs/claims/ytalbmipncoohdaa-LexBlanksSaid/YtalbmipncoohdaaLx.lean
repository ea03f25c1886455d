/-
  Plain definitions: the tokens of a script.
-/
namespace Go.Proofs.Ytalbmipncoohdaa

def dig (c : UInt8) : Bool := 48 ≤ c.toNat && c.toNat ≤ 57
def let8 (c : UInt8) : Bool := (97 ≤ c.toNat && c.toNat ≤ 122) || (65 ≤ c.toNat && c.toNat ≤ 90) || c.toNat == 95

/-- How many bytes blanks and comments take; the flag: inside a comment. -/
def skipN : Bool → List UInt8 → Nat
  | _, [] => 0
  | cm, c :: t => if c.toNat = 10 then skipN false t + 1 else if cm = true ∨ c.toNat = 32 ∨ c.toNat = 9 then skipN cm t + 1 else if c.toNat = 35 then skipN true t + 1 else 0
theorem skipN_le (cm : Bool) (l : List UInt8) : skipN cm l ≤ l.length := by
  induction l generalizing cm with
  | nil => simp [skipN]
  | cons c t ih =>
    unfold skipN
    split
    · have := ih false; simp; omega
    · split
      · have := ih cm; simp; omega
      · split
        · have := ih true; simp; omega
        · simp

/-- How many digits there are, if their value with v before them is not too great. -/
def numR : Nat → List UInt8 → Option Nat
  | _, [] => some 0
  | v, c :: t => if dig c then (if 4611686018427387904 < 10 * v + (c.toNat - 48) then none else (numR (10 * v + (c.toNat - 48)) t).map (· + 1)) else some 0
def runN (p : UInt8 → Bool) : List UInt8 → Nat
  | [] => 0
  | c :: t => if p c then runN p t + 1 else 0
theorem runN_le (p : UInt8 → Bool) (l : List UInt8) : runN p l ≤ l.length := by
  induction l with
  | nil => simp [runN]
  | cons c t ih => unfold runN; split <;> simp <;> omega
theorem numR_run (v : Nat) (l : List UInt8) (n : Nat) (h : numR v l = some n) : n = runN dig l := by
  induction l generalizing v n with
  | nil => simp [numR] at h; simp [runN, h]
  | cons c t ih =>
    unfold numR at h
    unfold runN
    by_cases hd : dig c
    · simp only [hd, if_true] at h ⊢
      split at h
      · cases h
      · obtain ⟨m, hm, rfl⟩ := Option.map_eq_some_iff.1 h
        rw [ih _ _ hm]
    · simp only [hd] at h ⊢
      simpa using h.symm

/-- The value of a string behind its quotation mark, and how many bytes it takes, its end included. -/
def quoR : List UInt8 → Option (List UInt8 × Nat)
  | [] => none
  | c :: t =>
    if c.toNat = 34 then some ([], 1)
    else if c.toNat < 32 ∨ 126 < c.toNat then none
    else if c.toNat = 92 then
      match t with
      | [] => none
      | d :: u => if d.toNat = 92 ∨ d.toNat = 34 then (quoR u).map fun x => (d :: x.1, x.2 + 2) else if d.toNat = 110 then (quoR u).map fun x => (10 :: x.1, x.2 + 2) else none
    else (quoR t).map fun x => (c :: x.1, x.2 + 1)

def bytes (s : List Nat) : List UInt8 := s.map UInt8.ofNat
def twos : List (List UInt8) := [bytes [61, 61], bytes [33, 61], bytes [60, 61], bytes [62, 61], bytes [38, 38], bytes [124, 124], bytes [46, 46]]
def ones : List UInt8 := bytes [43, 45, 42, 47, 37, 60, 62, 61, 33, 40, 41, 123, 125, 91, 93, 44, 59]
/-- How long the operator at the beginning is; 0 if there is none. -/
def opR (l : List UInt8) : Nat := if (l.take 2) ∈ twos then 2 else match l with | [] => 0 | c :: _ => if c ∈ ones then 1 else 0

def words : List (List UInt8) := [bytes [108, 101, 116], bytes [105, 102], bytes [101, 108, 115, 101], bytes [119, 104, 105, 108, 101], bytes [102, 111, 114], bytes [105, 110], bytes [102, 110], bytes [114, 101, 116, 117, 114, 110],
  bytes [98, 114, 101, 97, 107], bytes [116, 114, 117, 101], bytes [102, 97, 108, 115, 101]]
def resv (l : List UInt8) : Bool := decide (l ∈ words)

structure Tk where
  kind : Nat
  text : List UInt8
  at_ : Nat

def numT (u : List UInt8) (p : Nat) : Except Nat (Tk × Nat) :=
  match numR 0 u with
  | none => .error 2
  | some n => if n < u.length ∧ let8 (u.getD n 0) = true then .error 18 else .ok (⟨1, u.take n, p⟩, p + n)
def wordN (u : List UInt8) : Nat := runN (fun c => let8 c || dig c) u
def nameT (u : List UInt8) (p : Nat) : Except Nat (Tk × Nat) :=
  if 32 < wordN u then .error 13 else .ok (⟨if resv (u.take (wordN u)) then 5 else 3, u.take (wordN u), p⟩, p + wordN u)
def quoT (t : List UInt8) (p : Nat) : Except Nat (Tk × Nat) :=
  match quoR t with
  | none => .error 18
  | some (v, n) => if 256 < v.length then .error 3 else .ok (⟨2, v, p⟩, p + 1 + n)
def opT (u : List UInt8) (p : Nat) : Except Nat (Tk × Nat) :=
  if opR u = 0 then .error 18 else .ok (⟨4, u.take (opR u), p⟩, p + opR u)
/-- The token at a place within the script and its end, or the error. -/
def tokP (l : List UInt8) (p : Nat) : Except Nat (Tk × Nat) :=
  match l.drop p with
  | [] => .error 18
  | c :: t => if dig c then numT (c :: t) p else if let8 c then nameT (c :: t) p else if c.toNat = 34 then quoT t p else opT (c :: t) p

/-- The tokens from a place on, which is no blank, with n tokens before; or the place of the error and the error. -/
def toksGo (l : List UInt8) : Nat → Nat → Nat → Except (Nat × Nat) (List Tk)
  | 0, _, p => .error (p, 3)
  | f + 1, n, p =>
    if 4096 ≤ n then .error (p, 3)
    else if p = l.length then .ok [⟨0, [], p⟩]
    else match tokP l p with
      | .error e => .error (p, e)
      | .ok (t, q) => match toksGo l f (n + 1) (q + skipN false (l.drop q)) with
        | .error x => .error x
        | .ok r => .ok (t :: r)
def toksP (l : List UInt8) : Except (Nat × Nat) (List Tk) := if 16384 < l.length then .error (0, 3) else toksGo l (l.length + 1) 0 (skipN false l)

end Go.Proofs.Ytalbmipncoohdaa
