/-
  Walk: strings.SplitSeq: what it hands back. Rows of segments that a call owns. The state of Parse.
-/
import Derived.Test.YtgjbelcnkmcbiaaDoorQc
import Derived.Test.YtgjbelcnkmcbiaaDoorSq
import Derived.Test.YtgjbelcnkmcbiaaDoorQn
namespace Go.Proofs.YtgjbelcnkmcbiaaDoor
open Go.RowKit

set_option maxRecDepth 100000 in
theorem splitSeq0_any (s c : ByteArray) (w : World) : Calls Tryd.prog 69 #[.string s, .string c, .int .i64 0] w fun e w' =>
    e = .returned (.func (.func 83) #[] #[.pointer (some ⟨w.heap.size + 1, 0, none⟩), .pointer (some ⟨w.heap.size, 0, none⟩), .pointer (some ⟨w.heap.size + 2, 0, none⟩)]) ∧
    w' = ((w.alloc (.cells #[.string s] 9)).alloc (.cells #[.string c] 9)).alloc (.cells #[.int .i64 0] 3) := by
  go_enter Tryd.func69, Tryd.ntmps69
  go_wp2_with fail
  go_ret
  exact ⟨rfl, rfl⟩
set_option maxRecDepth 100000 in
theorem splitSeq_any (s c : ByteArray) (w : World) : Calls Tryd.prog 48 #[.string s, .string c] w fun e w' =>
    e = .returned (.func (.func 83) #[] #[.pointer (some ⟨w.heap.size + 1, 0, none⟩), .pointer (some ⟨w.heap.size, 0, none⟩), .pointer (some ⟨w.heap.size + 2, 0, none⟩)]) ∧
    w' = ((w.alloc (.cells #[.string s] 9)).alloc (.cells #[.string c] 9)).alloc (.cells #[.int .i64 0] 3) := by
  have H := Lib.hid (splitSeq0_any s c w)
  go_enter Tryd.func48, Tryd.ntmps48
  go_wp2_with fail
  refine H.out.mono ?_
  rintro e w' ⟨rfl, rfl⟩
  go_wp2_with fail
  go_ret
  exact ⟨rfl, rfl⟩

/-- A segment as seven numbers. -/
def sgL (s : Sg) : List Int := [s.1, s.2.1.1, s.2.1.2, s.2.2.1.1, s.2.2.1.2, s.2.2.2.1, s.2.2.2.2]
def scell (s : Sg) : List Value := (sgL s).map (.int .i64)
def scells (l : List Sg) : List Value := l.flatMap scell
theorem scells_append (a b : List Sg) : scells (a ++ b) = scells a ++ scells b := by simp [scells]
theorem scells_length (l : List Sg) : (scells l).length = l.length * 7 := by
  induction l with
  | nil => rfl
  | cons p r ih => simp only [scells, List.flatMap_cons, List.length_append, List.length_cons] at *; rw [ih]; simp [scell, sgL]; omega
theorem scells_get (l : List Sg) (i j : Nat) (h : i < l.length) (hj : j < 7) : (scells l)[i * 7 + j]? = (scell l[i])[j]? := by
  induction l generalizing i with
  | nil => cases h
  | cons p r ih =>
    have hl : (scell p).length = 7 := rfl
    cases i with
    | zero => simp only [scells, List.flatMap_cons]; rw [List.getElem?_append_left (by omega)]; simp
    | succ i =>
      simp only [scells, List.flatMap_cons]
      rw [List.getElem?_append_right (by omega), hl]
      have := ih i (by simpa using h)
      simp only [scells] at this
      rw [show (i + 1) * 7 + j - 7 = i * 7 + j by omega, this]; simp
/-- The slice value v owns a row, from block base on, of segments. -/
def SOwn (w : World) (base : Nat) (v : Value) (l : List Sg) : Prop := w.ownsRow base 35 7 v l.length (scells l)
theorem SOwn.row {w : World} {base : Nat} {v : Value} {l : List Sg} (h : SOwn w base v l) : SRow w v l := by
  rcases id h.2 with ⟨rfl, h0⟩ | ⟨g, cap, cur, rfl, _, hg, hc, hm, _⟩
  · have : l = [] := List.eq_nil_of_length_eq_zero h0
    subst this
    exact srow_nil w
  · refine ⟨_, cap, rfl, hc, hm, (fun h => by cases h), fun _ => ⟨g, 0, rfl, fun i hi => ?_⟩⟩
    have key : ∀ j, j < 7 → w.cell? ⟨g, i * 7 + j, none⟩ = (scell l[i])[j]? := fun j hj => by
      rw [← scells_get l i j hi hj]
      exact World.ownsRow.cellAt h (i * 7 + j) (by omega)
    have k0 := key 0 (by decide)
    have k1 := key 1 (by decide)
    have k2 := key 2 (by decide)
    have k3 := key 3 (by decide)
    have k4 := key 4 (by decide)
    have k5 := key 5 (by decide)
    have k6 := key 6 (by decide)
    simp only [Nat.add_zero] at k0
    unfold SCell
    simp only [Nat.zero_add]
    exact ⟨k0, k1, k2, k3, k4, k5, k6⟩
theorem SOwn.shape {w : World} {base : Nat} {v : Value} {l : List Sg} (h : SOwn w base v l) : ∃ x c, v = .slice x l.length c := by
  rcases h.2 with ⟨rfl, h0⟩ | ⟨g, cap, cur, rfl, _⟩
  · exact ⟨none, 0, by rw [h0]⟩
  · exact ⟨_, _, rfl⟩
theorem el_sg : Elem Tryd.prog 22 35 (.agg #[.int .i64 0, .int .i64 0, .int .i64 0, .int .i64 0, .int .i64 0, .int .i64 0, .int .i64 0]) 7 56 := by
  refine ⟨Tryd.underlying22, ?_, rfl, by decide⟩
  exact info_parts (by kernel_rfl)

/-- Number j (0 .. 5) of a segment put to n. -/
def putN (s : Sg) (j : Nat) (n : Int) : Sg :=
  match j with
  | 0 => (s.1, (n, s.2.1.2), s.2.2.1, s.2.2.2)
  | 1 => (s.1, (s.2.1.1, n), s.2.2.1, s.2.2.2)
  | 2 => (s.1, s.2.1, (n, s.2.2.1.2), s.2.2.2)
  | 3 => (s.1, s.2.1, (s.2.2.1.1, n), s.2.2.2)
  | 4 => (s.1, s.2.1, s.2.2.1, n, s.2.2.2.2)
  | _ => (s.1, s.2.1, s.2.2.1, s.2.2.2.1, n)
theorem putN_cell (s : Sg) (j : Nat) (n : Int) (h : j < 6) : scell (putN s j n) = (scell s).set (j + 1) (.int .i64 n) := by
  rcases (by omega : j = 0 ∨ j = 1 ∨ j = 2 ∨ j = 3 ∨ j = 4 ∨ j = 5) with rfl | rfl | rfl | rfl | rfl | rfl <;> rfl
theorem putN_kind (s : Sg) (j : Nat) (n : Int) : (putN s j n).1 = s.1 := by unfold putN; split <;> rfl
/-- What Parse holds: the segments, how many numbers of the last one are read, how many are missing, the place. -/
structure PS where
  l : List Sg
  rd : Nat
  ms : Nat
  at_ : Nat
def zeroSg (k : Int) : Sg := (k, (0, 0), (0, 0), 0, 0)
def psStep (st : PS) (x : List UInt8) : Except Nat PS :=
  if st.ms = 0 then (if kindP x = 0 then .error st.at_ else .ok ⟨st.l ++ [zeroSg (kindP x)], 0, 2 * usedP (kindP x), st.at_ + (x.length + 1)⟩)
  else match numP x with
    | none => .error st.at_
    | some v => .ok ⟨st.l.dropLast ++ [putN (st.l.getLast?.getD (zeroSg 0)) st.rd v], st.rd + 1, st.ms - 1, st.at_ + (x.length + 1)⟩
def psRun (pre : List (List UInt8)) : Except Nat PS := pre.foldl (fun r x => match r with | .ok st => psStep st x | .error e => .error e) (.ok ⟨[], 0, 0, 0⟩)
theorem psRun_snoc (pre : List (List UInt8)) (x : List UInt8) : psRun (pre ++ [x]) = match psRun pre with | .ok st => psStep st x | .error e => .error e := by
  unfold psRun; rw [List.foldl_append]; rfl
theorem psRun_err (a b : List (List UInt8)) (e : Nat) (h : psRun a = .error e) : psRun (a ++ b) = .error e := by
  induction b generalizing a with
  | nil => rw [List.append_nil]; exact h
  | cons x r ih =>
    have := ih (a ++ [x]) (by rw [psRun_snoc, h])
    rwa [List.append_assoc] at this
/-- What Parse answers. -/
def parseP (s : List UInt8) : List Sg × Nat × Int :=
  if s = [] then ([], 0, 0) else match psRun (spl 32 s) with
    | .error a => ([], a, 4)
    | .ok st => if 0 < st.ms then ([], s.length, 4) else if chkP st.l ≠ 0 then ([], 0, chkP st.l) else (st.l, 0, 0)
/-- A state of Parse is right. -/
structure PsOk (st : PS) : Prop where
  ms : st.ms ≤ 6
  rd : 0 < st.ms → st.l ≠ [] ∧ st.rd + st.ms ≤ 6
  ln : st.l.length ≤ st.at_
theorem used_le (k : Int) : usedP k ≤ 3 := by unfold usedP; repeat' split
                                              all_goals omega
theorem ps_ok {pre : List (List UInt8)} {st : PS} (h : psRun pre = .ok st) : PsOk st := by
  suffices key : ∀ (b a : List (List UInt8)) st0 st, psRun a = .ok st0 → PsOk st0 → psRun (a ++ b) = .ok st → PsOk st from
    key pre [] _ _ rfl ⟨by decide, by simp, by simp⟩ h
  intro b
  induction b with
  | nil => intro a st0 st h0 h1 h2; rw [List.append_nil, h0] at h2; cases h2; exact h1
  | cons x r ih =>
    intro a st0 st h0 h1 h2
    rw [show a ++ x :: r = (a ++ [x]) ++ r by simp] at h2
    have hx := psRun_snoc a x
    rw [h0] at hx
    simp only at hx
    cases hs : psStep st0 x with
    | error e => rw [hs] at hx; rw [psRun_err _ r e hx] at h2; cases h2
    | ok s1 =>
      rw [hs] at hx
      refine ih _ s1 _ hx ?_ h2
      unfold psStep at hs
      by_cases hm : st0.ms = 0
      · rw [if_pos hm] at hs
        split at hs
        · cases hs
        · cases hs
          have := used_le (kindP x)
          exact ⟨by show 2 * _ ≤ 6; omega, fun _ => ⟨by simp, by show 0 + 2 * _ ≤ 6; omega⟩, by have := h1.ln; simp; omega⟩
      · rw [if_neg hm] at hs
        split at hs
        · cases hs
        · cases hs
          obtain ⟨h3, h4⟩ := h1.rd (by omega)
          have := h1.ms
          have := h1.ln
          have hp := List.length_pos_iff.2 h3
          exact ⟨by show _ - 1 ≤ 6; omega, fun _ => ⟨by simp, by show _ + 1 + (_ - 1) ≤ 6; omega⟩, by simp; omega⟩
theorem ps_at {pre : List (List UInt8)} {st : PS} (h : psRun pre = .ok st) : st.at_ = (pre.map fun x => x.length + 1).sum := by
  suffices key : ∀ (b a : List (List UInt8)) st0 st, psRun a = .ok st0 → st0.at_ = (a.map fun x => x.length + 1).sum → psRun (a ++ b) = .ok st → st.at_ = ((a ++ b).map fun x => x.length + 1).sum from
    key pre [] _ _ rfl rfl h
  intro b
  induction b with
  | nil => intro a st0 st h0 h1 h2; rw [List.append_nil] at *; rw [h0] at h2; cases h2; exact h1
  | cons x r ih =>
    intro a st0 st h0 h1 h2
    rw [show a ++ x :: r = (a ++ [x]) ++ r by simp] at h2 ⊢
    have hx := psRun_snoc a x
    rw [h0] at hx
    simp only at hx
    cases hs : psStep st0 x with
    | error e => rw [hs] at hx; rw [psRun_err _ r e hx] at h2; cases h2
    | ok s1 =>
      rw [hs] at hx
      refine ih _ s1 _ hx ?_ h2
      have : s1.at_ = st0.at_ + (x.length + 1) := by
        unfold psStep at hs
        split at hs
        · split at hs
          · cases hs
          · cases hs; rfl
        · split at hs
          · cases hs
          · cases hs; rfl
      rw [this, h1]; simp
theorem spl_sum (c : UInt8) (l : List UInt8) : ((spl c l).map fun x => x.length + 1).sum = l.length + 1 := by
  induction l with
  | nil => rfl
  | cons x r ih =>
    unfold spl
    by_cases hx : x = c
    · rw [if_pos hx]; simp; omega
    · rw [if_neg hx]
      cases h : spl c r with
      | nil => exact absurd h (spl_ne c r)
      | cons y ys => rw [h] at ih; simp at *; omega
theorem ps_at_le {s : List UInt8} {pre : List (List UInt8)} {st : PS} (h : psRun pre = .ok st) (hp : pre <+: spl 32 s) : st.at_ ≤ s.length + 1 := by
  rw [ps_at h]
  obtain ⟨t, ht⟩ := hp
  have := spl_sum 32 s
  rw [← ht] at this
  simp at this
  omega
theorem le_sum (l : List Nat) (x : Nat) (h : x ∈ l) : x ≤ l.sum := by
  induction l with
  | nil => cases h
  | cons y r ih =>
    rcases List.mem_cons.1 h with rfl | h
    · simp
    · have := ih h; simp; omega
theorem spl_len (c : UInt8) (l : List UInt8) : ∀ x ∈ spl c l, x.length ≤ l.length := by
  intro x hx
  have h1 : x.length + 1 ≤ ((spl c l).map fun x => x.length + 1).sum := le_sum _ _ (List.mem_map.2 ⟨x, hx, rfl⟩)
  rw [spl_sum] at h1
  omega
end Go.Proofs.YtgjbelcnkmcbiaaDoor
