/-
  Walk: the examples; the law LexTokens.
-/
import Derived.Test.YtalbmipncoohdaaX14
namespace Go.Proofs.Ytalbmipncoohdaa
open Go.RowKit

def str (l : List UInt8) : ByteArray := ⟨l.toArray⟩
theorem ex1 : toksP (bytes [108, 101, 116, 32, 120, 32, 61, 32, 49, 48, 59]) = .ok [⟨5, bytes [108, 101, 116], 0⟩, ⟨3, bytes [120], 4⟩, ⟨4, bytes [61], 6⟩, ⟨1, bytes [49, 48], 8⟩, ⟨4, bytes [59], 10⟩, ⟨0, [], 11⟩] := by kernel_rfl
theorem ex2 : toksP (bytes [97, 60, 61, 98, 46, 46, 99]) = .ok [⟨3, bytes [97], 0⟩, ⟨4, bytes [60, 61], 1⟩, ⟨3, bytes [98], 3⟩, ⟨4, bytes [46, 46], 4⟩, ⟨3, bytes [99], 6⟩, ⟨0, [], 7⟩] := by kernel_rfl
theorem ex3 : toksP (bytes [52, 54, 49, 49, 54, 56, 54, 48, 49, 56, 52, 50, 55, 51, 56, 55, 57, 48, 52]) = .ok [⟨1, bytes [52, 54, 49, 49, 54, 56, 54, 48, 49, 56, 52, 50, 55, 51, 56, 55, 57, 48, 52], 0⟩, ⟨0, [], 19⟩] := by kernel_rfl
theorem ex4 : toksP (bytes [52, 54, 49, 49, 54, 56, 54, 48, 49, 56, 52, 50, 55, 51, 56, 55, 57, 48, 53]) = .error (0, 2) := by kernel_rfl
theorem ex5 : toksP (bytes [32, 49, 50, 97]) = .error (1, 18) := by kernel_rfl

set_option maxRecDepth 100000 in
set_option maxHeartbeats 4000000 in
theorem example_any (w : World) :
    Calls Try.prog 13 #[] w fun e w' => e = .returned (.bool true) ∧ Below w.heap.size w w' := by
  go_enter Try.func13, Try.ntmps13
  go_wp2_with fail
  refine (tokens_any _ _ (by decide)).mono ?_
  rintro e w1 ⟨hok, hb1⟩
  change TokensOk (toksP (bytes [108, 101, 116, 32, 120, 32, 61, 32, 49, 48, 59])) _ _ _ at hok
  rw [ex1] at hok
  obtain ⟨v, rfl, hrow⟩ := hok
  obtain ⟨g, c, rfl, hc⟩ := trow_block hrow (by decide)
  obtain ⟨p1, p2, p3⟩ := trow_cells hrow 0 (by decide)
  obtain ⟨q1, q2, q3⟩ := trow_cells hrow 3 (by decide)
  obtain ⟨r1, r2, r3⟩ := trow_cells hrow 5 (by decide)
  simp at p1 p2 p3 q1 q2 q3 r3
  go_wp2_with fail
  refine (tokens_any _ _ (by decide)).mono ?_
  rintro e w2 ⟨hok, hb2⟩
  change TokensOk (toksP (bytes [97, 60, 61, 98, 46, 46, 99])) _ _ _ at hok
  rw [ex2] at hok
  obtain ⟨v2, rfl, hrow2⟩ := hok
  have hbb := bthen hb1 hb2
  clear hrow p1 p2 p3 q1 q2 q3 r1 r2 r3
  go_wp2_with fail
  refine (tokens_any _ _ (by decide)).mono ?_
  rintro e w3 ⟨hok, hb3⟩
  change TokensOk (toksP (bytes [52, 54, 49, 49, 54, 56, 54, 48, 49, 56, 52, 50, 55, 51, 56, 55, 57, 48, 52])) _ _ _ at hok
  rw [ex3] at hok
  obtain ⟨v3, rfl, hrow3⟩ := hok
  clear hrow3
  go_wp2_with fail
  refine (tokens_any _ _ (by decide)).mono ?_
  rintro e w4 ⟨hok, hb4⟩
  change TokensOk (toksP (bytes [52, 54, 49, 49, 54, 56, 54, 48, 49, 56, 52, 50, 55, 51, 56, 55, 57, 48, 53])) _ _ _ at hok
  rw [ex4] at hok
  obtain rfl := hok
  go_wp2_with fail
  refine (tokens_any _ _ (by decide)).mono ?_
  rintro e w5 ⟨hok, hb5⟩
  change TokensOk (toksP (bytes [32, 49, 50, 97])) _ _ _ at hok
  rw [ex5] at hok
  obtain rfl := hok
  have hrow5 := (Fr.of_below (B := 0) (bthen (bthen hb3 hb4) hb5) []).owns hrow2 (by simp)
  obtain ⟨g2, c2, rfl, hc2⟩ := trow_block hrow5 (by decide)
  obtain ⟨p1, p2, p3⟩ := trow_cells hrow5 1 (by decide)
  obtain ⟨q1, q2, q3⟩ := trow_cells hrow5 3 (by decide)
  simp at p1 p2 p3 q1 q2 q3
  have hb6 := bthen hbb (bthen (bthen hb3 hb4) hb5)
  clear hrow2 hrow5 hb1 hb2 hb3 hb4 hb5 hbb
  go_wp2_with fail
  go_ret
  exact ⟨rfl, hb6⟩

theorem below_drewN {B : Nat} {w w' : World} (h : Below B w w') (n : Nat) : Below B w (w'.drewN n) := ⟨h.os, h.tape, h.output, h.size, h.block⟩
def tokAt : Except (Nat × Nat) (List Tk) → Nat | .error x => x.1 | .ok _ => 0
def tokErr : Except (Nat × Nat) (List Tk) → Nat | .error x => x.2 | .ok _ => 0
def tokList : Except (Nat × Nat) (List Tk) → List Tk | .error _ => [] | .ok l => l
/-- What Tokens promises, in one form. -/
theorem tokensOk_row {r : Except (Nat × Nat) (List Tk)} {B : Nat} {e : Ending} {w : World} (h : TokensOk r B e w) :
    ∃ (v : Value) (i k : Nat) (l : List Tk), e = .returned (.tuple #[v, .int .i64 i, .int .i64 k]) ∧ TRow w B v l ∧ Hid (i = tokAt r) ∧ Hid (k = tokErr r) ∧ Hid (l = tokList r) := by
  rcases r with ⟨p, k⟩ | l
  · exact ⟨_, p, k, [], h, ⟨rfl, .inl ⟨rfl, rfl⟩⟩, rfl, rfl, rfl⟩
  · obtain ⟨v, rfl, hr⟩ := h
    exact ⟨v, 0, 0, l, rfl, hr, rfl, rfl, rfl⟩
theorem toksGo_len (l : List UInt8) (f n p : Nat) (r : List Tk) (h : toksGo l f n p = .ok r) : n + r.length ≤ 4097 ∧ 0 < r.length := by
  induction f generalizing n p r with
  | zero => cases h
  | succ f ih =>
    unfold toksGo at h
    split at h
    · cases h
    · split at h
      · cases h; simp; omega
      · split at h
        · cases h
        · split at h
          · cases h
          · rename_i hr
            have := ih _ _ _ hr
            cases h
            simp; omega
theorem toksP_len (l : List UInt8) (r : List Tk) (h : toksP l = .ok r) : r.length ≤ 4097 ∧ 0 < r.length := by
  unfold toksP at h
  split at h
  · cases h
  · have := toksGo_len _ _ _ _ _ h
    omega

set_option maxRecDepth 100000 in
set_option maxHeartbeats 2000000 in
theorem lawTokens (s : ByteArray) (w : World) (hs : s.size ≤ maxLen) :
    Calls Try.prog 3 #[.string s] w fun e w' => e = .returned (.bool true) ∧ Below w.heap.size w w' := by
  go_enter Try.func3, Try.ntmps3
  go_wp2_with fail
  refine (tokens_any s _ hs).mono ?_
  rintro e w1 ⟨hok, hb1⟩
  obtain ⟨v1, i1, k1, l1, rfl, hrow1, hi1, hk1, hl1⟩ := tokensOk_row hok
  clear hok
  go_wp2_with fail
  refine (rtokens_any s _ hs).mono ?_
  rintro e w2 ⟨hok, hb2⟩
  obtain ⟨v2, i2, k2, l2, rfl, hrow2, hi2, hk2, hl2⟩ := tokensOk_row hok
  clear hok
  have hlen : l1.length ≤ 1000000 := by
    rw [hl1.out]
    cases hr : toksP s.data.toList with
    | error x => simp [tokList]
    | ok l => have := toksP_len _ _ hr; simp [tokList]; omega
  obtain rfl : i1 = i2 := by rw [hi1.out, hi2.out]
  obtain rfl : k1 = k2 := by rw [hk1.out, hk2.out]
  obtain rfl : l1 = l2 := by rw [hl1.out, hl2.out]
  clear hi1 hi2 hk1 hk2 hl1 hl2
  have hrow3 : TRow w2 _ v1 l1 := (Fr.of_below (B := 0) hb2 []).owns hrow1 (by simp)
  have hsm := Lib.hid (same_any v1 v2 l1 _ _ w2 hrow3 hrow2 hlen)
  clear hrow1 hrow2 hrow3
  go_wp2_with fail
  refine hsm.out.mono ?_
  rintro e w3 ⟨rfl, n, rfl⟩
  clear hsm
  have hb3 : Below w.heap.size w (w2.drewN n) := bthen hb1 (below_drewN hb2 n)
  generalize w2.drewN n = w3 at *
  go_wp2_with fail
  refine (reserved_any s _).mono ?_
  rintro e w4 ⟨rfl, rfl⟩
  go_wp2_with fail
  refine (rreserved_any s _).mono ?_
  rintro e w4 ⟨rfl, rfl⟩
  generalize resv s.data.toList = b at *
  go_wp2_with fail
  refine (example_any _).mono ?_
  rintro e w4 ⟨rfl, hb4⟩
  go_wp2_with fail
  go_ret
  exact ⟨rfl, bthen hb3 hb4⟩
end Go.Proofs.Ytalbmipncoohdaa
