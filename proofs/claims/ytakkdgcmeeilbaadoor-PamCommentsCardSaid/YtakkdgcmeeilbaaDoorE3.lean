/-
  Walks: decimal numbers and samples, in the reference of pam.
-/
import Derived.Test.YtakkdgcmeeilbaaDoorE1
import Derived.Test.YtakkdgcmeeilbaaDoorBw
import Derived.Lib.ItoaNum
namespace Go.Proofs.YtakkdgcmeeilbaaDoor
open Go.RowKit

theorem str1 (n : Nat) (h : n ≤ 255) (w : World) : (convert 42 9 (.slice (some ⟨w.heap.size, 0, none⟩) 1 1)).run Tryd.prog (w.alloc (.cells #[.int .u8 (n : Int)] 5)) = .ok (.string ⟨#[UInt8.ofNat n]⟩) (w.alloc (.cells #[.int .u8 (n : Int)] 5)) := by
  have hb : BRow (w.alloc (.cells #[.int .u8 (n : Int)] 5)) 0 5 (.slice (some ⟨w.heap.size, 0, none⟩) 1 1) [UInt8.ofNat n] :=
    ⟨rfl, .inr ⟨_, 1, _, rfl, Nat.zero_le _, Blk.new w _ _, Nat.le_refl _, by unfold maxLen; omega, rfl, one_cell n h⟩⟩
  exact run_str_of Tryd.underlying42 Tryd.underlying5 Tryd.underlying9 hb
theorem str2 (m n : Nat) (h1 : m ≤ 255) (h : n ≤ 255) (w : World) : (convert 42 9 (.slice (some ⟨w.heap.size, 0, none⟩) 2 2)).run Tryd.prog (w.alloc (.cells #[.int .u8 (m : Int), .int .u8 (n : Int)] 5)) = .ok (.string ⟨#[UInt8.ofNat m, UInt8.ofNat n]⟩) (w.alloc (.cells #[.int .u8 (m : Int), .int .u8 (n : Int)] 5)) := by
  have hb : BRow (w.alloc (.cells #[.int .u8 (m : Int), .int .u8 (n : Int)] 5)) 0 5 (.slice (some ⟨w.heap.size, 0, none⟩) 2 2) [UInt8.ofNat m, UInt8.ofNat n] := by
    refine ⟨rfl, .inr ⟨_, 2, _, rfl, Nat.zero_le _, Blk.new w _ _, Nat.le_refl _, by unfold maxLen; omega, rfl, ?_⟩⟩
    show [Value.int .u8 (m : Int), Value.int .u8 (n : Int)] = bcells [UInt8.ofNat m, UInt8.ofNat n]
    simp only [bcells, List.map_cons, List.map_nil]
    rw [bcell_ofNat m (by omega), bcell_ofNat n (by omega)]
  exact run_str_of Tryd.underlying42 Tryd.underlying5 Tryd.underlying9 hb
theorem dec_small (n : Nat) (h : n < 10) : Lib.decDigits n = [UInt8.ofNat (48 + n)] := by rw [Lib.decDigits, dif_pos h]
theorem dec_big (n : Nat) (h : ¬ n < 10) : Lib.decDigits n = Lib.decDigits (n / 10) ++ Lib.decDigits (n % 10) := by
  rw [Lib.decDigits, dif_neg h, dec_small (n % 10) (Nat.mod_lt _ (by decide))]
theorem dec_len (n : Nat) (h : n ≤ 1000000) : (Lib.decDigits n).length ≤ n + 1 := by
  induction n using Nat.strongRecOn with
  | _ n ih =>
    by_cases h10 : n < 10
    · rw [dec_small n h10]; simp
    · rw [dec_big n h10, List.length_append, dec_small (n % 10) (Nat.mod_lt _ (by decide))]
      have := ih (n / 10) (by omega) (by omega)
      simp; omega

set_option maxHeartbeats 2000000 in
set_option maxRecDepth 100000 in
theorem rdecimal_any (n : Nat) (hn : n ≤ 1000000) : ∀ w, Calls Tryd.prog 20 #[.int .i64 n] w fun e w' => e = .returned (.string ⟨(Lib.decDigits n).toArray⟩) ∧ Below w.heap.size w w' := by
  induction n using Nat.strongRecOn with
  | _ n ih =>
    intro w
    by_cases h10 : n < 10
    · have d10 : decide ((n : Int) < 10) = true := by simp; omega
      have HD := Lib.hid (dec_small n h10)
      have hs := str1 (48 + n) (by omega) w
      have e48 : ((48 + n : Nat) : Int) = 48 + (n : Int) := by omega
      rw [e48] at hs
      obtain ⟨bt, hbt⟩ : ∃ bt, bt = UInt8.ofNat (48 + n) := ⟨_, rfl⟩
      rw [← hbt] at hs HD
      clear hbt e48
      have HB := Lib.hid ((Below.refl w.heap.size w).alloc (Nat.le_refl _) (.cells #[.int .u8 (48 + (n : Int))] 5))
      clear ih
      go_enter Tryd.func20, Tryd.ntmps20
      go_wp2_with fail
      go_ret
      exact ⟨by rw [HD.out]; rfl, HB.out⟩
    · have d10 : decide ((n : Int) < 10) = false := by simp; omega
      have HD := Lib.hid (dec_big n h10)
      have H1 := Lib.hid (ih (n / 10) (by omega) (by omega))
      have H2 := Lib.hid (ih (n % 10) (by omega) (by omega))
      have HL1 := dec_len (n / 10) (by omega)
      have HL2 := dec_len (n % 10) (by omega)
      obtain ⟨q, hq⟩ : ∃ q, q = n / 10 := ⟨_, rfl⟩
      obtain ⟨r, hr⟩ : ∃ r, r = n % 10 := ⟨_, rfl⟩
      have e1 : (n : Int).tdiv 10 = (q : Int) := by rw [hq]; rfl
      have e2 : (n : Int).tmod 10 = (r : Int) := by rw [hr]; rfl
      rw [← hq, ← hr] at HD
      rw [← hq] at H1 HL1
      rw [← hr] at H2 HL2
      generalize Lib.decDigits q = s1 at *
      generalize Lib.decDigits r = s2 at *
      have hqb : q ≤ 1000000 := by omega
      have hrb : r ≤ 1000000 := by omega
      clear ih hq hr
      go_enter Tryd.func20, Tryd.ntmps20
      go_wp2_with fail
      refine (H1.out _).mono ?_
      rintro e w1 ⟨rfl, hb1⟩
      go_wp2_with fail
      refine (H2.out _).mono ?_
      rintro e w2 ⟨rfl, hb2⟩
      have HB2 := Lib.hid (bthen hb1 hb2)
      clear hb1 hb2
      go_wp2_with fail
      go_ret
      exact ⟨by rw [HD.out]; rfl, HB2.out⟩

/-- The bytes of a sample. -/
theorem smB_16 (n : Nat) : smB 16 (n : Int) = [UInt8.ofNat (n / 256), UInt8.ofNat (n % 256)] := rfl
set_option maxHeartbeats 2000000 in
set_option maxRecDepth 100000 in
theorem rsample_any (v d : Nat) (hd : d = 8 ∨ d = 16) (hv : v ≤ 65535) (w : World) : Calls Tryd.prog 21 #[.int .i64 v, .int .i64 d] w fun e w' => e = .returned (.string ⟨(smB d (v : Int)).toArray⟩) ∧ Below w.heap.size w w' := by
  by_cases h8 : d = 8
  · have d8 : ((d : Int) == 8) = true := by rw [h8]; rfl
    obtain ⟨n, hn, hn2⟩ := to8_nat (v : Int)
    have HS : Hid (smB d (v : Int) = [UInt8.ofNat n]) := by show _ = _; unfold smB; rw [if_neg (by omega), hn]; rfl
    have HT := Lib.hid (fun w => rto8_any (v : Int) w)
    rw [hn] at HT
    have hs := fun w => str1 n hn2 w
    obtain ⟨bt, hbt⟩ : ∃ bt, bt = UInt8.ofNat n := ⟨_, rfl⟩
    rw [← hbt] at hs HS
    clear hbt hn h8 hd
    go_enter Tryd.func21, Tryd.ntmps21
    go_wp2_with fail
    refine (HT.out _).mono ?_
    rintro e w1 ⟨rfl, m, rfl⟩
    have hb0 := below_drewN (Below.refl w.heap.size w) m
    generalize w.drewN m = w5 at *
    have HB := Lib.hid (hb0.alloc hb0.size (.cells #[.int .u8 (n : Int)] 5))
    have hs1 := hs w5
    clear hs hb0
    go_wp2_with fail
    go_ret
    exact ⟨by rw [HS.out]; rfl, HB.out⟩
  · have d8 : ((d : Int) == 8) = false := by simp; omega
    have h16 : d = 16 := by omega
    have HS : Hid (smB d (v : Int) = [UInt8.ofNat (v / 256), UInt8.ofNat (v % 256)]) := by show _ = _; rw [h16]; rfl
    have hs := str2 (v / 256) (v % 256) (by omega) (by omega) w
    have HB := Lib.hid ((Below.refl w.heap.size w).alloc (Nat.le_refl _) (.cells #[.int .u8 ((v / 256 : Nat) : Int), .int .u8 ((v % 256 : Nat) : Int)] 5))
    obtain ⟨b1, hb1⟩ : ∃ bt, bt = UInt8.ofNat (v / 256) := ⟨_, rfl⟩
    obtain ⟨b2, hb2⟩ : ∃ bt, bt = UInt8.ofNat (v % 256) := ⟨_, rfl⟩
    rw [← hb1, ← hb2] at hs HS
    have c1 : ((v / 256 : Nat) : Int) = (v : Int) / 256 := by omega
    have c2 : ((v % 256 : Nat) : Int) = (v : Int) % 256 := by omega
    rw [c1, c2] at hs HB
    clear hb1 hb2 c1 c2 h8 h16 hd
    go_enter Tryd.func21, Tryd.ntmps21
    go_wp2_with fail
    go_ret
    exact ⟨by rw [HS.out]; rfl, HB.out⟩
end Go.Proofs.YtakkdgcmeeilbaaDoor
