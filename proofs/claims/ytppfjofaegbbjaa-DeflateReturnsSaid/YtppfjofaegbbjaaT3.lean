/-
  Walks: writing numbers and codes, in the program and in the reference.
-/
import Derived.Test.YtppfjofaegbbjaaT2
namespace Go.Proofs.Ytppfjofaegbbjaa
open Go.RowKit

theorem bit_of (v : Nat) (k : Nat) : ((v : Int) / 2 ^ k) % 2 = ((v.testBit k).toNat : Int) := by
  have h : ((v : Int) / 2 ^ k) % 2 = ((v / 2 ^ k % 2 : Nat) : Int) := by simp
  rw [h, Nat.testBit_eq_decide_div_mod_eq]
  have : v / 2 ^ k % 2 < 2 := Nat.mod_lt _ (by decide)
  by_cases h1 : v / 2 ^ k % 2 = 1
  · simp [h1]
  · have : v / 2 ^ k % 2 = 0 := by omega
    simp [this]

set_option maxHeartbeats 400000 in
theorem dnumber_any (w : World) (B g : Nat) (bs : List Bool) (v n : Int) (hv : 0 ≤ v) (hn0 : 0 ≤ n) (hn : n ≤ 60) (h : Wr 46 w B g bs) (hlen : bs.length < 900000000) :
    Calls Try.prog 29 #[.pointer (some ⟨g, 0, none⟩), .int .i64 v, .int .i64 n] w fun e w' => e = .returned (.tuple #[]) ∧ Wr 46 w' B g (bs ++ numBits v.toNat n.toNat) ∧ Fr B [46, 5] w w' := by
  obtain ⟨v, rfl⟩ := Int.eq_ofNat_of_zero_le hv
  obtain ⟨n, rfl⟩ := Int.eq_ofNat_of_zero_le hn0
  rw [Int.toNat_natCast, Int.toNat_natCast]
  go_enter Try.func29, Try.ntmps29
  go_wp2_with fail
  go_loopw [6, 8] (fun _ i wr => ∃ k : Nat, k ≤ n ∧ i = .int .i64 k ∧ Wr 46 wr B g (bs ++ numBits v k) ∧ Fr B [46, 5] w wr) (fun _ i _ => n - (intOf i).toNat)
  case atStart => exact ⟨0, Nat.zero_le _, rfl, by simpa [numBits] using h, Fr.refl _ _ _⟩
  case round =>
    obtain ⟨k, hk, rfl, hw, hf⟩ := hrel
    by_cases hlt : k < n
    · have hmin : min k 64 = k := by omega
      go_wp2_with fail
      refine (bit_any _ B g _ _ (v.testBit k) (bit_of v k) hw (by simp [numBits]; omega)).mono ?_
      rintro e w1 ⟨rfl, hw1, hf1⟩
      clear hmin
      go_wp2_with fail
      go_roundw
      case rel => exact ⟨k + 1, by omega, by go_num, by rw [numBits_succ, ← List.append_assoc]; exact hw1, hf.trans hf1⟩
      case measure => simp [intOf]; omega
    · go_wp2_with fail
      go_end0
      obtain rfl : k = n := by omega
      exact ⟨rfl, hw, hf⟩

set_option maxHeartbeats 400000 in
theorem code_any (w : World) (B g : Nat) (bs : List Bool) (v n : Int) (hv : 0 ≤ v) (hn0 : 0 ≤ n) (hn : n ≤ 60) (h : Wr 46 w B g bs) (hlen : bs.length < 900000000) :
    Calls Try.prog 44 #[.pointer (some ⟨g, 0, none⟩), .int .i64 v, .int .i64 n] w fun e w' => e = .returned (.tuple #[]) ∧ Wr 46 w' B g (bs ++ codeBits v.toNat n.toNat) ∧ Fr B [46, 5] w w' := by
  obtain ⟨v, rfl⟩ := Int.eq_ofNat_of_zero_le hv
  obtain ⟨n, rfl⟩ := Int.eq_ofNat_of_zero_le hn0
  rw [Int.toNat_natCast, Int.toNat_natCast]
  go_enter Try.func44, Try.ntmps44
  go_wp2_with fail
  go_loopw [6] (fun i wr => ∃ (k : Nat) (bs' : List Bool), k ≤ n ∧ i = .int .i64 ((k : Int) - 1) ∧ Wr 46 wr B g bs' ∧ Hid (bs' ++ codeBits v k = bs ++ codeBits v n) ∧ bs'.length ≤ bs.length + 60 ∧ Fr B [46, 5] w wr) (fun i _ => (intOf i + 1).toNat)
  case atStart => exact ⟨n, bs, Nat.le_refl _, rfl, h, rfl, by omega, Fr.refl _ _ _⟩
  case round =>
    obtain ⟨k, bs', hk, rfl, hw, hbs, hl, hf⟩ := hrel
    have hl2 : bs'.length + k = bs.length + n := by
      have := congrArg List.length hbs.out
      simpa [codeBits_length] using this
    by_cases hlt : 0 < k
    · obtain ⟨k, rfl⟩ : ∃ j, k = j + 1 := ⟨k - 1, by omega⟩
      have hmin : min k 64 = k := by omega
      have hcast : ((k + 1 : Nat) : Int) - 1 = (k : Int) := by omega
      rw [hcast]
      clear hcast
      go_wp2_with fail
      refine (bit_any _ B g _ _ (v.testBit k) (bit_of v k) hw (by omega)).mono ?_
      rintro e w1 ⟨rfl, hw1, hf1⟩
      clear hmin
      go_wp2_with fail
      go_roundw
      case rel =>
        refine ⟨k, _, by omega, rfl, hw1, ?_, by simp; omega, hf.trans hf1⟩
        show _ = _
        rw [← hbs.out, codeBits_succ]; simp
      case measure => simp [intOf]
    · obtain rfl : k = 0 := by omega
      go_wp2_with fail
      go_end0
      refine ⟨rfl, ?_, hf⟩
      have := hbs.out
      simp [codeBits, numBits] at this
      rw [this] at hw
      exact hw
set_option maxHeartbeats 400000 in
theorem rnumber_any (w : World) (B g : Nat) (bs : List Bool) (v n : Int) (hv : 0 ≤ v) (hn0 : 0 ≤ n) (hn : n ≤ 60) (h : Wr 54 w B g bs) (hlen : bs.length < 900000000) :
    Calls Try.prog 35 #[.pointer (some ⟨g, 0, none⟩), .int .i64 v, .int .i64 n] w fun e w' => e = .returned (.tuple #[]) ∧ Wr 54 w' B g (bs ++ numBits v.toNat n.toNat) ∧ Fr B [54, 5] w w' := by
  obtain ⟨v, rfl⟩ := Int.eq_ofNat_of_zero_le hv
  obtain ⟨n, rfl⟩ := Int.eq_ofNat_of_zero_le hn0
  rw [Int.toNat_natCast, Int.toNat_natCast]
  go_enter Try.func35, Try.ntmps35
  go_wp2_with fail
  go_loopw [6] (fun i wr => ∃ k : Nat, k ≤ n ∧ i = .int .i64 k ∧ Wr 54 wr B g (bs ++ numBits v k) ∧ Fr B [54, 5] w wr) (fun i _ => n - (intOf i).toNat)
  case atStart => exact ⟨0, Nat.zero_le _, rfl, by simpa [numBits] using h, Fr.refl _ _ _⟩
  case round =>
    obtain ⟨k, hk, rfl, hw, hf⟩ := hrel
    by_cases hlt : k < n
    · have hmin : min k 64 = k := by omega
      have hand : bits .and .i64 ((v : Int) / 2 ^ k) 1 = ((v.testBit k).toNat : Int) := by rw [and_one, bit_of]
      go_wp2_with fail
      refine (rbit_any _ B g _ (v.testBit k) hw (by simp [numBits]; omega)).mono ?_
      rintro e w1 ⟨rfl, hw1, hf1⟩
      clear hmin hand
      go_wp2_with fail
      go_roundw
      case rel => exact ⟨k + 1, by omega, by go_num, by rw [numBits_succ, ← List.append_assoc]; exact hw1, hf.trans hf1⟩
      case measure => simp [intOf]; omega
    · go_wp2_with fail
      go_end0
      obtain rfl : k = n := by omega
      exact ⟨rfl, hw, hf⟩

set_option maxHeartbeats 400000 in
theorem rcode_any (w : World) (B g : Nat) (bs : List Bool) (v n : Int) (hv : 0 ≤ v) (hn0 : 0 ≤ n) (hn : n ≤ 60) (h : Wr 54 w B g bs) (hlen : bs.length < 900000000) :
    Calls Try.prog 37 #[.pointer (some ⟨g, 0, none⟩), .int .i64 v, .int .i64 n] w fun e w' => e = .returned (.tuple #[]) ∧ Wr 54 w' B g (bs ++ codeBits v.toNat n.toNat) ∧ Fr B [54, 5] w w' := by
  obtain ⟨v, rfl⟩ := Int.eq_ofNat_of_zero_le hv
  obtain ⟨n, rfl⟩ := Int.eq_ofNat_of_zero_le hn0
  rw [Int.toNat_natCast, Int.toNat_natCast]
  go_enter Try.func37, Try.ntmps37
  go_wp2_with fail
  go_loopw [6] (fun i wr => ∃ (k : Nat) (bs' : List Bool), k ≤ n ∧ i = .int .i64 ((k : Int) - 1) ∧ Wr 54 wr B g bs' ∧ Hid (bs' ++ codeBits v k = bs ++ codeBits v n) ∧ bs'.length ≤ bs.length + 60 ∧ Fr B [54, 5] w wr) (fun i _ => (intOf i + 1).toNat)
  case atStart => exact ⟨n, bs, Nat.le_refl _, rfl, h, rfl, by omega, Fr.refl _ _ _⟩
  case round =>
    obtain ⟨k, bs', hk, rfl, hw, hbs, hl, hf⟩ := hrel
    have hl2 : bs'.length + k = bs.length + n := by
      have := congrArg List.length hbs.out
      simpa [codeBits_length] using this
    by_cases hlt : 0 < k
    · obtain ⟨k, rfl⟩ : ∃ j, k = j + 1 := ⟨k - 1, by omega⟩
      have hmin : min k 64 = k := by omega
      have hand : bits .and .i64 ((v : Int) / 2 ^ k) 1 = ((v.testBit k).toNat : Int) := by rw [and_one, bit_of]
      have hcast : ((k + 1 : Nat) : Int) - 1 = (k : Int) := by omega
      rw [hcast]
      clear hcast
      go_wp2_with fail
      refine (rbit_any _ B g _ (v.testBit k) hw (by omega)).mono ?_
      rintro e w1 ⟨rfl, hw1, hf1⟩
      clear hmin hand
      go_wp2_with fail
      go_roundw
      case rel =>
        refine ⟨k, _, by omega, rfl, hw1, ?_, by simp; omega, hf.trans hf1⟩
        show _ = _
        rw [← hbs.out, codeBits_succ]; simp
      case measure => simp [intOf]
    · obtain rfl : k = 0 := by omega
      go_wp2_with fail
      go_end0
      refine ⟨rfl, ?_, hf⟩
      have := hbs.out
      simp [codeBits, numBits] at this
      rw [this] at hw
      exact hw
end Go.Proofs.Ytppfjofaegbbjaa
