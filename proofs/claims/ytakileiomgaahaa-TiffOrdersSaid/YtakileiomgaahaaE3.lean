/-
  Walks: decimal numbers and samples, in the reference of pam.
-/
import Derived.Test.YtakileiomgaahaaE1
import Derived.Test.YtakileiomgaahaaBw
import Derived.Lib.ItoaNum
namespace Go.Proofs.Ytakileiomgaahaa
open Go.RowKit

theorem str1 (n : Nat) (h : n ≤ 255) (w : World) : (convert 54 9 (.slice (some ⟨w.heap.size, 0, none⟩) 1 1)).run Try.prog (w.alloc (.cells #[.int .u8 (n : Int)] 5)) = .ok (.string ⟨#[UInt8.ofNat n]⟩) (w.alloc (.cells #[.int .u8 (n : Int)] 5)) := by
  have hb : BRow (w.alloc (.cells #[.int .u8 (n : Int)] 5)) 0 5 (.slice (some ⟨w.heap.size, 0, none⟩) 1 1) [UInt8.ofNat n] :=
    ⟨rfl, .inr ⟨_, 1, _, rfl, Nat.zero_le _, Blk.new w _ _, Nat.le_refl _, by unfold maxLen; omega, rfl, one_cell n h⟩⟩
  exact run_str_of Try.underlying54 Try.underlying5 Try.underlying9 hb
theorem str2 (m n : Nat) (h1 : m ≤ 255) (h : n ≤ 255) (w : World) : (convert 54 9 (.slice (some ⟨w.heap.size, 0, none⟩) 2 2)).run Try.prog (w.alloc (.cells #[.int .u8 (m : Int), .int .u8 (n : Int)] 5)) = .ok (.string ⟨#[UInt8.ofNat m, UInt8.ofNat n]⟩) (w.alloc (.cells #[.int .u8 (m : Int), .int .u8 (n : Int)] 5)) := by
  have hb : BRow (w.alloc (.cells #[.int .u8 (m : Int), .int .u8 (n : Int)] 5)) 0 5 (.slice (some ⟨w.heap.size, 0, none⟩) 2 2) [UInt8.ofNat m, UInt8.ofNat n] := by
    refine ⟨rfl, .inr ⟨_, 2, _, rfl, Nat.zero_le _, Blk.new w _ _, Nat.le_refl _, by unfold maxLen; omega, rfl, ?_⟩⟩
    show [Value.int .u8 (m : Int), Value.int .u8 (n : Int)] = bcells [UInt8.ofNat m, UInt8.ofNat n]
    simp only [bcells, List.map_cons, List.map_nil]
    rw [bcell_ofNat m (by omega), bcell_ofNat n (by omega)]
  exact run_str_of Try.underlying54 Try.underlying5 Try.underlying9 hb
theorem dec_small (n : Nat) (h : n < 10) : Lib.decDigits n = [UInt8.ofNat (48 + n)] := by rw [Lib.decDigits, dif_pos h]
theorem dec_big (n : Nat) (h : ¬ n < 10) : Lib.decDigits n = Lib.decDigits (n / 10) ++ Lib.decDigits (n % 10) := by
  rw [Lib.decDigits, dif_neg h, dec_small (n % 10) (Nat.mod_lt _ (by decide))]
theorem dec_len (n : Nat) (h : n ≤ 1000000) : (Lib.decDigits n).length ≤ n + 1 := by
  induction n using Nat.strongRecOn with
  | _ n ih =>
    by_cases h10 : n < 10
    · rw [dec_small n h10]; simp
    · rw [dec_big n h10, List.length_append, dec_small (n % 10) (Nat.mod_lt _ (by decide))]
      have := ih (n / 10) (by omega) (by omega)
      simp; omega

/-- The bytes of a sample. -/
theorem smB_16 (n : Nat) : smB 16 (n : Int) = [UInt8.ofNat (n / 256), UInt8.ofNat (n % 256)] := rfl
end Go.Proofs.Ytakileiomgaahaa
