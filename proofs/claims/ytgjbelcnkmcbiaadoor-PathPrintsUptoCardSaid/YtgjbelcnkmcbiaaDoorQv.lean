/-
  Walks: decimal numbers in the reference: digits, Number, ReadNumber; kindOf.
-/
import Derived.Test.YtgjbelcnkmcbiaaDoorQu
import Derived.Test.YtgjbelcnkmcbiaaDoorBw
import Derived.Deep.RegionLaw
namespace Go.Proofs.YtgjbelcnkmcbiaaDoor
open Go.RowKit

theorem rabsI_any (a : Int) (w : World) (h0 : -9223372036854775808 ≤ a) (h1 : a ≤ 9223372036854775807) : Calls Tryd.prog 68 #[.int .i64 a] w fun e w' => e = .returned (.int .u64 (a.natAbs : Int)) ∧ w = w' := by
  by_cases ha : a < 0
  · have e0 : decide (a < 0) = true := by simp; omega
    have z : IntKind.u64.wrap (-(a + 18446744073709551616)) = (a.natAbs : Int) := by rw [IntKind.wrap_u64]; omega
    have z1 : IntKind.u64.wrap a = a + 18446744073709551616 := by rw [IntKind.wrap_u64]; omega
    go_enter Tryd.func68, Tryd.ntmps68
    go_wp2_with fail
    go_ret
    exact ⟨rfl, rfl⟩
  · have e0 : decide (a < 0) = false := by simp; omega
    have z : IntKind.u64.wrap a = (a.natAbs : Int) := by rw [IntKind.wrap_u64]; omega
    go_enter Tryd.func68, Tryd.ntmps68
    go_wp2_with fail
    go_ret
    exact ⟨rfl, rfl⟩

theorem one_cell (n : Nat) (h : n ≤ 255) : [Value.int .u8 (n : Int)] = bcells [UInt8.ofNat n] := by
  simp only [bcells, List.map_cons, List.map_nil]
  rw [bcell_ofNat n (by omega)]
theorem str1 (n : Nat) (h : n ≤ 255) (w : World) : (convert 85 9 (.slice (some ⟨w.heap.size, 0, none⟩) 1 1)).run Tryd.prog (w.alloc (.cells #[.int .u8 (n : Int)] 5)) = .ok (.string ⟨#[UInt8.ofNat n]⟩) (w.alloc (.cells #[.int .u8 (n : Int)] 5)) := by
  have hb : BRow (w.alloc (.cells #[.int .u8 (n : Int)] 5)) 0 5 (.slice (some ⟨w.heap.size, 0, none⟩) 1 1) [UInt8.ofNat n] :=
    ⟨rfl, .inr ⟨_, 1, _, rfl, Nat.zero_le _, Blk.new w _ _, Nat.le_refl _, by unfold maxLen; omega, rfl, one_cell n h⟩⟩
  exact run_str_of Tryd.underlying85 Tryd.underlying5 Tryd.underlying9 hb
theorem str1_blk (n : Nat) (h : n ≤ 255) (w : World) (B : Nat) (hb : Blk w B 5 #[.int .u8 (n : Int)]) : (convert 85 9 (.slice (some ⟨B, 0, none⟩) 1 1)).run Tryd.prog w = .ok (.string ⟨#[UInt8.ofNat n]⟩) w := by
  have hb : BRow w 0 5 (.slice (some ⟨B, 0, none⟩) 1 1) [UInt8.ofNat n] :=
    ⟨rfl, .inr ⟨_, 1, _, rfl, Nat.zero_le _, hb, Nat.le_refl _, by unfold maxLen; omega, rfl, one_cell n h⟩⟩
  exact run_str_of Tryd.underlying85 Tryd.underlying5 Tryd.underlying9 hb
theorem dec_big (n : Nat) (h : ¬ n < 10) : Lib.decDigits n = Lib.decDigits (n / 10) ++ [UInt8.ofNat (48 + n % 10)] := by rw [Lib.decDigits, dif_neg h]
theorem digits_run (v : Value) (w : World) : (callFunc 67 #[v]).run Tryd.prog w = .ok (.enter 67 #[v]) w := by kernel_rfl

set_option maxHeartbeats 2000000 in
set_option maxRecDepth 100000 in
theorem rdigits_any (n : Nat) (hn : n ≤ 9223372036854775808) : ∀ w, Calls Tryd.prog 67 #[.int .u64 n] w fun e w' => e = .returned (.string ⟨(Lib.decDigits n).toArray⟩) ∧ Below w.heap.size w w' := by
  induction n using Nat.strongRecOn with
  | _ n ih =>
    intro w
    by_cases h10 : n < 10
    · have d10 : decide ((n : Int) < 10) = true := by simp; omega
      have HD := Lib.hid (Lib.decDigits_one h10)
      have hs := str1 (48 + n) (by omega) w
      have e48 : ((48 + n : Nat) : Int) = 48 + (n : Int) := by omega
      rw [e48] at hs
      have z1 : IntKind.u64.wrap (48 + (n : Int)) = 48 + (n : Int) := by rw [IntKind.wrap_u64]; omega
      have z2 : IntKind.u8.wrap (48 + (n : Int)) = 48 + (n : Int) := by rw [IntKind.wrap_u8]; omega
      obtain ⟨bt, hbt⟩ : ∃ bt, bt = UInt8.ofNat (48 + n) := ⟨_, rfl⟩
      rw [← hbt] at hs HD
      clear hbt e48
      have HB := Lib.hid ((Below.refl w.heap.size w).alloc (Nat.le_refl _) (.cells #[.int .u8 (48 + (n : Int))] 5))
      clear ih hn
      go_enter Tryd.func67, Tryd.ntmps67
      go_wp2_with fail
      go_ret
      exact ⟨by rw [HD.out]; rfl, HB.out⟩
    · have d10 : decide ((n : Int) < 10) = false := by simp; omega
      have HD := Lib.hid (dec_big n h10)
      have H1 := Lib.hid (fun w => (ih (n / 10) (by omega) (by omega) w).mono (fun e w' (h : e = .returned (.string ⟨(Lib.decDigits (n / 10)).toArray⟩) ∧ Below w.heap.size w w') => (⟨_, h.1, rfl, h.2⟩ : ∃ v, e = .returned v ∧ (v = .string ⟨(Lib.decDigits (n / 10)).toArray⟩ ∧ Below w.heap.size w w'))))
      obtain ⟨q, hq⟩ : ∃ q, q = n / 10 := ⟨_, rfl⟩
      obtain ⟨r, hr⟩ : ∃ r, r = n % 10 := ⟨_, rfl⟩
      have e1 : (n : Int).tdiv 10 = (q : Int) := by rw [hq]; rfl
      have e2 : (n : Int).tmod 10 = (r : Int) := by rw [hr]; rfl
      have hs := fun w => str1_blk (48 + r) (by omega) w
      have e48 : ((48 + r : Nat) : Int) = 48 + (r : Int) := by omega
      rw [e48] at hs
      have z1 : IntKind.u64.wrap (48 + (r : Int)) = 48 + (r : Int) := by rw [IntKind.wrap_u64]; omega
      have z2 : IntKind.u8.wrap (48 + (r : Int)) = 48 + (r : Int) := by rw [IntKind.wrap_u8]; omega
      have z3 : IntKind.u64.wrap (q : Int) = q := by rw [IntKind.wrap_u64]; omega
      have z4 : IntKind.u64.wrap (r : Int) = r := by rw [IntKind.wrap_u64]; omega
      rw [← hq, ← hr] at HD
      rw [← hq] at H1
      obtain ⟨bt, hbt⟩ : ∃ bt, bt = UInt8.ofNat (48 + r) := ⟨_, rfl⟩
      rw [← hbt] at hs HD
      have HL : ¬ (9223372036854775807 < (Lib.decDigits q).length + 1) := by have := dec_len 18 q (by omega); omega
      have hrb : r < 10 := by omega
      generalize Lib.decDigits q = s1 at *
      clear ih hbt e48 hn hq hr
      go_enter Tryd.func67, Tryd.ntmps67
      go_wp2_with fail
      have hs1 := hs (w.alloc (.cells #[.int .u8 (48 + (r : Int))] 5)).drew w.heap.size (Blk.new _ _ _).drew
      go_region_law (refine step_call (vs := #[.int .u64 (q : Int)]) rfl rfl ?_ (digits_run _ _) (H1.out _) ?_; simp [Act.eval, Act.put]; rintro vX wX ⟨rfl, hbX⟩; have HBX := Lib.hid hbX; first | (have hs2 := hs wX w.heap.size ((hbX.block _ (by simp)).trans (Blk.new w _ _))) | (have hs2 := hs (wX.alloc (.cells #[.int .u8 (48 + (r : Int))] 5)) wX.heap.size (Blk.new wX _ _)))
      all_goals
        go_wp2_with fail
        go_ret
        exact ⟨by rw [HD.out]; rfl, (by first | exact below_alloc_drew HBX.out | exact below_drew_alloc HBX.out _)⟩

theorem rNumber_any (n : Int) (h0 : -9223372036854775808 ≤ n) (h1 : n ≤ 9223372036854775807) (w : World) :
    Calls Tryd.prog 47 #[.int .i64 n] w fun e w' => e = .returned (.string ⟨(Lib.itoa n).toArray⟩) ∧ Below w.heap.size w w' := by
  have HD := Lib.hid (rdigits_any n.natAbs (by omega))
  by_cases hn : n < 0
  · have e0 : decide (n < 0) = true := by simp; omega
    have HI : Hid (Lib.itoa n = 45 :: Lib.decDigits n.natAbs) := by show _ = _; unfold Lib.itoa; rw [if_pos hn]
    have HA := Lib.hid (fun w => rabsI_any n w h0 h1)
    have HL : (Lib.decDigits n.natAbs).length ≤ 19 := dec_len 18 n.natAbs (by omega)
    generalize Lib.decDigits n.natAbs = d at *
    generalize n.natAbs = m at *
    go_enter Tryd.func47, Tryd.ntmps47
    go_wp2_with fail
    refine (HA.out _).mono ?_
    rintro e w1 ⟨rfl, rfl⟩
    go_wp2_with fail
    refine (HD.out _).mono ?_
    rintro e w2 ⟨rfl, hb⟩
    go_wp2_with fail
    go_ret
    exact ⟨by rw [HI.out]; rfl, hb⟩
  · have e0 : decide (n < 0) = false := by simp; omega
    have HI : Hid (Lib.itoa n = Lib.decDigits n.natAbs) := by show _ = _; unfold Lib.itoa; rw [if_neg hn]; congr 1; omega
    have z : IntKind.u64.wrap n = (n.natAbs : Int) := by rw [IntKind.wrap_u64]; omega
    generalize Lib.decDigits n.natAbs = d at *
    generalize n.natAbs = m at *
    go_enter Tryd.func47, Tryd.ntmps47
    go_wp2_with fail
    refine (HD.out _).mono ?_
    rintro e w2 ⟨rfl, hb⟩
    go_wp2_with fail
    go_ret
    exact ⟨by rw [HI.out]; rfl, hb⟩
end Go.Proofs.YtgjbelcnkmcbiaaDoor
