/-
  Walk: a number, in the reference.
-/
import Derived.Test.YtkbelkdephfhpaaI3
namespace Go.Proofs.Ytkbelkdephfhpaa
open Go.RowKit

/-- The cells of the reference's sequence of bits. -/
def rc (s : ByteArray) (p er : Nat) : Array Value := #[.string s, .int .i64 p, .int .i64 er]
/-- Behind a reader of the reference: what it gives, where the sequence stands, the first error. -/
def RNum (s : ByteArray) (p n zb : Nat) (e : Ending) (w : World) : Prop :=
  match numT (bitsAt s p) n with
  | .error k => e = .returned (.int .i64 0) ∧ Blk w zb 49 (rc s p k)
  | .ok (x, _) => e = .returned (.int .i64 x) ∧ Blk w zb 49 (rc s (p + n) 0)

theorem bit_and (c : UInt8) (r : Nat) : bits .and .i64 ((c.toNat : Int) / 2 ^ r) 1 = ((c.toNat.testBit r).toNat : Int) := by
  have key : ∀ y : Fin 256, bits .and .i64 (y.val : Int) 1 = ((y.val % 2 : Nat) : Int) := by decide +kernel
  have hc := c.toNat_lt
  have hy : c.toNat / 2 ^ r < 256 := Nat.lt_of_le_of_lt (Nat.div_le_self _ _) hc
  have e1 : (c.toNat : Int) / 2 ^ r = ((c.toNat / 2 ^ r : Nat) : Int) := by simp
  have hb : c.toNat / 2 ^ r % 2 = (c.toNat.testBit r).toNat := by
    rw [Nat.testBit_eq_decide_div_mod_eq]
    rcases Nat.mod_two_eq_zero_or_one (c.toNat / 2 ^ r) with h | h <;> simp [h]
  rw [e1, key ⟨_, hy⟩, hb]

theorem refNumber_bad (s : ByteArray) (p n er zb : Nat) (w : World) (hz : Blk w zb 49 (rc s p er)) (he : er ≠ 0) :
    Calls Try.prog 20 #[.pointer (some ⟨zb, 0, none⟩), .int .i64 n] w fun e w' => e = .returned (.int .i64 0) ∧ w = w' := by
  have c2 := hz.cell 2
  simp [rc] at c2
  have d0 : ((er : Int) != 0) = true := by simp; omega
  go_enter Try.func20, Try.ntmps20
  go_wp2_with fail
  go_ret
  exact ⟨rfl, rfl⟩

set_option maxRecDepth 100000 in
set_option maxHeartbeats 2000000 in
theorem refNumber_any (s : ByteArray) (p n zb : Nat) (w : World) (hz : Blk w zb 49 (rc s p 0)) (hs : s.size ≤ 1000000000000000) (hp : p ≤ 8 * s.size) (hn : n ≤ 32) :
    Calls Try.prog 20 #[.pointer (some ⟨zb, 0, none⟩), .int .i64 n] w fun e w' => RNum s p n zb e w' ∧ Fr zb [49] w w' := by
  have c0 := hz.cell 0
  have c1 := hz.cell 1
  have c2 := hz.cell 2
  simp [rc] at c0 c1 c2
  have f2 := hz.frozen 2
  have hbl := bitsAt_length s p
  have w1 : IntKind.i64.wrap (8 * (s.size : Int)) = 8 * (s.size : Int) := IntWalk.i64_in _ (by omega)
  have w2 : IntKind.i64.wrap (8 * (s.size : Int) - (p : Int)) = 8 * (s.size : Int) - (p : Int) := IntWalk.i64_in _ (by omega)
  by_cases hsh : 8 * s.size - p < n
  · have HN : Hid (numT (bitsAt s p) n = .error 5) := by show _ = _; unfold numT; rw [if_pos (by omega)]
    have d1 : decide ((8 * s.size : Int) - (p : Int) < (n : Int)) = true := by simp; omega
    have hzn := fun m => ((hz.drewN m).put 2 (.int .i64 5))
    have hfn := fun m => ((Fr.refl zb [49] w).drewN m).put (hz.drewN m) (Nat.le_refl _) (by simp) 2 (.int .i64 5)
    have HZN := Lib.hid hzn
    have HFN := Lib.hid hfn
    clear hbl hzn hfn
    go_enter Try.func20, Try.ntmps20
    go_wp2_with fail
    go_quiet (fail)
    clear w1 w2
    go_wp2_with fail
    go_ret
    refine ⟨?_, HFN.out _⟩
    unfold RNum
    rw [HN.out]
    exact ⟨rfl, by have := HZN.out nq; simpa [rc] using this⟩
  · have HN : Hid (numT (bitsAt s p) n = .ok (byteOf ((bitsAt s p).take n), (bitsAt s p).drop n)) := by show _ = _; unfold numT; rw [if_neg (by omega)]
    have HBL := Lib.hid hbl
    clear hbl
    have d1 : decide ((8 * s.size : Int) - (p : Int) < (n : Int)) = false := by simp; omega
    go_enter Try.func20, Try.ntmps20
    go_wp2_with fail
    go_quiet (fail)
    clear w1 w2
    go_wp2_with fail
    have hz2 : Blk (w.drewN nq) zb 49 (rc s p 0) := hz
    have hf2 : Fr zb [49] w (w.drewN nq) := (Fr.refl _ _ _).drewN nq
    clear c0 c1 c2 f2 d1 hz
    generalize w.drewN nq = w2 at *
    have e0 := hz2.cell 0
    have e1 := hz2.cell 1
    simp [rc] at e0 e1
    have f1 := hz2.frozen 1
    go_loop [5, 6] (fun v5 vi => ∃ i V : Nat, vi = .int .i64 i ∧ i ≤ n ∧ v5 = .int .i64 V ∧ Hid (V = byteOf ((bitsAt s p).take i))) (fun _ vi => n - (intOf vi).toNat)
    case atStart => exact ⟨0, 0, rfl, Nat.zero_le _, rfl, rfl⟩
    case round =>
      obtain ⟨i, V, rfl, hi, rfl, hV⟩ := hrel
      have htl : ((bitsAt s p).take i).length = i := by rw [List.length_take, HBL.out]; omega
      by_cases hlt : i < n
      · have hd : decide ((i : Int) < (n : Int)) = true := by simp; omega
        obtain ⟨P, hP⟩ : ∃ P, P = p + i := ⟨_, rfl⟩
        obtain ⟨q, hq⟩ : ∃ q, q = P / 8 := ⟨_, rfl⟩
        obtain ⟨r, hr⟩ : ∃ r, r = P % 8 := ⟨_, rfl⟩
        have hPb : P < 8 * s.size := by omega
        have hqs : q < s.size := by omega
        have hr8 : r < 8 := by omega
        have hVlt : V < 2 ^ i := by
          have := byteOf_lt ((bitsAt s p).take i)
          rw [hV.out]; rwa [htl] at this
        have HVN : Hid (V + ((s[q]).toNat.testBit r).toNat * 2 ^ i = byteOf ((bitsAt s p).take (i + 1))) := by
          show _ = _
          have hil : i < (bitsAt s p).length := by rw [HBL.out]; omega
          rw [List.take_succ_eq_append_getElem hil, byteOf_snoc, htl, ← hV.out]
          congr 2
          have hb : bitsAt s p = (bitsAt s p).take i ++ (bitsAt s p)[i] :: (bitsAt s p).drop (i + 1) := by rw [← List.drop_eq_getElem_cons hil, List.take_append_drop]
          have h1 := bitsAt_drop s p i
          rw [← hP, bitsAt_get s P hPb, List.drop_eq_getElem_cons hil] at h1
          injection h1 with h1 _
          rw [h1]
          simp only [hq, hr]
        have hi20 : 2 ^ i ≤ 2 ^ 32 := Nat.pow_le_pow_right (by omega) (by omega)
        have h20 : (2 : Nat) ^ 32 = 4294967296 := by decide
        obtain ⟨Z, hZ⟩ : ∃ Z, 2 ^ i = Z := ⟨_, rfl⟩
        have hZi : (2 : Int) ^ i = (Z : Int) := by rw [← hZ]; simp
        rw [hZ] at hVlt HVN hi20
        rw [h20] at hi20
        clear hZ h20
        have hP0 : (p : Int) + (i : Int) = (P : Int) := by omega
        have hP1 : IntKind.i64.wrap ((p : Int) + (i : Int)) = (P : Int) := by rw [IntKind.wrap_i64]; omega
        have hq1 : (P : Int).tdiv 8 = (q : Int) := by rw [Int.tdiv_eq_ediv_of_nonneg (by omega)]; omega
        have hr1 : (P : Int).tmod 8 = (r : Int) := by rw [Int.tmod_eq_emod_of_nonneg (by omega)]; omega
        have hq4 : (P : Int) / 8 = (q : Int) := by omega
        have hr4 : (P : Int) % 8 = (r : Int) := by omega
        have hq2 : (0 : Int) ≤ (q : Int) := by omega
        have hq3 : (q : Int) < (s.size : Int) := by omega
        have hr2 : (0 : Int) ≤ (r : Int) := by omega
        have hba : (bits .and .i64 (wrap64 (s[q].toNat : Int) / 2 ^ r) 1 == 1) = s[q].toNat.testBit r := by
          have hc := (s[q]).toNat_lt
          rw [wrap64_of _ (by omega), bit_and]
          cases s[q].toNat.testBit r <;> rfl
        clear hP hq hr htl hV
        cases hbit : (s[q]).toNat.testBit r with
        | false =>
          rw [hbit] at hba HVN
          go_wp2_with fail
          refine ⟨⟨i + 1, V, by go_num, by omega, rfl, ?_⟩, by simp [intOf]; omega⟩
          show _ = _
          rw [← HVN.out]; simp
        | true =>
          rw [hbit] at hba HVN
          go_wp2_with fail
          refine ⟨⟨i + 1, V + Z, by go_num, by omega, by go_num, ?_⟩, by simp [intOf]; omega⟩
          show _ = _
          rw [← HVN.out]; simp
      · have hd : decide ((i : Int) < (n : Int)) = false := by simp; omega
        obtain rfl : i = n := by omega
        have hz8 := hz2.put 1 (.int .i64 ((p : Int) + (i : Int)))
        have hf8 := hf2.put hz2 (Nat.le_refl _) (by simp) 1 (.int .i64 ((p : Int) + (i : Int)))
        have HZ8 := Lib.hid hz8
        have HF8 := Lib.hid hf8
        clear hz8 hf8 htl
        go_wp2_with fail
        go_ret
        refine ⟨?_, HF8.out⟩
        unfold RNum
        rw [HN.out]
        exact ⟨by rw [← hV.out]; rfl, by have := HZ8.out; simpa [rc] using this⟩
end Go.Proofs.Ytkbelkdephfhpaa
