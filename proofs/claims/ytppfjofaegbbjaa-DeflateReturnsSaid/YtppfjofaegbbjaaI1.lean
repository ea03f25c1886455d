/-
  Walk: a number of bits, in the program.
-/
import Derived.Test.YtppfjofaegbbjaaIfc
import Derived.Test.YtppfjofaegbbjaaLib
import Derived.Test.YtppfjofaegbbjaaProg
import Derived.Outline
import Derived.StillTailTactics
namespace Go.Proofs.Ytppfjofaegbbjaa
open Go.RowKit

theorem below_drewN {B : Nat} {w w' : World} (h : Below B w w') (n : Nat) : Below B w (w'.drewN n) := ⟨h.os, h.tape, h.output, h.size, h.block⟩
/-- The cells of a stream. -/
def zc (s : ByteArray) (p most : Nat) (v : Value) : Array Value := #[.string s, .int .i64 p, .int .i64 most, v]

theorem or_nat (a b : Nat) (ha : a < 9223372036854775808) (hb : b < 9223372036854775808) : bits .or .i64 (a : Int) (b : Int) = ((a ||| b : Nat) : Int) := by
  have hx : a ||| b < 2 ^ 63 := Nat.or_lt_two_pow (by omega) (by omega)
  have h1 : ∀ a : Nat, a < 9223372036854775808 → (BitVec.ofInt 64 (a : Int)).toNat = a := fun a ha => by
    rw [BitVec.ofInt_natCast, BitVec.toNat_ofNat]; exact Nat.mod_eq_of_lt (by omega)
  show IntKind.i64.wrap ((BitVec.ofInt 64 (a : Int) ||| BitVec.ofInt 64 (b : Int)).toNat : Int) = _
  rw [BitVec.toNat_or, h1 a ha, h1 b hb, IntKind.wrap_i64]
  omega
theorem or_add (V i k : Nat) (hV : V < 2 ^ i) (hi : i ≤ 40) (hk : k < 1048576) : bits .or .i64 (V : Int) ((k * 2 ^ i : Nat) : Int) = ((V + k * 2 ^ i : Nat) : Int) := by
  have h1 : 2 ^ i ≤ 2 ^ 40 := Nat.pow_le_pow_right (by omega) hi
  have h2 : k * 2 ^ i < 1048576 * 2 ^ 40 := by
    have : k * 2 ^ i ≤ k * 2 ^ 40 := Nat.mul_le_mul_left _ h1
    have : k * 2 ^ 40 < 1048576 * 2 ^ 40 := Nat.mul_lt_mul_of_pos_right hk (by decide)
    omega
  have h3 : (1048576 : Nat) * 2 ^ 40 < 9223372036854775808 := by decide
  rw [or_nat _ _ (by omega) (by omega), Nat.or_comm, Nat.mul_comm, ← Nat.two_pow_add_eq_or_of_lt hV, Nat.add_comm]
theorem num_step (V i r : Nat) (c : UInt8) (hi : i < 30) (hV : V < 2 ^ i) :
    bits .or .i64 (V : Int) (wrap64 (wrap64 (bits .and .u8 ((c.toNat : Int) / 2 ^ r) 1) * 2 ^ i)) = ((V + (c.toNat.testBit r).toNat * 2 ^ i : Nat) : Int) := by
  have key : ∀ y : Fin 256, bits .and .u8 (y.val : Int) 1 = ((y.val % 2 : Nat) : Int) := by decide +kernel
  have hc := c.toNat_lt
  have hy : c.toNat / 2 ^ r < 256 := Nat.lt_of_le_of_lt (Nat.div_le_self _ _) hc
  have e1 : (c.toNat : Int) / 2 ^ r = ((c.toNat / 2 ^ r : Nat) : Int) := by simp
  have hb : c.toNat / 2 ^ r % 2 = (c.toNat.testBit r).toNat := by
    rw [Nat.testBit_eq_decide_div_mod_eq]
    rcases Nat.mod_two_eq_zero_or_one (c.toNat / 2 ^ r) with h | h <;> simp [h]
  have hb2 : (c.toNat.testBit r).toNat ≤ 1 := by cases c.toNat.testBit r <;> simp
  have h1 : 2 ^ i ≤ 2 ^ 29 := Nat.pow_le_pow_right (by omega) (by omega)
  have h2 : (c.toNat.testBit r).toNat * 2 ^ i ≤ 2 ^ 29 := Nat.le_trans (Nat.mul_le_mul_right _ hb2) (by omega)
  have h3 : (2 : Nat) ^ 29 = 536870912 := by decide
  rw [e1, key ⟨_, hy⟩]
  simp only
  rw [hb, wrap64_of (((c.toNat.testBit r).toNat : Nat) : Int) (by omega)]
  have e2 : (((c.toNat.testBit r).toNat : Nat) : Int) * 2 ^ i = (((c.toNat.testBit r).toNat * 2 ^ i : Nat) : Int) := by simp
  rw [e2, wrap64_of _ (by omega), or_add _ _ _ hV (by omega) (by omega)]
theorem unp_get (l : List UInt8) (k : Nat) (h : k < 8 * l.length) : (unp l)[k]'(by rw [unp_length]; exact h) = (l.getD (k / 8) 0).toNat.testBit (k % 8) := by
  induction l generalizing k with
  | nil => simp at h
  | cons c l ih =>
    have e : unp (c :: l) = numBits c.toNat 8 ++ unp l := rfl
    simp only [e]
    by_cases hk : k < 8
    · rw [List.getElem_append_left (by rw [numBits_length]; exact hk)]
      simp [numBits, Nat.div_eq_of_lt hk, Nat.mod_eq_of_lt hk]
    · rw [List.getElem_append_right (by rw [numBits_length]; omega)]
      simp only [numBits_length]
      rw [ih (k - 8) (by simp at h; omega)]
      rw [show k / 8 = (k - 8) / 8 + 1 from by omega, List.getD_cons_succ, show k % 8 = (k - 8) % 8 from by omega]
/-- The bits from a place on. -/
def bitsAt (s : ByteArray) (p : Nat) : List Bool := (unp s.data.toList).drop p
theorem bitsAt_length (s : ByteArray) (p : Nat) : (bitsAt s p).length = 8 * s.size - p := by
  unfold bitsAt
  rw [List.length_drop, unp_length]; simp
theorem bitsAt_get (s : ByteArray) (p : Nat) (h : p < 8 * s.size) : bitsAt s p = (s[p / 8]'(by omega)).toNat.testBit (p % 8) :: bitsAt s (p + 1) := by
  unfold bitsAt
  have hl : p < (unp s.data.toList).length := by rw [unp_length]; simp; omega
  rw [List.drop_eq_getElem_cons hl, unp_get _ _ (by simp; omega), byte_at]
theorem bitsAt_drop (s : ByteArray) (p n : Nat) : (bitsAt s p).drop n = bitsAt s (p + n) := by unfold bitsAt; rw [List.drop_drop]
/-- What reading a number promises. -/
def NumOk (s : ByteArray) (p n most zb : Nat) (v : Value) (e : Ending) (w : World) : Prop :=
  match numT (bitsAt s p) n with
  | .error k => e = .returned (.tuple #[.int .i64 0, .int .i64 k]) ∧ Blk w zb 58 (zc s p most v)
  | .ok (x, _) => e = .returned (.tuple #[.int .i64 x, .int .i64 0]) ∧ Blk w zb 58 (zc s (p + n) most v)

set_option maxRecDepth 100000 in
set_option maxHeartbeats 2000000 in
theorem number_any (s : ByteArray) (p n most zb : Nat) (v : Value) (w : World) (hz : Blk w zb 58 (zc s p most v)) (hs : s.size ≤ 1000000000000000) (hp : p ≤ 8 * s.size) (hn : n ≤ 20) :
    Calls Try.prog 48 #[.pointer (some ⟨zb, 0, none⟩), .int .i64 n] w fun e w' => NumOk s p n most zb v e w' ∧ Fr zb [58] w w' := by
  have c0 := hz.cell 0
  have c1 := hz.cell 1
  simp [zc] at c0 c1
  have hbl := bitsAt_length s p
  by_cases hsh : 8 * s.size - p < n
  · have HN : Hid (numT (bitsAt s p) n = .error 5) := by show _ = _; unfold numT; rw [if_pos (by omega)]
    have d1 : decide ((8 * s.size : Int) - (p : Int) < (n : Int)) = true := by simp; omega
    have w1 : IntKind.i64.wrap (8 * (s.size : Int)) = 8 * (s.size : Int) := IntWalk.i64_in _ (by omega)
    have w2 : IntKind.i64.wrap (8 * (s.size : Int) - (p : Int)) = 8 * (s.size : Int) - (p : Int) := IntWalk.i64_in _ (by omega)
    clear hbl
    go_enter Try.func48, Try.ntmps48
    go_wp2_with fail
    go_quiet (fail)
    clear w1 w2
    go_wp2_with fail
    go_ret2
    refine ⟨?_, (Fr.refl _ _ _).drewN _⟩
    unfold NumOk
    rw [HN.out]
    exact ⟨rfl, hz.drewN _⟩
  · have HN : Hid (numT (bitsAt s p) n = .ok (byteOf ((bitsAt s p).take n), (bitsAt s p).drop n)) := by show _ = _; unfold numT; rw [if_neg (by omega)]
    have HBL := Lib.hid hbl
    clear hbl
    have d1 : decide ((8 * s.size : Int) - (p : Int) < (n : Int)) = false := by simp; omega
    have w1 : IntKind.i64.wrap (8 * (s.size : Int)) = 8 * (s.size : Int) := IntWalk.i64_in _ (by omega)
    have w2 : IntKind.i64.wrap (8 * (s.size : Int) - (p : Int)) = 8 * (s.size : Int) - (p : Int) := IntWalk.i64_in _ (by omega)
    go_enter Try.func48, Try.ntmps48
    go_wp2_with fail
    go_quiet (fail)
    clear w1 w2
    go_wp2_with fail
    have hz2 : Blk (w.drewN nq) zb 58 (zc s p most v) := hz
    have hf2 : Fr zb [58] w (w.drewN nq) := (Fr.refl _ _ _).drewN nq
    generalize w.drewN nq = w2 at *
    go_loopw [6, 22] (fun v6 vi wr => ∃ i V : Nat, vi = .int .i64 i ∧ i ≤ n ∧ v6 = .int .i64 V ∧ Hid (V = byteOf ((bitsAt s p).take i)) ∧ Blk wr zb 58 (zc s (p + i) most v) ∧ Fr zb [58] w wr) (fun _ vi _ => n - (intOf vi).toNat)
    case atStart => exact ⟨0, 0, rfl, Nat.zero_le _, rfl, rfl, hz2, hf2⟩
    case round =>
      clear hz2 hf2
      obtain ⟨i, V, rfl, hi, rfl, hV, hzr, hfr⟩ := hrel
      have htl : ((bitsAt s p).take i).length = i := by rw [List.length_take, HBL.out]; omega
      by_cases hlt : i < n
      · have hd : decide ((i : Int) < (n : Int)) = true := by simp; omega
        obtain ⟨P, hP⟩ : ∃ P, P = p + i := ⟨_, rfl⟩
        rw [← hP] at hzr
        have e0 := hzr.cell 0
        have e1 := hzr.cell 1
        simp [zc] at e0 e1
        have f1 := hzr.frozen 1
        obtain ⟨q, hq⟩ : ∃ q, q = P / 8 := ⟨_, rfl⟩
        obtain ⟨r, hr⟩ : ∃ r, r = P % 8 := ⟨_, rfl⟩
        have hPb : P < 8 * s.size := by omega
        have hqs : q < s.size := by omega
        have hr8 : r < 8 := by omega
        have hVlt : V < 2 ^ i := by
          have := byteOf_lt ((bitsAt s p).take i)
          rw [hV.out]; rwa [htl] at this
        have HST := Lib.hid (num_step V i r s[q] (by omega) hVlt)
        have HVN : Hid (V + ((s[q]).toNat.testBit r).toNat * 2 ^ i = byteOf ((bitsAt s p).take (i + 1))) := by
          show _ = _
          have hil : i < (bitsAt s p).length := by rw [HBL.out]; omega
          rw [List.take_succ_eq_append_getElem hil, byteOf_snoc, htl, ← hV.out]
          congr 2
          have hb : bitsAt s p = (bitsAt s p).take i ++ (bitsAt s p)[i] :: (bitsAt s p).drop (i + 1) := by rw [← List.drop_eq_getElem_cons hil, List.take_append_drop]
          have h1 := bitsAt_drop s p i
          rw [← hP, bitsAt_get s P hPb, List.drop_eq_getElem_cons hil] at h1
          injection h1 with h1 _
          rw [h1]
          simp only [hq, hr]
        have hq1 : (P : Int).tdiv 8 = (q : Int) := by rw [Int.tdiv_eq_ediv_of_nonneg (by omega)]; omega
        have hr1 : (P : Int).tmod 8 = (r : Int) := by rw [Int.tmod_eq_emod_of_nonneg (by omega)]; omega
        have hq2 : (0 : Int) ≤ (q : Int) := by omega
        have hq3 : (q : Int) < (s.size : Int) := by omega
        have hr2 : (0 : Int) ≤ (r : Int) := by omega
        have HP := Lib.hid hP
        have hzn := fun m => ((hzr.drewN m).put 1 (.int .i64 ((P : Int) + 1)))
        have hfn := fun m => (hfr.drewN m).put (hzr.drewN m) (Nat.le_refl _) (by simp) 1 (.int .i64 ((P : Int) + 1))
        have HZN := Lib.hid hzn
        have HFN := Lib.hid hfn
        clear hzn hfn
        clear hP hq hr c0 c1 htl hV hVlt
        go_wp2_with fail
        go_quiet (fail)
        clear hq1 hr1
        go_wp2_with fail
        refine ⟨⟨i + 1, _, by go_num, by omega, by rw [HST.out], by show _ = _; exact HVN.out, ?_, ?_⟩, by simp [intOf]; omega⟩
        · have := HZN.out nq
          rw [show p + (i + 1) = P + 1 from by have := HP.out; omega]
          simpa [zc] using this
        · exact HFN.out nq
      · have hd : decide ((i : Int) < (n : Int)) = false := by simp; omega
        obtain rfl : i = n := by omega
        go_wp2_with fail
        go_ret2
        refine ⟨?_, hfr⟩
        unfold NumOk
        rw [HN.out]
        exact ⟨by rw [← hV.out]; rfl, hzr⟩
end Go.Proofs.Ytppfjofaegbbjaa
