/-
  Numbers in bytes, runs; the program of tiff: number, isBig, run.
-/
import Derived.Test.YtakileiomgaahaaRas
namespace Go.Proofs.Ytakileiomgaahaa
open Go.RowKit

/-- The number with the bytes l, the least one first. -/
def numLE : List UInt8 → Nat
  | [] => 0
  | b :: l => b.toNat + 256 * numLE l
def numB (big : Bool) (l : List UInt8) : Nat := if big then numLE l.reverse else numLE l
theorem numLE_lt (l : List UInt8) : numLE l < 256 ^ l.length := by
  induction l with
  | nil => simp [numLE]
  | cons b l ih =>
    have := b.toNat_lt
    rw [numLE, List.length_cons, Nat.pow_succ]
    omega
theorem numLE_snoc (l : List UInt8) (b : UInt8) : numLE (l ++ [b]) = numLE l + 256 ^ l.length * b.toNat := by
  induction l with
  | nil => simp [numLE]
  | cons c l ih => rw [List.cons_append, numLE, ih, numLE, List.length_cons, Nat.pow_succ, Nat.mul_add, ← Nat.mul_assoc, Nat.mul_comm 256 (256 ^ l.length)]; omega
theorem numB_lt (big : Bool) (l : List UInt8) : numB big l < 256 ^ l.length := by
  unfold numB
  split
  · have := numLE_lt l.reverse; rwa [List.length_reverse] at this
  · exact numLE_lt l
theorem numB_snoc_big (l : List UInt8) (b : UInt8) : numB true (l ++ [b]) = 256 * numB true l + b.toNat := by
  unfold numB
  rw [if_pos rfl, if_pos rfl, List.reverse_append]
  show numLE (b :: l.reverse) = _
  rw [numLE]; omega
theorem or_wide (a b : Nat) (ha : a < 16777216) (hb : b < 256) : bits .or .i64 ((a : Int) * 256) (b : Int) = ((256 * a + b : Nat) : Int) := by
  have h1 : ∀ a : Nat, a < 9223372036854775808 → (BitVec.ofInt 64 (a : Int)).toNat = a := fun a ha => by
    rw [BitVec.ofInt_natCast, BitVec.toNat_ofNat]; exact Nat.mod_eq_of_lt (by omega)
  have e0 : (a : Int) * 256 = ((a * 2 ^ 8 : Nat) : Int) := by omega
  have e1 : a * 2 ^ 8 ||| b = a * 2 ^ 8 + b := by rw [Nat.mul_comm]; exact (Nat.two_pow_add_eq_or_of_lt (by omega) a).symm
  rw [e0]
  show IntKind.i64.wrap ((BitVec.ofInt 64 ((a * 2 ^ 8 : Nat) : Int) ||| BitVec.ofInt 64 (b : Int)).toNat : Int) = _
  rw [BitVec.toNat_or, h1 _ (by omega), h1 b (by omega), e1, IntKind.wrap_i64]
  omega
theorem or_over (n b k : Nat) (hn : n < 2 ^ k) (hk : k ≤ 24) (hb : b < 256) : bits .or .i64 (n : Int) ((b * 2 ^ k : Nat) : Int) = ((n + 2 ^ k * b : Nat) : Int) := by
  have h1 : ∀ a : Nat, a < 9223372036854775808 → (BitVec.ofInt 64 (a : Int)).toNat = a := fun a ha => by
    rw [BitVec.ofInt_natCast, BitVec.toNat_ofNat]; exact Nat.mod_eq_of_lt (by omega)
  have hp : (2 : Nat) ^ k ≤ 2 ^ 24 := Nat.pow_le_pow_right (by decide) hk
  have hm : b * 2 ^ k ≤ 255 * 2 ^ 24 := Nat.mul_le_mul (by omega) hp
  have e1 : n ||| b * 2 ^ k = b * 2 ^ k + n := by rw [Nat.or_comm, Nat.mul_comm]; exact (Nat.two_pow_add_eq_or_of_lt hn b).symm
  show IntKind.i64.wrap ((BitVec.ofInt 64 (n : Int) ||| BitVec.ofInt 64 ((b * 2 ^ k : Nat) : Int)).toNat : Int) = _
  rw [BitVec.toNat_or, h1 _ (by omega), h1 _ (by omega), e1, IntKind.wrap_i64]
  rw [Nat.mul_comm b (2 ^ k)] at hm ⊢
  omega

set_option maxHeartbeats 1000000 in
set_option maxRecDepth 100000 in
theorem isBig_any (s : ByteArray) (w : World) (hs : s.size ≤ maxLen) : Calls Try.prog 35 #[.string s] w fun e w' => e = .returned (.bool (s.data.toList.take 2 == [77, 77])) ∧ w = w' := by
  unfold maxLen at hs
  by_cases h2 : 2 ≤ s.size
  · have d2 : decide ((2 : Int) ≤ (s.size : Int)) = true := by simp; omega
    obtain ⟨b, hb⟩ : ∃ b, ((s.extract 0 2).toList == [77, 77]) = b := ⟨_, rfl⟩
    have HB : Hid ((s.data.toList.take 2 == [77, 77]) = b) := by
      show _ = _
      rw [← hb, ByteArray.toList_eq, extract_list]; rfl
    go_enter Try.func35, Try.ntmps35
    go_wp2_with fail
    go_ret
    exact ⟨by rw [HB.out]; rfl, rfl⟩
  · have d2 : decide ((2 : Int) ≤ (s.size : Int)) = false := by simp; omega
    have HB : Hid ((s.data.toList.take 2 == [77, 77]) = false) := by
      show _ = _
      rw [beq_eq_false_iff_ne]
      intro h
      have := congrArg List.length h
      rw [List.length_take] at this
      simp at this
      omega
    go_enter Try.func35, Try.ntmps35
    go_wp2_with fail
    go_ret
    exact ⟨by rw [HB.out]; rfl, rfl⟩

set_option maxHeartbeats 2000000 in
set_option maxRecDepth 100000 in
theorem number_any (s : ByteArray) (big : Bool) (w : World) (hs : s.size ≤ 4) : Calls Try.prog 36 #[.string s, .bool big] w fun e w' => e = .returned (.int .i64 (numB big s.data.toList : Nat)) ∧ w = w' := by
  go_enter Try.func36, Try.ntmps36
  go_wp2_with fail
  go_loopw [5, 9] (fun vn vk wr => ∃ k n : Nat, vn = .int .i64 n ∧ vk = .int .i64 k ∧ k ≤ s.size ∧ Hid (n = numB big (s.data.toList.take k)) ∧ wr = w) (fun _ vk _ => s.size - (intOf vk).toNat)
  case atStart => exact ⟨0, 0, rfl, rfl, Nat.zero_le _, by cases big <;> rfl, rfl⟩
  case round =>
    obtain ⟨k, n, rfl, rfl, hk, hn, rfl⟩ := hrel
    by_cases hlt : k < s.size
    · have dlt : decide ((k : Int) < (s.size : Int)) = true := by simp; omega
      have hsn := take_snoc s k hlt
      have hlen : (s.data.toList.take k).length = k := by rw [List.length_take]; simp; omega
      have hnl : n < 256 ^ k := by have := numB_lt big (s.data.toList.take k); rw [hlen] at this; rw [hn.out]; exact this
      obtain ⟨b, hb⟩ : ∃ b, s[k] = b := ⟨_, rfl⟩
      rw [hb] at hsn
      have hb8 := b.toNat_lt
      have m3 : wrap64 (b.toNat : Int) = (b.toNat : Int) := wrap64_byte' _
      have hk3 : k ≤ 3 := by omega
      cases big with
      | true =>
        have HN : Hid (numB true (s.data.toList.take (k + 1)) = 256 * n + b.toNat) := by show _ = _; rw [hsn, numB_snoc_big, hn.out]
        have hn24 : n < 16777216 := Nat.lt_of_lt_of_le hnl (Nat.pow_le_pow_right (by decide) hk3)
        have hor := or_wide n b.toNat hn24 hb8
        clear hsn hlen hnl hn
        go_wp2_with fail
        refine ⟨⟨k + 1, 256 * n + b.toNat, by congr 1, by go_num, by omega, HN.out.symm, trivial⟩, by simp [intOf]; omega⟩
      | false =>
        have HN : Hid (numB false (s.data.toList.take (k + 1)) = n + 256 ^ k * b.toNat) := by
          show _ = _; unfold numB; rw [if_neg (by decide), hsn, numLE_snoc, hlen]; have := hn.out; unfold numB at this; rw [if_neg (by decide)] at this; rw [this]
        have e8 : (256 : Nat) ^ k = 2 ^ (8 * k) := by rw [Nat.pow_mul]
        have hor := or_over n b.toNat (8 * k) (by rw [← e8]; exact hnl) (by omega) hb8
        have hwr : wrap64 ((b.toNat : Int) * 2 ^ (8 * k)) = ((b.toNat * 2 ^ (8 * k) : Nat) : Int) := by
          have hp : (2 : Nat) ^ (8 * k) ≤ 2 ^ 24 := Nat.pow_le_pow_right (by decide) (by omega)
          have hm : b.toNat * 2 ^ (8 * k) ≤ 255 * 2 ^ 24 := Nat.mul_le_mul (by omega) hp
          have he : (b.toNat : Int) * 2 ^ (8 * k) = ((b.toNat * 2 ^ (8 * k) : Nat) : Int) := by simp
          rw [he, wrap64_of _ (by omega)]
        have HOR : Hid (bits .or .i64 (n : Int) (wrap64 ((b.toNat : Int) * 2 ^ (8 * k))) = ((n + 256 ^ k * b.toNat : Nat) : Int)) := by show _ = _; rw [hwr, hor, e8]
        clear hsn hlen hn hor hwr e8 hnl
        go_wp2_with fail
        refine ⟨⟨k + 1, n + 256 ^ k * b.toNat, by rw [HOR.out], by go_num, by omega, HN.out.symm, trivial⟩, by simp [intOf]; omega⟩
    · have dlt : decide ((k : Int) < (s.size : Int)) = false := by simp; omega
      have HN : Hid (numB big s.data.toList = n) := by show _ = _; rw [hn.out, List.take_of_length_le (by simp; omega)]
      clear hn
      go_wp2_with fail
      go_ret
      exact ⟨by rw [HN.out]; rfl, rfl⟩

/-- How many equal bytes l begins with, at most 128. -/
def runP : List UInt8 → Nat
  | [] => 0
  | b :: l => min 128 (((b :: l).takeWhile (· == b)).length)
theorem runP_eq (l : List UInt8) : runP l = min 128 ((l.takeWhile (· == l.getD 0 0)).length) := by
  cases l with
  | nil => rfl
  | cons b l => rfl
theorem tw_all_take (f : UInt8 → Bool) (l : List UInt8) (k : Nat) (h : ∀ i (_ : i < k) (hi : i < l.length), f l[i] = true) (hk : k ≤ l.length) : k ≤ (l.takeWhile f).length := by
  induction l generalizing k with
  | nil => simpa using hk
  | cons b l ih =>
    cases k with
    | zero => exact Nat.zero_le _
    | succ k =>
      have h0 : f b = true := h 0 (by omega) (by simp)
      rw [List.takeWhile_cons, if_pos h0, List.length_cons]
      have := ih k (fun i hi hl => by have := h (i + 1) (by omega) (by simp; omega); simpa using this) (by simpa using hk)
      omega
theorem tw_stop (f : UInt8 → Bool) (l : List UInt8) (k : Nat) (hk : k < l.length) (h : f l[k] = false) : (l.takeWhile f).length ≤ k := by
  induction l generalizing k with
  | nil => simp at hk
  | cons b l ih =>
    rw [List.takeWhile_cons]
    split
    · cases k with
      | zero => rename_i hb; simp at h; rw [h] at hb; cases hb
      | succ k => rw [List.length_cons]; have := ih k (by simpa using hk) (by simpa using h); omega
    · exact Nat.zero_le _

set_option maxHeartbeats 2000000 in
set_option maxRecDepth 100000 in
theorem run_any (s : ByteArray) (w : World) (hs : s.size ≤ maxLen) : Calls Try.prog 33 #[.string s] w fun e w' => e = .returned (.int .i64 (runP s.data.toList : Nat)) ∧ ∃ n, w' = w.drewN n := by
  have HR := Lib.hid (runP_eq s.data.toList)
  unfold maxLen at hs
  go_enter Try.func33, Try.ntmps33
  go_wp2_with fail
  go_loopw [3] (fun vk wr => ∃ k m : Nat, vk = .int .i64 k ∧ k ≤ s.size ∧ k ≤ 128 ∧ Hid (∀ i (_ : i < k) (hi : i < s.data.toList.length), s.data.toList[i] = s.data.toList.getD 0 0) ∧ wr = w.drewN m) (fun vk _ => 200 - (intOf vk).toNat)
  case atStart => exact ⟨0, 0, rfl, Nat.zero_le _, Nat.zero_le _, fun i hi => absurd hi (by omega), rfl⟩
  case round =>
    obtain ⟨k, m, rfl, hk, hk2, heq, rfl⟩ := hrel
    have HDW : Hid (∀ j, ∃ n, (w.drewN m).drewN j = w.drewN n) := fun j => ⟨m + j, by simp⟩
    generalize hwm : w.drewN m = wm at *
    have HWM := Lib.hid hwm.symm
    clear hwm
    by_cases hlt : k < s.size ∧ k < 128
    · have hl1 := hlt.1
      have hl2 := hlt.2
      have h00 : 0 < s.size := by omega
      have dlt : decide ((k : Int) < min (s.size : Int) 128) = true := by simp; omega
      have hgk : s.data.toList[k]'(by simpa using hl1) = s[k] := by rw [Array.getElem_toList]; rfl
      have hg0 : s.data.toList.getD 0 0 = s[0] := by
        rw [List.getD_eq_getElem?_getD, List.getElem?_eq_getElem (by simpa using h00)]
        simp only [Option.getD_some, Array.getElem_toList]
        rfl
      clear hlt
      by_cases he : s[k] = s[0]
      · have ee : (((s[k]).toNat : Int) == ((s[0]).toNat : Int)) = true := by rw [he]; simp
        have HEQ : Hid (∀ i (_ : i < k + 1) (hi : i < s.data.toList.length), s.data.toList[i] = s.data.toList.getD 0 0) := by
          intro i hi hil
          by_cases hik : i = k
          · subst hik; rw [hgk, he, hg0]
          · exact heq.out i (by omega) hil
        clear he hgk hg0 heq
        go_wp2_with fail
        go_quiet (fail)
        obtain ⟨n3, hn3⟩ := HDW.out nq
        have HN3 := Lib.hid hn3
        clear hn3
        generalize wm.drewN nq = w3 at *
        go_wp2_with fail
        refine ⟨⟨k + 1, n3, by go_num, by omega, by omega, HEQ.out, HN3.out⟩, by simp [intOf]; omega⟩
      · have ee : (((s[k]).toNat : Int) == ((s[0]).toNat : Int)) = false := by
          rw [beq_eq_false_iff_ne]
          intro h
          exact he (UInt8.toNat_inj.1 (by omega))
        have HRES : Hid (runP s.data.toList = k) := by
          show _ = _
          rw [HR.out, hg0]
          have h1 := tw_all_take (· == s[0]) s.data.toList k (fun i hi hil => by have := heq.out i hi hil; rw [hg0] at this; simpa using this) (by simpa using hk)
          have h2 := tw_stop (· == s[0]) s.data.toList k (by simpa using hl1) (by rw [hgk]; simpa using he)
          omega
        clear he hgk hg0 heq
        go_wp2_with fail
        go_quiet (fail)
        obtain ⟨n3, hn3⟩ := HDW.out nq
        have HN3 := Lib.hid hn3
        clear hn3
        generalize wm.drewN nq = w3 at *
        go_wp2_with fail
        go_ret
        exact ⟨by rw [HRES.out]; rfl, n3, HN3.out⟩
    · have dlt : decide ((k : Int) < min (s.size : Int) 128) = false := by simp; omega
      have HRES : Hid (runP s.data.toList = k) := by
        show _ = _
        rw [HR.out]
        have h1 := tw_all_take (· == s.data.toList.getD 0 0) s.data.toList k (fun i hi hil => by have := heq.out i hi hil; simpa using this) (by simpa using hk)
        have h2 : (s.data.toList.takeWhile (· == s.data.toList.getD 0 0)).length ≤ s.data.toList.length := (List.takeWhile_sublist _).length_le
        have h3 : s.data.toList.length = s.size := by simp
        omega
      clear hlt heq
      go_wp2_with fail
      go_quiet (fail)
      obtain ⟨n3, hn3⟩ := HDW.out nq
      have HN3 := Lib.hid hn3
      clear hn3
      generalize wm.drewN nq = w3 at *
      go_wp2_with fail
      go_ret
      exact ⟨by rw [HRES.out]; rfl, n3, HN3.out⟩
end Go.Proofs.Ytakileiomgaahaa
