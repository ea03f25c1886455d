/-
  The reference of tiff: little, entry.
-/
import Derived.Test.YtakileiomgaahaaTi6
import Derived.Test.YtakileiomgaahaaE3
import Derived.Test.YtakileiomgaahaaBw
namespace Go.Proofs.Ytakileiomgaahaa
open Go.RowKit

set_option maxHeartbeats 2000000 in
set_option maxRecDepth 100000 in
theorem rlittle_any (v n : Nat) (w : World) (hn : n ≤ 4) : Calls Try.prog 63 #[.int .i64 v, .int .i64 n] w fun e w' => e = .returned (.string ⟨(litB v n).toArray⟩) ∧ Below w.heap.size w w' := by
  go_enter Try.func63, Try.ntmps63
  go_wp2_with fail
  go_loopw [6, 5] (fun vk vs wr => ∃ (k : Nat) (st : ByteArray), vk = .int .i64 k ∧ vs = .string st ∧ k ≤ n ∧ Hid (st.data.toList = litB v k) ∧ st.size ≤ 4 ∧ Hid (Below w.heap.size w wr)) (fun vk _ _ => n - (intOf vk).toNat)
  case atStart => exact ⟨0, ⟨#[]⟩, rfl, rfl, Nat.zero_le _, rfl, by decide, Below.refl _ _⟩
  case round =>
    obtain ⟨k, st, rfl, rfl, hk, hst, hss, hbw⟩ := hrel
    by_cases hlt : k < n
    · have dlt : decide ((k : Int) < (n : Int)) = true := by simp; omega
      obtain ⟨q, hq⟩ : ∃ q, q = v / 2 ^ (8 * k) := ⟨_, rfl⟩
      have hsh : (v : Int) / 2 ^ (8 * k) = (q : Int) := by rw [hq]; simp
      have HQ : Hid (litB v (k + 1) = litB v k ++ [UInt8.ofNat (q % 256)]) := by show _ = _; rw [hq, litB_succ]
      have hs := str1 (q % 256) (by omega) wr
      have HB := Lib.hid (hbw.out.alloc hbw.out.size (.cells #[.int .u8 ((q % 256 : Nat) : Int)] 5))
      have c1 : ((q % 256 : Nat) : Int) = (q : Int) % 256 := by omega
      rw [c1] at hs HB
      obtain ⟨b1, hb1⟩ : ∃ bt, bt = UInt8.ofNat (q % 256) := ⟨_, rfl⟩
      rw [← hb1] at hs HQ
      have hst2 : st.size = k := by have := congrArg List.length hst.out; rw [litB_len] at this; simpa using this
      have HS2 := Lib.hid hst2
      have hk4 : k ≤ 3 := by omega
      clear hq c1 hb1 hst2
      go_wp2_with fail
      go_roundw
      case rel =>
        refine ⟨k + 1, _, by go_num, rfl, by omega, ?_, ?_, HB.out⟩
        · show _ = _
          rw [HQ.out, ← hst.out]
          simp [ByteArray.data_append]
        · have := HS2.out
          have e : (st ++ (⟨#[b1]⟩ : ByteArray)).size = st.size + 1 := by simp [ByteArray.size_append]; rfl
          first | (rw [e]; omega) | (simp [ByteArray.size_append]; omega)
      case measure => simp [intOf]; omega
    · have dlt : decide ((k : Int) < (n : Int)) = false := by simp; omega
      have hkn : k = n := by omega
      have HF : Hid (st = ⟨(litB v n).toArray⟩) := by
        show _ = _
        rw [← hkn, ← hst.out]
      clear hkn
      go_wp2_with fail
      go_ret
      exact ⟨by rw [HF.out]; rfl, hbw.out⟩
set_option maxHeartbeats 2000000 in
set_option maxRecDepth 100000 in
theorem rentry_any (a b c d : Nat) (w : World) :
    Calls Try.prog 64 #[.int .i64 a, .int .i64 b, .int .i64 c, .int .i64 d] w fun e w' => e = .returned (.string ⟨(tagB a b c d).toArray⟩) ∧ Below w.heap.size w w' := by
  have H1 := Lib.hid (fun w => rlittle_any a 2 w (by decide))
  have H2 := Lib.hid (fun w => rlittle_any b 2 w (by decide))
  have H3 := Lib.hid (fun w => rlittle_any c 4 w (by decide))
  have H4 := Lib.hid (fun w => rlittle_any d 4 w (by decide))
  have HT : Hid (tagB a b c d = litB a 2 ++ litB b 2 ++ litB c 4 ++ litB d 4) := rfl
  obtain ⟨s1, hs1, hz1⟩ : ∃ s : ByteArray, s = ⟨(litB a 2).toArray⟩ ∧ s.size = 2 := ⟨_, rfl, by rw [ba_len, litB_len]⟩
  obtain ⟨s2, hs2, hz2⟩ : ∃ s : ByteArray, s = ⟨(litB b 2).toArray⟩ ∧ s.size = 2 := ⟨_, rfl, by rw [ba_len, litB_len]⟩
  obtain ⟨s3, hs3, hz3⟩ : ∃ s : ByteArray, s = ⟨(litB c 4).toArray⟩ ∧ s.size = 4 := ⟨_, rfl, by rw [ba_len, litB_len]⟩
  obtain ⟨s4, hs4, hz4⟩ : ∃ s : ByteArray, s = ⟨(litB d 4).toArray⟩ ∧ s.size = 4 := ⟨_, rfl, by rw [ba_len, litB_len]⟩
  have HF : Hid ((((s1 ++ s2) ++ s3) ++ s4) = ⟨(tagB a b c d).toArray⟩) := by
    show _ = _
    rw [HT.out, hs1, hs2, hs3, hs4]
    apply ByteArray.ext
    simp [ByteArray.data_append]
  rw [← hs1] at H1
  rw [← hs2] at H2
  rw [← hs3] at H3
  rw [← hs4] at H4
  have hb1 : s1.size ≤ 4 := by omega
  have hb2 : s2.size ≤ 4 := by omega
  have hb3 : s3.size ≤ 4 := by omega
  have hb4 : s4.size ≤ 4 := by omega
  clear hs1 hs2 hs3 hs4 hz1 hz2 hz3 hz4
  go_enter Try.func64, Try.ntmps64
  go_wp2_with fail
  refine (H1.out _).mono ?_
  rintro e w1 ⟨rfl, hb1'⟩
  have HB1 := Lib.hid hb1'
  clear hb1'
  go_wp2_with fail
  refine (H2.out _).mono ?_
  rintro e w2 ⟨rfl, hb2'⟩
  have HB2 := Lib.hid (bthen HB1.out hb2')
  clear hb2'
  go_wp2_with fail
  refine (H3.out _).mono ?_
  rintro e w3 ⟨rfl, hb3'⟩
  have HB3 := Lib.hid (bthen HB2.out hb3')
  clear hb3'
  go_wp2_with fail
  refine (H4.out _).mono ?_
  rintro e w4 ⟨rfl, hb4'⟩
  have HB4 := Lib.hid (bthen HB3.out hb4')
  clear hb4'
  go_wp2_with fail
  go_ret
  exact ⟨by rw [← HF.out]; rfl, HB4.out⟩
end Go.Proofs.Ytakileiomgaahaa
