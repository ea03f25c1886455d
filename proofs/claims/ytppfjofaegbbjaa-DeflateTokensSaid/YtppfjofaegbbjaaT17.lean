/-
  Walks of the law's own reader of bits, and the law DeflateTokens.
-/
import Derived.Test.YtppfjofaegbbjaaT16
import Derived.Test.YtppfjofaegbbjaaRdb
namespace Go.Proofs.Ytppfjofaegbbjaa
open Go.RowKit

/-- The law's reader at place k of the packed bits. -/
def Rd (w : World) (g : Nat) (z : ByteArray) (k : Nat) : Prop := Blk w g 27 #[.string z, .int .i64 k]

theorem Rd.drewN {w : World} {g k : Nat} {z : ByteArray} (h : Rd w g z k) (n : Nat) : Rd (w.drewN n) g z k := h

set_option maxRecDepth 100000 in
set_option maxHeartbeats 1000000 in
theorem take_any (w : World) (B g k : Nat) (z : ByteArray) (bs : List Bool) (hz : z.data.toList = pack bs) (h : Rd w g z k) (hB : B ≤ g) (hk : k < 1000000000) :
    Calls Try.prog 38 #[.pointer (some ⟨g, 0, none⟩)] w fun e w' => e = .returned (.int .i64 (bitN bs k)) ∧ Rd w' g z (k + 1) ∧ Fr B [27] w w' := by
  have hsz : z.size = (pack bs).length := by rw [← hz]; simp
  obtain ⟨q, hq⟩ : ∃ q, q = k / 8 := ⟨_, rfl⟩
  obtain ⟨m, hm⟩ : ∃ m, m = k % 8 := ⟨_, rfl⟩
  have hd1 : (k : Int).tdiv 8 = (q : Int) := by rw [Int.tdiv_eq_ediv_of_nonneg (by omega)]; omega
  have hm1 : (k : Int).tmod 8 = (m : Int) := by rw [Int.tmod_eq_emod_of_nonneg (by omega)]; omega
  have hw1 : IntKind.i64.wrap (q : Int) = (q : Int) := IntWalk.i64_in _ (by omega)
  have hmin : min m 64 = m := by omega
  have hc0 := h.cell 0
  have hc1 := h.cell 1
  have hf1 := h.frozen 1
  simp at hc0 hc1
  have hend : ∀ n : Nat, Rd ((w.drewN n).setCell ⟨g, 1, none⟩ (.int .i64 ((k : Int) + 1))) g z (k + 1) ∧ Fr B [27] w ((w.drewN n).setCell ⟨g, 1, none⟩ (.int .i64 ((k : Int) + 1))) := fun n =>
    ⟨by have h1 := (Blk.drewN h n).put 1 (.int .i64 ((k : Int) + 1)); simpa [Rd] using h1, ((Fr.refl _ _ _).drewN n).put (Blk.drewN h n) hB (by simp) 1 _⟩
  have HE := Lib.hid hend
  clear hend
  have HQ := Lib.hid hq
  have HM := Lib.hid hm
  have HZ := Lib.hid hz
  have HS := Lib.hid hsz
  clear hq hm hz hsz
  by_cases hlt : q < z.size
  · have hx1 : (q : Int) < (z.size : Int) := by omega
    have hbit : Hid (bits .and .i64 (wrap64 (z[q].toNat : Int) / 2 ^ m) 1 = (bitN bs k : Int)) := by
      show _ = _
      rw [and_one, wrap64_byte', bit_of, bitN, ← pack_bit' bs k (by rw [← HQ.out, ← HS.out]; exact hlt), ← HQ.out, ← HM.out, ← HZ.out, ← byte_at z q hlt]
    go_enter Try.func38, Try.ntmps38
    go_wp2_with fail
    go_quiet (fail)
    go_wp2_with fail
    go_quiet (fail)
    clear hd1 hm1 hw1 hmin
    go_wp2_with fail
    go_ret
    refine ⟨ret_int hbit.out, ?_⟩
    exact HE.out _
  · have hx1 : ¬ (q : Int) < (z.size : Int) := by omega
    have hbit : Hid (bitN bs k = 0) := by
      show _ = _
      have h1 : bs.length ≤ k := by
        have h2 := pack_length bs
        have := HS.out; have := HQ.out
        omega
      unfold bitN
      simp [List.getD, List.getElem?_eq_none h1]
    go_enter Try.func38, Try.ntmps38
    go_wp2_with fail
    go_quiet (fail)
    clear hd1 hm1 hw1 hmin
    go_wp2_with fail
    go_ret
    refine ⟨ret_int (by rw [hbit.out]; rfl), ?_⟩
    exact HE.out _

set_option maxRecDepth 100000 in
set_option maxHeartbeats 1000000 in
theorem lnumber_any (w : World) (B g k n : Nat) (z : ByteArray) (bs : List Bool) (hz : z.data.toList = pack bs) (h : Rd w g z k) (hB : B ≤ g) (hk : k < 900000000) (hn : n ≤ 20) :
    Calls Try.prog 14 #[.pointer (some ⟨g, 0, none⟩), .int .i64 n] w fun e w' => e = .returned (.int .i64 (numV bs k n)) ∧ Rd w' g z (k + n) ∧ Fr B [27] w w' := by
  have HZ := Lib.hid hz
  clear hz
  go_enter Try.func14, Try.ntmps14
  go_wp2_with fail
  go_loopw [5, 6] (fun vv vi wr => ∃ i v : Nat, vi = .int .i64 i ∧ vv = .int .i64 v ∧ i ≤ n ∧ v < 1048576 ∧ Hid (v = numV bs k i) ∧ Rd wr g z (k + i) ∧ Fr B [27] w wr) (fun _ vi _ => n - (intOf vi).toNat)
  case atStart => exact ⟨0, 0, rfl, rfl, Nat.zero_le _, by omega, rfl, h, Fr.refl _ _ _⟩
  case round =>
    obtain ⟨i, v, rfl, rfl, hi, hvl, hv, hr, hf⟩ := hrel
    by_cases hlt : i < n
    · go_wp2_with fail
      refine (take_any _ B g (k + i) z bs HZ.out hr hB (by omega)).mono ?_
      rintro e w1 ⟨rfl, hr1, hf1⟩
      have hb := bitN_le bs (k + i)
      have hnv := numV_lt bs k (i + 1)
      have hst : numV bs k (i + 1) = numV bs k i + bitN bs (k + i) * 2 ^ i := rfl
      have hpw : 2 ^ (i + 1) ≤ 2 ^ 20 := Nat.pow_le_pow_right (by omega) (by omega)
      have hn1 : numV bs k (i + 1) < 1048576 := Nat.lt_of_lt_of_le hnv (by simpa using hpw)
      rw [← hv.out] at hst
      obtain ⟨y, hy⟩ : ∃ y, y = bitN bs (k + i) * 2 ^ i := ⟨_, rfl⟩
      rw [← hy] at hst
      have hyl : y < 1048576 := by omega
      have HST := Lib.hid hst
      have HY := Lib.hid hy
      have hsum : (v : Int) + (y : Int) < 1048576 := by omega
      clear hst hnv hpw
      have hsh : wrap64 ((bitN bs (k + i) : Int) * 2 ^ i) = (y : Int) := by
        have e1 : (bitN bs (k + i) : Int) * 2 ^ i = ((bitN bs (k + i) * 2 ^ i : Nat) : Int) := by simp
        rw [e1, ← hy]
        exact wrap64_of _ (by omega)
      clear hy
      generalize bitN bs (k + i) = b at *
      go_wp2_with fail
      clear hsh
      go_roundw
      case rel => exact ⟨i + 1, v + y, by go_num, by go_num, by omega, by omega, by show _ = _; rw [HST.out], hr1, hf.trans hf1⟩
      case measure => simp [intOf]; omega
    · obtain rfl : i = n := by omega
      go_wp2_with fail
      go_ret
      exact ⟨ret_int (by rw [hv.out]), hr, hf⟩

set_option maxRecDepth 100000 in
set_option maxHeartbeats 1000000 in
theorem lcode_any (w : World) (B g k n : Nat) (z : ByteArray) (bs : List Bool) (hz : z.data.toList = pack bs) (h : Rd w g z k) (hB : B ≤ g) (hk : k < 900000000) (hn : n ≤ 20) :
    Calls Try.prog 19 #[.pointer (some ⟨g, 0, none⟩), .int .i64 n] w fun e w' => e = .returned (.int .i64 (codeV bs k n)) ∧ Rd w' g z (k + n) ∧ Fr B [27] w w' := by
  have HZ := Lib.hid hz
  clear hz
  go_enter Try.func19, Try.ntmps19
  go_wp2_with fail
  go_loopw [5, 6] (fun vv vi wr => ∃ i v : Nat, vi = .int .i64 i ∧ vv = .int .i64 v ∧ i ≤ n ∧ v < 1048576 ∧ Hid (v = codeV bs k i) ∧ Rd wr g z (k + i) ∧ Fr B [27] w wr) (fun _ vi _ => n - (intOf vi).toNat)
  case atStart => exact ⟨0, 0, rfl, rfl, Nat.zero_le _, by omega, rfl, h, Fr.refl _ _ _⟩
  case round =>
    obtain ⟨i, v, rfl, rfl, hi, hvl, hv, hr, hf⟩ := hrel
    by_cases hlt : i < n
    · go_wp2_with fail
      refine (take_any _ B g (k + i) z bs HZ.out hr hB (by omega)).mono ?_
      rintro e w1 ⟨rfl, hr1, hf1⟩
      have hb := bitN_le bs (k + i)
      have hnv := codeV_lt bs k (i + 1)
      have hst : codeV bs k (i + 1) = 2 * codeV bs k i + bitN bs (k + i) := rfl
      have hpw : 2 ^ (i + 1) ≤ 2 ^ 20 := Nat.pow_le_pow_right (by omega) (by omega)
      have hn1 : codeV bs k (i + 1) < 1048576 := Nat.lt_of_lt_of_le hnv (by simpa using hpw)
      rw [← hv.out] at hst
      have HST := Lib.hid hst
      have hsum : 2 * v + bitN bs (k + i) < 1048576 := by omega
      clear hst hnv hpw hn1
      generalize bitN bs (k + i) = b at *
      go_wp2_with fail
      go_roundw
      case rel => exact ⟨i + 1, 2 * v + b, by go_num, by go_num, by omega, by omega, by show _ = _; rw [HST.out], hr1, hf.trans hf1⟩
      case measure => simp [intOf]; omega
    · obtain rfl : i = n := by omega
      go_wp2_with fail
      go_ret
      exact ⟨ret_int (by rw [hv.out]), hr, hf⟩
set_option maxRecDepth 100000 in
set_option maxHeartbeats 1000000 in
theorem lsymbol_any (w : World) (B g k : Nat) (z : ByteArray) (bs : List Bool) (hz : z.data.toList = pack bs) (h : Rd w g z k) (hB : B ≤ g) (hk : k < 800000000) (hsy : (symV bs k).2 ≠ 9 ∨ 256 ≤ codeV bs k 9) :
    Calls Try.prog 16 #[.pointer (some ⟨g, 0, none⟩)] w fun e w' => e = .returned (.int .i64 (symV bs k).1) ∧ Rd w' g z (k + (symV bs k).2) ∧ Fr B [27] w w' := by
  have HZ := Lib.hid hz
  clear hz
  have hd : Hid (symV bs k = if codeV bs k 7 < 24 then (256 + codeV bs k 7, 7)
    else if 48 ≤ codeV bs k 8 ∧ codeV bs k 8 < 192 then (codeV bs k 8 - 48, 8)
    else if 192 ≤ codeV bs k 8 ∧ codeV bs k 8 < 200 then (codeV bs k 8 - 192 + 280, 8)
    else (codeV bs k 9 + 144 - 400, 9)) := rfl
  have HS := Lib.hid hsy
  clear hsy
  have h7 := codeV_lt bs k 7
  have e8 : codeV bs k 8 = 2 * codeV bs k 7 + bitN bs (k + 7) := rfl
  have e9 : codeV bs k 9 = 2 * codeV bs k 8 + bitN bs (k + 8) := rfl
  have b7 := bitN_le bs (k + 7)
  have b8 := bitN_le bs (k + 8)
  have E8 := Lib.hid e8
  have E9 := Lib.hid e9
  clear e8 e9
  generalize symV bs k = sv at *
  go_enter Try.func16, Try.ntmps16
  go_wp2_with fail
  refine (lcode_any _ B g k 7 z bs HZ.out h hB (by omega) (by omega)).mono ?_
  rintro e w1 ⟨rfl, hr1, hf1⟩
  generalize codeV bs k 7 = c7 at *
  by_cases h24 : c7 < 24
  · go_wp2_with fail
    go_ret
    rw [hd.out, if_pos h24]
    exact ⟨rfl, hr1, hf1⟩
  · go_wp2_with fail
    refine (take_any _ B g (k + 7) z bs HZ.out hr1 hB (by omega)).mono ?_
    rintro e w2 ⟨rfl, hr2, hf2⟩
    generalize bitN bs (k + 7) = b at *
    obtain ⟨c8, h8⟩ : ∃ c8, c8 = 2 * c7 + b := ⟨_, rfl⟩
    have hd' := hd.out
    rw [if_neg h24, E8.out, ← h8] at hd'
    have e9' := E9.out
    rw [E8.out, ← h8] at e9'
    have HD := Lib.hid hd'
    have H9 := Lib.hid e9'
    clear hd hd' e9' E8 E9
    by_cases h1 : 48 ≤ c8 ∧ c8 < 192
    · have t1 : (48 : Int) ≤ 2 * (c7 : Int) + (b : Int) := by omega
      have t2 : 2 * (c7 : Int) + (b : Int) < 192 := by omega
      have hres : Hid (sv = (c8 - 48, 8)) := by show _ = _; rw [HD.out, if_pos h1]
      have h8' : Hid (c8 = 2 * c7 + b) := h8
      clear h8 h1
      go_wp2_with fail
      go_ret
      rw [hres.out]
      exact ⟨ret_int (by have := h8'.out; simp only; omega), hr2, hf1.trans hf2⟩
    by_cases h2 : 192 ≤ c8 ∧ c8 < 200
    · have t1 : (192 : Int) ≤ 2 * (c7 : Int) + (b : Int) := by omega
      have t2 : 2 * (c7 : Int) + (b : Int) < 200 := by omega
      have hres : Hid (sv = (c8 - 192 + 280, 8)) := by show _ = _; rw [HD.out, if_neg h1, if_pos h2]
      have h8' : Hid (c8 = 2 * c7 + b) := h8
      have d1 : decide ((48 : Int) ≤ 2 * (c7 : Int) + (b : Int)) = true := by simp; omega
      have d2 : decide (2 * (c7 : Int) + (b : Int) < 192) = false := by simp; omega
      clear h8 h1 h2
      go_wp2_with fail
      go_ret
      rw [hres.out]
      exact ⟨ret_int (by have := h8'.out; simp only; omega), hr2, hf1.trans hf2⟩
    · have t0 : (48 : Int) ≤ 2 * (c7 : Int) + (b : Int) := by omega
      have t1 : (200 : Int) ≤ 2 * (c7 : Int) + (b : Int) := by omega
      have hres : Hid (sv = (codeV bs k 9 + 144 - 400, 9)) := by show _ = _; rw [HD.out, if_neg h1, if_neg h2]
      have h8' : Hid (c8 = 2 * c7 + b) := h8
      have d1 : decide ((48 : Int) ≤ 2 * (c7 : Int) + (b : Int)) = true := by simp; omega
      have d2 : decide (2 * (c7 : Int) + (b : Int) < 192) = false := by simp; omega
      have d3 : decide ((192 : Int) ≤ 2 * (c7 : Int) + (b : Int)) = true := by simp; omega
      have d4 : decide (2 * (c7 : Int) + (b : Int) < 200) = false := by simp; omega
      clear h8 h1 h2
      go_wp2_with fail
      refine (take_any _ B g (k + 7 + 1) z bs HZ.out hr2 hB (by omega)).mono ?_
      rintro e w3 ⟨rfl, hr3, hf3⟩
      have hs9 := HS.out
      rw [hres.out] at hs9
      have h256 : 256 ≤ codeV bs k 9 := by simpa using hs9
      have h9 := H9.out
      rw [h9] at h256
      have hres' : Hid (sv = (2 * c8 + bitN bs (k + 8) + 144 - 400, 9)) := by show _ = _; rw [hres.out, h9]
      have ek : k + 7 + 1 = k + 8 := by omega
      rw [ek]
      clear ek hs9 h9
      generalize bitN bs (k + 8) = b' at *
      have hx : (256 : Int) ≤ 2 * (2 * (c7 : Int) + (b : Int)) + (b' : Int) := by have := h8'.out; omega
      go_wp2_with fail
      go_ret
      rw [hres'.out]
      refine ⟨ret_int (by have := h8'.out; simp only; omega), ?_, hf1.trans (hf2.trans hf3)⟩
      exact hr3

end Go.Proofs.Ytppfjofaegbbjaa
