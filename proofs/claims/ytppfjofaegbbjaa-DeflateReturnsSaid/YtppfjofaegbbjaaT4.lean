/-
  Walks: the symbols of lengths and distances, and the codes of symbols, in the program and in the reference.
-/
import Derived.Test.YtppfjofaegbbjaaT3
import Derived.Test.YtppfjofaegbbjaaDfl
namespace Go.Proofs.Ytppfjofaegbbjaa
open Go.RowKit

theorem pow_i64 (e : Nat) (h : e ≤ 60) : wrap64 (2 ^ e) = ((2 ^ e : Nat) : Int) := by
  have h2 : (2 : Int) ^ e = ((2 ^ e : Nat) : Int) := by simp
  have h3 : 2 ^ e ≤ 2 ^ 60 := Nat.pow_le_pow_right (by omega) h
  rw [h2]
  generalize 2 ^ e = y at *
  unfold wrap64
  omega

set_option maxRecDepth 100000 in
set_option maxHeartbeats 1000000 in
theorem lenSym_any (n : Nat) (w : World) (hn : n ≤ 258) :
    Calls Try.prog 45 #[.int .i64 n] w fun e w' => e = .returned (.tuple #[.int .i64 (lenSym n).1, .int .i64 (lenSym n).2.1, .int .i64 (lenSym n).2.2]) ∧ w = w' := by
  by_cases h258 : n = 258
  · subst h258
    go_enter Try.func45, Try.ntmps45
    go_wp2
    go_ret3
    exact ⟨rfl, rfl⟩
  · have hne : ((n : Int) == 258) = false := by simp; omega
    have e0 : lenSym n = lenGo 27 257 3 0 n := by simp [lenSym, h258]
    rw [e0]
    go_enter Try.func45, Try.ntmps45
    go_wp2
    go_loop [2, 3, 4] (fun s b e => ∃ (f : Nat) (sn bn en : Nat), s = .int .i64 sn ∧ b = .int .i64 bn ∧ e = .int .i64 en ∧ sn + f = 284 ∧ 257 ≤ sn ∧ bn ≤ 258 ∧ en ≤ 5 ∧ Hid (lenGo f sn bn en n = lenGo 27 257 3 0 n)) (fun s _ _ => 284 - (intOf s).toNat)
    case atStart => exact ⟨27, 257, 3, 0, rfl, rfl, rfl, rfl, by omega, by omega, by omega, rfl⟩
    case round =>
      obtain ⟨f, sn, bn, en, rfl, rfl, rfl, hf, hs0, hb, he, hg⟩ := hrel
      obtain ⟨x, hx⟩ : ∃ x, x = 2 ^ en := ⟨_, rfl⟩
      have hp := pow_i64 en (by omega)
      have hxl : x ≤ 32 := by
        have : 2 ^ en ≤ 2 ^ 5 := Nat.pow_le_pow_right (by omega) he
        omega
      rw [← hx] at hp
      have HX := Lib.hid hx
      clear hx
      by_cases hs : sn < 284
      · obtain ⟨f, rfl⟩ : ∃ j, f = j + 1 := ⟨f - 1, by omega⟩
        by_cases hc : bn + x ≤ n
        · by_cases h5 : 265 ≤ sn + 1
          · go_wp2
            go_round
            case rel =>
              refine ⟨f, sn + 1, bn + x, (sn + 1 - 261) / 4, by go_num, by go_num, by go_num, by omega, by omega, by omega, by omega, ?_⟩
              show _ = _
              rw [← hg.out, lenGo, ← HX.out, if_pos hc, if_pos h5]
            case measure => simp [intOf]; omega
          · go_wp2
            go_round
            case rel =>
              refine ⟨f, sn + 1, bn + x, en, by go_num, by go_num, by go_num, by omega, by omega, by omega, by omega, ?_⟩
              show _ = _
              rw [← hg.out, lenGo, ← HX.out, if_pos hc, if_neg h5]
            case measure => simp [intOf]; omega
        · go_wp2
          go_ret3
          have : lenGo 27 257 3 0 n = (sn, bn, en) := by rw [← hg.out, lenGo, ← HX.out, if_neg hc]
          rw [this]
          exact ⟨rfl, rfl⟩
      · obtain rfl : f = 0 := by omega
        have hd : decide ((sn : Int) < 284) = false := by simp; omega
        go_wp2
        go_ret3
        have : lenGo 27 257 3 0 n = (sn, bn, en) := by rw [← hg.out, lenGo]
        rw [this]
        exact ⟨rfl, rfl⟩
set_option maxRecDepth 100000 in
set_option maxHeartbeats 1000000 in
theorem rlenSym_any (n : Nat) (w : World) (hn : n ≤ 258) :
    Calls Try.prog 17 #[.int .i64 n] w fun e w' => e = .returned (.tuple #[.int .i64 (lenSym n).1, .int .i64 (lenSym n).2.1, .int .i64 (lenSym n).2.2]) ∧ w = w' := by
  by_cases h258 : n = 258
  · subst h258
    go_enter Try.func17, Try.ntmps17
    go_wp2
    go_ret3
    exact ⟨rfl, rfl⟩
  · have hne : ((n : Int) == 258) = false := by simp; omega
    have e0 : lenSym n = lenGo 27 257 3 0 n := by simp [lenSym, h258]
    rw [e0]
    go_enter Try.func17, Try.ntmps17
    go_wp2
    go_loop [5, 6, 7] (fun s b e => ∃ (f : Nat) (sn bn en : Nat), s = .int .i64 sn ∧ b = .int .i64 bn ∧ e = .int .i64 en ∧ sn + f = 284 ∧ 257 ≤ sn ∧ bn ≤ 258 ∧ en ≤ 5 ∧ Hid (lenGo f sn bn en n = lenGo 27 257 3 0 n)) (fun s _ _ => 284 - (intOf s).toNat)
    case atStart => exact ⟨27, 257, 3, 0, rfl, rfl, rfl, rfl, by omega, by omega, by omega, rfl⟩
    case round =>
      obtain ⟨f, sn, bn, en, rfl, rfl, rfl, hf, hs0, hb, he, hg⟩ := hrel
      obtain ⟨x, hx⟩ : ∃ x, x = 2 ^ en := ⟨_, rfl⟩
      have hp := pow_i64 en (by omega)
      have hxl : x ≤ 32 := by
        have : 2 ^ en ≤ 2 ^ 5 := Nat.pow_le_pow_right (by omega) he
        omega
      rw [← hx] at hp
      have HX := Lib.hid hx
      clear hx
      by_cases hs : sn < 284
      · obtain ⟨f, rfl⟩ : ∃ j, f = j + 1 := ⟨f - 1, by omega⟩
        by_cases hc : bn + x ≤ n
        · by_cases h5 : 265 ≤ sn + 1
          · go_wp2
            go_round
            case rel =>
              refine ⟨f, sn + 1, bn + x, (sn + 1 - 261) / 4, by go_num, by go_num, by go_num, by omega, by omega, by omega, by omega, ?_⟩
              show _ = _
              rw [← hg.out, lenGo, ← HX.out, if_pos hc, if_pos h5]
            case measure => simp [intOf]; omega
          · go_wp2
            go_round
            case rel =>
              refine ⟨f, sn + 1, bn + x, en, by go_num, by go_num, by go_num, by omega, by omega, by omega, by omega, ?_⟩
              show _ = _
              rw [← hg.out, lenGo, ← HX.out, if_pos hc, if_neg h5]
            case measure => simp [intOf]; omega
        · go_wp2
          go_ret3
          have : lenGo 27 257 3 0 n = (sn, bn, en) := by rw [← hg.out, lenGo, ← HX.out, if_neg hc]
          rw [this]
          exact ⟨rfl, rfl⟩
      · obtain rfl : f = 0 := by omega
        have hd : decide ((sn : Int) < 284) = false := by simp; omega
        go_wp2
        go_ret3
        have : lenGo 27 257 3 0 n = (sn, bn, en) := by rw [← hg.out, lenGo]
        rw [this]
        exact ⟨rfl, rfl⟩
set_option maxRecDepth 100000 in
set_option maxHeartbeats 1000000 in
theorem distSym_any (n : Nat) (w : World) (hn0 : 1 ≤ n) (hn : n ≤ 4096) :
    Calls Try.prog 46 #[.int .i64 n] w fun e w' => e = .returned (.tuple #[.int .i64 (distSym n).1, .int .i64 (distSym n).2.1, .int .i64 (distSym n).2.2]) ∧ w = w' := by
  go_enter Try.func46, Try.ntmps46
  go_wp2
  go_loop [2, 3, 4] (fun s b e => ∃ (sn bn en : Nat), s = .int .i64 sn ∧ b = .int .i64 bn ∧ e = .int .i64 en ∧ Hid (bn = dbase sn ∧ en = dext sn) ∧ bn ≤ n ∧ sn ≤ 29 ∧ Hid (distGo (29 - sn) sn bn en n = distSym n)) (fun s _ _ => 29 - (intOf s).toNat)
  case atStart => exact ⟨0, 1, 0, rfl, rfl, rfl, ⟨rfl, rfl⟩, by omega, by omega, rfl⟩
  case round =>
    obtain ⟨sn, bn, en, rfl, rfl, rfl, hd, hb, hs0, hg⟩ := hrel
    have hs : sn < 24 := dbase_lt sn (by rw [← hd.out.1]; omega)
    have he : en ≤ 10 := by rw [hd.out.2]; unfold dext; split <;> omega
    obtain ⟨x, hx⟩ : ∃ x, x = 2 ^ en := ⟨_, rfl⟩
    have hp := pow_i64 en (by omega)
    have hxl : x ≤ 1024 := by
      have : 2 ^ en ≤ 2 ^ 10 := Nat.pow_le_pow_right (by omega) he
      omega
    rw [← hx] at hp
    have HX := Lib.hid hx
    clear hx
    have ef : 29 - sn = (28 - sn) + 1 := by omega
    have EF := Lib.hid ef
    clear ef
    by_cases hc : bn + x ≤ n
    · by_cases h5 : 4 ≤ sn + 1
      · go_wp2
        go_round
        case rel =>
          refine ⟨sn + 1, bn + x, (sn + 1 - 2) / 2, by go_num, by go_num, by go_num, ⟨?_, ?_⟩, by omega, by omega, ?_⟩
          · rw [HX.out, dbase, ← hd.out.1, ← hd.out.2]
          · rw [dext, if_pos h5]
          · show _ = _
            rw [← hg.out, EF.out, distGo, ← HX.out, if_pos hc, if_pos h5]
            congr 1; omega
        case measure => simp [intOf]; omega
      · go_wp2
        go_round
        case rel =>
          refine ⟨sn + 1, bn + x, en, by go_num, by go_num, by go_num, ⟨?_, ?_⟩, by omega, by omega, ?_⟩
          · rw [HX.out, dbase, ← hd.out.1, ← hd.out.2]
          · rw [hd.out.2, dext, dext, if_neg h5, if_neg (by omega)]
          · show _ = _
            rw [← hg.out, EF.out, distGo, ← HX.out, if_pos hc, if_neg h5]
            congr 1; omega
        case measure => simp [intOf]; omega
    · go_wp2
      go_ret3
      have : distSym n = (sn, bn, en) := by rw [← hg.out, EF.out, distGo, ← HX.out, if_neg hc]
      rw [this]
      exact ⟨rfl, rfl⟩

set_option maxRecDepth 100000 in
set_option maxHeartbeats 1000000 in
theorem rdistSym_any (n : Nat) (w : World) (hn0 : 1 ≤ n) (hn : n ≤ 4096) :
    Calls Try.prog 18 #[.int .i64 n] w fun e w' => e = .returned (.tuple #[.int .i64 (distSym n).1, .int .i64 (distSym n).2.1, .int .i64 (distSym n).2.2]) ∧ w = w' := by
  go_enter Try.func18, Try.ntmps18
  go_wp2
  go_loop [5, 6, 7] (fun s b e => ∃ (sn bn en : Nat), s = .int .i64 sn ∧ b = .int .i64 bn ∧ e = .int .i64 en ∧ Hid (bn = dbase sn ∧ en = dext sn) ∧ bn ≤ n ∧ sn ≤ 29 ∧ Hid (distGo (29 - sn) sn bn en n = distSym n)) (fun s _ _ => 29 - (intOf s).toNat)
  case atStart => exact ⟨0, 1, 0, rfl, rfl, rfl, ⟨rfl, rfl⟩, by omega, by omega, rfl⟩
  case round =>
    obtain ⟨sn, bn, en, rfl, rfl, rfl, hd, hb, hs0, hg⟩ := hrel
    have hs : sn < 24 := dbase_lt sn (by rw [← hd.out.1]; omega)
    have he : en ≤ 10 := by rw [hd.out.2]; unfold dext; split <;> omega
    obtain ⟨x, hx⟩ : ∃ x, x = 2 ^ en := ⟨_, rfl⟩
    have hp := pow_i64 en (by omega)
    have hxl : x ≤ 1024 := by
      have : 2 ^ en ≤ 2 ^ 10 := Nat.pow_le_pow_right (by omega) he
      omega
    rw [← hx] at hp
    have HX := Lib.hid hx
    clear hx
    have ef : 29 - sn = (28 - sn) + 1 := by omega
    have EF := Lib.hid ef
    clear ef
    by_cases hc : bn + x ≤ n
    · by_cases h5 : 4 ≤ sn + 1
      · go_wp2
        go_round
        case rel =>
          refine ⟨sn + 1, bn + x, (sn + 1 - 2) / 2, by go_num, by go_num, by go_num, ⟨?_, ?_⟩, by omega, by omega, ?_⟩
          · rw [HX.out, dbase, ← hd.out.1, ← hd.out.2]
          · rw [dext, if_pos h5]
          · show _ = _
            rw [← hg.out, EF.out, distGo, ← HX.out, if_pos hc, if_pos h5]
            congr 1; omega
        case measure => simp [intOf]; omega
      · go_wp2
        go_round
        case rel =>
          refine ⟨sn + 1, bn + x, en, by go_num, by go_num, by go_num, ⟨?_, ?_⟩, by omega, by omega, ?_⟩
          · rw [HX.out, dbase, ← hd.out.1, ← hd.out.2]
          · rw [hd.out.2, dext, dext, if_neg h5, if_neg (by omega)]
          · show _ = _
            rw [← hg.out, EF.out, distGo, ← HX.out, if_pos hc, if_neg h5]
            congr 1; omega
        case measure => simp [intOf]; omega
    · go_wp2
      go_ret3
      have : distSym n = (sn, bn, en) := by rw [← hg.out, EF.out, distGo, ← HX.out, if_neg hc]
      rw [this]
      exact ⟨rfl, rfl⟩

def symPost (T : TypeId) (B g : Nat) (bs : List Bool) (v : Nat) (w : World) (e : Ending) (w' : World) : Prop :=
  e = .returned (.tuple #[]) ∧ Wr T w' B g (bs ++ symBits v) ∧ Fr B [T, 5] w w'

set_option maxRecDepth 100000 in
set_option maxHeartbeats 1000000 in
theorem dsymbol_any (w : World) (B g : Nat) (bs : List Bool) (v : Int) (hv : 0 ≤ v) (hv2 : v < 288) (h : Wr 46 w B g bs) (hlen : bs.length < 900000000) :
    Calls Try.prog 32 #[.pointer (some ⟨g, 0, none⟩), .int .i64 v] w (symPost 46 B g bs v.toNat w) := by
  obtain ⟨v, rfl⟩ := Int.eq_ofNat_of_zero_le hv
  rw [Int.toNat_natCast]
  by_cases h1 : v < 144
  · have HS : Hid (symBits v = codeBits (48 + v) 8) := by show _ = _; rw [symBits, if_pos h1]
    go_enter Try.func32, Try.ntmps32
    go_wp2_with fail
    refine (code_any _ B g bs _ _ (by omega) (by omega) (by omega) h hlen).mono ?_
    rintro e w1 ⟨rfl, hw1, hf1⟩
    go_wp2_with fail
    go_end0
    refine ⟨rfl, ?_, hf1⟩
    rw [HS.out]
    have e1 : ((48 : Int) + (v : Int)).toNat = 48 + v := by omega
    rw [e1] at hw1
    exact hw1
  by_cases h2 : v < 256
  · have HS : Hid (symBits v = codeBits (400 + v - 144) 9) := by show _ = _; rw [symBits, if_neg h1, if_pos h2]
    go_enter Try.func32, Try.ntmps32
    go_wp2_with fail
    refine (code_any _ B g bs _ _ (by omega) (by omega) (by omega) h hlen).mono ?_
    rintro e w1 ⟨rfl, hw1, hf1⟩
    go_wp2_with fail
    go_end0
    refine ⟨rfl, ?_, hf1⟩
    rw [HS.out]
    have e1 : ((400 : Int) + (v : Int) - 144).toNat = 400 + v - 144 := by omega
    rw [e1] at hw1
    exact hw1
  by_cases h3 : v < 280
  · have HS : Hid (symBits v = codeBits (v - 256) 7) := by show _ = _; rw [symBits, if_neg h1, if_neg h2, if_pos h3]
    go_enter Try.func32, Try.ntmps32
    go_wp2_with fail
    refine (code_any _ B g bs _ _ (by omega) (by omega) (by omega) h hlen).mono ?_
    rintro e w1 ⟨rfl, hw1, hf1⟩
    go_wp2_with fail
    go_end0
    refine ⟨rfl, ?_, hf1⟩
    rw [HS.out]
    have e1 : ((v : Int) - 256).toNat = v - 256 := by omega
    rw [e1] at hw1
    exact hw1
  · have HS : Hid (symBits v = codeBits (192 + v - 280) 8) := by show _ = _; rw [symBits, if_neg h1, if_neg h2, if_neg h3]
    go_enter Try.func32, Try.ntmps32
    go_wp2_with fail
    refine (code_any _ B g bs _ _ (by omega) (by omega) (by omega) h hlen).mono ?_
    rintro e w1 ⟨rfl, hw1, hf1⟩
    go_wp2_with fail
    go_end0
    refine ⟨rfl, ?_, hf1⟩
    rw [HS.out]
    have e1 : ((192 : Int) + (v : Int) - 280).toNat = 192 + v - 280 := by omega
    rw [e1] at hw1
    exact hw1

set_option maxRecDepth 100000 in
set_option maxHeartbeats 1000000 in
theorem rsymbol_any (w : World) (B g : Nat) (bs : List Bool) (v : Int) (hv : 0 ≤ v) (hv2 : v < 288) (h : Wr 54 w B g bs) (hlen : bs.length < 900000000) :
    Calls Try.prog 36 #[.pointer (some ⟨g, 0, none⟩), .int .i64 v] w (symPost 54 B g bs v.toNat w) := by
  obtain ⟨v, rfl⟩ := Int.eq_ofNat_of_zero_le hv
  rw [Int.toNat_natCast]
  by_cases h1 : v < 144
  · have HS : Hid (symBits v = codeBits (48 + v) 8) := by show _ = _; rw [symBits, if_pos h1]
    go_enter Try.func36, Try.ntmps36
    go_wp2_with fail
    refine (rcode_any _ B g bs _ _ (by omega) (by omega) (by omega) h hlen).mono ?_
    rintro e w1 ⟨rfl, hw1, hf1⟩
    go_wp2_with fail
    go_end0
    refine ⟨rfl, ?_, hf1⟩
    rw [HS.out]
    have e1 : ((48 : Int) + (v : Int)).toNat = 48 + v := by omega
    rw [e1] at hw1
    exact hw1
  by_cases h2 : v < 256
  · have HS : Hid (symBits v = codeBits (400 + v - 144) 9) := by show _ = _; rw [symBits, if_neg h1, if_pos h2]
    go_enter Try.func36, Try.ntmps36
    go_wp2_with fail
    refine (rcode_any _ B g bs _ _ (by omega) (by omega) (by omega) h hlen).mono ?_
    rintro e w1 ⟨rfl, hw1, hf1⟩
    go_wp2_with fail
    go_end0
    refine ⟨rfl, ?_, hf1⟩
    rw [HS.out]
    have e1 : ((400 : Int) + (v : Int) - 144).toNat = 400 + v - 144 := by omega
    rw [e1] at hw1
    exact hw1
  by_cases h3 : v < 280
  · have HS : Hid (symBits v = codeBits (v - 256) 7) := by show _ = _; rw [symBits, if_neg h1, if_neg h2, if_pos h3]
    go_enter Try.func36, Try.ntmps36
    go_wp2_with fail
    refine (rcode_any _ B g bs _ _ (by omega) (by omega) (by omega) h hlen).mono ?_
    rintro e w1 ⟨rfl, hw1, hf1⟩
    go_wp2_with fail
    go_end0
    refine ⟨rfl, ?_, hf1⟩
    rw [HS.out]
    have e1 : ((v : Int) - 256).toNat = v - 256 := by omega
    rw [e1] at hw1
    exact hw1
  · have HS : Hid (symBits v = codeBits (192 + v - 280) 8) := by show _ = _; rw [symBits, if_neg h1, if_neg h2, if_neg h3]
    go_enter Try.func36, Try.ntmps36
    go_wp2_with fail
    refine (rcode_any _ B g bs _ _ (by omega) (by omega) (by omega) h hlen).mono ?_
    rintro e w1 ⟨rfl, hw1, hf1⟩
    go_wp2_with fail
    go_end0
    refine ⟨rfl, ?_, hf1⟩
    rw [HS.out]
    have e1 : ((192 : Int) + (v : Int) - 280).toNat = 192 + v - 280 := by omega
    rw [e1] at hw1
    exact hw1

end Go.Proofs.Ytppfjofaegbbjaa
