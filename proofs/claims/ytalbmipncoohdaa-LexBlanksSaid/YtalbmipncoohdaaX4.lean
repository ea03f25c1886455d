/-
  Walks: numbers in the reference, names.
-/
import Derived.Test.YtalbmipncoohdaaX3
namespace Go.Proofs.Ytalbmipncoohdaa
open Go.RowKit

theorem drop_end (s : ByteArray) (j : Nat) (h : s.size ≤ j) : s.data.toList.drop j = [] := List.drop_of_length_le (by simpa using h)
def errOf (r : Except Nat (Tk × Nat)) : Nat := match r with | .error e => e | .ok _ => 0

set_option maxRecDepth 100000 in
set_option maxHeartbeats 2000000 in
theorem rnumber_any (s : ByteArray) (p : Nat) (w : World) (hp : p ≤ s.size) (hs : s.size < 1000000) :
    Calls Try.prog 28 #[.string s, .int .i64 p] w fun e w' =>
      e = .returned (.tuple #[.int .i64 (p + runN dig (s.data.toList.drop p) : Nat), .int .i64 (errOf (numT (s.data.toList.drop p) p) : Nat)]) ∧ w = w' := by
  go_enter Try.func28, Try.ntmps28
  go_wp2
  go_loop [1, 6, 7, 8] (fun ve vv vb _ => ∃ (k v : Nat) (b : Bool), ve = .int .i64 ((p + k : Nat) : Int) ∧ vv = .int .i64 v ∧ vb = .bool b ∧ p + k ≤ s.size ∧ v ≤ 4611686018427387904 ∧
      Hid (runN dig (s.data.toList.drop (p + k)) + k = runN dig (s.data.toList.drop p)) ∧
      Hid (if b = true then numR 0 (s.data.toList.drop p) = none else (numR v (s.data.toList.drop (p + k))).map (· + k) = numR 0 (s.data.toList.drop p))) (fun ve _ _ _ => s.size - (intOf ve).toNat)
  case atStart => exact ⟨0, 0, false, rfl, rfl, rfl, hp, by omega, by show _ = _; simp, by show if _ then _ else _; simp⟩
  case round =>
    obtain ⟨k, v, b, rfl, rfl, rfl, hk, hv, hrn, hg⟩ := hrel
    by_cases hlt : p + k < s.size
    · have hr0 := hrn.out
      rw [drop_at s (p + k) hlt, runN] at hr0
      have hd := hg.out
      rw [drop_at s (p + k) hlt, numR] at hd
      have hb := (s[p + k]).toNat_lt
      have hcl : decide (((p : Int) + (k : Int)) < (s.size : Int)) = true := by simp; omega
      by_cases hdig : dig (s[p + k]) = true
      · have hd1 : 48 ≤ (s[p + k]).toNat ∧ (s[p + k]).toNat ≤ 57 := by simpa [dig] using hdig
        obtain ⟨d1, d2⟩ := hd1
        rw [if_pos hdig] at hd hr0
        have HD := Lib.hid hd
        have HR := Lib.hid hr0
        clear hd hg hr0 hrn
        by_cases hr : 4611686018427387904 < 10 * v + ((s[p + k]).toNat - 48)
        · go_wp2_with fail
          refine (rdigit_any _ _).mono ?_
          rintro e w1 ⟨rfl, rfl⟩
          rw [hdig]
          go_wp2_with fail
          refine ⟨⟨k + 1, v, true, by go_num, rfl, rfl, by omega, hv, ?_, ?_⟩, ?_⟩
          · show _ = _; have := HR.out; rw [← Nat.add_assoc p k 1]; omega
          · have := HD.out
            rw [if_pos hr] at this
            show if _ then _ else _
            rw [if_pos rfl]
            cases b
            · simpa using this.symm
            · simpa using this
          · simp [intOf]; omega
        · go_wp2_with fail
          refine (rdigit_any _ _).mono ?_
          rintro e w1 ⟨rfl, rfl⟩
          rw [hdig]
          go_wp2_with fail
          refine ⟨⟨k + 1, 10 * v + ((s[p + k]).toNat - 48), b, by go_num, by go_num, rfl, by omega, by omega, ?_, ?_⟩, ?_⟩
          · show _ = _; have := HR.out; rw [← Nat.add_assoc p k 1]; omega
          · have := HD.out
            rw [if_neg hr] at this
            show if _ then _ else _
            cases b
            · rw [if_neg (by simp)] at this ⊢
              rw [← this, Option.map_map, ← Nat.add_assoc p k 1]; congr 1; funext x; simp; omega
            · simpa using this
          · simp [intOf]; omega
      · rw [if_neg hdig] at hd hr0
        have HR := Lib.hid hr0
        have HD := Lib.hid hd
        clear hd hg hr0 hrn
        go_wp2_with fail
        refine (rdigit_any _ _).mono ?_
        rintro e w1 ⟨rfl, rfl⟩
        rw [Bool.eq_false_iff.2 hdig]
        cases b
        · go_wp2_with fail
          refine (rletter_any _ _).mono ?_
          rintro e w1 ⟨rfl, rfl⟩
          have hget : (s.data.toList.drop p).getD k 0 = s[p + k] := by
            rw [List.getD_eq_getElem?_getD, List.getElem?_drop, List.getElem?_eq_getElem (by simpa using hlt)]; rfl
          have hd2 : Hid (numR 0 (s.data.toList.drop p) = some k) := by
            show _ = _
            simpa using HD.out.symm
          by_cases hl : let8 (s[p + k]) = true
          · have hn : Hid (errOf (numT (s.data.toList.drop p) p) = 18) := by
              show _ = _
              rw [numT, hd2.out]
              simp only [hget]
              rw [if_pos ⟨by simp; omega, hl⟩]; rfl
            rw [hl]
            go_wp2_with fail
            go_ret2
            refine ⟨?_, rfl⟩
            rw [hn.out, ← HR.out]; simp
          · have hn : Hid (errOf (numT (s.data.toList.drop p) p) = 0) := by
              show _ = _
              rw [numT, hd2.out]
              simp only [hget]
              rw [if_neg (by simp [hl])]; rfl
            rw [Bool.eq_false_iff.2 hl]
            go_wp2_with fail
            go_ret2
            refine ⟨?_, rfl⟩
            rw [hn.out, ← HR.out]; simp
        · have hn : Hid (errOf (numT (s.data.toList.drop p) p) = 2) := by
            show _ = _
            have hd2 : numR 0 (s.data.toList.drop p) = none := by simpa using HD.out
            rw [numT, hd2]; rfl
          go_wp2_with fail
          go_ret2
          refine ⟨?_, rfl⟩
          rw [hn.out, ← HR.out]; simp
    · have hcl : decide (((p : Int) + (k : Int)) < (s.size : Int)) = false := by simp; omega
      have hr0 := hrn.out
      rw [drop_end s (p + k) (by omega), runN] at hr0
      have hd := hg.out
      rw [drop_end s (p + k) (by omega), numR] at hd
      have HR := Lib.hid hr0
      have HD := Lib.hid hd
      clear hd hg hr0 hrn
      cases b
      · have hn : Hid (errOf (numT (s.data.toList.drop p) p) = 0) := by
          show _ = _
          have hd2 : numR 0 (s.data.toList.drop p) = some k := by simpa using HD.out.symm
          rw [numT, hd2]
          simp only
          rw [if_neg (by simp; omega)]; rfl
        go_wp2_with fail
        go_ret2
        refine ⟨?_, rfl⟩
        rw [hn.out, ← HR.out]; simp
      · have hn : Hid (errOf (numT (s.data.toList.drop p) p) = 2) := by
          show _ = _
          have hd2 : numR 0 (s.data.toList.drop p) = none := by simpa using HD.out
          rw [numT, hd2]; rfl
        go_wp2_with fail
        go_ret2
        refine ⟨?_, rfl⟩
        rw [hn.out, ← HR.out]; simp

set_option maxRecDepth 100000 in
set_option maxHeartbeats 2000000 in
theorem name_any (s : ByteArray) (p : Nat) (w : World) (hp : p ≤ s.size) (hs : s.size < 1000000) :
    Calls Try.prog 24 #[.string s, .int .i64 p] w fun e w' => e = .returned (tokRes (nameT (s.data.toList.drop p) p)) ∧ Below w.heap.size w w' := by
  go_enter Try.func24, Try.ntmps24
  go_wp2
  go_loop [7] (fun ve => ∃ (k : Nat), ve = .int .i64 ((p + k : Nat) : Int) ∧ p + k ≤ s.size ∧
      Hid (wordN (s.data.toList.drop (p + k)) + k = wordN (s.data.toList.drop p))) (fun ve => s.size - (intOf ve).toNat)
  case atStart => exact ⟨0, rfl, hp, by show _ = _; simp⟩
  case round =>
    obtain ⟨k, rfl, hk, hrn⟩ := hrel
    by_cases hlt : p + k < s.size
    · have hr0 := hrn.out
      rw [drop_at s (p + k) hlt, wordN, runN] at hr0
      have hb := (s[p + k]).toNat_lt
      have hcl : decide (((p : Int) + (k : Int)) < (s.size : Int)) = true := by simp; omega
      by_cases hl : let8 (s[p + k]) = true
      · rw [if_pos (by simp [hl])] at hr0
        have HR := Lib.hid hr0
        clear hr0 hrn
        go_wp2_with fail
        refine (isLetter_any _ _).mono ?_
        rintro e w1 ⟨rfl, rfl⟩
        rw [hl]
        go_wp2_with fail
        refine ⟨⟨k + 1, by go_num, by omega, ?_⟩, ?_⟩
        · show _ = _; have := HR.out; rw [wordN, ← Nat.add_assoc p k 1]; omega
        · simp [intOf]; omega
      · have hl' := Bool.eq_false_iff.2 hl
        by_cases hdig : dig (s[p + k]) = true
        · rw [if_pos (by simp [hdig])] at hr0
          have HR := Lib.hid hr0
          clear hr0 hrn
          go_wp2_with fail
          refine (isLetter_any _ _).mono ?_
          rintro e w1 ⟨rfl, rfl⟩
          rw [hl']
          go_wp2_with fail
          refine (isDigit_any _ _).mono ?_
          rintro e w1 ⟨rfl, rfl⟩
          rw [hdig]
          go_wp2_with fail
          refine ⟨⟨k + 1, by go_num, by omega, ?_⟩, ?_⟩
          · show _ = _; have := HR.out; rw [wordN, ← Nat.add_assoc p k 1]; omega
          · simp [intOf]; omega
        · rw [if_neg (by simp [hdig, hl])] at hr0
          have HR := Lib.hid hr0
          clear hr0 hrn
          go_wp2_with fail
          refine (isLetter_any _ _).mono ?_
          rintro e w1 ⟨rfl, rfl⟩
          rw [hl']
          go_wp2_with fail
          refine (isDigit_any _ _).mono ?_
          rintro e w1 ⟨rfl, rfl⟩
          rw [Bool.eq_false_iff.2 hdig]
          go_wp2_with fail
          have hN : wordN (s.data.toList.drop p) = k := by have := HR.out; omega
          have HN := Lib.hid hN
          clear hN HR
          refine (reserved_any _ _).mono ?_
          rintro e w1 ⟨rfl, rfl⟩
          rw [extract_take s p k]
          have hlen : Hid (((s.data.toList.drop p).take k).length = k) := by show _ = _; simp; omega
          generalize hU : (s.data.toList.drop p).take k = U at *
          by_cases hrv : resv U = true
          · simp only [hrv]
            by_cases h32 : 32 < U.length
            · go_wp2_with fail
              have hn : nameT (s.data.toList.drop p) p = .error 13 := by rw [nameT, HN.out, if_pos (by have := hlen.out; omega)]
              exact bodyPost_ret (v := tokRes (.error 13)) (by simp [tokRes, tk0, results, Try.f24, go_sem]) rfl ⟨by first | rfl | rw [hn], ((Below.refl _ _).alloc (Nat.le_refl _) _).alloc (by simp) _⟩
            · go_wp2_with fail
              have hn : nameT (s.data.toList.drop p) p = .ok (⟨5, U, p⟩, p + k) := by rw [nameT, HN.out, if_neg (by have := hlen.out; omega), hU]; simp [hrv]
              exact bodyPost_ret (v := tokRes (.ok (⟨5, U, p⟩, p + k))) (by simp [tokRes, tkV, results, Try.f24, go_sem]) rfl ⟨by first | rfl | rw [hn], ((Below.refl _ _).alloc (Nat.le_refl _) _).alloc (by simp) _⟩
          · simp only [Bool.eq_false_iff.2 hrv]
            by_cases h32 : 32 < U.length
            · go_wp2_with fail
              have hn : nameT (s.data.toList.drop p) p = .error 13 := by rw [nameT, HN.out, if_pos (by have := hlen.out; omega)]
              exact bodyPost_ret (v := tokRes (.error 13)) (by simp [tokRes, tk0, results, Try.f24, go_sem]) rfl ⟨by first | rfl | rw [hn], ((Below.refl _ _).alloc (Nat.le_refl _) _).alloc (by simp) _⟩
            · go_wp2_with fail
              have hn : nameT (s.data.toList.drop p) p = .ok (⟨3, U, p⟩, p + k) := by rw [nameT, HN.out, if_neg (by have := hlen.out; omega), hU]; simp [hrv]
              exact bodyPost_ret (v := tokRes (.ok (⟨3, U, p⟩, p + k))) (by simp [tokRes, tkV, results, Try.f24, go_sem]) rfl ⟨by first | rfl | rw [hn], ((Below.refl _ _).alloc (Nat.le_refl _) _).alloc (by simp) _⟩
    · have hcl : decide (((p : Int) + (k : Int)) < (s.size : Int)) = false := by simp; omega
      have hr0 := hrn.out
      rw [drop_end s (p + k) (by omega), wordN, runN] at hr0
      have HR := Lib.hid hr0
      clear hr0 hrn
      go_wp2_with fail
      have hN : wordN (s.data.toList.drop p) = k := by have := HR.out; omega
      have HN := Lib.hid hN
      clear hN HR
      refine (reserved_any _ _).mono ?_
      rintro e w1 ⟨rfl, rfl⟩
      rw [extract_take s p k]
      have hlen : Hid (((s.data.toList.drop p).take k).length = k) := by show _ = _; simp; omega
      generalize hU : (s.data.toList.drop p).take k = U at *
      by_cases hrv : resv U = true
      · simp only [hrv]
        by_cases h32 : 32 < U.length
        · go_wp2_with fail
          have hn : nameT (s.data.toList.drop p) p = .error 13 := by rw [nameT, HN.out, if_pos (by have := hlen.out; omega)]
          exact bodyPost_ret (v := tokRes (.error 13)) (by simp [tokRes, tk0, results, Try.f24, go_sem]) rfl ⟨by first | rfl | rw [hn], ((Below.refl _ _).alloc (Nat.le_refl _) _).alloc (by simp) _⟩
        · go_wp2_with fail
          have hn : nameT (s.data.toList.drop p) p = .ok (⟨5, U, p⟩, p + k) := by rw [nameT, HN.out, if_neg (by have := hlen.out; omega), hU]; simp [hrv]
          exact bodyPost_ret (v := tokRes (.ok (⟨5, U, p⟩, p + k))) (by simp [tokRes, tkV, results, Try.f24, go_sem]) rfl ⟨by first | rfl | rw [hn], ((Below.refl _ _).alloc (Nat.le_refl _) _).alloc (by simp) _⟩
      · simp only [Bool.eq_false_iff.2 hrv]
        by_cases h32 : 32 < U.length
        · go_wp2_with fail
          have hn : nameT (s.data.toList.drop p) p = .error 13 := by rw [nameT, HN.out, if_pos (by have := hlen.out; omega)]
          exact bodyPost_ret (v := tokRes (.error 13)) (by simp [tokRes, tk0, results, Try.f24, go_sem]) rfl ⟨by first | rfl | rw [hn], ((Below.refl _ _).alloc (Nat.le_refl _) _).alloc (by simp) _⟩
        · go_wp2_with fail
          have hn : nameT (s.data.toList.drop p) p = .ok (⟨3, U, p⟩, p + k) := by rw [nameT, HN.out, if_neg (by have := hlen.out; omega), hU]; simp [hrv]
          exact bodyPost_ret (v := tokRes (.ok (⟨3, U, p⟩, p + k))) (by simp [tokRes, tkV, results, Try.f24, go_sem]) rfl ⟨by first | rfl | rw [hn], ((Below.refl _ _).alloc (Nat.le_refl _) _).alloc (by simp) _⟩
end Go.Proofs.Ytalbmipncoohdaa
