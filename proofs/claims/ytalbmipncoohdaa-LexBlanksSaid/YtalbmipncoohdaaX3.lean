/-
  Walks: numbers, in the program and in the reference.
-/
import Derived.Test.YtalbmipncoohdaaX2
namespace Go.Proofs.Ytalbmipncoohdaa
open Go.RowKit

def tkV (t : Tk) : Value := .agg #[.int .i64 t.kind, .string ⟨t.text.toArray⟩, .int .i64 t.at_]
def tk0 : Value := .agg #[.int .i64 0, .string ⟨#[]⟩, .int .i64 0]
/-- What 'token' and its parts return. -/
def tokRes (r : Except Nat (Tk × Nat)) : Value :=
  match r with
  | .error e => .tuple #[tk0, .int .i64 0, .int .i64 e]
  | .ok (t, q) => .tuple #[tkV t, .int .i64 q, .int .i64 0]

theorem extract_mk (s : ByteArray) (a b : Nat) : s.extract a b = ⟨((s.data.toList.take b).drop a).toArray⟩ := by
  apply ByteArray.ext
  rw [← Array.toList_inj]
  have := extract_list s a b
  simpa using this
theorem extract_take (s : ByteArray) (a n : Nat) : s.extract a (a + n) = ⟨((s.data.toList.drop a).take n).toArray⟩ := by
  rw [extract_mk, List.drop_take]
  simp

set_option maxRecDepth 100000 in
set_option maxHeartbeats 2000000 in
theorem number_any (s : ByteArray) (p : Nat) (w : World) (hp : p ≤ s.size) (hs : s.size < 1000000) :
    Calls Try.prog 22 #[.string s, .int .i64 p] w fun e w' => e = .returned (tokRes (numT (s.data.toList.drop p) p)) ∧ Below w.heap.size w w' := by
  have hb0 : Below w.heap.size w (w.alloc (.cells #[.int .i64 0, .string ⟨#[]⟩, .int .i64 0] 30)) := (Below.refl _ _).alloc (Nat.le_refl _) _
  go_enter Try.func22, Try.ntmps22
  go_wp2
  go_loop [7, 8, 9] (fun ve vv _ => ∃ (k v : Nat), ve = .int .i64 ((p + k : Nat) : Int) ∧ vv = .int .i64 v ∧ p + k ≤ s.size ∧ v ≤ 4611686018427387904 ∧ Hid ((numR v (s.data.toList.drop (p + k))).map (· + k) = numR 0 (s.data.toList.drop p))) (fun ve _ _ => s.size - (intOf ve).toNat)
  case atStart => exact ⟨0, 0, rfl, rfl, hp, by omega, by show _ = _; simp⟩
  case round =>
    obtain ⟨k, v, rfl, rfl, hk, hv, hg⟩ := hrel
    by_cases hlt : p + k < s.size
    · have hd := hg.out
      rw [drop_at s (p + k) hlt, numR] at hd
      have hb := (s[p + k]).toNat_lt
      by_cases hdig : dig (s[p + k]) = true
      · have hd1 : 48 ≤ (s[p + k]).toNat ∧ (s[p + k]).toNat ≤ 57 := by simpa [dig] using hdig
        obtain ⟨d1, d2⟩ := hd1
        rw [if_pos hdig] at hd
        have HD := Lib.hid hd
        clear hd hg
        by_cases hr : 4611686018427387904 < 10 * v + ((s[p + k]).toNat - 48)
        · go_wp2_with fail
          refine (isDigit_any _ _).mono ?_
          rintro e w1 ⟨rfl, rfl⟩
          rw [hdig]
          go_wp2_with fail
          have hn : numT (s.data.toList.drop p) p = .error 2 := by
            have := HD.out
            rw [if_pos hr] at this
            rw [numT, ← this]; rfl
          refine bodyPost_ret (v := tokRes (.error 2)) (by simp [tokRes, tk0, results, Try.f22, go_sem]) rfl ⟨by first | rfl | rw [hn], ?_⟩
          exact hb0
        · go_wp2_with fail
          refine (isDigit_any _ _).mono ?_
          rintro e w1 ⟨rfl, rfl⟩
          rw [hdig]
          go_wp2_with fail
          refine ⟨⟨k + 1, 10 * v + ((s[p + k]).toNat - 48), by go_num, by go_num, by omega, by omega, ?_⟩, ?_⟩
          · have := HD.out
            rw [if_neg hr] at this
            show _ = _
            rw [← this, Option.map_map]; congr 1; funext x; simp; omega
          · simp [intOf]; omega
      · have hd2 : Hid (numR 0 (s.data.toList.drop p) = some k) := by
          show _ = _
          rw [if_neg hdig] at hd
          rw [← hd]; simp
        clear hd hg
        go_wp2_with fail
        refine (isDigit_any _ _).mono ?_
        rintro e w1 ⟨rfl, rfl⟩
        rw [Bool.eq_false_iff.2 hdig]
        go_wp2_with fail
        refine (isLetter_any _ _).mono ?_
        rintro e w1 ⟨rfl, rfl⟩
        have hget : (s.data.toList.drop p).getD k 0 = s[p + k] := by
          rw [List.getD_eq_getElem?_getD, List.getElem?_drop, List.getElem?_eq_getElem (by simpa using hlt)]; rfl
        by_cases hl : let8 (s[p + k]) = true
        · have hn : numT (s.data.toList.drop p) p = .error 18 := by
            rw [numT, hd2.out]
            simp only [hget]
            rw [if_pos ⟨by simp; omega, hl⟩]
          rw [hl]
          go_wp2_with fail
          refine bodyPost_ret (v := tokRes (.error 18)) (by simp [tokRes, tk0, results, Try.f22, go_sem]) rfl ⟨by first | rfl | rw [hn], ?_⟩
          exact (Below.refl _ _).alloc (Nat.le_refl _) _
        · have hn : numT (s.data.toList.drop p) p = .ok (⟨1, (s.data.toList.drop p).take k, p⟩, p + k) := by
            rw [numT, hd2.out]
            simp only [hget]
            rw [if_neg (by simp [hl])]
          rw [Bool.eq_false_iff.2 hl]
          go_wp2_with fail
          refine bodyPost_ret (v := tokRes (.ok (⟨1, (s.data.toList.drop p).take k, p⟩, p + k))) (by simp [tokRes, tkV, results, Try.f22, go_sem, extract_take]) rfl ⟨by first | rfl | rw [hn], ?_⟩
          exact (Below.refl _ _).alloc (Nat.le_refl _) _
    · have hd2 : Hid (numR 0 (s.data.toList.drop p) = some k) := by
        show _ = _
        have hd := hg.out
        rw [List.drop_of_length_le (by simp; omega)] at hd
        rw [← hd]; simp [numR]
      clear hg
      have hn : numT (s.data.toList.drop p) p = .ok (⟨1, (s.data.toList.drop p).take k, p⟩, p + k) := by
        rw [numT, hd2.out]
        simp only
        rw [if_neg (by simp; omega)]
      go_wp2_with fail
      refine bodyPost_ret (v := tokRes (.ok (⟨1, (s.data.toList.drop p).take k, p⟩, p + k))) (by simp [tokRes, tkV, results, Try.f22, go_sem, extract_take]) rfl ⟨by first | rfl | rw [hn], ?_⟩
      exact (Below.refl _ _).alloc (Nat.le_refl _) _
end Go.Proofs.Ytalbmipncoohdaa
