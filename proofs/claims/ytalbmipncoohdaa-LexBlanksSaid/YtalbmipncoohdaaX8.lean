/-
  Walk: one token, in the program.
-/
import Derived.Test.YtalbmipncoohdaaX7
namespace Go.Proofs.Ytalbmipncoohdaa
open Go.RowKit

theorem Blk.below {K : Nat} {w w' : World} (h : Below K w w') {k : Nat} {t : TypeId} {cs : Array Value} (hb : Blk w k t cs) (hk : k < K) : Blk w' k t cs := (h.block k hk).trans hb

theorem twos_len (l : List UInt8) (h : l ∈ twos) : l.length = 2 := by
  simp [twos, bytes] at h
  rcases h with h | h | h | h | h | h | h <;> rw [h] <;> rfl
theorem isOp_two (l : List UInt8) (h : l.length = 2) : isOp l = decide (l ∈ twos) := by simp [isOp, h]
theorem isOp_one (c : UInt8) : isOp [c] = decide (c ∈ ones) := by
  have : [c] ∉ twos := fun h => by have := twos_len _ h; simp at this
  simp [isOp, this]

theorem opR_two {l : List UInt8} (h : l.take 2 ∈ twos) : opR l = 2 := by unfold opR; rw [if_pos h]
theorem opR_one {c : UInt8} {t : List UInt8} (h : (c :: t).take 2 ∉ twos) (h1 : c ∈ ones) : opR (c :: t) = 1 := by unfold opR; rw [if_neg h]; simp [h1]
theorem opR_none {c : UInt8} {t : List UInt8} (h : (c :: t).take 2 ∉ twos) (h1 : c ∉ ones) : opR (c :: t) = 0 := by unfold opR; rw [if_neg h]; simp [h1]

/-- A part's answer handed on. -/
theorem tokRes_parts (r : Except Nat (Tk × Nat)) : ∃ x y z q e, tokRes r = .tuple #[.agg #[x, y, z], .int .i64 q, .int .i64 e] ∧ (∃ n, x = .int .i64 n) ∧ (∃ b, y = .string b) ∧ ∃ n, z = .int .i64 n := by
  cases r with
  | error e => exact ⟨_, _, _, _, _, rfl, ⟨_, rfl⟩, ⟨_, rfl⟩, _, rfl⟩
  | ok t => exact ⟨_, _, _, _, _, rfl, ⟨_, rfl⟩, ⟨_, rfl⟩, _, rfl⟩

set_option maxRecDepth 100000 in
set_option maxHeartbeats 4000000 in
theorem token_any (s : ByteArray) (p : Nat) (w : World) (hp : p < s.size) (hs : s.size < 1000000) :
    Calls Try.prog 18 #[.string s, .int .i64 p] w fun e w' => e = .returned (tokRes (tokP s.data.toList p)) ∧ Below w.heap.size w w' := by
  have hdr := drop_at s p hp
  have hb := (s[p]).toNat_lt
  have htk : Hid (tokP s.data.toList p = if dig s[p] then numT (s.data.toList.drop p) p else if let8 s[p] then nameT (s.data.toList.drop p) p else if (s[p]).toNat = 34 then quoT (s.data.toList.drop (p + 1)) p else opT (s.data.toList.drop p) p) := by
    show _ = _
    rw [tokP, hdr]
  go_enter Try.func18, Try.ntmps18
  go_wp2_with fail
  have hblk := Blk.new w 30 #[.int .i64 0, .string ⟨#[]⟩, .int .i64 0]
  have hbel0 : Below w.heap.size w (w.alloc (.cells #[.int .i64 0, .string ⟨#[]⟩, .int .i64 0] 30)) := (Below.refl _ _).alloc (Nat.le_refl _) _
  have hsz : (w.alloc (.cells #[.int .i64 0, .string ⟨#[]⟩, .int .i64 0] 30)).heap.size = w.heap.size + 1 := by simp
  generalize w.alloc (.cells #[.int .i64 0, .string ⟨#[]⟩, .int .i64 0] 30) = w1 at *
  obtain ⟨B, hB⟩ : ∃ B, B = w.heap.size := ⟨_, rfl⟩
  rw [← hB] at hblk hbel0 hsz ⊢
  have HB := Lib.hid hB
  clear hB
  refine (isDigit_any _ _).mono ?_
  rintro e w2 ⟨rfl, rfl⟩
  by_cases hdig : dig s[p] = true
  · rw [hdig]
    go_wp2_with fail
    refine (number_any s p _ (by omega) hs).mono ?_
    rintro e w2 ⟨rfl, hb2⟩
    have ht := htk.out
    rw [if_pos hdig] at ht
    have HT := Lib.hid ht
    clear htk ht
    generalize numT (s.data.toList.drop p) p = r at *
    obtain ⟨x, y, z, q, e, hr, hx, hy, hz⟩ := tokRes_parts r
    rw [hr]
    obtain ⟨n1, rfl⟩ := hx
    obtain ⟨n2, rfl⟩ := hy
    obtain ⟨n3, rfl⟩ := hz
    have hb1 := hblk.below hb2 (by omega)
    have hc0 := hb1.cell 0
    have hc1 := hb1.cell 1
    have hc2 := hb1.cell 2
    have hf0 := hb1.frozen 0
    have hf1 := hb1.frozen 1
    have hf2 := hb1.frozen 2
    have hbel2 := hbel0.trans (hb2.mono (by omega))
    go_wp2_with fail
    have h3 := put3 hb1 (.int .i64 n1) (.string n2) (.int .i64 n3)
    have hb3 := below3 hbel2 (.int .i64 n1) (.string n2) (.int .i64 n3)
    exact bodyPost_ret (v := tokRes r) (by rw [hr]; simp [results, Try.f18, go_sem, h3.cell]) rfl ⟨by rw [HT.out], by rw [← HB.out]; exact hb3⟩
  rw [Bool.eq_false_iff.2 hdig]
  go_wp2_with fail
  refine (isLetter_any _ _).mono ?_
  rintro e w2 ⟨rfl, rfl⟩
  by_cases hlet : let8 s[p] = true
  · rw [hlet]
    go_wp2_with fail
    refine (name_any s p _ (by omega) hs).mono ?_
    rintro e w2 ⟨rfl, hb2⟩
    have ht := htk.out
    rw [if_neg hdig, if_pos hlet] at ht
    have HT := Lib.hid ht
    clear htk ht
    generalize nameT (s.data.toList.drop p) p = r at *
    obtain ⟨x, y, z, q, e, hr, hx, hy, hz⟩ := tokRes_parts r
    rw [hr]
    obtain ⟨n1, rfl⟩ := hx
    obtain ⟨n2, rfl⟩ := hy
    obtain ⟨n3, rfl⟩ := hz
    have hb1 := hblk.below hb2 (by omega)
    have hc0 := hb1.cell 0
    have hc1 := hb1.cell 1
    have hc2 := hb1.cell 2
    have hf0 := hb1.frozen 0
    have hf1 := hb1.frozen 1
    have hf2 := hb1.frozen 2
    have hbel2 := hbel0.trans (hb2.mono (by omega))
    go_wp2_with fail
    have h3 := put3 hb1 (.int .i64 n1) (.string n2) (.int .i64 n3)
    have hb3 := below3 hbel2 (.int .i64 n1) (.string n2) (.int .i64 n3)
    exact bodyPost_ret (v := tokRes r) (by rw [hr]; simp [results, Try.f18, go_sem, h3.cell]) rfl ⟨by rw [HT.out], by rw [← HB.out]; exact hb3⟩
  rw [Bool.eq_false_iff.2 hlet]
  by_cases h34 : (s[p]).toNat = 34
  · have e34 : (((s[p]).toNat : Int) == 34) = true := by simp; omega
    go_wp2_with fail
    refine (quoted_any s p _ hp hs).mono ?_
    rintro e w2 ⟨rfl, hb2⟩
    have ht := htk.out
    rw [if_neg hdig, if_neg hlet, if_pos h34] at ht
    have HT := Lib.hid ht
    clear htk ht
    generalize quoT (s.data.toList.drop (p + 1)) p = r at *
    obtain ⟨x, y, z, q, e, hr, hx, hy, hz⟩ := tokRes_parts r
    rw [hr]
    obtain ⟨n1, rfl⟩ := hx
    obtain ⟨n2, rfl⟩ := hy
    obtain ⟨n3, rfl⟩ := hz
    have hb1 := hblk.below hb2 (by omega)
    have hc0 := hb1.cell 0
    have hc1 := hb1.cell 1
    have hc2 := hb1.cell 2
    have hf0 := hb1.frozen 0
    have hf1 := hb1.frozen 1
    have hf2 := hb1.frozen 2
    have hbel2 := hbel0.trans (hb2.mono (by omega))
    go_wp2_with fail
    have h3 := put3 hb1 (.int .i64 n1) (.string n2) (.int .i64 n3)
    have hb3 := below3 hbel2 (.int .i64 n1) (.string n2) (.int .i64 n3)
    exact bodyPost_ret (v := tokRes r) (by rw [hr]; simp [results, Try.f18, go_sem, h3.cell]) rfl ⟨by rw [HT.out], by rw [← HB.out]; exact hb3⟩
  have e34 : (((s[p]).toNat : Int) == 34) = false := by simp; omega
  have ht := htk.out
  rw [if_neg hdig, if_neg hlet, if_neg h34, opT] at ht
  have HT := Lib.hid ht
  clear htk ht
  go_wp2_with fail
  have hc0 := hblk.cell 0
  have hc1 := hblk.cell 1
  have hc2 := hblk.cell 2
  have hf0 := hblk.frozen 0
  have hf1 := hblk.frozen 1
  have hf2 := hblk.frozen 2
  go_loop [8] (fun v => ∃ (n : Nat), v = .int .i64 n ∧ n ≤ 2 ∧ Hid (n < 2 → (s.data.toList.drop p).take 2 ∉ twos) ∧ Hid (n < 1 → s[p] ∉ ones)) (fun v => (intOf v).toNat)
  case atStart => exact ⟨2, rfl, by omega, fun h => absurd h (by decide), fun h => absurd h (by decide)⟩
  case round =>
    obtain ⟨n, rfl, hn, H2, H1⟩ := hrel
    obtain rfl | rfl | rfl : n = 2 ∨ n = 1 ∨ n = 0 := by omega
    · clear H1 H2
      by_cases hin : p + 2 ≤ s.size
      · go_wp2_with fail
        refine (isOperator_any _ _).mono ?_
        rintro e w2 ⟨rfl, rfl⟩
        have hx := extract_take s p 2
        rw [hx, isOp_two _ (by simp; omega)]
        by_cases h2 : (s.data.toList.drop p).take 2 ∈ twos
        · have H2 := Lib.hid h2
          rw [decide_eq_true h2]
          have HT2 : Hid (tokP s.data.toList p = .ok (⟨4, (s.data.toList.drop p).take 2, p⟩, p + 2)) := by
            show _ = _
            have : opR (s.data.toList.drop p) = 2 := opR_two h2
            rw [HT.out, this]; rfl
          clear h2 HT
          generalize (s.data.toList.drop p).take 2 = U at *
          go_wp2_with fail
          have h3 := put3 hblk (.int .i64 4) (.string ⟨U.toArray⟩) (.int .i64 p)
          have hb3 := below3 hbel0 (.int .i64 4) (.string ⟨U.toArray⟩) (.int .i64 p)
          exact bodyPost_ret (v := tokRes (.ok (⟨4, U, p⟩, p + 2))) (by simp [tokRes, tkV, results, Try.f18, go_sem, h3.cell]) rfl ⟨by rw [HT2.out], by rw [← HB.out]; exact hb3⟩
        · rw [decide_eq_false h2]
          have H2 := Lib.hid h2
          clear h2
          go_wp2_with fail
          exact ⟨⟨1, rfl, by omega, fun _ => H2.out, fun h => absurd h (by decide)⟩, by simp [intOf]⟩
      · have H2 : Hid ((s.data.toList.drop p).take 2 ∉ twos) := by
          intro h
          have := twos_len _ h
          simp at this
          omega
        go_wp2_with fail
        exact ⟨⟨1, rfl, by omega, fun _ => H2.out, fun h => absurd h (by decide)⟩, by simp [intOf]⟩
    · go_wp2_with fail
      refine (isOperator_any _ _).mono ?_
      rintro e w2 ⟨rfl, rfl⟩
      have hx := extract_take s p 1
      have hU : (s.data.toList.drop p).take 1 = [s[p]] := by rw [hdr]; rfl
      rw [hU] at hx
      rw [hx, isOp_one]
      by_cases h1 : s[p] ∈ ones
      · rw [decide_eq_true h1]
        have HT2 : Hid (tokP s.data.toList p = .ok (⟨4, [s[p]], p⟩, p + 1)) := by
          show _ = _
          have : opR (s.data.toList.drop p) = 1 := by have h := H2.out (by decide); rw [hdr] at h ⊢; exact opR_one h h1
          rw [HT.out, this, hU]; rfl
        go_wp2_with fail
        have h3 := put3 hblk (.int .i64 4) (.string ⟨#[s[p]]⟩) (.int .i64 p)
        have hb3 := below3 hbel0 (.int .i64 4) (.string ⟨#[s[p]]⟩) (.int .i64 p)
        exact bodyPost_ret (v := tokRes (.ok (⟨4, [s[p]], p⟩, p + 1))) (by simp [tokRes, tkV, results, Try.f18, go_sem, h3.cell]) rfl ⟨by rw [HT2.out], by rw [← HB.out]; exact hb3⟩
      · rw [decide_eq_false h1]
        go_wp2_with fail
        exact ⟨⟨0, rfl, by omega, fun _ => H2.out (by decide), fun _ => h1⟩, by simp [intOf]⟩
    · have HT2 : Hid (tokP s.data.toList p = .error 18) := by
        show _ = _
        have : opR (s.data.toList.drop p) = 0 := by have h := H2.out (by decide); rw [hdr] at h ⊢; exact opR_none h (H1.out (by decide))
        rw [HT.out, this]; rfl
      go_wp2_with fail
      have h3 := put3 hblk (.int .i64 0) (.string ⟨#[]⟩) (.int .i64 0)
      have hb3 := below3 hbel0 (.int .i64 0) (.string ⟨#[]⟩) (.int .i64 0)
      exact bodyPost_ret (v := tokRes (.error 18)) (by simp [tokRes, tk0, results, Try.f18, go_sem, h3.cell]) rfl ⟨by rw [HT2.out], by rw [← HB.out]; exact hb3⟩
end Go.Proofs.Ytalbmipncoohdaa
