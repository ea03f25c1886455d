/-
  Walk: the tokens of a script, in the program.
-/
import Derived.Test.YtalbmipncoohdaaX11
namespace Go.Proofs.Ytalbmipncoohdaa
open Go.RowKit

set_option maxRecDepth 100000 in
set_option maxHeartbeats 4000000 in
theorem tokens_any (s : ByteArray) (w : World) (hmax : s.size ≤ maxLen) :
    Calls Try.prog 8 #[.string s] w fun e w' => TokensOk (toksP s.data.toList) w.heap.size e w' ∧ Below w.heap.size w w' := by
  unfold maxLen at hmax
  have hlen : s.data.toList.length = s.size := by simp
  by_cases hbig : 16384 < s.size
  · have hr : Hid (toksP s.data.toList = .error (0, 3)) := by show _ = _; rw [toksP, if_pos (by omega)]
    go_enter Try.func8, Try.ntmps8
    go_wp2_with fail
    refine bodyPost_ret (v := .tuple #[.slice none 0 0, .int .i64 0, .int .i64 3]) (by simp [results, Try.f8, go_sem]) rfl ⟨?_, Below.refl _ _⟩
    rw [hr.out]; rfl
  have hr : Hid (toksP s.data.toList = toksGo s.data.toList (s.size + 1) 0 (skipN false s.data.toList)) := by show _ = _; rw [toksP, if_neg (by omega), hlen]
  have hskl := skipN_le false s.data.toList
  rw [hlen] at hskl
  go_enter Try.func8, Try.ntmps8
  go_wp2_with fail
  refine (skip_any s 0 _ (by omega) (by omega)).mono ?_
  rintro e w1 ⟨rfl, rfl⟩
  rw [List.drop_zero, Nat.zero_add]
  go_wp2_with fail
  obtain ⟨B, hB⟩ : ∃ B, B = w.heap.size := ⟨_, rfl⟩
  have HB := Lib.hid hB
  clear hB
  go_loopw [5, 6] (fun v va wr => ∃ (p : Nat) (done : List Tk), va = .int .i64 p ∧ p ≤ s.size ∧ done.length ≤ p ∧ TRow wr B v done ∧
      Hid (cont done (toksGo s.data.toList (s.size + 1 - done.length) done.length p) = toksP s.data.toList) ∧ Below B w wr ∧ B ≤ wr.heap.size) (fun _ va _ => s.size - (intOf va).toNat)
  case atStart =>
    refine ⟨_, [], rfl, hskl, Nat.zero_le _, ⟨rfl, .inl ⟨rfl, rfl⟩⟩, ?_, Below.refl _ _, by have := HB.out; omega⟩
    show _ = _
    rw [hr.out]
    show cont [] _ = _
    generalize toksGo s.data.toList (s.size + 1 - 0) 0 (skipN false s.data.toList) = r
    cases r <;> rfl
  case round =>
    clear hr
    obtain ⟨p, done, rfl, hp, hdp, hrow, hg, hbel, hszr⟩ := hrel
    obtain ⟨x5, c5, rfl⟩ := trow_shape hrow
    obtain ⟨f, hf⟩ : ∃ f, s.size + 1 - done.length = f + 1 := ⟨s.size - done.length, by omega⟩
    have hd := hg.out
    rw [hf] at hd
    by_cases hlim : 4096 ≤ done.length
    · rw [toksGo_lim _ _ _ _ hlim] at hd
      have HD := Lib.hid hd
      clear hd hg
      have hc1 : decide ((4096 : Int) ≤ (done.length : Int)) = true := by simp; omega
      go_wp2_with fail
      refine bodyPost_ret (v := .tuple #[.slice none 0 0, .int .i64 p, .int .i64 3]) (by simp [results, Try.f8, go_sem]) rfl ⟨?_, by rw [← HB.out]; exact hbel⟩
      rw [← HD.out]; rfl
    have hc1 : decide ((4096 : Int) ≤ (done.length : Int)) = false := by simp; omega
    by_cases hend : p = s.size
    · have hpe : ((p : Int) == (s.size : Int)) = true := by simp; omega
      rw [hend, ← hlen, toksGo_end _ _ _ hlim] at hd
      have HD := Lib.hid hd
      clear hd hg
      go_wp2_with (at_builtin; refine wpList_app el_tok hrow hszr rfl rfl rfl (m := 0) rfl (by simp [Value.oneCell']) rfl (by omega) (by unfold maxLen; omega) ?_)
      intro r2 cap2 w2 ho2 hg2 _
      have hrow2 := trow_more ho2 ⟨0, [], s.size⟩ rfl rfl
      obtain ⟨hbel2, hsz2⟩ := below_app hbel hszr hrow hg2
      clear ho2 hg2
      go_wp2_with fail
      refine bodyPost_ret (v := .tuple #[_, .int .i64 0, .int .i64 0]) (by simp [results, Try.f8, go_sem]; rfl) rfl ⟨?_, by rw [← HB.out]; exact hbel2⟩
      rw [← HD.out, hlen, ← HB.out]
      exact ⟨_, rfl, hrow2⟩
    have hpe : ((p : Int) == (s.size : Int)) = false := by simp; omega
    go_wp2_with fail
    refine (token_any s p _ (by omega) (by omega)).mono ?_
    rintro e w2 ⟨rfl, hb2⟩
    have hrow2 : TRow w2 B _ done := (Fr.of_below (B := 0) hb2 []).owns hrow (by simp)
    have hbel2 := hbel.trans (hb2.mono hszr)
    have hsz2 : B ≤ w2.heap.size := Nat.le_trans hszr hb2.size
    cases htk : tokP s.data.toList p with
    | error e =>
      rw [toksGo_err _ _ _ _ _ hlim (by omega) htk] at hd
      have HD := Lib.hid hd
      have hene : ((e : Int) != 0) = true := by
        have : e ≠ 0 := fun h0 => by obtain ⟨x, hx⟩ := errOf_tok s.data.toList p (by rw [htk]; exact h0); rw [htk] at hx; cases hx
        simp; omega
      clear hd hg htk
      simp only [tokRes, tk0]
      go_wp2_with fail
      refine bodyPost_ret (v := .tuple #[.slice none 0 0, .int .i64 p, .int .i64 e]) (by simp [results, Try.f8, go_sem]) rfl ⟨?_, by rw [← HB.out]; exact hbel2.alloc hsz2 _⟩
      rw [← HD.out]; rfl
    | ok x =>
      obtain ⟨t, q⟩ := x
      rw [toksGo_step _ _ _ _ _ _ hlim (by omega) htk] at hd
      obtain ⟨hq1, hq2⟩ := tokP_step _ _ _ _ htk
      rw [hlen] at hq2
      have HD := Lib.hid hd
      clear hd hg htk
      simp only [tokRes, tkV]
      have hrow3 := fun o => World.ownsRow.alloc hrow2 o
      have hsa : ∀ o, (w2.alloc o).heap.size = w2.heap.size + 1 := fun o => by simp
      go_wp2_with (at_builtin; refine wpList_app el_tok (hrow3 _) (by simp; omega) rfl rfl rfl (m := 0) rfl (by simp [Value.oneCell']) (by rw [hsa]; rfl) (by omega) (by unfold maxLen; omega) ?_)
      intro r2 cap2 w3 ho2 hg2 _
      have hrow4 := trow_more ho2 t rfl rfl
      obtain ⟨hbel3, hsz3⟩ := below_app (hbel2.alloc hsz2 _) (by simp; omega) (hrow3 _) hg2
      clear ho2 hg2 hrow hrow2 hrow3
      go_wp2_with fail
      refine (skip_any s q _ hq2 (by omega)).mono ?_
      rintro e w4 ⟨rfl, rfl⟩
      have hsk := skipN_le false (s.data.toList.drop q)
      have hdl : (s.data.toList.drop q).length = s.size - q := by simp
      rw [hdl] at hsk
      go_wp2_with fail
      refine ⟨⟨_, _, rfl, by omega, by simp; omega, hrow4, ?_, hbel3, hsz3⟩, by simp [intOf]; omega⟩
      show _ = _
      rw [← HD.out, ← cont_snoc]
      have h1 : (done ++ [t]).length = done.length + 1 := by simp
      rw [h1, show s.size + 1 - (done.length + 1) = f from by omega]
end Go.Proofs.Ytalbmipncoohdaa
