/-
  Walks: strings, in the program and in the reference.
-/
import Derived.Test.YtalbmipncoohdaaX4
namespace Go.Proofs.Ytalbmipncoohdaa
open Go.RowKit

theorem el_u8 : Elem Try.prog 36 5 (.int .u8 0) 1 1 := by
  refine ⟨Try.underlying36, ?_, rfl, by decide⟩
  exact info_parts (by kernel_rfl)

theorem row_shape {w : World} {b : Nat} {e : TypeId} {v : Value} {l : List UInt8} (h : BRow w b e v l) : ∃ x c, v = .slice x l.length c := by
  rcases h.2 with ⟨rfl, h0⟩ | ⟨g, cap, cur, rfl, _⟩
  · exact ⟨none, 0, by rw [h0]⟩
  · exact ⟨_, _, rfl⟩
theorem put3 {w : World} {B : Nat} {t : TypeId} {a b c : Value} (h : Blk w B t #[a, b, c]) (x y z : Value) : Blk (((w.setCell ⟨B, 0, none⟩ x).setCell ⟨B, 1, none⟩ y).setCell ⟨B, 2, none⟩ z) B t #[x, y, z] := by
  have := ((h.put 0 x).put 1 y).put 2 z
  simpa using this
theorem below3 {w0 w : World} {B : Nat} (h : Below B w0 w) (x y z : Value) : Below B w0 (((w.setCell ⟨B, 0, none⟩ x).setCell ⟨B, 1, none⟩ y).setCell ⟨B, 2, none⟩ z) :=
  ((h.setCell (Nat.le_refl B) x).setCell (Nat.le_refl B) y).setCell (Nat.le_refl B) z

theorem quoR_end {c : UInt8} {t : List UInt8} (h : c.toNat = 34) : quoR (c :: t) = some ([], 1) := by unfold quoR; rw [if_pos h]
theorem quoR_bad {c : UInt8} {t : List UInt8} (h : c.toNat < 32 ∨ 126 < c.toNat) : quoR (c :: t) = none := by unfold quoR; rw [if_neg (by omega), if_pos h]
theorem quoR_cut {c : UInt8} (h : c.toNat = 92) : quoR [c] = none := by unfold quoR; rw [if_neg (by omega), if_neg (by omega), if_pos h]
theorem quoR_same {c d : UInt8} {u : List UInt8} (h : c.toNat = 92) (hd : d.toNat = 92 ∨ d.toNat = 34) : quoR (c :: d :: u) = (quoR u).map fun x => (d :: x.1, x.2 + 2) := by
  conv => lhs; unfold quoR
  rw [if_neg (by omega), if_neg (by omega), if_pos h]; simp only; rw [if_pos hd]
theorem quoR_line {c d : UInt8} {u : List UInt8} (h : c.toNat = 92) (hd : d.toNat = 110) : quoR (c :: d :: u) = (quoR u).map fun x => (10 :: x.1, x.2 + 2) := by
  conv => lhs; unfold quoR
  rw [if_neg (by omega), if_neg (by omega), if_pos h]; simp only; rw [if_neg (by omega), if_pos hd]
theorem quoR_wrong {c d : UInt8} {u : List UInt8} (h : c.toNat = 92) (h1 : d.toNat ≠ 92) (h2 : d.toNat ≠ 34) (h3 : d.toNat ≠ 110) : quoR (c :: d :: u) = none := by
  conv => lhs; unfold quoR
  rw [if_neg (by omega), if_neg (by omega), if_pos h]; simp only; rw [if_neg (by omega), if_neg (by omega)]
theorem quoR_plain {c : UInt8} {t : List UInt8} (h1 : 32 ≤ c.toNat) (h2 : c.toNat ≤ 126) (h3 : c.toNat ≠ 34) (h4 : c.toNat ≠ 92) : quoR (c :: t) = (quoR t).map fun x => (c :: x.1, x.2 + 1) := by
  conv => lhs; unfold quoR
  rw [if_neg (by omega), if_neg (by omega), if_neg (by omega)]

set_option maxRecDepth 100000 in
set_option maxHeartbeats 4000000 in
theorem quoted_any (s : ByteArray) (p : Nat) (w : World) (hp : p < s.size) (hs : s.size < 1000000) :
    Calls Try.prog 25 #[.string s, .int .i64 p] w fun e w' => e = .returned (tokRes (quoT (s.data.toList.drop (p + 1)) p)) ∧ Below w.heap.size w w' := by
  go_enter Try.func25, Try.ntmps25
  go_wp2_with fail
  have hblk := Blk.new w 30 #[.int .i64 0, .string ⟨#[]⟩, .int .i64 0]
  have hbel0 : Below w.heap.size w (w.alloc (.cells #[.int .i64 0, .string ⟨#[]⟩, .int .i64 0] 30)) := (Below.refl _ _).alloc (Nat.le_refl _) _
  have hsz : (w.alloc (.cells #[.int .i64 0, .string ⟨#[]⟩, .int .i64 0] 30)).heap.size = w.heap.size + 1 := by simp
  generalize w.alloc (.cells #[.int .i64 0, .string ⟨#[]⟩, .int .i64 0] 30) = w1 at *
  obtain ⟨B, hB⟩ : ∃ B, B = w.heap.size := ⟨_, rfl⟩
  rw [← hB] at hblk hbel0 hsz ⊢
  have HB := Lib.hid hB
  clear hB
  go_loopw [7, 8, 9] (fun v vk _ wr => ∃ (j : Nat) (acc : List UInt8), vk = .int .i64 ((p + 1 + j : Nat) : Int) ∧ p + 1 + j ≤ s.size ∧ BRow wr (B + 1) 5 v acc ∧ acc.length ≤ j ∧
      Hid ((quoR (s.data.toList.drop (p + 1 + j))).map (fun x => (acc ++ x.1, x.2 + j)) = quoR (s.data.toList.drop (p + 1))) ∧ Fr (B + 1) [5] w1 wr) (fun _ vk _ _ => s.size - (intOf vk).toNat)
  case atStart => exact ⟨0, [], rfl, hp, ⟨rfl, .inl ⟨rfl, rfl⟩⟩, Nat.zero_le _, by show _ = _; simp, Fr.refl _ _ _⟩
  case round =>
    obtain ⟨j, acc, rfl, hj, hown, hacc, hg, hfr⟩ := hrel
    have hb1 := hfr.blk hblk (by decide)
    have hszr : B + 1 ≤ wr.heap.size := by have := hfr.size; omega
    have hc0 := hb1.cell 0
    have hc1 := hb1.cell 1
    have hc2 := hb1.cell 2
    have hf0 := hb1.frozen 0
    have hf1 := hb1.frozen 1
    have hf2 := hb1.frozen 2
    by_cases hlt : p + 1 + j < s.size
    · have hd := hg.out
      rw [drop_at s (p + 1 + j) hlt] at hd
      have hb := (s[p + 1 + j]).toNat_lt
      have hcl : decide (((p : Int) + 1 + (j : Int)) < (s.size : Int)) = true := by simp; omega
      by_cases h34 : (s[p + 1 + j]).toNat = 34
      · have e34 : (((s[p + 1 + j]).toNat : Int) == 34) = true := by simp; omega
        rw [quoR_end h34] at hd
        have HD := Lib.hid hd
        clear hd hg
        by_cases hlen : 256 < acc.length
        · have HN : Hid (quoT (s.data.toList.drop (p + 1)) p = .error 3) := by show _ = _; rw [quoT, ← HD.out]; simp [hlen]
          obtain ⟨x7, c7, rfl⟩ := row_shape hown
          go_wp2_with fail
          have h3 := put3 hb1 (.int .i64 0) (.string ⟨#[]⟩) (.int .i64 0)
          have hb3 := below3 (hbel0.trans ((hfr.below (by omega)).mono (Nat.le_succ B))) (.int .i64 0) (.string ⟨#[]⟩) (.int .i64 0)
          exact bodyPost_ret (v := tokRes (.error 3)) (by simp [tokRes, tk0, results, Try.f25, go_sem, h3.cell]) rfl ⟨by rw [HN.out], by rw [← HB.out]; exact hb3⟩
        · have HN : Hid (quoT (s.data.toList.drop (p + 1)) p = .ok (⟨2, acc, p⟩, p + 1 + (1 + j))) := by show _ = _; rw [quoT, ← HD.out]; simp [hlen]
          obtain ⟨x7, c7, rfl⟩ := row_shape hown
          have hcv := run_str_of Try.underlying36 Try.underlying5 Try.underlying9 hown
          go_wp2_with fail
          have h3 := put3 hb1 (.int .i64 2) (.string ⟨acc.toArray⟩) (.int .i64 p)
          have hb3 := below3 (hbel0.trans ((hfr.below (by omega)).mono (Nat.le_succ B))) (.int .i64 2) (.string ⟨acc.toArray⟩) (.int .i64 p)
          exact bodyPost_ret (v := tokRes (.ok (⟨2, acc, p⟩, p + 1 + (1 + j)))) (by simp [tokRes, tkV, results, Try.f25, go_sem, h3.cell]; omega) rfl ⟨by rw [HN.out], by rw [← HB.out]; exact hb3⟩
      have e34 : (((s[p + 1 + j]).toNat : Int) == 34) = false := by simp; omega
      by_cases hbad : (s[p + 1 + j]).toNat < 32 ∨ 126 < (s[p + 1 + j]).toNat
      · rw [quoR_bad hbad] at hd
        have HN : Hid (quoT (s.data.toList.drop (p + 1)) p = .error 18) := by show _ = _; rw [quoT, ← hd]; rfl
        clear hd hg
        rcases hbad with hbad | hbad
        · have e32 : decide (((s[p + 1 + j]).toNat : Int) < 32) = true := by simp; omega
          go_wp2_with fail
          have h3 := put3 hb1 (.int .i64 0) (.string ⟨#[]⟩) (.int .i64 0)
          have hb3 := below3 (hbel0.trans ((hfr.below (by omega)).mono (Nat.le_succ B))) (.int .i64 0) (.string ⟨#[]⟩) (.int .i64 0)
          exact bodyPost_ret (v := tokRes (.error 18)) (by simp [tokRes, tk0, results, Try.f25, go_sem, h3.cell]) rfl ⟨by rw [HN.out], by rw [← HB.out]; exact hb3⟩
        · have e32 : decide (((s[p + 1 + j]).toNat : Int) < 32) = false := by simp; omega
          have e126 : decide ((126 : Int) < ((s[p + 1 + j]).toNat : Int)) = true := by simp; omega
          go_wp2_with fail
          have h3 := put3 hb1 (.int .i64 0) (.string ⟨#[]⟩) (.int .i64 0)
          have hb3 := below3 (hbel0.trans ((hfr.below (by omega)).mono (Nat.le_succ B))) (.int .i64 0) (.string ⟨#[]⟩) (.int .i64 0)
          exact bodyPost_ret (v := tokRes (.error 18)) (by simp [tokRes, tk0, results, Try.f25, go_sem, h3.cell]) rfl ⟨by rw [HN.out], by rw [← HB.out]; exact hb3⟩
      have e32 : decide (((s[p + 1 + j]).toNat : Int) < 32) = false := by simp; omega
      have e126 : decide ((126 : Int) < ((s[p + 1 + j]).toNat : Int)) = false := by simp; omega
      by_cases h92 : (s[p + 1 + j]).toNat = 92
      · have e92 : (((s[p + 1 + j]).toNat : Int) == 92) = true := by simp; omega
        by_cases hlt2 : p + 1 + j + 1 < s.size
        · have hb2 := (s[p + 1 + j + 1]).toNat_lt
          have hend : (((p + 1 + j + 1 : Nat) : Int) == (s.size : Int)) = false := by simp; omega
          rw [drop_at s (p + 1 + j + 1) hlt2] at hd
          by_cases k92 : (s[p + 1 + j + 1]).toNat = 92
          · have f92 : (((s[p + 1 + j + 1]).toNat : Int) == 92) = true := by simp; omega
            rw [quoR_same h92 (.inl k92)] at hd
            have HD := Lib.hid hd
            clear hd hg
            go_wp2_with (at_builtin; refine wpList_app el_u8 hown hszr rfl rfl rfl (m := 0) rfl (by simp [Value.oneCell']) rfl (by omega) (by unfold maxLen; omega) ?_)
            intro r2 cap2 w2 ho2 hg2 _
            have hown2 := brow_more ho2 [s[p + 1 + j + 1]] (by simp [bcells, k92]) rfl
            have hfr2 := (hfr.alloc _).grown (hown.alloc _) (Nat.le_refl _) (by decide) hg2
            clear ho2 hg2 hown hfr hb1 hc0 hc1 hc2 hf0 hf1 hf2
            go_wp2_with fail
            go_roundw
            case rel =>
              refine ⟨j + 2, acc ++ [s[p + 1 + j + 1]], by go_num, by omega, hown2, by simp; omega, ?_, hfr2⟩
              have := HD.out
              show _ = _
              rw [← this, Option.map_map, show p + 1 + (j + 2) = p + 1 + j + 1 + 1 from by omega]; congr 1; funext x; simp; omega
            case measure => simp [intOf]; omega
          by_cases k34 : (s[p + 1 + j + 1]).toNat = 34
          · have f92 : (((s[p + 1 + j + 1]).toNat : Int) == 92) = false := by simp; omega
            have f34 : (((s[p + 1 + j + 1]).toNat : Int) == 34) = true := by simp; omega
            rw [quoR_same h92 (.inr k34)] at hd
            have HD := Lib.hid hd
            clear hd hg
            go_wp2_with (at_builtin; refine wpList_app el_u8 hown hszr rfl rfl rfl (m := 0) rfl (by simp [Value.oneCell']) rfl (by omega) (by unfold maxLen; omega) ?_)
            intro r2 cap2 w2 ho2 hg2 _
            have hown2 := brow_more ho2 [s[p + 1 + j + 1]] (by simp [bcells, k34]) rfl
            have hfr2 := (hfr.alloc _).grown (hown.alloc _) (Nat.le_refl _) (by decide) hg2
            clear ho2 hg2 hown hfr hb1 hc0 hc1 hc2 hf0 hf1 hf2
            go_wp2_with fail
            go_roundw
            case rel =>
              refine ⟨j + 2, acc ++ [s[p + 1 + j + 1]], by go_num, by omega, hown2, by simp; omega, ?_, hfr2⟩
              have := HD.out
              show _ = _
              rw [← this, Option.map_map, show p + 1 + (j + 2) = p + 1 + j + 1 + 1 from by omega]; congr 1; funext x; simp; omega
            case measure => simp [intOf]; omega
          have f92 : (((s[p + 1 + j + 1]).toNat : Int) == 92) = false := by simp; omega
          have f34 : (((s[p + 1 + j + 1]).toNat : Int) == 34) = false := by simp; omega
          by_cases k110 : (s[p + 1 + j + 1]).toNat = 110
          · have f110 : (((s[p + 1 + j + 1]).toNat : Int) == 110) = true := by simp; omega
            rw [quoR_line h92 k110] at hd
            have HD := Lib.hid hd
            clear hd hg
            go_wp2_with (at_builtin; refine wpList_app el_u8 hown hszr rfl rfl rfl (m := 0) rfl (by simp [Value.oneCell']) rfl (by omega) (by unfold maxLen; omega) ?_)
            intro r2 cap2 w2 ho2 hg2 _
            have hown2 := brow_more ho2 [10] (by simp [bcells]) rfl
            have hfr2 := (hfr.alloc _).grown (hown.alloc _) (Nat.le_refl _) (by decide) hg2
            clear ho2 hg2 hown hfr hb1 hc0 hc1 hc2 hf0 hf1 hf2
            go_wp2_with fail
            go_roundw
            case rel =>
              refine ⟨j + 2, acc ++ [10], by go_num, by omega, hown2, by simp; omega, ?_, hfr2⟩
              have := HD.out
              show _ = _
              rw [← this, Option.map_map, show p + 1 + (j + 2) = p + 1 + j + 1 + 1 from by omega]; congr 1; funext x; simp; omega
            case measure => simp [intOf]; omega
          · have f110 : (((s[p + 1 + j + 1]).toNat : Int) == 110) = false := by simp; omega
            rw [quoR_wrong h92 k92 k34 k110] at hd
            have HN : Hid (quoT (s.data.toList.drop (p + 1)) p = .error 18) := by show _ = _; rw [quoT, ← hd]; rfl
            clear hd hg
            go_wp2_with fail
            have h3 := put3 hb1 (.int .i64 0) (.string ⟨#[]⟩) (.int .i64 0)
            have hb3 := below3 (hbel0.trans ((hfr.below (by omega)).mono (Nat.le_succ B))) (.int .i64 0) (.string ⟨#[]⟩) (.int .i64 0)
            exact bodyPost_ret (v := tokRes (.error 18)) (by simp [tokRes, tk0, results, Try.f25, go_sem, h3.cell]) rfl ⟨by rw [HN.out], by rw [← HB.out]; exact hb3⟩
        · have hend : (((p + 1 + j + 1 : Nat) : Int) == (s.size : Int)) = true := by simp; omega
          rw [drop_end s (p + 1 + j + 1) (by omega), quoR_cut h92] at hd
          have HN : Hid (quoT (s.data.toList.drop (p + 1)) p = .error 18) := by show _ = _; rw [quoT, ← hd]; rfl
          clear hd hg
          go_wp2_with fail
          have h3 := put3 hb1 (.int .i64 0) (.string ⟨#[]⟩) (.int .i64 0)
          have hb3 := below3 (hbel0.trans ((hfr.below (by omega)).mono (Nat.le_succ B))) (.int .i64 0) (.string ⟨#[]⟩) (.int .i64 0)
          exact bodyPost_ret (v := tokRes (.error 18)) (by simp [tokRes, tk0, results, Try.f25, go_sem, h3.cell]) rfl ⟨by rw [HN.out], by rw [← HB.out]; exact hb3⟩
      · have e92 : (((s[p + 1 + j]).toNat : Int) == 92) = false := by simp; omega
        rw [quoR_plain (by omega) (by omega) h34 h92] at hd
        have HD := Lib.hid hd
        clear hd hg
        go_wp2_with (at_builtin; refine wpList_app el_u8 hown hszr rfl rfl rfl (m := 0) rfl (by simp [Value.oneCell']) rfl (by omega) (by unfold maxLen; omega) ?_)
        intro r2 cap2 w2 ho2 hg2 _
        have hown2 := brow_more ho2 [s[p + 1 + j]] (by simp [bcells]) rfl
        have hfr2 := (hfr.alloc _).grown (hown.alloc _) (Nat.le_refl _) (by decide) hg2
        clear ho2 hg2 hown hfr hb1 hc0 hc1 hc2 hf0 hf1 hf2
        go_wp2_with fail
        go_roundw
        case rel =>
          refine ⟨j + 1, acc ++ [s[p + 1 + j]], by go_num, by omega, hown2, by simp; omega, ?_, hfr2⟩
          have := HD.out
          show _ = _
          rw [← this, Option.map_map, show p + 1 + (j + 1) = p + 1 + j + 1 from by omega]; congr 1; funext x; simp; omega
        case measure => simp [intOf]; omega
    · have hcl : decide (((p : Int) + 1 + (j : Int)) < (s.size : Int)) = false := by simp; omega
      have hd := hg.out
      rw [drop_end s (p + 1 + j) (by omega)] at hd
      have hn : quoT (s.data.toList.drop (p + 1)) p = .error 18 := by rw [quoT, ← hd]; rfl
      have HN := Lib.hid hn
      clear hn hd hg
      go_wp2_with fail
      have h3 := put3 hb1 (.int .i64 0) (.string ⟨#[]⟩) (.int .i64 0)
      have hb3 := below3 (hbel0.trans ((hfr.below (by omega)).mono (Nat.le_succ B))) (.int .i64 0) (.string ⟨#[]⟩) (.int .i64 0)
      exact bodyPost_ret (v := tokRes (.error 18)) (by simp [tokRes, tk0, results, Try.f25, go_sem, h3.cell]) rfl ⟨by rw [HN.out], by rw [← HB.out]; exact hb3⟩
end Go.Proofs.Ytalbmipncoohdaa
