/-
  Walk: strings in the reference.
-/
import Derived.Test.YtalbmipncoohdaaX5
namespace Go.Proofs.Ytalbmipncoohdaa
open Go.RowKit

theorem brow_empty (w : World) (e : TypeId) : BRow (w.alloc (.cells #[] e)) w.heap.size e (.slice (some ⟨w.heap.size, 0, none⟩) 0 0) [] :=
  World.ownsRow_made w #[] 0 (Nat.le_refl _) (Nat.zero_le _) rfl

/-- What the reference's parts promise: the error, and the token and its end where there is none. -/
def TextOk (r : Except Nat (Tk × Nat)) (v : List UInt8) (q : Nat) : Prop := ∀ x, r = .ok x → x.1.text = v ∧ x.2 = q

set_option maxRecDepth 100000 in
set_option maxHeartbeats 4000000 in
theorem rtext_any (s : ByteArray) (p : Nat) (w : World) (hp : p < s.size) (hs : s.size < 1000000) :
    Calls Try.prog 30 #[.string s, .int .i64 p] w fun e w' =>
      (∃ (v : List UInt8) (q : Nat), e = .returned (.tuple #[.string ⟨v.toArray⟩, .int .i64 q, .int .i64 (errOf (quoT (s.data.toList.drop (p + 1)) p) : Nat)]) ∧ TextOk (quoT (s.data.toList.drop (p + 1)) p) v q) ∧ Below w.heap.size w w' := by
  go_enter Try.func30, Try.ntmps30
  go_wp2_with fail
  have hr0 := brow_empty w 5
  have hb0 : Below w.heap.size w (w.alloc (.cells #[] 5)) := (Below.refl _ _).alloc (Nat.le_refl _) _
  obtain ⟨B, hB⟩ : ∃ B, B = w.heap.size := ⟨_, rfl⟩
  rw [← hB] at hr0 hb0 ⊢
  have hs0 : B ≤ (w.alloc (.cells #[] 5)).heap.size := by simp; omega
  have HB := Lib.hid hB
  clear hB
  go_loopw [1, 7, 8] (fun vk v _ wr => ∃ (j : Nat) (acc : List UInt8), vk = .int .i64 ((p + 1 + j : Nat) : Int) ∧ p + 1 + j ≤ s.size ∧ BRow wr B 5 v acc ∧ acc.length ≤ j ∧
      Hid ((quoR (s.data.toList.drop (p + 1 + j))).map (fun x => (acc ++ x.1, x.2 + j)) = quoR (s.data.toList.drop (p + 1))) ∧ Below B w wr ∧ B ≤ wr.heap.size) (fun vk _ _ _ => s.size - (intOf vk).toNat)
  case atStart => exact ⟨0, [], rfl, hp, hr0, Nat.zero_le _, by show _ = _; simp, hb0, hs0⟩
  case round =>
    obtain ⟨j, acc, rfl, hj, hown, hacc, hg, hbel, hszr⟩ := hrel
    clear hr0 hb0 hs0
    by_cases hlt : p + 1 + j < s.size
    · have hd := hg.out
      rw [drop_at s (p + 1 + j) hlt] at hd
      have hb := (s[p + 1 + j]).toNat_lt
      have hcl : decide ((s.size : Int) ≤ ((p + 1 + j : Nat) : Int)) = false := by simp; omega
      by_cases hbad : (s[p + 1 + j]).toNat < 32 ∨ 126 < (s[p + 1 + j]).toNat
      · rw [quoR_bad hbad] at hd
        have HN : Hid (quoT (s.data.toList.drop (p + 1)) p = .error 18) := by show _ = _; rw [quoT, ← hd]; rfl
        clear hd hg
        rcases hbad with hbad | hbad
        · have e32 : decide (((s[p + 1 + j]).toNat : Int) < 32) = true := by simp; omega
          go_wp2_with fail
          refine bodyPost_ret (v := .tuple #[.string ⟨#[]⟩, .int .i64 ((p + 1 + j : Nat) : Int), .int .i64 18]) (by simp [results, Try.f30, go_sem]; try omega) rfl ⟨⟨[], p + 1 + j, by rw [HN.out]; rfl, ?_⟩, by rw [← HB.out]; exact hbel⟩
          intro x hx
          rw [HN.out] at hx
          cases hx
        · have e32 : decide (((s[p + 1 + j]).toNat : Int) < 32) = false := by simp; omega
          have e126 : decide ((126 : Int) < ((s[p + 1 + j]).toNat : Int)) = true := by simp; omega
          go_wp2_with fail
          refine bodyPost_ret (v := .tuple #[.string ⟨#[]⟩, .int .i64 ((p + 1 + j : Nat) : Int), .int .i64 18]) (by simp [results, Try.f30, go_sem]; try omega) rfl ⟨⟨[], p + 1 + j, by rw [HN.out]; rfl, ?_⟩, by rw [← HB.out]; exact hbel⟩
          intro x hx
          rw [HN.out] at hx
          cases hx
      have e32 : decide (((s[p + 1 + j]).toNat : Int) < 32) = false := by simp; omega
      have e126 : decide ((126 : Int) < ((s[p + 1 + j]).toNat : Int)) = false := by simp; omega
      by_cases h34 : (s[p + 1 + j]).toNat = 34
      · have e34 : (((s[p + 1 + j]).toNat : Int) == 34) = true := by simp; omega
        rw [quoR_end h34] at hd
        have HD := Lib.hid hd
        clear hd hg
        by_cases hlen : 256 < acc.length
        · have HN : Hid (quoT (s.data.toList.drop (p + 1)) p = .error 3) := by show _ = _; rw [quoT, ← HD.out]; simp [hlen]
          obtain ⟨x7, c7, rfl⟩ := row_shape hown
          go_wp2_with fail
          refine bodyPost_ret (v := .tuple #[.string ⟨#[]⟩, .int .i64 ((p + 1 + j + 1 : Nat) : Int), .int .i64 3]) (by simp [results, Try.f30, go_sem]; try omega) rfl ⟨⟨[], p + 1 + j + 1, by rw [HN.out]; rfl, ?_⟩, by rw [← HB.out]; exact hbel⟩
          intro x hx
          rw [HN.out] at hx
          cases hx
        · have HN : Hid (quoT (s.data.toList.drop (p + 1)) p = .ok (⟨2, acc, p⟩, p + 1 + (1 + j))) := by show _ = _; rw [quoT, ← HD.out]; simp [hlen]
          obtain ⟨x7, c7, rfl⟩ := row_shape hown
          have hcv := run_str_of Try.underlying36 Try.underlying5 Try.underlying9 hown
          go_wp2_with fail
          refine bodyPost_ret (v := .tuple #[.string ⟨acc.toArray⟩, .int .i64 ((p + 1 + (1 + j) : Nat) : Int), .int .i64 0]) (by simp [results, Try.f30, go_sem]; try omega) rfl ⟨⟨acc, p + 1 + (1 + j), by rw [HN.out]; rfl, ?_⟩, by rw [← HB.out]; exact hbel⟩
          intro x hx
          rw [HN.out] at hx
          cases hx
          exact ⟨rfl, rfl⟩
      have e34 : (((s[p + 1 + j]).toNat : Int) == 34) = false := by simp; omega
      by_cases h92 : (s[p + 1 + j]).toNat = 92
      · have e92 : (((s[p + 1 + j]).toNat : Int) == 92) = true := by simp; omega
        by_cases hlt2 : p + 1 + j + 1 < s.size
        · have hb2 := (s[p + 1 + j + 1]).toNat_lt
          have hend : decide ((s.size : Int) ≤ ((p + 1 + j + 1 : Nat) : Int)) = false := by simp; omega
          rw [drop_at s (p + 1 + j + 1) hlt2] at hd
          by_cases k92 : (s[p + 1 + j + 1]).toNat = 92
          · have f92 : (((s[p + 1 + j + 1]).toNat : Int) != 92) = false := by simp; omega
            have f110 : (((s[p + 1 + j + 1]).toNat : Int) == 110) = false := by simp; omega
            rw [quoR_same h92 (.inl k92)] at hd
            have HD := Lib.hid hd
            clear hd hg
            go_wp2_with (at_builtin; refine wpList_app el_u8 hown hszr rfl rfl rfl (m := 0) rfl (by simp [Value.oneCell']) rfl (by omega) (by unfold maxLen; omega) ?_)
            intro r2 cap2 w2 ho2 hg2 _
            have hown2 := brow_more ho2 [s[p + 1 + j + 1]] (by simp [bcells, k92]) rfl
            obtain ⟨hbel2, hsz2⟩ := below_app hbel hszr hown hg2
            clear ho2 hg2 hown hbel hszr
            go_wp2_with fail
            go_roundw
            case rel =>
              refine ⟨j + 2, acc ++ [s[p + 1 + j + 1]], by go_num, by omega, hown2, by simp; omega, ?_, hbel2, hsz2⟩
              have := HD.out
              show _ = _
              rw [← this, Option.map_map, show p + 1 + (j + 2) = p + 1 + j + 1 + 1 from by omega]; congr 1; funext x; simp; omega
            case measure => simp [intOf]; omega
          have f92 : (((s[p + 1 + j + 1]).toNat : Int) != 92) = true := by simp; omega
          by_cases k34 : (s[p + 1 + j + 1]).toNat = 34
          · have f34 : (((s[p + 1 + j + 1]).toNat : Int) != 34) = false := by simp; omega
            have f110 : (((s[p + 1 + j + 1]).toNat : Int) == 110) = false := by simp; omega
            rw [quoR_same h92 (.inr k34)] at hd
            have HD := Lib.hid hd
            clear hd hg
            go_wp2_with (at_builtin; refine wpList_app el_u8 hown hszr rfl rfl rfl (m := 0) rfl (by simp [Value.oneCell']) rfl (by omega) (by unfold maxLen; omega) ?_)
            intro r2 cap2 w2 ho2 hg2 _
            have hown2 := brow_more ho2 [s[p + 1 + j + 1]] (by simp [bcells, k34]) rfl
            obtain ⟨hbel2, hsz2⟩ := below_app hbel hszr hown hg2
            clear ho2 hg2 hown hbel hszr
            go_wp2_with fail
            go_roundw
            case rel =>
              refine ⟨j + 2, acc ++ [s[p + 1 + j + 1]], by go_num, by omega, hown2, by simp; omega, ?_, hbel2, hsz2⟩
              have := HD.out
              show _ = _
              rw [← this, Option.map_map, show p + 1 + (j + 2) = p + 1 + j + 1 + 1 from by omega]; congr 1; funext x; simp; omega
            case measure => simp [intOf]; omega
          have f34 : (((s[p + 1 + j + 1]).toNat : Int) != 34) = true := by simp; omega
          by_cases k110 : (s[p + 1 + j + 1]).toNat = 110
          · have f110 : (((s[p + 1 + j + 1]).toNat : Int) == 110) = true := by simp; omega
            rw [quoR_line h92 k110] at hd
            have HD := Lib.hid hd
            clear hd hg
            go_wp2_with (at_builtin; refine wpList_app el_u8 hown hszr rfl rfl rfl (m := 0) rfl (by simp [Value.oneCell']) rfl (by omega) (by unfold maxLen; omega) ?_)
            intro r2 cap2 w2 ho2 hg2 _
            have hown2 := brow_more ho2 [10] (by simp [bcells]) rfl
            obtain ⟨hbel2, hsz2⟩ := below_app hbel hszr hown hg2
            clear ho2 hg2 hown hbel hszr
            go_wp2_with fail
            go_roundw
            case rel =>
              refine ⟨j + 2, acc ++ [10], by go_num, by omega, hown2, by simp; omega, ?_, hbel2, hsz2⟩
              have := HD.out
              show _ = _
              rw [← this, Option.map_map, show p + 1 + (j + 2) = p + 1 + j + 1 + 1 from by omega]; congr 1; funext x; simp; omega
            case measure => simp [intOf]; omega
          · have f110 : (((s[p + 1 + j + 1]).toNat : Int) == 110) = false := by simp; omega
            rw [quoR_wrong h92 k92 k34 k110] at hd
            have HN : Hid (quoT (s.data.toList.drop (p + 1)) p = .error 18) := by show _ = _; rw [quoT, ← hd]; rfl
            clear hd hg
            go_wp2_with fail
            refine bodyPost_ret (v := .tuple #[.string ⟨#[]⟩, .int .i64 ((p + 1 + j + 1 + 1 : Nat) : Int), .int .i64 18]) (by simp [results, Try.f30, go_sem]; try omega) rfl ⟨⟨[], p + 1 + j + 1 + 1, by rw [HN.out]; rfl, ?_⟩, by rw [← HB.out]; exact hbel⟩
            intro x hx
            rw [HN.out] at hx
            cases hx
        · have hend : decide ((s.size : Int) ≤ ((p + 1 + j + 1 : Nat) : Int)) = true := by simp; omega
          rw [drop_end s (p + 1 + j + 1) (by omega), quoR_cut h92] at hd
          have HN : Hid (quoT (s.data.toList.drop (p + 1)) p = .error 18) := by show _ = _; rw [quoT, ← hd]; rfl
          clear hd hg
          go_wp2_with fail
          refine bodyPost_ret (v := .tuple #[.string ⟨#[]⟩, .int .i64 ((p + 1 + j + 1 : Nat) : Int), .int .i64 18]) (by simp [results, Try.f30, go_sem]; try omega) rfl ⟨⟨[], p + 1 + j + 1, by rw [HN.out]; rfl, ?_⟩, by rw [← HB.out]; exact hbel⟩
          intro x hx
          rw [HN.out] at hx
          cases hx
      · have e92 : (((s[p + 1 + j]).toNat : Int) == 92) = false := by simp; omega
        rw [quoR_plain (by omega) (by omega) h34 h92] at hd
        have HD := Lib.hid hd
        clear hd hg
        go_wp2_with (at_builtin; refine wpList_app el_u8 hown hszr rfl rfl rfl (m := 0) rfl (by simp [Value.oneCell']) rfl (by omega) (by unfold maxLen; omega) ?_)
        intro r2 cap2 w2 ho2 hg2 _
        have hown2 := brow_more ho2 [s[p + 1 + j]] (by simp [bcells]) rfl
        obtain ⟨hbel2, hsz2⟩ := below_app hbel hszr hown hg2
        clear ho2 hg2 hown hbel hszr
        go_wp2_with fail
        go_roundw
        case rel =>
          refine ⟨j + 1, acc ++ [s[p + 1 + j]], by go_num, by omega, hown2, by simp; omega, ?_, hbel2, hsz2⟩
          have := HD.out
          show _ = _
          rw [← this, Option.map_map, show p + 1 + (j + 1) = p + 1 + j + 1 from by omega]; congr 1; funext x; simp; omega
        case measure => simp [intOf]; omega
    · have hcl : decide ((s.size : Int) ≤ ((p + 1 + j : Nat) : Int)) = true := by simp; omega
      have hd := hg.out
      rw [drop_end s (p + 1 + j) (by omega)] at hd
      have HN : Hid (quoT (s.data.toList.drop (p + 1)) p = .error 18) := by show _ = _; rw [quoT, ← hd]; rfl
      clear hd hg
      go_wp2_with fail
      refine bodyPost_ret (v := .tuple #[.string ⟨#[]⟩, .int .i64 ((p + 1 + j : Nat) : Int), .int .i64 18]) (by simp [results, Try.f30, go_sem]; try omega) rfl ⟨⟨[], p + 1 + j, by rw [HN.out]; rfl, ?_⟩, by rw [← HB.out]; exact hbel⟩
      intro x hx
      rw [HN.out] at hx
      cases hx
end Go.Proofs.Ytalbmipncoohdaa
