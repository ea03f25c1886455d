/-
  Walk: one token, in the reference.
-/
import Derived.Test.YtalbmipncoohdaaX9
namespace Go.Proofs.Ytalbmipncoohdaa
open Go.RowKit

/-- What the reference's token promises. -/
def TokOk (r : Except Nat (Tk × Nat)) (e : Ending) : Prop :=
  ∃ (t : Tk) (q : Nat), e = .returned (.tuple #[tkV t, .int .i64 q, .int .i64 (errOf r : Nat)]) ∧ ∀ x, r = .ok x → x = (t, q)

theorem numT_ok (u : List UInt8) (p : Nat) (x : Tk × Nat) (h : numT u p = .ok x) : x = (⟨1, u.take (runN dig u), p⟩, p + runN dig u) := by
  unfold numT at h
  split at h
  · cases h
  · rename_i n hn
    have := numR_run _ _ _ hn
    subst this
    split at h
    · cases h
    · cases h; rfl
theorem quoT_ok (u : List UInt8) (p : Nat) (x : Tk × Nat) (h : quoT u p = .ok x) : x.1 = ⟨2, x.1.text, p⟩ := by
  unfold quoT at h
  split at h
  · cases h
  · split at h
    · cases h
    · cases h; rfl
theorem errOf_tok (l : List UInt8) (p : Nat) (h : errOf (tokP l p) = 0) : ∃ x, tokP l p = .ok x := by
  cases hk : tokP l p with
  | ok x => exact ⟨x, rfl⟩
  | error e =>
    rw [hk] at h
    have h : e = 0 := h
    subst h
    unfold tokP at hk
    split at hk
    · cases hk
    · split at hk
      · unfold numT at hk
        split at hk
        · cases hk
        · split at hk <;> cases hk
      · split at hk
        · unfold nameT at hk
          split at hk <;> cases hk
        · split at hk
          · unfold quoT at hk
            split at hk
            · cases hk
            · split at hk <;> cases hk
          · unfold opT at hk
            split at hk <;> cases hk

set_option maxRecDepth 100000 in
set_option maxHeartbeats 4000000 in
theorem rtoken_any (s : ByteArray) (p : Nat) (w : World) (hp : p < s.size) (hs : s.size < 1000000) :
    Calls Try.prog 20 #[.string s, .int .i64 p] w fun e w' => TokOk (tokP s.data.toList p) e ∧ Below w.heap.size w w' := by
  have hdr := drop_at s p hp
  have hb := (s[p]).toNat_lt
  have hul : (s.data.toList.drop p).length = s.size - p := by simp
  have htk : Hid (tokP s.data.toList p = if dig s[p] then numT (s.data.toList.drop p) p else if let8 s[p] then nameT (s.data.toList.drop p) p else if (s[p]).toNat = 34 then quoT (s.data.toList.drop (p + 1)) p else opT (s.data.toList.drop p) p) := by
    show _ = _
    rw [tokP, hdr]
  go_enter Try.func20, Try.ntmps20
  go_wp2_with fail
  have hblk := Blk.new w 30 #[.int .i64 0, .string ⟨#[]⟩, .int .i64 0]
  have hbel0 : Below w.heap.size w (w.alloc (.cells #[.int .i64 0, .string ⟨#[]⟩, .int .i64 0] 30)) := (Below.refl _ _).alloc (Nat.le_refl _) _
  have hsz : (w.alloc (.cells #[.int .i64 0, .string ⟨#[]⟩, .int .i64 0] 30)).heap.size = w.heap.size + 1 := by simp
  generalize w.alloc (.cells #[.int .i64 0, .string ⟨#[]⟩, .int .i64 0] 30) = w1 at *
  obtain ⟨B, hB⟩ : ∃ B, B = w.heap.size := ⟨_, rfl⟩
  rw [← hB] at hblk hbel0 hsz ⊢
  have HB := Lib.hid hB
  clear hB
  have hc0 := hblk.cell 0
  have hc1 := hblk.cell 1
  have hc2 := hblk.cell 2
  have hf0 := hblk.frozen 0
  have hf1 := hblk.frozen 1
  have hf2 := hblk.frozen 2
  refine (rdigit_any _ _).mono ?_
  rintro e w2 ⟨rfl, rfl⟩
  by_cases hdig : dig s[p] = true
  · rw [hdig]
    go_wp2_with fail
    refine (rnumber_any s p _ (by omega) hs).mono ?_
    rintro e w2 ⟨rfl, rfl⟩
    have ht := htk.out
    rw [if_pos hdig] at ht
    have HT := Lib.hid ht
    clear htk ht
    have hrl := runN_le dig (s.data.toList.drop p)
    have hok := numT_ok (s.data.toList.drop p) p
    have hx := extract_take s p (runN dig (s.data.toList.drop p))
    rw [hul] at hrl
    generalize numT (s.data.toList.drop p) p = r at *
    generalize runN dig (s.data.toList.drop p) = n at *
    have HX := Lib.hid hx
    generalize (s.data.toList.drop p).take n = U at *
    have HOK := Lib.hid hok
    clear hok hx
    go_wp2_with fail
    rw [HX.out]
    have h3 := put3 hblk (.int .i64 1) (.string ⟨U.toArray⟩) (.int .i64 p)
    have hb3 := below3 hbel0 (.int .i64 1) (.string ⟨U.toArray⟩) (.int .i64 p)
    refine bodyPost_ret (v := .tuple #[tkV ⟨1, U, p⟩, .int .i64 ((p + n : Nat) : Int), .int .i64 (errOf r : Nat)]) (by simp [tkV, results, Try.f20, go_sem, h3.cell]) rfl ⟨⟨_, _, by rw [HT.out], ?_⟩, by rw [← HB.out]; exact hb3⟩
    intro x hx
    rw [HT.out] at hx
    exact HOK.out x hx
  rw [Bool.eq_false_iff.2 hdig]
  go_wp2_with fail
  refine (rletter_any _ _).mono ?_
  rintro e w2 ⟨rfl, rfl⟩
  by_cases hlet : let8 s[p] = true
  · rw [hlet]
    have ht := htk.out
    rw [if_neg hdig, if_pos hlet] at ht
    have HT := Lib.hid ht
    clear htk ht
    go_wp2_with fail
    go_loop [10] (fun ve => ∃ (k : Nat), ve = .int .i64 ((p + k : Nat) : Int) ∧ p + k ≤ s.size ∧
        Hid (wordN (s.data.toList.drop (p + k)) + k = wordN (s.data.toList.drop p))) (fun ve => s.size - (intOf ve).toNat)
    case atStart => exact ⟨0, rfl, by omega, by show _ = _; simp⟩
    case round =>
      obtain ⟨k, rfl, hk, hrn⟩ := hrel
      by_cases hlt : p + k < s.size
      · have hr0 := hrn.out
        rw [drop_at s (p + k) hlt, wordN, runN] at hr0
        have hb := (s[p + k]).toNat_lt
        have hcl : decide (((p : Int) + (k : Int)) < (s.size : Int)) = true := by simp; omega
        by_cases hl : let8 (s[p + k]) = true
        · rw [if_pos (by simp [hl])] at hr0
          have HR := Lib.hid hr0
          clear hr0 hrn
          go_wp2_with fail
          refine (rletter_any _ _).mono ?_
          rintro e w2 ⟨rfl, rfl⟩
          rw [hl]
          go_wp2_with fail
          refine ⟨⟨k + 1, by go_num, by omega, ?_⟩, ?_⟩
          · show _ = _; have := HR.out; rw [wordN, ← Nat.add_assoc p k 1]; omega
          · simp [intOf]; omega
        · have hl' := Bool.eq_false_iff.2 hl
          by_cases hdig2 : dig (s[p + k]) = true
          · rw [if_pos (by simp [hdig2])] at hr0
            have HR := Lib.hid hr0
            clear hr0 hrn
            go_wp2_with fail
            refine (rletter_any _ _).mono ?_
            rintro e w2 ⟨rfl, rfl⟩
            rw [hl']
            go_wp2_with fail
            refine (rdigit_any _ _).mono ?_
            rintro e w2 ⟨rfl, rfl⟩
            rw [hdig2]
            go_wp2_with fail
            refine ⟨⟨k + 1, by go_num, by omega, ?_⟩, ?_⟩
            · show _ = _; have := HR.out; rw [wordN, ← Nat.add_assoc p k 1]; omega
            · simp [intOf]; omega
          · rw [if_neg (by simp [hdig2, hl])] at hr0
            have HR := Lib.hid hr0
            clear hr0 hrn
            go_wp2_with fail
            refine (rletter_any _ _).mono ?_
            rintro e w2 ⟨rfl, rfl⟩
            rw [hl']
            go_wp2_with fail
            refine (rdigit_any _ _).mono ?_
            rintro e w2 ⟨rfl, rfl⟩
            rw [Bool.eq_false_iff.2 hdig2]
            have hN : wordN (s.data.toList.drop p) = k := by have := HR.out; omega
            have HN := Lib.hid hN
            have hx := extract_take s p k
            have HX := Lib.hid hx
            generalize hU : (s.data.toList.drop p).take k = U at *
            have HU := Lib.hid hU
            clear hN HR hx hU
            by_cases h32 : 32 < k
            · have hg : decide ((32 : Int) < (k : Int)) = true := by simp; omega
              have HT2 : Hid (tokP s.data.toList p = .error 13) := by show _ = _; rw [HT.out, nameT, HN.out, if_pos h32]
              go_wp2_with fail
              have h3 := put3 hblk (.int .i64 0) (.string ⟨#[]⟩) (.int .i64 0)
              have hb3 := below3 hbel0 (.int .i64 0) (.string ⟨#[]⟩) (.int .i64 0)
              refine bodyPost_ret (v := .tuple #[tkV ⟨0, [], 0⟩, .int .i64 ((p + k : Nat) : Int), .int .i64 13]) (by simp [tkV, results, Try.f20, go_sem, h3.cell]) rfl ⟨⟨_, _, by rw [HT2.out]; rfl, ?_⟩, by rw [← HB.out]; exact hb3⟩
              intro x hx
              rw [HT2.out] at hx
              cases hx
            have hg : decide ((32 : Int) < (k : Int)) = false := by simp; omega
            go_wp2_with fail
            rw [HX.out]
            refine (rreserved_any _ _).mono ?_
            rintro e w2 ⟨rfl, rfl⟩
            have he : (⟨U.toArray⟩ : ByteArray).data.toList = U := rfl
            rw [he]
            by_cases hrv : resv U = true
            · rw [hrv]
              have HT2 : Hid (tokP s.data.toList p = .ok (⟨5, U, p⟩, p + k)) := by show _ = _; rw [HT.out, nameT, HN.out, if_neg h32, HU.out]; simp [hrv]
              go_wp2_with fail
              rw [HX.out]
              have h3 := put3 hblk (.int .i64 5) (.string ⟨U.toArray⟩) (.int .i64 p)
              have hb3 := below3 hbel0 (.int .i64 5) (.string ⟨U.toArray⟩) (.int .i64 p)
              refine bodyPost_ret (v := .tuple #[tkV ⟨5, U, p⟩, .int .i64 ((p + k : Nat) : Int), .int .i64 0]) (by simp [tkV, results, Try.f20, go_sem, h3.cell]) rfl ⟨⟨_, _, by rw [HT2.out]; rfl, ?_⟩, by rw [← HB.out]; exact hb3⟩
              intro x hx
              rw [HT2.out] at hx
              cases hx
              rfl
            · rw [Bool.eq_false_iff.2 hrv]
              have HT2 : Hid (tokP s.data.toList p = .ok (⟨3, U, p⟩, p + k)) := by show _ = _; rw [HT.out, nameT, HN.out, if_neg h32, HU.out]; simp [hrv]
              go_wp2_with fail
              rw [HX.out]
              have h3 := put3 hblk (.int .i64 3) (.string ⟨U.toArray⟩) (.int .i64 p)
              have hb3 := below3 hbel0 (.int .i64 3) (.string ⟨U.toArray⟩) (.int .i64 p)
              refine bodyPost_ret (v := .tuple #[tkV ⟨3, U, p⟩, .int .i64 ((p + k : Nat) : Int), .int .i64 0]) (by simp [tkV, results, Try.f20, go_sem, h3.cell]) rfl ⟨⟨_, _, by rw [HT2.out]; rfl, ?_⟩, by rw [← HB.out]; exact hb3⟩
              intro x hx
              rw [HT2.out] at hx
              cases hx
              rfl
      · have hcl : decide (((p : Int) + (k : Int)) < (s.size : Int)) = false := by simp; omega
        have hr0 := hrn.out
        rw [drop_end s (p + k) (by omega), wordN, runN] at hr0
        have HR := Lib.hid hr0
        clear hr0 hrn
        have hN : wordN (s.data.toList.drop p) = k := by have := HR.out; omega
        have HN := Lib.hid hN
        have hx := extract_take s p k
        have HX := Lib.hid hx
        generalize hU : (s.data.toList.drop p).take k = U at *
        have HU := Lib.hid hU
        clear hN HR hx hU
        by_cases h32 : 32 < k
        · have hg : decide ((32 : Int) < (k : Int)) = true := by simp; omega
          have HT2 : Hid (tokP s.data.toList p = .error 13) := by show _ = _; rw [HT.out, nameT, HN.out, if_pos h32]
          go_wp2_with fail
          have h3 := put3 hblk (.int .i64 0) (.string ⟨#[]⟩) (.int .i64 0)
          have hb3 := below3 hbel0 (.int .i64 0) (.string ⟨#[]⟩) (.int .i64 0)
          refine bodyPost_ret (v := .tuple #[tkV ⟨0, [], 0⟩, .int .i64 ((p + k : Nat) : Int), .int .i64 13]) (by simp [tkV, results, Try.f20, go_sem, h3.cell]) rfl ⟨⟨_, _, by rw [HT2.out]; rfl, ?_⟩, by rw [← HB.out]; exact hb3⟩
          intro x hx
          rw [HT2.out] at hx
          cases hx
        have hg : decide ((32 : Int) < (k : Int)) = false := by simp; omega
        go_wp2_with fail
        rw [HX.out]
        refine (rreserved_any _ _).mono ?_
        rintro e w2 ⟨rfl, rfl⟩
        have he : (⟨U.toArray⟩ : ByteArray).data.toList = U := rfl
        rw [he]
        by_cases hrv : resv U = true
        · rw [hrv]
          have HT2 : Hid (tokP s.data.toList p = .ok (⟨5, U, p⟩, p + k)) := by show _ = _; rw [HT.out, nameT, HN.out, if_neg h32, HU.out]; simp [hrv]
          go_wp2_with fail
          rw [HX.out]
          have h3 := put3 hblk (.int .i64 5) (.string ⟨U.toArray⟩) (.int .i64 p)
          have hb3 := below3 hbel0 (.int .i64 5) (.string ⟨U.toArray⟩) (.int .i64 p)
          refine bodyPost_ret (v := .tuple #[tkV ⟨5, U, p⟩, .int .i64 ((p + k : Nat) : Int), .int .i64 0]) (by simp [tkV, results, Try.f20, go_sem, h3.cell]) rfl ⟨⟨_, _, by rw [HT2.out]; rfl, ?_⟩, by rw [← HB.out]; exact hb3⟩
          intro x hx
          rw [HT2.out] at hx
          cases hx
          rfl
        · rw [Bool.eq_false_iff.2 hrv]
          have HT2 : Hid (tokP s.data.toList p = .ok (⟨3, U, p⟩, p + k)) := by show _ = _; rw [HT.out, nameT, HN.out, if_neg h32, HU.out]; simp [hrv]
          go_wp2_with fail
          rw [HX.out]
          have h3 := put3 hblk (.int .i64 3) (.string ⟨U.toArray⟩) (.int .i64 p)
          have hb3 := below3 hbel0 (.int .i64 3) (.string ⟨U.toArray⟩) (.int .i64 p)
          refine bodyPost_ret (v := .tuple #[tkV ⟨3, U, p⟩, .int .i64 ((p + k : Nat) : Int), .int .i64 0]) (by simp [tkV, results, Try.f20, go_sem, h3.cell]) rfl ⟨⟨_, _, by rw [HT2.out]; rfl, ?_⟩, by rw [← HB.out]; exact hb3⟩
          intro x hx
          rw [HT2.out] at hx
          cases hx
          rfl
  rw [Bool.eq_false_iff.2 hlet]
  by_cases h34 : (s[p]).toNat = 34
  · have e34 : (((s[p]).toNat : Int) == 34) = true := by simp; omega
    go_wp2_with fail
    refine (rtext_any s p _ hp hs).mono ?_
    rintro e w2 ⟨⟨v, q, rfl, hv⟩, hb2⟩
    have ht := htk.out
    rw [if_neg hdig, if_neg hlet, if_pos h34] at ht
    have HT := Lib.hid ht
    have hqk := quoT_ok (s.data.toList.drop (p + 1)) p
    clear htk ht hc0 hc1 hc2 hf0 hf1 hf2
    generalize quoT (s.data.toList.drop (p + 1)) p = r at *
    have HV := Lib.hid hv
    have HQ := Lib.hid hqk
    clear hv hqk
    have hb1 := hblk.below hb2 (by omega)
    have hc0 := hb1.cell 0
    have hc1 := hb1.cell 1
    have hc2 := hb1.cell 2
    have hf0 := hb1.frozen 0
    have hf1 := hb1.frozen 1
    have hf2 := hb1.frozen 2
    have hbel2 := hbel0.trans (hb2.mono (by omega))
    go_wp2_with fail
    have h3 := put3 hb1 (.int .i64 2) (.string ⟨v.toArray⟩) (.int .i64 p)
    have hb3 := below3 hbel2 (.int .i64 2) (.string ⟨v.toArray⟩) (.int .i64 p)
    refine bodyPost_ret (v := .tuple #[tkV ⟨2, v, p⟩, .int .i64 (q : Int), .int .i64 (errOf r : Nat)]) (by simp [tkV, results, Try.f20, go_sem, h3.cell]) rfl ⟨⟨_, _, by rw [HT.out], ?_⟩, by rw [← HB.out]; exact hb3⟩
    intro x hx
    rw [HT.out] at hx
    obtain ⟨h1, h2⟩ := HV.out x hx
    have h4 := HQ.out x hx
    rw [h1] at h4
    exact Prod.ext h4 h2
  have e34 : (((s[p]).toNat : Int) == 34) = false := by simp; omega
  have ht := htk.out
  rw [if_neg hdig, if_neg hlet, if_neg h34, opT] at ht
  have HT := Lib.hid ht
  clear htk ht hc0 hc1 hc2 hf0 hf1 hf2
  go_wp2_with fail
  refine (roperator_any s p _ hp hs).mono ?_
  rintro e w2 ⟨rfl, hb2⟩
  have hb1 := hblk.below hb2 (by omega)
  have hc0 := hb1.cell 0
  have hc1 := hb1.cell 1
  have hc2 := hb1.cell 2
  have hf0 := hb1.frozen 0
  have hf1 := hb1.frozen 1
  have hf2 := hb1.frozen 2
  have hbel2 := hbel0.trans (hb2.mono (by omega))
  have hol : opR (s.data.toList.drop p) ≤ 2 := by unfold opR; split; · omega
                                                  · split <;> (try split) <;> omega
  have hlen : ((s.data.toList.drop p).take (opR (s.data.toList.drop p))).length = min (opR (s.data.toList.drop p)) (s.size - p) := by simp
  have hup : opR (s.data.toList.drop p) ≤ s.size - p := by
    rw [← hul]
    by_cases h2 : (s.data.toList.drop p).take 2 ∈ twos
    · have := twos_len _ h2
      rw [opR_two h2]; simp at this; simp; omega
    · rw [hdr] at h2 ⊢
      by_cases h1 : s[p] ∈ ones
      · rw [opR_one h2 h1]; simp
      · rw [opR_none h2 h1]; simp
  generalize hn : opR (s.data.toList.drop p) = n at *
  generalize hU : (s.data.toList.drop p).take n = U at *
  have HLEN : U.length = n := by omega
  clear hlen hU hn
  by_cases h0 : n = 0
  · subst h0
    obtain rfl : U = [] := List.eq_nil_of_length_eq_zero HLEN
    have HT2 : Hid (tokP s.data.toList p = .error 18) := HT.out
    clear HT
    go_wp2_with fail
    have h3 := put3 hb1 (.int .i64 0) (.string ⟨#[]⟩) (.int .i64 0)
    have hb3 := below3 hbel2 (.int .i64 0) (.string ⟨#[]⟩) (.int .i64 0)
    refine bodyPost_ret (v := .tuple #[tkV ⟨0, [], 0⟩, .int .i64 (p : Int), .int .i64 18]) (by simp [tkV, results, Try.f20, go_sem, h3.cell]) rfl ⟨⟨_, _, by rw [HT2.out]; rfl, ?_⟩, by rw [← HB.out]; exact hb3⟩
    intro x hx
    rw [HT2.out] at hx
    cases hx
  · have HT2 : Hid (tokP s.data.toList p = .ok (⟨4, U, p⟩, p + n)) := by show _ = _; rw [HT.out, if_neg h0]
    clear HT
    subst HLEN
    have hne : U.isEmpty = false := by
      cases U with
      | nil => exact absurd rfl h0
      | cons _ _ => rfl
    go_wp2_with fail
    have h3 := put3 hb1 (.int .i64 4) (.string ⟨U.toArray⟩) (.int .i64 p)
    have hb3 := below3 hbel2 (.int .i64 4) (.string ⟨U.toArray⟩) (.int .i64 p)
    refine bodyPost_ret (v := .tuple #[tkV ⟨4, U, p⟩, .int .i64 ((p + U.length : Nat) : Int), .int .i64 0]) (by simp [tkV, results, Try.f20, go_sem, h3.cell]) rfl ⟨⟨_, _, by rw [HT2.out]; rfl, ?_⟩, by rw [← HB.out]; exact hb3⟩
    intro x hx
    rw [HT2.out] at hx
    cases hx
    rfl
end Go.Proofs.Ytalbmipncoohdaa
