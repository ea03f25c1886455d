/-
  Walk: the reference function Fixed.
-/
import Derived.Test.YtppfjofaegbbjaaT11
namespace Go.Proofs.Ytppfjofaegbbjaa
open Go.RowKit

set_option maxRecDepth 100000 in
set_option maxHeartbeats 1000000 in
theorem rfixed_any (s : ByteArray) (w : World) (hs : s.size ≤ maxLen) :
    Calls Try.prog 13 #[.string s] w fun e w' => e = .returned (.string ⟨(fixed (s.data.toList.take 1048576)).toArray⟩) ∧ Below w.heap.size w w' := by
  have hin := rinput_any s w hs
  have hz := inp_size s
  have hl := inp_list s
  generalize inp s = t at *
  have HL := Lib.hid hl
  have HI := Lib.hid hin
  clear hl hin
  have hz' : t.size < 1000000000 := by omega
  have hln : Hid (t.data.toList.length = t.size) := by show _ = _; simp
  go_enter Try.func13, Try.ntmps13
  go_wp2_with fail
  refine HI.out.mono ?_
  rintro e w1 ⟨rfl, rfl⟩
  clear HI
  go_wp2_with fail
  have hw0 := wr_new (w := w) (T := 54) rfl
  have hb0 : Below w.heap.size w (w.alloc (.cells #[.slice none 0 0, .int .i64 0] 54)) := (Below.refl _ _).alloc (Nat.le_refl _) _
  obtain ⟨g, hg⟩ : ∃ g, g = w.heap.size := ⟨_, rfl⟩
  rw [← hg] at hw0 hb0 ⊢
  have HG := Lib.hid hg
  clear hg
  generalize w.alloc (.cells #[.slice none 0 0, .int .i64 0] 54) = wa at hw0 hb0 ⊢
  refine (rnumber_any _ g g [] _ _ (by omega) (by omega) (by omega) hw0 (by simp)).mono ?_
  rintro e w1 ⟨rfl, hw1, hf1⟩
  go_wp2_with fail
  refine (rnumber_any _ g g _ _ _ (by omega) (by omega) (by omega) hw1 (by simp [numBits])).mono ?_
  rintro e w2 ⟨rfl, hw2, hf2⟩
  have hbel : Below g w w2 := hb0.trans ((hf1.trans hf2).below (by have := hb0.size; have := HG.out; omega))
  clear hw0 hw1 hf1 hf2 hb0
  go_wp2_with fail
  go_loopw [4, 5, 6, 7, 8, 9] (fun vp _ _ _ _ _ wr => ∃ (p : Nat) (bs : List Bool), vp = .int .i64 p ∧ p ≤ t.size ∧ Wr 54 wr g g bs ∧
      Hid (bs ++ fixedGo t.data.toList (t.data.toList.length - p) p = numBits 1 1 ++ numBits 1 2 ++ fixedGo t.data.toList t.data.toList.length 0) ∧ bs.length ≤ 3 + 29 * p ∧ Below g w wr) (fun vp _ _ _ _ _ _ => t.size - (intOf vp).toNat)
  case atStart => exact ⟨0, _, rfl, Nat.zero_le _, hw2, rfl, by simp [numBits], hbel⟩
  case round =>
    clear hw2 hbel
    obtain ⟨p, bs, rfl, hp, hw, hbs, hlen, hbel⟩ := hrel
    by_cases hlt : p < t.size
    · go_wp2_with fail
      refine (rmatch_any _ t p hlt hz').mono ?_
      rintro e w4 ⟨rfl, n4, hn4⟩
      have hw4 : Wr 54 w4 g g bs := by rw [hn4]; exact hw.drewN n4
      have hbel4 : Below g w w4 := by rw [hn4]; exact ⟨hbel.os, hbel.tape, hbel.output, hbel.size, hbel.block⟩
      clear hn4 hw hbel
      have hok := matchP_ok t.data.toList p
      have htk := tok_pos t.data.toList p (by rw [hln.out]; exact hlt)
      have htb := tok_bits t.data.toList p
      have hte : Hid (tok t.data.toList p = if (matchP t.data.toList p).1 = 0 then (symBits (at8 t.data.toList p).toNat, 1) else (matchBits (matchP t.data.toList p).1 (matchP t.data.toList p).2, (matchP t.data.toList p).1)) := rfl
      have hstep := fixedGo_step t.data.toList p (by rw [hln.out]; exact hlt)
      rw [hln.out] at htk hok
      have hbs' : Hid (bs ++ (tok t.data.toList p).1 ++ fixedGo t.data.toList (t.data.toList.length - (p + (tok t.data.toList p).2)) (p + (tok t.data.toList p).2) = numBits 1 1 ++ numBits 1 2 ++ fixedGo t.data.toList t.data.toList.length 0) := by
        show _ = _
        rw [← hbs.out, hstep, List.append_assoc]
      clear hstep hbs
      generalize matchP t.data.toList p = nd at *
      generalize tok t.data.toList p = tk at *
      obtain ⟨n, d⟩ := nd
      obtain ⟨tb, tn⟩ := tk
      simp only at hok htk htb hte hbs'
      have HOK := Lib.hid hok
      clear hok
      by_cases hn0 : n = 0
      · subst hn0
        have hte' := hte.out
        rw [if_pos rfl] at hte'
        injection hte' with h1 h2
        have H1 := Lib.hid h1
        obtain rfl : tn = 1 := h2
        clear hte h1
        go_wp2_with fail
        have hbt := (t[p]).toNat_lt
        refine (rsymbol_any _ g g bs _ (by rw [wrap64_byte']; omega) (by rw [wrap64_byte']; omega) hw4 (by omega)).mono ?_
        rintro e w5 ⟨rfl, hw5, hf5⟩
        rw [wrap64_byte', Int.toNat_natCast] at hw5
        have hw6 : Wr 54 w5 g g (bs ++ tb) := by
          rw [H1.out, at8, ← byte_at t p hlt]
          exact hw5
        clear hw5
        go_wp2_with fail
        go_roundw
        case rel => exact ⟨p + 1, bs ++ tb, by go_num, by omega, hw6, hbs', by rw [List.length_append]; omega, hbel4.trans (hf5.below (by have := hbel4.size; have := HG.out; omega))⟩
        case measure => simp [intOf]; omega
      · have hne : ((n : Int) == 0) = false := by simp; omega
        obtain ⟨o1, o2, o3, o4, o5, o6, _⟩ := HOK.out hn0
        have hte' := hte.out
        rw [if_neg hn0] at hte'
        injection hte' with h1 h2
        have H1 := Lib.hid h1
        obtain rfl : tn = n := h2
        clear hte h1 HOK
        obtain ⟨a1, a2, a3, a4, a5⟩ := lenSym_ok tn o1 o2
        obtain ⟨b1, b2, b3, b4⟩ := distSym_ok d o4 o5
        clear a4 b3
        go_wp2_with fail
        refine (rlenSym_any tn _ o2).mono ?_
        rintro e w5 ⟨rfl, rfl⟩
        go_wp2_with fail
        refine (rsymbol_any _ g g bs _ (by omega) (by omega) hw4 (by omega)).mono ?_
        rintro e w1 ⟨rfl, hw1, hf1⟩
        have l1 := symBits_length (lenSym tn).1
        rw [Int.toNat_natCast] at hw1
        go_wp2_with fail
        refine (rnumber_any _ g g _ _ _ (by omega) (by omega) (by omega) hw1 (by rw [List.length_append]; omega)).mono ?_
        rintro e w2 ⟨rfl, hw2, hf2⟩
        rw [Int.toNat_natCast] at hw2
        go_wp2_with fail
        refine (rdistSym_any d _ o4 o5).mono ?_
        rintro e w3 ⟨rfl, rfl⟩
        go_wp2_with fail
        refine (rcode_any _ g g _ _ _ (by omega) (by omega) (by omega) hw2 (by simp only [List.length_append, numBits_length]; omega)).mono ?_
        rintro e w3 ⟨rfl, hw3, hf3⟩
        rw [Int.toNat_natCast] at hw3
        go_wp2_with fail
        refine (rnumber_any _ g g _ _ _ (by omega) (by omega) (by omega) hw3 (by simp only [List.length_append, numBits_length, codeBits_length]; omega)).mono ?_
        rintro e w6 ⟨rfl, hw6, hf6⟩
        rw [Int.toNat_natCast] at hw6
        have hf := hf1.trans (hf2.trans (hf3.trans hf6))
        have hw7 : Wr 54 w6 g g (bs ++ tb) := by
          have e1 : ((tn : Int) - ((lenSym tn).2.1 : Int)).toNat = tn - (lenSym tn).2.1 := by omega
          have e2 : ((d : Int) - ((distSym d).2.1 : Int)).toNat = d - (distSym d).2.1 := by omega
          rw [e1, e2] at hw6
          rw [H1.out]
          simp only [List.append_assoc] at hw6
          simp only [matchBits, List.append_assoc]
          exact hw6
        clear hw1 hw2 hw3 hw6 hf1 hf2 hf3 hf6 hw4
        go_wp2_with fail
        go_roundw
        case rel => exact ⟨p + tn, bs ++ tb, by go_num, by omega, hw7, hbs', by rw [List.length_append]; omega, hbel4.trans (hf.below (by have := hbel4.size; have := HG.out; omega))⟩
        case measure => simp [intOf]; omega
    · go_wp2_with fail
      refine (rsymbol_any _ g g bs _ (by omega) (by omega) hw (by omega)).mono ?_
      rintro e w5 ⟨rfl, ⟨v5, hb5, hr5, _⟩, hf5⟩
      have hbel5 := hbel.trans (hf5.below (by have := hbel.size; have := HG.out; omega))
      have hc5 := hb5.cell 0
      simp at hc5
      have hcv := run_str_of Try.underlying37 Try.underlying5 Try.underlying9 hr5
      clear hr5
      have hfin : Hid (pack (bs ++ symBits 256) = fixed (s.data.toList.take 1048576)) := by
        show _ = _
        have h1 := hbs.out
        rw [fixedGo_end _ _ (by rw [hln.out]; omega), List.append_nil] at h1
        rw [h1, fixed, fixedBits, HL.out]
      go_wp2
      go_ret
      rw [HG.out] at hbel5
      refine ⟨?_, hbel5⟩
      rw [← hfin.out]
      rfl
end Go.Proofs.Ytppfjofaegbbjaa
