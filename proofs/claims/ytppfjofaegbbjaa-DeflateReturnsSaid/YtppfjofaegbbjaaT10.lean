/-
  Walk: deflate.Fixed returns the packed bits of the plain definition, for every string.
-/
import Derived.Test.YtppfjofaegbbjaaT9
namespace Go.Proofs.Ytppfjofaegbbjaa
open Go.RowKit

theorem wr_new {w : World} {T : TypeId} {g : Nat} (hg : g = w.heap.size) : Wr T (w.alloc (.cells #[.slice none 0 0, .int .i64 0] T)) w.heap.size g [] := by
  subst hg
  exact ⟨.slice none 0 0, Blk.new w T _, by rw [pack_nil]; exact World.ownsRow_nil _ _ _ _, Nat.le_refl _⟩

theorem Wr.fr {T : TypeId} {w w' : World} {B g B' : Nat} {bs : List Bool} {L : List TypeId} (h : Wr T w B g bs) (hf : Fr B' L w w') (h1 : T ∉ L) (h2 : 5 ∉ L) : Wr T w' B g bs := by
  obtain ⟨v, a, b, c⟩ := h
  exact ⟨v, hf.blk a h1, hf.owns b h2, c⟩
theorem Wr.drewN {T : TypeId} {w : World} {B g : Nat} {bs : List Bool} (h : Wr T w B g bs) (n : Nat) : Wr T (w.drewN n) B g bs := h

/-- The input: at most 1048576 bytes. -/
def inp (s : ByteArray) : ByteArray := s.extract 0 (min s.size 1048576)
theorem inp_size (s : ByteArray) : (inp s).size ≤ 1048576 := by unfold inp; rw [ByteArray.size_extract]; omega
theorem inp_list (s : ByteArray) : (inp s).data.toList = s.data.toList.take 1048576 := by
  unfold inp
  rw [extract_list, List.drop_zero]
  by_cases h : s.size ≤ 1048576
  · rw [Nat.min_eq_left h, List.take_of_length_le (by simp), List.take_of_length_le (by simpa using h)]
  · rw [Nat.min_eq_right (by omega)]

set_option maxRecDepth 100000 in
set_option maxHeartbeats 1000000 in
theorem fixed_any (s : ByteArray) (w : World) (hs : s.size ≤ maxLen) :
    Calls Try.prog 12 #[.string s] w fun e w' => e = .returned (.string ⟨(fixed (s.data.toList.take 1048576)).toArray⟩) ∧ Below w.heap.size w w' := by
  have hin := input_any s w hs
  have hz := inp_size s
  have hl := inp_list s
  change Calls _ _ _ _ (fun e w' => e = .returned (.string (inp s)) ∧ w = w') at hin
  generalize inp s = t at *
  have HL := Lib.hid hl
  have HI := Lib.hid hin
  clear hl hin
  obtain ⟨n, hn⟩ : ∃ n, n = t.size := ⟨_, rfl⟩
  have hz' : t.size < 1000000000 := by omega
  have hln : Hid (t.data.toList.length = t.size) := by show _ = _; simp
  go_enter Try.func12, Try.ntmps12
  go_wp2_with fail
  refine HI.out.mono ?_
  rintro e w1 ⟨rfl, rfl⟩
  clear HI
  go_wp2_with fail
  have hw0 := wr_new (w := w) (T := 46) rfl
  have hb0 : Below w.heap.size w (w.alloc (.cells #[.slice none 0 0, .int .i64 0] 46)) := (Below.refl _ _).alloc (Nat.le_refl _) _
  obtain ⟨g, hg⟩ : ∃ g, g = w.heap.size := ⟨_, rfl⟩
  rw [← hg] at hw0 hb0 ⊢
  have HG := Lib.hid hg
  clear hg
  generalize w.alloc (.cells #[.slice none 0 0, .int .i64 0] 46) = wa at hw0 hb0 ⊢
  refine (dnumber_any _ g g [] _ _ (by omega) (by omega) (by omega) hw0 (by simp)).mono ?_
  rintro e w1 ⟨rfl, hw1, hf1⟩
  go_wp2_with fail
  refine (dnumber_any _ g g _ _ _ (by omega) (by omega) (by omega) hw1 (by simp [numBits])).mono ?_
  rintro e w2 ⟨rfl, hw2, hf2⟩
  go_wp2_with fail
  refine (newFinder_any _ t hz').mono ?_
  rintro e w3 ⟨⟨N, f, hd, pv, rfl, hF⟩, hb3⟩
  have hw3 := hw2.fr (Fr.of_below (B := 0) hb3 []) (by simp) (by simp)
  have hB : g ≤ w2.heap.size := by have := hb0.size; have := hf1.size; have := hf2.size; have := HG.out; omega
  have hbel : Below g w w3 := (hb0.trans ((hf1.trans hf2).below (by have := hb0.size; have := HG.out; omega))).trans (hb3.mono hB)
  clear hw0 hw1 hw2 hf1 hf2 hb3 hb0 hn
  generalize w2.heap.size = B2 at *
  go_wp2_with fail
  go_loopw [5, 6, 7] (fun vp _ _ wr => ∃ (p : Nat) (bs : List Bool), vp = .int .i64 p ∧ p ≤ t.size ∧ Wr 46 wr g g bs ∧ Fd wr B2 N f hd pv t p ∧
      Hid (bs ++ fixedGo t.data.toList (t.data.toList.length - p) p = numBits 1 1 ++ numBits 1 2 ++ fixedGo t.data.toList t.data.toList.length 0) ∧ bs.length ≤ 3 + 29 * p ∧ Below g w wr) (fun vp _ _ _ => t.size - (intOf vp).toNat)
  case atStart => exact ⟨0, _, rfl, Nat.zero_le _, hw3, hF, rfl, by simp [numBits], hbel⟩
  case round =>
    clear hw3 hF hbel
    obtain ⟨p, bs, rfl, hp, hw, hF, hbs, hlen, hbel⟩ := hrel
    by_cases hlt : p < t.size
    · go_wp2_with fail
      refine (longest_any _ _ _ _ _ _ t p hF hlt hz').mono ?_
      rintro e w4 ⟨rfl, n4, hn4⟩
      have hF4 := hF.eq_drewN ⟨n4, hn4⟩
      have hw4 : Wr 46 w4 g g bs := by rw [hn4]; exact hw.drewN n4
      have hbel4 : Below g w w4 := by rw [hn4]; exact ⟨hbel.os, hbel.tape, hbel.output, hbel.size, hbel.block⟩
      clear hn4 hF hw hbel
      have hok := matchP_ok t.data.toList p
      have htk := tok_pos t.data.toList p (by rw [hln.out]; exact hlt)
      have htb := tok_bits t.data.toList p
      have hte : Hid (tok t.data.toList p = if (matchP t.data.toList p).1 = 0 then (symBits (at8 t.data.toList p).toNat, 1) else (matchBits (matchP t.data.toList p).1 (matchP t.data.toList p).2, (matchP t.data.toList p).1)) := rfl
      have hstep := fixedGo_step t.data.toList p (by rw [hln.out]; exact hlt)
      rw [hln.out] at htk hok
      have hbs' : Hid (bs ++ (tok t.data.toList p).1 ++ fixedGo t.data.toList (t.data.toList.length - (p + (tok t.data.toList p).2)) (p + (tok t.data.toList p).2) = numBits 1 1 ++ numBits 1 2 ++ fixedGo t.data.toList t.data.toList.length 0) := by
        show _ = _
        rw [← hbs.out, hstep, List.append_assoc]
      clear hstep hbs
      generalize matchP t.data.toList p = nd at *
      generalize tok t.data.toList p = tk at *
      obtain ⟨n, d⟩ := nd
      obtain ⟨tb, tn⟩ := tk
      simp only at hok htk htb hte hbs'
      have HOK := Lib.hid hok
      clear hok
      go_upto_if 29 with (fail)
      go_cut [6, 7] (fun vn _ wx => vn = .int .i64 tn ∧ Wr 46 wx g g (bs ++ tb) ∧ Fd wx B2 N f hd pv t p ∧ Below g w wx)
      case first =>
        by_cases hn0 : n = 0
        · subst hn0
          have hte' := hte.out
          rw [if_pos rfl] at hte'
          have HE := Lib.hid hte'
          clear hte hte'
          go_wp2_with fail
          have hbt := (t[p]).toNat_lt
          refine (dsymbol_any _ g g bs _ (by rw [wrap64_byte']; omega) (by rw [wrap64_byte']; omega) hw4 (by omega)).mono ?_
          rintro e w5 ⟨rfl, hw5, hf5⟩
          go_wp2_with fail
          go_meet
          have he := HE.out
          injection he with h1 h2
          refine ⟨by rw [h2]; rfl, ?_, hF4.fr hf5 (by decide) (by decide), hbel4.trans (hf5.below (by have := hbel4.size; have := HG.out; omega))⟩
          rw [wrap64_byte', Int.toNat_natCast] at hw5
          rw [h1, at8, ← byte_at t p hlt]
          exact hw5
        · have hne : ((n : Int) == 0) = false := by simp; omega
          obtain ⟨o1, o2, o3, o4, o5, o6, _⟩ := HOK.out hn0
          have hte' := hte.out
          rw [if_neg hn0] at hte'
          have HE := Lib.hid hte'
          clear hte hte'
          go_wp2_with fail
          refine (dmatch_any _ g g bs n d o1 o2 o4 o5 hw4 (by omega)).mono ?_
          rintro e w5 ⟨rfl, hw5, hf5⟩
          go_wp2_with fail
          go_meet
          have he := HE.out
          injection he with h1 h2
          refine ⟨by rw [h2], ?_, hF4.fr hf5 (by decide) (by decide), hbel4.trans (hf5.below (by have := hbel4.size; have := HG.out; omega))⟩
          rw [h1]
          exact hw5
      case rest =>
        clear hF4 hw4 hbel4 HOK hte
        obtain ⟨rfl, hw4, hF4, hbel4⟩ := hcut
        go_wp2_with fail
        obtain ⟨wo, rfl⟩ : ∃ wo : World, wo = wc := ⟨_, rfl⟩
        go_loopw [5, 41] (fun vp vk wi => ∃ k pk : Nat, vk = .int .i64 k ∧ vp = .int .i64 pk ∧ pk ≤ p + k ∧ p + k ≤ pk ∧ k ≤ tn ∧ Wr 46 wi g g (bs ++ tb) ∧ Fd wi B2 N f hd pv t pk ∧ Below g w wi) (fun _ vk _ => tn - (intOf vk).toNat)
        case atStart => exact ⟨0, p, rfl, rfl, Nat.le_refl _, Nat.le_refl _, Nat.zero_le _, hw4, hF4, hbel4⟩
        case round =>
          clear hw4 hF4 hbel4
          obtain ⟨k, pk, rfl, rfl, hpk1, hpk2, hk, hw5, hF5, hbel5⟩ := hrel
          by_cases hkn : k < tn
          · go_wp2_with fail
            refine (add_any _ _ _ _ _ _ t pk hF5 (by omega) hz').mono ?_
            rintro e w6 ⟨rfl, hF6, hf6⟩
            have hB2 : g ≤ wr.heap.size := by have := hbel5.size; have := HG.out; omega
            go_wp2_with fail
            go_roundw
            case rel => exact ⟨k + 1, pk + 1, by go_num, by go_num, by omega, by omega, by omega, hw5.fr hf6 (by decide) (by decide), hF6, hbel5.trans ((hf6.mono hB (fun _ h => h)).below hB2)⟩
            case measure => simp [intOf]; omega
          · obtain rfl : k = tn := by omega
            obtain rfl : pk = p + k := by omega
            go_wp2_with fail
            go_roundw
            case rel => exact ⟨p + k, bs ++ tb, by go_num, by omega, hw5, hF5, hbs', by rw [List.length_append]; omega, hbel5⟩
            case measure => simp [intOf]; omega
    · go_wp2_with fail
      refine (dsymbol_any _ g g bs _ (by omega) (by omega) hw (by omega)).mono ?_
      rintro e w5 ⟨rfl, ⟨v5, hb5, hr5, _⟩, hf5⟩
      have hbel5 := hbel.trans (hf5.below (by have := hbel.size; have := HG.out; omega))
      have hc5 := hb5.cell 0
      simp at hc5
      have hcv := run_str_of Try.underlying37 Try.underlying5 Try.underlying9 hr5
      clear hr5
      have hfin : Hid (pack (bs ++ symBits 256) = fixed (s.data.toList.take 1048576)) := by
        show _ = _
        have h1 := hbs.out
        rw [fixedGo_end _ _ (by rw [hln.out]; omega), List.append_nil] at h1
        rw [h1, fixed, fixedBits, HL.out]
      go_wp2
      go_ret
      rw [HG.out] at hbel5
      refine ⟨?_, hbel5⟩
      rw [← hfin.out]
      rfl
end Go.Proofs.Ytppfjofaegbbjaa
