/-
  Walk: Lengths, in the reference.
-/
import Derived.Test.YtkbelkdephfhpaaI17
import Derived.Test.YtkbelkdephfhpaaJ1
namespace Go.Proofs.Ytkbelkdephfhpaa
open Go.RowKit

/-- The codes of at most m bits, and of the first i symbols those of m + 1 bits. -/
def coN (ls : List Nat) (m i : Nat) : List Nat := (List.range ls.length).map fun j => if 1 ≤ ls.getD j 0 ∧ (ls.getD j 0 ≤ m ∨ ls.getD j 0 = m + 1 ∧ j < i) then codC ls j else 0
theorem coN_length (ls : List Nat) (m i : Nat) : (coN ls m i).length = ls.length := by simp [coN]
theorem coN_start (ls : List Nat) : coN ls 0 0 = List.replicate ls.length 0 := by
  rw [List.eq_replicate_iff]
  refine ⟨coN_length _ _ _, fun b hb => ?_⟩
  obtain ⟨j, _, rfl⟩ := List.mem_map.1 hb
  rw [if_neg (by omega)]
theorem coN_next (ls : List Nat) (m : Nat) : coN ls m ls.length = coN ls (m + 1) 0 := by
  unfold coN
  apply List.map_congr_left
  intro j hj
  have hj := List.mem_range.1 hj
  have : (1 ≤ ls.getD j 0 ∧ (ls.getD j 0 ≤ m ∨ ls.getD j 0 = m + 1 ∧ j < ls.length)) ↔ (1 ≤ ls.getD j 0 ∧ (ls.getD j 0 ≤ m + 1 ∨ ls.getD j 0 = m + 1 + 1 ∧ j < 0)) := by omega
  simp only [this]
theorem coN_end (ls : List Nat) (h15 : ∀ n ∈ ls, n ≤ 15) : coN ls 15 0 = codL ls := by
  unfold coN codL
  apply List.map_congr_left
  intro j hj
  have hj := List.mem_range.1 hj
  have h := h15 ls[j] (List.getElem_mem hj)
  have e : ls.getD j 0 = ls[j] := by simp [List.getD, hj]
  unfold codZ
  by_cases h0 : ls.getD j 0 = 0
  · rw [if_neg (by omega), if_pos h0]
  · rw [if_pos (by omega), if_neg h0]
theorem coN_skip (ls : List Nat) (m i : Nat) (h : ls.getD i 0 ≠ m + 1) : coN ls m (i + 1) = coN ls m i := by
  unfold coN
  apply List.map_congr_left
  intro j _
  have : (1 ≤ ls.getD j 0 ∧ (ls.getD j 0 ≤ m ∨ ls.getD j 0 = m + 1 ∧ j < i + 1)) ↔ (1 ≤ ls.getD j 0 ∧ (ls.getD j 0 ≤ m ∨ ls.getD j 0 = m + 1 ∧ j < i)) := by
    constructor
    · rintro ⟨h1, h2 | ⟨h2, h3⟩⟩
      · exact ⟨h1, .inl h2⟩
      · by_cases e : j = i
        · subst e; exact absurd h2 h
        · exact ⟨h1, .inr ⟨h2, by omega⟩⟩
    · rintro ⟨h1, h2 | ⟨h2, h3⟩⟩
      · exact ⟨h1, .inl h2⟩
      · exact ⟨h1, .inr ⟨h2, by omega⟩⟩
  simp only [this]
theorem coN_take (ls : List Nat) (m i : Nat) (h : ls.getD i 0 = m + 1) : coN ls m (i + 1) = (coN ls m i).set i (codC ls i) := by
  apply List.ext_getElem
  · simp [coN]
  · intro j h1 h2
    have hj : j < ls.length := by rw [coN_length] at h1; exact h1
    rw [List.getElem_set]
    by_cases e : i = j
    · subst e
      rw [if_pos rfl]
      simp only [coN, List.getElem_map, List.getElem_range]
      rw [if_pos (by omega)]
    · rw [if_neg e]
      simp only [coN, List.getElem_map, List.getElem_range]
      have : (1 ≤ ls.getD j 0 ∧ (ls.getD j 0 ≤ m ∨ ls.getD j 0 = m + 1 ∧ j < i + 1)) ↔ (1 ≤ ls.getD j 0 ∧ (ls.getD j 0 ≤ m ∨ ls.getD j 0 = m + 1 ∧ j < i)) := by omega
      simp only [this]

set_option maxRecDepth 100000 in
set_option maxHeartbeats 8000000 in
theorem refLengths_any (v : Value) (L : List Int) (w : World) (hr : IReadZ w v L) :
    Calls Try.prog 15 #[v] w fun e w' => LenOk (lenP L) e w' ∧ Below w.heap.size w w' := by
  have hP : lenP L = if 288 < L.length then .error 3 else if badZ L then .error 4 else if 32768 < sumC (L.map Int.toNat) then .error 4 else .ok (codL (L.map Int.toNat)) := rfl
  obtain ⟨x, c, rfl, hc1, hc2, hcell⟩ := id hr
  unfold maxLen at hc2
  by_cases h288 : 288 < L.length
  · rw [if_pos h288] at hP
    have HE := Lib.hid hP
    have d1 : decide ((288 : Int) < (L.length : Int)) = true := by simp; omega
    clear hP
    go_enter Try.func15, Try.ntmps15
    go_wp2_with fail
    go_ret2
    refine ⟨?_, Below.refl _ _⟩
    rw [HE.out]; rfl
  rw [if_neg h288] at hP
  have d1 : decide ((288 : Int) < (L.length : Int)) = false := by simp; omega
  have HP := Lib.hid hP
  have hL288 : L.length ≤ 288 := by omega
  clear hP
  go_enter Try.func15, Try.ntmps15
  go_wp2_with fail
  go_loop [14] (fun vi => ∃ i : Nat, vi = .int .i64 i ∧ i ≤ L.length ∧ Hid (∀ y ∈ L.take i, 0 ≤ y ∧ y ≤ 15)) (fun vi => L.length - (intOf vi).toNat)
  case atStart => exact ⟨0, rfl, Nat.zero_le _, fun y h => by simp at h⟩
  case round =>
    obtain ⟨i, rfl, hi, hall⟩ := hrel
    by_cases hlt : i < L.length
    · have hne : L ≠ [] := by rintro rfl; simp at hlt
      have hd : decide ((i : Int) < (L.length : Int)) = true := by simp; omega
      obtain ⟨g, off, rfl, hcl⟩ := hcell hne
      have q := hcl i hlt
      have hmem := List.getElem_mem hlt
      obtain ⟨y, hy⟩ : ∃ y, L[i] = y := ⟨_, rfl⟩
      rw [hy] at q hmem
      by_cases hlo : y < 0
      · have d2 : decide (y < 0) = true := by simp; omega
        have hb : badZ L = true := List.any_eq_true.2 ⟨y, hmem, by simp [hlo]⟩
        have HE : Hid (lenP L = .error 4) := by show _ = _; rw [HP.out, if_pos hb]
        clear HP hcl hcell hr hy hmem hall hb
        go_wp2_with fail
        go_ret2
        refine ⟨?_, Below.refl _ _⟩
        rw [HE.out]; rfl
      have d2 : decide (y < 0) = false := by simp; omega
      by_cases hhi : 15 < y
      · have d3 : decide (15 < y) = true := by simp; omega
        have hb : badZ L = true := List.any_eq_true.2 ⟨y, hmem, by simp [hhi]⟩
        have HE : Hid (lenP L = .error 4) := by show _ = _; rw [HP.out, if_pos hb]
        clear HP hcl hcell hr hy hmem hall hb
        go_wp2_with fail
        go_ret2
        refine ⟨?_, Below.refl _ _⟩
        rw [HE.out]; rfl
      have d3 : decide (15 < y) = false := by simp; omega
      have HN : Hid (∀ y ∈ L.take (i + 1), 0 ≤ y ∧ y ≤ 15) := by
        intro z hz
        rw [List.take_succ_eq_append_getElem hlt, List.mem_append, List.mem_singleton] at hz
        rcases hz with hz | hz
        · exact hall.out z hz
        · rw [hz, hy]; omega
      clear HP hcl hcell hr hy hmem hall
      go_wp2_with fail
      go_round
      case rel => exact ⟨i + 1, by go_num, by omega, HN⟩
      case measure => simp [intOf]; omega
    · have hd : decide ((i : Int) < (L.length : Int)) = false := by simp; omega
      obtain rfl : i = L.length := by omega
      have hall2 : ∀ y ∈ L, 0 ≤ y ∧ y ≤ 15 := by
        have := hall.out
        rwa [List.take_of_length_le (Nat.le_refl _)] at this
      have hb : ¬ badZ L = true := by
        intro h
        obtain ⟨y, hm, hy⟩ := List.any_eq_true.1 h
        have := hall2 y hm
        simp at hy
        omega
      have hP := HP.out
      rw [if_neg hb] at hP
      have h0 : ∀ n ∈ L, 0 ≤ n := fun n hn => (hall2 n hn).1
      have hrn := hr.nat h0
      obtain ⟨ls, hls⟩ : ∃ ls, L.map Int.toNat = ls := ⟨_, rfl⟩
      rw [hls] at hP hrn
      have hll : L.length = ls.length := by rw [← hls]; simp
      have h15 : ∀ n ∈ ls, n ≤ 15 := by
        rw [← hls]
        intro n hn
        obtain ⟨y, hy, rfl⟩ := List.mem_map.1 hn
        have := (hall2 y hy).2
        omega
      have hl400 : ls.length ≤ 400 := by omega
      have hl288 : ls.length ≤ 288 := by omega
      rw [hll] at hrn hc1 hd ⊢
      have HP2 := Lib.hid hP
      clear HP hP hcell hr hall hall2 hb h0 hls hL288 h288 d1 hll
      have hss := sumC_le ls
      go_wp2_with fail
      refine (refSum_any _ ls _ hrn h15 hl400).mono ?_
      rintro e w1 ⟨rfl, rfl⟩
      have hP := HP2.out
      clear HP2
      obtain ⟨S, hS⟩ : ∃ S, sumC ls = S := ⟨_, rfl⟩
      rw [hS] at hP hss ⊢
      by_cases hfull : 32768 < S
      · rw [if_pos hfull] at hP
        have HE := Lib.hid hP
        have d2 : decide ((32768 : Int) < (S : Int)) = true := by simp; omega
        clear hP hfull hS
        go_wp2_with fail
        go_ret2
        refine ⟨?_, Below.refl _ _⟩
        rw [HE.out]; rfl
      rw [if_neg hfull] at hP
      have HE := Lib.hid hP
      have d2 : decide ((32768 : Int) < (S : Int)) = false := by simp; omega
      have hmk := run_mk el_int4 rfl ls.length (by omega) (by omega)
      have hS7 := Blk.new w 3 (mkRow (.int .i64 0) ls.length)
      have hb7 := (Below.refl w.heap.size w).alloc (Nat.le_refl _) (.cells (mkRow (.int .i64 0) ls.length) 3)
      have HS7 := Lib.hid hS7
      have HB7 := Lib.hid hb7
      clear hP hfull hS hS7 hb7
      go_upto_region 12 with fail
      have hS7 := HS7.out
      have hb7 := HB7.out
      clear HS7 HB7 hmk d2
      generalize w.alloc (.cells (mkRow (.int .i64 0) ls.length) 3) = w7 at hS7 hb7 ⊢
      rw [rowA_new, ← coN_start] at hS7
      obtain ⟨B, hB⟩ : ∃ k, w.heap.size = k := ⟨_, rfl⟩
      rw [hB] at hS7 hb7 ⊢
      have HB := Lib.hid hB
      clear hB
      go_wp2_with fail
      go_loopw [6, 7] (fun v6 v7 ws => ∃ m : Nat, v7 = .int .i64 ((m : Int) + 1) ∧ m ≤ 15 ∧ v6 = .int .i64 (endC ls m : Nat) ∧ Blk ws B 3 (rowA (coN ls m 0)) ∧ Below B w ws) (fun _ v7 _ => 20 - (intOf v7).toNat)
      case atStart => exact ⟨0, rfl, Nat.zero_le _, rfl, hS7, hb7⟩
      case round =>
        clear hS7 hb7
        obtain ⟨m, rfl, hm, rfl, hSr, hbr⟩ := hrel
        by_cases hlt : m < 15
        · have hd : decide ((m : Int) + 1 ≤ 15) = true := by simp; omega
          have hend := endC_small ls (m + 1) hl400 (by omega)
          have HE1 : Hid (endC ls (m + 1) = fstC ls (m + 1) + cntC ls (m + 1)) := rfl
          have HF : Hid (fstC ls (m + 1) = 2 * endC ls m) := rfl
          have hem : 2 * endC ls m ≤ 26214400 := by rw [← HF.out]; have := HE1.out; omega
          obtain ⟨F, hF⟩ : ∃ F, F = 2 * endC ls m := ⟨_, rfl⟩
          have e1 : 2 * (endC ls m : Int) = (F : Int) := by omega
          have HFF : Hid (fstC ls (m + 1) = F) := by show _ = _; rw [HF.out, hF]
          have HEM : Hid (∃ E, endC ls m = E) := ⟨_, rfl⟩
          generalize endC ls m = E at *
          have hFb : F ≤ 26214400 := by omega
          have hce : F + cntC ls (m + 1) ≤ 26214400 := by rw [← HFF.out, ← HE1.out]; exact hend
          clear hend HF hF hem HEM
          go_wp2_with fail
          go_loopw [6, 44] (fun v6 vi wt => ∃ i : Nat, vi = .int .i64 i ∧ i ≤ ls.length ∧ v6 = .int .i64 ((F : Int) + ((ls.take i).count (m + 1) : Nat)) ∧ Blk wt B 3 (rowA (coN ls m i)) ∧ Below B w wt) (fun _ vi _ => ls.length - (intOf vi).toNat)
          case atStart => exact ⟨0, rfl, Nat.zero_le _, by simp, hSr, hbr⟩
          case round =>
            clear hSr hbr
            obtain ⟨i, rfl, hi, rfl, hSr, hbr⟩ := hrel
            have hcl : (ls.take i).count (m + 1) ≤ i := by
              have h1 := List.count_le_length (a := m + 1) (l := ls.take i)
              have h2 : (ls.take i).length ≤ i := by simp; omega
              omega
            by_cases hil : i < ls.length
            · have hd : decide ((i : Int) < (ls.length : Int)) = true := by simp; omega
              have hne : ls ≠ [] := by rintro rfl; simp at hil
              obtain ⟨x', c', hv', -, -, hcell'⟩ := hrn.below (by rw [HB.out]; exact hbr)
              cases hv'
              obtain ⟨g, off, rfl, hcc⟩ := hcell' hne
              have q := hcc i hil
              have hgd : ls.getD i 0 = ls[i] := by simp [List.getD, hil]
              have HCT : Hid ((ls.take (i + 1)).count (m + 1) = (ls.take i).count (m + 1) + if ls[i] = m + 1 then 1 else 0) := by
                show _ = _
                rw [List.take_succ_eq_append_getElem hil, List.count_append]
                congr 1
                by_cases h : ls[i] = m + 1
                · rw [h]; simp
                · rw [if_neg h]; simp [List.count_cons]; exact h
              have HGD := Lib.hid hgd
              have hy15 := h15 ls[i] (List.getElem_mem hil)
              have z1 : (0 : Int) ≤ (i : Int) := by omega
              have z2 : (i : Int) < (ls.length : Int) := by omega
              clear hcc hcell' hgd
              generalize ls[i] = y at *
              by_cases hy : y = m + 1
              · have hy1 : ((y : Int) == (m : Int) + 1) = true := by simp; omega
                have hcod : codC ls i = F + (ls.take i).count (m + 1) := by
                  unfold codC rankC
                  rw [HGD.out, hy, HFF.out]
                have HT := Lib.hid (coN_take ls m i (by rw [HGD.out, hy]))
                rw [hcod] at HT
                rw [if_pos hy] at HCT
                generalize (ls.take i).count (m + 1) = K at *
                have hll := coN_length ls m i
                obtain ⟨old, kS⟩ : ∃ u, wr.cell? ⟨B, i, none⟩ = some u := ⟨_, by rw [hSr.cell i, rowA_get _ i (by omega)]⟩
                have fS := hSr.frozen i
                have hS8 := hSr.put i (.int .i64 ((F : Int) + (K : Int)))
                have e2 : ((F : Int) + (K : Int)) = ((F + K : Nat) : Int) := by simp
                rw [e2, rowA_set, ← HT.out, ← e2] at hS8
                have hb8 := hbr.setCell (p := ⟨B, i, none⟩) (Nat.le_refl B) (.int .i64 ((F : Int) + (K : Int)))
                have HS8 := Lib.hid hS8
                have HB8 := Lib.hid hb8
                clear hS8 hb8 hSr hbr hll e2 HT hcod hy
                go_wp2_with fail
                refine ⟨⟨i + 1, by go_num, by omega, ?_, HS8.out, HB8.out⟩, by simp [intOf]; omega⟩
                rw [HCT.out]; go_num
              · have hy1 : ((y : Int) == (m : Int) + 1) = false := beq_false_of_ne (by omega)
                have HSK := Lib.hid (coN_skip ls m i (by rw [HGD.out]; exact hy))
                rw [if_neg hy] at HCT
                generalize (ls.take i).count (m + 1) = K at *
                have hS8 := hSr
                rw [← HSK.out] at hS8
                have HS8 := Lib.hid hS8
                clear hS8 hSr HSK hy
                go_wp2_with fail
                refine ⟨⟨i + 1, by go_num, by omega, ?_, HS8.out, hbr⟩, by simp [intOf]; omega⟩
                rw [HCT.out]; rfl
            · have hd : decide ((i : Int) < (ls.length : Int)) = false := by simp; omega
              obtain rfl : i = ls.length := by omega
              have hcn : (ls.take ls.length).count (m + 1) = cntC ls (m + 1) := by rw [List.take_length]; unfold cntC; rw [if_neg (by omega)]
              rw [coN_next] at hSr
              have HEN : Hid (endC ls (m + 1) = F + (ls.take ls.length).count (m + 1)) := by show _ = _; rw [HE1.out, HFF.out, hcn]
              clear hcn
              generalize (ls.take ls.length).count (m + 1) = K at *
              clear hcl
              go_wp2_with fail
              refine ⟨⟨m + 1, by go_num, by omega, ?_, hSr, hbr⟩, by simp [intOf]; omega⟩
              rw [HEN.out]; simp
        · have hd : decide ((m : Int) + 1 ≤ 15) = false := by simp; omega
          obtain rfl : m = 15 := by omega
          rw [coN_end ls h15] at hSr
          have hIR : IRow wr (.slice (some ⟨B, 0, none⟩) ls.length ls.length) (codL ls) := by
            have := Blk.irow (l := codL ls) hSr ls.length (by rw [codL_length]; exact Nat.le_refl _) (by unfold maxLen; omega)
            rwa [codL_length] at this
          clear hSr
          generalize endC ls 15 = E15
          go_wp2_with fail
          go_ret2
          refine ⟨?_, by rw [HB.out]; exact hbr⟩
          rw [HE.out]
          exact ⟨_, rfl, hIR⟩
end Go.Proofs.Ytkbelkdephfhpaa
