/-
  Walk: Lengths, in the program.
-/
import Derived.Test.YtkbelkdephfhpaaI10
namespace Go.Proofs.Ytkbelkdephfhpaa
open Go.RowKit

/-- The slice value v reads as the integers l. -/
def IReadZ (w : World) (v : Value) (l : List Int) : Prop :=
  ∃ x c, v = .slice x l.length c ∧ l.length ≤ c ∧ c ≤ maxLen ∧ (l ≠ [] → ∃ g off, x = some ⟨g, off, none⟩ ∧ ∀ j (h : j < l.length), w.cell? ⟨g, off + j, none⟩ = some (.int .i64 l[j]))
theorem IReadZ.below {w w' : World} {v : Value} {l : List Int} (h : IReadZ w v l) (hb : Below w.heap.size w w') : IReadZ w' v l := by
  obtain ⟨x, c, rfl, h1, h2, h4⟩ := h
  refine ⟨x, c, rfl, h1, h2, fun hne => ?_⟩
  obtain ⟨b, off, rfl, hc⟩ := h4 hne
  refine ⟨b, off, rfl, fun i hi => ?_⟩
  have c1 := hc i hi
  have hlt : b < w.heap.size := World.block_lt_of_cell? w _ c1
  exact (hb.cell (p := ⟨b, off + i, none⟩) hlt).trans c1
theorem IReadZ.nat {w : World} {v : Value} {l : List Int} (h : IReadZ w v l) (h0 : ∀ n ∈ l, 0 ≤ n) : IRead w v (l.map Int.toNat) := by
  obtain ⟨x, c, rfl, h1, h2, h4⟩ := h
  refine ⟨x, c, by simp, by simpa using h1, h2, fun hne => ?_⟩
  obtain ⟨g, off, rfl, hc⟩ := h4 (by intro e; rw [e] at hne; simp at hne)
  refine ⟨g, off, rfl, fun j hj => ?_⟩
  have hj' : j < l.length := by simpa using hj
  rw [hc j hj']
  have := h0 l[j] (List.getElem_mem hj')
  simp
  omega
theorem IRead.int {w : World} {v : Value} {l : List Nat} (h : IRead w v l) : IReadZ w v (l.map Int.ofNat) := by
  obtain ⟨x, c, rfl, h1, h2, h4⟩ := h
  refine ⟨x, c, by simp, by simpa using h1, h2, fun hne => ?_⟩
  obtain ⟨g, off, rfl, hc⟩ := h4 (by intro e; rw [e] at hne; simp at hne)
  refine ⟨g, off, rfl, fun j hj => ?_⟩
  have hj' : j < l.length := by simpa using hj
  rw [hc j hj']
  simp
/-- Lengths that are none. -/
def badZ (l : List Int) : Bool := l.any fun n => decide (n < 0) || decide (15 < n)
def codZ (ls : List Nat) (i : Nat) : Nat := if ls.getD i 0 = 0 then 0 else codC ls i
def codL (ls : List Nat) : List Nat := (List.range ls.length).map (codZ ls)
/-- The canonical codes of code lengths, or the error. -/
def lenP (l : List Int) : Except Nat (List Nat) :=
  if 288 < l.length then .error 3 else if badZ l then .error 4 else if 32768 < sumC (l.map Int.toNat) then .error 4 else .ok (codL (l.map Int.toNat))
theorem codL_length (ls : List Nat) : (codL ls).length = ls.length := by simp [codL]
theorem codL_get (ls : List Nat) (i : Nat) (h : i < ls.length) : (codL ls)[i]'(by rw [codL_length]; exact h) = codZ ls i := by simp [codL]
theorem codC_small (ls : List Nat) (i : Nat) (hl : ls.length ≤ 400) (hi : i < ls.length) (h0 : ls.getD i 0 ≠ 0) (h15 : ls.getD i 0 ≤ 15) : codC ls i ≤ 26214400 := by
  have h1 := cod_lt ls i hi h0
  have h2 := endC_small ls (ls.getD i 0) hl h15
  omega
def nf0 (ls : List Nat) (m : Nat) (k : Nat) : Nat := if 1 ≤ k ∧ k ≤ m then fstC ls k else 0
theorem nf0_succ (ls : List Nat) (m : Nat) : (fun k => if k = m + 1 then fstC ls (m + 1) else nf0 ls m k) = nf0 ls (m + 1) := by
  funext k
  unfold nf0
  by_cases h : k = m + 1
  · subst h; simp
  · rw [if_neg h]
    have : (1 ≤ k ∧ k ≤ m) ↔ (1 ≤ k ∧ k ≤ m + 1) := by omega
    simp only [this]
def ncC (ls : List Nat) (i k : Nat) : Nat := if k = 0 then 0 else fstC ls k + (ls.take i).count k
theorem nf0_nc (ls : List Nat) (k : Nat) (hk : k ≤ 15) : nf0 ls 15 k = ncC ls 0 k := by
  unfold nf0 ncC
  by_cases h : k = 0
  · subst h; simp
  · rw [if_pos (by omega), if_neg h]; simp
theorem nc_step (ls : List Nat) (i k : Nat) (hi : i < ls.length) : ncC ls (i + 1) k = ncC ls i k + (if k = ls[i] ∧ k ≠ 0 then 1 else 0) := by
  unfold ncC
  by_cases hk : k = 0
  · subst hk; simp
  · rw [if_neg hk, if_neg hk, List.take_succ_eq_append_getElem hi, List.count_append, ← Nat.add_assoc]
    congr 1
    by_cases h : k = ls[i]
    · rw [← h]; simp [hk]
    · rw [if_neg (fun e => h e.1)]
      simp [List.count_cons]
      exact fun e => h e.symm
theorem nc_cod (ls : List Nat) (i : Nat) (h0 : ls.getD i 0 ≠ 0) : ncC ls i (ls.getD i 0) = codC ls i := by
  unfold ncC codC rankC
  rw [if_neg h0]
theorem fill_zero (f : Nat → Nat) (i m : Nat) (h : f i = 0) : (List.range i).map f ++ List.replicate (m + 1) 0 = (List.range (i + 1)).map f ++ List.replicate m 0 := by
  rw [List.range_succ, List.map_append, List.append_assoc, List.map_singleton, h, List.replicate_succ]
  rfl
def LenOk (r : Except Nat (List Nat)) (e : Ending) (w : World) : Prop :=
  match r with
  | .error k => e = .returned (.tuple #[.slice none 0 0, .int .i64 k])
  | .ok l => ∃ u, e = .returned (.tuple #[u, .int .i64 0]) ∧ IRow w u l

set_option maxRecDepth 100000 in
set_option maxHeartbeats 8000000 in
theorem lengthsX_any (v : Value) (L : List Int) (w : World) (hr : IReadZ w v L) :
    Calls Try.prog 14 #[v] w fun e w' => LenOk (lenP L) e w' ∧ Below w.heap.size w w' := by
  have hP : lenP L = if 288 < L.length then .error 3 else if badZ L then .error 4 else if 32768 < sumC (L.map Int.toNat) then .error 4 else .ok (codL (L.map Int.toNat)) := rfl
  obtain ⟨x, c, rfl, hc1, hc2, hcell⟩ := id hr
  unfold maxLen at hc2
  by_cases h288 : 288 < L.length
  · rw [if_pos h288] at hP
    have HE := Lib.hid hP
    have d1 : decide ((288 : Int) < (L.length : Int)) = true := by simp; omega
    clear hP
    go_enter Try.func14, Try.ntmps14
    go_wp2_with fail
    go_ret2
    refine ⟨?_, Below.refl _ _⟩
    rw [HE.out]; rfl
  rw [if_neg h288] at hP
  have d1 : decide ((288 : Int) < (L.length : Int)) = false := by simp; omega
  have HP := Lib.hid hP
  have hL288 : L.length ≤ 288 := by omega
  clear hP
  go_enter Try.func14, Try.ntmps14
  go_wp2_with fail
  go_loop [18] (fun vi => ∃ i : Nat, vi = .int .i64 i ∧ i ≤ L.length ∧ Hid (∀ y ∈ L.take i, 0 ≤ y ∧ y ≤ 15)) (fun vi => L.length - (intOf vi).toNat)
  case atStart => exact ⟨0, rfl, Nat.zero_le _, fun y h => by simp at h⟩
  case round =>
    obtain ⟨i, rfl, hi, hall⟩ := hrel
    by_cases hlt : i < L.length
    · have hne : L ≠ [] := by rintro rfl; simp at hlt
      have hd : decide ((i : Int) < (L.length : Int)) = true := by simp; omega
      obtain ⟨g, off, rfl, hcl⟩ := hcell hne
      have q := hcl i hlt
      have hmem := List.getElem_mem hlt
      obtain ⟨y, hy⟩ : ∃ y, L[i] = y := ⟨_, rfl⟩
      rw [hy] at q hmem
      by_cases hlo : y < 0
      · have d2 : decide (y < 0) = true := by simp; omega
        have hb : badZ L = true := List.any_eq_true.2 ⟨y, hmem, by simp [hlo]⟩
        have HE : Hid (lenP L = .error 4) := by show _ = _; rw [HP.out, if_pos hb]
        clear HP hcl hcell hr hy hmem hall hb
        go_wp2_with fail
        go_ret2
        refine ⟨?_, Below.refl _ _⟩
        rw [HE.out]; rfl
      have d2 : decide (y < 0) = false := by simp; omega
      by_cases hhi : 15 < y
      · have d3 : decide (15 < y) = true := by simp; omega
        have hb : badZ L = true := List.any_eq_true.2 ⟨y, hmem, by simp [hhi]⟩
        have HE : Hid (lenP L = .error 4) := by show _ = _; rw [HP.out, if_pos hb]
        clear HP hcl hcell hr hy hmem hall hb
        go_wp2_with fail
        go_ret2
        refine ⟨?_, Below.refl _ _⟩
        rw [HE.out]; rfl
      have d3 : decide (15 < y) = false := by simp; omega
      have HN : Hid (∀ y ∈ L.take (i + 1), 0 ≤ y ∧ y ≤ 15) := by
        intro z hz
        rw [List.take_succ_eq_append_getElem hlt, List.mem_append, List.mem_singleton] at hz
        rcases hz with hz | hz
        · exact hall.out z hz
        · rw [hz, hy]; omega
      clear HP hcl hcell hr hy hmem hall
      go_wp2_with fail
      go_round
      case rel => exact ⟨i + 1, by go_num, by omega, HN⟩
      case measure => simp [intOf]; omega
    · have hd : decide ((i : Int) < (L.length : Int)) = false := by simp; omega
      obtain rfl : i = L.length := by omega
      have hall2 : ∀ y ∈ L, 0 ≤ y ∧ y ≤ 15 := by
        have := hall.out
        rwa [List.take_of_length_le (Nat.le_refl _)] at this
      have hb : ¬ badZ L = true := by
        intro h
        obtain ⟨y, hm, hy⟩ := List.any_eq_true.1 h
        have := hall2 y hm
        simp at hy
        omega
      have hP := HP.out
      rw [if_neg hb] at hP
      have h0 : ∀ n ∈ L, 0 ≤ n := fun n hn => (hall2 n hn).1
      have hrn := hr.nat h0
      obtain ⟨ls, hls⟩ : ∃ ls, L.map Int.toNat = ls := ⟨_, rfl⟩
      rw [hls] at hP hrn
      have hll : L.length = ls.length := by rw [← hls]; simp
      have h15 : ∀ n ∈ ls, n ≤ 15 := by
        rw [← hls]
        intro n hn
        obtain ⟨y, hy, rfl⟩ := List.mem_map.1 hn
        have := (hall2 y hy).2
        omega
      have hl400 : ls.length ≤ 400 := by omega
      have hl288 : ls.length ≤ 288 := by omega
      rw [hll] at hrn hc1 hd ⊢
      have HP2 := Lib.hid hP
      clear HP hP hcell hr hall hall2 hb h0 hls hL288 h288 d1 hll
      have hss := sumC_le ls
      go_wp2_with fail
      refine (sum_any _ ls _ hrn h15 hl400).mono ?_
      rintro e w1 ⟨rfl, rfl⟩
      have hP := HP2.out
      clear HP2
      obtain ⟨S, hS⟩ : ∃ S, sumC ls = S := ⟨_, rfl⟩
      rw [hS] at hP hss ⊢
      by_cases hfull : 32768 < S
      · rw [if_pos hfull] at hP
        have HE := Lib.hid hP
        have d2 : decide ((32768 : Int) < (S : Int)) = true := by simp; omega
        clear hP hfull hS
        go_wp2_with fail
        go_ret2
        refine ⟨?_, Below.refl _ _⟩
        rw [HE.out]; rfl
      rw [if_neg hfull] at hP
      have HE := Lib.hid hP
      have d2 : decide ((32768 : Int) < (S : Int)) = false := by simp; omega
      clear hP hfull hS
      go_wp2_with fail
      refine (counts_any _ ls _ hrn h15 hl400).mono ?_
      rintro e w1 ⟨he, hb1⟩
      obtain ⟨A, hA⟩ : ∃ A, arr16 (cntC ls) = A := ⟨_, rfl⟩
      rw [hA] at he
      have hA1 : A.all (·.oneCell') = true := by rw [← hA]; simp [arr16, Value.oneCell']
      have hAi : (Try.prog.info? 57).map (·.size) = some A.size := by rw [← hA]; exact inf16
      have hA2 : (arr16 fun _ => 0).size = A.size := by rw [← hA]; rfl
      have hA0 := Blk.new w1 57 (arr16 fun _ => 0)
      subst he
      have HA := Lib.hid hA
      have HA1 := Lib.hid hA1
      have HAi := Lib.hid hAi
      have HA2 := Lib.hid hA2
      have HA0 := Lib.hid hA0
      clear hA hA1 hAi hA2 hA0 d2
      go_upto_region 12 with (refine wpList_store_rowTo rfl 57 (.tmp 6) (.tmp 33) rfl rfl w1.heap.size A (by rfl) (by rfl) 57 _ (by exact HA0.out) (by exact HAi.out) (by exact HA2.out) (by exact HA1.out) ?_)
      have hC2 := HA0.out.setRow A
      have hb2 := below_setRow (hb1.alloc hb1.size (.cells (arr16 fun _ => 0) 57)) (g := w1.heap.size) hb1.size A
      change Code.wp _ _ _ _ ((w1.alloc (.cells (arr16 fun _ => 0) 57)).setRow w1.heap.size A)
      have hwc : w.heap.size ≤ w1.heap.size := hb1.size
      clear HA0
      generalize (w1.alloc (.cells (arr16 fun _ => 0) 57)).setRow w1.heap.size A = w2 at hC2 hb2 ⊢
      obtain ⟨cB, hcB⟩ : ∃ k, w1.heap.size = k := ⟨_, rfl⟩
      rw [hcB] at hC2 hwc ⊢
      rw [← HA.out] at hC2
      clear hcB hb1 HA HA1 HAi HA2
      obtain ⟨B, hB⟩ : ∃ k, w.heap.size = k := ⟨_, rfl⟩
      rw [hB] at hb2 hwc
      have HB := Lib.hid hB
      clear hB
      go_wp2_with fail
      have hN3 := Blk.new w2 57 (arr16 fun _ => 0)
      have hC3 := hC2.alloc (.cells (arr16 fun _ => 0) 57)
      have hb3 := hb2.alloc (by have := hb2.size; rw [← HB.out]; exact this) (.cells (arr16 fun _ => 0) 57)
      have hcn : cB < w2.heap.size := hC2.lt
      change Code.wp _ _ _ _ (w2.alloc (.cells (arr16 fun _ => 0) 57))
      generalize w2.alloc (.cells (arr16 fun _ => 0) 57) = w3 at hN3 hC3 hb3 ⊢
      obtain ⟨nB, hnB⟩ : ∃ k, w2.heap.size = k := ⟨_, rfl⟩
      rw [hnB] at hN3 hcn ⊢
      clear hnB hC2 hb2
      go_loopw [8, 9] (fun v8 v9 ws => ∃ m : Nat, v9 = .int .i64 ((m : Int) + 1) ∧ m ≤ 15 ∧ v8 = .int .i64 (fstC ls (m + 1) : Nat) ∧ Blk ws cB 57 (arr16 (cntC ls)) ∧ Blk ws nB 57 (arr16 (nf0 ls m)) ∧ Below B w ws) (fun _ v9 _ => 20 - (intOf v9).toNat)
      case atStart => exact ⟨0, rfl, Nat.zero_le _, rfl, hC3, by rw [arr16_congr (nf0 ls 0) (fun _ => 0) (fun k _ => by unfold nf0; rw [if_neg (by omega)])]; exact hN3, hb3⟩
      case round =>
        clear hN3 hC3 hb3
        obtain ⟨m, rfl, hm, rfl, hCr, hNr, hbr⟩ := hrel
        have hcnt := cnt_le ls (m + 1)
        have hBn : B ≤ nB := Nat.le_of_lt (Nat.lt_of_le_of_lt hwc hcn)
        by_cases hlt : m < 15
        · have hd : decide ((m : Int) + 1 ≤ 15) = true := by simp; omega
          have hend := endC_small ls (m + 1) hl400 (by omega)
          have HE1 : Hid (endC ls (m + 1) = fstC ls (m + 1) + cntC ls (m + 1)) := rfl
          have hfst : fstC ls (m + 1) + cntC ls (m + 1) ≤ 26214400 := by rw [← HE1.out]; exact hend
          have HF : Hid (fstC ls (m + 1 + 1) = (fstC ls (m + 1) + cntC ls (m + 1)) * 2) := by show _ = _; rw [Nat.mul_comm]; rfl
          have kN : wr.cell? ⟨nB, m + 1, none⟩ = some (.int .i64 (nf0 ls m (m + 1) : Nat)) := by rw [hNr.cell (m + 1), arr16_get _ (m + 1) (by omega)]
          have fN := hNr.frozen (m + 1)
          have hN4 := hNr.put (m + 1) (.int .i64 (fstC ls (m + 1) : Nat))
          rw [arr16_set _ _ _ (by omega), nf0_succ] at hN4
          have hC4 := hCr.other (p := ⟨nB, m + 1, none⟩) (Nat.ne_of_lt hcn) (.int .i64 (fstC ls (m + 1) : Nat))
          have hb4 := hbr.setCell (p := ⟨nB, m + 1, none⟩) hBn (.int .i64 (fstC ls (m + 1) : Nat))
          have HN4 := Lib.hid hN4
          have HC4 := Lib.hid hC4
          have HB4 := Lib.hid hb4
          clear hend hN4 hC4 hb4 hCr hNr hbr HE1
          generalize fstC ls (m + 1) = F at *
          go_upto_region 18 with fail
          have hN4 := HN4.out
          have hC4 := HC4.out
          have hb4 := HB4.out
          clear HN4 HC4 HB4 kN fN
          generalize wr.setCell ⟨nB, m + 1, none⟩ (.int .i64 (F : Nat)) = w4 at hN4 hC4 hb4 ⊢
          have kC : w4.cell? ⟨cB, m + 1, none⟩ = some (.int .i64 (cntC ls (m + 1) : Nat)) := by rw [hC4.cell (m + 1), arr16_get _ (m + 1) (by omega)]
          generalize cntC ls (m + 1) = C at *
          have HN4 := Lib.hid hN4
          have HC4 := Lib.hid hC4
          have HB4 := Lib.hid hb4
          clear hN4 hC4 hb4
          go_wp2_with fail
          refine ⟨⟨m + 1, by go_num, by omega, ?_, HC4.out, HN4.out, HB4.out⟩, by simp [intOf]; omega⟩
          rw [HF.out]; simp
        · have hd : decide ((m : Int) + 1 ≤ 15) = false := by simp; omega
          obtain rfl : m = 15 := by omega
          rw [arr16_congr (nf0 ls 15) (ncC ls 0) (fun k hk => nf0_nc ls k hk)] at hNr
          have hmk := run_mk el_int4 rfl ls.length (by omega) (by omega)
          have hS7 := Blk.new wr 3 (mkRow (.int .i64 0) ls.length)
          have hN7 := hNr.alloc (.cells (mkRow (.int .i64 0) ls.length) 3)
          have hb7 := hbr.alloc (Nat.le_trans hBn (Nat.le_of_lt hNr.lt)) (.cells (mkRow (.int .i64 0) ls.length) 3)
          have hns : nB < wr.heap.size := hNr.lt
          have HS7 := Lib.hid hS7
          have HN7 := Lib.hid hN7
          have HB7 := Lib.hid hb7
          clear hS7 hN7 hb7 hCr hNr hbr hcnt
          generalize fstC ls (15 + 1) = F16
          go_upto_region 20 with fail
          have hS7 := HS7.out
          have hN7 := HN7.out
          have hb7 := HB7.out
          clear HS7 HN7 HB7 hmk
          generalize wr.alloc (.cells (mkRow (.int .i64 0) ls.length) 3) = w7 at hS7 hN7 hb7 ⊢
          rw [rowA_new] at hS7
          obtain ⟨sB, hsB⟩ : ∃ k, wr.heap.size = k := ⟨_, rfl⟩
          rw [hsB] at hS7 hns ⊢
          clear hsB
          go_wp2_with fail
          go_loopw [52] (fun vi ws => ∃ i : Nat, vi = .int .i64 i ∧ i ≤ ls.length ∧ Blk ws nB 57 (arr16 (ncC ls i)) ∧ Blk ws sB 3 (rowA ((List.range i).map (codZ ls) ++ List.replicate (ls.length - i) 0)) ∧ Below B w ws) (fun vi _ => ls.length - (intOf vi).toNat)
          case atStart => exact ⟨0, rfl, Nat.zero_le _, hN7, hS7, hb7⟩
          case round =>
            clear hS7 hN7 hb7
            obtain ⟨i, rfl, hi, hNr, hSr, hbr⟩ := hrel
            by_cases hil : i < ls.length
            · have hd : decide ((i : Int) < (ls.length : Int)) = true := by simp; omega
              have hne : ls ≠ [] := by rintro rfl; simp at hil
              obtain ⟨x', c', hv', -, -, hcell'⟩ := hrn.below (by rw [HB.out]; exact hbr)
              cases hv'
              obtain ⟨g, off, rfl, hcl⟩ := hcell' hne
              have q := hcl i hil
              have hy15 := h15 ls[i] (List.getElem_mem hil)
              have hgd : ls.getD i 0 = ls[i] := by simp [List.getD, hil]
              have HST := Lib.hid (fun k => nc_step ls i k hil)
              have HGD := Lib.hid hgd
              clear hcl hcell' hgd
              generalize ls[i] = y at *
              by_cases hy : y = 0
              · subst hy
                have hN8 : Blk wr nB 57 (arr16 (ncC ls (i + 1))) := by
                  rw [arr16_congr (ncC ls (i + 1)) (ncC ls i) (fun k _ => by rw [HST.out k]; simp)]
                  exact hNr
                rw [show ls.length - i = (ls.length - (i + 1)) + 1 from by omega, fill_zero _ _ _ (by unfold codZ; rw [if_pos HGD.out])] at hSr
                go_wp2_with fail
                exact ⟨⟨i + 1, by go_num, by omega, hN8, hSr, hbr⟩, by simp [intOf]; omega⟩
              · have hy1 : ((y : Int) != 0) = true := by simp; omega
                have h0 : ls.getD i 0 ≠ 0 := by rw [HGD.out]; exact hy
                have hnp := nc_cod ls i h0
                have hsm := codC_small ls i hl400 hil h0 (by rw [HGD.out]; exact hy15)
                rw [HGD.out] at hnp
                obtain ⟨p, hp⟩ : ∃ p, codC ls i = p := ⟨_, rfl⟩
                rw [hp] at hnp hsm
                have hcz : codZ ls i = p := by unfold codZ; rw [if_neg h0, hp]
                have hll : ((List.range i).map (codZ ls) ++ List.replicate (ls.length - i) 0).length = ls.length := by simp; omega
                obtain ⟨old, kS⟩ : ∃ u, wr.cell? ⟨sB, i, none⟩ = some u := ⟨_, by rw [hSr.cell i, rowA_get _ i (by omega)]⟩
                have fS := hSr.frozen i
                have kN : wr.cell? ⟨nB, y, none⟩ = some (.int .i64 (p : Nat)) := by rw [hNr.cell y, arr16_get _ y hy15, hnp]
                have hS8 := hSr.put i (.int .i64 (p : Nat))
                rw [rowA_set, ← hcz, show ls.length - i = (ls.length - (i + 1)) + 1 from by omega, fill_step, hcz] at hS8
                have hN8 := hNr.other (p := ⟨sB, i, none⟩) (Nat.ne_of_lt hns) (.int .i64 (p : Nat))
                have hb8 := hbr.setCell (p := ⟨sB, i, none⟩) (Nat.le_trans hBn (Nat.le_of_lt hns)) (.int .i64 (p : Nat))
                have HS8 := Lib.hid hS8
                have HN8 := Lib.hid hN8
                have HB8 := Lib.hid hb8
                have HNP := Lib.hid hnp
                have z1 : (0 : Int) ≤ (i : Int) := by omega
                have z2 : (i : Int) < (ls.length : Int) := by omega
                clear hS8 hN8 hb8 hnp hp hcz hll h0 hSr hNr hbr
                go_upto_region 25 with fail
                have hS8 := HS8.out
                have hN8 := HN8.out
                have hb8 := HB8.out
                clear HS8 HN8 HB8 kN kS fS z1 z2 q
                generalize wr.setCell ⟨sB, i, none⟩ (.int .i64 (p : Nat)) = w8 at hS8 hN8 hb8 ⊢
                have kN : w8.cell? ⟨nB, y, none⟩ = some (.int .i64 (p : Nat)) := by rw [hN8.cell y, arr16_get _ y hy15, HNP.out]
                have fN := hN8.frozen y
                have hN9 := hN8.put y (.int .i64 ((p : Int) + 1))
                have e1 : ((p : Int) + 1) = ((p + 1 : Nat) : Int) := by simp
                rw [e1, arr16_set _ _ _ hy15, ← e1, arr16_congr _ (ncC ls (i + 1)) (fun k _ => by
                  rw [HST.out k]
                  by_cases h : k = y
                  · subst h; simp [hy, HNP.out]
                  · simp [h])] at hN9
                have hS9 := hS8.other (p := ⟨nB, y, none⟩) (Nat.ne_of_gt hns) (.int .i64 ((p : Int) + 1))
                have hb9 := hb8.setCell (p := ⟨nB, y, none⟩) hBn (.int .i64 ((p : Int) + 1))
                have HS9 := Lib.hid hS9
                have HN9 := Lib.hid hN9
                have HB9 := Lib.hid hb9
                clear hS8 hN8 hb8 hS9 hN9 hb9 e1 HST HNP
                go_wp2_with fail
                exact ⟨⟨i + 1, by go_num, by omega, HN9.out, HS9.out, HB9.out⟩, by simp [intOf]; omega⟩
            · have hd : decide ((i : Int) < (ls.length : Int)) = false := by simp; omega
              obtain rfl : i = ls.length := by omega
              rw [Nat.sub_self, List.replicate_zero, List.append_nil] at hSr
              have hIR : IRow wr (.slice (some ⟨sB, 0, none⟩) ls.length ls.length) (codL ls) := by
                have := Blk.irow (l := codL ls) hSr ls.length (by rw [codL_length]; exact Nat.le_refl _) (by unfold maxLen; omega)
                rwa [codL_length] at this
              clear hSr hNr
              go_wp2_with fail
              go_ret2
              refine ⟨?_, by rw [HB.out]; exact hbr⟩
              rw [HE.out]
              exact ⟨_, rfl, hIR⟩
end Go.Proofs.Ytkbelkdephfhpaa
