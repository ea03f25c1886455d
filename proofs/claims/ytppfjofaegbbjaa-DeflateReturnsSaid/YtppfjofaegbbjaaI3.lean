/-
  Walks: sums and counts of code lengths, in the program.
-/
import Derived.Test.YtppfjofaegbbjaaI2
import Derived.Laws.Tables
namespace Go.Proofs.Ytppfjofaegbbjaa
open Go.RowKit

/-- The slice value v reads as the numbers l. -/
def IRead (w : World) (v : Value) (l : List Nat) : Prop :=
  ∃ x c, v = .slice x l.length c ∧ l.length ≤ c ∧ c ≤ maxLen ∧ (l ≠ [] → ∃ g off, x = some ⟨g, off, none⟩ ∧ ∀ j (h : j < l.length), w.cell? ⟨g, off + j, none⟩ = some (.int .i64 (l[j] : Int)))
theorem IRow.read {w : World} {v : Value} {l : List Nat} (h : IRow w v l) : IRead w v l := by
  obtain ⟨x, c, rfl, h1, h2, h3⟩ := h
  refine ⟨x, c, rfl, h1, h2, fun hne => ?_⟩
  obtain ⟨g, off, cs, rfl, hb, hc⟩ := h3 hne
  exact ⟨g, off, rfl, fun j hj => by rw [hb.cell, hc j hj]⟩
theorem IRead.below {w w' : World} {v : Value} {l : List Nat} (h : IRead w v l) (hb : Below w.heap.size w w') : IRead w' v l := by
  obtain ⟨x, c, rfl, h1, h2, h4⟩ := h
  refine ⟨x, c, rfl, h1, h2, fun hne => ?_⟩
  obtain ⟨b, off, rfl, hc⟩ := h4 hne
  refine ⟨b, off, rfl, fun i hi => ?_⟩
  have c1 := hc i hi
  have hlt : b < w.heap.size := World.block_lt_of_cell? w _ c1
  exact (hb.cell (p := ⟨b, off + i, none⟩) hlt).trans c1

theorem sumC_snoc (l : List Nat) (n : Nat) : sumC (l ++ [n]) = sumC l + (if n = 0 then 0 else 2 ^ (15 - n)) := by
  induction l with
  | nil => simp [sumC]
  | cons x l ih => simp only [List.cons_append, sumC, ih]; omega
theorem sumC_le (l : List Nat) : sumC l ≤ l.length * 32768 := by
  induction l with
  | nil => simp [sumC]
  | cons x l ih =>
    have : 2 ^ (15 - x) ≤ 2 ^ 15 := Nat.pow_le_pow_right (by omega) (by omega)
    have h15 : (2 : Nat) ^ 15 = 32768 := by decide
    simp only [sumC, List.length_cons]
    split <;> omega

set_option maxRecDepth 100000 in
set_option maxHeartbeats 2000000 in
theorem sum_any (v : Value) (ls : List Nat) (w : World) (hr : IRead w v ls) (h15 : ∀ n ∈ ls, n ≤ 15) (hl : ls.length ≤ 400) :
    Calls Try.prog 56 #[v] w fun e w' => e = .returned (.int .i64 (sumC ls)) ∧ w = w' := by
  obtain ⟨x, c, rfl, hc1, hc2, hcell⟩ := id hr
  unfold maxLen at hc2
  go_enter Try.func56, Try.ntmps56
  go_wp2_with fail
  go_loop [3, 8] (fun v3 vi => ∃ i : Nat, vi = .int .i64 i ∧ i ≤ ls.length ∧ v3 = .int .i64 (sumC (ls.take i) : Nat)) (fun _ vi => ls.length - (intOf vi).toNat)
  case atStart => exact ⟨0, rfl, Nat.zero_le _, rfl⟩
  case round =>
    obtain ⟨i, rfl, hi, rfl⟩ := hrel
    have hsl := sumC_le (ls.take i)
    have htl : (ls.take i).length = i := by simp; omega
    rw [htl] at hsl
    clear htl
    by_cases hlt : i < ls.length
    · have hne : ls ≠ [] := by rintro rfl; simp at hlt
      have hd : decide ((i : Int) < (ls.length : Int)) = true := by simp; omega
      obtain ⟨g, off, rfl, hcl⟩ := hcell hne
      have q := hcl i hlt
      have hx15 := h15 ls[i] (List.getElem_mem hlt)
      have HS : Hid (sumC (ls.take (i + 1)) = sumC (ls.take i) + (if ls[i] = 0 then 0 else 2 ^ (15 - ls[i]))) := by show _ = _; rw [List.take_succ_eq_append_getElem hlt, sumC_snoc]
      clear hcl hcell hr
      generalize ls[i] = y at *
      generalize sumC (ls.take i) = S at *
      generalize hn : ls.length = n at *
      have HN := Lib.hid hn
      clear hn
      by_cases hy : y = 0
      · subst hy
        go_wp2_with fail
        go_round
        case rel => exact ⟨i + 1, by go_num, by omega, by rw [HS.out]; rfl⟩
        case measure => simp [intOf]; omega
      · have hy1 : ((y : Int) != 0) = true := by simp; omega
        have hp : (2 : Nat) ^ (15 - y) ≤ 32768 := by
          have : (2 : Nat) ^ (15 - y) ≤ 2 ^ 15 := Nat.pow_le_pow_right (by omega) (by omega)
          simpa using this
        obtain ⟨Z, hZ⟩ : ∃ Z, 2 ^ (15 - y) = Z := ⟨_, rfl⟩
        have hZi : (2 : Int) ^ (15 - y) = (Z : Int) := by rw [← hZ]; simp
        rw [hZ] at hp HS
        clear hZ
        go_wp2_with fail
        go_round
        case rel => exact ⟨i + 1, by go_num, by omega, by rw [HS.out, if_neg hy]; simp⟩
        case measure => simp [intOf]; omega
    · have hd : decide ((i : Int) < (ls.length : Int)) = false := by simp; omega
      have hall : ls.take i = ls := List.take_of_length_le (by omega)
      rw [hall]
      clear hall
      go_wp2_with fail
      go_ret
      exact ⟨rfl, rfl⟩

def arr16 (f : Nat → Nat) : Array Value :=
  #[.int .i64 (f 0 : Nat), .int .i64 (f 1 : Nat), .int .i64 (f 2 : Nat), .int .i64 (f 3 : Nat), .int .i64 (f 4 : Nat), .int .i64 (f 5 : Nat), .int .i64 (f 6 : Nat), .int .i64 (f 7 : Nat),
    .int .i64 (f 8 : Nat), .int .i64 (f 9 : Nat), .int .i64 (f 10 : Nat), .int .i64 (f 11 : Nat), .int .i64 (f 12 : Nat), .int .i64 (f 13 : Nat), .int .i64 (f 14 : Nat), .int .i64 (f 15 : Nat)]
theorem arr16_get (f : Nat → Nat) (n : Nat) (h : n ≤ 15) : (arr16 f)[n]? = some (.int .i64 (f n : Nat)) := by
  match n, h with
  | 0, _ => rfl
  | 1, _ => rfl
  | 2, _ => rfl
  | 3, _ => rfl
  | 4, _ => rfl
  | 5, _ => rfl
  | 6, _ => rfl
  | 7, _ => rfl
  | 8, _ => rfl
  | 9, _ => rfl
  | 10, _ => rfl
  | 11, _ => rfl
  | 12, _ => rfl
  | 13, _ => rfl
  | 14, _ => rfl
  | 15, _ => rfl
theorem inf16 {f : Nat → Nat} : (Try.prog.info? 67).map (·.size) = some (arr16 f).size := by
  show _ = some 16
  kernel_rfl
theorem arr16_size (f : Nat → Nat) : (arr16 f).size = 16 := rfl
theorem arr16_ext (f : Nat → Nat) (a : Array Value) (hs : a.size = 16) (h : ∀ n, n ≤ 15 → a[n]? = some (.int .i64 (f n : Nat))) : a = arr16 f := by
  apply Array.ext_getElem?
  intro i
  rcases Nat.lt_or_ge i 16 with h1 | h1
  · rw [h i (by omega), arr16_get f i (by omega)]
  · rw [Array.getElem?_eq_none (by omega), Array.getElem?_eq_none (by rw [arr16_size]; omega)]
theorem arr16_set (f : Nat → Nat) (n x : Nat) (hn : n ≤ 15) : (arr16 f).setIfInBounds n (.int .i64 (x : Nat)) = arr16 (fun k => if k = n then x else f k) := by
  apply arr16_ext
  · simp [arr16_size]
  · intro k hk
    rw [Array.getElem?_setIfInBounds]
    by_cases h : n = k
    · subst h
      rw [if_pos rfl, if_pos (by rw [arr16_size]; omega), if_pos rfl]
    · rw [if_neg h, arr16_get f k hk, if_neg (fun e => h e.symm)]
theorem arr16_congr (f g : Nat → Nat) (h : ∀ n, n ≤ 15 → f n = g n) : arr16 f = arr16 g :=
  arr16_ext g _ (arr16_size f) fun n hn => by rw [arr16_get f n hn, h n hn]
theorem cntC_snoc (l : List Nat) (y n : Nat) : cntC (l ++ [y]) n = cntC l n + (if n = y ∧ y ≠ 0 then 1 else 0) := by
  unfold cntC
  by_cases hn : n = 0
  · subst hn
    rw [if_pos rfl, if_pos rfl]
    by_cases hy : (0 : Nat) = y ∧ y ≠ 0
    · omega
    · rw [if_neg hy]
  · rw [if_neg hn, if_neg hn, List.count_append]
    by_cases h : n = y
    · subst h; simp [hn]
    · rw [if_neg (fun e => h e.1)]
      simp [List.count_cons]
      exact fun e => h e.symm

theorem Blk.setRow {w : World} {k : Nat} {t : TypeId} {cs : Array Value} (h : Blk w k t cs) (cs' : Array Value) : Blk (w.setRow k cs') k t cs' := by
  unfold Blk at h ⊢
  simp [World.setRow, Array.getElem?_modify, h]
theorem heap_setRow_ne (w : World) (g k : Nat) (cs' : Array Value) (hk : k ≠ g) : (w.setRow g cs').heap[k]? = w.heap[k]? := by
  simp only [World.setRow, Array.getElem?_modify]
  rw [if_neg (fun e => hk e.symm)]
theorem Blk.setRow_ne {w : World} {k g : Nat} {t : TypeId} {cs : Array Value} (h : Blk w k t cs) (cs' : Array Value) (hk : k ≠ g) : Blk (w.setRow g cs') k t cs := (heap_setRow_ne w g k cs' hk).trans h
theorem below_setRow {B : Nat} {a w : World} (h : Below B a w) {g : Nat} (hg : B ≤ g) (cs' : Array Value) : Below B a (w.setRow g cs') :=
  h.trans ⟨rfl, rfl, rfl, by simp [World.setRow], fun k hk => heap_setRow_ne _ _ _ _ (by omega)⟩

set_option maxRecDepth 100000 in
set_option maxHeartbeats 4000000 in
theorem counts_any (v : Value) (ls : List Nat) (w : World) (hr : IRead w v ls) (h15 : ∀ n ∈ ls, n ≤ 15) (hl : ls.length ≤ 400) :
    Calls Try.prog 59 #[v] w fun e w' => e = .returned (.agg (arr16 (cntC ls))) ∧ Below w.heap.size w w' := by
  obtain ⟨x, c, rfl, hc1, hc2, hcell⟩ := id hr
  unfold maxLen at hc2
  go_enter Try.func59, Try.ntmps59
  go_wp2_with fail
  have hR := (Blk.new w 67 (arr16 fun _ => 0)).alloc (.cells (arr16 fun _ => 0) 67)
  have hC := Blk.new (w.alloc (.cells (arr16 fun _ => 0) 67)) 67 (arr16 fun _ => 0)
  have hsz : (w.alloc (.cells (arr16 fun _ => 0) 67)).heap.size = w.heap.size + 1 := by simp
  rw [hsz] at hC
  have hb0 : Below w.heap.size w ((w.alloc (.cells (arr16 fun _ => 0) 67)).alloc (.cells (arr16 fun _ => 0) 67)) := ((Below.refl _ _).alloc (Nat.le_refl _) _).alloc (by simp) _
  change Code.wp _ _ _ _ ((w.alloc (.cells (arr16 fun _ => 0) 67)).alloc (.cells (arr16 fun _ => 0) 67))
  generalize (w.alloc (.cells (arr16 fun _ => 0) 67)).alloc (.cells (arr16 fun _ => 0) 67) = w1 at *
  clear hsz
  obtain ⟨B, hB⟩ : ∃ B, B = w.heap.size := ⟨_, rfl⟩
  rw [← hB] at hR hC hb0 ⊢
  have HB := Lib.hid hB
  clear hB
  go_loopw [8] (fun vi wr => ∃ i : Nat, vi = .int .i64 i ∧ i ≤ ls.length ∧ Blk wr B 67 (arr16 fun _ => 0) ∧ Blk wr (B + 1) 67 (arr16 (cntC (ls.take i))) ∧ Below B w wr) (fun vi _ => ls.length - (intOf vi).toNat)
  case atStart => exact ⟨0, rfl, Nat.zero_le _, hR, hC, hb0⟩
  case round =>
    clear hR hC hb0
    obtain ⟨i, rfl, hi, hR, hC, hbw⟩ := hrel
    by_cases hlt : i < ls.length
    · have hne : ls ≠ [] := by rintro rfl; simp at hlt
      have hd : decide ((i : Int) < (ls.length : Int)) = true := by simp; omega
      have hrr := hr.below (by rw [← HB.out]; exact hbw)
      obtain ⟨x', c', hv', -, -, hcell'⟩ := hrr
      cases hv'
      obtain ⟨g, off, rfl, hcl⟩ := hcell' hne
      have q := hcl i hlt
      have hy15 := h15 ls[i] (List.getElem_mem hlt)
      have HS : Hid (∀ n, cntC (ls.take (i + 1)) n = cntC (ls.take i) n + (if n = ls[i] ∧ ls[i] ≠ 0 then 1 else 0)) := by intro n; rw [List.take_succ_eq_append_getElem hlt, cntC_snoc]
      have hcn := cnt_le (ls.take i) ls[i]
      have htl : (ls.take i).length ≤ 400 := by simp; omega
      clear hcl hcell hcell'
      generalize ls[i] = y at *
      by_cases hy : y = 0
      · subst hy
        have hCn : Blk wr (B + 1) 67 (arr16 (cntC (ls.take (i + 1)))) := by
          rw [arr16_congr (cntC (ls.take (i + 1))) (cntC (ls.take i)) (fun n _ => by rw [HS.out n]; simp)]
          exact hC
        go_wp2_with fail
        refine ⟨⟨i + 1, by go_num, by omega, hR, hCn, hbw⟩, by simp [intOf]; omega⟩
      · have hy1 : ((y : Int) != 0) = true := by simp; omega
        have kc : wr.cell? ⟨B + 1, y, none⟩ = some (.int .i64 (cntC (ls.take i) y : Nat)) := by rw [hC.cell y, arr16_get _ y hy15]
        have kf := hC.frozen y
        have hC2 := hC.put y (.int .i64 ((cntC (ls.take i) y : Nat) + 1 : Int))
        have e1 : ((cntC (ls.take i) y : Nat) + 1 : Int) = ((cntC (ls.take i) y + 1 : Nat) : Int) := by simp
        rw [e1, arr16_set _ _ _ hy15, arr16_congr _ (cntC (ls.take (i + 1))) (fun n _ => by
          rw [HS.out n]
          by_cases h : n = y
          · subst h; simp [hy]
          · simp [h])] at hC2
        have hR2 := hR.other (p := ⟨B + 1, y, none⟩) (by simp) (.int .i64 ((cntC (ls.take i) y + 1 : Nat) : Int))
        have hb2 := hbw.setCell (p := ⟨B + 1, y, none⟩) (by simp) (.int .i64 ((cntC (ls.take i) y + 1 : Nat) : Int))
        rw [← e1] at hC2 hR2 hb2
        have HC2 := Lib.hid hC2
        have HR2 := Lib.hid hR2
        have HB2 := Lib.hid hb2
        clear hC2 hR2 hb2 e1 hC hR hbw
        generalize cntC (ls.take i) y = C at *
        go_wp2_with fail
        refine ⟨⟨i + 1, by go_num, by omega, HR2.out, HC2.out, HB2.out⟩, by simp [intOf]; omega⟩
    · have hd : decide ((i : Int) < (ls.length : Int)) = false := by simp; omega
      have hall : ls.take i = ls := List.take_of_length_le (by omega)
      rw [hall] at hC
      clear hall
      have hone : ∀ f, (arr16 f).all (·.oneCell') = true := fun f => by simp [arr16, Value.oneCell']
      go_wp2_with (first | refine wpList_load_row (o := ⟨some 20, _, _, _, _, _⟩) rfl 67 (.tmp 3) rfl (B + 1) rfl 67 (arr16 (cntC ls)) (0, 0) _ hC Try.underlying67 rfl inf16 ?_ | refine wpList_store_row rfl 67 (.tmp 2) (.tmp 20) rfl B (arr16 (cntC ls)) rfl rfl 67 _ hR inf16 rfl (hone _) ?_)
      refine bodyPost_ret (v := .agg (arr16 (cntC ls))) (results_cell_row rfl _ _ B 67 (arr16 (cntC ls)) (0, 0) _ rfl (hR.setRow _) Try.underlying67 rfl inf16) rfl ⟨rfl, ?_⟩
      have := below_setRow hbw (Nat.le_refl B) (arr16 (cntC ls))
      rw [← HB.out]
      exact this
end Go.Proofs.Ytppfjofaegbbjaa
