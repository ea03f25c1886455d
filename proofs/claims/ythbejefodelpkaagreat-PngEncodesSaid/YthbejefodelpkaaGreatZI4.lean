/-
  Walk: the decoder of code lengths, in the program.
-/
import Derived.Test.YthbejefodelpkaaGreatZG
import Derived.Great.BuildSlice
import Derived.Deep.Cut
import Derived.Deep.DeepCutAuto
import Derived.Outline
namespace Go.Proofs.YthbejefodelpkaaGreat
open Go.RowKit

def decA (f : Nat → Nat) (sv : Value) (lg la : Nat) : Array Value :=
  #[.int .i64 (f 0 : Nat), .int .i64 (f 1 : Nat), .int .i64 (f 2 : Nat), .int .i64 (f 3 : Nat), .int .i64 (f 4 : Nat), .int .i64 (f 5 : Nat), .int .i64 (f 6 : Nat), .int .i64 (f 7 : Nat),
    .int .i64 (f 8 : Nat), .int .i64 (f 9 : Nat), .int .i64 (f 10 : Nat), .int .i64 (f 11 : Nat), .int .i64 (f 12 : Nat), .int .i64 (f 13 : Nat), .int .i64 (f 14 : Nat), .int .i64 (f 15 : Nat),
    sv, .int .i64 (lg : Nat), .int .i64 (la : Nat)]
theorem decA_get (f : Nat → Nat) (sv : Value) (lg la n : Nat) (h : n ≤ 15) : (decA f sv lg la)[n]? = some (.int .i64 (f n : Nat)) := by
  match n, h with
  | 0, _ => rfl
  | 1, _ => rfl
  | 2, _ => rfl
  | 3, _ => rfl
  | 4, _ => rfl
  | 5, _ => rfl
  | 6, _ => rfl
  | 7, _ => rfl
  | 8, _ => rfl
  | 9, _ => rfl
  | 10, _ => rfl
  | 11, _ => rfl
  | 12, _ => rfl
  | 13, _ => rfl
  | 14, _ => rfl
  | 15, _ => rfl
theorem decA_dec (ls : List Nat) (sv : Value) : decA (cntC ls) sv (lngC ls 15) (lastC ls) = decC ls sv := rfl
theorem inf19 {f : Nat → Nat} {sv : Value} {lg la : Nat} : (Tryz.prog.info? 164).map (·.size) = some (decA f sv lg la).size := by
  show _ = some 19
  kernel_rfl
theorem built19 (f : Nat → Nat) : Tryz.prog.built 164 [(0, Value.agg (arr16 f))] = some (decA f (.slice none 0 0) 0 0) := by kernel_rfl
/-- The last code of the greatest length up to n. -/
def laC (ls : List Nat) (n : Nat) : Nat := if lngC ls n = 0 then 0 else endC ls (lngC ls n) - 1

theorem decA_lng (f : Nat → Nat) (sv : Value) (lg la x : Nat) : (decA f sv lg la).setIfInBounds 17 (.int .i64 (x : Nat)) = decA f sv x la := rfl
theorem decA_last (f : Nat → Nat) (sv : Value) (lg la x : Nat) : (decA f sv lg la).setIfInBounds 18 (.int .i64 (x : Nat)) = decA f sv lg x := rfl
theorem decA_sv (f : Nat → Nat) (sv sv' : Value) (lg la : Nat) : (decA f sv lg la).setIfInBounds 16 sv' = decA f sv' lg la := rfl
theorem laC_skip (ls : List Nat) (n : Nat) (h : cntC ls (n + 1) = 0) : lngC ls (n + 1) = lngC ls n ∧ laC ls (n + 1) = laC ls n := by
  have e : lngC ls (n + 1) = lngC ls n := by rw [lngC, if_pos h]
  exact ⟨e, by unfold laC; rw [e]⟩
theorem laC_take (ls : List Nat) (n : Nat) (h : cntC ls (n + 1) ≠ 0) : lngC ls (n + 1) = n + 1 ∧ laC ls (n + 1) = fstC ls (n + 1) + cntC ls (n + 1) - 1 := by
  have e : lngC ls (n + 1) = n + 1 := by rw [lngC, if_neg h]
  exact ⟨e, by unfold laC; rw [e, if_neg (by omega)]; rfl⟩
theorem laC_last (ls : List Nat) : laC ls 15 = lastC ls := by
  unfold laC lastC
  split
  · rename_i h; rw [h]; rfl
  · rfl
/-- Where the next symbol of each length goes, before symbol i. -/
def nxtC (ls : List Nat) (i k : Nat) : Nat := if k = 0 then 0 else idxC ls (k - 1) + (ls.take i).count k
def posC (ls : List Nat) (j : Nat) : Nat := idxC ls (ls.getD j 0 - 1) + rankC ls j
theorem posC_lt (ls : List Nat) (j : Nat) (hj : j < ls.length) (h0 : ls.getD j 0 ≠ 0) (h15 : ls.getD j 0 ≤ 15) : posC ls j < idxC ls 15 := by
  have h1 := rank_lt ls j hj h0
  obtain ⟨m, hm⟩ : ∃ m, ls.getD j 0 = m + 1 := ⟨ls.getD j 0 - 1, by omega⟩
  have h2 : idxC ls (m + 1) = idxC ls m + cntC ls (m + 1) := rfl
  have h3 := idxC_le ls (m + 1) 15 (by omega)
  unfold posC
  rw [hm] at h1 ⊢
  rw [Nat.add_sub_cancel]
  omega
theorem posC_inj (ls : List Nat) (i j : Nat) (hi : i < ls.length) (hj : j < ls.length) (hi0 : ls.getD i 0 ≠ 0) (hj0 : ls.getD j 0 ≠ 0) (h : posC ls i = posC ls j) : i = j := by
  have key : ∀ i j, i < ls.length → j < ls.length → ls.getD i 0 ≠ 0 → ls.getD j 0 ≠ 0 → ls.getD i 0 < ls.getD j 0 → posC ls i < posC ls j := by
    intro i j hi hj hi0 hj0 hlt
    have h1 := rank_lt ls i hi hi0
    obtain ⟨m, hm⟩ : ∃ m, ls.getD i 0 = m + 1 := ⟨ls.getD i 0 - 1, by omega⟩
    have h2 : idxC ls (m + 1) = idxC ls m + cntC ls (m + 1) := rfl
    have h3 := idxC_le ls (m + 1) (ls.getD j 0 - 1) (by omega)
    unfold posC
    rw [hm] at h1 ⊢
    rw [Nat.add_sub_cancel]
    omega
  rcases Nat.lt_trichotomy (ls.getD i 0) (ls.getD j 0) with hlt | heq | hgt
  · have := key i j hi hj hi0 hj0 hlt; omega
  · refine cod_inj ls i j hi hj heq ?_
    unfold posC at h
    unfold codC
    rw [heq] at h ⊢
    omega
  · have := key j i hj hi hj0 hi0 hgt; omega
/-- Every place of the table of symbols is the place of one. -/
theorem allC_pos (ls : List Nat) (n p : Nat) (hp : p < (allC ls n).length) : ∃ s, (allC ls n)[p]? = some s ∧ s < ls.length ∧ ls.getD s 0 ≠ 0 ∧ ls.getD s 0 ≤ n ∧ posC ls s = p := by
  induction n with
  | zero => simp [allC] at hp
  | succ n ih =>
    rw [allC_length] at hp
    have h2 : idxC ls (n + 1) = idxC ls n + cntC ls (n + 1) := rfl
    by_cases h : p < idxC ls n
    · obtain ⟨s, h1, h3, h4, h5, h6⟩ := ih (by rw [allC_length]; exact h)
      exact ⟨s, by rw [allC, List.getElem?_append_left (by rw [allC_length]; exact h)]; exact h1, h3, h4, by omega, h6⟩
    · have hk : p - idxC ls n < cntC ls (n + 1) := by omega
      obtain ⟨a, b, d⟩ := symsC_get ls (n + 1) (p - idxC ls n) (by omega) hk
      have hg := allC_get ls n (p - idxC ls n) (n + 1) (by omega) hk
      rw [show idxC ls n + (p - idxC ls n) = p from by omega] at hg
      refine ⟨_, hg, a, by rw [b]; omega, by rw [b]; omega, ?_⟩
      unfold posC
      rw [b, d, Nat.add_sub_cancel]
      omega
/-- The cells of the table of symbols, those before symbol i written. -/
def SymI (ls : List Nat) (i : Nat) (cs : Array Value) : Prop := cs.size = idxC ls 15 ∧ ∀ j, j < i → j < ls.length → ls.getD j 0 ≠ 0 → cs[posC ls j]? = some (.int .i64 (j : Nat))
theorem symI_end {ls : List Nat} {cs : Array Value} (h : SymI ls ls.length cs) (j : Nat) (hj : j < (allC ls 15).length) : cs[j]? = some (.int .i64 (((allC ls 15)[j] : Nat) : Int)) := by
  obtain ⟨s, h1, h2, h3, _, h5⟩ := allC_pos ls 15 j hj
  have := h.2 s h2 h2 h3
  rw [h5] at this
  rw [this]
  rw [List.getElem?_eq_getElem hj] at h1
  rw [Option.some.inj h1]
theorem symI_skip {ls : List Nat} {i : Nat} {cs : Array Value} (h : SymI ls i cs) (h0 : ls.getD i 0 = 0) : SymI ls (i + 1) cs := by
  refine ⟨h.1, fun j hj hl hj0 => h.2 j ?_ hl hj0⟩
  by_cases e : j = i
  · subst e; exact absurd h0 hj0
  · omega
theorem symI_put {ls : List Nat} {i : Nat} {cs : Array Value} (h : SymI ls i cs) (hi : i < ls.length) (h0 : ls.getD i 0 ≠ 0) (h15 : ls.getD i 0 ≤ 15) : SymI ls (i + 1) (cs.setIfInBounds (posC ls i) (.int .i64 (i : Nat))) := by
  have hp := posC_lt ls i hi h0 h15
  refine ⟨by simp [h.1], fun j hj hl hj0 => ?_⟩
  rw [Array.getElem?_setIfInBounds]
  by_cases e : j = i
  · subst e; rw [if_pos rfl, if_pos (by rw [h.1]; exact hp)]
  · rw [if_neg (fun e2 => e (posC_inj ls j i hl hi hj0 h0 e2.symm))]
    exact h.2 j (by omega) hl hj0
theorem nxt_step (ls : List Nat) (i k : Nat) (hi : i < ls.length) : nxtC ls (i + 1) k = nxtC ls i k + (if k = ls[i] ∧ k ≠ 0 then 1 else 0) := by
  unfold nxtC
  by_cases hk : k = 0
  · subst hk; simp
  · rw [if_neg hk, if_neg hk, List.take_succ_eq_append_getElem hi, List.count_append, ← Nat.add_assoc]
    congr 1
    by_cases h : k = ls[i]
    · rw [← h]; simp [hk]
    · rw [if_neg (fun e => h e.1)]
      simp [List.count_cons]
      exact fun e => h e.symm
theorem nxt_pos (ls : List Nat) (i : Nat) (h0 : ls.getD i 0 ≠ 0) : nxtC ls i (ls.getD i 0) = posC ls i := by
  unfold nxtC posC rankC
  rw [if_neg h0]
theorem idx_small (ls : List Nat) (n : Nat) (hl : ls.length ≤ 400) : idxC ls n ≤ 400 * n := by
  induction n with
  | zero => exact Nat.le_refl _
  | succ n ih => have := cnt_le ls (n + 1); unfold idxC; omega
theorem el_int4 : Elem Tryz.prog 51 3 (.int .i64 0) 1 8 := by
  refine ⟨Tryz.underlying51, ?_, rfl, by decide⟩
  exact info_parts (by kernel_rfl)
def nx0 (ls : List Nat) (m : Nat) (k : Nat) : Nat := if 1 ≤ k ∧ k ≤ m then idxC ls (k - 1) else 0
theorem nx0_succ (ls : List Nat) (m : Nat) : (fun k => if k = m + 1 then idxC ls m else nx0 ls m k) = nx0 ls (m + 1) := by
  funext k
  unfold nx0
  by_cases h : k = m + 1
  · subst h; simp
  · rw [if_neg h]
    have : (1 ≤ k ∧ k ≤ m) ↔ (1 ≤ k ∧ k ≤ m + 1) := by omega
    simp only [this]
theorem nx0_nxt (ls : List Nat) (k : Nat) (hk : k ≤ 15) : nx0 ls 15 k = nxtC ls 0 k := by
  unfold nx0 nxtC
  by_cases h : k = 0
  · subst h; simp
  · rw [if_pos (by omega), if_neg h]; simp

set_option maxRecDepth 100000 in
set_option maxHeartbeats 8000000 in
theorem newDecoder_any (v : Value) (ls : List Nat) (w : World) (hr : IRead w v ls) (h15 : ∀ n ∈ ls, n ≤ 15) (hl : ls.length ≤ 400) :
    Calls Tryz.prog 168 #[v] w fun e w' => (∃ sv, e = .returned (.agg (decC ls sv)) ∧ IRow w' sv (allC ls 15)) ∧ Below w.heap.size w w' := by
  obtain ⟨x, c, rfl, hc1, hc2, hcell⟩ := id hr
  unfold maxLen at hc2
  go_enter Tryz.func168, Tryz.ntmps168
  go_wp2_with fail
  have hr1 := hr.below ((Below.refl _ _).alloc (Nat.le_refl _) (.cells (decA (fun _ => 0) (.slice none 0 0) 0 0) 164))
  have hR := Blk.new w 164 (decA (fun _ => 0) (.slice none 0 0) 0 0)
  have hZs : (decA (fun _ => 0) (.slice none 0 0) 0 0).size = 19 := rfl
  have hb0 : Below w.heap.size w (w.alloc (.cells (decA (fun _ => 0) (.slice none 0 0) 0 0) 164)) := (Below.refl _ _).alloc (Nat.le_refl _) _
  change Calls _ _ _ (w.alloc (.cells (decA (fun _ => 0) (.slice none 0 0) 0 0) 164)) _
  obtain ⟨Z, hZ⟩ : ∃ Z, decA (fun _ => 0) (.slice none 0 0) 0 0 = Z := ⟨_, rfl⟩
  rw [hZ] at hr1 hR hZs hb0 ⊢
  clear hZ
  generalize w.alloc (.cells Z 164) = w0 at hr1 hR hb0 ⊢
  refine (counts_any _ ls _ hr1 h15 hl).mono ?_
  rintro e w1 ⟨he, hb1⟩
  have hR1 := (Fr.of_below (B := 0) hb1 []).blk hR (by simp)
  have hbt : Tryz.prog.built 164 [(0, Value.agg (arr16 (cntC ls)))] = some (decA (cntC ls) (.slice none 0 0) 0 0) := built19 _
  generalize arr16 (cntC ls) = A at he hbt
  obtain ⟨D, hD⟩ : ∃ D, decA (cntC ls) (.slice none 0 0) 0 0 = D := ⟨_, rfl⟩
  have hDs : (Tryz.prog.info? 164).map (·.size) = some D.size := by rw [← hD]; exact inf19
  have hD1 : D.all (·.oneCell') = true := by rw [← hD]; simp [decA, Value.oneCell']
  have hD2 : (decA (fun _ => 0) (.slice none 0 0) 0 0).size = D.size := by rw [← hD]; rfl
  rw [hD] at hbt
  subst he
  have hD0 := Blk.new w1 164 (decA (fun _ => 0) (.slice none 0 0) 0 0)
  have HB1 := Lib.hid hb1
  have HBT := Lib.hid hbt
  have HD0 := Lib.hid hD0
  have HDS := Lib.hid hDs
  have HD1 := Lib.hid hD1
  have HD2 := Lib.hid hD2
  have HD := Lib.hid hD
  clear hb1 hbt hD0 hDs hD1 hD2 hD
  go_simp
  first | go_values | go_skip | go_guarded | go_step | go_upon | go_back
  refine wpList_buildTo rfl 164 _ rfl (some 12) rfl D (by simp [Act.eval]; exact HBT.out) ?_
  go_upto_region 2 with (refine wpList_store_rowTo rfl 164 (.tmp 3) (.tmp 12) rfl rfl w1.heap.size D (by rfl) (by rfl) 164 _ (by exact HD0.out) (by exact HDS.out) (by exact HD2.out) (by exact HD1.out) ?_)
  have hBd : w.heap.size < w1.heap.size := Nat.lt_of_lt_of_le hR.lt HB1.out.size
  have hD2b : Blk ((w1.alloc (.cells (decA (fun _ => 0) (.slice none 0 0) 0 0) 164)).setRow w1.heap.size D) w1.heap.size 164 D := HD0.out.setRow D
  have hR2 : Blk ((w1.alloc (.cells (decA (fun _ => 0) (.slice none 0 0) 0 0) 164)).setRow w1.heap.size D) w.heap.size 164 Z := (hR1.alloc _).setRow_ne D (by omega)
  have hb2 : Below w.heap.size w ((w1.alloc (.cells (decA (fun _ => 0) (.slice none 0 0) 0 0) 164)).setRow w1.heap.size D) :=
    below_setRow ((hb0.trans (HB1.out.mono hb0.size)).alloc (Nat.le_of_lt hBd) _) (Nat.le_of_lt hBd) D
  change Code.wp _ _ _ _ ((w1.alloc (.cells (decA (fun _ => 0) (.slice none 0 0) 0 0) 164)).setRow w1.heap.size D)
  generalize (w1.alloc (.cells (decA (fun _ => 0) (.slice none 0 0) 0 0) 164)).setRow w1.heap.size D = w2 at hD2b hR2 hb2 ⊢
  rw [← HD.out] at hD2b
  obtain ⟨dB, hdB⟩ : ∃ k, w1.heap.size = k := ⟨_, rfl⟩
  rw [hdB] at hD2b hBd ⊢
  clear hdB hR1 hr1 hR hb0 HB1 HBT HD0 HDS HD1 HD2 HD
  obtain ⟨B, hB⟩ : ∃ k, w.heap.size = k := ⟨_, rfl⟩
  rw [hB] at hR2 hBd hb2 ⊢
  have HB := Lib.hid hB
  clear hB
  go_wp2_with fail
  have hN3 := Blk.new w2 162 (arr16 fun _ => 0)
  have hD3 := hD2b.alloc (.cells (arr16 fun _ => 0) 162)
  have hR3 := hR2.alloc (.cells (arr16 fun _ => 0) 162)
  have hb3 := hb2.alloc (Nat.le_of_lt hR2.lt) (.cells (arr16 fun _ => 0) 162)
  have hdn : dB < w2.heap.size := hD2b.lt
  change Code.wp _ _ _ _ (w2.alloc (.cells (arr16 fun _ => 0) 162))
  generalize w2.alloc (.cells (arr16 fun _ => 0) 162) = w3 at hN3 hD3 hR3 hb3 ⊢
  obtain ⟨nB, hnB⟩ : ∃ k, w2.heap.size = k := ⟨_, rfl⟩
  rw [hnB] at hN3 hdn ⊢
  clear hnB hD2b hR2 hb2
  go_loopw [5, 6, 7] (fun v5 v6 v7 wr => ∃ m : Nat, v7 = .int .i64 ((m : Int) + 1) ∧ m ≤ 15 ∧ v5 = .int .i64 (fstC ls (m + 1) : Nat) ∧ v6 = .int .i64 (idxC ls m : Nat) ∧ Blk wr B 164 Z ∧ Blk wr dB 164 (decA (cntC ls) (.slice none 0 0) (lngC ls m) (laC ls m)) ∧ Blk wr nB 162 (arr16 (nx0 ls m)) ∧ Below B w wr) (fun _ _ v7 _ => 20 - (intOf v7).toNat)
  case atStart => exact ⟨0, rfl, Nat.zero_le _, rfl, rfl, hR3, hD3, by rw [arr16_congr (nx0 ls 0) (fun _ => 0) (fun k _ => by unfold nx0; rw [if_neg (by omega)])]; exact hN3, hb3⟩
  case round =>
    clear hN3 hD3 hR3 hb3
    obtain ⟨m, rfl, hm, rfl, rfl, hRr, hDr, hNr, hbr⟩ := hrel
    have hcnt := cnt_le ls (m + 1)
    have hidx := idx_small ls m hl
    by_cases hlt : m < 15
    · have hd : decide ((m : Int) + 1 ≤ 15) = true := by simp; omega
      have hend := endC_small ls (m + 1) hl (by omega)
      have HE : Hid (endC ls (m + 1) = fstC ls (m + 1) + cntC ls (m + 1)) := rfl
      have hfst : fstC ls (m + 1) + cntC ls (m + 1) ≤ 26214400 := by rw [← HE.out]; exact hend
      have HF : Hid (fstC ls (m + 1 + 1) = (fstC ls (m + 1) + cntC ls (m + 1)) * 2) := by show _ = _; rw [Nat.mul_comm]; rfl
      have HI : Hid (idxC ls (m + 1) = idxC ls m + cntC ls (m + 1)) := rfl
      have HS := Lib.hid (laC_skip ls m)
      have HT := Lib.hid (laC_take ls m)
      have kN : wr.cell? ⟨nB, m + 1, none⟩ = some (.int .i64 (nx0 ls m (m + 1) : Nat)) := by rw [hNr.cell (m + 1), arr16_get _ (m + 1) (by omega)]
      have fN := hNr.frozen (m + 1)
      have hN4 := hNr.put (m + 1) (.int .i64 (idxC ls m : Nat))
      rw [arr16_set _ _ _ (by omega), nx0_succ] at hN4
      have hD4 := hDr.other (p := ⟨nB, m + 1, none⟩) (Nat.ne_of_lt hdn) (.int .i64 (idxC ls m : Nat))
      have hR4 := hRr.other (p := ⟨nB, m + 1, none⟩) (Nat.ne_of_lt (Nat.lt_trans hBd hdn)) (.int .i64 (idxC ls m : Nat))
      have hb4 := hbr.setCell (p := ⟨nB, m + 1, none⟩) (Nat.le_of_lt (Nat.lt_trans hBd hdn)) (.int .i64 (idxC ls m : Nat))
      clear hend
      generalize fstC ls (m + 1) = F at *
      generalize idxC ls m = I at *
      have HN4 := Lib.hid hN4
      have HD4 := Lib.hid hD4
      have HR4 := Lib.hid hR4
      have HB4 := Lib.hid hb4
      clear hN4 hD4 hR4 hb4 hRr hDr hNr hbr
      go_upto_region 8 with fail
      have hN4 := HN4.out
      have hD4 := HD4.out
      have hR4 := HR4.out
      have hb4 := HB4.out
      clear HN4 HD4 HR4 HB4 kN fN
      generalize wr.setCell ⟨nB, m + 1, none⟩ (.int .i64 (I : Nat)) = w4 at hN4 hD4 hR4 hb4 ⊢
      have kC : w4.cell? ⟨dB, m + 1, none⟩ = some (.int .i64 (cntC ls (m + 1) : Nat)) := by rw [hD4.cell (m + 1), decA_get _ _ _ _ (m + 1) (by omega)]
      by_cases h0 : cntC ls (m + 1) = 0
      · rw [h0] at kC
        have hs := HS.out h0
        have HX : Hid (idxC ls (m + 1) = I) := by show _ = _; rw [HI.out, h0]; rfl
        have HY : Hid (fstC ls (m + 1 + 1) = F * 2) := by show _ = _; rw [HF.out, h0]; rfl
        rw [← hs.1, ← hs.2] at hD4
        have HR5 := Lib.hid hR4
        have HD5 := Lib.hid hD4
        have HN5 := Lib.hid hN4
        have HB5 := Lib.hid hb4
        clear HS HT hs h0 HI HF HE hR4 hD4 hN4 hb4
        go_wp2_with fail
        refine ⟨⟨m + 1, by go_num, by omega, ?_, ?_, HR5.out, HD5.out, HN5.out, HB5.out⟩, by simp [intOf]; omega⟩
        · rw [HY.out]; simp
        · rw [HX.out]
      · have hs := HT.out h0
        obtain ⟨C, hC⟩ : ∃ C, cntC ls (m + 1) = C := ⟨_, rfl⟩
        rw [hC] at hs kC HF HI hfst h0 hcnt
        have hC0 : decide ((0 : Int) < (C : Int)) = true := by simp; omega
        have HX : Hid (idxC ls (m + 1) = I + C) := HI
        have HY : Hid (fstC ls (m + 1 + 1) = (F + C) * 2) := HF
        have HSS := Lib.hid hs
        have k17 : w4.cell? ⟨dB, 17, none⟩ = some (.int .i64 (lngC ls m : Nat)) := hD4.cell 17
        have f17 := hD4.frozen 17
        have hD5 := hD4.put 17 (.int .i64 ((m : Int) + 1))
        have e1 : ((m : Int) + 1) = ((m + 1 : Nat) : Int) := by simp
        rw [e1, decA_lng, ← e1] at hD5
        have hR5 := hR4.other (p := ⟨dB, 17, none⟩) (Nat.ne_of_lt hBd) (.int .i64 ((m : Int) + 1))
        have hN5 := hN4.other (p := ⟨dB, 17, none⟩) (Nat.ne_of_gt hdn) (.int .i64 ((m : Int) + 1))
        have hb5 := hb4.setCell (p := ⟨dB, 17, none⟩) (Nat.le_of_lt hBd) (.int .i64 ((m : Int) + 1))
        have HR5 := Lib.hid hR5
        have HD5 := Lib.hid hD5
        have HN5 := Lib.hid hN5
        have HB5 := Lib.hid hb5
        clear hR4 hD4 hN4 hb4 hR5 hD5 hN5 hb5 HS HT hs HI HF HE e1
        go_upto_region 11 with fail
        have hR5 := HR5.out
        have hD5 := HD5.out
        have hN5 := HN5.out
        have hb5 := HB5.out
        clear HR5 HD5 HN5 HB5 k17 f17 kC
        generalize w4.setCell ⟨dB, 17, none⟩ (.int .i64 ((m : Int) + 1)) = w5 at hN5 hD5 hR5 hb5 ⊢
        have kC : w5.cell? ⟨dB, m + 1, none⟩ = some (.int .i64 (C : Nat)) := by rw [hD5.cell (m + 1), decA_get _ _ _ _ (m + 1) (by omega), hC]
        have k18 : w5.cell? ⟨dB, 18, none⟩ = some (.int .i64 (laC ls m : Nat)) := hD5.cell 18
        have f18 := hD5.frozen 18
        have hD6 := hD5.put 18 (.int .i64 ((F : Int) + (C : Int) - 1))
        have e2 : ((F : Int) + (C : Int) - 1) = ((F + C - 1 : Nat) : Int) := by omega
        rw [e2, decA_last, ← e2, ← HSS.out.2] at hD6
        have hR6 := hR5.other (p := ⟨dB, 18, none⟩) (Nat.ne_of_lt hBd) (.int .i64 ((F : Int) + (C : Int) - 1))
        have hN6 := hN5.other (p := ⟨dB, 18, none⟩) (Nat.ne_of_gt hdn) (.int .i64 ((F : Int) + (C : Int) - 1))
        have hb6 := hb5.setCell (p := ⟨dB, 18, none⟩) (Nat.le_of_lt hBd) (.int .i64 ((F : Int) + (C : Int) - 1))
        have HR6 := Lib.hid hR6
        have HD6 := Lib.hid hD6
        have HN6 := Lib.hid hN6
        have HB6 := Lib.hid hb6
        clear hR5 hD5 hN5 hb5 hR6 hD6 hN6 hb6 e2
        go_upto_region 12 with fail
        have hR6 := HR6.out
        have hD6 := HD6.out
        have hN6 := HN6.out
        have hb6 := HB6.out
        clear HR6 HD6 HN6 HB6 k18 f18 kC
        generalize w5.setCell ⟨dB, 18, none⟩ (.int .i64 ((F : Int) + (C : Int) - 1)) = w6 at hN6 hD6 hR6 hb6 ⊢
        have kC : w6.cell? ⟨dB, m + 1, none⟩ = some (.int .i64 (C : Nat)) := by rw [hD6.cell (m + 1), decA_get _ _ _ _ (m + 1) (by omega), hC]
        have HR6 := Lib.hid hR6
        have HD6 := Lib.hid hD6
        have HN6 := Lib.hid hN6
        have HB6 := Lib.hid hb6
        clear hR6 hD6 hN6 hb6 hC
        go_wp2_with fail
        refine ⟨⟨m + 1, by go_num, by omega, ?_, ?_, HR6.out, ?_, HN6.out, HB6.out⟩, by simp [intOf]; omega⟩
        · rw [HY.out]; simp
        · rw [HX.out]; simp
        · rw [HSS.out.1]; exact HD6.out
    · have hd : decide ((m : Int) + 1 ≤ 15) = false := by simp; omega
      obtain rfl : m = 15 := by omega
      rw [laC_last] at hDr
      obtain ⟨T, hT⟩ : ∃ T, idxC ls 15 = T := ⟨_, rfl⟩
      rw [hT] at hidx
      rw [hT]
      have hmk := run_mk el_int4 rfl T (by omega) (by omega)
      rw [arr16_congr (nx0 ls 15) (nxtC ls 0) (fun k hk => nx0_nxt ls k hk)] at hNr
      have hDa := hDr.alloc (.cells (mkRow (.int .i64 0) T) 3)
      have k16 : (wr.alloc (.cells (mkRow (.int .i64 0) T) 3)).cell? ⟨dB, 16, none⟩ = some (.slice none 0 0) := hDa.cell 16
      have f16 := hDa.frozen 16
      have hD7 := (hDr.put 16 (.slice (some ⟨wr.heap.size, 0, none⟩) T T)).alloc (.cells (mkRow (.int .i64 0) T) 3)
      rw [decA_sv] at hD7
      have hR7 := (hRr.other (p := ⟨dB, 16, none⟩) (Nat.ne_of_lt hBd) (.slice (some ⟨wr.heap.size, 0, none⟩) T T)).alloc (.cells (mkRow (.int .i64 0) T) 3)
      have hN7 := (hNr.other (p := ⟨dB, 16, none⟩) (Nat.ne_of_gt hdn) (.slice (some ⟨wr.heap.size, 0, none⟩) T T)).alloc (.cells (mkRow (.int .i64 0) T) 3)
      have hds : dB < wr.heap.size := hDr.lt
      have hns : nB < wr.heap.size := hNr.lt
      have hS7 := Blk.new_at (w := wr.setCell ⟨dB, 16, none⟩ (.slice (some ⟨wr.heap.size, 0, none⟩) T T)) (k := wr.heap.size) (by simp [World.setCell]) 3 (mkRow (.int .i64 0) T)
      have hb7 := (hbr.setCell (p := ⟨dB, 16, none⟩) (Nat.le_of_lt hBd) (.slice (some ⟨wr.heap.size, 0, none⟩) T T)).alloc (by simp [World.setCell]; exact Nat.le_of_lt hRr.lt) (.cells (mkRow (.int .i64 0) T) 3)
      have HR7 := Lib.hid hR7
      have HD7 := Lib.hid hD7
      have HN7 := Lib.hid hN7
      have HS7 := Lib.hid hS7
      have HB7 := Lib.hid hb7
      have HT := Lib.hid hT
      clear hDa hRr hDr hNr hbr hR7 hD7 hN7 hS7 hb7 hT
      go_upto_region 14 with fail
      have hR7 := HR7.out
      have hD7 := HD7.out
      have hN7 := HN7.out
      have hS7 := HS7.out
      have hb7 := HB7.out
      clear HR7 HD7 HN7 HS7 HB7 k16 f16 hmk
      generalize (wr.setCell ⟨dB, 16, none⟩ (.slice (some ⟨wr.heap.size, 0, none⟩) T T)).alloc (.cells (mkRow (.int .i64 0) T) 3) = w7 at hR7 hD7 hN7 hS7 hb7 ⊢
      obtain ⟨sB, hsB⟩ : ∃ k, wr.heap.size = k := ⟨_, rfl⟩
      rw [hsB] at hD7 hS7 hds hns ⊢
      clear hsB
      go_wp2_with fail
      go_loopw [53] (fun vi ws => ∃ (i : Nat) (cs : Array Value), vi = .int .i64 i ∧ i ≤ ls.length ∧ Hid (SymI ls i cs) ∧ Blk ws B 164 Z ∧ Blk ws dB 164 (decA (cntC ls) (.slice (some ⟨sB, 0, none⟩) T T) (lngC ls 15) (lastC ls)) ∧ Blk ws nB 162 (arr16 (nxtC ls i)) ∧ Blk ws sB 3 cs ∧ Below B w ws) (fun vi _ => ls.length - (intOf vi).toNat)
      case atStart => exact ⟨0, _, rfl, Nat.zero_le _, ⟨by rw [mkRow_size, HT.out], fun j hj => absurd hj (Nat.not_lt_zero _)⟩, hR7, hD7, hN7, hS7, hb7⟩
      case round =>
        clear hR7 hD7 hN7 hS7 hb7
        obtain ⟨i, cs, rfl, hi, hsym, hRr, hDr, hNr, hSr, hbr⟩ := hrel
        by_cases hil : i < ls.length
        · have hd : decide ((i : Int) < (ls.length : Int)) = true := by simp; omega
          have hne : ls ≠ [] := by rintro rfl; simp at hil
          obtain ⟨x', c', hv', -, -, hcell'⟩ := hr.below (by rw [HB.out]; exact hbr)
          cases hv'
          obtain ⟨g, off, rfl, hcl⟩ := hcell' hne
          have q := hcl i hil
          have hy15 := h15 ls[i] (List.getElem_mem hil)
          have hgd : ls.getD i 0 = ls[i] := by simp [List.getD, hil]
          have HST := Lib.hid (fun k => nxt_step ls i k hil)
          have HGD := Lib.hid hgd
          clear hcl hcell hcell' hgd
          generalize ls[i] = y at *
          by_cases hy : y = 0
          · subst hy
            have HSY : Hid (SymI ls (i + 1) cs) := symI_skip hsym.out HGD.out
            have hN8 : Blk wr nB 162 (arr16 (nxtC ls (i + 1))) := by
              rw [arr16_congr (nxtC ls (i + 1)) (nxtC ls i) (fun k _ => by rw [HST.out k]; simp)]
              exact hNr
            go_wp2_with fail
            exact ⟨⟨i + 1, cs, by go_num, by omega, HSY, hRr, hDr, hN8, hSr, hbr⟩, by simp [intOf]; omega⟩
          · have hy1 : ((y : Int) != 0) = true := by simp; omega
            have h0 : ls.getD i 0 ≠ 0 := by rw [HGD.out]; exact hy
            have hpl := posC_lt ls i hil h0 (by rw [HGD.out]; exact hy15)
            have hnp := nxt_pos ls i h0
            rw [HGD.out] at hnp
            obtain ⟨p, hp⟩ : ∃ p, posC ls i = p := ⟨_, rfl⟩
            rw [hp] at hnp hpl
            rw [HT.out] at hpl
            have HSY : Hid (SymI ls (i + 1) (cs.setIfInBounds p (.int .i64 (i : Nat)))) := by rw [← hp]; exact symI_put hsym.out hil h0 (by rw [HGD.out]; exact hy15)
            have hcs : cs.size = T := by rw [hsym.out.1, HT.out]
            have kD : wr.cell? ⟨dB, 16, none⟩ = some (.slice (some ⟨sB, 0, none⟩) T T) := hDr.cell 16
            have kN : wr.cell? ⟨nB, y, none⟩ = some (.int .i64 (p : Nat)) := by rw [hNr.cell y, arr16_get _ y hy15, hnp]
            have kS : ∃ u, wr.cell? ⟨sB, p, none⟩ = some u := ⟨_, by rw [hSr.cell p, Array.getElem?_eq_getElem (by omega)]⟩
            obtain ⟨old, kS⟩ := kS
            have fS := hSr.frozen p
            have hS8 := (hSr.put p (.int .i64 (i : Nat))).drew
            have hD8 := (hDr.other (p := ⟨sB, p, none⟩) (Nat.ne_of_lt hds) (.int .i64 (i : Nat))).drew
            have hR8 := (hRr.other (p := ⟨sB, p, none⟩) (Nat.ne_of_lt (Nat.lt_trans hBd hds)) (.int .i64 (i : Nat))).drew
            have hN8 := (hNr.other (p := ⟨sB, p, none⟩) (Nat.ne_of_lt hns) (.int .i64 (i : Nat))).drew
            have hb8 := (hbr.setCell (p := ⟨sB, p, none⟩) (Nat.le_of_lt (Nat.lt_trans hBd hds)) (.int .i64 (i : Nat))).drew
            have z1 : (0 : Int) ≤ (p : Int) := by omega
            have z2 : (p : Int) < (T : Int) := by omega
            have HS8 := Lib.hid hS8
            have HD8 := Lib.hid hD8
            have HR8 := Lib.hid hR8
            have HN8 := Lib.hid hN8
            have HB8 := Lib.hid hb8
            have HNP := Lib.hid hnp
            clear hS8 hD8 hR8 hN8 hb8 hnp hp hcs h0 hRr hDr hNr hSr hbr hsym
            go_upto_region 18 with fail
            go_region
            have hS8 := HS8.out
            have hD8 := HD8.out
            have hR8 := HR8.out
            have hN8 := HN8.out
            have hb8 := HB8.out
            clear HS8 HD8 HR8 HN8 HB8 kD kN kS fS z1 z2 q
            generalize (wr.setCell ⟨sB, p, none⟩ (.int .i64 (i : Nat))).drew = w8 at hS8 hD8 hR8 hN8 hb8 ⊢
            have kN : w8.cell? ⟨nB, y, none⟩ = some (.int .i64 (p : Nat)) := by rw [hN8.cell y, arr16_get _ y hy15, HNP.out]
            have fN := hN8.frozen y
            have hN9 := hN8.put y (.int .i64 ((p : Int) + 1))
            have e1 : ((p : Int) + 1) = ((p + 1 : Nat) : Int) := by simp
            rw [e1, arr16_set _ _ _ hy15, ← e1, arr16_congr _ (nxtC ls (i + 1)) (fun k _ => by
              rw [HST.out k]
              by_cases h : k = y
              · subst h; simp [hy, HNP.out]
              · simp [h])] at hN9
            have hnB : B ≤ nB := Nat.le_of_lt (Nat.lt_trans hBd hdn)
            have hS9 := hS8.other (p := ⟨nB, y, none⟩) (Nat.ne_of_gt hns) (.int .i64 ((p : Int) + 1))
            have hD9 := hD8.other (p := ⟨nB, y, none⟩) (Nat.ne_of_lt hdn) (.int .i64 ((p : Int) + 1))
            have hR9 := hR8.other (p := ⟨nB, y, none⟩) (Nat.ne_of_lt (Nat.lt_trans hBd hdn)) (.int .i64 ((p : Int) + 1))
            have hb9 := hb8.setCell (p := ⟨nB, y, none⟩) hnB (.int .i64 ((p : Int) + 1))
            have HS9 := Lib.hid hS9
            have HD9 := Lib.hid hD9
            have HR9 := Lib.hid hR9
            have HN9 := Lib.hid hN9
            have HB9 := Lib.hid hb9
            clear hS8 hD8 hR8 hN8 hb8 hS9 hD9 hR9 hN9 hb9 e1 HST HNP
            go_wp2_with fail
            exact ⟨⟨i + 1, _, by go_num, by omega, HSY, HR9.out, HD9.out, HN9.out, HS9.out, HB9.out⟩, by simp [intOf]; omega⟩
        · have hd : decide ((i : Int) < (ls.length : Int)) = false := by simp; omega
          obtain rfl : i = ls.length := by omega
          have hal := allC_length ls 15
          rw [HT.out] at hal
          have hIR : IRow wr (.slice (some ⟨sB, 0, none⟩) T T) (allC ls 15) := by
            refine ⟨_, T, by rw [hal], by omega, by unfold maxLen; omega, fun _ => ⟨sB, 0, cs, rfl, hSr, fun j hj => ?_⟩⟩
            rw [Nat.zero_add]
            exact symI_end hsym.out j hj
          rw [decA_dec] at hDr
          have hsB : Blk (wr.setRow B (decC ls (.slice (some ⟨sB, 0, none⟩) T T))) sB 3 cs := hSr.setRow_ne _ (Nat.ne_of_gt (Nat.lt_trans hBd hds))
          have hIR2 : IRow (wr.setRow B (decC ls (.slice (some ⟨sB, 0, none⟩) T T))) (.slice (some ⟨sB, 0, none⟩) T T) (allC ls 15) := by
            refine ⟨_, T, by rw [hal], by omega, by unfold maxLen; omega, fun _ => ⟨sB, 0, cs, rfl, hsB, fun j hj => ?_⟩⟩
            rw [Nat.zero_add]
            exact symI_end hsym.out j hj
          have hiD : (Tryz.prog.info? 164).map (·.size) = some (decC ls (.slice (some ⟨sB, 0, none⟩) T T)).size := by rw [← decA_dec]; exact inf19
          have hDs : (decC ls (.slice (some ⟨sB, 0, none⟩) T T)).size = 19 := rfl
          have hD1 : (decC ls (.slice (some ⟨sB, 0, none⟩) T T)).all (·.oneCell') = true := by simp [decC, Value.oneCell']
          have hbz := below_setRow hbr (Nat.le_refl B) (decC ls (.slice (some ⟨sB, 0, none⟩) T T))
          have hRz := hRr.setRow (decC ls (.slice (some ⟨sB, 0, none⟩) T T))
          have HFIN : Hid (∃ sv, Ending.returned (.agg (decC ls (.slice (some ⟨sB, 0, none⟩) T T))) = .returned (.agg (decC ls sv)) ∧ IRow (wr.setRow B (decC ls (.slice (some ⟨sB, 0, none⟩) T T))) sv (allC ls 15)) := ⟨_, rfl, hIR2⟩
          generalize decC ls (.slice (some ⟨sB, 0, none⟩) T T) = E at *
          have HDR := Lib.hid hDr
          have HRR := Lib.hid hRr
          have HID := Lib.hid hiD
          have HZE : Hid (Z.size = E.size) := by show _ = _; rw [hZs, hDs]
          have HD1 := Lib.hid hD1
          have HBZ := Lib.hid hbz
          have HRZ := Lib.hid hRz
          clear hDr hRr hNr hSr hIR hIR2 hsB hiD hDs hD1 hbz hRz hbr hal
          go_wp2_with (first | refine wpList_load_row (o := ⟨some 73, _, _, _, _, _⟩) rfl 164 (.tmp 3) (by rfl) dB (by rfl) 164 E (0, 0) _ (by exact HDR.out) Tryz.underlying164 (by rfl) (by exact HID.out) ?_ | refine wpList_store_rowTo rfl 164 (.tmp 2) (.tmp 73) rfl rfl B E (by rfl) (by rfl) 164 _ (by exact HRR.out) (by exact HID.out) (by exact HZE.out) (by exact HD1.out) ?_)
          refine bodyPost_ret (v := .agg E) (results_cell_row rfl _ _ B 164 E (0, 0) _ (by rfl) HRZ.out Tryz.underlying164 (by rfl) HID.out) rfl ⟨HFIN.out, ?_⟩
          rw [HB.out]
          exact HBZ.out
end Go.Proofs.YthbejefodelpkaaGreat
