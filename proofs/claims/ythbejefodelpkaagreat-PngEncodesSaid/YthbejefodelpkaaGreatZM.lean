/-
  Plain: the pixel of some samples. Walks: png.direct, png.indexed.
  Plain: the pixels in the chunks.
  Plain: an owned row of pixels.
  Plain: the world of the loops over the pixels, in png.readPixels.
-/
import Derived.Test.YthbejefodelpkaaGreatZG14
import Derived.Test.YthbejefodelpkaaGreatZF
import Derived.Deep.RegionLaw
import Derived.Deep.AppendLies
namespace Go.Proofs.YthbejefodelpkaaGreat
open Go.RowKit
set_option maxRecDepth 100000

def smN (s : List UInt8) (n k : Nat) : Nat := beP ((s.take ((k + 1) * n)).drop (k * n))
def smI (s : List UInt8) (n k : Nat) : Int := if n = 1 then from8I (smN s n k : Nat) else (smN s n k : Nat)
/-- The pixel of c samples of n bytes. -/
def dirP (s : List UInt8) (c n : Nat) : Px :=
  if c = 1 then (smI s n 0, smI s n 0, smI s n 0, 65535)
  else if c = 2 then (smI s n 0, smI s n 0, smI s n 0, smI s n 1)
  else if c = 3 then (smI s n 0, smI s n 1, smI s n 2, 65535)
  else (smI s n 0, smI s n 1, smI s n 2, smI s n 3)
def vC (V : List Int) : Array Value := (V.map (Value.int .i64)).toArray
theorem vC_set (V : List Int) (k : Nat) (x : Int) : (vC V).setIfInBounds k (.int .i64 x) = vC (V.set k x) := by
  unfold vC
  rw [List.setIfInBounds_toArray, List.map_set]
def sV (s : List UInt8) (n k : Nat) : List Int := (List.range 4).map fun j => if j < k then smI s n j else 0
theorem sV_len (s : List UInt8) (n k : Nat) : (sV s n k).length = 4 := by simp [sV]
theorem sV_get (s : List UInt8) (n k j : Nat) (h : j < (sV s n k).length) : (sV s n k)[j] = if j < k then smI s n j else 0 := by
  simp only [sV, List.getElem_map, List.getElem_range]
theorem sV_next (s : List UInt8) (n k : Nat) : (sV s n k).set k (smI s n k) = sV s n (k + 1) := by
  apply List.ext_getElem
  · simp [sV]
  · intro j h1 h2
    rw [List.getElem_set]
    split
    · rename_i h; subst h
      rw [sV_get, if_pos (by omega)]
    · rename_i h
      rw [sV_get, sV_get]
      by_cases hj : j < k
      · rw [if_pos hj, if_pos (by omega)]
      · rw [if_neg hj, if_neg (by omega)]
theorem Blk.vcell {w : World} {b : Nat} {t : TypeId} {V : List Int} (h : Blk w b t (vC V)) (k : Nat) (hk : k < V.length) : w.cell? ⟨b, k, none⟩ = some (.int .i64 V[k]) := by
  rw [h.cell k]
  unfold vC
  simp [hk]

set_option maxHeartbeats 8000000 in
theorem direct_any (s : ByteArray) (c n : Nat) (w : World) (hc : c = 1 ∨ c = 2 ∨ c = 3 ∨ c = 4) (hn : n = 1 ∨ n = 2) (hs : s.size = c * n) :
    Calls Tryz.prog 88 #[.string s, .int .i64 c] w fun e w' => e = .returned (.agg (pxC (dirP s.data.toList c n))) ∧ Below w.heap.size w w' := by
  have HN := Lib.hid hn
  have HCC := Lib.hid hc
  have hn2 : n ≤ 2 := by omega
  have hc4 : c ≤ 4 := by omega
  have hs8 : s.size ≤ 8 := by rw [hs]; exact Nat.mul_le_mul hc4 hn2
  have hq : (s.size : Int).tdiv (c : Int) = (n : Int) := by
    rw [hs, Int.natCast_mul, Int.mul_tdiv_cancel_left _ (by omega)]
  have hcz : ¬ ((c : Int) = 0) := by omega
  have HSZ := Lib.hid hs
  have HF := Lib.hid (fun x w => from8_any x w)
  clear hs hc hn
  have HB0 := Lib.hid (((Below.refl w.heap.size w).alloc (Nat.le_refl _) (.cells (pxC (0, 0, 0, 0)) 41)).alloc (by simp) (.cells (vC [0, 0, 0, 0]) 104))
  have HK0 := Lib.hid ((Blk.new w 41 (pxC (0, 0, 0, 0))).alloc (.cells (vC [0, 0, 0, 0]) 104))
  have HK1 := Lib.hid (Blk.new_at (w := w.alloc (.cells (pxC (0, 0, 0, 0)) 41)) (k := w.heap.size + 1) (by simp) 104 (vC [0, 0, 0, 0]))
  have HSV0 : Hid (sV s.data.toList n 0 = [0, 0, 0, 0]) := by show _ = _; simp [sV, List.range_succ]
  go_enter Tryz.func88, Tryz.ntmps88
  go_upto_region 2 with fail
  have e0 : (w.alloc (.cells #[.int .i64 0, .int .i64 0, .int .i64 0, .int .i64 0] 41)).alloc (.cells #[.int .i64 0, .int .i64 0, .int .i64 0, .int .i64 0] 104) = (w.alloc (.cells (pxC (0, 0, 0, 0)) 41)).alloc (.cells (vC [0, 0, 0, 0]) 104) := rfl
  rw [e0]
  clear e0
  generalize (w.alloc (.cells (pxC (0, 0, 0, 0)) 41)).alloc (.cells (vC [0, 0, 0, 0]) 104) = w0 at *
  generalize hB : w.heap.size = B at *
  have HB := Lib.hid hB
  clear hB
  go_wp2_with fail
  go_loopw [13] (fun vk wr => ∃ k : Nat, vk = .int .i64 k ∧ k ≤ c ∧ Hid (Blk wr (B + 1) 104 (vC (sV s.data.toList n k))) ∧ Hid (Blk wr B 41 (pxC (0, 0, 0, 0))) ∧ Hid (Below B w wr)) (fun vk _ => c - (intOf vk).toNat)
  case atStart => exact ⟨0, rfl, Nat.zero_le _, by show Blk _ _ _ _; rw [HSV0.out]; exact HK1.out, HK0.out, HB0.out⟩
  case round =>
    clear HB0 HK0 HK1 HSV0
    obtain ⟨k, rfl, hk, hbv, hbp, hbw⟩ := hrel
    by_cases hlt : k < c
    · have dk : decide ((k : Int) < (c : Int)) = true := by simp; omega
      have hk4 : (k : Int) < 4 := by omega
      obtain ⟨a1, ha1⟩ : ∃ a, a = k * n := ⟨_, rfl⟩
      obtain ⟨a2, ha2⟩ : ∃ a, a = (k + 1) * n := ⟨_, rfl⟩
      have h12 : a2 = a1 + n := by rw [ha1, ha2, Nat.add_mul, Nat.one_mul]
      have h2s : a2 ≤ s.size := by rw [ha2, HSZ.out]; exact Nat.mul_le_mul_right n hlt
      have hm1 : (k : Int) * (n : Int) = (a1 : Int) := by rw [ha1]; simp
      have hm2 : ((k : Int) + 1) * (n : Int) = (a2 : Int) := by rw [ha2]; simp
      have HNB : Hid (∀ w, Calls Tryz.prog 32 #[.string (s.extract a1 a2)] w fun e w' => e = .returned (.int .i64 (smN s.data.toList n k : Nat)) ∧ w = w') := fun w => by
        refine (gnumber_any _ w (by simp; omega)).mono ?_
        rintro e w' ⟨rfl, rfl⟩
        refine ⟨?_, rfl⟩
        rw [extract_list]
        unfold smN
        rw [← ha1, ← ha2]
      have HNX := Lib.hid (sV_next s.data.toList n k)
      have HSI : Hid (smI s.data.toList n k = if n = 1 then from8I (smN s.data.toList n k : Nat) else (smN s.data.toList n k : Nat)) := rfl
      obtain ⟨V, hV⟩ : ∃ V, sV s.data.toList n k = V := ⟨_, rfl⟩
      have hVl : V.length = 4 := by rw [← hV]; exact sV_len _ _ _
      rw [hV] at hbv HNX
      obtain ⟨x, hx⟩ : ∃ x, smN s.data.toList n k = x := ⟨_, rfl⟩
      rw [hx] at HNB HSI
      have c1 := hbv.out.vcell k (by omega)
      have f1 := hbv.out.frozen k
      have HP1 := Lib.hid (hbv.out.put k (.int .i64 (x : Nat)))
      rw [vC_set] at HP1
      have HP0 : Hid (Blk (wr.setCell ⟨B + 1, k, none⟩ (.int .i64 (x : Nat))) B 41 (pxC (0, 0, 0, 0))) := hbp.out.other (by simp) _
      have HPW : Hid (Below B w (wr.setCell ⟨B + 1, k, none⟩ (.int .i64 (x : Nat)))) := below_put hbw.out (by simp) _
      have HA12 := Lib.hid h12
      have hle12 : (a1 : Int) ≤ (a2 : Int) := by omega
      have h2si : (a2 : Int) ≤ (s.size : Int) := by omega
      clear hV hx ha1 ha2 h12 hbv hbp hbw
      go_wp2_with fail
      refine (HNB.out _).mono ?_
      rintro e w1 ⟨rfl, rfl⟩
      go_upto_region 7 with fail
      clear c1 f1 HNB
      generalize wr.setCell ⟨B + 1, k, none⟩ (.int .i64 (x : Nat)) = wp at *
      have hVl2 : (V.set k (x : Nat)).length = 4 := by rw [List.length_set]; exact hVl
      have c1 : wp.cell? ⟨B + 1, k, none⟩ = some (.int .i64 (x : Nat)) := by
        have := HP1.out.vcell k (by omega)
        rw [List.getElem_set_self] at this
        exact this
      have f1 := HP1.out.frozen k
      by_cases hn1 : n = 1
      · have dn : ((n : Int) == 1) = true := by rw [hn1]; rfl
        have HS2 : Hid (smI s.data.toList n k = from8I (x : Nat)) := by show _ = _; rw [HSI.out, if_pos hn1]
        obtain ⟨y, hy⟩ : ∃ y, from8I (x : Nat) = y := ⟨_, rfl⟩
        have HF2 := Lib.hid (HF.out (x : Nat))
        rw [hy] at HS2 HF2
        have HP2 := Lib.hid (HP1.out.put k (.int .i64 y))
        rw [vC_set, List.set_set, ← HS2.out, HNX.out] at HP2
        have HP3 : Hid (Blk (wp.setCell ⟨B + 1, k, none⟩ (.int .i64 y)) B 41 (pxC (0, 0, 0, 0))) := HP0.out.other (by simp) _
        have HPW3 : Hid (Below B w (wp.setCell ⟨B + 1, k, none⟩ (.int .i64 y))) := below_put HPW.out (by simp) _
        rw [HS2.out] at HP2
        clear hy hn1 HP1
        go_wp2_with fail
        refine (HF2.out _).mono ?_
        rintro e w1 ⟨rfl, rfl⟩
        go_wp2_with fail
        go_roundw
        case rel => exact ⟨k + 1, by go_num, by omega, HP2, HP3, HPW3⟩
        case measure => simp [intOf]; omega
      · have dn : ((n : Int) == 1) = false := by rw [beq_eq_false_iff_ne]; omega
        have HS2 : Hid (smI s.data.toList n k = (x : Nat)) := by show _ = _; rw [HSI.out, if_neg hn1]
        rw [← HS2.out, HNX.out] at HP1
        clear hn1
        go_wp2_with fail
        go_roundw
        case rel => exact ⟨k + 1, by go_num, by omega, HP1, HP0, HPW⟩
        case measure => simp [intOf]; omega
    · have dk : decide ((k : Int) < (c : Int)) = false := by simp; omega
      have hkc : k = c := by omega
      have HG : Hid (∀ j (h : j < c), wr.cell? ⟨B + 1, j, none⟩ = some (.int .i64 (smI s.data.toList n j))) := fun j hj => by
        have := hbv.out.vcell j (by rw [sV_len]; omega)
        rw [sV_get, if_pos (by omega)] at this
        exact this
      have HD : Hid (dirP s.data.toList c n = if c = 1 then (smI s.data.toList n 0, smI s.data.toList n 0, smI s.data.toList n 0, 65535)
        else if c = 2 then (smI s.data.toList n 0, smI s.data.toList n 0, smI s.data.toList n 0, smI s.data.toList n 1)
        else if c = 3 then (smI s.data.toList n 0, smI s.data.toList n 1, smI s.data.toList n 2, 65535)
        else (smI s.data.toList n 0, smI s.data.toList n 1, smI s.data.toList n 2, smI s.data.toList n 3)) := rfl
      obtain ⟨s0, hs0⟩ : ∃ z, smI s.data.toList n 0 = z := ⟨_, rfl⟩
      obtain ⟨s1, hs1⟩ : ∃ z, smI s.data.toList n 1 = z := ⟨_, rfl⟩
      obtain ⟨s2, hs2⟩ : ∃ z, smI s.data.toList n 2 = z := ⟨_, rfl⟩
      obtain ⟨s3, hs3⟩ : ∃ z, smI s.data.toList n 3 = z := ⟨_, rfl⟩
      rw [hs0, hs1, hs2, hs3] at HD
      clear hkc hbv hq
      have hcs := HCC.out
      rcases hcs with rfl | rfl | rfl | rfl
      · have y0 := HG.out 0 (by omega)
        rw [hs0] at y0
        have HD2 : Hid (dirP s.data.toList 1 n = (s0, s0, s0, 65535)) := HD.out
        clear hs0 hs1 hs2 hs3 HD HG
        go_wp2_with (refine wpList_store_rowTo rfl 41 (.tmp 4) (.tmp 46) rfl rfl B (pxC (s0, s0, s0, 65535)) (by rfl) (by rfl) 41 (pxC (0, 0, 0, 0)) (by exact hbp.out) (pxC_inf _) rfl (pxC_one _) ?_)
        refine bodyPost_ret (v := .agg (pxC (s0, s0, s0, 65535))) (results_cell_row rfl _ _ B 41 (pxC (s0, s0, s0, 65535)) (0, 0) _ rfl (hbp.out.rset _) Tryz.underlying41 rfl (pxC_inf _)) rfl ⟨?_, by rw [HB.out]; exact below_rset hbw.out (Nat.le_refl _) _⟩
        rw [HD2.out]
      · have y0 := HG.out 0 (by omega)
        have y1 := HG.out 1 (by omega)
        rw [hs0] at y0
        rw [hs1] at y1
        have HD2 : Hid (dirP s.data.toList 2 n = (s0, s0, s0, s1)) := HD.out
        clear hs0 hs1 hs2 hs3 HD HG
        go_wp2_with (refine wpList_store_rowTo rfl 41 (.tmp 4) (.tmp 57) rfl rfl B (pxC (s0, s0, s0, s1)) (by rfl) (by rfl) 41 (pxC (0, 0, 0, 0)) (by exact hbp.out) (pxC_inf _) rfl (pxC_one _) ?_)
        refine bodyPost_ret (v := .agg (pxC (s0, s0, s0, s1))) (results_cell_row rfl _ _ B 41 (pxC (s0, s0, s0, s1)) (0, 0) _ rfl (hbp.out.rset _) Tryz.underlying41 rfl (pxC_inf _)) rfl ⟨?_, by rw [HB.out]; exact below_rset hbw.out (Nat.le_refl _) _⟩
        rw [HD2.out]
      · have y0 := HG.out 0 (by omega)
        have y1 := HG.out 1 (by omega)
        have y2 := HG.out 2 (by omega)
        rw [hs0] at y0
        rw [hs1] at y1
        rw [hs2] at y2
        have HD2 : Hid (dirP s.data.toList 3 n = (s0, s1, s2, 65535)) := HD.out
        clear hs0 hs1 hs2 hs3 HD HG
        go_wp2_with (refine wpList_store_rowTo rfl 41 (.tmp 4) (.tmp 66) rfl rfl B (pxC (s0, s1, s2, 65535)) (by rfl) (by rfl) 41 (pxC (0, 0, 0, 0)) (by exact hbp.out) (pxC_inf _) rfl (pxC_one _) ?_)
        refine bodyPost_ret (v := .agg (pxC (s0, s1, s2, 65535))) (results_cell_row rfl _ _ B 41 (pxC (s0, s1, s2, 65535)) (0, 0) _ rfl (hbp.out.rset _) Tryz.underlying41 rfl (pxC_inf _)) rfl ⟨?_, by rw [HB.out]; exact below_rset hbw.out (Nat.le_refl _) _⟩
        rw [HD2.out]
      · have y0 := HG.out 0 (by omega)
        have y1 := HG.out 1 (by omega)
        have y2 := HG.out 2 (by omega)
        have y3 := HG.out 3 (by omega)
        rw [hs0] at y0
        rw [hs1] at y1
        rw [hs2] at y2
        rw [hs3] at y3
        have HD2 : Hid (dirP s.data.toList 4 n = (s0, s1, s2, s3)) := HD.out
        clear hs0 hs1 hs2 hs3 HD HG
        go_wp2_with (refine wpList_store_rowTo rfl 41 (.tmp 4) (.tmp 75) rfl rfl B (pxC (s0, s1, s2, s3)) (by rfl) (by rfl) 41 (pxC (0, 0, 0, 0)) (by exact hbp.out) (pxC_inf _) rfl (pxC_one _) ?_)
        refine bodyPost_ret (v := .agg (pxC (s0, s1, s2, s3))) (results_cell_row rfl _ _ B 41 (pxC (s0, s1, s2, s3)) (0, 0) _ rfl (hbp.out.rset _) Tryz.underlying41 rfl (pxC_inf _)) rfl ⟨?_, by rw [HB.out]; exact below_rset hbw.out (Nat.le_refl _) _⟩
        rw [HD2.out]
/-- The color k of a palette. -/
def idxP (k : Nat) (cs av : List UInt8) : Px :=
  if k < av.length then ((dirP ((cs.take (3 * k + 3)).drop (3 * k)) 3 1).1, (dirP ((cs.take (3 * k + 3)).drop (3 * k)) 3 1).2.1, (dirP ((cs.take (3 * k + 3)).drop (3 * k)) 3 1).2.2.1, from8I (bt av k : Nat))
  else dirP ((cs.take (3 * k + 3)).drop (3 * k)) 3 1
set_option maxHeartbeats 8000000 in
theorem indexed_any (k : Nat) (C A : ByteArray) (w : World) (hk : k ≤ 255) (hC : 3 * k + 3 ≤ C.size) (hC2 : C.size ≤ 1000000000) :
    Calls Tryz.prog 89 #[.int .i64 k, .string C, .string A] w fun e w' => e = .returned (.agg (pxC (idxP k C.data.toList A.data.toList))) ∧ Below w.heap.size w w' := by
  obtain ⟨a1, ha1⟩ : ∃ a, 3 * k = a := ⟨_, rfl⟩
  obtain ⟨a2, ha2⟩ : ∃ a, 3 * k + 3 = a := ⟨_, rfl⟩
  have HD : Hid (∀ w, Calls Tryz.prog 88 #[.string (C.extract a1 a2), .int .i64 3] w fun e w' => e = .returned (.agg (pxC (dirP ((C.data.toList.take a2).drop a1) 3 1))) ∧ Below w.heap.size w w') := fun w => by
    have h := direct_any (C.extract a1 a2) 3 1 w (by omega) (by omega) (by simp; omega)
    rw [extract_list] at h
    exact h
  have HQ : Hid (idxP k C.data.toList A.data.toList = if k < A.data.toList.length then ((dirP ((C.data.toList.take a2).drop a1) 3 1).1, (dirP ((C.data.toList.take a2).drop a1) 3 1).2.1, (dirP ((C.data.toList.take a2).drop a1) 3 1).2.2.1, from8I (bt A.data.toList k : Nat)) else dirP ((C.data.toList.take a2).drop a1) 3 1) := by
    show _ = _
    rw [← ha1, ← ha2]
    rfl
  have m1 : (3 : Int) * (k : Int) = (a1 : Int) := by omega
  have m2 : (a1 : Int) + 3 = (a2 : Int) := by omega
  have m3 : (a1 : Int) ≤ (a2 : Int) := by omega
  have m4 : (a2 : Int) ≤ (C.size : Int) := by omega
  have hb1 : a1 ≤ 1000 := by omega
  obtain ⟨⟨r, g, b, a⟩, hp⟩ : ∃ p : Px, dirP ((C.data.toList.take a2).drop a1) 3 1 = p := ⟨_, rfl⟩
  rw [hp] at HD HQ
  change Hid (∀ w, Calls Tryz.prog 88 #[.string (C.extract a1 a2), .int .i64 3] w fun e w' => e = .returned (.agg #[.int .i64 r, .int .i64 g, .int .i64 b, .int .i64 a]) ∧ Below w.heap.size w w') at HD
  have HF := Lib.hid (fun x w => from8_any x w)
  have HLA : Hid (A.data.toList.length = A.size) := by show _ = _; simp
  have HB0 := Lib.hid ((Below.refl w.heap.size w).alloc (Nat.le_refl _) (.cells (pxC (0, 0, 0, 0)) 41))
  have HK0 := Lib.hid (Blk.new w 41 (pxC (0, 0, 0, 0)))
  clear ha1 ha2 hp hC
  go_enter Tryz.func89, Tryz.ntmps89
  go_upto_region 1 with fail
  have e0 : w.alloc (.cells #[.int .i64 0, .int .i64 0, .int .i64 0, .int .i64 0] 41) = w.alloc (.cells (pxC (0, 0, 0, 0)) 41) := rfl
  rw [e0]
  clear e0
  generalize w.alloc (.cells (pxC (0, 0, 0, 0)) 41) = w0 at *
  generalize hB : w.heap.size = B at *
  have HB := Lib.hid hB
  clear hB
  go_wp2_with fail
  refine (HD.out _).mono ?_
  rintro e w1 ⟨rfl, hb⟩
  have HK1 := Lib.hid (HK0.out.keep hb)
  have HB1 : Hid (Below B w w1) := HB0.out.trans (hb.mono (Nat.le_of_lt HK0.out.lt))
  clear hb HB0 HK0 HD
  have HK2 := Lib.hid (HK1.out.alloc (.cells #[.int .i64 r, .int .i64 g, .int .i64 b, .int .i64 a] 41))
  have HB2 := Lib.hid (HB1.out.alloc (Nat.le_of_lt HK1.out.lt) (.cells #[.int .i64 r, .int .i64 g, .int .i64 b, .int .i64 a] 41))
  have HN2 : Hid (Blk (w1.alloc (.cells #[.int .i64 r, .int .i64 g, .int .i64 b, .int .i64 a] 41)) w1.heap.size 41 (pxC (r, g, b, a))) := Blk.new w1 _ _
  have HBK : Hid (B < w1.heap.size) := HK1.out.lt
  go_upto_region 2 with fail
  generalize w1.alloc (.cells #[.int .i64 r, .int .i64 g, .int .i64 b, .int .i64 a] 41) = w2 at *
  generalize w1.heap.size = K at *
  clear HK1 HB1
  by_cases hka : k < A.size
  · have dk : decide ((k : Int) < (A.size : Int)) = true := by simp; omega
    have hki : (k : Int) < (A.size : Int) := by omega
    obtain ⟨z, hz⟩ : ∃ n, (A[k]'hka).toNat = n := ⟨_, rfl⟩
    have hzb : bt A.data.toList k = z := by rw [bt_get A k hka]; exact hz
    have hz8 : z ≤ 255 := by have := (A[k]'hka).toNat_lt; omega
    have hzw : IntKind.i64.wrap (z : Int) = (z : Int) := by rw [IntKind.wrap_i64]; omega
    obtain ⟨y, hy⟩ : ∃ y, from8I (z : Nat) = y := ⟨_, rfl⟩
    have HF2 := Lib.hid (HF.out (z : Nat))
    rw [hy] at HF2
    have HQ2 : Hid (idxP k C.data.toList A.data.toList = (r, g, b, y)) := by show _ = _; rw [HQ.out, HLA.out, if_pos hka, hzb, hy]
    have c3 := HN2.out.cell 3
    have f3 := HN2.out.frozen 3
    simp [pxC] at c3
    have HP1 : Hid (Blk (w2.setCell ⟨K, 3, none⟩ (.int .i64 y)) K 41 (pxC (r, g, b, y))) := HN2.out.put 3 (.int .i64 y)
    have HP0 : Hid (Blk (w2.setCell ⟨K, 3, none⟩ (.int .i64 y)) B 41 (pxC (0, 0, 0, 0))) := HK2.out.other (by simp; exact Nat.ne_of_lt HBK.out) _
    have HPW : Hid (Below B w (w2.setCell ⟨K, 3, none⟩ (.int .i64 y))) := below_put HB2.out (by exact Nat.le_of_lt HBK.out) _
    clear hzb hy HQ HF
    go_wp2_with fail
    refine (HF2.out _).mono ?_
    rintro e w3 ⟨rfl, rfl⟩
    go_upto_region 4 with fail
    generalize w2.setCell ⟨K, 3, none⟩ (.int .i64 y) = w4 at *
    go_wp2_with (first | refine wpList_load_row rfl 41 (.tmp 7) rfl K (by rfl) 41 (pxC (r, g, b, y)) (0, 0) _ (by exact HP1.out) Tryz.underlying41 rfl (pxC_inf _) ?_ | refine wpList_store_rowTo rfl 41 (.tmp 6) (.tmp 26) rfl rfl B (pxC (r, g, b, y)) (by rfl) (by rfl) 41 (pxC (0, 0, 0, 0)) (by exact HP0.out) (pxC_inf _) rfl (pxC_one _) ?_)
    refine bodyPost_ret (v := .agg (pxC (r, g, b, y))) (results_cell_row rfl _ _ B 41 (pxC (r, g, b, y)) (0, 0) _ rfl (HP0.out.rset _) Tryz.underlying41 rfl (pxC_inf _)) rfl ⟨?_, by rw [HB.out]; exact below_rset HPW.out (Nat.le_refl _) _⟩
    rw [HQ2.out]
  · have dk : decide ((k : Int) < (A.size : Int)) = false := by simp; omega
    have HQ2 : Hid (idxP k C.data.toList A.data.toList = (r, g, b, a)) := by show _ = _; rw [HQ.out, HLA.out, if_neg hka]
    go_wp2_with (first | refine wpList_load_row rfl 41 (.tmp 7) rfl K (by rfl) 41 (pxC (r, g, b, a)) (0, 0) _ (by exact HN2.out) Tryz.underlying41 rfl (pxC_inf _) ?_ | refine wpList_store_rowTo rfl 41 (.tmp 6) (.tmp 26) rfl rfl B (pxC (r, g, b, a)) (by rfl) (by rfl) 41 (pxC (0, 0, 0, 0)) (by exact HK2.out) (pxC_inf _) rfl (pxC_one _) ?_)
    refine bodyPost_ret (v := .agg (pxC (r, g, b, a))) (results_cell_row rfl _ _ B 41 (pxC (r, g, b, a)) (0, 0) _ rfl (HK2.out.rset _) Tryz.underlying41 rfl (pxC_inf _)) rfl ⟨?_, by rw [HB.out]; exact below_rset HB2.out (Nat.le_refl _) _⟩
    rw [HQ2.out]
end Go.Proofs.YthbejefodelpkaaGreat
namespace Go.Proofs.YthbejefodelpkaaGreat
open Go.RowKit
set_option maxRecDepth 100000

/-- The samples of a pixel. -/
def chanP (c : Nat) : Nat := if c = 0 ∨ c = 3 then 1 else if c = 2 then 3 else if c = 4 then 2 else 4
def bppP (d c : Nat) : Nat := chanP c * d / 8
/-- Pixel x of a line. -/
def pixG (c n : Nat) (pal alp line : List UInt8) (x : Nat) : Option Px :=
  let p := (line.take ((x + 1) * (chanP c * n))).drop (x * (chanP c * n))
  if c ≠ 3 then some (dirP p (chanP c) n)
  else if pal.length ≤ 3 * bt p 0 then none
  else some (idxP (bt p 0) pal alp)
def rowG (c n : Nat) (pal alp line : List UInt8) : Nat → Option (List Px)
  | 0 => some []
  | x + 1 => match rowG c n pal alp line x with
    | none => none
    | some l => match pixG c n pal alp line x with
      | none => none
      | some p => some (l ++ [p])
/-- The bytes of a line, out of the filtered ones. -/
def unG (bpp sz : Nat) (s above : List UInt8) (y : Nat) : Option (List UInt8) :=
  let line := (s.take ((y + 1) * sz)).drop (y * sz)
  if fchk (bt line 0 : Nat) bpp (line.drop 1) above ≠ 0 then none else some (unfP (bt line 0 : Nat) bpp (line.drop 1) above)
/-- The last line and the pixels of the first lines. -/
def picG (c n W : Nat) (pal alp s : List UInt8) : Nat → Option (List UInt8 × List Px)
  | 0 => some ([], [])
  | y + 1 => match picG c n W pal alp s y with
    | none => none
    | some (a, l) => match unG (chanP c * n) (1 + W * (chanP c * n)) s a y with
      | none => none
      | some a' => match rowG c n pal alp a' W with
        | none => none
        | some r => some (a', l ++ r)
def pixR (l : List Mt) (W H d c : Nat) : Except Nat (List Px) :=
  match zliP 1048576 (datP l idatN) with
  | .error k => .error k
  | .ok s =>
    if s.length < H * (1 + W * (chanP c * (d / 8))) then .error 5
    else if H * (1 + W * (chanP c * (d / 8))) < s.length then .error 6
    else match picG c (d / 8) W (datP l plteN) (datP l trnsN) s H with
      | none => .error 4
      | some (_, px) => .ok px
theorem rowG_len {c n : Nat} {pal alp line : List UInt8} {x : Nat} {l : List Px} (h : rowG c n pal alp line x = some l) : l.length = x := by
  induction x generalizing l with
  | zero => unfold rowG at h; cases h; rfl
  | succ x ih =>
    unfold rowG at h
    split at h
    · cases h
    · rename_i l0 h0
      split at h
      · cases h
      · cases h
        rw [List.length_append, ih h0]; rfl
theorem picG_len {c n W : Nat} {pal alp s : List UInt8} {y : Nat} {a : List UInt8} {l : List Px} (h : picG c n W pal alp s y = some (a, l)) : l.length = y * W := by
  induction y generalizing a l with
  | zero => unfold picG at h; cases h; simp
  | succ y ih =>
    unfold picG at h
    split at h
    · cases h
    · rename_i a0 l0 h0
      split at h
      · cases h
      · split at h
        · cases h
        · rename_i r hr
          cases h
          rw [List.length_append, ih h0, rowG_len hr, Nat.add_mul, Nat.one_mul]
/-- A line that fails ends all. -/
theorem picG_dead {c n W : Nat} {pal alp s : List UInt8} {y : Nat} (h : picG c n W pal alp s y = none) (z : Nat) (hz : y ≤ z) : picG c n W pal alp s z = none := by
  induction z with
  | zero =>
    have : y = 0 := by omega
    subst this; exact h
  | succ z ih =>
    by_cases e : y = z + 1
    · subst e; exact h
    · unfold picG
      rw [ih (by omega)]
theorem rowG_dead {c n : Nat} {pal alp line : List UInt8} {x : Nat} (h : rowG c n pal alp line x = none) (z : Nat) (hz : x ≤ z) : rowG c n pal alp line z = none := by
  induction z with
  | zero =>
    have : x = 0 := by omega
    subst this; exact h
  | succ z ih =>
    by_cases e : x = z + 1
    · subst e; exact h
    · unfold rowG
      rw [ih (by omega)]
end Go.Proofs.YthbejefodelpkaaGreat
namespace Go.Proofs.YthbejefodelpkaaGreat
open Go.RowKit

def pcells (l : List Px) : List Value := (pixA l).toList
theorem pcells_append (a b : List Px) : pcells (a ++ b) = pcells a ++ pcells b := by simp [pcells, pixA]
/-- The slice value v owns a row of pixels, from block base on. -/
def POwn (w : World) (base : Nat) (v : Value) (l : List Px) : Prop := w.ownsRow base 41 4 v l.length (pcells l)
theorem pown_more {w : World} {base : Nat} {v : Value} {n : Nat} {l : List Px} {xs : List Value} (h : w.ownsRow base 41 4 v n (pcells l ++ xs)) (new : List Px) (hx : xs = pcells new) (hn : n = l.length + new.length) : POwn w base v (l ++ new) := by
  subst hx; subst hn
  unfold POwn
  rw [pcells_append, List.length_append]
  exact h
theorem pown_shape {w : World} {b : Nat} {v : Value} {l : List Px} (h : POwn w b v l) : ∃ x c, v = .slice x l.length c := by
  rcases h.2 with ⟨rfl, h0⟩ | ⟨g, cap, cur, rfl, _⟩
  · exact ⟨none, 0, by rw [h0]⟩
  · exact ⟨_, _, rfl⟩
theorem POwn.prow {w : World} {base : Nat} {v : Value} {l : List Px} (h : POwn w base v l) : PRow w v l := by
  rcases h.2 with ⟨rfl, h0⟩ | ⟨g, cap, cur, rfl, _, hg, hc, hm, _⟩
  · have : l = [] := List.eq_nil_of_length_eq_zero h0
    subst this
    exact ⟨none, 0, rfl, Nat.le_refl _, by unfold maxLen; omega, fun _ => rfl, fun h => absurd rfl h⟩
  · refine ⟨_, cap, rfl, hc, hm, (fun h => by cases h), fun _ => ⟨g, 0, rfl, fun i hi => ?_⟩⟩
    have gt : ∀ j, j < 4 → w.cell? ⟨g, i * 4 + j, none⟩ = some (.int .i64 (pxG l[i] j)) := fun j hj => by
      have e := pixA_get l i j hi hj
      have e2 : (pcells l)[i * 4 + j]? = some (.int .i64 (pxG l[i] j)) := by unfold pcells; rw [Array.getElem?_toList]; exact e
      have := World.ownsRow.cells h (g := g) rfl _ _ e2
      rw [Addr.add_lit] at this
      simpa using this
    refine ⟨?_, ?_, ?_, ?_⟩
    · have := gt 0 (by decide); simp only [pxG, Nat.zero_add, Nat.add_zero] at this ⊢; exact this
    · have := gt 1 (by decide); simp only [pxG, Nat.zero_add] at this ⊢; exact this
    · have := gt 2 (by decide); simp only [pxG, Nat.zero_add] at this ⊢; exact this
    · have := gt 3 (by decide); simp only [pxG, Nat.zero_add] at this ⊢; exact this

theorem pown_put {w : World} {B k : Nat} {v : Value} {l : List Px} {t : TypeId} {cs : Array Value} (h : POwn w B v l) (hb : Blk w k t cs) (ht : t ≠ 41) (i : Nat) (u : Value) : POwn (w.setCell ⟨k, i, none⟩ u) B v l :=
  ((Fr.refl k [t] w).put hb (Nat.le_refl _) (by simp) i u).owns h (by simpa using fun e => ht e.symm)
theorem grown_of_below {w w' : World} (h : Below w.heap.size w w') : w.grownBy w' none := ⟨h.os, h.tape, h.output, h.size, fun k hk _ => h.block k hk⟩
theorem own_below {w w' : World} {base e size : Nat} {v : Value} {n : Nat} {xs : List Value} (h : w.ownsRow base e size v n xs) (hb : Below w.heap.size w w') : w'.ownsRow base e size v n xs := by
  refine h.kept (grown_of_below hb) ?_
  cases hv : v.ownBlock with
  | none => exact Or.inl rfl
  | some k => exact Or.inr (by simp)
theorem pown_one {v : Value} {w : World} {b : Nat} {l : List Px} (h : POwn w b v l) : v.oneCell' = true := by
  obtain ⟨x, c, rfl⟩ := pown_shape h; rfl
end Go.Proofs.YthbejefodelpkaaGreat
namespace Go.Proofs.YthbejefodelpkaaGreat
open Go.RowKit

/-- 'append(out, x1, ..)' within a region that draws its order. -/
theorem step_appP {P : Program} {w : World} {ops : Array Oper} {o : Oper} {a : Act} {K : Act → World → Prop} {Q : Exit → Act → World → Prop} {E : Prop} {t e : TypeId} {z : Value} {size bytes : Nat} (hE : Elem P t e z size bytes) (hgd : o.guard = none) {s x : Operand}
    (ho : o.op = .call { callee := .builtin .append, args := #[s, x], argTypes := #[t, t] }) {base : Nat} {v : Value} {n : Nat} {xs : List Value} (hs : a.eval s = v) (hown : w.ownsRow base e size v n xs) {cs : Array Value} {m k : Nat}
    (hx : a.eval x = .slice (some ⟨k, 0, none⟩) (m + 1) (m + 1)) (hb : Blk w k e cs) (hm : cs.size = (m + 1) * size) (h1 : ∀ u ∈ cs.toList, u.oneCell' = true) (hlen : (n + (m + 1)) * bytes ≤ 140737488355328) (h63 : n + (m + 1) ≤ maxLen) (hbase : base ≤ w.heap.size)
    (h : ∀ r cap w', w'.ownsRow base e size (.slice (some ⟨r, 0, none⟩) (n + (m + 1)) cap) (n + (m + 1)) (xs ++ cs.toList) → w.grownBy w' v.ownBlock → K (a.put o.dst (.slice (some ⟨r, 0, none⟩) (n + (m + 1)) cap)) w') :
    if Region.wanted o (yielded ops a.tmps) = true then Oper.wp P o a w K Q else E := by
  obtain ⟨ht, ⟨i, hi, hz, hsz, hby⟩, hzs, hp⟩ := hE
  exact step_append_lies (w := w) hgd s x t ho base e i z size bytes ht hi hz hsz hby hzs hp v n xs hs hown ⟨k, 0, none⟩ (m + 1) (m + 1) cs.toList hx (by simpa using hm) (World.news_of_block hb) h1 (by omega) h63 hlen hbase _ rfl fun g cap w' a1 a2 _ _ => h g cap w' a1 a2
theorem grown_rset (w : World) (g : Nat) (cs : Array Value) : w.grownBy (w.setRow g cs) (some g) := ⟨rfl, rfl, rfl, Nat.le_of_eq (rset_size w g cs).symm, fun k _ hk => heap_rset_ne w g k cs (fun e => hk (by rw [e]))⟩
theorem mrow_heap {w w' : World} {v : Value} {l : List Mt} {k : Nat} {t : TypeId} {cs : Array Value} (h : MRow w v l) (hb : Blk w k t cs) (hns : ∀ (i : Nat) (s : ByteArray), cs[i]? ≠ some (.string s)) (hw : ∀ j, j ≠ k → w'.heap[j]? = w.heap[j]?) : MRow w' v l := by
  obtain ⟨x, c, rfl, h1, h2, h3, h4⟩ := h
  refine ⟨x, c, rfl, h1, h2, h3, fun hne => ?_⟩
  obtain ⟨b, off, rfl, hc⟩ := h4 hne
  have hbk : b ≠ k := by
    rintro rfl
    have hl : 0 < l.length := List.length_pos_iff.2 hne
    have := (hc 0 hl).1
    rw [hb.cell] at this
    exact hns _ _ this
  have hcell : ∀ o, w'.cell? ⟨b, o, none⟩ = w.cell? ⟨b, o, none⟩ := fun o => by
    simp only [World.cell?, hw b hbk]
  exact ⟨b, off, rfl, fun i hi => ⟨(hcell _).trans (hc i hi).1, (hcell _).trans (hc i hi).2⟩⟩
theorem imgI_inf (w h : Int) (v : Value) : (Tryz.prog.info? 36).map (·.size) = some (imgI w h v).size := by show _ = some 3; kernel_rfl
theorem imgI_one (w h : Int) (v : Value) (hv : v.oneCell' = true) : (imgI w h v).all (·.oneCell') = true := by
  unfold Value.oneCell' at hv
  simp [imgI, Value.oneCell']; exact hv
/-- The cells of the loops: the image that grows, its pixels, the header, the result's cell. -/
structure RP (w wr : World) (B I : Nat) (W H d c : Nat) (v : Value) (l : List Px) : Prop where
  ix : Blk wr I 36 (imgI W H v)
  po : wr.ownsRow B 41 4 v l.length (pcells l)
  hd : Blk wr B 76 (hdC W H d c)
  im : Blk wr (B + 1) 36 (imgI 0 0 (.slice none 0 0))
  be : Below B w wr
  lt : B + 1 < I
theorem RP.size {w wr : World} {B I W H d c : Nat} {v : Value} {l : List Px} (h : RP w wr B I W H d c v l) : B ≤ wr.heap.size := Nat.le_of_lt h.hd.lt
theorem RP.below {w wr w2 : World} {B I W H d c : Nat} {v : Value} {l : List Px} (h : RP w wr B I W H d c v l) (hb : Below wr.heap.size wr w2) : RP w w2 B I W H d c v l :=
  ⟨h.ix.keep hb, own_below h.po hb, h.hd.keep hb, h.im.keep hb, h.be.trans (hb.mono h.size), h.lt⟩
theorem RP.alloc {w wr : World} {B I W H d c : Nat} {v : Value} {l : List Px} (h : RP w wr B I W H d c v l) (o : Obj) : RP w (wr.alloc o) B I W H d c v l := h.below ((Below.refl _ _).alloc (Nat.le_refl _) o)
theorem RP.drew {w wr : World} {B I W H d c : Nat} {v : Value} {l : List Px} (h : RP w wr B I W H d c v l) : RP w wr.drew B I W H d c v l := h.below (Below.refl _ _).drew
theorem imgI_set2 (W H : Int) (v u : Value) : (imgI W H v).setIfInBounds 2 u = imgI W H u := by simp [imgI]
theorem RP.next {w wr w4 : World} {B I W H d c : Nat} {v v' : Value} {l : List Px} {p : Px} (h : RP w wr B I W H d c v l) (ho : w4.ownsRow B 41 4 v' (l.length + 1) (pcells l ++ (pxC p).toList)) (hg : wr.grownBy w4 v.ownBlock) :
    Blk w4 I 36 (imgI W H v) ∧ RP w (w4.setCell ⟨I, 2, none⟩ v') B I W H d c v' (l ++ [p]) := by
  have hi : Blk w4 I 36 (imgI W H v) := (hg.block I h.ix.lt (own_blk_ne' h.ix h.po.2 (by decide))).trans h.ix
  have hh : Blk w4 B 76 (hdC W H d c) := (hg.block B h.hd.lt (own_blk_ne' h.hd h.po.2 (by decide))).trans h.hd
  have hm : Blk w4 (B + 1) 36 (imgI 0 0 (.slice none 0 0)) := (hg.block _ h.im.lt (own_blk_ne' h.im h.po.2 (by decide))).trans h.im
  have hb : Below B w w4 := h.be.grown hg h.size (fun k hk => (World.ownsRow.lt h.po k hk).1)
  have h2 := hi.put 2 v'
  rw [imgI_set2] at h2
  have hlt := h.lt
  have hp1 : POwn w4 B v' (l ++ [p]) := pown_more (n := l.length + 1) ho [p] (by simp [pcells, pixA]) rfl
  exact ⟨hi, h2, pown_put hp1 hi (by decide) 2 v', hh.other (p := ⟨I, 2, none⟩) (by show B ≠ I; omega) _, hm.other (p := ⟨I, 2, none⟩) (by show B + 1 ≠ I; omega) _, below_put hb (p := ⟨I, 2, none⟩) (by show B ≤ I; omega) _, hlt⟩
theorem RP.fin {w wr : World} {B I W H d c : Nat} {v : Value} {l : List Px} (h : RP w wr B I W H d c v l) (cs : Array Value) :
    Blk (wr.setRow (B + 1) cs) (B + 1) 36 cs ∧ POwn (wr.setRow (B + 1) cs) B v l ∧ Below B w (wr.setRow (B + 1) cs) :=
  ⟨h.im.rset cs, h.po.kept (grown_rset wr (B + 1) cs) (Or.inr (own_blk_ne' h.im h.po.2 (by decide)).symm), below_rset h.be (by omega) cs⟩
end Go.Proofs.YthbejefodelpkaaGreat
