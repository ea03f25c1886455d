/-
  Plain: what IHDR says. Walk: png.readHeader.
-/
import Derived.Test.YthbejefodelpkaaGreatZL
import Derived.Deep.CutBlock
namespace Go.Proofs.YthbejefodelpkaaGreat
open Go.RowKit
set_option maxRecDepth 100000

def ihdrN : List UInt8 := [73, 72, 68, 82]
def plteN : List UInt8 := [80, 76, 84, 69]
def idatN : List UInt8 := [73, 68, 65, 84]
def trnsN : List UInt8 := [116, 82, 78, 83]
def textN : List UInt8 := [116, 69, 88, 116]
def bt (d : List UInt8) (k : Nat) : Nat := (d.getD k 0).toNat
def ihdrOk : List Mt → Bool
  | [] => false
  | c :: r => c.1 == ihdrN && r.all fun m => !(m.1 == ihdrN)
def kindOk (d c : Nat) : Bool := if c = 0 ∨ c = 2 ∨ c = 4 ∨ c = 6 then decide (d = 8 ∨ d = 16) else if c = 3 then decide (d = 8) else false
def critOk (m : Mt) : Bool := m.1 == ihdrN || m.1 == plteN || m.1 == idatN || m.1 == iendP || !decide (bt m.1 0 ≤ 90)
def hdrD (l : List Mt) : List UInt8 := (l.headD ([], [])).2
def hdrP (l : List Mt) : Except Nat (Nat × Nat × Nat × Nat) :=
  if ihdrOk l = false ∨ (hdrD l).length ≠ 13 then .error 4
  else if bt (hdrD l) 10 ≠ 0 ∨ bt (hdrD l) 11 ≠ 0 then .error 4
  else if beP ((hdrD l).take 4) < 1 ∨ 256 < beP ((hdrD l).take 4) ∨ beP (((hdrD l).take 8).drop 4) < 1 ∨ 256 < beP (((hdrD l).take 8).drop 4) then .error 15
  else if kindOk (bt (hdrD l) 8) (bt (hdrD l) 9) = false then .error 8
  else if bt (hdrD l) 12 ≠ 0 then .error 8
  else if l.all critOk = false then .error 8
  else .ok (beP ((hdrD l).take 4), beP (((hdrD l).take 8).drop 4), bt (hdrD l) 8, bt (hdrD l) 9)
/-- The cells of a header. -/
def hdC (a b c d : Nat) : Array Value := #[.int .i64 a, .int .i64 b, .int .i64 c, .int .i64 d]
theorem hdC_inf (a b c d : Nat) : (Tryz.prog.info? 76).map (·.size) = some (hdC a b c d).size := by
  show _ = some 4
  kernel_rfl
theorem hdC_one (a b c d : Nat) : (hdC a b c d).all (·.oneCell') = true := by simp [hdC, Value.oneCell']
def HrOk (r : Except Nat (Nat × Nat × Nat × Nat)) (e : Ending) : Prop :=
  match r with
  | .error k => e = .returned (.tuple #[.agg (hdC 0 0 0 0), .int .i64 (k : Nat)])
  | .ok (a, b, c, d) => e = .returned (.tuple #[.agg (hdC a b c d), .int .i64 0])
theorem ihdrOk_iff (l : List Mt) : ihdrOk l = true ↔ 0 < l.length ∧ ∀ j (h : j < l.length), (l[j].1 == ihdrN) = decide (j = 0) := by
  cases l with
  | nil => simp [ihdrOk]
  | cons c r =>
    unfold ihdrOk
    rw [Bool.and_eq_true, List.all_eq_true]
    constructor
    · rintro ⟨h1, h2⟩
      refine ⟨by simp, fun j hj => ?_⟩
      cases j with
      | zero => simpa using h1
      | succ k =>
        have hk : k < r.length := by simpa using hj
        have := h2 r[k] (List.getElem_mem hk)
        simpa using this
    · rintro ⟨-, h⟩
      refine ⟨h 0 (Nat.succ_pos _), fun m hm => ?_⟩
      obtain ⟨j, hj, rfl⟩ := List.mem_iff_getElem.1 hm
      have := h (j + 1) (by simpa using hj)
      simpa using this
theorem kindOk_yes {d c : Nat} (h : kindOk d c = true) : (c = 0 ∨ c = 2 ∨ c = 4 ∨ c = 6) ∧ (d = 8 ∨ d = 16) ∨ c = 3 ∧ d = 8 := by
  unfold kindOk at h
  split at h
  · rename_i h1; exact Or.inl ⟨h1, by simpa using h⟩
  · split at h
    · rename_i h1; exact Or.inr ⟨h1, by simpa using h⟩
    · cases h
theorem kindOk_no {d c : Nat} (h : kindOk d c = false) : ((c = 0 ∨ c = 2 ∨ c = 4 ∨ c = 6) ∧ d ≠ 8 ∧ d ≠ 16) ∨ (c = 3 ∧ d ≠ 8) ∨ (c ≠ 0 ∧ c ≠ 2 ∧ c ≠ 4 ∧ c ≠ 6 ∧ c ≠ 3) := by
  unfold kindOk at h
  split at h
  · rename_i h1
    have : ¬ (d = 8 ∨ d = 16) := by simpa using h
    exact Or.inl ⟨h1, by omega, by omega⟩
  · split at h
    · rename_i h1; exact Or.inr (Or.inl ⟨h1, by simpa using h⟩)
    · exact Or.inr (Or.inr (by omega))
theorem bt_get (D : ByteArray) (k : Nat) (h : k < D.size) : bt D.data.toList k = (D[k]).toNat := by
  unfold bt
  rw [List.getD_eq_getElem?_getD, List.getElem?_eq_getElem (by simpa using h)]
  rfl

theorem gnumber_run (u : Value) (w : World) : (callFunc 32 #[u]).run Tryz.prog w = .ok (.enter 32 #[u]) w := by kernel_rfl

set_option maxHeartbeats 8000000 in
theorem readHeader_any (v : Value) (l : List Mt) (w : World) (hr : MRow w v l) (hl : l.length ≤ 1000000000) (hn4 : ∀ m ∈ l, m.1.length = 4) :
    Calls Tryz.prog 58 #[v] w fun e w' => HrOk (hdrP l) e ∧ Below w.heap.size w w' := by
  have HN4 := Lib.hid hn4
  have HIO := Lib.hid (ihdrOk_iff l)
  have HEQ : Hid (hdrP l = if ihdrOk l = false ∨ (hdrD l).length ≠ 13 then .error 4
    else if bt (hdrD l) 10 ≠ 0 ∨ bt (hdrD l) 11 ≠ 0 then .error 4
    else if beP ((hdrD l).take 4) < 1 ∨ 256 < beP ((hdrD l).take 4) ∨ beP (((hdrD l).take 8).drop 4) < 1 ∨ 256 < beP (((hdrD l).take 8).drop 4) then .error 15
    else if kindOk (bt (hdrD l) 8) (bt (hdrD l) 9) = false then .error 8
    else if bt (hdrD l) 12 ≠ 0 then .error 8
    else if l.all critOk = false then .error 8
    else .ok (beP ((hdrD l).take 4), beP (((hdrD l).take 8).drop 4), bt (hdrD l) 8, bt (hdrD l) 9)) := rfl
  have HR := Lib.hid hr
  obtain ⟨x, c, rfl, hc1, hc2, -, -⟩ := id hr
  unfold maxLen at hc2
  have HB0 := Lib.hid ((Below.refl w.heap.size w).alloc (Nat.le_refl _) (.cells (hdC 0 0 0 0) 76))
  have HK0 := Lib.hid (Blk.new w 76 (hdC 0 0 0 0))
  obtain ⟨B, hB⟩ : ∃ B, B = w.heap.size := ⟨_, rfl⟩
  have HB := Lib.hid hB
  clear hr hn4
  go_enter Tryz.func58, Tryz.ntmps58
  go_upto_region 1 with fail
  change Hid (Below w.heap.size w (w.alloc (.cells #[.int .i64 0, .int .i64 0, .int .i64 0, .int .i64 0] 76))) at HB0
  change Hid (Blk (w.alloc (.cells #[.int .i64 0, .int .i64 0, .int .i64 0, .int .i64 0] 76)) w.heap.size 76 (hdC 0 0 0 0)) at HK0
  generalize w.alloc (.cells #[.int .i64 0, .int .i64 0, .int .i64 0, .int .i64 0] 76) = w0 at *
  rw [← hB] at HB0 HK0 ⊢
  clear hB
  go_wp2_with fail
  go_loopw [12] (fun vi wr => ∃ i : Nat, vi = .int .i64 i ∧ i ≤ l.length ∧ Hid (∀ j (h : j < l.length), j < i → (l[j].1 == ihdrN) = decide (j = 0)) ∧ Hid (Blk wr B 76 (hdC 0 0 0 0)) ∧ Hid (Below B w wr)) (fun vi _ => l.length - (intOf vi).toNat)
  case atStart => exact ⟨0, rfl, Nat.zero_le _, fun j _ hj => absurd hj (by omega), HK0.out, HB0.out⟩
  case round =>
    clear HK0 HB0
    obtain ⟨i, rfl, hi, hch, hbk, hbw⟩ := hrel
    by_cases hli : i < l.length
    · obtain ⟨b, off, rfl, q1, q2⟩ := (HR.out.below (by rw [← HB.out]; exact hbw.out)).at2 i hli rfl
      obtain ⟨mk, mv, hm⟩ : ∃ mk mv, l[i] = (mk, mv) := ⟨_, _, rfl⟩
      have HM := Lib.hid hm
      rw [hm] at q1 q2
      simp only at q1 q2
      have hd : decide ((i : Int) < (l.length : Int)) = true := by simp; omega
      have i1 : (i : Int) < (l.length : Int) := by omega
      have hszr : B ≤ wr.heap.size := Nat.le_of_lt hbk.out.lt
      have HBA := Lib.hid (hbw.out.alloc hszr (.cells #[.string ⟨mk.toArray⟩, .string ⟨mv.toArray⟩] 53))
      have HKA := Lib.hid (hbk.out.alloc (.cells #[.string ⟨mk.toArray⟩, .string ⟨mv.toArray⟩] 53))
      have HQB := Lib.hid (Blk.new wr 53 #[.string ⟨mk.toArray⟩, .string ⟨mv.toArray⟩])
      clear hm hbw hbk
      go_upto_region 4 with fail
      clear q1 q2
      generalize wr.alloc (.cells #[.string ⟨mk.toArray⟩, .string ⟨mv.toArray⟩] 53) = wb at *
      generalize wr.heap.size = KB at *
      have q1 : wb.cell? ⟨KB, 0, none⟩ = some (.string ⟨mk.toArray⟩) := HQB.out.cell 0
      obtain ⟨bi, hbi⟩ : ∃ b : Bool, decide (i = 0) = b := ⟨_, rfl⟩
      have hbi2 : ((i : Int) == 0) = bi := by rw [← hbi, Bool.eq_iff_iff]; simp
      obtain ⟨bm, hbm⟩ : ∃ b : Bool, (mk == [73, 72, 68, 82]) = b := ⟨_, rfl⟩
      have HGO : Hid (bm = bi → ∀ j (h : j < l.length), j < i + 1 → (l[j].1 == ihdrN) = decide (j = 0)) := fun e j hj hji => by
        by_cases e2 : j = i
        · subst e2; rw [HM.out, hbi, ← e]; exact hbm
        · exact hch.out j hj (by omega)
      have HNO : Hid (bm ≠ bi → hdrP l = .error 4) := fun e => by
        rw [HEQ.out, if_pos]
        left
        rw [Bool.eq_false_iff]
        intro h
        have := (HIO.out.1 h).2 i hli
        rw [HM.out, hbi] at this
        exact e (hbm.symm.trans this)
      clear hbi
      cases hbx : (bm == bi) with
      | true =>
        have HGX := Lib.hid (HGO.out (by simpa using hbx))
        clear HGO HNO
        go_wp2_with fail
        go_roundw
        case rel => exact ⟨i + 1, by go_num, by omega, HGX, HKA, HBA⟩
        case measure => simp [intOf]; omega
      | false =>
        have HGX := Lib.hid (HNO.out (by simpa using hbx))
        clear HGO HNO
        go_wp2_with (refine wpList_rset_same rfl 76 (.tmp 2) (.tmp 23) rfl rfl B (hdC 0 0 0 0) (by rfl) (by rfl) 76 (by exact HKA.out) (hdC_inf _ _ _ _) (hdC_one _ _ _ _) ?_)
        refine bodyPost_ret (v := .tuple #[.agg (hdC 0 0 0 0), .int .i64 4]) (results_ct rfl _ _ B 76 (hdC 0 0 0 0) (0, 0) _ _ rfl rfl HKA.out Tryz.underlying76 rfl (hdC_inf _ _ _ _)) rfl ⟨?_, by rw [← HB.out]; exact HBA.out⟩
        rw [HGX.out]
        rfl
    · have hd : decide ((i : Int) < (l.length : Int)) = false := by simp; omega
      have HALL : Hid (0 < l.length → ihdrOk l = true) := fun h => HIO.out.2 ⟨h, fun j hj => hch.out j hj (by omega)⟩
      clear hch HIO
      by_cases hl0 : l.length = 0
      · have HE : Hid (hdrP l = .error 4) := by
          show _ = _
          have : l = [] := List.eq_nil_of_length_eq_zero hl0
          rw [HEQ.out, if_pos]
          left; rw [this]; rfl
        have dl : ((l.length : Int) == 0) = true := by rw [hl0]; rfl
        clear hl0 HEQ
        go_wp2_with (refine wpList_rset_same rfl 76 (.tmp 2) (.tmp 36) rfl rfl B (hdC 0 0 0 0) (by rfl) (by rfl) 76 (by exact hbk.out) (hdC_inf _ _ _ _) (hdC_one _ _ _ _) ?_)
        refine bodyPost_ret (v := .tuple #[.agg (hdC 0 0 0 0), .int .i64 4]) (results_ct rfl _ _ B 76 (hdC 0 0 0 0) (0, 0) _ _ rfl rfl hbk.out Tryz.underlying76 rfl (hdC_inf _ _ _ _)) rfl ⟨?_, by rw [← HB.out]; exact hbw.out⟩
        rw [HE.out]
        rfl
      have dl : ((l.length : Int) == 0) = false := by rw [beq_eq_false_iff_ne]; omega
      have hl1 : 0 < l.length := by omega
      have hl1i : (0 : Int) < (l.length : Int) := by omega
      have HI := Lib.hid (HALL.out hl1)
      obtain ⟨b, off, rfl, q1, q2⟩ := (HR.out.below (by rw [← HB.out]; exact hbw.out)).at2 0 hl1 rfl
      have HDX : Hid (hdrD l = l[0].2) := by
        show _ = _
        cases l with
        | nil => simp at hl1
        | cons c r => rfl
      obtain ⟨D, hD⟩ : ∃ D : ByteArray, D = ⟨(l[0].2).toArray⟩ := ⟨_, rfl⟩
      rw [← hD] at q2
      have HDL : Hid (hdrD l = D.data.toList) := by show _ = _; rw [HDX.out, hD]
      have HDZ : Hid ((hdrD l).length = D.size) := by show _ = _; rw [HDL.out]; simp
      clear HDX hD HALL hl0 q1
      simp only [Nat.zero_mul, Nat.add_zero] at q2
      by_cases h13 : D.size = 13
      · have HZ13 := Lib.hid h13
        have HE2 : Hid (hdrP l = if bt D.data.toList 10 ≠ 0 ∨ bt D.data.toList 11 ≠ 0 then .error 4
            else if beP (D.data.toList.take 4) < 1 ∨ 256 < beP (D.data.toList.take 4) ∨ beP ((D.data.toList.take 8).drop 4) < 1 ∨ 256 < beP ((D.data.toList.take 8).drop 4) then .error 15
            else if kindOk (bt D.data.toList 8) (bt D.data.toList 9) = false then .error 8
            else if bt D.data.toList 12 ≠ 0 then .error 8
            else if l.all critOk = false then .error 8
            else .ok (beP (D.data.toList.take 4), beP ((D.data.toList.take 8).drop 4), bt D.data.toList 8, bt D.data.toList 9)) := by
          show _ = _
          rw [HEQ.out, if_neg, HDL.out]
          rw [HI.out, HDZ.out]
          rintro (h | h)
          · cases h
          · exact h h13
        have HBT : Hid (∀ k (h : k < D.size), bt D.data.toList k = (D[k]).toNat) := fun k h => bt_get D k h
        have HG1 : Hid (∀ w, Calls Tryz.prog 32 #[.string (D.extract 0 4)] w fun e w' => ∃ v, e = .returned v ∧ (v = .int .i64 (beP (D.data.toList.take 4) : Nat) ∧ w = w')) := fun w => by
          refine (gnumber_any _ w (by simp; omega)).mono ?_
          rintro e w' ⟨rfl, rfl⟩
          exact ⟨_, rfl, by rw [extract_list, List.drop_zero], rfl⟩
        have HG2 : Hid (∀ w, Calls Tryz.prog 32 #[.string (D.extract 4 8)] w fun e w' => ∃ v, e = .returned v ∧ (v = .int .i64 (beP ((D.data.toList.take 8).drop 4) : Nat) ∧ w = w')) := fun w => by
          refine (gnumber_any _ w (by simp; omega)).mono ?_
          rintro e w' ⟨rfl, rfl⟩
          exact ⟨_, rfl, by rw [extract_list], rfl⟩
        have hW4 : beP (D.data.toList.take 4) < 4294967296 := Nat.lt_of_lt_of_le (beP_lt _) (Nat.pow_le_pow_right (by decide) (by simp; omega) : _ ≤ 256 ^ 4)
        have hH4 : beP ((D.data.toList.take 8).drop 4) < 4294967296 := Nat.lt_of_lt_of_le (beP_lt _) (Nat.pow_le_pow_right (by decide) (by simp; omega) : _ ≤ 256 ^ 4)
        clear HEQ HDZ HI
        obtain ⟨Wn, hWn⟩ : ∃ n, beP (D.data.toList.take 4) = n := ⟨_, rfl⟩
        obtain ⟨Hn, hHn⟩ : ∃ n, beP ((D.data.toList.take 8).drop 4) = n := ⟨_, rfl⟩
        rw [hWn] at HG1 HE2 hW4
        rw [hHn] at HG2 HE2 hH4
        clear hWn hHn
        obtain ⟨n8, hb8⟩ : ∃ n, (D[8]'(by omega)).toNat = n := ⟨_, rfl⟩
        obtain ⟨n9, hb9⟩ : ∃ n, (D[9]'(by omega)).toNat = n := ⟨_, rfl⟩
        obtain ⟨n10, hb10⟩ : ∃ n, (D[10]'(by omega)).toNat = n := ⟨_, rfl⟩
        obtain ⟨n11, hb11⟩ : ∃ n, (D[11]'(by omega)).toNat = n := ⟨_, rfl⟩
        obtain ⟨n12, hb12⟩ : ∃ n, (D[12]'(by omega)).toNat = n := ⟨_, rfl⟩
        rw [HBT.out 8 (by omega), HBT.out 9 (by omega), HBT.out 10 (by omega), HBT.out 11 (by omega), HBT.out 12 (by omega), hb8, hb9, hb10, hb11, hb12] at HE2
        have l8 : n8 ≤ 255 := by have := (D[8]'(by omega)).toNat_lt; omega
        have l9 : n9 ≤ 255 := by have := (D[9]'(by omega)).toNat_lt; omega
        have hw8 : IntKind.i64.wrap (n8 : Int) = (n8 : Int) := by rw [IntKind.wrap_i64]; omega
        have hw9 : IntKind.i64.wrap (n9 : Int) = (n9 : Int) := by rw [IntKind.wrap_i64]; omega
        clear HBT HDL
        by_cases h10 : n10 = 0
        · have d10 : ((n10 : Int) != 0) = false := by rw [h10]; rfl
          by_cases h11 : n11 = 0
          · have d11 : ((n11 : Int) != 0) = false := by rw [h11]; rfl
            have HE3 : Hid (hdrP l = if Wn < 1 ∨ 256 < Wn ∨ Hn < 1 ∨ 256 < Hn then .error 15
                else if kindOk n8 n9 = false then .error 8
                else if n12 ≠ 0 then .error 8
                else if l.all critOk = false then .error 8
                else .ok (Wn, Hn, n8, n9)) := by
              show _ = _
              rw [HE2.out, if_neg (by rintro (h | h); exact h h10; exact h h11)]
            clear HE2 h10 h11
            go_upto_region 12 with fail
            have HNC : ∀ wx, Hid (Below B w wx) → Hid (Blk wx B 76 (hdC 0 0 0 0)) → Hid (Below B w (wx.alloc (.cells #[.int .i64 (Wn : Int), .int .i64 (Hn : Int), .int .i64 (n8 : Int), .int .i64 (n9 : Int)] 76))) := fun wx h1 h2 => h1.out.alloc (Nat.le_of_lt h2.out.lt) _
            go_cut [7] from 50 to 62 (fun v7 wx => ∃ K, v7 = .pointer (some ⟨K, 0, none⟩) ∧ B < K ∧ Hid (Blk wx K 76 (hdC Wn Hn n8 n9)) ∧ Hid (Blk wx B 76 (hdC 0 0 0 0)) ∧ Hid (Below B w wx))
            case first =>
              go_region_law (first
                | (refine step_call (vs := #[.string (D.extract 0 4)]) rfl rfl ?_ (gnumber_run _ _) (HG1.out _) ?_; simp [Act.eval, Act.put]; rintro vX wX ⟨rfl, rfl⟩)
                | (refine step_call (vs := #[.string (D.extract 4 8)]) rfl rfl ?_ (gnumber_run _ _) (HG2.out _) ?_; simp [Act.eval, Act.put]; rintro vX wX ⟨rfl, rfl⟩))
              all_goals
                go_wp2_with fail
                go_meet
                case rel => exact ⟨_, rfl, hbk.out.lt, (Blk.new _ _ _).drew, (hbk.out.alloc _).drew, (HNC _ hbw hbk).out.drew⟩
            case rest =>
            clear HNC hbk hbw HG1 HG2 q2
            obtain ⟨K, rfl, hBK, hbx, hbk, hbw⟩ := hcut
            have k0 := hbx.out.cell 0
            have k1 := hbx.out.cell 1
            have k2 := hbx.out.cell 2
            have k3 := hbx.out.cell 3
            simp [hdC] at k0 k1 k2 k3
            by_cases hsz : Wn < 1 ∨ 256 < Wn ∨ Hn < 1 ∨ 256 < Hn
            · have HE : Hid (hdrP l = .error 15) := by show _ = _; rw [HE3.out, if_pos hsz]
              clear HE3
              by_cases c1 : Wn < 1
              · have d1 : decide ((Wn : Int) < 1) = true := by simp; omega
                clear hsz c1
                go_wp2_with (refine wpList_rset_same rfl 76 (.tmp 2) (.tmp 81) rfl rfl B (hdC 0 0 0 0) (by rfl) (by rfl) 76 (by exact hbk.out) (hdC_inf _ _ _ _) (hdC_one _ _ _ _) ?_)
                refine bodyPost_ret (v := .tuple #[.agg (hdC 0 0 0 0), .int .i64 15]) (results_ct rfl _ _ B 76 (hdC 0 0 0 0) (0, 0) _ _ rfl rfl hbk.out Tryz.underlying76 rfl (hdC_inf _ _ _ _)) rfl ⟨?_, by rw [← HB.out]; exact hbw.out⟩
                rw [HE.out]
                rfl
              have d1 : decide ((Wn : Int) < 1) = false := by simp; omega
              by_cases c2 : 256 < Wn
              · have d2 : decide ((256 : Int) < (Wn : Int)) = true := by simp; omega
                clear hsz c1 c2
                go_wp2_with (refine wpList_rset_same rfl 76 (.tmp 2) (.tmp 81) rfl rfl B (hdC 0 0 0 0) (by rfl) (by rfl) 76 (by exact hbk.out) (hdC_inf _ _ _ _) (hdC_one _ _ _ _) ?_)
                refine bodyPost_ret (v := .tuple #[.agg (hdC 0 0 0 0), .int .i64 15]) (results_ct rfl _ _ B 76 (hdC 0 0 0 0) (0, 0) _ _ rfl rfl hbk.out Tryz.underlying76 rfl (hdC_inf _ _ _ _)) rfl ⟨?_, by rw [← HB.out]; exact hbw.out⟩
                rw [HE.out]
                rfl
              have d2 : decide ((256 : Int) < (Wn : Int)) = false := by simp; omega
              by_cases c3 : Hn < 1
              · have d3 : decide ((Hn : Int) < 1) = true := by simp; omega
                clear hsz c1 c2 c3
                go_wp2_with (refine wpList_rset_same rfl 76 (.tmp 2) (.tmp 81) rfl rfl B (hdC 0 0 0 0) (by rfl) (by rfl) 76 (by exact hbk.out) (hdC_inf _ _ _ _) (hdC_one _ _ _ _) ?_)
                refine bodyPost_ret (v := .tuple #[.agg (hdC 0 0 0 0), .int .i64 15]) (results_ct rfl _ _ B 76 (hdC 0 0 0 0) (0, 0) _ _ rfl rfl hbk.out Tryz.underlying76 rfl (hdC_inf _ _ _ _)) rfl ⟨?_, by rw [← HB.out]; exact hbw.out⟩
                rw [HE.out]
                rfl
              have d3 : decide ((Hn : Int) < 1) = false := by simp; omega
              have c4 : 256 < Hn := by omega
              have d4 : decide ((256 : Int) < (Hn : Int)) = true := by simp; omega
              clear hsz c1 c2 c3 c4
              go_wp2_with (refine wpList_rset_same rfl 76 (.tmp 2) (.tmp 81) rfl rfl B (hdC 0 0 0 0) (by rfl) (by rfl) 76 (by exact hbk.out) (hdC_inf _ _ _ _) (hdC_one _ _ _ _) ?_)
              refine bodyPost_ret (v := .tuple #[.agg (hdC 0 0 0 0), .int .i64 15]) (results_ct rfl _ _ B 76 (hdC 0 0 0 0) (0, 0) _ _ rfl rfl hbk.out Tryz.underlying76 rfl (hdC_inf _ _ _ _)) rfl ⟨?_, by rw [← HB.out]; exact hbw.out⟩
              rw [HE.out]
              rfl
            have HE4 : Hid (hdrP l = if kindOk n8 n9 = false then .error 8
                else if n12 ≠ 0 then .error 8
                else if l.all critOk = false then .error 8
                else .ok (Wn, Hn, n8, n9)) := by show _ = _; rw [HE3.out, if_neg hsz]
            have d1 : decide ((Wn : Int) < 1) = false := by simp; omega
            have d2 : decide ((256 : Int) < (Wn : Int)) = false := by simp; omega
            have d3 : decide ((Hn : Int) < 1) = false := by simp; omega
            have d4 : decide ((256 : Int) < (Hn : Int)) = false := by simp; omega
            clear hsz HE3
            go_upto_block 2 with fail
            cases hkk : kindOk n8 n9 with
            | false =>
              have HE : Hid (hdrP l = .error 8) := by show _ = _; rw [HE4.out, if_pos hkk]
              have hno := kindOk_no hkk
              clear HE4 hkk
              rcases hno with ⟨hc, hd8, hd16⟩ | ⟨rfl, hd8⟩ | ⟨hc0, hc2, hc4, hc6, hc3⟩
              · have e8 : ((n8 : Int) != 8) = true := by simp; omega
                have e16 : ((n8 : Int) != 16) = true := by simp; omega
                clear hd8 hd16
                rcases hc with rfl | rfl | rfl | rfl
                all_goals
                  go_wp2_with (refine wpList_rset_same rfl 76 (.tmp 2) (.tmp 98) rfl rfl B (hdC 0 0 0 0) (by rfl) (by rfl) 76 (by exact hbk.out) (hdC_inf _ _ _ _) (hdC_one _ _ _ _) ?_)
                  refine bodyPost_ret (v := .tuple #[.agg (hdC 0 0 0 0), .int .i64 8]) (results_ct rfl _ _ B 76 (hdC 0 0 0 0) (0, 0) _ _ rfl rfl hbk.out Tryz.underlying76 rfl (hdC_inf _ _ _ _)) rfl ⟨?_, by rw [← HB.out]; exact hbw.out⟩
                  rw [HE.out]
                  rfl
              · have e8 : ((n8 : Int) != 8) = true := by simp; omega
                clear hd8
                go_wp2_with (refine wpList_rset_same rfl 76 (.tmp 2) (.tmp 104) rfl rfl B (hdC 0 0 0 0) (by rfl) (by rfl) 76 (by exact hbk.out) (hdC_inf _ _ _ _) (hdC_one _ _ _ _) ?_)
                refine bodyPost_ret (v := .tuple #[.agg (hdC 0 0 0 0), .int .i64 8]) (results_ct rfl _ _ B 76 (hdC 0 0 0 0) (0, 0) _ _ rfl rfl hbk.out Tryz.underlying76 rfl (hdC_inf _ _ _ _)) rfl ⟨?_, by rw [← HB.out]; exact hbw.out⟩
                rw [HE.out]
                rfl
              · have e0 : ((n9 : Int) == 0) = false := by rw [beq_eq_false_iff_ne]; omega
                have e2 : ((n9 : Int) == 2) = false := by rw [beq_eq_false_iff_ne]; omega
                have e4 : ((n9 : Int) == 4) = false := by rw [beq_eq_false_iff_ne]; omega
                have e6 : ((n9 : Int) == 6) = false := by rw [beq_eq_false_iff_ne]; omega
                have e3 : ((n9 : Int) == 3) = false := by rw [beq_eq_false_iff_ne]; omega
                clear hc0 hc2 hc4 hc6 hc3
                go_wp2_with (refine wpList_rset_same rfl 76 (.tmp 2) (.tmp 84) rfl rfl B (hdC 0 0 0 0) (by rfl) (by rfl) 76 (by exact hbk.out) (hdC_inf _ _ _ _) (hdC_one _ _ _ _) ?_)
                refine bodyPost_ret (v := .tuple #[.agg (hdC 0 0 0 0), .int .i64 8]) (results_ct rfl _ _ B 76 (hdC 0 0 0 0) (0, 0) _ _ rfl rfl hbk.out Tryz.underlying76 rfl (hdC_inf _ _ _ _)) rfl ⟨?_, by rw [← HB.out]; exact hbw.out⟩
                rw [HE.out]
                rfl
            | true =>
              have HE5 : Hid (hdrP l = if n12 ≠ 0 then .error 8
                else if l.all critOk = false then .error 8
                else .ok (Wn, Hn, n8, n9)) := by show _ = _; rw [HE4.out, if_neg (by rw [hkk]; decide)]
              clear HE4
              go_cut [] from 84 to 104 (fun wx => wx = wc)
              case first =>
                have hyes := kindOk_yes hkk
                clear hkk HE5
                rcases hyes with ⟨rfl | rfl | rfl | rfl, rfl | rfl⟩ | ⟨rfl, rfl⟩
                all_goals
                  go_wp2_with fail
                  go_meet
                  case rel => rfl
              case rest =>
              subst hcut
              clear hkk
              by_cases h12 : n12 = 0
              · have d12 : ((n12 : Int) != 0) = false := by rw [h12]; rfl
                have HE6 : Hid (hdrP l = if l.all critOk = false then .error 8 else .ok (Wn, Hn, n8, n9)) := by show _ = _; rw [HE5.out, if_neg (by simpa using h12)]
                clear HE5 h12 k0 k1 k2 k3
                go_wp2_with fail
                go_loopw [111] (fun vi wr => ∃ i : Nat, vi = .int .i64 i ∧ i ≤ l.length ∧ Hid (∀ j (h : j < l.length), j < i → critOk l[j] = true) ∧ Hid (Blk wr B 76 (hdC 0 0 0 0)) ∧ Hid (Blk wr K 76 (hdC Wn Hn n8 n9)) ∧ Hid (Below B w wr)) (fun vi _ => l.length - (intOf vi).toNat)
                case atStart => exact ⟨0, rfl, Nat.zero_le _, fun j _ hj => absurd hj (by omega), hbk.out, hbx.out, hbw.out⟩
                case round =>
                  clear hbk hbx hbw
                  obtain ⟨i, rfl, hi, hch, hbk, hbx, hbw⟩ := hrel
                  by_cases hli : i < l.length
                  · obtain ⟨b', off', hbo, q1, q2⟩ := (HR.out.below (by rw [← HB.out]; exact hbw.out)).at2 i hli rfl
                    cases hbo
                    have hml := HN4.out l[i] (List.getElem_mem hli)
                    obtain ⟨mk, mv, hm⟩ : ∃ mk mv, l[i] = (mk, mv) := ⟨_, _, rfl⟩
                    have HM := Lib.hid hm
                    rw [hm] at q1 q2 hml
                    simp only at q1 q2 hml
                    obtain ⟨M, hM⟩ : ∃ M : ByteArray, M = ⟨mk.toArray⟩ := ⟨_, rfl⟩
                    have hMl : M.toList = mk := by rw [hM, ByteArray.toList_eq]
                    have hMs : M.size = 4 := by rw [hM]; simpa [ByteArray.size] using hml
                    rw [← hM] at q1
                    obtain ⟨z, hz⟩ : ∃ n, (M[0]'(by omega)).toNat = n := ⟨_, rfl⟩
                    have hzb : bt mk 0 = z := by rw [← hz, ← bt_get M 0 (by omega), hM]
                    obtain ⟨b1, e1⟩ : ∃ b : Bool, (M.toList == [73, 72, 68, 82]) = b := ⟨_, rfl⟩
                    obtain ⟨b2, e2⟩ : ∃ b : Bool, (M.toList == [80, 76, 84, 69]) = b := ⟨_, rfl⟩
                    obtain ⟨b3, e3⟩ : ∃ b : Bool, (M.toList == [73, 68, 65, 84]) = b := ⟨_, rfl⟩
                    obtain ⟨b4, e4⟩ : ∃ b : Bool, (M.toList == [73, 69, 78, 68]) = b := ⟨_, rfl⟩
                    have HC : Hid (critOk l[i] = (b1 || b2 || b3 || b4 || !decide (z ≤ 90))) := by
                      show _ = _
                      rw [← e1, ← e2, ← e3, ← e4, hMl, ← hzb, HM.out]
                      rfl
                    have HYES : Hid ((b1 || b2 || b3 || b4 || !decide (z ≤ 90)) = true → ∀ j (h : j < l.length), j < i + 1 → critOk l[j] = true) := fun e j hj hji => by
                      by_cases e2 : j = i
                      · subst e2; rw [HC.out]; exact e
                      · exact hch.out j hj (by omega)
                    have HNO : Hid ((b1 || b2 || b3 || b4 || !decide (z ≤ 90)) = false → hdrP l = .error 8) := fun e => by
                      rw [HE6.out, if_pos]
                      rw [Bool.eq_false_iff]
                      intro h
                      have := List.all_eq_true.1 h l[i] (List.getElem_mem hli)
                      rw [HC.out, e] at this
                      cases this
                    have hd : decide ((i : Int) < (l.length : Int)) = true := by simp; omega
                    have i1 : (i : Int) < (l.length : Int) := by omega
                    have hszr : B ≤ wr.heap.size := Nat.le_of_lt hbk.out.lt
                    have HBA := Lib.hid (hbw.out.alloc hszr (.cells #[.string M, .string ⟨mv.toArray⟩] 53))
                    have HKA := Lib.hid (hbk.out.alloc (.cells #[.string M, .string ⟨mv.toArray⟩] 53))
                    have HXA := Lib.hid (hbx.out.alloc (.cells #[.string M, .string ⟨mv.toArray⟩] 53))
                    have HQB := Lib.hid (Blk.new wr 53 #[.string M, .string ⟨mv.toArray⟩])
                    clear hm hbw hbk hbx hMl hM hml hzb
                    go_upto_region 31 with fail
                    clear q1 q2
                    generalize wr.alloc (.cells #[.string M, .string ⟨mv.toArray⟩] 53) = wb at *
                    generalize wr.heap.size = KB at *
                    have q1 : wb.cell? ⟨KB, 0, none⟩ = some (.string M) := HQB.out.cell 0
                    cases b1 with
                    | true =>
                      have HCR : (true || b2 || b3 || b4 || !decide (z ≤ 90)) = true := by simp
                      replace HCR := Lib.hid (HYES.out HCR)
                      clear HNO HYES
                      go_wp2_with fail
                      go_roundw
                      case rel => exact ⟨i + 1, by go_num, by omega, HCR, HKA, HXA, HBA⟩
                      case measure => simp [intOf]; omega
                    | false =>
                    cases b2 with
                    | true =>
                      have HCR : (false || true || b3 || b4 || !decide (z ≤ 90)) = true := by simp
                      replace HCR := Lib.hid (HYES.out HCR)
                      clear HNO HYES
                      go_wp2_with fail
                      go_roundw
                      case rel => exact ⟨i + 1, by go_num, by omega, HCR, HKA, HXA, HBA⟩
                      case measure => simp [intOf]; omega
                    | false =>
                    cases b3 with
                    | true =>
                      have HCR : (false || false || true || b4 || !decide (z ≤ 90)) = true := by simp
                      replace HCR := Lib.hid (HYES.out HCR)
                      clear HNO HYES
                      go_wp2_with fail
                      go_roundw
                      case rel => exact ⟨i + 1, by go_num, by omega, HCR, HKA, HXA, HBA⟩
                      case measure => simp [intOf]; omega
                    | false =>
                    cases b4 with
                    | true =>
                      have HCR : (false || false || false || true || !decide (z ≤ 90)) = true := by simp
                      replace HCR := Lib.hid (HYES.out HCR)
                      clear HNO HYES
                      go_wp2_with fail
                      go_roundw
                      case rel => exact ⟨i + 1, by go_num, by omega, HCR, HKA, HXA, HBA⟩
                      case measure => simp [intOf]; omega
                    | false =>
                    by_cases hz90 : z ≤ 90
                    · have dz : decide ((z : Int) ≤ 90) = true := by simp; omega
                      have HE := Lib.hid (HNO.out (by simp [hz90]))
                      clear HNO HYES hz90
                      go_wp2_with (refine wpList_rset_same rfl 76 (.tmp 2) (.tmp 121) rfl rfl B (hdC 0 0 0 0) (by rfl) (by rfl) 76 (by exact HKA.out) (hdC_inf _ _ _ _) (hdC_one _ _ _ _) ?_)
                      refine bodyPost_ret (v := .tuple #[.agg (hdC 0 0 0 0), .int .i64 8]) (results_ct rfl _ _ B 76 (hdC 0 0 0 0) (0, 0) _ _ rfl rfl HKA.out Tryz.underlying76 rfl (hdC_inf _ _ _ _)) rfl ⟨?_, by rw [← HB.out]; exact HBA.out⟩
                      rw [HE.out]
                      rfl
                    · have dz : decide ((z : Int) ≤ 90) = false := by simp; omega
                      have HCR := Lib.hid (HYES.out (by simp; omega))
                      clear HNO HYES hz90
                      go_wp2_with fail
                      go_roundw
                      case rel => exact ⟨i + 1, by go_num, by omega, HCR, HKA, HXA, HBA⟩
                      case measure => simp [intOf]; omega
                  · have hd : decide ((i : Int) < (l.length : Int)) = false := by simp; omega
                    have HE : Hid (hdrP l = .ok (Wn, Hn, n8, n9)) := by
                      show _ = _
                      rw [HE6.out, if_neg]
                      rw [Bool.not_eq_false, List.all_eq_true]
                      intro m hm
                      obtain ⟨j, hj, rfl⟩ := List.mem_iff_getElem.1 hm
                      exact hch.out j hj (by omega)
                    obtain ⟨T, hT⟩ : ∃ T, hdC Wn Hn n8 n9 = T := ⟨_, rfl⟩
                    rw [hT] at hbx
                    have HTI : Hid ((Tryz.prog.info? 76).map (·.size) = some T.size) := by show _ = _; rw [← hT]; exact hdC_inf _ _ _ _
                    have HT1 : Hid (T.all (·.oneCell') = true) := by show _ = _; rw [← hT]; exact hdC_one _ _ _ _
                    have HTS : Hid ((hdC 0 0 0 0).size = T.size) := by show _ = _; rw [← hT]; rfl
                    have HT := Lib.hid hT
                    clear hT hch
                    go_wp2_with (first | refine wpList_load_row rfl 76 (.tmp 7) rfl K (by rfl) 76 T (0, 0) _ (by exact hbx.out) Tryz.underlying76 rfl (by exact HTI.out) ?_ | refine wpList_store_rowTo rfl 76 (.tmp 2) (.tmp 128) rfl rfl B T (by rfl) (by rfl) 76 _ (by exact hbk.out) (by exact HTI.out) (by exact HTS.out) (by exact HT1.out) ?_)
                    refine bodyPost_ret (v := .tuple #[.agg T, .int .i64 0]) (results_ct rfl _ _ B 76 T (0, 0) _ _ rfl rfl (hbk.out.rset T) Tryz.underlying76 rfl HTI.out) rfl ⟨?_, by rw [← HB.out]; exact below_rset hbw.out (Nat.le_refl _) _⟩
                    rw [HE.out, ← HT.out]
                    rfl
              · have d12 : ((n12 : Int) != 0) = true := by simp; omega
                have HE : Hid (hdrP l = .error 8) := by show _ = _; rw [HE5.out, if_pos h12]
                clear HE5 h12
                go_wp2_with (refine wpList_rset_same rfl 76 (.tmp 2) (.tmp 108) rfl rfl B (hdC 0 0 0 0) (by rfl) (by rfl) 76 (by exact hbk.out) (hdC_inf _ _ _ _) (hdC_one _ _ _ _) ?_)
                refine bodyPost_ret (v := .tuple #[.agg (hdC 0 0 0 0), .int .i64 8]) (results_ct rfl _ _ B 76 (hdC 0 0 0 0) (0, 0) _ _ rfl rfl hbk.out Tryz.underlying76 rfl (hdC_inf _ _ _ _)) rfl ⟨?_, by rw [← HB.out]; exact hbw.out⟩
                rw [HE.out]
                rfl
          · have d11 : ((n11 : Int) != 0) = true := by simp; omega
            have HE : Hid (hdrP l = .error 4) := by show _ = _; rw [HE2.out, if_pos (Or.inr h11)]
            clear HE2 h10 h11
            go_wp2_with (refine wpList_rset_same rfl 76 (.tmp 2) (.tmp 49) rfl rfl B (hdC 0 0 0 0) (by rfl) (by rfl) 76 (by exact hbk.out) (hdC_inf _ _ _ _) (hdC_one _ _ _ _) ?_)
            refine bodyPost_ret (v := .tuple #[.agg (hdC 0 0 0 0), .int .i64 4]) (results_ct rfl _ _ B 76 (hdC 0 0 0 0) (0, 0) _ _ rfl rfl hbk.out Tryz.underlying76 rfl (hdC_inf _ _ _ _)) rfl ⟨?_, by rw [← HB.out]; exact hbw.out⟩
            rw [HE.out]
            rfl
        · have d10 : ((n10 : Int) != 0) = true := by simp; omega
          have HE : Hid (hdrP l = .error 4) := by show _ = _; rw [HE2.out, if_pos (Or.inl h10)]
          clear HE2 h10
          go_wp2_with (refine wpList_rset_same rfl 76 (.tmp 2) (.tmp 49) rfl rfl B (hdC 0 0 0 0) (by rfl) (by rfl) 76 (by exact hbk.out) (hdC_inf _ _ _ _) (hdC_one _ _ _ _) ?_)
          refine bodyPost_ret (v := .tuple #[.agg (hdC 0 0 0 0), .int .i64 4]) (results_ct rfl _ _ B 76 (hdC 0 0 0 0) (0, 0) _ _ rfl rfl hbk.out Tryz.underlying76 rfl (hdC_inf _ _ _ _)) rfl ⟨?_, by rw [← HB.out]; exact hbw.out⟩
          rw [HE.out]
          rfl
      · have HE : Hid (hdrP l = .error 4) := by
          show _ = _
          rw [HEQ.out, if_pos]
          right; rw [HDZ.out]; exact h13
        have d13 : ((D.size : Int) == 13) = false := by simp; omega
        clear h13 HEQ
        go_wp2_with (refine wpList_rset_same rfl 76 (.tmp 2) (.tmp 36) rfl rfl B (hdC 0 0 0 0) (by rfl) (by rfl) 76 (by exact hbk.out) (hdC_inf _ _ _ _) (hdC_one _ _ _ _) ?_)
        refine bodyPost_ret (v := .tuple #[.agg (hdC 0 0 0 0), .int .i64 4]) (results_ct rfl _ _ B 76 (hdC 0 0 0 0) (0, 0) _ _ rfl rfl hbk.out Tryz.underlying76 rfl (hdC_inf _ _ _ _)) rfl ⟨?_, by rw [← HB.out]; exact hbw.out⟩
        rw [HE.out]
        rfl
end Go.Proofs.YthbejefodelpkaaGreat
