/-
  Walks: png.wrongOrder, palettesRight, dataRight.
-/
import Derived.Test.YthbejefodelpkaaGreatZG13
namespace Go.Proofs.YthbejefodelpkaaGreat
open Go.RowKit
set_option maxRecDepth 100000

def wroAt (l : List Mt) (c k : Nat) (n : List UInt8) : Bool :=
  n == plteN && (decide (0 ≤ finP l idatN) && decide (finP l idatN < (k : Int))) || n == trnsN && decide (c = 3) && ((decide (0 ≤ finP l idatN) && decide (finP l idatN < (k : Int))) || decide ((k : Int) < finP l plteN))
def wroP (l : List Mt) (c : Nat) : Bool := (List.range l.length).any fun k => wroAt l c k (l.getD k ([], [])).1
theorem wroP_hit (l : List Mt) (c k : Nat) (hk : k < l.length) (h : wroAt l c k l[k].1 = true) : wroP l c = true := by
  unfold wroP
  rw [List.any_eq_true]
  refine ⟨k, List.mem_range.2 hk, ?_⟩
  rw [List.getD_eq_getElem?_getD, List.getElem?_eq_getElem hk]
  exact h
theorem wroP_miss (l : List Mt) (c : Nat) (h : ∀ k (hk : k < l.length), wroAt l c k l[k].1 = false) : wroP l c = false := by
  unfold wroP
  rw [List.any_eq_false]
  intro k hk
  have hk := List.mem_range.1 hk
  rw [List.getD_eq_getElem?_getD, List.getElem?_eq_getElem hk]
  simpa using h k hk
theorem finP_le (l : List Mt) (k : List UInt8) : finP l k ≤ l.length ∧ -1 ≤ finP l k := by
  unfold finP
  have := firP_le l k
  split <;> omega

set_option maxHeartbeats 8000000 in
theorem wrongOrder_any (v : Value) (l : List Mt) (c : Nat) (w : World) (hr : MRow w v l) (hl : l.length ≤ 1000000000) :
    Calls Tryz.prog 59 #[v, .int .i64 c] w fun e w' => e = .returned (.bool (wroP l c)) ∧ Below w.heap.size w w' := by
  have HR := Lib.hid hr
  have HF1 := Lib.hid (fun w1 h => find_any v l ⟨#[73, 68, 65, 84]⟩ w1 h hl)
  have HF2 := Lib.hid (fun w1 h => find_any v l ⟨#[80, 76, 84, 69]⟩ w1 h hl)
  change Hid (∀ w1, MRow w1 v l → Calls Tryz.prog 84 #[v, .string ⟨#[73, 68, 65, 84]⟩] w1 fun e w' => e = .returned (.int .i64 (finP l idatN)) ∧ Below w1.heap.size w1 w') at HF1
  change Hid (∀ w1, MRow w1 v l → Calls Tryz.prog 84 #[v, .string ⟨#[80, 76, 84, 69]⟩] w1 fun e w' => e = .returned (.int .i64 (finP l plteN)) ∧ Below w1.heap.size w1 w') at HF2
  have HAT : Hid (∀ k n, wroAt l c k n = (n == plteN && (decide (0 ≤ finP l idatN) && decide (finP l idatN < (k : Int))) || n == trnsN && decide (c = 3) && ((decide (0 ≤ finP l idatN) && decide (finP l idatN < (k : Int))) || decide ((k : Int) < finP l plteN)))) := fun _ _ => rfl
  obtain ⟨x, cc, rfl, hc1, hc2, -, -⟩ := id hr
  unfold maxLen at hc2
  have hfd := finP_le l idatN
  have hfc := finP_le l plteN
  obtain ⟨fd, hfd0⟩ : ∃ n, finP l idatN = n := ⟨_, rfl⟩
  obtain ⟨fc, hfc0⟩ : ∃ n, finP l plteN = n := ⟨_, rfl⟩
  rw [hfd0] at HF1 HAT hfd
  rw [hfc0] at HF2 HAT hfc
  obtain ⟨c3, hc3⟩ : ∃ b, decide (c = 3) = b := ⟨_, rfl⟩
  rw [hc3] at HAT
  have e3 : ((c : Int) == 3) = c3 := by rw [← hc3, Bool.eq_iff_iff]; simp; omega
  clear hr hfd0 hfc0 hc3
  go_enter Tryz.func59, Tryz.ntmps59
  go_wp2_with fail
  refine (HF1.out _ HR.out).mono ?_
  rintro e w1 ⟨rfl, hb1⟩
  have HB1 := Lib.hid hb1
  clear hb1
  go_wp2_with fail
  refine (HF2.out _ (HR.out.below HB1.out)).mono ?_
  rintro e w2 ⟨rfl, hb2⟩
  have HB2 := Lib.hid (HB1.out.trans (hb2.mono HB1.out.size))
  clear hb2 HB1 HF1 HF2
  go_wp2_with fail
  go_loopw [16] (fun vi wr => ∃ i : Nat, vi = .int .i64 i ∧ i ≤ l.length ∧ Hid (∀ j (h : j < l.length), j < i → wroAt l c j l[j].1 = false) ∧ Hid (Below w.heap.size w wr)) (fun vi _ => l.length - (intOf vi).toNat)
  case atStart => exact ⟨0, rfl, Nat.zero_le _, fun j _ hj => absurd hj (by omega), HB2.out⟩
  case round =>
    clear HB2
    obtain ⟨i, rfl, hi, hch, hbw⟩ := hrel
    by_cases hli : i < l.length
    · obtain ⟨b, off, rfl, q1, q2⟩ := (HR.out.below hbw.out).at2 i hli rfl
      obtain ⟨mk, mv, hm⟩ : ∃ mk mv, l[i] = (mk, mv) := ⟨_, _, rfl⟩
      have HM := Lib.hid hm
      rw [hm] at q1 q2
      simp only at q1 q2
      have hd : decide ((i : Int) < (l.length : Int)) = true := by simp; omega
      have i1 : (i : Int) < (l.length : Int) := by omega
      have hszr : w.heap.size ≤ wr.heap.size := hbw.out.size
      have HBA := Lib.hid (hbw.out.alloc hszr (.cells #[.string ⟨mk.toArray⟩, .string ⟨mv.toArray⟩] 53))
      have HQB := Lib.hid (Blk.new wr 53 #[.string ⟨mk.toArray⟩, .string ⟨mv.toArray⟩])
      clear hm hbw
      go_upto_region 5 with fail
      clear q1 q2
      generalize wr.alloc (.cells #[.string ⟨mk.toArray⟩, .string ⟨mv.toArray⟩] 53) = wb at *
      generalize wr.heap.size = KB at *
      have q1 : wb.cell? ⟨KB, 0, none⟩ = some (.string ⟨mk.toArray⟩) := HQB.out.cell 0
      obtain ⟨g0, hg0⟩ : ∃ b, decide ((0 : Int) ≤ fd) = b := ⟨_, rfl⟩
      obtain ⟨g1, hg1⟩ : ∃ b, decide (fd < (i : Int)) = b := ⟨_, rfl⟩
      obtain ⟨g2, hg2⟩ : ∃ b, decide ((i : Int) < fc) = b := ⟨_, rfl⟩
      obtain ⟨p, hp⟩ : ∃ b : Bool, (mk == [80, 76, 84, 69]) = b := ⟨_, rfl⟩
      obtain ⟨t, ht⟩ : ∃ b : Bool, (mk == [116, 82, 78, 83]) = b := ⟨_, rfl⟩
      have HW : Hid (wroAt l c i l[i].1 = (p && (g0 && g1) || t && c3 && ((g0 && g1) || g2))) := by
        show _ = _
        rw [HAT.out, HM.out, hg0, hg1, hg2, ← hp, ← ht]
        rfl
      have HHIT : Hid ((p && (g0 && g1) || t && c3 && ((g0 && g1) || g2)) = true → wroP l c = true) := fun h => wroP_hit l c i hli (HW.out.trans h)
      have HMIS : Hid ((p && (g0 && g1) || t && c3 && ((g0 && g1) || g2)) = false → ∀ j (h : j < l.length), j < i + 1 → wroAt l c j l[j].1 = false) := fun h j hj hji => by
        by_cases e : j = i
        · subst e; exact HW.out.trans h
        · exact hch.out j hj (by omega)
      obtain ⟨bh, hbh⟩ : ∃ b, (g0 && g1) = b := ⟨_, rfl⟩
      clear HW hch
      go_cut [9] from 21 to 27 (fun v9 wx => v9 = .bool bh ∧ wx = wb)
      case first =>
        clear HHIT HMIS hg2 hp ht
        cases g0 <;> cases g1 <;> subst hbh
        all_goals
          go_wp2_with fail
          go_meet
          case rel => exact ⟨rfl, rfl⟩
      case rest =>
      obtain ⟨rfl, rfl⟩ := hcut
      rw [hbh] at HHIT HMIS
      clear hbh hg0 hg1
      cases p <;> cases bh <;> cases t <;> cases c3 <;> cases g2
      all_goals
        first
        | (have h9 := HHIT.out rfl
           replace h9 := Lib.hid h9
           clear HHIT HMIS
           go_wp2_with fail
           go_ret
           exact ⟨by rw [h9.out]; rfl, HBA.out⟩)
        | (have h9 := HMIS.out rfl
           replace h9 := Lib.hid h9
           clear HHIT HMIS
           go_wp2_with fail
           go_roundw
           case rel => exact ⟨i + 1, by go_num, by omega, h9, HBA⟩
           case measure => simp [intOf]; omega)
    · have hd : decide ((i : Int) < (l.length : Int)) = false := by simp; omega
      have HZ : Hid (wroP l c = false) := wroP_miss l c (fun j hj => hch.out j hj (by omega))
      go_wp2_with fail
      go_ret
      exact ⟨by rw [HZ.out]; rfl, hbw.out⟩

def pal1 (n c : Nat) : Bool := decide (1 < n ∨ n = 1 ∧ (c = 0 ∨ c = 4) ∨ n = 0 ∧ c = 3)
def pal2 (n d : Nat) : Bool := decide (n = 1 ∧ (d % 3 ≠ 0 ∨ d < 3 ∨ 768 < d))
def pal3 (c t a d : Nat) : Bool := decide (c ≠ 3 ∨ t ≤ 1 ∧ a ≤ d / 3)
def palP (l : List Mt) (c : Nat) : Bool := !pal1 (cntP l plteN) c && (!pal2 (cntP l plteN) (datP l plteN).length && pal3 c (cntP l trnsN) (datP l trnsN).length (datP l plteN).length)

set_option maxHeartbeats 8000000 in
theorem palettes_any (v : Value) (l : List Mt) (c : Nat) (w : World) (hr : MRow w v l) (hl : l.length ≤ 1000000000) (ht : totP l ≤ 1000000000) :
    Calls Tryz.prog 60 #[v, .int .i64 c] w fun e w' => e = .returned (.bool (palP l c)) ∧ Below w.heap.size w w' := by
  have HR := Lib.hid hr
  have HC1 : Hid (∀ w1, MRow w1 v l → Calls Tryz.prog 85 #[v, .string ⟨#[80, 76, 84, 69]⟩] w1 fun e w' => e = .returned (.int .i64 (cntP l plteN)) ∧ Below w1.heap.size w1 w') := fun w1 h => count_any v l ⟨#[80, 76, 84, 69]⟩ w1 h
  have HC2 : Hid (∀ w1, MRow w1 v l → Calls Tryz.prog 85 #[v, .string ⟨#[116, 82, 78, 83]⟩] w1 fun e w' => e = .returned (.int .i64 (cntP l trnsN)) ∧ Below w1.heap.size w1 w') := fun w1 h => count_any v l ⟨#[116, 82, 78, 83]⟩ w1 h
  have HD1 : Hid (∀ w1, MRow w1 v l → Calls Tryz.prog 86 #[v, .string ⟨#[80, 76, 84, 69]⟩] w1 fun e w' => e = .returned (.string ⟨(datP l plteN).toArray⟩) ∧ Below w1.heap.size w1 w') := fun w1 h => datas_any v l ⟨#[80, 76, 84, 69]⟩ w1 h ht
  have HD2 : Hid (∀ w1, MRow w1 v l → Calls Tryz.prog 86 #[v, .string ⟨#[116, 82, 78, 83]⟩] w1 fun e w' => e = .returned (.string ⟨(datP l trnsN).toArray⟩) ∧ Below w1.heap.size w1 w') := fun w1 h => datas_any v l ⟨#[116, 82, 78, 83]⟩ w1 h ht
  have HEQ : Hid (palP l c = (!pal1 (cntP l plteN) c && (!pal2 (cntP l plteN) (datP l plteN).length && pal3 c (cntP l trnsN) (datP l trnsN).length (datP l plteN).length))) := rfl
  have hn := cntP_le l plteN
  have htn := cntP_le l trnsN
  have hdn := datP_le l plteN
  have han := datP_le l trnsN
  obtain ⟨DP, hDP⟩ : ∃ s : ByteArray, s = ⟨(datP l plteN).toArray⟩ := ⟨_, rfl⟩
  obtain ⟨AP, hAP⟩ : ∃ s : ByteArray, s = ⟨(datP l trnsN).toArray⟩ := ⟨_, rfl⟩
  have hDs : (datP l plteN).length = DP.size := by rw [hDP]; simp [ByteArray.size]
  have hAs : (datP l trnsN).length = AP.size := by rw [hAP]; simp [ByteArray.size]
  rw [← hDP] at HD1
  rw [← hAP] at HD2
  rw [hDs] at HEQ hdn
  rw [hAs] at HEQ han
  obtain ⟨n, hn0⟩ : ∃ n, cntP l plteN = n := ⟨_, rfl⟩
  obtain ⟨t, ht0⟩ : ∃ n, cntP l trnsN = n := ⟨_, rfl⟩
  rw [hn0] at HC1 HEQ hn
  rw [ht0] at HC2 HEQ htn
  clear hr hDP hAP hDs hAs hn0 ht0
  obtain ⟨x, cc, rfl, hc1, hc2, -, -⟩ := id HR.out
  unfold maxLen at hc2
  have hn' : n ≤ 1000000000 := by omega
  have ht' : t ≤ 1000000000 := by omega
  have hd' : DP.size ≤ 1000000000 := by omega
  have ha' : AP.size ≤ 1000000000 := by omega
  clear hn htn hdn han
  go_enter Tryz.func60, Tryz.ntmps60
  go_wp2_with fail
  refine (HC1.out _ HR.out).mono ?_
  rintro e w1 ⟨rfl, hb1⟩
  have HB1 := Lib.hid hb1
  clear hb1 HC1
  go_upto_region 2 with fail
  obtain ⟨b1, hb1⟩ : ∃ b, pal1 n c = b := ⟨_, rfl⟩
  rw [hb1] at HEQ
  go_cut [30] from 9 to 29 (fun v30 wx => v30 = .bool b1 ∧ wx = w1)
  case first =>
    have hcn : (n = 0 ∨ n = 1 ∨ 1 < n) := by omega
    have hcc : (c = 0 ∨ c = 4 ∨ c = 3 ∨ (c ≠ 0 ∧ c ≠ 4 ∧ c ≠ 3)) := by omega
    clear HEQ
    rcases hcn with rfl | rfl | hn1 <;> rcases hcc with rfl | rfl | rfl | ⟨hc0, hc4, hc3⟩
    all_goals
      (try have f1 : decide ((1 : Int) < (n : Int)) = true := by simp; omega)
      (try have f4 : ((c : Int) == 0) = false := by rw [beq_eq_false_iff_ne]; omega)
      (try have f5 : ((c : Int) == 4) = false := by rw [beq_eq_false_iff_ne]; omega)
      (try have f6 : ((c : Int) == 3) = false := by rw [beq_eq_false_iff_ne]; omega)
      have HB := Lib.hid hb1
      first
      | (have hv : b1 = true := by rw [← hb1]; exact decide_eq_true (by omega)
         clear hb1
         subst hv
         go_wp2_with fail
         go_meet
         case rel => exact ⟨rfl, rfl⟩)
      | (have hv : b1 = false := by rw [← hb1]; exact decide_eq_false (by omega)
         clear hb1
         subst hv
         go_wp2_with fail
         go_meet
         case rel => exact ⟨rfl, rfl⟩)
  case rest =>
  obtain ⟨rfl, rfl⟩ := hcut
  clear hb1
  cases b1 with
  | true =>
    have HE : Hid (palP l c = false) := by show _ = _; rw [HEQ.out]; rfl
    go_wp2_with fail
    go_ret
    exact ⟨by rw [HE.out]; rfl, HB1.out⟩
  | false =>
  go_wp2_with fail
  refine (HD1.out _ (HR.out.below HB1.out)).mono ?_
  rintro e w2 ⟨rfl, hb2⟩
  have HB2 := Lib.hid (HB1.out.trans (hb2.mono HB1.out.size))
  clear hb2 HB1 HD1
  go_upto_region 5 with fail
  obtain ⟨b2, hb2⟩ : ∃ b, pal2 n DP.size = b := ⟨_, rfl⟩
  rw [hb2] at HEQ
  go_cut [50] from 33 to 49 (fun v50 wx => v50 = .bool b2 ∧ wx = w2)
  case first =>
    clear HEQ
    obtain ⟨d, hdz⟩ : ∃ d, DP.size = d := ⟨_, rfl⟩
    rw [hdz] at hb2 hd'
    by_cases hn1 : n = 1
    · have f2 : ((n : Int) == 1) = true := by rw [hn1]; rfl
      obtain ⟨r, hr⟩ : ∃ r, d % 3 = r := ⟨_, rfl⟩
      have hrI : (d : Int).tmod 3 = (r : Int) := by rw [Int.tmod_eq_emod_of_nonneg (by omega)]; omega
      have hr4 : r ≤ 2 := by omega
      by_cases hr0 : r = 0
      · have g1 : ((r : Int) != 0) = false := by rw [hr0]; rfl
        by_cases hd3 : d < 3
        · have g2 : decide ((d : Int) < 3) = true := by simp; omega
          have hv : b2 = true := by rw [← hb2]; exact decide_eq_true (by omega)
          clear hb2 hn1 hr hr0 hd3
          subst hv
          go_wp2_with fail
          go_meet
          case rel => exact ⟨rfl, rfl⟩
        · have g2 : decide ((d : Int) < 3) = false := by simp; omega
          by_cases hd7 : 768 < d
          · have g3 : decide ((768 : Int) < (d : Int)) = true := by simp; omega
            have hv : b2 = true := by rw [← hb2]; exact decide_eq_true (by omega)
            clear hb2 hn1 hr hr0 hd3 hd7
            subst hv
            go_wp2_with fail
            go_meet
            case rel => exact ⟨rfl, rfl⟩
          · have g3 : decide ((768 : Int) < (d : Int)) = false := by simp; omega
            have hv : b2 = false := by rw [← hb2]; exact decide_eq_false (by omega)
            clear hb2 hn1 hr hr0 hd3 hd7
            subst hv
            go_wp2_with fail
            go_meet
            case rel => exact ⟨rfl, rfl⟩
      · have g1 : ((r : Int) != 0) = true := by simp; omega
        have hv : b2 = true := by rw [← hb2]; exact decide_eq_true (by omega)
        clear hb2 hn1 hr hr0
        subst hv
        go_wp2_with fail
        go_meet
        case rel => exact ⟨rfl, rfl⟩
    · have f2 : ((n : Int) == 1) = false := by rw [beq_eq_false_iff_ne]; omega
      have hv : b2 = false := by rw [← hb2]; exact decide_eq_false (by omega)
      clear hb2 hn1
      subst hv
      go_wp2_with fail
      go_meet
      case rel => exact ⟨rfl, rfl⟩
  case rest =>
  obtain ⟨rfl, rfl⟩ := hcut
  clear hb2
  cases b2 with
  | true =>
    have HE : Hid (palP l c = false) := by show _ = _; rw [HEQ.out]; rfl
    go_wp2_with fail
    go_ret
    exact ⟨by rw [HE.out]; rfl, HB2.out⟩
  | false =>
  by_cases hc3 : c = 3
  · have f6 : ((c : Int) != 3) = false := by rw [hc3]; rfl
    by_cases ht1 : t ≤ 1
    · have g1 : decide ((t : Int) ≤ 1) = true := by simp; omega
      obtain ⟨d, hdz⟩ : ∃ d, DP.size = d := ⟨_, rfl⟩
      obtain ⟨a, haz⟩ : ∃ d, AP.size = d := ⟨_, rfl⟩
      rw [hdz] at HEQ hd'
      rw [haz] at HEQ ha'
      obtain ⟨q, hq⟩ : ∃ q, d / 3 = q := ⟨_, rfl⟩
      have hqI : (d : Int).tdiv 3 = (q : Int) := by rw [Int.tdiv_eq_ediv_of_nonneg (by omega)]; omega
      have hq4 : q ≤ 1000000000 := by omega
      have HE : Hid (palP l c = decide (a ≤ q)) := by
        show _ = _
        rw [HEQ.out]
        show pal3 c t a d = _
        unfold pal3
        rw [Bool.eq_iff_iff, decide_eq_true_iff, decide_eq_true_iff]
        omega
      clear HEQ hc3 ht1 hq
      go_wp2_with fail
      refine (HC2.out _ (HR.out.below HB2.out)).mono ?_
      rintro e w3 ⟨rfl, hb3⟩
      have HB3 := Lib.hid (HB2.out.trans (hb3.mono HB2.out.size))
      clear hb3 HB2 HC2
      go_wp2_with fail
      refine (HD2.out _ (HR.out.below HB3.out)).mono ?_
      rintro e w4 ⟨rfl, hb4⟩
      have HB4 := Lib.hid (HB3.out.trans (hb4.mono HB3.out.size))
      clear hb4 HB3 HD2
      go_wp2_with fail
      go_ret
      exact ⟨by rw [HE.out]; rfl, HB4.out⟩
    · have g1 : decide ((t : Int) ≤ 1) = false := by simp; omega
      have HE : Hid (palP l c = false) := by
        show _ = _
        rw [HEQ.out]
        show pal3 c t AP.size DP.size = _
        exact decide_eq_false (by omega)
      clear HEQ hc3 ht1
      go_wp2_with fail
      refine (HC2.out _ (HR.out.below HB2.out)).mono ?_
      rintro e w3 ⟨rfl, hb3⟩
      have HB3 := Lib.hid (HB2.out.trans (hb3.mono HB2.out.size))
      clear hb3 HB2 HC2
      go_wp2_with fail
      go_ret
      exact ⟨by rw [HE.out]; rfl, HB3.out⟩
  · have f6 : ((c : Int) != 3) = true := by simp; omega
    have HE : Hid (palP l c = true) := by
      show _ = _
      rw [HEQ.out]
      show pal3 c t AP.size DP.size = _
      exact decide_eq_true (by omega)
    clear HEQ hc3
    go_wp2_with fail
    go_ret
    exact ⟨by rw [HE.out]; rfl, HB2.out⟩

/-- Only data stand between the first and the last of them. -/
def datOk (l : List Mt) : Bool := decide (cntP l idatN ≠ 0) && ((l.drop (firP l idatN)).take (cntP l idatN)).all fun m => m.1 == idatN
theorem cnt_room (l : List Mt) (k : List UInt8) : cntP l k ≠ 0 → firP l k < l.length ∧ firP l k + cntP l k ≤ l.length := by
  unfold firP cntP
  induction l with
  | nil => simp
  | cons m r ih =>
    intro h
    rw [List.findIdx_cons, List.countP_cons]
    rw [List.countP_cons] at h
    have h1 := List.countP_le_length (p := fun m => m.1 == k) (l := r)
    by_cases hm : (m.1 == k) = true
    · simp [hm]; omega
    · have hm : (m.1 == k) = false := by simpa using hm
      rw [hm] at h ⊢
      simp only [cond_false, List.length_cons] at h ⊢
      have := ih (by simpa using h)
      simp only [Bool.false_eq_true, if_false]
      omega
theorem size_chunk (w : World) : (sizeOf (Tryz.prog.elem 22)).run Tryz.prog w = .ok 2 w := by kernel_rfl
theorem und_chunk : Tryz.prog.underlying 22 = some (.slice (Tryz.prog.elem 22)) := by kernel_rfl
theorem MRow.sub {w : World} {x x2 : Option Addr} {n c i k : Nat} {l : List Mt} (h : MRow w (.slice x n c) l) (hik : i ≤ k) (hk : k ≤ n) (hx : x2 = cutAt x c i 2) : MRow w (.slice x2 (k - i) (c - i)) ((l.drop i).take (k - i)) := by
  unfold cutAt at hx
  obtain ⟨x', c', hv, h1, h2, h3, h4⟩ := h
  cases hv
  have hl : ((l.drop i).take (k - i)).length = k - i := by rw [List.length_take, List.length_drop]; omega
  refine ⟨x2, c - i, by rw [hl], by omega, by omega, fun h0 => ?_, fun hne => ?_⟩
  · rw [hx] at h0
    split at h0
    · omega
    · have : x = none := by cases x with | none => rfl | some a => cases h0
      have := h3 this
      omega
  · have hlt : i < k := by
      rcases Nat.lt_or_ge i k with h | h
      · exact h
      · exact absurd (List.eq_nil_of_length_eq_zero (by omega)) hne
    obtain ⟨b, off, rfl, hc⟩ := h4 (by rintro rfl; simp at hk; omega)
    rw [if_neg (by omega)] at hx
    refine ⟨b, off + i * 2, by rw [hx]; simp [Addr.add_lit], fun j hj => ?_⟩
    have := hc (i + j) (by omega)
    unfold MCell at this ⊢
    simp only [List.getElem_take, List.getElem_drop]
    have e : off + (i + j) * 2 = off + i * 2 + j * 2 := by rw [Nat.add_mul]; omega
    rw [e] at this
    exact this

set_option maxHeartbeats 8000000 in
theorem dataRight_any (v : Value) (l : List Mt) (w : World) (hr : MRow w v l) (hl : l.length ≤ 1000000000) :
    Calls Tryz.prog 61 #[v] w fun e w' => e = .returned (.bool (datOk l)) ∧ Below w.heap.size w w' := by
  have HR := Lib.hid hr
  have HC1 : Hid (∀ w1, MRow w1 v l → Calls Tryz.prog 85 #[v, .string ⟨#[73, 68, 65, 84]⟩] w1 fun e w' => e = .returned (.int .i64 (cntP l idatN)) ∧ Below w1.heap.size w1 w') := fun w1 h => count_any v l ⟨#[73, 68, 65, 84]⟩ w1 h
  have HF1 : Hid (∀ w1, MRow w1 v l → Calls Tryz.prog 84 #[v, .string ⟨#[73, 68, 65, 84]⟩] w1 fun e w' => e = .returned (.int .i64 (finP l idatN)) ∧ Below w1.heap.size w1 w') := fun w1 h => find_any v l ⟨#[73, 68, 65, 84]⟩ w1 h hl
  have HEQ : Hid (datOk l = (decide (cntP l idatN ≠ 0) && ((l.drop (firP l idatN)).take (cntP l idatN)).all fun m => m.1 == idatN)) := rfl
  have hcr := cnt_room l idatN
  have hfi : cntP l idatN ≠ 0 → finP l idatN = (firP l idatN : Int) := fun h => by unfold finP; rw [if_pos (hcr h).1]
  have hfl := finP_le l idatN
  have hn := cntP_le l idatN
  obtain ⟨n, hn0⟩ : ∃ n, cntP l idatN = n := ⟨_, rfl⟩
  obtain ⟨f, hf0⟩ : ∃ n, firP l idatN = n := ⟨_, rfl⟩
  obtain ⟨fi, hfi0⟩ : ∃ n, finP l idatN = n := ⟨_, rfl⟩
  rw [hn0] at HC1 HEQ hcr hfi hn
  rw [hf0] at HEQ hcr hfi
  rw [hfi0] at HF1 hfi hfl
  clear hr hn0 hf0 hfi0
  obtain ⟨x, cc, rfl, hc1, hc2, -, -⟩ := id HR.out
  unfold maxLen at hc2
  go_enter Tryz.func61, Tryz.ntmps61
  go_wp2_with fail
  refine (HF1.out _ HR.out).mono ?_
  rintro e w1 ⟨rfl, hb1⟩
  have HB1 := Lib.hid hb1
  clear hb1 HF1
  go_wp2_with fail
  refine (HC1.out _ (HR.out.below HB1.out)).mono ?_
  rintro e w2 ⟨rfl, hb2⟩
  have HB2 := Lib.hid (HB1.out.trans (hb2.mono HB1.out.size))
  clear hb2 HB1 HC1
  by_cases hz : n = 0
  · have dz : ((n : Int) == 0) = true := by rw [hz]; rfl
    have HE : Hid (datOk l = false) := by show _ = _; rw [HEQ.out, hz]; rfl
    clear hz hcr hfi
    go_wp2_with fail
    go_ret
    exact ⟨by rw [HE.out]; rfl, HB2.out⟩
  · have dz : ((n : Int) == 0) = false := by rw [beq_eq_false_iff_ne]; omega
    have hfi' := hfi hz
    have hcr' := hcr hz
    subst hfi'
    obtain ⟨e, he⟩ : ∃ e, f + n = e := ⟨_, rfl⟩
    have hsum : (f : Int) + (n : Int) = (e : Int) := by omega
    have hen : e - f = n := by omega
    have hfe : f ≤ e := by omega
    have hec : e ≤ cc := by omega
    have hel : e ≤ l.length := by omega
    have HE : Hid (datOk l = ((l.drop f).take n).all fun m => m.1 == idatN) := by show _ = _; rw [HEQ.out, decide_eq_true (by omega)]; rfl
    clear hcr hfi hz HEQ hcr'
    go_wp2_with (refine wpList_slice_lh (o := ⟨some 18, _, _, _, _, _⟩) rfl rfl und_chunk size_chunk rfl rfl rfl hfe hec ?_)
    intro x2 hx2
    have hsub := (HR.out.below HB2.out).sub hfe hel hx2.out
    rw [hen] at hsub
    have hsl : ((l.drop f).take n).length = n := by rw [List.length_take, List.length_drop]; omega
    obtain ⟨L, hL⟩ : ∃ L, (l.drop f).take n = L := ⟨_, rfl⟩
    rw [hL] at hsub hsl HE
    have HSUB := Lib.hid hsub
    have HSL := Lib.hid hsl
    clear hsub hL he hen hx2 hsl
    go_wp2_with fail
    go_loopw [20] (fun vi wr => ∃ i : Nat, vi = .int .i64 i ∧ i ≤ n ∧ Hid (∀ j (h : j < L.length), j < i → (L[j].1 == idatN) = true) ∧ Hid (Below w2.heap.size w2 wr)) (fun vi _ => n - (intOf vi).toNat)
    case atStart => exact ⟨0, rfl, Nat.zero_le _, fun j _ hj => absurd hj (by omega), Below.refl _ _⟩
    case round =>
      obtain ⟨i, rfl, hi, hch, hbw⟩ := hrel
      have HBW := Lib.hid (HB2.out.trans (hbw.out.mono HB2.out.size))
      by_cases hli : i < n
      · have hli2 : i < L.length := by rw [HSL.out]; exact hli
        obtain ⟨b, off, rfl, q1, q2⟩ := (HSUB.out.below hbw.out).at2 i hli2 rfl
        obtain ⟨mk, mv, hm⟩ : ∃ mk mv, L[i] = (mk, mv) := ⟨_, _, rfl⟩
        have HM := Lib.hid hm
        rw [hm] at q1 q2
        simp only at q1 q2
        have hd : decide ((i : Int) < (n : Int)) = true := by simp; omega
        have i1 : (i : Int) < (n : Int) := by omega
        have hszr : w.heap.size ≤ wr.heap.size := HBW.out.size
        have HBX := Lib.hid (HBW.out.alloc hszr (.cells #[.string ⟨mk.toArray⟩, .string ⟨mv.toArray⟩] 53))
        have HBA := Lib.hid (hbw.out.alloc hbw.out.size (.cells #[.string ⟨mk.toArray⟩, .string ⟨mv.toArray⟩] 53))
        have HQB := Lib.hid (Blk.new wr 53 #[.string ⟨mk.toArray⟩, .string ⟨mv.toArray⟩])
        clear hm hbw HBW
        go_upto_region 7 with fail
        clear q1 q2
        generalize wr.alloc (.cells #[.string ⟨mk.toArray⟩, .string ⟨mv.toArray⟩] 53) = wb at *
        generalize wr.heap.size = KB at *
        have q1 : wb.cell? ⟨KB, 0, none⟩ = some (.string ⟨mk.toArray⟩) := HQB.out.cell 0
        cases hp : (mk == [73, 68, 65, 84]) with
        | true =>
          have h9 : Hid (∀ j (h : j < L.length), j < i + 1 → (L[j].1 == idatN) = true) := fun j hj hji => by
            by_cases e : j = i
            · subst e; rw [HM.out]; exact hp
            · exact hch.out j hj (by omega)
          go_wp2_with fail
          go_roundw
          case rel => exact ⟨i + 1, by go_num, by omega, h9, HBA⟩
          case measure => simp [intOf]; omega
        | false =>
          have h9 : Hid (datOk l = false) := by
            show _ = _
            rw [HE.out, List.all_eq_false]
            exact ⟨L[i], List.getElem_mem hli2, by rw [HM.out]; show ¬ (mk == idatN) = true; rw [show (mk == idatN) = false from hp]; decide⟩
          go_wp2_with fail
          go_ret
          exact ⟨by rw [h9.out]; rfl, HBX.out⟩
      · have hd : decide ((i : Int) < (n : Int)) = false := by simp; omega
        have h9 : Hid (datOk l = true) := by
          show _ = _
          rw [HE.out, List.all_eq_true]
          intro m hm
          obtain ⟨j, hj, rfl⟩ := List.mem_iff_getElem.1 hm
          exact hch.out j hj (by rw [HSL.out] at hj; omega)
        go_wp2_with fail
        go_ret
        exact ⟨by rw [h9.out]; rfl, HBW.out⟩
end Go.Proofs.YthbejefodelpkaaGreat
