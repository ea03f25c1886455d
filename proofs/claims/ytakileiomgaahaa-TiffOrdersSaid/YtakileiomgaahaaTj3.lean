/-
  The program of tiff: kindRight.
-/
import Derived.Test.YtakileiomgaahaaTj2
namespace Go.Proofs.Ytakileiomgaahaa
open Go.RowKit

/-- The contracts of first and find, at every world that keeps what lay below block B of w. -/
theorem first_at {v : Value} {l : List Tg} {w : World} (hr : TRow w v l) (id other : Int) (wx : World) (hb : Below w.heap.size w wx) : Calls Try.prog 75 #[v, .int .i64 id, .int .i64 other] wx fun e w' => e = .returned (.int .i64 (firstT l id other)) ∧ Below w.heap.size w w' :=
  (tfirst_any v l id other wx (hr.below hb)).mono fun _ _ h => ⟨h.1, hb.trans (h.2.mono hb.size)⟩
theorem firstN_at {v : Value} {l : List Tg} {w : World} (hr : TRow w v l) (id : Int) (other : Nat) (wx : World) (hb : Below w.heap.size w wx) : Calls Try.prog 75 #[v, .int .i64 id, .int .i64 (other : Int)] wx fun e w' => e = .returned (.int .i64 (firstN l id other : Nat)) ∧ Below w.heap.size w w' := by
  have := first_at hr id (other : Int) wx hb
  rwa [firstT_nat] at this
theorem find_at {v : Value} {l : List Tg} {w : World} (hr : TRow w v l) (id : Int) (wx : World) (hb : Below w.heap.size w wx) : Calls Try.prog 40 #[v, .int .i64 id] wx fun e w' => ∃ u, e = .returned (.tuple #[.agg (tcA ((findT l id).getD tag0) u), .bool (findT l id).isSome]) ∧ IRow w' u ((findT l id).getD tag0).vals ∧ Below w.heap.size w w' ∧ Below wx.heap.size wx w' :=
  (tfind_any v l id wx (hr.below hb)).mono fun _ _ h => by obtain ⟨u, h1, h2, h3⟩ := h; exact ⟨u, h1, h2, hb.trans (h3.mono hb.size), h3⟩
def okB (x y : Nat) : Bool := (x == 8 || x == 16) && x == y
def bitsP (l : List Nat) : Bool := l.all fun x => okB x (l.getD 0 0)
/-- Do the tags describe a kind that is read. -/
def kindP (l : List Tg) : Bool :=
  if firstN l 259 1 ≠ 1 ∧ firstN l 259 1 ≠ 32773 then false
  else if ¬ (((firstT l 262 (-1) = 0 ∨ firstT l 262 (-1) = 1) ∧ firstN l 277 0 = 1) ∨ (firstT l 262 (-1) = 2 ∧ (firstN l 277 0 = 3 ∨ firstN l 277 0 = 4))) then false
  else if (valsT l 258).length ≠ firstN l 277 0 then false
  else if bitsP (valsT l 258) = false then false
  else if firstN l 277 0 = 4 ∧ firstN l 338 0 ≠ 1 ∧ firstN l 338 0 ≠ 2 then false
  else firstN l 284 1 == 1 && firstN l 317 1 == 1

set_option maxHeartbeats 4000000 in
set_option maxRecDepth 100000 in
theorem tkind_any (v : Value) (l : List Tg) (w : World) (hr : TRow w v l) : Calls Try.prog 41 #[v] w fun e w' => e = .returned (.bool (kindP l)) ∧ Below w.heap.size w w' := by
  have HC := Lib.hid (firstN_at hr 259 1)
  have HS := Lib.hid (firstN_at hr 277 0)
  have HP := Lib.hid (first_at hr 262 (-1))
  have HA := Lib.hid (firstN_at hr 338 0)
  have HL := Lib.hid (firstN_at hr 284 1)
  have HR := Lib.hid (firstN_at hr 317 1)
  have HD := Lib.hid (find_at hr 258)
  obtain ⟨x, cc, rfl, -⟩ := hr
  have hk : kindP l = (if firstN l 259 1 ≠ 1 ∧ firstN l 259 1 ≠ 32773 then false
    else if ¬ (((firstT l 262 (-1) = 0 ∨ firstT l 262 (-1) = 1) ∧ firstN l 277 0 = 1) ∨ (firstT l 262 (-1) = 2 ∧ (firstN l 277 0 = 3 ∨ firstN l 277 0 = 4))) then false
    else if (valsT l 258).length ≠ firstN l 277 0 then false
    else if bitsP (valsT l 258) = false then false
    else if firstN l 277 0 = 4 ∧ firstN l 338 0 ≠ 1 ∧ firstN l 338 0 ≠ 2 then false
    else firstN l 284 1 == 1 && firstN l 317 1 == 1) := rfl
  unfold valsT at hk
  generalize kindP l = res at *
  generalize firstN l 259 1 = c at *
  generalize firstN l 277 0 = n at *
  generalize firstT l 262 (-1) = p at *
  generalize firstN l 338 0 = al at *
  generalize firstN l 284 1 = pl at *
  generalize firstN l 317 1 = pr at *
  generalize (findT l 258).getD tag0 = t at *
  generalize (findT l 258).isSome = bs at *
  generalize hB : w.heap.size = B at *
  have HB := Lib.hid hB
  have HBW := Lib.hid (Below.refl B w)
  clear hB
  go_enter Try.func41, Try.ntmps41
  go_wp2_with fail
  refine (HC.out _ HBW.out).mono ?_
  rintro e w1 ⟨rfl, hb1⟩
  have HB1 := Lib.hid hb1
  clear hb1
  go_wp2_with fail
  refine (HS.out _ HB1.out).mono ?_
  rintro e w2 ⟨rfl, hb2⟩
  have HB2 := Lib.hid hb2
  clear hb2
  by_cases hc : c ≠ 1 ∧ c ≠ 32773
  · rw [if_pos hc] at hk
    have HK := Lib.hid hk
    have e1 : ((c : Int) == 1) = false := by rw [beq_eq_false_iff_ne]; omega
    have e2 : ((c : Int) == 32773) = false := by rw [beq_eq_false_iff_ne]; omega
    have e1' : ((c : Int) != 1) = true := by unfold bne; rw [e1]; rfl
    have e2' : ((c : Int) != 32773) = true := by unfold bne; rw [e2]; rfl
    clear hk hc
    go_wp2_with fail
    go_ret
    exact ⟨by rw [HK.out]; rfl, HB2.out⟩
  rw [if_neg hc] at hk
  have HCC : Hid (c = 1 ∨ c = 32773) := by show _ ∨ _; omega
  have HK1 := Lib.hid hk
  clear hk hc
  go_upto_region 2 with fail
  go_cut [19] (fun v19 wx => v19 = .bool false ∧ wx = w2)
  case first =>
    clear HK1
    rcases HCC.out with h | h
    · have e1' : ((c : Int) != 1) = false := by rw [h]; rfl
      clear h HCC
      go_wp2_with fail
      go_meet
      case rel => exact ⟨rfl, rfl⟩
    · have e1' : ((c : Int) != 1) = true := by rw [h]; rfl
      have e2' : ((c : Int) != 32773) = false := by rw [h]; rfl
      clear h HCC
      go_wp2_with fail
      go_meet
      case rel => exact ⟨rfl, rfl⟩
  case rest =>
    obtain ⟨rfl, hwc⟩ := hcut
    have hwc2 := hwc.symm
    subst hwc2
    clear hwc HCC
    go_wp2_with fail
    refine (HP.out _ HB2.out).mono ?_
    rintro e w3 ⟨rfl, hb3⟩
    have HB3 := Lib.hid hb3
    clear hb3 HB2 HB1
    have hk := HK1.out
    clear HK1
    by_cases hg : ((p = 0 ∨ p = 1) ∧ n = 1) ∨ (p = 2 ∧ (n = 3 ∨ n = 4))
    · rw [if_neg (fun h => h hg)] at hk
      have HG := Lib.hid hg
      have HK1 := Lib.hid hk
      clear hk hg
      go_upto_block 0 with fail
      go_cut [4] (fun v4 wx => v4 = .int .i64 (n : Nat) ∧ wx = w3)
      case first =>
        clear HK1
        rcases HG.out with ⟨h | h, h2⟩ | ⟨h, h2 | h2⟩
        all_goals
          subst h
          subst h2
          clear HG
          go_wp2_with fail
          go_meet
          case rel => exact ⟨rfl, rfl⟩
      case rest =>
        obtain ⟨rfl, hwc⟩ := hcut
        have hwc2 := hwc.symm
        subst hwc2
        clear hwc
        go_wp2_with fail
        refine (HD.out _ HB3.out).mono ?_
        rintro e w4 ⟨u, rfl, hu, hb4, -⟩
        obtain ⟨ux, uc, rfl⟩ := hu.shape
        have HU := Lib.hid hu
        obtain ⟨ti, ty, tv, tx⟩ := t
        simp only at HK1 HU
        unfold tcA
        simp only
        clear hu HD HC HS HP HG HB3
        have hk := Blk.new w4 70 #[.int .i64 (ti : Int), .int .i64 (ty : Int), .slice ux tv.length uc, .string ⟨tx.toArray⟩]
        have hkb := (Below.refl w4.heap.size w4).alloc (Nat.le_refl _) (.cells #[.int .i64 (ti : Int), .int .i64 (ty : Int), .slice ux tv.length uc, .string ⟨tx.toArray⟩] 70)
        go_upto_region 14 with fail
        have HU2 := Lib.hid (HU.out.below hkb)
        have HB5 : Hid (Below B w (w4.alloc (.cells #[.int .i64 (ti : Int), .int .i64 (ty : Int), .slice ux tv.length uc, .string ⟨tx.toArray⟩] 70))) := hb4.alloc (by rw [← HB.out]; exact hb4.size) _
        generalize w4.alloc (.cells #[.int .i64 (ti : Int), .int .i64 (ty : Int), .slice ux tv.length uc, .string ⟨tx.toArray⟩] 70) = wk at *
        have q2 : wk.cell? ⟨w4.heap.size, 2, none⟩ = some (.slice ux tv.length uc) := hk.cell 2
        clear hk hkb HU hb4
        generalize w4.heap.size = K at *
        obtain ⟨nt, hnt⟩ : ∃ nt, tv.length = nt := ⟨_, rfl⟩
        rw [hnt] at q2 HK1 ⊢
        by_cases hn : nt ≠ n
        · have hk := HK1.out
          rw [if_pos hn] at hk
          have HK := Lib.hid hk
          have en : ((nt : Int) != (n : Int)) = true := by unfold bne; rw [Bool.not_eq_true', beq_eq_false_iff_ne]; omega
          clear hk hn HK1
          go_wp2_with fail
          go_ret
          exact ⟨by rw [HK.out]; rfl, HB5.out⟩
        have hk := HK1.out
        rw [if_neg hn] at hk
        have HK2 := Lib.hid hk
        have en : ((nt : Int) != (n : Int)) = false := by unfold bne; rw [Bool.not_eq_false', beq_iff_eq]; omega
        have HNT := Lib.hid hnt
        have HNN : Hid (nt = n) := by show _ = _; omega
        clear hk HK1 hn
        go_upto_region 16 with fail
        clear en
        go_wp2_with fail
        have hcells : ∀ (i : Nat) (h : i < tv.length), ∃ b off, ux = some ⟨b, off, none⟩ ∧ wk.cell? ⟨b, off + i, none⟩ = some (.int .i64 (tv[i] : Int)) ∧ wk.cell? ⟨b, off, none⟩ = some (.int .i64 (tv.getD 0 0 : Int)) := by
          intro i h
          obtain ⟨x', c', hv, hc1, hc2, hcell⟩ := HU2.out
          cases hv
          obtain ⟨b, off, rfl, hc⟩ := hcell (by rintro rfl; simp at h)
          refine ⟨b, off, rfl, hc i h, ?_⟩
          have := hc 0 (by omega)
          rw [Nat.add_zero] at this
          rw [this, List.getD_eq_getElem?_getD, List.getElem?_eq_getElem (by omega)]; rfl
        have HCE := Lib.hid hcells
        have hn63 : nt ≤ 9223372036854775807 := by
          obtain ⟨x', c', hv, hc1, hc2, -⟩ := HU2.out
          cases hv
          unfold maxLen at hc2
          omega
        clear hcells hnt
        go_loopw [48] (fun vi wr => ∃ i : Nat, vi = .int .i64 i ∧ i ≤ nt ∧ Hid (∀ j (h : j < tv.length), j < i → okB tv[j] (tv.getD 0 0) = true) ∧ wr = wk) (fun vi _ => nt - (intOf vi).toNat)
        case atStart => exact ⟨0, rfl, Nat.zero_le _, (fun j h h2 => absurd h2 (by omega)), rfl⟩
        case round =>
          obtain ⟨i, rfl, hi, hok, hwr⟩ := hrel
          have hwr2 := hwr.symm
          subst hwr2
          clear hwr
          by_cases hlt : i < nt
          · have dlt : decide ((i : Int) < (nt : Int)) = true := by simp; omega
            have hit : i < tv.length := by rw [HNT.out]; exact hlt
            obtain ⟨b, off, rfl, k1, k0⟩ := HCE.out i hit
            have i1 : (i : Int) < (nt : Int) := by omega
            have i0 : (0 : Int) < (nt : Int) := by omega
            obtain ⟨y, hy⟩ : ∃ y, tv[i] = y := ⟨_, rfl⟩
            obtain ⟨y0, hy0⟩ : ∃ y, tv.getD 0 0 = y := ⟨_, rfl⟩
            rw [hy] at k1
            rw [hy0] at k0
            have HY : Hid (tv[i] = y ∧ tv.getD 0 0 = y0) := ⟨hy, hy0⟩
            clear hy hy0
            go_upto_region 19 with fail
            go_cut [65] (fun v65 wx => v65 = .bool (!(okB y y0)) ∧ wx = wk)
            case first =>
              clear HCE HK2 hok HU2
              by_cases hy : y = 8 ∨ y = 16
              · by_cases hyy : y = y0
                · have HO : Hid ((!(okB y y0)) = false) := by
                    show _ = _
                    unfold okB
                    rw [hyy, beq_self_eq_true, Bool.and_true]
                    rcases hy with h | h <;> rw [← hyy, h] <;> rfl
                  have ey : ((y : Int) != (y0 : Int)) = false := by rw [hyy]; simp
                  rcases hy with h | h
                  · have e8 : ((y : Int) != 8) = false := by rw [h]; rfl
                    clear h hyy
                    go_wp2_with fail
                    go_meet
                    case rel => exact ⟨by rw [HO.out], rfl⟩
                  · have e8 : ((y : Int) != 8) = true := by rw [h]; rfl
                    have e16 : ((y : Int) != 16) = false := by rw [h]; rfl
                    clear h hyy
                    go_wp2_with fail
                    go_meet
                    case rel => exact ⟨by rw [HO.out], rfl⟩
                · have HO : Hid ((!(okB y y0)) = true) := by
                    show _ = _
                    unfold okB
                    rw [beq_false_of_ne hyy, Bool.and_false]; rfl
                  have ey : ((y : Int) != (y0 : Int)) = true := by unfold bne; rw [Bool.not_eq_true', beq_eq_false_iff_ne]; omega
                  rcases hy with h | h
                  · have e8 : ((y : Int) != 8) = false := by rw [h]; rfl
                    clear h hyy
                    go_wp2_with fail
                    go_meet
                    case rel => exact ⟨by rw [HO.out], rfl⟩
                  · have e8 : ((y : Int) != 8) = true := by rw [h]; rfl
                    have e16 : ((y : Int) != 16) = false := by rw [h]; rfl
                    clear h hyy
                    go_wp2_with fail
                    go_meet
                    case rel => exact ⟨by rw [HO.out], rfl⟩
              · have HO : Hid ((!(okB y y0)) = true) := by
                  show _ = _
                  unfold okB
                  rw [beq_false_of_ne (show y ≠ 8 by omega), beq_false_of_ne (show y ≠ 16 by omega)]; rfl
                have e8 : ((y : Int) != 8) = true := by unfold bne; rw [Bool.not_eq_true', beq_eq_false_iff_ne]; omega
                have e16 : ((y : Int) != 16) = true := by unfold bne; rw [Bool.not_eq_true', beq_eq_false_iff_ne]; omega
                clear hy
                go_wp2_with fail
                go_meet
                case rel => exact ⟨by rw [HO.out], rfl⟩
            case rest =>
              obtain ⟨rfl, hwc⟩ := hcut
              have hwc2 := hwc.symm
              subst hwc2
              clear hwc
              by_cases hb : okB y y0 = true
              · rw [hb]
                simp only [Bool.not_true]
                have HOB := Lib.hid hb
                clear hb
                go_wp2_with fail
                go_roundw
                case rel =>
                  refine ⟨i + 1, by go_num, by omega, fun j hj hji => ?_, trivial⟩
                  by_cases e : j = i
                  · subst e; rw [HY.out.1, HY.out.2]; exact HOB.out
                  · exact hok.out j hj (by omega)
                case measure => simp [intOf]; omega
              · have hb' : okB y y0 = false := by simpa using hb
                have HBT : Hid (bitsP tv = false) := by
                  show _ = _
                  unfold bitsP
                  rw [Bool.eq_false_iff]
                  intro ha
                  have := List.all_eq_true.1 ha tv[i] (List.getElem_mem hit)
                  rw [HY.out.1, HY.out.2] at this
                  exact hb this
                have hk := HK2.out
                rw [if_pos HBT.out] at hk
                have HK := Lib.hid hk
                rw [hb']
                simp only [Bool.not_false]
                clear hk hb hb' HBT
                go_wp2_with fail
                go_ret
                exact ⟨by rw [HK.out]; rfl, HB5.out⟩
          · have dlt : decide ((i : Int) < (nt : Int)) = false := by simp; omega
            have HBT : Hid (bitsP tv = true) := by
              show _ = _
              unfold bitsP
              rw [List.all_eq_true]
              intro y hy
              obtain ⟨j, hj, rfl⟩ := List.getElem_of_mem hy
              exact hok.out j hj (by rw [HNT.out] at hj; omega)
            have hk := HK2.out
            rw [if_neg (by rw [HBT.out]; decide)] at hk
            have HK3 := Lib.hid hk
            clear hk HK2 HCE hok
            go_wp2_with fail
            refine (HA.out _ HB5.out).mono ?_
            rintro e w6 ⟨rfl, hb6⟩
            have HB6 := Lib.hid hb6
            clear hb6 q2 HB5
            by_cases ha : n = 4 ∧ al ≠ 1 ∧ al ≠ 2
            · have hk := HK3.out
              rw [if_pos ha] at hk
              have HK := Lib.hid hk
              have e4 : ((n : Int) == 4) = true := by rw [ha.1]; rfl
              have e1 : ((al : Int) != 1) = true := by unfold bne; rw [Bool.not_eq_true', beq_eq_false_iff_ne]; omega
              have e2 : ((al : Int) != 2) = true := by unfold bne; rw [Bool.not_eq_true', beq_eq_false_iff_ne]; omega
              clear hk ha HK3
              go_wp2_with fail
              go_ret
              exact ⟨by rw [HK.out]; rfl, HB6.out⟩
            have hk := HK3.out
            rw [if_neg ha] at hk
            have HK4 := Lib.hid hk
            have HAA : Hid (n ≠ 4 ∨ al = 1 ∨ al = 2) := by show _ ∨ _; omega
            clear hk HK3 ha
            go_upto_region 23 with fail
            go_cut [78] (fun v78 wx => v78 = .bool false ∧ wx = w6)
            case first =>
              clear HK4
              rcases HAA.out with h | h | h
              · have e4 : ((n : Int) == 4) = false := by rw [beq_eq_false_iff_ne]; omega
                clear h HAA
                go_wp2_with fail
                go_meet
                case rel => exact ⟨rfl, rfl⟩
              all_goals
                subst h
                clear HAA
                by_cases h4 : n = 4
                · have e4 : ((n : Int) == 4) = true := by rw [h4]; rfl
                  go_wp2_with fail
                  go_meet
                  case rel => exact ⟨rfl, rfl⟩
                · have e4 : ((n : Int) == 4) = false := by rw [beq_eq_false_iff_ne]; omega
                  go_wp2_with fail
                  go_meet
                  case rel => exact ⟨rfl, rfl⟩
            case rest =>
              obtain ⟨rfl, hwc⟩ := hcut
              have hwc2 := hwc.symm
              subst hwc2
              clear hwc HAA
              go_wp2_with fail
              refine (HL.out _ HB6.out).mono ?_
              rintro e w7 ⟨rfl, hb7⟩
              have HB7 := Lib.hid hb7
              clear hb7
              by_cases h1 : pl = 1
              · have e1 : ((pl : Int) == 1) = true := by rw [h1]; rfl
                have HPL : Hid ((pl == 1) = true) := by show _ = _; rw [h1]; rfl
                have HPR : Hid ((pr == 1) = ((pr : Int) == 1)) := by
                  show _ = _
                  by_cases h : pr = 1
                  · rw [h]; rfl
                  · rw [beq_false_of_ne h, beq_false_of_ne (by omega)]
                clear h1
                go_wp2_with fail
                refine (HR.out _ HB7.out).mono ?_
                rintro e w8 ⟨rfl, hb8⟩
                have HB8 := Lib.hid hb8
                clear hb8
                go_wp2_with fail
                go_ret
                exact ⟨by rw [HK4.out, HPL.out, HPR.out]; rfl, HB8.out⟩
              · have e1 : ((pl : Int) == 1) = false := by rw [beq_eq_false_iff_ne]; omega
                have HPL : Hid ((pl == 1) = false) := by show _ = _; rw [beq_false_of_ne h1]
                clear h1
                go_wp2_with fail
                go_ret
                exact ⟨by rw [HK4.out, HPL.out]; rfl, HB7.out⟩
    ·
      rw [if_pos hg] at hk
      have HK := Lib.hid hk
      clear hk
      by_cases h0 : p = 0 ∨ p = 1
      · have hn : n ≠ 1 := by omega
        have en : ((n : Int) != 1) = true := by unfold bne; rw [Bool.not_eq_true', beq_eq_false_iff_ne]; omega
        clear hg hn
        rcases h0 with h | h
        all_goals
          subst h
          go_wp2_with fail
          go_ret
          exact ⟨by rw [HK.out]; rfl, HB3.out⟩
      · have p0 : (p == 0) = false := by rw [beq_eq_false_iff_ne]; omega
        have p1 : (p == 1) = false := by rw [beq_eq_false_iff_ne]; omega
        by_cases h2 : p = 2
        · have hn : n ≠ 3 ∧ n ≠ 4 := by omega
          have p2 : (p == 2) = true := by rw [h2]; rfl
          have e3 : ((n : Int) != 3) = true := by unfold bne; rw [Bool.not_eq_true', beq_eq_false_iff_ne]; omega
          have e4 : ((n : Int) != 4) = true := by unfold bne; rw [Bool.not_eq_true', beq_eq_false_iff_ne]; omega
          clear hg hn h0 h2
          go_wp2_with fail
          go_ret
          exact ⟨by rw [HK.out]; rfl, HB3.out⟩
        · have p2 : (p == 2) = false := by rw [beq_eq_false_iff_ne]; omega
          clear hg h0 h2
          go_wp2_with fail
          go_ret
          exact ⟨by rw [HK.out]; rfl, HB3.out⟩
end Go.Proofs.Ytakileiomgaahaa
