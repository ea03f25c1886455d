/-
  The reference of tiff: kinds.
-/
import Derived.Test.YtakileiomgaahaaTj2
import Derived.Test.YtakileiomgaahaaTj3
import Derived.BigQuiet
namespace Go.Proofs.Ytakileiomgaahaa
open Go.RowKit

/-- The slice value that values answers. -/
def VCell (w : World) (v : Value) (l : List Tg) (id : Int) (u : Value) : Prop :=
  IRow w u (valsT l id) ∧ (∀ i (h : i < l.length), (∀ j (hj : j < l.length), j < i → (l[j].id : Int) ≠ id) → (l[i].id : Int) = id → ∀ x n c, v = .slice x n c → ∃ b off, x = some ⟨b, off, none⟩ ∧ w.cell? ⟨b, off + i * 4 + 2, none⟩ = some u) ∧ ((∀ j (hj : j < l.length), (l[j].id : Int) ≠ id) → u = .slice none 0 0)
theorem vcell_of {w : World} {v : Value} {l : List Tg} (hr : TRow w v l) (id : Int) : ∃ u, VCell w v l id u := by
  cases hf : findT l id with
  | none =>
    have hv : valsT l id = [] := by unfold valsT; rw [hf]; rfl
    have hno : ∀ j (hj : j < l.length), (l[j].id : Int) ≠ id := fun j hj h => by
      have := List.find?_eq_none.1 hf l[j] (List.getElem_mem hj)
      simp at this
      exact this h
    refine ⟨.slice none 0 0, by rw [hv]; exact IRow.nil w, fun i hi _ h => absurd h (hno i hi), fun _ => rfl⟩
  | some t =>
    obtain ⟨h1, i, hi, ht, hmin⟩ := List.find?_eq_some_iff_getElem.1 hf
    have hv : valsT l id = t.vals := by unfold valsT; rw [hf]; rfl
    have hid : (l[i].id : Int) = id := by rw [ht]; simpa using h1
    have hmin' : ∀ j (hj : j < l.length), j < i → (l[j].id : Int) ≠ id := fun j hj hji h => by
      have := hmin j hji
      simp at this
      exact this h
    obtain ⟨x, c, rfl, hlc, hcm, hcell⟩ := hr
    obtain ⟨b, off, rfl, hc⟩ := hcell (by rintro rfl; simp at hi)
    obtain ⟨_, _, _, u, c2, hu⟩ := hc i hi
    refine ⟨u, by rw [hv, ← ht]; exact hu, fun k hk hkm hkid x n c e => ?_, fun hno => absurd hid (hno i hi)⟩
    have : k = i := by
      rcases Nat.lt_trichotomy k i with h | h | h
      · exact absurd hkid (hmin' k hk h)
      · exact h
      · exact absurd hid (hkm i hi h)
    subst this
    injection e with e1
    exact ⟨b, off, e1.symm, c2⟩

set_option maxHeartbeats 2000000 in
set_option maxRecDepth 100000 in
theorem rvalues_run {v : Value} {l : List Tg} {w : World} (hr : TRow w v l) (id : Int) (u : Value) (hu : VCell w v l id u) : Calls Try.prog 47 #[v, .int .i64 id] w fun e w' => e = .returned u ∧ w = w' := by
  obtain ⟨x, c, rfl, hlc, hcm, -⟩ := _root_.id hr
  unfold maxLen at hcm
  have HR := Lib.hid hr
  have HV := Lib.hid hu
  have hu1 := hu.1.one
  have hlen : l.length ≤ 9223372036854775807 := by omega
  clear hr hu
  obtain ⟨n, hn⟩ : ∃ n, l.length = n := ⟨_, rfl⟩
  have HL := Lib.hid hn
  simp only [hn] at hlen hlc ⊢
  have HV2 : Hid (∀ i (h : i < l.length), (∀ j (hj : j < l.length), j < i → (l[j].id : Int) ≠ id) → (l[i].id : Int) = id → ∃ b off, x = some ⟨b, off, none⟩ ∧ w.cell? ⟨b, off + i * 4 + 2, none⟩ = some u) := fun i h1 h2 h3 => HV.out.2.1 i h1 h2 h3 x _ c rfl
  have HV3 : Hid ((∀ j (hj : j < l.length), (l[j].id : Int) ≠ id) → u = .slice none 0 0) := HV.out.2.2
  have HC : Hid (∀ i (h : i < l.length), ∃ b off, x = some ⟨b, off, none⟩ ∧ w.cell? ⟨b, off + i * 4, none⟩ = some (.int .i64 (l[i].id : Int))) := fun i hi => by
    obtain ⟨x', c', hv, -, -, hcell⟩ := HR.out
    cases hv
    obtain ⟨b, off, rfl, hc⟩ := hcell (by rintro rfl; simp at hi)
    exact ⟨b, off, rfl, (hc i hi).1⟩
  clear hn HV HR
  go_enter Try.func47, Try.ntmps47
  go_wp2_with fail
  go_loopw [8] (fun vi wr => ∃ i : Nat, vi = .int .i64 i ∧ i ≤ n ∧ Hid (∀ j (hj : j < l.length), j < i → (l[j].id : Int) ≠ id) ∧ wr = w) (fun vi _ => n - (intOf vi).toNat)
  case atStart => exact ⟨0, rfl, Nat.zero_le _, (fun j _ h => absurd h (by omega)), rfl⟩
  case round =>
    obtain ⟨i, rfl, hi, hno, hwr⟩ := hrel
    have hwr2 := hwr.symm
    subst hwr2
    clear hwr
    by_cases hlt : i < n
    · have dlt : decide ((i : Int) < (n : Int)) = true := by simp; omega
      have hil : i < l.length := by rw [HL.out]; exact hlt
      obtain ⟨b, off, rfl, c0⟩ := HC.out i hil
      have i1 : (i : Int) < (n : Int) := by omega
      by_cases hid : (l[i].id : Int) = id
      · obtain ⟨b', off', hb, c2⟩ := HV2.out i hil hno.out hid
        cases hb
        rw [hid] at c0
        have eid : (id == id) = true := by simp
        clear hid HC HV2 HV3 hno
        go_wp2_with fail
        go_ret
        exact ⟨rfl, rfl⟩
      · have HID := Lib.hid hid
        obtain ⟨ti, hti⟩ : ∃ t : Nat, l[i].id = t := ⟨_, rfl⟩
        rw [hti] at c0 hid
        have eid : ((ti : Int) == id) = false := by rw [beq_eq_false_iff_ne]; exact hid
        clear hid hti
        go_wp2_with fail
        go_roundw
        case rel =>
          refine ⟨i + 1, by go_num, by omega, fun j hj hji => ?_, trivial⟩
          by_cases e : j = i
          · subst e; exact HID.out
          · exact hno.out j hj (by omega)
        case measure => simp [intOf]; omega
    · have dlt : decide ((i : Int) < (n : Int)) = false := by simp; omega
      have HU : Hid (u = .slice none 0 0) := HV3.out fun j hj => hno.out j hj (by rw [HL.out] at hj; omega)
      clear HV2 HV3 HC hno hu1
      go_wp2_with fail
      go_ret
      exact ⟨by rw [HU.out]; rfl, rfl⟩
theorem VCell.below {w w' : World} {v : Value} {l : List Tg} {id : Int} {u : Value} (h : VCell w v l id u) (hb : Below w.heap.size w w') : VCell w' v l id u := by
  refine ⟨h.1.below hb, fun i hi h1 h2 x n c e => ?_, h.2.2⟩
  obtain ⟨b, off, rfl, hc⟩ := h.2.1 i hi h1 h2 x n c e
  exact ⟨b, off, rfl, (hb.cell (p := ⟨b, _, none⟩) (World.block_lt_of_cell? w _ hc)).trans hc⟩
/-- The contract of values, the slice being the same in every world that keeps what lay. -/
theorem rvalues_at {v : Value} {l : List Tg} {w : World} (hr : TRow w v l) (id : Int) : ∃ u, IRow w u (valsT l id) ∧ ∀ wx, Below w.heap.size w wx → Calls Try.prog 47 #[v, .int .i64 id] wx fun e w' => e = .returned u ∧ wx = w' := by
  obtain ⟨u, hu⟩ := vcell_of hr id
  exact ⟨u, hu.1, fun wx hb => rvalues_run (hr.below hb) id u (hu.below hb)⟩
set_option maxHeartbeats 2000000 in
set_option maxRecDepth 100000 in
theorem rfirst_any (v : Value) (l : List Tg) (id other : Int) (w : World) (hr : TRow w v l) : Calls Try.prog 49 #[v, .int .i64 id, .int .i64 other] w fun e w' => e = .returned (.int .i64 (firstT l id other)) ∧ w = w' := by
  obtain ⟨u, hu, hcall⟩ := rvalues_at hr id
  have HC := Lib.hid (hcall w (Below.refl _ _))
  have HF : Hid (firstT l id other = match valsT l id with | [] => other | v :: _ => (v : Int)) := rfl
  generalize valsT l id = tv at *
  obtain ⟨x', c', rfl, -, -, hcell⟩ := hu
  have HCELL := Lib.hid hcell
  clear hcall hcell hr
  go_enter Try.func49, Try.ntmps49
  go_wp2_with fail
  refine HC.out.mono ?_
  rintro e w1 ⟨rfl, rfl⟩
  clear HC
  cases tv with
  | nil =>
    have HF2 : Hid (firstT l id other = other) := HF.out
    simp only [List.length_nil]
    clear HF HCELL
    go_wp2_with fail
    go_ret
    exact ⟨by rw [HF2.out]; rfl, rfl⟩
  | cons a tv =>
    have HF2 : Hid (firstT l id other = (a : Int)) := HF.out
    obtain ⟨b, off, rfl, hc⟩ := HCELL.out (by simp)
    have q3 := hc 0 (by simp)
    simp only [List.getElem_cons_zero, Nat.add_zero] at q3
    have e1 : (((a :: tv).length : Int) == 0) = false := by rw [beq_eq_false_iff_ne, List.length_cons]; omega
    have i1 : (0 : Int) < ((a :: tv).length : Int) := by rw [List.length_cons]; omega
    clear HF hc HCELL
    generalize (a :: tv).length = n at *
    go_wp2_with fail
    go_ret
    exact ⟨by rw [HF2.out]; rfl, rfl⟩
theorem rfirst_at {v : Value} {l : List Tg} {w : World} (hr : TRow w v l) (id : Int) (other : Nat) (wx : World) (hb : Below w.heap.size w wx) : Calls Try.prog 49 #[v, .int .i64 id, .int .i64 (other : Int)] wx fun e w' => e = .returned (.int .i64 (firstN l id other : Nat)) ∧ wx = w' := by
  have := rfirst_any v l id (other : Int) wx (hr.below hb)
  rwa [firstT_nat] at this
end Go.Proofs.Ytakileiomgaahaa
namespace Go.Proofs.Ytakileiomgaahaa
open Go.RowKit

def badK (c p n : Nat) : Bool := decide ((c ≠ 1 ∧ c ≠ 32773) ∨ ¬ ((p < 2 ∧ n = 1) ∨ (p = 2 ∧ (n = 3 ∨ n = 4))))
def badD (tv : List Nat) (n : Nat) : Bool := decide (tv.length ≠ n ∨ (tv.getD 0 0 ≠ 8 ∧ tv.getD 0 0 ≠ 16))
def kindR (c p n : Nat) (tv : List Nat) (al pl pr : Nat) : Bool :=
  if badK c p n then false
  else if badD tv n then false
  else if tv.all (· == tv.getD 0 0) = false then false
  else if n = 4 ∧ al ≠ 1 ∧ al ≠ 2 then false
  else pl == 1 && pr == 1
theorem bitsP_eq (tv : List Nat) (n : Nat) (hn : 1 ≤ n) (hl : tv.length = n) : bitsP tv = (!(badD tv n) && tv.all (· == tv.getD 0 0)) := by
  cases tv with
  | nil => simp at hl; omega
  | cons a r =>
    unfold bitsP badD okB
    simp only [List.getD_cons_zero]
    by_cases h : a = 8 ∨ a = 16
    · have e1 : decide ((a :: r).length ≠ n ∨ (a ≠ 8 ∧ a ≠ 16)) = false := by simp only [decide_eq_false_iff_not]; omega
      rw [e1]
      simp only [Bool.not_false, Bool.true_and]
      rw [Bool.eq_iff_iff, List.all_eq_true, List.all_eq_true]
      constructor
      · intro hx x hxm
        have := hx x hxm
        simp at this ⊢
        exact this.2
      · intro hx x hxm
        have := hx x hxm
        simp at this ⊢
        exact ⟨by omega, this⟩
    · have e1 : decide ((a :: r).length ≠ n ∨ (a ≠ 8 ∧ a ≠ 16)) = true := by simp only [decide_eq_true_eq]; omega
      rw [e1]
      simp only [Bool.not_true, Bool.false_and]
      rw [List.all_cons, beq_false_of_ne (show a ≠ 8 by omega), beq_false_of_ne (show a ≠ 16 by omega)]
      rfl
theorem kindR_eq {l : List Tg} (h262 : valsT l 262 ≠ []) : kindP l = kindR (firstN l 259 1) (firstN l 262 0) (firstN l 277 0) (valsT l 258) (firstN l 338 0) (firstN l 284 1) (firstN l 317 1) := by
  have hp : firstT l 262 (-1) = (firstN l 262 0 : Int) := by
    unfold firstT firstN
    cases h : valsT l 262 with
    | nil => exact absurd h h262
    | cons a r => rfl
  unfold kindP kindR badK
  rw [hp]
  generalize firstN l 259 1 = c
  generalize firstN l 262 0 = p
  generalize firstN l 277 0 = n
  generalize valsT l 258 = tv
  by_cases h1 : c ≠ 1 ∧ c ≠ 32773
  · rw [if_pos h1, if_pos (by simp only [decide_eq_true_eq]; exact .inl h1)]
  rw [if_neg h1]
  by_cases h2 : ((p : Int) = 0 ∨ (p : Int) = 1) ∧ n = 1 ∨ (p : Int) = 2 ∧ (n = 3 ∨ n = 4)
  · have e : decide ((c ≠ 1 ∧ c ≠ 32773) ∨ ¬ ((p < 2 ∧ n = 1) ∨ (p = 2 ∧ (n = 3 ∨ n = 4)))) = false := decide_eq_false (by omega)
    rw [if_neg (fun h => h h2), e]
    simp only [Bool.false_eq_true, if_false]
    by_cases h3 : tv.length ≠ n
    · have e2 : badD tv n = true := decide_eq_true (.inl h3)
      rw [if_pos h3, e2]
      rfl
    rw [if_neg h3, bitsP_eq tv n (by omega) (by omega)]
    cases h4 : badD tv n with
    | true => rfl
    | false =>
      simp only [Bool.not_false, Bool.true_and]
      cases h5 : tv.all (· == tv.getD 0 0) with
      | true => simp
      | false => simp
  · have e : decide ((c ≠ 1 ∧ c ≠ 32773) ∨ ¬ ((p < 2 ∧ n = 1) ∨ (p = 2 ∧ (n = 3 ∨ n = 4)))) = true := decide_eq_true (by omega)
    rw [if_pos h2, e]
    rfl

set_option maxHeartbeats 4000000 in
set_option maxRecDepth 100000 in
theorem rkinds_any (v : Value) (l : List Tg) (w : World) (hr : TRow w v l) (h258 : valsT l 258 ≠ []) (h262 : valsT l 262 ≠ []) : Calls Try.prog 48 #[v] w fun e w' => e = .returned (.bool (kindP l)) ∧ Below w.heap.size w w' := by
  have HC := Lib.hid (rfirst_at hr 259 1 w (Below.refl _ _))
  have HP := Lib.hid (rfirst_at hr 262 0 w (Below.refl _ _))
  have HS := Lib.hid (rfirst_at hr 277 0 w (Below.refl _ _))
  have HA := Lib.hid (fun wx hb => rfirst_at hr 338 0 wx hb)
  have HL := Lib.hid (fun wx hb => rfirst_at hr 284 1 wx hb)
  have HR := Lib.hid (fun wx hb => rfirst_at hr 317 1 wx hb)
  obtain ⟨u, hu, hcall⟩ := rvalues_at hr 258
  have HV := Lib.hid (hcall w (Below.refl _ _))
  obtain ⟨x, cc, rfl, -⟩ := hr
  have hk := kindR_eq h262
  generalize firstN l 259 1 = c at *
  generalize firstN l 262 0 = p at *
  generalize firstN l 277 0 = n at *
  generalize firstN l 338 0 = al at *
  generalize firstN l 284 1 = pl at *
  generalize firstN l 317 1 = pr at *
  generalize valsT l 258 = tv at *
  generalize kindP l = res at *
  unfold kindR at hk
  have HK0 := Lib.hid hk
  obtain ⟨x', c', rfl, hc1, hc2, hcell⟩ := hu
  have HCELL := Lib.hid (hcell h258)
  obtain ⟨b, off, rfl, hc⟩ := hcell h258
  have hn63 : tv.length ≤ 9223372036854775807 := by unfold maxLen at hc2; omega
  have HNE : Hid (0 < tv.length) := List.length_pos_iff.2 h258
  obtain ⟨nt, hnt⟩ : ∃ nt, tv.length = nt := ⟨_, rfl⟩
  have HNT := Lib.hid hnt
  have HCE := Lib.hid hc
  have k0 := hc 0 HNE.out
  obtain ⟨y0, hy0⟩ : ∃ y, tv.getD 0 0 = y := ⟨_, rfl⟩
  have e0 : tv[0]'HNE.out = y0 := by rw [← hy0, List.getD_eq_getElem?_getD, List.getElem?_eq_getElem HNE.out]; rfl
  rw [e0] at k0
  simp only [Nat.add_zero] at k0
  have hblt : b < w.heap.size := World.block_lt_of_cell? w _ k0
  have HY0 := Lib.hid hy0
  obtain ⟨bk, hbk⟩ : ∃ b, badK c p n = b := ⟨_, rfl⟩
  obtain ⟨bd, hbd⟩ : ∃ b, badD tv n = b := ⟨_, rfl⟩
  rw [hbk, hbd] at hk
  have HBK : Hid (decide ((c ≠ 1 ∧ c ≠ 32773) ∨ ¬ ((p < 2 ∧ n = 1) ∨ (p = 2 ∧ (n = 3 ∨ n = 4)))) = bk) := hbk
  have HBD : Hid (decide (nt ≠ n ∨ (y0 ≠ 8 ∧ y0 ≠ 16)) = bd) := by show _ = _; rw [← hbd]; unfold badD; rw [hnt, hy0]
  have HK := Lib.hid hk
  rw [hnt] at HV hn63
  have i0 : (0 : Int) < (nt : Int) := by have := HNE.out; omega
  clear hk HK0 hcell hcall HCELL hc hnt e0 hy0 hbk hbd h258 h262 hc1
  go_enter Try.func48, Try.ntmps48
  go_wp2_with fail
  refine HC.out.mono ?_
  rintro e w1 ⟨rfl, rfl⟩
  go_wp2_with fail
  refine HP.out.mono ?_
  rintro e w1 ⟨rfl, rfl⟩
  go_wp2_with fail
  refine HS.out.mono ?_
  rintro e w1 ⟨rfl, rfl⟩
  go_upto_region 2 with fail
  clear HC HP HS
  go_cut [44] (fun v44 wx => v44 = .bool bk ∧ wx = w)
  case first =>
    clear HK HBD
    by_cases h1 : c ≠ 1 ∧ c ≠ 32773
    · have hb : bk = true := by rw [← HBK.out]; simp only [decide_eq_true_eq]; exact .inl h1
      have e1 : ((c : Int) != 1) = true := by unfold bne; rw [Bool.not_eq_true', beq_eq_false_iff_ne]; omega
      have e2 : ((c : Int) != 32773) = true := by unfold bne; rw [Bool.not_eq_true', beq_eq_false_iff_ne]; omega
      clear h1 HBK
      go_wp2_with fail
      go_meet
      case rel => exact ⟨by rw [hb], rfl⟩
    · by_cases h2 : 2 < p
      · have hb : bk = true := by rw [← HBK.out]; simp only [decide_eq_true_eq]; omega
        have e3 : decide ((2 : Int) < (p : Int)) = true := by simp; omega
        clear HBK
        by_cases hc : c = 1
        · have e1 : ((c : Int) != 1) = false := by rw [hc]; rfl
          clear h1 hc
          go_wp2_with fail
          go_meet
          case rel => exact ⟨by rw [hb], rfl⟩
        · have hc2 : c = 32773 := by omega
          have e1 : ((c : Int) != 1) = true := by rw [hc2]; rfl
          have e2 : ((c : Int) != 32773) = false := by rw [hc2]; rfl
          clear h1 hc hc2
          go_wp2_with fail
          go_meet
          case rel => exact ⟨by rw [hb], rfl⟩
      · have e3 : decide ((2 : Int) < (p : Int)) = false := by simp; omega
        by_cases hp2 : p < 2
        · have e4 : decide ((p : Int) < 2) = true := by simp; omega
          have e5 : ((p : Int) == 2) = false := by rw [beq_eq_false_iff_ne]; omega
          by_cases hn : n = 1
          · have e6 : ((n : Int) != 1) = false := by rw [hn]; rfl
            have hb : bk = false := by rw [← HBK.out]; simp only [decide_eq_false_iff_not]; omega
            clear HBK hn
            by_cases hc : c = 1
            · have e1 : ((c : Int) != 1) = false := by rw [hc]; rfl
              clear h1 hc
              go_wp2_with fail
              go_meet
              case rel => exact ⟨by rw [hb], rfl⟩
            · have hc2 : c = 32773 := by omega
              have e1 : ((c : Int) != 1) = true := by rw [hc2]; rfl
              have e2 : ((c : Int) != 32773) = false := by rw [hc2]; rfl
              clear h1 hc hc2
              go_wp2_with fail
              go_meet
              case rel => exact ⟨by rw [hb], rfl⟩
          · have e6 : ((n : Int) != 1) = true := by unfold bne; rw [Bool.not_eq_true', beq_eq_false_iff_ne]; omega
            have hb : bk = true := by rw [← HBK.out]; simp only [decide_eq_true_eq]; omega
            clear HBK hn
            by_cases hc : c = 1
            · have e1 : ((c : Int) != 1) = false := by rw [hc]; rfl
              clear h1 hc
              go_wp2_with fail
              go_meet
              case rel => exact ⟨by rw [hb], rfl⟩
            · have hc2 : c = 32773 := by omega
              have e1 : ((c : Int) != 1) = true := by rw [hc2]; rfl
              have e2 : ((c : Int) != 32773) = false := by rw [hc2]; rfl
              clear h1 hc hc2
              go_wp2_with fail
              go_meet
              case rel => exact ⟨by rw [hb], rfl⟩
        · have hp : p = 2 := by omega
          have e4 : decide ((p : Int) < 2) = false := by simp; omega
          have e5 : ((p : Int) == 2) = true := by rw [hp]; rfl
          have HPP := Lib.hid hp
          clear hp
          by_cases hn : n = 3 ∨ n = 4
          · have hb : bk = false := by rw [← HBK.out]; simp only [decide_eq_false_iff_not]; have := HPP.out; omega
            clear HBK
            have e8 : (((n : Int) != 3) = false) ∨ ((((n : Int) != 3) = true) ∧ (((n : Int) != 4) = false)) := by
              rcases hn with h | h
              · rw [h]; exact .inl rfl
              · rw [h]; exact .inr ⟨rfl, rfl⟩
            clear hn
            by_cases hc : c = 1
            · have e1 : ((c : Int) != 1) = false := by rw [hc]; rfl
              clear h1 hc
              rcases e8 with e8 | ⟨e8, e9⟩
              all_goals
                go_wp2_with fail
                go_meet
                case rel => exact ⟨by rw [hb], rfl⟩
            · have hc2 : c = 32773 := by omega
              have e1 : ((c : Int) != 1) = true := by rw [hc2]; rfl
              have e2 : ((c : Int) != 32773) = false := by rw [hc2]; rfl
              clear h1 hc hc2
              rcases e8 with e8 | ⟨e8, e9⟩
              all_goals
                go_wp2_with fail
                go_meet
                case rel => exact ⟨by rw [hb], rfl⟩
          · have hb : bk = true := by rw [← HBK.out]; simp only [decide_eq_true_eq]; have := HPP.out; omega
            have e8 : ((n : Int) != 3) = true := by unfold bne; rw [Bool.not_eq_true', beq_eq_false_iff_ne]; omega
            have e9 : ((n : Int) != 4) = true := by unfold bne; rw [Bool.not_eq_true', beq_eq_false_iff_ne]; omega
            clear HBK hn
            by_cases hc : c = 1
            · have e1 : ((c : Int) != 1) = false := by rw [hc]; rfl
              clear h1 hc
              go_wp2_with fail
              go_meet
              case rel => exact ⟨by rw [hb], rfl⟩
            · have hc2 : c = 32773 := by omega
              have e1 : ((c : Int) != 1) = true := by rw [hc2]; rfl
              have e2 : ((c : Int) != 32773) = false := by rw [hc2]; rfl
              clear h1 hc hc2
              go_wp2_with fail
              go_meet
              case rel => exact ⟨by rw [hb], rfl⟩
  case rest =>
    obtain ⟨rfl, hwc⟩ := hcut
    have hwc2 := hwc.symm
    subst hwc2
    clear hwc
    cases bk with
    | true =>
      have HF : Hid (res = false) := HK.out
      clear HK HBK
      go_wp2_with fail
      go_ret
      exact ⟨by rw [HF.out]; rfl, Below.refl _ _⟩
    | false =>
      have HK1 : Hid (res = if bd = true then false else if tv.all (· == tv.getD 0 0) = false then false else if n = 4 ∧ al ≠ 1 ∧ al ≠ 2 then false else pl == 1 && pr == 1) := HK.out
      clear HK
      have hn134 : n = 1 ∨ n = 3 ∨ n = 4 := by have := of_decide_eq_false HBK.out; omega
      have HN134 := Lib.hid hn134
      clear hn134 HBK
      go_wp2_with fail
      refine HV.out.mono ?_
      rintro e w1 ⟨rfl, rfl⟩
      clear HV
      go_upto_region 5 with fail
      go_cut [62] (fun v62 wx => v62 = .bool bd ∧ wx = w)
      case first =>
        clear HK1 HCE
        by_cases hn : nt = n
        · have en : ((nt : Int) != (n : Int)) = false := by rw [hn]; simp
          by_cases h8 : y0 = 8
          · have hb : bd = false := by rw [← HBD.out]; simp only [decide_eq_false_iff_not]; omega
            have e8 : ((y0 : Int) != 8) = false := by rw [h8]; rfl
            clear h8 HBD hn
            go_wp2_with fail
            go_meet
            case rel => exact ⟨by rw [hb], rfl⟩
          · have e8 : ((y0 : Int) != 8) = true := by unfold bne; rw [Bool.not_eq_true', beq_eq_false_iff_ne]; omega
            by_cases h16 : y0 = 16
            · have hb : bd = false := by rw [← HBD.out]; simp only [decide_eq_false_iff_not]; omega
              have e16 : ((y0 : Int) != 16) = false := by rw [h16]; rfl
              clear h8 h16 HBD hn
              go_wp2_with fail
              go_meet
              case rel => exact ⟨by rw [hb], rfl⟩
            · have hb : bd = true := by rw [← HBD.out]; simp only [decide_eq_true_eq]; omega
              have e16 : ((y0 : Int) != 16) = true := by unfold bne; rw [Bool.not_eq_true', beq_eq_false_iff_ne]; omega
              clear h8 h16 HBD hn
              go_wp2_with fail
              go_meet
              case rel => exact ⟨by rw [hb], rfl⟩
        · have en : ((nt : Int) != (n : Int)) = true := by unfold bne; rw [Bool.not_eq_true', beq_eq_false_iff_ne]; omega
          have hb : bd = true := by rw [← HBD.out]; simp only [decide_eq_true_eq]; omega
          clear HBD hn
          go_wp2_with fail
          go_meet
          case rel => exact ⟨by rw [hb], rfl⟩
      case rest =>
        obtain ⟨rfl, hwc⟩ := hcut
        have hwc2 := hwc.symm
        subst hwc2
        clear hwc
        cases bd with
        | true =>
          have HF : Hid (res = false) := HK1.out
          clear HK1 HBD
          go_wp2_with fail
          go_ret
          exact ⟨by rw [HF.out]; rfl, Below.refl _ _⟩
        | false =>
          have HK2 : Hid (res = if tv.all (· == tv.getD 0 0) = false then false else if n = 4 ∧ al ≠ 1 ∧ al ≠ 2 then false else pl == 1 && pr == 1) := HK1.out
          clear HK1 HBD
          go_wp2_with fail
          have HBLT := Lib.hid hblt
          go_loopw [65] (fun vi wr => ∃ i : Nat, vi = .int .i64 i ∧ i ≤ nt ∧ Hid (∀ j (h : j < tv.length), j < i → tv[j] = y0) ∧ Hid (Below w.heap.size w wr)) (fun vi _ => nt - (intOf vi).toNat)
          case atStart => exact ⟨0, rfl, Nat.zero_le _, (fun j h h2 => absurd h2 (by omega)), Below.refl _ _⟩
          case round =>
            obtain ⟨i, rfl, hi, hok, hbw⟩ := hrel
            by_cases hlt : i < nt
            · have dlt : decide ((i : Int) < (nt : Int)) = true := by simp; omega
              have hit : i < tv.length := by rw [HNT.out]; exact hlt
              have k1 := HCE.out i hit
              have i1 : (i : Int) < (nt : Int) := by omega
              obtain ⟨y, hy⟩ : ∃ y, tv[i] = y := ⟨_, rfl⟩
              rw [hy] at k1
              replace k1 := (hbw.out.cell (p := ⟨b, _, none⟩) hblt).trans k1
              replace k0 := (hbw.out.cell (p := ⟨b, _, none⟩) hblt).trans k0
              have HY : Hid (tv[i] = y) := hy
              clear hy
              by_cases hyy : y = y0
              · have ey : ((y : Int) != (y0 : Int)) = false := by rw [hyy]; simp
                have HYY := Lib.hid hyy
                clear hyy HCE
                go_upto_region 10 with fail
                go_quiet (fail)
                have HBQ := Lib.hid (below_drewN hbw.out nq)
                generalize wr.drewN nq = wq at *
                go_wp2_with fail
                go_roundw
                case rel =>
                  refine ⟨i + 1, by go_num, by omega, fun j hj hji => ?_, HBQ.out⟩
                  by_cases e : j = i
                  · subst e; rw [HY.out, HYY.out]
                  · exact hok.out j hj (by omega)
                case measure => simp [intOf]; omega
              · have ey : ((y : Int) != (y0 : Int)) = true := by unfold bne; rw [Bool.not_eq_true', beq_eq_false_iff_ne]; omega
                have HBT : Hid (tv.all (· == tv.getD 0 0) = false) := by
                  show _ = _
                  rw [Bool.eq_false_iff]
                  intro ha
                  have := List.all_eq_true.1 ha tv[i] (List.getElem_mem hit)
                  rw [HY.out, HY0.out] at this
                  exact hyy (by simpa using this)
                have HF : Hid (res = false) := by show _ = _; rw [HK2.out, if_pos HBT.out]
                clear hyy HCE HK2 HBT
                go_upto_region 10 with fail
                go_quiet (fail)
                have HBQ := Lib.hid (below_drewN hbw.out nq)
                generalize wr.drewN nq = wq at *
                go_wp2_with fail
                go_ret
                exact ⟨by rw [HF.out]; rfl, HBQ.out⟩
            · have dlt : decide ((i : Int) < (nt : Int)) = false := by simp; omega
              have HBT : Hid (tv.all (· == tv.getD 0 0) = true) := by
                show _ = _
                rw [List.all_eq_true]
                intro y hy
                obtain ⟨j, hj, rfl⟩ := List.getElem_of_mem hy
                rw [hok.out j hj (by rw [HNT.out] at hj; omega), HY0.out]
                simp
              have HK3 : Hid (res = if n = 4 ∧ al ≠ 1 ∧ al ≠ 2 then false else pl == 1 && pr == 1) := by show _ = _; rw [HK2.out, if_neg (by rw [HBT.out]; decide)]
              clear HK2 HCE hok HBT
              go_wp2_with fail
              refine (HA.out _ hbw.out).mono ?_
              rintro e w1 ⟨rfl, rfl⟩
              clear HA
              go_upto_region 14 with fail
              by_cases ha : n = 4 ∧ al ≠ 1 ∧ al ≠ 2
              · have HF : Hid (res = false) := by show _ = _; rw [HK3.out, if_pos ha]
                have e4 : decide ((n : Int) < 4) = false := by simp; omega
                have e1 : ((al : Int) == 1) = false := by rw [beq_eq_false_iff_ne]; omega
                have e2 : ((al : Int) == 2) = false := by rw [beq_eq_false_iff_ne]; omega
                have h4 : ¬ n < 4 := by omega
                clear ha HK3
                go_wp2_with fail
                go_ret
                exact ⟨by rw [HF.out]; rfl, hbw.out⟩
              have HK4 : Hid (res = (pl == 1 && pr == 1)) := by show _ = _; rw [HK3.out, if_neg ha]
              have HPR : Hid ((pr == 1) = ((pr : Int) == 1)) := by
                show _ = _
                by_cases h : pr = 1
                · rw [h]; rfl
                · rw [beq_false_of_ne h, beq_false_of_ne (by omega)]
              have hcase : n < 4 ∨ (¬ n < 4 ∧ al = 1) ∨ (¬ n < 4 ∧ al ≠ 1 ∧ al = 2) := by have := HN134.out; omega
              clear ha HK3
              by_cases h1 : pl = 1
              · have e1 : ((pl : Int) == 1) = true := by rw [h1]; rfl
                have HPL : Hid ((pl == 1) = true) := by show _ = _; rw [h1]; rfl
                clear h1
                rcases hcase with h4 | ⟨h4, ha⟩ | ⟨h4, ha1, ha⟩
                · have e4 : decide ((n : Int) < 4) = true := by simp; omega
                  go_wp2_with fail
                  refine (HL.out _ hbw.out).mono ?_
                  rintro e w1 ⟨rfl, rfl⟩
                  go_wp2_with fail
                  refine (HR.out _ hbw.out).mono ?_
                  rintro e w1 ⟨rfl, rfl⟩
                  go_wp2_with fail
                  go_ret
                  exact ⟨by rw [HK4.out, HPL.out, HPR.out]; rfl, hbw.out⟩
                · have e4 : decide ((n : Int) < 4) = false := by simp; omega
                  have ea : ((al : Int) == 1) = true := by rw [ha]; rfl
                  clear ha
                  go_wp2_with fail
                  refine (HL.out _ hbw.out).mono ?_
                  rintro e w1 ⟨rfl, rfl⟩
                  go_wp2_with fail
                  refine (HR.out _ hbw.out).mono ?_
                  rintro e w1 ⟨rfl, rfl⟩
                  go_wp2_with fail
                  go_ret
                  exact ⟨by rw [HK4.out, HPL.out, HPR.out]; rfl, hbw.out⟩
                · have e4 : decide ((n : Int) < 4) = false := by simp; omega
                  have ea : ((al : Int) == 1) = false := by rw [ha]; rfl
                  have eb : ((al : Int) == 2) = true := by rw [ha]; rfl
                  clear ha ha1
                  go_wp2_with fail
                  refine (HL.out _ hbw.out).mono ?_
                  rintro e w1 ⟨rfl, rfl⟩
                  go_wp2_with fail
                  refine (HR.out _ hbw.out).mono ?_
                  rintro e w1 ⟨rfl, rfl⟩
                  go_wp2_with fail
                  go_ret
                  exact ⟨by rw [HK4.out, HPL.out, HPR.out]; rfl, hbw.out⟩
              · have e1 : ((pl : Int) == 1) = false := by rw [beq_eq_false_iff_ne]; omega
                have HPL : Hid ((pl == 1) = false) := by show _ = _; rw [beq_false_of_ne h1]
                clear h1
                rcases hcase with h4 | ⟨h4, ha⟩ | ⟨h4, ha1, ha⟩
                · have e4 : decide ((n : Int) < 4) = true := by simp; omega
                  go_wp2_with fail
                  refine (HL.out _ hbw.out).mono ?_
                  rintro e w1 ⟨rfl, rfl⟩
                  go_wp2_with fail
                  go_ret
                  exact ⟨by rw [HK4.out, HPL.out]; rfl, hbw.out⟩
                · have e4 : decide ((n : Int) < 4) = false := by simp; omega
                  have ea : ((al : Int) == 1) = true := by rw [ha]; rfl
                  clear ha
                  go_wp2_with fail
                  refine (HL.out _ hbw.out).mono ?_
                  rintro e w1 ⟨rfl, rfl⟩
                  go_wp2_with fail
                  go_ret
                  exact ⟨by rw [HK4.out, HPL.out]; rfl, hbw.out⟩
                · have e4 : decide ((n : Int) < 4) = false := by simp; omega
                  have ea : ((al : Int) == 1) = false := by rw [ha]; rfl
                  have eb : ((al : Int) == 2) = true := by rw [ha]; rfl
                  clear ha ha1
                  go_wp2_with fail
                  refine (HL.out _ hbw.out).mono ?_
                  rintro e w1 ⟨rfl, rfl⟩
                  go_wp2_with fail
                  go_ret
                  exact ⟨by rw [HK4.out, HPL.out]; rfl, hbw.out⟩
end Go.Proofs.Ytakileiomgaahaa
