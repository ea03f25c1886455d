/-
  Walk: Parse of the reference.
-/
import Derived.Test.YtgjbelcnkmcbiaaDoorQz4
import Derived.Test.YtgjbelcnkmcbiaaDoorQv2
import Derived.Test.YtgjbelcnkmcbiaaDoorPa
import Derived.Test.YtgjbelcnkmcbiaaDoorQr
namespace Go.Proofs.YtgjbelcnkmcbiaaDoor
open Go.RowKit

theorem parse_err {L : List UInt8} {pre r : List (List UInt8)} {x : List UInt8} {st : PS} {a : Nat} (h0 : L ≠ []) (hs : spl 32 L = pre ++ x :: r) (h : psRun pre = .ok st) (hx : psStep st x = .error a) : parseP L = ([], a, 4) := by
  unfold parseP
  rw [if_neg h0, hs, show pre ++ x :: r = (pre ++ [x]) ++ r by simp, psRun_err _ r a (by rw [psRun_snoc, h]; exact hx)]
theorem parse_end {L : List UInt8} {pre : List (List UInt8)} {st : PS} (h0 : L ≠ []) (hs : spl 32 L = pre) (h : psRun pre = .ok st) :
    parseP L = if 0 < st.ms then ([], L.length, 4) else if chkP st.l ≠ 0 then ([], 0, chkP st.l) else (st.l, 0, 0) := by
  unfold parseP
  rw [if_neg h0, hs, h]
theorem SOwn.put {w : World} {B g c : Nat} {L : List Sg} {z : Sg} (h : SOwn w B (.slice (some ⟨g, 0, none⟩) (L.length + 1) c) (L ++ [z])) (j : Nat) (hj : j < 6) (n : Int) :
    SOwn (w.setCell ⟨g, L.length * 7 + 1 + j, none⟩ (.int .i64 n)) B (.slice (some ⟨g, 0, none⟩) (L.length + 1) c) (L ++ [putN z j n]) := by
  have hlen : ∀ z : Sg, (L ++ [z]).length = L.length + 1 := fun z => by simp
  unfold SOwn at *
  rw [hlen] at *
  have hs := (World.ownsRow.stored h (L.length * 7 + 1 + j) (.int .i64 n)).1
  rw [scells_set L z j n hj] at hs
  exact hs
theorem srow_cell {w : World} {B g c : Nat} {L : List Sg} {z : Sg} (h : SOwn w B (.slice (some ⟨g, 0, none⟩) (L.length + 1) c) (L ++ [z])) (j : Nat) (hj : j < 7) :
    w.cell? ⟨g, L.length * 7 + j, none⟩ = (scell z)[j]? := by
  unfold SOwn at h
  have e : (L ++ [z]).length = L.length + 1 := by simp
  rw [e] at h
  rw [World.ownsRow.cellAt h _ (by omega)]
  have := scells_get (L ++ [z]) L.length j (by simp) hj
  rw [this]
  simp

set_option maxRecDepth 100000 in
set_option maxHeartbeats 4000000 in
theorem rparse_any (s : ByteArray) (w : World) (hs : s.size ≤ 1048576) :
    Calls Tryd.prog 26 #[.string s] w fun e w' => PaOk s.data.toList e w' ∧ Below w.heap.size w w' := by
  have hln : s.data.toList.length = s.size := by rw [Array.length_toList]; rfl
  obtain ⟨L, hL⟩ : ∃ L, s.data.toList = L := ⟨_, rfl⟩
  have HOK : Hid (∀ (v : Value) (l : List Sg) (a : Nat) (e : Int) w', parseP L = (l, a, e) → SRow w' v l → PaOk s.data.toList (.returned (.tuple #[v, .int .i64 a, .int .i64 e])) w') := by
    intro v l a e w' h hr
    unfold PaOk
    rw [hL, h]
    exact ⟨v, rfl, hr⟩
  rw [hL] at hln
  have HL := Lib.hid hL
  have HLN := Lib.hid hln
  have HEQ : Hid (∀ a b, s.extract a b = ⟨((L.take b).drop a).toArray⟩) := fun a b => ba_ext1 (by rw [extract_list, hL])
  have HST : Hid (∀ i (h : i < s.size), s[i].toNat = (L[i]'(by rw [HLN.out]; exact h)).toNat) := by
    subst hL
    intro i h; rw [byte_at s i h]; simp [hln, h]
  have HSP := Lib.hid (fun (h : s.size = 0) => show L = [] from List.eq_nil_of_length_eq_zero (by omega))
  have HO1 : Hid (SOwn (w.alloc (.cells #[] 35)) w.heap.size (.slice (some ⟨w.heap.size, 0, none⟩) 0 0) []) := World.ownsRow_lit w #[] 0 (Nat.le_refl _) (by decide) rfl
  have HB1 := Lib.hid ((Below.refl w.heap.size w).alloc (Nat.le_refl _) (.cells #[] 35))
  clear hL hln
  go_enter Tryd.func26, Tryd.ntmps26
  go_wp2_with fail
  go_loopw [5, 6, 7] (fun vo vm va wr => ∃ (pre : List (List UInt8)) (sl : List Sg) (rd ms at_ : Nat) (O : Value), O = vo ∧ vm = .int .i64 ms ∧ va = .int .i64 at_ ∧ at_ ≤ s.size + 1 ∧ ms ≤ 6 ∧ sl.length ≤ at_ ∧ Hid (psRun pre = .ok ⟨sl, rd, ms, at_⟩) ∧ Hid (spl 32 L = pre ++ restW L at_) ∧ Hid (SOwn wr w.heap.size O sl) ∧ Hid (Below w.heap.size w wr)) (fun _ _ va _ => s.size + 2 - (intOf va).toNat)
  case atStart => exact ⟨[], [], 0, 0, 0, _, rfl, rfl, rfl, Nat.zero_le _, by decide, Nat.zero_le _, rfl, by show _ = _; unfold restW; simp, HO1.out, HB1.out⟩
  case round =>
    obtain ⟨pre, sl, rd, ms, at_, O, rfl, rfl, rfl, hat, hms, hsl, hrun, hspl, hso, hbw⟩ := hrel
    have hmax : maxLen = 9223372036854775807 := rfl
    by_cases hgo : 0 < s.size ∧ at_ ≤ s.size
    · obtain ⟨hg1, hg2⟩ := hgo
      have d1 : decide ((0 : Int) < (s.size : Int)) = true := by simp; omega
      have d2 : decide ((at_ : Int) ≤ (s.size : Int)) = true := by simp; omega
      obtain ⟨xo, co, rfl⟩ := hso.out.shape
      go_wp2_with fail
      go_loopw [8] (fun ve we => ∃ e : Nat, ve = .int .i64 e ∧ at_ ≤ e ∧ e ≤ s.size ∧ Hid (∀ i (h : i < L.length), at_ ≤ i → i < e → L[i] ≠ 32) ∧ we = wr) (fun ve _ => s.size - (intOf ve).toNat)
      case atStart => exact ⟨at_, rfl, Nat.le_refl _, hg2, fun i h h1 h2 => absurd h1 (by omega), rfl⟩
      case round =>
        obtain ⟨e, rfl, he1, he2, hno, rfl⟩ := hrel
        have HEND : Hid ((e = L.length ∨ ∃ h : e < L.length, L[e] = 32) → restW L at_ = (L.take e).drop at_ :: restW L (e + 1)) := fun h => rest_at L at_ e he1 (by rw [HLN.out]; exact he2) hno.out h
        by_cases hlt : e < s.size ∧ ∀ h : e < s.size, s[e] ≠ 32
        · obtain ⟨hl1, hl2⟩ := hlt
          have hl2 := hl2 hl1
          have HE := HST.out e hl1
          have HNE : Hid (∀ i (h : i < L.length), at_ ≤ i → i < e + 1 → L[i] ≠ 32) := by
            intro i h h1 h2
            by_cases hie : i < e
            · exact hno.out i h h1 hie
            · obtain rfl : i = e := by omega
              intro h3
              rw [h3] at HE
              exact hl2 (by apply UInt8.toNat_inj.1; rw [HE])
          have d3 : decide ((e : Int) < (s.size : Int)) = true := by simp; omega
          obtain ⟨c, hc⟩ : ∃ c, s[e] = c := ⟨_, rfl⟩
          rw [hc] at hl2
          have d4 : ((c.toNat : Int) != 32) = true := by
            have : c.toNat ≠ 32 := fun h => hl2 (by apply UInt8.toNat_inj.1; rw [h]; rfl)
            simp; omega
          clear HE hl2 HEND
          go_wp2_with fail
          go_roundw
          case rel => exact ⟨e + 1, by go_num, by omega, by omega, HNE, by trivial⟩
          case measure => simp [intOf]; omega
        · have HNX : Hid (restW L at_ = (L.take e).drop at_ :: restW L (e + 1)) := by
            refine HEND.out ?_
            by_cases h1 : e < s.size
            · refine .inr ⟨by rw [HLN.out]; exact h1, ?_⟩
              have h2 : s[e] = 32 := by
                apply Classical.byContradiction
                intro h2
                exact hlt ⟨h1, fun _ => h2⟩
              apply UInt8.toNat_inj.1
              rw [← HST.out e h1, h2]
            · exact .inl (by rw [HLN.out]; omega)
          obtain ⟨XB, hXB⟩ : ∃ XB, s.extract at_ e = XB := ⟨_, rfl⟩
          obtain ⟨x, hx⟩ : ∃ x, (L.take e).drop at_ = x := ⟨_, rfl⟩
          have HXB : Hid (XB = ⟨x.toArray⟩) := by show _ = _; rw [← hXB, ← hx]; exact HEQ.out _ _
          have HXL : Hid (x.length = e - at_) := by show _ = _; rw [← hx]; simp; rw [HLN.out]; omega
          rw [hx] at HNX
          have HSX : Hid (spl 32 L = pre ++ x :: restW L (e + 1)) := by show _ = _; rw [hspl.out, HNX.out]
          clear hx HEND hno HNX
          have HLE : Hid (L ≠ []) := by intro h; have := HLN.out; rw [h] at this; simp at this; omega
          have i1 : (at_ : Int) ≤ (e : Int) := by omega
          have i2 : (e : Int) ≤ (s.size : Int) := by omega
          have i3 : (0 : Int) ≤ (at_ : Int) := by omega
          have i4 : (0 : Int) ≤ (e : Int) := by omega
          by_cases h1 : e < s.size
          case' pos =>
            have d3 : decide ((e : Int) < (s.size : Int)) = true := by simp; omega
            have h2 : s[e] = 32 := by
              apply Classical.byContradiction
              intro h2
              exact hlt ⟨h1, fun _ => h2⟩
            clear hlt
          case' neg =>
            have d3 : decide ((e : Int) < (s.size : Int)) = false := by simp; omega
            clear hlt
          all_goals
            by_cases hm : ms = 0
            · subst hm
              have HKO := Lib.hid (fun w => rkindOf_any x w)
              rw [← HXB.out] at HKO
              by_cases hk : kindP x = 0
              · rw [hk] at HKO
                have HPE := Lib.hid (parse_err HLE.out HSX.out hrun.out (a := at_) (by unfold psStep; rw [if_pos rfl, if_pos hk]))
                clear hrun HSX hk hso
                go_wp2_with fail
                refine (HKO.out _).mono ?_
                rintro e w' ⟨rfl, rfl⟩
                go_wp2_with fail
                go_ret3
                exact ⟨HOK.out _ _ _ _ _ HPE.out (srow_nil _), hbw.out⟩
              · obtain ⟨hk1, hk5⟩ := kind_le x hk
                have HRN : Hid (psRun (pre ++ [x]) = .ok ⟨sl ++ [zeroSg (kindP x)], 0, 2 * usedP (kindP x), at_ + (x.length + 1)⟩) := by
                  show _ = _; rw [psRun_snoc, hrun.out]; show psStep _ x = _; unfold psStep; rw [if_pos rfl, if_neg hk]
                generalize kindP x = z at *
                have hz : (z == 0) = false := by simpa using hk
                have HUS := Lib.hid (fun w => rused_any z w)
                rw [rusP_ok z hk1 hk5] at HUS
                have hus := used_le z
                have hwb := hbw.out.size
                clear hk
                go_wp2_with (first
                  | (refine (HKO.out _).mono ?_; rintro e' w' ⟨rfl, rfl⟩)
                  | (refine wpList_app (P := Tryd.prog) el_sg (hown := hso.out) (by exact hwb) rfl rfl rfl (m := 0) (cs := #[.int .i64 z, .int .i64 0, .int .i64 0, .int .i64 0, .int .i64 0, .int .i64 0, .int .i64 0]) rfl (by intro u hu; simp at hu; rcases hu with rfl | rfl <;> rfl) rfl (by omega) (by omega) ?_))
                intro r5 cap5 w5 h5 hg5 hr5
                have HS5 : Hid (SOwn w5 w.heap.size (.slice (some ⟨r5, 0, none⟩) (sl.length + 1) cap5) (sl ++ [zeroSg z])) := by
                  show SOwn _ _ _ _
                  unfold SOwn
                  rw [scells_append, List.length_append]
                  exact h5
                have HB5 := Lib.hid (below_app hbw.out hbw.out.size hso.out hg5)
                clear h5 hg5 hr5
                go_wp2_with fail
                refine (HUS.out _).mono ?_
                rintro e' w6 ⟨rfl, rfl⟩
                have eat : at_ + (x.length + 1) = e + 1 := by have := HXL.out; omega
                rw [eat] at HRN
                go_wp2_with fail
                go_roundw
                case rel => exact ⟨pre ++ [x], sl ++ [zeroSg z], 0, 2 * usedP z, e + 1, _, rfl, by go_num, by go_num, by omega, by omega, by simp; omega, HRN, by show _ = _; rw [HSX.out]; simp, HS5, HB5.out.1⟩
                case measure => simp [intOf]; omega
            · have dm : ((ms : Int) == 0) = false := by simp; omega
              have HRD := Lib.hid (fun w => rread_any XB w)
              have hxd : XB.data.toList = x := by rw [HXB.out]
              rw [hxd] at HRD
              have HNM := Lib.hid (rnum_is x)
              have hmp : 0 < ms := Nat.pos_of_ne_zero hm
              obtain ⟨M, z, hlz, hrm, hz1, hz5⟩ := rinv_run hrun.out hmp
              simp only at hlz hrm
              obtain ⟨n, hn⟩ : ∃ n, rnumP x = n := ⟨_, rfl⟩
              rw [hn] at HRD HNM
              clear hn
              by_cases hx : Lib.itoa n = x
              · have hx2 : (Lib.itoa n == x) = true := by simpa using hx
                rw [hx2] at HRD
                have hnp : numP x = some n := by have := HNM.out; rwa [if_pos hx] at this
                have HRN : Hid (psRun (pre ++ [x]) = .ok ⟨M ++ [putN z rd n], rd + 1, ms - 1, at_ + (x.length + 1)⟩) := by
                  show _ = _
                  rw [psRun_snoc, hrun.out]
                  show psStep _ x = _
                  unfold psStep
                  rw [if_neg hm, hnp, hlz]
                  simp
                subst hlz
                have hMl : (M ++ [z]).length = M.length + 1 := by simp
                rw [hMl] at hsl hso
                have how := hso.out
                unfold SOwn at how
                rw [hMl] at how
                obtain ⟨g, cap, hv, hgb, -⟩ := how.form (by omega)
                injection hv with hv1 hv2 hv3
                subst hv1
                subst hv3
                have hu3 := used_le z.1
                have HUS := Lib.hid (fun w => rused_any z.1 w)
                rw [rusP_ok z.1 hz1 hz5] at HUS
                obtain ⟨kz, hkz⟩ : ∃ kz, z.1 = kz := ⟨_, rfl⟩
                obtain ⟨u, hu⟩ : ∃ u, usedP z.1 = u := ⟨_, rfl⟩
                rw [hu] at hu3 hrm HUS
                rw [hkz] at HUS
                have hrm2 : 2 * (u : Int) - (ms : Int) = (rd : Int) := by omega
                have hu4 : (u : Int) ≤ 3 := by omega
                have hMb : M.length ≤ 1048577 := by omega
                have hw3 : (M.length : Int) < (M.length : Int) + 1 := Int.lt_succ _
                have hw5 : (0 : Int) ≤ (M.length : Int) := Int.natCast_nonneg _
                have HRM := Lib.hid hrm
                rw [hMl]
                clear hrun how hm hrm hx hspl hu hnp hxd
                go_wp2_with fail
                refine (HRD.out _).mono ?_
                rintro e' w2 ⟨rfl, hb2⟩
                have hs2 : SOwn w2 w.heap.size (.slice (some ⟨g, 0, none⟩) (M.length + 1) co) (M ++ [z]) := by
                  have h0 : SOwn wr w.heap.size (.slice (some ⟨g, 0, none⟩) (M.length + 1) co) (M ++ [z]) := hso.out
                  exact (Fr.of_below (B := 0) hb2 []).owns h0 (by simp)
                have y0 : w2.cell? ⟨g, M.length * 7, none⟩ = some (.int .i64 kz) := by
                  have := srow_cell hs2 0 (by decide)
                  rw [← hkz]; exact this
                have HB2 := Lib.hid (hbw.out.trans (hb2.mono hbw.out.size))
                have HS2 := Lib.hid hs2
                clear hb2 hs2 hbw hso HRD
                go_wp2_with fail
                refine (HUS.out _).mono ?_
                rintro e' w3 ⟨rfl, rfl⟩
                obtain ⟨q, m2, hq, hm2, hqf⟩ : ∃ q m2 : Nat, rd / 2 = q ∧ rd % 2 = m2 ∧ (rd = 2 * q + m2 ∧ m2 < 2) := ⟨_, _, rfl, rfl, by omega⟩
                have hrd5 : rd ≤ 5 := by have := HRM.out; omega
                have hq2 : q ≤ 2 := by omega
                have hq3 : ((q : Nat) : Int) < 3 := by omega
                have hq4 : (0 : Int) ≤ (q : Int) := by omega
                have hd2 := tdiv2 rd q hq
                have hm2 := tmod2 rd m2 hm2
                have hsl7 : (scells (M ++ [z])).length = (M.length + 1) * 7 := by rw [scells_length, hMl]
                obtain ⟨u0, hu0⟩ : ∃ u0, w2.cell? ⟨g, M.length * 7 + 1 + rd, none⟩ = some u0 := by
                  have h0 := HS2.out
                  unfold SOwn at h0
                  rw [hMl] at h0
                  rw [World.ownsRow.cellAt h0 _ (by omega)]
                  exact ⟨_, List.getElem?_eq_getElem (by omega)⟩
                have hfr : w2.frozen? ⟨g, M.length * 7 + 1 + rd, none⟩ = false := by
                  have h0 := HS2.out
                  unfold SOwn at h0
                  rw [hMl] at h0
                  exact World.ownsRow.frozenAt h0 _
                have hsz := Lib.hid (HS2.out.put rd (by omega) n)
                have HBS : Hid (Below w.heap.size w (w2.setCell ⟨g, M.length * 7 + 1 + rd, none⟩ (.int .i64 n))) := HB2.out.setCell hgb _
                have wM : wrap64 ((ms : Int) - 1) = ((ms - 1 : Nat) : Int) := by rw [wrap64_of _ (by omega)]; omega
                have eat : at_ + (x.length + 1) = e + 1 := by have := HXL.out; omega
                rw [eat] at HRN
                have HMP := Lib.hid hmp
                have HLM : Hid ((M ++ [putN z rd n]).length ≤ e + 1) := by show _ ≤ _; simp; omega
                have HLM2 : Hid ((M ++ [putN z rd n]).length = M.length + 1) := by show _ = _; simp
                clear hsl7 hq hmp HNM hsl eat HS2 HB2 HUS HRM
                obtain ⟨hqf1, hqf2⟩ := hqf
                rcases lt_two hqf2 with rfl | rfl
                · have ea : M.length * 7 + 1 + rd = M.length * 7 + 1 + q * 2 := by omega
                  rw [ea] at hu0 hfr hsz HBS
                  clear ea hqf2 hqf1
                  go_wp2_with fail
                  have hmp := HMP.out
                  have e5 : (ms : Int) - 1 = ((ms - 1 : Nat) : Int) := by omega
                  rw [e5]
                  exact ⟨⟨pre ++ [x], M ++ [putN z rd n], rd + 1, ms - 1, e + 1, _, rfl, rfl, rfl, by omega, by omega, HLM.out, HRN, by show _ = _; rw [HSX.out]; simp, hsz, HBS⟩, by simp [intOf]; omega⟩
                · have ea : M.length * 7 + 1 + rd = M.length * 7 + 1 + q * 2 + 1 := by omega
                  rw [ea] at hu0 hfr hsz HBS
                  clear ea hqf2 hqf1
                  go_wp2_with fail
                  have hmp := HMP.out
                  have e5 : (ms : Int) - 1 = ((ms - 1 : Nat) : Int) := by omega
                  rw [e5]
                  exact ⟨⟨pre ++ [x], M ++ [putN z rd n], rd + 1, ms - 1, e + 1, _, rfl, rfl, rfl, by omega, by omega, HLM.out, HRN, by show _ = _; rw [HSX.out]; simp, hsz, HBS⟩, by simp [intOf]; omega⟩
              · have hx2 : (Lib.itoa n == x) = false := by simpa using hx
                rw [hx2] at HRD
                have hnp : numP x = none := by have := HNM.out; rwa [if_neg hx] at this
                have HPE := Lib.hid (parse_err HLE.out HSX.out hrun.out (a := at_) (by unfold psStep; rw [if_neg hm, hnp]))
                clear hrun HSX hso hlz hnp
                go_wp2_with fail
                refine (HRD.out _).mono ?_
                rintro e w' ⟨rfl, hb⟩
                have HBX := Lib.hid (hbw.out.trans (hb.mono hbw.out.size))
                clear hb
                go_wp2_with fail
                go_ret3
                exact ⟨HOK.out _ _ _ _ _ HPE.out (srow_nil _), HBX.out⟩
    · have HPE : Hid (parseP L = if 0 < ms then ([], L.length, 4) else if chkP sl ≠ 0 then ([], 0, chkP sl) else (sl, 0, 0)) := by
        by_cases h0 : s.size = 0
        · have hL := HSP.out h0
          subst hL
          have h1 := hspl.out
          have hr := hrun.out
          have e0 : restW [] at_ = if at_ = 0 then [[]] else [] := by
            unfold restW
            by_cases h : at_ = 0
            · rw [h]; rfl
            · rw [if_neg (by simp; omega), if_neg h]
          rw [e0, show spl 32 [] = [[]] from rfl] at h1
          by_cases ha : at_ = 0
          · rw [if_pos ha] at h1
            have hp : pre = [] := by
              cases pre with
              | nil => rfl
              | cons a r => have := congrArg List.length h1; simp at this
            rw [hp] at hr
            injection hr with hr
            injection hr with r1 r2 r3 r4
            subst r1; subst r3
            rfl
          · rw [if_neg ha, List.append_nil] at h1
            rw [← h1] at hr
            cases hr
        · refine parse_end ?_ ?_ hrun.out
          · intro h
            have := HLN.out
            rw [h] at this
            exact h0 this.symm
          · rw [hspl.out]
            unfold restW
            rw [if_neg (by rw [HLN.out]; intro h; exact hgo ⟨by omega, h⟩), List.append_nil]
      have HCK := Lib.hid (rcheck_any O sl wr hso.out.row)
      have HRW := Lib.hid hso.out.row
      obtain ⟨xo, co, rfl⟩ := hso.out.shape
      clear hrun hspl hso
      by_cases h0 : 0 < s.size
      case' pos =>
        have d2 : decide (at_ ≤ s.size) = false := by
          have := fun h => hgo ⟨h0, h⟩
          simpa using this
      case' neg =>
        have d1 : decide (0 < s.size) = false := decide_eq_false h0
      all_goals
        clear hgo
        by_cases hm : 0 < ms
        · have dm : decide (0 < ms) = true := by simp; omega
          have HPE := HPE.out
          rw [if_pos hm, HLN.out] at HPE
          have HPE := Lib.hid HPE
          clear hm HCK
          go_wp2_with fail
          go_ret3
          exact ⟨HOK.out _ _ _ _ _ HPE.out (srow_nil _), hbw.out⟩
        · have dm : decide (0 < ms) = false := by simp; omega
          have HPE := HPE.out
          rw [if_neg hm] at HPE
          by_cases hc : chkP sl = 0
          · rw [if_neg (by simp [hc])] at HPE
            rw [hc] at HCK
            have HPE := Lib.hid HPE
            clear hm hc
            go_wp2_with fail
            refine HCK.out.mono ?_
            rintro e w2 ⟨rfl, hb2⟩
            have HB2 := Lib.hid (hbw.out.trans (hb2.mono hbw.out.size))
            have HR2 := Lib.hid (HRW.out.below hb2)
            clear hb2
            go_wp2_with fail
            go_ret3
            exact ⟨HOK.out _ _ _ _ _ HPE.out HR2.out, HB2.out⟩
          · rw [if_pos hc] at HPE
            have HPE := Lib.hid HPE
            generalize chkP sl = z at *
            have hz : (z != 0) = true := by simpa using hc
            clear hm hc
            go_wp2_with fail
            refine HCK.out.mono ?_
            rintro e w2 ⟨rfl, hb2⟩
            have HB2 := Lib.hid (hbw.out.trans (hb2.mono hbw.out.size))
            clear hb2
            go_wp2_with fail
            go_ret3
            exact ⟨HOK.out _ _ _ _ _ HPE.out (srow_nil _), HB2.out⟩
end Go.Proofs.YtgjbelcnkmcbiaaDoor
