/-
  Walks: the error of metadata, in the program and in the reference.
-/
import Derived.Test.YtakileiomgaahaaM1
namespace Go.Proofs.Ytakileiomgaahaa
open Go.RowKit

theorem below_drewN {B : Nat} {w w' : World} (h : Below B w w') (n : Nat) : Below B w (w'.drewN n) := ⟨h.os, h.tape, h.output, h.size, h.block⟩
def bs (l : List UInt8) : ByteArray := ⟨l.toArray⟩
/-- Entry i of the row at an address. -/
def MCell (w : World) (b off : Nat) (i : Nat) (m : Mt) : Prop := w.cell? ⟨b, off + i * 2, none⟩ = some (.string ⟨m.1.toArray⟩) ∧ w.cell? ⟨b, off + i * 2 + 1, none⟩ = some (.string ⟨m.2.toArray⟩)
/-- The slice value v reads as the metadata l. -/
def MRow (w : World) (v : Value) (l : List Mt) : Prop :=
  ∃ x c, v = .slice x l.length c ∧ l.length ≤ c ∧ c ≤ maxLen ∧ (x = none → c = 0) ∧ (l ≠ [] → ∃ b off, x = some ⟨b, off, none⟩ ∧ ∀ i (h : i < l.length), MCell w b off i l[i])
theorem MRow.below {w w' : World} {v : Value} {l : List Mt} (h : MRow w v l) (hb : Below w.heap.size w w') : MRow w' v l := by
  obtain ⟨x, c, rfl, h1, h2, h3, h4⟩ := h
  refine ⟨x, c, rfl, h1, h2, h3, fun hne => ?_⟩
  obtain ⟨b, off, rfl, hc⟩ := h4 hne
  refine ⟨b, off, rfl, fun i hi => ?_⟩
  obtain ⟨c1, c2⟩ := hc i hi
  have hlt : b < w.heap.size := World.block_lt_of_cell? w _ c1
  exact ⟨(hb.cell (p := ⟨b, off + i * 2, none⟩) hlt).trans c1, (hb.cell (p := ⟨b, off + i * 2 + 1, none⟩) hlt).trans c2⟩
theorem MRow.drewN {w : World} {v : Value} {l : List Mt} (h : MRow w v l) (n : Nat) : MRow (w.drewN n) v l := h
theorem MRow.alloc {w : World} {v : Value} {l : List Mt} (h : MRow w v l) (o : Obj) : MRow (w.alloc o) v l := h.below ((Below.refl _ _).alloc (Nat.le_refl _) o)
theorem mrow_nil (w : World) : MRow w (.slice none 0 0) [] := ⟨none, 0, rfl, Nat.le_refl _, Nat.zero_le _, fun _ => rfl, fun h => absurd rfl h⟩

set_option maxRecDepth 100000 in
set_option maxHeartbeats 2000000 in
theorem checkEntry_any (v : Value) (l : List Mt) (k val : List UInt8) (w : World) (hr : MRow w v l) :
    Calls Try.prog 55 #[v, .agg #[.string ⟨k.toArray⟩, .string ⟨val.toArray⟩]] w fun e w' => e = .returned (.int .i64 (entP l.getLast? (k, val))) ∧ Below w.heap.size w w' := by
  have hk0 := fun w => isKey_any ⟨k.toArray⟩ w
  have hv0 := fun w => isValue_any ⟨val.toArray⟩ w
  have e1 : (ByteArray.mk k.toArray).data.toList = k := rfl
  have e2 : (ByteArray.mk val.toArray).data.toList = val := rfl
  rw [e1] at hk0
  rw [e2] at hv0
  clear e1 e2
  have HK := Lib.hid hk0
  have HV := Lib.hid hv0
  clear hk0 hv0
  have HE : Hid (entP l.getLast? (k, val) = if isK k = false then 13 else if isV val = false then 4 else match l.getLast? with | none => 0 | some q => if leK k q.1 = true then 24 else 0) := rfl
  generalize isK k = bk at *
  generalize isV val = bv at *
  go_enter Try.func55, Try.ntmps55
  go_wp2_with fail
  refine (HK.out _).mono ?_
  rintro e w1 ⟨rfl, rfl⟩
  have hb1 := Lib.hid ((Below.refl w.heap.size w).alloc (Nat.le_refl _) (.cells #[.string ⟨k.toArray⟩, .string ⟨val.toArray⟩] 67))
  cases bk with
  | false =>
    go_wp2_with fail
    go_ret
    exact ⟨by rw [HE.out]; rfl, hb1.out⟩
  | true =>
    go_wp2_with fail
    refine (HV.out _).mono ?_
    rintro e w1 ⟨rfl, rfl⟩
    cases bv with
    | false =>
      go_wp2_with fail
      go_ret
      exact ⟨by rw [HE.out]; rfl, hb1.out⟩
    | true =>
      have hr2 := hr.alloc (.cells #[.string ⟨k.toArray⟩, .string ⟨val.toArray⟩] 67)
      have hbl := Blk.new w 67 #[.string ⟨k.toArray⟩, .string ⟨val.toArray⟩]
      go_wp2_with fail
      generalize w.alloc (.cells #[.string ⟨k.toArray⟩, .string ⟨val.toArray⟩] 67) = wz at *
      have y0 : wz.cell? ⟨w.heap.size, 0, none⟩ = some (.string ⟨k.toArray⟩) := hbl.cell 0
      clear hbl hr
      obtain ⟨kb, hkb⟩ : ∃ kb, kb = w.heap.size := ⟨_, rfl⟩
      rw [← hkb] at hb1 y0 ⊢
      have HKB := Lib.hid hkb
      clear hkb
      rcases List.eq_nil_or_concat l with rfl | ⟨l', q, rfl⟩
      · obtain ⟨x, c, rfl, -⟩ := hr2
        have g0 : decide ((0 : Int) < ((0 : Nat) : Int)) = false := by decide
        go_quiet (fail)
        go_wp2_with fail
        go_ret
        exact ⟨by rw [HE.out]; rfl, by rw [← HKB.out]; exact below_drewN hb1.out _⟩
      · rw [List.concat_eq_append] at *
        obtain ⟨x, c, rfl, hc1, hc2, -, hcell0⟩ := hr2
        obtain ⟨b, off, rfl, hcell⟩ := hcell0 (by simp)
        clear hcell0
        obtain ⟨q1, -⟩ := hcell l'.length (by simp)
        simp only [List.getElem_append_right (Nat.le_refl _), Nat.sub_self, List.getElem_cons_zero] at q1
        have hl : (l' ++ [q]).length = l'.length + 1 := by simp
        rw [hl] at hc1 ⊢
        clear hl hcell
        rw [List.getLast?_concat] at HE
        generalize l'.length = n at *
        unfold maxLen at hc2
        have g0 : decide ((0 : Int) < ((n + 1 : Nat) : Int)) = true := by simp
        have z1 : IntKind.i64.wrap (((n + 1 : Nat) : Int) - 1) = (n : Int) := by rw [IntKind.wrap_i64]; omega
        have z2 : (0 : Int) ≤ (n : Int) := by omega
        have z3 : (n : Int) < ((n + 1 : Nat) : Int) := by omega
        have z4 : ((n : Int)).toNat = n := by omega
        have HL : Hid (leK k q.1 = (Op.bytesLess k q.1 || k == q.1)) := rfl
        cases hl1 : Op.bytesLess k q.1 with
        | true =>
          go_quiet (fail)
          clear z1 z2 z3 z4
          go_wp2_with fail
          go_ret
          exact ⟨by rw [HE.out]; simp [HL.out, hl1], by rw [← HKB.out]; exact below_drewN hb1.out _⟩
        | false =>
          cases hl2 : (k == q.1) with
          | true =>
            go_quiet (fail)
            clear z1 z2 z3 z4
            go_wp2_with fail
            go_ret
            exact ⟨by rw [HE.out]; simp [HL.out, hl1, hl2], by rw [← HKB.out]; exact below_drewN hb1.out _⟩
          | false =>
            go_quiet (fail)
            clear z1 z2 z3 z4
            go_wp2_with fail
            go_ret
            exact ⟨by rw [HE.out]; simp [HL.out, hl1, hl2], by rw [← HKB.out]; exact below_drewN hb1.out _⟩

theorem MRow.take {w : World} {x : Option Addr} {c : Nat} {l : List Mt} (h : MRow w (.slice x l.length c) l) (i : Nat) (hi : i ≤ l.length) (hne : l ≠ []) : MRow w (.slice x i c) (l.take i) := by
  obtain ⟨x', c', hv, h1, h2, h3, h4⟩ := h
  cases hv
  have hl : (l.take i).length = i := by simp; omega
  refine ⟨x, c, by rw [hl], by omega, h2, h3, fun _ => ?_⟩
  obtain ⟨b, off, rfl, hc⟩ := h4 hne
  refine ⟨b, off, rfl, fun j hj => ?_⟩
  have := hc j (by omega)
  simpa using this

/-- The state of a check before entry i. -/
theorem chkGo_at (l : List Mt) (i : Nat) (hi : i < l.length) (m : Mt) (hm : l[i] = m) (h : chkGo none l = chkGo ((l.take i).getLast?) (l.drop i)) :
    (entP (l.take i).getLast? m = 0 → chkGo none l = chkGo ((l.take (i + 1)).getLast?) (l.drop (i + 1))) ∧ (entP (l.take i).getLast? m ≠ 0 → chkGo none l = entP (l.take i).getLast? m) := by
  subst hm
  have e : (l.take (i + 1)).getLast? = some l[i] := by
    rw [List.take_succ_eq_append_getElem hi, List.getLast?_concat]
  rw [h, List.drop_eq_getElem_cons hi, e]
  refine ⟨fun h0 => ?_, fun h0 => ?_⟩
  · rw [chkGo, if_pos h0]
  · rw [chkGo, if_neg h0]

set_option maxRecDepth 100000 in
set_option maxHeartbeats 2000000 in
theorem check_any (v : Value) (l : List Mt) (w : World) (hr : MRow w v l) :
    Calls Try.prog 23 #[v] w fun e w' => e = .returned (.int .i64 (chkP l)) ∧ Below w.heap.size w w' := by
  obtain ⟨x, c, rfl, hc1, hc2, hc3, hcell⟩ := id hr
  unfold maxLen at hc2
  by_cases hbig : 16 < l.length
  · have HC : Hid (chkP l = 3) := by show _ = _; unfold chkP; rw [if_pos hbig]
    have d1 : decide ((16 : Int) < (l.length : Int)) = true := by simp; omega
    go_enter Try.func23, Try.ntmps23
    go_wp2_with fail
    go_ret
    exact ⟨by rw [HC.out]; rfl, Below.refl _ _⟩
  have HC : Hid (chkP l = chkGo none l) := by show _ = _; unfold chkP; rw [if_neg hbig]
  have d1 : decide ((16 : Int) < (l.length : Int)) = false := by simp; omega
  go_enter Try.func23, Try.ntmps23
  go_wp2_with fail
  go_loopw [11] (fun vi wr => ∃ i : Nat, vi = .int .i64 i ∧ i ≤ l.length ∧ Hid (chkGo none l = chkGo ((l.take i).getLast?) (l.drop i)) ∧ Hid (Below w.heap.size w wr)) (fun vi _ => l.length - (intOf vi).toNat)
  case atStart => exact ⟨0, rfl, Nat.zero_le _, rfl, Below.refl _ _⟩
  case round =>
    obtain ⟨i, rfl, hi, hch, hbw⟩ := hrel
    by_cases hlt : i < l.length
    · have hne : l ≠ [] := by rintro rfl; simp at hlt
      have hrw : MRow wr (.slice x l.length c) l := hr.below hbw.out
      have htk := fun o => (hrw.alloc o).take i hi hne
      obtain ⟨b, off, rfl, hcl⟩ := hcell hne
      obtain ⟨x', c', hv, -, -, -, hcell'⟩ := hrw
      cases hv
      obtain ⟨b', off', hbo, hcl'⟩ := hcell' hne
      cases hbo
      obtain ⟨q1, q2⟩ := hcl' i hlt
      clear hcl hcl' hcell' hcell hr
      obtain ⟨mk, mv, hm⟩ : ∃ mk mv, l[i] = (mk, mv) := ⟨_, _, rfl⟩
      have HAT := Lib.hid (chkGo_at l i hlt _ hm hch.out)
      rw [hm] at q1 q2
      simp only at q1 q2
      have HTK := Lib.hid htk
      clear htk hch hm hc3
      have hd : decide ((i : Int) < (l.length : Int)) = true := by simp; omega
      generalize hn : l.length = n at *
      have HN := Lib.hid hn
      clear hn
      go_wp2_with fail
      have hbl := Blk.new wr 67 #[.string ⟨mk.toArray⟩, .string ⟨mv.toArray⟩]
      have htk := HTK.out (.cells #[.string ⟨mk.toArray⟩, .string ⟨mv.toArray⟩] 67)
      have hbz := Lib.hid (hbw.out.alloc hbw.out.size (.cells #[.string ⟨mk.toArray⟩, .string ⟨mv.toArray⟩] 67))
      clear HTK q1 q2 hbw
      generalize wr.alloc (.cells #[.string ⟨mk.toArray⟩, .string ⟨mv.toArray⟩] 67) = wz at *
      generalize wr.heap.size = kb at *
      have y0 : wz.cell? ⟨kb, 0, none⟩ = some (.string ⟨mk.toArray⟩) := hbl.cell 0
      have y1 : wz.cell? ⟨kb, 1, none⟩ = some (.string ⟨mv.toArray⟩) := hbl.cell 1
      clear hbl
      have hic : i ≤ c := by omega
      have i0 : (0 : Int) ≤ (i : Int) := by omega
      have ic : (i : Int) ≤ (c : Int) := by omega
      go_still_tail 4, (by kernel_rfl)
      change wpList _ _ _ _ _ wz.drew
      go_wp2_with fail
      have htk' : MRow wz.drew _ _ := htk
      refine (checkEntry_any _ _ _ _ _ htk').mono ?_
      rintro e w2 ⟨rfl, hb2⟩
      have hbw2 : Below w.heap.size w w2 := hbz.out.drew.trans (hb2.mono hbz.out.size)
      clear htk htk' hb2 hbz y0 y1
      by_cases h0 : entP (l.take i).getLast? (mk, mv) = 0
      · rw [h0]
        have HAT2 := Lib.hid (HAT.out.1 h0)
        clear h0 HAT
        go_wp2_with fail
        go_roundw
        case rel => exact ⟨i + 1, by go_num, by omega, HAT2, hbw2⟩
        case measure => simp [intOf]; omega
      · have HAT2 := Lib.hid (HAT.out.2 h0)
        clear HAT
        generalize entP (l.take i).getLast? (mk, mv) = ee at *
        have hne0 : ((ee : Int) != 0) = true := by simp; omega
        go_wp2_with fail
        go_ret
        exact ⟨by rw [HC.out, HAT2.out]; rfl, hbw2⟩
    · have hd : decide ((i : Int) < (l.length : Int)) = false := by simp; omega
      have HZ : Hid (chkGo none l = 0) := by show _ = _; rw [hch.out, List.drop_of_length_le (by omega)]; rfl
      go_wp2_with fail
      go_ret
      exact ⟨by rw [HC.out, HZ.out]; rfl, hbw.out⟩

set_option maxRecDepth 100000 in
set_option maxHeartbeats 2000000 in
theorem rcheck_any (v : Value) (l : List Mt) (w : World) (hr : MRow w v l) (hsz : ∀ m ∈ l, m.1.length ≤ maxLen ∧ m.2.length ≤ maxLen) :
    Calls Try.prog 80 #[v] w fun e w' => e = .returned (.int .i64 (chkP l)) ∧ ∃ n, w' = w.drewN n := by
  obtain ⟨x, c, rfl, hc1, hc2, hc3, hcell⟩ := id hr
  unfold maxLen at hc2
  by_cases hbig : 16 < l.length
  · have HC : Hid (chkP l = 3) := by show _ = _; unfold chkP; rw [if_pos hbig]
    have d1 : decide ((16 : Int) < (l.length : Int)) = true := by simp; omega
    go_enter Try.func80, Try.ntmps80
    go_wp2_with fail
    go_ret
    exact ⟨by rw [HC.out]; rfl, 0, rfl⟩
  have HC : Hid (chkP l = chkGo none l) := by show _ = _; unfold chkP; rw [if_neg hbig]
  have d1 : decide ((16 : Int) < (l.length : Int)) = false := by simp; omega
  go_enter Try.func80, Try.ntmps80
  go_wp2_with fail
  go_loopw [9] (fun vi wr => ∃ i : Nat, vi = .int .i64 i ∧ i ≤ l.length ∧ Hid (chkGo none l = chkGo ((l.take i).getLast?) (l.drop i)) ∧ Hid (∃ n, wr = w.drewN n)) (fun vi _ => l.length - (intOf vi).toNat)
  case atStart => exact ⟨0, rfl, Nat.zero_le _, rfl, 0, rfl⟩
  case round =>
    obtain ⟨i, rfl, hi, hch, hbw⟩ := hrel
    by_cases hlt : i < l.length
    · have hne : l ≠ [] := by rintro rfl; simp at hlt
      have hrw : MRow wr (.slice x l.length c) l := by obtain ⟨n, rfl⟩ := hbw.out; exact hr.drewN n
      obtain ⟨x', c', hv, -, -, -, hcell'⟩ := hrw
      cases hv
      obtain ⟨b, off, rfl, hcl'⟩ := hcell' hne
      obtain ⟨q1, q2⟩ := hcl' i hlt
      obtain ⟨mk, mv, hm⟩ : ∃ mk mv, l[i] = (mk, mv) := ⟨_, _, rfl⟩
      have hs := hsz l[i] (List.getElem_mem hlt)
      have HAT := Lib.hid (chkGo_at l i hlt _ hm hch.out)
      rw [hm] at q1 q2 hs
      simp only at q1 q2 hs
      have hprev : (i = 0 ∧ (l.take i).getLast? = none) ∨ ∃ j q, i = j + 1 ∧ (l.take i).getLast? = some q ∧ wr.cell? ⟨b, off + j * 2, none⟩ = some (.string ⟨q.1.toArray⟩) := by
        cases i with
        | zero => exact .inl ⟨rfl, by simp⟩
        | succ j =>
          refine .inr ⟨j, l[j], rfl, ?_, (hcl' j (by omega)).1⟩
          rw [List.take_succ_eq_append_getElem (by omega), List.getLast?_concat]
      clear hcl' hcell' hcell hr hch hm hc3 hsz
      have hd : decide ((i : Int) < (l.length : Int)) = true := by simp; omega
      have i1 : (i : Int) < (l.length : Int) := by omega
      have HE : Hid (entP (l.take i).getLast? (mk, mv) = if isK mk = false then 13 else if isV mv = false then 4 else match (l.take i).getLast? with | none => 0 | some q => if leK mk q.1 = true then 24 else 0) := rfl
      have HK := Lib.hid (fun w => rName_any ⟨mk.toArray⟩ w hs.1)
      have HV := Lib.hid (fun w => rvalue_any ⟨mv.toArray⟩ w hs.2)
      have e1 : (ByteArray.mk mk.toArray).data.toList = mk := rfl
      have e2 : (ByteArray.mk mv.toArray).data.toList = mv := rfl
      rw [e1] at HK
      rw [e2] at HV
      clear e1 e2 hs
      generalize isK mk = bk at *
      generalize isV mv = bv at *
      generalize hn : l.length = n at *
      have HN := Lib.hid hn
      clear hn
      go_wp2_with fail
      refine (HK.out _).mono ?_
      rintro e w1 ⟨rfl, rfl⟩
      cases bk with
      | false =>
        have HF : Hid (chkGo none l = 13) := by
          have h1 : entP (l.take i).getLast? (mk, mv) = 13 := HE.out
          exact (HAT.out.2 (by rw [h1]; decide)).trans h1
        go_wp2_with fail
        go_ret
        exact ⟨by rw [HC.out, HF.out]; rfl, hbw.out⟩
      | true =>
        go_wp2_with fail
        refine (HV.out _).mono ?_
        rintro e w1 ⟨rfl, rfl⟩
        cases bv with
        | false =>
          have HF : Hid (chkGo none l = 4) := by
            have h1 : entP (l.take i).getLast? (mk, mv) = 4 := HE.out
            exact (HAT.out.2 (by rw [h1]; decide)).trans h1
          go_wp2_with fail
          go_ret
          exact ⟨by rw [HC.out, HF.out]; rfl, hbw.out⟩
        | true =>
          rcases hprev with ⟨rfl, hp⟩ | ⟨j, q, rfl, hp, hcq⟩
          · have HZ : Hid (chkGo none l = chkGo ((l.take (0 + 1)).getLast?) (l.drop (0 + 1))) := HAT.out.1 (by rw [HE.out, hp]; rfl)
            clear hp HAT HE
            have g0 : decide ((0 : Int) < ((0 : Nat) : Int)) = false := by decide
            go_wp2_with fail
            go_quiet (fail)
            go_wp2_with fail
            refine ⟨⟨1, rfl, by omega, HZ, ?_⟩, by simp [intOf]; omega⟩
            obtain ⟨n0, hn0⟩ := hbw.out
            exact ⟨n0 + nq, by rw [hn0]; simp [World.drewN]; omega⟩
          · have HP := Lib.hid hp
            clear hp
            have HL : Hid (leK mk q.1 = (Op.bytesLess mk q.1 || mk == q.1)) := rfl
            have g0 : decide ((0 : Int) < ((j + 1 : Nat) : Int)) = true := by simp
            have z1 : IntKind.i64.wrap (((j + 1 : Nat) : Int) - 1) = (j : Int) := by rw [IntKind.wrap_i64]; omega
            have z2 : (0 : Int) ≤ (j : Int) := by omega
            have z3 : (j : Int) < (n : Int) := by omega
            have z4 : ((j : Int)).toNat = j := by omega
            cases hl1 : Op.bytesLess mk q.1 with
            | true =>
              have HF : Hid (chkGo none l = 24) := by
                have h1 : entP (l.take (j + 1)).getLast? (mk, mv) = 24 := by rw [HE.out, HP.out]; simp [HL.out, hl1]
                exact (HAT.out.2 (by rw [h1]; decide)).trans h1
              go_wp2_with fail
              go_quiet (fail)
              clear z1 z2 z3 z4
              go_wp2_with fail
              go_ret
              obtain ⟨n0, hn0⟩ := hbw.out
              exact ⟨by rw [HC.out, HF.out]; rfl, n0 + nq, by rw [hn0]; simp [World.drewN]; omega⟩
            | false =>
              cases hl2 : (mk == q.1) with
              | true =>
                have HF : Hid (chkGo none l = 24) := by
                  have h1 : entP (l.take (j + 1)).getLast? (mk, mv) = 24 := by rw [HE.out, HP.out]; simp [HL.out, hl1, hl2]
                  exact (HAT.out.2 (by rw [h1]; decide)).trans h1
                go_wp2_with fail
                go_quiet (fail)
                clear z1 z2 z3 z4
                go_wp2_with fail
                go_ret
                obtain ⟨n0, hn0⟩ := hbw.out
                exact ⟨by rw [HC.out, HF.out]; rfl, n0 + nq, by rw [hn0]; simp [World.drewN]; omega⟩
              | false =>
                have HZ : Hid (chkGo none l = chkGo ((l.take (j + 1 + 1)).getLast?) (l.drop (j + 1 + 1))) := HAT.out.1 (by rw [HE.out, HP.out]; simp [HL.out, hl1, hl2])
                go_wp2_with fail
                go_quiet (fail)
                clear z1 z2 z3 z4
                go_wp2_with fail
                refine ⟨⟨j + 1 + 1, by go_num, by omega, HZ, ?_⟩, by simp [intOf]; omega⟩
                obtain ⟨n0, hn0⟩ := hbw.out
                exact ⟨n0 + nq, by rw [hn0]; simp [World.drewN]; omega⟩
    · have hd : decide ((i : Int) < (l.length : Int)) = false := by simp; omega
      have HZ : Hid (chkGo none l = 0) := by show _ = _; rw [hch.out, List.drop_of_length_le (by omega)]; rfl
      go_wp2_with fail
      go_ret
      exact ⟨by rw [HC.out, HZ.out]; rfl, hbw.out⟩
end Go.Proofs.Ytakileiomgaahaa
