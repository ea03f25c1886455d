/-
  Walks: the header of P5 and P6, in the reference of pam.
-/
import Derived.Test.YtakkdgcmeeilbaaR1
import Derived.Test.YtakkdgcmeeilbaaP8
namespace Go.Proofs.Ytakkdgcmeeilbaa
open Go.RowKit

/-- A header of the reference as its cells. -/
def hd6 (a b d c p : Nat) (v : Value) : Array Value := #[.int .i64 a, .int .i64 b, .int .i64 d, .int .i64 c, .int .i64 p, v]
def hd60 : Array Value := hd6 0 0 0 0 0 (.slice none 0 0)
theorem hd6_inf (a b d c p : Nat) (v : Value) : (Try.prog.info? 44).map (·.size) = some (hd6 a b d c p v).size := by show _ = some 6; kernel_rfl
theorem hd60_inf : (Try.prog.info? 44).map (·.size) = some hd60.size := hd6_inf _ _ _ _ _ _
theorem hd6_one (a b d c p : Nat) (v : Value) (hv : v.oneCell' = true) : (hd6 a b d c p v).all (·.oneCell') = true := by
  unfold Value.oneCell' at hv
  simp [hd6, Value.oneCell']; exact hv
theorem hd60_one : hd60.all (·.oneCell') = true := hd6_one _ _ _ _ _ _ rfl
/-- What a header's reader answers, in the reference. -/
def RHdOk (l : List UInt8) (r : Option (Nat × Nat × Nat × Nat × List Mt × List UInt8)) (e : Ending) (w : World) : Prop :=
  match r with
  | none => ∃ a b d c p v, e = .returned (.tuple #[.agg (hd6 a b d c p v), .bool false]) ∧ v.oneCell' = true
  | some (a, b, d, c, ms, rest) => ∃ p v, e = .returned (.tuple #[.agg (hd6 a b d c p v), .bool true]) ∧ p ≤ l.length ∧ rest = l.drop p ∧ MRow w v ms
theorem numP_tw (t : List UInt8) : numP (t.takeWhile dig) = if (numAt t).2 = 0 then none else some (numAt t).1 := by
  unfold numP numAt
  by_cases h9 : 9 < (t.takeWhile dig).length
  · rw [if_pos h9, if_neg (by omega), if_pos rfl]
  · rw [if_neg h9]
    simp only
    by_cases h0 : (t.takeWhile dig).length = 0
    · rw [if_pos h0, if_neg (by omega)]
    · rw [if_neg h0, if_pos ⟨by omega, by omega, tw_all t⟩]
theorem tw_from (s : ByteArray) (q e : Nat) (hq : q ≤ e) (he : e ≤ s.size) (h1 : ∀ j (h : j < s.size), q ≤ j → j < e → dig s[j] = true) (h2 : ∀ h : e < s.size, dig s[e] = false) : (s.data.toList.drop q).takeWhile dig = (s.data.toList.drop q).take (e - q) := by
  refine tw_end _ (e - q) (by rw [List.length_drop, ba_size]; omega) ?_ ?_
  · rw [List.all_eq_true]
    intro x hx
    obtain ⟨j, hj, rfl⟩ := List.getElem_of_mem hx
    rw [List.length_take, List.length_drop, ba_size] at hj
    rw [List.getElem_take, List.getElem_drop]
    exact h1 (q + j) (by omega) (by omega) (by omega)
  · intro hlt
    rw [List.length_drop, ba_size] at hlt
    rw [List.getElem_drop]
    have := h2 (by omega)
    have e1 : q + (e - q) = e := by omega
    simp only [e1]
    exact this

theorem rd_ref (l : List UInt8) (q p e : Nat) (hqp : q ≤ p) (hpq : p ≠ q) (hp : p ≤ l.length) (hpe : p ≤ e) (he : e ≤ l.length) (hsk : SkR l p (skipP (l.drop q))) (htw : (l.drop p).takeWhile dig = (l.drop p).take (e - p)) :
    (numP ((l.drop p).take (e - p)) = none → rd1 (l.drop q) = none) ∧ (∀ v, numP ((l.drop p).take (e - p)) = some v → rd1 (l.drop q) = some (v, l.drop e)) := by
  rw [← htw]
  unfold rd1
  cases hs : skipP (l.drop q) with
  | none =>
    rw [hs] at hsk
    obtain ⟨h1, h2⟩ := hsk
    have e0 : (l.drop p).takeWhile dig = [] := by
      rw [List.drop_eq_getElem_cons h1]
      have : l[p] = 35 := by simpa [List.getD_eq_getElem?_getD, h1] using h2
      rw [this]; rfl
    rw [e0]
    exact ⟨fun _ => rfl, fun v hv => by cases hv⟩
  | some t =>
    rw [hs] at hsk
    obtain rfl : t = l.drop p := hsk
    simp only
    have hl : ((l.drop p).takeWhile dig).length = e - p := by rw [htw, List.length_take, List.length_drop]; omega
    rw [if_neg (by rw [List.length_drop, List.length_drop]; omega), numP_tw]
    refine ⟨fun h => ?_, fun v hv => ?_⟩
    · by_cases h0 : (numAt (l.drop p)).2 = 0
      · rw [if_pos h0]
      · rw [if_neg h0] at h; cases h
    · by_cases h0 : (numAt (l.drop p)).2 = 0
      · rw [if_pos h0] at hv; cases hv
      · rw [if_neg h0] at hv ⊢
        cases hv
        have h9 : (numAt (l.drop p)).2 = e - p := by
          unfold numAt at h0 ⊢
          split
          · rename_i h; rw [if_pos h] at h0; exact absurd rfl h0
          · exact hl
        rw [h9, List.drop_drop]
        congr 3; omega

set_option maxHeartbeats 4000000 in
set_option maxRecDepth 100000 in
theorem rplain_any (s : ByteArray) (w : World) (hs : s.size ≤ maxLen) (h2 : 2 ≤ s.size) (d : Nat) (hd : d = if s.data.toList.getD 1 0 = 53 then 1 else 3) :
    Calls Try.prog 16 #[.string s] w fun e w' => RHdOk s.data.toList (toHd (plainP d (s.data.toList.drop 2))) e w' ∧ Below w.heap.size w w' := by
  obtain ⟨R, hR⟩ : ∃ R, R = rdN 3 [] (s.data.toList.drop 2) := ⟨_, rfl⟩
  have HP : Hid (plainP d (s.data.toList.drop 2) = plF d R) := by show _ = _; rw [hR]; rfl
  have HR := Lib.hid hR
  have HL := Lib.hid (ba_size s)
  have HD := Lib.hid hd
  have HS := Lib.hid hs
  unfold maxLen at hs
  clear hR hd
  go_enter Try.func16, Try.ntmps16
  go_wp2_with fail
  go_loopw [5, 6] (fun v5 vi wr => ∃ (q i : Nat) (acc : List Nat) (cs : Array Value), v5 = .int .i64 q ∧ vi = .int .i64 i ∧ i ≤ 3 ∧ q ≤ s.size ∧ Hid (R = rdN (3 - i) acc (s.data.toList.drop q)) ∧ Hid (Blk wr w.heap.size 44 hd60) ∧ Hid (Blk wr (w.heap.size + 1) 64 cs) ∧ Hid (cs.size = 3 ∧ acc.length = i ∧ ∀ j (h : j < acc.length), cs[j]? = some (.int .i64 acc[j])) ∧ Hid (Below w.heap.size w wr)) (fun _ vi _ => 3 - (intOf vi).toNat)
  case atStart =>
    exact ⟨2, 0, [], #[.int .i64 0, .int .i64 0, .int .i64 0], rfl, rfl, by decide, h2, HR, (Blk.new w _ hd60).alloc _, Blk.new_at (by simp) _ _, ⟨rfl, rfl, fun j h => absurd h (by simp)⟩, ((Below.refl w.heap.size w).alloc (Nat.le_refl _) _).alloc (by simp) _⟩
  case round =>
    clear HR
    obtain ⟨q, i, acc, cs, rfl, rfl, hi, hq, hch, hb4, hb7, hcs, hbw⟩ := hrel
    generalize hB : w.heap.size = B at *
    have HB := Lib.hid hB
    clear hB
    by_cases hlt : i < 3
    · have hd3 : decide ((i : Int) < 3) = true := by simp; omega
      have HSK := Lib.hid (fun w => rskip_any s q w HS.out hq)
      obtain ⟨n, hn⟩ : ∃ n, 3 - i = n + 1 := ⟨2 - i, by omega⟩
      have HR1 : Hid (R = match rd1 (s.data.toList.drop q) with | none => none | some (v, l') => rdN n (acc ++ [v]) l') := by show _ = _; rw [hch.out, hn]; rfl
      have HRD : Hid (rd1 (s.data.toList.drop q) = match skipP (s.data.toList.drop q) with | none => none | some t => if t.length = (s.data.toList.drop q).length then none else if (numAt t).2 = 0 then none else some ((numAt t).1, t.drop (numAt t).2)) := rfl
      have HN := Lib.hid hn
      clear hn
      go_wp2_with fail
      refine (HSK.out _).mono ?_
      rintro e w1 ⟨⟨p, rfl, hsk⟩, rfl⟩
      obtain ⟨hqp, hpl, hskm⟩ := hsk
      rw [HL.out] at hpl
      clear HSK
      by_cases hpq : p = q
      · have HF : Hid (R = none) := by
          show _ = _
          rw [HR1.out, HRD.out]
          cases hsk : skipP (s.data.toList.drop q) with
          | none => rfl
          | some t =>
            rw [hsk] at hskm
            simp only at hskm ⊢
            rw [if_pos (by rw [hskm, hpq])]
        have e1 : ((p : Int) == (q : Int)) = true := by rw [hpq]; simp
        clear hskm
        go_wp2_with (refine wpList_rset_same rfl 44 (.tmp 2) (.tmp 23) rfl rfl B hd60 (by rfl) (by rfl) 44 (by exact hb4.out) hd60_inf hd60_one ?_)
        refine bodyPost_ret (v := .tuple #[.agg hd60, .bool false]) (results_ct rfl _ _ B 44 hd60 (0, 0) _ _ rfl rfl hb4.out Try.underlying44 rfl hd60_inf) rfl ⟨?_, by rw [HB.out]; exact hbw.out⟩
        rw [HP.out, HF.out]
        exact ⟨0, 0, 0, 0, 0, _, rfl, rfl⟩
      have e1 : ((p : Int) == (q : Int)) = false := by simp; omega
      have HREF := Lib.hid (fun e hpe he htw => rd_ref s.data.toList q p e hqp hpq (by rw [HL.out]; exact hpl) hpe he hskm htw)
      clear hskm HRD
      go_wp2_with fail
      clear e1
      go_loop [8] (fun v8 => ∃ e : Nat, v8 = .int .i64 e ∧ p ≤ e ∧ e ≤ s.size ∧ Hid (∀ j (h : j < s.size), p ≤ j → j < e → dig s[j] = true)) (fun v8 => s.size - (intOf v8).toNat)
      case atStart => exact ⟨p, rfl, Nat.le_refl _, hpl, fun j _ h1 h2 => by omega⟩
      case round =>
        obtain ⟨e, rfl, hpe, hes, hall⟩ := hrel
        by_cases hcont : ∃ h : e < s.size, dig s[e] = true
        · obtain ⟨helt, hdg⟩ := hcont
          have hcle : decide ((e : Int) < (s.size : Int)) = true := by simp; omega
          have hd2 := hdg
          simp only [dig, Bool.and_eq_true, decide_eq_true_eq] at hd2
          have c1 : decide ((48 : Int) ≤ ((s[e]).toNat : Int)) = true := by simp; omega
          have c2 : decide (((s[e]).toNat : Int) ≤ 57) = true := by simp; omega
          have HDG := Lib.hid hdg
          clear hd2 hdg
          go_wp2_with fail
          go_round
          case rel =>
            refine ⟨e + 1, by go_num, by omega, by omega, fun j hj h1 h2 => ?_⟩
            by_cases hje : j = e
            · subst hje; exact HDG.out
            · exact hall.out j hj h1 (by omega)
          case measure => simp [intOf]; omega
        · have hstop : ∀ h : e < s.size, dig s[e] = false := fun h => by
            rw [Bool.eq_false_iff]; intro hd; exact hcont ⟨h, hd⟩
          have HTW := Lib.hid (tw_from s p e hpe hes hall.out hstop)
          obtain ⟨r1, r2⟩ := HREF.out e hpe (by rw [HL.out]; exact hes) HTW.out
          have HXL : Hid ((s.extract p e).data.toList = (s.data.toList.drop p).take (e - p)) := by
            show _ = _
            rw [extract_list, List.drop_take]
          have hRN := fun w => rnumber_any (s.extract p e) w (by have := HS.out; rw [ByteArray.size_extract]; omega)
          rw [HXL.out] at hRN
          generalize (s.data.toList.drop p).take (e - p) = TW at *
          have HRN := Lib.hid hRN
          have HR1' := Lib.hid r1
          have HR2' := Lib.hid r2
          clear hRN r1 r2 hcont
          have x1 : (p : Int) ≤ (e : Int) := by omega
          have x2 : (e : Int) ≤ (s.size : Int) := by omega
          have hfork : (¬ e < s.size) ∨ (∃ h : e < s.size, decide ((e : Int) < (s.size : Int)) = true ∧ decide ((48 : Int) ≤ ((s[e]).toNat : Int)) = false) ∨ (∃ h : e < s.size, decide ((e : Int) < (s.size : Int)) = true ∧ decide ((48 : Int) ≤ ((s[e]).toNat : Int)) = true ∧ decide (((s[e]).toNat : Int) ≤ 57) = false) := by
            by_cases h : e < s.size
            · have hd := hstop h
              unfold dig at hd
              by_cases h48 : 48 ≤ (s[e]).toNat
              · refine .inr (.inr ⟨h, by simp; omega, by simp; omega, ?_⟩)
                rw [decide_eq_true h48] at hd
                simp at hd ⊢; omega
              · exact .inr (.inl ⟨h, by simp; omega, by simp; omega⟩)
            · exact .inl h
          clear hstop
          obtain ⟨bn, hbn⟩ : ∃ b, numB TW = b := ⟨_, rfl⟩
          rw [hbn] at HRN
          have HBN := Lib.hid hbn
          clear hbn
          rcases hfork with hf | ⟨hlt2, hf, hf2⟩ | ⟨hlt2, hf, hf2, hf3⟩
          all_goals
            go_wp2_with fail
            refine (HRN.out _).mono ?_
            rintro e' w2 ⟨nv, rfl, hnv, rfl⟩
            have HNV := Lib.hid hnv
            clear hnv
            cases bn with
            | false =>
              have HF : Hid (R = none) := by
                show _ = _
                rw [HR1.out, HR1'.out (by have := HBN.out; unfold numB at this; simpa using this)]
              go_wp2_with (refine wpList_rset_same rfl 44 (.tmp 2) (.tmp 53) rfl rfl B hd60 (by rfl) (by rfl) 44 (by exact hb4.out) hd60_inf hd60_one ?_)
              refine bodyPost_ret (v := .tuple #[.agg hd60, .bool false]) (results_ct rfl _ _ B 44 hd60 (0, 0) _ _ rfl rfl hb4.out Try.underlying44 rfl hd60_inf) rfl ⟨?_, by rw [HB.out]; exact hbw.out⟩
              rw [HP.out, HF.out]
              exact ⟨0, 0, 0, 0, 0, _, rfl, rfl⟩
            | true =>
              have HF : Hid (R = rdN n (acc ++ [nv]) (s.data.toList.drop e)) := by
                show _ = _
                rw [HR1.out, HR2'.out nv (HNV.out rfl)]
              obtain ⟨u0, hu0⟩ : ∃ u, cs[i]? = some u := ⟨_, Array.getElem?_eq_getElem (by have := hcs.out.1; omega)⟩
              have hc7 : wr.cell? ⟨B + 1, i, none⟩ = some u0 := (hb7.out.cell i).trans hu0
              have hf7 : wr.frozen? ⟨B + 1, i, none⟩ = false := hb7.out.frozen i
              have i3 : (i : Int) < 3 := by omega
              have i0 : (0 : Int) ≤ (i : Int) := by omega
              clear hu0
              go_wp2_with fail
              refine ⟨⟨e, i + 1, acc ++ [nv], cs.setIfInBounds i (.int .i64 nv), rfl, by go_num, by omega, hes, ?_, ?_, ?_, ?_, ?_⟩, by simp [intOf]; omega⟩
              · show _ = _
                have : 3 - (i + 1) = n := by have := HN.out; omega
                rw [HF.out, this]
              · exact hb4.out.other (p := ⟨B + 1, i, none⟩) (by simp) _
              · exact hb7.out.put i _
              · obtain ⟨a1, a2, a3⟩ := hcs.out
                refine ⟨by simpa using a1, by simp [a2], fun j hj => ?_⟩
                simp only [List.length_append, List.length_singleton] at hj
                by_cases hji : j = i
                · subst hji
                  rw [Array.getElem?_setIfInBounds_self_of_lt (by omega)]
                  rw [List.getElem_append_right (by omega)]; simp
                · rw [Array.getElem?_setIfInBounds_ne (fun e => hji e.symm), a3 j (by omega), List.getElem_append_left (by omega)]
              · exact below_put hbw.out (p := ⟨B + 1, i, none⟩) (by simp) _
    · have hd3 : decide ((i : Int) < 3) = false := by simp; omega
      have hie : i = 3 := by omega
      subst hie
      clear hlt hi
      obtain ⟨q1, q2, q3⟩ := hcs.out
      obtain ⟨n0, n1, n2, hacc⟩ : ∃ n0 n1 n2, acc = [n0, n1, n2] := by
        match acc, q2 with
        | [a, b, c], _ => exact ⟨a, b, c, rfl⟩
      subst hacc
      have y0 : wr.cell? ⟨B + 1, 0, none⟩ = some (.int .i64 n0) := (hb7.out.cell 0).trans (q3 0 (by simp))
      have y1 : wr.cell? ⟨B + 1, 1, none⟩ = some (.int .i64 n1) := (hb7.out.cell 1).trans (q3 1 (by simp))
      have y2 : wr.cell? ⟨B + 1, 2, none⟩ = some (.int .i64 n2) := (hb7.out.cell 2).trans (q3 2 (by simp))
      clear q1 q2 q3 hcs
      have HRR : Hid (R = some ([n0, n1, n2], s.data.toList.drop q)) := hch.out
      by_cases hqs : q = s.size
      · have e1 : ((q : Int) == (s.size : Int)) = true := by rw [hqs]; simp
        have HF : Hid (plF d R = none) := by show _ = _; rw [HRR.out, List.drop_of_length_le (by rw [HL.out]; omega)]; rfl
        clear y0 y1 y2
        go_wp2_with (refine wpList_rset_same rfl 44 (.tmp 2) (.tmp 69) rfl rfl B hd60 (by rfl) (by rfl) 44 (by exact hb4.out) hd60_inf hd60_one ?_)
        refine bodyPost_ret (v := .tuple #[.agg hd60, .bool false]) (results_ct rfl _ _ B 44 hd60 (0, 0) _ _ rfl rfl hb4.out Try.underlying44 rfl hd60_inf) rfl ⟨?_, by rw [HB.out]; exact hbw.out⟩
        rw [HP.out, HF.out]
        exact ⟨0, 0, 0, 0, 0, _, rfl, rfl⟩
      · have hql : q < s.size := by omega
        have e1 : ((q : Int) == (s.size : Int)) = false := by simp; omega
        have HFF : Hid (plF d R = if spc s[q] then some (n0, n1, d, n2, s.data.toList.drop (q + 1)) else none) := by show _ = _; rw [HRR.out, drop_cons s q hql]; rfl
        have HSP := Lib.hid (fun w => rspace_any s[q] w)
        obtain ⟨sp, hsp⟩ : ∃ b, spc s[q] = b := ⟨_, rfl⟩
        rw [hsp] at HSP HFF
        clear hsp
        go_wp2_with fail
        refine (HSP.out _).mono ?_
        rintro e w1 ⟨rfl, rfl⟩
        cases sp with
        | false =>
          have HF : Hid (plF d R = none) := HFF.out
          clear y0 y1 y2
          go_wp2_with (refine wpList_rset_same rfl 44 (.tmp 2) (.tmp 69) rfl rfl B hd60 (by rfl) (by rfl) 44 (by exact hb4.out) hd60_inf hd60_one ?_)
          refine bodyPost_ret (v := .tuple #[.agg hd60, .bool false]) (results_ct rfl _ _ B 44 hd60 (0, 0) _ _ rfl rfl hb4.out Try.underlying44 rfl hd60_inf) rfl ⟨?_, by rw [HB.out]; exact hbw.out⟩
          rw [HP.out, HF.out]
          exact ⟨0, 0, 0, 0, 0, _, rfl, rfl⟩
        | true =>
          have HF : Hid (plF d R = some (n0, n1, d, n2, s.data.toList.drop (q + 1))) := HFF.out
          have b1 : 1 < s.size := by omega
          have HG : Hid (s.data.toList.getD 1 0 = s[1]) := (byte_at s 1 b1).symm
          have x0 : wr.cell? ⟨B, 0, none⟩ = some (.int .i64 0) := hb4.out.cell 0
          have x1 : wr.cell? ⟨B, 1, none⟩ = some (.int .i64 0) := hb4.out.cell 1
          have x2 : wr.cell? ⟨B, 2, none⟩ = some (.int .i64 0) := hb4.out.cell 2
          have x3 : wr.cell? ⟨B, 3, none⟩ = some (.int .i64 0) := hb4.out.cell 3
          have x4 : wr.cell? ⟨B, 4, none⟩ = some (.int .i64 0) := hb4.out.cell 4
          have x5 : wr.cell? ⟨B, 5, none⟩ = some (.slice none 0 0) := hb4.out.cell 5
          have f0 := hb4.out.frozen 0
          have f1 := hb4.out.frozen 1
          have f2 := hb4.out.frozen 2
          have f3 := hb4.out.frozen 3
          have f4 := hb4.out.frozen 4
          have f5 := hb4.out.frozen 5
          have hfk : (d = 1 ∧ (((s[1]).toNat : Int) == 53) = true) ∨ (d = 3 ∧ (((s[1]).toNat : Int) == 53) = false) := by
            rw [HD.out, HG.out]
            by_cases h : s[1] = 53
            · exact .inl ⟨by rw [if_pos h], by rw [h]; rfl⟩
            · exact .inr ⟨by rw [if_neg h], by rw [Bool.eq_false_iff]; intro h'; exact h ((byte_eqI s[1] 53 (by decide)).1 h')⟩
          rcases hfk with ⟨rfl, h53⟩ | ⟨rfl, h53⟩
          · go_wp2_with fail
            have hz : Blk ((((((wr.setCell ⟨B, 0, none⟩ (.int .i64 n0)).setCell ⟨B, 1, none⟩ (.int .i64 n1)).setCell ⟨B, 2, none⟩ (.int .i64 1)).setCell ⟨B, 3, none⟩ (.int .i64 n2)).setCell ⟨B, 4, none⟩ (.int .i64 ((q : Int) + 1))).setCell ⟨B, 5, none⟩ (.slice none 0 0)) B 44 (hd6 n0 n1 1 n2 (q + 1) (.slice none 0 0)) := (((((hb4.out.put 0 _).put 1 _).put 2 _).put 3 _).put 4 _).put 5 _
            have hbz := below_put (below_put (below_put (below_put (below_put (below_put hbw.out (p := ⟨B, 0, none⟩) (Nat.le_refl _) (.int .i64 n0)) (p := ⟨B, 1, none⟩) (Nat.le_refl _) (.int .i64 n1)) (p := ⟨B, 2, none⟩) (Nat.le_refl _) (.int .i64 1)) (p := ⟨B, 3, none⟩) (Nat.le_refl _) (.int .i64 n2)) (p := ⟨B, 4, none⟩) (Nat.le_refl _) (.int .i64 ((q : Int) + 1))) (p := ⟨B, 5, none⟩) (Nat.le_refl _) (.slice none 0 0)
            refine bodyPost_ret (v := .tuple #[.agg (hd6 n0 n1 1 n2 (q + 1) (.slice none 0 0)), .bool true]) (results_ct rfl _ _ B 44 (hd6 n0 n1 1 n2 (q + 1) (.slice none 0 0)) (0, 0) _ _ rfl rfl hz Try.underlying44 rfl (hd6_inf _ _ _ _ _ _)) rfl ⟨?_, by rw [HB.out]; exact hbz⟩
            rw [HP.out, HF.out]
            exact ⟨q + 1, _, rfl, by rw [HL.out]; omega, rfl, mrow_nil _⟩
          · go_wp2_with fail
            have hz : Blk ((((((wr.setCell ⟨B, 0, none⟩ (.int .i64 n0)).setCell ⟨B, 1, none⟩ (.int .i64 n1)).setCell ⟨B, 2, none⟩ (.int .i64 3)).setCell ⟨B, 3, none⟩ (.int .i64 n2)).setCell ⟨B, 4, none⟩ (.int .i64 ((q : Int) + 1))).setCell ⟨B, 5, none⟩ (.slice none 0 0)) B 44 (hd6 n0 n1 3 n2 (q + 1) (.slice none 0 0)) := (((((hb4.out.put 0 _).put 1 _).put 2 _).put 3 _).put 4 _).put 5 _
            have hbz := below_put (below_put (below_put (below_put (below_put (below_put hbw.out (p := ⟨B, 0, none⟩) (Nat.le_refl _) (.int .i64 n0)) (p := ⟨B, 1, none⟩) (Nat.le_refl _) (.int .i64 n1)) (p := ⟨B, 2, none⟩) (Nat.le_refl _) (.int .i64 3)) (p := ⟨B, 3, none⟩) (Nat.le_refl _) (.int .i64 n2)) (p := ⟨B, 4, none⟩) (Nat.le_refl _) (.int .i64 ((q : Int) + 1))) (p := ⟨B, 5, none⟩) (Nat.le_refl _) (.slice none 0 0)
            refine bodyPost_ret (v := .tuple #[.agg (hd6 n0 n1 3 n2 (q + 1) (.slice none 0 0)), .bool true]) (results_ct rfl _ _ B 44 (hd6 n0 n1 3 n2 (q + 1) (.slice none 0 0)) (0, 0) _ _ rfl rfl hz Try.underlying44 rfl (hd6_inf _ _ _ _ _ _)) rfl ⟨?_, by rw [HB.out]; exact hbz⟩
            rw [HP.out, HF.out]
            exact ⟨q + 1, _, rfl, by rw [HL.out]; omega, rfl, mrow_nil _⟩
end Go.Proofs.Ytakkdgcmeeilbaa
