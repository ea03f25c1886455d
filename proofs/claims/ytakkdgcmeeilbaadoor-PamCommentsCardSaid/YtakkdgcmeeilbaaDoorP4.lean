/-
  Walks: the three numbers of a header, in the program.
-/
import Derived.Test.YtakkdgcmeeilbaaDoorP3
import Derived.Test.YtakkdgcmeeilbaaDoorRw
namespace Go.Proofs.YtakkdgcmeeilbaaDoor
open Go.RowKit

/-- A number behind spaces, and what follows it. -/
def rd1 (l : List UInt8) : Option (Nat × List UInt8) :=
  match skipP l with
  | none => none
  | some t => if t.length = l.length then none else if (numAt t).2 = 0 then none else some ((numAt t).1, t.drop (numAt t).2)
def rdN : Nat → List Nat → List UInt8 → Option (List Nat × List UInt8)
  | 0, acc, l => some (acc, l)
  | n + 1, acc, l => match rd1 l with
    | none => none
    | some (v, l') => rdN n (acc ++ [v]) l'
/-- A header as its cells. -/
def hdrC (w h d g : Nat) (m : Value) : Array Value := #[.int .i64 w, .int .i64 h, .int .i64 d, .int .i64 g, m]
def hdr0 : Array Value := hdrC 0 0 0 0 (.slice none 0 0)
theorem hdrC_inf (w h d g : Nat) (m : Value) : (Tryd.prog.info? 49).map (·.size) = some (hdrC w h d g m).size := by show _ = some 5; kernel_rfl
theorem hdr0_inf : (Tryd.prog.info? 49).map (·.size) = some hdr0.size := hdrC_inf _ _ _ _ _
theorem hdrC_one (w h d g : Nat) (m : Value) (hm : m.oneCell' = true) : (hdrC w h d g m).all (·.oneCell') = true := by
  unfold Value.oneCell' at hm
  simp [hdrC, Value.oneCell']; exact hm
theorem hdr0_one : hdr0.all (·.oneCell') = true := hdrC_one _ _ _ _ _ rfl
def hd0V : Value := .tuple #[.agg hdr0, .string ⟨#[]⟩, .bool false]
/-- What the end of a P5 or P6 header answers. -/
def plF (d : Nat) : Option (List Nat × List UInt8) → Option (Nat × Nat × Nat × Nat × List UInt8)
  | some ([a, b, c], x :: r) => if spc x then some (a, b, d, c, r) else none
  | _ => none
def plainP (d : Nat) (l : List UInt8) : Option (Nat × Nat × Nat × Nat × List UInt8) := plF d (rdN 3 [] l)
def plV : Option (Nat × Nat × Nat × Nat × List UInt8) → Value
  | none => hd0V
  | some (a, b, d, c, r) => .tuple #[.agg (hdrC a b d c (.slice none 0 0)), .string ⟨r.toArray⟩, .bool true]

theorem skipF_len (f : Nat) (l t : List UInt8) (h : skipF f l = some t) : t.length ≤ l.length := by
  induction f generalizing l t with
  | zero => cases h
  | succ f ih =>
    cases l with
    | nil => cases h; exact Nat.le_refl _
    | cons c l =>
      unfold skipF at h
      split at h
      · have := ih _ _ h; simp; omega
      · split at h
        · split at h
          · have := ih _ _ h; simp at this ⊢; omega
          · cases h
        · cases h; exact Nat.le_refl _
theorem skipP_len (l t : List UInt8) (h : skipP l = some t) : t.length ≤ l.length := skipF_len _ _ _ h
theorem numAt_le (l : List UInt8) : (numAt l).2 ≤ l.length := by
  unfold numAt
  split
  · simp
  · exact (List.takeWhile_sublist dig).length_le

set_option maxHeartbeats 2000000 in
set_option maxRecDepth 100000 in
theorem readNumbers_any (t : ByteArray) (d : Nat) (w : World) (ht : t.size ≤ maxLen) : Calls Tryd.prog 37 #[.string t, .int .i64 d] w fun e w' => e = .returned (plV (plainP d t.data.toList)) ∧ Below w.heap.size w w' := by
  obtain ⟨R, hR⟩ : ∃ R, R = rdN 3 [] t.data.toList := ⟨_, rfl⟩
  have HP : Hid (plainP d t.data.toList = plF d R) := by show _ = _; rw [hR]; rfl
  have HR := Lib.hid hR
  clear hR
  go_enter Tryd.func37, Tryd.ntmps37
  go_wp2_with fail
  go_loopw [0, 13] (fun v0 vi wr => ∃ (s : ByteArray) (i : Nat) (acc : List Nat) (cs : Array Value), v0 = .string s ∧ vi = .int .i64 i ∧ i ≤ 3 ∧ Hid (s.size ≤ maxLen) ∧ Hid (R = rdN (3 - i) acc s.data.toList) ∧ Hid (Blk wr w.heap.size 49 hdr0) ∧ Hid (Blk wr (w.heap.size + 1) 78 cs) ∧ Hid (cs.size = 3 ∧ acc.length = i ∧ ∀ j (h : j < acc.length), cs[j]? = some (.int .i64 acc[j])) ∧ Hid (Below w.heap.size w wr)) (fun _ vi _ => 3 - (intOf vi).toNat)
  case atStart =>
    exact ⟨t, 0, [], #[.int .i64 0, .int .i64 0, .int .i64 0], rfl, rfl, by decide, ht, HR, (Blk.new w _ hdr0).alloc _, Blk.new_at (by simp) _ _, ⟨rfl, rfl, fun j h => absurd h (by simp)⟩, ((Below.refl w.heap.size w).alloc (Nat.le_refl _) _).alloc (by simp) _⟩
  case round =>
    clear HR ht
    obtain ⟨s, i, acc, cs, rfl, rfl, hi, hs, hch, hb4, hb7, hcs, hbw⟩ := hrel
    generalize hB : w.heap.size = B at *
    have HB := Lib.hid hB
    clear hB
    by_cases hlt : i < 3
    · have hd3 : decide ((i : Int) < 3) = true := by simp; omega
      have HSK := Lib.hid (fun w => skipSpaces_any s w hs.out)
      have HSZ := Lib.hid (ba_size s)
      obtain ⟨n, hn⟩ : ∃ n, 3 - i = n + 1 := ⟨2 - i, by omega⟩
      have HR1 : Hid (R = match rd1 s.data.toList with | none => none | some (v, l') => rdN n (acc ++ [v]) l') := by show _ = _; rw [hch.out, hn]; rfl
      have HRD : Hid (rd1 s.data.toList = match skipP s.data.toList with | none => none | some t => if t.length = s.data.toList.length then none else if (numAt t).2 = 0 then none else some ((numAt t).1, t.drop (numAt t).2)) := rfl
      have HN := Lib.hid hn
      clear hn
      generalize hsk : skipP s.data.toList = sk at *
      have HSKE := Lib.hid hsk
      clear hsk
      go_wp2_with fail
      refine (HSK.out _).mono ?_
      rintro e w1 ⟨rfl, n1, rfl⟩
      have hb4a := Lib.hid (hb4.out.drewN n1)
      have hb7a := Lib.hid (hb7.out.drewN n1)
      have hbwa := Lib.hid (below_drewN hbw.out n1)
      clear hb4 hb7 hbw
      generalize wr.drewN n1 = w2 at *
      cases sk with
      | none =>
        have HF : Hid (R = none) := by show _ = _; rw [HR1.out, HRD.out]
        simp only [skV]
        go_wp2_with (refine wpList_rset_same rfl 49 (.tmp 4) (.tmp 30) rfl rfl B hdr0 (by rfl) (by rfl) 49 (by exact hb4a.out) hdr0_inf hdr0_one ?_)
        refine bodyPost_ret (v := hd0V) (results_ctt rfl _ _ B 49 hdr0 (0, 0) _ _ _ rfl rfl rfl hb4a.out Tryd.underlying49 rfl hdr0_inf) rfl ⟨?_, by rw [HB.out]; exact hbwa.out⟩
        rw [HP.out, HF.out]; rfl
      | some t2 =>
        simp only [skV]
        obtain ⟨T, hT⟩ : ∃ T : ByteArray, T = ⟨t2.toArray⟩ := ⟨_, rfl⟩
        have hTs : T.size = t2.length := by rw [hT]; simp [ByteArray.size]
        have HTL : Hid (T.data.toList = t2) := by show _ = _; rw [hT]
        rw [← hT]
        clear hT
        have HTS := Lib.hid hTs
        have hRN := fun w => readNumber_any T w
        rw [HTL.out] at hRN
        have HNL := Lib.hid (numAt_le t2)
        by_cases heq : t2.length = s.size
        · have HF : Hid (R = none) := by show _ = _; rw [HR1.out, HRD.out]; simp only; rw [if_pos (by rw [HSZ.out]; exact heq)]
          have e1 : ((T.size : Int) == (s.size : Int)) = true := by rw [hTs, heq]; simp
          clear hRN hTs
          go_wp2_with (refine wpList_rset_same rfl 49 (.tmp 4) (.tmp 30) rfl rfl B hdr0 (by rfl) (by rfl) 49 (by exact hb4a.out) hdr0_inf hdr0_one ?_)
          refine bodyPost_ret (v := hd0V) (results_ctt rfl _ _ B 49 hdr0 (0, 0) _ _ _ rfl rfl rfl hb4a.out Tryd.underlying49 rfl hdr0_inf) rfl ⟨?_, by rw [HB.out]; exact hbwa.out⟩
          rw [HP.out, HF.out]; rfl
        have e1 : ((T.size : Int) == (s.size : Int)) = false := by rw [hTs]; simp; omega
        have HRD2 : Hid (rd1 s.data.toList = if (numAt t2).2 = 0 then none else some ((numAt t2).1, t2.drop (numAt t2).2)) := by
          show _ = _
          rw [HRD.out]; simp only; rw [if_neg (by rw [HSZ.out]; exact heq)]
        clear hTs heq HRD HSK
        obtain ⟨nv, hnv⟩ : ∃ nv, nv = (numAt t2).1 := ⟨_, rfl⟩
        obtain ⟨dg, hdg⟩ : ∃ dg, dg = (numAt t2).2 := ⟨_, rfl⟩
        rw [← hnv, ← hdg] at hRN HRD2
        rw [← hdg] at HNL
        have HRN := Lib.hid hRN
        clear hRN hnv hdg
        go_wp2_with fail
        refine (HRN.out _).mono ?_
        rintro e w3 ⟨rfl, rfl⟩
        by_cases h0 : dg = 0
        · subst h0
          have HF : Hid (R = none) := by show _ = _; rw [HR1.out, HRD2.out]; rfl
          go_wp2_with (refine wpList_rset_same rfl 49 (.tmp 4) (.tmp 38) rfl rfl B hdr0 (by rfl) (by rfl) 49 (by exact hb4a.out) hdr0_inf hdr0_one ?_)
          refine bodyPost_ret (v := hd0V) (results_ctt rfl _ _ B 49 hdr0 (0, 0) _ _ _ rfl rfl rfl hb4a.out Tryd.underlying49 rfl hdr0_inf) rfl ⟨?_, by rw [HB.out]; exact hbwa.out⟩
          rw [HP.out, HF.out]; rfl
        have e2 : ((dg : Int) == 0) = false := by simp; omega
        have HF : Hid (R = rdN n (acc ++ [nv]) (t2.drop dg)) := by show _ = _; rw [HR1.out, HRD2.out, if_neg h0]
        obtain ⟨u0, hu0⟩ : ∃ u, cs[i]? = some u := ⟨_, Array.getElem?_eq_getElem (by have := hcs.out.1; omega)⟩
        have hc7 : w2.cell? ⟨B + 1, i, none⟩ = some u0 := (hb7a.out.cell i).trans hu0
        have hf7 : w2.frozen? ⟨B + 1, i, none⟩ = false := hb7a.out.frozen i
        have i3 : (i : Int) < 3 := by omega
        have i0 : (0 : Int) ≤ (i : Int) := by omega
        have dle : (dg : Int) ≤ (T.size : Int) := by have := HNL.out; have := HTS.out; omega
        clear HR1 HRD2 hu0 HNL
        go_wp2_with fail
        go_region
        go_wp2_with fail
        go_roundw
        case rel =>
          refine ⟨T.extract dg T.size, i + 1, acc ++ [nv], cs.setIfInBounds i (.int .i64 nv), rfl, by go_num, by omega, ?_, ?_, ?_, ?_, ?_, ?_⟩
          · show _ ≤ _
            have h1 := skipP_len _ _ HSKE.out
            have h2 := HTS.out
            have h3 := HSZ.out
            have h4 := hs.out
            rw [ByteArray.size_extract]; omega
          · show _ = _
            have : 3 - (i + 1) = n := by have := HN.out; omega
            rw [HF.out, this]; congr 1; rw [extract_list, List.take_of_length_le (by simp), HTL.out]
          · exact (hb4a.out.other (p := ⟨B + 1, i, none⟩) (by simp) _).drew
          · exact (hb7a.out.put i _).drew
          · obtain ⟨a1, a2, a3⟩ := hcs.out
            refine ⟨by simpa using a1, by simp [a2], fun j hj => ?_⟩
            simp only [List.length_append, List.length_singleton] at hj
            by_cases hji : j = i
            · subst hji
              rw [Array.getElem?_setIfInBounds_self_of_lt (by omega)]
              rw [List.getElem_append_right (by omega)]; simp
            · rw [Array.getElem?_setIfInBounds_ne (fun e => hji e.symm), a3 j (by omega), List.getElem_append_left (by omega)]
          · exact (below_put hbwa.out (p := ⟨B + 1, i, none⟩) (by simp) _).drew
        case measure => simp [intOf]; omega
    · have hd3 : decide ((i : Int) < 3) = false := by simp; omega
      have hie : i = 3 := by omega
      subst hie
      clear hlt hi
      obtain ⟨q1, q2, q3⟩ := hcs.out
      obtain ⟨n0, n1, n2, hacc⟩ : ∃ n0 n1 n2, acc = [n0, n1, n2] := by
        match acc, q2 with
        | [a, b, c], _ => exact ⟨a, b, c, rfl⟩
      subst hacc
      have y0 : wr.cell? ⟨B + 1, 0, none⟩ = some (.int .i64 n0) := (hb7.out.cell 0).trans (q3 0 (by simp))
      have y1 : wr.cell? ⟨B + 1, 1, none⟩ = some (.int .i64 n1) := (hb7.out.cell 1).trans (q3 1 (by simp))
      have y2 : wr.cell? ⟨B + 1, 2, none⟩ = some (.int .i64 n2) := (hb7.out.cell 2).trans (q3 2 (by simp))
      clear q1 q2 q3 hcs
      have HRR : Hid (R = some ([n0, n1, n2], s.data.toList)) := hch.out
      cases hl : s.data.toList with
      | nil =>
        have q0 : s.toList.isEmpty = true := by rw [ByteArray.toList_eq, hl]; rfl
        have HF : Hid (plF d R = none) := by show _ = _; rw [HRR.out, hl]; rfl
        clear hl y0 y1 y2
        go_wp2_with (refine wpList_rset_same rfl 49 (.tmp 4) (.tmp 54) rfl rfl B hdr0 (by rfl) (by rfl) 49 (by exact hb4.out) hdr0_inf hdr0_one ?_)
        refine bodyPost_ret (v := hd0V) (results_ctt rfl _ _ B 49 hdr0 (0, 0) _ _ _ rfl rfl rfl hb4.out Tryd.underlying49 rfl hdr0_inf) rfl ⟨?_, by rw [HB.out]; exact hbw.out⟩
        rw [HP.out, HF.out]; rfl
      | cons c l =>
        have q0 : s.toList.isEmpty = false := by rw [ByteArray.toList_eq, hl]; rfl
        have hpos : 0 < s.size := by rw [← ba_size, hl]; simp
        have h0 : s[0] = c := by rw [byte_at, hl]; rfl
        have HT := Lib.hid (ba_tail s c l hl)
        have HFF : Hid (plF d R = if spc c then some (n0, n1, d, n2, l) else none) := by show _ = _; rw [HRR.out, hl]; rfl
        have hSP := fun w => isSpace_any s[0] w
        rw [h0] at hSP
        have HSP := Lib.hid hSP
        clear hSP hl
        go_wp2_with fail
        refine (HSP.out _).mono ?_
        rintro e w1 ⟨rfl, rfl⟩
        cases hsp : spc c with
        | false =>
          have HF : Hid (plF d R = none) := by show _ = _; rw [HFF.out, hsp]; rfl
          clear y0 y1 y2
          go_wp2_with (refine wpList_rset_same rfl 49 (.tmp 4) (.tmp 54) rfl rfl B hdr0 (by rfl) (by rfl) 49 (by exact hb4.out) hdr0_inf hdr0_one ?_)
          refine bodyPost_ret (v := hd0V) (results_ctt rfl _ _ B 49 hdr0 (0, 0) _ _ _ rfl rfl rfl hb4.out Tryd.underlying49 rfl hdr0_inf) rfl ⟨?_, by rw [HB.out]; exact hbw.out⟩
          rw [HP.out, HF.out]; rfl
        | true =>
          have HF : Hid (plF d R = some (n0, n1, d, n2, l)) := by show _ = _; rw [HFF.out, hsp]; rfl
          have i1 : (1 : Int) ≤ (s.size : Int) := by omega
          have x0 : wr.cell? ⟨B, 0, none⟩ = some (.int .i64 0) := hb4.out.cell 0
          have x1 : wr.cell? ⟨B, 1, none⟩ = some (.int .i64 0) := hb4.out.cell 1
          have x2 : wr.cell? ⟨B, 2, none⟩ = some (.int .i64 0) := hb4.out.cell 2
          have x3 : wr.cell? ⟨B, 3, none⟩ = some (.int .i64 0) := hb4.out.cell 3
          have x4 : wr.cell? ⟨B, 4, none⟩ = some (.slice none 0 0) := hb4.out.cell 4
          have f0 := hb4.out.frozen 0
          have f1 := hb4.out.frozen 1
          have f2 := hb4.out.frozen 2
          have f3 := hb4.out.frozen 3
          have f4 := hb4.out.frozen 4
          go_wp2_with fail
          go_region
          have hz : Blk (((((wr.setCell ⟨B, 0, none⟩ (.int .i64 n0)).setCell ⟨B, 1, none⟩ (.int .i64 n1)).setCell ⟨B, 2, none⟩ (.int .i64 d)).setCell ⟨B, 3, none⟩ (.int .i64 n2)).setCell ⟨B, 4, none⟩ (.slice none 0 0)).drew B 49 (hdrC n0 n1 d n2 (.slice none 0 0)) :=
            (((((hb4.out.put 0 _).put 1 _).put 2 _).put 3 _).put 4 _).drew
          have hbz := (below_put (below_put (below_put (below_put (below_put hbw.out (p := ⟨B, 0, none⟩) (Nat.le_refl _) (.int .i64 n0)) (p := ⟨B, 1, none⟩) (Nat.le_refl _) (.int .i64 n1)) (p := ⟨B, 2, none⟩) (Nat.le_refl _) (.int .i64 d)) (p := ⟨B, 3, none⟩) (Nat.le_refl _) (.int .i64 n2)) (p := ⟨B, 4, none⟩) (Nat.le_refl _) (.slice none 0 0)).drew
          clear x0 x1 x2 x3 x4 f0 f1 f2 f3 f4 y0 y1 y2
          generalize (((((wr.setCell ⟨B, 0, none⟩ (.int .i64 n0)).setCell ⟨B, 1, none⟩ (.int .i64 n1)).setCell ⟨B, 2, none⟩ (.int .i64 d)).setCell ⟨B, 3, none⟩ (.int .i64 n2)).setCell ⟨B, 4, none⟩ (.slice none 0 0)).drew = wy at *
          go_wp2_with fail
          refine bodyPost_ret (v := .tuple #[.agg (hdrC n0 n1 d n2 (.slice none 0 0)), .string (s.extract 1 s.size), .bool true]) (results_ctt rfl _ _ B 49 (hdrC n0 n1 d n2 (.slice none 0 0)) (0, 0) _ _ _ rfl rfl rfl hz Tryd.underlying49 rfl (hdrC_inf _ _ _ _ _)) rfl ⟨?_, by rw [HB.out]; exact hbz⟩
          rw [HP.out, HF.out, ba_of _ _ HT.out]; rfl
end Go.Proofs.YtakkdgcmeeilbaaDoor
