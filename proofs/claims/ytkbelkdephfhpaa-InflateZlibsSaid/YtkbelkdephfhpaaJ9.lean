/-
  Walk: the data of a block, in the reference.
-/
import Derived.Test.YtkbelkdephfhpaaJ8
import Derived.Test.YtkbelkdephfhpaaI7
namespace Go.Proofs.Ytkbelkdephfhpaa
open Go.RowKit

abbrev FR (B : Nat) (w w' : World) : Prop := Fr B [49, 5] w w'
theorem fr_of {zb B : Nat} {w w' : World} (h : Fr zb [49] w w') (hB : B ≤ zb) : FR B w w' := h.mono hB (fun t ht => by simp at ht; simp [ht])
theorem IRow.int {w : World} {v : Value} {l : List Nat} (h : IRow w v l) : IReadZ w v (l.map Int.ofNat) := h.read.int
theorem lenP_ok (l : List Nat) (h15 : ∀ n ∈ l, n ≤ 15) (hl : l.length ≤ 288) (hs : sumC l ≤ 32768) : lenP (l.map Int.ofNat) = .ok (codL l) := by
  have e : (l.map Int.ofNat).map Int.toNat = l := by rw [List.map_map]; simp [Function.comp_def]
  unfold lenP
  rw [e, if_neg (by simp; omega), if_neg, if_neg (by omega)]
  intro h
  obtain ⟨y, hm, hy⟩ := List.any_eq_true.1 h
  obtain ⟨n, hn, rfl⟩ := List.mem_map.1 hm
  have := h15 n hn
  simp at hy
  omega
/-- What reading data promises. -/
def RDat (s : ByteArray) (B zb : Nat) (r : Except Nat (List UInt8 × List Bool)) (e : Ending) (w : World) : Prop :=
  match r with
  | .error k => (∃ v, e = .returned v) ∧ ∃ p, Blk w zb 49 (rc s p k)
  | .ok (o, b) => (∃ v, e = .returned v ∧ BRow w B 5 v o) ∧ ∃ p, p ≤ 8 * s.size ∧ b = bitsAt s p ∧ Blk w zb 49 (rc s p 0)
/-- Code lengths that can be read with. -/
structure Good (l : List Nat) : Prop where
  b15 : ∀ n ∈ l, n ≤ 15
  len : l.length ≤ 288
  sum : sumC l ≤ 32768

set_option maxRecDepth 100000 in
set_option maxHeartbeats 16000000 in
theorem refData_any (s : ByteArray) (p most B zb : Nat) (out : List UInt8) (v0 vl vd : Value) (ll dl : List Nat) (w : World) (hz : Blk w zb 49 (rc s p 0)) (hrow : BRow w B 5 v0 out) (hB : B ≤ zb) (hl : IRow w vl ll) (hd : IRow w vd dl) (gl : Good ll) (gd : Good dl) (hs : s.size ≤ 1000000000000000) (hp : p ≤ 8 * s.size) (hm : most ≤ 1048576) (ho : out.length ≤ most) :
    Calls Try.prog 24 #[.pointer (some ⟨zb, 0, none⟩), v0, .int .i64 most, vl, vd] w fun e w' => RDat s B zb (datT ll dl most out (bitsAt s p)) e w' ∧ FR B w w' := by
  have hbl := bitsAt_length s p
  have HD : Hid (datGo ll dl most (8 * s.size - p + 1) out (bitsAt s p) = datT ll dl most out (bitsAt s p)) := by show _ = _; unfold datT; rw [hbl]
  clear hbl
  obtain ⟨r0, hr0⟩ : ∃ r0, datT ll dl most out (bitsAt s p) = r0 := ⟨_, rfl⟩
  rw [hr0] at HD ⊢
  clear hr0
  go_enter Try.func24, Try.ntmps24
  go_wp2_with fail
  refine (refLengths_any vl _ _ hl.int).mono ?_
  rintro e w1 ⟨hok, hb1⟩
  rw [lenP_ok ll gl.b15 gl.len gl.sum] at hok
  obtain ⟨lc, rfl, hlc⟩ := hok
  have hz1 := (Fr.of_below (B := 0) hb1 []).blk hz (by simp)
  have hrow1 : BRow w1 B 5 v0 out := (Fr.of_below (B := 0) hb1 []).owns hrow (by simp)
  have hl1 := hl.below hb1
  have hd1 := hd.below hb1
  have hf1 : FR B w w1 := Fr.of_below hb1 _
  clear hz hrow hl hd hb1
  go_wp2_with fail
  refine (refLengths_any vd _ _ hd1.int).mono ?_
  rintro e w2 ⟨hok, hb2⟩
  rw [lenP_ok dl gd.b15 gd.len gd.sum] at hok
  obtain ⟨dc, rfl, hdc⟩ := hok
  have hz2 := (Fr.of_below (B := 0) hb2 []).blk hz1 (by simp)
  have hrow2 : BRow w2 B 5 v0 out := (Fr.of_below (B := 0) hb2 []).owns hrow1 (by simp)
  have hl2 := hl1.below hb2
  have hd2 := hd1.below hb2
  have hlc2 := hlc.below hb2
  have hf2 : FR B w w2 := hf1.trans (Fr.of_below hb2 _)
  clear hz1 hrow1 hl1 hd1 hb2 hlc hf1
  go_wp2_with fail
  go_loopg [1] (8 * s.size - p + 1) (fun k v1 wr => ∃ (q : Nat) (o : List UInt8), q ≤ 8 * s.size ∧ 8 * s.size - q < k ∧ o.length ≤ most ∧ Hid (datGo ll dl most k o (bitsAt s q) = r0) ∧ Blk wr zb 49 (rc s q 0) ∧ BRow wr B 5 v1 o ∧ FR B w2 wr)
  case atStart => exact ⟨p, out, hp, by omega, ho, HD, hz2, hrow2, Fr.refl _ _ _⟩
  case round =>
    clear HD hz2 hrow2
    obtain ⟨q, o, hq, hk, hol, hdat, hzr, hrow, hfr⟩ := hrel
    obtain ⟨f, hf⟩ : ∃ f, gk = f + 1 := ⟨gk - 1, by omega⟩
    have hdd := hdat.out
    rw [hf] at hdd
    unfold datGo at hdd
    have HF := Lib.hid hf
    have hk2 : 8 * s.size - q ≤ f := by omega
    clear hf hdat hk
    have hlr := hl2.fr hfr (by decide)
    have hlcr := hlc2.fr hfr (by decide)
    have HDD := Lib.hid hdd
    clear hdd
    go_wp2_with fail
    refine (refSymbol_any s q zb vl lc ll _ hzr hlr hlcr gl.b15 (by have := gl.len; omega) hs hq).mono ?_
    rintro e w3 ⟨hst, hf3⟩
    have hfr3 := hfr.trans (fr_of hf3 hB)
    have hrow3 : BRow w3 B 5 u1 o := hf3.owns hrow (by decide)
    have hdd := HDD.out
    clear HDD hlr hlcr hzr hrow hfr hf3
    cases hn1 : symT ll (bitsAt s q) with
    | error k =>
      rw [hn1] at hst hdd
      obtain ⟨rfl, p3, hp3, hz3⟩ := hst
      have HE : Hid (r0 = .error k) := hdd.symm
      have hk := symT_err hn1
      have hk1 : ((k : Int) != 0) = true := by simp; omega
      have k2 := hz3.cell 2
      simp [rc] at k2
      clear hn1 hdd
      go_wp2_with fail
      go_ret
      refine ⟨?_, hf2.trans hfr3⟩
      rw [HE.out]
      exact ⟨⟨_, rfl⟩, p3, hz3⟩
    | ok xb =>
      obtain ⟨y, b1⟩ := xb
      have hlen1 := symT_len hn1
      rw [bitsAt_length] at hlen1
      rw [hn1] at hst hdd
      obtain ⟨rfl, q1, hq1, rfl, hz3⟩ := hst
      rw [bitsAt_length] at hlen1
      simp only at hdd
      clear hn1
      have k2 := hz3.cell 2
      simp [rc] at k2
      obtain ⟨x3, c3, rfl⟩ := row_shape hrow3
      by_cases h256 : y < 256
      · rw [if_pos h256] at hdd
        have d1 : ((y : Int) == 256) = false := beq_false_of_ne (by omega)
        have d2 : decide ((y : Int) < 256) = true := by simp; omega
        by_cases hlim : most ≤ o.length
        · rw [if_pos hlim] at hdd
          have HE : Hid (r0 = .error 3) := hdd.symm
          have d3 : decide ((most : Int) ≤ (o.length : Int)) = true := by simp; omega
          have d4 : decide (most ≤ o.length) = true := by simp; omega
          clear hdd
          have kE := hz3.cell 2
          have fE := hz3.frozen 2
          simp [rc] at kE
          have hz0 := hz3.put 2 (.int .i64 3)
          have hf0 := hfr3.put hz3 hB (by simp) 2 (.int .i64 3)
          have HZ0 := Lib.hid hz0
          have HF0 := Lib.hid hf0
          clear hz0 hf0
          go_upto_region 9 with fail
          have hzE := HZ0.out
          have hfE := HF0.out
          clear HZ0 HF0 kE fE
          generalize w3.setCell ⟨zb, 2, none⟩ (.int .i64 3) = wE at hzE hfE ⊢
          have kE := hzE.cell 2
          simp [rc] at kE
          go_wp2_with fail
          go_ret
          refine ⟨?_, hf2.trans hfE⟩
          rw [HE.out]
          exact ⟨⟨_, rfl⟩, q1, by simpa [rc] using hzE⟩
        · rw [if_neg hlim] at hdd
          have HE := Lib.hid hdd
          have d3 : decide ((most : Int) ≤ (o.length : Int)) = false := by simp; omega
          have d4 : decide (most ≤ o.length) = false := by simp; omega
          have hsz3 : B ≤ w3.heap.size := Nat.le_of_lt (Nat.lt_of_le_of_lt hB hz3.lt)
          clear hdd
          go_wp2_with (at_builtin; refine wpList_app el_u8 hrow3 hsz3 rfl rfl rfl (m := 0) rfl (by simp [Value.oneCell']) rfl (by omega) (by unfold maxLen; omega) ?_)
          intro r2 cap2 w4 ho4 hg4 _
          have hne : some zb ≠ (Value.slice x3 o.length c3).ownBlock := own_blk_ne' hz3 hrow3.2 (by decide)
          have hz4 : Blk w4 zb 49 (rc s q1 0) := (hg4.block zb (by simp; exact Nat.lt_succ_of_lt hz3.lt) hne).trans (hz3.alloc _)
          have hrow4 := brow_more ho4 [UInt8.ofNat y] (by
            have : (UInt8.ofNat y).toNat = y := by rw [UInt8.toNat_ofNat']; omega
            simp [bcells, this]) rfl
          have hfr4 : FR B w2 w4 := (hfr3.alloc _).grown (World.ownsRow.alloc hrow3 _) (Nat.le_refl _) (by decide) hg4
          clear ho4 hg4 hz3 hrow3 hfr3 hsz3 k2 hne
          go_wp2_with fail
          go_roundg f
          case measure => have := HF.out; omega
          case rel => exact ⟨q1, _, hq1, by omega, by simp; omega, HE, hz4, hrow4, hfr4⟩
      rw [if_neg h256] at hdd
      have d2 : decide ((y : Int) < 256) = false := by simp; omega
      by_cases he : y = 256
      · subst he
        rw [if_pos rfl] at hdd
        have HE := Lib.hid hdd.symm
        clear hdd
        go_wp2_with fail
        go_ret
        refine ⟨?_, hf2.trans hfr3⟩
        rw [HE.out]
        exact ⟨⟨_, rfl, hrow3⟩, q1, hq1, rfl, hz3⟩
      rw [if_neg he] at hdd
      have d1 : ((y : Int) == 256) = false := beq_false_of_ne (by omega)
      by_cases hbig : 285 < y
      · rw [if_pos hbig] at hdd
        have HE : Hid (r0 = .error 4) := hdd.symm
        have d3 : decide ((285 : Int) < (y : Int)) = true := by simp; omega
        clear hdd
        have kE := hz3.cell 2
        have fE := hz3.frozen 2
        simp [rc] at kE
        have hz0 := hz3.put 2 (.int .i64 4)
        have hf0 := hfr3.put hz3 hB (by simp) 2 (.int .i64 4)
        have HZ0 := Lib.hid hz0
        have HF0 := Lib.hid hf0
        clear hz0 hf0
        go_upto_region 13 with fail
        have hzE := HZ0.out
        have hfE := HF0.out
        clear HZ0 HF0 kE fE
        generalize w3.setCell ⟨zb, 2, none⟩ (.int .i64 4) = wE at hzE hfE ⊢
        have kE := hzE.cell 2
        simp [rc] at kE
        go_wp2_with fail
        go_ret
        refine ⟨?_, hf2.trans hfE⟩
        rw [HE.out]
        exact ⟨⟨_, rfl⟩, q1, by simpa [rc] using hzE⟩
      rw [if_neg hbig] at hdd
      have d3 : decide ((285 : Int) < (y : Int)) = false := by simp; omega
      obtain ⟨hb1, hb2, hb3⟩ := lenB_small y (by omega) (by omega)
      have HLO := Lib.hid (fun w => lengthOf_any y w (by omega) (by omega))
      have hmt : matT dl most o y (bitsAt s q1) = match numT (bitsAt s q1) (lenB y).2 with
        | .error e => .error e
        | .ok (x, b1) => match symT dl b1 with
          | .error e => .error e
          | .ok (t, b2) => if 29 < t then .error 4 else match numT b2 (disB t).2 with
            | .error e => .error e
            | .ok (y', b3) => if o.length < (disB t).1 + y' then .error 4 else if most < o.length + ((lenB y).1 + x) then .error 3 else .ok (copyB o ((lenB y).1 + x) ((disB t).1 + y'), b3) := rfl
      have hmlen := fun o' b' => matT_len (dl := dl) (most := most) (out := o) (o := o') (s := y) (b := bitsAt s q1) (b' := b')
      have HML := Lib.hid hmlen
      unfold pairV at HLO
      generalize (lenB y).1 = lb at *
      generalize (lenB y).2 = lx at *
      have HMT := Lib.hid hmt
      have HDD := Lib.hid hdd
      clear hdd hmt hmlen
      go_wp2_with fail
      refine (HLO.out _).mono ?_
      rintro e w4 ⟨rfl, rfl⟩
      clear HLO k2
      go_wp2_with fail
      refine (refNumber_any s q1 lx zb _ hz3 hs hq1 (by omega)).mono ?_
      rintro e w4 ⟨hok, hf4⟩
      have hst := hok.sy hq1
      have hfr4 := hfr3.trans (fr_of hf4 hB)
      have hrow4 : BRow w4 B 5 (.slice x3 o.length c3) o := hf4.owns hrow3 (by decide)
      clear hok hf4 hrow3 hfr3 hz3
      cases hn2 : numT (bitsAt s q1) lx with
      | error k =>
        rw [hn2] at hst
        obtain ⟨rfl, p4, hp4, hz4⟩ := hst
        have HE : Hid (r0 = .error k) := by
          show _ = _
          have h1 := HMT.out
          rw [hn2] at h1
          rw [← HDD.out, h1]
        have hk := numT_err hn2
        have hk1 : ((k : Int) != 0) = true := by simp; omega
        have hk0 : ((k : Int) == 0) = false := beq_false_of_ne (by omega)
        have k2 := hz4.cell 2
        simp [rc] at k2
        clear hn2 HMT HDD HML
        go_wp2_with fail
        refine (refSymbol_bad s p4 k zb vd dc _ hz4 hk).mono ?_
        rintro e w5 ⟨rfl, rfl⟩
        go_wp2_with fail
        go_ret
        refine ⟨?_, hf2.trans hfr4⟩
        rw [HE.out]
        exact ⟨⟨_, rfl⟩, p4, hz4⟩
      | ok xb =>
        obtain ⟨x, b2⟩ := xb
        rw [hn2] at hst
        obtain ⟨rfl, q2, hq2, rfl, hz4⟩ := hst
        have hx := (numT_ok hn2).2.2.2
        have hx5 : x < 32 := Nat.lt_of_lt_of_le hx (by have : 2 ^ lx ≤ 2 ^ 5 := Nat.pow_le_pow_right (by omega) (by omega); simpa using this)
        have hmt := HMT.out
        rw [hn2] at hmt
        simp only at hmt
        have HMT2 := Lib.hid hmt
        have hd4 := hd2.fr hfr4 (by decide)
        have hdc4 := hdc.fr hfr4 (by decide)
        clear hn2 hx HMT hmt
        go_wp2_with fail
        refine (refSymbol_any s q2 zb vd dc dl _ hz4 hd4 hdc4 gd.b15 (by have := gd.len; omega) hs hq2).mono ?_
        rintro e w5 ⟨hst, hf5⟩
        have hfr5 := hfr4.trans (fr_of hf5 hB)
        have hrow5 : BRow w5 B 5 (.slice x3 o.length c3) o := hf5.owns hrow4 (by decide)
        have hmt := HMT2.out
        clear hf5 hrow4 hfr4 hz4 hd4 hdc4 HMT2
        cases hn3 : symT dl (bitsAt s q2) with
        | error k =>
          rw [hn3] at hst hmt
          obtain ⟨rfl, p5, hp5, hz5⟩ := hst
          have HE : Hid (r0 = .error k) := by show _ = _; rw [← HDD.out, hmt]
          have hk := symT_err hn3
          have hk1 : ((k : Int) != 0) = true := by simp; omega
          have hk0 : ((k : Int) == 0) = false := beq_false_of_ne (by omega)
          have k2 := hz5.cell 2
          simp [rc] at k2
          clear hn3 hmt HDD HML
          go_wp2_with fail
          go_ret
          refine ⟨?_, hf2.trans hfr5⟩
          rw [HE.out]
          exact ⟨⟨_, rfl⟩, p5, hz5⟩
        | ok tb =>
          obtain ⟨t, b3⟩ := tb
          rw [hn3] at hst hmt
          obtain ⟨rfl, q3, hq3, rfl, hz5⟩ := hst
          simp only at hmt
          have k2 := hz5.cell 2
          simp [rc] at k2
          clear hn3
          by_cases ht : 29 < t
          · rw [if_pos ht] at hmt
            have HE : Hid (r0 = .error 4) := by show _ = _; rw [← HDD.out, hmt]
            have d4 : decide ((29 : Int) < (t : Int)) = true := by simp; omega
            clear hmt HDD HML
            have kE := hz5.cell 2
            have fE := hz5.frozen 2
            simp [rc] at kE
            have hz0 := hz5.put 2 (.int .i64 4)
            have hf0 := hfr5.put hz5 hB (by simp) 2 (.int .i64 4)
            have HZ0 := Lib.hid hz0
            have HF0 := Lib.hid hf0
            clear hz0 hf0
            go_upto_region 19 with fail
            have hzE := HZ0.out
            have hfE := HF0.out
            clear HZ0 HF0 kE fE
            generalize w5.setCell ⟨zb, 2, none⟩ (.int .i64 4) = wE at hzE hfE ⊢
            have kE := hzE.cell 2
            simp [rc] at kE
            go_wp2_with fail
            go_ret
            refine ⟨?_, hf2.trans hfE⟩
            rw [HE.out]
            exact ⟨⟨_, rfl⟩, q3, by simpa [rc] using hzE⟩
          rw [if_neg ht] at hmt
          have d4 : decide ((29 : Int) < (t : Int)) = false := by simp; omega
          obtain ⟨hc1, hc2, hc3⟩ := disB_small t (by omega)
          have HDO := Lib.hid (fun w => distanceOf_any t w (by omega))
          unfold pairV at HDO
          generalize (disB t).1 = tb at *
          generalize (disB t).2 = tx at *
          have HMT3 := Lib.hid hmt
          clear hmt
          go_wp2_with fail
          refine (HDO.out _).mono ?_
          rintro e w6 ⟨rfl, rfl⟩
          clear HDO k2
          go_wp2_with fail
          refine (refNumber_any s q3 tx zb _ hz5 hs hq3 (by omega)).mono ?_
          rintro e w6 ⟨hok, hf6⟩
          have hst := hok.sy hq3
          have hfr6 := hfr5.trans (fr_of hf6 hB)
          have hrow6 : BRow w6 B 5 (.slice x3 o.length c3) o := hf6.owns hrow5 (by decide)
          have hmt := HMT3.out
          clear hok hf6 hrow5 hfr5 hz5 HMT3
          cases hn4 : numT (bitsAt s q3) tx with
          | error k =>
            rw [hn4] at hst hmt
            obtain ⟨rfl, p6, hp6, hz6⟩ := hst
            have HE : Hid (r0 = .error k) := by show _ = _; rw [← HDD.out, hmt]
            have hk := numT_err hn4
            have hk1 : ((k : Int) != 0) = true := by simp; omega
            have hk0 : ((k : Int) == 0) = false := beq_false_of_ne (by omega)
            have k2 := hz6.cell 2
            simp [rc] at k2
            clear hn4 hmt HDD HML
            go_wp2_with fail
            go_ret
            refine ⟨?_, hf2.trans hfr6⟩
            rw [HE.out]
            exact ⟨⟨_, rfl⟩, p6, hz6⟩
          | ok yb =>
            obtain ⟨z, b4⟩ := yb
            rw [hn4] at hst hmt
            obtain ⟨rfl, q4, hq4, rfl, hz6⟩ := hst
            have hzz := (numT_ok hn4).2.2.2
            have hz13 : z < 8192 := Nat.lt_of_lt_of_le hzz (by have : 2 ^ tx ≤ 2 ^ 13 := Nat.pow_le_pow_right (by omega) (by omega); simpa using this)
            simp only at hmt
            have k2 := hz6.cell 2
            simp [rc] at k2
            clear hn4 hzz
            by_cases hdist : o.length < tb + z
            · rw [if_pos hdist] at hmt
              have HE : Hid (r0 = .error 4) := by show _ = _; rw [← HDD.out, hmt]
              have d5 : decide ((o.length : Int) < (tb : Int) + (z : Int)) = true := by simp; omega
              clear hmt HDD HML
              have kE := hz6.cell 2
              have fE := hz6.frozen 2
              simp [rc] at kE
              have hz0 := hz6.put 2 (.int .i64 4)
              have hf0 := hfr6.put hz6 hB (by simp) 2 (.int .i64 4)
              have HZ0 := Lib.hid hz0
              have HF0 := Lib.hid hf0
              clear hz0 hf0
              go_upto_region 25 with fail
              have hzE := HZ0.out
              have hfE := HF0.out
              clear HZ0 HF0 kE fE
              generalize w6.setCell ⟨zb, 2, none⟩ (.int .i64 4) = wE at hzE hfE ⊢
              have kE := hzE.cell 2
              simp [rc] at kE
              go_wp2_with fail
              go_ret
              refine ⟨?_, hf2.trans hfE⟩
              rw [HE.out]
              exact ⟨⟨_, rfl⟩, q4, by simpa [rc] using hzE⟩
            rw [if_neg hdist] at hmt
            have d5 : decide ((o.length : Int) < (tb : Int) + (z : Int)) = false := by simp; omega
            by_cases hlim : most < o.length + (lb + x)
            · rw [if_pos hlim] at hmt
              have HE : Hid (r0 = .error 3) := by show _ = _; rw [← HDD.out, hmt]
              have d6 : decide ((most : Int) - (o.length : Int) < (lb : Int) + (x : Int)) = true := by simp; omega
              clear hmt HDD HML
              have kE := hz6.cell 2
              have fE := hz6.frozen 2
              simp [rc] at kE
              have hz0 := hz6.put 2 (.int .i64 3)
              have hf0 := hfr6.put hz6 hB (by simp) 2 (.int .i64 3)
              have HZ0 := Lib.hid hz0
              have HF0 := Lib.hid hf0
              clear hz0 hf0
              go_upto_region 27 with fail
              have hzE := HZ0.out
              have hfE := HF0.out
              clear HZ0 HF0 kE fE
              generalize w6.setCell ⟨zb, 2, none⟩ (.int .i64 3) = wE at hzE hfE ⊢
              have kE := hzE.cell 2
              simp [rc] at kE
              go_wp2_with fail
              go_ret
              refine ⟨?_, hf2.trans hfE⟩
              rw [HE.out]
              exact ⟨⟨_, rfl⟩, q4, by simpa [rc] using hzE⟩
            rw [if_neg hlim] at hmt
            have d6 : decide ((most : Int) - (o.length : Int) < (lb : Int) + (x : Int)) = false := by simp; omega
            have hmm := HML.out _ _ hmt
            rw [bitsAt_length, bitsAt_length] at hmm
            have HE : Hid (datGo ll dl most f (copyB o (lb + x) (tb + z)) (bitsAt s q4) = r0) := by show _ = _; rw [← HDD.out, hmt]
            have HMM := Lib.hid hmm
            clear hmt HDD HML hmm
            go_wp2_with fail
            clear d5 d6 k2
            have hsz6 : B ≤ w6.heap.size := Nat.le_of_lt (Nat.lt_of_le_of_lt hB hz6.lt)
            have HD1 : Hid (1 ≤ tb + z) := by show 1 ≤ _; omega
            go_loopw [1, 20] (fun va vi ws => ∃ (j : Nat) (acc : List UInt8), vi = .int .i64 j ∧ j ≤ lb + x ∧ acc.length = o.length + j ∧ Hid (copyB acc (lb + x - j) (tb + z) = copyB o (lb + x) (tb + z)) ∧ Blk ws zb 49 (rc s q4 0) ∧ BRow ws B 5 va acc ∧ FR B w2 ws ∧ B ≤ ws.heap.size) (fun _ vi _ => lb + x - (intOf vi).toNat)
            case atStart => exact ⟨0, o, rfl, Nat.zero_le _, rfl, rfl, hz6, hrow6, hfr6, hsz6⟩
            case round =>
              clear hz6 hrow6 hfr6 hsz6
              obtain ⟨j, acc, rfl, hj, hal, hcp, hzr, hrow, hfr, hszr⟩ := hrel
              obtain ⟨xa, ca, rfl⟩ := row_shape hrow
              by_cases hjl : j < lb + x
              · have hd : decide ((j : Int) < (lb : Int) + (x : Int)) = true := by simp; omega
                obtain ⟨A, hA⟩ : ∃ A, A = acc.length := ⟨_, rfl⟩
                have hdl : tb + z ≤ A := by omega
                obtain ⟨qq, hqq⟩ : ∃ q, q = A - (tb + z) := ⟨_, rfl⟩
                have hqA : qq < A := by have := HD1.out; omega
                obtain ⟨g, cap, hv, -⟩ : ∃ g cap, Value.slice xa acc.length ca = .slice (some ⟨g, 0, none⟩) acc.length cap ∧ True := by
                  rcases hrow.2 with ⟨hn, h0⟩ | ⟨g, cap, cur, hv, _⟩
                  · omega
                  · exact ⟨g, cap, hv, trivial⟩
                cases hv
                have hcell : wr.cell? ⟨g, qq, none⟩ = some (.int .u8 ((acc.getD qq 0).toNat : Int)) := by
                  have hql : qq < acc.length := by omega
                  have := World.ownsRow.cells hrow (g := g) rfl qq _ (bcells_get acc qq hql)
                  rw [Addr.add_lit, Nat.zero_add] at this
                  rw [this]
                  simp [List.getD, hql]
                have HCP : Hid (copyB (acc ++ [acc.getD qq 0]) (lb + x - (j + 1)) (tb + z) = copyB o (lb + x) (tb + z)) := by
                  show _ = _
                  rw [← hcp.out, show lb + x - j = (lb + x - (j + 1)) + 1 from by omega]
                  rw [copyB, hqq, hA]
                generalize acc.getD qq 0 = cb at *
                have hcb := cb.toNat_lt
                have hz1 : IntKind.i64.wrap ((A : Int) - ((tb : Int) + (z : Int))) = (qq : Int) := by rw [IntKind.wrap_i64]; omega
                have hz2 : (0 : Int) ≤ (qq : Int) := by omega
                have hz3 : (qq : Int) < (A : Int) := by omega
                have hown : wr.ownsRow B 5 1 (.slice (some ⟨g, 0, none⟩) A ca) A (bcells acc) := by rw [hA]; exact hrow
                have hA2 : A ≤ 1048576 := by omega
                have HAL := Lib.hid hal
                have HA := Lib.hid hA
                have hne : some zb ≠ (Value.slice (some ⟨g, 0, none⟩) A ca).ownBlock := by rw [hA]; exact own_blk_ne' hzr hrow.2 (by decide)
                rw [← hA]
                clear hal hA hqq hrow hcp
                go_wp2_with (at_builtin; refine wpList_app el_u8 hown hszr rfl rfl rfl (m := 0) rfl (by simp [Value.oneCell']) rfl (by omega) (by unfold maxLen; omega) ?_)
                intro r2 cap2 w7 ho7 hg7 _
                have hz7 : Blk w7 zb 49 (rc s q4 0) := (hg7.block zb (by simp; exact Nat.lt_succ_of_lt hzr.lt) hne).trans (hzr.alloc _)
                have hrow7 := brow_more ho7 [cb] (by simp [bcells]) (by have := HA.out; simp; omega)
                have hfr7 : FR B w2 w7 := (hfr.alloc _).grown (World.ownsRow.alloc hown _) (Nat.le_refl _) (by decide) hg7
                have hsz7 : B ≤ w7.heap.size := by have := hg7.size; simp at this; omega
                clear ho7 hg7 hzr hfr hszr hown hne hcell hz1 hz2 hz3
                go_wp2_with fail
                exact ⟨⟨j + 1, acc ++ [cb], by go_num, by omega, by have h1 := HA.out; have h2 := HAL.out; simp; omega, HCP, hz7, hrow7, hfr7, hsz7⟩, by simp [intOf]; omega⟩
              · have hd : decide ((j : Int) < (lb : Int) + (x : Int)) = false := by simp; omega
                obtain rfl : j = lb + x := by omega
                have HC : Hid (acc = copyB o (lb + x) (tb + z)) := by have := hcp.out; rwa [Nat.sub_self] at this
                have HEE : Hid (datGo ll dl most f acc (bitsAt s q4) = r0) := by show _ = _; rw [HC.out]; exact HE.out
                have hmm := HMM.out
                rw [← HC.out] at hmm
                clear hcp
                go_wp2_with fail
                go_roundg f
                case measure => have := HF.out; omega
                case rel => exact ⟨q4, acc, hq4, by omega, hmm.2, HEE, hzr, hrow, hfr⟩
end Go.Proofs.Ytkbelkdephfhpaa
