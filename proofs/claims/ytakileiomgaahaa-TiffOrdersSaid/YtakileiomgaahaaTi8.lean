/-
  The reference of tiff: run, PackBits.
-/
import Derived.Test.YtakileiomgaahaaTi7
namespace Go.Proofs.Ytakileiomgaahaa
open Go.RowKit

set_option maxHeartbeats 4000000 in
set_option maxRecDepth 100000 in
theorem rrun_any (s : ByteArray) (a : Nat) (w : World) (hs : s.size ≤ 1000000000000000) (ha : a < s.size) : Calls Try.prog 34 #[.string s, .int .i64 a] w fun e w' => e = .returned (.int .i64 (runP (s.data.toList.drop a) : Nat)) ∧ ∃ n, w' = w.drewN n := by
  obtain ⟨l, hl⟩ : ∃ l, l = s.data.toList.drop a := ⟨_, rfl⟩
  have hll : l.length = s.size - a := by rw [hl, List.length_drop, ba_size]
  have HGET : Hid (∀ k (hk : a + k < s.size), l.getD k 0 = s[a + k]) := by
    intro k hk
    have h1 : s.data.toList[a + k]'(by rw [ba_size]; exact hk) = s[a + k] := by rw [Array.getElem_toList]; rfl
    rw [← h1, List.getD_eq_getElem?_getD, List.getElem?_eq_getElem (by omega)]
    simp only [hl, List.getElem_drop, Option.getD_some]
  rw [← hl]
  have HR := Lib.hid (runP_eq l)
  have HLL := Lib.hid hll
  clear hl hll
  have hg0 : l.getD 0 0 = s[a] := HGET.out 0 (by omega)
  have HG0 := Lib.hid hg0
  clear hg0
  go_enter Try.func34, Try.ntmps34
  go_wp2_with fail
  go_loopw [5] (fun vk wr => ∃ k m : Nat, vk = .int .i64 k ∧ a + k ≤ s.size ∧ k ≤ 128 ∧ Hid (∀ i (_ : i < k) (hi : i < l.length), l[i] = l.getD 0 0) ∧ wr = w.drewN m) (fun vk _ => 200 - (intOf vk).toNat)
  case atStart => exact ⟨0, 0, rfl, by omega, Nat.zero_le _, fun i hi => absurd hi (by omega), rfl⟩
  case round =>
    obtain ⟨k, m, rfl, hk, hk2, heq, rfl⟩ := hrel
    have HDW : Hid (∀ j, ∃ n, (w.drewN m).drewN j = w.drewN n) := fun j => ⟨m + j, by simp⟩
    generalize hwm : w.drewN m = wm at *
    clear hwm
    obtain ⟨p, hp⟩ : ∃ p, p = a + k := ⟨_, rfl⟩
    have hpi : (a : Int) + (k : Int) = (p : Int) := by omega
    have hai : (a : Int) < (s.size : Int) := by omega
    have ha0 : (0 : Int) ≤ (a : Int) := by omega
    by_cases hl1 : p < s.size
    · by_cases hl2 : k < 128
      · have d1 : decide ((p : Int) < (s.size : Int)) = true := by simp; omega
        have d2 : decide ((k : Int) < 128) = true := by simp; omega
        have hgk : l[k]'(by have := HLL.out; omega) = s[p] := by
          have h1 := HGET.out k (by omega)
          rw [List.getD_eq_getElem?_getD, List.getElem?_eq_getElem (by have := HLL.out; omega)] at h1
          simp only [Option.getD_some] at h1
          rw [h1]; subst hp; rfl
        have HP := Lib.hid hp
        by_cases he : s[p] = s[a]
        · have ee : (((s[p]).toNat : Int) == ((s[a]).toNat : Int)) = true := by rw [he]; simp
          have HEQ : Hid (∀ i (_ : i < k + 1) (hi : i < l.length), l[i] = l.getD 0 0) := by
            intro i hi hil
            by_cases hik : i = k
            · subst hik; rw [hgk, he, HG0.out]
            · exact heq.out i (by omega) hil
          have hkp : a + (k + 1) ≤ s.size := by omega
          clear he hgk heq hp
          go_wp2_with fail
          go_quiet (fail)
          obtain ⟨n3, hn3⟩ := HDW.out nq
          have HN3 := Lib.hid hn3
          clear hn3
          generalize wm.drewN nq = w3 at *
          go_wp2_with fail
          refine ⟨⟨k + 1, n3, by go_num, hkp, by omega, HEQ.out, HN3.out⟩, by simp [intOf]; omega⟩
        · have ee : (((s[p]).toNat : Int) == ((s[a]).toNat : Int)) = false := by
            rw [beq_eq_false_iff_ne]
            intro h
            exact he (UInt8.toNat_inj.1 (Int.ofNat.inj h))
          have HRES : Hid (runP l = k) := by
            show _ = _
            rw [HR.out, HG0.out]
            have h1 := tw_all_take (· == s[a]) l k (fun i hi hil => by have := heq.out i hi hil; rw [HG0.out] at this; simpa using this) (by have := HLL.out; omega)
            have h2 := tw_stop (· == s[a]) l k (by have := HLL.out; omega) (by rw [hgk]; simpa using he)
            omega
          clear he hgk heq hp
          go_wp2_with fail
          go_quiet (fail)
          obtain ⟨n3, hn3⟩ := HDW.out nq
          have HN3 := Lib.hid hn3
          clear hn3
          generalize wm.drewN nq = w3 at *
          go_wp2_with fail
          go_ret
          exact ⟨by rw [HRES.out]; rfl, n3, HN3.out⟩
      · have d1 : decide ((p : Int) < (s.size : Int)) = true := by simp; omega
        have d2 : decide ((k : Int) < 128) = false := by simp; omega
        have HRES : Hid (runP l = k) := by
          show _ = _
          rw [HR.out]
          have h1 := tw_all_take (· == l.getD 0 0) l k (fun i hi hil => by have := heq.out i hi hil; simpa using this) (by have := HLL.out; omega)
          omega
        clear heq hp
        go_wp2_with fail
        go_quiet (fail)
        obtain ⟨n3, hn3⟩ := HDW.out nq
        have HN3 := Lib.hid hn3
        clear hn3
        generalize wm.drewN nq = w3 at *
        go_wp2_with fail
        go_ret
        exact ⟨by rw [HRES.out]; rfl, n3, HN3.out⟩
    · have d1 : decide ((p : Int) < (s.size : Int)) = false := by simp; omega
      have HRES : Hid (runP l = k) := by
        show _ = _
        rw [HR.out]
        have h1 := tw_all_take (· == l.getD 0 0) l k (fun i hi hil => by have := heq.out i hi hil; simpa using this) (by have := HLL.out; omega)
        have h2 : (l.takeWhile (· == l.getD 0 0)).length ≤ l.length := (List.takeWhile_sublist _).length_le
        have h3 := HLL.out
        omega
      clear heq hp
      go_wp2_with fail
      go_quiet (fail)
      obtain ⟨n3, hn3⟩ := HDW.out nq
      have HN3 := Lib.hid hn3
      clear hn3
      generalize wm.drewN nq = w3 at *
      go_wp2_with fail
      go_ret
      exact ⟨by rw [HRES.out]; rfl, n3, HN3.out⟩

set_option maxHeartbeats 4000000 in
set_option maxRecDepth 100000 in
theorem rpackBits_any (s : ByteArray) (w : World) (hs : s.size ≤ 140737488355328) : Calls Try.prog 13 #[.string s] w fun e w' => e = .returned (.string ⟨(packP s.data.toList).toArray⟩) ∧ Below w.heap.size w w' := by
  have HRUN := Lib.hid (fun a w h => rrun_any s a w (by omega) h)
  have HLT := Lib.hid (packP_bnd s hs)
  have HBE := Lib.hid (Below.refl w.heap.size w)
  generalize hB : w.heap.size = B at *
  have HB := Lib.hid hB
  clear hB
  have HO0 : Hid (BRow w B 5 (.slice none 0 0) []) := ⟨rfl, .inl ⟨rfl, rfl⟩⟩
  go_enter Try.func13, Try.ntmps13
  go_wp2_with fail
  go_loopw [3, 4] (fun vo va wr => ∃ (a : Nat) (out : List UInt8), va = .int .i64 a ∧ a ≤ s.size ∧ BRow wr B 5 vo out ∧ Hid (out ++ packP (s.data.toList.drop a) = packP s.data.toList) ∧ out.length ≤ 141836999983104 ∧ Hid (Below B w wr) ∧ B ≤ wr.heap.size) (fun _ va _ => s.size - (intOf va).toNat)
  case atStart => exact ⟨0, [], rfl, Nat.zero_le _, HO0.out, rfl, by simp, HBE.out, by rw [← HB.out]; exact Nat.le_refl _⟩
  case round =>
    obtain ⟨a, out, rfl, ha, hrow, hpk, hsz, hbw, hszr⟩ := hrel
    obtain ⟨l, hl⟩ : ∃ l, s.data.toList.drop a = l := ⟨_, rfl⟩
    have hll : l.length = s.size - a := by rw [← hl, List.length_drop, ba_size]
    have HLL := Lib.hid hll
    have HL := Lib.hid hl
    rw [hl] at hpk
    obtain ⟨xo, co, rfl⟩ := brow_shape hrow
    by_cases hlt : a < s.size
    · have dlt : decide ((a : Int) < (s.size : Int)) = true := by simp; omega
      have hne : l ≠ [] := by rintro rfl; simp at hll; omega
      have HR1 := Lib.hid (HRUN.out a wr hlt)
      rw [hl] at HR1
      obtain ⟨n, hn⟩ : ∃ n, runP l = n := ⟨_, rfl⟩
      have hn1 := runP_le l
      have hn2 : 1 ≤ runP l := by
        cases l with
        | nil => exact absurd rfl hne
        | cons b t => exact runP_pos b t
      rw [hn] at HR1 hn1 hn2
      obtain ⟨hn3, hn4⟩ := hn1
      have HN := Lib.hid hn
      have HNE := Lib.hid hne
      have hg0 : l.getD 0 0 = s[a] := by
        have h1 : s.data.toList[a]'(by rw [ba_size]; exact hlt) = s[a] := by rw [Array.getElem_toList]; rfl
        rw [← h1, List.getD_eq_getElem?_getD, List.getElem?_eq_getElem (by omega)]
        simp only [← hl, List.getElem_drop, Option.getD_some]
        rfl
      obtain ⟨b0, hb0⟩ : ∃ b0, s[a] = b0 := ⟨_, rfl⟩
      rw [hb0] at hg0
      have HG0 := Lib.hid hg0
      rw [hll] at hn3
      clear hn hne hg0 hl hll
      go_wp2_with fail
      refine HR1.out.mono ?_
      rintro e w1 ⟨rfl, n1, hw1⟩
      have hb1 : Below wr.heap.size wr w1 := by rw [hw1]; exact below_drewN (Below.refl _ _) n1
      have hrow1 : BRow w1 B 5 (.slice xo out.length co) out := (Fr.of_below (B := 0) hb1 []).owns hrow (by simp)
      have hbw1 : Hid (Below B w w1) := hbw.out.trans (hb1.mono hszr)
      have hsz1 : B ≤ w1.heap.size := Nat.le_trans hszr hb1.size
      clear hw1 hb1 hrow hbw hszr HR1
      by_cases h2 : 2 ≤ n
      · have d2 : decide ((2 : Int) ≤ (n : Int)) = true := by simp; omega
        have HPK : Hid (out ++ packP l = (out ++ [UInt8.ofNat (257 - n), b0]) ++ packP (l.drop n)) := by
          show _ = _
          rw [packP_run HNE.out (by rw [HN.out]; exact h2), HN.out, HG0.out]; simp
        obtain ⟨a2, ha2⟩ : ∃ a2, a2 = a + n := ⟨_, rfl⟩
        have ha2i : (a : Int) + (n : Int) = (a2 : Int) := by omega
        have ha2s : a2 ≤ s.size := by omega
        have haa : a < a2 := by omega
        have HX : Hid (s.data.toList.drop a2 = l.drop n) := by show _ = _; rw [← HL.out, List.drop_drop, ha2]
        obtain ⟨q, hq⟩ : ∃ q : Nat, q = 257 - n := ⟨_, rfl⟩
        have hqn : (257 : Int) - (n : Int) = (q : Int) := by omega
        have hq8 : q ≤ 255 := by omega
        have hai : (a : Int) < (s.size : Int) := by omega
        rw [← hq] at HPK
        have hol2 : (out ++ [UInt8.ofNat q, b0]).length ≤ 141836999983104 := HLT.out _ (packP (l.drop n)) (by rw [← HPK.out]; exact hpk.out)
        have hol3 : out.length + 2 ≤ 141836999983104 := by rw [List.length_append] at hol2; exact hol2
        have HOL2 := Lib.hid hol2
        clear hq ha2 hol2
        go_upto_region 6 with fail
        go_wp2_with (at_builtin; refine wpList_appW el_u8 hrow1 hsz1 rfl rfl rfl (m := 1) rfl (by simp [Value.oneCell']) rfl (by omega) (by unfold maxLen; omega) ?_)
        intro r2 cap2 w4 ho2 hg2
        have hown2 := brow_more ho2 [UInt8.ofNat q, b0] (by simp only [bcells, List.map_cons, List.map_nil]; rw [bcell_ofNat q (by omega)]) rfl
        obtain ⟨hbel2, hsz2⟩ := below_app hbw1.out hsz1 hrow1 hg2
        have HO2 := Lib.hid hown2
        have HPK2 : Hid ((out ++ [UInt8.ofNat q, b0]) ++ packP (s.data.toList.drop a2) = packP s.data.toList) := by show _ = _; rw [HX.out, ← HPK.out]; exact hpk.out
        clear ho2 hg2 hrow1 hown2 hpk HPK hb0
        go_wp2_with fail
        go_roundw
        case rel => exact ⟨a2, _, rfl, ha2s, HO2.out, HPK2.out, HOL2.out, hbel2, hsz2⟩
        case measure => simp [intOf]; omega
      · have d2 : decide ((2 : Int) ≤ (n : Int)) = false := by simp; omega
        have HPK : Hid (out ++ packP l = ((out ++ [UInt8.ofNat (litN l - 1)]) ++ l.take (litN l)) ++ packP (l.drop (litN l))) := by
          show _ = _
          rw [packP_lit HNE.out (by rw [HN.out]; exact h2)]; simp
        clear h2 hb0 hn2 hn3 hn4
        go_upto_region 9 with fail
        go_loopw [6] (fun vt wq => ∃ m t : Nat, vt = .int .i64 t ∧ Hid (t = a + m) ∧ 1 ≤ m ∧ m ≤ s.size - a ∧ m ≤ 128 ∧ Hid (litN l = litF (129 - m) l m) ∧ BRow wq B 5 (.slice xo out.length co) out ∧ Hid (Below B w wq) ∧ B ≤ wq.heap.size) (fun vt _ => 200 + s.size - (intOf vt).toNat)
        case atStart => exact ⟨1, a + 1, by go_num, rfl, Nat.le_refl _, by omega, by omega, rfl, hrow1, hbw1.out, hsz1⟩
        case round =>
          obtain ⟨m, t, rfl, HT0, hm1, hm2, hm3, hlit, hrowq, hbq, hszq⟩ := hrel
          have htm : (t : Int) - (a : Int) = (m : Int) := by have := HT0.out; omega
          by_cases hlt1 : t < s.size
          · have dlt1 : decide ((t : Int) < (s.size : Int)) = true := by simp; omega
            by_cases hlt2 : m < 128
            · have dlt2 : decide ((m : Int) < 128) = true := by simp; omega
              have HR2 := Lib.hid (HRUN.out t wr hlt1)
              have HX : Hid (s.data.toList.drop t = l.drop m) := by show _ = _; rw [← HL.out, List.drop_drop, HT0.out]
              rw [HX.out] at HR2
              obtain ⟨u, hu⟩ : ∃ u, runP (l.drop m) = u := ⟨_, rfl⟩
              rw [hu] at HR2
              have HU := Lib.hid hu
              have hml : m < s.size - a := by have := HT0.out; omega
              clear hu HX
              go_wp2_with fail
              refine HR2.out.mono ?_
              rintro e w2 ⟨rfl, n2, hw2⟩
              have hb2 : Below wr.heap.size wr w2 := by rw [hw2]; exact below_drewN (Below.refl _ _) n2
              have hrow2 : BRow w2 B 5 (.slice xo out.length co) out := (Fr.of_below (B := 0) hb2 []).owns hrowq (by simp)
              have hbw2 : Hid (Below B w w2) := hbq.out.trans (hb2.mono hszq)
              have hsz2 : B ≤ w2.heap.size := Nat.le_trans hszq hb2.size
              clear hw2 hb2 HR2 hrowq hbq hszq
              by_cases h3 : u < 3
              · have d3 : decide ((u : Int) < 3) = true := by simp; omega
                have HLT : Hid (litN l = litF (129 - (m + 1)) l (m + 1)) := by
                  show _ = _
                  rw [hlit.out, show 129 - m = (128 - m) + 1 by omega, litF, if_pos ⟨by have := HLL.out; omega, hlt2, by rw [HU.out]; exact h3⟩, show 129 - (m + 1) = 128 - m by omega]
                have HT1 : Hid (t + 1 = a + (m + 1)) := by have := HT0.out; show _ = _; omega
                clear hlit h3
                go_wp2_with fail
                go_roundw
                case rel => exact ⟨m + 1, t + 1, by go_num, HT1.out, by omega, by omega, by omega, HLT.out, hrow2, hbw2.out, hsz2⟩
                case measure => simp [intOf]; omega
              · have d3 : decide ((u : Int) < 3) = false := by simp; omega
                have HLM : Hid (litN l = m) := by
                  show _ = _
                  rw [hlit.out, show 129 - m = (128 - m) + 1 by omega, litF, if_neg (by rw [HU.out]; rintro ⟨_, _, h⟩; exact h3 h)]
                have HPK3 : Hid (out ++ packP l = ((out ++ [UInt8.ofNat (m - 1)]) ++ l.take m) ++ packP (l.drop m)) := by show _ = _; rw [HPK.out, HLM.out]
                have HX0 : Hid ((s.extract a t).data.toList = l.take m ∧ (s.extract a t).size = m) := by
                  refine ⟨?_, by rw [ByteArray.size_extract]; have := HT0.out; omega⟩
                  rw [extract_list, ← HL.out, HT0.out, List.drop_take]
                  congr 1; omega
                have HXm : Hid (s.data.toList.drop t = l.drop m) := by show _ = _; rw [← HL.out, List.drop_drop, HT0.out]
                obtain ⟨q, hq⟩ : ∃ q : Nat, q = m - 1 := ⟨_, rfl⟩
                have hqm : (m : Int) - 1 = (q : Int) := by omega
                have hq8 : q ≤ 127 := by omega
                rw [← hq] at HPK3
                have hts : t ≤ s.size := by have := HT0.out; have := HLL.out; omega
                have hat : a ≤ t := by have := HT0.out; omega
                have hati : (a : Int) ≤ (t : Int) := by omega
                have htsi : (t : Int) ≤ (s.size : Int) := by omega
                have hmt : t = a + m := HT0.out
                have HSZ2 : Hid ((out ++ [UInt8.ofNat q] ++ l.take m).length ≤ 141836999983104) := HLT.out _ (packP (l.drop m)) (by rw [← HPK3.out]; exact hpk.out)
                have hol3 : out.length + 1 + m ≤ 141836999983104 := by have h := HSZ2.out; rw [List.length_append, List.length_append, List.length_take, Nat.min_eq_left (by have := HLL.out; omega)] at h; exact h
                clear hq HLM hlit hmt
                go_upto_region 11 with fail
                go_wp2_with (at_builtin; refine wpList_appW el_u8 hrow2 hsz2 rfl rfl rfl (m := 0) rfl (by simp [Value.oneCell']) rfl (by omega) (by unfold maxLen; omega) ?_)
                intro r3 cap3 w4 ho3 hg3
                have hown3 := brow_more ho3 [UInt8.ofNat q] (by rw [← one_cell q (by omega)]) rfl
                obtain ⟨hbel3, hsz3⟩ := below_app hbw2.out hsz2 hrow2 hg3
                clear ho3 hg3
                have hx0 := HX0.out.2
                have hl1 : (out ++ [UInt8.ofNat q]).length = out.length + 1 := by simp
                go_upto_region 12 with fail
                go_wp2_with (at_builtin; refine wpList_app_strW (s := s.extract a t) el_u8 Try.underlying9 hown3 hsz3 rfl rfl rfl rfl (by omega) (by omega) ?_)
                intro v5 w5 hrow5 hg5
                obtain ⟨hbel5, hsz5⟩ := below_app' hbel3 hsz3 hown3 hg5
                have HO5 : Hid (BRow w5 B 5 v5 ((out ++ [UInt8.ofNat q]) ++ l.take m)) := by
                  show BRow _ _ _ _ _
                  rw [← HX0.out.1]; simpa using hrow5
                have HPK2 : Hid (((out ++ [UInt8.ofNat q]) ++ l.take m) ++ packP (s.data.toList.drop t) = packP s.data.toList) := by show _ = _; rw [HXm.out, ← HPK3.out]; exact hpk.out
                clear hrow5 hg5 hown3 hbel3
                go_wp2_with fail
                go_roundw
                case rel => exact ⟨t, _, rfl, hts, HO5.out, HPK2.out, HSZ2.out, hbel5, hsz5⟩
                case measure => simp [intOf]; omega
            · have dlt2 : decide ((m : Int) < 128) = false := by simp; omega
              have HLM : Hid (litN l = m) := by
                show _ = _
                rw [hlit.out, show 129 - m = (128 - m) + 1 by omega, litF, if_neg (by rintro ⟨_, h, _⟩; exact hlt2 h)]
              have HPK3 : Hid (out ++ packP l = ((out ++ [UInt8.ofNat (m - 1)]) ++ l.take m) ++ packP (l.drop m)) := by show _ = _; rw [HPK.out, HLM.out]
              have HX0 : Hid ((s.extract a t).data.toList = l.take m ∧ (s.extract a t).size = m) := by
                refine ⟨?_, by rw [ByteArray.size_extract]; have := HT0.out; omega⟩
                rw [extract_list, ← HL.out, HT0.out, List.drop_take]
                congr 1; omega
              have HXm : Hid (s.data.toList.drop t = l.drop m) := by show _ = _; rw [← HL.out, List.drop_drop, HT0.out]
              obtain ⟨q, hq⟩ : ∃ q : Nat, q = m - 1 := ⟨_, rfl⟩
              have hqm : (m : Int) - 1 = (q : Int) := by omega
              have hq8 : q ≤ 127 := by omega
              rw [← hq] at HPK3
              have hts : t ≤ s.size := by have := HT0.out; have := HLL.out; omega
              have hat : a ≤ t := by have := HT0.out; omega
              have hati : (a : Int) ≤ (t : Int) := by omega
              have htsi : (t : Int) ≤ (s.size : Int) := by omega
              have hmt : t = a + m := HT0.out
              have HSZ2 : Hid ((out ++ [UInt8.ofNat q] ++ l.take m).length ≤ 141836999983104) := HLT.out _ (packP (l.drop m)) (by rw [← HPK3.out]; exact hpk.out)
              have hol3 : out.length + 1 + m ≤ 141836999983104 := by have h := HSZ2.out; rw [List.length_append, List.length_append, List.length_take, Nat.min_eq_left (by have := HLL.out; omega)] at h; exact h
              clear hq HLM hlit hmt
              go_upto_region 11 with fail
              go_wp2_with (at_builtin; refine wpList_appW el_u8 hrowq hszq rfl rfl rfl (m := 0) rfl (by simp [Value.oneCell']) rfl (by omega) (by unfold maxLen; omega) ?_)
              intro r3 cap3 w4 ho3 hg3
              have hown3 := brow_more ho3 [UInt8.ofNat q] (by rw [← one_cell q (by omega)]) rfl
              obtain ⟨hbel3, hsz3⟩ := below_app hbq.out hszq hrowq hg3
              clear ho3 hg3
              have hx0 := HX0.out.2
              have hl1 : (out ++ [UInt8.ofNat q]).length = out.length + 1 := by simp
              go_upto_region 12 with fail
              go_wp2_with (at_builtin; refine wpList_app_strW (s := s.extract a t) el_u8 Try.underlying9 hown3 hsz3 rfl rfl rfl rfl (by omega) (by omega) ?_)
              intro v5 w5 hrow5 hg5
              obtain ⟨hbel5, hsz5⟩ := below_app' hbel3 hsz3 hown3 hg5
              have HO5 : Hid (BRow w5 B 5 v5 ((out ++ [UInt8.ofNat q]) ++ l.take m)) := by
                show BRow _ _ _ _ _
                rw [← HX0.out.1]; simpa using hrow5
              have HPK2 : Hid (((out ++ [UInt8.ofNat q]) ++ l.take m) ++ packP (s.data.toList.drop t) = packP s.data.toList) := by show _ = _; rw [HXm.out, ← HPK3.out]; exact hpk.out
              clear hrow5 hg5 hown3 hbel3
              go_wp2_with fail
              go_roundw
              case rel => exact ⟨t, _, rfl, hts, HO5.out, HPK2.out, HSZ2.out, hbel5, hsz5⟩
              case measure => simp [intOf]; omega
          · have dlt1 : decide ((t : Int) < (s.size : Int)) = false := by simp; omega
            have HLM : Hid (litN l = m) := by
              show _ = _
              rw [hlit.out, show 129 - m = (128 - m) + 1 by omega, litF, if_neg (by rintro ⟨h, _, _⟩; have := HLL.out; have := HT0.out; omega)]
            have HPK3 : Hid (out ++ packP l = ((out ++ [UInt8.ofNat (m - 1)]) ++ l.take m) ++ packP (l.drop m)) := by show _ = _; rw [HPK.out, HLM.out]
            have HX0 : Hid ((s.extract a t).data.toList = l.take m ∧ (s.extract a t).size = m) := by
              refine ⟨?_, by rw [ByteArray.size_extract]; have := HT0.out; omega⟩
              rw [extract_list, ← HL.out, HT0.out, List.drop_take]
              congr 1; omega
            have HXm : Hid (s.data.toList.drop t = l.drop m) := by show _ = _; rw [← HL.out, List.drop_drop, HT0.out]
            obtain ⟨q, hq⟩ : ∃ q : Nat, q = m - 1 := ⟨_, rfl⟩
            have hqm : (m : Int) - 1 = (q : Int) := by omega
            have hq8 : q ≤ 127 := by omega
            rw [← hq] at HPK3
            have hts : t ≤ s.size := by have := HT0.out; have := HLL.out; omega
            have hat : a ≤ t := by have := HT0.out; omega
            have hati : (a : Int) ≤ (t : Int) := by omega
            have htsi : (t : Int) ≤ (s.size : Int) := by omega
            have hmt : t = a + m := HT0.out
            have HSZ2 : Hid ((out ++ [UInt8.ofNat q] ++ l.take m).length ≤ 141836999983104) := HLT.out _ (packP (l.drop m)) (by rw [← HPK3.out]; exact hpk.out)
            have hol3 : out.length + 1 + m ≤ 141836999983104 := by have h := HSZ2.out; rw [List.length_append, List.length_append, List.length_take, Nat.min_eq_left (by have := HLL.out; omega)] at h; exact h
            clear hq HLM hlit hmt
            go_upto_region 11 with fail
            go_wp2_with (at_builtin; refine wpList_appW el_u8 hrowq hszq rfl rfl rfl (m := 0) rfl (by simp [Value.oneCell']) rfl (by omega) (by unfold maxLen; omega) ?_)
            intro r3 cap3 w4 ho3 hg3
            have hown3 := brow_more ho3 [UInt8.ofNat q] (by rw [← one_cell q (by omega)]) rfl
            obtain ⟨hbel3, hsz3⟩ := below_app hbq.out hszq hrowq hg3
            clear ho3 hg3
            have hx0 := HX0.out.2
            have hl1 : (out ++ [UInt8.ofNat q]).length = out.length + 1 := by simp
            go_upto_region 12 with fail
            go_wp2_with (at_builtin; refine wpList_app_strW (s := s.extract a t) el_u8 Try.underlying9 hown3 hsz3 rfl rfl rfl rfl (by omega) (by omega) ?_)
            intro v5 w5 hrow5 hg5
            obtain ⟨hbel5, hsz5⟩ := below_app' hbel3 hsz3 hown3 hg5
            have HO5 : Hid (BRow w5 B 5 v5 ((out ++ [UInt8.ofNat q]) ++ l.take m)) := by
              show BRow _ _ _ _ _
              rw [← HX0.out.1]; simpa using hrow5
            have HPK2 : Hid (((out ++ [UInt8.ofNat q]) ++ l.take m) ++ packP (s.data.toList.drop t) = packP s.data.toList) := by show _ = _; rw [HXm.out, ← HPK3.out]; exact hpk.out
            clear hrow5 hg5 hown3 hbel3
            go_wp2_with fail
            go_roundw
            case rel => exact ⟨t, _, rfl, hts, HO5.out, HPK2.out, HSZ2.out, hbel5, hsz5⟩
            case measure => simp [intOf]; omega
    · have dlt : decide ((a : Int) < (s.size : Int)) = false := by simp; omega
      have hln : l = [] := List.eq_nil_of_length_eq_zero (by omega)
      have HF : Hid (packP s.data.toList = out) := by show _ = _; rw [← hpk.out, hln, packP_nil, List.append_nil]
      have hst := run_str_of Try.underlying54 Try.underlying5 Try.underlying9 hrow
      clear hln hpk hll hl
      go_wp2_with fail
      go_ret
      exact ⟨by rw [HF.out]; rfl, hbw.out⟩
end Go.Proofs.Ytakileiomgaahaa
