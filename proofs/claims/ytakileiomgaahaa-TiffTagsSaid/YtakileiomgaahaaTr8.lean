/-
  The reference of tiff: Decode.
-/
import Derived.Test.YtakileiomgaahaaTj8
import Derived.Test.YtakileiomgaahaaTr3
import Derived.Test.YtakileiomgaahaaTr5
import Derived.Test.YtakileiomgaahaaTr6
import Derived.Test.YtakileiomgaahaaTr7
namespace Go.Proofs.Ytakileiomgaahaa
open Go.RowKit

/-- One tag's part in the metadata. -/
def metS (m : List Mt) (t : Tg) : List Mt := if t.id = 270 ∧ t.ty = 2 then (match parP t.text with | .ok ms => ms | .error _ => m) else m
def metR (l : List Tg) : List Mt := l.foldl metS []
theorem metR_snoc (l : List Tg) (t : Tg) : metR (l ++ [t]) = metS (metR l) t := by simp [metR]
theorem fold_none (l : List Tg) (m : List Mt) (h : ∀ t ∈ l, t.id ≠ 270) : l.foldl metS m = m := by
  induction l generalizing m with
  | nil => rfl
  | cons t l ih =>
    rw [List.foldl_cons]
    have e : metS m t = m := by
      unfold metS
      rw [if_neg (fun h2 => h t (by simp) h2.1)]
    rw [e]
    exact ih m fun u hu => h u (by simp [hu])
def Inc (l : List Tg) : Prop := l.Pairwise fun a b => a.id < b.id
theorem metR_eq {l : List Tg} (h : Inc l) : metR l = metT l := by
  have key : ∀ m, l.foldl metS m = match findT l 270 with | none => m | some t => if t.ty = 2 then (match parP t.text with | .ok ms => ms | .error _ => m) else m := by
    induction l with
    | nil => intro m; rfl
    | cons t l ih =>
      intro m
      obtain ⟨h1, h2⟩ := List.pairwise_cons.1 h
      rw [List.foldl_cons]
      by_cases ht : t.id = 270
      · have e : findT (t :: l) 270 = some t := by unfold findT; rw [List.find?_cons, ht]; rfl
        rw [e, fold_none l _ (fun u hu => by have := h1 u hu; omega)]
        unfold metS
        by_cases h3 : t.ty = 2
        · rw [if_pos ⟨ht, h3⟩]; simp only [h3, if_true]
        · rw [if_neg (fun h => h3 h.2)]; simp only [h3, if_false]
      · have e : findT (t :: l) 270 = findT l 270 := by
          unfold findT
          rw [List.find?_cons, beq_false_of_ne (show ((t.id : Nat) : Int) ≠ 270 by omega)]
        have e2 : metS m t = m := by unfold metS; rw [if_neg (fun h => ht h.1)]
        rw [e, e2]
        exact ih h2 m
  unfold metR
  rw [key []]
  unfold metT
  cases findT l 270 with
  | none => rfl
  | some t => rfl
theorem tagsG_inc {big : Bool} {s : List UInt8} {n p : Nat} {last : Int} {acc l : List Tg} (ha : Inc acc) (hl : ∀ t ∈ acc, (t.id : Int) ≤ last) (h : tagsG big s n p last acc = .ok l) : Inc l := by
  induction n generalizing p last acc with
  | zero => unfold tagsG at h; injection h with h; rw [← h]; exact ha
  | succ n ih =>
    unfold tagsG at h
    split at h
    · cases h
    · rename_i hlt
      split at h
      · cases h
      · rename_i t ht
        have hid := (tagP_ok ht).1
        refine ih ?_ ?_ h
        · unfold Inc
          rw [List.pairwise_append]
          refine ⟨ha, List.pairwise_singleton _ _, fun a ha' b hb => ?_⟩
          have e : b = t := List.mem_singleton.1 hb
          subst e
          have := hl a ha'
          rw [hid]
          omega
        · intro u hu
          rcases List.mem_append.1 hu with h1 | h1
          · have := hl u h1
            rw [hid]
            omega
          · rw [List.mem_singleton.1 h1]
            omega
theorem tagsP_inc {s : List UInt8} {l : List Tg} (h : tagsP s = .ok l) : Inc l := by
  unfold tagsP at h
  repeat' split at h
  all_goals first | (cases h; done) | exact tagsG_inc List.Pairwise.nil (fun t ht => by cases ht) h
/-- The first byte tells the order of bytes. -/
theorem tagsP_big {s : List UInt8} {l : List Tg} (h : tagsP s = .ok l) : 8 ≤ s.length ∧ ((s.getD 0 0).toNat == 77) = bigP s := by
  unfold tagsP at h
  split at h
  · cases h
  rename_i h8
  split at h
  · cases h
  rename_i hb
  refine ⟨by omega, ?_⟩
  match s, h8 with
  | [], h8 => simp at h8
  | [a], h8 => simp at h8
  | a :: b :: r, _ =>
    simp only [List.getD_cons_zero]
    unfold bigP at hb ⊢
    simp only [List.take_succ_cons, List.take_zero] at hb ⊢
    by_cases h1 : a.toNat = 77
    · have ea : a = 77 := UInt8.toNat_inj.1 h1
      rw [ea]
      by_cases h2 : b = 77
      · rw [h2]; rfl
      · exfalso
        apply hb
        left
        refine ⟨?_, ?_⟩
        · rw [beq_eq_false_iff_ne]
          intro h; injection h with _ h; injection h with h; exact h2 h
        · intro h; injection h with h; rw [ea] at h; exact absurd h (by decide)
    · rw [beq_false_of_ne h1]
      symm
      rw [beq_eq_false_iff_ne]
      intro h; injection h with h; rw [h] at h1; exact h1 rfl
def badS (W H R : Nat) : Bool := decide (W < 1 ∨ 256 < W ∨ H < 1 ∨ 256 < H ∨ R < 1)
theorem sizeP_eq (l : List Tg) : sizeP l = if badS (firstN l 256 0) (firstN l 257 0) (firstN l 278 (firstN l 257 0)) = true then false else if (valsT l 273).length ≠ (firstN l 257 0 + firstN l 278 (firstN l 257 0) - 1) / firstN l 278 (firstN l 257 0) then false else if (valsT l 279).length ≠ (firstN l 257 0 + firstN l 278 (firstN l 257 0) - 1) / firstN l 278 (firstN l 257 0) then false else true := by
  unfold sizeP badS
  generalize firstN l 256 0 = W
  generalize firstN l 278 (firstN l 257 0) = R
  generalize firstN l 257 0 = H
  generalize (H + R - 1) / R = q
  by_cases h1 : W < 1 ∨ 256 < W ∨ H < 1 ∨ 256 < H
  · rw [if_pos h1, if_pos (by simp only [decide_eq_true_eq]; omega)]
  rw [if_neg h1]
  by_cases h2 : R < 1
  · rw [if_pos h2, if_pos (by simp only [decide_eq_true_eq]; omega)]
  rw [if_neg h2, if_neg (by simp only [decide_eq_true_eq]; omega)]
  by_cases h3 : (valsT l 273).length = q
  · rw [if_neg (fun h => h h3), decide_eq_true h3, Bool.true_and]
    by_cases h4 : (valsT l 279).length = q
    · rw [if_neg (fun h => h h4), decide_eq_true h4]
    · rw [if_pos h4, decide_eq_false h4]
  · rw [if_pos h3, decide_eq_false h3, Bool.false_and]
theorem arr7_get (i : Nat) (hi : i < 7) : arr7[i]? = some (.int .i64 (ids7 i)) := by
  match i, hi with
  | 0, _ => rfl
  | 1, _ => rfl
  | 2, _ => rfl
  | 3, _ => rfl
  | 4, _ => rfl
  | 5, _ => rfl
  | 6, _ => rfl
theorem ne_of_len {α : Type} {l : List α} (h : l.length ≠ 0) : l ≠ [] := by rintro rfl; exact h rfl
end Go.Proofs.Ytakileiomgaahaa
namespace Go.Proofs.Ytakileiomgaahaa
open Go.RowKit

set_option maxHeartbeats 8000000 in
set_option maxRecDepth 100000 in
theorem rdecodeT_any (s : ByteArray) (w : World) (hs : s.size ≤ 1000000000000000) : Calls Try.prog 18 #[.string s] w fun e w' => DecOkT (decT s.data.toList) e w' ∧ Below w.heap.size w w' := by
  have HSZ : Hid (s.data.toList.length = s.size) := ba_size s
  have HTG := Lib.hid (fun w => rtags_any s w hs)
  have hk : decT s.data.toList = (match tagsP s.data.toList with
  | .error e => .error e
  | .ok l =>
    if noneT l = true then .error 9
    else if kindP l = false then .error 8
    else if sizeP l = false then .error 15
    else match stripsG (hdT l (bigP s.data.toList)) s.data.toList (valsT l 273) (valsT l 279) (valsT l 273).length 0 [] with
    | .error e => .error e
    | .ok d => .ok (firstN l 256 0, firstN l 257 0, (List.range (firstN l 256 0 * firstN l 257 0)).map (fun k => pixP (hdT l (bigP s.data.toList)) (chunkT (firstN l 277 0 * (firstN l 258 0 / 8)) d k)), metT l)) := rfl
  generalize decT s.data.toList = res at *
  have hb0 := Blk.new w 34 img0
  have hbe0 := (Below.refl w.heap.size w).alloc (Nat.le_refl _) (.cells img0 34)
  have HE8 : Hid (∀ k : Nat, k ≠ 0 → ((k : Int) != 0) = true) := fun k hk => by unfold bne; rw [Bool.not_eq_true', beq_eq_false_iff_ne]; omega
  go_enter Try.func18, Try.ntmps18
  go_upto_region 1 with fail
  change Blk (w.alloc (.cells #[.int .i64 0, .int .i64 0, .slice none 0 0] 34)) w.heap.size 34 img0 at hb0
  change Below w.heap.size w (w.alloc (.cells #[.int .i64 0, .int .i64 0, .slice none 0 0] 34)) at hbe0
  generalize w.alloc (.cells #[.int .i64 0, .int .i64 0, .slice none 0 0] 34) = wz at *
  generalize hB : w.heap.size = B at *
  have HB := Lib.hid hB
  clear hB
  go_wp2_with fail
  refine (HTG.out _).mono ?_
  rintro e w1 ⟨hok, hb1⟩
  have HB1 : Hid (Blk w1 B 34 img0) := (hb1.block _ hb0.lt).trans hb0
  have HBE1 : Hid (Below B w w1) := hbe0.trans (hb1.mono (Nat.le_of_lt hb0.lt))
  clear hb0 hbe0 hb1 HTG
  cases htp : tagsP s.data.toList with
  | error k =>
    rw [htp] at hok hk
    obtain rfl : e = .returned (.tuple #[.slice none 0 0, .int .i64 k]) := hok
    have ek := HE8.out k (tagsP_err htp)
    have HF : Hid (res = .error k) := hk
    clear htp hk HE8
    go_wp2_with (refine wpList_rset_same rfl 34 (.tmp 2) (.tmp 26) rfl rfl B img0 (by rfl) (by rfl) 34 (by exact HB1.out) img0_inf img0_one ?_)
    refine bodyPost_ret (v := errT k) (results_ctt rfl _ _ B 34 img0 (0, 0) _ _ _ rfl rfl rfl HB1.out Try.underlying34 rfl img0_inf) rfl ⟨?_, by rw [HB.out]; exact HBE1.out⟩
    rw [HF.out]; rfl
  | ok l =>
    rw [htp] at hok hk
    obtain ⟨v, hv, htr⟩ := hok
    subst hv
    simp only at hk
    obtain ⟨hbd, htx⟩ := tagsP_ok htp
    obtain ⟨hs8, hbig⟩ := tagsP_big htp
    have HMEQ : Hid (metR l = metT l) := metR_eq (tagsP_inc htp)
    rw [HSZ.out] at hs8
    have hs1 : 1 ≤ s.size := by omega
    have hbig2 : (s[0].toNat == 77) = bigP s.data.toList := by
      rw [← hbig]
      have e : s.data.toList.getD 0 0 = s[0] := by rw [List.getD_eq_getElem?_getD, List.getElem?_eq_getElem (by rw [HSZ.out]; exact hs1)]; rfl
      rw [e]
    generalize bigP s.data.toList = big at *
    have HBIG := Lib.hid hbig2
    have HK := Lib.hid hk
    obtain ⟨xl, cl, rfl, -⟩ := _root_.id htr
    have HTR := Lib.hid htr
    have HBD := Lib.hid hbd
    have HTX := Lib.hid htx
    clear htp hk hbd htx hbig hbig2 hs8
    generalize hZ : w1.heap.size = Z at *
    have HZ := Lib.hid hZ
    have hBZ : B < Z := by rw [← hZ]; exact HB1.out.lt
    have HBW : Hid (∀ wx, Below Z w1 wx → Below B w wx ∧ Blk wx B 34 img0) := fun wx h => ⟨HBE1.out.trans (h.mono (Nat.le_of_lt hBZ)), (h.block _ hBZ).trans HB1.out⟩
    have hkq := Blk.new w1 3 arr7
    have hbq := (Below.refl Z w1).alloc (by rw [hZ]; exact Nat.le_refl _) (.cells arr7 3)
    rw [hZ] at hkq
    have hfv : ∀ id, ∃ u, IRow w1 u (valsT l id) ∧ ∀ wx, Below Z w1 wx → Calls Try.prog 47 #[.slice xl l.length cl, .int .i64 id] wx fun e w' => e = .returned u ∧ wx = w' := fun id => by
      have := rvalues_at htr id
      rwa [hZ] at this
    have hff : ∀ (id : Int) (o : Nat) wx, Below Z w1 wx → Calls Try.prog 49 #[.slice xl l.length cl, .int .i64 id, .int .i64 (o : Int)] wx fun e w' => e = .returned (.int .i64 (firstN l id o : Nat)) ∧ wx = w' := fun id o wx hb => rfirst_at htr id o wx (by rw [hZ]; exact hb)
    have HFV := Lib.hid hfv
    have HFF := Lib.hid hff
    have hzz : w1.heap.size = Z := hZ
    clear htr hfv hff hZ
    go_upto_region 5 with fail
    change Blk (w1.alloc (.cells #[.int .i64 256, .int .i64 257, .int .i64 258, .int .i64 262, .int .i64 273, .int .i64 277, .int .i64 279] 3)) Z 3 arr7 at hkq
    change Below Z w1 (w1.alloc (.cells #[.int .i64 256, .int .i64 257, .int .i64 258, .int .i64 262, .int .i64 273, .int .i64 277, .int .i64 279] 3)) at hbq
    generalize w1.alloc (.cells #[.int .i64 256, .int .i64 257, .int .i64 258, .int .i64 262, .int .i64 273, .int .i64 277, .int .i64 279] 3) = wq at *
    have HKQ := Lib.hid hkq
    have HBQ := Lib.hid hbq
    clear hkq hbq hzz
    go_wp2_with fail
    go_loopw [31] (fun vi wr => ∃ i : Nat, vi = .int .i64 i ∧ i ≤ 7 ∧ Hid (∀ j, j < i → (valsT l (ids7 j)).length ≠ 0) ∧ wr = wq) (fun vi _ => 7 - (intOf vi).toNat)
    case atStart => exact ⟨0, rfl, Nat.zero_le _, (fun j h => absurd h (by omega)), rfl⟩
    case round =>
      obtain ⟨i, rfl, hi, hno, hwr⟩ := hrel
      have hwr2 := hwr.symm
      subst hwr2
      clear hwr
      by_cases hlt : i < 7
      · have dlt : decide ((i : Int) < 7) = true := by simp; omega
        have i1 : (i : Int) < 7 := by omega
        have qi : wq.cell? ⟨Z, i, none⟩ = some (.int .i64 (ids7 i)) := (HKQ.out.cell i).trans (arr7_get i hlt)
        have HNO : Hid ((valsT l (ids7 i)).length = 0 → res = .error 9) := fun h => by rw [HK.out, if_pos (noneT_yes hlt h)]
        obtain ⟨u, hu, hcall⟩ := HFV.out (ids7 i)
        have HC := Lib.hid (hcall wq HBQ.out)
        obtain ⟨ux, uc, rfl⟩ := hu.shape
        obtain ⟨nt, hnt⟩ : ∃ nt, (valsT l (ids7 i)).length = nt := ⟨_, rfl⟩
        rw [hnt] at HC
        have HNT := Lib.hid hnt
        obtain ⟨idq, hidq⟩ : ∃ q, ids7 i = q := ⟨_, rfl⟩
        rw [hidq] at HC HNT HNO qi
        have HIDQ := Lib.hid hidq
        clear hu hcall hnt hidq
        go_wp2_with fail
        refine HC.out.mono ?_
        rintro e w3 ⟨rfl, rfl⟩
        clear HC qi
        by_cases hn : nt = 0
        · have en : ((nt : Int) == 0) = true := by rw [hn]; rfl
          have HF := Lib.hid (HNO.out (by rw [HNT.out]; exact hn))
          have HBX := Lib.hid (HBW.out wq HBQ.out)
          clear hn
          go_wp2_with (refine wpList_rset_same rfl 34 (.tmp 2) (.tmp 42) rfl rfl B img0 (by rfl) (by rfl) 34 (by exact HBX.out.2) img0_inf img0_one ?_)
          refine bodyPost_ret (v := errT 9) (results_ctt rfl _ _ B 34 img0 (0, 0) _ _ _ rfl rfl rfl HBX.out.2 Try.underlying34 rfl img0_inf) rfl ⟨?_, by rw [HB.out]; exact HBX.out.1⟩
          rw [HF.out]; rfl
        · have en : ((nt : Int) == 0) = false := by rw [beq_eq_false_iff_ne]; omega
          have HN0 : Hid (nt ≠ 0) := hn
          clear hn
          go_wp2_with fail
          go_roundw
          case rel =>
            refine ⟨i + 1, by go_num, by omega, fun j hj => ?_, trivial⟩
            by_cases hji : j = i
            · rw [hji, HIDQ.out, HNT.out]; exact HN0.out
            · exact hno.out j (by omega)
          case measure => simp [intOf]; omega
      · have dlt : decide ((i : Int) < 7) = false := by simp; omega
        have HNN := Lib.hid (noneT_no (l := l) (fun j hj => hno.out j (by omega)))
        have HV258 : Hid (valsT l 258 ≠ []) := ne_of_len (hno.out 2 (by omega))
        have HV262 : Hid (valsT l 262 ≠ []) := ne_of_len (hno.out 3 (by omega))
        have hk := HK.out
        rw [HNN.out, if_neg (by decide)] at hk
        have HK2 := Lib.hid hk
        have HKI := Lib.hid (rkinds_any (.slice xl l.length cl) l wq (HTR.out.below (by rw [HZ.out]; exact HBQ.out)) HV258.out HV262.out)
        clear hk HK hno
        go_wp2_with fail
        refine HKI.out.mono ?_
        rintro e w4 ⟨rfl, hb4⟩
        have hzq : Z ≤ wq.heap.size := Nat.le_of_lt HKQ.out.lt
        have HB4 : Hid (Below Z w1 w4) := HBQ.out.trans (hb4.mono hzq)
        have HZ4 : Hid (Z ≤ w4.heap.size) := Nat.le_trans hzq hb4.size
        clear hb4 HKI HKQ HBQ hzq
        cases hkp : kindP l with
        | false =>
          have hk := HK2.out
          rw [if_pos hkp] at hk
          have HF := Lib.hid hk
          have HBX := Lib.hid (HBW.out w4 HB4.out)
          clear hk hkp HK2
          go_wp2_with (refine wpList_rset_same rfl 34 (.tmp 2) (.tmp 47) rfl rfl B img0 (by rfl) (by rfl) 34 (by exact HBX.out.2) img0_inf img0_one ?_)
          refine bodyPost_ret (v := errT 8) (results_ctt rfl _ _ B 34 img0 (0, 0) _ _ _ rfl rfl rfl HBX.out.2 Try.underlying34 rfl img0_inf) rfl ⟨?_, by rw [HB.out]; exact HBX.out.1⟩
          rw [HF.out]; rfl
        | true =>
          have hk := HK2.out
          rw [hkp, if_neg (by decide)] at hk
          have HK3 := Lib.hid hk
          have HKO := Lib.hid (kindP_ok hkp)
          have HFW := Lib.hid (HFF.out 256 0 w4 HB4.out)
          have HFH := Lib.hid (HFF.out 257 0 w4 HB4.out)
          have HFR := Lib.hid (HFF.out 278 (firstN l 257 0) w4 HB4.out)
          have hW := firstN_bd HBD.out 256 0 (by decide)
          have hH := firstN_bd HBD.out 257 0 (by decide)
          have hR := firstN_bd HBD.out 278 (firstN l 257 0) hH
          have HSQ := Lib.hid (sizeP_eq l)
          have HSO := Lib.hid (fun h => sizeP_ok (l := l) h)
          obtain ⟨W, hWe⟩ : ∃ W, firstN l 256 0 = W := ⟨_, rfl⟩
          obtain ⟨H, hHe⟩ : ∃ H, firstN l 257 0 = H := ⟨_, rfl⟩
          rw [hHe] at HFR HFH hH hR HSQ HSO
          obtain ⟨R, hRe⟩ : ∃ R, firstN l 278 H = R := ⟨_, rfl⟩
          rw [hWe] at HFW hW HSQ HSO
          rw [hRe] at HFR hR HSQ HSO
          have HWHR : Hid (firstN l 256 0 = W ∧ firstN l 257 0 = H ∧ firstN l 278 H = R) := ⟨hWe, hHe, hRe⟩
          clear hk hkp HK2 hWe hHe hRe
          go_wp2_with fail
          refine HFW.out.mono ?_
          rintro e w5 ⟨rfl, rfl⟩
          go_wp2_with fail
          refine HFH.out.mono ?_
          rintro e w5 ⟨rfl, rfl⟩
          go_wp2_with fail
          refine HFR.out.mono ?_
          rintro e w5 ⟨rfl, rfl⟩
          clear HFW HFH HFR
          obtain ⟨bad, hbad⟩ : ∃ b, badS W H R = b := ⟨_, rfl⟩
          rw [hbad] at HSQ
          have HBAD : Hid (decide (W < 1 ∨ 256 < W ∨ H < 1 ∨ 256 < H ∨ R < 1) = bad) := hbad
          clear hbad
          go_upto_region 15 with fail
          go_cut [72] (fun v72 wx => v72 = .bool bad ∧ wx = w4)
          case first =>
            clear HK3 HSQ HSO
            by_cases h1 : W < 1
            · have d1 : decide ((W : Int) < 1) = true := by simp; omega
              have hb : bad = true := by rw [← HBAD.out]; simp only [decide_eq_true_eq]; omega
              clear HBAD
              go_wp2_with fail
              go_meet
              case rel => exact ⟨by rw [hb], rfl⟩
            have d1 : decide ((W : Int) < 1) = false := by simp; omega
            by_cases h2 : 256 < W
            · have d2 : decide ((256 : Int) < (W : Int)) = true := by simp; omega
              have hb : bad = true := by rw [← HBAD.out]; simp only [decide_eq_true_eq]; omega
              clear HBAD
              go_wp2_with fail
              go_meet
              case rel => exact ⟨by rw [hb], rfl⟩
            have d2 : decide ((256 : Int) < (W : Int)) = false := by simp; omega
            by_cases h3 : H < 1
            · have d3 : decide ((H : Int) < 1) = true := by simp; omega
              have hb : bad = true := by rw [← HBAD.out]; simp only [decide_eq_true_eq]; omega
              clear HBAD
              go_wp2_with fail
              go_meet
              case rel => exact ⟨by rw [hb], rfl⟩
            have d3 : decide ((H : Int) < 1) = false := by simp; omega
            by_cases h4 : 256 < H
            · have d4 : decide ((256 : Int) < (H : Int)) = true := by simp; omega
              have hb : bad = true := by rw [← HBAD.out]; simp only [decide_eq_true_eq]; omega
              clear HBAD
              go_wp2_with fail
              go_meet
              case rel => exact ⟨by rw [hb], rfl⟩
            have d4 : decide ((256 : Int) < (H : Int)) = false := by simp; omega
            by_cases h5 : R < 1
            · have d5 : decide ((R : Int) < 1) = true := by simp; omega
              have hb : bad = true := by rw [← HBAD.out]; simp only [decide_eq_true_eq]; omega
              clear HBAD
              go_wp2_with fail
              go_meet
              case rel => exact ⟨by rw [hb], rfl⟩
            · have d5 : decide ((R : Int) < 1) = false := by simp; omega
              have hb : bad = false := by rw [← HBAD.out]; simp only [decide_eq_false_iff_not]; omega
              clear HBAD
              go_wp2_with fail
              go_meet
              case rel => exact ⟨by rw [hb], rfl⟩
          case rest =>
            obtain ⟨rfl, hwc⟩ := hcut
            have hwc2 := hwc.symm
            subst hwc2
            clear hwc
            have HBX := Lib.hid (HBW.out w4 HB4.out)
            cases bad with
            | true =>
              have HSF : Hid (sizeP l = false) := HSQ.out
              have HF : Hid (res = .error 15) := by show _ = _; rw [HK3.out, if_pos HSF.out]
              clear HK3 HSQ HSO HBAD HSF
              go_wp2_with (refine wpList_rset_same rfl 34 (.tmp 2) (.tmp 73) rfl rfl B img0 (by rfl) (by rfl) 34 (by exact HBX.out.2) img0_inf img0_one ?_)
              refine bodyPost_ret (v := errT 15) (results_ctt rfl _ _ B 34 img0 (0, 0) _ _ _ rfl rfl rfl HBX.out.2 Try.underlying34 rfl img0_inf) rfl ⟨?_, by rw [HB.out]; exact HBX.out.1⟩
              rw [HF.out]; rfl
            | false =>
              have HSQ2 : Hid (sizeP l = if (valsT l 273).length ≠ (H + R - 1) / R then false else if (valsT l 279).length ≠ (H + R - 1) / R then false else true) := HSQ.out
              have hR1 : 1 ≤ R := by have := of_decide_eq_false HBAD.out; omega
              have hH1 : 1 ≤ H := by have := of_decide_eq_false HBAD.out; omega
              obtain ⟨hr, hhr⟩ : ∃ q, H + R = q := ⟨_, rfl⟩
              obtain ⟨hr1, hhr1⟩ : ∃ q, hr - 1 = q := ⟨_, rfl⟩
              obtain ⟨q, hq⟩ : ∃ q, hr1 / R = q := ⟨_, rfl⟩
              rw [hhr, hhr1, hq] at HSQ2
              have m1 : (H : Int) + (R : Int) = (hr : Int) := by omega
              have m2 : (hr : Int) - 1 = (hr1 : Int) := by omega
              have m3 : (hr1 : Int).tdiv (R : Int) = (q : Int) := by rw [← hq]; exact tdiv_nat hr1 R
              have eR : ((R : Int) == 0) = false := by rw [beq_eq_false_iff_ne]; omega
              have hqb : q ≤ 8589934592 := by rw [← hq]; exact Nat.le_trans (Nat.div_le_self _ _) (by omega)
              have hhrb : hr ≤ 8589934592 := by omega
              obtain ⟨u1, hu1, hc1⟩ := HFV.out 273
              obtain ⟨u2, hu2, hc2⟩ := HFV.out 279
              have HC1 := Lib.hid (hc1 w4 HB4.out)
              have HC2 := Lib.hid (hc2 w4 HB4.out)
              obtain ⟨x1, cc1, rfl⟩ := hu1.shape
              obtain ⟨x2, cc2, rfl⟩ := hu2.shape
              obtain ⟨n1, hn1⟩ : ∃ q, (valsT l 273).length = q := ⟨_, rfl⟩
              obtain ⟨n2, hn2⟩ : ∃ q, (valsT l 279).length = q := ⟨_, rfl⟩
              rw [hn1] at HC1 HSQ2
              rw [hn2] at HC2 HSQ2
              have HN12 : Hid ((valsT l 273).length = n1 ∧ (valsT l 279).length = n2) := ⟨hn1, hn2⟩
              clear HSQ HBAD hq hhr hhr1 hu1 hu2 hc1 hc2 hn1 hn2
              go_wp2_with fail
              refine HC1.out.mono ?_
              rintro e w5 ⟨rfl, rfl⟩
              clear m1 m2 m3 eR HC1
              by_cases h1 : n1 = q
              · have e1 : ((n1 : Int) != (q : Int)) = false := by rw [h1]; simp
                go_wp2_with fail
                refine HC2.out.mono ?_
                rintro e w5 ⟨rfl, rfl⟩
                by_cases h2 : n2 = q
                · have e2 : ((n2 : Int) != (q : Int)) = false := by rw [h2]; simp
                  have HSP : Hid (sizeP l = true) := by show _ = _; rw [HSQ2.out, if_neg (fun h => h h1), if_neg (fun h => h h2)]
                  clear HSQ2 h1 h2 HC2
                  go_upto_region 20 with fail
                  obtain ⟨n, hn1, hn2, hn3, hW1, hW2, hH1', hH2, hR1', hkr, hcov⟩ := HSO.out HSP.out
                  have hk := HK3.out
                  rw [if_neg (by rw [HSP.out]; decide), hn1] at hk
                  have hHd : hdT l big = ⟨W, H, firstN l 258 0 / 8, firstN l 277 0, firstN l 262 0, firstN l 338 0, R, firstN l 259 1 == 32773, big⟩ := by
                    unfold hdT
                    rw [HWHR.out.1, HWHR.out.2.1, HWHR.out.2.2]
                  have HST := Lib.hid (rstrips_any s (.slice xl l.length cl) l (hdT l big) n w4 hs hs1 (HTR.out.below (by rw [HZ.out]; exact HB4.out)) HBD.out hn1 hn2 hn3 (by rw [hHd]; exact hkr) (by rw [hHd]; exact hW2) (by rw [hHd]; exact hH2) (by rw [hHd]; show firstN l 277 0 ≤ 4; have := HKO.out.1; omega) (by rw [hHd]) (by rw [hHd]; show firstN l 258 0 / 8 = 1 ∨ firstN l 258 0 / 8 = 2; have := HKO.out.2.1; omega) (by rw [hHd]) HV258.out (by rw [hHd]; exact hR) (by rw [hHd]) (by rw [hHd]; exact HBIG.out))
                  have HLEN : Hid (∀ d, stripsG (hdT l big) s.data.toList (valsT l 273) (valsT l 279) n 0 [] = .ok d → d.length = H * W * firstN l 277 0 * (firstN l 258 0 / 8)) := fun d hd => by
                    have h1 := stripsG_len hd (by simp [rowsN])
                    rw [rowsN_eq, Nat.zero_add] at h1
                    have h2 : min (hdT l big).h (n * (hdT l big).rows) = H := by rw [hHd]; exact Nat.min_eq_left hcov
                    rw [h2] at h1
                    rw [h1, hHd]
                  rw [HWHR.out.1, HWHR.out.2.1] at hk
                  have HK4 := Lib.hid hk
                  have HHD := Lib.hid hHd
                  rw [hHd] at HST
                  simp only at HST
                  rw [← hHd] at HST
                  clear hk hHd hkr hcov hn1 hn2 hn3 HSO HK3 e1 e2 hqb hhrb hR1' hH1'
                  cases hsg : stripsG (hdT l big) s.data.toList (valsT l 273) (valsT l 279) n 0 [] with
                  | error k =>
                    rw [hsg] at HK4 HST
                    have ek := HE8.out k (stripsG_err hsg)
                    have HF : Hid (res = .error k) := HK4.out
                    clear HK4 HLEN hsg
                    go_wp2_with fail
                    refine HST.out.mono ?_
                    rintro e w5 ⟨hok, hb5⟩
                    obtain rfl : e = .returned (.tuple #[.slice none 0 0, .int .i64 k]) := hok
                    have HB5 : Hid (Below Z w1 w5) := HB4.out.trans (hb5.mono HZ4.out)
                    have HBX5 := Lib.hid (HBW.out w5 HB5.out)
                    clear hb5 HST HBX
                    go_wp2_with (refine wpList_rset_same rfl 34 (.tmp 2) (.tmp 104) rfl rfl B img0 (by rfl) (by rfl) 34 (by exact HBX5.out.2) img0_inf img0_one ?_)
                    refine bodyPost_ret (v := errT k) (results_ctt rfl _ _ B 34 img0 (0, 0) _ _ _ rfl rfl rfl HBX5.out.2 Try.underlying34 rfl img0_inf) rfl ⟨?_, by rw [HB.out]; exact HBX5.out.1⟩
                    rw [HF.out]; rfl
                  | ok d =>
                    rw [hsg] at HK4 HST
                    have hdl := HLEN.out d hsg
                    have HF : Hid (res = .ok (W, H, (List.range (W * H)).map (fun k => pixP (hdT l big) (chunkT (firstN l 277 0 * (firstN l 258 0 / 8)) d k)), metT l)) := HK4.out
                    have HDL := Lib.hid hdl
                    clear HK4 HLEN hsg hdl
                    go_wp2_with fail
                    refine HST.out.mono ?_
                    rintro e w5 ⟨hok, hb5⟩
                    obtain ⟨u, rfl, hur⟩ := hok
                    have HB5 : Hid (Below Z w1 w5) := HB4.out.trans (hb5.mono HZ4.out)
                    have HZ5 : Hid (Z ≤ w5.heap.size) := Nat.le_trans HZ4.out hb5.size
                    have HUR := Lib.hid hur.irow
                    obtain ⟨xu, cu, rfl⟩ := hur.shape
                    obtain ⟨nu, hnu⟩ : ∃ q, (smpL (hdT l big) d).length = q := ⟨_, rfl⟩
                    rw [hnu] at HUR ⊢
                    have HNU := Lib.hid hnu
                    clear hb5 HST HBX hur hnu
                    go_upto_region 24 with fail
                    have HL63 : l.length ≤ 9223372036854775807 := by
                      obtain ⟨x', c', hv, h1, h2, -⟩ := HTR.out
                      cases hv
                      unfold maxLen at h2
                      omega
                    obtain ⟨nl, hnl⟩ : ∃ q, l.length = q := ⟨_, rfl⟩
                    rw [hnl] at HL63
                    have HNL := Lib.hid hnl
                    rw [hnl]
                    have HCELL : Hid (∀ wx, Below Z w1 wx → ∀ i (h : i < l.length), ∃ b off, xl = some ⟨b, off, none⟩ ∧ wx.cell? ⟨b, off + i * 4, none⟩ = some (.int .i64 (l[i].id : Int)) ∧ wx.cell? ⟨b, off + i * 4 + 1, none⟩ = some (.int .i64 (l[i].ty : Int)) ∧ wx.cell? ⟨b, off + i * 4 + 3, none⟩ = some (.string ⟨l[i].text.toArray⟩)) := fun wx hb i hi => by
                      obtain ⟨x', c', hv, -, -, hcell⟩ := HTR.out
                      cases hv
                      obtain ⟨b, off, rfl, hc⟩ := hcell (by rintro rfl; simp at hi)
                      obtain ⟨c0, c1, c3, -⟩ := hc i hi
                      have hlt : b < Z := by rw [← HZ.out]; exact World.block_lt_of_cell? w1 _ c0
                      exact ⟨b, off, rfl, (hb.cell (p := ⟨b, _, none⟩) hlt).trans c0, (hb.cell (p := ⟨b, _, none⟩) hlt).trans c1, (hb.cell (p := ⟨b, _, none⟩) hlt).trans c3⟩
                    have hlT : ∀ wx, Below Z w1 wx → TRow wx (.slice xl nl cl) l := fun wx hb => by rw [← hnl]; exact HTR.out.below (by rw [HZ.out]; exact hb)
                    have HLT := Lib.hid hlT
                    clear hnl hlT
                    go_wp2_with fail
                    go_loopw [108, 14] (fun vi vm wr => ∃ i : Nat, vi = .int .i64 i ∧ i ≤ nl ∧ Hid (MRow wr vm (metR (l.take i))) ∧ Hid (Below w5.heap.size w5 wr)) (fun vi _ _ => nl - (intOf vi).toNat)
                    case atStart => exact ⟨0, rfl, Nat.zero_le _, mrow_nil _, Below.refl _ _⟩
                    case round =>
                      obtain ⟨i, rfl, hi, hmr, hbr⟩ := hrel
                      have HBR : Hid (Below Z w1 wr) := HB5.out.trans (hbr.out.mono HZ5.out)
                      by_cases hlt : i < nl
                      · have dlt : decide ((i : Int) < (nl : Int)) = true := by simp; omega
                        have hil : i < l.length := by rw [HNL.out]; exact hlt
                        obtain ⟨b, off, rfl, c0, c1, c3⟩ := HCELL.out wr HBR.out i hil
                        have HSN : Hid (metR (l.take (i + 1)) = metS (metR (l.take i)) l[i]) := by show _ = _; rw [List.take_succ_eq_append_getElem hil, metR_snoc]
                        have htx : l[i].text.length ≤ 8192 := HTX.out _ (List.getElem_mem hil)
                        obtain ⟨t, ht⟩ : ∃ t, l[i] = t := ⟨_, rfl⟩
                        rw [ht] at c0 c1 c3 HSN htx
                        obtain ⟨ti, ty, tv, tx⟩ := t
                        simp only at c0 c1 c3 htx
                        generalize metR (l.take i) = ms0 at *
                        have i1 : (i : Int) < (nl : Int) := by omega
                        clear ht
                        by_cases h270 : ti = 270
                        · have e270 : ((ti : Int) == 270) = true := by rw [h270]; rfl
                          by_cases h2 : ty = 2
                          · have e2 : ((ty : Int) == 2) = true := by rw [h2]; rfl
                            have HSN2 : Hid (metR (l.take (i + 1)) = (match parP tx with | .ok ms => ms | .error _ => ms0)) := by show _ = _; rw [HSN.out]; unfold metS; exact if_pos ⟨h270, h2⟩
                            have HPA : Hid (Calls Try.prog 51 #[.string ⟨tx.toArray⟩] wr fun e w' => ParOk (parP tx) e w' ∧ Below wr.heap.size wr w') := by
                              have := rparse_any ⟨tx.toArray⟩ wr (by rw [ba_len]; unfold maxLen; omega)
                              have e : (⟨tx.toArray⟩ : ByteArray).data.toList = tx := by simp
                              rwa [e] at this
                            clear h270 h2 HSN
                            cases hp : parP tx with
                            | error pk2 =>
                              obtain ⟨pp, kk⟩ := pk2
                              rw [hp] at HPA HSN2
                              have hk0 := parP_err hp
                              have ek : ((kk : Int) == 0) = false := by rw [beq_eq_false_iff_ne]; omega
                              have HM3 : Hid (metR (l.take (i + 1)) = ms0) := HSN2.out
                              clear hp hk0 HSN2
                              go_wp2_with fail
                              refine HPA.out.mono ?_
                              rintro e w6 ⟨hok, hb6⟩
                              obtain rfl : e = .returned (.tuple #[.slice none 0 0, .int .i64 pp, .int .i64 kk]) := hok
                              have HM6 : Hid (MRow w6 u14 ms0) := hmr.out.below hb6
                              have HB6 : Hid (Below w5.heap.size w5 w6) := hbr.out.trans (hb6.mono hbr.out.size)
                              clear hb6 hmr c0 c1 c3
                              go_wp2_with fail
                              go_roundw
                              case rel => exact ⟨i + 1, by go_num, by omega, by show MRow _ _ _; rw [HM3.out]; exact HM6.out, HB6.out⟩
                              case measure => simp [intOf]; omega
                            | ok ms2 =>
                              rw [hp] at HPA HSN2
                              have HM3 : Hid (metR (l.take (i + 1)) = ms2) := HSN2.out
                              clear hp HSN2
                              go_wp2_with fail
                              refine HPA.out.mono ?_
                              rintro e w6 ⟨hok, hb6⟩
                              obtain ⟨mv, rfl, hm6⟩ := hok
                              have HM6 := Lib.hid hm6
                              have HB6 : Hid (Below w5.heap.size w5 w6) := hbr.out.trans (hb6.mono hbr.out.size)
                              clear hb6 hmr c0 c1 c3 hm6
                              go_wp2_with fail
                              go_roundw
                              case rel => exact ⟨i + 1, by go_num, by omega, by show MRow _ _ _; rw [HM3.out]; exact HM6.out, HB6.out⟩
                              case measure => simp [intOf]; omega
                          · have e2 : ((ty : Int) == 2) = false := by rw [beq_eq_false_iff_ne]; omega
                            have HM3 : Hid (metR (l.take (i + 1)) = ms0) := by show _ = _; rw [HSN.out]; unfold metS; rw [if_neg (fun h => h2 h.2)]
                            clear h270 h2 HSN
                            go_wp2_with fail
                            go_roundw
                            case rel => exact ⟨i + 1, by go_num, by omega, by show MRow _ _ _; rw [HM3.out]; exact hmr.out, hbr.out⟩
                            case measure => simp [intOf]; omega
                        · have e270 : ((ti : Int) == 270) = false := by rw [beq_eq_false_iff_ne]; omega
                          have HM3 : Hid (metR (l.take (i + 1)) = ms0) := by show _ = _; rw [HSN.out]; unfold metS; rw [if_neg (fun h => h270 h.1)]
                          clear h270 HSN
                          go_wp2_with fail
                          go_roundw
                          case rel => exact ⟨i + 1, by go_num, by omega, by show MRow _ _ _; rw [HM3.out]; exact hmr.out, hbr.out⟩
                          case measure => simp [intOf]; omega
                      · have dlt : decide ((i : Int) < (nl : Int)) = false := by simp; omega
                        have hin : i = nl := by omega
                        have HMS : Hid (metR (l.take i) = metT l) := by show _ = _; rw [hin, ← HNL.out, List.take_length, HMEQ.out]
                        rw [HMS.out] at hmr
                        have hN1 : 1 ≤ W * H := Nat.mul_le_mul hW1 hH1
                        have hN2 : W * H ≤ 65536 := Nat.mul_le_mul hW2 hH2
                        have hsm3 : (hdT l big).samples = 1 ∨ (hdT l big).samples = 3 ∨ (hdT l big).samples = 4 := by rw [HHD.out]; exact HKO.out.1
                        have hby3 : (hdT l big).bytes = 1 ∨ (hdT l big).bytes = 2 := by rw [HHD.out]; show firstN l 258 0 / 8 = 1 ∨ firstN l 258 0 / 8 = 2; have := HKO.out.2.1; omega
                        have hdl : d.length = W * H * (hdT l big).samples * (hdT l big).bytes := by rw [HDL.out, HHD.out, Nat.mul_comm H W]
                        have hsl : (smpL (hdT l big) d).length = W * H * (hdT l big).samples := by unfold smpL; rw [smpK_len, hdl, Nat.mul_div_cancel _ (by omega)]
                        have hsb : ∀ x ∈ smpL (hdT l big) d, x ≤ 65535 := fun x hx => by
                          obtain ⟨k, _, rfl⟩ := List.mem_map.1 hx
                          exact smpN_le _ _ _ hby3
                        have HCO := Lib.hid (rcolors_any (.slice xl nl cl) (.slice xu nu cu) l (smpL (hdT l big) d) (hdT l big) (W * H) wr (HLT.out wr HBR.out) (HUR.out.below hbr.out) hN1 hN2 hsm3 hsl hsb (by rw [HHD.out]) (by rw [HHD.out]) (by rw [HHD.out]))
                        have hpe : (List.range (W * H)).map (fun k => pixV (hdT l big) (smpL (hdT l big) d) (k * (hdT l big).samples)) = (List.range (W * H)).map (fun k => pixP (hdT l big) (chunkT (firstN l 277 0 * (firstN l 258 0 / 8)) d k)) := by
                          apply List.map_congr_left
                          intro k hk
                          have := pixV_eq (hdT l big) d (W * H) k (by omega) hsm3 hdl (List.mem_range.1 hk)
                          rw [this, HHD.out]
                        rw [hpe] at HCO
                        generalize (List.range (W * H)).map (fun k => pixP (hdT l big) (chunkT (firstN l 277 0 * (firstN l 258 0 / 8)) d k)) = PX at *
                        generalize metT l = ms at *
                        clear hpe hsb hsl hdl hby3 hsm3 hN1 hN2 hin HMS HMEQ HUR HDL HHD HNU HCELL HLT
                        obtain ⟨xm, cm, hmv, -⟩ := _root_.id hmr.out
                        have HMV := Lib.hid hmv
                        clear hmv
                        have hzr : Z ≤ wr.heap.size := Nat.le_trans HZ5.out hbr.out.size
                        have HZR := Lib.hid hzr
                        clear hzr
                        go_wp2_with fail
                        refine HCO.out.mono ?_
                        rintro e w7 ⟨pv, rfl, hpo, hb7⟩
                        have HB7 : Hid (Below Z w1 w7) := HBR.out.trans (hb7.mono HZR.out)
                        have HBX := Lib.hid (HBW.out w7 HB7.out)
                        have HM7 : Hid (MRow w7 u14 ms) := hmr.out.below hb7
                        have HOB : Hid (pv.ownBlock ≠ some B) := fun h => by have := (World.ownsRow.lt hpo _ h).1; have := HZR.out; omega
                        have HPO := Lib.hid hpo
                        obtain ⟨xp, cp, hpv⟩ := pown_shape hpo
                        obtain ⟨np, hnp⟩ : ∃ q, PX.length = q := ⟨_, rfl⟩
                        rw [hnp] at hpv
                        subst hpv
                        have HTI2 := Lib.hid (imgC_inf W H (.slice xp np cp))
                        have HT12 := Lib.hid (imgC_one W H (.slice xp np cp) rfl)
                        have HTS2 : Hid (img0.size = (imgC W H (.slice xp np cp)).size) := rfl
                        clear hb7 hmr hpo HCO hnp
                        go_wp2_with (refine wpList_store_rowTo rfl 34 (.tmp 2) (.tmp 144) rfl rfl B (imgC W H (.slice xp np cp)) (by rfl) (by rfl) 34 _ (by exact HBX.out.2) (by exact HTI2.out) (by exact HTS2.out) (by exact HT12.out) ?_)
                        refine bodyPost_ret (v := .tuple #[.agg (imgC W H (.slice xp np cp)), u14, .int .i64 0]) (results_ctt rfl _ _ B 34 (imgC W H (.slice xp np cp)) (0, 0) _ _ _ rfl rfl rfl (HBX.out.2.rset (imgC W H (.slice xp np cp))) Try.underlying34 rfl HTI2.out) rfl ⟨?_, by rw [HB.out]; exact below_rset HBX.out.1 (Nat.le_refl _) _⟩
                        rw [HF.out]
                        refine ⟨.slice xp np cp, u14, rfl, POwn.prow (own_rset HPO.out HOB.out _), ?_⟩
                        exact mrow_heapT HM7.out HBX.out.2 img0_nsT (fun j hj => heap_rset_ne w7 B j _ hj)
                · have e2 : ((n2 : Int) != (q : Int)) = true := by unfold bne; rw [Bool.not_eq_true', beq_eq_false_iff_ne]; omega
                  have HF : Hid (res = .error 15) := by
                    have hsz : sizeP l = false := by rw [HSQ2.out, if_neg (show ¬ n1 ≠ q from fun h => h h1), if_pos h2]
                    show _ = _; rw [HK3.out, if_pos hsz]
                  clear HK3 HSQ2 HSO h1 h2
                  go_wp2_with (refine wpList_rset_same rfl 34 (.tmp 2) (.tmp 92) rfl rfl B img0 (by rfl) (by rfl) 34 (by exact HBX.out.2) img0_inf img0_one ?_)
                  refine bodyPost_ret (v := errT 15) (results_ctt rfl _ _ B 34 img0 (0, 0) _ _ _ rfl rfl rfl HBX.out.2 Try.underlying34 rfl img0_inf) rfl ⟨?_, by rw [HB.out]; exact HBX.out.1⟩
                  rw [HF.out]; rfl
              · have e1 : ((n1 : Int) != (q : Int)) = true := by unfold bne; rw [Bool.not_eq_true', beq_eq_false_iff_ne]; omega
                have HF : Hid (res = .error 15) := by
                  have hsz : sizeP l = false := by rw [HSQ2.out, if_pos h1]
                  show _ = _; rw [HK3.out, if_pos hsz]
                clear HK3 HSQ2 HSO h1
                go_wp2_with (refine wpList_rset_same rfl 34 (.tmp 2) (.tmp 92) rfl rfl B img0 (by rfl) (by rfl) 34 (by exact HBX.out.2) img0_inf img0_one ?_)
                refine bodyPost_ret (v := errT 15) (results_ctt rfl _ _ B 34 img0 (0, 0) _ _ _ rfl rfl rfl HBX.out.2 Try.underlying34 rfl img0_inf) rfl ⟨?_, by rw [HB.out]; exact HBX.out.1⟩
                rw [HF.out]; rfl
end Go.Proofs.Ytakileiomgaahaa
