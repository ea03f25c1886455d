/-
  The program of tiff: Decode.
-/
import Derived.Test.YtakileiomgaahaaTjp
import Derived.Deep.RegionWith
namespace Go.Proofs.Ytakileiomgaahaa
open Go.RowKit

def ids7 (i : Nat) : Int := if i = 0 then 256 else if i = 1 then 257 else if i = 2 then 258 else if i = 3 then 262 else if i = 4 then 273 else if i = 5 then 277 else 279
def arr7 : Array Value := #[.int .i64 256, .int .i64 257, .int .i64 258, .int .i64 262, .int .i64 273, .int .i64 277, .int .i64 279]
theorem idx7_0 (w : World) : (Instr.index 76 (.agg #[.int .i64 256, .int .i64 257, .int .i64 258, .int .i64 262, .int .i64 273, .int .i64 277, .int .i64 279]) (.int .i64 0)).run Try.prog w = .ok (.int .i64 256) w := by kernel_rfl
theorem idx7_1 (w : World) : (Instr.index 76 (.agg #[.int .i64 256, .int .i64 257, .int .i64 258, .int .i64 262, .int .i64 273, .int .i64 277, .int .i64 279]) (.int .i64 1)).run Try.prog w = .ok (.int .i64 257) w := by kernel_rfl
theorem idx7_2 (w : World) : (Instr.index 76 (.agg #[.int .i64 256, .int .i64 257, .int .i64 258, .int .i64 262, .int .i64 273, .int .i64 277, .int .i64 279]) (.int .i64 2)).run Try.prog w = .ok (.int .i64 258) w := by kernel_rfl
theorem idx7_3 (w : World) : (Instr.index 76 (.agg #[.int .i64 256, .int .i64 257, .int .i64 258, .int .i64 262, .int .i64 273, .int .i64 277, .int .i64 279]) (.int .i64 3)).run Try.prog w = .ok (.int .i64 262) w := by kernel_rfl
theorem idx7_4 (w : World) : (Instr.index 76 (.agg #[.int .i64 256, .int .i64 257, .int .i64 258, .int .i64 262, .int .i64 273, .int .i64 277, .int .i64 279]) (.int .i64 4)).run Try.prog w = .ok (.int .i64 273) w := by kernel_rfl
theorem idx7_5 (w : World) : (Instr.index 76 (.agg #[.int .i64 256, .int .i64 257, .int .i64 258, .int .i64 262, .int .i64 273, .int .i64 277, .int .i64 279]) (.int .i64 5)).run Try.prog w = .ok (.int .i64 277) w := by kernel_rfl
theorem idx7_6 (w : World) : (Instr.index 76 (.agg #[.int .i64 256, .int .i64 257, .int .i64 258, .int .i64 262, .int .i64 273, .int .i64 277, .int .i64 279]) (.int .i64 6)).run Try.prog w = .ok (.int .i64 279) w := by kernel_rfl
theorem idx7 (i : Nat) (hi : i < 7) (w : World) : (Instr.index 76 (.agg #[.int .i64 256, .int .i64 257, .int .i64 258, .int .i64 262, .int .i64 273, .int .i64 277, .int .i64 279]) (.int .i64 (i : Int))).run Try.prog w = .ok (.int .i64 (ids7 i)) w := by
  match i, hi with
  | 0, _ => exact idx7_0 w
  | 1, _ => exact idx7_1 w
  | 2, _ => exact idx7_2 w
  | 3, _ => exact idx7_3 w
  | 4, _ => exact idx7_4 w
  | 5, _ => exact idx7_5 w
  | 6, _ => exact idx7_6 w
theorem mrow_heapT {w w' : World} {v : Value} {l : List Mt} {k : Nat} {t : TypeId} {cs : Array Value} (h : MRow w v l) (hb : Blk w k t cs) (hns : ∀ (i : Nat) (s : ByteArray), cs[i]? ≠ some (.string s)) (hw : ∀ j, j ≠ k → w'.heap[j]? = w.heap[j]?) : MRow w' v l := by
  obtain ⟨x, c, rfl, h1, h2, h3, h4⟩ := h
  refine ⟨x, c, rfl, h1, h2, h3, fun hne => ?_⟩
  obtain ⟨b, off, rfl, hc⟩ := h4 hne
  have hbk : b ≠ k := by
    rintro rfl
    have hl : 0 < l.length := List.length_pos_iff.2 hne
    have := (hc 0 hl).1
    rw [hb.cell] at this
    exact hns _ _ this
  have hcell : ∀ o, w'.cell? ⟨b, o, none⟩ = w.cell? ⟨b, o, none⟩ := fun o => by
    simp only [World.cell?, hw b hbk]
  exact ⟨b, off, rfl, fun i hi => ⟨(hcell _).trans (hc i hi).1, (hcell _).trans (hc i hi).2⟩⟩
theorem img0_nsT (i : Nat) (s : ByteArray) : img0[i]? ≠ some (.string s) := by
  match i with
  | 0 => simp [img0, imgC]
  | 1 => simp [img0, imgC]
  | 2 => simp [img0, imgC]
  | i + 3 => simp [img0, imgC]
theorem stripsG_err {H : Hd} {s : List UInt8} {ps zs : List Nat} {n k e : Nat} {out : List UInt8} (h : stripsG H s ps zs n k out = .error e) : e ≠ 0 := by
  induction n generalizing k out with
  | zero => unfold stripsG at h; cases h
  | succ n ih =>
    unfold stripsG at h
    split at h
    · rename_i e' he
      injection h with h
      rw [← h]; exact stripP_err he
    · exact ih h
theorem parGo_err {f : Nat} {acc : List Mt} {u : List UInt8} {p k : Nat} (h : parGo f acc u = .error (p, k)) (hf : f + acc.length = 18) (ha : acc.length ≤ 16) : k ≠ 0 := by
  induction f generalizing acc u with
  | zero => omega
  | succ f ih =>
    unfold parGo at h
    split at h
    · cases h
    split at h
    · injection h with h; injection h with _ h; omega
    rename_i h16
    split at h
    · injection h with h; injection h with _ h; omega
    split at h
    · exact ih h (by rw [List.length_append, List.length_singleton]; omega) (by rw [List.length_append, List.length_singleton]; omega)
    · rename_i hne
      injection h with h; injection h with _ h
      rw [← h]; exact hne
theorem parP_err {u : List UInt8} {p k : Nat} (h : parP u = .error (p, k)) : k ≠ 0 := parGo_err h (by simp) (by simp)
theorem noneT_yes {l : List Tg} {i : Nat} (hi : i < 7) (h : (valsT l (ids7 i)).length = 0) : noneT l = true := by
  unfold noneT
  match i, hi with
  | 0, _ | 1, _ | 2, _ | 3, _ | 4, _ | 5, _ | 6, _ => simp [ids7] at h; simp [h]
theorem noneT_no {l : List Tg} (h : ∀ i, i < 7 → (valsT l (ids7 i)).length ≠ 0) : noneT l = false := by
  unfold noneT
  have h0 := h 0 (by decide)
  have h1 := h 1 (by decide)
  have h2 := h 2 (by decide)
  have h3 := h 3 (by decide)
  have h4 := h 4 (by decide)
  have h5 := h 5 (by decide)
  have h6 := h 6 (by decide)
  simp [ids7] at *
  simp [*]

/-- The cells of Decode's loop. -/
structure DJ (w1 wr : World) (Z K I Q W H N : Nat) (T : Array Value) (L : List Px) : Prop where
  bz : Below Z w1 wr
  hx : Blk wr K 81 T
  ix : Blk wr I 34 (imgC W H (.slice (some ⟨Q, 0, none⟩) N N))
  qx : Blk wr Q 46 (pixA L)
  zi : Z ≤ I
  zq : Z ≤ Q
theorem DJ.below {w1 wr wr' : World} {Z K I Q W H N : Nat} {T : Array Value} {L : List Px} (h : DJ w1 wr Z K I Q W H N T L) (hb : Below wr.heap.size wr wr') : DJ w1 wr' Z K I Q W H N T L :=
  ⟨h.bz.trans (hb.mono (Nat.le_trans h.zi (Nat.le_of_lt h.ix.lt))), (hb.block _ h.hx.lt).trans h.hx, (hb.block _ h.ix.lt).trans h.ix, (hb.block _ h.qx.lt).trans h.qx, h.zi, h.zq⟩
theorem DJ.put {w1 wr : World} {Z K I Q W H N : Nat} {T : Array Value} {L : List Px} (h : DJ w1 wr Z K I Q W H N T L) (k : Nat) (hk : k < L.length) (p : Px) :
    DJ w1 ((((wr.setCell ⟨Q, k * 4, none⟩ (.int .i64 p.1)).setCell ⟨Q, k * 4 + 1, none⟩ (.int .i64 p.2.1)).setCell ⟨Q, k * 4 + 2, none⟩ (.int .i64 p.2.2.1)).setCell ⟨Q, k * 4 + 3, none⟩ (.int .i64 p.2.2.2)) Z K I Q W H N T (L.set k p) := by
  have hw : ∀ j, j ≠ Q → ((((wr.setCell ⟨Q, k * 4, none⟩ (.int .i64 p.1)).setCell ⟨Q, k * 4 + 1, none⟩ (.int .i64 p.2.1)).setCell ⟨Q, k * 4 + 2, none⟩ (.int .i64 p.2.2.1)).setCell ⟨Q, k * 4 + 3, none⟩ (.int .i64 p.2.2.2)).heap[j]? = wr.heap[j]? := fun j hj =>
    (Below.heap_setCell _ ⟨Q, _, none⟩ _ j hj).trans ((Below.heap_setCell _ ⟨Q, _, none⟩ _ j hj).trans ((Below.heap_setCell _ ⟨Q, _, none⟩ _ j hj).trans (Below.heap_setCell _ ⟨Q, _, none⟩ _ j hj)))
  have hq := (((h.qx.put (k * 4) (.int .i64 p.1)).put (k * 4 + 1) (.int .i64 p.2.1)).put (k * 4 + 2) (.int .i64 p.2.2.1)).put (k * 4 + 3) (.int .i64 p.2.2.2)
  rw [pixA_set L k hk p] at hq
  have hz := h.zq
  have hKQ : K ≠ Q := Blk.apart h.hx h.qx (by decide)
  have hIQ : I ≠ Q := Blk.apart h.ix h.qx (by decide)
  refine ⟨?_, (hw K hKQ).trans h.hx, (hw I hIQ).trans h.ix, hq, h.zi, h.zq⟩
  exact below_put (below_put (below_put (below_put h.bz (p := ⟨Q, _, none⟩) hz _) (p := ⟨Q, _, none⟩) hz _) (p := ⟨Q, _, none⟩) hz _) (p := ⟨Q, _, none⟩) hz _

set_option maxHeartbeats 8000000 in
set_option maxRecDepth 100000 in
theorem tdecode_any (s : ByteArray) (w : World) (hs : s.size ≤ 1000000000000000) : Calls Try.prog 17 #[.string s] w fun e w' => DecOkT (decT s.data.toList) e w' ∧ Below w.heap.size w w' := by
  have HSZ : Hid (s.data.toList.length = s.size) := ba_size s
  have HTG := Lib.hid (fun w => ttags_any s w hs)
  have HBG := Lib.hid (fun w => isBig_any s w (by unfold maxLen; omega))
  have HBP : Hid (bigP s.data.toList = (s.data.toList.take 2 == [77, 77])) := rfl
  rw [← HBP.out] at HBG
  have hk : decT s.data.toList = (match tagsP s.data.toList with
  | .error e => .error e
  | .ok l =>
    if noneT l = true then .error 9
    else if kindP l = false then .error 8
    else if sizeP l = false then .error 15
    else match stripsG (hdT l (bigP s.data.toList)) s.data.toList (valsT l 273) (valsT l 279) (valsT l 273).length 0 [] with
    | .error e => .error e
    | .ok d => .ok (firstN l 256 0, firstN l 257 0, (List.range (firstN l 256 0 * firstN l 257 0)).map (fun k => pixP (hdT l (bigP s.data.toList)) (chunkT (firstN l 277 0 * (firstN l 258 0 / 8)) d k)), metT l)) := rfl
  generalize decT s.data.toList = res at *
  generalize bigP s.data.toList = big at *
  clear HBP
  have hb0 := Blk.new w 34 img0
  have hbe0 := (Below.refl w.heap.size w).alloc (Nat.le_refl _) (.cells img0 34)
  have HE8 : Hid (∀ k : Nat, k ≠ 0 → ((k : Int) != 0) = true) := fun k hk => by unfold bne; rw [Bool.not_eq_true', beq_eq_false_iff_ne]; omega
  go_enter Try.func17, Try.ntmps17
  go_upto_region 1 with fail
  change Blk (w.alloc (.cells #[.int .i64 0, .int .i64 0, .slice none 0 0] 34)) w.heap.size 34 img0 at hb0
  change Below w.heap.size w (w.alloc (.cells #[.int .i64 0, .int .i64 0, .slice none 0 0] 34)) at hbe0
  generalize w.alloc (.cells #[.int .i64 0, .int .i64 0, .slice none 0 0] 34) = wz at *
  generalize hB : w.heap.size = B at *
  have HB := Lib.hid hB
  clear hB
  go_wp2_with fail
  refine (HTG.out _).mono ?_
  rintro e w1 ⟨hok, hb1⟩
  have HB1 : Hid (Blk w1 B 34 img0) := (hb1.block _ hb0.lt).trans hb0
  have HBE1 : Hid (Below B w w1) := hbe0.trans (hb1.mono (Nat.le_of_lt hb0.lt))
  clear hb0 hbe0 hb1 HTG
  cases htp : tagsP s.data.toList with
  | error k =>
    rw [htp] at hok hk
    obtain rfl : e = .returned (.tuple #[.slice none 0 0, .int .i64 k]) := hok
    have ek := HE8.out k (tagsP_err htp)
    have HF : Hid (res = .error k) := hk
    clear htp hk HE8
    go_wp2_with (refine wpList_rset_same rfl 34 (.tmp 2) (.tmp 29) rfl rfl B img0 (by rfl) (by rfl) 34 (by exact HB1.out) img0_inf img0_one ?_)
    refine bodyPost_ret (v := errT k) (results_ctt rfl _ _ B 34 img0 (0, 0) _ _ _ rfl rfl rfl HB1.out Try.underlying34 rfl img0_inf) rfl ⟨?_, by rw [HB.out]; exact HBE1.out⟩
    rw [HF.out]; rfl
  | ok l =>
    rw [htp] at hok hk
    obtain ⟨v, hv, htr⟩ := hok
    subst hv
    simp only at hk
    obtain ⟨hbd, htx⟩ := tagsP_ok htp
    have HK := Lib.hid hk
    obtain ⟨xl, cl, rfl, -⟩ := _root_.id htr
    have HTR := Lib.hid htr
    have HFD := Lib.hid (fun id wx hb => find_at htr id wx hb)
    have HKR := Lib.hid (tkind_any (.slice xl l.length cl) l)
    have HSR := Lib.hid (fun wx h => tsize_any (.slice xl l.length cl) l wx h hbd)
    have HHR := Lib.hid (fun wx h => thead_any (.slice xl l.length cl) l wx h hbd)
    have HBD := Lib.hid hbd
    have HTX := Lib.hid htx
    clear htp hk htr hbd htx
    generalize hZ : w1.heap.size = Z at *
    have HZ := Lib.hid hZ
    have hBZ : B < Z := by rw [← hZ]; exact HB1.out.lt
    have HIX : Hid (∀ i : Nat, i < 7 → ∀ w, (Instr.index 76 (.agg #[.int .i64 256, .int .i64 257, .int .i64 258, .int .i64 262, .int .i64 273, .int .i64 277, .int .i64 279]) (.int .i64 (i : Int))).run Try.prog w = .ok (.int .i64 (ids7 i)) w) := fun i hi w => idx7 i hi w
    have HBW : Hid (∀ wx, Below Z w1 wx → Below B w wx ∧ Blk wx B 34 img0) := fun wx h => ⟨HBE1.out.trans (h.mono (Nat.le_of_lt hBZ)), (h.block _ hBZ).trans HB1.out⟩
    clear hZ
    go_wp2_with fail
    go_loopw [32] (fun vi wr => ∃ i : Nat, vi = .int .i64 i ∧ i ≤ 7 ∧ Hid (∀ j, j < i → (valsT l (ids7 j)).length ≠ 0) ∧ Hid (Below Z w1 wr)) (fun vi _ => 7 - (intOf vi).toNat)
    case atStart => exact ⟨0, rfl, Nat.zero_le _, (fun j h => absurd h (by omega)), Below.refl _ _⟩
    case round =>
      obtain ⟨i, rfl, hi, hno, hbw⟩ := hrel
      by_cases hlt : i < 7
      ·
        have dlt : decide ((i : Int) < 7) = true := by simp; omega
        have hix := HIX.out i hlt
        have HFI := Lib.hid (HFD.out (ids7 i) wr hbw.out)
        have HVT : Hid (valsT l (ids7 i) = ((findT l (ids7 i)).getD tag0).vals) := rfl
        have HNO : Hid ((valsT l (ids7 i)).length = 0 → res = .error 9) := fun h => by rw [HK.out, if_pos (noneT_yes hlt h)]
        generalize (findT l (ids7 i)).getD tag0 = t at *
        generalize (findT l (ids7 i)).isSome = bs at *
        go_wp2_with fail
        refine HFI.out.mono ?_
        rintro e w3 ⟨u, rfl, hu, hb3, -⟩
        obtain ⟨ux, uc, rfl⟩ := hu.shape
        obtain ⟨nt, hnt⟩ : ∃ nt, t.vals.length = nt := ⟨_, rfl⟩
        rw [hnt]
        have HNT : Hid ((valsT l (ids7 i)).length = nt) := by show _ = _; rw [HVT.out, hnt]
        obtain ⟨ti, ty, tv, tx⟩ := t
        unfold tcA
        simp only
        clear hu hnt HFI hix HVT
        have hk3 := Blk.new w3 70 #[.int .i64 (ti : Int), .int .i64 (ty : Int), .slice ux nt uc, .string ⟨tx.toArray⟩]
        have hb4 : Below Z w1 (w3.alloc (.cells #[.int .i64 (ti : Int), .int .i64 (ty : Int), .slice ux nt uc, .string ⟨tx.toArray⟩] 70)) := hb3.alloc (by rw [← HZ.out]; exact hb3.size) _
        go_upto_region 8 with fail
        generalize w3.alloc (.cells #[.int .i64 (ti : Int), .int .i64 (ty : Int), .slice ux nt uc, .string ⟨tx.toArray⟩] 70) = wk at *
        have q2 : wk.cell? ⟨w3.heap.size, 2, none⟩ = some (.slice ux nt uc) := hk3.cell 2
        have HB4 := Lib.hid hb4
        clear hk3 hb4 hb3 hbw
        generalize w3.heap.size = K at *
        by_cases hn : nt = 0
        · have en : ((nt : Int) == 0) = true := by rw [hn]; rfl
          have HF := Lib.hid (HNO.out (by rw [HNT.out]; exact hn))
          have HBX := Lib.hid (HBW.out wk HB4.out)
          clear hn
          go_wp2_with (refine wpList_rset_same rfl 34 (.tmp 2) (.tmp 45) rfl rfl B img0 (by rfl) (by rfl) 34 (by exact HBX.out.2) img0_inf img0_one ?_)
          refine bodyPost_ret (v := errT 9) (results_ctt rfl _ _ B 34 img0 (0, 0) _ _ _ rfl rfl rfl HBX.out.2 Try.underlying34 rfl img0_inf) rfl ⟨?_, by rw [HB.out]; exact HBX.out.1⟩
          rw [HF.out]; rfl
        · have en : ((nt : Int) == 0) = false := by rw [beq_eq_false_iff_ne]; omega
          have HN0 : Hid (nt ≠ 0) := hn
          clear hn
          go_wp2_with fail
          go_roundw
          case rel =>
            refine ⟨i + 1, by go_num, by omega, fun j hj => ?_, HB4.out⟩
            by_cases hji : j = i
            · rw [hji, HNT.out]; exact HN0.out
            · exact hno.out j (by omega)
          case measure => simp [intOf]; omega
      · have dlt : decide ((i : Int) < 7) = false := by simp; omega
        have hi7 : i = 7 := by omega
        have HNN := Lib.hid (noneT_no (l := l) (fun j hj => hno.out j (by omega)))
        have hk := HK.out
        rw [HNN.out, if_neg (by decide)] at hk
        have HK2 := Lib.hid hk
        have hwr := HTR.out.below (by rw [HZ.out]; exact hbw.out)
        clear hi7 hk HK hno
        go_wp2_with fail
        refine (HKR.out _ hwr).mono ?_
        rintro e w4 ⟨rfl, hb4⟩
        have hbw4 : Below Z w1 w4 := hbw.out.trans (hb4.mono (by rw [← HZ.out]; exact hbw.out.size))
        have HB4 := Lib.hid hbw4
        clear hb4 hbw4 hbw hwr HKR
        cases hkp : kindP l with
        | false =>
          have hk := HK2.out
          rw [if_pos hkp] at hk
          have HF := Lib.hid hk
          have HBX := Lib.hid (HBW.out w4 HB4.out)
          clear hk hkp HK2
          go_wp2_with (refine wpList_rset_same rfl 34 (.tmp 2) (.tmp 50) rfl rfl B img0 (by rfl) (by rfl) 34 (by exact HBX.out.2) img0_inf img0_one ?_)
          refine bodyPost_ret (v := errT 8) (results_ctt rfl _ _ B 34 img0 (0, 0) _ _ _ rfl rfl rfl HBX.out.2 Try.underlying34 rfl img0_inf) rfl ⟨?_, by rw [HB.out]; exact HBX.out.1⟩
          rw [HF.out]; rfl
        | true =>
          have hk := HK2.out
          rw [hkp, if_neg (by decide)] at hk
          have HK3 := Lib.hid hk
          have HKO := Lib.hid (kindP_ok hkp)
          have hwr := HTR.out.below (by rw [HZ.out]; exact HB4.out)
          clear hk hkp HK2
          go_wp2_with fail
          refine (HSR.out _ hwr).mono ?_
          rintro e w5 ⟨rfl, hb5⟩
          have HB5 : Hid (Below Z w1 w5) := HB4.out.trans (hb5.mono (by rw [← HZ.out]; exact HB4.out.size))
          clear hb5 HB4 hwr HSR
          cases hsp : sizeP l with
          | false =>
            have hk := HK3.out
            rw [if_pos hsp] at hk
            have HF := Lib.hid hk
            have HBX := Lib.hid (HBW.out w5 HB5.out)
            clear hk hsp HK3
            go_wp2_with (refine wpList_rset_same rfl 34 (.tmp 2) (.tmp 54) rfl rfl B img0 (by rfl) (by rfl) 34 (by exact HBX.out.2) img0_inf img0_one ?_)
            refine bodyPost_ret (v := errT 15) (results_ctt rfl _ _ B 34 img0 (0, 0) _ _ _ rfl rfl rfl HBX.out.2 Try.underlying34 rfl img0_inf) rfl ⟨?_, by rw [HB.out]; exact HBX.out.1⟩
            rw [HF.out]; rfl
          | true =>
            have hk := HK3.out
            rw [hsp, if_neg (by decide)] at hk
            obtain ⟨n, hn1, hn2, hn3, hW1, hW2, hH1, hH2, hR1, hkr, hcov⟩ := sizeP_ok hsp
            rw [hn1] at hk
            have HK4 := Lib.hid hk
            have hwr := HTR.out.below (by rw [HZ.out]; exact HB5.out)
            clear hk hsp HK3
            have HST := Lib.hid (fun wx h => tstrips_any s (.slice xl l.length cl) l (hdT l big) n wx hs h HBD.out hn1 hn2 hn3 hkr hW2 hH2 (by show firstN l 277 0 ≤ 4; have := HKO.out.1; omega) (by show firstN l 258 0 / 8 ≤ 2; have := HKO.out.2.1; omega) (firstN_bd HBD.out _ _ (by omega)))
            have HLEN : Hid (∀ d, stripsG (hdT l big) s.data.toList (valsT l 273) (valsT l 279) n 0 [] = .ok d → d.length = firstN l 257 0 * firstN l 256 0 * firstN l 277 0 * (firstN l 258 0 / 8)) := fun d hd => by
              have h1 := stripsG_len hd (by simp [rowsN])
              rw [rowsN_eq, Nat.zero_add] at h1
              have h2 : min (hdT l big).h (n * (hdT l big).rows) = firstN l 257 0 := Nat.min_eq_left hcov
              rw [h2] at h1
              exact h1
            have HSE : Hid (∀ k, stripsG (hdT l big) s.data.toList (valsT l 273) (valsT l 279) n 0 [] = .error k → k ≠ 0) := fun k h => stripsG_err h
            have HDF : Hid (hdT l false = ⟨firstN l 256 0, firstN l 257 0, firstN l 258 0 / 8, firstN l 277 0, firstN l 262 0, firstN l 338 0, firstN l 278 (firstN l 257 0), firstN l 259 1 == 32773, false⟩) := rfl
            have HDG : Hid (hdT l big = ⟨firstN l 256 0, firstN l 257 0, firstN l 258 0 / 8, firstN l 277 0, firstN l 262 0, firstN l 338 0, firstN l 278 (firstN l 257 0), firstN l 259 1 == 32773, big⟩) := rfl
            have HYS : Hid ((firstN l 277 0 = 1 ∨ firstN l 277 0 = 3 ∨ firstN l 277 0 = 4) ∧ (firstN l 258 0 / 8 = 1 ∨ firstN l 258 0 / 8 = 2)) := ⟨HKO.out.1, by have := HKO.out.2.1; omega⟩
            clear hkr hcov HKO
            generalize firstN l 278 (firstN l 257 0) = R at *
            generalize firstN l 256 0 = W at *
            generalize firstN l 257 0 = H at *
            generalize firstN l 258 0 / 8 = Y at *
            generalize firstN l 277 0 = S at *
            generalize firstN l 262 0 = P at *
            generalize firstN l 338 0 = A at *
            generalize (firstN l 259 1 == 32773) = pk at *
            generalize hdT l big = HG at *
            generalize stripsG HG s.data.toList (valsT l 273) (valsT l 279) n 0 [] = sg at *
            clear hn1 hn2
            go_wp2_with fail
            refine (HHR.out _ hwr).mono ?_
            rintro e w6 ⟨rfl, hb6⟩
            have hbw6 : Below Z w1 w6 := HB5.out.trans (hb6.mono (by rw [← HZ.out]; exact HB5.out.size))
            rw [HDF.out]
            unfold hdA
            simp only
            have hz6 : Z ≤ w6.heap.size := by rw [← HZ.out]; exact hbw6.size
            clear hb6 HB5 hwr HHR HDF
            have hk7 := Blk.new w6 81 #[.int .i64 (W : Int), .int .i64 (H : Int), .int .i64 (Y : Int), .int .i64 (S : Int), .int .i64 (P : Int), .int .i64 (A : Int), .int .i64 (R : Int), .bool pk, .bool false]
            have hb7 := hbw6.alloc hz6 (.cells #[.int .i64 (W : Int), .int .i64 (H : Int), .int .i64 (Y : Int), .int .i64 (S : Int), .int .i64 (P : Int), .int .i64 (A : Int), .int .i64 (R : Int), .bool pk, .bool false] 81)
            go_upto_region 16 with fail
            generalize w6.alloc (.cells #[.int .i64 (W : Int), .int .i64 (H : Int), .int .i64 (Y : Int), .int .i64 (S : Int), .int .i64 (P : Int), .int .i64 (A : Int), .int .i64 (R : Int), .bool pk, .bool false] 81) = w7 at *
            change Blk w7 w6.heap.size 81 (hdA ⟨W, H, Y, S, P, A, R, pk, false⟩) at hk7
            have y8 : w7.cell? ⟨w6.heap.size, 8, none⟩ = some (.bool false) := hk7.cell 8
            have z8 := hk7.frozen 8
            have HK8 : Hid (Blk (w7.setCell ⟨w6.heap.size, 8, none⟩ (.bool big)) w6.heap.size 81 (hdA ⟨W, H, Y, S, P, A, R, pk, big⟩)) := hk7.put 8 (.bool big)
            have HB8 : Hid (Below Z w1 (w7.setCell ⟨w6.heap.size, 8, none⟩ (.bool big))) := below_put hb7 (p := ⟨w6.heap.size, 8, none⟩) hz6 _
            rw [← HDG.out] at HK8
            clear hk7 hb7 hbw6
            generalize w6.heap.size = K at *
            go_wp2_with fail
            refine (HBG.out _).mono ?_
            rintro e w8 ⟨rfl, hw8⟩
            subst hw8
            go_upto_region 17 with fail
            clear y8 z8
            generalize w7.setCell ⟨K, 8, none⟩ (.bool big) = w9 at *
            have HTI := Lib.hid (hdA_inf HG)
            have HT1 := Lib.hid (hdA_one HG)
            have hwr := HTR.out.below (by rw [HZ.out]; exact HB8.out)
            obtain ⟨T, hT⟩ : ∃ T, hdA HG = T := ⟨_, rfl⟩
            rw [hT] at HK8 HTI HT1 HST
            have HT := Lib.hid hT
            clear hT
            go_wp2_with (refine wpList_load_row rfl 81 (.tmp 11) rfl K (by rfl) 81 T (0, 0) _ (by exact HK8.out) Try.underlying81 rfl (by exact HTI.out) ?_)
            refine (HST.out _ hwr).mono ?_
            rintro e w10 ⟨hok, hb10⟩
            have HK10 : Hid (Blk w10 K 81 T) := (hb10.block _ HK8.out.lt).trans HK8.out
            have HB10 : Hid (Below Z w1 w10) := HB8.out.trans (hb10.mono (by rw [← HZ.out]; exact HB8.out.size))
            clear hb10 HST hwr HB8 HK8
            cases sg with
            | error k =>
              obtain rfl : e = .returned (.tuple #[.string ⟨#[]⟩, .int .i64 k]) := hok
              have ek := HE8.out k (HSE.out k rfl)
              have HF : Hid (res = .error k) := HK4.out
              have HBX := Lib.hid (HBW.out w10 HB10.out)
              clear HLEN HK4
              go_wp2_with (refine wpList_rset_same rfl 34 (.tmp 2) (.tmp 69) rfl rfl B img0 (by rfl) (by rfl) 34 (by exact HBX.out.2) img0_inf img0_one ?_)
              refine bodyPost_ret (v := errT k) (results_ctt rfl _ _ B 34 img0 (0, 0) _ _ _ rfl rfl rfl HBX.out.2 Try.underlying34 rfl img0_inf) rfl ⟨?_, by rw [HB.out]; exact HBX.out.1⟩
              rw [HF.out]; rfl
            | ok d =>
              obtain rfl : e = .returned (.tuple #[.string ⟨d.toArray⟩, .int .i64 0]) := hok
              obtain ⟨D, hD⟩ : ∃ D : ByteArray, D = ⟨d.toArray⟩ := ⟨_, rfl⟩
              have HDL : Hid (D.data.toList = d) := by show _ = _; rw [hD]
              have hDs : D.size = d.length := by rw [hD, ba_len]
              rw [← hD]
              clear hD
              have HF0 : Hid (res = .ok (W, H, (List.range (W * H)).map (fun k => pixP HG (chunkT (S * Y) d k)), metT l)) := HK4.out
              have hdl := HLEN.out d rfl
              clear HK4 HLEN
              obtain ⟨SZ, hSZ⟩ : ∃ SZ, S * Y = SZ := ⟨_, rfl⟩
              obtain ⟨N, hN⟩ : ∃ N, W * H = N := ⟨_, rfl⟩
              rw [hSZ, hN] at HF0
              have hdl2 : D.size = N * SZ := by rw [hDs, hdl, Nat.mul_assoc, hSZ, Nat.mul_comm H W, hN]
              have HDS := Lib.hid hdl2
              have n1 : (W : Int) * (H : Int) = (N : Int) := by rw [← hN]; simp
              have s1 : (S : Int) * (Y : Int) = (SZ : Int) := by rw [← hSZ]; simp
              have hN2 : N ≤ 65536 := by rw [← hN]; exact Nat.mul_le_mul hW2 hH2
              have hS4 : S ≤ 4 := by have := HYS.out.1; omega
              have hY2 : Y ≤ 2 := by have := HYS.out.2; omega
              have hSZ8 : SZ ≤ 8 := by rw [← hSZ]; exact Nat.mul_le_mul hS4 hY2
              have HSZ2 := Lib.hid hSZ
              have HMK := Lib.hid (fun w => run_mkpix N (by omega) w)
              clear hDs hdl hdl2 hSZ hN
              go_upto_region 20 with fail
              have x0 : w10.cell? ⟨K, 0, none⟩ = some (.int .i64 (W : Int)) := by have h := HK10.out; rw [← HT.out, HDG.out] at h; exact h.cell 0
              have x1 : w10.cell? ⟨K, 1, none⟩ = some (.int .i64 (H : Int)) := by have h := HK10.out; rw [← HT.out, HDG.out] at h; exact h.cell 1
              have hz10 : Z ≤ w10.heap.size := by rw [← HZ.out]; exact HB10.out.size
              go_cut [13] (fun v13 wx => ∃ I Q : Nat, v13 = .pointer (some ⟨I, 0, none⟩) ∧ Hid (DJ w1 wx Z K I Q W H N T (List.replicate N (0, 0, 0, 0))))
              case first =>
                have mk := HMK.out
                have hk0 := HK10.out
                rw [← HT.out, HDG.out] at hk0
                have x0a : ∀ o, (w10.alloc o).cell? ⟨K, 0, none⟩ = some (.int .i64 W) := fun o => (hk0.alloc o).cell 0
                have x1a : ∀ o, (w10.alloc o).cell? ⟨K, 1, none⟩ = some (.int .i64 H) := fun o => (hk0.alloc o).cell 1
                have x0b : ∀ o p, ((w10.alloc o).alloc p).cell? ⟨K, 0, none⟩ = some (.int .i64 W) := fun o p => ((hk0.alloc o).alloc p).cell 0
                have x1b : ∀ o p, ((w10.alloc o).alloc p).cell? ⟨K, 1, none⟩ = some (.int .i64 H) := fun o p => ((hk0.alloc o).alloc p).cell 1
                clear hk0
                go_region
                all_goals
                  go_wp2_with fail
                  go_meet
                  case rel =>
                    first
                    | exact ⟨w10.heap.size + 1, w10.heap.size, rfl, ((HB10.out.alloc hz10 _).alloc (by simp; omega) _).drew, ((HK10.out.alloc _).alloc _).drew, (Blk.new_at (by simp) _ _).drew, ((Blk.new w10 _ _).alloc _).drew, by omega, hz10⟩
                    | exact ⟨w10.heap.size, w10.heap.size + 1, rfl, ((HB10.out.alloc hz10 _).alloc (by simp; omega) _).drew, ((HK10.out.alloc _).alloc _).drew, ((Blk.new w10 _ _).alloc _).drew, (Blk.new_at (by simp) _ _).drew, hz10, by omega⟩
              case rest =>
                obtain ⟨I, Q, rfl, hdj⟩ := hcut
                clear x0 x1 HMK n1 HK10 HB10 hz10
                have hk0 := hdj.out.hx
                rw [← HT.out, HDG.out] at hk0
                have y2 : wc.cell? ⟨K, 2, none⟩ = some (.int .i64 (Y : Int)) := hk0.cell 2
                have y3 : wc.cell? ⟨K, 3, none⟩ = some (.int .i64 (S : Int)) := hk0.cell 3
                have i2 : wc.cell? ⟨I, 2, none⟩ = some (.slice (some ⟨Q, 0, none⟩) N N) := hdj.out.ix.cell 2
                clear hk0
                go_upto_region 22 with fail
                clear y2 y3 s1
                go_wp2_with fail
                clear i2
                go_loopw [90] (fun vi wr => ∃ i : Nat, vi = .int .i64 i ∧ i ≤ N ∧ Hid (DJ w1 wr Z K I Q W H N T (fillT (fun k => pixP HG (chunkT SZ d k)) N i))) (fun vi _ => N - (intOf vi).toNat)
                case atStart => exact ⟨0, rfl, Nat.zero_le _, by show DJ _ _ _ _ _ _ _ _ _ _ _; rw [fillT_zero]; exact hdj.out⟩
                case round =>
                  clear hdj
                  obtain ⟨i, rfl, hi, hdj⟩ := hrel
                  by_cases hlt : i < N
                  · have dlt : decide ((i : Int) < (N : Int)) = true := by simp; omega
                    obtain ⟨P0, hP0⟩ : ∃ P0, i * SZ = P0 := ⟨_, rfl⟩
                    obtain ⟨i1, hi1⟩ : ∃ i1, i + 1 = i1 := ⟨_, rfl⟩
                    obtain ⟨P1, hP1⟩ : ∃ P1, i1 * SZ = P1 := ⟨_, rfl⟩
                    have hP01 : P1 = P0 + SZ := by rw [← hP1, ← hi1, Nat.succ_mul, hP0]
                    have hP1N : P1 ≤ D.size := by rw [HDS.out, ← hP1]; exact Nat.mul_le_mul_right _ (by omega)
                    have m1 : (i : Int) * (SZ : Int) = (P0 : Int) := by rw [← hP0]; simp
                    have m2 : (i1 : Int) * (SZ : Int) = (P1 : Int) := by rw [← hP1]; simp
                    have m3 : (i : Int) + 1 = (i1 : Int) := by omega
                    have hPb : P1 ≤ 524288 := by rw [← hP1]; exact Nat.mul_le_mul (show i1 ≤ 65536 by omega) hSZ8
                    have v0 : IntKind.i64.wrap (P0 : Int) = (P0 : Int) := by rw [IntKind.wrap_i64]; omega
                    have v1 : IntKind.i64.wrap (P1 : Int) = (P1 : Int) := by rw [IntKind.wrap_i64]; omega
                    have v2 : IntKind.i64.wrap (i1 : Int) = (i1 : Int) := by rw [IntKind.wrap_i64]; omega
                    have r0 : (P0 : Int) ≤ (P1 : Int) := by omega
                    have r1 : (P1 : Int) ≤ (D.size : Int) := by omega
                    have HXL : Hid ((D.extract P0 P1).data.toList = chunkT SZ d i) := by
                      show _ = _
                      rw [extract_list, HDL.out]
                      unfold chunkT
                      rw [hP0, hP01, List.drop_take, Nat.add_sub_cancel_left]
                    have HXS : Hid ((D.extract P0 P1).size = HG.samples * HG.bytes) := by
                      show _ = _
                      rw [ByteArray.size_extract, HDG.out]
                      show min P1 D.size - P0 = S * Y
                      rw [HSZ2.out]; omega
                    have HRP := Lib.hid (fun wx => treadPixel_any (D.extract P0 P1) HG wx (by rw [HDG.out]; exact HYS.out.2) (by rw [HDG.out]; exact HYS.out.1) HXS.out)
                    rw [HXL.out] at HRP
                    have hha : hdA HG = #[.int .i64 (W : Int), .int .i64 (H : Int), .int .i64 (Y : Int), .int .i64 (S : Int), .int .i64 (P : Int), .int .i64 (A : Int), .int .i64 (R : Int), .bool pk, .bool big] := by rw [HDG.out]; rfl
                    have HPV : Hid (pixP HG (chunkT SZ d i) = pixP HG (chunkT SZ d i)) := rfl
                    obtain ⟨px, hpx⟩ : ∃ px, pixP HG (chunkT SZ d i) = px := ⟨_, rfl⟩
                    rw [hpx, hha] at HRP
                    have HPX := Lib.hid hpx
                    obtain ⟨p0, p1, p2, p3⟩ := px
                    unfold pxC at HRP
                    simp only at HRP
                    have hk0 := hdj.out.hx
                    rw [← HT.out, hha] at hk0
                    clear HPV hpx HXL HXS hP0 hi1 hP1 hP01 hP1N
                    go_upto_region 25 with fail
                    obtain ⟨K0, hK0⟩ : ∃ K0, K0 = wr.heap.size := ⟨_, rfl⟩
                    have HK0 : Hid (K0 ≤ wr.heap.size) := by show _ ≤ _; omega
                    have hKK : K < K0 := by rw [hK0]; exact hk0.lt
                    have hIK : I < K0 := by rw [hK0]; exact hdj.out.ix.lt
                    have hQK : Q < K0 := by rw [hK0]; exact hdj.out.qx.lt
                    have hub : ∀ x, Below K0 wr x → Below wr.heap.size wr x := fun x h => by rw [← hK0]; exact h
                    clear hK0
                    have c0 : ∀ u : BW K0 wr, u.w.cell? ⟨K, 0, none⟩ = some (.int .i64 (W : Int)) := fun u => (u.b.cell (p := ⟨K, 0, none⟩) hKK).trans (hk0.cell 0)
                    have c1 : ∀ u : BW K0 wr, u.w.cell? ⟨K, 1, none⟩ = some (.int .i64 (H : Int)) := fun u => (u.b.cell (p := ⟨K, 1, none⟩) hKK).trans (hk0.cell 1)
                    have c2 : ∀ u : BW K0 wr, u.w.cell? ⟨K, 2, none⟩ = some (.int .i64 (Y : Int)) := fun u => (u.b.cell (p := ⟨K, 2, none⟩) hKK).trans (hk0.cell 2)
                    have c3 : ∀ u : BW K0 wr, u.w.cell? ⟨K, 3, none⟩ = some (.int .i64 (S : Int)) := fun u => (u.b.cell (p := ⟨K, 3, none⟩) hKK).trans (hk0.cell 3)
                    have c4 : ∀ u : BW K0 wr, u.w.cell? ⟨K, 4, none⟩ = some (.int .i64 (P : Int)) := fun u => (u.b.cell (p := ⟨K, 4, none⟩) hKK).trans (hk0.cell 4)
                    have c5 : ∀ u : BW K0 wr, u.w.cell? ⟨K, 5, none⟩ = some (.int .i64 (A : Int)) := fun u => (u.b.cell (p := ⟨K, 5, none⟩) hKK).trans (hk0.cell 5)
                    have c6 : ∀ u : BW K0 wr, u.w.cell? ⟨K, 6, none⟩ = some (.int .i64 (R : Int)) := fun u => (u.b.cell (p := ⟨K, 6, none⟩) hKK).trans (hk0.cell 6)
                    have c7 : ∀ u : BW K0 wr, u.w.cell? ⟨K, 7, none⟩ = some (.bool pk) := fun u => (u.b.cell (p := ⟨K, 7, none⟩) hKK).trans (hk0.cell 7)
                    have c8 : ∀ u : BW K0 wr, u.w.cell? ⟨K, 8, none⟩ = some (.bool big) := fun u => (u.b.cell (p := ⟨K, 8, none⟩) hKK).trans (hk0.cell 8)
                    have ci : ∀ u : BW K0 wr, u.w.cell? ⟨I, 2, none⟩ = some (.slice (some ⟨Q, 0, none⟩) N N) := fun u => (u.b.cell (p := ⟨I, 2, none⟩) hIK).trans (hdj.out.ix.cell 2)
                    have ii1 : (i : Int) < (N : Int) := by omega
                    have ii0 : (0 : Int) ≤ (i : Int) := by omega
                    clear hk0
                    refine wp_region_bw_tail K0 wr 15 (Below.refl _ _) (by kernel_rfl) (by kernel_rfl) ?_
                    simp only [List.take_succ_cons, List.take_zero, List.drop_succ_cons, List.drop_zero]
                    repeat (go_big_quiet_step (exact calls_bw HK0.out (HRP.out _)))
                    refine wpQuiet_nil ?_
                    rintro _ ⟨u, rfl⟩
                    have hdj2 : Hid (DJ w1 u.w Z K I Q W H N T (fillT (fun k => pixP HG (chunkT SZ d k)) N i)) := hdj.out.below (hub _ u.b)
                    generalize u.w = w11 at *
                    clear c0 c1 c2 c3 c4 c5 c6 c7 c8 ci hdj m1 m2 m3 v0 v1 v2 r0 r1
                    have hfl := fillT_len (fun k => pixP HG (chunkT SZ d k)) N i hi
                    have q0 := fun j hj => (hdj2.out.qx.cell (i * 4 + j)).trans (pixA_get _ i j (by rw [hfl]; exact hlt) hj)
                    obtain ⟨v0, c0⟩ : ∃ v, w11.cell? ⟨Q, i * 4, none⟩ = some v := ⟨_, q0 0 (by decide)⟩
                    obtain ⟨v1, c1⟩ : ∃ v, w11.cell? ⟨Q, i * 4 + 1, none⟩ = some v := ⟨_, q0 1 (by decide)⟩
                    obtain ⟨v2, c2⟩ : ∃ v, w11.cell? ⟨Q, i * 4 + 2, none⟩ = some v := ⟨_, q0 2 (by decide)⟩
                    obtain ⟨v3, c3⟩ : ∃ v, w11.cell? ⟨Q, i * 4 + 3, none⟩ = some v := ⟨_, q0 3 (by decide)⟩
                    have f0 := hdj2.out.qx.frozen (i * 4)
                    have f1 := hdj2.out.qx.frozen (i * 4 + 1)
                    have f2 := hdj2.out.qx.frozen (i * 4 + 2)
                    have f3 := hdj2.out.qx.frozen (i * 4 + 3)
                    have hl : (fillT (fun k => pixP HG (chunkT SZ d k)) N i).set i (p0, p1, p2, p3) = fillT (fun k => pixP HG (chunkT SZ d k)) N (i + 1) := by
                      rw [← HPX.out]; exact fillT_step (fun k => pixP HG (chunkT SZ d k)) N i hlt
                    have hput := hdj2.out.put i (by rw [hfl]; exact hlt) (p0, p1, p2, p3)
                    rw [hl] at hput
                    have HPUT := Lib.hid hput
                    clear q0 hfl hput hl
                    go_wp2_with fail
                    go_roundw
                    case rel => exact ⟨i + 1, by go_num, by omega, HPUT⟩
                    case measure => simp [intOf]; omega
                  · have dlt : decide ((i : Int) < (N : Int)) = false := by simp; omega
                    have hiN : i = N := by omega
                    rw [hiN, fillT_all] at hdj
                    obtain ⟨PX, hPX⟩ : ∃ PX, (List.range N).map (fun k => pixP HG (chunkT SZ d k)) = PX := ⟨_, rfl⟩
                    have hPXl : PX.length = N := by rw [← hPX]; simp
                    rw [hPX] at hdj HF0
                    have HPXL := Lib.hid hPXl
                    have HTX2 : Hid (((findT l 270).getD tag0).text.length ≤ 8192) := by
                      show _ ≤ _
                      unfold findT
                      cases hf : l.find? (fun t => (t.id : Int) == 270) with
                      | none => exact Nat.zero_le _
                      | some t => exact HTX.out t (List.mem_of_find?_eq_some hf)
                    have HMT : Hid (metT l = if ((findT l 270).getD tag0).ty = 2 then (match parP ((findT l 270).getD tag0).text with | .ok ms => ms | .error _ => []) else []) := rfl
                    have HFI := Lib.hid (HFD.out 270 wr hdj.out.bz)
                    generalize (findT l 270).getD tag0 = t at *
                    generalize (findT l 270).isSome = bs at *
                    generalize metT l = ms at *
                    clear hPX hPXl hiN HFD HIX HTX HBD HTR HBG
                    go_wp2_with fail
                    refine HFI.out.mono ?_
                    rintro e w12 ⟨u, rfl, hu, -, hb12⟩
                    obtain ⟨ux, uc, rfl⟩ := hu.shape
                    obtain ⟨nt, hnt⟩ : ∃ nt, t.vals.length = nt := ⟨_, rfl⟩
                    rw [hnt]
                    have hdj12 := hdj.out.below hb12
                    obtain ⟨ti, ty, tv, tx⟩ := t
                    unfold tcA
                    simp only
                    simp only at HTX2 HMT
                    clear hu hnt HFI hb12 hdj
                    have hk13 := Blk.new w12 70 #[.int .i64 (ti : Int), .int .i64 (ty : Int), .slice ux nt uc, .string ⟨tx.toArray⟩]
                    have hdj13 := hdj12.below ((Below.refl w12.heap.size w12).alloc (Nat.le_refl _) (.cells #[.int .i64 (ti : Int), .int .i64 (ty : Int), .slice ux nt uc, .string ⟨tx.toArray⟩] 70))
                    go_upto_region 29 with fail
                    generalize w12.alloc (.cells #[.int .i64 (ti : Int), .int .i64 (ty : Int), .slice ux nt uc, .string ⟨tx.toArray⟩] 70) = w13 at *
                    have q1 : w13.cell? ⟨w12.heap.size, 1, none⟩ = some (.int .i64 (ty : Int)) := hk13.cell 1
                    have q3 : w13.cell? ⟨w12.heap.size, 3, none⟩ = some (.string ⟨tx.toArray⟩) := hk13.cell 3
                    have HDJ := Lib.hid hdj13
                    clear hk13 hdj13 hdj12
                    generalize w12.heap.size = K3 at *
                    go_upto_if 116 with fail
                    go_cut [16] (fun v16 wx => Hid (MRow wx v16 ms) ∧ Hid (DJ w1 wx Z K I Q W H N T PX))
                    case first =>
                      by_cases h2 : ty = 2
                      · have e2 : ((ty : Int) == 2) = true := by rw [h2]; rfl
                        have HM2 : Hid (ms = match parP tx with | .ok ms => ms | .error _ => []) := by show _ = _; rw [HMT.out, if_pos h2]
                        have HPA := Lib.hid (parse_any tx w13 (by have := HTX2.out; unfold maxLen; omega))
                        clear h2 HMT
                        cases hp : parP tx with
                        | error pk2 =>
                          obtain ⟨pp, kk⟩ := pk2
                          rw [hp] at HPA HM2
                          have hk0 := parP_err hp
                          have ek : ((kk : Int) == 0) = false := by rw [beq_eq_false_iff_ne]; omega
                          have HM3 : Hid (ms = []) := HM2.out
                          clear hp hk0 HM2
                          go_wp2_with fail
                          refine HPA.out.mono ?_
                          rintro e w14 ⟨hok, hb14⟩
                          obtain rfl : e = .returned (.tuple #[.slice none 0 0, .int .i64 pp, .int .i64 kk]) := hok
                          have HD14 := Lib.hid (HDJ.out.below hb14)
                          clear hb14 q1 q3
                          go_wp2_with fail
                          go_meet
                          case rel => exact ⟨by rw [HM3.out]; exact mrow_nil _, HD14.out⟩
                        | ok ms2 =>
                          rw [hp] at HPA HM2
                          have HM3 : Hid (ms = ms2) := HM2.out
                          clear hp HM2
                          go_wp2_with fail
                          refine HPA.out.mono ?_
                          rintro e w14 ⟨hok, hb14⟩
                          obtain ⟨mv, rfl, hmr⟩ := hok
                          have HD14 := Lib.hid (HDJ.out.below hb14)
                          have HMR := Lib.hid hmr
                          clear hb14 q1 q3 hmr
                          go_wp2_with fail
                          go_meet
                          case rel => exact ⟨by rw [HM3.out]; exact HMR.out, HD14.out⟩
                      · have e2 : ((ty : Int) == 2) = false := by rw [beq_eq_false_iff_ne]; omega
                        have HM3 : Hid (ms = []) := by show _ = _; rw [HMT.out, if_neg h2]
                        clear h2 HMT
                        go_wp2_with fail
                        go_meet
                        case rel => exact ⟨by rw [HM3.out]; exact mrow_nil _, HDJ.out⟩
                    case rest =>
                      obtain ⟨hmr, hdj⟩ := hcut
                      have HBX := Lib.hid (HBW.out wc hdj.out.bz)
                      have hIB : B < I := Nat.lt_of_lt_of_le hBZ hdj.out.zi
                      have hQB : B < Q := Nat.lt_of_lt_of_le hBZ hdj.out.zq
                      have HTI2 := Lib.hid (imgC_inf W H (.slice (some ⟨Q, 0, none⟩) N N))
                      have HT12 := Lib.hid (imgC_one W H (.slice (some ⟨Q, 0, none⟩) N N) rfl)
                      have HTS2 : Hid (img0.size = (imgC W H (.slice (some ⟨Q, 0, none⟩) N N)).size) := rfl
                      obtain ⟨T2, hT2⟩ : ∃ T, imgC W H (.slice (some ⟨Q, 0, none⟩) N N) = T := ⟨_, rfl⟩
                      have hix := hdj.out.ix
                      rw [hT2] at HTI2 HT12 HTS2 hix
                      have HIX2 := Lib.hid hix
                      have HT2 := Lib.hid hT2
                      clear hT2 hix
                      obtain ⟨xm, cm, hmv, -⟩ := _root_.id hmr.out
                      have HMV := Lib.hid hmv
                      clear hmv
                      go_wp2_with (first | refine wpList_load_row rfl 34 (.tmp 13) rfl I (by rfl) 34 T2 (0, 0) _ (by exact HIX2.out) Try.underlying34 rfl (by exact HTI2.out) ?_ | refine wpList_store_rowTo rfl 34 (.tmp 2) (.tmp 127) rfl rfl B T2 (by rfl) (by rfl) 34 _ (by exact HBX.out.2) (by exact HTI2.out) (by exact HTS2.out) (by exact HT12.out) ?_)
                      refine bodyPost_ret (v := .tuple #[.agg T2, u16, .int .i64 0]) (results_ctt rfl _ _ B 34 T2 (0, 0) _ _ _ rfl rfl rfl (HBX.out.2.rset T2) Try.underlying34 rfl HTI2.out) rfl ⟨?_, by rw [HB.out]; exact below_rset HBX.out.1 (Nat.le_refl _) _⟩
                      rw [HF0.out]
                      refine ⟨.slice (some ⟨Q, 0, none⟩) N N, u16, by rw [HT2.out], ?_, ?_⟩
                      · have hq := Blk.prow (hdj.out.qx.rset_ne T2 (show Q ≠ B by omega)) N (by rw [HPXL.out]; exact Nat.le_refl _) (by unfold maxLen; omega)
                        rw [HPXL.out] at hq
                        exact hq
                      · exact mrow_heapT hmr.out HBX.out.2 img0_nsT (fun j hj => heap_rset_ne wc B j T2 hj)
end Go.Proofs.Ytakileiomgaahaa
