/-
  The reference of tiff: strips.
-/
import Derived.Test.YtakileiomgaahaaTjp
import Derived.Test.YtakileiomgaahaaTr5
import Derived.Test.YtakileiomgaahaaTr2
import Derived.Test.YtakileiomgaahaaTk1
import Derived.BigQuiet
namespace Go.Proofs.Ytakileiomgaahaa
open Go.RowKit

theorem nAt_left (big : Bool) (a b : List UInt8) (p n : Nat) (h : p + n ≤ a.length) : nAt big (a ++ b) p n = nAt big a p n := by
  unfold nAt
  rw [List.drop_append_of_le_length (by omega), List.take_append_of_le_length (by rw [List.length_drop]; omega)]
theorem nAt_right (big : Bool) (a b : List UInt8) (p n : Nat) : nAt big (a ++ b) (a.length + p) n = nAt big b p n := by
  unfold nAt
  rw [List.drop_append]
  have : a.drop (a.length + p) = [] := List.drop_of_length_le (by omega)
  rw [this, List.nil_append, show a.length + p - a.length = p by omega]
/-- The first j samples of some bytes. -/
def smpK (H : Hd) (d : List UInt8) (j : Nat) : List Nat := (List.range j).map (smpN H d)
def smpL (H : Hd) (d : List UInt8) : List Nat := smpK H d (d.length / H.bytes)
theorem smpK_len (H : Hd) (d : List UInt8) (j : Nat) : (smpK H d j).length = j := by simp [smpK]
theorem smpK_succ (H : Hd) (d : List UInt8) (j : Nat) : smpK H d (j + 1) = smpK H d j ++ [smpN H d j] := by simp [smpK, List.range_succ]
theorem smpN_left (H : Hd) (a b : List UInt8) (i : Nat) (hb : 1 ≤ H.bytes) (h : (i + 1) * H.bytes ≤ a.length) : smpN H (a ++ b) i = smpN H a i := by
  unfold smpN
  have h2 : (i + 1) * 1 ≤ (i + 1) * H.bytes := Nat.mul_le_mul_left _ hb
  rw [nAt_left _ _ _ _ _ (by omega), nAt_left _ _ _ _ _ (by rw [Nat.succ_mul] at h; exact h)]
theorem smpN_right (H : Hd) (a b : List UInt8) (q i : Nat) (h : a.length = q * H.bytes) : smpN H (a ++ b) (q + i) = smpN H b i := by
  unfold smpN
  have e : (q + i) * H.bytes = a.length + i * H.bytes := by rw [Nat.add_mul, h]
  rw [e, nAt_right]
  by_cases h1 : H.bytes = 1
  · rw [if_pos h1, if_pos h1]
    have : q + i = a.length + i := by rw [h, h1]; omega
    rw [this, nAt_right]
  · rw [if_neg h1, if_neg h1]
theorem smpL_append (H : Hd) (a b : List UInt8) (q : Nat) (hb : 1 ≤ H.bytes) (h : a.length = q * H.bytes) : smpL H (a ++ b) = smpL H a ++ smpL H b := by
  have e1 : a.length / H.bytes = q := by rw [h]; exact Nat.mul_div_cancel _ hb
  have e2 : (a ++ b).length / H.bytes = q + b.length / H.bytes := by
    rw [List.length_append, h, Nat.add_comm, Nat.add_mul_div_right _ _ hb, Nat.add_comm]
  unfold smpL smpK
  rw [e1, e2, List.range_add, List.map_append, List.map_map]
  congr 1
  · apply List.map_congr_left
    intro i hi
    have hi' : i < q := List.mem_range.1 hi
    exact smpN_left H a b i hb (by rw [h]; exact Nat.mul_le_mul_right _ hi')
  · apply List.map_congr_left
    intro i _
    exact smpN_right H a b q i h
theorem smpL_nil (H : Hd) : smpL H [] = [] := by simp [smpL, smpK]
theorem smpN_chunk (H : Hd) (d : List UInt8) (n k j : Nat) (hj : j < n) (hb : 1 ≤ H.bytes) : smpN H (chunkT (n * H.bytes) d k) j = smpN H d (k * n + j) := by
  have key : ∀ o m, o + m ≤ n * H.bytes → nAt H.big (chunkT (n * H.bytes) d k) o m = nAt H.big d (k * n * H.bytes + o) m := fun o m h => by
    unfold nAt chunkT
    rw [List.drop_take, List.take_take, Nat.min_eq_left (by omega), List.drop_drop, Nat.mul_assoc]
  have h1 : (j + 1) * H.bytes ≤ n * H.bytes := Nat.mul_le_mul_right _ hj
  rw [Nat.succ_mul] at h1
  have h2 : j * 1 ≤ j * H.bytes := Nat.mul_le_mul_left _ hb
  unfold smpN
  by_cases hb1 : H.bytes = 1
  · rw [if_pos hb1, if_pos hb1, key _ _ (by omega), hb1, Nat.mul_one]
  · rw [if_neg hb1, if_neg hb1, key _ _ h1, Nat.add_mul]
end Go.Proofs.Ytakileiomgaahaa
namespace Go.Proofs.Ytakileiomgaahaa
open Go.RowKit

/-- What strips answers. -/
def RstOk (B : Nat) (H : Hd) (r : Except Nat (List UInt8)) (e : Ending) (w : World) : Prop :=
  match r with
  | .error k => e = .returned (.tuple #[.slice none 0 0, .int .i64 k])
  | .ok d => ∃ u, e = .returned (.tuple #[u, .int .i64 0]) ∧ ORow w B u (smpL H d)

set_option maxHeartbeats 8000000 in
set_option maxRecDepth 100000 in
theorem rstrips_any (s : ByteArray) (v : Value) (l : List Tg) (H : Hd) (n : Nat) (w : World) (hs : s.size ≤ 1000000000000000) (hs1 : 1 ≤ s.size) (hr : TRow w v l) (hbd : LBd l) (hp : (valsT l 273).length = n) (hz : (valsT l 279).length = n) (hn : n ≤ 256)
    (hkr : ∀ k, k < n → k * H.rows < H.h) (hw : H.w ≤ 256) (hh : H.h ≤ 256) (hsm : H.samples ≤ 4) (hsmf : firstN l 277 0 = H.samples) (hby : H.bytes = 1 ∨ H.bytes = 2) (hbyf : firstN l 258 0 / 8 = H.bytes) (h258 : valsT l 258 ≠ []) (hro : H.rows ≤ 4294967295) (hpk : (firstN l 259 1 == 32773) = H.packed) (hbig : (s[0].toNat == 77) = H.big) :
    Calls Try.prog 50 #[.string s, v, .int .i64 H.w, .int .i64 H.h, .int .i64 H.rows] w fun e w' => RstOk w.heap.size H (stripsG H s.data.toList (valsT l 273) (valsT l 279) n 0 []) e w' ∧ Below w.heap.size w w' := by
  have HSZ : Hid (s.data.toList.length = s.size) := ba_size s
  have bP := Lib.hid (vals_bd hbd 273)
  have bZ := Lib.hid (vals_bd hbd 279)
  obtain ⟨uP, hup, hcP⟩ := rvalues_at hr 273
  obtain ⟨uZ, huz, hcZ⟩ := rvalues_at hr 279
  obtain ⟨uB, hub, hcB⟩ := rvalues_at hr 258
  have HFS := Lib.hid (fun wx hb => rfirst_at hr 277 0 wx hb)
  have HFC := Lib.hid (fun wx hb => rfirst_at hr 259 1 wx hb)
  have hf258 : firstN l 258 0 = (valsT l 258).getD 0 0 := by unfold firstN; cases valsT l 258 <;> rfl
  have hb258 : firstN l 258 0 ≤ 4294967295 := firstN_bd hbd 258 0 (by decide)
  obtain ⟨xv, cv, rfl, -⟩ := hr
  rw [hsmf] at HFS
  generalize firstN l 259 1 = c259 at *
  generalize firstN l 258 0 = d258 at *
  generalize valsT l 273 = ps at *
  generalize valsT l 279 = zs at *
  generalize valsT l 258 = ds at *
  have HKR := Lib.hid hkr
  obtain ⟨res, hres⟩ : ∃ r, stripsG H s.data.toList ps zs n 0 [] = r := ⟨_, rfl⟩
  rw [hres]
  have HR := Lib.hid hres
  clear hres hbd hkr
  obtain ⟨HH, hHH⟩ : ∃ X, X = H := ⟨_, rfl⟩
  rw [← hHH] at HR ⊢
  have HHH := Lib.hid hHH
  clear hHH
  obtain ⟨HW, Hh, by_, sm, ph, al, ro, pk, big⟩ := H
  have HUN : Hid (∀ k t, unpK HH k t = if pk = true then unpP t (needN HH k : Nat) else .ok t) := fun k t => by rw [HHH.out]; rfl
  have HNE : Hid (∀ k, needN HH k = min ro (Hh - k * ro) * HW * sm * by_) := fun k => by rw [HHH.out]; rfl
  have HSM : Hid (∀ c k, smpN HH c k = if by_ = 1 then 257 * nAt big c k 1 else nAt big c (k * by_) by_) := fun c k => by rw [HHH.out]; rfl
  have HBYH : Hid (HH.bytes = by_) := by rw [HHH.out]; rfl
  have ew : HH.w = HW := by rw [HHH.out]
  have eh : HH.h = Hh := by rw [HHH.out]
  have er : HH.rows = ro := by rw [HHH.out]
  rw [ew, eh, er]
  clear ew eh er
  simp only at HKR hw hh hsm hsmf hby hbyf hro hpk hbig HFS ⊢
  generalize hB : w.heap.size = B at *
  have HB := Lib.hid hB
  clear hB
  have hby1 : 1 ≤ by_ := by omega
  have hby2 : by_ ≤ 2 := by omega
  have HBY := Lib.hid hby
  have HCP := Lib.hid hcP
  have HCZ := Lib.hid hcZ
  have HCB := Lib.hid hcB
  have HUP := Lib.hid hup
  have HUZ := Lib.hid huz
  have hd0 : 0 < ds.length := List.length_pos_iff.2 h258
  obtain ⟨xB, cB, rfl⟩ := hub.shape
  obtain ⟨bB, oB, rfl, hbB, k258⟩ := hub.cells 0 hd0
  rw [← hf258] at k258
  simp only [Nat.add_zero] at k258
  obtain ⟨nB, hnB⟩ : ∃ q, ds.length = q := ⟨_, rfl⟩
  rw [hnB] at hd0 HCB
  have i0 : (0 : Int) < (nB : Int) := by omega
  obtain ⟨xP, cP, hPe⟩ := hup.shape
  obtain ⟨xZ, cZ, hZe⟩ := huz.shape
  rw [hp] at hPe
  rw [hz] at hZe
  subst hPe hZe
  have m8 : (d258 : Int).tdiv 8 = (by_ : Int) := by rw [← hbyf]; exact tdiv_nat d258 8
  have HBIG := Lib.hid hbig
  have HPK := Lib.hid hpk
  clear hby hf258 h258 hsmf hcP hcZ hcB hup huz hub hnB hbyf hbig hpk
  go_enter Try.func50, Try.ntmps50
  go_upto_region 2 with fail
  go_wp2_with fail
  refine (HCP.out w (Below.refl _ _)).mono ?_
  rintro e w1 ⟨rfl, rfl⟩
  go_wp2_with fail
  refine (HCZ.out w (Below.refl _ _)).mono ?_
  rintro e w1 ⟨rfl, rfl⟩
  go_wp2_with fail
  refine (HCB.out w (Below.refl _ _)).mono ?_
  rintro e w1 ⟨rfl, rfl⟩
  clear HCP HCZ HCB
  go_upto_region 4 with fail
  clear m8 k258 i0 hb258
  go_wp2_with fail
  go_loopw [35, 12] (fun vi vo wr => ∃ (k : Nat) (out : List UInt8), vi = .int .i64 k ∧ k ≤ n ∧ Hid (stripsG HH s.data.toList ps zs (n - k) k out = res) ∧ Hid (ORow wr B vo (smpL HH out)) ∧ out.length ≤ 524288 * k ∧ Hid (∃ q, out.length = q * by_) ∧ Hid (Below B w wr) ∧ B ≤ wr.heap.size) (fun vi _ _ => n - (intOf vi).toNat)
  case atStart => exact ⟨0, [], rfl, Nat.zero_le _, HR.out, by show ORow _ _ _ _; rw [smpL_nil]; exact orow_nil _ _, Nat.zero_le _, ⟨0, by simp⟩, Below.refl _ _, by rw [HB.out]; exact Nat.le_refl _⟩
  case round =>
    obtain ⟨k, out, rfl, hk, hst, hrow, hol, hdv, hbw, hszr⟩ := hrel
    by_cases hlt : k < n
    · have dlt : decide ((k : Int) < (n : Int)) = true := by simp; omega
      obtain ⟨b, off, rfl, hbq, ha0⟩ := HUP.out.cells k (by rw [hp]; exact hlt)
      obtain ⟨b2, off2, rfl, hbq2, hz0⟩ := HUZ.out.cells k (by rw [hz]; exact hlt)
      rw [HB.out] at hbq hbq2
      have HST : Hid ((match stripP HH s.data.toList k (ps.getD k 0) (zs.getD k 0) with | .error e => .error e | .ok u => stripsG HH s.data.toList ps zs (n - (k + 1)) (k + 1) (out ++ u)) = res) := by
        show _ = _
        have := hst.out
        rw [show n - k = (n - (k + 1)) + 1 by omega, stripsG] at this
        exact this
      have bp : ps.getD k 0 ≤ 4294967295 := by
        rw [List.getD_eq_getElem?_getD, List.getElem?_eq_getElem (by omega)]
        exact bP.out _ (List.getElem_mem _)
      have bz : zs.getD k 0 ≤ 4294967295 := by
        rw [List.getD_eq_getElem?_getD, List.getElem?_eq_getElem (by omega)]
        exact bZ.out _ (List.getElem_mem _)
      generalize ps.getD k 0 = pa at *
      generalize zs.getD k 0 = za at *
      have ha : wr.cell? ⟨b, off + k, none⟩ = _ := (hbw.out.cell (p := ⟨b, _, none⟩) hbq).trans ha0
      have hzc : wr.cell? ⟨b2, off2 + k, none⟩ = _ := (hbw.out.cell (p := ⟨b2, _, none⟩) hbq2).trans hz0
      have i1 : (k : Int) < (n : Int) := by omega
      clear hst
      obtain ⟨kr, hkr⟩ : ∃ q, k * ro = q := ⟨_, rfl⟩
      have hkr2 : kr < Hh := by rw [← hkr]; exact HKR.out k hlt
      obtain ⟨hr, hhr⟩ : ∃ q, Hh - kr = q := ⟨_, rfl⟩
      obtain ⟨mr, hmr⟩ : ∃ q, min ro hr = q := ⟨_, rfl⟩
      obtain ⟨n1, hn1⟩ : ∃ q, mr * HW = q := ⟨_, rfl⟩
      obtain ⟨nj, hn2⟩ : ∃ q, n1 * sm = q := ⟨_, rfl⟩
      obtain ⟨nd, hnd⟩ : ∃ q, nj * by_ = q := ⟨_, rfl⟩
      have hne : needN HH k = nd := by rw [HNE.out k, hkr, hhr, hmr, hn1, hn2, hnd]
      have m1 : (k : Int) * (ro : Int) = (kr : Int) := by rw [← hkr]; simp
      have m2 : (Hh : Int) - (kr : Int) = (hr : Int) := by omega
      have m4 : (mr : Int) * (HW : Int) = (n1 : Int) := by rw [← hn1]; simp
      have m5 : (n1 : Int) * (sm : Int) = (nj : Int) := by rw [← hn2]; simp
      have m6 : (nj : Int) * (by_ : Int) = (nd : Int) := by rw [← hnd]; simp
      have b1 : mr ≤ 256 := by omega
      have b2' : n1 ≤ 65536 := by rw [← hn1]; exact Nat.mul_le_mul b1 hw
      have b3 : nj ≤ 262144 := by rw [← hn2]; exact Nat.mul_le_mul b2' hsm
      have b4 : nd ≤ 524288 := by rw [← hnd]; exact Nat.mul_le_mul b3 hby2
      have HND := Lib.hid hnd
      have HNEK := Lib.hid hne
      go_upto_if 45 with fail
      go_cut [17] from 36 to 137 (fun v17 wx => v17 = .int .i64 (mr : Nat) ∧ wx = wr)
      case first =>
        clear HST hrow hdv HND HNEK
        by_cases hm : hr < ro
        · have dm : decide ((hr : Int) < (ro : Int)) = true := by simp; omega
          have e : hr = mr := by omega
          clear hmr hhr
          go_wp2_with fail
          go_meet
          case rel => exact ⟨by rw [← e], rfl⟩
        · have dm : decide ((hr : Int) < (ro : Int)) = false := by simp; omega
          have e : ro = mr := by omega
          clear hmr hhr
          go_wp2_with fail
          go_meet
          case rel => exact ⟨by rw [← e], rfl⟩
      case rest =>
        obtain ⟨rfl, hwc⟩ := hcut
        have hwc2 := hwc.symm
        subst hwc2
        clear hwc
        clear hkr hhr hmr hn1 hn2 hnd hne m1 m2
        go_wp2_with fail
        refine (HFS.out _ hbw.out).mono ?_
        rintro e w1 ⟨rfl, rfl⟩
        go_upto_region 11 with fail
        clear m4 m5 m6 b1 b2'
        have hnd2 : ∃ q, nd = q * by_ := ⟨nj, HND.out.symm⟩
        by_cases hbg : s.size < pa + za
        · have HF : Hid (res = .error 2) := by show _ = _; rw [← HST.out, stripP, HSZ.out, if_pos (by omega)]
          by_cases hsp : s.size < pa
          · have d1 : decide ((s.size : Int) < (pa : Int)) = true := by simp; omega
            clear hbg HST
            go_quiet (fail)
            have HBQ := Lib.hid (below_drewN hbw.out nq)
            generalize wr.drewN nq = wq at *
            go_wp2_with fail
            refine bodyPost_ret (v := .tuple #[.slice none 0 0, .int .i64 2]) (by simp [results, Try.f50, go_sem]) rfl ⟨?_, HBQ.out⟩
            rw [HF.out]; rfl
          · have d1 : decide ((s.size : Int) < (pa : Int)) = false := by simp; omega
            have d2 : decide ((s.size : Int) - (pa : Int) < (za : Int)) = true := by simp; omega
            clear hbg HST
            go_quiet (fail)
            have HBQ := Lib.hid (below_drewN hbw.out nq)
            generalize wr.drewN nq = wq at *
            go_wp2_with fail
            refine bodyPost_ret (v := .tuple #[.slice none 0 0, .int .i64 2]) (by simp [results, Try.f50, go_sem]) rfl ⟨?_, HBQ.out⟩
            rw [HF.out]; rfl
        have d1 : decide ((s.size : Int) < (pa : Int)) = false := by simp; omega
        have d2 : decide ((s.size : Int) - (pa : Int) < (za : Int)) = false := by simp; omega
        obtain ⟨en, hen⟩ : ∃ en, en = pa + za := ⟨_, rfl⟩
        have m0 : (pa : Int) + (za : Int) = (en : Int) := by omega
        have l1 : (pa : Int) ≤ (en : Int) := by omega
        have l2 : (en : Int) ≤ (s.size : Int) := by omega
        have HT : Hid ((s.extract pa en).data.toList = (s.data.toList.drop pa).take za ∧ (s.extract pa en).size = za) := by
          refine ⟨?_, by rw [ByteArray.size_extract]; omega⟩
          rw [extract_list, List.drop_take]; congr 1; omega
        have HST2 : Hid ((match (match unpK HH k ((s.data.toList.drop pa).take za) with | .error e => .error e | .ok u => if u.length < nd then .error 5 else if nd < u.length then .error 6 else .ok u : Except Nat (List UInt8)) with | .error e => .error e | .ok u => stripsG HH s.data.toList ps zs (n - (k + 1)) (k + 1) (out ++ u)) = res) := by
          show _ = _
          rw [← HST.out, stripP, HSZ.out, if_neg (by omega), HNEK.out]
          rfl
        have hsp : ¬ s.size < pa := by omega
        clear hbg HST hen
        go_quiet (fail)
        have HBQ : Hid (Below B w (wr.drewN nq)) := below_drewN hbw.out nq
        have HRQ : Hid (ORow (wr.drewN nq) B u12 (smpL HH out)) := own_below hrow.out (below_drewN (Below.refl _ _) nq)
        have HZQ : Hid (B ≤ (wr.drewN nq).heap.size) := hszr
        replace ha : (wr.drewN nq).cell? ⟨b, off + k, none⟩ = _ := ha
        replace hzc : (wr.drewN nq).cell? ⟨b2, off2 + k, none⟩ = _ := hzc
        clear hbw hrow hszr d1 d2 hsp
        generalize wr.drewN nq = wr at *
        go_upto_region 13 with fail
        go_quiet (fail)
        have HB2 : Hid (Below B w (wr.drewN nq)) := below_drewN HBQ.out nq
        have HR2 : Hid (ORow (wr.drewN nq) B u12 (smpL HH out)) := own_below HRQ.out (below_drewN (Below.refl _ _) nq)
        have HZ2 : Hid (B ≤ (wr.drewN nq).heap.size) := HZQ.out
        clear HBQ HRQ HZQ ha hzc m0 l1 l2
        generalize wr.drewN nq = wy at *
        rw [← HT.out.1] at HST2
        have hts : (s.extract pa en).size ≤ 1000000000000000 := by rw [HT.out.2]; omega
        generalize s.extract pa en = tb at *
        clear HT
        go_wp2_with fail
        refine (HFC.out _ HB2.out).mono ?_
        rintro e w1 ⟨rfl, rfl⟩
        have HUK : Hid (unpK HH k tb.data.toList = if pk = true then unpP tb.data.toList (nd : Nat) else .ok tb.data.toList) := by show _ = _; rw [HUN.out, HNEK.out]
        go_upto_if 97 with fail
        go_cut [19] (fun v19 wx => ∃ u : ByteArray, v19 = .string u ∧ Hid (unpK HH k tb.data.toList = .ok u.data.toList) ∧ u.size ≤ 1000000000000000 ∧ Hid (ORow wx B u12 (smpL HH out)) ∧ Hid (Below B w wx) ∧ Hid (B ≤ wx.heap.size))
        case first =>
          cases pk with
          | false =>
            have HUK2 : Hid (unpK HH k tb.data.toList = .ok tb.data.toList) := by show _ = _; rw [HUK.out, if_neg (by decide)]
            have e97 : ((c259 : Int) == 32773) = false := by
              have := HPK.out
              rw [beq_eq_false_iff_ne] at this ⊢
              omega
            clear HUK HUN HST2
            go_wp2_with fail
            go_meet
            case rel => exact ⟨tb, rfl, HUK2.out, hts, HR2.out, HB2.out, HZ2.out⟩
          | true =>
            have HUK2 : Hid (unpK HH k tb.data.toList = unpP tb.data.toList (nd : Nat)) := by show _ = _; rw [HUK.out, if_pos rfl]
            have e97 : ((c259 : Int) == 32773) = true := by
              have := HPK.out
              rw [beq_iff_eq] at this ⊢
              omega
            have HUP := Lib.hid (runpack_any tb (nd : Int) wy hts)
            clear HUK HUN
            cases hu : unpP tb.data.toList (nd : Int) with
            | error e =>
              rw [hu] at HUP HUK2
              have he := unpP_err hu
              have ee : ((e : Int) != 0) = true := by unfold bne; rw [Bool.not_eq_true', beq_eq_false_iff_ne]; omega
              have HF : Hid (res = .error e) := by show _ = _; rw [← HST2.out, HUK2.out]
              clear hu he HST2 HUK2
              go_wp2_with fail
              refine HUP.out.mono ?_
              rintro e' w3 ⟨hok, hb3⟩
              obtain rfl : e' = .returned (.tuple #[.string ⟨#[]⟩, .int .i64 e]) := hok
              have HB3 : Hid (Below B w w3) := HB2.out.trans (hb3.mono HZ2.out)
              clear hb3
              go_wp2_with fail
              refine bodyPost_ret (v := .tuple #[.slice none 0 0, .int .i64 e]) (by simp [results, Try.f50, go_sem]) rfl ⟨?_, HB3.out⟩
              rw [HF.out]; rfl
            | ok ul =>
              rw [hu] at HUP HUK2
              have hul : ul.length ≤ 1048576 := unpP_len hu
              clear hu HST2
              go_wp2_with fail
              refine HUP.out.mono ?_
              rintro e' w3 ⟨hok, hb3⟩
              obtain rfl : e' = .returned (.tuple #[.string ⟨ul.toArray⟩, .int .i64 0]) := hok
              have HR3 : Hid (ORow w3 B u12 (smpL HH out)) := own_below HR2.out hb3
              have HB3 : Hid (Below B w w3) := HB2.out.trans (hb3.mono HZ2.out)
              have HZ3 : Hid (B ≤ w3.heap.size) := Nat.le_trans HZ2.out hb3.size
              clear hb3 HR2 HB2 HZ2
              go_wp2_with fail
              go_meet
              case rel => exact ⟨⟨ul.toArray⟩, rfl, HUK2.out, by rw [ba_len]; omega, HR3.out, HB3.out, HZ3.out⟩
        case rest =>
          obtain ⟨u, rfl, huk, hus, HRW, HBW, HZW⟩ := hcut
          clear HR2 HB2 HZ2 HUK hts
          have HST3 : Hid ((match (if u.size < nd then .error 5 else if nd < u.size then .error 6 else .ok u.data.toList : Except Nat (List UInt8)) with | .error e => .error e | .ok u => stripsG HH s.data.toList ps zs (n - (k + 1)) (k + 1) (out ++ u)) = res) := by
            show _ = _
            rw [← HST2.out, huk.out]
            simp only [ba_size]
          clear HST2 huk
          by_cases hsh : u.size < nd
          · have d5 : decide ((u.size : Int) < (nd : Int)) = true := by simp; omega
            have HF : Hid (res = .error 5) := by show _ = _; rw [← HST3.out, if_pos hsh]
            clear HST3
            go_wp2_with fail
            refine bodyPost_ret (v := .tuple #[.slice none 0 0, .int .i64 5]) (by simp [results, Try.f50, go_sem]) rfl ⟨?_, HBW.out⟩
            rw [HF.out]; rfl
          have d5 : decide ((u.size : Int) < (nd : Int)) = false := by simp; omega
          by_cases hlg : nd < u.size
          · have d6 : decide ((nd : Int) < (u.size : Int)) = true := by simp; omega
            have HF : Hid (res = .error 6) := by show _ = _; rw [← HST3.out, if_neg hsh, if_pos hlg]
            clear HST3
            go_wp2_with fail
            refine bodyPost_ret (v := .tuple #[.slice none 0 0, .int .i64 6]) (by simp [results, Try.f50, go_sem]) rfl ⟨?_, HBW.out⟩
            rw [HF.out]; rfl
          have d6 : decide ((nd : Int) < (u.size : Int)) = false := by simp; omega
          have hund : u.size = nd := by omega
          have HST4 : Hid (stripsG HH s.data.toList ps zs (n - (k + 1)) (k + 1) (out ++ u.data.toList) = res) := by
            show _ = _
            rw [← HST3.out, if_neg hsh, if_neg hlg]
          clear HST3
          go_upto_region 23 with fail
          have HUND := Lib.hid hund
          clear d5 d6 hsh hlg hund
          obtain ⟨b0, hb0⟩ : ∃ b, s[0] = b := ⟨_, rfl⟩
          have e77 : ((b0.toNat : Int) == 77) = big := by
            have := HBIG.out
            rw [hb0] at this
            rw [← this]
            by_cases h : b0.toNat = 77
            · rw [h]; rfl
            · rw [beq_false_of_ne h, beq_false_of_ne (by omega)]
          have i00 : 0 < s.size := hs1
          have w77 : wrap64 (b0.toNat : Int) = (b0.toNat : Int) := wrap64_byte' _
          have HKN : Hid (∀ (i : Nat) w, i + by_ ≤ nd → Calls Try.prog 38 #[.string u, .int .i64 i, .int .i64 by_, .bool big] w fun e w' => e = .returned (.int .i64 (nAt big u.data.toList i by_ : Nat)) ∧ w = w') := fun i w h => rnumber_any u i by_ big w (by rw [HUND.out]; exact h) (by omega) hus
          have hol2 : (smpL HH out).length ≤ 524288 * k := by
            unfold smpL
            rw [smpK_len]
            exact Nat.le_trans (Nat.div_le_self _ _) hol
          obtain ⟨OUT, hOUT⟩ : ∃ l, smpL HH out = l := ⟨_, rfl⟩
          have HOUT := Lib.hid hOUT
          rw [hOUT] at HRW hol2
          have HHB := HBYH
          clear hOUT
          have HUL : Hid (u.data.toList.length = nj * by_) := by show _ = _; rw [ba_size, HUND.out, HND.out]
          obtain ⟨UL, hUL⟩ : ∃ l, u.data.toList = l := ⟨_, rfl⟩
          rw [hUL] at HST4 HKN HUL
          have hnjb := b3
          clear hUL
          go_wp2_with fail
          go_loopw [22, 12] (fun vi vo wr => ∃ j jb : Nat, vi = .int .i64 jb ∧ Hid (jb = j * by_) ∧ j ≤ nj ∧ Hid (ORow wr B vo (OUT ++ smpK HH UL j)) ∧ Hid (Below B w wr) ∧ Hid (B ≤ wr.heap.size)) (fun vi _ _ => nd - (intOf vi).toNat)
          case atStart => exact ⟨0, 0, rfl, by show _ = _; simp, Nat.zero_le _, by show ORow _ _ _ _; rw [show smpK HH UL 0 = [] from rfl, List.append_nil]; exact HRW.out, HBW.out, HZW.out⟩
          case round =>
            obtain ⟨j, jb, rfl, hjb, hj, hrw, hbw, hzw⟩ := hrel
            clear HRW HBW HZW
            by_cases hjl : jb < nd
            ·
              have dj : decide ((jb : Int) < (nd : Int)) = true := by simp; omega
              have hjn : j < nj := by
                rcases Nat.lt_or_ge j nj with h | h
                · exact h
                · have := Nat.mul_le_mul_right by_ h
                  have h1 := hjb.out; have h2 := HND.out
                  omega
              have hje : jb + by_ ≤ nd := by
                have := Nat.mul_le_mul_right by_ hjn
                rw [Nat.succ_mul] at this
                have h1 := hjb.out; have h2 := HND.out
                omega
              have HN1 := Lib.hid (fun w => HKN.out jb w hje)
              have hnb : nAt big UL jb by_ < 256 ^ by_ := nAt_lt big UL jb by_
              have HSV : Hid ((by_ = 1 → smpN HH UL j = 257 * nAt big UL jb by_ ∧ nAt big UL jb by_ ≤ 255) ∧ (by_ ≠ 1 → smpN HH UL j = nAt big UL jb by_)) := by
                refine ⟨fun h => ?_, fun h => ?_⟩
                · have e := hjb.out
                  rw [h, Nat.mul_one] at e
                  rw [HSM.out, if_pos h, h, e]
                  rw [h, e] at hnb
                  exact ⟨rfl, by omega⟩
                · rw [HSM.out, if_neg h, hjb.out]
              have hsv : smpN HH UL j ≤ 65535 := smpN_le HH UL j (by rw [HHB.out]; exact HBY.out)
              have hnv : nAt big UL jb by_ ≤ 65535 := by
                have : 256 ^ by_ ≤ 256 ^ 2 := Nat.pow_le_pow_right (by decide) hby2
                have h3 : (256 : Nat) ^ 2 = 65536 := by decide
                omega
              have HKS : Hid (smpK HH UL (j + 1) = smpK HH UL j ++ [smpN HH UL j]) := smpK_succ HH UL j
              obtain ⟨ACC, hACC⟩ : ∃ l, OUT ++ smpK HH UL j = l := ⟨_, rfl⟩
              have HACC : Hid (OUT ++ smpK HH UL (j + 1) = ACC ++ [smpN HH UL j]) := by show _ = _; rw [HKS.out, ← List.append_assoc, hACC]
              have hal : ACC.length ≤ 524288 * k + 262144 := by
                rw [← hACC, List.length_append, smpK_len]; omega
              rw [hACC] at hrw
              generalize smpN HH UL j = sv at *
              generalize nAt big UL jb by_ = nv at *
              clear hACC HKS hnb
              go_wp2_with fail
              refine (HN1.out _).mono ?_
              rintro e w1 ⟨rfl, rfl⟩
              go_upto_if 130 with fail
              go_cut [23] (fun v23 wx => v23 = .int .i64 (sv : Nat) ∧ wx = wr)
              case first =>
                by_cases h1 : by_ = 1
                · obtain ⟨h2, h3⟩ := HSV.out.1 h1
                  have e1 : ((by_ : Int) == 1) = true := by rw [h1]; rfl
                  have HF8 : Hid (∀ w, Calls Try.prog 78 #[.int .i64 (nv : Int)] w fun e w' => e = .returned (.int .i64 (sv : Nat)) ∧ w = w') := fun w => by
                    have := rfrom8_any (nv : Int) w
                    rwa [from8I_nat nv h3, ← h2] at this
                  clear h1 h2 h3 HSV
                  go_wp2_with fail
                  refine (HF8.out _).mono ?_
                  rintro e w1 ⟨rfl, rfl⟩
                  go_wp2_with fail
                  go_meet
                  case rel => exact ⟨rfl, rfl⟩
                · have h2 := HSV.out.2 h1
                  have e1 : ((by_ : Int) == 1) = false := by rw [beq_eq_false_iff_ne]; omega
                  clear HSV h1
                  go_wp2_with fail
                  go_meet
                  case rel => exact ⟨by rw [h2], rfl⟩
              case rest =>
                obtain ⟨rfl, hwc⟩ := hcut
                have hwc2 := hwc.symm
                subst hwc2
                clear hwc HSV
                obtain ⟨xo, co, rfl⟩ := hrw.out.shape
                have hown := hrw.out
                unfold ORow at hown
                obtain ⟨an, han⟩ : ∃ a, ACC.length = a := ⟨_, rfl⟩
                rw [han] at hown hal ⊢
                have hzz : B ≤ wr.heap.size := hzw.out
                have hanb : an ≤ 200000000 := by omega
                have HAN := Lib.hid han
                clear hrw han
                go_wp2_with (at_builtin; refine wpList_app el_int hown hzz rfl rfl rfl (m := 0) rfl (by simp [Value.oneCell']) rfl (by omega) (by unfold maxLen; omega) ?_)
                intro r2 cap2 w5 ho5 hg5 _
                have hbel := below_app hbw.out hzz hown hg5
                have hrow5 := orow_more ho5 [sv] rfl (by rw [HAN.out]; rfl)
                have HROW5 := Lib.hid hrow5
                have HB5 := Lib.hid hbel.1
                have HZ5 := Lib.hid hbel.2
                have HJN := Lib.hid hjn
                have HJE : Hid (jb + by_ = (j + 1) * by_) := by show _ = _; rw [Nat.succ_mul, hjb.out]
                clear ho5 hg5 hbel hrow5 hown hbw hzz hzw
                go_wp2_with fail
                go_roundw
                case rel => exact ⟨j + 1, jb + by_, by go_num, HJE.out, HJN.out, by show ORow _ _ _ _; rw [HACC.out]; exact HROW5.out, HB5.out, HZ5.out⟩
                case measure => simp [intOf]; omega
            · have dj : decide ((jb : Int) < (nd : Int)) = false := by simp; omega
              have hjn : j = nj := by
                rcases Nat.lt_or_ge j nj with h | h
                · have := Nat.mul_le_mul_right by_ h
                  rw [Nat.succ_mul] at this
                  have h1 := hjb.out; have h2 := HND.out
                  omega
                · omega
              obtain ⟨q, hq⟩ := hdv.out
              have HSA : Hid (smpL HH (out ++ UL) = OUT ++ smpK HH UL j) := by
                show _ = _
                rw [smpL_append HH out UL q (by rw [HHB.out]; exact hby1) (by rw [HHB.out]; exact hq), HOUT.out, smpL, HUL.out, HHB.out, Nat.mul_div_cancel _ (by omega), hjn]
              have HLN : Hid ((out ++ UL).length ≤ 524288 * (k + 1) ∧ ∃ q, (out ++ UL).length = q * by_) := by
                refine ⟨?_, q + nj, ?_⟩
                · rw [List.length_append, HUL.out, HND.out]; omega
                · rw [List.length_append, HUL.out, hq, Nat.add_mul]
              clear hjn hq HKN
              go_wp2_with fail
              go_roundw
              case rel => exact ⟨k + 1, out ++ UL, by go_num, by omega, HST4.out, by show ORow _ _ _ _; rw [HSA.out]; exact hrw.out, HLN.out.1, HLN.out.2, hbw.out, hzw.out⟩
              case measure => simp [intOf]; omega
    · have dlt : decide ((k : Int) < (n : Int)) = false := by simp; omega
      have hkn : k = n := by omega
      have HF : Hid (res = .ok out) := by show _ = _; rw [← hst.out, hkn, Nat.sub_self, stripsG]
      clear hst hkn HKR
      go_wp2_with fail
      refine bodyPost_ret (v := .tuple #[u12, .int .i64 0]) (by simp [results, Try.f50, go_sem]) rfl ⟨?_, hbw.out⟩
      rw [HF.out]
      exact ⟨u12, rfl, hrow.out⟩
end Go.Proofs.Ytakileiomgaahaa
