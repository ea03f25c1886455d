/-
  The program of tiff: readStrips.
-/
import Derived.Test.YtakileiomgaahaaTj6
import Derived.Test.YtakileiomgaahaaTi7
namespace Go.Proofs.Ytakileiomgaahaa
open Go.RowKit

def needN (H : Hd) (k : Nat) : Nat := min H.rows (H.h - k * H.rows) * H.w * H.samples * H.bytes
def unpK (H : Hd) (k : Nat) (t : List UInt8) : Except Nat (List UInt8) := if H.packed then unpP t (needN H k : Nat) else .ok t
/-- The samples of a strip. -/
def stripP (H : Hd) (s : List UInt8) (k a z : Nat) : Except Nat (List UInt8) :=
  if s.length < a + z then .error 2
  else match unpK H k ((s.drop a).take z) with
  | .error e => .error e
  | .ok u => if u.length < needN H k then .error 5 else if needN H k < u.length then .error 6 else .ok u
def stripsG (H : Hd) (s : List UInt8) (ps zs : List Nat) : Nat → Nat → List UInt8 → Except Nat (List UInt8)
  | 0, _, out => .ok out
  | n + 1, k, out => match stripP H s k (ps.getD k 0) (zs.getD k 0) with | .error e => .error e | .ok u => stripsG H s ps zs n (k + 1) (out ++ u)
theorem unpF_err {f n : Nat} {l out : List UInt8} {k : Nat} (h : unpF f n l out = .error k) : k ≠ 0 := by
  induction f generalizing l out with
  | zero => unfold unpF at h; injection h with h; omega
  | succ f ih =>
    cases l with
    | nil =>
      have e : unpF (f + 1) n [] out = if out.length < n then .error 5 else if ([] : List UInt8) = [] then .ok out else .error 6 := rfl
      rw [e] at h
      repeat' split at h
      all_goals first | (cases h; done) | (injection h with h; omega)
    | cons b t =>
      rw [unpF_cons] at h
      repeat' split at h
      all_goals first | exact ih h | (injection h with h; omega)
theorem unpP_err {l : List UInt8} {n : Int} {k : Nat} (h : unpP l n = .error k) : k ≠ 0 := by
  unfold unpP at h
  split at h
  · injection h with h; omega
  · exact unpF_err h
theorem unpF_len {f n : Nat} {l out : List UInt8} {u : List UInt8} (h : unpF f n l out = .ok u) (ho : out.length ≤ n) : u.length ≤ n := by
  induction f generalizing l out with
  | zero => unfold unpF at h; cases h
  | succ f ih =>
    cases l with
    | nil =>
      have e : unpF (f + 1) n [] out = if out.length < n then .error 5 else if ([] : List UInt8) = [] then .ok out else .error 6 := rfl
      rw [e] at h
      split at h
      · cases h
      · rw [if_pos rfl] at h
        injection h with h
        rw [← h]; exact ho
    | cons b t =>
      rw [unpF_cons] at h
      split at h
      · split at h
        · exact ih h ho
        · split at h
          · cases h
          · split at h
            · cases h
            · rename_i h4 h5
              refine ih h ?_
              rw [List.length_append, pcB_len b t h5]
              omega
      · cases h
theorem unpP_len {l : List UInt8} {n : Int} {u : List UInt8} (h : unpP l n = .ok u) : u.length ≤ 1048576 := by
  unfold unpP at h
  split at h
  · cases h
  · have := unpF_len h (Nat.zero_le _)
    omega
theorem stripP_err {H : Hd} {s : List UInt8} {k a z e : Nat} (h : stripP H s k a z = .error e) : e ≠ 0 := by
  unfold stripP unpK at h
  split at h
  · injection h with h; omega
  · split at h
    · rename_i e' he
      split at he
      · injection h with h; rw [← h]; exact unpP_err he
      · cases he
    · split at h
      · injection h with h; omega
      · split at h
        · injection h with h; omega
        · cases h
theorem IRow.cells {w : World} {x : Option Addr} {n c : Nat} {l : List Nat} (h : IRow w (.slice x n c) l) (k : Nat) (hk : k < l.length) : ∃ b off, x = some ⟨b, off, none⟩ ∧ b < w.heap.size ∧ w.cell? ⟨b, off + k, none⟩ = some (.int .i64 (l.getD k 0 : Nat)) := by
  obtain ⟨x', c', hv, _, _, hcell⟩ := h
  cases hv
  obtain ⟨b, off, rfl, hc⟩ := hcell (by rintro rfl; simp at hk)
  have := hc k hk
  refine ⟨b, off, rfl, World.block_lt_of_cell? w _ this, ?_⟩
  rw [this, List.getD_eq_getElem?_getD, List.getElem?_eq_getElem hk]; rfl

set_option maxHeartbeats 8000000 in
set_option maxRecDepth 100000 in
theorem tstrips_any (s : ByteArray) (v : Value) (l : List Tg) (H : Hd) (n : Nat) (w : World) (hs : s.size ≤ 1000000000000000) (hr : TRow w v l) (hbd : LBd l) (hp : (valsT l 273).length = n) (hz : (valsT l 279).length = n) (hn : n ≤ 256)
    (hkr : ∀ k, k < n → k * H.rows < H.h) (hw : H.w ≤ 256) (hh : H.h ≤ 256) (hsm : H.samples ≤ 4) (hby : H.bytes ≤ 2) (hro : H.rows ≤ 4294967295) :
    Calls Try.prog 44 #[.string s, v, .agg (hdA H)] w fun e w' => UnpOk (stripsG H s.data.toList (valsT l 273) (valsT l 279) n 0 []) e ∧ Below w.heap.size w w' := by
  have HSZ : Hid (s.data.toList.length = s.size) := ba_size s
  have bP := Lib.hid (vals_bd hbd 273)
  have bZ := Lib.hid (vals_bd hbd 279)
  have HD : Hid (∀ wx, Below w.heap.size w wx → Calls Try.prog 40 #[v, .int .i64 273] wx fun e w' => ∃ u, e = .returned (.tuple #[.agg (tcA ((findT l 273).getD tag0) u), .bool (findT l 273).isSome]) ∧ IRow w' u (valsT l 273) ∧ Below w.heap.size w w' ∧ Below wx.heap.size wx w') := find_at hr 273
  have HE : Hid (∀ wx, Below w.heap.size w wx → Calls Try.prog 40 #[v, .int .i64 279] wx fun e w' => ∃ u, e = .returned (.tuple #[.agg (tcA ((findT l 279).getD tag0) u), .bool (findT l 279).isSome]) ∧ IRow w' u (valsT l 279) ∧ Below w.heap.size w w' ∧ Below wx.heap.size wx w') := find_at hr 279
  obtain ⟨xv, cv, rfl, -⟩ := hr
  generalize valsT l 273 = ps at *
  generalize valsT l 279 = zs at *
  generalize (findT l 273).getD tag0 = t at *
  generalize (findT l 273).isSome = bs at *
  generalize (findT l 279).getD tag0 = t2 at *
  generalize (findT l 279).isSome = bs2 at *
  have HKR := Lib.hid hkr
  have HRES : Hid (stripsG H s.data.toList ps zs n 0 [] = stripsG H s.data.toList ps zs n 0 []) := rfl
  obtain ⟨res, hres⟩ : ∃ r, stripsG H s.data.toList ps zs n 0 [] = r := ⟨_, rfl⟩
  rw [hres]
  have HR := Lib.hid hres
  clear HRES hres hbd hkr
  obtain ⟨HH, hHH⟩ : ∃ X, X = H := ⟨_, rfl⟩
  rw [← hHH] at HR
  have HHH := Lib.hid hHH
  clear hHH
  obtain ⟨HW, Hh, by_, sm, ph, al, ro, pk, big⟩ := H
  have HUN : Hid (∀ k t, unpK HH k t = if pk = true then unpP t (needN HH k : Nat) else .ok t) := fun k t => by rw [HHH.out]; rfl
  have HNE : Hid (∀ k, needN HH k = min ro (Hh - k * ro) * HW * sm * by_) := fun k => by rw [HHH.out]; rfl
  simp only at HKR hw hh hsm hby hro
  have h0 := Blk.new w 81 (hdA ⟨HW, Hh, by_, sm, ph, al, ro, pk, big⟩)
  have hb0 := (Below.refl w.heap.size w).alloc (Nat.le_refl _) (.cells (hdA ⟨HW, Hh, by_, sm, ph, al, ro, pk, big⟩) 81)
  have e0 : w.alloc (.cells #[.int .i64 (HW : Int), .int .i64 (Hh : Int), .int .i64 (by_ : Int), .int .i64 (sm : Int), .int .i64 (ph : Int), .int .i64 (al : Int), .int .i64 (ro : Int), .bool pk, .bool big] 81) = w.alloc (.cells (hdA ⟨HW, Hh, by_, sm, ph, al, ro, pk, big⟩) 81) := rfl
  unfold hdA
  simp only
  go_enter Try.func44, Try.ntmps44
  go_upto_region 1 with fail
  generalize w.alloc (.cells (hdA ⟨HW, Hh, by_, sm, ph, al, ro, pk, big⟩) 81) = wz at *
  clear e0
  generalize hB : w.heap.size = B at *
  have HB := Lib.hid hB
  clear hB
  go_wp2_with fail
  refine (HD.out _ hb0).mono ?_
  rintro e w1 ⟨u, rfl, hu, hb1, hb1'⟩
  obtain ⟨ux, uc, rfl⟩ := hu.shape
  rw [hp] at hu ⊢
  have h1 : Blk w1 B 81 (hdA ⟨HW, Hh, by_, sm, ph, al, ro, pk, big⟩) := (hb1'.block _ h0.lt).trans h0
  obtain ⟨ti, ty, tv, tx⟩ := t
  unfold tcA
  simp only
  have HU := Lib.hid hu
  have H1 := Lib.hid h1
  have HB1 := Lib.hid hb1
  clear hu hb1' h0 h1 HD hb0 hb1
  have hk := Blk.new w1 70 #[.int .i64 (ti : Int), .int .i64 (ty : Int), .slice ux n uc, .string ⟨tx.toArray⟩]
  have hka := (Below.refl w1.heap.size w1).alloc (Nat.le_refl _) (.cells #[.int .i64 (ti : Int), .int .i64 (ty : Int), .slice ux n uc, .string ⟨tx.toArray⟩] 70)
  go_upto_region 2 with fail
  have HU2 := Lib.hid (HU.out.below hka)
  have H2 := Lib.hid (H1.out.alloc (.cells #[.int .i64 (ti : Int), .int .i64 (ty : Int), .slice ux n uc, .string ⟨tx.toArray⟩] 70))
  have HB2 : Hid (Below B w (w1.alloc (.cells #[.int .i64 (ti : Int), .int .i64 (ty : Int), .slice ux n uc, .string ⟨tx.toArray⟩] 70))) := HB1.out.alloc (Nat.le_of_lt H1.out.lt) _
  generalize w1.alloc (.cells #[.int .i64 (ti : Int), .int .i64 (ty : Int), .slice ux n uc, .string ⟨tx.toArray⟩] 70) = wy at *
  have HK1 := Lib.hid hk
  clear hk hka HU H1 HB1
  generalize w1.heap.size = K1 at *
  go_wp2_with fail
  refine (HE.out _ HB2.out).mono ?_
  rintro e w2 ⟨u2, rfl, hu2, hb2, hb2'⟩
  obtain ⟨ux2, uc2, rfl⟩ := hu2.shape
  rw [hz] at hu2 ⊢
  have HU3 := Lib.hid (HU2.out.below hb2')
  have HK2 : Hid (Blk w2 K1 70 #[.int .i64 (ti : Int), .int .i64 (ty : Int), .slice ux n uc, .string ⟨tx.toArray⟩]) := (hb2'.block _ HK1.out.lt).trans HK1.out
  have H3 : Hid (Blk w2 B 81 (hdA ⟨HW, Hh, by_, sm, ph, al, ro, pk, big⟩)) := (hb2'.block _ H2.out.lt).trans H2.out
  obtain ⟨ti2, ty2, tv2, tx2⟩ := t2
  unfold tcA
  simp only
  have HV := Lib.hid hu2
  have HB3 := Lib.hid hb2
  clear hu2 hb2 hb2' HU2 HK1 H2 HB2 HE
  have hk := Blk.new w2 70 #[.int .i64 (ti2 : Int), .int .i64 (ty2 : Int), .slice ux2 n uc2, .string ⟨tx2.toArray⟩]
  have hka := (Below.refl w2.heap.size w2).alloc (Nat.le_refl _) (.cells #[.int .i64 (ti2 : Int), .int .i64 (ty2 : Int), .slice ux2 n uc2, .string ⟨tx2.toArray⟩] 70)
  go_upto_region 3 with fail
  have HU4 := Lib.hid (HU3.out.below hka)
  have HV4 := Lib.hid (HV.out.below hka)
  have HK4 := Lib.hid (HK2.out.alloc (.cells #[.int .i64 (ti2 : Int), .int .i64 (ty2 : Int), .slice ux2 n uc2, .string ⟨tx2.toArray⟩] 70))
  have H4 := Lib.hid (H3.out.alloc (.cells #[.int .i64 (ti2 : Int), .int .i64 (ty2 : Int), .slice ux2 n uc2, .string ⟨tx2.toArray⟩] 70))
  have HB4 : Hid (Below B w (w2.alloc (.cells #[.int .i64 (ti2 : Int), .int .i64 (ty2 : Int), .slice ux2 n uc2, .string ⟨tx2.toArray⟩] 70))) := HB3.out.alloc (Nat.le_of_lt H3.out.lt) _
  generalize w2.alloc (.cells #[.int .i64 (ti2 : Int), .int .i64 (ty2 : Int), .slice ux2 n uc2, .string ⟨tx2.toArray⟩] 70) = wq at *
  have HL4 := Lib.hid hk
  clear hk hka HU3 HV HK2 H3 HB3
  generalize w2.heap.size = K2 at *
  have q1 : wq.cell? ⟨K1, 2, none⟩ = some (.slice ux n uc) := HK4.out.cell 2
  go_wp2_with fail
  clear q1
  generalize hZ : wq.heap.size = Z at *
  have HZ := Lib.hid hZ
  have hBZ : B < Z := by rw [← hZ]; exact H4.out.lt
  have hKZ : K2 < Z := by rw [← hZ]; exact HL4.out.lt
  clear hZ
  go_loopw [33, 12] (fun vi vo wr => ∃ (k : Nat) (out : List UInt8), vi = .int .i64 k ∧ k ≤ n ∧ Hid (stripsG HH s.data.toList ps zs (n - k) k out = res) ∧ Hid (BRow wr Z 5 vo out) ∧ out.length ≤ 524288 * k ∧ Hid (Below Z wq wr) ∧ Z ≤ wr.heap.size) (fun vi _ _ => n - (intOf vi).toNat)
  case atStart => exact ⟨0, [], rfl, Nat.zero_le _, HR.out, World.ownsRow_nil _ _ _ _, Nat.zero_le _, Below.refl _ _, by rw [HZ.out]; exact Nat.le_refl _⟩
  case round =>
    obtain ⟨k, out, rfl, hk, hst, hrow, hol, hbw, hszr⟩ := hrel
    have HBW : Hid (Below B w wr) := HB4.out.trans (hbw.out.mono (Nat.le_of_lt hBZ))
    by_cases hlt : k < n
    · have dlt : decide ((k : Int) < (n : Int)) = true := by simp; omega
      obtain ⟨b, off, rfl, hbq, ha0⟩ := HU4.out.cells k (by rw [hp]; exact hlt)
      obtain ⟨b2, off2, rfl, hbq2, hz0⟩ := HV4.out.cells k (by rw [hz]; exact hlt)
      rw [HZ.out] at hbq hbq2
      have ha : wr.cell? ⟨b, off + k, none⟩ = _ := (hbw.out.cell (p := ⟨b, _, none⟩) hbq).trans ha0
      have hzc : wr.cell? ⟨b2, off2 + k, none⟩ = _ := (hbw.out.cell (p := ⟨b2, _, none⟩) hbq2).trans hz0
      have q2 : wr.cell? ⟨K2, 2, none⟩ = some (.slice (some ⟨b2, off2, none⟩) n uc2) := (hbw.out.cell (p := ⟨K2, 2, none⟩) hKZ).trans (HL4.out.cell 2)
      have HST : Hid ((match stripP HH s.data.toList k (ps.getD k 0) (zs.getD k 0) with | .error e => .error e | .ok u => stripsG HH s.data.toList ps zs (n - (k + 1)) (k + 1) (out ++ u)) = res) := by
        show _ = _
        have := hst.out
        rw [show n - k = (n - (k + 1)) + 1 by omega, stripsG] at this
        exact this
      have bp : ps.getD k 0 ≤ 4294967295 := by
        rw [List.getD_eq_getElem?_getD, List.getElem?_eq_getElem (by omega)]
        exact bP.out _ (List.getElem_mem _)
      have bz : zs.getD k 0 ≤ 4294967295 := by
        rw [List.getD_eq_getElem?_getD, List.getElem?_eq_getElem (by omega)]
        exact bZ.out _ (List.getElem_mem _)
      generalize ps.getD k 0 = pa at *
      generalize zs.getD k 0 = za at *
      have i1 : (k : Int) < (n : Int) := by omega
      clear ha0 hz0 hst
      obtain ⟨en, hen⟩ : ∃ en, en = pa + za := ⟨_, rfl⟩
      have m0 : (pa : Int) + (za : Int) = (en : Int) := by omega
      by_cases hbig : s.size < en
      · have HF : Hid (res = .error 2) := by show _ = _; rw [← HST.out, stripP, HSZ.out, if_pos (by omega)]
        have d2 : decide ((s.size : Int) < (en : Int)) = true := by simp; omega
        clear hen
        go_wp2_with fail
        refine bodyPost_ret (v := .tuple #[.string ⟨#[]⟩, .int .i64 2]) (by simp [results, Try.f44, go_sem]) rfl ⟨?_, by rw [HB.out]; exact HBW.out⟩
        rw [HF.out]; rfl
      have d2 : decide ((s.size : Int) < (en : Int)) = false := by simp; omega
      have l1 : (pa : Int) ≤ (en : Int) := by omega
      have l2 : (en : Int) ≤ (s.size : Int) := by omega
      have HT : Hid ((s.extract pa en).data.toList = (s.data.toList.drop pa).take za ∧ (s.extract pa en).size = za) := by
        refine ⟨?_, by rw [ByteArray.size_extract]; omega⟩
        rw [extract_list, List.drop_take]; congr 1; omega
      have HST2 : Hid ((match (match unpK HH k ((s.data.toList.drop pa).take za) with | .error e => .error e | .ok u => if u.length < needN HH k then .error 5 else if needN HH k < u.length then .error 6 else .ok u : Except Nat (List UInt8)) with | .error e => .error e | .ok u => stripsG HH s.data.toList ps zs (n - (k + 1)) (k + 1) (out ++ u)) = res) := by
        show _ = _
        rw [← HST.out, stripP, HSZ.out, if_neg (by omega)]
      have hens : en ≤ s.size := by omega
      clear hen hbig HST
      go_upto_region 10 with fail
      clear d2 ha hzc q2
      go_upto_region 11 with fail
      clear l1 l2 m0
      rw [← HT.out.1] at HST2
      have hts : (s.extract pa en).size ≤ 1000000000000000 := by rw [HT.out.2]; omega
      generalize s.extract pa en = tb at *
      clear HT
      have hd : Blk wr B 81 (hdA ⟨HW, Hh, by_, sm, ph, al, ro, pk, big⟩) := (hbw.out.block _ hBZ).trans H4.out
      have c0 : wr.cell? ⟨B, 0, none⟩ = some (.int .i64 (HW : Int)) := hd.cell 0
      have c1 : wr.cell? ⟨B, 1, none⟩ = some (.int .i64 (Hh : Int)) := hd.cell 1
      have c2 : wr.cell? ⟨B, 2, none⟩ = some (.int .i64 (by_ : Int)) := hd.cell 2
      have c3 : wr.cell? ⟨B, 3, none⟩ = some (.int .i64 (sm : Int)) := hd.cell 3
      have c6 : wr.cell? ⟨B, 6, none⟩ = some (.int .i64 (ro : Int)) := hd.cell 6
      have c7 : wr.cell? ⟨B, 7, none⟩ = some (.bool pk) := hd.cell 7
      obtain ⟨kr, hkr⟩ : ∃ q, k * ro = q := ⟨_, rfl⟩
      have hkr2 : kr < Hh := by rw [← hkr]; exact HKR.out k hlt
      obtain ⟨hr, hhr⟩ : ∃ q, Hh - kr = q := ⟨_, rfl⟩
      obtain ⟨mr, hmr⟩ : ∃ q, min ro hr = q := ⟨_, rfl⟩
      obtain ⟨n1, hn1⟩ : ∃ q, mr * HW = q := ⟨_, rfl⟩
      obtain ⟨n2, hn2⟩ : ∃ q, n1 * sm = q := ⟨_, rfl⟩
      obtain ⟨nd, hnd⟩ : ∃ q, n2 * by_ = q := ⟨_, rfl⟩
      have hne : needN HH k = nd := by rw [HNE.out k, hkr, hhr, hmr, hn1, hn2, hnd]
      rw [hne] at HST2
      have HUK : Hid (unpK HH k tb.data.toList = if pk = true then unpP tb.data.toList (nd : Nat) else .ok tb.data.toList) := by show _ = _; rw [HUN.out, hne]
      have m1 : (k : Int) * (ro : Int) = (kr : Int) := by rw [← hkr]; simp
      have m2 : (Hh : Int) - (kr : Int) = (hr : Int) := by omega
      have m3 : min (ro : Int) (hr : Int) = (mr : Int) := by omega
      have m4 : (mr : Int) * (HW : Int) = (n1 : Int) := by rw [← hn1]; simp
      have m5 : (n1 : Int) * (sm : Int) = (n2 : Int) := by rw [← hn2]; simp
      have m6 : (n2 : Int) * (by_ : Int) = (nd : Int) := by rw [← hnd]; simp
      have b1 : mr ≤ 256 := by omega
      have b2' : n1 ≤ 65536 := by rw [← hn1]; exact Nat.mul_le_mul b1 hw
      have b3 : n2 ≤ 262144 := by rw [← hn2]; exact Nat.mul_le_mul b2' hsm
      have b4 : nd ≤ 524288 := by rw [← hnd]; exact Nat.mul_le_mul b3 hby
      clear hkr hhr hmr hn1 hn2 hnd hne hd
      go_upto_region 12 with fail
      clear m1 m2 m3 m4 m5 m6 b1 b2' b3 c0 c1 c2 c3 c6 hkr2
      go_upto_if 75 with fail
      go_cut [16] (fun v16 wx => ∃ u : ByteArray, v16 = .string u ∧ Hid (unpK HH k tb.data.toList = .ok u.data.toList) ∧ u.size ≤ 1000000000000000 ∧ Hid (BRow wx Z 5 u12 out) ∧ Hid (Below Z wq wx) ∧ Z ≤ wx.heap.size)
      case first =>
        cases pk with
        | false =>
          have HUK2 : Hid (unpK HH k tb.data.toList = .ok tb.data.toList) := by show _ = _; rw [HUK.out, if_neg (by decide)]
          clear HUK HUN HST2
          go_wp2_with fail
          go_meet
          case rel => exact ⟨tb, rfl, HUK2.out, hts, hrow.out, hbw.out, hszr⟩
        | true =>
          have HUK2 : Hid (unpK HH k tb.data.toList = unpP tb.data.toList (nd : Nat)) := by show _ = _; rw [HUK.out, if_pos rfl]
          have HUP := Lib.hid (unpack_any tb (nd : Int) wr (by unfold maxLen; omega))
          clear HUK HUN
          cases hu : unpP tb.data.toList (nd : Int) with
          | error e =>
            rw [hu] at HUP HUK2
            have he := unpP_err hu
            have ee : ((e : Int) != 0) = true := by unfold bne; rw [Bool.not_eq_true', beq_eq_false_iff_ne]; omega
            have HF : Hid (res = .error e) := by show _ = _; rw [← HST2.out, HUK2.out]
            clear hu he HST2 HUK2
            go_wp2_with fail
            refine HUP.out.mono ?_
            rintro e' w3 ⟨hok, hb3⟩
            obtain rfl : e' = .returned (.tuple #[.string ⟨#[]⟩, .int .i64 e]) := hok
            have HB3 : Hid (Below B w w3) := HBW.out.trans (hb3.mono (by omega))
            clear hb3
            go_wp2_with fail
            refine bodyPost_ret (v := .tuple #[.string ⟨#[]⟩, .int .i64 e]) (by simp [results, Try.f44, go_sem]) rfl ⟨?_, by rw [HB.out]; exact HB3.out⟩
            rw [HF.out]; rfl
          | ok ul =>
            rw [hu] at HUP HUK2
            have hul : ul.length ≤ 1048576 := unpP_len hu
            clear hu HST2
            go_wp2_with fail
            refine HUP.out.mono ?_
            rintro e' w3 ⟨hok, hb3⟩
            obtain rfl : e' = .returned (.tuple #[.string ⟨ul.toArray⟩, .int .i64 0]) := hok
            have HR3 : Hid (BRow w3 Z 5 u12 out) := own_below hrow.out hb3
            have HB3 : Hid (Below Z wq w3) := hbw.out.trans (hb3.mono hszr)
            have HZ3 : Hid (Z ≤ w3.heap.size) := Nat.le_trans hszr hb3.size
            clear hb3 hrow hbw
            go_wp2_with fail
            go_meet
            case rel => exact ⟨⟨ul.toArray⟩, rfl, HUK2.out, by rw [ba_len]; omega, HR3.out, HB3.out, HZ3.out⟩
      case rest =>
        obtain ⟨u, rfl, huk, hus, hrow2, hbw2, hsz2⟩ := hcut
        clear hrow hbw hszr HBW HUN HUK hts
        have HBW : Hid (Below B w wc) := HB4.out.trans (hbw2.out.mono (Nat.le_of_lt hBZ))
        have HST3 : Hid ((match (if u.size < nd then .error 5 else if nd < u.size then .error 6 else .ok u.data.toList : Except Nat (List UInt8)) with | .error e => .error e | .ok u => stripsG HH s.data.toList ps zs (n - (k + 1)) (k + 1) (out ++ u)) = res) := by
          show _ = _
          rw [← HST2.out, huk.out]
          simp only [ba_size]
        clear HST2 huk
        by_cases h1 : u.size < nd
        · have e1 : decide ((u.size : Int) < (nd : Int)) = true := by simp; omega
          have HF : Hid (res = .error 5) := by show _ = _; rw [← HST3.out, if_pos h1]
          clear HST3
          go_wp2_with fail
          refine bodyPost_ret (v := .tuple #[.string ⟨#[]⟩, .int .i64 5]) (by simp [results, Try.f44, go_sem]) rfl ⟨?_, by rw [HB.out]; exact HBW.out⟩
          rw [HF.out]; rfl
        have e1 : decide ((u.size : Int) < (nd : Int)) = false := by simp; omega
        by_cases h2 : nd < u.size
        · have e2 : decide ((nd : Int) < (u.size : Int)) = true := by simp; omega
          have HF : Hid (res = .error 6) := by show _ = _; rw [← HST3.out, if_neg h1, if_pos h2]
          clear HST3
          go_wp2_with fail
          refine bodyPost_ret (v := .tuple #[.string ⟨#[]⟩, .int .i64 6]) (by simp [results, Try.f44, go_sem]) rfl ⟨?_, by rw [HB.out]; exact HBW.out⟩
          rw [HF.out]; rfl
        have e2 : decide ((nd : Int) < (u.size : Int)) = false := by simp; omega
        have HF : Hid (stripsG HH s.data.toList ps zs (n - (k + 1)) (k + 1) (out ++ u.data.toList) = res) := by show _ = _; rw [← HST3.out, if_neg h1, if_neg h2]
        have hol2 : (out ++ u.data.toList).length ≤ 524288 * (k + 1) := by rw [List.length_append, ba_size]; omega
        obtain ⟨xo, co, rfl⟩ := brow_shape hrow2.out
        have hrow3 := hrow2.out
        clear HST3 hrow2
        go_upto_region 21 with fail
        go_wp2_with (at_builtin; refine wpList_app_str (s := u) el_u8 Try.underlying9 hrow3 hsz2 rfl rfl rfl rfl (by omega) ?_)
        intro v5 w5 hrow5 hg5
        obtain ⟨hbel5, hsz5⟩ := below_app' hbw2.out hsz2 hrow3 hg5
        have HR5 := Lib.hid hrow5
        have HB5 := Lib.hid hbel5
        clear hrow5 hg5 hrow3 hbel5 e1 e2
        go_wp2_with fail
        go_roundw
        case rel => exact ⟨k + 1, _, by go_num, by omega, HF.out, HR5.out, hol2, HB5.out, hsz5⟩
        case measure => simp [intOf]; omega
    · have dlt : decide ((k : Int) < (n : Int)) = false := by simp; omega
      have hkn : k = n := by omega
      have HF : Hid (res = .ok out) := by show _ = _; rw [← hst.out, hkn, Nat.sub_self, stripsG]
      have hstr := run_str_of Try.underlying54 Try.underlying5 Try.underlying9 hrow.out
      clear hkn hst
      go_wp2_with fail
      refine bodyPost_ret (v := .tuple #[.string ⟨out.toArray⟩, .int .i64 0]) (by simp [results, Try.f44, go_sem]) rfl ⟨?_, by rw [HB.out]; exact HBW.out⟩
      rw [HF.out]; rfl
end Go.Proofs.Ytakileiomgaahaa
