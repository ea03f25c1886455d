/-
  Walk: png.readPixels.
-/
import Derived.Test.YthbejefodelpkaaGreatZM
import Derived.Deep.CutBlock
namespace Go.Proofs.YthbejefodelpkaaGreat
open Go.RowKit
set_option maxRecDepth 100000

/-- 'make([]T, 0, n)' within a region that draws its order. -/
theorem step_mk0 {P : Program} {w : World} {ops : Array Oper} {o : Oper} {a : Act} {K : Act → World → Prop} {Q : Exit → Act → World → Prop} {E : Prop} {t e : TypeId} {z : Value} {size bytes : Nat} (hE : Elem P t e z size bytes) (hgd : o.guard = none) {l c : Operand}
    (ho : o.op = Op.makeSlice t l c) (base : Nat) {C : Int} {n : Nat} (hl : a.eval l = .int .i64 0) (hc : a.eval c = .int .i64 C) (hC : C = (n : Int)) (b2 : bytes * n ≤ 281474976710656) (b3 : n ≤ maxLen) (b4 : base ≤ w.heap.size)
    (h : ∀ w', w'.ownsRow base e size (.slice (some ⟨w.heap.size, 0, none⟩) 0 n) 0 [] → w.grownBy w' none → K (a.put o.dst (.slice (some ⟨w.heap.size, 0, none⟩) 0 n)) w') :
    if Region.wanted o (yielded ops a.tmps) = true then Oper.wp P o a w K Q else E := by
  have hw : Region.wanted o (yielded ops a.tmps) = true := by simp [Region.wanted, hgd]
  rw [if_pos hw]
  obtain ⟨ht, ⟨i, hi, hz, hsz, hby⟩, _, _⟩ := hE
  obtain ⟨w', hrun, r1, r2⟩ := run_make_own (P := P) w base t e i z size ht hi hz hsz .i64 .i64 n (by rw [hby]; exact b2) b3 b4
  subst hC
  unfold Oper.wp
  simp [execOp, ho, hl, hc, hrun, Result.andThen]
  exact h w' r1 r2
/-- A row stored within a region that draws its order. -/
theorem step_store {P : Program} {w : World} {ops : Array Oper} {o : Oper} {a : Act} {K : Act → World → Prop} {Q : Exit → Act → World → Prop} {E : Prop} (hgd : o.guard = none) (ty : TypeId) (x y : Operand) (ho : o.op = .store ty x y)
    (hd : o.dst = none) (g : Nat) (cells : Array Value) (hx : a.eval x = .pointer (some ⟨g, 0, none⟩)) (hy : a.eval y = .agg cells)
    (t : TypeId) (old : Array Value) (hg : w.heap[g]? = some (.cells old t (0, 0))) (hi : (P.info? ty).map (·.size) = some cells.size)
    (hold : old.size = cells.size) (h1 : cells.all (·.oneCell') = true)
    (h : K a (w.setRow g cells)) : if Region.wanted o (yielded ops a.tmps) = true then Oper.wp P o a w K Q else E := by
  have hw : Region.wanted o (yielded ops a.tmps) = true := by simp [Region.wanted, hgd]
  rw [if_pos hw]
  exact wp_store_row ty x y ho g cells hx hy t old hg hi hold h1 (by rw [hd]; exact h)
theorem below_mk {w w' : World} (hg : w.grownBy w' none) : Below w.heap.size w w' := ⟨hg.os, hg.tape, hg.output, hg.size, fun k hk => hg.block k hk (by simp)⟩
theorem Blk.made {w w' : World} {k : Nat} {t : TypeId} {cs : Array Value} (h : Blk w k t cs) (hg : w.grownBy w' none) : Blk w' k t cs := h.keep (below_mk hg)
theorem zliP_len {most : Nat} {l o : List UInt8} (h : zliP most l = .ok o) : o.length ≤ most := by
  unfold zliP at h
  split at h
  · cases h
  · split at h
    · cases h
    · split at h
      · cases h
      · rename_i o' u hi
        have := infP_len hi
        have ho : o = o' := by
          unfold zliE at h
          split at h
          · cases h
          · split at h
            · cases h
            · split at h
              · cases h
              · cases h; rfl
        rw [ho]; exact this
theorem zliP_err {most : Nat} {l : List UInt8} {k : Nat} (h : zliP most l = .error k) : k ≠ 0 := by
  unfold zliP at h
  split at h
  · cases h; decide
  · split at h
    · cases h; decide
    · split at h
      · rename_i e hi
        cases h
        exact infP_err hi
      · unfold zliE at h
        split at h
        · cases h; decide
        · split at h
          · cases h; decide
          · split at h
            · cases h; decide
            · cases h
theorem chanP_le (c : Nat) : 1 ≤ chanP c ∧ chanP c ≤ 4 := by
  unfold chanP
  split
  · omega
  · split
    · omega
    · split <;> omega
def PxOk (B W H : Nat) (r : Except Nat (List Px)) (e : Ending) (w' : World) : Prop :=
  match r with
  | .error k => e = .returned (.tuple #[.agg (imgI 0 0 (.slice none 0 0)), .int .i64 (k : Nat)])
  | .ok px => ∃ v, e = .returned (.tuple #[.agg (imgI W H v), .int .i64 0]) ∧ POwn w' B v px

theorem alloc_ne (w : World) (o : Obj) : (w.alloc o).heap.size ≠ w.heap.size := by
  have h : (w.alloc o).heap.size = w.heap.size + 1 := by simp
  omega
theorem own_lt {w : World} {base e size g c n : Nat} {xs : List Value} (h : w.ownsRow base e size (.slice (some ⟨g, 0, none⟩) n c) n xs) : g < w.heap.size := by
  rcases h.2 with ⟨h, -⟩ | ⟨g', cap, cur, h, _, hg, hc, _⟩
  · cases h
  · cases h
    exact Blk.lt hg
theorem g19_fin {w wc wa : World} {B I g N : Nat} {hc z z0 : Array Value} (hb2 : Below B w wc) (hh : Blk wc B 76 hc) (hi : Blk wc (B + 1) 36 z) (hwa : Below wc.heap.size wc wa) (hia : Blk wa I 36 z0) (hI : wc.heap.size ≤ I) (hg : g ≠ I)
    (ho : wa.ownsRow B 41 4 (.slice (some ⟨g, 0, none⟩) 0 N) 0 []) (cs : Array Value) :
    B + 1 < I ∧ Hid (Blk (wa.setRow I cs) I 36 cs) ∧ Hid ((wa.setRow I cs).ownsRow B 41 4 (.slice (some ⟨g, 0, none⟩) 0 N) 0 []) ∧ Hid (Blk (wa.setRow I cs) B 76 hc) ∧ Hid (Blk (wa.setRow I cs) (B + 1) 36 z) ∧ Hid (Below B w (wa.setRow I cs)) := by
  have h1 := hi.lt
  refine ⟨by omega, hia.rset cs, ho.kept (grown_rset wa I cs) (Or.inr ?_), (hh.keep hwa).rset_ne cs (by omega), (hi.keep hwa).rset_ne cs (by omega), below_rset (hb2.trans (hwa.mono (by omega))) (by omega) cs⟩
  simp [Value.ownBlock]; exact hg

set_option maxHeartbeats 8000000 in
theorem readPixels_any (v : Value) (l : List Mt) (W H d c : Nat) (w : World) (hr : MRow w v l) (ht : totP l ≤ 1000000000) (hW : 1 ≤ W ∧ W ≤ 256) (hH : 1 ≤ H ∧ H ≤ 256) (hk : kindOk d c = true) (hpal : c = 3 → (datP l plteN).length % 3 = 0) :
    Calls Tryz.prog 62 #[v, .agg (hdC W H d c)] w fun e w' => PxOk w.heap.size W H (pixR l W H d c) e w' ∧ Below w.heap.size w w' := by
  have HR := Lib.hid hr
  have HD0 : Hid (∀ w1, MRow w1 v l → Calls Tryz.prog 86 #[v, .string ⟨#[73, 68, 65, 84]⟩] w1 fun e w' => e = .returned (.string ⟨(datP l idatN).toArray⟩) ∧ Below w1.heap.size w1 w') := fun w1 h => datas_any v l ⟨#[73, 68, 65, 84]⟩ w1 h ht
  have HD1 : Hid (∀ w1, MRow w1 v l → Calls Tryz.prog 86 #[v, .string ⟨#[80, 76, 84, 69]⟩] w1 fun e w' => e = .returned (.string ⟨(datP l plteN).toArray⟩) ∧ Below w1.heap.size w1 w') := fun w1 h => datas_any v l ⟨#[80, 76, 84, 69]⟩ w1 h ht
  have HD2 : Hid (∀ w1, MRow w1 v l → Calls Tryz.prog 86 #[v, .string ⟨#[116, 82, 78, 83]⟩] w1 fun e w' => e = .returned (.string ⟨(datP l trnsN).toArray⟩) ∧ Below w1.heap.size w1 w') := fun w1 h => datas_any v l ⟨#[116, 82, 78, 83]⟩ w1 h ht
  have HPX : Hid (pixR l W H d c = match zliP 1048576 (datP l idatN) with
    | .error k => .error k
    | .ok s =>
      if s.length < H * (1 + W * (chanP c * (d / 8))) then .error 5
      else if H * (1 + W * (chanP c * (d / 8))) < s.length then .error 6
      else match picG c (d / 8) W (datP l plteN) (datP l trnsN) s H with
        | none => .error 4
        | some (_, px) => .ok px) := rfl
  obtain ⟨ID, hID⟩ : ∃ s : ByteArray, s = ⟨(datP l idatN).toArray⟩ := ⟨_, rfl⟩
  have hIDl : ID.data.toList = datP l idatN := by rw [hID]
  have hIDs : ID.size ≤ 1000000000 := by
    have e : ID.size = ID.data.toList.length := by simp
    rw [e, hIDl]; exact Nat.le_trans (datP_le l idatN) ht
  have HZL := Lib.hid (fun w => izlib_any ID 1048576 w (by omega))
  rw [← hID] at HD0
  rw [← hIDl] at HPX
  change Hid (∀ w, Calls Tryz.prog 87 #[.string ID, .int .i64 1048576] w fun e w' => ZlOk (zliP 1048576 ID.data.toList) e ∧ Below w.heap.size w w') at HZL
  obtain ⟨zr, hzr⟩ : ∃ z, zliP 1048576 ID.data.toList = z := ⟨_, rfl⟩
  rw [hzr] at HZL HPX
  have HZLN := Lib.hid (fun o (h : zr = .ok o) => zliP_len (hzr.trans h))
  have HZLE := Lib.hid (fun k (h : zr = .error k) => zliP_err (hzr.trans h))
  clear hzr hID hIDl hIDs
  obtain ⟨x, cc, rfl, hc1, hc2, -, -⟩ := id hr
  unfold maxLen at hc2
  have HKH := Lib.hid ((Blk.new w 76 (hdC W H d c)).alloc (.cells (imgI 0 0 (.slice none 0 0)) 36))
  have HKI := Lib.hid (Blk.new_at (w := w.alloc (.cells (hdC W H d c) 76)) (k := w.heap.size + 1) (by simp) 36 (imgI 0 0 (.slice none 0 0)))
  have HBE := Lib.hid (((Below.refl w.heap.size w).alloc (Nat.le_refl _) (.cells (hdC W H d c) 76)).alloc (by simp) (.cells (imgI 0 0 (.slice none 0 0)) 36))
  clear hr
  unfold hdC
  go_enter Tryz.func62, Tryz.ntmps62
  go_upto_region 1 with fail
  have e0 : (w.alloc (.cells #[.int .i64 (W : Int), .int .i64 (H : Int), .int .i64 (d : Int), .int .i64 (c : Int)] 76)).alloc (.cells #[.int .i64 0, .int .i64 0, .slice none 0 0] 36) = (w.alloc (.cells (hdC W H d c) 76)).alloc (.cells (imgI 0 0 (.slice none 0 0)) 36) := rfl
  rw [e0]
  clear e0
  generalize (w.alloc (.cells (hdC W H d c) 76)).alloc (.cells (imgI 0 0 (.slice none 0 0)) 36) = w0 at *
  generalize hB : w.heap.size = B at *
  have HB := Lib.hid hB
  clear hB
  go_wp2_with fail
  refine (HD0.out _ (HR.out.below (by rw [HB.out]; exact HBE.out))).mono ?_
  rintro e w1 ⟨rfl, hb1⟩
  go_wp2_with fail
  refine (HZL.out _).mono ?_
  rintro e w2 ⟨hz, hb2⟩
  have HB2 : Hid (Below B w w2) := (HBE.out.trans (hb1.mono (Nat.le_of_lt (by have := HKH.out.lt; exact this)))).trans (hb2.mono (Nat.le_trans (Nat.le_of_lt HKH.out.lt) hb1.size))
  have HH2 := Lib.hid ((HKH.out.keep hb1).keep hb2)
  have HI2 := Lib.hid ((HKI.out.keep hb1).keep hb2)
  have HR2 : Hid (MRow w2 (.slice x l.length cc) l) := HR.out.below (by rw [HB.out]; exact HB2.out)
  clear hb1 hb2 HBE HKH HKI HD0 HZL
  cases zr with
  | error k =>
    have hz : e = .returned (.tuple #[.string ⟨#[]⟩, .int .i64 k]) := hz
    subst hz
    have hk0 := HZLE.out k rfl
    have dk : ((k : Int) != 0) = true := by simp; omega
    have HE : Hid (pixR l W H d c = .error k) := HPX.out
    clear hk0 HPX
    go_wp2_with (refine wpList_rset_same rfl 36 (.tmp 4) (.tmp 28) rfl rfl (B + 1) (imgI 0 0 (.slice none 0 0)) (by rfl) (by rfl) 36 (by exact HI2.out) (imgI_inf _ _ _) (imgI_one _ _ _ rfl) ?_)
    refine bodyPost_ret (v := .tuple #[.agg (imgI 0 0 (.slice none 0 0)), .int .i64 k]) (results_ct rfl _ _ (B + 1) 36 (imgI 0 0 (.slice none 0 0)) (0, 0) _ _ rfl rfl HI2.out Tryz.underlying36 rfl (imgI_inf _ _ _)) rfl ⟨?_, by rw [HB.out]; exact HB2.out⟩
    rw [HE.out]
    rfl
  | ok o =>
  have hz : e = .returned (.tuple #[.string ⟨o.toArray⟩, .int .i64 0]) := hz
  subst hz
  have hol := HZLN.out o rfl
  simp only at HPX
  clear HZLN HZLE
  obtain ⟨Z, hZ⟩ : ∃ s : ByteArray, s = ⟨o.toArray⟩ := ⟨_, rfl⟩
  rw [← hZ]
  have hZs : o.length = Z.size := by rw [hZ]; simp [ByteArray.size]
  have HZd : Hid (o = Z.data.toList) := by show _ = _; rw [hZ]
  rw [hZs] at HPX hol
  clear hZ hZs
  have hch := chanP_le c
  obtain ⟨ch, hchd⟩ : ∃ n, chanP c = n := ⟨_, rfl⟩
  have HCH := Lib.hid hchd
  rw [hchd] at HPX hch
  clear hchd
  have k0 := HH2.out.cell 0
  have k1 := HH2.out.cell 1
  have k2 := HH2.out.cell 2
  have k3 := HH2.out.cell 3
  simp [hdC] at k0 k1 k2 k3
  go_upto_block 0 with fail
  go_cut [8] from 32 to 38 (fun v8 wx => v8 = .int .i64 (ch : Int) ∧ wx = w2)
  case first =>
    have hcc : c = 0 ∨ c = 2 ∨ c = 4 ∨ c = 6 ∨ c = 3 := by rcases kindOk_yes hk with ⟨h, -⟩ | ⟨h, -⟩ <;> omega
    clear HPX hpal hk
    rcases hcc with rfl | rfl | rfl | rfl | rfl
    · have hc1 : ch = 1 := HCH.out.symm
      subst hc1
      go_wp2_with fail
      go_meet
      case rel => exact ⟨rfl, rfl⟩
    · have hc1 : ch = 3 := HCH.out.symm
      subst hc1
      go_wp2_with fail
      go_meet
      case rel => exact ⟨rfl, rfl⟩
    · have hc1 : ch = 2 := HCH.out.symm
      subst hc1
      go_wp2_with fail
      go_meet
      case rel => exact ⟨rfl, rfl⟩
    · have hc1 : ch = 4 := HCH.out.symm
      subst hc1
      go_wp2_with fail
      go_meet
      case rel => exact ⟨rfl, rfl⟩
    · have hc1 : ch = 1 := HCH.out.symm
      subst hc1
      go_wp2_with fail
      go_meet
      case rel => exact ⟨rfl, rfl⟩
  case rest =>
  obtain ⟨rfl, rfl⟩ := hcut
  have hd8 : d = 8 ∨ d = 16 := by rcases kindOk_yes hk with ⟨-, h⟩ | ⟨-, h⟩ <;> omega
  obtain ⟨n, hn⟩ : ∃ n, d / 8 = n := ⟨_, rfl⟩
  have hn12 : n = 1 ∨ n = 2 := by omega
  have hdn : d = n * 8 := by omega
  obtain ⟨q, hq⟩ : ∃ q, ch * d = q := ⟨_, rfl⟩
  obtain ⟨bp, hbp⟩ : ∃ q, ch * n = q := ⟨_, rfl⟩
  obtain ⟨wb, hwb⟩ : ∃ q, W * bp = q := ⟨_, rfl⟩
  obtain ⟨sz, hsz⟩ : ∃ q, 1 + wb = q := ⟨_, rfl⟩
  obtain ⟨tot, htot⟩ : ∃ q, H * sz = q := ⟨_, rfl⟩
  rw [hn, hbp, hwb, hsz, htot] at HPX
  have hbp8 : bp ≤ 8 := by rw [← hbp]; exact Nat.mul_le_mul hch.2 (by omega : n ≤ 2)
  have hbp1 : 1 ≤ bp := by rw [← hbp]; exact Nat.mul_le_mul hch.1 (by omega : 1 ≤ n)
  have hwb2 : wb ≤ 2048 := by rw [← hwb]; exact Nat.mul_le_mul hW.2 hbp8
  have hsz2 : sz ≤ 2049 := by omega
  have htot2 : tot ≤ 1000000 := by rw [← htot]; exact Nat.le_trans (Nat.mul_le_mul hH.2 hsz2) (by decide)
  have hqb : q = bp * 8 := by rw [← hq, ← hbp, hdn, Nat.mul_assoc]
  have hq64 : q ≤ 64 := by omega
  have m1 : (ch : Int) * (d : Int) = (q : Int) := by rw [← hq]; simp
  have m2 : (q : Int).tdiv 8 = (bp : Int) := by rw [Int.tdiv_eq_ediv_of_nonneg (by omega)]; omega
  have m3 : (W : Int) * (bp : Int) = (wb : Int) := by rw [← hwb]; simp
  have m4 : (1 : Int) + (wb : Int) = (sz : Int) := by omega
  have m5 : (H : Int) * (sz : Int) = (tot : Int) := by rw [← htot]; simp
  have HBP := Lib.hid hbp
  have HWB := Lib.hid hwb
  have HSZ := Lib.hid hsz
  have HTOT := Lib.hid htot
  have HN12 := Lib.hid hn12
  clear hdn hq hbp hwb hsz htot hqb hn hd8 hn12
  by_cases hsh : Z.size < tot
  · have d1 : decide ((Z.size : Int) < (tot : Int)) = true := by simp; omega
    have HE : Hid (pixR l W H d c = .error 5) := by show _ = _; rw [HPX.out, if_pos hsh]
    clear HPX
    go_wp2_with (refine wpList_rset_same rfl 36 (.tmp 4) (.tmp 56) rfl rfl (B + 1) (imgI 0 0 (.slice none 0 0)) (by rfl) (by rfl) 36 (by exact HI2.out) (imgI_inf _ _ _) (imgI_one _ _ _ rfl) ?_)
    refine bodyPost_ret (v := .tuple #[.agg (imgI 0 0 (.slice none 0 0)), .int .i64 5]) (results_ct rfl _ _ (B + 1) 36 (imgI 0 0 (.slice none 0 0)) (0, 0) _ _ rfl rfl HI2.out Tryz.underlying36 rfl (imgI_inf _ _ _)) rfl ⟨?_, by rw [HB.out]; exact HB2.out⟩
    rw [HE.out]
    rfl
  have d1 : decide ((Z.size : Int) < (tot : Int)) = false := by simp; omega
  by_cases hlg : tot < Z.size
  · have d2 : decide ((tot : Int) < (Z.size : Int)) = true := by simp; omega
    have HE : Hid (pixR l W H d c = .error 6) := by show _ = _; rw [HPX.out, if_neg hsh, if_pos hlg]
    clear HPX
    go_wp2_with (refine wpList_rset_same rfl 36 (.tmp 4) (.tmp 64) rfl rfl (B + 1) (imgI 0 0 (.slice none 0 0)) (by rfl) (by rfl) 36 (by exact HI2.out) (imgI_inf _ _ _) (imgI_one _ _ _ rfl) ?_)
    refine bodyPost_ret (v := .tuple #[.agg (imgI 0 0 (.slice none 0 0)), .int .i64 6]) (results_ct rfl _ _ (B + 1) 36 (imgI 0 0 (.slice none 0 0)) (0, 0) _ _ rfl rfl HI2.out Tryz.underlying36 rfl (imgI_inf _ _ _)) rfl ⟨?_, by rw [HB.out]; exact HB2.out⟩
    rw [HE.out]
    rfl
  have d2 : decide ((tot : Int) < (Z.size : Int)) = false := by simp; omega
  have hzs : Z.size = tot := by omega
  have HPX2 : Hid (pixR l W H d c = match picG c n W (datP l plteN) (datP l trnsN) o H with
        | none => .error 4
        | some (_, px) => .ok px) := by show _ = _; rw [HPX.out, if_neg hsh, if_neg hlg]
  clear HPX
  go_upto_region 19 with fail
  obtain ⟨N, hN⟩ : ∃ N, W * H = N := ⟨_, rfl⟩
  have hN2 : N ≤ 65536 := by rw [← hN]; exact Nat.mul_le_mul hW.2 hH.2
  have m6 : (W : Int) * (H : Int) = (N : Int) := by rw [← hN]; simp
  have HNN := Lib.hid hN
  clear hN
  go_cut [11] from 65 to 75 (fun v11 wx => ∃ (I : Nat) (xv : Option Addr), v11 = .pointer (some ⟨I, 0, none⟩) ∧ B + 1 < I ∧ Hid (Blk wx I 36 (imgI W H (.slice xv 0 N))) ∧ Hid (wx.ownsRow B 41 4 (.slice xv 0 N) 0 []) ∧ Hid (Blk wx B 76 (hdC W H d c)) ∧ Hid (Blk wx (B + 1) 36 (imgI 0 0 (.slice none 0 0))) ∧ Hid (Below B w wx))
  case first =>
    have HSB : Hid (B ≤ wc.heap.size) := Nat.le_of_lt HH2.out.lt
    have HBD : Hid (Below B w wc.drew) := HB2.out.drew
    have HHD : Hid (Blk wc.drew B 76 (hdC W H d c)) := HH2.out.drew
    have HID : Hid (Blk wc.drew (B + 1) 36 (imgI 0 0 (.slice none 0 0))) := HI2.out.drew
    have HSY : Hid (∀ u, Below wc.heap.size wc u → u.cell? ⟨B, 0, none⟩ = some (.int .i64 (W : Int)) ∧ u.cell? ⟨B, 1, none⟩ = some (.int .i64 (H : Int))) := fun u hb => ⟨(HH2.out.keep hb).cell 0, (HH2.out.keep hb).cell 1⟩
    have HBwd : Hid (Below wc.heap.size wc wc.drew) := (Below.refl _ _).drew
    have hS := HSY.out _ HBwd.out
    clear HBD HHD HID
    --HELD19
    refine wp_region_held_drew (S := fun _ => True) (by kernel_rfl) trivial (fun hHeld => ?_)
    clear hHeld
    generalize wc.drew = wd at *
    refine wpAnyH_weaken (S2 := fun u => u.cell? ⟨B, 0, none⟩ = some (.int .i64 (W : Int)) ∧ u.cell? ⟨B, 1, none⟩ = some (.int .i64 (H : Int))) (fun _ _ => trivial) ?_
    refine wpAnyH_take (i := 0) (oi := ⟨some 65, Op.fieldAddr 76 (Operand.tmp 3) 0, 0, _, _, none⟩) (v := ?v1) rfl (by kernel_rfl) (by kernel_rfl) (by kernel_rfl) (fun _ _ _ h => h) (Or.inl ⟨by rfl, ?y1⟩) hS ?r1
    case y1 => (intro w hSw; (try dsimp only at hSw); go_simp; try with_reducible rfl)
    try simp only [Act.put, List.setIfInBounds_toArray, List.set_cons_zero, List.set_cons_succ]
    refine wpAnyH_take (i := 1) (oi := ⟨some 66, Op.load 3 (Operand.tmp 65), 3, _, _, none⟩) (v := ?v2) rfl (by kernel_rfl) (by kernel_rfl) (by kernel_rfl) (fun _ _ _ h => h) (Or.inl ⟨by rfl, ?y2⟩) hS ?r2
    case y2 => (intro w hSw; (try dsimp only at hSw); go_simp; try with_reducible rfl)
    try simp only [Act.put, List.setIfInBounds_toArray, List.set_cons_zero, List.set_cons_succ]
    refine wpAnyH_take (i := 2) (oi := ⟨some 67, Op.fieldAddr 76 (Operand.tmp 3) 1, 0, _, _, none⟩) (v := ?v3) rfl (by kernel_rfl) (by kernel_rfl) (by kernel_rfl) (fun _ _ _ h => h) (Or.inl ⟨by rfl, ?y3⟩) hS ?r3
    case y3 => (intro w hSw; (try dsimp only at hSw); go_simp; try with_reducible rfl)
    try simp only [Act.put, List.setIfInBounds_toArray, List.set_cons_zero, List.set_cons_succ]
    refine wpAnyH_take (i := 3) (oi := ⟨some 68, Op.load 3 (Operand.tmp 67), 3, _, _, none⟩) (v := ?v4) rfl (by kernel_rfl) (by kernel_rfl) (by kernel_rfl) (fun _ _ _ h => h) (Or.inl ⟨by rfl, ?y4⟩) hS ?r4
    case y4 => (intro w hSw; (try dsimp only at hSw); go_simp; try with_reducible rfl)
    try simp only [Act.put, List.setIfInBounds_toArray, List.set_cons_zero, List.set_cons_succ]
    refine wpAnyH_take (i := 4) (oi := ⟨some 69, Op.fieldAddr 76 (Operand.tmp 3) 0, 0, _, _, none⟩) (v := ?v5) rfl (by kernel_rfl) (by kernel_rfl) (by kernel_rfl) (fun _ _ _ h => h) (Or.inl ⟨by rfl, ?y5⟩) hS ?r5
    case y5 => (intro w hSw; (try dsimp only at hSw); go_simp; try with_reducible rfl)
    try simp only [Act.put, List.setIfInBounds_toArray, List.set_cons_zero, List.set_cons_succ]
    refine wpAnyH_take (i := 5) (oi := ⟨some 70, Op.load 3 (Operand.tmp 69), 3, _, _, none⟩) (v := ?v6) rfl (by kernel_rfl) (by kernel_rfl) (by kernel_rfl) (fun _ _ _ h => h) (Or.inl ⟨by rfl, ?y6⟩) hS ?r6
    case y6 => (intro w hSw; (try dsimp only at hSw); go_simp; try with_reducible rfl)
    try simp only [Act.put, List.setIfInBounds_toArray, List.set_cons_zero, List.set_cons_succ]
    refine wpAnyH_take (i := 6) (oi := ⟨some 71, Op.fieldAddr 76 (Operand.tmp 3) 1, 0, _, _, none⟩) (v := ?v7) rfl (by kernel_rfl) (by kernel_rfl) (by kernel_rfl) (fun _ _ _ h => h) (Or.inl ⟨by rfl, ?y7⟩) hS ?r7
    case y7 => (intro w hSw; (try dsimp only at hSw); go_simp; try with_reducible rfl)
    try simp only [Act.put, List.setIfInBounds_toArray, List.set_cons_zero, List.set_cons_succ]
    refine wpAnyH_take (i := 7) (oi := ⟨some 72, Op.load 3 (Operand.tmp 71), 3, _, _, none⟩) (v := ?v8) rfl (by kernel_rfl) (by kernel_rfl) (by kernel_rfl) (fun _ _ _ h => h) (Or.inl ⟨by rfl, ?y8⟩) hS ?r8
    case y8 => (intro w hSw; (try dsimp only at hSw); go_simp; try with_reducible rfl)
    try simp only [Act.put, List.setIfInBounds_toArray, List.set_cons_zero, List.set_cons_succ]
    refine wpAnyH_take (i := 8) (oi := ⟨some 73, Op.binOp BinOp.mul 3 (Operand.tmp 70) (Operand.tmp 72) 3, 3, _, _, none⟩) (v := ?v9) rfl (by kernel_rfl) (by kernel_rfl) (by kernel_rfl) (fun _ _ _ h => h) (Or.inl ⟨by rfl, ?y9⟩) hS ?r9
    case y9 => (intro w hSw; (try dsimp only at hSw); go_simp; try with_reducible rfl)
    try simp only [Act.put, List.setIfInBounds_toArray, List.set_cons_zero, List.set_cons_succ]
    refine wpAnyH_ready (rs := [9, 11]) (by kernel_rfl) (by simp) ?r10
    refine AllReadyH.cons (o := ⟨some 74, Op.makeSlice 34 (Operand.const (Value.int IntKind.i64 0)) (Operand.tmp 73), 34, _, _, none⟩) rfl (fun K hK => ?sa10) (AllReadyH.cons (o := ⟨some 11, Op.alloc 36, 0, _, _, none⟩) rfl (fun K hK => ?sb10) AllReadyH.nil)
    case sa10 =>
      refine step_mk0 el_pix rfl rfl B (C := (N : Int)) (n := N) (by simp [Act.eval]) (by simp [Act.eval]; rw [IntKind.wrap_i64]; omega) rfl (by omega) (by unfold maxLen; omega) (Nat.le_trans HSB.out HBwd.out.size) ?_
      intro wm HOwm hgwm
      have HBwm : Hid (Below wc.heap.size wc wm) := Below.trans HBwd.out ((below_mk hgwm).mono HBwd.out.size)
      have HNE0 := Lib.hid (own_lt HOwm)
      clear hgwm
      refine hK.out _ _ ?k10 (fun hHeld => ?_)
      case k10 => exact HSY.out _ HBwm.out
      clear hS
      have hS := hHeld
      clear hHeld
      clear hK K
      try simp only [Act.put, List.setIfInBounds_toArray, List.set_cons_zero, List.set_cons_succ]
      refine wpAnyH_take (i := 10) (oi := ⟨some 75, Op.build 36 #[(0, Operand.tmp 66), (1, Operand.tmp 68), (2, Operand.tmp 74)], 36, _, _, none⟩) (v := ?v11) rfl (by kernel_rfl) (by kernel_rfl) (by kernel_rfl) (fun _ _ _ h => h) (Or.inl ⟨by rfl, ?y11⟩) hS ?r11
      case y11 => (intro w hSw; (try dsimp only at hSw); go_simp; try with_reducible rfl)
      try simp only [Act.put, List.setIfInBounds_toArray, List.set_cons_zero, List.set_cons_succ]
      refine wpAnyH_ready (rs := [11]) (by kernel_rfl) (by simp) ?r12
      refine AllReadyH.cons (o := ⟨some 11, Op.alloc 36, 0, _, _, none⟩) rfl (fun K hK => ?s12) AllReadyH.nil
      go_simp
      have HBwa : Hid (Below wc.heap.size wc (wm.alloc (.cells #[.int .i64 0, .int .i64 0, .slice none 0 0] 36))) := HBwm.out.alloc HBwm.out.size _
      have HIA := Lib.hid (Blk.new wm 36 #[.int .i64 0, .int .i64 0, .slice none 0 0])
      have HIL : Hid (wc.heap.size ≤ wm.heap.size) := HBwm.out.size
      have HOwa := Lib.hid (HOwm.kept (World.grownBy_alloc wm (.cells #[.int .i64 0, .int .i64 0, .slice none 0 0] 36) none) (Or.inr (by simp [Value.ownBlock])))
      clear HOwm
      refine hK.out _ _ ?k12 (fun hHeld => ?_)
      case k12 => exact HSY.out _ HBwa.out
      clear hS
      have hS := hHeld
      clear hHeld
      clear hK K
      try simp only [Act.put, List.setIfInBounds_toArray, List.set_cons_zero, List.set_cons_succ]
      generalize wm.alloc (.cells #[.int .i64 0, .int .i64 0, .slice none 0 0] 36) = wa at *
      have HNE : Hid (wd.heap.size ≠ wm.heap.size) := Nat.ne_of_lt HNE0.out
      clear HNE0 HBwm
      generalize wm.heap.size = I at *
      generalize wd.heap.size = g at *
      refine wpAnyH_ready (rs := [12]) (by kernel_rfl) (by simp) ?r13
      refine AllReadyH.cons (o := ⟨none, Op.store 36 (Operand.tmp 11) (Operand.tmp 75), 0, _, _, none⟩) rfl (fun K hK => ?s13) AllReadyH.nil
      refine step_store rfl 36 (.tmp 11) (.tmp 75) rfl rfl I (imgI W H (.slice (some ⟨g, 0, none⟩) 0 N)) (by rfl) (by rfl) 36 _ HIA.out (imgI_inf _ _ _) rfl (imgI_one _ _ _ rfl) ?_
      refine hK.out _ _ ?k13 (fun hHeld => ?_)
      case k13 => exact HSY.out _ (below_rset HBwa.out HIL.out _)
      clear hS
      have hS := hHeld
      clear hHeld
      clear hK K
      try simp only [Act.put, List.setIfInBounds_toArray, List.set_cons_zero, List.set_cons_succ]
      refine wpAnyH_done (by kernel_rfl) ?_ _
      go_wp2_with fail
      go_meet
      case rel => exact ⟨I, _, rfl, g19_fin HB2.out HH2.out HI2.out HBwa.out HIA.out HIL.out HNE.out HOwa.out _⟩
    case sb10 =>
      go_simp
      have HBwa : Hid (Below wc.heap.size wc (wd.alloc (.cells #[.int .i64 0, .int .i64 0, .slice none 0 0] 36))) := HBwd.out.alloc HBwd.out.size _
      have HIA := Lib.hid (Blk.new wd 36 #[.int .i64 0, .int .i64 0, .slice none 0 0])
      have HIL : Hid (wc.heap.size ≤ wd.heap.size) := HBwd.out.size
      have HNE : Hid ((wd.alloc (.cells #[.int .i64 0, .int .i64 0, .slice none 0 0] 36)).heap.size ≠ wd.heap.size) := alloc_ne _ _
      refine hK.out _ _ ?k10 (fun hHeld => ?_)
      case k10 => exact HSY.out _ HBwa.out
      clear hS
      have hS := hHeld
      clear hHeld
      clear hK K
      try simp only [Act.put, List.setIfInBounds_toArray, List.set_cons_zero, List.set_cons_succ]
      generalize wd.alloc (.cells #[.int .i64 0, .int .i64 0, .slice none 0 0] 36) = wa at *
      generalize wd.heap.size = I at *
      refine wpAnyH_ready (rs := [9]) (by kernel_rfl) (by simp) ?r14
      refine AllReadyH.cons (o := ⟨some 74, Op.makeSlice 34 (Operand.const (Value.int IntKind.i64 0)) (Operand.tmp 73), 34, _, _, none⟩) rfl (fun K hK => ?s14) AllReadyH.nil
      refine step_mk0 el_pix rfl rfl B (C := (N : Int)) (n := N) (by simp [Act.eval]) (by simp [Act.eval]; rw [IntKind.wrap_i64]; omega) rfl (by omega) (by unfold maxLen; omega) (Nat.le_trans HSB.out HBwa.out.size) ?_
      intro wm HOwm hgwm
      have HBwm : Hid (Below wc.heap.size wc wm) := Below.trans HBwa.out ((below_mk hgwm).mono HBwa.out.size)
      replace HIA := Lib.hid (HIA.out.made hgwm)
      replace HOwm := Lib.hid HOwm
      clear hgwm HBwa
      refine hK.out _ _ ?k14 (fun hHeld => ?_)
      case k14 => exact HSY.out _ HBwm.out
      clear hS
      have hS := hHeld
      clear hHeld
      clear hK K
      try simp only [Act.put, List.setIfInBounds_toArray, List.set_cons_zero, List.set_cons_succ]
      generalize wa.heap.size = g at *
      refine wpAnyH_take (i := 10) (oi := ⟨some 75, Op.build 36 #[(0, Operand.tmp 66), (1, Operand.tmp 68), (2, Operand.tmp 74)], 36, _, _, none⟩) (v := ?v15) rfl (by kernel_rfl) (by kernel_rfl) (by kernel_rfl) (fun _ _ _ h => h) (Or.inl ⟨by rfl, ?y15⟩) hS ?r15
      case y15 => (intro w hSw; (try dsimp only at hSw); go_simp; try with_reducible rfl)
      try simp only [Act.put, List.setIfInBounds_toArray, List.set_cons_zero, List.set_cons_succ]
      refine wpAnyH_ready (rs := [12]) (by kernel_rfl) (by simp) ?r16
      refine AllReadyH.cons (o := ⟨none, Op.store 36 (Operand.tmp 11) (Operand.tmp 75), 0, _, _, none⟩) rfl (fun K hK => ?s16) AllReadyH.nil
      refine step_store rfl 36 (.tmp 11) (.tmp 75) rfl rfl I (imgI W H (.slice (some ⟨g, 0, none⟩) 0 N)) (by rfl) (by rfl) 36 _ HIA.out (imgI_inf _ _ _) rfl (imgI_one _ _ _ rfl) ?_
      refine hK.out _ _ ?k16 (fun hHeld => ?_)
      case k16 => exact HSY.out _ (below_rset HBwm.out HIL.out _)
      clear hS
      have hS := hHeld
      clear hHeld
      clear hK K
      try simp only [Act.put, List.setIfInBounds_toArray, List.set_cons_zero, List.set_cons_succ]
      refine wpAnyH_done (by kernel_rfl) ?_ _
      go_wp2_with fail
      go_meet
      case rel => exact ⟨I, _, rfl, g19_fin HB2.out HH2.out HI2.out HBwm.out HIA.out HIL.out HNE.out HOwm.out _⟩
    --DLEH19
  case rest =>
  obtain ⟨I, xv, rfl, hBI, hix, hpo, hhd, him, hbe⟩ := hcut
  have HP5 : Hid (RP w _ B I W H d c (.slice xv 0 N) []) := ⟨hix.out, hpo.out, hhd.out, him.out, hbe.out, hBI⟩
  clear hix hpo hhd him hbe HH2 HI2 HB2 k0 k1 k2 k3
  go_wp2_with fail
  refine (HD1.out _ (HR.out.below (by rw [HB.out]; exact HP5.out.be))).mono ?_
  rintro e w6 ⟨rfl, hb6⟩
  have HP6 := Lib.hid (HP5.out.below hb6)
  go_wp2_with fail
  refine (HD2.out _ (HR.out.below (by rw [HB.out]; exact HP6.out.be))).mono ?_
  rintro e w7 ⟨rfl, hb7⟩
  have HP7 := Lib.hid (HP6.out.below hb7)
  clear hb6 hb7 HP5 HP6 HD1 HD2
  obtain ⟨PL, hPL⟩ : ∃ s : ByteArray, s = ⟨(datP l plteN).toArray⟩ := ⟨_, rfl⟩
  obtain ⟨AL, hAL⟩ : ∃ s : ByteArray, s = ⟨(datP l trnsN).toArray⟩ := ⟨_, rfl⟩
  have HPLd : Hid (datP l plteN = PL.data.toList) := by show _ = _; rw [hPL]
  have HALd : Hid (datP l trnsN = AL.data.toList) := by show _ = _; rw [hAL]
  have hPLs : PL.size ≤ 1000000000 := by
    have e : PL.size = PL.data.toList.length := by simp
    rw [e, ← HPLd.out]; exact Nat.le_trans (datP_le l plteN) ht
  have hPL3 : Hid (c = 3 → PL.size % 3 = 0) := fun h => by
    have e : PL.size = PL.data.toList.length := by simp
    rw [e, ← HPLd.out]; exact hpal h
  rw [HPLd.out, HALd.out, HZd.out] at HPX2
  rw [← hPL, ← hAL]
  clear hPL hAL HPLd HALd HZd hpal
  have k1 : w7.cell? ⟨B, 1, none⟩ = some (.int .i64 (H : Int)) := HP7.out.hd.cell 1
  go_wp2_with fail
  clear k1
  have HZS := Lib.hid hzs
  go_loopw [14, 82] (fun va vy wr => ∃ (y : Nat) (ab : ByteArray) (v : Value) (lp : List Px), va = .string ab ∧ vy = .int .i64 y ∧ y ≤ H ∧ Hid (picG c n W PL.data.toList AL.data.toList Z.data.toList y = some (ab.data.toList, lp)) ∧ Hid (RP w wr B I W H d c v lp)) (fun _ vy _ => H - (intOf vy).toNat)
  case atStart => exact ⟨0, ⟨#[]⟩, _, [], rfl, rfl, Nat.zero_le _, rfl, HP7.out⟩
  case round =>
    clear HP7
    obtain ⟨y, ab, v, lp, rfl, rfl, hy, hpg, hrp⟩ := hrel
    by_cases hlt : y < H
    · have hdy : decide ((y : Int) < (H : Int)) = true := by simp; omega
      obtain ⟨a1, ha1⟩ : ∃ a, a = y * sz := ⟨_, rfl⟩
      obtain ⟨a2, ha2⟩ : ∃ a, a = (y + 1) * sz := ⟨_, rfl⟩
      have h12 : a2 = a1 + sz := by rw [ha1, ha2, Nat.add_mul]; omega
      have h2l : a2 ≤ Z.size := by rw [hzs, ha2, ← HTOT.out]; exact Nat.mul_le_mul_right sz hlt
      have hm1 : (y : Int) * (sz : Int) = (a1 : Int) := by rw [ha1]; simp
      have hm2 : ((y : Int) + 1) * (sz : Int) = (a2 : Int) := by rw [ha2]; simp
      have hle : a1 ≤ a2 := by omega
      have hsz1 : 1 ≤ sz := by omega
      obtain ⟨L, hL⟩ : ∃ L, Z.extract a1 a2 = L := ⟨_, rfl⟩
      have hLs : L.size = sz := by rw [← hL]; simp; omega
      have HLd : Hid (L.data.toList = (Z.data.toList.take ((y + 1) * sz)).drop (y * sz)) := by show _ = _; rw [← hL, el2, ha1, ha2]
      have h0l : 0 < L.size := by omega
      obtain ⟨b, hb⟩ : ∃ b, L[0]'h0l = b := ⟨_, rfl⟩
      have hbt := b.toNat_lt
      have hwb : IntKind.i64.wrap (b.toNat : Int) = (b.toNat : Int) := by rw [IntKind.wrap_i64]; omega
      have HB0 : Hid (bt L.data.toList 0 = b.toNat) := by show _ = _; rw [bt_get L 0 h0l, hb]
      have HUN := Lib.hid (fun u => unfilter_any (b.toNat : Int) (bp : Int) (L.extract 1 sz) ab u (by simp; omega))
      obtain ⟨LN, hLN⟩ : ∃ s, L.extract 1 sz = s := ⟨_, rfl⟩
      have HLN : Hid (LN.data.toList = L.data.toList.drop 1) := by show _ = _; rw [← hLN, el2, List.take_of_length_le (by simp; omega)]
      have hLNs : LN.size = wb := by rw [← hLN]; simp; omega
      rw [hLN] at HUN
      have hie1 : 1 ≤ L.size := by omega
      obtain ⟨K0, hK0⟩ : ∃ K0, K0 = wr.heap.size := ⟨_, rfl⟩
      have HK0 : Hid (K0 ≤ wr.heap.size) := by show _ ≤ _; omega
      have HBU : Hid (∀ u : BW K0 wr, Below wr.heap.size wr u.w) := fun u => u.b.mono (by omega)
      have HA1 := Lib.hid ha1
      have HA2 := Lib.hid ha2
      have HH12 := Lib.hid h12
      have HLS := Lib.hid hLs
      clear hK0 ha1 ha2 h12
      go_upto_region 26 with fail
      obtain ⟨fk, hfk⟩ : ∃ k, fchk (b.toNat : Int) (bp : Int) LN.data.toList ab.data.toList = k := ⟨_, rfl⟩
      have HFK := Lib.hid hfk
      rw [hfk] at HUN
      obtain ⟨UB, hUB⟩ : ∃ s : ByteArray, (if fk = 0 then ⟨(unfP (b.toNat : Int) (bp : Int).toNat LN.data.toList ab.data.toList).toArray⟩ else ⟨#[]⟩ : ByteArray) = s := ⟨_, rfl⟩
      rw [hUB] at HUN
      have HUB : Hid (fk = 0 → UB.data.toList = unfP (b.toNat : Int) bp LN.data.toList ab.data.toList) := fun h => by rw [← hUB, if_pos h, Int.toNat_natCast]
      have HUG : Hid (unG (chanP c * n) (1 + W * (chanP c * n)) Z.data.toList ab.data.toList y = if fk ≠ 0 then none else some UB.data.toList) := by
        show _ = _
        unfold unG
        rw [HCH.out, HBP.out, HWB.out, HSZ.out]
        simp only []
        rw [← HLd.out, HB0.out, ← HLN.out, HFK.out]
        by_cases h0 : fk = 0
        · rw [if_neg (by simp [h0]), if_neg (by simp [h0]), HUB.out h0]
        · rw [if_pos h0, if_pos h0]
      clear hfk hUB HFK
      refine wp_region_bw K0 wr (Below.refl _ _) (by kernel_rfl) (by kernel_rfl) ?_
      repeat (go_big_quiet_step (first | (go_at_call 20; exact calls_bw HK0.out (HUN.out _))))
      refine wpQuiet_nil ?_
      rintro _ ⟨v8, rfl⟩
      have HP8 := Lib.hid (hrp.out.below (HBU.out v8))
      generalize v8.w = w8 at *
      clear HBU HUN hrp
      by_cases hfk0 : fk = 0
      · have dfk : ((fk : Int) != 0) = false := by rw [hfk0]; rfl
        have HUBd := Lib.hid (HUB.out hfk0)
        have hUBs : UB.size = wb := by
          have e1 : UB.size = UB.data.toList.length := by simp
          have e2 : LN.data.toList.length = LN.size := by simp
          rw [e1, HUBd.out, unfP_len, e2, hLNs]
        have HUG2 : Hid (unG (chanP c * n) (1 + W * (chanP c * n)) Z.data.toList ab.data.toList y = some UB.data.toList) := by show _ = _; rw [HUG.out, if_neg (by simp [hfk0])]
        have HPN : Hid (∀ r, rowG c n PL.data.toList AL.data.toList UB.data.toList W = r → picG c n W PL.data.toList AL.data.toList Z.data.toList (y + 1) = match r with | none => none | some q => some (UB.data.toList, lp ++ q)) := fun r hr => by
          show picG c n W PL.data.toList AL.data.toList Z.data.toList (y + 1) = _
          unfold picG
          rw [hpg.out]
          simp only
          rw [HUG2.out]
          simp only
          rw [hr]
          cases r <;> rfl
        have k0 : w8.cell? ⟨B, 0, none⟩ = some (.int .i64 (W : Int)) := HP8.out.hd.cell 0
        have HLPL := Lib.hid (picG_len hpg.out)
        clear HUG HUG2 HUB HUBd hpg hm1 hm2 hle hsz1 h0l hb hbt hwb hie1 hL hLN hfk0 h2l HB0 HLd HLN HLS hLs hLNs
        go_wp2_with fail
        clear k0
        go_loopw [110] (fun vx wr => ∃ (x : Nat) (v : Value) (lx : List Px), vx = .int .i64 x ∧ x ≤ W ∧ Hid (rowG c n PL.data.toList AL.data.toList UB.data.toList x = some lx) ∧ Hid (RP w wr B I W H d c v (lp ++ lx))) (fun vx _ => W - (intOf vx).toNat)
        case atStart => exact ⟨0, _, [], rfl, Nat.zero_le _, rfl, by rw [List.append_nil]; exact HP8.out⟩
        case round =>
          clear HP8
          obtain ⟨x, v, lx, rfl, hx, hrg, hrp⟩ := hrel
          by_cases hltx : x < W
          · have hdx : decide ((x : Int) < (W : Int)) = true := by simp; omega
            have HLX := Lib.hid (rowG_len hrg.out)
            obtain ⟨acc, hacc⟩ : ∃ a, lp ++ lx = a := ⟨_, rfl⟩
            have hal : acc.length ≤ 100000 := by
              rw [← hacc, List.length_append, HLPL.out, HLX.out]
              have : y * W ≤ 256 * 256 := Nat.mul_le_mul (by omega) hW.2
              omega
            rw [hacc] at hrp
            have HACC := Lib.hid hacc
            obtain ⟨xo, co, hv⟩ := pown_shape hrp.out.po
            subst hv
            obtain ⟨b1, hb1⟩ : ∃ a, a = x * bp := ⟨_, rfl⟩
            obtain ⟨b2, hb2⟩ : ∃ a, a = (x + 1) * bp := ⟨_, rfl⟩
            have h12 : b2 = b1 + bp := by rw [hb1, hb2, Nat.add_mul]; omega
            have h2l : b2 ≤ UB.size := by rw [hUBs, hb2, ← HWB.out]; exact Nat.mul_le_mul_right bp hltx
            have hm3 : (x : Int) * (bp : Int) = (b1 : Int) := by rw [hb1]; simp
            have hm4 : ((x : Int) + 1) * (bp : Int) = (b2 : Int) := by rw [hb2]; simp
            have hle : b1 ≤ b2 := by omega
            obtain ⟨PS, hPS⟩ : ∃ L, UB.extract b1 b2 = L := ⟨_, rfl⟩
            have hPSs : PS.size = bp := by rw [← hPS]; simp; omega
            have HPSd : Hid ((UB.data.toList.take ((x + 1) * (chanP c * n))).drop (x * (chanP c * n)) = PS.data.toList) := by show _ = _; rw [← hPS, el2, HCH.out, HBP.out, hb1, hb2]
            have HRN : Hid (∀ o, pixG c n PL.data.toList AL.data.toList UB.data.toList x = o → rowG c n PL.data.toList AL.data.toList UB.data.toList (x + 1) = match o with | none => none | some p => some (lx ++ [p])) := fun o ho => by
              show rowG c n PL.data.toList AL.data.toList UB.data.toList (x + 1) = _
              unfold rowG
              rw [hrg.out]
              simp only
              rw [ho]
              cases o <;> rfl
            have k3 : wr.cell? ⟨B, 3, none⟩ = some (.int .i64 (c : Int)) := hrp.out.hd.cell 3
            have HRwd := Lib.hid (hrp.out.drew)
            have HP9 := Lib.hid hrp.out
            clear hacc hb1 hb2 h12 hrg hrp HLX
            by_cases hc3 : c = 3
            · have dc : ((c : Int) != 3) = false := by simp; omega
              have HC3 := Lib.hid hc3
              clear hc3
              have h0p : 0 < PS.size := by omega
              have h0i : (0 : Int) < (PS.size : Int) := by omega
              obtain ⟨b, hb⟩ : ∃ b, PS[0]'h0p = b := ⟨_, rfl⟩
              have hbt := b.toNat_lt
              obtain ⟨k, hk⟩ : ∃ k, b.toNat = k := ⟨_, rfl⟩
              have hwk : IntKind.i64.wrap (k : Int) = (k : Int) := by rw [IntKind.wrap_i64]; omega
              have HB0 : Hid (bt PS.data.toList 0 = k) := by show _ = _; rw [bt_get PS 0 h0p, hb, hk]
              have HRP : Hid (∀ o, (if PL.data.toList.length ≤ 3 * k then none else some (idxP k PL.data.toList AL.data.toList)) = o → rowG c n PL.data.toList AL.data.toList UB.data.toList (x + 1) = match o with | none => none | some p => some (lx ++ [p])) := fun o ho => HRN.out o (by
                unfold pixG
                rw [HPSd.out]
                simp only []
                rw [if_neg (by simpa using HC3.out), HB0.out]
                exact ho)
              have HPZ : Hid (PL.data.toList.length = PL.size) := by show _ = _; simp
              rw [HPZ.out] at HRP
              clear HRN HPSd HB0 hPSs HPZ
              by_cases hov : PL.size ≤ 3 * k
              · have dov : decide ((PL.size : Int) ≤ 3 * (k : Int)) = true := by simp; omega
                have HRZ := Lib.hid (HRP.out none (by rw [if_pos hov]))
                simp only at HRZ
                have HE : Hid (pixR l W H d c = .error 4) := by
                  show _ = _
                  rw [HPX2.out, picG_dead (y := y + 1) ?_ H (by omega)]
                  have := HPN.out none (rowG_dead HRZ.out W (by omega))
                  exact this
                clear HRZ HRP HPN hov HRwd
                go_wp2_with (refine wpList_rset_same rfl 36 (.tmp 4) (.tmp 141) rfl rfl (B + 1) (imgI 0 0 (.slice none 0 0)) (by rfl) (by rfl) 36 (by exact HP9.out.im) (imgI_inf _ _ _) (imgI_one _ _ _ rfl) ?_)
                refine bodyPost_ret (v := .tuple #[.agg (imgI 0 0 (.slice none 0 0)), .int .i64 4]) (results_ct rfl _ _ (B + 1) 36 (imgI 0 0 (.slice none 0 0)) (0, 0) _ _ rfl rfl HP9.out.im Tryz.underlying36 rfl (imgI_inf _ _ _)) rfl ⟨?_, by rw [HB.out]; exact HP9.out.be⟩
                rw [HE.out]
                rfl
              · have dov : decide ((PL.size : Int) ≤ 3 * (k : Int)) = false := by simp; omega
                have h3 := hPL3.out HC3.out
                have HDI := Lib.hid (fun u => indexed_any k PL AL u (by omega) (by omega) hPLs)
                obtain ⟨⟨q0, q1, q2, q3⟩, hq⟩ : ∃ q, idxP k PL.data.toList AL.data.toList = q := ⟨_, rfl⟩
                rw [hq] at HDI
                change Hid (∀ u, Calls Tryz.prog 89 #[.int .i64 (k : Int), .string PL, .string AL] u fun e w' => e = .returned (.agg #[.int .i64 q0, .int .i64 q1, .int .i64 q2, .int .i64 q3]) ∧ Below u.heap.size u w') at HDI
                have HRW := Lib.hid (HRP.out (some (q0, q1, q2, q3)) (by rw [if_neg hov, hq]))
                simp only at HRW
                clear hq hov h3 HRP HP9
                go_upto_region 38 with fail
                clear k3 hdx hm3 hm4 hle h2l hPS dc dov h0p h0i hb hbt hk hwk
                --HELD38
                refine wp_region_held_drew (S := fun _ => True) (by kernel_rfl) trivial (fun hHeld => ?_)
                clear hHeld
                generalize wr.drew = wd at *
                refine wpAnyH_weaken (S2 := fun _ => True) (fun _ _ => trivial) ?_
                have hS := trivial
                refine wpAnyH_take (i := 0) (oi := ⟨some 142, Op.fieldAddr 36 (Operand.tmp 11) 2, 0, _, _, none⟩) (v := ?vr38_1) rfl (by kernel_rfl) (by kernel_rfl) (by kernel_rfl) (fun _ _ _ h => h) (Or.inl ⟨by rfl, ?yr38_1⟩) hS ?rr38_1
                case yr38_1 => (intro w hSw; (try dsimp only at hSw); go_simp; try with_reducible rfl)
                try simp only [Act.put, List.setIfInBounds_toArray, List.set_cons_zero, List.set_cons_succ]
                refine wpAnyH_take (i := 2) (oi := ⟨some 144, Op.move (Operand.tmp 19), 3, _, _, none⟩) (v := ?vr38_2) rfl (by kernel_rfl) (by kernel_rfl) (by kernel_rfl) (fun _ _ _ h => h) (Or.inl ⟨by rfl, ?yr38_2⟩) hS ?rr38_2
                case yr38_2 => (intro w hSw; (try dsimp only at hSw); go_simp; try with_reducible rfl)
                try simp only [Act.put, List.setIfInBounds_toArray, List.set_cons_zero, List.set_cons_succ]
                refine wpAnyH_take (i := 3) (oi := ⟨some 145, Op.move (Operand.tmp 12), 9, _, _, none⟩) (v := ?vr38_3) rfl (by kernel_rfl) (by kernel_rfl) (by kernel_rfl) (fun _ _ _ h => h) (Or.inl ⟨by rfl, ?yr38_3⟩) hS ?rr38_3
                case yr38_3 => (intro w hSw; (try dsimp only at hSw); go_simp; try with_reducible rfl)
                try simp only [Act.put, List.setIfInBounds_toArray, List.set_cons_zero, List.set_cons_succ]
                refine wpAnyH_take (i := 4) (oi := ⟨some 146, Op.move (Operand.tmp 13), 9, _, _, none⟩) (v := ?vr38_4) rfl (by kernel_rfl) (by kernel_rfl) (by kernel_rfl) (fun _ _ _ h => h) (Or.inl ⟨by rfl, ?yr38_4⟩) hS ?rr38_4
                case yr38_4 => (intro w hSw; (try dsimp only at hSw); go_simp; try with_reducible rfl)
                try simp only [Act.put, List.setIfInBounds_toArray, List.set_cons_zero, List.set_cons_succ]
                refine wpAnyH_ready (rs := [1, 5]) (by kernel_rfl) (by simp) ?rr38_5
                refine AllReadyH.cons (o := ⟨some 143, Op.load 34 (Operand.tmp 142), 34, _, _, none⟩) rfl (fun K hK => ?sar38_5) (AllReadyH.cons (o := ⟨some 147, Op.call { callee := Callee.value (Operand.func 89), args := #[Operand.tmp 144, Operand.tmp 145, Operand.tmp 146], argTypes := #[3, 9, 9] }, 41, _, _, none⟩) rfl (fun K hK => ?sbr38_5) AllReadyH.nil)
                case sar38_5 =>
                  have kc := HRwd.out.ix.cell 2
                  simp [imgI] at kc
                  go_simp
                  clear kc
                  refine hK.out _ _ ?kr38_5 (fun hHeld => ?_)
                  case kr38_5 => exact trivial
                  clear hS
                  have hS := hHeld
                  clear hHeld
                  clear hK K
                  try simp only [Act.put, List.setIfInBounds_toArray, List.set_cons_zero, List.set_cons_succ]
                  refine wpAnyH_ready (rs := [5]) (by kernel_rfl) (by simp) ?rr38_6
                  refine AllReadyH.cons (o := ⟨some 147, Op.call { callee := Callee.value (Operand.func 89), args := #[Operand.tmp 144, Operand.tmp 145, Operand.tmp 146], argTypes := #[3, 9, 9] }, 41, _, _, none⟩) rfl (fun K hK => ?sr38_6) AllReadyH.nil
                  go_simp
                  refine (HDI.out _).mono ?_
                  rintro e w3 ⟨rfl, hb⟩
                  have HRw3 := Lib.hid (HRwd.out.below hb)
                  clear hb
                  refine hK.out _ _ ?kr38_6 (fun hHeld => ?_)
                  case kr38_6 => exact trivial
                  clear hS
                  have hS := hHeld
                  clear hHeld
                  clear hK K
                  try simp only [Act.put, List.setIfInBounds_toArray, List.set_cons_zero, List.set_cons_succ]
                  refine wpAnyH_ready (rs := [6]) (by kernel_rfl) (by simp) ?rr38_7
                  refine AllReadyH.cons (o := ⟨some 148, Op.buildSlice 34 1 #[(0, Operand.tmp 147)], 34, _, _, none⟩) rfl (fun K hK => ?sr38_7) AllReadyH.nil
                  go_simp
                  have HRwb := Lib.hid (HRw3.out.alloc (.cells #[.int .i64 q0, .int .i64 q1, .int .i64 q2, .int .i64 q3] 41))
                  have HBK := Lib.hid (Blk.new w3 41 #[.int .i64 q0, .int .i64 q1, .int .i64 q2, .int .i64 q3])
                  refine hK.out _ _ ?kr38_7 (fun hHeld => ?_)
                  case kr38_7 => exact trivial
                  clear hS
                  have hS := hHeld
                  clear hHeld
                  clear hK K
                  try simp only [Act.put, List.setIfInBounds_toArray, List.set_cons_zero, List.set_cons_succ]
                  generalize w3.alloc (.cells #[.int .i64 q0, .int .i64 q1, .int .i64 q2, .int .i64 q3] 41) = wb at *
                  generalize w3.heap.size = KB at *
                  refine wpAnyH_ready (rs := [7]) (by kernel_rfl) (by simp) ?rr38_8
                  refine AllReadyH.cons (o := ⟨some 149, Op.call { callee := Callee.builtin Builtin.append, args := #[Operand.tmp 143, Operand.tmp 148], argTypes := #[34, 34] }, 34, _, _, none⟩) rfl (fun K hK => ?sr38_8) AllReadyH.nil
                  refine step_appP el_pix rfl (s := .tmp 143) (x := .tmp 148) rfl (by simp [Act.eval]) HRwb.out.po (m := 0) (by simp [Act.eval]) HBK.out rfl (by intro z hz; simp at hz; rcases hz with rfl | rfl | rfl | rfl <;> rfl) (by omega) (by unfold maxLen; omega) HRwb.out.size ?_
                  intro r2 cap2 w5 ho5 hg5
                  obtain ⟨hi5, hr5⟩ := HRwb.out.next (p := (q0, q1, q2, q3)) ho5 hg5
                  have k5 := hi5.cell 2
                  have f5 := hi5.frozen 2
                  simp [imgI] at k5
                  replace hr5 := Lib.hid hr5
                  clear hi5 ho5 hg5 HBK HRwb
                  refine hK.out _ _ ?kr38_8 (fun hHeld => ?_)
                  case kr38_8 => exact trivial
                  clear hS
                  have hS := hHeld
                  clear hHeld
                  clear hK K
                  try simp only [Act.put, List.setIfInBounds_toArray, List.set_cons_zero, List.set_cons_succ]
                  refine wpAnyH_take (i := 8) (oi := ⟨some 150, Op.fieldAddr 36 (Operand.tmp 11) 2, 0, _, _, none⟩) (v := ?vr38_9) rfl (by kernel_rfl) (by kernel_rfl) (by kernel_rfl) (fun _ _ _ h => h) (Or.inl ⟨by rfl, ?yr38_9⟩) hS ?rr38_9
                  case yr38_9 => (intro w hSw; (try dsimp only at hSw); go_simp; try with_reducible rfl)
                  try simp only [Act.put, List.setIfInBounds_toArray, List.set_cons_zero, List.set_cons_succ]
                  refine wpAnyH_ready (rs := [9]) (by kernel_rfl) (by simp) ?rr38_10
                  refine AllReadyH.cons (o := ⟨none, Op.store 34 (Operand.tmp 150) (Operand.tmp 149), 0, _, _, none⟩) rfl (fun K hK => ?sr38_10) AllReadyH.nil
                  go_simp
                  refine hK.out _ _ ?kr38_10 (fun hHeld => ?_)
                  case kr38_10 => exact trivial
                  clear hS
                  have hS := hHeld
                  clear hHeld
                  clear hK K
                  try simp only [Act.put, List.setIfInBounds_toArray, List.set_cons_zero, List.set_cons_succ]
                  refine wpAnyH_done (by kernel_rfl) ?_ _
                  clear k5 f5
                  go_wp2_with fail
                  go_roundw
                  case rel => exact ⟨x + 1, _, lx ++ [(q0, q1, q2, q3)], by go_num, by omega, HRW.out, by rw [← List.append_assoc, HACC.out]; exact hr5.out⟩
                  case measure => simp [intOf]; omega
                case sbr38_5 =>
                  go_simp
                  refine (HDI.out _).mono ?_
                  rintro e w3 ⟨rfl, hb⟩
                  have HRw3 := Lib.hid (HRwd.out.below hb)
                  clear hb
                  refine hK.out _ _ ?kr38_5 (fun hHeld => ?_)
                  case kr38_5 => exact trivial
                  clear hS
                  have hS := hHeld
                  clear hHeld
                  clear hK K
                  try simp only [Act.put, List.setIfInBounds_toArray, List.set_cons_zero, List.set_cons_succ]
                  refine wpAnyH_ready (rs := [1, 6]) (by kernel_rfl) (by simp) ?rr38_11
                  refine AllReadyH.cons (o := ⟨some 143, Op.load 34 (Operand.tmp 142), 34, _, _, none⟩) rfl (fun K hK => ?sar38_11) (AllReadyH.cons (o := ⟨some 148, Op.buildSlice 34 1 #[(0, Operand.tmp 147)], 34, _, _, none⟩) rfl (fun K hK => ?sbr38_11) AllReadyH.nil)
                  case sar38_11 =>
                    have kc := HRw3.out.ix.cell 2
                    simp [imgI] at kc
                    go_simp
                    clear kc
                    refine hK.out _ _ ?kr38_11 (fun hHeld => ?_)
                    case kr38_11 => exact trivial
                    clear hS
                    have hS := hHeld
                    clear hHeld
                    clear hK K
                    try simp only [Act.put, List.setIfInBounds_toArray, List.set_cons_zero, List.set_cons_succ]
                    refine wpAnyH_ready (rs := [6]) (by kernel_rfl) (by simp) ?rr38_12
                    refine AllReadyH.cons (o := ⟨some 148, Op.buildSlice 34 1 #[(0, Operand.tmp 147)], 34, _, _, none⟩) rfl (fun K hK => ?sr38_12) AllReadyH.nil
                    go_simp
                    have HRwb := Lib.hid (HRw3.out.alloc (.cells #[.int .i64 q0, .int .i64 q1, .int .i64 q2, .int .i64 q3] 41))
                    have HBK := Lib.hid (Blk.new w3 41 #[.int .i64 q0, .int .i64 q1, .int .i64 q2, .int .i64 q3])
                    refine hK.out _ _ ?kr38_12 (fun hHeld => ?_)
                    case kr38_12 => exact trivial
                    clear hS
                    have hS := hHeld
                    clear hHeld
                    clear hK K
                    try simp only [Act.put, List.setIfInBounds_toArray, List.set_cons_zero, List.set_cons_succ]
                    generalize w3.alloc (.cells #[.int .i64 q0, .int .i64 q1, .int .i64 q2, .int .i64 q3] 41) = wb at *
                    generalize w3.heap.size = KB at *
                    refine wpAnyH_ready (rs := [7]) (by kernel_rfl) (by simp) ?rr38_13
                    refine AllReadyH.cons (o := ⟨some 149, Op.call { callee := Callee.builtin Builtin.append, args := #[Operand.tmp 143, Operand.tmp 148], argTypes := #[34, 34] }, 34, _, _, none⟩) rfl (fun K hK => ?sr38_13) AllReadyH.nil
                    refine step_appP el_pix rfl (s := .tmp 143) (x := .tmp 148) rfl (by simp [Act.eval]) HRwb.out.po (m := 0) (by simp [Act.eval]) HBK.out rfl (by intro z hz; simp at hz; rcases hz with rfl | rfl | rfl | rfl <;> rfl) (by omega) (by unfold maxLen; omega) HRwb.out.size ?_
                    intro r2 cap2 w5 ho5 hg5
                    obtain ⟨hi5, hr5⟩ := HRwb.out.next (p := (q0, q1, q2, q3)) ho5 hg5
                    have k5 := hi5.cell 2
                    have f5 := hi5.frozen 2
                    simp [imgI] at k5
                    replace hr5 := Lib.hid hr5
                    clear hi5 ho5 hg5 HBK HRwb
                    refine hK.out _ _ ?kr38_13 (fun hHeld => ?_)
                    case kr38_13 => exact trivial
                    clear hS
                    have hS := hHeld
                    clear hHeld
                    clear hK K
                    try simp only [Act.put, List.setIfInBounds_toArray, List.set_cons_zero, List.set_cons_succ]
                    refine wpAnyH_take (i := 8) (oi := ⟨some 150, Op.fieldAddr 36 (Operand.tmp 11) 2, 0, _, _, none⟩) (v := ?vr38_14) rfl (by kernel_rfl) (by kernel_rfl) (by kernel_rfl) (fun _ _ _ h => h) (Or.inl ⟨by rfl, ?yr38_14⟩) hS ?rr38_14
                    case yr38_14 => (intro w hSw; (try dsimp only at hSw); go_simp; try with_reducible rfl)
                    try simp only [Act.put, List.setIfInBounds_toArray, List.set_cons_zero, List.set_cons_succ]
                    refine wpAnyH_ready (rs := [9]) (by kernel_rfl) (by simp) ?rr38_15
                    refine AllReadyH.cons (o := ⟨none, Op.store 34 (Operand.tmp 150) (Operand.tmp 149), 0, _, _, none⟩) rfl (fun K hK => ?sr38_15) AllReadyH.nil
                    go_simp
                    refine hK.out _ _ ?kr38_15 (fun hHeld => ?_)
                    case kr38_15 => exact trivial
                    clear hS
                    have hS := hHeld
                    clear hHeld
                    clear hK K
                    try simp only [Act.put, List.setIfInBounds_toArray, List.set_cons_zero, List.set_cons_succ]
                    refine wpAnyH_done (by kernel_rfl) ?_ _
                    clear k5 f5
                    go_wp2_with fail
                    go_roundw
                    case rel => exact ⟨x + 1, _, lx ++ [(q0, q1, q2, q3)], by go_num, by omega, HRW.out, by rw [← List.append_assoc, HACC.out]; exact hr5.out⟩
                    case measure => simp [intOf]; omega
                  case sbr38_11 =>
                    go_simp
                    have HRwb := Lib.hid (HRw3.out.alloc (.cells #[.int .i64 q0, .int .i64 q1, .int .i64 q2, .int .i64 q3] 41))
                    have HBK := Lib.hid (Blk.new w3 41 #[.int .i64 q0, .int .i64 q1, .int .i64 q2, .int .i64 q3])
                    refine hK.out _ _ ?kr38_11 (fun hHeld => ?_)
                    case kr38_11 => exact trivial
                    clear hS
                    have hS := hHeld
                    clear hHeld
                    clear hK K
                    try simp only [Act.put, List.setIfInBounds_toArray, List.set_cons_zero, List.set_cons_succ]
                    generalize w3.alloc (.cells #[.int .i64 q0, .int .i64 q1, .int .i64 q2, .int .i64 q3] 41) = wb at *
                    generalize w3.heap.size = KB at *
                    refine wpAnyH_ready (rs := [1]) (by kernel_rfl) (by simp) ?rr38_16
                    refine AllReadyH.cons (o := ⟨some 143, Op.load 34 (Operand.tmp 142), 34, _, _, none⟩) rfl (fun K hK => ?sr38_16) AllReadyH.nil
                    have kc := HRwb.out.ix.cell 2
                    simp [imgI] at kc
                    go_simp
                    clear kc
                    refine hK.out _ _ ?kr38_16 (fun hHeld => ?_)
                    case kr38_16 => exact trivial
                    clear hS
                    have hS := hHeld
                    clear hHeld
                    clear hK K
                    try simp only [Act.put, List.setIfInBounds_toArray, List.set_cons_zero, List.set_cons_succ]
                    refine wpAnyH_ready (rs := [7]) (by kernel_rfl) (by simp) ?rr38_17
                    refine AllReadyH.cons (o := ⟨some 149, Op.call { callee := Callee.builtin Builtin.append, args := #[Operand.tmp 143, Operand.tmp 148], argTypes := #[34, 34] }, 34, _, _, none⟩) rfl (fun K hK => ?sr38_17) AllReadyH.nil
                    refine step_appP el_pix rfl (s := .tmp 143) (x := .tmp 148) rfl (by simp [Act.eval]) HRwb.out.po (m := 0) (by simp [Act.eval]) HBK.out rfl (by intro z hz; simp at hz; rcases hz with rfl | rfl | rfl | rfl <;> rfl) (by omega) (by unfold maxLen; omega) HRwb.out.size ?_
                    intro r2 cap2 w5 ho5 hg5
                    obtain ⟨hi5, hr5⟩ := HRwb.out.next (p := (q0, q1, q2, q3)) ho5 hg5
                    have k5 := hi5.cell 2
                    have f5 := hi5.frozen 2
                    simp [imgI] at k5
                    replace hr5 := Lib.hid hr5
                    clear hi5 ho5 hg5 HBK HRwb
                    refine hK.out _ _ ?kr38_17 (fun hHeld => ?_)
                    case kr38_17 => exact trivial
                    clear hS
                    have hS := hHeld
                    clear hHeld
                    clear hK K
                    try simp only [Act.put, List.setIfInBounds_toArray, List.set_cons_zero, List.set_cons_succ]
                    refine wpAnyH_take (i := 8) (oi := ⟨some 150, Op.fieldAddr 36 (Operand.tmp 11) 2, 0, _, _, none⟩) (v := ?vr38_18) rfl (by kernel_rfl) (by kernel_rfl) (by kernel_rfl) (fun _ _ _ h => h) (Or.inl ⟨by rfl, ?yr38_18⟩) hS ?rr38_18
                    case yr38_18 => (intro w hSw; (try dsimp only at hSw); go_simp; try with_reducible rfl)
                    try simp only [Act.put, List.setIfInBounds_toArray, List.set_cons_zero, List.set_cons_succ]
                    refine wpAnyH_ready (rs := [9]) (by kernel_rfl) (by simp) ?rr38_19
                    refine AllReadyH.cons (o := ⟨none, Op.store 34 (Operand.tmp 150) (Operand.tmp 149), 0, _, _, none⟩) rfl (fun K hK => ?sr38_19) AllReadyH.nil
                    go_simp
                    refine hK.out _ _ ?kr38_19 (fun hHeld => ?_)
                    case kr38_19 => exact trivial
                    clear hS
                    have hS := hHeld
                    clear hHeld
                    clear hK K
                    try simp only [Act.put, List.setIfInBounds_toArray, List.set_cons_zero, List.set_cons_succ]
                    refine wpAnyH_done (by kernel_rfl) ?_ _
                    clear k5 f5
                    go_wp2_with fail
                    go_roundw
                    case rel => exact ⟨x + 1, _, lx ++ [(q0, q1, q2, q3)], by go_num, by omega, HRW.out, by rw [← List.append_assoc, HACC.out]; exact hr5.out⟩
                    case measure => simp [intOf]; omega
                --DLEH38
            · have dc : ((c : Int) != 3) = true := by simp; omega
              have HDI := Lib.hid (fun u => direct_any PS ch n u (by omega) HN12.out (by rw [hPSs]; exact HBP.out.symm))
              obtain ⟨⟨q0, q1, q2, q3⟩, hq⟩ : ∃ q, dirP PS.data.toList ch n = q := ⟨_, rfl⟩
              rw [hq] at HDI
              change Hid (∀ u, Calls Tryz.prog 88 #[.string PS, .int .i64 (ch : Int)] u fun e w' => e = .returned (.agg #[.int .i64 q0, .int .i64 q1, .int .i64 q2, .int .i64 q3]) ∧ Below u.heap.size u w') at HDI
              have HRW := Lib.hid (HRN.out (some (q0, q1, q2, q3)) (by
                unfold pixG
                rw [HPSd.out, HCH.out]
                simp only []
                rw [if_pos hc3, hq]))
              simp only at HRW
              clear hq hc3 HRN HPSd hPSs HP9
              go_upto_region 34 with fail
              clear k3 hdx hm3 hm4 hle h2l hPS dc
              --HELD34
              refine wp_region_held_drew (S := fun _ => True) (by kernel_rfl) trivial (fun hHeld => ?_)
              clear hHeld
              generalize wr.drew = wd at *
              refine wpAnyH_weaken (S2 := fun _ => True) (fun _ _ => trivial) ?_
              have hS := trivial
              refine wpAnyH_take (i := 0) (oi := ⟨some 125, Op.fieldAddr 36 (Operand.tmp 11) 2, 0, _, _, none⟩) (v := ?vr34_1) rfl (by kernel_rfl) (by kernel_rfl) (by kernel_rfl) (fun _ _ _ h => h) (Or.inl ⟨by rfl, ?yr34_1⟩) hS ?rr34_1
              case yr34_1 => (intro w hSw; (try dsimp only at hSw); go_simp; try with_reducible rfl)
              try simp only [Act.put, List.setIfInBounds_toArray, List.set_cons_zero, List.set_cons_succ]
              refine wpAnyH_take (i := 2) (oi := ⟨some 127, Op.move (Operand.tmp 18), 9, _, _, none⟩) (v := ?vr34_2) rfl (by kernel_rfl) (by kernel_rfl) (by kernel_rfl) (fun _ _ _ h => h) (Or.inl ⟨by rfl, ?yr34_2⟩) hS ?rr34_2
              case yr34_2 => (intro w hSw; (try dsimp only at hSw); go_simp; try with_reducible rfl)
              try simp only [Act.put, List.setIfInBounds_toArray, List.set_cons_zero, List.set_cons_succ]
              refine wpAnyH_take (i := 3) (oi := ⟨some 128, Op.move (Operand.tmp 8), 3, _, _, none⟩) (v := ?vr34_3) rfl (by kernel_rfl) (by kernel_rfl) (by kernel_rfl) (fun _ _ _ h => h) (Or.inl ⟨by rfl, ?yr34_3⟩) hS ?rr34_3
              case yr34_3 => (intro w hSw; (try dsimp only at hSw); go_simp; try with_reducible rfl)
              try simp only [Act.put, List.setIfInBounds_toArray, List.set_cons_zero, List.set_cons_succ]
              refine wpAnyH_ready (rs := [1, 4]) (by kernel_rfl) (by simp) ?rr34_4
              refine AllReadyH.cons (o := ⟨some 126, Op.load 34 (Operand.tmp 125), 34, _, _, none⟩) rfl (fun K hK => ?sar34_4) (AllReadyH.cons (o := ⟨some 129, Op.call { callee := Callee.value (Operand.func 88), args := #[Operand.tmp 127, Operand.tmp 128], argTypes := #[9, 3] }, 41, _, _, none⟩) rfl (fun K hK => ?sbr34_4) AllReadyH.nil)
              case sar34_4 =>
                have kc := HRwd.out.ix.cell 2
                simp [imgI] at kc
                go_simp
                clear kc
                refine hK.out _ _ ?kr34_4 (fun hHeld => ?_)
                case kr34_4 => exact trivial
                clear hS
                have hS := hHeld
                clear hHeld
                clear hK K
                try simp only [Act.put, List.setIfInBounds_toArray, List.set_cons_zero, List.set_cons_succ]
                refine wpAnyH_ready (rs := [4]) (by kernel_rfl) (by simp) ?rr34_5
                refine AllReadyH.cons (o := ⟨some 129, Op.call { callee := Callee.value (Operand.func 88), args := #[Operand.tmp 127, Operand.tmp 128], argTypes := #[9, 3] }, 41, _, _, none⟩) rfl (fun K hK => ?sr34_5) AllReadyH.nil
                go_simp
                refine (HDI.out _).mono ?_
                rintro e w3 ⟨rfl, hb⟩
                have HRw3 := Lib.hid (HRwd.out.below hb)
                clear hb
                refine hK.out _ _ ?kr34_5 (fun hHeld => ?_)
                case kr34_5 => exact trivial
                clear hS
                have hS := hHeld
                clear hHeld
                clear hK K
                try simp only [Act.put, List.setIfInBounds_toArray, List.set_cons_zero, List.set_cons_succ]
                refine wpAnyH_ready (rs := [5]) (by kernel_rfl) (by simp) ?rr34_6
                refine AllReadyH.cons (o := ⟨some 130, Op.buildSlice 34 1 #[(0, Operand.tmp 129)], 34, _, _, none⟩) rfl (fun K hK => ?sr34_6) AllReadyH.nil
                go_simp
                have HRwb := Lib.hid (HRw3.out.alloc (.cells #[.int .i64 q0, .int .i64 q1, .int .i64 q2, .int .i64 q3] 41))
                have HBK := Lib.hid (Blk.new w3 41 #[.int .i64 q0, .int .i64 q1, .int .i64 q2, .int .i64 q3])
                refine hK.out _ _ ?kr34_6 (fun hHeld => ?_)
                case kr34_6 => exact trivial
                clear hS
                have hS := hHeld
                clear hHeld
                clear hK K
                try simp only [Act.put, List.setIfInBounds_toArray, List.set_cons_zero, List.set_cons_succ]
                generalize w3.alloc (.cells #[.int .i64 q0, .int .i64 q1, .int .i64 q2, .int .i64 q3] 41) = wb at *
                generalize w3.heap.size = KB at *
                refine wpAnyH_ready (rs := [6]) (by kernel_rfl) (by simp) ?rr34_7
                refine AllReadyH.cons (o := ⟨some 131, Op.call { callee := Callee.builtin Builtin.append, args := #[Operand.tmp 126, Operand.tmp 130], argTypes := #[34, 34] }, 34, _, _, none⟩) rfl (fun K hK => ?sr34_7) AllReadyH.nil
                refine step_appP el_pix rfl (s := .tmp 126) (x := .tmp 130) rfl (by simp [Act.eval]) HRwb.out.po (m := 0) (by simp [Act.eval]) HBK.out rfl (by intro z hz; simp at hz; rcases hz with rfl | rfl | rfl | rfl <;> rfl) (by omega) (by unfold maxLen; omega) HRwb.out.size ?_
                intro r2 cap2 w5 ho5 hg5
                obtain ⟨hi5, hr5⟩ := HRwb.out.next (p := (q0, q1, q2, q3)) ho5 hg5
                have k5 := hi5.cell 2
                have f5 := hi5.frozen 2
                simp [imgI] at k5
                replace hr5 := Lib.hid hr5
                clear hi5 ho5 hg5 HBK HRwb
                refine hK.out _ _ ?kr34_7 (fun hHeld => ?_)
                case kr34_7 => exact trivial
                clear hS
                have hS := hHeld
                clear hHeld
                clear hK K
                try simp only [Act.put, List.setIfInBounds_toArray, List.set_cons_zero, List.set_cons_succ]
                refine wpAnyH_take (i := 7) (oi := ⟨some 132, Op.fieldAddr 36 (Operand.tmp 11) 2, 0, _, _, none⟩) (v := ?vr34_8) rfl (by kernel_rfl) (by kernel_rfl) (by kernel_rfl) (fun _ _ _ h => h) (Or.inl ⟨by rfl, ?yr34_8⟩) hS ?rr34_8
                case yr34_8 => (intro w hSw; (try dsimp only at hSw); go_simp; try with_reducible rfl)
                try simp only [Act.put, List.setIfInBounds_toArray, List.set_cons_zero, List.set_cons_succ]
                refine wpAnyH_ready (rs := [8]) (by kernel_rfl) (by simp) ?rr34_9
                refine AllReadyH.cons (o := ⟨none, Op.store 34 (Operand.tmp 132) (Operand.tmp 131), 0, _, _, none⟩) rfl (fun K hK => ?sr34_9) AllReadyH.nil
                go_simp
                refine hK.out _ _ ?kr34_9 (fun hHeld => ?_)
                case kr34_9 => exact trivial
                clear hS
                have hS := hHeld
                clear hHeld
                clear hK K
                try simp only [Act.put, List.setIfInBounds_toArray, List.set_cons_zero, List.set_cons_succ]
                refine wpAnyH_done (by kernel_rfl) ?_ _
                clear k5 f5
                go_wp2_with fail
                go_roundw
                case rel => exact ⟨x + 1, _, lx ++ [(q0, q1, q2, q3)], by go_num, by omega, HRW.out, by rw [← List.append_assoc, HACC.out]; exact hr5.out⟩
                case measure => simp [intOf]; omega
              case sbr34_4 =>
                go_simp
                refine (HDI.out _).mono ?_
                rintro e w3 ⟨rfl, hb⟩
                have HRw3 := Lib.hid (HRwd.out.below hb)
                clear hb
                refine hK.out _ _ ?kr34_4 (fun hHeld => ?_)
                case kr34_4 => exact trivial
                clear hS
                have hS := hHeld
                clear hHeld
                clear hK K
                try simp only [Act.put, List.setIfInBounds_toArray, List.set_cons_zero, List.set_cons_succ]
                refine wpAnyH_ready (rs := [1, 5]) (by kernel_rfl) (by simp) ?rr34_10
                refine AllReadyH.cons (o := ⟨some 126, Op.load 34 (Operand.tmp 125), 34, _, _, none⟩) rfl (fun K hK => ?sar34_10) (AllReadyH.cons (o := ⟨some 130, Op.buildSlice 34 1 #[(0, Operand.tmp 129)], 34, _, _, none⟩) rfl (fun K hK => ?sbr34_10) AllReadyH.nil)
                case sar34_10 =>
                  have kc := HRw3.out.ix.cell 2
                  simp [imgI] at kc
                  go_simp
                  clear kc
                  refine hK.out _ _ ?kr34_10 (fun hHeld => ?_)
                  case kr34_10 => exact trivial
                  clear hS
                  have hS := hHeld
                  clear hHeld
                  clear hK K
                  try simp only [Act.put, List.setIfInBounds_toArray, List.set_cons_zero, List.set_cons_succ]
                  refine wpAnyH_ready (rs := [5]) (by kernel_rfl) (by simp) ?rr34_11
                  refine AllReadyH.cons (o := ⟨some 130, Op.buildSlice 34 1 #[(0, Operand.tmp 129)], 34, _, _, none⟩) rfl (fun K hK => ?sr34_11) AllReadyH.nil
                  go_simp
                  have HRwb := Lib.hid (HRw3.out.alloc (.cells #[.int .i64 q0, .int .i64 q1, .int .i64 q2, .int .i64 q3] 41))
                  have HBK := Lib.hid (Blk.new w3 41 #[.int .i64 q0, .int .i64 q1, .int .i64 q2, .int .i64 q3])
                  refine hK.out _ _ ?kr34_11 (fun hHeld => ?_)
                  case kr34_11 => exact trivial
                  clear hS
                  have hS := hHeld
                  clear hHeld
                  clear hK K
                  try simp only [Act.put, List.setIfInBounds_toArray, List.set_cons_zero, List.set_cons_succ]
                  generalize w3.alloc (.cells #[.int .i64 q0, .int .i64 q1, .int .i64 q2, .int .i64 q3] 41) = wb at *
                  generalize w3.heap.size = KB at *
                  refine wpAnyH_ready (rs := [6]) (by kernel_rfl) (by simp) ?rr34_12
                  refine AllReadyH.cons (o := ⟨some 131, Op.call { callee := Callee.builtin Builtin.append, args := #[Operand.tmp 126, Operand.tmp 130], argTypes := #[34, 34] }, 34, _, _, none⟩) rfl (fun K hK => ?sr34_12) AllReadyH.nil
                  refine step_appP el_pix rfl (s := .tmp 126) (x := .tmp 130) rfl (by simp [Act.eval]) HRwb.out.po (m := 0) (by simp [Act.eval]) HBK.out rfl (by intro z hz; simp at hz; rcases hz with rfl | rfl | rfl | rfl <;> rfl) (by omega) (by unfold maxLen; omega) HRwb.out.size ?_
                  intro r2 cap2 w5 ho5 hg5
                  obtain ⟨hi5, hr5⟩ := HRwb.out.next (p := (q0, q1, q2, q3)) ho5 hg5
                  have k5 := hi5.cell 2
                  have f5 := hi5.frozen 2
                  simp [imgI] at k5
                  replace hr5 := Lib.hid hr5
                  clear hi5 ho5 hg5 HBK HRwb
                  refine hK.out _ _ ?kr34_12 (fun hHeld => ?_)
                  case kr34_12 => exact trivial
                  clear hS
                  have hS := hHeld
                  clear hHeld
                  clear hK K
                  try simp only [Act.put, List.setIfInBounds_toArray, List.set_cons_zero, List.set_cons_succ]
                  refine wpAnyH_take (i := 7) (oi := ⟨some 132, Op.fieldAddr 36 (Operand.tmp 11) 2, 0, _, _, none⟩) (v := ?vr34_13) rfl (by kernel_rfl) (by kernel_rfl) (by kernel_rfl) (fun _ _ _ h => h) (Or.inl ⟨by rfl, ?yr34_13⟩) hS ?rr34_13
                  case yr34_13 => (intro w hSw; (try dsimp only at hSw); go_simp; try with_reducible rfl)
                  try simp only [Act.put, List.setIfInBounds_toArray, List.set_cons_zero, List.set_cons_succ]
                  refine wpAnyH_ready (rs := [8]) (by kernel_rfl) (by simp) ?rr34_14
                  refine AllReadyH.cons (o := ⟨none, Op.store 34 (Operand.tmp 132) (Operand.tmp 131), 0, _, _, none⟩) rfl (fun K hK => ?sr34_14) AllReadyH.nil
                  go_simp
                  refine hK.out _ _ ?kr34_14 (fun hHeld => ?_)
                  case kr34_14 => exact trivial
                  clear hS
                  have hS := hHeld
                  clear hHeld
                  clear hK K
                  try simp only [Act.put, List.setIfInBounds_toArray, List.set_cons_zero, List.set_cons_succ]
                  refine wpAnyH_done (by kernel_rfl) ?_ _
                  clear k5 f5
                  go_wp2_with fail
                  go_roundw
                  case rel => exact ⟨x + 1, _, lx ++ [(q0, q1, q2, q3)], by go_num, by omega, HRW.out, by rw [← List.append_assoc, HACC.out]; exact hr5.out⟩
                  case measure => simp [intOf]; omega
                case sbr34_10 =>
                  go_simp
                  have HRwb := Lib.hid (HRw3.out.alloc (.cells #[.int .i64 q0, .int .i64 q1, .int .i64 q2, .int .i64 q3] 41))
                  have HBK := Lib.hid (Blk.new w3 41 #[.int .i64 q0, .int .i64 q1, .int .i64 q2, .int .i64 q3])
                  refine hK.out _ _ ?kr34_10 (fun hHeld => ?_)
                  case kr34_10 => exact trivial
                  clear hS
                  have hS := hHeld
                  clear hHeld
                  clear hK K
                  try simp only [Act.put, List.setIfInBounds_toArray, List.set_cons_zero, List.set_cons_succ]
                  generalize w3.alloc (.cells #[.int .i64 q0, .int .i64 q1, .int .i64 q2, .int .i64 q3] 41) = wb at *
                  generalize w3.heap.size = KB at *
                  refine wpAnyH_ready (rs := [1]) (by kernel_rfl) (by simp) ?rr34_15
                  refine AllReadyH.cons (o := ⟨some 126, Op.load 34 (Operand.tmp 125), 34, _, _, none⟩) rfl (fun K hK => ?sr34_15) AllReadyH.nil
                  have kc := HRwb.out.ix.cell 2
                  simp [imgI] at kc
                  go_simp
                  clear kc
                  refine hK.out _ _ ?kr34_15 (fun hHeld => ?_)
                  case kr34_15 => exact trivial
                  clear hS
                  have hS := hHeld
                  clear hHeld
                  clear hK K
                  try simp only [Act.put, List.setIfInBounds_toArray, List.set_cons_zero, List.set_cons_succ]
                  refine wpAnyH_ready (rs := [6]) (by kernel_rfl) (by simp) ?rr34_16
                  refine AllReadyH.cons (o := ⟨some 131, Op.call { callee := Callee.builtin Builtin.append, args := #[Operand.tmp 126, Operand.tmp 130], argTypes := #[34, 34] }, 34, _, _, none⟩) rfl (fun K hK => ?sr34_16) AllReadyH.nil
                  refine step_appP el_pix rfl (s := .tmp 126) (x := .tmp 130) rfl (by simp [Act.eval]) HRwb.out.po (m := 0) (by simp [Act.eval]) HBK.out rfl (by intro z hz; simp at hz; rcases hz with rfl | rfl | rfl | rfl <;> rfl) (by omega) (by unfold maxLen; omega) HRwb.out.size ?_
                  intro r2 cap2 w5 ho5 hg5
                  obtain ⟨hi5, hr5⟩ := HRwb.out.next (p := (q0, q1, q2, q3)) ho5 hg5
                  have k5 := hi5.cell 2
                  have f5 := hi5.frozen 2
                  simp [imgI] at k5
                  replace hr5 := Lib.hid hr5
                  clear hi5 ho5 hg5 HBK HRwb
                  refine hK.out _ _ ?kr34_16 (fun hHeld => ?_)
                  case kr34_16 => exact trivial
                  clear hS
                  have hS := hHeld
                  clear hHeld
                  clear hK K
                  try simp only [Act.put, List.setIfInBounds_toArray, List.set_cons_zero, List.set_cons_succ]
                  refine wpAnyH_take (i := 7) (oi := ⟨some 132, Op.fieldAddr 36 (Operand.tmp 11) 2, 0, _, _, none⟩) (v := ?vr34_17) rfl (by kernel_rfl) (by kernel_rfl) (by kernel_rfl) (fun _ _ _ h => h) (Or.inl ⟨by rfl, ?yr34_17⟩) hS ?rr34_17
                  case yr34_17 => (intro w hSw; (try dsimp only at hSw); go_simp; try with_reducible rfl)
                  try simp only [Act.put, List.setIfInBounds_toArray, List.set_cons_zero, List.set_cons_succ]
                  refine wpAnyH_ready (rs := [8]) (by kernel_rfl) (by simp) ?rr34_18
                  refine AllReadyH.cons (o := ⟨none, Op.store 34 (Operand.tmp 132) (Operand.tmp 131), 0, _, _, none⟩) rfl (fun K hK => ?sr34_18) AllReadyH.nil
                  go_simp
                  refine hK.out _ _ ?kr34_18 (fun hHeld => ?_)
                  case kr34_18 => exact trivial
                  clear hS
                  have hS := hHeld
                  clear hHeld
                  clear hK K
                  try simp only [Act.put, List.setIfInBounds_toArray, List.set_cons_zero, List.set_cons_succ]
                  refine wpAnyH_done (by kernel_rfl) ?_ _
                  clear k5 f5
                  go_wp2_with fail
                  go_roundw
                  case rel => exact ⟨x + 1, _, lx ++ [(q0, q1, q2, q3)], by go_num, by omega, HRW.out, by rw [← List.append_assoc, HACC.out]; exact hr5.out⟩
                  case measure => simp [intOf]; omega
              --DLEH34
          · have hdx : decide ((x : Int) < (W : Int)) = false := by simp; omega
            have hxW : x = W := by omega
            have HG := Lib.hid (HPN.out (some lx) (by rw [← hxW]; exact hrg.out))
            simp only at HG
            clear hrg HPN hxW
            go_wp2_with fail
            go_roundw
            case rel => exact ⟨y + 1, UB, v, lp ++ lx, rfl, by go_num, by omega, HG.out, hrp.out⟩
            case measure => simp [intOf]; omega
      · have dfk : ((fk : Int) != 0) = true := by simp; omega
        have HE : Hid (pixR l W H d c = .error 4) := by
          show _ = _
          rw [HPX2.out, picG_dead (y := y + 1) ?_ H (by omega)]
          unfold picG
          rw [hpg.out]
          simp only
          rw [HUG.out, if_pos hfk0]
        clear hpg HUG HUB hfk0 hm1 hm2
        go_wp2_with (refine wpList_rset_same rfl 36 (.tmp 4) (.tmp 107) rfl rfl (B + 1) (imgI 0 0 (.slice none 0 0)) (by rfl) (by rfl) 36 (by exact HP8.out.im) (imgI_inf _ _ _) (imgI_one _ _ _ rfl) ?_)
        refine bodyPost_ret (v := .tuple #[.agg (imgI 0 0 (.slice none 0 0)), .int .i64 4]) (results_ct rfl _ _ (B + 1) 36 (imgI 0 0 (.slice none 0 0)) (0, 0) _ _ rfl rfl HP8.out.im Tryz.underlying36 rfl (imgI_inf _ _ _)) rfl ⟨?_, by rw [HB.out]; exact HP8.out.be⟩
        rw [HE.out]
        rfl
    · have hdy : decide ((y : Int) < (H : Int)) = false := by simp; omega
      have hyH : y = H := by omega
      have HE : Hid (pixR l W H d c = .ok lp) := by
        show _ = _
        rw [HPX2.out, ← hyH, hpg.out]
      have hv1 : v.oneCell' = true := by obtain ⟨xo, co, rfl⟩ := pown_shape hrp.out.po; rfl
      obtain ⟨T, hT⟩ : ∃ T, imgI W H v = T := ⟨_, rfl⟩
      have HIX : Hid (Blk wr I 36 T) := by show Blk _ _ _ _; rw [← hT]; exact hrp.out.ix
      have HIM : Hid (Blk wr (B + 1) 36 (imgI 0 0 (.slice none 0 0))) := hrp.out.im
      have HTI : Hid ((Tryz.prog.info? 36).map (·.size) = some T.size) := by show _ = _; rw [← hT]; exact imgI_inf _ _ _
      have HT1 : Hid (T.all (·.oneCell') = true) := by show _ = _; rw [← hT]; exact imgI_one _ _ _ hv1
      have HTS : Hid ((imgI 0 0 (.slice none 0 0)).size = T.size) := by show _ = _; rw [← hT]; rfl
      have HT := Lib.hid hT
      clear hT hv1 hpg hyH
      go_wp2_with (first | refine wpList_load_row rfl 36 (.tmp 11) rfl I (by rfl) 36 T (0, 0) _ (by exact HIX.out) Tryz.underlying36 rfl (by exact HTI.out) ?_ | refine wpList_store_rowTo rfl 36 (.tmp 4) (.tmp 153) rfl rfl (B + 1) T (by rfl) (by rfl) 36 _ (by exact HIM.out) (by exact HTI.out) (by exact HTS.out) (by exact HT1.out) ?_)
      obtain ⟨f1, f2, f3⟩ := hrp.out.fin T
      refine bodyPost_ret (v := .tuple #[.agg T, .int .i64 0]) (results_ct rfl _ _ (B + 1) 36 T (0, 0) _ _ rfl rfl f1 Tryz.underlying36 rfl HTI.out) rfl ⟨?_, by rw [HB.out]; exact f3⟩
      rw [HE.out]
      exact ⟨v, by rw [HT.out], by rw [HB.out]; exact f2⟩
end Go.Proofs.YthbejefodelpkaaGreat
