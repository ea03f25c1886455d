/-
  Walks, in the references of png and raster: weight, samples, Pick.
-/
import Derived.Test.YthbejefodelpkaaGreatZV4
import Derived.Test.YthbejefodelpkaaGreatZJ
import Derived.Test.YthbejefodelpkaaGreatZM
namespace Go.Proofs.YthbejefodelpkaaGreat
open Go.RowKit
set_option maxRecDepth 100000

theorem wB_min (b : UInt8) : min (b.toNat : Int) (256 - (b.toNat : Int)) = (wB b : Int) := by
  unfold wB
  have := b.toNat_lt
  split <;> omega

set_option maxHeartbeats 4000000 in
theorem vweight_any (s : ByteArray) (w : World) (hs : s.size ≤ 1000000000) : Calls Tryz.prog 53 #[.string s] w fun e w' => e = .returned (.int .i64 (weiP s.data.toList : Nat)) ∧ Below w.heap.size w w' := by
  have HSZ : Hid (s.size = s.data.toList.length) := by show _ = _; simp
  go_enter Tryz.func53, Tryz.ntmps53
  go_wp2_with fail
  go_loopw [3, 4] (fun vn vi wr => ∃ (i n : Nat), vn = .int .i64 n ∧ vi = .int .i64 i ∧ i ≤ s.size ∧ n ≤ 128 * i ∧ Hid (n = weiP (s.data.toList.take i)) ∧ Hid (Below w.heap.size w wr)) (fun _ vi _ => s.size - (intOf vi).toNat)
  case atStart => exact ⟨0, 0, rfl, rfl, Nat.zero_le _, by decide, rfl, Below.refl _ _⟩
  case round =>
    obtain ⟨i, n, rfl, rfl, hi, hn128, hn, hbw⟩ := hrel
    have hsz := HSZ.out
    by_cases hlt : i < s.size
    · have hd : decide ((i : Int) < (s.size : Int)) = true := by simp; omega
      have i1 : (i : Int) < (s.size : Int) := by omega
      have hlen : i < s.data.toList.length := by omega
      obtain ⟨b, hb⟩ : ∃ b, s[i] = b := ⟨_, rfl⟩
      have hbl : s.data.toList[i]'hlen = b := by rw [← hb]; rfl
      have hbt := b.toNat_lt
      have hm := wB_min b
      have hwl := wB_le b
      have HNX : Hid (n + wB b = weiP (s.data.toList.take (i + 1))) := by
        show _ = _
        rw [wei_take _ i hlen, ← hn.out, hbl]
      obtain ⟨wb, hwb⟩ : ∃ x, wB b = x := ⟨_, rfl⟩
      rw [hwb] at hm hwl HNX
      have w1 : IntKind.i64.wrap (b.toNat : Int) = (b.toNat : Int) := by rw [IntKind.wrap_i64]; omega
      have w2 : IntKind.i64.wrap (256 - (b.toNat : Int)) = 256 - (b.toNat : Int) := by rw [IntKind.wrap_i64]; omega
      have w3 : IntKind.i64.wrap ((n : Int) + (wb : Int)) = (n : Int) + (wb : Int) := by rw [IntKind.wrap_i64]; omega
      have HBU : Hid (∀ u : BW w.heap.size w, Below w.heap.size w u.w) := fun u => u.b
      clear hbl hn hwb hsz
      go_upto_region 5 with fail
      refine wp_region_bw w.heap.size w hbw.out (by kernel_rfl) (by kernel_rfl) ?_
      repeat (go_big_quiet_step (fail))
      refine wpQuiet_nil ?_
      rintro _ ⟨v9, rfl⟩
      have HB1 := Lib.hid (HBU.out v9)
      generalize v9.w = w1 at *
      clear HBU
      go_wp2_with fail
      go_roundw
      case rel => exact ⟨i + 1, n + wb, by go_num, by go_num, by omega, by omega, HNX, HB1⟩
      case measure => simp [intOf]; omega
    · have hd : decide ((i : Int) < (s.size : Int)) = false := by simp; omega
      have HF : Hid (weiP s.data.toList = n) := by
        show _ = _
        rw [hn.out, List.take_of_length_le (by omega)]
      clear hn hsz
      go_wp2_with fail
      go_ret
      exact ⟨by rw [HF.out]; rfl, hbw.out⟩
theorem flat_const (f : Nat → List UInt8) (c k : Nat) (h : ∀ j, (f j).length = c) : ((List.range k).flatMap f).length = k * c := by
  induction k with
  | zero => simp
  | succ k ih => rw [List.range_succ, List.flatMap_append, List.length_append, ih, List.flatMap_cons, List.flatMap_nil, List.append_nil, h, Nat.add_mul, Nat.one_mul]
theorem px_flat16 (p : Px) : pxB 16 p = (List.range 4).flatMap fun k => smB 16 (pxAt p k) := by simp [pxB, List.range, List.range.loop, pxAt]
theorem px_flat8 (p : Px) (h : to8I p.2.2.2 ≠ 0) : pxB 8 p = (List.range 4).flatMap fun k => smB 8 (pxAt p k) := by simp [pxB, h, List.range, List.range.loop, pxAt]
theorem px_flat0 (p : Px) (h : to8I p.2.2.2 = 0) : pxB 8 p = (List.range 4).flatMap fun _ => [0] := by simp [pxB, h, List.range, List.range.loop]

set_option maxHeartbeats 8000000 in
theorem vsam16 (p : Px) (w : World) (hv : valP p = true) : Calls Tryz.prog 51 #[.agg (pxC p), .int .i64 16] w fun e w' => e = .returned (.string ⟨(pxB 16 p).toArray⟩) ∧ Below w.heap.size w w' := by
  obtain ⟨B, hB⟩ : ∃ B, B = w.heap.size := ⟨_, rfl⟩
  have HVA := Lib.hid (fun i => valP_at p hv i)
  have HPA := Lib.hid (fun i hi => pxC_at p i hi)
  have HPZ : Hid (p.2.2.2 = pxAt p 3) := rfl
  have hk0 := Blk.new w 41 (pxC p)
  have hk1 := Blk.new_at (w := w.alloc (.cells (pxC p) 41)) (k := w.heap.size + 1) (by simp) 3 (pxC p)
  have hb := ((Below.refl w.heap.size w).alloc (Nat.le_refl _) (.cells (pxC p) 41)).alloc (by simp) (.cells (pxC p) 3)
  have hk0' := hk0.alloc (.cells (pxC p) 3)
  clear hv hk0
  unfold pxC at hk1 hb hk0' ⊢
  have HP3 : Hid (pxAt p 3 = p.2.2.2) := rfl
  go_enter Tryz.func51, Tryz.ntmps51
  go_upto_region 2 with fail
  generalize (w.alloc (.cells #[.int .i64 p.1, .int .i64 p.2.1, .int .i64 p.2.2.1, .int .i64 p.2.2.2] 41)).alloc (.cells #[.int .i64 p.1, .int .i64 p.2.1, .int .i64 p.2.2.1, .int .i64 p.2.2.2] 3) = w0 at *
  rw [← hB] at hk0' hk1 hb ⊢
  have HB := Lib.hid hB
  have HK0 := Lib.hid hk0'
  have HK1 := Lib.hid hk1
  have HB0 := Lib.hid hb
  have HBV : Hid (B + 1 < w0.heap.size) := hk1.lt
  clear hB hk0' hk1 hb
  go_wp2_with fail
  go_loopw [6, 7] (fun vr vi wr => ∃ (i n : Nat) (x : Option Addr) (c : Nat), vr = .slice x n c ∧ vi = .int .i64 i ∧ i ≤ 4 ∧ n ≤ 8 ∧ Hid (BRow wr (B + 2) 5 (.slice x n c) ((List.range i).flatMap fun k => smB 16 (pxAt p k))) ∧ Hid (n = ((List.range i).flatMap fun k => smB 16 (pxAt p k)).length) ∧ Hid (Below (B + 2) w0 wr)) (fun _ vi _ => 4 - (intOf vi).toNat)
  case atStart => exact ⟨0, 0, none, 0, rfl, rfl, by decide, by decide, World.ownsRow_nil _ _ _ _, rfl, Below.refl _ _⟩
  case round =>
    obtain ⟨i, n, x, c, rfl, rfl, hi, hn8, hro, hnl, hbw⟩ := hrel
    have HKA : Hid (∀ wx, Below (B + 2) w0 wx → Blk wx B 41 #[.int .i64 p.1, .int .i64 p.2.1, .int .i64 p.2.2.1, .int .i64 p.2.2.2] ∧ Blk wx (B + 1) 3 #[.int .i64 p.1, .int .i64 p.2.1, .int .i64 p.2.2.1, .int .i64 p.2.2.2]) := fun wx h => ⟨(h.block _ (by omega)).trans HK0.out, (h.block _ (by omega)).trans HK1.out⟩
    have hszr : B + 2 ≤ wr.heap.size := Nat.le_trans HBV.out hbw.out.size
    by_cases hlt : i < 4
    · have hd : decide ((i : Int) < 4) = true := by simp; omega
      obtain ⟨pn, hpn, hpl⟩ := HVA.out i
      have HCI : Hid (∀ wx, Below (B + 2) w0 wx → wx.cell? ⟨B + 1, i, none⟩ = some (.int .i64 (pn : Int))) := fun wx h => by
        rw [(HKA.out wx h).2.cell i]
        have := HPA.out i hlt
        rw [hpn] at this
        exact this
      have HPN := Lib.hid hpn
      have i4 : (i : Int) < 4 := by omega
      have hro2 : wr.ownsRow (B + 2) 5 1 (.slice x n c) n (bcells ((List.range i).flatMap fun k => smB 16 (pxAt p k))) := by
        have h := hro.out
        unfold BRow at h
        rw [← hnl.out] at h
        exact h
      have HRO := Lib.hid hro2
      have HRG : Hid ((List.range (i + 1)).flatMap (fun k => smB 16 (pxAt p k)) = ((List.range i).flatMap fun k => smB 16 (pxAt p k)) ++ smB 16 (pxAt p i)) := by show _ = _; rw [List.range_succ, List.flatMap_append]; simp
      clear hpn hro hro2
      obtain ⟨h1, hh1⟩ : ∃ b, UInt8.ofNat (pn / 256) = b := ⟨_, rfl⟩
      obtain ⟨h2, hh2⟩ : ∃ b, UInt8.ofNat (pn % 256) = b := ⟨_, rfl⟩
      have HG : Hid (smB 16 (pxAt p i) = [h1, h2]) := by show _ = _; rw [HPN.out, ← hh1, ← hh2]; rfl
      have a1 : (pn : Int) / 256 = (h1.toNat : Int) := by rw [← hh1, UInt8.toNat_ofNat']; omega
      have a2 : (pn : Int) % 256 = (h2.toNat : Int) := by rw [← hh2, UInt8.toNat_ofNat']; omega
      have b1 := h1.toNat_lt
      have b2 := h2.toNat_lt
      have a3 : IntKind.u8.wrap (h1.toNat : Int) = (h1.toNat : Int) := by rw [IntKind.wrap_u8]; omega
      have a4 : IntKind.u8.wrap (h2.toNat : Int) = (h2.toNat : Int) := by rw [IntKind.wrap_u8]; omega
      have a7 : IntKind.i64.wrap (h1.toNat : Int) = (h1.toNat : Int) := by rw [IntKind.wrap_i64]; omega
      have a8 : IntKind.i64.wrap (h2.toNat : Int) = (h2.toNat : Int) := by rw [IntKind.wrap_i64]; omega
      have a5 : (pn : Int).tdiv 256 = (h1.toNat : Int) := by rw [Int.tdiv_eq_ediv_of_nonneg (by omega)]; exact a1
      have a6 : (pn : Int).tmod 256 = (h2.toNat : Int) := by rw [Int.tmod_eq_emod_of_nonneg (by omega)]; exact a2
      have HRD : Hid (wr.drew.ownsRow (B + 2) 5 1 (.slice x n c) n (bcells ((List.range i).flatMap fun k => smB 16 (pxAt p k)))) := HRO.out
      have HBD : Hid (Below (B + 2) w0 wr.drew) := hbw.out.drew
      have HSD : Hid (B + 2 ≤ wr.drew.heap.size) := hszr
      have hS := HCI.out _ HBD.out
      have hnb : n ≤ 8 := hn8
      clear hh1 hh2
      go_upto_region 7 with fail
      refine wp_region_held_drew (S := fun _ => True) (by kernel_rfl) trivial (fun hHeld => ?_)
      clear hHeld
      generalize wr.drew = wd at *
      refine wpAnyH_weaken (S2 := fun u => u.cell? ⟨B + 1, i, none⟩ = some (.int .i64 (pn : Int))) (fun _ _ => trivial) ?_
      refine wpAnyH_take (i := 0) (oi := ⟨some 23, Op.move (Operand.tmp 6), 54, _, _, none⟩) (v := ?vs1) rfl (by kernel_rfl) (by kernel_rfl) (by kernel_rfl) (fun _ _ _ h => h) (Or.inl ⟨by rfl, ?ys1⟩) hS ?rs1
      case ys1 => (intro w hSw; (try dsimp only at hSw); go_simp; try with_reducible rfl)
      try simp only [Act.put, List.setIfInBounds_toArray, List.set_cons_zero, List.set_cons_succ]
      refine wpAnyH_take (i := 1) (oi := ⟨some 24, Op.move (Operand.tmp 5), 51, _, _, none⟩) (v := ?vs2) rfl (by kernel_rfl) (by kernel_rfl) (by kernel_rfl) (fun _ _ _ h => h) (Or.inl ⟨by rfl, ?ys2⟩) hS ?rs2
      case ys2 => (intro w hSw; (try dsimp only at hSw); go_simp; try with_reducible rfl)
      try simp only [Act.put, List.setIfInBounds_toArray, List.set_cons_zero, List.set_cons_succ]
      refine wpAnyH_take (i := 2) (oi := ⟨some 25, Op.move (Operand.tmp 7), 3, _, _, none⟩) (v := ?vs3) rfl (by kernel_rfl) (by kernel_rfl) (by kernel_rfl) (fun _ _ _ h => h) (Or.inl ⟨by rfl, ?ys3⟩) hS ?rs3
      case ys3 => (intro w hSw; (try dsimp only at hSw); go_simp; try with_reducible rfl)
      try simp only [Act.put, List.setIfInBounds_toArray, List.set_cons_zero, List.set_cons_succ]
      refine wpAnyH_take (i := 3) (oi := ⟨some 26, Op.indexAddr 51 (Operand.tmp 24) (Operand.tmp 25), 0, _, _, none⟩) (v := ?vs4) rfl (by kernel_rfl) (by kernel_rfl) (by kernel_rfl) (fun _ _ _ h => h) (Or.inl ⟨by rfl, ?ys4⟩) hS ?rs4
      case ys4 => (intro w hSw; (try dsimp only at hSw); go_simp; try with_reducible rfl)
      try simp only [Act.put, List.setIfInBounds_toArray, List.set_cons_zero, List.set_cons_succ]
      refine wpAnyH_take (i := 4) (oi := ⟨some 27, Op.load 3 (Operand.tmp 26), 3, _, _, none⟩) (v := ?vs5) rfl (by kernel_rfl) (by kernel_rfl) (by kernel_rfl) (fun _ _ _ h => h) (Or.inl ⟨by rfl, ?ys5⟩) hS ?rs5
      case ys5 => (intro w hSw; (try dsimp only at hSw); go_simp; try with_reducible rfl)
      try simp only [Act.put, List.setIfInBounds_toArray, List.set_cons_zero, List.set_cons_succ]
      refine wpAnyH_take (i := 5) (oi := ⟨some 28, Op.binOp BinOp.quo 3 (Operand.tmp 27) (Operand.const (Value.int IntKind.i64 256)) 3, 3, _, _, none⟩) (v := ?vs6) rfl (by kernel_rfl) (by kernel_rfl) (by kernel_rfl) (fun _ _ _ h => h) (Or.inl ⟨by rfl, ?ys6⟩) hS ?rs6
      case ys6 => (intro w hSw; (try dsimp only at hSw); go_simp; try with_reducible rfl)
      try simp only [Act.put, List.setIfInBounds_toArray, List.set_cons_zero, List.set_cons_succ]
      refine wpAnyH_take (i := 6) (oi := ⟨some 29, Op.convert 3 5 (Operand.tmp 28), 5, _, _, none⟩) (v := ?vs7) rfl (by kernel_rfl) (by kernel_rfl) (by kernel_rfl) (fun _ _ _ h => h) (Or.inl ⟨by rfl, ?ys7⟩) hS ?rs7
      case ys7 => (intro w hSw; (try dsimp only at hSw); go_simp; try with_reducible rfl)
      try simp only [Act.put, List.setIfInBounds_toArray, List.set_cons_zero, List.set_cons_succ]
      refine wpAnyH_take (i := 7) (oi := ⟨some 30, Op.move (Operand.tmp 5), 51, _, _, none⟩) (v := ?vs8) rfl (by kernel_rfl) (by kernel_rfl) (by kernel_rfl) (fun _ _ _ h => h) (Or.inl ⟨by rfl, ?ys8⟩) hS ?rs8
      case ys8 => (intro w hSw; (try dsimp only at hSw); go_simp; try with_reducible rfl)
      try simp only [Act.put, List.setIfInBounds_toArray, List.set_cons_zero, List.set_cons_succ]
      refine wpAnyH_take (i := 8) (oi := ⟨some 31, Op.move (Operand.tmp 7), 3, _, _, none⟩) (v := ?vs9) rfl (by kernel_rfl) (by kernel_rfl) (by kernel_rfl) (fun _ _ _ h => h) (Or.inl ⟨by rfl, ?ys9⟩) hS ?rs9
      case ys9 => (intro w hSw; (try dsimp only at hSw); go_simp; try with_reducible rfl)
      try simp only [Act.put, List.setIfInBounds_toArray, List.set_cons_zero, List.set_cons_succ]
      refine wpAnyH_take (i := 9) (oi := ⟨some 32, Op.indexAddr 51 (Operand.tmp 30) (Operand.tmp 31), 0, _, _, none⟩) (v := ?vs10) rfl (by kernel_rfl) (by kernel_rfl) (by kernel_rfl) (fun _ _ _ h => h) (Or.inl ⟨by rfl, ?ys10⟩) hS ?rs10
      case ys10 => (intro w hSw; (try dsimp only at hSw); go_simp; try with_reducible rfl)
      try simp only [Act.put, List.setIfInBounds_toArray, List.set_cons_zero, List.set_cons_succ]
      refine wpAnyH_take (i := 10) (oi := ⟨some 33, Op.load 3 (Operand.tmp 32), 3, _, _, none⟩) (v := ?vs11) rfl (by kernel_rfl) (by kernel_rfl) (by kernel_rfl) (fun _ _ _ h => h) (Or.inl ⟨by rfl, ?ys11⟩) hS ?rs11
      case ys11 => (intro w hSw; (try dsimp only at hSw); go_simp; try with_reducible rfl)
      try simp only [Act.put, List.setIfInBounds_toArray, List.set_cons_zero, List.set_cons_succ]
      refine wpAnyH_take (i := 11) (oi := ⟨some 34, Op.binOp BinOp.rem 3 (Operand.tmp 33) (Operand.const (Value.int IntKind.i64 256)) 3, 3, _, _, none⟩) (v := ?vs12) rfl (by kernel_rfl) (by kernel_rfl) (by kernel_rfl) (fun _ _ _ h => h) (Or.inl ⟨by rfl, ?ys12⟩) hS ?rs12
      case ys12 => (intro w hSw; (try dsimp only at hSw); go_simp; try with_reducible rfl)
      try simp only [Act.put, List.setIfInBounds_toArray, List.set_cons_zero, List.set_cons_succ]
      refine wpAnyH_take (i := 12) (oi := ⟨some 35, Op.convert 3 5 (Operand.tmp 34), 5, _, _, none⟩) (v := ?vs13) rfl (by kernel_rfl) (by kernel_rfl) (by kernel_rfl) (fun _ _ _ h => h) (Or.inl ⟨by rfl, ?ys13⟩) hS ?rs13
      case ys13 => (intro w hSw; (try dsimp only at hSw); go_simp; try with_reducible rfl)
      try simp only [Act.put, List.setIfInBounds_toArray, List.set_cons_zero, List.set_cons_succ]
      refine wpAnyH_ready (rs := [13]) (by kernel_rfl) (by simp) ?rs14
      refine AllReadyH.cons (o := ⟨some 36, Op.buildSlice 54 2 #[(0, Operand.tmp 29), (1, Operand.tmp 35)], 54, _, _, none⟩) rfl (fun K hK => ?ss14) AllReadyH.nil
      go_simp
      have HRb := Lib.hid (World.ownsRow.alloc HRD.out (.cells #[.int .u8 (h1.toNat : Int), .int .u8 (h2.toNat : Int)] 5))
      have HBb := Lib.hid (HBD.out.alloc HSD.out (.cells #[.int .u8 (h1.toNat : Int), .int .u8 (h2.toNat : Int)] 5))
      have HKb := Lib.hid (Blk.new wd 5 #[.int .u8 (h1.toNat : Int), .int .u8 (h2.toNat : Int)])
      have HSb : Hid (B + 2 ≤ (wd.alloc (.cells #[.int .u8 (h1.toNat : Int), .int .u8 (h2.toNat : Int)] 5)).heap.size) := Nat.le_trans HSD.out ((Below.refl _ _).alloc (Nat.le_refl _) _).size
      refine hK.out _ _ ?ks14 (fun hHeld => ?_)
      case ks14 => exact HCI.out _ HBb.out
      clear hS
      have hS := hHeld
      clear hHeld
      clear hK K
      try simp only [Act.put, List.setIfInBounds_toArray, List.set_cons_zero, List.set_cons_succ]
      generalize wd.alloc (.cells #[.int .u8 (h1.toNat : Int), .int .u8 (h2.toNat : Int)] 5) = wb at *
      generalize wd.heap.size = KB at *
      refine wpAnyH_ready (rs := [14]) (by kernel_rfl) (by simp) ?rs15
      refine AllReadyH.cons (o := ⟨some 37, Op.call { callee := Callee.builtin Builtin.append, args := #[Operand.tmp 23, Operand.tmp 36], argTypes := #[54, 54] }, 54, _, _, none⟩) rfl (fun K hK => ?ss15) AllReadyH.nil
      refine step_appP el_b8 rfl (s := .tmp 23) (x := .tmp 36) rfl (by simp [Act.eval]) HRb.out (m := 1) (by simp [Act.eval]) HKb.out rfl (by intro z hz; simp at hz; rcases hz with rfl | rfl <;> rfl) (by omega) (by unfold maxLen; omega) HSb.out ?_
      intro r2 cap2 w5 ho5 hg5
      have HR5 : Hid (BRow w5 (B + 2) 5 (.slice (some ⟨r2, 0, none⟩) (n + 2) cap2) ((List.range (i + 1)).flatMap fun k => smB 16 (pxAt p k))) := by show BRow _ _ _ _ _; rw [HRG.out, HG.out]; exact brow_more ho5 [h1, h2] (by simp [bcells]) (by rw [hnl.out]; rfl)
      have HB5 : Hid (Below (B + 2) w0 w5) := HBb.out.grown hg5 HSb.out (fun k hk => (World.ownsRow.lt HRb.out k hk).1)
      clear ho5 hg5
      refine hK.out _ _ ?ks15 (fun hHeld => ?_)
      case ks15 => exact HCI.out _ HB5.out
      clear hS
      have hS := hHeld
      clear hHeld
      clear hK K
      try simp only [Act.put, List.setIfInBounds_toArray, List.set_cons_zero, List.set_cons_succ]
      refine wpAnyH_take (i := 15) (oi := ⟨some 6, Op.assign (Operand.tmp 37), 54, _, _, none⟩) (v := ?vs16) rfl (by kernel_rfl) (by kernel_rfl) (by kernel_rfl) (fun _ _ _ h => h) (Or.inl ⟨by rfl, ?ys16⟩) hS ?rs16
      case ys16 => (intro w hSw; (try dsimp only at hSw); go_simp; try with_reducible rfl)
      try simp only [Act.put, List.setIfInBounds_toArray, List.set_cons_zero, List.set_cons_succ]
      refine wpAnyH_done (by kernel_rfl) ?_ _
      have HN5 : Hid (n + 2 = ((List.range (i + 1)).flatMap fun k => smB 16 (pxAt p k)).length) := by show _ = _; rw [HRG.out, List.length_append, ← hnl.out]; rfl
      have hn5 : n + 2 ≤ 8 := by
        rw [HN5.out, flat_const _ 2 _ (fun k => rfl)]
        omega
      go_wp2_with fail
      go_roundw
      case rel => exact ⟨i + 1, n + 2, some ⟨r2, 0, none⟩, cap2, rfl, by go_num, by omega, hn5, HR5, HN5, HB5⟩
      case measure => simp [intOf]; omega
    · have hd : decide ((i : Int) < 4) = false := by simp; omega
      have hi4 : i = 4 := by omega
      have hcv : ∀ w', wr = w' → (convert 54 9 (.slice x n c)).run Tryz.prog wr = .ok (.string ⟨(pxB 16 p).toArray⟩) wr := by
        intro _ _
        have h2 := run_str_of Tryz.underlying54 Tryz.underlying5 Tryz.underlying9 hro.out
        rw [hi4, ← px_flat16 p] at h2
        exact h2
      have hcv := hcv wr rfl
      clear hro hnl hi4
      go_wp2_with fail
      go_ret
      exact ⟨rfl, by rw [← HB.out]; exact HB0.out.trans (hbw.out.mono (by omega))⟩

set_option maxHeartbeats 8000000 in
theorem vsam8z (p : Px) (w : World) (hv : valP p = true) (hz : to8I p.2.2.2 = 0) : Calls Tryz.prog 51 #[.agg (pxC p), .int .i64 8] w fun e w' => e = .returned (.string ⟨(pxB 8 p).toArray⟩) ∧ Below w.heap.size w w' := by
  have HTO : Hid (∀ x w, Calls Tryz.prog 79 #[.int .i64 x] w fun e w' => e = .returned (.int .i64 (to8I x)) ∧ Below w.heap.size w w') := fun x w => (rto8_any x w).mono fun e w' ⟨h, n, h2⟩ => ⟨h, by rw [h2]; exact below_drewH (Below.refl _ _) n⟩
  obtain ⟨B, hB⟩ : ∃ B, B = w.heap.size := ⟨_, rfl⟩
  have HVA := Lib.hid (fun i => valP_at p hv i)
  have HPA := Lib.hid (fun i hi => pxC_at p i hi)
  have HPZ : Hid (p.2.2.2 = pxAt p 3) := rfl
  have hk0 := Blk.new w 41 (pxC p)
  have hk1 := Blk.new_at (w := w.alloc (.cells (pxC p) 41)) (k := w.heap.size + 1) (by simp) 3 (pxC p)
  have hb := ((Below.refl w.heap.size w).alloc (Nat.le_refl _) (.cells (pxC p) 41)).alloc (by simp) (.cells (pxC p) 3)
  have hk0' := hk0.alloc (.cells (pxC p) 3)
  clear hv hk0
  unfold pxC at hk1 hb hk0' ⊢
  have HP3 : Hid (pxAt p 3 = p.2.2.2) := rfl
  go_enter Tryz.func51, Tryz.ntmps51
  go_upto_region 2 with fail
  generalize (w.alloc (.cells #[.int .i64 p.1, .int .i64 p.2.1, .int .i64 p.2.2.1, .int .i64 p.2.2.2] 41)).alloc (.cells #[.int .i64 p.1, .int .i64 p.2.1, .int .i64 p.2.2.1, .int .i64 p.2.2.2] 3) = w0 at *
  rw [← hB] at hk0' hk1 hb ⊢
  have HB := Lib.hid hB
  have HK0 := Lib.hid hk0'
  have HK1 := Lib.hid hk1
  have HB0 := Lib.hid hb
  have HBV : Hid (B + 1 < w0.heap.size) := hk1.lt
  clear hB hk0' hk1 hb
  go_wp2_with fail
  go_loopw [6, 7] (fun vr vi wr => ∃ (i n : Nat) (x : Option Addr) (c : Nat), vr = .slice x n c ∧ vi = .int .i64 i ∧ i ≤ 4 ∧ n ≤ 8 ∧ Hid (BRow wr (B + 2) 5 (.slice x n c) ((List.range i).flatMap fun _ => ([0] : List UInt8))) ∧ Hid (n = ((List.range i).flatMap fun _ => ([0] : List UInt8)).length) ∧ Hid (Below (B + 2) w0 wr)) (fun _ vi _ => 4 - (intOf vi).toNat)
  case atStart => exact ⟨0, 0, none, 0, rfl, rfl, by decide, by decide, World.ownsRow_nil _ _ _ _, rfl, Below.refl _ _⟩
  case round =>
    obtain ⟨i, n, x, c, rfl, rfl, hi, hn8, hro, hnl, hbw⟩ := hrel
    have HKA : Hid (∀ wx, Below (B + 2) w0 wx → Blk wx B 41 #[.int .i64 p.1, .int .i64 p.2.1, .int .i64 p.2.2.1, .int .i64 p.2.2.2] ∧ Blk wx (B + 1) 3 #[.int .i64 p.1, .int .i64 p.2.1, .int .i64 p.2.2.1, .int .i64 p.2.2.2]) := fun wx h => ⟨(h.block _ (by omega)).trans HK0.out, (h.block _ (by omega)).trans HK1.out⟩
    have hszr : B + 2 ≤ wr.heap.size := Nat.le_trans HBV.out hbw.out.size
    by_cases hlt : i < 4
    · have hd : decide ((i : Int) < 4) = true := by simp; omega
      obtain ⟨pn, hpn, hpl⟩ := HVA.out i
      have HCI : Hid (∀ wx, Below (B + 2) w0 wx → wx.cell? ⟨B + 1, i, none⟩ = some (.int .i64 (pn : Int))) := fun wx h => by
        rw [(HKA.out wx h).2.cell i]
        have := HPA.out i hlt
        rw [hpn] at this
        exact this
      have HPN := Lib.hid hpn
      have i4 : (i : Int) < 4 := by omega
      have hro2 : wr.ownsRow (B + 2) 5 1 (.slice x n c) n (bcells ((List.range i).flatMap fun _ => ([0] : List UInt8))) := by
        have h := hro.out
        unfold BRow at h
        rw [← hnl.out] at h
        exact h
      have HRO := Lib.hid hro2
      have HRG : Hid ((List.range (i + 1)).flatMap (fun _ => ([0] : List UInt8)) = ((List.range i).flatMap fun _ => ([0] : List UInt8)) ++ [0]) := by show _ = _; rw [List.range_succ, List.flatMap_append]; simp
      clear hpn hro hro2
      have c3 : wr.cell? ⟨B, 3, none⟩ = some (.int .i64 p.2.2.2) := (HKA.out _ hbw.out).1.cell 3
      go_wp2_with fail
      refine (HTO.out p.2.2.2 _).mono ?_
      rintro e w4 ⟨rfl, hb⟩
      have HW4 : Hid (Below (B + 2) w0 w4) := hbw.out.trans (hb.mono hszr)
      have hsz4 : B + 2 ≤ w4.heap.size := Nat.le_trans hszr hb.size
      have HRO4 := Lib.hid (own_below HRO.out hb)
      clear hb c3 hbw hszr HRO
      have ez : (to8I p.2.2.2 == 0) = true := by simp [hz]
      go_wp2_with (at_builtin; refine wpList_app el_b8 HRO4.out hsz4 rfl rfl rfl (m := 0) rfl (by simp [Value.oneCell']) rfl (by omega) (by unfold maxLen; omega) ?_)
      intro r2 cap2 w5 ho5 hg5 _
      have HR5 : Hid (BRow w5 (B + 2) 5 (.slice (some ⟨r2, 0, none⟩) (n + 1) cap2) ((List.range (i + 1)).flatMap fun _ => ([0] : List UInt8))) := by
        show BRow _ _ _ _ _
        rw [HRG.out]
        exact brow_more ho5 [0] (by simp [bcells]) (by rw [hnl.out]; rfl)
      have HB5 : Hid (Below (B + 2) w0 w5) := (below_app HW4.out hsz4 HRO4.out hg5).1
      have HN5 : Hid (n + 1 = ((List.range (i + 1)).flatMap fun _ => ([0] : List UInt8)).length) := by show _ = _; rw [HRG.out, List.length_append, ← hnl.out]; rfl
      have hn5 : n + 1 ≤ 8 := by
        rw [HN5.out, flat_const _ 1 _ (fun k => rfl)]
        omega
      clear ho5 hg5 hsz4 HW4 ez
      go_wp2_with fail
      go_roundw
      case rel => exact ⟨i + 1, n + 1, some ⟨r2, 0, none⟩, cap2, rfl, by go_num, by omega, hn5, HR5, HN5, HB5⟩
      case measure => simp [intOf]; omega
    · have hd : decide ((i : Int) < 4) = false := by simp; omega
      have hi4 : i = 4 := by omega
      have hcv : ∀ w', wr = w' → (convert 54 9 (.slice x n c)).run Tryz.prog wr = .ok (.string ⟨(pxB 8 p).toArray⟩) wr := by
        intro _ _
        have h2 := run_str_of Tryz.underlying54 Tryz.underlying5 Tryz.underlying9 hro.out
        rw [hi4, ← px_flat0 p hz] at h2
        exact h2
      have hcv := hcv wr rfl
      clear hro hnl hi4
      go_wp2_with fail
      go_ret
      exact ⟨rfl, by rw [← HB.out]; exact HB0.out.trans (hbw.out.mono (by omega))⟩

set_option maxHeartbeats 8000000 in
theorem vsam8n (p : Px) (w : World) (hv : valP p = true) (hz : to8I p.2.2.2 ≠ 0) : Calls Tryz.prog 51 #[.agg (pxC p), .int .i64 8] w fun e w' => e = .returned (.string ⟨(pxB 8 p).toArray⟩) ∧ Below w.heap.size w w' := by
  have HTO : Hid (∀ x w, Calls Tryz.prog 79 #[.int .i64 x] w fun e w' => e = .returned (.int .i64 (to8I x)) ∧ Below w.heap.size w w') := fun x w => (rto8_any x w).mono fun e w' ⟨h, n, h2⟩ => ⟨h, by rw [h2]; exact below_drewH (Below.refl _ _) n⟩
  obtain ⟨B, hB⟩ : ∃ B, B = w.heap.size := ⟨_, rfl⟩
  have HVA := Lib.hid (fun i => valP_at p hv i)
  have HPA := Lib.hid (fun i hi => pxC_at p i hi)
  have HPZ : Hid (p.2.2.2 = pxAt p 3) := rfl
  have hk0 := Blk.new w 41 (pxC p)
  have hk1 := Blk.new_at (w := w.alloc (.cells (pxC p) 41)) (k := w.heap.size + 1) (by simp) 3 (pxC p)
  have hb := ((Below.refl w.heap.size w).alloc (Nat.le_refl _) (.cells (pxC p) 41)).alloc (by simp) (.cells (pxC p) 3)
  have hk0' := hk0.alloc (.cells (pxC p) 3)
  clear hv hk0
  unfold pxC at hk1 hb hk0' ⊢
  have HP3 : Hid (pxAt p 3 = p.2.2.2) := rfl
  go_enter Tryz.func51, Tryz.ntmps51
  go_upto_region 2 with fail
  generalize (w.alloc (.cells #[.int .i64 p.1, .int .i64 p.2.1, .int .i64 p.2.2.1, .int .i64 p.2.2.2] 41)).alloc (.cells #[.int .i64 p.1, .int .i64 p.2.1, .int .i64 p.2.2.1, .int .i64 p.2.2.2] 3) = w0 at *
  rw [← hB] at hk0' hk1 hb ⊢
  have HB := Lib.hid hB
  have HK0 := Lib.hid hk0'
  have HK1 := Lib.hid hk1
  have HB0 := Lib.hid hb
  have HBV : Hid (B + 1 < w0.heap.size) := hk1.lt
  clear hB hk0' hk1 hb
  go_wp2_with fail
  go_loopw [6, 7] (fun vr vi wr => ∃ (i n : Nat) (x : Option Addr) (c : Nat), vr = .slice x n c ∧ vi = .int .i64 i ∧ i ≤ 4 ∧ n ≤ 8 ∧ Hid (BRow wr (B + 2) 5 (.slice x n c) ((List.range i).flatMap fun k => smB 8 (pxAt p k))) ∧ Hid (n = ((List.range i).flatMap fun k => smB 8 (pxAt p k)).length) ∧ Hid (Below (B + 2) w0 wr)) (fun _ vi _ => 4 - (intOf vi).toNat)
  case atStart => exact ⟨0, 0, none, 0, rfl, rfl, by decide, by decide, World.ownsRow_nil _ _ _ _, rfl, Below.refl _ _⟩
  case round =>
    obtain ⟨i, n, x, c, rfl, rfl, hi, hn8, hro, hnl, hbw⟩ := hrel
    have HKA : Hid (∀ wx, Below (B + 2) w0 wx → Blk wx B 41 #[.int .i64 p.1, .int .i64 p.2.1, .int .i64 p.2.2.1, .int .i64 p.2.2.2] ∧ Blk wx (B + 1) 3 #[.int .i64 p.1, .int .i64 p.2.1, .int .i64 p.2.2.1, .int .i64 p.2.2.2]) := fun wx h => ⟨(h.block _ (by omega)).trans HK0.out, (h.block _ (by omega)).trans HK1.out⟩
    have hszr : B + 2 ≤ wr.heap.size := Nat.le_trans HBV.out hbw.out.size
    by_cases hlt : i < 4
    · have hd : decide ((i : Int) < 4) = true := by simp; omega
      obtain ⟨pn, hpn, hpl⟩ := HVA.out i
      have HCI : Hid (∀ wx, Below (B + 2) w0 wx → wx.cell? ⟨B + 1, i, none⟩ = some (.int .i64 (pn : Int))) := fun wx h => by
        rw [(HKA.out wx h).2.cell i]
        have := HPA.out i hlt
        rw [hpn] at this
        exact this
      have HPN := Lib.hid hpn
      have i4 : (i : Int) < 4 := by omega
      have hro2 : wr.ownsRow (B + 2) 5 1 (.slice x n c) n (bcells ((List.range i).flatMap fun k => smB 8 (pxAt p k))) := by
        have h := hro.out
        unfold BRow at h
        rw [← hnl.out] at h
        exact h
      have HRO := Lib.hid hro2
      have HRG : Hid ((List.range (i + 1)).flatMap (fun k => smB 8 (pxAt p k)) = ((List.range i).flatMap fun k => smB 8 (pxAt p k)) ++ smB 8 (pxAt p i)) := by show _ = _; rw [List.range_succ, List.flatMap_append]; simp
      clear hpn hro hro2
      have c3 : wr.cell? ⟨B, 3, none⟩ = some (.int .i64 p.2.2.2) := (HKA.out _ hbw.out).1.cell 3
      go_wp2_with fail
      refine (HTO.out p.2.2.2 _).mono ?_
      rintro e w4 ⟨rfl, hb⟩
      have HW4 : Hid (Below (B + 2) w0 w4) := hbw.out.trans (hb.mono hszr)
      have hsz4 : B + 2 ≤ w4.heap.size := Nat.le_trans hszr hb.size
      have HRO4 := Lib.hid (own_below HRO.out hb)
      clear hb c3 hbw hszr HRO
      have ez : (to8I p.2.2.2 == 0) = false := by simpa using hz
      have c4 : w4.cell? ⟨B + 1, i, none⟩ = some (.int .i64 (pn : Int)) := HCI.out _ HW4.out
      go_wp2_with fail
      refine (HTO.out (pn : Int) _).mono ?_
      rintro e w6 ⟨rfl, hb⟩
      have HW6 : Hid (Below (B + 2) w0 w6) := HW4.out.trans (hb.mono hsz4)
      have hsz6 : B + 2 ≤ w6.heap.size := Nat.le_trans hsz4 hb.size
      have HRO6 := Lib.hid (own_below HRO4.out hb)
      obtain ⟨tn, ht1, ht2⟩ := to8_nat (pn : Int)
      rw [ht1]
      have HG : Hid (smB 8 (pxAt p i) = [UInt8.ofNat tn]) := by show _ = _; rw [HPN.out]; unfold smB; rw [if_neg (by decide), ht1]; rfl
      have hwt : IntKind.u8.wrap (tn : Int) = (tn : Int) := by rw [IntKind.wrap_u8]; omega
      have HOC := Lib.hid (one_cell tn ht2)
      clear hb c4 HW4 hsz4 HRO4 ht1
      go_wp2_with (at_builtin; refine wpList_app el_b8 HRO6.out hsz6 rfl rfl rfl (m := 0) rfl (by simp [Value.oneCell']) rfl (by omega) (by unfold maxLen; omega) ?_)
      intro r2 cap2 w5 ho5 hg5 _
      have HR5 : Hid (BRow w5 (B + 2) 5 (.slice (some ⟨r2, 0, none⟩) (n + 1) cap2) ((List.range (i + 1)).flatMap fun k => smB 8 (pxAt p k))) := by
        show BRow _ _ _ _ _
        rw [HRG.out, HG.out]
        exact brow_more ho5 [UInt8.ofNat tn] (by rw [HOC.out]) (by rw [hnl.out]; rfl)
      have HB5 : Hid (Below (B + 2) w0 w5) := (below_app HW6.out hsz6 HRO6.out hg5).1
      have HN5 : Hid (n + 1 = ((List.range (i + 1)).flatMap fun k => smB 8 (pxAt p k)).length) := by show _ = _; rw [HRG.out, List.length_append, ← hnl.out]; rfl
      have hn5 : n + 1 ≤ 8 := by
        rw [HN5.out, flat_const _ 1 _ (fun k => rfl)]
        omega
      clear ho5 hg5 hsz6 HW6 ez
      go_wp2_with fail
      go_roundw
      case rel => exact ⟨i + 1, n + 1, some ⟨r2, 0, none⟩, cap2, rfl, by go_num, by omega, hn5, HR5, HN5, HB5⟩
      case measure => simp [intOf]; omega
    · have hd : decide ((i : Int) < 4) = false := by simp; omega
      have hi4 : i = 4 := by omega
      have hcv : ∀ w', wr = w' → (convert 54 9 (.slice x n c)).run Tryz.prog wr = .ok (.string ⟨(pxB 8 p).toArray⟩) wr := by
        intro _ _
        have h2 := run_str_of Tryz.underlying54 Tryz.underlying5 Tryz.underlying9 hro.out
        rw [hi4, ← px_flat8 p hz] at h2
        exact h2
      have hcv := hcv wr rfl
      clear hro hnl hi4
      go_wp2_with fail
      go_ret
      exact ⟨rfl, by rw [← HB.out]; exact HB0.out.trans (hbw.out.mono (by omega))⟩
theorem vsamples_any (p : Px) (d : Nat) (w : World) (hd : d = 8 ∨ d = 16) (hv : valP p = true) : Calls Tryz.prog 51 #[.agg (pxC p), .int .i64 d] w fun e w' => e = .returned (.string ⟨(pxB d p).toArray⟩) ∧ Below w.heap.size w w' := by
  rcases hd with rfl | rfl
  · by_cases hz : to8I p.2.2.2 = 0
    · exact vsam8z p w hv hz
    · exact vsam8n p w hv hz
  · exact vsam16 p w hv
end Go.Proofs.YthbejefodelpkaaGreat
