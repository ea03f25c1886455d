/-
  Walks, in the reference of png: Filter, Unfilter.
-/
import Derived.Test.YthbejefodelpkaaGreatZV1
import Derived.Test.YthbejefodelpkaaGreatZG6
import Derived.Test.YthbejefodelpkaaGreatZM
namespace Go.Proofs.YthbejefodelpkaaGreat
open Go.RowKit
set_option maxRecDepth 100000

theorem fil_num (lv pn : Nat) (h1 : lv < 256) (h2 : pn < 256) : ((lv : Int) - (pn : Int)) % 256 = ((UInt8.ofNat (lv + 256 - pn)).toNat : Int) := by
  rw [UInt8.toNat_ofNat']
  omega
theorem unf_num (lv pn : Nat) : ((lv : Int) + (pn : Int)) % 256 = ((UInt8.ofNat (lv + pn)).toNat : Int) := by
  rw [UInt8.toNat_ofNat']
  omega

set_option maxHeartbeats 8000000 in
theorem vfilter_any (kind bpp : Int) (line above : ByteArray) (w : World) (hs : line.size ≤ 140737488355328) :
    Calls Tryz.prog 19 #[.int .i64 kind, .int .i64 bpp, .string line, .string above] w fun e w' =>
      e = .returned (.tuple #[.string (if fchk kind bpp line.data.toList above.data.toList = 0 then ⟨(filP kind bpp.toNat line.data.toList above.data.toList).toArray⟩ else ⟨#[]⟩), .int .i64 (fchk kind bpp line.data.toList above.data.toList : Nat)]) ∧ Below w.heap.size w w' := by
  have HCK := Lib.hid (fun w => vwrong_any kind bpp line above w)
  by_cases h0 : fchk kind bpp line.data.toList above.data.toList = 0
  · have hb : 1 ≤ bpp ∧ bpp ≤ 8 := by
      unfold fchk at h0
      split at h0; · cases h0
      split at h0; · cases h0
      omega
    rw [if_pos h0, h0]
    rw [h0] at HCK
    obtain ⟨bn, rfl⟩ : ∃ n : Nat, bpp = (n : Int) := ⟨bpp.toNat, by omega⟩
    rw [Int.toNat_natCast]
    have hbn : 1 ≤ bn ∧ bn ≤ 8 := by omega
    have HLZ : Hid (line.data.toList.length = line.size) := by show _ = _; simp
    obtain ⟨FR, hFR⟩ : ∃ l, filP kind bn line.data.toList above.data.toList = l := ⟨_, rfl⟩
    have HFR := Lib.hid hFR
    rw [hFR]
    obtain ⟨B, hB⟩ : ∃ B, B = w.heap.size := ⟨_, rfl⟩
    have HB := Lib.hid hB
    clear h0 hb hFR hB
    go_enter Tryz.func19, Tryz.ntmps19
    go_wp2_with fail
    refine (HCK.out _).mono ?_
    rintro e w1 ⟨rfl, hw⟩
    subst hw
    clear HCK
    go_wp2_with fail
    go_loopw [11, 12] (fun vr vi wr => ∃ (i : Nat) (x : Option Addr) (c : Nat), vr = .slice x i c ∧ vi = .int .i64 i ∧ i ≤ line.size ∧ Hid (BRow wr B 5 (.slice x i c) ((List.range i).map (filB kind bn line.data.toList above.data.toList))) ∧ Hid (Below B w wr)) (fun _ vi _ => line.size - (intOf vi).toNat)
    case atStart => exact ⟨0, none, 0, rfl, rfl, Nat.zero_le _, World.ownsRow_nil _ _ _ _, Below.refl _ _⟩
    case round =>
      obtain ⟨i, x, c, rfl, rfl, hi, hro, hbw⟩ := hrel
      by_cases hlt : i < line.size
      · have hd : decide ((i : Int) < (line.size : Int)) = true := by simp; omega
        have i1 : (i : Int) < (line.size : Int) := by omega
        have hlen : i < line.data.toList.length := by rw [HLZ.out]; exact hlt
        obtain ⟨lb, hlb⟩ : ∃ b, line[i] = b := ⟨_, rfl⟩
        have hlg : line.data.toList.getD i 0 = lb := by rw [List.getD_eq_getElem?_getD, List.getElem?_eq_getElem hlen, ← hlb]; rfl
        have hbt := lb.toNat_lt
        have hwl : IntKind.i64.wrap (lb.toNat : Int) = (lb.toNat : Int) := by rw [IntKind.wrap_i64]; omega
        have hwi : IntKind.i64.wrap ((i : Int) - (bn : Int)) = (i : Int) - (bn : Int) := by rw [IntKind.wrap_i64]; omega
        obtain ⟨av, hav⟩ : ∃ n, atP line.data.toList ((i : Int) - (bn : Int)) = n := ⟨_, rfl⟩
        have hal := atP_lt line.data.toList ((i : Int) - (bn : Int))
        rw [hav] at hal
        have HA1 := Lib.hid (fun w => vat_any line ((i : Int) - (bn : Int)) w)
        rw [hav] at HA1
        obtain ⟨bv, hbv⟩ : ∃ n, atP above.data.toList (i : Int) = n := ⟨_, rfl⟩
        obtain ⟨cv, hcv⟩ : ∃ n, atP above.data.toList ((i : Int) - (bn : Int)) = n := ⟨_, rfl⟩
        have hbl := atP_lt above.data.toList (i : Int)
        have hcl := atP_lt above.data.toList ((i : Int) - (bn : Int))
        rw [hbv] at hbl
        rw [hcv] at hcl
        have HA2 := Lib.hid (fun w => vat_any above (i : Int) w)
        have HA3 := Lib.hid (fun w => vat_any above ((i : Int) - (bn : Int)) w)
        rw [hbv] at HA2
        rw [hcv] at HA3
        have HPR := Lib.hid (fun w => vpre_any kind (av : Int) (bv : Int) (cv : Int) (by omega) (by omega) (by omega) w)
        have hpb := preP_b kind (av : Int) (bv : Int) (cv : Int) (by omega) (by omega) (by omega)
        obtain ⟨pn, hpn⟩ : ∃ n : Nat, preP kind (av : Int) (bv : Int) (cv : Int) = (n : Int) := ⟨(preP kind av bv cv).toNat, by omega⟩
        rw [hpn] at HPR hpb
        have hpnl : pn < 256 := by omega
        obtain ⟨fb, hfb⟩ : ∃ b, UInt8.ofNat (lb.toNat + 256 - pn) = b := ⟨_, rfl⟩
        have hfn := fil_num lb.toNat pn hbt hpnl
        rw [hfb] at hfn
        have hfn2 : IntKind.u8.wrap ((lb.toNat : Int) - (pn : Int)) = (fb.toNat : Int) := by rw [IntKind.wrap_u8]; exact hfn
        have hws : IntKind.i64.wrap ((lb.toNat : Int) - (pn : Int)) = (lb.toNat : Int) - (pn : Int) := by rw [IntKind.wrap_i64]; omega
        obtain ⟨L, hL⟩ : ∃ l, (List.range i).map (filB kind bn line.data.toList above.data.toList) = l := ⟨_, rfl⟩
        have HNX : Hid ((List.range (i + 1)).map (filB kind bn line.data.toList above.data.toList) = L ++ [fb]) := by
          show _ = _
          rw [List.range_succ, List.map_append, hL, ← hfb, List.map_cons, List.map_nil]
          unfold filB prN
          rw [hlg, hav, hbv, hcv, hpn]
          rfl
        have HLL : Hid (L.length = i) := by show _ = _; rw [← hL]; simp
        have HRD : Hid (wr.drew.ownsRow B 5 1 (.slice x i c) i (bcells L)) := by
          have h := hro.out
          unfold BRow at h
          rw [hL, HLL.out] at h
          exact h
        have HBD : Hid (Below B w wr.drew) := hbw.out.drew
        have HSD : Hid (B ≤ wr.drew.heap.size) := by show _ ≤ _; rw [HB.out]; exact hbw.out.size
        clear hL hlg hpn hbv hcv hpb hbl hcl hro hbw hal hav hfb
        go_upto_region 8 with fail
        refine wp_region_held_drew (S := fun _ => True) (by kernel_rfl) trivial (fun hHeld => ?_)
        clear hHeld
        generalize wr.drew = wd at *
        refine wpAnyH_weaken (S2 := fun _ => True) (fun _ _ => trivial) ?_
        have hS := trivial
        refine wpAnyH_take (i := 0) (oi := ⟨some 27, Op.move (Operand.tmp 11), 54, _, _, none⟩) (v := ?vf1) rfl (by kernel_rfl) (by kernel_rfl) (by kernel_rfl) (fun _ _ _ h => h) (Or.inl ⟨by rfl, ?yf1⟩) hS ?rf1
        case yf1 => (intro w hSw; (try dsimp only at hSw); go_simp; try with_reducible rfl)
        try simp only [Act.put, List.setIfInBounds_toArray, List.set_cons_zero, List.set_cons_succ]
        refine wpAnyH_take (i := 1) (oi := ⟨some 28, Op.move (Operand.tmp 2), 9, _, _, none⟩) (v := ?vf2) rfl (by kernel_rfl) (by kernel_rfl) (by kernel_rfl) (fun _ _ _ h => h) (Or.inl ⟨by rfl, ?yf2⟩) hS ?rf2
        case yf2 => (intro w hSw; (try dsimp only at hSw); go_simp; try with_reducible rfl)
        try simp only [Act.put, List.setIfInBounds_toArray, List.set_cons_zero, List.set_cons_succ]
        refine wpAnyH_take (i := 2) (oi := ⟨some 29, Op.move (Operand.tmp 12), 3, _, _, none⟩) (v := ?vf3) rfl (by kernel_rfl) (by kernel_rfl) (by kernel_rfl) (fun _ _ _ h => h) (Or.inl ⟨by rfl, ?yf3⟩) hS ?rf3
        case yf3 => (intro w hSw; (try dsimp only at hSw); go_simp; try with_reducible rfl)
        try simp only [Act.put, List.setIfInBounds_toArray, List.set_cons_zero, List.set_cons_succ]
        refine wpAnyH_take (i := 3) (oi := ⟨some 30, Op.index 9 (Operand.tmp 28) (Operand.tmp 29), 5, _, _, none⟩) (v := ?vf4) rfl (by kernel_rfl) (by kernel_rfl) (by kernel_rfl) (fun _ _ _ h => h) (Or.inl ⟨by rfl, ?yf4⟩) hS ?rf4
        case yf4 => (intro w hSw; (try dsimp only at hSw); go_simp; try with_reducible rfl)
        try simp only [Act.put, List.setIfInBounds_toArray, List.set_cons_zero, List.set_cons_succ]
        refine wpAnyH_take (i := 4) (oi := ⟨some 31, Op.convert 5 3 (Operand.tmp 30), 3, _, _, none⟩) (v := ?vf5) rfl (by kernel_rfl) (by kernel_rfl) (by kernel_rfl) (fun _ _ _ h => h) (Or.inl ⟨by rfl, ?yf5⟩) hS ?rf5
        case yf5 => (intro w hSw; (try dsimp only at hSw); go_simp; try with_reducible rfl)
        try simp only [Act.put, List.setIfInBounds_toArray, List.set_cons_zero, List.set_cons_succ]
        refine wpAnyH_take (i := 5) (oi := ⟨some 32, Op.move (Operand.tmp 0), 3, _, _, none⟩) (v := ?vf6) rfl (by kernel_rfl) (by kernel_rfl) (by kernel_rfl) (fun _ _ _ h => h) (Or.inl ⟨by rfl, ?yf6⟩) hS ?rf6
        case yf6 => (intro w hSw; (try dsimp only at hSw); go_simp; try with_reducible rfl)
        try simp only [Act.put, List.setIfInBounds_toArray, List.set_cons_zero, List.set_cons_succ]
        refine wpAnyH_take (i := 6) (oi := ⟨some 33, Op.move (Operand.tmp 2), 9, _, _, none⟩) (v := ?vf7) rfl (by kernel_rfl) (by kernel_rfl) (by kernel_rfl) (fun _ _ _ h => h) (Or.inl ⟨by rfl, ?yf7⟩) hS ?rf7
        case yf7 => (intro w hSw; (try dsimp only at hSw); go_simp; try with_reducible rfl)
        try simp only [Act.put, List.setIfInBounds_toArray, List.set_cons_zero, List.set_cons_succ]
        refine wpAnyH_take (i := 7) (oi := ⟨some 34, Op.move (Operand.tmp 12), 3, _, _, none⟩) (v := ?vf8) rfl (by kernel_rfl) (by kernel_rfl) (by kernel_rfl) (fun _ _ _ h => h) (Or.inl ⟨by rfl, ?yf8⟩) hS ?rf8
        case yf8 => (intro w hSw; (try dsimp only at hSw); go_simp; try with_reducible rfl)
        try simp only [Act.put, List.setIfInBounds_toArray, List.set_cons_zero, List.set_cons_succ]
        refine wpAnyH_take (i := 8) (oi := ⟨some 35, Op.move (Operand.tmp 1), 3, _, _, none⟩) (v := ?vf9) rfl (by kernel_rfl) (by kernel_rfl) (by kernel_rfl) (fun _ _ _ h => h) (Or.inl ⟨by rfl, ?yf9⟩) hS ?rf9
        case yf9 => (intro w hSw; (try dsimp only at hSw); go_simp; try with_reducible rfl)
        try simp only [Act.put, List.setIfInBounds_toArray, List.set_cons_zero, List.set_cons_succ]
        refine wpAnyH_take (i := 9) (oi := ⟨some 36, Op.binOp BinOp.sub 3 (Operand.tmp 34) (Operand.tmp 35) 3, 3, _, _, none⟩) (v := ?vf10) rfl (by kernel_rfl) (by kernel_rfl) (by kernel_rfl) (fun _ _ _ h => h) (Or.inl ⟨by rfl, ?yf10⟩) hS ?rf10
        case yf10 => (intro w hSw; (try dsimp only at hSw); go_simp; try with_reducible rfl)
        try simp only [Act.put, List.setIfInBounds_toArray, List.set_cons_zero, List.set_cons_succ]
        refine wpAnyH_take (i := 11) (oi := ⟨some 38, Op.move (Operand.tmp 3), 9, _, _, none⟩) (v := ?vf11) rfl (by kernel_rfl) (by kernel_rfl) (by kernel_rfl) (fun _ _ _ h => h) (Or.inl ⟨by rfl, ?yf11⟩) hS ?rf11
        case yf11 => (intro w hSw; (try dsimp only at hSw); go_simp; try with_reducible rfl)
        try simp only [Act.put, List.setIfInBounds_toArray, List.set_cons_zero, List.set_cons_succ]
        refine wpAnyH_take (i := 12) (oi := ⟨some 39, Op.move (Operand.tmp 12), 3, _, _, none⟩) (v := ?vf12) rfl (by kernel_rfl) (by kernel_rfl) (by kernel_rfl) (fun _ _ _ h => h) (Or.inl ⟨by rfl, ?yf12⟩) hS ?rf12
        case yf12 => (intro w hSw; (try dsimp only at hSw); go_simp; try with_reducible rfl)
        try simp only [Act.put, List.setIfInBounds_toArray, List.set_cons_zero, List.set_cons_succ]
        refine wpAnyH_take (i := 14) (oi := ⟨some 41, Op.move (Operand.tmp 3), 9, _, _, none⟩) (v := ?vf13) rfl (by kernel_rfl) (by kernel_rfl) (by kernel_rfl) (fun _ _ _ h => h) (Or.inl ⟨by rfl, ?yf13⟩) hS ?rf13
        case yf13 => (intro w hSw; (try dsimp only at hSw); go_simp; try with_reducible rfl)
        try simp only [Act.put, List.setIfInBounds_toArray, List.set_cons_zero, List.set_cons_succ]
        refine wpAnyH_take (i := 15) (oi := ⟨some 42, Op.move (Operand.tmp 12), 3, _, _, none⟩) (v := ?vf14) rfl (by kernel_rfl) (by kernel_rfl) (by kernel_rfl) (fun _ _ _ h => h) (Or.inl ⟨by rfl, ?yf14⟩) hS ?rf14
        case yf14 => (intro w hSw; (try dsimp only at hSw); go_simp; try with_reducible rfl)
        try simp only [Act.put, List.setIfInBounds_toArray, List.set_cons_zero, List.set_cons_succ]
        refine wpAnyH_take (i := 16) (oi := ⟨some 43, Op.move (Operand.tmp 1), 3, _, _, none⟩) (v := ?vf15) rfl (by kernel_rfl) (by kernel_rfl) (by kernel_rfl) (fun _ _ _ h => h) (Or.inl ⟨by rfl, ?yf15⟩) hS ?rf15
        case yf15 => (intro w hSw; (try dsimp only at hSw); go_simp; try with_reducible rfl)
        try simp only [Act.put, List.setIfInBounds_toArray, List.set_cons_zero, List.set_cons_succ]
        refine wpAnyH_take (i := 17) (oi := ⟨some 44, Op.binOp BinOp.sub 3 (Operand.tmp 42) (Operand.tmp 43) 3, 3, _, _, none⟩) (v := ?vf16) rfl (by kernel_rfl) (by kernel_rfl) (by kernel_rfl) (fun _ _ _ h => h) (Or.inl ⟨by rfl, ?yf16⟩) hS ?rf16
        case yf16 => (intro w hSw; (try dsimp only at hSw); go_simp; try with_reducible rfl)
        try simp only [Act.put, List.setIfInBounds_toArray, List.set_cons_zero, List.set_cons_succ]
        refine wpAnyH_ready (rs := [10]) (by kernel_rfl) (by simp) ?rf17
        refine AllReadyH.cons (o := ⟨some 37, Op.call { callee := Callee.value (Operand.func 46), args := #[Operand.tmp 33, Operand.tmp 36], argTypes := #[9, 3] }, 3, _, _, none⟩) rfl (fun K hK => ?sf17) AllReadyH.nil
        go_simp
        refine (HA1.out _).mono ?_
        rintro e w1 ⟨rfl, hw⟩
        subst hw
        refine hK.out _ _ ?kf17 (fun hHeld => ?_)
        case kf17 => exact trivial
        clear hS
        have hS := hHeld
        clear hHeld
        clear hK K
        try simp only [Act.put, List.setIfInBounds_toArray, List.set_cons_zero, List.set_cons_succ]
        refine wpAnyH_ready (rs := [13]) (by kernel_rfl) (by simp) ?rf18
        refine AllReadyH.cons (o := ⟨some 40, Op.call { callee := Callee.value (Operand.func 46), args := #[Operand.tmp 38, Operand.tmp 39], argTypes := #[9, 3] }, 3, _, _, none⟩) rfl (fun K hK => ?sf18) AllReadyH.nil
        go_simp
        refine (HA2.out _).mono ?_
        rintro e w1 ⟨rfl, hw⟩
        subst hw
        refine hK.out _ _ ?kf18 (fun hHeld => ?_)
        case kf18 => exact trivial
        clear hS
        have hS := hHeld
        clear hHeld
        clear hK K
        try simp only [Act.put, List.setIfInBounds_toArray, List.set_cons_zero, List.set_cons_succ]
        refine wpAnyH_ready (rs := [18]) (by kernel_rfl) (by simp) ?rf19
        refine AllReadyH.cons (o := ⟨some 45, Op.call { callee := Callee.value (Operand.func 46), args := #[Operand.tmp 41, Operand.tmp 44], argTypes := #[9, 3] }, 3, _, _, none⟩) rfl (fun K hK => ?sf19) AllReadyH.nil
        go_simp
        refine (HA3.out _).mono ?_
        rintro e w1 ⟨rfl, hw⟩
        subst hw
        refine hK.out _ _ ?kf19 (fun hHeld => ?_)
        case kf19 => exact trivial
        clear hS
        have hS := hHeld
        clear hHeld
        clear hK K
        try simp only [Act.put, List.setIfInBounds_toArray, List.set_cons_zero, List.set_cons_succ]
        refine wpAnyH_ready (rs := [19]) (by kernel_rfl) (by simp) ?rf20
        refine AllReadyH.cons (o := ⟨some 46, Op.call { callee := Callee.value (Operand.func 45), args := #[Operand.tmp 32, Operand.tmp 37, Operand.tmp 40, Operand.tmp 45], argTypes := #[3, 3, 3, 3] }, 3, _, _, none⟩) rfl (fun K hK => ?sf20) AllReadyH.nil
        go_simp
        refine (HPR.out _).mono ?_
        rintro e w1 ⟨rfl, hw⟩
        subst hw
        refine hK.out _ _ ?kf20 (fun hHeld => ?_)
        case kf20 => exact trivial
        clear hS
        have hS := hHeld
        clear hHeld
        clear hK K
        try simp only [Act.put, List.setIfInBounds_toArray, List.set_cons_zero, List.set_cons_succ]
        refine wpAnyH_take (i := 20) (oi := ⟨some 47, Op.binOp BinOp.sub 3 (Operand.tmp 31) (Operand.tmp 46) 3, 3, _, _, none⟩) (v := ?vf21) rfl (by kernel_rfl) (by kernel_rfl) (by kernel_rfl) (fun _ _ _ h => h) (Or.inl ⟨by rfl, ?yf21⟩) hS ?rf21
        case yf21 => (intro w hSw; (try dsimp only at hSw); go_simp; try with_reducible rfl)
        try simp only [Act.put, List.setIfInBounds_toArray, List.set_cons_zero, List.set_cons_succ]
        refine wpAnyH_take (i := 21) (oi := ⟨some 48, Op.convert 3 5 (Operand.tmp 47), 5, _, _, none⟩) (v := ?vf22) rfl (by kernel_rfl) (by kernel_rfl) (by kernel_rfl) (fun _ _ _ h => h) (Or.inl ⟨by rfl, ?yf22⟩) hS ?rf22
        case yf22 => (intro w hSw; (try dsimp only at hSw); go_simp; try with_reducible rfl)
        try simp only [Act.put, List.setIfInBounds_toArray, List.set_cons_zero, List.set_cons_succ]
        refine wpAnyH_ready (rs := [22]) (by kernel_rfl) (by simp) ?rf23
        refine AllReadyH.cons (o := ⟨some 49, Op.buildSlice 54 1 #[(0, Operand.tmp 48)], 54, _, _, none⟩) rfl (fun K hK => ?sf23) AllReadyH.nil
        go_simp
        have HRb := Lib.hid (World.ownsRow.alloc HRD.out (.cells #[.int .u8 (fb.toNat : Int)] 5))
        have HBb := Lib.hid (HBD.out.alloc HSD.out (.cells #[.int .u8 (fb.toNat : Int)] 5))
        have HKb := Lib.hid (Blk.new wd 5 #[.int .u8 (fb.toNat : Int)])
        have HSb : Hid (B ≤ (wd.alloc (.cells #[.int .u8 (fb.toNat : Int)] 5)).heap.size) := Nat.le_trans HSD.out ((Below.refl _ _).alloc (Nat.le_refl _) _).size
        refine hK.out _ _ ?kf23 (fun hHeld => ?_)
        case kf23 => exact trivial
        clear hS
        have hS := hHeld
        clear hHeld
        clear hK K
        try simp only [Act.put, List.setIfInBounds_toArray, List.set_cons_zero, List.set_cons_succ]
        generalize wd.alloc (.cells #[.int .u8 (fb.toNat : Int)] 5) = wb at *
        generalize wd.heap.size = KB at *
        refine wpAnyH_ready (rs := [23]) (by kernel_rfl) (by simp) ?rf24
        refine AllReadyH.cons (o := ⟨some 50, Op.call { callee := Callee.builtin Builtin.append, args := #[Operand.tmp 27, Operand.tmp 49], argTypes := #[54, 54] }, 54, _, _, none⟩) rfl (fun K hK => ?sf24) AllReadyH.nil
        refine step_appP el_b8 rfl (s := .tmp 27) (x := .tmp 49) rfl (by simp [Act.eval]) HRb.out (m := 0) (by simp [Act.eval]) HKb.out rfl (by intro z hz; simp at hz; subst hz; rfl) (by omega) (by unfold maxLen; omega) HSb.out ?_
        intro r2 cap2 w5 ho5 hg5
        have HR5 : Hid (BRow w5 B 5 (.slice (some ⟨r2, 0, none⟩) (i + 1) cap2) (L ++ [fb])) := brow_more ho5 [fb] (by simp [bcells]) (by rw [HLL.out]; rfl)
        have HB5 : Hid (Below B w w5) := HBb.out.grown hg5 HSb.out (fun k hk => (World.ownsRow.lt HRb.out k hk).1)
        clear ho5 hg5
        refine hK.out _ _ ?kf24 (fun hHeld => ?_)
        case kf24 => exact trivial
        clear hS
        have hS := hHeld
        clear hHeld
        clear hK K
        try simp only [Act.put, List.setIfInBounds_toArray, List.set_cons_zero, List.set_cons_succ]
        refine wpAnyH_take (i := 24) (oi := ⟨some 11, Op.assign (Operand.tmp 50), 54, _, _, none⟩) (v := ?vf25) rfl (by kernel_rfl) (by kernel_rfl) (by kernel_rfl) (fun _ _ _ h => h) (Or.inl ⟨by rfl, ?yf25⟩) hS ?rf25
        case yf25 => (intro w hSw; (try dsimp only at hSw); go_simp; try with_reducible rfl)
        try simp only [Act.put, List.setIfInBounds_toArray, List.set_cons_zero, List.set_cons_succ]
        refine wpAnyH_done (by kernel_rfl) ?_ _
        go_wp2_with fail
        go_roundw
        case rel => exact ⟨i + 1, some ⟨r2, 0, none⟩, cap2, rfl, by go_num, by omega, by rw [HNX.out]; exact HR5.out, HB5.out⟩
        case measure => simp [intOf]; omega
      · have hd : decide ((i : Int) < (line.size : Int)) = false := by simp; omega
        have hil : i = line.size := by omega
        have hcv : ∀ w', wr = w' → (convert 54 9 (.slice x i c)).run Tryz.prog wr = .ok (.string ⟨FR.toArray⟩) wr := by
          intro _ _
          have h2 := run_str_of Tryz.underlying54 Tryz.underlying5 Tryz.underlying9 hro.out
          rw [show (List.range i).map (filB kind bn line.data.toList above.data.toList) = FR by rw [hil, ← HLZ.out]; exact HFR.out] at h2
          exact h2
        have hcv := hcv wr rfl
        clear hro hil
        go_wp2_with fail
        go_ret2
        exact ⟨rfl, by rw [← HB.out]; exact hbw.out⟩
  · rw [if_neg h0]
    obtain ⟨z, hz⟩ : ∃ z, fchk kind bpp line.data.toList above.data.toList = z := ⟨_, rfl⟩
    rw [hz] at HCK h0 ⊢
    have hz0 : ((z : Int) != 0) = true := by simp; omega
    clear hz h0
    go_enter Tryz.func19, Tryz.ntmps19
    go_wp2_with fail
    refine (HCK.out _).mono ?_
    rintro e w1 ⟨rfl, rfl⟩
    go_wp2_with fail
    go_ret2
    exact ⟨rfl, Below.refl _ _⟩

set_option maxHeartbeats 8000000 in
theorem vunfilter_any (kind bpp : Int) (line above : ByteArray) (w : World) (hs : line.size ≤ 140737488355328) :
    Calls Tryz.prog 21 #[.int .i64 kind, .int .i64 bpp, .string line, .string above] w fun e w' =>
      e = .returned (.tuple #[.string (if fchk kind bpp line.data.toList above.data.toList = 0 then ⟨(unfP kind bpp.toNat line.data.toList above.data.toList).toArray⟩ else ⟨#[]⟩), .int .i64 (fchk kind bpp line.data.toList above.data.toList : Nat)]) ∧ Below w.heap.size w w' := by
  have HCK := Lib.hid (fun w => vwrong_any kind bpp line above w)
  by_cases h0 : fchk kind bpp line.data.toList above.data.toList = 0
  · have hb : 1 ≤ bpp ∧ bpp ≤ 8 := by
      unfold fchk at h0
      split at h0; · cases h0
      split at h0; · cases h0
      omega
    rw [if_pos h0, h0]
    rw [h0] at HCK
    obtain ⟨bn, rfl⟩ : ∃ n : Nat, bpp = (n : Int) := ⟨bpp.toNat, by omega⟩
    rw [Int.toNat_natCast]
    have hbn : 1 ≤ bn ∧ bn ≤ 8 := by omega
    have HLZ : Hid (line.data.toList.length = line.size) := by show _ = _; simp
    obtain ⟨FR, hFR⟩ : ∃ l, unfP kind bn line.data.toList above.data.toList = l := ⟨_, rfl⟩
    have HFR := Lib.hid hFR
    rw [hFR]
    obtain ⟨B, hB⟩ : ∃ B, B = w.heap.size := ⟨_, rfl⟩
    have HB := Lib.hid hB
    clear h0 hb hFR hB
    go_enter Tryz.func21, Tryz.ntmps21
    go_wp2_with fail
    refine (HCK.out _).mono ?_
    rintro e w1 ⟨rfl, hw⟩
    subst hw
    clear HCK
    go_wp2_with fail
    go_loopw [11, 12] (fun vr vi wr => ∃ (i : Nat) (x : Option Addr) (c : Nat), vr = .slice x i c ∧ vi = .int .i64 i ∧ i ≤ line.size ∧ Hid (BRow wr B 5 (.slice x i c) (unfN kind bn line.data.toList above.data.toList i)) ∧ Hid (Below B w wr)) (fun _ vi _ => line.size - (intOf vi).toNat)
    case atStart => exact ⟨0, none, 0, rfl, rfl, Nat.zero_le _, World.ownsRow_nil _ _ _ _, Below.refl _ _⟩
    case round =>
      obtain ⟨i, x, c, rfl, rfl, hi, hro, hbw⟩ := hrel
      by_cases hlt : i < line.size
      · have hd : decide ((i : Int) < (line.size : Int)) = true := by simp; omega
        have i1 : (i : Int) < (line.size : Int) := by omega
        have hlen : i < line.data.toList.length := by rw [HLZ.out]; exact hlt
        obtain ⟨lb, hlb⟩ : ∃ b, line[i] = b := ⟨_, rfl⟩
        have hlg : line.data.toList.getD i 0 = lb := by rw [List.getD_eq_getElem?_getD, List.getElem?_eq_getElem hlen, ← hlb]; rfl
        have hbt := lb.toNat_lt
        have hwl : IntKind.i64.wrap (lb.toNat : Int) = (lb.toNat : Int) := by rw [IntKind.wrap_i64]; omega
        have hwi : IntKind.i64.wrap ((i : Int) - (bn : Int)) = (i : Int) - (bn : Int) := by rw [IntKind.wrap_i64]; omega
        obtain ⟨av, hav0⟩ : ∃ n, atP (unfN kind bn line.data.toList above.data.toList i) ((i : Int) - (bn : Int)) = n := ⟨_, rfl⟩
        have hal := atP_lt (unfN kind bn line.data.toList above.data.toList i) ((i : Int) - (bn : Int))
        rw [hav0] at hal
        obtain ⟨bv, hbv⟩ : ∃ n, atP above.data.toList (i : Int) = n := ⟨_, rfl⟩
        obtain ⟨cv, hcv⟩ : ∃ n, atP above.data.toList ((i : Int) - (bn : Int)) = n := ⟨_, rfl⟩
        have hbl := atP_lt above.data.toList (i : Int)
        have hcl := atP_lt above.data.toList ((i : Int) - (bn : Int))
        rw [hbv] at hbl
        rw [hcv] at hcl
        have HA2 := Lib.hid (fun w => vat_any above (i : Int) w)
        have HA3 := Lib.hid (fun w => vat_any above ((i : Int) - (bn : Int)) w)
        rw [hbv] at HA2
        rw [hcv] at HA3
        have HPR := Lib.hid (fun w => vpre_any kind (av : Int) (bv : Int) (cv : Int) (by omega) (by omega) (by omega) w)
        have hpb := preP_b kind (av : Int) (bv : Int) (cv : Int) (by omega) (by omega) (by omega)
        obtain ⟨pn, hpn⟩ : ∃ n : Nat, preP kind (av : Int) (bv : Int) (cv : Int) = (n : Int) := ⟨(preP kind av bv cv).toNat, by omega⟩
        rw [hpn] at HPR hpb
        have hpnl : pn < 256 := by omega
        obtain ⟨fb, hfb⟩ : ∃ b, UInt8.ofNat (lb.toNat + pn) = b := ⟨_, rfl⟩
        have hfn := unf_num lb.toNat pn
        rw [hfb] at hfn
        have hfn2 : IntKind.u8.wrap ((lb.toNat : Int) + (pn : Int)) = (fb.toNat : Int) := by rw [IntKind.wrap_u8]; exact hfn
        have hws : IntKind.i64.wrap ((lb.toNat : Int) + (pn : Int)) = (lb.toNat : Int) + (pn : Int) := by rw [IntKind.wrap_i64]; omega
        obtain ⟨L, hL⟩ : ∃ l, unfN kind bn line.data.toList above.data.toList i = l := ⟨_, rfl⟩
        have HNX : Hid (unfN kind bn line.data.toList above.data.toList (i + 1) = L ++ [fb]) := by
          show _ = _
          rw [unfN_succ, hL, ← hfb, ← hL]
          unfold prN
          rw [hlg, hav0, hbv, hcv, hpn]
          rfl
        have HLL : Hid (L.length = i) := by show _ = _; rw [← hL]; exact unfN_len _ _ _ _ _
        have HRD : Hid (wr.drew.ownsRow B 5 1 (.slice x i c) i (bcells L)) := by
          have h := hro.out
          unfold BRow at h
          rw [hL, HLL.out] at h
          exact h
        have HBD : Hid (Below B w wr.drew) := hbw.out.drew
        have HSD : Hid (B ≤ wr.drew.heap.size) := by show _ ≤ _; rw [HB.out]; exact hbw.out.size
        have hlu : (unfN kind bn line.data.toList above.data.toList i).length = i := unfN_len _ _ _ _ _
        have HCE : Hid (∀ j, (hj : j < i) → ∃ g : Nat, x = some ⟨g, 0, none⟩ ∧ i ≤ c ∧ wr.cell? ⟨g, j, none⟩ = some (.int .u8 (((unfN kind bn line.data.toList above.data.toList i)[j]'(by rw [hlu]; exact hj)).toNat : Int))) := fun j hj => by
          have h := hro.out
          rcases h.2 with ⟨h1, h2⟩ | ⟨g, cap, cur, h1, _, _, hc, _⟩
          · rw [hlu] at h2; omega
          · injection h1 with h1 h2 h3
            subst h1 h3
            refine ⟨g, rfl, by rw [hlu] at hc; exact hc, ?_⟩
            have := World.ownsRow.cells h (g := g) rfl j (.int .u8 (((unfN kind bn line.data.toList above.data.toList i)[j]'(by rw [hlu]; exact hj)).toNat : Int)) (by simp [bcells, hlu, hj])
            rw [Addr.add_lit] at this
            simpa using this
        have HAV : Hid (∀ j, (hj : j < i) → i = j + bn → ((unfN kind bn line.data.toList above.data.toList i)[j]'(by rw [hlu]; exact hj)).toNat = av) := fun j hj he => by
          rw [← hav0]
          unfold atP
          rw [if_neg (by omega), show ((i : Int) - (bn : Int)).toNat = j by omega, List.getElem?_eq_getElem (by rw [hlu]; exact hj)]
          rfl
        have HAZ : Hid (i < bn → av = 0) := fun h => by rw [← hav0]; unfold atP; rw [if_pos (by omega)]
        generalize unfN kind bn line.data.toList above.data.toList i = UN at *
        clear hL hlg hpn hbv hcv hpb hbl hcl hro hbw hal hfb
        by_cases hib : i < bn
        · have dib : decide ((bn : Int) ≤ (i : Int)) = false := by simp; omega
          have ha0 := HAZ.out hib
          have ha0i : (av : Int) = 0 := by omega
          rw [ha0i] at HPR
          clear HCE HAV HAZ ha0 ha0i
          go_upto_region 11 with fail
          clear dib hib
          refine wp_region_held_drew (S := fun _ => True) (by kernel_rfl) trivial (fun hHeld => ?_)
          clear hHeld
          generalize wr.drew = wd at *
          refine wpAnyH_weaken (S2 := fun _ => True) (fun _ _ => trivial) ?_
          have hS := trivial
          refine wpAnyH_take (i := 0) (oi := ⟨some 38, Op.move (Operand.tmp 11), 54, _, _, none⟩) (v := ?vu1) rfl (by kernel_rfl) (by kernel_rfl) (by kernel_rfl) (fun _ _ _ h => h) (Or.inl ⟨by rfl, ?yu1⟩) hS ?ru1
          case yu1 => (intro w hSw; (try dsimp only at hSw); go_simp; try with_reducible rfl)
          try simp only [Act.put, List.setIfInBounds_toArray, List.set_cons_zero, List.set_cons_succ]
          refine wpAnyH_take (i := 1) (oi := ⟨some 39, Op.move (Operand.tmp 2), 9, _, _, none⟩) (v := ?vu2) rfl (by kernel_rfl) (by kernel_rfl) (by kernel_rfl) (fun _ _ _ h => h) (Or.inl ⟨by rfl, ?yu2⟩) hS ?ru2
          case yu2 => (intro w hSw; (try dsimp only at hSw); go_simp; try with_reducible rfl)
          try simp only [Act.put, List.setIfInBounds_toArray, List.set_cons_zero, List.set_cons_succ]
          refine wpAnyH_take (i := 2) (oi := ⟨some 40, Op.move (Operand.tmp 12), 3, _, _, none⟩) (v := ?vu3) rfl (by kernel_rfl) (by kernel_rfl) (by kernel_rfl) (fun _ _ _ h => h) (Or.inl ⟨by rfl, ?yu3⟩) hS ?ru3
          case yu3 => (intro w hSw; (try dsimp only at hSw); go_simp; try with_reducible rfl)
          try simp only [Act.put, List.setIfInBounds_toArray, List.set_cons_zero, List.set_cons_succ]
          refine wpAnyH_take (i := 3) (oi := ⟨some 41, Op.index 9 (Operand.tmp 39) (Operand.tmp 40), 5, _, _, none⟩) (v := ?vu4) rfl (by kernel_rfl) (by kernel_rfl) (by kernel_rfl) (fun _ _ _ h => h) (Or.inl ⟨by rfl, ?yu4⟩) hS ?ru4
          case yu4 => (intro w hSw; (try dsimp only at hSw); go_simp; try with_reducible rfl)
          try simp only [Act.put, List.setIfInBounds_toArray, List.set_cons_zero, List.set_cons_succ]
          refine wpAnyH_take (i := 4) (oi := ⟨some 42, Op.convert 5 3 (Operand.tmp 41), 3, _, _, none⟩) (v := ?vu5) rfl (by kernel_rfl) (by kernel_rfl) (by kernel_rfl) (fun _ _ _ h => h) (Or.inl ⟨by rfl, ?yu5⟩) hS ?ru5
          case yu5 => (intro w hSw; (try dsimp only at hSw); go_simp; try with_reducible rfl)
          try simp only [Act.put, List.setIfInBounds_toArray, List.set_cons_zero, List.set_cons_succ]
          refine wpAnyH_take (i := 5) (oi := ⟨some 43, Op.move (Operand.tmp 0), 3, _, _, none⟩) (v := ?vu6) rfl (by kernel_rfl) (by kernel_rfl) (by kernel_rfl) (fun _ _ _ h => h) (Or.inl ⟨by rfl, ?yu6⟩) hS ?ru6
          case yu6 => (intro w hSw; (try dsimp only at hSw); go_simp; try with_reducible rfl)
          try simp only [Act.put, List.setIfInBounds_toArray, List.set_cons_zero, List.set_cons_succ]
          refine wpAnyH_take (i := 6) (oi := ⟨some 44, Op.move (Operand.tmp 13), 3, _, _, none⟩) (v := ?vu7) rfl (by kernel_rfl) (by kernel_rfl) (by kernel_rfl) (fun _ _ _ h => h) (Or.inl ⟨by rfl, ?yu7⟩) hS ?ru7
          case yu7 => (intro w hSw; (try dsimp only at hSw); go_simp; try with_reducible rfl)
          try simp only [Act.put, List.setIfInBounds_toArray, List.set_cons_zero, List.set_cons_succ]
          refine wpAnyH_take (i := 7) (oi := ⟨some 45, Op.move (Operand.tmp 3), 9, _, _, none⟩) (v := ?vu8) rfl (by kernel_rfl) (by kernel_rfl) (by kernel_rfl) (fun _ _ _ h => h) (Or.inl ⟨by rfl, ?yu8⟩) hS ?ru8
          case yu8 => (intro w hSw; (try dsimp only at hSw); go_simp; try with_reducible rfl)
          try simp only [Act.put, List.setIfInBounds_toArray, List.set_cons_zero, List.set_cons_succ]
          refine wpAnyH_take (i := 8) (oi := ⟨some 46, Op.move (Operand.tmp 12), 3, _, _, none⟩) (v := ?vu9) rfl (by kernel_rfl) (by kernel_rfl) (by kernel_rfl) (fun _ _ _ h => h) (Or.inl ⟨by rfl, ?yu9⟩) hS ?ru9
          case yu9 => (intro w hSw; (try dsimp only at hSw); go_simp; try with_reducible rfl)
          try simp only [Act.put, List.setIfInBounds_toArray, List.set_cons_zero, List.set_cons_succ]
          refine wpAnyH_take (i := 10) (oi := ⟨some 48, Op.move (Operand.tmp 3), 9, _, _, none⟩) (v := ?vu10) rfl (by kernel_rfl) (by kernel_rfl) (by kernel_rfl) (fun _ _ _ h => h) (Or.inl ⟨by rfl, ?yu10⟩) hS ?ru10
          case yu10 => (intro w hSw; (try dsimp only at hSw); go_simp; try with_reducible rfl)
          try simp only [Act.put, List.setIfInBounds_toArray, List.set_cons_zero, List.set_cons_succ]
          refine wpAnyH_take (i := 11) (oi := ⟨some 49, Op.move (Operand.tmp 12), 3, _, _, none⟩) (v := ?vu11) rfl (by kernel_rfl) (by kernel_rfl) (by kernel_rfl) (fun _ _ _ h => h) (Or.inl ⟨by rfl, ?yu11⟩) hS ?ru11
          case yu11 => (intro w hSw; (try dsimp only at hSw); go_simp; try with_reducible rfl)
          try simp only [Act.put, List.setIfInBounds_toArray, List.set_cons_zero, List.set_cons_succ]
          refine wpAnyH_take (i := 12) (oi := ⟨some 50, Op.move (Operand.tmp 1), 3, _, _, none⟩) (v := ?vu12) rfl (by kernel_rfl) (by kernel_rfl) (by kernel_rfl) (fun _ _ _ h => h) (Or.inl ⟨by rfl, ?yu12⟩) hS ?ru12
          case yu12 => (intro w hSw; (try dsimp only at hSw); go_simp; try with_reducible rfl)
          try simp only [Act.put, List.setIfInBounds_toArray, List.set_cons_zero, List.set_cons_succ]
          refine wpAnyH_take (i := 13) (oi := ⟨some 51, Op.binOp BinOp.sub 3 (Operand.tmp 49) (Operand.tmp 50) 3, 3, _, _, none⟩) (v := ?vu13) rfl (by kernel_rfl) (by kernel_rfl) (by kernel_rfl) (fun _ _ _ h => h) (Or.inl ⟨by rfl, ?yu13⟩) hS ?ru13
          case yu13 => (intro w hSw; (try dsimp only at hSw); go_simp; try with_reducible rfl)
          try simp only [Act.put, List.setIfInBounds_toArray, List.set_cons_zero, List.set_cons_succ]
          refine wpAnyH_ready (rs := [9]) (by kernel_rfl) (by simp) ?ru14
          refine AllReadyH.cons (o := ⟨some 47, Op.call { callee := Callee.value (Operand.func 46), args := #[Operand.tmp 45, Operand.tmp 46], argTypes := #[9, 3] }, 3, _, _, none⟩) rfl (fun K hK => ?su14) AllReadyH.nil
          go_simp
          refine (HA2.out _).mono ?_
          rintro e w1 ⟨rfl, hw⟩
          subst hw
          refine hK.out _ _ ?ku14 (fun hHeld => ?_)
          case ku14 => exact trivial
          clear hS
          have hS := hHeld
          clear hHeld
          clear hK K
          try simp only [Act.put, List.setIfInBounds_toArray, List.set_cons_zero, List.set_cons_succ]
          refine wpAnyH_ready (rs := [14]) (by kernel_rfl) (by simp) ?ru15
          refine AllReadyH.cons (o := ⟨some 52, Op.call { callee := Callee.value (Operand.func 46), args := #[Operand.tmp 48, Operand.tmp 51], argTypes := #[9, 3] }, 3, _, _, none⟩) rfl (fun K hK => ?su15) AllReadyH.nil
          go_simp
          refine (HA3.out _).mono ?_
          rintro e w1 ⟨rfl, hw⟩
          subst hw
          refine hK.out _ _ ?ku15 (fun hHeld => ?_)
          case ku15 => exact trivial
          clear hS
          have hS := hHeld
          clear hHeld
          clear hK K
          try simp only [Act.put, List.setIfInBounds_toArray, List.set_cons_zero, List.set_cons_succ]
          refine wpAnyH_ready (rs := [15]) (by kernel_rfl) (by simp) ?ru16
          refine AllReadyH.cons (o := ⟨some 53, Op.call { callee := Callee.value (Operand.func 45), args := #[Operand.tmp 43, Operand.tmp 44, Operand.tmp 47, Operand.tmp 52], argTypes := #[3, 3, 3, 3] }, 3, _, _, none⟩) rfl (fun K hK => ?su16) AllReadyH.nil
          go_simp
          refine (HPR.out _).mono ?_
          rintro e w1 ⟨rfl, hw⟩
          subst hw
          refine hK.out _ _ ?ku16 (fun hHeld => ?_)
          case ku16 => exact trivial
          clear hS
          have hS := hHeld
          clear hHeld
          clear hK K
          try simp only [Act.put, List.setIfInBounds_toArray, List.set_cons_zero, List.set_cons_succ]
          refine wpAnyH_take (i := 16) (oi := ⟨some 54, Op.binOp BinOp.add 3 (Operand.tmp 42) (Operand.tmp 53) 3, 3, _, _, none⟩) (v := ?vu17) rfl (by kernel_rfl) (by kernel_rfl) (by kernel_rfl) (fun _ _ _ h => h) (Or.inl ⟨by rfl, ?yu17⟩) hS ?ru17
          case yu17 => (intro w hSw; (try dsimp only at hSw); go_simp; try with_reducible rfl)
          try simp only [Act.put, List.setIfInBounds_toArray, List.set_cons_zero, List.set_cons_succ]
          refine wpAnyH_take (i := 17) (oi := ⟨some 55, Op.convert 3 5 (Operand.tmp 54), 5, _, _, none⟩) (v := ?vu18) rfl (by kernel_rfl) (by kernel_rfl) (by kernel_rfl) (fun _ _ _ h => h) (Or.inl ⟨by rfl, ?yu18⟩) hS ?ru18
          case yu18 => (intro w hSw; (try dsimp only at hSw); go_simp; try with_reducible rfl)
          try simp only [Act.put, List.setIfInBounds_toArray, List.set_cons_zero, List.set_cons_succ]
          refine wpAnyH_ready (rs := [18]) (by kernel_rfl) (by simp) ?ru19
          refine AllReadyH.cons (o := ⟨some 56, Op.buildSlice 54 1 #[(0, Operand.tmp 55)], 54, _, _, none⟩) rfl (fun K hK => ?su19) AllReadyH.nil
          go_simp
          have HRb := Lib.hid (World.ownsRow.alloc HRD.out (.cells #[.int .u8 (fb.toNat : Int)] 5))
          have HBb := Lib.hid (HBD.out.alloc HSD.out (.cells #[.int .u8 (fb.toNat : Int)] 5))
          have HKb := Lib.hid (Blk.new wd 5 #[.int .u8 (fb.toNat : Int)])
          have HSb : Hid (B ≤ (wd.alloc (.cells #[.int .u8 (fb.toNat : Int)] 5)).heap.size) := Nat.le_trans HSD.out ((Below.refl _ _).alloc (Nat.le_refl _) _).size
          refine hK.out _ _ ?ku19 (fun hHeld => ?_)
          case ku19 => exact trivial
          clear hS
          have hS := hHeld
          clear hHeld
          clear hK K
          try simp only [Act.put, List.setIfInBounds_toArray, List.set_cons_zero, List.set_cons_succ]
          generalize wd.alloc (.cells #[.int .u8 (fb.toNat : Int)] 5) = wb at *
          generalize wd.heap.size = KB at *
          refine wpAnyH_ready (rs := [19]) (by kernel_rfl) (by simp) ?ru20
          refine AllReadyH.cons (o := ⟨some 57, Op.call { callee := Callee.builtin Builtin.append, args := #[Operand.tmp 38, Operand.tmp 56], argTypes := #[54, 54] }, 54, _, _, none⟩) rfl (fun K hK => ?su20) AllReadyH.nil
          refine step_appP el_b8 rfl (s := .tmp 38) (x := .tmp 56) rfl (by simp [Act.eval]) HRb.out (m := 0) (by simp [Act.eval]) HKb.out rfl (by intro z hz; simp at hz; subst hz; rfl) (by omega) (by unfold maxLen; omega) HSb.out ?_
          intro r2 cap2 w5 ho5 hg5
          have HR5 : Hid (BRow w5 B 5 (.slice (some ⟨r2, 0, none⟩) (i + 1) cap2) (L ++ [fb])) := brow_more ho5 [fb] (by simp [bcells]) (by rw [HLL.out]; rfl)
          have HB5 : Hid (Below B w w5) := HBb.out.grown hg5 HSb.out (fun k hk => (World.ownsRow.lt HRb.out k hk).1)
          clear ho5 hg5
          refine hK.out _ _ ?ku20 (fun hHeld => ?_)
          case ku20 => exact trivial
          clear hS
          have hS := hHeld
          clear hHeld
          clear hK K
          try simp only [Act.put, List.setIfInBounds_toArray, List.set_cons_zero, List.set_cons_succ]
          refine wpAnyH_take (i := 20) (oi := ⟨some 11, Op.assign (Operand.tmp 57), 54, _, _, none⟩) (v := ?vu21) rfl (by kernel_rfl) (by kernel_rfl) (by kernel_rfl) (fun _ _ _ h => h) (Or.inl ⟨by rfl, ?yu21⟩) hS ?ru21
          case yu21 => (intro w hSw; (try dsimp only at hSw); go_simp; try with_reducible rfl)
          try simp only [Act.put, List.setIfInBounds_toArray, List.set_cons_zero, List.set_cons_succ]
          refine wpAnyH_done (by kernel_rfl) ?_ _
          go_wp2_with fail
          go_roundw
          case rel => exact ⟨i + 1, some ⟨r2, 0, none⟩, cap2, rfl, by go_num, by omega, by rw [HNX.out]; exact HR5.out, HB5.out⟩
          case measure => simp [intOf]; omega
        · have dib : decide ((bn : Int) ≤ (i : Int)) = true := by simp; omega
          obtain ⟨j, hj⟩ : ∃ j, i = j + bn := ⟨i - bn, by omega⟩
          obtain ⟨g, hxg, hic, hcell⟩ := HCE.out j (by omega)
          subst hxg
          have hji : (i : Int) - (bn : Int) = (j : Int) := by omega
          have hav := HAV.out j (by omega) hj
          obtain ⟨ub, hub⟩ : ∃ b, UN[j]'(by omega) = b := ⟨_, rfl⟩
          rw [hub] at hcell hav
          rw [hav] at hcell
          have hwv : wrap64 (av : Int) = (av : Int) := by unfold wrap64; have := ub.toNat_lt; omega
          have hjl : j < i := by omega
          have hbi : bn ≤ i := by omega
          clear HCE HAV HAZ hub hav hj hib
          go_upto_region 11 with fail
          rw [hwv]
          clear dib hbi hcell hji hjl hwv hic
          refine wp_region_held_drew (S := fun _ => True) (by kernel_rfl) trivial (fun hHeld => ?_)
          clear hHeld
          generalize wr.drew = wd at *
          refine wpAnyH_weaken (S2 := fun _ => True) (fun _ _ => trivial) ?_
          have hS := trivial
          refine wpAnyH_take (i := 0) (oi := ⟨some 38, Op.move (Operand.tmp 11), 54, _, _, none⟩) (v := ?vv1) rfl (by kernel_rfl) (by kernel_rfl) (by kernel_rfl) (fun _ _ _ h => h) (Or.inl ⟨by rfl, ?yv1⟩) hS ?rv1
          case yv1 => (intro w hSw; (try dsimp only at hSw); go_simp; try with_reducible rfl)
          try simp only [Act.put, List.setIfInBounds_toArray, List.set_cons_zero, List.set_cons_succ]
          refine wpAnyH_take (i := 1) (oi := ⟨some 39, Op.move (Operand.tmp 2), 9, _, _, none⟩) (v := ?vv2) rfl (by kernel_rfl) (by kernel_rfl) (by kernel_rfl) (fun _ _ _ h => h) (Or.inl ⟨by rfl, ?yv2⟩) hS ?rv2
          case yv2 => (intro w hSw; (try dsimp only at hSw); go_simp; try with_reducible rfl)
          try simp only [Act.put, List.setIfInBounds_toArray, List.set_cons_zero, List.set_cons_succ]
          refine wpAnyH_take (i := 2) (oi := ⟨some 40, Op.move (Operand.tmp 12), 3, _, _, none⟩) (v := ?vv3) rfl (by kernel_rfl) (by kernel_rfl) (by kernel_rfl) (fun _ _ _ h => h) (Or.inl ⟨by rfl, ?yv3⟩) hS ?rv3
          case yv3 => (intro w hSw; (try dsimp only at hSw); go_simp; try with_reducible rfl)
          try simp only [Act.put, List.setIfInBounds_toArray, List.set_cons_zero, List.set_cons_succ]
          refine wpAnyH_take (i := 3) (oi := ⟨some 41, Op.index 9 (Operand.tmp 39) (Operand.tmp 40), 5, _, _, none⟩) (v := ?vv4) rfl (by kernel_rfl) (by kernel_rfl) (by kernel_rfl) (fun _ _ _ h => h) (Or.inl ⟨by rfl, ?yv4⟩) hS ?rv4
          case yv4 => (intro w hSw; (try dsimp only at hSw); go_simp; try with_reducible rfl)
          try simp only [Act.put, List.setIfInBounds_toArray, List.set_cons_zero, List.set_cons_succ]
          refine wpAnyH_take (i := 4) (oi := ⟨some 42, Op.convert 5 3 (Operand.tmp 41), 3, _, _, none⟩) (v := ?vv5) rfl (by kernel_rfl) (by kernel_rfl) (by kernel_rfl) (fun _ _ _ h => h) (Or.inl ⟨by rfl, ?yv5⟩) hS ?rv5
          case yv5 => (intro w hSw; (try dsimp only at hSw); go_simp; try with_reducible rfl)
          try simp only [Act.put, List.setIfInBounds_toArray, List.set_cons_zero, List.set_cons_succ]
          refine wpAnyH_take (i := 5) (oi := ⟨some 43, Op.move (Operand.tmp 0), 3, _, _, none⟩) (v := ?vv6) rfl (by kernel_rfl) (by kernel_rfl) (by kernel_rfl) (fun _ _ _ h => h) (Or.inl ⟨by rfl, ?yv6⟩) hS ?rv6
          case yv6 => (intro w hSw; (try dsimp only at hSw); go_simp; try with_reducible rfl)
          try simp only [Act.put, List.setIfInBounds_toArray, List.set_cons_zero, List.set_cons_succ]
          refine wpAnyH_take (i := 6) (oi := ⟨some 44, Op.move (Operand.tmp 13), 3, _, _, none⟩) (v := ?vv7) rfl (by kernel_rfl) (by kernel_rfl) (by kernel_rfl) (fun _ _ _ h => h) (Or.inl ⟨by rfl, ?yv7⟩) hS ?rv7
          case yv7 => (intro w hSw; (try dsimp only at hSw); go_simp; try with_reducible rfl)
          try simp only [Act.put, List.setIfInBounds_toArray, List.set_cons_zero, List.set_cons_succ]
          refine wpAnyH_take (i := 7) (oi := ⟨some 45, Op.move (Operand.tmp 3), 9, _, _, none⟩) (v := ?vv8) rfl (by kernel_rfl) (by kernel_rfl) (by kernel_rfl) (fun _ _ _ h => h) (Or.inl ⟨by rfl, ?yv8⟩) hS ?rv8
          case yv8 => (intro w hSw; (try dsimp only at hSw); go_simp; try with_reducible rfl)
          try simp only [Act.put, List.setIfInBounds_toArray, List.set_cons_zero, List.set_cons_succ]
          refine wpAnyH_take (i := 8) (oi := ⟨some 46, Op.move (Operand.tmp 12), 3, _, _, none⟩) (v := ?vv9) rfl (by kernel_rfl) (by kernel_rfl) (by kernel_rfl) (fun _ _ _ h => h) (Or.inl ⟨by rfl, ?yv9⟩) hS ?rv9
          case yv9 => (intro w hSw; (try dsimp only at hSw); go_simp; try with_reducible rfl)
          try simp only [Act.put, List.setIfInBounds_toArray, List.set_cons_zero, List.set_cons_succ]
          refine wpAnyH_take (i := 10) (oi := ⟨some 48, Op.move (Operand.tmp 3), 9, _, _, none⟩) (v := ?vv10) rfl (by kernel_rfl) (by kernel_rfl) (by kernel_rfl) (fun _ _ _ h => h) (Or.inl ⟨by rfl, ?yv10⟩) hS ?rv10
          case yv10 => (intro w hSw; (try dsimp only at hSw); go_simp; try with_reducible rfl)
          try simp only [Act.put, List.setIfInBounds_toArray, List.set_cons_zero, List.set_cons_succ]
          refine wpAnyH_take (i := 11) (oi := ⟨some 49, Op.move (Operand.tmp 12), 3, _, _, none⟩) (v := ?vv11) rfl (by kernel_rfl) (by kernel_rfl) (by kernel_rfl) (fun _ _ _ h => h) (Or.inl ⟨by rfl, ?yv11⟩) hS ?rv11
          case yv11 => (intro w hSw; (try dsimp only at hSw); go_simp; try with_reducible rfl)
          try simp only [Act.put, List.setIfInBounds_toArray, List.set_cons_zero, List.set_cons_succ]
          refine wpAnyH_take (i := 12) (oi := ⟨some 50, Op.move (Operand.tmp 1), 3, _, _, none⟩) (v := ?vv12) rfl (by kernel_rfl) (by kernel_rfl) (by kernel_rfl) (fun _ _ _ h => h) (Or.inl ⟨by rfl, ?yv12⟩) hS ?rv12
          case yv12 => (intro w hSw; (try dsimp only at hSw); go_simp; try with_reducible rfl)
          try simp only [Act.put, List.setIfInBounds_toArray, List.set_cons_zero, List.set_cons_succ]
          refine wpAnyH_take (i := 13) (oi := ⟨some 51, Op.binOp BinOp.sub 3 (Operand.tmp 49) (Operand.tmp 50) 3, 3, _, _, none⟩) (v := ?vv13) rfl (by kernel_rfl) (by kernel_rfl) (by kernel_rfl) (fun _ _ _ h => h) (Or.inl ⟨by rfl, ?yv13⟩) hS ?rv13
          case yv13 => (intro w hSw; (try dsimp only at hSw); go_simp; try with_reducible rfl)
          try simp only [Act.put, List.setIfInBounds_toArray, List.set_cons_zero, List.set_cons_succ]
          refine wpAnyH_ready (rs := [9]) (by kernel_rfl) (by simp) ?rv14
          refine AllReadyH.cons (o := ⟨some 47, Op.call { callee := Callee.value (Operand.func 46), args := #[Operand.tmp 45, Operand.tmp 46], argTypes := #[9, 3] }, 3, _, _, none⟩) rfl (fun K hK => ?sv14) AllReadyH.nil
          go_simp
          refine (HA2.out _).mono ?_
          rintro e w1 ⟨rfl, hw⟩
          subst hw
          refine hK.out _ _ ?kv14 (fun hHeld => ?_)
          case kv14 => exact trivial
          clear hS
          have hS := hHeld
          clear hHeld
          clear hK K
          try simp only [Act.put, List.setIfInBounds_toArray, List.set_cons_zero, List.set_cons_succ]
          refine wpAnyH_ready (rs := [14]) (by kernel_rfl) (by simp) ?rv15
          refine AllReadyH.cons (o := ⟨some 52, Op.call { callee := Callee.value (Operand.func 46), args := #[Operand.tmp 48, Operand.tmp 51], argTypes := #[9, 3] }, 3, _, _, none⟩) rfl (fun K hK => ?sv15) AllReadyH.nil
          go_simp
          refine (HA3.out _).mono ?_
          rintro e w1 ⟨rfl, hw⟩
          subst hw
          refine hK.out _ _ ?kv15 (fun hHeld => ?_)
          case kv15 => exact trivial
          clear hS
          have hS := hHeld
          clear hHeld
          clear hK K
          try simp only [Act.put, List.setIfInBounds_toArray, List.set_cons_zero, List.set_cons_succ]
          refine wpAnyH_ready (rs := [15]) (by kernel_rfl) (by simp) ?rv16
          refine AllReadyH.cons (o := ⟨some 53, Op.call { callee := Callee.value (Operand.func 45), args := #[Operand.tmp 43, Operand.tmp 44, Operand.tmp 47, Operand.tmp 52], argTypes := #[3, 3, 3, 3] }, 3, _, _, none⟩) rfl (fun K hK => ?sv16) AllReadyH.nil
          go_simp
          refine (HPR.out _).mono ?_
          rintro e w1 ⟨rfl, hw⟩
          subst hw
          refine hK.out _ _ ?kv16 (fun hHeld => ?_)
          case kv16 => exact trivial
          clear hS
          have hS := hHeld
          clear hHeld
          clear hK K
          try simp only [Act.put, List.setIfInBounds_toArray, List.set_cons_zero, List.set_cons_succ]
          refine wpAnyH_take (i := 16) (oi := ⟨some 54, Op.binOp BinOp.add 3 (Operand.tmp 42) (Operand.tmp 53) 3, 3, _, _, none⟩) (v := ?vv17) rfl (by kernel_rfl) (by kernel_rfl) (by kernel_rfl) (fun _ _ _ h => h) (Or.inl ⟨by rfl, ?yv17⟩) hS ?rv17
          case yv17 => (intro w hSw; (try dsimp only at hSw); go_simp; try with_reducible rfl)
          try simp only [Act.put, List.setIfInBounds_toArray, List.set_cons_zero, List.set_cons_succ]
          refine wpAnyH_take (i := 17) (oi := ⟨some 55, Op.convert 3 5 (Operand.tmp 54), 5, _, _, none⟩) (v := ?vv18) rfl (by kernel_rfl) (by kernel_rfl) (by kernel_rfl) (fun _ _ _ h => h) (Or.inl ⟨by rfl, ?yv18⟩) hS ?rv18
          case yv18 => (intro w hSw; (try dsimp only at hSw); go_simp; try with_reducible rfl)
          try simp only [Act.put, List.setIfInBounds_toArray, List.set_cons_zero, List.set_cons_succ]
          refine wpAnyH_ready (rs := [18]) (by kernel_rfl) (by simp) ?rv19
          refine AllReadyH.cons (o := ⟨some 56, Op.buildSlice 54 1 #[(0, Operand.tmp 55)], 54, _, _, none⟩) rfl (fun K hK => ?sv19) AllReadyH.nil
          go_simp
          have HRb := Lib.hid (World.ownsRow.alloc HRD.out (.cells #[.int .u8 (fb.toNat : Int)] 5))
          have HBb := Lib.hid (HBD.out.alloc HSD.out (.cells #[.int .u8 (fb.toNat : Int)] 5))
          have HKb := Lib.hid (Blk.new wd 5 #[.int .u8 (fb.toNat : Int)])
          have HSb : Hid (B ≤ (wd.alloc (.cells #[.int .u8 (fb.toNat : Int)] 5)).heap.size) := Nat.le_trans HSD.out ((Below.refl _ _).alloc (Nat.le_refl _) _).size
          refine hK.out _ _ ?kv19 (fun hHeld => ?_)
          case kv19 => exact trivial
          clear hS
          have hS := hHeld
          clear hHeld
          clear hK K
          try simp only [Act.put, List.setIfInBounds_toArray, List.set_cons_zero, List.set_cons_succ]
          generalize wd.alloc (.cells #[.int .u8 (fb.toNat : Int)] 5) = wb at *
          generalize wd.heap.size = KB at *
          refine wpAnyH_ready (rs := [19]) (by kernel_rfl) (by simp) ?rv20
          refine AllReadyH.cons (o := ⟨some 57, Op.call { callee := Callee.builtin Builtin.append, args := #[Operand.tmp 38, Operand.tmp 56], argTypes := #[54, 54] }, 54, _, _, none⟩) rfl (fun K hK => ?sv20) AllReadyH.nil
          refine step_appP el_b8 rfl (s := .tmp 38) (x := .tmp 56) rfl (by simp [Act.eval]) HRb.out (m := 0) (by simp [Act.eval]) HKb.out rfl (by intro z hz; simp at hz; subst hz; rfl) (by omega) (by unfold maxLen; omega) HSb.out ?_
          intro r2 cap2 w5 ho5 hg5
          have HR5 : Hid (BRow w5 B 5 (.slice (some ⟨r2, 0, none⟩) (i + 1) cap2) (L ++ [fb])) := brow_more ho5 [fb] (by simp [bcells]) (by rw [HLL.out]; rfl)
          have HB5 : Hid (Below B w w5) := HBb.out.grown hg5 HSb.out (fun k hk => (World.ownsRow.lt HRb.out k hk).1)
          clear ho5 hg5
          refine hK.out _ _ ?kv20 (fun hHeld => ?_)
          case kv20 => exact trivial
          clear hS
          have hS := hHeld
          clear hHeld
          clear hK K
          try simp only [Act.put, List.setIfInBounds_toArray, List.set_cons_zero, List.set_cons_succ]
          refine wpAnyH_take (i := 20) (oi := ⟨some 11, Op.assign (Operand.tmp 57), 54, _, _, none⟩) (v := ?vv21) rfl (by kernel_rfl) (by kernel_rfl) (by kernel_rfl) (fun _ _ _ h => h) (Or.inl ⟨by rfl, ?yv21⟩) hS ?rv21
          case yv21 => (intro w hSw; (try dsimp only at hSw); go_simp; try with_reducible rfl)
          try simp only [Act.put, List.setIfInBounds_toArray, List.set_cons_zero, List.set_cons_succ]
          refine wpAnyH_done (by kernel_rfl) ?_ _
          go_wp2_with fail
          go_roundw
          case rel => exact ⟨i + 1, some ⟨r2, 0, none⟩, cap2, rfl, by go_num, by omega, by rw [HNX.out]; exact HR5.out, HB5.out⟩
          case measure => simp [intOf]; omega
      · have hd : decide ((i : Int) < (line.size : Int)) = false := by simp; omega
        have hil : i = line.size := by omega
        have hcv : ∀ w', wr = w' → (convert 54 9 (.slice x i c)).run Tryz.prog wr = .ok (.string ⟨FR.toArray⟩) wr := by
          intro _ _
          have h2 := run_str_of Tryz.underlying54 Tryz.underlying5 Tryz.underlying9 hro.out
          rw [show unfN kind bn line.data.toList above.data.toList i = FR by rw [hil, ← HLZ.out]; exact HFR.out] at h2
          exact h2
        have hcv := hcv wr rfl
        clear hro hil
        go_wp2_with fail
        go_ret2
        exact ⟨rfl, by rw [← HB.out]; exact hbw.out⟩
  · rw [if_neg h0]
    obtain ⟨z, hz⟩ : ∃ z, fchk kind bpp line.data.toList above.data.toList = z := ⟨_, rfl⟩
    rw [hz] at HCK h0 ⊢
    have hz0 : ((z : Int) != 0) = true := by simp; omega
    clear hz h0
    go_enter Tryz.func21, Tryz.ntmps21
    go_wp2_with fail
    refine (HCK.out _).mono ?_
    rintro e w1 ⟨rfl, rfl⟩
    go_wp2_with fail
    go_ret2
    exact ⟨rfl, Below.refl _ _⟩
end Go.Proofs.YthbejefodelpkaaGreat
