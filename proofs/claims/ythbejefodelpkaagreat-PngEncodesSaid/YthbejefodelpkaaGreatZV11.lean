/-
  Walk, in the reference of png: Encode.
-/
import Derived.Test.YthbejefodelpkaaGreatZV10
import Derived.Test.YthbejefodelpkaaGreatZV7
import Derived.Test.YthbejefodelpkaaGreatZV2
import Derived.Test.YthbejefodelpkaaGreatZG11
import Derived.Test.YthbejefodelpkaaGreatZE
namespace Go.Proofs.YthbejefodelpkaaGreat
open Go.RowKit
set_option maxRecDepth 100000

theorem hdr_own (w : World) {A Wn Hn dn : Nat} {s : ByteArray} (hs : s.data.toList = ihdrP Wn Hn dn) (hA : A ≤ w.heap.size) : COwn (w.alloc (.cells #[.string ⟨#[73, 72, 68, 82]⟩, .string s] 53)) A (.slice (some ⟨w.heap.size, 0, none⟩) 1 1) ([([73, 72, 68, 82], ihdrP Wn Hn dn)] ++ ([] : List Mt)) := by
  have HX0 : [Value.string ⟨#[73, 72, 68, 82]⟩, Value.string s] = mcells [([73, 72, 68, 82], ihdrP Wn Hn dn)] := by
    simp only [mcells, mcell, List.flatMap_cons, List.flatMap_nil, List.append_nil]
    rw [← hs]
  have h1 := World.ownsRow_lit (e := 53) (size := 2) (base := A) w #[.string ⟨#[73, 72, 68, 82]⟩, .string s] 1 hA (by unfold maxLen; omega) rfl
  show World.ownsRow _ _ _ _ _ _ _
  rw [List.append_nil, ← HX0]
  exact h1
theorem one_conv (b : Nat) (hb : b < 256) (W : World) (K : Nat) (h : Blk W K 5 #[.int .u8 (b : Int)]) : (convert 54 9 (.slice (some ⟨K, 0, none⟩) 1 1)).run Tryz.prog W = .ok (.string ⟨#[UInt8.ofNat b]⟩) W := by
  refine run_convert_bytes_back W 54 9 5 ⟨K, 0, none⟩ 1 [UInt8.ofNat b] Tryz.underlying54 Tryz.underlying5 Tryz.underlying9 fun j hj => ?_
  rw [Addr.add_lit, Nat.zero_add, h.cell j]
  have hj' : j < 1 := hj
  match j, hj' with
  | 0, _ => exact congrArg some (by rw [← bcell_ofNat b hb]; rfl)
theorem row_next (W d : Nat) (px : List Px) (y x : Nat) (h : y * W + x < px.length) : ((px.drop (y * W)).take (x + 1)).flatMap (pxB d) = ((px.drop (y * W)).take x).flatMap (pxB d) ++ pxB d px[y * W + x] := by
  have hl : x < (px.drop (y * W)).length := by rw [List.length_drop]; omega
  rw [List.take_succ_eq_append_getElem hl, List.flatMap_append, List.getElem_drop]
  simp

set_option maxHeartbeats 16000000 in
theorem vencode_any (W H D : Int) (v vm : Value) (px : List Px) (ms : List Mt) (w : World) (hr : PRow w v px) (hm : MRow w vm ms) (hz : ∀ m ∈ ms, m.1.length ≤ maxLen ∧ m.2.length ≤ maxLen) :
    Calls Tryz.prog 23 #[.agg (imgI W H v), .int .i64 D, vm] w fun e w' => JoOk (gencP W H px D ms) e ∧ Below w.heap.size w w' := by
  have HPR := Lib.hid hr
  have HMR := Lib.hid hm
  have HK0 := Lib.hid (Blk.new w 36 (imgI W H v))
  have HB0 := Lib.hid ((Below.refl w.heap.size w).alloc (Nat.le_refl _) (.cells (imgI W H v) 36))
  have HRC := Lib.hid (fun w1 h => rCheckI_any W H v px w1 h)
  have HMC : Hid (∀ w1, MRow w1 vm ms → Calls Tryz.prog 50 #[vm] w1 fun e w' => e = .returned (.int .i64 (chkP ms)) ∧ Below w1.heap.size w1 w') := fun w1 h => (rcheck_any vm ms w1 h hz).mono fun e w' ⟨h1, n, h2⟩ => ⟨h1, by rw [h2]; exact below_drewH (Below.refl _ _) n⟩
  clear hz
  have HEQ : Hid (gencP W H px D ms = if rchk W H px ≠ 0 then .error (rchk W H px) else if W = 0 then .error 15 else if D ≠ 8 ∧ D ≠ 16 then .error 2 else if chkP ms ≠ 0 then .error (chkP ms)
      else match joinP (pngL W.toNat H.toNat D.toNat px ms) with | .error k => .error k | .ok s => if 1048576 < s.length then .error 3 else .ok s) := rfl
  obtain ⟨xv, cv, rfl, hcv1, hcv2, -⟩ := hr
  obtain ⟨xm, cm, rfl, hcm1, hcm2, -⟩ := hm
  unfold maxLen at hcv2 hcm2
  unfold imgI at HK0 HB0 HRC ⊢
  go_enter Tryz.func23, Tryz.ntmps23
  go_upto_region 1 with fail
  generalize w.alloc (.cells #[.int .i64 W, .int .i64 H, .slice xv px.length cv] 36) = w0 at *
  obtain ⟨A, hA⟩ : ∃ A, A = w.heap.size := ⟨_, rfl⟩
  have HA := Lib.hid hA
  rw [← hA] at HK0 HB0 ⊢
  clear hA
  have k0 := HK0.out.cell 0
  have k1 := HK0.out.cell 1
  have k2 := HK0.out.cell 2
  go_wp2_with fail
  refine (HRC.out _ (HPR.out.below (by rw [← HA.out]; exact HB0.out))).mono ?_
  rintro e w1 ⟨rfl, hb1⟩
  have HK1 := Lib.hid (HK0.out.keep hb1)
  have HB1 : Hid (Below A w w1) := HB0.out.trans (hb1.mono (by have := HK0.out.lt; omega))
  clear hb1 k0 k1 k2 HK0 HB0 HRC
  obtain ⟨rc, hrc⟩ : ∃ n, rchk W H px = n := ⟨_, rfl⟩
  have HRZ := Lib.hid (fun h : rchk W H px = 0 => rchk_zero h)
  rw [hrc] at HEQ HRZ ⊢
  clear hrc
  by_cases h0 : rc = 0
  · subst h0
    obtain ⟨Wn, Hn, rfl, rfl, hW, hH, hpl, hval⟩ := HRZ.out rfl
    have k0 : w1.cell? ⟨A, 0, none⟩ = some (.int .i64 (Wn : Int)) := HK1.out.cell 0
    by_cases hw0 : Wn = 0
    · have dw0 : ((Wn : Int) == 0) = true := by rw [hw0]; rfl
      have HE : Hid (gencP (Wn : Int) (Hn : Int) px D ms = .error 15) := by show _ = _; rw [HEQ.out, if_neg (by simp), if_pos (by omega)]
      clear HEQ hw0 hval hpl
      go_wp2_with fail
      go_ret2
      exact ⟨by rw [HE.out]; rfl, by rw [← HA.out]; exact HB1.out⟩
    have dw0 : ((Wn : Int) == 0) = false := by simp; omega
    by_cases hd : D ≠ 8 ∧ D ≠ 16
    · obtain ⟨hd1, hd2⟩ := hd
      have d8 : (D != 8) = true := by simpa using hd1
      have d16 : (D != 16) = true := by simpa using hd2
      have HE : Hid (gencP (Wn : Int) (Hn : Int) px D ms = .error 2) := by show _ = _; rw [HEQ.out, if_neg (by simp), if_neg (by omega), if_pos ⟨hd1, hd2⟩]
      clear HEQ hw0 hval hpl
      go_wp2_with fail
      go_ret2
      exact ⟨by rw [HE.out]; rfl, by rw [← HA.out]; exact HB1.out⟩
    have hdd : D = 8 ∨ D = 16 := by omega
    obtain ⟨dn, hdn, hdd2⟩ : ∃ d : Nat, D = (d : Int) ∧ (d = 8 ∨ d = 16) := ⟨D.toNat, by omega, by omega⟩
    subst hdn
    have hbb : ((dn : Int) != 8 && (dn : Int) != 16) = false := by rcases hdd2 with rfl | rfl <;> rfl
    have HDD := Lib.hid hdd2
    have HEQ2 : Hid (gencP (Wn : Int) (Hn : Int) px (dn : Int) ms = if chkP ms ≠ 0 then .error (chkP ms)
      else match joinP (pngL Wn Hn dn px ms) with | .error k => .error k | .ok s => if 1048576 < s.length then .error 3 else .ok s) := by
      show _ = _
      rw [HEQ.out, if_neg (by simp), if_neg (by omega), if_neg hd, Int.toNat_natCast, Int.toNat_natCast, Int.toNat_natCast]
    have HPLN := Lib.hid hpl
    have hpl6 : px.length ≤ 65536 := by rw [hpl]; exact Nat.mul_le_mul hW hH
    clear HEQ hd hdd hdd2 hpl hbb
    go_upto_region 6 with fail
    go_cut [1, 38] from 33 to 37 (fun v1 v38 wx => v1 = .int .i64 (dn : Int) ∧ v38 = .bool false ∧ wx = w1)
    case first =>
      rcases HDD.out with h | h
      · have e8 : ((dn : Int) != 8) = false := by rw [h]; rfl
        clear h
        go_wp2_with fail
        go_meet
        case rel => exact ⟨rfl, rfl, rfl⟩
      · have e8 : ((dn : Int) != 8) = true := by rw [h]; rfl
        have e16 : ((dn : Int) != 16) = false := by rw [h]; rfl
        have en : ¬ ((dn : Int) = 8) := by omega
        clear h
        go_wp2_with fail
        go_meet
        case rel => exact ⟨rfl, rfl, rfl⟩
    case rest =>
    obtain ⟨rfl, rfl, rfl⟩ := hcut
    clear k0
    go_wp2_with fail
    refine (HMC.out _ (HMR.out.below (by rw [← HA.out]; exact HB1.out))).mono ?_
    rintro e w2 ⟨rfl, hb2⟩
    have HK2 := Lib.hid (HK1.out.keep hb2)
    have HB2 : Hid (Below A w w2) := HB1.out.trans (hb2.mono (by have := HK1.out.lt; omega))
    have hmk := Lib.hid (fun h : chkP ms = 0 => chk_lens h)
    obtain ⟨mc, hmc⟩ : ∃ n, chkP ms = n := ⟨_, rfl⟩
    rw [hmc] at HEQ2 hmk ⊢
    clear hb2 hmc HK1 HB1 HMC
    by_cases hm0 : mc = 0
    · subst hm0
      have HML := Lib.hid (hmk.out rfl)
      have HEQ3 : Hid (gencP (Wn : Int) (Hn : Int) px (dn : Int) ms = match joinP (pngL Wn Hn dn px ms) with | .error k => .error k | .ok s => if 1048576 < s.length then .error 3 else .ok s) := by
        show _ = _; rw [HEQ2.out, if_neg (by simp)]
      clear HEQ2 hmk
      have HA2 : Hid (A ≤ w2.heap.size) := Nat.le_of_lt HK2.out.lt
      go_upto_region 11 with fail
      go_cut [10] from 44 to 57 (fun v10 wx => ∃ G4 : Nat, v10 = .slice (some ⟨G4, 0, none⟩) 1 1 ∧ Hid (COwn wx A (.slice (some ⟨G4, 0, none⟩) 1 1) ([([73, 72, 68, 82], ihdrP Wn Hn dn)] ++ ([] : List Mt))) ∧ Hid (Below w2.heap.size w2 wx))
      case first =>
        obtain ⟨SW, hSW⟩ : ∃ s : ByteArray, s = ⟨(be4 Wn).toArray⟩ := ⟨_, rfl⟩
        obtain ⟨SH, hSH⟩ : ∃ s : ByteArray, s = ⟨(be4 Hn).toArray⟩ := ⟨_, rfl⟩
        obtain ⟨SD, hSD⟩ : ∃ s : ByteArray, s = ⟨#[UInt8.ofNat dn, 6, 0, 0, 0]⟩ := ⟨_, rfl⟩
        have HC1 := Lib.hid (fun w => vfour_any Wn (by omega) w)
        have HC2 := Lib.hid (fun w => vfour_any Hn (by omega) w)
        rw [← hSW] at HC1
        rw [← hSH] at HC2
        have HSD := Lib.hid hSD
        have HFIN : Hid ((SW ++ SH ++ SD).data.toList = ihdrP Wn Hn dn) := by
          show _ = _
          rw [hSW, hSH, hSD]
          unfold ihdrP
          simp [ByteArray.data_append]
        have hz1 : SW.size = 4 := by rw [hSW]; rfl
        have hz2 : SH.size = 4 := by rw [hSH]; rfl
        have hz3 : SD.size = 5 := by rw [hSD]; rfl
        have hcat : ¬ (9223372036854775807 < SW.size + SH.size) := by omega
        have hcat2 : ¬ (9223372036854775807 < (SW ++ SH).size + SD.size) := by rw [ByteArray.size_append]; omega
        have hd256 : dn < 256 := by rcases HDD.out with h | h <;> omega
        have hdw : IntKind.u8.wrap (dn : Int) = (dn : Int) := by rw [IntKind.wrap_u8]; omega
        have HSY : Hid (∀ W, Below w2.heap.size w2 W → W.cell? ⟨A, 0, none⟩ = some (.int .i64 (Wn : Int)) ∧ W.cell? ⟨A, 1, none⟩ = some (.int .i64 (Hn : Int))) := fun W hb => ⟨(HK2.out.keep hb).cell 0, (HK2.out.keep hb).cell 1⟩
        have HBD0 : Hid (Below w2.heap.size w2 w2.drew) := (Below.refl _ _).drew
        have hS := HSY.out _ HBD0.out
        clear hSW hSH hSD
        refine wp_region_held_drew (S := fun _ => True) (by kernel_rfl) trivial (fun hHeld => ?_)
        clear hHeld
        generalize w2.drew = wd at *
        refine wpAnyH_weaken (S2 := fun W => W.cell? ⟨A, 0, none⟩ = some (.int .i64 (Wn : Int)) ∧ W.cell? ⟨A, 1, none⟩ = some (.int .i64 (Hn : Int))) (fun _ _ => trivial) ?_
        refine wpAnyH_take (i := 0) (oi := ⟨some 44, Op.fieldAddr 36 (Operand.tmp 3) 0, 0, _, _, none⟩) (v := ?ve1) rfl (by kernel_rfl) (by kernel_rfl) (by kernel_rfl) (fun _ _ _ h => h) (Or.inl ⟨by rfl, ?ye1⟩) hS ?re1
        case ye1 => (intro w hSw; (try dsimp only at hSw); go_simp; try with_reducible rfl)
        try simp only [Act.put, List.setIfInBounds_toArray, List.set_cons_zero, List.set_cons_succ]
        refine wpAnyH_take (i := 1) (oi := ⟨some 45, Op.load 3 (Operand.tmp 44), 3, _, _, none⟩) (v := ?ve2) rfl (by kernel_rfl) (by kernel_rfl) (by kernel_rfl) (fun _ _ _ h => h) (Or.inl ⟨by rfl, ?ye2⟩) hS ?re2
        case ye2 => (intro w hSw; (try dsimp only at hSw); go_simp; try with_reducible rfl)
        try simp only [Act.put, List.setIfInBounds_toArray, List.set_cons_zero, List.set_cons_succ]
        refine wpAnyH_take (i := 3) (oi := ⟨some 47, Op.fieldAddr 36 (Operand.tmp 3) 1, 0, _, _, none⟩) (v := ?ve3) rfl (by kernel_rfl) (by kernel_rfl) (by kernel_rfl) (fun _ _ _ h => h) (Or.inl ⟨by rfl, ?ye3⟩) hS ?re3
        case ye3 => (intro w hSw; (try dsimp only at hSw); go_simp; try with_reducible rfl)
        try simp only [Act.put, List.setIfInBounds_toArray, List.set_cons_zero, List.set_cons_succ]
        refine wpAnyH_take (i := 4) (oi := ⟨some 48, Op.load 3 (Operand.tmp 47), 3, _, _, none⟩) (v := ?ve4) rfl (by kernel_rfl) (by kernel_rfl) (by kernel_rfl) (fun _ _ _ h => h) (Or.inl ⟨by rfl, ?ye4⟩) hS ?re4
        case ye4 => (intro w hSw; (try dsimp only at hSw); go_simp; try with_reducible rfl)
        try simp only [Act.put, List.setIfInBounds_toArray, List.set_cons_zero, List.set_cons_succ]
        refine wpAnyH_take (i := 7) (oi := ⟨some 51, Op.move (Operand.tmp 1), 3, _, _, none⟩) (v := ?ve5) rfl (by kernel_rfl) (by kernel_rfl) (by kernel_rfl) (fun _ _ _ h => h) (Or.inl ⟨by rfl, ?ye5⟩) hS ?re5
        case ye5 => (intro w hSw; (try dsimp only at hSw); go_simp; try with_reducible rfl)
        try simp only [Act.put, List.setIfInBounds_toArray, List.set_cons_zero, List.set_cons_succ]
        refine wpAnyH_take (i := 8) (oi := ⟨some 52, Op.convert 3 5 (Operand.tmp 51), 5, _, _, none⟩) (v := ?ve6) rfl (by kernel_rfl) (by kernel_rfl) (by kernel_rfl) (fun _ _ _ h => h) (Or.inl ⟨by rfl, ?ye6⟩) hS ?re6
        case ye6 => (intro w hSw; (try dsimp only at hSw); go_simp; try with_reducible rfl)
        try simp only [Act.put, List.setIfInBounds_toArray, List.set_cons_zero, List.set_cons_succ]
        refine wpAnyH_ready (rs := [2, 9]) (by kernel_rfl) (by simp) ?re7
        refine AllReadyH.cons (o := ⟨some 46, Op.call { callee := Callee.value (Operand.func 37), args := #[Operand.tmp 45], argTypes := #[3] }, 9, _, _, none⟩) rfl (fun K hK => ?sae7) (AllReadyH.cons (o := ⟨some 53, Op.buildSlice 54 5 #[(0, Operand.tmp 52), (1, Operand.const (Value.int IntKind.u8 6)), (2, Operand.const (Value.int IntKind.u8 0)), (3, Operand.const (Value.int IntKind.u8 0)), (4, Operand.const (Value.int IntKind.u8 0))], 54, _, _, none⟩) rfl (fun K hK => ?sbe7) AllReadyH.nil)
        case sae7 =>
          go_simp
          refine (HC1.out _).mono ?_
          rintro e w3 ⟨rfl, hb⟩
          have HBw3 : Hid (Below w2.heap.size w2 w3) := Below.trans HBD0.out (hb.mono HBD0.out.size)
          clear hb
          refine hK.out _ _ ?ke7 (fun hHeld => ?_)
          case ke7 => exact HSY.out _ HBw3.out
          clear hS
          have hS := hHeld
          clear hHeld
          clear hK K
          try simp only [Act.put, List.setIfInBounds_toArray, List.set_cons_zero, List.set_cons_succ]
          refine wpAnyH_ready (rs := [5, 9]) (by kernel_rfl) (by simp) ?re8
          refine AllReadyH.cons (o := ⟨some 49, Op.call { callee := Callee.value (Operand.func 37), args := #[Operand.tmp 48], argTypes := #[3] }, 9, _, _, none⟩) rfl (fun K hK => ?sae8) (AllReadyH.cons (o := ⟨some 53, Op.buildSlice 54 5 #[(0, Operand.tmp 52), (1, Operand.const (Value.int IntKind.u8 6)), (2, Operand.const (Value.int IntKind.u8 0)), (3, Operand.const (Value.int IntKind.u8 0)), (4, Operand.const (Value.int IntKind.u8 0))], 54, _, _, none⟩) rfl (fun K hK => ?sbe8) AllReadyH.nil)
          case sae8 =>
            go_simp
            refine (HC2.out _).mono ?_
            rintro e w4 ⟨rfl, hb⟩
            have HBw4 : Hid (Below w2.heap.size w2 w4) := Below.trans HBw3.out (hb.mono HBw3.out.size)
            clear hb
            refine hK.out _ _ ?ke8 (fun hHeld => ?_)
            case ke8 => exact HSY.out _ HBw4.out
            clear hS
            have hS := hHeld
            clear hHeld
            clear hK K
            try simp only [Act.put, List.setIfInBounds_toArray, List.set_cons_zero, List.set_cons_succ]
            refine wpAnyH_take (i := 6) (oi := ⟨some 50, Op.binOp BinOp.add 9 (Operand.tmp 46) (Operand.tmp 49) 9, 9, _, _, none⟩) (v := ?ve9) rfl (by kernel_rfl) (by kernel_rfl) (by kernel_rfl) (fun _ _ _ h => h) (Or.inl ⟨by rfl, ?ye9⟩) hS ?re9
            case ye9 => (intro w hSw; (try dsimp only at hSw); go_simp; try with_reducible rfl)
            try simp only [Act.put, List.setIfInBounds_toArray, List.set_cons_zero, List.set_cons_succ]
            refine wpAnyH_ready (rs := [9]) (by kernel_rfl) (by simp) ?re10
            refine AllReadyH.cons (o := ⟨some 53, Op.buildSlice 54 5 #[(0, Operand.tmp 52), (1, Operand.const (Value.int IntKind.u8 6)), (2, Operand.const (Value.int IntKind.u8 0)), (3, Operand.const (Value.int IntKind.u8 0)), (4, Operand.const (Value.int IntKind.u8 0))], 54, _, _, none⟩) rfl (fun K hK => ?se10) AllReadyH.nil
            go_simp
            have HBwb : Hid (Below w2.heap.size w2 (w4.alloc (.cells #[.int .u8 (dn : Int), .int .u8 6, .int .u8 0, .int .u8 0, .int .u8 0] 5))) := HBw4.out.alloc HBw4.out.size _
            refine hK.out _ _ ?ke10 (fun hHeld => ?_)
            case ke10 => exact HSY.out _ HBwb.out
            clear hS
            have hS := hHeld
            clear hHeld
            clear hK K
            try simp only [Act.put, List.setIfInBounds_toArray, List.set_cons_zero, List.set_cons_succ]
            have HKB := Lib.hid (Blk.new w4 5 #[.int .u8 (dn : Int), .int .u8 6, .int .u8 0, .int .u8 0, .int .u8 0])
            generalize w4.alloc (.cells #[.int .u8 (dn : Int), .int .u8 6, .int .u8 0, .int .u8 0, .int .u8 0] 5) = wb at *
            generalize w4.heap.size = KB at *
            have HCV : Hid (∀ X, Below wb.heap.size wb X → (convert 54 9 (.slice (some ⟨KB, 0, none⟩) 5 5)).run Tryz.prog X = .ok (.string SD) X) := fun X hb => by rw [HSD.out]; exact five_cells dn hd256 X KB (HKB.out.keep hb)
            have HCwb : Hid (Below wb.heap.size wb wb) := Below.refl _ _
            refine wpAnyH_weaken (S2 := fun W => (W.cell? ⟨A, 0, none⟩ = some (.int .i64 (Wn : Int)) ∧ W.cell? ⟨A, 1, none⟩ = some (.int .i64 (Hn : Int))) ∧ (convert 54 9 (.slice (some ⟨KB, 0, none⟩) 5 5)).run Tryz.prog W = .ok (.string SD) W) (fun _ h => h.1) ?_
            have hS := And.intro hS (HCV.out wb (Below.refl _ _))
            refine wpAnyH_take (i := 10) (oi := ⟨some 54, Op.convert 54 9 (Operand.tmp 53), 9, _, _, none⟩) (v := ?ve11) rfl (by kernel_rfl) (by kernel_rfl) (by kernel_rfl) (fun _ _ _ h => h) (Or.inl ⟨by rfl, ?ye11⟩) hS ?re11
            case ye11 => (intro w hSw; (try dsimp only at hSw); go_simp; try with_reducible rfl)
            try simp only [Act.put, List.setIfInBounds_toArray, List.set_cons_zero, List.set_cons_succ]
            refine wpAnyH_take (i := 11) (oi := ⟨some 55, Op.binOp BinOp.add 9 (Operand.tmp 50) (Operand.tmp 54) 9, 9, _, _, none⟩) (v := ?ve12) rfl (by kernel_rfl) (by kernel_rfl) (by kernel_rfl) (fun _ _ _ h => h) (Or.inl ⟨by rfl, ?ye12⟩) hS ?re12
            case ye12 => (intro w hSw; (try dsimp only at hSw); go_simp; try with_reducible rfl)
            try simp only [Act.put, List.setIfInBounds_toArray, List.set_cons_zero, List.set_cons_succ]
            refine wpAnyH_take (i := 12) (oi := ⟨some 56, Op.build 53 #[(0, Operand.const (Value.string ⟨#[73, 72, 68, 82]⟩)), (1, Operand.tmp 55)], 53, _, _, none⟩) (v := ?ve13) rfl (by kernel_rfl) (by kernel_rfl) (by kernel_rfl) (fun _ _ _ h => h) (Or.inl ⟨by rfl, ?ye13⟩) hS ?re13
            case ye13 => (intro w hSw; (try dsimp only at hSw); go_simp; try with_reducible rfl)
            try simp only [Act.put, List.setIfInBounds_toArray, List.set_cons_zero, List.set_cons_succ]
            refine wpAnyH_ready (rs := [13]) (by kernel_rfl) (by simp) ?re14
            refine AllReadyH.cons (o := ⟨some 57, Op.buildSlice 22 1 #[(0, Operand.tmp 56)], 22, _, _, none⟩) rfl (fun K hK => ?se14) AllReadyH.nil
            go_simp
            have HO3 : Hid (COwn (wb.alloc (.cells #[.string ⟨#[73, 72, 68, 82]⟩, .string (SW ++ SH ++ SD)] 53)) A (.slice (some ⟨wb.heap.size, 0, none⟩) 1 1) ([([73, 72, 68, 82], ihdrP Wn Hn dn)] ++ ([] : List Mt))) := hdr_own wb HFIN.out (Nat.le_trans HA2.out HBwb.out.size)
            have HBc := Lib.hid (HBwb.out.alloc HBwb.out.size (.cells #[.string ⟨#[73, 72, 68, 82]⟩, .string (SW ++ SH ++ SD)] 53))
            have HCc := Lib.hid (HCwb.out.alloc HCwb.out.size (.cells #[.string ⟨#[73, 72, 68, 82]⟩, .string (SW ++ SH ++ SD)] 53))
            refine hK.out _ _ ?ke14 (fun hHeld => ?_)
            case ke14 => exact ⟨HSY.out _ HBc.out, HCV.out _ HCc.out⟩
            clear hS
            have hS := hHeld
            clear hHeld
            clear hK K
            try simp only [Act.put, List.setIfInBounds_toArray, List.set_cons_zero, List.set_cons_succ]
            refine wpAnyH_take (i := 14) (oi := ⟨some 10, Op.assign (Operand.tmp 57), 22, _, _, none⟩) (v := ?ve15) rfl (by kernel_rfl) (by kernel_rfl) (by kernel_rfl) (fun _ _ _ h => h) (Or.inl ⟨by rfl, ?ye15⟩) hS ?re15
            case ye15 => (intro w hSw; (try dsimp only at hSw); go_simp; try with_reducible rfl)
            try simp only [Act.put, List.setIfInBounds_toArray, List.set_cons_zero, List.set_cons_succ]
            refine wpAnyH_done (by kernel_rfl) ?_ _
            go_wp2_with fail
            go_meet
            case rel => exact ⟨_, rfl, HO3.out, HBc.out⟩
          case sbe8 =>
            go_simp
            have HBwb : Hid (Below w2.heap.size w2 (w3.alloc (.cells #[.int .u8 (dn : Int), .int .u8 6, .int .u8 0, .int .u8 0, .int .u8 0] 5))) := HBw3.out.alloc HBw3.out.size _
            refine hK.out _ _ ?ke8 (fun hHeld => ?_)
            case ke8 => exact HSY.out _ HBwb.out
            clear hS
            have hS := hHeld
            clear hHeld
            clear hK K
            try simp only [Act.put, List.setIfInBounds_toArray, List.set_cons_zero, List.set_cons_succ]
            have HKB := Lib.hid (Blk.new w3 5 #[.int .u8 (dn : Int), .int .u8 6, .int .u8 0, .int .u8 0, .int .u8 0])
            generalize w3.alloc (.cells #[.int .u8 (dn : Int), .int .u8 6, .int .u8 0, .int .u8 0, .int .u8 0] 5) = wb at *
            generalize w3.heap.size = KB at *
            have HCV : Hid (∀ X, Below wb.heap.size wb X → (convert 54 9 (.slice (some ⟨KB, 0, none⟩) 5 5)).run Tryz.prog X = .ok (.string SD) X) := fun X hb => by rw [HSD.out]; exact five_cells dn hd256 X KB (HKB.out.keep hb)
            have HCwb : Hid (Below wb.heap.size wb wb) := Below.refl _ _
            refine wpAnyH_weaken (S2 := fun W => (W.cell? ⟨A, 0, none⟩ = some (.int .i64 (Wn : Int)) ∧ W.cell? ⟨A, 1, none⟩ = some (.int .i64 (Hn : Int))) ∧ (convert 54 9 (.slice (some ⟨KB, 0, none⟩) 5 5)).run Tryz.prog W = .ok (.string SD) W) (fun _ h => h.1) ?_
            have hS := And.intro hS (HCV.out wb (Below.refl _ _))
            refine wpAnyH_take (i := 10) (oi := ⟨some 54, Op.convert 54 9 (Operand.tmp 53), 9, _, _, none⟩) (v := ?ve16) rfl (by kernel_rfl) (by kernel_rfl) (by kernel_rfl) (fun _ _ _ h => h) (Or.inl ⟨by rfl, ?ye16⟩) hS ?re16
            case ye16 => (intro w hSw; (try dsimp only at hSw); go_simp; try with_reducible rfl)
            try simp only [Act.put, List.setIfInBounds_toArray, List.set_cons_zero, List.set_cons_succ]
            refine wpAnyH_ready (rs := [5]) (by kernel_rfl) (by simp) ?re17
            refine AllReadyH.cons (o := ⟨some 49, Op.call { callee := Callee.value (Operand.func 37), args := #[Operand.tmp 48], argTypes := #[3] }, 9, _, _, none⟩) rfl (fun K hK => ?se17) AllReadyH.nil
            go_simp
            refine (HC2.out _).mono ?_
            rintro e w4 ⟨rfl, hb⟩
            have HBw4 : Hid (Below w2.heap.size w2 w4) := Below.trans HBwb.out (hb.mono HBwb.out.size)
            have HCw4 : Hid (Below wb.heap.size wb w4) := hb
            clear hb
            refine hK.out _ _ ?ke17 (fun hHeld => ?_)
            case ke17 => exact ⟨HSY.out _ HBw4.out, HCV.out _ HCw4.out⟩
            clear hS
            have hS := hHeld
            clear hHeld
            clear hK K
            try simp only [Act.put, List.setIfInBounds_toArray, List.set_cons_zero, List.set_cons_succ]
            refine wpAnyH_take (i := 6) (oi := ⟨some 50, Op.binOp BinOp.add 9 (Operand.tmp 46) (Operand.tmp 49) 9, 9, _, _, none⟩) (v := ?ve18) rfl (by kernel_rfl) (by kernel_rfl) (by kernel_rfl) (fun _ _ _ h => h) (Or.inl ⟨by rfl, ?ye18⟩) hS ?re18
            case ye18 => (intro w hSw; (try dsimp only at hSw); go_simp; try with_reducible rfl)
            try simp only [Act.put, List.setIfInBounds_toArray, List.set_cons_zero, List.set_cons_succ]
            refine wpAnyH_take (i := 11) (oi := ⟨some 55, Op.binOp BinOp.add 9 (Operand.tmp 50) (Operand.tmp 54) 9, 9, _, _, none⟩) (v := ?ve19) rfl (by kernel_rfl) (by kernel_rfl) (by kernel_rfl) (fun _ _ _ h => h) (Or.inl ⟨by rfl, ?ye19⟩) hS ?re19
            case ye19 => (intro w hSw; (try dsimp only at hSw); go_simp; try with_reducible rfl)
            try simp only [Act.put, List.setIfInBounds_toArray, List.set_cons_zero, List.set_cons_succ]
            refine wpAnyH_take (i := 12) (oi := ⟨some 56, Op.build 53 #[(0, Operand.const (Value.string ⟨#[73, 72, 68, 82]⟩)), (1, Operand.tmp 55)], 53, _, _, none⟩) (v := ?ve20) rfl (by kernel_rfl) (by kernel_rfl) (by kernel_rfl) (fun _ _ _ h => h) (Or.inl ⟨by rfl, ?ye20⟩) hS ?re20
            case ye20 => (intro w hSw; (try dsimp only at hSw); go_simp; try with_reducible rfl)
            try simp only [Act.put, List.setIfInBounds_toArray, List.set_cons_zero, List.set_cons_succ]
            refine wpAnyH_ready (rs := [13]) (by kernel_rfl) (by simp) ?re21
            refine AllReadyH.cons (o := ⟨some 57, Op.buildSlice 22 1 #[(0, Operand.tmp 56)], 22, _, _, none⟩) rfl (fun K hK => ?se21) AllReadyH.nil
            go_simp
            have HO3 : Hid (COwn (w4.alloc (.cells #[.string ⟨#[73, 72, 68, 82]⟩, .string (SW ++ SH ++ SD)] 53)) A (.slice (some ⟨w4.heap.size, 0, none⟩) 1 1) ([([73, 72, 68, 82], ihdrP Wn Hn dn)] ++ ([] : List Mt))) := hdr_own w4 HFIN.out (Nat.le_trans HA2.out HBw4.out.size)
            have HBc := Lib.hid (HBw4.out.alloc HBw4.out.size (.cells #[.string ⟨#[73, 72, 68, 82]⟩, .string (SW ++ SH ++ SD)] 53))
            have HCc := Lib.hid (HCw4.out.alloc HCw4.out.size (.cells #[.string ⟨#[73, 72, 68, 82]⟩, .string (SW ++ SH ++ SD)] 53))
            refine hK.out _ _ ?ke21 (fun hHeld => ?_)
            case ke21 => exact ⟨HSY.out _ HBc.out, HCV.out _ HCc.out⟩
            clear hS
            have hS := hHeld
            clear hHeld
            clear hK K
            try simp only [Act.put, List.setIfInBounds_toArray, List.set_cons_zero, List.set_cons_succ]
            refine wpAnyH_take (i := 14) (oi := ⟨some 10, Op.assign (Operand.tmp 57), 22, _, _, none⟩) (v := ?ve22) rfl (by kernel_rfl) (by kernel_rfl) (by kernel_rfl) (fun _ _ _ h => h) (Or.inl ⟨by rfl, ?ye22⟩) hS ?re22
            case ye22 => (intro w hSw; (try dsimp only at hSw); go_simp; try with_reducible rfl)
            try simp only [Act.put, List.setIfInBounds_toArray, List.set_cons_zero, List.set_cons_succ]
            refine wpAnyH_done (by kernel_rfl) ?_ _
            go_wp2_with fail
            go_meet
            case rel => exact ⟨_, rfl, HO3.out, HBc.out⟩
        case sbe7 =>
          go_simp
          have HBwb : Hid (Below w2.heap.size w2 (wd.alloc (.cells #[.int .u8 (dn : Int), .int .u8 6, .int .u8 0, .int .u8 0, .int .u8 0] 5))) := HBD0.out.alloc HBD0.out.size _
          refine hK.out _ _ ?ke7 (fun hHeld => ?_)
          case ke7 => exact HSY.out _ HBwb.out
          clear hS
          have hS := hHeld
          clear hHeld
          clear hK K
          try simp only [Act.put, List.setIfInBounds_toArray, List.set_cons_zero, List.set_cons_succ]
          have HKB := Lib.hid (Blk.new wd 5 #[.int .u8 (dn : Int), .int .u8 6, .int .u8 0, .int .u8 0, .int .u8 0])
          generalize wd.alloc (.cells #[.int .u8 (dn : Int), .int .u8 6, .int .u8 0, .int .u8 0, .int .u8 0] 5) = wb at *
          generalize wd.heap.size = KB at *
          have HCV : Hid (∀ X, Below wb.heap.size wb X → (convert 54 9 (.slice (some ⟨KB, 0, none⟩) 5 5)).run Tryz.prog X = .ok (.string SD) X) := fun X hb => by rw [HSD.out]; exact five_cells dn hd256 X KB (HKB.out.keep hb)
          have HCwb : Hid (Below wb.heap.size wb wb) := Below.refl _ _
          refine wpAnyH_weaken (S2 := fun W => (W.cell? ⟨A, 0, none⟩ = some (.int .i64 (Wn : Int)) ∧ W.cell? ⟨A, 1, none⟩ = some (.int .i64 (Hn : Int))) ∧ (convert 54 9 (.slice (some ⟨KB, 0, none⟩) 5 5)).run Tryz.prog W = .ok (.string SD) W) (fun _ h => h.1) ?_
          have hS := And.intro hS (HCV.out wb (Below.refl _ _))
          refine wpAnyH_take (i := 10) (oi := ⟨some 54, Op.convert 54 9 (Operand.tmp 53), 9, _, _, none⟩) (v := ?ve23) rfl (by kernel_rfl) (by kernel_rfl) (by kernel_rfl) (fun _ _ _ h => h) (Or.inl ⟨by rfl, ?ye23⟩) hS ?re23
          case ye23 => (intro w hSw; (try dsimp only at hSw); go_simp; try with_reducible rfl)
          try simp only [Act.put, List.setIfInBounds_toArray, List.set_cons_zero, List.set_cons_succ]
          refine wpAnyH_ready (rs := [2]) (by kernel_rfl) (by simp) ?re24
          refine AllReadyH.cons (o := ⟨some 46, Op.call { callee := Callee.value (Operand.func 37), args := #[Operand.tmp 45], argTypes := #[3] }, 9, _, _, none⟩) rfl (fun K hK => ?se24) AllReadyH.nil
          go_simp
          refine (HC1.out _).mono ?_
          rintro e w3 ⟨rfl, hb⟩
          have HBw3 : Hid (Below w2.heap.size w2 w3) := Below.trans HBwb.out (hb.mono HBwb.out.size)
          have HCw3 : Hid (Below wb.heap.size wb w3) := hb
          clear hb
          refine hK.out _ _ ?ke24 (fun hHeld => ?_)
          case ke24 => exact ⟨HSY.out _ HBw3.out, HCV.out _ HCw3.out⟩
          clear hS
          have hS := hHeld
          clear hHeld
          clear hK K
          try simp only [Act.put, List.setIfInBounds_toArray, List.set_cons_zero, List.set_cons_succ]
          refine wpAnyH_ready (rs := [5]) (by kernel_rfl) (by simp) ?re25
          refine AllReadyH.cons (o := ⟨some 49, Op.call { callee := Callee.value (Operand.func 37), args := #[Operand.tmp 48], argTypes := #[3] }, 9, _, _, none⟩) rfl (fun K hK => ?se25) AllReadyH.nil
          go_simp
          refine (HC2.out _).mono ?_
          rintro e w4 ⟨rfl, hb⟩
          have HBw4 : Hid (Below w2.heap.size w2 w4) := Below.trans HBw3.out (hb.mono HBw3.out.size)
          have HCw4 : Hid (Below wb.heap.size wb w4) := Below.trans HCw3.out (hb.mono HCw3.out.size)
          clear hb
          refine hK.out _ _ ?ke25 (fun hHeld => ?_)
          case ke25 => exact ⟨HSY.out _ HBw4.out, HCV.out _ HCw4.out⟩
          clear hS
          have hS := hHeld
          clear hHeld
          clear hK K
          try simp only [Act.put, List.setIfInBounds_toArray, List.set_cons_zero, List.set_cons_succ]
          refine wpAnyH_take (i := 6) (oi := ⟨some 50, Op.binOp BinOp.add 9 (Operand.tmp 46) (Operand.tmp 49) 9, 9, _, _, none⟩) (v := ?ve26) rfl (by kernel_rfl) (by kernel_rfl) (by kernel_rfl) (fun _ _ _ h => h) (Or.inl ⟨by rfl, ?ye26⟩) hS ?re26
          case ye26 => (intro w hSw; (try dsimp only at hSw); go_simp; try with_reducible rfl)
          try simp only [Act.put, List.setIfInBounds_toArray, List.set_cons_zero, List.set_cons_succ]
          refine wpAnyH_take (i := 11) (oi := ⟨some 55, Op.binOp BinOp.add 9 (Operand.tmp 50) (Operand.tmp 54) 9, 9, _, _, none⟩) (v := ?ve27) rfl (by kernel_rfl) (by kernel_rfl) (by kernel_rfl) (fun _ _ _ h => h) (Or.inl ⟨by rfl, ?ye27⟩) hS ?re27
          case ye27 => (intro w hSw; (try dsimp only at hSw); go_simp; try with_reducible rfl)
          try simp only [Act.put, List.setIfInBounds_toArray, List.set_cons_zero, List.set_cons_succ]
          refine wpAnyH_take (i := 12) (oi := ⟨some 56, Op.build 53 #[(0, Operand.const (Value.string ⟨#[73, 72, 68, 82]⟩)), (1, Operand.tmp 55)], 53, _, _, none⟩) (v := ?ve28) rfl (by kernel_rfl) (by kernel_rfl) (by kernel_rfl) (fun _ _ _ h => h) (Or.inl ⟨by rfl, ?ye28⟩) hS ?re28
          case ye28 => (intro w hSw; (try dsimp only at hSw); go_simp; try with_reducible rfl)
          try simp only [Act.put, List.setIfInBounds_toArray, List.set_cons_zero, List.set_cons_succ]
          refine wpAnyH_ready (rs := [13]) (by kernel_rfl) (by simp) ?re29
          refine AllReadyH.cons (o := ⟨some 57, Op.buildSlice 22 1 #[(0, Operand.tmp 56)], 22, _, _, none⟩) rfl (fun K hK => ?se29) AllReadyH.nil
          go_simp
          have HO3 : Hid (COwn (w4.alloc (.cells #[.string ⟨#[73, 72, 68, 82]⟩, .string (SW ++ SH ++ SD)] 53)) A (.slice (some ⟨w4.heap.size, 0, none⟩) 1 1) ([([73, 72, 68, 82], ihdrP Wn Hn dn)] ++ ([] : List Mt))) := hdr_own w4 HFIN.out (Nat.le_trans HA2.out HBw4.out.size)
          have HBc := Lib.hid (HBw4.out.alloc HBw4.out.size (.cells #[.string ⟨#[73, 72, 68, 82]⟩, .string (SW ++ SH ++ SD)] 53))
          have HCc := Lib.hid (HCw4.out.alloc HCw4.out.size (.cells #[.string ⟨#[73, 72, 68, 82]⟩, .string (SW ++ SH ++ SD)] 53))
          refine hK.out _ _ ?ke29 (fun hHeld => ?_)
          case ke29 => exact ⟨HSY.out _ HBc.out, HCV.out _ HCc.out⟩
          clear hS
          have hS := hHeld
          clear hHeld
          clear hK K
          try simp only [Act.put, List.setIfInBounds_toArray, List.set_cons_zero, List.set_cons_succ]
          refine wpAnyH_take (i := 14) (oi := ⟨some 10, Op.assign (Operand.tmp 57), 22, _, _, none⟩) (v := ?ve30) rfl (by kernel_rfl) (by kernel_rfl) (by kernel_rfl) (fun _ _ _ h => h) (Or.inl ⟨by rfl, ?ye30⟩) hS ?re30
          case ye30 => (intro w hSw; (try dsimp only at hSw); go_simp; try with_reducible rfl)
          try simp only [Act.put, List.setIfInBounds_toArray, List.set_cons_zero, List.set_cons_succ]
          refine wpAnyH_done (by kernel_rfl) ?_ _
          go_wp2_with fail
          go_meet
          case rel => exact ⟨_, rfl, HO3.out, HBc.out⟩
      case rest =>
      obtain ⟨G4, rfl, HO3, hbx⟩ := hcut
      obtain ⟨w4, hw4⟩ : ∃ x, x = wc := ⟨_, rfl⟩
      rw [← hw4] at hbx HO3 ⊢
      have HK4 := Lib.hid (HK2.out.keep hbx.out)
      have HB4 : Hid (Below A w w4) := HB2.out.trans (hbx.out.mono HA2.out)
      clear hbx hw4 HB2 HK2 HA2
      go_wp2_with fail
      go_loopw [10, 11] (fun vl vk wr => ∃ (k : Nat) (x : Option Addr) (n c : Nat), vk = .int .i64 k ∧ vl = .slice x n c ∧ k ≤ ms.length ∧ Hid (n = k + 1) ∧ Hid (COwn wr A (.slice x n c) ([([73, 72, 68, 82], ihdrP Wn Hn dn)] ++ (ms.take k).map textP)) ∧ Hid (Blk wr A 36 #[.int .i64 (Wn : Int), .int .i64 (Hn : Int), .slice xv px.length cv]) ∧ Hid (Below A w wr)) (fun _ vk _ => ms.length - (intOf vk).toNat)
      case atStart => exact ⟨0, some ⟨G4, 0, none⟩, 1, 1, rfl, rfl, Nat.zero_le _, rfl, HO3.out, HK4.out, HB4.out⟩
      case round =>
        clear HO3 HK4 HB4
        obtain ⟨k, x, n, c, rfl, rfl, hk, hn, how, hka, hbw⟩ := hrel
        have hm16 := HML.out.1
        have hn17 : n ≤ 17 := by have := hn.out; omega
        by_cases hlk : k < ms.length
        · have hdk : decide ((k : Int) < (ms.length : Int)) = true := by simp; omega
          have i1 : (k : Int) < (ms.length : Int) := by omega
          have HMW := Lib.hid (HMR.out.below (by rw [← HA.out]; exact hbw.out))
          obtain ⟨bb, off, hxm, -, -⟩ := HMW.out.at k hlk
          subst hxm
          have hms := HML.out.2 ms[k] (List.getElem_mem hlk)
          obtain ⟨me, hme⟩ : ∃ m : Mt, ms[k] = m := ⟨_, rfl⟩
          have HNX : Hid ((ms.take (k + 1)).map textP = (ms.take k).map textP ++ [textP me]) := by
            show _ = _
            rw [List.take_succ_eq_append_getElem hlk, List.map_append, hme]; rfl
          rw [hme] at hms
          obtain ⟨ky, vl⟩ := me
          simp only at hms
          obtain ⟨KY, hKY⟩ : ∃ s : ByteArray, s = ⟨ky.toArray⟩ := ⟨_, rfl⟩
          obtain ⟨VL, hVL⟩ : ∃ s : ByteArray, s = ⟨vl.toArray⟩ := ⟨_, rfl⟩
          have HCE : Hid (∀ u, Below A w u → u.cell? ⟨bb, off + k * 2, none⟩ = some (.string KY) ∧ u.cell? ⟨bb, off + k * 2 + 1, none⟩ = some (.string VL)) := fun u hb => by
            obtain ⟨b', o', hx', q1, q2⟩ := (HMR.out.below (by rw [← HA.out]; exact hb)).at k hlk
            injection hx' with hx'
            injection hx' with h1 h2 h3
            subst h1 h2
            rw [hme] at q1 q2
            rw [hKY, hVL]
            exact ⟨q1, q2⟩
          obtain ⟨acc, hacc⟩ : ∃ a, [([73, 72, 68, 82], ihdrP Wn Hn dn)] ++ (ms.take k).map textP = a := ⟨_, rfl⟩
          have hal : acc.length = k + 1 := by rw [← hacc]; simp; omega
          rw [hacc] at how
          have HAL : Hid (acc.length = n) := by show _ = _; rw [hal, hn.out]
          have HN1 : Hid (n + 1 = k + 1 + 1) := by show _ = _; rw [hn.out]
          have HTX : Hid ([Value.string ⟨#[116, 69, 88, 116]⟩, Value.string (KY ++ ⟨#[0]⟩ ++ VL)] = mcells [textP (ky, vl)]) := by
            show _ = _
            rw [hKY, hVL]
            simp only [mcells, mcell, textP, List.flatMap_cons, List.flatMap_nil, List.append_nil]
            congr 3
          have hks : KY.size = ky.length := by rw [hKY]; rfl
          have hvs : VL.size = vl.length := by rw [hVL]; rfl
          have hky : KY.size ≤ 32 := by omega
          have hvy : VL.size ≤ 256 := by omega
          have hc0 : (⟨#[0]⟩ : ByteArray).size = 1 := rfl
          have hc1 : ¬ (9223372036854775807 < KY.size + 1) := by omega
          have hc2 : ¬ (9223372036854775807 < KY.size + 1 + VL.size) := by omega
          have hc3 : ¬ (9223372036854775807 < (KY ++ ⟨#[0]⟩).size + VL.size) := by rw [ByteArray.size_append]; omega
          have HACC := Lib.hid hacc
          have HRD : Hid (wr.drew.ownsRow A 53 2 (.slice x n c) n (mcells acc)) := by
            have h := how.out
            unfold COwn at h
            rw [HAL.out] at h
            exact h
          have HID := Lib.hid hka.out.drew
          have HBD := Lib.hid hbw.out.drew
          have HSD : Hid (A ≤ wr.drew.heap.size) := Nat.le_of_lt hka.out.lt
          have hS := HCE.out _ HBD.out
          clear hacc hme how hka hbw hal hn hKY hVL hks hvs hms HMW hc0
          go_upto_region 15 with fail
          refine wp_region_held_drew (S := fun _ => True) (by kernel_rfl) trivial (fun hHeld => ?_)
          clear hHeld
          generalize wr.drew = wd at *
          refine wpAnyH_weaken (S2 := fun u => u.cell? ⟨bb, off + k * 2, none⟩ = some (.string KY) ∧ u.cell? ⟨bb, off + k * 2 + 1, none⟩ = some (.string VL)) (fun _ _ => trivial) ?_
          refine wpAnyH_take (i := 0) (oi := ⟨some 64, Op.move (Operand.tmp 10), 22, _, _, none⟩) (v := ?vm1) rfl (by kernel_rfl) (by kernel_rfl) (by kernel_rfl) (fun _ _ _ h => h) (Or.inl ⟨by rfl, ?ym1⟩) hS ?rm1
          case ym1 => (intro w hSw; (try dsimp only at hSw); go_simp; try with_reducible rfl)
          try simp only [Act.put, List.setIfInBounds_toArray, List.set_cons_zero, List.set_cons_succ]
          refine wpAnyH_take (i := 1) (oi := ⟨some 65, Op.move (Operand.tmp 2), 37, _, _, none⟩) (v := ?vm2) rfl (by kernel_rfl) (by kernel_rfl) (by kernel_rfl) (fun _ _ _ h => h) (Or.inl ⟨by rfl, ?ym2⟩) hS ?rm2
          case ym2 => (intro w hSw; (try dsimp only at hSw); go_simp; try with_reducible rfl)
          try simp only [Act.put, List.setIfInBounds_toArray, List.set_cons_zero, List.set_cons_succ]
          refine wpAnyH_take (i := 2) (oi := ⟨some 66, Op.move (Operand.tmp 11), 3, _, _, none⟩) (v := ?vm3) rfl (by kernel_rfl) (by kernel_rfl) (by kernel_rfl) (fun _ _ _ h => h) (Or.inl ⟨by rfl, ?ym3⟩) hS ?rm3
          case ym3 => (intro w hSw; (try dsimp only at hSw); go_simp; try with_reducible rfl)
          try simp only [Act.put, List.setIfInBounds_toArray, List.set_cons_zero, List.set_cons_succ]
          refine wpAnyH_take (i := 3) (oi := ⟨some 67, Op.indexAddr 37 (Operand.tmp 65) (Operand.tmp 66), 0, _, _, none⟩) (v := ?vm4) rfl (by kernel_rfl) (by kernel_rfl) (by kernel_rfl) (fun _ _ _ h => h) (Or.inl ⟨by rfl, ?ym4⟩) hS ?rm4
          case ym4 => (intro w hSw; (try dsimp only at hSw); go_simp; try with_reducible rfl)
          try simp only [Act.put, List.setIfInBounds_toArray, List.set_cons_zero, List.set_cons_succ]
          refine wpAnyH_take (i := 4) (oi := ⟨some 68, Op.fieldAddr 65 (Operand.tmp 67) 0, 0, _, _, none⟩) (v := ?vm5) rfl (by kernel_rfl) (by kernel_rfl) (by kernel_rfl) (fun _ _ _ h => h) (Or.inl ⟨by rfl, ?ym5⟩) hS ?rm5
          case ym5 => (intro w hSw; (try dsimp only at hSw); go_simp; try with_reducible rfl)
          try simp only [Act.put, List.setIfInBounds_toArray, List.set_cons_zero, List.set_cons_succ]
          refine wpAnyH_take (i := 5) (oi := ⟨some 69, Op.load 9 (Operand.tmp 68), 9, _, _, none⟩) (v := ?vm6) rfl (by kernel_rfl) (by kernel_rfl) (by kernel_rfl) (fun _ _ _ h => h) (Or.inl ⟨by rfl, ?ym6⟩) hS ?rm6
          case ym6 => (intro w hSw; (try dsimp only at hSw); go_simp; try with_reducible rfl)
          try simp only [Act.put, List.setIfInBounds_toArray, List.set_cons_zero, List.set_cons_succ]
          refine wpAnyH_take (i := 6) (oi := ⟨some 70, Op.binOp BinOp.add 9 (Operand.tmp 69) (Operand.const (Value.string ⟨#[0]⟩)) 9, 9, _, _, none⟩) (v := ?vm7) rfl (by kernel_rfl) (by kernel_rfl) (by kernel_rfl) (fun _ _ _ h => h) (Or.inl ⟨by rfl, ?ym7⟩) hS ?rm7
          case ym7 => (intro w hSw; (try dsimp only at hSw); go_simp; try with_reducible rfl)
          try simp only [Act.put, List.setIfInBounds_toArray, List.set_cons_zero, List.set_cons_succ]
          refine wpAnyH_take (i := 7) (oi := ⟨some 71, Op.move (Operand.tmp 2), 37, _, _, none⟩) (v := ?vm8) rfl (by kernel_rfl) (by kernel_rfl) (by kernel_rfl) (fun _ _ _ h => h) (Or.inl ⟨by rfl, ?ym8⟩) hS ?rm8
          case ym8 => (intro w hSw; (try dsimp only at hSw); go_simp; try with_reducible rfl)
          try simp only [Act.put, List.setIfInBounds_toArray, List.set_cons_zero, List.set_cons_succ]
          refine wpAnyH_take (i := 8) (oi := ⟨some 72, Op.move (Operand.tmp 11), 3, _, _, none⟩) (v := ?vm9) rfl (by kernel_rfl) (by kernel_rfl) (by kernel_rfl) (fun _ _ _ h => h) (Or.inl ⟨by rfl, ?ym9⟩) hS ?rm9
          case ym9 => (intro w hSw; (try dsimp only at hSw); go_simp; try with_reducible rfl)
          try simp only [Act.put, List.setIfInBounds_toArray, List.set_cons_zero, List.set_cons_succ]
          refine wpAnyH_take (i := 9) (oi := ⟨some 73, Op.indexAddr 37 (Operand.tmp 71) (Operand.tmp 72), 0, _, _, none⟩) (v := ?vm10) rfl (by kernel_rfl) (by kernel_rfl) (by kernel_rfl) (fun _ _ _ h => h) (Or.inl ⟨by rfl, ?ym10⟩) hS ?rm10
          case ym10 => (intro w hSw; (try dsimp only at hSw); go_simp; try with_reducible rfl)
          try simp only [Act.put, List.setIfInBounds_toArray, List.set_cons_zero, List.set_cons_succ]
          refine wpAnyH_take (i := 10) (oi := ⟨some 74, Op.fieldAddr 65 (Operand.tmp 73) 1, 0, _, _, none⟩) (v := ?vm11) rfl (by kernel_rfl) (by kernel_rfl) (by kernel_rfl) (fun _ _ _ h => h) (Or.inl ⟨by rfl, ?ym11⟩) hS ?rm11
          case ym11 => (intro w hSw; (try dsimp only at hSw); go_simp; try with_reducible rfl)
          try simp only [Act.put, List.setIfInBounds_toArray, List.set_cons_zero, List.set_cons_succ]
          refine wpAnyH_take (i := 11) (oi := ⟨some 75, Op.load 9 (Operand.tmp 74), 9, _, _, none⟩) (v := ?vm12) rfl (by kernel_rfl) (by kernel_rfl) (by kernel_rfl) (fun _ _ _ h => h) (Or.inl ⟨by rfl, ?ym12⟩) hS ?rm12
          case ym12 => (intro w hSw; (try dsimp only at hSw); go_simp; try with_reducible rfl)
          try simp only [Act.put, List.setIfInBounds_toArray, List.set_cons_zero, List.set_cons_succ]
          refine wpAnyH_take (i := 12) (oi := ⟨some 76, Op.binOp BinOp.add 9 (Operand.tmp 70) (Operand.tmp 75) 9, 9, _, _, none⟩) (v := ?vm13) rfl (by kernel_rfl) (by kernel_rfl) (by kernel_rfl) (fun _ _ _ h => h) (Or.inl ⟨by rfl, ?ym13⟩) hS ?rm13
          case ym13 => (intro w hSw; (try dsimp only at hSw); go_simp; try with_reducible rfl)
          try simp only [Act.put, List.setIfInBounds_toArray, List.set_cons_zero, List.set_cons_succ]
          refine wpAnyH_take (i := 13) (oi := ⟨some 77, Op.build 53 #[(0, Operand.const (Value.string ⟨#[116, 69, 88, 116]⟩)), (1, Operand.tmp 76)], 53, _, _, none⟩) (v := ?vm14) rfl (by kernel_rfl) (by kernel_rfl) (by kernel_rfl) (fun _ _ _ h => h) (Or.inl ⟨by rfl, ?ym14⟩) hS ?rm14
          case ym14 => (intro w hSw; (try dsimp only at hSw); go_simp; try with_reducible rfl)
          try simp only [Act.put, List.setIfInBounds_toArray, List.set_cons_zero, List.set_cons_succ]
          refine wpAnyH_ready (rs := [14]) (by kernel_rfl) (by simp) ?rm15
          refine AllReadyH.cons (o := ⟨some 78, Op.buildSlice 22 1 #[(0, Operand.tmp 77)], 22, _, _, none⟩) rfl (fun K hK => ?sm15) AllReadyH.nil
          go_simp
          have HBb := Lib.hid (HBD.out.alloc HSD.out (.cells #[.string ⟨#[116, 69, 88, 116]⟩, .string (KY ++ ⟨#[0]⟩ ++ VL)] 53))
          have HRb := Lib.hid (World.ownsRow.alloc HRD.out (.cells #[.string ⟨#[116, 69, 88, 116]⟩, .string (KY ++ ⟨#[0]⟩ ++ VL)] 53))
          have HKb := Lib.hid (Blk.new wd 53 #[.string ⟨#[116, 69, 88, 116]⟩, .string (KY ++ ⟨#[0]⟩ ++ VL)])
          have HIb := Lib.hid (HID.out.alloc (.cells #[.string ⟨#[116, 69, 88, 116]⟩, .string (KY ++ ⟨#[0]⟩ ++ VL)] 53))
          refine hK.out _ _ ?km15 (fun hHeld => ?_)
          case km15 => exact HCE.out _ HBb.out
          clear hS
          have hS := hHeld
          clear hHeld
          clear hK K
          try simp only [Act.put, List.setIfInBounds_toArray, List.set_cons_zero, List.set_cons_succ]
          generalize wd.alloc (.cells #[.string ⟨#[116, 69, 88, 116]⟩, .string (KY ++ ⟨#[0]⟩ ++ VL)] 53) = wb at *
          generalize wd.heap.size = KB at *
          refine wpAnyH_ready (rs := [15]) (by kernel_rfl) (by simp) ?rm16
          refine AllReadyH.cons (o := ⟨some 79, Op.call { callee := Callee.builtin Builtin.append, args := #[Operand.tmp 64, Operand.tmp 78], argTypes := #[22, 22] }, 22, _, _, none⟩) rfl (fun K hK => ?sm16) AllReadyH.nil
          refine step_appP el_chunk rfl (s := .tmp 64) (x := .tmp 78) rfl (by simp [Act.eval]) HRb.out (m := 0) (by simp [Act.eval]) HKb.out rfl (by intro z hz; simp at hz; rcases hz with rfl | rfl <;> rfl) (by omega) (by unfold maxLen; omega) (Nat.le_of_lt HIb.out.lt) ?_
          intro r2 cap2 w5 ho5 hg5
          have HK5 : Hid (Blk w5 A 36 #[.int .i64 (Wn : Int), .int .i64 (Hn : Int), .slice xv px.length cv]) := (hg5.block _ HIb.out.lt (own_blk_ne' HIb.out HRb.out.2 (by decide))).trans HIb.out
          have HB5 : Hid (Below A w w5) := HBb.out.grown hg5 (Nat.le_of_lt HIb.out.lt) (fun k hk => (World.ownsRow.lt HRb.out k hk).1)
          have HO5 : Hid (COwn w5 A (.slice (some ⟨r2, 0, none⟩) (n + 1) cap2) ([([73, 72, 68, 82], ihdrP Wn Hn dn)] ++ (ms.take (k + 1)).map textP)) := by show COwn _ _ _ _; rw [HNX.out, ← List.append_assoc, HACC.out]; exact cown_more ho5 [textP (ky, vl)] HTX.out (by rw [HAL.out]; rfl)
          clear ho5 hg5
          refine hK.out _ _ ?km16 (fun hHeld => ?_)
          case km16 => exact HCE.out _ HB5.out
          clear hS
          have hS := hHeld
          clear hHeld
          clear hK K
          try simp only [Act.put, List.setIfInBounds_toArray, List.set_cons_zero, List.set_cons_succ]
          refine wpAnyH_take (i := 16) (oi := ⟨some 10, Op.assign (Operand.tmp 79), 22, _, _, none⟩) (v := ?vm17) rfl (by kernel_rfl) (by kernel_rfl) (by kernel_rfl) (fun _ _ _ h => h) (Or.inl ⟨by rfl, ?ym17⟩) hS ?rm17
          case ym17 => (intro w hSw; (try dsimp only at hSw); go_simp; try with_reducible rfl)
          try simp only [Act.put, List.setIfInBounds_toArray, List.set_cons_zero, List.set_cons_succ]
          refine wpAnyH_done (by kernel_rfl) ?_ _
          go_wp2_with fail
          go_roundw
          case rel => exact ⟨k + 1, some ⟨r2, 0, none⟩, n + 1, cap2, by go_num, rfl, by omega, HN1, HO5, HK5, HB5⟩
          case measure => simp [intOf]; omega
        · have hdk : decide ((k : Int) < (ms.length : Int)) = false := by simp; omega
          have hkm : k = ms.length := by omega
          obtain ⟨acc, hacc⟩ : ∃ a, [([73, 72, 68, 82], ihdrP Wn Hn dn)] ++ ms.map textP = a := ⟨_, rfl⟩
          have hal : Hid (acc.length = n) := by show _ = _; rw [← hacc, hn.out]; simp; omega
          clear hn
          rw [List.take_of_length_le (by omega), hacc] at how
          have HACC := Lib.hid hacc
          have HO0 : Hid (wr.ownsRow A 53 2 (.slice x n c) n (mcells acc)) := by
            have h := how.out
            unfold COwn at h
            rw [hal.out] at h
            exact h
          have HVAL := Lib.hid hval
          obtain ⟨bp, hbp⟩ : ∃ b, b = dn / 2 := ⟨_, rfl⟩
          have hbpi : (dn : Int).tdiv 2 = (bp : Int) := by rw [hbp]; rfl
          have hbpi2 : (dn : Int) / 2 = (bp : Int) := by omega
          have hbp8 : bp ≤ 8 := by rcases HDD.out with h | h <;> omega
          have HLS := Lib.hid (fun y h => lnP_size Wn Hn dn HDD.out px HPLN.out y h)
          have HLT := Lib.hid (fun y => lines_take Wn dn px y)
          have HLL := Lib.hid (fun y h => lines_len Wn Hn dn HDD.out px HPLN.out y h)
          have HAC := Lib.hid (fun y h k hk => ab_chk Wn Hn dn HDD.out px HPLN.out y h k hk)
          have HAB : Hid (∀ y, abP Wn dn px (y + 1) = lnP Wn dn px y) := fun y => by unfold abP; rw [if_neg (by omega)]; rfl
          have HA0 : Hid (abP Wn dn px 0 = []) := rfl
          rw [← hbp] at HLS HLT HLL HAC
          have HBP := Lib.hid hbp
          have HRN := Lib.hid (fun y x h => row_next Wn dn px y x h)
          have hm17 : n ≤ 17 := hn17
          clear how hacc hbp hval hkm
          go_wp2_with fail
          go_loopw [12, 13, 14] (fun v12 v13 v14 wr => ∃ (y : Nat) (da ab : ByteArray), v12 = .string da ∧ v13 = .string ab ∧ v14 = .int .i64 y ∧ y ≤ Hn ∧ da.size ≤ 600000 ∧ Hid (da.data.toList = linesP Wn y dn px) ∧ Hid (ab.data.toList = abP Wn dn px y) ∧ Hid (wr.ownsRow A 53 2 (.slice x n c) n (mcells acc)) ∧ Hid (Blk wr A 36 #[.int .i64 (Wn : Int), .int .i64 (Hn : Int), .slice xv px.length cv]) ∧ Hid (Below A w wr)) (fun _ _ v14 _ => Hn - (intOf v14).toNat)
          case atStart => exact ⟨0, ⟨#[]⟩, ⟨#[]⟩, rfl, rfl, rfl, Nat.zero_le _, by decide, rfl, by show _ = _; rw [HA0.out], HO0.out, hka.out, hbw.out⟩
          case round =>
            clear HO0 hka hbw
            obtain ⟨y, da, ab, rfl, rfl, rfl, hy, hda, hdd, hab, how, hka, hbw⟩ := hrel
            have k1 : wr.cell? ⟨A, 1, none⟩ = some (.int .i64 (Hn : Int)) := hka.out.cell 1
            have HSZ : Hid (A ≤ wr.heap.size) := Nat.le_of_lt hka.out.lt
            by_cases hlt : y < Hn
            · have hdy : decide ((y : Int) < (Hn : Int)) = true := by simp; omega
              have hyW : Hid ((y + 1) * Wn ≤ px.length) := by
                show _ ≤ _
                rw [HPLN.out, Nat.mul_comm Wn Hn]
                exact Nat.mul_le_mul_right Wn hlt
              obtain ⟨W0, hW0⟩ : ∃ z, z = wr := ⟨_, rfl⟩
              have HW0 : Hid (Below W0.heap.size W0 wr) := by rw [hW0]; exact Below.refl _ _
              rw [← hW0] at how hka hbw HSZ
              clear hW0
              go_wp2_with fail
              clear k1
              go_loopw [15, 16] (fun v15 v16 wr => ∃ (x : Nat) (ln : ByteArray), v15 = .string ln ∧ v16 = .int .i64 x ∧ x ≤ Wn ∧ ln.size ≤ 10000 ∧ Hid (ln.data.toList = ((px.drop (y * Wn)).take x).flatMap (pxB dn)) ∧ Hid (Below W0.heap.size W0 wr)) (fun _ v16 _ => Wn - (intOf v16).toNat)
              case atStart => exact ⟨0, ⟨#[]⟩, rfl, rfl, Nat.zero_le _, by decide, by show _ = _; simp, HW0.out⟩
              case round =>
                clear HW0
                obtain ⟨xx, ln, rfl, rfl, hx, hln, hld, hbx⟩ := hrel
                have k0 : wr.cell? ⟨A, 0, none⟩ = some (.int .i64 (Wn : Int)) := (hka.out.keep hbx.out).cell 0
                by_cases hlx : xx < Wn
                · have hdx : decide ((xx : Int) < (Wn : Int)) = true := by simp; omega
                  have hkk : y * Wn + xx < px.length := by
                    have := hyW.out
                    rw [Nat.add_mul, Nat.one_mul] at this
                    omega
                  have k1 : wr.cell? ⟨A, 1, none⟩ = some (.int .i64 (Hn : Int)) := (hka.out.keep hbx.out).cell 1
                  have k2 : wr.cell? ⟨A, 2, none⟩ = some (.slice xv px.length cv) := (hka.out.keep hbx.out).cell 2
                  have HPI := Lib.hid (vpick_any Wn Hn xx y (y * Wn + xx) (.slice xv px.length cv) px wr (HPR.out.below (by rw [← HA.out]; exact hbw.out.trans (hbx.out.mono HSZ.out))) hlx hlt hW hH rfl hkk)
                  have HNX := Lib.hid (HRN.out y xx hkk)
                  have hpv := HVAL.out px[y * Wn + xx] (List.getElem_mem hkk)
                  obtain ⟨p, hp⟩ : ∃ p, px[y * Wn + xx] = p := ⟨_, rfl⟩
                  rw [hp] at HPI HNX hpv
                  have HSM := Lib.hid (fun w => vsamples_any p dn w HDD.out hpv)
                  have hpl8 := pxB_len dn p
                  obtain ⟨PB, hPB⟩ : ∃ s : ByteArray, s = ⟨(pxB dn p).toArray⟩ := ⟨_, rfl⟩
                  rw [← hPB] at HSM
                  have hPs : PB.size ≤ 8 := by rw [hPB]; simpa [ByteArray.size] using hpl8
                  have HLN : Hid ((ln ++ PB).data.toList = ((px.drop (y * Wn)).take (xx + 1)).flatMap (pxB dn)) := by
                    show _ = _
                    rw [HNX.out, ByteArray.data_append, Array.toList_append, hld.out, hPB]
                  have hls : (ln ++ PB).size ≤ 10000 := by
                    have h1 : (ln ++ PB).size = (ln ++ PB).data.toList.length := by simp
                    rw [h1, HLN.out, flat_size dn HDD.out, List.length_take]
                    have h2 : dn / 2 ≤ 8 := by rw [← HBP.out]; exact hbp8
                    exact Nat.le_trans (Nat.mul_le_mul (by omega : _ ≤ 256) h2) (by decide)
                  have HLSZ := Lib.hid hls
                  unfold imgI at HPI
                  unfold pxC at HPI HSM
                  clear hp hpl8 hPB hpv hld hls
                  go_wp2_with fail
                  refine HPI.out.mono ?_
                  rintro e w5 ⟨rfl, hb⟩
                  have HX5 := Lib.hid (hbx.out.trans (hb.mono hbx.out.size))
                  clear hb HPI k0 k1 k2
                  go_wp2_with fail
                  refine (HSM.out _).mono ?_
                  rintro e w6 ⟨rfl, hb⟩
                  have HX6 := Lib.hid (HX5.out.trans (hb.mono HX5.out.size))
                  clear hb HX5 HSM
                  go_wp2_with fail
                  go_roundw
                  case rel => exact ⟨xx + 1, ln ++ PB, rfl, by go_num, by omega, HLSZ.out, HLN, HX6⟩
                  case measure => simp [intOf]; omega
                · have hdx : decide ((xx : Int) < (Wn : Int)) = false := by simp; omega
                  have hxW : xx = Wn := by omega
                  have HLD : Hid (ln.data.toList = lnP Wn dn px y) := by show _ = _; rw [hld.out, hxW]; rfl
                  have HFI : Hid (∀ k : Nat, k ≤ 4 → ∀ w, Calls Tryz.prog 19 #[.int .i64 (k : Int), .int .i64 (bp : Int), .string ln, .string ab] w fun e w' => e = .returned (.tuple #[.string ⟨(filP (k : Nat) bp ln.data.toList ab.data.toList).toArray⟩, .int .i64 0]) ∧ Below w.heap.size w w') := by
                    intro k hk w
                    have h := vfilter_any (k : Int) (bp : Int) ln ab w (by omega)
                    have h0 : fchk (k : Int) (bp : Int) ln.data.toList ab.data.toList = 0 := by rw [HLD.out, hab.out]; exact HAC.out y hlt k hk
                    rw [if_pos h0, h0, Int.toNat_natCast] at h
                    exact h
                  have hlz : ln.data.toList.length = ln.size := by simp
                  have HWE : Hid (∀ (f : ByteArray) (w : World), f.size ≤ 10000 → Calls Tryz.prog 53 #[.string f] w fun e w' => e = .returned (.int .i64 (weiP f.data.toList : Nat)) ∧ Below w.heap.size w w') := fun f w hf => vweight_any f w (by omega)
                  have HBS : Hid (bestN bp ln.data.toList ab.data.toList 0 = (0, filP (0 : Nat) bp ln.data.toList ab.data.toList) ∧ ∀ k, bestN bp ln.data.toList ab.data.toList (k + 1) = if weiP (filP (k + 1 : Nat) bp ln.data.toList ab.data.toList) < weiP (bestN bp ln.data.toList ab.data.toList k).2 then (k + 1, filP (k + 1 : Nat) bp ln.data.toList ab.data.toList) else bestN bp ln.data.toList ab.data.toList k) := ⟨rfl, fun k => rfl⟩
                  have HLB : Hid (lineB bp (lnP Wn dn px y) (abP Wn dn px y) = UInt8.ofNat (bestN bp ln.data.toList ab.data.toList 4).1 :: (bestN bp ln.data.toList ab.data.toList 4).2) := by show _ = _; rw [HLD.out, hab.out]; rfl
                  have HBL := Lib.hid (fun k => bestN_len bp ln.data.toList ab.data.toList k)
                  have HFL : Hid (∀ k : Nat, (filP (k : Nat) bp ln.data.toList ab.data.toList).length = ln.size) := fun k => by rw [filP_len, hlz]
                  rw [hlz] at HBL
                  generalize hFF : (fun k : Nat => filP (k : Nat) bp ln.data.toList ab.data.toList) = FF at *
                  have HFF : Hid (∀ k : Nat, filP (k : Nat) bp ln.data.toList ab.data.toList = FF k) := fun k => by rw [← hFF]
                  generalize hBN : bestN bp ln.data.toList ab.data.toList = bn at *
                  have HF0 := Lib.hid (HFI.out 0 (by decide))
                  rw [HFF.out 0] at HF0
                  obtain ⟨f0, hf0⟩ : ∃ s : ByteArray, s = ⟨(FF 0).toArray⟩ := ⟨_, rfl⟩
                  have hf0d : f0.data.toList = FF 0 := by rw [hf0]
                  rw [← hf0] at HF0
                  change Hid (∀ w, Calls Tryz.prog 19 #[.int .i64 0, .int .i64 (bp : Int), .string ln, .string ab] w fun e w' => e = .returned (.tuple #[.string f0, .int .i64 0]) ∧ Below w.heap.size w w') at HF0
                  have HF0D : Hid (f0.data.toList = (bn 0).2 ∧ 0 = (bn 0).1) := by
                    have h := HBS.out.1
                    rw [HFF.out 0] at h
                    rw [h]
                    exact ⟨hf0d, rfl⟩
                  clear hFF hBN hld hxW hlz hf0 hf0d
                  go_wp2_with fail
                  clear hdx hlx
                  refine (HF0.out _).mono ?_
                  rintro e w5 ⟨rfl, hb⟩
                  have HX5 := Lib.hid (hbx.out.trans (hb.mono hbx.out.size))
                  clear hb HF0 hbx k0
                  go_wp2_with fail
                  go_loopw [17, 19, 20] (fun v17 v19 v20 wr => ∃ (j b : Nat) (f : ByteArray), v17 = .string f ∧ v19 = .int .i64 b ∧ v20 = .int .i64 ((j + 1 : Nat) : Int) ∧ j ≤ 4 ∧ Hid (f.data.toList = (bn j).2 ∧ b = (bn j).1) ∧ Hid (Below W0.heap.size W0 wr)) (fun _ _ v20 _ => 5 - (intOf v20).toNat)
                  case atStart => exact ⟨0, 0, f0, rfl, rfl, rfl, by decide, HF0D.out, HX5.out⟩
                  case round =>
                    clear HF0D HX5
                    obtain ⟨j, b, f, rfl, rfl, rfl, hj, hfb, hbx⟩ := hrel
                    obtain ⟨kk, hkk⟩ : ∃ kk, j + 1 = kk := ⟨_, rfl⟩
                    rw [hkk]
                    have HKK := Lib.hid hkk
                    have hfs : f.size ≤ 10000 := by
                      have h1 : f.size = f.data.toList.length := by simp
                      rw [h1, hfb.out.1, (HBL.out j).1]; omega
                    by_cases hk5 : kk < 5
                    · have hdk5 : decide ((kk : Int) < 5) = true := by simp; omega
                      have HF1 := Lib.hid (HFI.out kk (by omega))
                      rw [HFF.out kk] at HF1
                      obtain ⟨fs, hfs2⟩ : ∃ s : ByteArray, s = ⟨(FF kk).toArray⟩ := ⟨_, rfl⟩
                      have hfsd : fs.data.toList = FF kk := by rw [hfs2]
                      have hfss : fs.size ≤ 10000 := by
                        have h1 : fs.size = fs.data.toList.length := by simp
                        rw [h1, hfsd, ← HFF.out kk, HFL.out kk]; omega
                      rw [← hfs2] at HF1
                      have HWA := Lib.hid (fun w => HWE.out fs w hfss)
                      have HWB := Lib.hid (fun w => HWE.out f w hfs)
                      obtain ⟨wa, hwa⟩ : ∃ n, weiP fs.data.toList = n := ⟨_, rfl⟩
                      obtain ⟨wb, hwb⟩ : ∃ n, weiP f.data.toList = n := ⟨_, rfl⟩
                      rw [hwa] at HWA
                      rw [hwb] at HWB
                      have hstep := HBS.out.2 j
                      have HST : Hid (bn kk = if wa < wb then (kk, FF kk) else bn j) := by
                        show _ = _
                        rw [← hwa, ← hwb, hfsd, hfb.out.1, ← hkk, hstep, ← HFF.out (j + 1)]
                      have HFD : Hid (fs.data.toList = FF kk) := hfsd
                      clear hstep hwa hwb hfsd hfs2 hfs hfss hkk
                      go_wp2_with fail
                      refine (HF1.out _).mono ?_
                      rintro e w6 ⟨rfl, hb⟩
                      have HX6 := Lib.hid (hbx.out.trans (hb.mono hbx.out.size))
                      clear hb hbx HF1
                      go_wp2_with fail
                      refine (HWA.out _).mono ?_
                      rintro e w7 ⟨rfl, hb⟩
                      have HX7 := Lib.hid (HX6.out.trans (hb.mono HX6.out.size))
                      clear hb HX6
                      go_wp2_with fail
                      refine (HWB.out _).mono ?_
                      rintro e w8 ⟨rfl, hb⟩
                      have HX8 := Lib.hid (HX7.out.trans (hb.mono HX7.out.size))
                      clear hb HX7
                      by_cases hup : wa < wb
                      · have hdu : decide ((wa : Int) < (wb : Int)) = true := by simp; omega
                        have HN : Hid (fs.data.toList = (bn kk).2 ∧ kk = (bn kk).1) := by
                          show _ ∧ _
                          rw [HST.out, if_pos hup]
                          exact ⟨HFD.out, rfl⟩
                        clear hfb HST
                        go_wp2_with fail
                        go_roundw
                        case rel => exact ⟨kk, kk, fs, rfl, rfl, by go_num, by omega, HN, HX8⟩
                        case measure => have := HKK.out; simp [intOf]; omega
                      · have hdu : decide ((wa : Int) < (wb : Int)) = false := by simp; omega
                        have HN : Hid (f.data.toList = (bn kk).2 ∧ b = (bn kk).1) := by
                          show _ ∧ _
                          rw [HST.out, if_neg hup]
                          exact hfb.out
                        clear hfb HST
                        go_wp2_with fail
                        go_roundw
                        case rel => exact ⟨kk, b, f, rfl, rfl, by go_num, by omega, HN, HX8⟩
                        case measure => have := HKK.out; simp [intOf]; omega
                    · have hdk5 : decide ((kk : Int) < 5) = false := by simp; omega
                      have hj4 : j = 4 := by omega
                      obtain ⟨hf4, hb4⟩ := hfb.out
                      rw [hj4] at hf4 hb4
                      have hbl := (HBL.out 4).2
                      rw [← hb4] at hbl
                      have HNL : Hid ((da ++ ((⟨#[UInt8.ofNat b]⟩ : ByteArray) ++ f)).data.toList = linesP Wn (y + 1) dn px) := by
                        show _ = _
                        rw [HLT.out, HLB.out, ByteArray.data_append, ByteArray.data_append, Array.toList_append, Array.toList_append, hdd.out, hf4, hb4]
                        rfl
                      have hsz : (da ++ ((⟨#[UInt8.ofNat b]⟩ : ByteArray) ++ f)).size ≤ 600000 := by
                        have h1 : (da ++ ((⟨#[UInt8.ofNat b]⟩ : ByteArray) ++ f)).size = (da ++ ((⟨#[UInt8.ofNat b]⟩ : ByteArray) ++ f)).data.toList.length := by rw [Array.length_toList]; rfl
                        rw [h1, HNL.out, HLL.out (y + 1) hlt]
                        have h2 : Wn * bp ≤ 256 * 8 := Nat.mul_le_mul hW hbp8
                        exact Nat.le_trans (Nat.mul_le_mul (by omega : y + 1 ≤ 256) (by omega : Wn * bp + 1 ≤ 2049)) (by decide)
                      have HSN := Lib.hid hsz
                      have hwb : IntKind.u8.wrap (b : Int) = (b : Int) := by rw [IntKind.wrap_u8]; omega
                      have HKO := Lib.hid (Blk.new wr 5 #[.int .u8 (b : Int)])
                      have hcv := one_conv b (by omega) (wr.alloc (.cells #[.int .u8 (b : Int)] 5)) wr.heap.size HKO.out
                      have HX9 := Lib.hid (hbx.out.alloc hbx.out.size (.cells #[.int .u8 (b : Int)] 5))
                      have HON : Hid ((wr.alloc (.cells #[.int .u8 (b : Int)] 5)).ownsRow A 53 2 (.slice x n c) n (mcells acc)) := own_below how.out HX9.out
                      have HKN := Lib.hid (hka.out.keep HX9.out)
                      have HBN := Lib.hid (hbw.out.trans (HX9.out.mono HSZ.out))
                      have HABN : Hid (ln.data.toList = abP Wn dn px (y + 1)) := by show _ = _; rw [HLD.out, HAB.out]
                      have hsd : da.size ≤ 600000 := hda
                      clear hfb hf4 hb4 hsz hj4 hkk
                      go_wp2_with fail
                      go_roundw
                      case rel => exact ⟨y + 1, _, ln, rfl, rfl, by go_num, by omega, HSN.out, HNL, HABN, HON, HKN, HBN⟩
                      case measure => simp [intOf]; omega
            · have hdy : decide ((y : Int) < (Hn : Int)) = false := by simp; omega
              have hyH : y = Hn := by omega
              rw [hyH] at hdd
              have HZL := Lib.hid (fun w => rzlib_any da w (by unfold maxLen; omega))
              rw [hdd.out] at HZL
              obtain ⟨ZS, hZS⟩ : ∃ s : ByteArray, s = ⟨(zlibP ((linesP Wn Hn dn px).take 1048576)).toArray⟩ := ⟨_, rfl⟩
              have HZS : Hid (ZS.data.toList = dataP Wn Hn dn px) := by show _ = _; rw [hZS]; rfl
              rw [← hZS] at HZL
              have HPS := Lib.hid (pngL_size Wn Hn dn px ms HML.out)
              have HPE : Hid (pngL Wn Hn dn px ms = acc ++ [([73, 68, 65, 84], dataP Wn Hn dn px), (iendP, [])]) := by show _ = _; rw [HACC.out.symm]; rfl
              clear hZS hyH hdd hab
              go_wp2_with fail
              clear k1
              refine (HZL.out _).mono ?_
              rintro e w6 ⟨rfl, hb6⟩
              have HB6 : Hid (Below A w w6) := hbw.out.trans (hb6.mono HSZ.out)
              have hszr : A ≤ w6.heap.size := Nat.le_trans HSZ.out hb6.size
              have hown : w6.ownsRow A 53 2 (.slice x n c) n (mcells acc) := own_below how.out hb6
              clear hb6 HZL how hka hbw
              go_wp2_with (at_builtin; refine wpList_app el_chunk hown hszr rfl rfl rfl (m := 1) rfl (by simp [Value.oneCell']) rfl (by omega) (by unfold maxLen; omega) ?_)
              intro r7 cap7 w7 ho7 hg7 _
              have HB7 : Hid (Below A w w7) := (below_app HB6.out hszr hown hg7).1
              have HO7 : Hid (COwn w7 A (.slice (some ⟨r7, 0, none⟩) (n + 2) cap7) (pngL Wn Hn dn px ms)) := by
                show COwn _ _ _ _
                rw [HPE.out]
                refine cown_more ho7 [([73, 68, 65, 84], dataP Wn Hn dn px), (iendP, [])] ?_ (by rw [hal.out]; rfl)
                simp only [mcells, mcell, List.flatMap_cons, List.flatMap_nil, List.append_nil, List.cons_append, List.nil_append]
                rw [← HZS.out]
                rfl
              have HJO := Lib.hid (vjoin_any (.slice (some ⟨r7, 0, none⟩) (n + 2) cap7) (pngL Wn Hn dn px ms) w7 HO7.out.row (by have := HPS.out.2; omega) (by have := HPS.out.1; omega))
              clear ho7 hg7 hown hszr HB6
              go_wp2_with fail
              refine HJO.out.mono ?_
              rintro e w8 ⟨hj, hb8⟩
              have HB8 : Hid (Below w.heap.size w w8) := by rw [← HA.out]; exact HB7.out.trans (hb8.mono (by rw [HA.out]; exact (show Below w.heap.size w w7 by rw [← HA.out]; exact HB7.out).size))
              clear hb8 HJO HO7 HB7
              cases hjo : joinP (pngL Wn Hn dn px ms) with
              | error z =>
                rw [hjo] at hj HEQ3
                have hz0 : z ≠ 0 := by
                  intro h
                  subst h
                  unfold joinP at hjo
                  split at hjo
                  · rename_i hne; injection hjo with hjo; exact hne hjo
                  · split at hjo
                    · injection hjo with hjo; cases hjo
                    · split at hjo
                      · injection hjo with hjo; cases hjo
                      · cases hjo
                have hz1 : ((z : Int) != 0) = true := by simp; omega
                have hj : e = .returned (.tuple #[.string ⟨#[]⟩, .int .i64 (z : Nat)]) := hj
                subst hj
                clear hjo hz0
                go_wp2_with fail
                go_ret2
                exact ⟨by rw [HEQ3.out]; rfl, HB8.out⟩
              | ok t =>
                rw [hjo] at hj HEQ3
                have hj : e = .returned (.tuple #[.string ⟨t.toArray⟩, .int .i64 0]) := hj
                subst hj
                have hts : (⟨t.toArray⟩ : ByteArray).size = t.length := by simp [ByteArray.size]
                clear hjo
                by_cases hbig : 1048576 < t.length
                · have hdb : decide ((1048576 : Int) < (t.length : Int)) = true := by simp; omega
                  have HE : Hid (gencP (Wn : Int) (Hn : Int) px (dn : Int) ms = .error 3) := by show _ = _; rw [HEQ3.out]; simp only; rw [if_pos hbig]
                  go_wp2_with fail
                  go_ret2
                  exact ⟨by rw [HE.out]; rfl, HB8.out⟩
                · have hdb : decide ((1048576 : Int) < (t.length : Int)) = false := by simp; omega
                  have HE : Hid (gencP (Wn : Int) (Hn : Int) px (dn : Int) ms = .ok t) := by show _ = _; rw [HEQ3.out]; simp only; rw [if_neg hbig]
                  go_wp2_with fail
                  go_ret2
                  exact ⟨by rw [HE.out]; rfl, HB8.out⟩
    · have hm1 : ((mc : Int) != 0) = true := by simp; omega
      have HE : Hid (gencP (Wn : Int) (Hn : Int) px (dn : Int) ms = .error mc) := by show _ = _; rw [HEQ2.out, if_pos hm0]
      clear HEQ2 hm0 hmk
      go_wp2_with fail
      go_ret2
      exact ⟨by rw [HE.out]; rfl, by rw [← HA.out]; exact HB2.out⟩
  · have h00 : ((rc : Int) != 0) = true := by simp; omega
    have HE : Hid (gencP W H px D ms = .error rc) := by show _ = _; rw [HEQ.out, if_pos h0]
    clear HEQ h0 HRZ
    go_wp2_with fail
    go_ret2
    exact ⟨by rw [HE.out]; rfl, by rw [← HA.out]; exact HB1.out⟩
end Go.Proofs.YthbejefodelpkaaGreat
