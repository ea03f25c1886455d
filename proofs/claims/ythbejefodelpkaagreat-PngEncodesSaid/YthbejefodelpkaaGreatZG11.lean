/-
  Plain: the file of an image. Walk: png.Encode.
-/
import Derived.Test.YthbejefodelpkaaGreatZJ
import Derived.Test.YthbejefodelpkaaGreatZH
import Derived.Test.YthbejefodelpkaaGreatZE
import Derived.OrdersHeld
namespace Go.Proofs.YthbejefodelpkaaGreat
open Go.RowKit
set_option maxRecDepth 100000

theorem rchk_zero {W H : Int} {px : List Px} (h : rchk W H px = 0) : ∃ w h : Nat, W = (w : Int) ∧ H = (h : Int) ∧ w ≤ 256 ∧ h ≤ 256 ∧ px.length = w * h ∧ ∀ p ∈ px, valP p = true := by
  unfold rchk at h
  split at h
  · cases h
  · rename_i h1
    split at h
    · rename_i h2
      split at h
      · rename_i h3
        refine ⟨W.toNat, H.toNat, by omega, by omega, by omega, by omega, ?_, List.all_eq_true.1 h3⟩
        have e : (px.length : Int) = ((W.toNat * H.toNat : Nat) : Int) := by
          rw [h2.2, Int.natCast_mul]
          congr 1 <;> omega
        omega
      · cases h
    · cases h
theorem chk_lens {ms : List Mt} (h : chkP ms = 0) : ms.length ≤ 16 ∧ ∀ m ∈ ms, m.1.length ≤ 32 ∧ m.2.length ≤ 256 := by
  have h16 : ms.length ≤ 16 := by
    unfold chkP at h
    split at h
    · cases h
    · omega
  refine ⟨h16, ?_⟩
  have hz := (chkP_zero ms).1 h
  have hA : ∀ l : List Mt, Asc l → ∀ m ∈ l, m.1.length ≤ 32 ∧ m.2.length ≤ 256 := by
    intro l
    induction l with
    | nil => intro _ m hm; cases hm
    | cons q l ih =>
      rintro ⟨h1, h2, -, h4⟩ m hm
      rcases List.mem_cons.1 hm with rfl | hm
      · unfold isK okTxt at h1
        unfold isV okTxt at h2
        simp only [Bool.and_eq_true, decide_eq_true_eq] at h1 h2
        exact ⟨h1.1.2, h2.1.2⟩
      · exact ih h4 m hm
  exact hA ms hz.2

def ihdrP (W H d : Nat) : List UInt8 := be4 W ++ be4 H ++ [UInt8.ofNat d, 6, 0, 0, 0]
def textP (m : Mt) : Mt := ([116, 69, 88, 116], m.1 ++ [0] ++ m.2)
def dataP (W H d : Nat) (px : List Px) : List UInt8 := zlibP ((linesP W H d px).take 1048576)
def pngL (W H d : Nat) (px : List Px) (ms : List Mt) : List Mt := [([73, 72, 68, 82], ihdrP W H d)] ++ ms.map textP ++ [([73, 68, 65, 84], dataP W H d px), (iendP, [])]
/-- The file of an image, or the error. -/
def gencP (W H : Int) (px : List Px) (d : Int) (ms : List Mt) : Except Nat (List UInt8) :=
  if rchk W H px ≠ 0 then .error (rchk W H px)
  else if W = 0 then .error 15
  else if d ≠ 8 ∧ d ≠ 16 then .error 2
  else if chkP ms ≠ 0 then .error (chkP ms)
  else match joinP (pngL W.toNat H.toNat d.toNat px ms) with
    | .error k => .error k
    | .ok s => if 1048576 < s.length then .error 3 else .ok s
theorem zlibP_len (l : List UInt8) (h : l.length ≤ 1048576) : (zlibP l).length ≤ 5000006 := by
  unfold zlibP
  have h1 := best_length l
  have h2 := stored_small l h
  simp only [List.length_append, List.length_cons, List.length_nil, be4_len]
  omega
theorem pngL_size (W H d : Nat) (px : List Px) (ms : List Mt) (hm : ms.length ≤ 16 ∧ ∀ m ∈ ms, m.1.length ≤ 32 ∧ m.2.length ≤ 256) : ((pngL W H d px ms).flatMap ckB).length ≤ 10000000 ∧ (pngL W H d px ms).length ≤ 19 := by
  have key : ∀ l : List Mt, (∀ m ∈ l, m.1.length ≤ 32 ∧ m.2.length ≤ 256) → ((l.map textP).flatMap ckB).length ≤ 400 * l.length := by
    intro l
    induction l with
    | nil => intro _; simp
    | cons m r ih =>
      intro h
      have h1 := ih (fun x hx => h x (by simp [hx]))
      have h2 := h m (by simp)
      have e1 : (textP m).1.length = 4 := rfl
      have e2 : (textP m).2.length = m.1.length + 1 + m.2.length := by unfold textP; simp only [List.length_append, List.length_cons, List.length_nil]
      rw [List.map_cons, List.flatMap_cons, List.length_append, ckB_len, List.length_cons, e1, e2]
      omega
  have h1 := key ms hm.2
  have h2 : (dataP W H d px).length ≤ 5000006 := zlibP_len _ (by rw [List.length_take]; omega)
  have h3 : (ihdrP W H d).length = 13 := rfl
  unfold pngL
  simp only [List.flatMap_append, List.flatMap_cons, List.flatMap_nil, List.length_append, List.length_cons, List.length_nil, List.length_map, ckB_len, h3, iendP]
  omega
theorem five_cells (d : Nat) (h : d < 256) (W : World) (K : Nat) (hb : Blk W K 5 #[.int .u8 (d : Int), .int .u8 6, .int .u8 0, .int .u8 0, .int .u8 0]) :
    (convert 54 9 (.slice (some ⟨K, 0, none⟩) 5 5)).run Tryz.prog W = .ok (.string ⟨#[UInt8.ofNat d, 6, 0, 0, 0]⟩) W := by
  refine run_convert_bytes_back W 54 9 5 ⟨K, 0, none⟩ 5 [UInt8.ofNat d, 6, 0, 0, 0] Tryz.underlying54 Tryz.underlying5 Tryz.underlying9 fun j hj => ?_
  rw [Addr.add_lit, Nat.zero_add, hb.cell j]
  have hj' : j < 5 := hj
  match j, hj' with
  | 0, _ => exact congrArg some (by rw [← bcell_ofNat d h]; rfl)
  | 1, _ => rfl
  | 2, _ => rfl
  | 3, _ => rfl
  | 4, _ => rfl

set_option maxHeartbeats 8000000 in
theorem encode_any (W H D : Int) (v vm : Value) (px : List Px) (ms : List Mt) (w : World) (hr : PRow w v px) (hm : MRow w vm ms) :
    Calls Tryz.prog 22 #[.agg (imgI W H v), .int .i64 D, vm] w fun e w' => JoOk (gencP W H px D ms) e ∧ Below w.heap.size w w' := by
  have HPR := Lib.hid hr
  have HMR := Lib.hid hm
  have HK0 := Lib.hid (Blk.new w 36 (imgI W H v))
  have HB0 := Lib.hid ((Below.refl w.heap.size w).alloc (Nat.le_refl _) (.cells (imgI W H v) 36))
  have HRC := Lib.hid (fun w1 h => pcheckI_any W H v px w1 h)
  have HMC := Lib.hid (fun w1 h => check_any vm ms w1 h)
  have HEQ : Hid (gencP W H px D ms = if rchk W H px ≠ 0 then .error (rchk W H px) else if W = 0 then .error 15 else if D ≠ 8 ∧ D ≠ 16 then .error 2 else if chkP ms ≠ 0 then .error (chkP ms)
      else match joinP (pngL W.toNat H.toNat D.toNat px ms) with | .error k => .error k | .ok s => if 1048576 < s.length then .error 3 else .ok s) := rfl
  obtain ⟨xv, cv, rfl, hcv1, hcv2, -⟩ := hr
  obtain ⟨xm, cm, rfl, hcm1, hcm2, -⟩ := hm
  unfold maxLen at hcv2 hcm2
  unfold imgI at HK0 HB0 HRC ⊢
  go_enter Tryz.func22, Tryz.ntmps22
  go_upto_region 1 with fail
  generalize w.alloc (.cells #[.int .i64 W, .int .i64 H, .slice xv px.length cv] 36) = w0 at *
  obtain ⟨A, hA⟩ : ∃ A, A = w.heap.size := ⟨_, rfl⟩
  have HA := Lib.hid hA
  rw [← hA] at HK0 HB0 ⊢
  clear hA
  have k0 := HK0.out.cell 0
  have k1 := HK0.out.cell 1
  have k2 := HK0.out.cell 2
  go_wp2_with fail
  refine (HRC.out _ (HPR.out.below (by rw [← HA.out]; exact HB0.out))).mono ?_
  rintro e w1 ⟨rfl, hb1⟩
  have HK1 := Lib.hid (HK0.out.keep hb1)
  have HB1 : Hid (Below A w w1) := HB0.out.trans (hb1.mono (by have := HK0.out.lt; omega))
  clear hb1 k0 k1 k2 HK0 HB0 HRC
  obtain ⟨rc, hrc⟩ : ∃ n, rchk W H px = n := ⟨_, rfl⟩
  have HRZ := Lib.hid (fun h : rchk W H px = 0 => rchk_zero h)
  rw [hrc] at HEQ HRZ ⊢
  clear hrc
  by_cases h0 : rc = 0
  · subst h0
    obtain ⟨Wn, Hn, rfl, rfl, hW, hH, hpl, hval⟩ := HRZ.out rfl
    have k0 : w1.cell? ⟨A, 0, none⟩ = some (.int .i64 (Wn : Int)) := HK1.out.cell 0
    by_cases hw0 : Wn = 0
    · have dw0 : ((Wn : Int) == 0) = true := by rw [hw0]; rfl
      have HE : Hid (gencP (Wn : Int) (Hn : Int) px D ms = .error 15) := by show _ = _; rw [HEQ.out, if_neg (by simp), if_pos (by omega)]
      clear HEQ hw0 hval hpl
      go_wp2_with fail
      go_ret2
      exact ⟨by rw [HE.out]; rfl, by rw [← HA.out]; exact HB1.out⟩
    have dw0 : ((Wn : Int) == 0) = false := by simp; omega
    by_cases hd : D ≠ 8 ∧ D ≠ 16
    · obtain ⟨hd1, hd2⟩ := hd
      have d8 : (D != 8) = true := by simpa using hd1
      have d16 : (D != 16) = true := by simpa using hd2
      have HE : Hid (gencP (Wn : Int) (Hn : Int) px D ms = .error 2) := by show _ = _; rw [HEQ.out, if_neg (by simp), if_neg (by omega), if_pos ⟨hd1, hd2⟩]
      clear HEQ hw0 hval hpl
      go_wp2_with fail
      go_ret2
      exact ⟨by rw [HE.out]; rfl, by rw [← HA.out]; exact HB1.out⟩
    have hdd : D = 8 ∨ D = 16 := by omega
    obtain ⟨dn, hdn, hdd2⟩ : ∃ d : Nat, D = (d : Int) ∧ (d = 8 ∨ d = 16) := ⟨D.toNat, by omega, by omega⟩
    subst hdn
    have hbb : ((dn : Int) != 8 && (dn : Int) != 16) = false := by rcases hdd2 with rfl | rfl <;> rfl
    have HDD := Lib.hid hdd2
    have HEQ2 : Hid (gencP (Wn : Int) (Hn : Int) px (dn : Int) ms = if chkP ms ≠ 0 then .error (chkP ms)
      else match joinP (pngL Wn Hn dn px ms) with | .error k => .error k | .ok s => if 1048576 < s.length then .error 3 else .ok s) := by
      show _ = _
      rw [HEQ.out, if_neg (by simp), if_neg (by omega), if_neg hd, Int.toNat_natCast, Int.toNat_natCast, Int.toNat_natCast]
    have HPLN := Lib.hid hpl
    have hpl6 : px.length ≤ 65536 := by rw [hpl]; exact Nat.mul_le_mul hW hH
    clear HEQ hd hdd hdd2 hpl hbb
    go_upto_region 6 with fail
    go_cut [1, 29] from 24 to 28 (fun v1 v29 wx => v1 = .int .i64 (dn : Int) ∧ v29 = .bool false ∧ wx = w1)
    case first =>
      rcases HDD.out with h | h
      · have e8 : ((dn : Int) != 8) = false := by rw [h]; rfl
        clear h
        go_wp2_with fail
        go_meet
        case rel => exact ⟨rfl, rfl, rfl⟩
      · have e8 : ((dn : Int) != 8) = true := by rw [h]; rfl
        have e16 : ((dn : Int) != 16) = false := by rw [h]; rfl
        have en : ¬ ((dn : Int) = 8) := by omega
        clear h
        go_wp2_with fail
        go_meet
        case rel => exact ⟨rfl, rfl, rfl⟩
    case rest =>
    obtain ⟨rfl, rfl, rfl⟩ := hcut
    clear k0
    go_wp2_with fail
    refine (HMC.out _ (HMR.out.below (by rw [← HA.out]; exact HB1.out))).mono ?_
    rintro e w2 ⟨rfl, hb2⟩
    have HK2 := Lib.hid (HK1.out.keep hb2)
    have HB2 : Hid (Below A w w2) := HB1.out.trans (hb2.mono (by have := HK1.out.lt; omega))
    have hmk := Lib.hid (fun h : chkP ms = 0 => chk_lens h)
    obtain ⟨mc, hmc⟩ : ∃ n, chkP ms = n := ⟨_, rfl⟩
    rw [hmc] at HEQ2 hmk ⊢
    clear hb2 hmc HK1 HB1 HMC
    by_cases hm0 : mc = 0
    · subst hm0
      have HML := Lib.hid (hmk.out rfl)
      have HEQ3 : Hid (gencP (Wn : Int) (Hn : Int) px (dn : Int) ms = match joinP (pngL Wn Hn dn px ms) with | .error k => .error k | .ok s => if 1048576 < s.length then .error 3 else .ok s) := by
        show _ = _; rw [HEQ2.out, if_neg (by simp)]
      clear HEQ2 hmk
      go_upto_region 11 with fail
      go_cut [10] from 35 to 46 (fun v10 wx => ∃ s : ByteArray, v10 = .string s ∧ Hid (s.data.toList = ihdrP Wn Hn dn) ∧ Hid (Below w2.heap.size w2 wx))
      case first =>
        obtain ⟨SW, hSW⟩ : ∃ s : ByteArray, s = ⟨(be4 Wn).toArray⟩ := ⟨_, rfl⟩
        obtain ⟨SH, hSH⟩ : ∃ s : ByteArray, s = ⟨(be4 Hn).toArray⟩ := ⟨_, rfl⟩
        obtain ⟨SD, hSD⟩ : ∃ s : ByteArray, s = ⟨#[UInt8.ofNat dn, 6, 0, 0, 0]⟩ := ⟨_, rfl⟩
        have HC1 := Lib.hid (fun w => gfour_any Wn (by omega) w)
        have HC2 := Lib.hid (fun w => gfour_any Hn (by omega) w)
        rw [← hSW] at HC1
        rw [← hSH] at HC2
        have HSD := Lib.hid hSD
        have HFIN : Hid ((SW ++ SH ++ SD).data.toList = ihdrP Wn Hn dn) := by
          show _ = _
          rw [hSW, hSH, hSD]
          unfold ihdrP
          simp [ByteArray.data_append]
        have hz1 : SW.size = 4 := by rw [hSW]; rfl
        have hz2 : SH.size = 4 := by rw [hSH]; rfl
        have hz3 : SD.size = 5 := by rw [hSD]; rfl
        have hcat : ¬ (9223372036854775807 < SW.size + SH.size) := by omega
        have hcat2 : ¬ (9223372036854775807 < (SW ++ SH).size + SD.size) := by rw [ByteArray.size_append]; omega
        have hd256 : dn < 256 := by rcases HDD.out with h | h <;> omega
        have hdw : IntKind.u8.wrap (dn : Int) = (dn : Int) := by rw [IntKind.wrap_u8]; omega
        have HSY : Hid (∀ W, Below w2.heap.size w2 W → W.cell? ⟨A, 0, none⟩ = some (.int .i64 (Wn : Int)) ∧ W.cell? ⟨A, 1, none⟩ = some (.int .i64 (Hn : Int))) := fun W hb => ⟨(HK2.out.keep hb).cell 0, (HK2.out.keep hb).cell 1⟩
        have HBD0 : Hid (Below w2.heap.size w2 w2.drew) := (Below.refl _ _).drew
        have hS := HSY.out _ HBD0.out
        clear hSW hSH hSD
        --HELD11
        refine wp_region_held_drew (S := fun _ => True) (by kernel_rfl) trivial (fun hHeld => ?_)
        clear hHeld
        generalize w2.drew = wd at *
        refine wpAnyH_weaken (S2 := fun W => W.cell? ⟨A, 0, none⟩ = some (.int .i64 (Wn : Int)) ∧ W.cell? ⟨A, 1, none⟩ = some (.int .i64 (Hn : Int))) (fun _ _ => trivial) ?_
        refine wpAnyH_take (i := 0) (oi := ⟨some 35, Op.fieldAddr 36 (Operand.tmp 3) 0, 0, _, _, none⟩) (v := ?v1) rfl (by kernel_rfl) (by kernel_rfl) (by kernel_rfl) (fun _ _ _ h => h) (Or.inl ⟨by rfl, ?y1⟩) hS ?r1
        case y1 => (intro w hSw; (try dsimp only at hSw); go_simp; try with_reducible rfl)
        try simp only [Act.put, List.setIfInBounds_toArray, List.set_cons_zero, List.set_cons_succ]
        refine wpAnyH_take (i := 1) (oi := ⟨some 36, Op.load 3 (Operand.tmp 35), 3, _, _, none⟩) (v := ?v2) rfl (by kernel_rfl) (by kernel_rfl) (by kernel_rfl) (fun _ _ _ h => h) (Or.inl ⟨by rfl, ?y2⟩) hS ?r2
        case y2 => (intro w hSw; (try dsimp only at hSw); go_simp; try with_reducible rfl)
        try simp only [Act.put, List.setIfInBounds_toArray, List.set_cons_zero, List.set_cons_succ]
        refine wpAnyH_take (i := 3) (oi := ⟨some 38, Op.fieldAddr 36 (Operand.tmp 3) 1, 0, _, _, none⟩) (v := ?v3) rfl (by kernel_rfl) (by kernel_rfl) (by kernel_rfl) (fun _ _ _ h => h) (Or.inl ⟨by rfl, ?y3⟩) hS ?r3
        case y3 => (intro w hSw; (try dsimp only at hSw); go_simp; try with_reducible rfl)
        try simp only [Act.put, List.setIfInBounds_toArray, List.set_cons_zero, List.set_cons_succ]
        refine wpAnyH_take (i := 4) (oi := ⟨some 39, Op.load 3 (Operand.tmp 38), 3, _, _, none⟩) (v := ?v4) rfl (by kernel_rfl) (by kernel_rfl) (by kernel_rfl) (fun _ _ _ h => h) (Or.inl ⟨by rfl, ?y4⟩) hS ?r4
        case y4 => (intro w hSw; (try dsimp only at hSw); go_simp; try with_reducible rfl)
        try simp only [Act.put, List.setIfInBounds_toArray, List.set_cons_zero, List.set_cons_succ]
        refine wpAnyH_take (i := 7) (oi := ⟨some 42, Op.move (Operand.tmp 1), 3, _, _, none⟩) (v := ?v5) rfl (by kernel_rfl) (by kernel_rfl) (by kernel_rfl) (fun _ _ _ h => h) (Or.inl ⟨by rfl, ?y5⟩) hS ?r5
        case y5 => (intro w hSw; (try dsimp only at hSw); go_simp; try with_reducible rfl)
        try simp only [Act.put, List.setIfInBounds_toArray, List.set_cons_zero, List.set_cons_succ]
        refine wpAnyH_take (i := 8) (oi := ⟨some 43, Op.convert 3 5 (Operand.tmp 42), 5, _, _, none⟩) (v := ?v6) rfl (by kernel_rfl) (by kernel_rfl) (by kernel_rfl) (fun _ _ _ h => h) (Or.inl ⟨by rfl, ?y6⟩) hS ?r6
        case y6 => (intro w hSw; (try dsimp only at hSw); go_simp; try with_reducible rfl)
        try simp only [Act.put, List.setIfInBounds_toArray, List.set_cons_zero, List.set_cons_succ]
        refine wpAnyH_ready (rs := [2, 9]) (by kernel_rfl) (by simp) ?r7
        refine AllReadyH.cons (o := ⟨some 37, Op.call { callee := Callee.value (Operand.func 40), args := #[Operand.tmp 36], argTypes := #[3] }, 9, _, _, none⟩) rfl (fun K hK => ?sa7) (AllReadyH.cons (o := ⟨some 44, Op.buildSlice 54 5 #[(0, Operand.tmp 43), (1, Operand.const (Value.int IntKind.u8 6)), (2, Operand.const (Value.int IntKind.u8 0)), (3, Operand.const (Value.int IntKind.u8 0)), (4, Operand.const (Value.int IntKind.u8 0))], 54, _, _, none⟩) rfl (fun K hK => ?sb7) AllReadyH.nil)
        case sa7 =>
          go_simp
          refine (HC1.out _).mono ?_
          rintro e w3 ⟨rfl, hb⟩
          have HBw3 : Hid (Below w2.heap.size w2 w3) := Below.trans HBD0.out (hb.mono HBD0.out.size)
          clear hb
          refine hK.out _ _ ?k7 (fun hHeld => ?_)
          case k7 => exact HSY.out _ HBw3.out
          clear hS
          have hS := hHeld
          clear hHeld
          clear hK K
          try simp only [Act.put, List.setIfInBounds_toArray, List.set_cons_zero, List.set_cons_succ]
          refine wpAnyH_ready (rs := [5, 9]) (by kernel_rfl) (by simp) ?r8
          refine AllReadyH.cons (o := ⟨some 40, Op.call { callee := Callee.value (Operand.func 40), args := #[Operand.tmp 39], argTypes := #[3] }, 9, _, _, none⟩) rfl (fun K hK => ?sa8) (AllReadyH.cons (o := ⟨some 44, Op.buildSlice 54 5 #[(0, Operand.tmp 43), (1, Operand.const (Value.int IntKind.u8 6)), (2, Operand.const (Value.int IntKind.u8 0)), (3, Operand.const (Value.int IntKind.u8 0)), (4, Operand.const (Value.int IntKind.u8 0))], 54, _, _, none⟩) rfl (fun K hK => ?sb8) AllReadyH.nil)
          case sa8 =>
            go_simp
            refine (HC2.out _).mono ?_
            rintro e w4 ⟨rfl, hb⟩
            have HBw4 : Hid (Below w2.heap.size w2 w4) := Below.trans HBw3.out (hb.mono HBw3.out.size)
            clear hb
            refine hK.out _ _ ?k8 (fun hHeld => ?_)
            case k8 => exact HSY.out _ HBw4.out
            clear hS
            have hS := hHeld
            clear hHeld
            clear hK K
            try simp only [Act.put, List.setIfInBounds_toArray, List.set_cons_zero, List.set_cons_succ]
            refine wpAnyH_take (i := 6) (oi := ⟨some 41, Op.binOp BinOp.add 9 (Operand.tmp 37) (Operand.tmp 40) 9, 9, _, _, none⟩) (v := ?v9) rfl (by kernel_rfl) (by kernel_rfl) (by kernel_rfl) (fun _ _ _ h => h) (Or.inl ⟨by rfl, ?y9⟩) hS ?r9
            case y9 => (intro w hSw; (try dsimp only at hSw); go_simp; try with_reducible rfl)
            try simp only [Act.put, List.setIfInBounds_toArray, List.set_cons_zero, List.set_cons_succ]
            refine wpAnyH_ready (rs := [9]) (by kernel_rfl) (by simp) ?r10
            refine AllReadyH.cons (o := ⟨some 44, Op.buildSlice 54 5 #[(0, Operand.tmp 43), (1, Operand.const (Value.int IntKind.u8 6)), (2, Operand.const (Value.int IntKind.u8 0)), (3, Operand.const (Value.int IntKind.u8 0)), (4, Operand.const (Value.int IntKind.u8 0))], 54, _, _, none⟩) rfl (fun K hK => ?s10) AllReadyH.nil
            go_simp
            have HBwb : Hid (Below w2.heap.size w2 (w4.alloc (.cells #[.int .u8 (dn : Int), .int .u8 6, .int .u8 0, .int .u8 0, .int .u8 0] 5))) := HBw4.out.alloc HBw4.out.size _
            refine hK.out _ _ ?k10 (fun hHeld => ?_)
            case k10 => exact HSY.out _ HBwb.out
            clear hS
            have hS := hHeld
            clear hHeld
            clear hK K
            try simp only [Act.put, List.setIfInBounds_toArray, List.set_cons_zero, List.set_cons_succ]
            have HKB := Lib.hid (Blk.new w4 5 #[.int .u8 (dn : Int), .int .u8 6, .int .u8 0, .int .u8 0, .int .u8 0])
            generalize w4.alloc (.cells #[.int .u8 (dn : Int), .int .u8 6, .int .u8 0, .int .u8 0, .int .u8 0] 5) = wb at *
            generalize w4.heap.size = KB at *
            have HCV : Hid (∀ X, Below wb.heap.size wb X → (convert 54 9 (.slice (some ⟨KB, 0, none⟩) 5 5)).run Tryz.prog X = .ok (.string SD) X) := fun X hb => by rw [HSD.out]; exact five_cells dn hd256 X KB (HKB.out.keep hb)
            refine wpAnyH_weaken (S2 := fun W => (W.cell? ⟨A, 0, none⟩ = some (.int .i64 (Wn : Int)) ∧ W.cell? ⟨A, 1, none⟩ = some (.int .i64 (Hn : Int))) ∧ (convert 54 9 (.slice (some ⟨KB, 0, none⟩) 5 5)).run Tryz.prog W = .ok (.string SD) W) (fun _ h => h.1) ?_
            have hS := And.intro hS (HCV.out wb (Below.refl _ _))
            refine wpAnyH_take (i := 10) (oi := ⟨some 45, Op.convert 54 9 (Operand.tmp 44), 9, _, _, none⟩) (v := ?v11) rfl (by kernel_rfl) (by kernel_rfl) (by kernel_rfl) (fun _ _ _ h => h) (Or.inl ⟨by rfl, ?y11⟩) hS ?r11
            case y11 => (intro w hSw; (try dsimp only at hSw); go_simp; try with_reducible rfl)
            try simp only [Act.put, List.setIfInBounds_toArray, List.set_cons_zero, List.set_cons_succ]
            refine wpAnyH_take (i := 11) (oi := ⟨some 46, Op.binOp BinOp.add 9 (Operand.tmp 41) (Operand.tmp 45) 9, 9, _, _, none⟩) (v := ?v12) rfl (by kernel_rfl) (by kernel_rfl) (by kernel_rfl) (fun _ _ _ h => h) (Or.inl ⟨by rfl, ?y12⟩) hS ?r12
            case y12 => (intro w hSw; (try dsimp only at hSw); go_simp; try with_reducible rfl)
            try simp only [Act.put, List.setIfInBounds_toArray, List.set_cons_zero, List.set_cons_succ]
            refine wpAnyH_ready (rs := [12]) (by kernel_rfl) (by simp) ?r13
            refine AllReadyH.cons (o := ⟨some 10, Op.assign (Operand.tmp 46), 9, _, _, none⟩) rfl (fun K hK => ?s13) AllReadyH.nil
            go_simp
            refine hK.out _ _ ?k13 (fun hHeld => ?_)
            case k13 => exact hS
            clear hS
            have hS := hHeld
            clear hHeld
            clear hK K
            try simp only [Act.put, List.setIfInBounds_toArray, List.set_cons_zero, List.set_cons_succ]
            refine wpAnyH_done (by kernel_rfl) ?_ _
            go_wp2_with fail
            go_meet
            case rel => exact ⟨_, rfl, HFIN.out, HBwb.out⟩
          case sb8 =>
            go_simp
            have HBwb : Hid (Below w2.heap.size w2 (w3.alloc (.cells #[.int .u8 (dn : Int), .int .u8 6, .int .u8 0, .int .u8 0, .int .u8 0] 5))) := HBw3.out.alloc HBw3.out.size _
            refine hK.out _ _ ?k8 (fun hHeld => ?_)
            case k8 => exact HSY.out _ HBwb.out
            clear hS
            have hS := hHeld
            clear hHeld
            clear hK K
            try simp only [Act.put, List.setIfInBounds_toArray, List.set_cons_zero, List.set_cons_succ]
            have HKB := Lib.hid (Blk.new w3 5 #[.int .u8 (dn : Int), .int .u8 6, .int .u8 0, .int .u8 0, .int .u8 0])
            generalize w3.alloc (.cells #[.int .u8 (dn : Int), .int .u8 6, .int .u8 0, .int .u8 0, .int .u8 0] 5) = wb at *
            generalize w3.heap.size = KB at *
            have HCV : Hid (∀ X, Below wb.heap.size wb X → (convert 54 9 (.slice (some ⟨KB, 0, none⟩) 5 5)).run Tryz.prog X = .ok (.string SD) X) := fun X hb => by rw [HSD.out]; exact five_cells dn hd256 X KB (HKB.out.keep hb)
            refine wpAnyH_weaken (S2 := fun W => (W.cell? ⟨A, 0, none⟩ = some (.int .i64 (Wn : Int)) ∧ W.cell? ⟨A, 1, none⟩ = some (.int .i64 (Hn : Int))) ∧ (convert 54 9 (.slice (some ⟨KB, 0, none⟩) 5 5)).run Tryz.prog W = .ok (.string SD) W) (fun _ h => h.1) ?_
            have hS := And.intro hS (HCV.out wb (Below.refl _ _))
            refine wpAnyH_take (i := 10) (oi := ⟨some 45, Op.convert 54 9 (Operand.tmp 44), 9, _, _, none⟩) (v := ?v14) rfl (by kernel_rfl) (by kernel_rfl) (by kernel_rfl) (fun _ _ _ h => h) (Or.inl ⟨by rfl, ?y14⟩) hS ?r14
            case y14 => (intro w hSw; (try dsimp only at hSw); go_simp; try with_reducible rfl)
            try simp only [Act.put, List.setIfInBounds_toArray, List.set_cons_zero, List.set_cons_succ]
            refine wpAnyH_ready (rs := [5]) (by kernel_rfl) (by simp) ?r15
            refine AllReadyH.cons (o := ⟨some 40, Op.call { callee := Callee.value (Operand.func 40), args := #[Operand.tmp 39], argTypes := #[3] }, 9, _, _, none⟩) rfl (fun K hK => ?s15) AllReadyH.nil
            go_simp
            refine (HC2.out _).mono ?_
            rintro e w4 ⟨rfl, hb⟩
            have HBw4 : Hid (Below w2.heap.size w2 w4) := Below.trans HBwb.out (hb.mono HBwb.out.size)
            have HCw4 : Hid (Below wb.heap.size wb w4) := hb
            clear hb
            refine hK.out _ _ ?k15 (fun hHeld => ?_)
            case k15 => exact ⟨HSY.out _ HBw4.out, HCV.out _ HCw4.out⟩
            clear hS
            have hS := hHeld
            clear hHeld
            clear hK K
            try simp only [Act.put, List.setIfInBounds_toArray, List.set_cons_zero, List.set_cons_succ]
            refine wpAnyH_take (i := 6) (oi := ⟨some 41, Op.binOp BinOp.add 9 (Operand.tmp 37) (Operand.tmp 40) 9, 9, _, _, none⟩) (v := ?v16) rfl (by kernel_rfl) (by kernel_rfl) (by kernel_rfl) (fun _ _ _ h => h) (Or.inl ⟨by rfl, ?y16⟩) hS ?r16
            case y16 => (intro w hSw; (try dsimp only at hSw); go_simp; try with_reducible rfl)
            try simp only [Act.put, List.setIfInBounds_toArray, List.set_cons_zero, List.set_cons_succ]
            refine wpAnyH_take (i := 11) (oi := ⟨some 46, Op.binOp BinOp.add 9 (Operand.tmp 41) (Operand.tmp 45) 9, 9, _, _, none⟩) (v := ?v17) rfl (by kernel_rfl) (by kernel_rfl) (by kernel_rfl) (fun _ _ _ h => h) (Or.inl ⟨by rfl, ?y17⟩) hS ?r17
            case y17 => (intro w hSw; (try dsimp only at hSw); go_simp; try with_reducible rfl)
            try simp only [Act.put, List.setIfInBounds_toArray, List.set_cons_zero, List.set_cons_succ]
            refine wpAnyH_ready (rs := [12]) (by kernel_rfl) (by simp) ?r18
            refine AllReadyH.cons (o := ⟨some 10, Op.assign (Operand.tmp 46), 9, _, _, none⟩) rfl (fun K hK => ?s18) AllReadyH.nil
            go_simp
            refine hK.out _ _ ?k18 (fun hHeld => ?_)
            case k18 => exact hS
            clear hS
            have hS := hHeld
            clear hHeld
            clear hK K
            try simp only [Act.put, List.setIfInBounds_toArray, List.set_cons_zero, List.set_cons_succ]
            refine wpAnyH_done (by kernel_rfl) ?_ _
            go_wp2_with fail
            go_meet
            case rel => exact ⟨_, rfl, HFIN.out, HBw4.out⟩
        case sb7 =>
          go_simp
          have HBwb : Hid (Below w2.heap.size w2 (wd.alloc (.cells #[.int .u8 (dn : Int), .int .u8 6, .int .u8 0, .int .u8 0, .int .u8 0] 5))) := HBD0.out.alloc HBD0.out.size _
          refine hK.out _ _ ?k7 (fun hHeld => ?_)
          case k7 => exact HSY.out _ HBwb.out
          clear hS
          have hS := hHeld
          clear hHeld
          clear hK K
          try simp only [Act.put, List.setIfInBounds_toArray, List.set_cons_zero, List.set_cons_succ]
          have HKB := Lib.hid (Blk.new wd 5 #[.int .u8 (dn : Int), .int .u8 6, .int .u8 0, .int .u8 0, .int .u8 0])
          generalize wd.alloc (.cells #[.int .u8 (dn : Int), .int .u8 6, .int .u8 0, .int .u8 0, .int .u8 0] 5) = wb at *
          generalize wd.heap.size = KB at *
          have HCV : Hid (∀ X, Below wb.heap.size wb X → (convert 54 9 (.slice (some ⟨KB, 0, none⟩) 5 5)).run Tryz.prog X = .ok (.string SD) X) := fun X hb => by rw [HSD.out]; exact five_cells dn hd256 X KB (HKB.out.keep hb)
          refine wpAnyH_weaken (S2 := fun W => (W.cell? ⟨A, 0, none⟩ = some (.int .i64 (Wn : Int)) ∧ W.cell? ⟨A, 1, none⟩ = some (.int .i64 (Hn : Int))) ∧ (convert 54 9 (.slice (some ⟨KB, 0, none⟩) 5 5)).run Tryz.prog W = .ok (.string SD) W) (fun _ h => h.1) ?_
          have hS := And.intro hS (HCV.out wb (Below.refl _ _))
          refine wpAnyH_take (i := 10) (oi := ⟨some 45, Op.convert 54 9 (Operand.tmp 44), 9, _, _, none⟩) (v := ?v19) rfl (by kernel_rfl) (by kernel_rfl) (by kernel_rfl) (fun _ _ _ h => h) (Or.inl ⟨by rfl, ?y19⟩) hS ?r19
          case y19 => (intro w hSw; (try dsimp only at hSw); go_simp; try with_reducible rfl)
          try simp only [Act.put, List.setIfInBounds_toArray, List.set_cons_zero, List.set_cons_succ]
          refine wpAnyH_ready (rs := [2]) (by kernel_rfl) (by simp) ?r20
          refine AllReadyH.cons (o := ⟨some 37, Op.call { callee := Callee.value (Operand.func 40), args := #[Operand.tmp 36], argTypes := #[3] }, 9, _, _, none⟩) rfl (fun K hK => ?s20) AllReadyH.nil
          go_simp
          refine (HC1.out _).mono ?_
          rintro e w3 ⟨rfl, hb⟩
          have HBw3 : Hid (Below w2.heap.size w2 w3) := Below.trans HBwb.out (hb.mono HBwb.out.size)
          have HCw3 : Hid (Below wb.heap.size wb w3) := hb
          clear hb
          refine hK.out _ _ ?k20 (fun hHeld => ?_)
          case k20 => exact ⟨HSY.out _ HBw3.out, HCV.out _ HCw3.out⟩
          clear hS
          have hS := hHeld
          clear hHeld
          clear hK K
          try simp only [Act.put, List.setIfInBounds_toArray, List.set_cons_zero, List.set_cons_succ]
          refine wpAnyH_ready (rs := [5]) (by kernel_rfl) (by simp) ?r21
          refine AllReadyH.cons (o := ⟨some 40, Op.call { callee := Callee.value (Operand.func 40), args := #[Operand.tmp 39], argTypes := #[3] }, 9, _, _, none⟩) rfl (fun K hK => ?s21) AllReadyH.nil
          go_simp
          refine (HC2.out _).mono ?_
          rintro e w4 ⟨rfl, hb⟩
          have HBw4 : Hid (Below w2.heap.size w2 w4) := Below.trans HBw3.out (hb.mono HBw3.out.size)
          have HCw4 : Hid (Below wb.heap.size wb w4) := Below.trans HCw3.out (hb.mono HCw3.out.size)
          clear hb
          refine hK.out _ _ ?k21 (fun hHeld => ?_)
          case k21 => exact ⟨HSY.out _ HBw4.out, HCV.out _ HCw4.out⟩
          clear hS
          have hS := hHeld
          clear hHeld
          clear hK K
          try simp only [Act.put, List.setIfInBounds_toArray, List.set_cons_zero, List.set_cons_succ]
          refine wpAnyH_take (i := 6) (oi := ⟨some 41, Op.binOp BinOp.add 9 (Operand.tmp 37) (Operand.tmp 40) 9, 9, _, _, none⟩) (v := ?v22) rfl (by kernel_rfl) (by kernel_rfl) (by kernel_rfl) (fun _ _ _ h => h) (Or.inl ⟨by rfl, ?y22⟩) hS ?r22
          case y22 => (intro w hSw; (try dsimp only at hSw); go_simp; try with_reducible rfl)
          try simp only [Act.put, List.setIfInBounds_toArray, List.set_cons_zero, List.set_cons_succ]
          refine wpAnyH_take (i := 11) (oi := ⟨some 46, Op.binOp BinOp.add 9 (Operand.tmp 41) (Operand.tmp 45) 9, 9, _, _, none⟩) (v := ?v23) rfl (by kernel_rfl) (by kernel_rfl) (by kernel_rfl) (fun _ _ _ h => h) (Or.inl ⟨by rfl, ?y23⟩) hS ?r23
          case y23 => (intro w hSw; (try dsimp only at hSw); go_simp; try with_reducible rfl)
          try simp only [Act.put, List.setIfInBounds_toArray, List.set_cons_zero, List.set_cons_succ]
          refine wpAnyH_ready (rs := [12]) (by kernel_rfl) (by simp) ?r24
          refine AllReadyH.cons (o := ⟨some 10, Op.assign (Operand.tmp 46), 9, _, _, none⟩) rfl (fun K hK => ?s24) AllReadyH.nil
          go_simp
          refine hK.out _ _ ?k24 (fun hHeld => ?_)
          case k24 => exact hS
          clear hS
          have hS := hHeld
          clear hHeld
          clear hK K
          try simp only [Act.put, List.setIfInBounds_toArray, List.set_cons_zero, List.set_cons_succ]
          refine wpAnyH_done (by kernel_rfl) ?_ _
          go_wp2_with fail
          go_meet
          case rel => exact ⟨_, rfl, HFIN.out, HBw4.out⟩
        --DLEH11
      case rest =>
      obtain ⟨hs, rfl, hhl, hbx⟩ := hcut
      obtain ⟨w3, hw3⟩ : ∃ x, x = wc := ⟨_, rfl⟩
      rw [← hw3] at hbx ⊢
      have HK3 := Lib.hid (HK2.out.keep hbx.out)
      have HB3 : Hid (Below A w w3) := HB2.out.trans (hbx.out.mono (by have := HK2.out.lt; omega))
      have hszA : A ≤ w3.heap.size := by have := HK3.out.lt; omega
      have HX0 : Hid ([Value.string ⟨#[73, 72, 68, 82]⟩, Value.string hs] = mcells [([73, 72, 68, 82], ihdrP Wn Hn dn)]) := by
        show _ = _
        simp only [mcells, mcell, List.flatMap_cons, List.flatMap_nil, List.append_nil]
        rw [← hhl.out]
      have HO3 : Hid (COwn (w3.alloc (.cells #[.string ⟨#[73, 72, 68, 82]⟩, .string hs] 53)) A (.slice (some ⟨w3.heap.size, 0, none⟩) 1 1) ([([73, 72, 68, 82], ihdrP Wn Hn dn)] ++ ([] : List Mt))) := by
        have h1 := World.ownsRow_lit (e := 53) (size := 2) (base := A) w3 #[.string ⟨#[73, 72, 68, 82]⟩, .string hs] 1 hszA (by unfold maxLen; omega) rfl
        show World.ownsRow _ _ _ _ _ _ _
        rw [List.append_nil, ← HX0.out]
        exact h1
      have HK4 := Lib.hid (HK3.out.alloc (.cells #[.string ⟨#[73, 72, 68, 82]⟩, .string hs] 53))
      have HB4 := Lib.hid (HB3.out.alloc hszA (.cells #[.string ⟨#[73, 72, 68, 82]⟩, .string hs] 53))
      clear hbx hhl hw3 HB2 HK2 HK3 HB3 HX0
      go_upto_region 13 with fail
      generalize w3.alloc (.cells #[.string ⟨#[73, 72, 68, 82]⟩, .string hs] 53) = w4 at *
      generalize w3.heap.size = G4 at *
      go_wp2_with fail
      go_loopw [11, 52] (fun vl vk wr => ∃ (k : Nat) (x : Option Addr) (n c : Nat), vk = .int .i64 k ∧ vl = .slice x n c ∧ k ≤ ms.length ∧ Hid (n = k + 1) ∧ Hid (COwn wr A (.slice x n c) ([([73, 72, 68, 82], ihdrP Wn Hn dn)] ++ (ms.take k).map textP)) ∧ Hid (Blk wr A 36 #[.int .i64 (Wn : Int), .int .i64 (Hn : Int), .slice xv px.length cv]) ∧ Hid (Below A w wr)) (fun _ vk _ => ms.length - (intOf vk).toNat)
      case atStart => exact ⟨0, some ⟨G4, 0, none⟩, 1, 1, rfl, rfl, Nat.zero_le _, rfl, HO3.out, HK4.out, HB4.out⟩
      case round =>
        obtain ⟨k, x, n, c, rfl, rfl, hk, hn, how, hka, hbw⟩ := hrel
        have hm16 := HML.out.1
        have hn17 : n ≤ 17 := by have := hn.out; omega
        by_cases hlk : k < ms.length
        · have hdk : decide ((k : Int) < (ms.length : Int)) = true := by simp; omega
          obtain ⟨bb, off, rfl, q1, q2⟩ := (HMR.out.below (by rw [← HA.out]; exact hbw.out)).at k hlk
          have hms := HML.out.2 ms[k] (List.getElem_mem hlk)
          obtain ⟨me, hme⟩ : ∃ m : Mt, ms[k] = m := ⟨_, rfl⟩
          have HNX : Hid ((ms.take (k + 1)).map textP = (ms.take k).map textP ++ [textP me]) := by
            show _ = _
            rw [List.take_succ_eq_append_getElem hlk, List.map_append, hme]; rfl
          rw [hme] at q1 q2 hms
          obtain ⟨ky, vl⟩ := me
          simp only at q1 q2 hms
          obtain ⟨acc, hacc⟩ : ∃ a, [([73, 72, 68, 82], ihdrP Wn Hn dn)] ++ (ms.take k).map textP = a := ⟨_, rfl⟩
          have hal : acc.length = k + 1 := by rw [← hacc]; simp; omega
          rw [hacc] at how
          have hown : (wr.alloc (.cells #[.string ⟨ky.toArray⟩, .string ⟨vl.toArray⟩] 65)).ownsRow A 53 2 (.slice x n c) n (mcells acc) := by
            have h := World.ownsRow.alloc how.out (.cells #[.string ⟨ky.toArray⟩, .string ⟨vl.toArray⟩] 65)
            have e : acc.length = n := by rw [hal, hn.out]
            unfold COwn at h
            rw [e] at h
            exact h
          have HAL : Hid (acc.length = n) := by show _ = _; rw [hal, hn.out]
          have HN1 : Hid (n + 1 = k + 1 + 1) := by show _ = _; rw [hn.out]
          have hszr : A ≤ (wr.alloc (.cells #[.string ⟨ky.toArray⟩, .string ⟨vl.toArray⟩] 65)).heap.size := by have := hka.out.lt; simp; omega
          have HKA := Lib.hid (hka.out.alloc (.cells #[.string ⟨ky.toArray⟩, .string ⟨vl.toArray⟩] 65))
          have HBA := Lib.hid (hbw.out.alloc (by have := hka.out.lt; omega) (.cells #[.string ⟨ky.toArray⟩, .string ⟨vl.toArray⟩] 65))
          have HQB : Hid (Blk (wr.alloc (.cells #[.string ⟨ky.toArray⟩, .string ⟨vl.toArray⟩] 65)) wr.heap.size 65 #[.string ⟨ky.toArray⟩, .string ⟨vl.toArray⟩]) := Blk.new wr _ _
          have HTX : Hid ([Value.string ⟨#[116, 69, 88, 116]⟩, Value.string ((⟨ky.toArray⟩ : ByteArray) ++ ⟨#[0]⟩ ++ ⟨vl.toArray⟩)] = mcells [textP (ky, vl)]) := by
            show _ = _
            simp only [mcells, mcell, textP, List.flatMap_cons, List.flatMap_nil, List.append_nil]
            congr 3
          have hc1 : ¬ (9223372036854775807 < (⟨ky.toArray⟩ : ByteArray).size + (⟨#[0]⟩ : ByteArray).size) := by show ¬ (_ < ky.length + 1); omega
          have hc2 : ¬ (9223372036854775807 < ((⟨ky.toArray⟩ : ByteArray) ++ ⟨#[0]⟩).size + (⟨vl.toArray⟩ : ByteArray).size) := by rw [ByteArray.size_append]; show ¬ (_ < ky.length + 1 + vl.length); omega
          have HACC := Lib.hid hacc
          clear hacc hme how hka hbw hal hn
          go_upto_region 16 with fail
          clear q1 q2
          generalize wr.alloc (.cells #[.string ⟨ky.toArray⟩, .string ⟨vl.toArray⟩] 65) = wb at *
          generalize wr.heap.size = KB at *
          have q1 : wb.cell? ⟨KB, 0, none⟩ = some (.string ⟨ky.toArray⟩) := HQB.out.cell 0
          have q2 : wb.cell? ⟨KB, 1, none⟩ = some (.string ⟨vl.toArray⟩) := HQB.out.cell 1
          go_wp2_with (at_builtin; refine wpList_app el_chunk hown hszr rfl rfl rfl (m := 0) rfl (by simp [Value.oneCell']) rfl (by omega) (by unfold maxLen; omega) ?_)
          intro r5 cap5 w5 ho5 hg5 _
          have hka5 := HKA.out.alloc (.cells #[.string ⟨#[116, 69, 88, 116]⟩, .string ((⟨ky.toArray⟩ : ByteArray) ++ ⟨#[0]⟩ ++ ⟨vl.toArray⟩)] 53)
          have HK5 : Hid (Blk w5 A 36 #[.int .i64 (Wn : Int), .int .i64 (Hn : Int), .slice xv px.length cv]) := (hg5.block _ hka5.lt (own_blk_ne' hka5 (World.ownsRow.alloc hown _).2 (by decide))).trans hka5
          have HB5 : Hid (Below A w w5) := (below_app HBA.out hszr hown hg5).1
          have HO5 : Hid (COwn w5 A (.slice (some ⟨r5, 0, none⟩) (n + 1) cap5) ([([73, 72, 68, 82], ihdrP Wn Hn dn)] ++ (ms.take (k + 1)).map textP)) := by
            show COwn _ _ _ _
            rw [HNX.out, ← List.append_assoc, HACC.out]
            exact cown_more ho5 [textP (ky, vl)] HTX.out (by rw [HAL.out]; rfl)
          clear ho5 hg5 hka5 hown hszr q1 q2 HKA HBA HQB hc1 hc2
          go_wp2_with fail
          go_roundw
          case rel => exact ⟨k + 1, some ⟨r5, 0, none⟩, n + 1, cap5, by go_num, rfl, by omega, HN1, HO5, HK5, HB5⟩
          case measure => simp [intOf]; omega
        · have hdk : decide ((k : Int) < (ms.length : Int)) = false := by simp; omega
          have hkm : k = ms.length := by omega
          obtain ⟨acc, hacc⟩ : ∃ a, [([73, 72, 68, 82], ihdrP Wn Hn dn)] ++ ms.map textP = a := ⟨_, rfl⟩
          have hal : Hid (acc.length = n) := by show _ = _; rw [← hacc, hn.out]; simp; omega
          clear hn
          rw [List.take_of_length_le (by omega), hacc] at how
          have HACC := Lib.hid hacc
          have k0 := hka.out.cell 0
          have k1 := hka.out.cell 1
          have k2 := hka.out.cell 2
          have HLI := Lib.hid (lines_any Wn Hn dn (.slice xv px.length cv) px wr (HPR.out.below (by rw [← HA.out]; exact hbw.out)) HDD.out hval HPLN.out hW hH)
          unfold imgI at HLI
          have hlsz : (linesP Wn Hn dn px).length ≤ 1000000 := by
            rw [lines_len Wn Hn dn HDD.out px HPLN.out Hn (Nat.le_refl _)]
            have h1 : Wn * (dn / 2) ≤ 256 * 8 := Nat.mul_le_mul hW (by rcases HDD.out with h | h <;> rw [h] <;> decide)
            have h2 : Hn * (Wn * (dn / 2) + 1) ≤ 256 * 2049 := Nat.mul_le_mul hH (by omega)
            omega
          obtain ⟨LS, hLS⟩ : ∃ s : ByteArray, s = ⟨(linesP Wn Hn dn px).toArray⟩ := ⟨_, rfl⟩
          have HZL := Lib.hid (fun w => zlib_any LS w (by
            have : LS.size = (linesP Wn Hn dn px).length := by rw [hLS]; simp [ByteArray.size]
            unfold maxLen; omega))
          have hLSl : LS.data.toList = linesP Wn Hn dn px := by rw [hLS]
          rw [hLSl] at HZL
          rw [← hLS] at HLI
          obtain ⟨ZS, hZS⟩ : ∃ s : ByteArray, s = ⟨(zlibP ((linesP Wn Hn dn px).take 1048576)).toArray⟩ := ⟨_, rfl⟩
          have HZS : Hid (ZS.data.toList = dataP Wn Hn dn px) := by show _ = _; rw [hZS]; rfl
          rw [← hZS] at HZL
          have HPS := Lib.hid (pngL_size Wn Hn dn px ms HML.out)
          have HPE : Hid (pngL Wn Hn dn px ms = acc ++ [([73, 68, 65, 84], dataP Wn Hn dn px), (iendP, [])]) := by show _ = _; rw [HACC.out.symm]; rfl
          clear hlsz hLS hLSl hZS hacc hkm
          go_wp2_with fail
          refine HLI.out.mono ?_
          rintro e w5 ⟨rfl, hb5⟩
          have HB5 : Hid (Below A w w5) := hbw.out.trans (hb5.mono (by have := hka.out.lt; omega))
          have HK5 := Lib.hid (hka.out.keep hb5)
          have HO5 : Hid (w5.ownsRow A 53 2 (.slice x n c) n (mcells acc)) := by
            have h : COwn w5 A (.slice x n c) acc := (Fr.of_below (B := 0) hb5 []).owns how.out (by simp)
            unfold COwn at h
            rw [hal.out] at h
            exact h
          clear hb5 how hka hbw HLI k0 k1 k2
          go_wp2_with fail
          refine (HZL.out _).mono ?_
          rintro e w6 ⟨rfl, hb6⟩
          have HB6 : Hid (Below A w w6) := HB5.out.trans (hb6.mono (by have := HK5.out.lt; omega))
          have hszr : A ≤ w6.heap.size := by have := (HK5.out.keep hb6).lt; omega
          have hown : w6.ownsRow A 53 2 (.slice x n c) n (mcells acc) := (Fr.of_below (B := 0) hb6 []).owns HO5.out (by simp)
          clear hb6 HO5 HK5 HB5 HZL
          go_wp2_with (at_builtin; refine wpList_app el_chunk hown hszr rfl rfl rfl (m := 1) rfl (by simp [Value.oneCell']) rfl (by omega) (by unfold maxLen; omega) ?_)
          intro r7 cap7 w7 ho7 hg7 _
          have HB7 : Hid (Below A w w7) := (below_app HB6.out hszr hown hg7).1
          have HO7 : Hid (COwn w7 A (.slice (some ⟨r7, 0, none⟩) (n + 2) cap7) (pngL Wn Hn dn px ms)) := by
            show COwn _ _ _ _
            rw [HPE.out]
            refine cown_more ho7 [([73, 68, 65, 84], dataP Wn Hn dn px), (iendP, [])] ?_ (by rw [hal.out]; rfl)
            simp only [mcells, mcell, List.flatMap_cons, List.flatMap_nil, List.append_nil, List.cons_append, List.nil_append]
            rw [← HZS.out]
            rfl
          have HJO := Lib.hid (join_any (.slice (some ⟨r7, 0, none⟩) (n + 2) cap7) (pngL Wn Hn dn px ms) w7 HO7.out.row (by have := HPS.out.2; omega) (by have := HPS.out.1; omega))
          clear ho7 hg7 hown hszr HB6
          go_wp2_with fail
          refine HJO.out.mono ?_
          rintro e w8 ⟨hj, hb8⟩
          have HB8 : Hid (Below w.heap.size w w8) := by rw [← HA.out]; exact HB7.out.trans (hb8.mono (by rw [HA.out]; exact (show Below w.heap.size w w7 by rw [← HA.out]; exact HB7.out).size))
          clear hb8 HJO HO7 HB7
          cases hjo : joinP (pngL Wn Hn dn px ms) with
          | error z =>
            rw [hjo] at hj HEQ3
            have hz0 : z ≠ 0 := by
              intro h
              subst h
              unfold joinP at hjo
              split at hjo
              · rename_i hne; injection hjo with hjo; exact hne hjo
              · split at hjo
                · injection hjo with hjo; cases hjo
                · split at hjo
                  · injection hjo with hjo; cases hjo
                  · cases hjo
            have hz1 : ((z : Int) != 0) = true := by simp; omega
            have hj : e = .returned (.tuple #[.string ⟨#[]⟩, .int .i64 (z : Nat)]) := hj
            subst hj
            clear hjo hz0
            go_wp2_with fail
            go_ret2
            exact ⟨by rw [HEQ3.out]; rfl, HB8.out⟩
          | ok t =>
            rw [hjo] at hj HEQ3
            have hj : e = .returned (.tuple #[.string ⟨t.toArray⟩, .int .i64 0]) := hj
            subst hj
            have hts : (⟨t.toArray⟩ : ByteArray).size = t.length := by simp [ByteArray.size]
            clear hjo
            by_cases hbig : 1048576 < t.length
            · have hdb : decide ((1048576 : Int) < (t.length : Int)) = true := by simp; omega
              have HE : Hid (gencP (Wn : Int) (Hn : Int) px (dn : Int) ms = .error 3) := by show _ = _; rw [HEQ3.out]; simp only; rw [if_pos hbig]
              go_wp2_with fail
              go_ret2
              exact ⟨by rw [HE.out]; rfl, HB8.out⟩
            · have hdb : decide ((1048576 : Int) < (t.length : Int)) = false := by simp; omega
              have HE : Hid (gencP (Wn : Int) (Hn : Int) px (dn : Int) ms = .ok t) := by show _ = _; rw [HEQ3.out]; simp only; rw [if_neg hbig]
              go_wp2_with fail
              go_ret2
              exact ⟨by rw [HE.out]; rfl, HB8.out⟩
    · have hm1 : ((mc : Int) != 0) = true := by simp; omega
      have HE : Hid (gencP (Wn : Int) (Hn : Int) px (dn : Int) ms = .error mc) := by show _ = _; rw [HEQ2.out, if_pos hm0]
      clear HEQ2 hm0 hmk
      go_wp2_with fail
      go_ret2
      exact ⟨by rw [HE.out]; rfl, by rw [← HA.out]; exact HB2.out⟩
  · have h00 : ((rc : Int) != 0) = true := by simp; omega
    have HE : Hid (gencP W H px D ms = .error rc) := by show _ = _; rw [HEQ.out, if_pos h0]
    clear HEQ h0 HRZ
    go_wp2_with fail
    go_ret2
    exact ⟨by rw [HE.out]; rfl, by rw [← HA.out]; exact HB1.out⟩
end Go.Proofs.YthbejefodelpkaaGreat
