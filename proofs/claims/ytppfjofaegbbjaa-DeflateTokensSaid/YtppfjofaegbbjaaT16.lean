/-
  The law DeflateSizes: how long the forms are, for every string.
-/
import Derived.Test.YtppfjofaegbbjaaT15
import Derived.Deep.RegionHeld3
namespace Go.Proofs.Ytppfjofaegbbjaa
open Go.RowKit

theorem lenBits_ok (n : Nat) (h0 : 3 ≤ n) (h1 : n ≤ 258) : (symBits (lenSym n).1).length + (lenSym n).2.2 + 15 ≤ 9 * n := by
  have key : ∀ n : Fin 259, 3 ≤ n.val → (symBits (lenSym n.val).1).length + (lenSym n.val).2.2 + 15 ≤ 9 * n.val := by decide +kernel
  exact key ⟨n, by omega⟩ h0
theorem tok_len (l : List UInt8) (p : Nat) : (tok l p).1.length ≤ 9 * (tok l p).2 := by
  unfold tok
  split
  · exact symBits_length _
  · rename_i h
    have hm := matchP_ok l p h
    have a := lenBits_ok _ hm.1 hm.2.1
    have b := (distSym_ok (matchP l p).2 hm.2.2.2.1 hm.2.2.2.2.1).2.2.2
    simp only [matchBits, List.length_append, numBits_length, codeBits_length]
    omega
theorem fixedGo_len (l : List UInt8) (f p : Nat) (hp : p ≤ l.length) : (fixedGo l f p).length ≤ 9 * (l.length - p) := by
  induction f generalizing p with
  | zero => simp [fixedGo]
  | succ f ih =>
    unfold fixedGo
    by_cases h : p < l.length
    · rw [if_pos h, List.length_append]
      have h1 := tok_len l p
      have h2 := tok_pos l p h
      have h3 := ih (p + (tok l p).2) h2.2
      omega
    · rw [if_neg h]; simp
theorem fixed_length (l : List UInt8) : (fixed l).length ≤ (9 * l.length + 17) / 8 := by
  have h := fixedGo_len l l.length 0 (Nat.zero_le _)
  have h256 : (symBits 256).length = 7 := by decide
  rw [fixed, pack_length, fixedBits]
  simp only [List.length_append, numBits_length, h256]
  omega
theorem best_len (l : List UInt8) : (best l).length = min (stored l).length (fixed l).length := by
  unfold best
  split <;> omega
theorem zlibP_len (l : List UInt8) : (zlibP l).length = (best l).length + 6 := by
  simp [zlibP, be4]

set_option maxRecDepth 100000 in
set_option maxHeartbeats 8000000 in
theorem lawSizes (s : ByteArray) (w : World) (hs : s.size ≤ maxLen) :
    Calls Try.prog 7 #[.string s] w fun e w' => e = .returned (.bool true) ∧ Below w.heap.size w w' := by
  have h1 := fun w => stored_any s w hs
  have h2 := fun w => fixed_any s w hs
  have h3 := fun w => best_any s w hs
  have h4 := fun w => zlib_any s w hs
  obtain ⟨n, hn⟩ : ∃ n, n = min s.size 1048576 := ⟨_, rfl⟩
  have hn1 : n ≤ 1048576 := by omega
  have hn2 : n ≤ s.size := by omega
  have hll : (s.data.toList.take 1048576).length = n := by simp [hn]; omega
  have hA := stored_length (s.data.toList.take 1048576)
  have hF := fixed_length (s.data.toList.take 1048576)
  have hB := best_len (s.data.toList.take 1048576)
  have hZ := zlibP_len (s.data.toList.take 1048576)
  rw [hll] at hA hF
  obtain ⟨pc, hpc⟩ : ∃ pc, pc = max 1 ((n + 65534) / 65535) := ⟨_, rfl⟩
  rw [← hpc] at hA
  have hpc1 : pc ≤ 100 := by omega
  have hzz : zlibP (s.data.toList.take 1048576) = [120, 1] ++ best (s.data.toList.take 1048576) ++ be4 (adler (s.data.toList.take 1048576)) := rfl
  have had := adler_lt (s.data.toList.take 1048576)
  have hin : Hid ((s.extract 0 n).data.toList = s.data.toList.take 1048576) := by
    show _ = _
    rw [hn]
    exact inp_list s
  have hin2 : (s.extract 0 n).size ≤ maxLen := by rw [ByteArray.size_extract]; omega
  have hr := fun w => radler_any (s.extract 0 n) w hin2
  rw [hin.out] at hr
  generalize stored (s.data.toList.take 1048576) = a at *
  generalize fixed (s.data.toList.take 1048576) = b at *
  generalize best (s.data.toList.take 1048576) = c at *
  generalize zlibP (s.data.toList.take 1048576) = z at *
  generalize adler (s.data.toList.take 1048576) = x at *
  have H1 := Lib.hid h1
  have H2 := Lib.hid h2
  have H3 := Lib.hid h3
  have H4 := Lib.hid h4
  have HR := Lib.hid hr
  have HN := Lib.hid hn
  have HPC := Lib.hid hpc
  have HA := Lib.hid hA
  have HB := Lib.hid hB
  have HZ := Lib.hid hZ
  have HZZ := Lib.hid hzz
  clear h1 h2 h3 h4 hr hn hpc hll hA hB hZ hzz
  have a1 : ((a.length : Int) != (n : Int) + 5 * (pc : Int)) = false := by have := HA.out; simp; omega
  have b1 : ¬ (9 * (n : Int) + 10 + 7) / 8 < (b.length : Int) := by omega
  have al : a.length ≤ 2000000 := by have := HA.out; omega
  have bl : b.length ≤ 2000000 := by omega
  have cl : c.length ≤ 2000000 := by have := HB.out; omega
  have zl : z.length ≤ 2000006 := by have := HZ.out; omega
  have zl6 : 6 ≤ z.length := by have := HZ.out; omega
  have z1 : ((z.length : Int) != (c.length : Int) + 6) = false := by have := HZ.out; simp; omega
  go_enter Try.func7, Try.ntmps7
  go_upto_region 1 with (fail)
  go_cut [3] (fun v wx => v = .int .i64 n ∧ wx = w)
  case first =>
    go_wp2_with fail
    all_goals
      go_meet
      refine ⟨?_, rfl⟩
      congr 1
      have := HN.out
      omega
  case rest =>
    obtain ⟨rfl, rfl⟩ := hcut
    obtain ⟨w, rfl⟩ : ∃ w : World, w = wc := ⟨_, rfl⟩
    go_upto_region 2 with (fail)
    go_cut [4] (fun v wx => v = .int .i64 pc ∧ wx = w)
    case first =>
      go_wp2_with fail
      all_goals
        go_meet
        refine ⟨?_, rfl⟩
        congr 1
        have := HPC.out
        omega
    case rest =>
      obtain ⟨rfl, rfl⟩ := hcut
      go_wp2_with fail
      refine (H1.out _).mono ?_
      rintro e w1 ⟨rfl, hb1⟩
      go_wp2_with fail
      refine (H2.out _).mono ?_
      rintro e w2 ⟨rfl, hb2⟩
      go_wp2_with fail
      refine (H3.out _).mono ?_
      rintro e w3 ⟨rfl, hb3⟩
      go_wp2_with fail
      refine (H4.out _).mono ?_
      rintro e w4 ⟨rfl, hb4⟩
      have hbb := bthen (bthen (bthen hb1 hb2) hb3) hb4
      clear hb1 hb2 hb3 hb4 H1 H2 H3 H4
      go_upto_region 4 with (fail)
      go_cut [56] (fun v wx => v = .bool false ∧ wx = w4)
      case first =>
        have d1 : decide ((9 * (n : Int) + 10 + 7) / 8 < (b.length : Int)) = false := by simp; omega
        by_cases hba : b.length < a.length
        · have c1 : ((c.length : Int) != (b.length : Int)) = false := by have := HB.out; simp; omega
          go_wp2_with fail
          go_meet
          exact ⟨rfl, rfl⟩
        · have c1 : ((c.length : Int) != (a.length : Int)) = false := by have := HB.out; simp; omega
          go_wp2_with fail
          go_meet
          exact ⟨rfl, rfl⟩
      case rest =>
        obtain ⟨rfl, rfl⟩ := hcut
        go_wp2_with fail
        refine (HR.out _).mono ?_
        rintro e w5 ⟨rfl, rfl⟩
        clear a1 b1 z1 HR hin2
        obtain ⟨zb, hzb⟩ : ∃ zb : ByteArray, zb = ⟨z.toArray⟩ := ⟨_, rfl⟩
        rw [← hzb]
        have hzs : zb.size = z.length := by rw [hzb]; simp [ByteArray.size]
        have hz2 : zb.extract 0 2 = ⟨#[120, 1]⟩ := by
          apply ByteArray.ext
          rw [hzb, HZZ.out]
          simp
        have hz4 : zb.extract (zb.size - 4) zb.size = ⟨(be4 x).toArray⟩ := by
          apply ByteArray.ext
          rw [hzs, hzb, HZZ.out]
          simp [be4]
        clear hzb
        rw [← hzs] at zl zl6
        have HZS := Lib.hid hzs
        clear hzs
        go_wp2_with fail
        have hcv := conv4 x had
        have u0 : IntKind.u8.wrap ((x : Int) / 16777216) = (x : Int) / 16777216 := by rw [IntKind.wrap_u8]; omega
        have u1 : IntKind.u8.wrap ((x : Int) / 65536) = (x : Int) / 65536 % 256 := by rw [IntKind.wrap_u8]
        have u2 : IntKind.u8.wrap ((x : Int) / 256) = (x : Int) / 256 % 256 := by rw [IntKind.wrap_u8]
        have u3 : IntKind.u8.wrap (x : Int) = (x : Int) % 256 := by rw [IntKind.wrap_u8]
        have wz : IntKind.i64.wrap ((zb.size : Int) - 4) = (zb.size : Int) - 4 := IntWalk.i64_in _ (by omega)
        have nz : ((zb.size : Int) - 4).toNat = zb.size - 4 := by omega
        have z0 : (4 : Int) ≤ (zb.size : Int) := by omega
        have z2 : (2 : Int) ≤ (zb.size : Int) := by omega
        have z3 : (0 : Int) ≤ (zb.size : Int) - 4 := by omega
        have z4 : (zb.size : Int) - 4 ≤ (zb.size : Int) := by omega
        generalize be4 x = q at *
        refine wp_region_held_drew (S := fun _ => True) (by kernel_rfl) trivial (fun hHeld => ?_)
        refine wpAnyH_take (i := 0) (oi := ⟨some 61, Op.move (Operand.tmp 8), 9, _, _, none⟩) (v := ?v1) rfl (by kernel_rfl) (by kernel_rfl) (by kernel_rfl) (fun _ _ _ h => h) (Or.inl ⟨by rfl, ?y1⟩) trivial ?r1
        case y1 => (intro w hSw; go_simp; try with_reducible rfl)
        try simp only [Act.put, List.setIfInBounds_toArray, List.set_cons_zero, List.set_cons_succ]
        refine wpAnyH_take (i := 1) (oi := ⟨some 62, Op.slice 9 (Operand.tmp 61) none (some (Operand.const (Value.int IntKind.i64 2))) none, 9, _, _, none⟩) (v := ?v2) rfl (by kernel_rfl) (by kernel_rfl) (by kernel_rfl) (fun _ _ _ h => h) (Or.inl ⟨by rfl, ?y2⟩) trivial ?r2
        case y2 => (intro w hSw; go_simp; try with_reducible rfl)
        try simp only [Act.put, List.setIfInBounds_toArray, List.set_cons_zero, List.set_cons_succ]
        refine wpAnyH_take (i := 2) (oi := ⟨some 63, Op.binOp BinOp.eql 9 (Operand.tmp 62) (Operand.const (Value.string ⟨#[120, 1]⟩)) 9, 4, _, _, none⟩) (v := ?v3) rfl (by kernel_rfl) (by kernel_rfl) (by kernel_rfl) (fun _ _ _ h => h) (Or.inl ⟨by rfl, ?y3⟩) trivial ?r3
        case y3 => (intro w hSw; go_simp; try with_reducible rfl)
        try simp only [Act.put, List.setIfInBounds_toArray, List.set_cons_zero, List.set_cons_succ]
        refine wpAnyH_take (i := 3) (oi := ⟨some 64, Op.move (Operand.tmp 63), 4, _, _, none⟩) (v := ?v4) rfl (by kernel_rfl) (by kernel_rfl) (by kernel_rfl) (fun _ _ _ h => h) (Or.inl ⟨by rfl, ?y4⟩) trivial ?r4
        case y4 => (intro w hSw; go_simp; try with_reducible rfl)
        try simp only [Act.put, List.setIfInBounds_toArray, List.set_cons_zero, List.set_cons_succ]
        refine wpAnyH_take (i := 4) (oi := ⟨some 65, Op.move (Operand.tmp 8), 9, _, _, some (3, true)⟩) (v := ?v5) rfl (by kernel_rfl) (by kernel_rfl) (by kernel_rfl) (fun _ _ _ h => h) (Or.inl ⟨by rfl, ?y5⟩) trivial ?r5
        case y5 => (intro w hSw; go_simp; try with_reducible rfl)
        try simp only [Act.put, List.setIfInBounds_toArray, List.set_cons_zero, List.set_cons_succ]
        refine wpAnyH_take (i := 5) (oi := ⟨some 66, Op.move (Operand.tmp 8), 9, _, _, some (3, true)⟩) (v := ?v6) rfl (by kernel_rfl) (by kernel_rfl) (by kernel_rfl) (fun _ _ _ h => h) (Or.inl ⟨by rfl, ?y6⟩) trivial ?r6
        case y6 => (intro w hSw; go_simp; try with_reducible rfl)
        try simp only [Act.put, List.setIfInBounds_toArray, List.set_cons_zero, List.set_cons_succ]
        refine wpAnyH_take (i := 6) (oi := ⟨some 67, Op.call { callee := Callee.builtin Builtin.len, args := #[Operand.tmp 66], argTypes := #[9] }, 3, _, _, some (3, true)⟩) (v := ?v7) rfl (by kernel_rfl) (by kernel_rfl) (by kernel_rfl) (fun _ _ _ h => h) (Or.inl ⟨by rfl, ?y7⟩) trivial ?r7
        case y7 => (intro w hSw; go_simp; try with_reducible rfl)
        try simp only [Act.put, List.setIfInBounds_toArray, List.set_cons_zero, List.set_cons_succ]
        refine wpAnyH_take (i := 7) (oi := ⟨some 68, Op.binOp BinOp.sub 3 (Operand.tmp 67) (Operand.const (Value.int IntKind.i64 4)) 3, 3, _, _, some (3, true)⟩) (v := ?v8) rfl (by kernel_rfl) (by kernel_rfl) (by kernel_rfl) (fun _ _ _ h => h) (Or.inl ⟨by rfl, ?y8⟩) trivial ?r8
        case y8 => (intro w hSw; go_simp; try with_reducible rfl)
        try simp only [Act.put, List.setIfInBounds_toArray, List.set_cons_zero, List.set_cons_succ]
        refine wpAnyH_take (i := 8) (oi := ⟨some 69, Op.slice 9 (Operand.tmp 65) (some (Operand.tmp 68)) none none, 9, _, _, some (3, true)⟩) (v := ?v9) rfl (by kernel_rfl) (by kernel_rfl) (by kernel_rfl) (fun _ _ _ h => h) (Or.inl ⟨by rfl, ?y9⟩) trivial ?r9
        case y9 => (intro w hSw; go_simp; try with_reducible rfl)
        try simp only [Act.put, List.setIfInBounds_toArray, List.set_cons_zero, List.set_cons_succ]
        refine wpAnyH_take (i := 9) (oi := ⟨some 70, Op.move (Operand.tmp 9), 34, _, _, some (3, true)⟩) (v := ?v10) rfl (by kernel_rfl) (by kernel_rfl) (by kernel_rfl) (fun _ _ _ h => h) (Or.inl ⟨by rfl, ?y10⟩) trivial ?r10
        case y10 => (intro w hSw; go_simp; try with_reducible rfl)
        try simp only [Act.put, List.setIfInBounds_toArray, List.set_cons_zero, List.set_cons_succ]
        refine wpAnyH_take (i := 10) (oi := ⟨some 71, Op.binOp BinOp.shr 34 (Operand.tmp 70) (Operand.const (Value.int IntKind.u64 24)) 36, 34, _, _, some (3, true)⟩) (v := ?v11) rfl (by kernel_rfl) (by kernel_rfl) (by kernel_rfl) (fun _ _ _ h => h) (Or.inl ⟨by rfl, ?y11⟩) trivial ?r11
        case y11 => (intro w hSw; go_simp; try with_reducible rfl)
        try simp only [Act.put, List.setIfInBounds_toArray, List.set_cons_zero, List.set_cons_succ]
        refine wpAnyH_take (i := 11) (oi := ⟨some 72, Op.convert 34 5 (Operand.tmp 71), 5, _, _, some (3, true)⟩) (v := ?v12) rfl (by kernel_rfl) (by kernel_rfl) (by kernel_rfl) (fun _ _ _ h => h) (Or.inl ⟨by rfl, ?y12⟩) trivial ?r12
        case y12 => (intro w hSw; go_simp; try with_reducible rfl)
        try simp only [Act.put, List.setIfInBounds_toArray, List.set_cons_zero, List.set_cons_succ]
        refine wpAnyH_take (i := 12) (oi := ⟨some 73, Op.move (Operand.tmp 9), 34, _, _, some (3, true)⟩) (v := ?v13) rfl (by kernel_rfl) (by kernel_rfl) (by kernel_rfl) (fun _ _ _ h => h) (Or.inl ⟨by rfl, ?y13⟩) trivial ?r13
        case y13 => (intro w hSw; go_simp; try with_reducible rfl)
        try simp only [Act.put, List.setIfInBounds_toArray, List.set_cons_zero, List.set_cons_succ]
        refine wpAnyH_take (i := 13) (oi := ⟨some 74, Op.binOp BinOp.shr 34 (Operand.tmp 73) (Operand.const (Value.int IntKind.u64 16)) 36, 34, _, _, some (3, true)⟩) (v := ?v14) rfl (by kernel_rfl) (by kernel_rfl) (by kernel_rfl) (fun _ _ _ h => h) (Or.inl ⟨by rfl, ?y14⟩) trivial ?r14
        case y14 => (intro w hSw; go_simp; try with_reducible rfl)
        try simp only [Act.put, List.setIfInBounds_toArray, List.set_cons_zero, List.set_cons_succ]
        refine wpAnyH_take (i := 14) (oi := ⟨some 75, Op.convert 34 5 (Operand.tmp 74), 5, _, _, some (3, true)⟩) (v := ?v15) rfl (by kernel_rfl) (by kernel_rfl) (by kernel_rfl) (fun _ _ _ h => h) (Or.inl ⟨by rfl, ?y15⟩) trivial ?r15
        case y15 => (intro w hSw; go_simp; try with_reducible rfl)
        try simp only [Act.put, List.setIfInBounds_toArray, List.set_cons_zero, List.set_cons_succ]
        refine wpAnyH_take (i := 15) (oi := ⟨some 76, Op.move (Operand.tmp 9), 34, _, _, some (3, true)⟩) (v := ?v16) rfl (by kernel_rfl) (by kernel_rfl) (by kernel_rfl) (fun _ _ _ h => h) (Or.inl ⟨by rfl, ?y16⟩) trivial ?r16
        case y16 => (intro w hSw; go_simp; try with_reducible rfl)
        try simp only [Act.put, List.setIfInBounds_toArray, List.set_cons_zero, List.set_cons_succ]
        refine wpAnyH_take (i := 16) (oi := ⟨some 77, Op.binOp BinOp.shr 34 (Operand.tmp 76) (Operand.const (Value.int IntKind.u64 8)) 36, 34, _, _, some (3, true)⟩) (v := ?v17) rfl (by kernel_rfl) (by kernel_rfl) (by kernel_rfl) (fun _ _ _ h => h) (Or.inl ⟨by rfl, ?y17⟩) trivial ?r17
        case y17 => (intro w hSw; go_simp; try with_reducible rfl)
        try simp only [Act.put, List.setIfInBounds_toArray, List.set_cons_zero, List.set_cons_succ]
        refine wpAnyH_take (i := 17) (oi := ⟨some 78, Op.convert 34 5 (Operand.tmp 77), 5, _, _, some (3, true)⟩) (v := ?v18) rfl (by kernel_rfl) (by kernel_rfl) (by kernel_rfl) (fun _ _ _ h => h) (Or.inl ⟨by rfl, ?y18⟩) trivial ?r18
        case y18 => (intro w hSw; go_simp; try with_reducible rfl)
        try simp only [Act.put, List.setIfInBounds_toArray, List.set_cons_zero, List.set_cons_succ]
        refine wpAnyH_take (i := 18) (oi := ⟨some 79, Op.move (Operand.tmp 9), 34, _, _, some (3, true)⟩) (v := ?v19) rfl (by kernel_rfl) (by kernel_rfl) (by kernel_rfl) (fun _ _ _ h => h) (Or.inl ⟨by rfl, ?y19⟩) trivial ?r19
        case y19 => (intro w hSw; go_simp; try with_reducible rfl)
        try simp only [Act.put, List.setIfInBounds_toArray, List.set_cons_zero, List.set_cons_succ]
        refine wpAnyH_take (i := 19) (oi := ⟨some 80, Op.convert 34 5 (Operand.tmp 79), 5, _, _, some (3, true)⟩) (v := ?v20) rfl (by kernel_rfl) (by kernel_rfl) (by kernel_rfl) (fun _ _ _ h => h) (Or.inl ⟨by rfl, ?y20⟩) trivial ?r20
        case y20 => (intro w hSw; go_simp; try with_reducible rfl)
        try simp only [Act.put, List.setIfInBounds_toArray, List.set_cons_zero, List.set_cons_succ]
        refine wpAnyH_ready (rs := [20]) (by kernel_rfl) (by simp) ?r21
        refine AllReadyH.cons (o := ⟨some 81, Op.buildSlice 37 4 #[(0, Operand.tmp 72), (1, Operand.tmp 75), (2, Operand.tmp 78), (3, Operand.tmp 80)], 37, _, _, some (3, true)⟩) rfl (fun K hK => ?s21) AllReadyH.nil
        go_simp
        refine hK.out _ _ trivial (fun hHeld => ?_)
        clear hK K
        try simp only [Act.put, List.setIfInBounds_toArray, List.set_cons_zero, List.set_cons_succ]
        refine wpAnyH_ready (rs := [21]) (by kernel_rfl) (by simp) ?r22
        refine AllReadyH.cons (o := ⟨some 82, Op.convert 37 9 (Operand.tmp 81), 9, _, _, some (3, true)⟩) rfl (fun K hK => ?s22) AllReadyH.nil
        go_simp
        refine hK.out _ _ trivial (fun hHeld => ?_)
        clear hK K
        try simp only [Act.put, List.setIfInBounds_toArray, List.set_cons_zero, List.set_cons_succ]
        refine wpAnyH_take (i := 22) (oi := ⟨some 83, Op.binOp BinOp.eql 9 (Operand.tmp 69) (Operand.tmp 82) 9, 4, _, _, some (3, true)⟩) (v := ?v23) rfl (by kernel_rfl) (by kernel_rfl) (by kernel_rfl) (fun _ _ _ h => h) (Or.inl ⟨by rfl, ?y23⟩) trivial ?r23
        case y23 => (intro w hSw; go_simp; try with_reducible rfl)
        try simp only [Act.put, List.setIfInBounds_toArray, List.set_cons_zero, List.set_cons_succ]
        refine wpAnyH_take (i := 23) (oi := ⟨some 84, Op.pick (Operand.tmp 64) (Operand.tmp 83) (Operand.const (Value.bool false)), 4, _, _, none⟩) (v := ?v24) rfl (by kernel_rfl) (by kernel_rfl) (by kernel_rfl) (fun _ _ _ h => h) (Or.inl ⟨by rfl, ?y24⟩) trivial ?r24
        case y24 => (intro w hSw; go_simp; try with_reducible rfl)
        try simp only [Act.put, List.setIfInBounds_toArray, List.set_cons_zero, List.set_cons_succ]
        refine wpAnyH_take (i := 24) (oi := ⟨some 85, Op.move (Operand.tmp 84), 4, _, _, none⟩) (v := ?v25) rfl (by kernel_rfl) (by kernel_rfl) (by kernel_rfl) (fun _ _ _ h => h) (Or.inl ⟨by rfl, ?y25⟩) trivial ?r25
        case y25 => (intro w hSw; go_simp; try with_reducible rfl)
        try simp only [Act.put, List.setIfInBounds_toArray, List.set_cons_zero, List.set_cons_succ]
        refine wpAnyH_ready (rs := [25]) (by kernel_rfl) (by simp) ?r26
        refine AllReadyH.cons (o := ⟨some 86, Op.call { callee := Callee.value (Operand.func 11), args := #[], argTypes := #[] }, 4, _, _, some (24, true)⟩) rfl (fun K hK => ?s26) AllReadyH.nil
        go_simp
        refine (example_any _).mono ?_; rintro e w9 ⟨rfl, hb9⟩; simp only []
        refine hK.out _ _ trivial (fun hHeld => ?_)
        clear hK K
        try simp only [Act.put, List.setIfInBounds_toArray, List.set_cons_zero, List.set_cons_succ]
        refine wpAnyH_take (i := 26) (oi := ⟨some 87, Op.pick (Operand.tmp 85) (Operand.tmp 86) (Operand.const (Value.bool false)), 4, _, _, none⟩) (v := ?v27) rfl (by kernel_rfl) (by kernel_rfl) (by kernel_rfl) (fun _ _ _ h => h) (Or.inl ⟨by rfl, ?y27⟩) trivial ?r27
        case y27 => (intro w hSw; go_simp; try with_reducible rfl)
        try simp only [Act.put, List.setIfInBounds_toArray, List.set_cons_zero, List.set_cons_succ]
        refine wpAnyH_take (i := 27) (oi := ⟨some 2, Op.assign (Operand.tmp 87), 4, _, _, none⟩) (v := ?v28) rfl (by kernel_rfl) (by kernel_rfl) (by kernel_rfl) (fun _ _ _ h => h) (Or.inl ⟨by rfl, ?y28⟩) trivial ?r28
        case y28 => (intro w hSw; go_simp; try with_reducible rfl)
        try simp only [Act.put, List.setIfInBounds_toArray, List.set_cons_zero, List.set_cons_succ]
        refine wpAnyH_done (by kernel_rfl) ?_ _
        clear u0 u1 u2 u3 hcv wz
        go_wp2_with fail
        go_ret
        exact ⟨rfl, bthen hbb (below_alloc_drew hb9)⟩
end Go.Proofs.Ytppfjofaegbbjaa
