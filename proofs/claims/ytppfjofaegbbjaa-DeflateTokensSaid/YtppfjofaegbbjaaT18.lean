/-
  The law DeflateTokens: the bits of deflate.Fixed are read back as the longest and nearest matches, for every string of at most 6000 bytes.
-/
import Derived.Test.YtppfjofaegbbjaaT17
import Derived.Deep.RegionHeld3
namespace Go.Proofs.Ytppfjofaegbbjaa
open Go.RowKit

theorem sym_nine {l : List Bool} {k v : Nat} (h : Stands l k (symBits v)) (hv : v < 288) : (symV l k).2 ≠ 9 ∨ 256 ≤ codeV l k 9 := by
  rw [symV_stands h hv]
  unfold symBits at h ⊢
  by_cases h1 : v < 144
  · rw [if_pos h1, codeBits_length]; exact .inl (by simp)
  rw [if_neg h1] at h ⊢
  by_cases h2 : v < 256
  · rw [if_pos h2] at h
    exact .inr (by rw [codeV_stands h (by omega)]; omega)
  rw [if_neg h2] at h ⊢
  by_cases h3 : v < 280
  · rw [if_pos h3, codeBits_length]; exact .inl (by simp)
  · rw [if_neg h3, codeBits_length]; exact .inl (by simp)

/-- The reader reads a symbol that stands there. -/
theorem lsym_at (w : World) (B g k v : Nat) (z : ByteArray) (bs : List Bool) (hz : z.data.toList = pack bs) (h : Rd w g z k) (hB : B ≤ g) (hk : k < 800000000) (hs : Stands bs k (symBits v)) (hv : v < 288) :
    Calls Try.prog 16 #[.pointer (some ⟨g, 0, none⟩)] w fun e w' => e = .returned (.int .i64 v) ∧ Rd w' g z (k + (symBits v).length) ∧ Fr B [27] w w' := by
  have h1 := lsymbol_any w B g k z bs hz h hB hk (sym_nine hs hv)
  rw [symV_stands hs hv] at h1
  exact h1
theorem lnum_at (w : World) (B g k v n : Nat) (z : ByteArray) (bs : List Bool) (hz : z.data.toList = pack bs) (h : Rd w g z k) (hB : B ≤ g) (hk : k < 800000000) (hn : n ≤ 20) (hs : Stands bs k (numBits v n)) (hv : v < 2 ^ n) :
    Calls Try.prog 14 #[.pointer (some ⟨g, 0, none⟩), .int .i64 n] w fun e w' => e = .returned (.int .i64 v) ∧ Rd w' g z (k + n) ∧ Fr B [27] w w' := by
  have h1 := lnumber_any w B g k n z bs hz h hB (by omega) hn
  rw [numV_stands hs hv] at h1
  exact h1
theorem lcode_at (w : World) (B g k v n : Nat) (z : ByteArray) (bs : List Bool) (hz : z.data.toList = pack bs) (h : Rd w g z k) (hB : B ≤ g) (hk : k < 800000000) (hn : n ≤ 20) (hs : Stands bs k (codeBits v n)) (hv : v < 2 ^ n) :
    Calls Try.prog 19 #[.pointer (some ⟨g, 0, none⟩), .int .i64 n] w fun e w' => e = .returned (.int .i64 v) ∧ Rd w' g z (k + n) ∧ Fr B [27] w w' := by
  have h1 := lcode_any w B g k n z bs hz h hB (by omega) hn
  rw [codeV_stands hs hv] at h1
  exact h1

set_option maxRecDepth 100000 in
set_option maxHeartbeats 4000000 in
theorem lawTokens (s : ByteArray) (w : World) (hs : s.size ≤ maxLen) :
    Calls Try.prog 5 #[.string s] w fun e w' => e = .returned (.bool true) ∧ Below w.heap.size w w' := by
  by_cases h6 : s.size ≤ 6000
  case neg =>
    have hd : (6000 : Int) < (s.size : Int) := by omega
    go_enter Try.func5, Try.ntmps5
    go_wp2_with fail
    go_ret
    exact ⟨rfl, Below.refl _ _⟩
  have hln : s.data.toList.length = s.size := by simp
  have h1 := fixed_any s w hs
  rw [List.take_of_length_le (by rw [hln]; omega), fixed] at h1
  obtain ⟨F, hF⟩ : ∃ F, F = fixedBits s.data.toList := ⟨_, rfl⟩
  rw [← hF] at h1
  have hst0 : Stands F 0 (numBits 1 1 ++ (numBits 1 2 ++ (fixedGo s.data.toList (s.data.toList.length - 0) 0 ++ symBits 256))) := by
    have h2 := stands_refl F
    rw [hF] at h2 ⊢
    rw [fixedBits] at h2 ⊢
    simpa using h2
  have hFl : F.length = 10 + (fixedGo s.data.toList (s.data.toList.length - 0) 0).length := by
    rw [hF, fixedBits]
    have h256 : (symBits 256).length = 7 := by decide
    simp only [List.length_append, numBits_length, h256, Nat.sub_zero]
    omega
  have hgl := fixedGo_len s.data.toList (s.data.toList.length - 0) 0 (Nat.zero_le _)
  have hFb : F.length ≤ 100000 := by omega
  obtain ⟨z, hz⟩ : ∃ z : ByteArray, z = ⟨(pack F).toArray⟩ := ⟨_, rfl⟩
  rw [← hz] at h1
  have hzl : z.data.toList = pack F := by rw [hz]
  have hzs : z.size = (F.length + 7) / 8 := by rw [← pack_length, ← hzl]; simp
  have H1 := Lib.hid h1
  have HF := Lib.hid hF
  have HZ := Lib.hid hzl
  have HZS := Lib.hid hzs
  have HFL := Lib.hid hFl
  have HLN := Lib.hid hln
  have HST := Lib.hid hst0
  clear h1 hF hz hzl hzs hFl hln hst0 hgl
  have hd : ¬ (6000 : Int) < (s.size : Int) := by omega
  go_enter Try.func5, Try.ntmps5
  go_wp2_with fail
  refine H1.out.mono ?_
  rintro e w1 ⟨rfl, hb1⟩
  clear H1
  go_wp2_with fail
  have hr0 : Rd (w1.alloc (.cells #[.string z, .int .i64 0] 27)) w1.heap.size z 0 := Blk.new w1 _ _
  have hb2 : Below w.heap.size w (w1.alloc (.cells #[.string z, .int .i64 0] 27)) := hb1.alloc hb1.size _
  have hBg : w.heap.size ≤ w1.heap.size := hb1.size
  have hsz0 : w.heap.size ≤ (w1.alloc (.cells #[.string z, .int .i64 0] 27)).heap.size := hb2.size
  generalize w1.alloc (.cells #[.string z, .int .i64 0] 27) = wa at *
  generalize w1.heap.size = g at *
  obtain ⟨B, hB⟩ : ∃ B, B = w.heap.size := ⟨_, rfl⟩
  rw [← hB] at hb2 hBg hsz0
  have HB := Lib.hid hB
  clear hB hb1
  refine (lnum_at _ B g 0 1 1 z F HZ.out hr0 hBg (by omega) (by omega) HST.out.left (by decide)).mono ?_
  rintro e w2 ⟨rfl, hr2, hf2⟩
  go_wp2_with fail
  have HST1 := Lib.hid (HST.out.right (numBits_length 1 1))
  refine (lnum_at _ B g (0 + 1) 1 2 z F HZ.out hr2 hBg (by omega) (by omega) HST1.out.left (by decide)).mono ?_
  rintro e w3 ⟨rfl, hr3, hf3⟩
  have HST2 := Lib.hid (HST1.out.right (numBits_length 1 2))
  have hb3 : Below B w w3 := hb2.trans ((hf2.trans hf3).below hsz0)
  have hsz3 : B ≤ w3.heap.size := Nat.le_trans hsz0 (hf2.trans hf3).size
  clear hr0 hr2 hf2 hf3 hb2 hsz0 HST HST1
  go_wp2_with fail
  go_loopw [4, 5, 6, 7, 8, 9, 10] (fun vp _ _ _ _ _ _ wr => ∃ (p k : Nat), vp = .int .i64 p ∧ p ≤ s.size ∧ Rd wr g z k ∧ k ≤ F.length ∧ Hid (Stands F k (fixedGo s.data.toList (s.data.toList.length - p) p ++ symBits 256)) ∧
      Hid (k + (fixedGo s.data.toList (s.data.toList.length - p) p).length + 7 = F.length) ∧ Below B w wr ∧ B ≤ wr.heap.size) (fun vp _ _ _ _ _ _ _ => s.size - (intOf vp).toNat)
  case atStart => exact ⟨0, 3, rfl, Nat.zero_le _, hr3, by have := HFL.out; omega, HST2.out, by show _ = _; have := HFL.out; omega, hb3, hsz3⟩
  case round =>
    clear hr3 hb3 hsz3 HST2 HFL
    obtain ⟨p, k, rfl, hp, hr, hk, hst, hkl, hbel, hsz⟩ := hrel
    by_cases hlt : p < s.size
    · go_wp2_with fail
      refine (rmatch_any _ s p hlt (by omega)).mono ?_
      rintro e w4 ⟨rfl, n4, hn4⟩
      have hr4 : Rd w4 g z k := by rw [hn4]; exact hr.drewN n4
      have hb4 : Below B w w4 := by rw [hn4]; exact ⟨hbel.os, hbel.tape, hbel.output, hbel.size, hbel.block⟩
      have hs4 : B ≤ w4.heap.size := by rw [hn4]; exact hsz
      clear hn4 hr hbel hsz
      have hok := matchP_ok s.data.toList p
      have htk := tok_pos s.data.toList p (by rw [HLN.out]; exact hlt)
      have htb := tok_bits s.data.toList p
      have hte : Hid (tok s.data.toList p = if (matchP s.data.toList p).1 = 0 then (symBits (at8 s.data.toList p).toNat, 1) else (matchBits (matchP s.data.toList p).1 (matchP s.data.toList p).2, (matchP s.data.toList p).1)) := rfl
      have hstep := fixedGo_step s.data.toList p (by rw [HLN.out]; exact hlt)
      rw [HLN.out] at htk hok
      have hst' : Hid (Stands F k ((tok s.data.toList p).1 ++ (fixedGo s.data.toList (s.data.toList.length - (p + (tok s.data.toList p).2)) (p + (tok s.data.toList p).2) ++ symBits 256))) := by
        have h2 := hst.out
        rw [hstep, List.append_assoc] at h2
        exact h2
      have hkl' : Hid (k + (tok s.data.toList p).1.length + (fixedGo s.data.toList (s.data.toList.length - (p + (tok s.data.toList p).2)) (p + (tok s.data.toList p).2)).length + 7 = F.length) := by
        have h2 := hkl.out
        rw [hstep, List.length_append] at h2
        show _ = _
        omega
      clear hstep hst hkl
      generalize matchP s.data.toList p = nd at *
      generalize tok s.data.toList p = tk at *
      obtain ⟨n, d⟩ := nd
      obtain ⟨tb, tn⟩ := tk
      simp only at hok htk htb hte hst' hkl'
      have HOK := Lib.hid hok
      clear hok
      by_cases hn0 : n = 0
      · subst hn0
        have hte' := hte.out
        rw [if_pos rfl] at hte'
        injection hte' with h1 h2
        obtain rfl : tn = 1 := h2
        have hbt := (at8 s.data.toList p).toNat_lt
        have hat : Hid (at8 s.data.toList p = s[p]) := by show _ = _; rw [at8, ← byte_at s p hlt]
        have hss := hst'.out.left
        rw [h1] at hss
        have HSS := Lib.hid hss
        have H1 := Lib.hid h1
        clear hss h1 hte
        go_wp2_with fail
        refine (lsym_at _ B g k _ z F HZ.out hr4 hBg (by omega) HSS.out (by omega)).mono ?_
        rintro e w5 ⟨rfl, hr5, hf5⟩
        have hb5 : Below B w w5 := hb4.trans (hf5.below hs4)
        have hs5 : B ≤ w5.heap.size := Nat.le_trans hs4 hf5.size
        have htest : ((((at8 s.data.toList p).toNat : Nat) : Int) != wrap64 (s[p].toNat : Int)) = false := by rw [hat.out, wrap64_byte']; simp
        generalize at8 s.data.toList p = c at *
        go_wp2_with fail
        go_roundw
        case rel =>
          have hlen : (symBits c.toNat).length = tb.length := by rw [H1.out]
          rw [hlen] at hr5
          refine ⟨p + 1, k + tb.length, by go_num, by omega, hr5, by have := hkl'.out; omega, hst'.out.right rfl, hkl', hb5, hs5⟩
        case measure => simp [intOf]; omega
      · have hne : ((n : Int) == 0) = false := by simp; omega
        obtain ⟨o1, o2, o3, o4, o5, o6, _⟩ := HOK.out hn0
        have hte' := hte.out
        rw [if_neg hn0] at hte'
        injection hte' with h1 h2
        obtain rfl : tn = n := h2
        obtain ⟨a1, a2, a3, a4, a5⟩ := lenSym_ok tn o1 o2
        obtain ⟨b1, b2, b3, b4⟩ := distSym_ok d o4 o5
        have hss := hst'.out.left
        rw [h1, matchBits] at hss
        simp only [List.append_assoc] at hss
        have s1 := hss.left
        have s2 := hss.right rfl
        have s3 := s2.right (numBits_length _ _)
        have s4 := s3.right (codeBits_length _ _)
        have hlen : tb.length = (symBits (lenSym tn).1).length + (lenSym tn).2.2 + 5 + (distSym d).2.2 := by
          rw [h1, matchBits]; simp only [List.length_append, numBits_length, codeBits_length]
        have l9 := symBits_length (lenSym tn).1
        have S1 := Lib.hid s1
        have S2 := Lib.hid s2.left
        have S3 := Lib.hid s3.left
        have S4 := Lib.hid s4
        have HLEN := Lib.hid hlen
        have A4 := Lib.hid a4
        have B3 := Lib.hid b3
        clear hss s1 s2 s3 s4 hlen hte h1 HOK a4 b3
        go_wp2_with fail
        refine (lsym_at _ B g k _ z F HZ.out hr4 hBg (by omega) S1.out (by omega)).mono ?_
        rintro e w5 ⟨rfl, hr5, hf5⟩
        go_wp2_with fail
        refine (rlenSym_any tn _ o2).mono ?_
        rintro e w6 ⟨rfl, rfl⟩
        go_wp2_with fail
        refine (lnum_at _ B g _ (tn - (lenSym tn).2.1) (lenSym tn).2.2 z F HZ.out hr5 hBg (by omega) (by omega) S2.out (by have := A4.out; omega)).mono ?_
        rintro e w6 ⟨rfl, hr6, hf6⟩
        have ht1 : (((lenSym tn).2.1 : Int) + ((tn - (lenSym tn).2.1 : Nat) : Int) != (tn : Int)) = false := by simp; omega
        have e1 : ((tn - (lenSym tn).2.1 : Nat) : Int) = (tn : Int) - ((lenSym tn).2.1 : Int) := by omega
        have hsum : ((lenSym tn).2.1 : Int) + ((tn : Int) - ((lenSym tn).2.1 : Int)) = (tn : Int) := by omega
        rw [e1] at ht1 ⊢
        clear e1
        go_wp2_with fail
        clear ht1
        refine (rdistSym_any d _ o4 o5).mono ?_
        rintro e w7 ⟨rfl, rfl⟩
        go_wp2_with fail
        refine (lcode_at _ B g _ (distSym d).1 5 z F HZ.out hr6 hBg (by omega) (by omega) S3.out (by omega)).mono ?_
        rintro e w7 ⟨rfl, hr7, hf7⟩
        go_wp2_with fail
        refine (lnum_at _ B g _ (d - (distSym d).2.1) (distSym d).2.2 z F HZ.out hr7 hBg (by omega) (by omega) S4.out (by have := B3.out; omega)).mono ?_
        rintro e w8 ⟨rfl, hr8, hf8⟩
        have ht2 : (((distSym d).2.1 : Int) + ((d - (distSym d).2.1 : Nat) : Int) != (d : Int)) = false := by simp; omega
        have e2 : ((d - (distSym d).2.1 : Nat) : Int) = (d : Int) - ((distSym d).2.1 : Int) := by omega
        rw [e2] at ht2 ⊢
        clear e2
        have hfr := hf5.trans (hf6.trans (hf7.trans hf8))
        have hb8 : Below B w w8 := hb4.trans (hfr.below hs4)
        have hs8 : B ≤ w8.heap.size := Nat.le_trans hs4 hfr.size
        have hr9 : Rd w8 g z (k + tb.length) := by
          have e3 : k + tb.length = k + (symBits (lenSym tn).1).length + (lenSym tn).2.2 + 5 + (distSym d).2.2 := by rw [HLEN.out]; omega
          rw [e3]; exact hr8
        clear hf5 hf6 hf7 hf8 hr5 hr6 hr7 hr8 hfr
        go_wp2_with fail
        go_roundw
        case rel => exact ⟨p + tn, k + tb.length, by go_num, by omega, hr9, by have := hkl'.out; omega, hst'.out.right rfl, hkl', hb8, hs8⟩
        case measure => simp [intOf]; omega
    · have hend := fixedGo_end s.data.toList p (by rw [HLN.out]; omega)
      have hss := hst.out
      have hkk := hkl.out
      rw [hend] at hss hkk
      have hkF : Hid (k + 7 = F.length) := by show _ = _; simpa using hkk
      have HSY : Hid (Calls Try.prog 16 #[.pointer (some ⟨g, 0, none⟩)] wr.drew fun e w' => e = .returned (.int .i64 256) ∧ Rd w' g z (k + 7) ∧ Fr B [27] wr.drew w') := by
        have h256 : (symBits 256).length = 7 := by decide
        have h2 := lsym_at wr.drew B g k 256 z F HZ.out hr hBg (by omega) (by simpa using hss) (by omega)
        rw [h256] at h2
        exact h2
      clear hss hkk hend
      go_wp2_with fail
      have q1 : IntKind.i64.wrap ((F.length : Int) + 7) = (F.length : Int) + 7 := IntWalk.i64_in _ (by omega)
      have q2 : ((F.length : Int) + 7).tdiv 8 = (z.size : Int) := by
        rw [Int.tdiv_eq_ediv_of_nonneg (by omega)]; have := HZS.out; omega
      have q3 : IntKind.i64.wrap (z.size : Int) = (z.size : Int) := IntWalk.i64_in _ (by have := HZS.out; omega)
      refine wp_region_held_drew (S := fun _ => True) (by kernel_rfl) trivial (fun hHeld => ?_)
      refine wpAnyH_take (i := 0) (oi := ⟨some 88, Op.move (Operand.tmp 3), 25, _, _, none⟩) (v := ?v1) rfl (by kernel_rfl) (by kernel_rfl) (by kernel_rfl) (fun _ _ _ h => h) (Or.inl ⟨by rfl, ?y1⟩) trivial ?r1
      case y1 => (intro w hSw; (try dsimp only at hSw); go_simp; try with_reducible rfl)
      try simp only [Act.put, List.setIfInBounds_toArray, List.set_cons_zero, List.set_cons_succ]
      refine wpAnyH_ready (rs := [1]) (by kernel_rfl) (by simp) ?r2
      refine AllReadyH.cons (o := ⟨some 89, Op.call { callee := Callee.value (Operand.func 16), args := #[Operand.tmp 88], argTypes := #[25] }, 3, _, _, none⟩) rfl (fun K hK => ?s2) AllReadyH.nil
      go_simp
      refine HSY.out.mono ?_; rintro e w5 ⟨rfl, hr5, hf5⟩; simp only []
      refine hK.out _ _ trivial (fun hHeld => ?_)
      clear hK K
      try simp only [Act.put, List.setIfInBounds_toArray, List.set_cons_zero, List.set_cons_succ]
      have hgl5 : g < w5.heap.size := Blk.lt hr5
      have hS : (fun W : World => W.cell? ⟨g, 0, none⟩ = some (.string z) ∧ W.cell? ⟨g, 1, none⟩ = some (.int .i64 (F.length : Int))) w5 := ⟨by simpa using Blk.cell hr5 0, by simpa [hkF.out] using Blk.cell hr5 1⟩
      refine wpAnyH_weaken (S2 := fun W => W.cell? ⟨g, 0, none⟩ = some (.string z) ∧ W.cell? ⟨g, 1, none⟩ = some (.int .i64 (F.length : Int))) (fun _ _ => trivial) ?_
      refine wpAnyH_take (i := 2) (oi := ⟨some 90, Op.binOp BinOp.eql 3 (Operand.tmp 89) (Operand.const (Value.int IntKind.i64 256)) 3, 4, _, _, none⟩) (v := ?v3) rfl (by kernel_rfl) (by kernel_rfl) (by kernel_rfl) (fun _ _ _ h => h) (Or.inl ⟨by rfl, ?y3⟩) hS ?r3
      case y3 => (intro w hSw; (try dsimp only at hSw); go_simp; try with_reducible rfl)
      try simp only [Act.put, List.setIfInBounds_toArray, List.set_cons_zero, List.set_cons_succ]
      refine wpAnyH_take (i := 3) (oi := ⟨some 91, Op.move (Operand.tmp 90), 4, _, _, none⟩) (v := ?v4) rfl (by kernel_rfl) (by kernel_rfl) (by kernel_rfl) (fun _ _ _ h => h) (Or.inl ⟨by rfl, ?y4⟩) hS ?r4
      case y4 => (intro w hSw; (try dsimp only at hSw); go_simp; try with_reducible rfl)
      try simp only [Act.put, List.setIfInBounds_toArray, List.set_cons_zero, List.set_cons_succ]
      refine wpAnyH_take (i := 4) (oi := ⟨some 92, Op.move (Operand.tmp 3), 25, _, _, some (3, true)⟩) (v := ?v5) rfl (by kernel_rfl) (by kernel_rfl) (by kernel_rfl) (fun _ _ _ h => h) (Or.inl ⟨by rfl, ?y5⟩) hS ?r5
      case y5 => (intro w hSw; (try dsimp only at hSw); go_simp; try with_reducible rfl)
      try simp only [Act.put, List.setIfInBounds_toArray, List.set_cons_zero, List.set_cons_succ]
      refine wpAnyH_take (i := 5) (oi := ⟨some 93, Op.nilCheck (Operand.tmp 92), 0, _, _, some (3, true)⟩) (v := ?v6) rfl (by kernel_rfl) (by kernel_rfl) (by kernel_rfl) (fun _ _ _ h => h) (Or.inl ⟨by rfl, ?y6⟩) hS ?r6
      case y6 => (intro w hSw; (try dsimp only at hSw); go_simp; try with_reducible rfl)
      try simp only [Act.put, List.setIfInBounds_toArray, List.set_cons_zero, List.set_cons_succ]
      refine wpAnyH_take (i := 6) (oi := ⟨some 94, Op.fieldAddr 27 (Operand.tmp 93) 1, 0, _, _, some (3, true)⟩) (v := ?v7) rfl (by kernel_rfl) (by kernel_rfl) (by kernel_rfl) (fun _ _ _ h => h) (Or.inl ⟨by rfl, ?y7⟩) hS ?r7
      case y7 => (intro w hSw; (try dsimp only at hSw); go_simp; try with_reducible rfl)
      try simp only [Act.put, List.setIfInBounds_toArray, List.set_cons_zero, List.set_cons_succ]
      refine wpAnyH_take (i := 7) (oi := ⟨some 95, Op.load 3 (Operand.tmp 94), 3, _, _, some (3, true)⟩) (v := ?v8) rfl (by kernel_rfl) (by kernel_rfl) (by kernel_rfl) (fun _ _ _ h => h) (Or.inl ⟨by rfl, ?y8⟩) hS ?r8
      case y8 => (intro w hSw; (try dsimp only at hSw); go_simp; try with_reducible rfl)
      try simp only [Act.put, List.setIfInBounds_toArray, List.set_cons_zero, List.set_cons_succ]
      refine wpAnyH_take (i := 8) (oi := ⟨some 96, Op.binOp BinOp.add 3 (Operand.tmp 95) (Operand.const (Value.int IntKind.i64 7)) 3, 3, _, _, some (3, true)⟩) (v := ?v9) rfl (by kernel_rfl) (by kernel_rfl) (by kernel_rfl) (fun _ _ _ h => h) (Or.inl ⟨by rfl, ?y9⟩) hS ?r9
      case y9 => (intro w hSw; (try dsimp only at hSw); go_simp; try with_reducible rfl)
      try simp only [Act.put, List.setIfInBounds_toArray, List.set_cons_zero, List.set_cons_succ]
      refine wpAnyH_take (i := 9) (oi := ⟨some 97, Op.binOp BinOp.quo 3 (Operand.tmp 96) (Operand.const (Value.int IntKind.i64 8)) 3, 3, _, _, some (3, true)⟩) (v := ?v10) rfl (by kernel_rfl) (by kernel_rfl) (by kernel_rfl) (fun _ _ _ h => h) (Or.inl ⟨by rfl, ?y10⟩) hS ?r10
      case y10 => (intro w hSw; (try dsimp only at hSw); go_simp; try with_reducible rfl)
      try simp only [Act.put, List.setIfInBounds_toArray, List.set_cons_zero, List.set_cons_succ]
      refine wpAnyH_take (i := 10) (oi := ⟨some 98, Op.move (Operand.tmp 3), 25, _, _, some (3, true)⟩) (v := ?v11) rfl (by kernel_rfl) (by kernel_rfl) (by kernel_rfl) (fun _ _ _ h => h) (Or.inl ⟨by rfl, ?y11⟩) hS ?r11
      case y11 => (intro w hSw; (try dsimp only at hSw); go_simp; try with_reducible rfl)
      try simp only [Act.put, List.setIfInBounds_toArray, List.set_cons_zero, List.set_cons_succ]
      refine wpAnyH_take (i := 11) (oi := ⟨some 99, Op.nilCheck (Operand.tmp 98), 0, _, _, some (3, true)⟩) (v := ?v12) rfl (by kernel_rfl) (by kernel_rfl) (by kernel_rfl) (fun _ _ _ h => h) (Or.inl ⟨by rfl, ?y12⟩) hS ?r12
      case y12 => (intro w hSw; (try dsimp only at hSw); go_simp; try with_reducible rfl)
      try simp only [Act.put, List.setIfInBounds_toArray, List.set_cons_zero, List.set_cons_succ]
      refine wpAnyH_take (i := 12) (oi := ⟨some 100, Op.fieldAddr 27 (Operand.tmp 99) 0, 0, _, _, some (3, true)⟩) (v := ?v13) rfl (by kernel_rfl) (by kernel_rfl) (by kernel_rfl) (fun _ _ _ h => h) (Or.inl ⟨by rfl, ?y13⟩) hS ?r13
      case y13 => (intro w hSw; (try dsimp only at hSw); go_simp; try with_reducible rfl)
      try simp only [Act.put, List.setIfInBounds_toArray, List.set_cons_zero, List.set_cons_succ]
      refine wpAnyH_take (i := 13) (oi := ⟨some 101, Op.load 9 (Operand.tmp 100), 9, _, _, some (3, true)⟩) (v := ?v14) rfl (by kernel_rfl) (by kernel_rfl) (by kernel_rfl) (fun _ _ _ h => h) (Or.inl ⟨by rfl, ?y14⟩) hS ?r14
      case y14 => (intro w hSw; (try dsimp only at hSw); go_simp; try with_reducible rfl)
      try simp only [Act.put, List.setIfInBounds_toArray, List.set_cons_zero, List.set_cons_succ]
      refine wpAnyH_take (i := 14) (oi := ⟨some 102, Op.call { callee := Callee.builtin Builtin.len, args := #[Operand.tmp 101], argTypes := #[9] }, 3, _, _, some (3, true)⟩) (v := ?v15) rfl (by kernel_rfl) (by kernel_rfl) (by kernel_rfl) (fun _ _ _ h => h) (Or.inl ⟨by rfl, ?y15⟩) hS ?r15
      case y15 => (intro w hSw; (try dsimp only at hSw); go_simp; try with_reducible rfl)
      try simp only [Act.put, List.setIfInBounds_toArray, List.set_cons_zero, List.set_cons_succ]
      refine wpAnyH_take (i := 15) (oi := ⟨some 103, Op.binOp BinOp.eql 3 (Operand.tmp 97) (Operand.tmp 102) 3, 4, _, _, some (3, true)⟩) (v := ?v16) rfl (by kernel_rfl) (by kernel_rfl) (by kernel_rfl) (fun _ _ _ h => h) (Or.inl ⟨by rfl, ?y16⟩) hS ?r16
      case y16 => (intro w hSw; (try dsimp only at hSw); go_simp; try with_reducible rfl)
      try simp only [Act.put, List.setIfInBounds_toArray, List.set_cons_zero, List.set_cons_succ]
      refine wpAnyH_take (i := 16) (oi := ⟨some 104, Op.pick (Operand.tmp 91) (Operand.tmp 103) (Operand.const (Value.bool false)), 4, _, _, none⟩) (v := ?v17) rfl (by kernel_rfl) (by kernel_rfl) (by kernel_rfl) (fun _ _ _ h => h) (Or.inl ⟨by rfl, ?y17⟩) hS ?r17
      case y17 => (intro w hSw; (try dsimp only at hSw); go_simp; try with_reducible rfl)
      try simp only [Act.put, List.setIfInBounds_toArray, List.set_cons_zero, List.set_cons_succ]
      refine wpAnyH_take (i := 17) (oi := ⟨some 105, Op.move (Operand.tmp 104), 4, _, _, none⟩) (v := ?v18) rfl (by kernel_rfl) (by kernel_rfl) (by kernel_rfl) (fun _ _ _ h => h) (Or.inl ⟨by rfl, ?y18⟩) hS ?r18
      case y18 => (intro w hSw; (try dsimp only at hSw); go_simp; try with_reducible rfl)
      try simp only [Act.put, List.setIfInBounds_toArray, List.set_cons_zero, List.set_cons_succ]
      refine wpAnyH_ready (rs := [18]) (by kernel_rfl) (by simp) ?r19
      refine AllReadyH.cons (o := ⟨some 106, Op.call { callee := Callee.value (Operand.func 11), args := #[], argTypes := #[] }, 4, _, _, some (17, true)⟩) rfl (fun K hK => ?s19) AllReadyH.nil
      go_simp
      refine (example_any _).mono ?_; rintro e w9 ⟨rfl, hb9⟩; simp only []
      refine hK.out _ _ ?k19 (fun hHeld => ?_)
      case k19 => (exact ⟨(hb9.cell (p := ⟨g, 0, none⟩) hgl5).trans hS.1, (hb9.cell (p := ⟨g, 1, none⟩) hgl5).trans hS.2⟩)
      clear hS
      have hS := hHeld
      clear hHeld
      clear hK K
      try simp only [Act.put, List.setIfInBounds_toArray, List.set_cons_zero, List.set_cons_succ]
      refine wpAnyH_take (i := 19) (oi := ⟨some 107, Op.pick (Operand.tmp 105) (Operand.tmp 106) (Operand.const (Value.bool false)), 4, _, _, none⟩) (v := ?v20) rfl (by kernel_rfl) (by kernel_rfl) (by kernel_rfl) (fun _ _ _ h => h) (Or.inl ⟨by rfl, ?y20⟩) hS ?r20
      case y20 => (intro w hSw; (try dsimp only at hSw); go_simp; try with_reducible rfl)
      try simp only [Act.put, List.setIfInBounds_toArray, List.set_cons_zero, List.set_cons_succ]
      refine wpAnyH_take (i := 20) (oi := ⟨some 2, Op.assign (Operand.tmp 107), 4, _, _, none⟩) (v := ?v21) rfl (by kernel_rfl) (by kernel_rfl) (by kernel_rfl) (fun _ _ _ h => h) (Or.inl ⟨by rfl, ?y21⟩) hS ?r21
      case y21 => (intro w hSw; (try dsimp only at hSw); go_simp; try with_reducible rfl)
      try simp only [Act.put, List.setIfInBounds_toArray, List.set_cons_zero, List.set_cons_succ]
      refine wpAnyH_done (by kernel_rfl) ?_ _
      clear q1 q2 q3
      go_wp2_with fail
      go_ret
      refine ⟨rfl, ?_⟩
      have hf5' : Fr B [27] wr w5 := ((Fr.refl _ _ wr).drew).trans hf5
      have hb5 : Below B w w5 := hbel.trans (hf5'.below hsz)
      rw [← HB.out]
      exact hb5.trans (hb9.mono (Nat.le_trans hsz hf5'.size))
end Go.Proofs.Ytppfjofaegbbjaa
