/-
  Walk: the codes of a dynamic block, in the reference.
-/
import Derived.Test.YtkbelkdephfhpaaJ10
import Derived.Test.YtkbelkdephfhpaaJ4
import Derived.Test.YtkbelkdephfhpaaI13
import Derived.Deep.RegionHeld3
namespace Go.Proofs.Ytkbelkdephfhpaa
open Go.RowKit

theorem ordV_row : ordV = rowA ordC := rfl
theorem sum_used (l : List Nat) (h15 : ∀ n ∈ l, n ≤ 15) : sumC l = 0 ↔ usedC l = 0 := by
  induction l with
  | nil => simp [sumC, usedC]
  | cons x l ih =>
    have ih := ih (fun n hn => h15 n (List.mem_cons_of_mem _ hn))
    have hu : usedC (x :: l) = (if x = 0 then 0 else 1) + usedC l := by
      unfold usedC
      rw [List.countP_cons]
      by_cases hx : x = 0 <;> simp [hx]
      omega
    have hp : 0 < 2 ^ (15 - x) := Nat.two_pow_pos _
    rw [hu, sumC]
    by_cases hx : x = 0
    · simp only [hx, if_true]; omega
    · simp only [hx, if_false]; omega
def dynC (h d : Nat) (r : Except Nat (List Nat × List Bool)) : Except Nat ((List Nat × List Nat) × List Bool) :=
  match r with
  | .error e => .error e
  | .ok (cl, b4) => dyn4 h d cl b4
theorem dyn3_eq (h d k : Nat) (b : List Bool) : dyn3 h d k b = if 29 < h ∨ 29 < d then .error 4 else dynC h d (clGo (ordC.take (k + 4)) (List.replicate 19 0) b) := rfl
/-- What reading the codes promises. -/
def RDyn (s : ByteArray) (zb : Nat) (r : Except Nat ((List Nat × List Nat) × List Bool)) (e : Ending) (w : World) : Prop :=
  match r with
  | .error k => (∃ v u, e = .returned (.tuple #[v, u])) ∧ ∃ p, Blk w zb 49 (rc s p k)
  | .ok ((ll, dl), b) => (∃ v u, e = .returned (.tuple #[v, u]) ∧ IRow w v ll ∧ IRow w u dl) ∧ ∃ p, p ≤ 8 * s.size ∧ b = bitsAt s p ∧ Blk w zb 49 (rc s p 0)

set_option maxRecDepth 100000 in
set_option maxHeartbeats 16000000 in
theorem refDynamic_any (s : ByteArray) (p zb : Nat) (w : World) (hz : Blk w zb 49 (rc s p 0)) (hs : s.size ≤ 1000000000000000) (hp : p ≤ 8 * s.size) :
    Calls Try.prog 23 #[.pointer (some ⟨zb, 0, none⟩)] w fun e w' => RDyn s zb (dynT (bitsAt s p)) e w' ∧ Fr zb [49] w w' := by
  obtain ⟨r0, hr0⟩ : ∃ r0, dynT (bitsAt s p) = r0 := ⟨_, rfl⟩
  have H0 : Hid (r0 = dynT (bitsAt s p)) := hr0.symm
  rw [hr0]
  clear hr0
  go_enter Try.func23, Try.ntmps23
  go_upto_region 1 with fail
  go_cut [4, 5, 6] from 14 (fun v4 v5 v6 wx => ∃ h d k q er : Nat, v4 = .int .i64 h ∧ v5 = .int .i64 d ∧ v6 = .int .i64 k ∧ h < 32 ∧ d < 32 ∧ k < 16 ∧ q ≤ 8 * s.size ∧ Blk wx zb 49 (rc s q er) ∧ Fr zb [49] w wx ∧ Hid ((er = 0 ∧ r0 = dyn3 h d k (bitsAt s q)) ∨ (er ≠ 0 ∧ r0 = .error er)))
  case first =>
    have hE := H0.out
    rw [dyn0] at hE
    have HE := Lib.hid hE
    clear H0 hE
    go_wp2_with fail
    refine (refNumber_any s p 5 zb _ hz hs hp (by decide)).mono ?_
    rintro e w1 ⟨hok, hf1⟩
    have hst := hok.sy hp
    have hE := HE.out
    clear hok HE hz
    cases hn1 : numT (bitsAt s p) 5 with
    | error k =>
      rw [hn1] at hst hE
      obtain ⟨rfl, p1, hp1, hz1⟩ := hst
      have hk := numT_err hn1
      have HE := Lib.hid hE
      clear hE hn1
      go_wp2_with fail
      refine (refNumber_bad s p1 5 k zb _ hz1 hk).mono ?_
      rintro e w2 ⟨rfl, rfl⟩
      go_wp2_with fail
      refine (refNumber_bad s p1 4 k zb _ hz1 hk).mono ?_
      rintro e w2 ⟨rfl, rfl⟩
      go_wp2_with fail
      go_meet
      case rel => exact ⟨0, 0, 0, p1, k, rfl, rfl, rfl, by decide, by decide, by decide, hp1, hz1, hf1, .inr ⟨hk, HE.out⟩⟩
    | ok xb =>
      obtain ⟨h, b1⟩ := xb
      rw [hn1] at hst hE
      obtain ⟨rfl, p1, hp1, rfl, hz1⟩ := hst
      have hh := (numT_ok hn1).2.2.2
      simp only at hE hh
      unfold dyn1 at hE
      have HE := Lib.hid hE
      clear hE hn1
      go_wp2_with fail
      refine (refNumber_any s p1 5 zb _ hz1 hs hp1 (by decide)).mono ?_
      rintro e w2 ⟨hok, hf2⟩
      have hst := hok.sy hp1
      have hE := HE.out
      have hf12 := hf1.trans hf2
      clear hok HE hz1 hf1 hf2
      cases hn2 : numT (bitsAt s p1) 5 with
      | error k =>
        rw [hn2] at hst hE
        obtain ⟨rfl, p2, hp2, hz2⟩ := hst
        have hk := numT_err hn2
        have HE := Lib.hid hE
        clear hE hn2
        go_wp2_with fail
        refine (refNumber_bad s p2 4 k zb _ hz2 hk).mono ?_
        rintro e w3 ⟨rfl, rfl⟩
        go_wp2_with fail
        go_meet
        case rel => exact ⟨h, 0, 0, p2, k, rfl, rfl, rfl, hh, by decide, by decide, hp2, hz2, hf12, .inr ⟨hk, HE.out⟩⟩
      | ok yb =>
        obtain ⟨d, b2⟩ := yb
        rw [hn2] at hst hE
        obtain ⟨rfl, p2, hp2, rfl, hz2⟩ := hst
        have hd := (numT_ok hn2).2.2.2
        simp only at hE hd
        unfold dyn2 at hE
        have HE := Lib.hid hE
        clear hE hn2
        go_wp2_with fail
        refine (refNumber_any s p2 4 zb _ hz2 hs hp2 (by decide)).mono ?_
        rintro e w3 ⟨hok, hf3⟩
        have hst := hok.sy hp2
        have hE := HE.out
        have hf13 := hf12.trans hf3
        clear hok HE hz2 hf12 hf3
        cases hn3 : numT (bitsAt s p2) 4 with
        | error k =>
          rw [hn3] at hst hE
          obtain ⟨rfl, p3, hp3, hz3⟩ := hst
          have hk := numT_err hn3
          have HE := Lib.hid hE
          clear hE hn3
          go_wp2_with fail
          go_meet
          case rel => exact ⟨h, d, 0, p3, k, rfl, rfl, rfl, hh, hd, by decide, hp3, hz3, hf13, .inr ⟨hk, HE.out⟩⟩
        | ok zb' =>
          obtain ⟨k, b3⟩ := zb'
          rw [hn3] at hst hE
          obtain ⟨rfl, p3, hp3, rfl, hz3⟩ := hst
          have hk := (numT_ok hn3).2.2.2
          simp only at hE hk
          have HE := Lib.hid hE
          clear hE hn3
          go_wp2_with fail
          go_meet
          case rel => exact ⟨h, d, k, p3, 0, rfl, rfl, rfl, hh, hd, hk, hp3, hz3, hf13, .inl ⟨rfl, HE.out⟩⟩
  case rest =>
    obtain ⟨h, d, k, q, er, rfl, rfl, rfl, hh, hd, hk, hq, hz1, hf1, hE⟩ := hcut
    clear hz hp
    go_upto_region 2 with fail
    have k2 := hz1.cell 2
    simp [rc] at k2
    clear H0
    go_cut [32] from 14 (fun v32 wx => v32 = .bool (decide (er = 0 ∧ (29 < h ∨ 29 < d))) ∧ wx = wc)
    case first =>
      by_cases her : er = 0
      · subst her
        by_cases h29 : 29 < h
        · have d1 : decide ((29 : Int) < (h : Int)) = true := by simp; omega
          go_wp2_with fail
          go_meet
          case rel => exact ⟨by simp [h29], rfl⟩
        have d1 : decide ((29 : Int) < (h : Int)) = false := by simp; omega
        by_cases d29 : 29 < d
        · have d2 : decide ((29 : Int) < (d : Int)) = true := by simp; omega
          go_wp2_with fail
          go_meet
          case rel => exact ⟨by simp [h29, d29], rfl⟩
        · have d2 : decide ((29 : Int) < (d : Int)) = false := by simp; omega
          go_wp2_with fail
          go_meet
          case rel => exact ⟨by simp [h29, d29], rfl⟩
      · have d1 : ((er : Int) == 0) = false := beq_false_of_ne (by omega)
        go_wp2_with fail
        go_meet
        case rel => exact ⟨by rw [decide_eq_false (fun x => her x.1)], rfl⟩
    case rest =>
      obtain ⟨rfl, rfl⟩ := hcut
      clear k2
      go_upto_if 32 with fail
      go_cut [2] from 14 (fun v2 wx => ∃ er : Nat, v2 = .slice none 0 0 ∧ Blk wx zb 49 (rc s q er) ∧ Fr zb [49] w wx ∧ Hid ((er = 0 ∧ h ≤ 29 ∧ d ≤ 29 ∧ r0 = dynC h d (clGo (ordC.take (k + 4)) (List.replicate 19 0) (bitsAt s q))) ∨ (er ≠ 0 ∧ r0 = .error er)))
      case first =>
        by_cases hbad : er = 0 ∧ (29 < h ∨ 29 < d)
        · rw [decide_eq_true hbad]
          obtain ⟨rfl, hb⟩ := hbad
          have HR : Hid (r0 = .error 4) := by
            rcases hE.out with ⟨_, h1⟩ | ⟨h1, _⟩
            · show _ = _
              rw [h1, dyn3_eq, if_pos hb]
            · exact absurd rfl h1
          have k2 := hz1.cell 2
          have f2 := hz1.frozen 2
          simp [rc] at k2
          have hz2 := hz1.put 2 (.int .i64 4)
          have hf2 := hf1.put hz1 (Nat.le_refl _) (by simp) 2 (.int .i64 4)
          have HZ2 := Lib.hid hz2
          have HF2 := Lib.hid hf2
          clear hz2 hf2 hE hb
          go_wp2_with fail
          go_meet
          case rel => exact ⟨4, rfl, by have := HZ2.out; simpa [rc] using this, HF2.out, .inr ⟨by decide, HR.out⟩⟩
        · rw [decide_eq_false hbad]
          have HR : Hid ((er = 0 ∧ h ≤ 29 ∧ d ≤ 29 ∧ r0 = dynC h d (clGo (ordC.take (k + 4)) (List.replicate 19 0) (bitsAt s q))) ∨ (er ≠ 0 ∧ r0 = .error er)) := by
            rcases hE.out with ⟨h0, h1⟩ | h1
            · refine .inl ⟨h0, by omega, by omega, ?_⟩
              rw [h1, dyn3_eq, if_neg (fun x => hbad ⟨h0, x⟩)]
            · exact .inr h1
          clear hE hbad
          go_wp2_with fail
          go_meet
          case rel => exact ⟨er, rfl, hz1, hf1, HR⟩
      case rest =>
        obtain ⟨er2, rfl, hz2, hf2, hE2⟩ := hcut
        clear hE hz1 hf1
        obtain ⟨N, hN, hm1⟩ : ∃ N, N = 19 ∧ ∀ w, (Instr.makeSlice 29 (.int .i64 19) (.int .i64 19)).run Try.prog w = .ok (.slice (some ⟨w.heap.size, 0, none⟩) N N) (w.alloc (.cells (mkRow (.int .i64 0) N) 3)) :=
          ⟨19, rfl, run_mk el_int4 rfl 19 (by omega) (by omega)⟩
        have HN := Lib.hid hN
        have hN2 : N ≤ 19 := by omega
        have hC := Blk.new wc 3 (mkRow (.int .i64 0) N)
        have hz3 := hz2.alloc (.cells (mkRow (.int .i64 0) N) 3)
        have hf3 := hf2.alloc (.cells (mkRow (.int .i64 0) N) 3)
        have HC := Lib.hid hC
        have HZ3 := Lib.hid hz3
        have HF3 := Lib.hid hf3
        clear hC hz3 hf3 hN
        go_upto_region 5 with fail
        have hC := HC.out
        have hz3 := HZ3.out
        have hf3 := HF3.out
        have hcB0 : w.heap.size ≤ wc.heap.size := hf2.size
        clear HC HZ3 HF3 hm1 hz2 hf2
        generalize wc.alloc (.cells (mkRow (.int .i64 0) N) 3) = w3 at hC hz3 hf3 ⊢
        rw [rowA_new] at hC
        obtain ⟨cB, hcB⟩ : ∃ k, wc.heap.size = k := ⟨_, rfl⟩
        rw [hcB] at hC hcB0 ⊢
        clear hcB
        go_wp2_with fail
        refine (refOrder_any _).mono ?_
        rintro e w4 ⟨rfl, rfl⟩
        have hO := Blk.new w3 3 ordV
        have hC4 := hC.alloc (.cells ordV 3)
        have hz4 := hz3.alloc (.cells ordV 3)
        have hf4 := hf3.alloc (.cells ordV 3)
        have hco : cB < w3.heap.size := hC.lt
        clear hC hz3 hf3
        generalize w3.alloc (.cells ordV 3) = w4 at hO hC4 hz4 hf4 ⊢
        rw [ordV_row] at hO
        obtain ⟨oB, hoB⟩ : ∃ k, w3.heap.size = k := ⟨_, rfl⟩
        rw [hoB] at hO hco ⊢
        clear hoB
        have HO18 : Hid (∀ n ∈ ordC, n ≤ 18) := by show ∀ _ ∈ _, _; decide
        go_wp2_with fail
        have HST : Hid ((er2 = 0 ∧ h ≤ 29 ∧ d ≤ 29 ∧ r0 = dynC h d (clGo ((ordC.take (k + 4)).drop 0) (List.replicate 19 0) (bitsAt s q))) ∨ (er2 ≠ 0 ∧ r0 = .error er2)) := hE2
        clear hE2
        go_loopw [9] (fun vi ws => ∃ (i qq er : Nat) (cc : List Nat), vi = .int .i64 i ∧ i ≤ k + 4 ∧ qq ≤ 8 * s.size ∧ Blk ws zb 49 (rc s qq er) ∧ Fr zb [49] w ws ∧ Blk ws cB 3 (rowA cc) ∧ Blk ws oB 3 (rowA ordC) ∧ cc.length = N ∧ (∀ n ∈ cc, n ≤ 15) ∧ Hid ((er = 0 ∧ h ≤ 29 ∧ d ≤ 29 ∧ r0 = dynC h d (clGo ((ordC.take (k + 4)).drop i) cc (bitsAt s qq))) ∨ (er ≠ 0 ∧ r0 = .error er))) (fun vi _ => k + 4 - (intOf vi).toNat)
        case atStart => exact ⟨0, q, er2, List.replicate N 0, rfl, Nat.zero_le _, hq, hz4, hf4, hC4, hO, by simp, by simp, by rw [HN.out]; exact HST⟩
        case round =>
          clear hO hC4 hz4 hf4 HST
          obtain ⟨i, qq, er, cc, rfl, hi, hqq, hzr, hfr, hCr, hOr, hcc, hc15, hE⟩ := hrel
          by_cases hil : i < k + 4
          · have hd1 : decide ((i : Int) < (k : Int) + 4) = true := by simp; omega
            have hi19 : i < ordC.length := by show i < 19; omega
            obtain ⟨o, ho⟩ : ∃ o, ordC[i] = o := ⟨_, rfl⟩
            have hdrop : (ordC.take (k + 4)).drop i = o :: (ordC.take (k + 4)).drop (i + 1) := by
              rw [List.drop_eq_getElem_cons (by rw [List.length_take]; show i < min (k + 4) 19; omega), List.getElem_take, ho]
            have ho18 : o ≤ 18 := by rw [← ho]; exact HO18.out _ (List.getElem_mem hi19)
            have kO : ∀ w', Blk w' oB 3 (rowA ordC) → w'.cell? ⟨oB, i, none⟩ = some (.int .i64 (o : Nat)) := fun w' hb => by rw [hb.cell i, rowA_get ordC i hi19, ho]
            go_upto_region 9 with fail
            have HDR := Lib.hid hdrop
            have kO1 := kO wr hOr
            have HKO := Lib.hid kO
            have hS : wr.drew.cell? ⟨oB, i, none⟩ = some (.int .i64 (o : Nat)) := kO1
            have HZR : Hid (Blk wr.drew zb 49 (rc s qq er)) := hzr
            have HCR : Hid (Blk wr.drew cB 3 (rowA cc)) := hCr
            have HOR : Hid (Blk wr.drew oB 3 (rowA ordC)) := hOr
            have HFR : Hid (Fr zb [49] w wr.drew) := hfr.drew
            have z1 : (0 : Int) ≤ (i : Int) := by omega
            have z2 : (i : Int) < 19 := by omega
            have z3 : (0 : Int) ≤ (o : Int) := by omega
            have z4 : (o : Int) < (N : Int) := by have := HN.out; omega
            have hoc : o < cc.length := by have := HN.out; omega
            have HOC := Lib.hid hoc
            have HEI := hE
            clear hdrop kO ho hi19 hzr hCr hOr hfr kO1 hE hoc
            by_cases her : er = 0
            · subst her
              have hE1 : h ≤ 29 ∧ d ≤ 29 ∧ r0 = dynC h d (clGo ((ordC.take (k + 4)).drop i) cc (bitsAt s qq)) := by
                rcases HEI.out with ⟨-, h1⟩ | ⟨h1, -⟩
                · exact h1
                · exact absurd rfl h1
              obtain ⟨hh29, hd29, hE2⟩ := hE1
              rw [HDR.out] at hE2
              unfold clGo at hE2
              cases hnu : numT (bitsAt s qq) 3 with
              | error e3 =>
                have HNU := Lib.hid hnu
                rw [hnu] at hE2
                have hk3 := numT_err hnu
                have HR : Hid (r0 = .error e3) := hE2
                clear hnu hE2 HEI
                refine wp_region_held_drew (S := fun _ => True) (by kernel_rfl) trivial (fun hHeld => ?_)
                refine wpAnyH_weaken (S2 := fun W => W.cell? ⟨oB, i, none⟩ = some (.int .i64 (o : Nat))) (fun _ _ => trivial) ?_
                refine wpAnyH_take (i := 0) (oi := ⟨some 44, Op.move (Operand.tmp 7), 29, _, _, none⟩) (v := ?v1b) rfl (by kernel_rfl) (by kernel_rfl) (by kernel_rfl) (fun _ _ _ h => h) (Or.inl ⟨by rfl, ?y1b⟩) hS ?r1b
                case y1b => (intro w hSw; (try dsimp only at hSw); go_simp; try with_reducible rfl)
                try simp only [Act.put, List.setIfInBounds_toArray, List.set_cons_zero, List.set_cons_succ]
                refine wpAnyH_take (i := 1) (oi := ⟨some 45, Op.move (Operand.tmp 8), 29, _, _, none⟩) (v := ?v2b) rfl (by kernel_rfl) (by kernel_rfl) (by kernel_rfl) (fun _ _ _ h => h) (Or.inl ⟨by rfl, ?y2b⟩) hS ?r2b
                case y2b => (intro w hSw; (try dsimp only at hSw); go_simp; try with_reducible rfl)
                try simp only [Act.put, List.setIfInBounds_toArray, List.set_cons_zero, List.set_cons_succ]
                refine wpAnyH_take (i := 2) (oi := ⟨some 46, Op.move (Operand.tmp 9), 3, _, _, none⟩) (v := ?v3b) rfl (by kernel_rfl) (by kernel_rfl) (by kernel_rfl) (fun _ _ _ h => h) (Or.inl ⟨by rfl, ?y3b⟩) hS ?r3b
                case y3b => (intro w hSw; (try dsimp only at hSw); go_simp; try with_reducible rfl)
                try simp only [Act.put, List.setIfInBounds_toArray, List.set_cons_zero, List.set_cons_succ]
                refine wpAnyH_take (i := 3) (oi := ⟨some 47, Op.indexAddr 29 (Operand.tmp 45) (Operand.tmp 46), 0, _, _, none⟩) (v := ?v4b) rfl (by kernel_rfl) (by kernel_rfl) (by kernel_rfl) (fun _ _ _ h => h) (Or.inl ⟨by rfl, ?y4b⟩) hS ?r4b
                case y4b => (intro w hSw; (try dsimp only at hSw); go_simp; try with_reducible rfl)
                try simp only [Act.put, List.setIfInBounds_toArray, List.set_cons_zero, List.set_cons_succ]
                refine wpAnyH_take (i := 4) (oi := ⟨some 48, Op.load 3 (Operand.tmp 47), 3, _, _, none⟩) (v := ?v5b) rfl (by kernel_rfl) (by kernel_rfl) (by kernel_rfl) (fun _ _ _ h => h) (Or.inl ⟨by rfl, ?y5b⟩) hS ?r5b
                case y5b => (intro w hSw; (try dsimp only at hSw); go_simp; try with_reducible rfl)
                try simp only [Act.put, List.setIfInBounds_toArray, List.set_cons_zero, List.set_cons_succ]
                refine wpAnyH_take (i := 5) (oi := ⟨some 49, Op.move (Operand.tmp 0), 47, _, _, none⟩) (v := ?v6b) rfl (by kernel_rfl) (by kernel_rfl) (by kernel_rfl) (fun _ _ _ h => h) (Or.inl ⟨by rfl, ?y6b⟩) hS ?r6b
                case y6b => (intro w hSw; (try dsimp only at hSw); go_simp; try with_reducible rfl)
                try simp only [Act.put, List.setIfInBounds_toArray, List.set_cons_zero, List.set_cons_succ]
                refine wpAnyH_ready (rs := [6]) (by kernel_rfl) (by simp) ?r7b
                refine AllReadyH.cons (o := ⟨some 50, Op.call { callee := Callee.value (Operand.func 20), args := #[Operand.tmp 49, Operand.const (Value.int IntKind.i64 3)], argTypes := #[47, 3] }, 3, _, _, none⟩) rfl (fun K hK => ?s7b) AllReadyH.nil
                go_simp
                refine (refNumber_any s qq 3 zb _ (by exact HZR.out) hs hqq (by decide)).mono ?_; rintro e w5 ⟨hok, hf5⟩; have hst := hok.sy hqq; have hC5 := hf5.blk HCR.out (by decide); have hO5 := hf5.blk HOR.out (by decide); have hfr5 := HFR.out.trans hf5; clear hok hf5; rw [HNU.out] at hst; obtain ⟨rfl, p5, hp5, hz5⟩ := hst; simp only []; have kC := hC5.cell o; rw [rowA_get cc o HOC.out] at kC; have fC := hC5.frozen o
                refine hK.out _ _ ?k7b (fun hHeld => ?_)
                case k7b => (first | exact HKO.out _ hO5 | exact HKO.out _ (hO5.other (p := ⟨cB, o, none⟩) (Nat.ne_of_gt hco) _))
                clear hS
                have hS := hHeld
                clear hHeld
                clear hK K
                try simp only [Act.put, List.setIfInBounds_toArray, List.set_cons_zero, List.set_cons_succ]
                refine wpAnyH_take (i := 7) (oi := ⟨some 51, Op.indexAddr 29 (Operand.tmp 44) (Operand.tmp 48), 0, _, _, none⟩) (v := ?v8b) rfl (by kernel_rfl) (by kernel_rfl) (by kernel_rfl) (fun _ _ _ h => h) (Or.inl ⟨by rfl, ?y8b⟩) hS ?r8b
                case y8b => (intro w hSw; (try dsimp only at hSw); go_simp; try with_reducible rfl)
                try simp only [Act.put, List.setIfInBounds_toArray, List.set_cons_zero, List.set_cons_succ]
                refine wpAnyH_ready (rs := [8]) (by kernel_rfl) (by simp) ?r9b
                refine AllReadyH.cons (o := ⟨none, Op.store 3 (Operand.tmp 51) (Operand.tmp 50), 0, _, _, none⟩) rfl (fun K hK => ?s9b) AllReadyH.nil
                go_simp
                refine hK.out _ _ ?k9b (fun hHeld => ?_)
                case k9b => (first | exact HKO.out _ hO5 | exact HKO.out _ (hO5.other (p := ⟨cB, o, none⟩) (Nat.ne_of_gt hco) _))
                clear hS
                have hS := hHeld
                clear hHeld
                clear hK K
                try simp only [Act.put, List.setIfInBounds_toArray, List.set_cons_zero, List.set_cons_succ]
                refine wpAnyH_done (by kernel_rfl) ?_ _
                have hC6 := hC5.put o (.int .i64 (0 : Nat))
                rw [rowA_set] at hC6
                have hO6 := hO5.other (p := ⟨cB, o, none⟩) (Nat.ne_of_gt hco) (.int .i64 (0 : Nat))
                have hz6 := hz5.other (p := ⟨cB, o, none⟩) (Blk.apart hz5 hC5 (by decide)) (.int .i64 (0 : Nat))
                have hf6 := hfr5.put_new (p := ⟨cB, o, none⟩) hcB0 (.int .i64 (0 : Nat))
                have HC15 : Hid (∀ n ∈ cc.set o 0, n ≤ 15) := by
                  intro n hn
                  rcases List.mem_or_eq_of_mem_set hn with h | h
                  · exact hc15 n h
                  · rw [h]; omega
                have HC6 := Lib.hid hC6
                have HO6 := Lib.hid hO6
                have HZ6 := Lib.hid hz6
                have HF6 := Lib.hid hf6
                clear hC6 hO6 hz6 hf6 hC5 hO5 hz5 hfr5 kC fC hS
                go_wp2_with fail
                exact ⟨⟨i + 1, p5, e3, cc.set o 0, by go_num, by omega, hp5, HZ6.out, HF6.out, HC6.out, HO6.out, by simp [hcc], HC15.out, .inr ⟨hk3, HR.out⟩⟩, by simp [intOf]; omega⟩
              | ok xb =>
                obtain ⟨X, b1⟩ := xb
                have HNU := Lib.hid hnu
                rw [hnu] at hE2
                have hX := (numT_ok hnu).2.2.2
                simp only at hE2 hX
                have HR : Hid (r0 = dynC h d (clGo ((ordC.take (k + 4)).drop (i + 1)) (cc.set o X) b1)) := hE2
                clear hnu hE2 HEI
                refine wp_region_held_drew (S := fun _ => True) (by kernel_rfl) trivial (fun hHeld => ?_)
                refine wpAnyH_weaken (S2 := fun W => W.cell? ⟨oB, i, none⟩ = some (.int .i64 (o : Nat))) (fun _ _ => trivial) ?_
                refine wpAnyH_take (i := 0) (oi := ⟨some 44, Op.move (Operand.tmp 7), 29, _, _, none⟩) (v := ?v1a) rfl (by kernel_rfl) (by kernel_rfl) (by kernel_rfl) (fun _ _ _ h => h) (Or.inl ⟨by rfl, ?y1a⟩) hS ?r1a
                case y1a => (intro w hSw; (try dsimp only at hSw); go_simp; try with_reducible rfl)
                try simp only [Act.put, List.setIfInBounds_toArray, List.set_cons_zero, List.set_cons_succ]
                refine wpAnyH_take (i := 1) (oi := ⟨some 45, Op.move (Operand.tmp 8), 29, _, _, none⟩) (v := ?v2a) rfl (by kernel_rfl) (by kernel_rfl) (by kernel_rfl) (fun _ _ _ h => h) (Or.inl ⟨by rfl, ?y2a⟩) hS ?r2a
                case y2a => (intro w hSw; (try dsimp only at hSw); go_simp; try with_reducible rfl)
                try simp only [Act.put, List.setIfInBounds_toArray, List.set_cons_zero, List.set_cons_succ]
                refine wpAnyH_take (i := 2) (oi := ⟨some 46, Op.move (Operand.tmp 9), 3, _, _, none⟩) (v := ?v3a) rfl (by kernel_rfl) (by kernel_rfl) (by kernel_rfl) (fun _ _ _ h => h) (Or.inl ⟨by rfl, ?y3a⟩) hS ?r3a
                case y3a => (intro w hSw; (try dsimp only at hSw); go_simp; try with_reducible rfl)
                try simp only [Act.put, List.setIfInBounds_toArray, List.set_cons_zero, List.set_cons_succ]
                refine wpAnyH_take (i := 3) (oi := ⟨some 47, Op.indexAddr 29 (Operand.tmp 45) (Operand.tmp 46), 0, _, _, none⟩) (v := ?v4a) rfl (by kernel_rfl) (by kernel_rfl) (by kernel_rfl) (fun _ _ _ h => h) (Or.inl ⟨by rfl, ?y4a⟩) hS ?r4a
                case y4a => (intro w hSw; (try dsimp only at hSw); go_simp; try with_reducible rfl)
                try simp only [Act.put, List.setIfInBounds_toArray, List.set_cons_zero, List.set_cons_succ]
                refine wpAnyH_take (i := 4) (oi := ⟨some 48, Op.load 3 (Operand.tmp 47), 3, _, _, none⟩) (v := ?v5a) rfl (by kernel_rfl) (by kernel_rfl) (by kernel_rfl) (fun _ _ _ h => h) (Or.inl ⟨by rfl, ?y5a⟩) hS ?r5a
                case y5a => (intro w hSw; (try dsimp only at hSw); go_simp; try with_reducible rfl)
                try simp only [Act.put, List.setIfInBounds_toArray, List.set_cons_zero, List.set_cons_succ]
                refine wpAnyH_take (i := 5) (oi := ⟨some 49, Op.move (Operand.tmp 0), 47, _, _, none⟩) (v := ?v6a) rfl (by kernel_rfl) (by kernel_rfl) (by kernel_rfl) (fun _ _ _ h => h) (Or.inl ⟨by rfl, ?y6a⟩) hS ?r6a
                case y6a => (intro w hSw; (try dsimp only at hSw); go_simp; try with_reducible rfl)
                try simp only [Act.put, List.setIfInBounds_toArray, List.set_cons_zero, List.set_cons_succ]
                refine wpAnyH_ready (rs := [6]) (by kernel_rfl) (by simp) ?r7a
                refine AllReadyH.cons (o := ⟨some 50, Op.call { callee := Callee.value (Operand.func 20), args := #[Operand.tmp 49, Operand.const (Value.int IntKind.i64 3)], argTypes := #[47, 3] }, 3, _, _, none⟩) rfl (fun K hK => ?s7a) AllReadyH.nil
                go_simp
                refine (refNumber_any s qq 3 zb _ (by exact HZR.out) hs hqq (by decide)).mono ?_; rintro e w5 ⟨hok, hf5⟩; have hst := hok.sy hqq; have hC5 := hf5.blk HCR.out (by decide); have hO5 := hf5.blk HOR.out (by decide); have hfr5 := HFR.out.trans hf5; clear hok hf5; rw [HNU.out] at hst; obtain ⟨rfl, p5, hp5, hb5, hz5⟩ := hst; simp only []; have kC := hC5.cell o; rw [rowA_get cc o HOC.out] at kC; have fC := hC5.frozen o
                refine hK.out _ _ ?k7a (fun hHeld => ?_)
                case k7a => (first | exact HKO.out _ hO5 | exact HKO.out _ (hO5.other (p := ⟨cB, o, none⟩) (Nat.ne_of_gt hco) _))
                clear hS
                have hS := hHeld
                clear hHeld
                clear hK K
                try simp only [Act.put, List.setIfInBounds_toArray, List.set_cons_zero, List.set_cons_succ]
                refine wpAnyH_take (i := 7) (oi := ⟨some 51, Op.indexAddr 29 (Operand.tmp 44) (Operand.tmp 48), 0, _, _, none⟩) (v := ?v8a) rfl (by kernel_rfl) (by kernel_rfl) (by kernel_rfl) (fun _ _ _ h => h) (Or.inl ⟨by rfl, ?y8a⟩) hS ?r8a
                case y8a => (intro w hSw; (try dsimp only at hSw); go_simp; try with_reducible rfl)
                try simp only [Act.put, List.setIfInBounds_toArray, List.set_cons_zero, List.set_cons_succ]
                refine wpAnyH_ready (rs := [8]) (by kernel_rfl) (by simp) ?r9a
                refine AllReadyH.cons (o := ⟨none, Op.store 3 (Operand.tmp 51) (Operand.tmp 50), 0, _, _, none⟩) rfl (fun K hK => ?s9a) AllReadyH.nil
                go_simp
                refine hK.out _ _ ?k9a (fun hHeld => ?_)
                case k9a => (first | exact HKO.out _ hO5 | exact HKO.out _ (hO5.other (p := ⟨cB, o, none⟩) (Nat.ne_of_gt hco) _))
                clear hS
                have hS := hHeld
                clear hHeld
                clear hK K
                try simp only [Act.put, List.setIfInBounds_toArray, List.set_cons_zero, List.set_cons_succ]
                refine wpAnyH_done (by kernel_rfl) ?_ _
                rw [hb5] at HR
                have hC6 := hC5.put o (.int .i64 (X : Nat))
                rw [rowA_set] at hC6
                have hO6 := hO5.other (p := ⟨cB, o, none⟩) (Nat.ne_of_gt hco) (.int .i64 (X : Nat))
                have hz6 := hz5.other (p := ⟨cB, o, none⟩) (Blk.apart hz5 hC5 (by decide)) (.int .i64 (X : Nat))
                have hf6 := hfr5.put_new (p := ⟨cB, o, none⟩) hcB0 (.int .i64 (X : Nat))
                have HC15 : Hid (∀ n ∈ cc.set o X, n ≤ 15) := by
                  intro n hn
                  rcases List.mem_or_eq_of_mem_set hn with h | h
                  · exact hc15 n h
                  · rw [h]; omega
                have HC6 := Lib.hid hC6
                have HO6 := Lib.hid hO6
                have HZ6 := Lib.hid hz6
                have HF6 := Lib.hid hf6
                clear hC6 hO6 hz6 hf6 hC5 hO5 hz5 hfr5 kC fC hS
                go_wp2_with fail
                exact ⟨⟨i + 1, p5, 0, cc.set o X, by go_num, by omega, hp5, HZ6.out, HF6.out, HC6.out, HO6.out, by simp [hcc], HC15.out, .inl ⟨rfl, hh29, hd29, HR.out⟩⟩, by simp [intOf]; omega⟩
            · have HR : Hid (r0 = .error er) := by
                rcases HEI.out with ⟨h1, -⟩ | ⟨-, h1⟩
                · exact absurd h1 her
                · exact h1
              refine wp_region_held_drew (S := fun _ => True) (by kernel_rfl) trivial (fun hHeld => ?_)
              refine wpAnyH_weaken (S2 := fun W => W.cell? ⟨oB, i, none⟩ = some (.int .i64 (o : Nat))) (fun _ _ => trivial) ?_
              refine wpAnyH_take (i := 0) (oi := ⟨some 44, Op.move (Operand.tmp 7), 29, _, _, none⟩) (v := ?v1c) rfl (by kernel_rfl) (by kernel_rfl) (by kernel_rfl) (fun _ _ _ h => h) (Or.inl ⟨by rfl, ?y1c⟩) hS ?r1c
              case y1c => (intro w hSw; (try dsimp only at hSw); go_simp; try with_reducible rfl)
              try simp only [Act.put, List.setIfInBounds_toArray, List.set_cons_zero, List.set_cons_succ]
              refine wpAnyH_take (i := 1) (oi := ⟨some 45, Op.move (Operand.tmp 8), 29, _, _, none⟩) (v := ?v2c) rfl (by kernel_rfl) (by kernel_rfl) (by kernel_rfl) (fun _ _ _ h => h) (Or.inl ⟨by rfl, ?y2c⟩) hS ?r2c
              case y2c => (intro w hSw; (try dsimp only at hSw); go_simp; try with_reducible rfl)
              try simp only [Act.put, List.setIfInBounds_toArray, List.set_cons_zero, List.set_cons_succ]
              refine wpAnyH_take (i := 2) (oi := ⟨some 46, Op.move (Operand.tmp 9), 3, _, _, none⟩) (v := ?v3c) rfl (by kernel_rfl) (by kernel_rfl) (by kernel_rfl) (fun _ _ _ h => h) (Or.inl ⟨by rfl, ?y3c⟩) hS ?r3c
              case y3c => (intro w hSw; (try dsimp only at hSw); go_simp; try with_reducible rfl)
              try simp only [Act.put, List.setIfInBounds_toArray, List.set_cons_zero, List.set_cons_succ]
              refine wpAnyH_take (i := 3) (oi := ⟨some 47, Op.indexAddr 29 (Operand.tmp 45) (Operand.tmp 46), 0, _, _, none⟩) (v := ?v4c) rfl (by kernel_rfl) (by kernel_rfl) (by kernel_rfl) (fun _ _ _ h => h) (Or.inl ⟨by rfl, ?y4c⟩) hS ?r4c
              case y4c => (intro w hSw; (try dsimp only at hSw); go_simp; try with_reducible rfl)
              try simp only [Act.put, List.setIfInBounds_toArray, List.set_cons_zero, List.set_cons_succ]
              refine wpAnyH_take (i := 4) (oi := ⟨some 48, Op.load 3 (Operand.tmp 47), 3, _, _, none⟩) (v := ?v5c) rfl (by kernel_rfl) (by kernel_rfl) (by kernel_rfl) (fun _ _ _ h => h) (Or.inl ⟨by rfl, ?y5c⟩) hS ?r5c
              case y5c => (intro w hSw; (try dsimp only at hSw); go_simp; try with_reducible rfl)
              try simp only [Act.put, List.setIfInBounds_toArray, List.set_cons_zero, List.set_cons_succ]
              refine wpAnyH_take (i := 5) (oi := ⟨some 49, Op.move (Operand.tmp 0), 47, _, _, none⟩) (v := ?v6c) rfl (by kernel_rfl) (by kernel_rfl) (by kernel_rfl) (fun _ _ _ h => h) (Or.inl ⟨by rfl, ?y6c⟩) hS ?r6c
              case y6c => (intro w hSw; (try dsimp only at hSw); go_simp; try with_reducible rfl)
              try simp only [Act.put, List.setIfInBounds_toArray, List.set_cons_zero, List.set_cons_succ]
              refine wpAnyH_ready (rs := [6]) (by kernel_rfl) (by simp) ?r7c
              refine AllReadyH.cons (o := ⟨some 50, Op.call { callee := Callee.value (Operand.func 20), args := #[Operand.tmp 49, Operand.const (Value.int IntKind.i64 3)], argTypes := #[47, 3] }, 3, _, _, none⟩) rfl (fun K hK => ?s7c) AllReadyH.nil
              go_simp
              refine (refNumber_bad s qq 3 er zb _ (by exact HZR.out) her).mono ?_; rintro e w5 ⟨rfl, rfl⟩; simp only []; have hC5 := HCR.out; have hO5 := HOR.out; have hfr5 := HFR.out; have hz5 := HZR.out; have hp5 := hqq; have kC := hC5.cell o; rw [rowA_get cc o HOC.out] at kC; have fC := hC5.frozen o
              refine hK.out _ _ ?k7c (fun hHeld => ?_)
              case k7c => (first | exact HKO.out _ hO5 | exact HKO.out _ (hO5.other (p := ⟨cB, o, none⟩) (Nat.ne_of_gt hco) _))
              clear hS
              have hS := hHeld
              clear hHeld
              clear hK K
              try simp only [Act.put, List.setIfInBounds_toArray, List.set_cons_zero, List.set_cons_succ]
              refine wpAnyH_take (i := 7) (oi := ⟨some 51, Op.indexAddr 29 (Operand.tmp 44) (Operand.tmp 48), 0, _, _, none⟩) (v := ?v8c) rfl (by kernel_rfl) (by kernel_rfl) (by kernel_rfl) (fun _ _ _ h => h) (Or.inl ⟨by rfl, ?y8c⟩) hS ?r8c
              case y8c => (intro w hSw; (try dsimp only at hSw); go_simp; try with_reducible rfl)
              try simp only [Act.put, List.setIfInBounds_toArray, List.set_cons_zero, List.set_cons_succ]
              refine wpAnyH_ready (rs := [8]) (by kernel_rfl) (by simp) ?r9c
              refine AllReadyH.cons (o := ⟨none, Op.store 3 (Operand.tmp 51) (Operand.tmp 50), 0, _, _, none⟩) rfl (fun K hK => ?s9c) AllReadyH.nil
              go_simp
              refine hK.out _ _ ?k9c (fun hHeld => ?_)
              case k9c => (first | exact HKO.out _ hO5 | exact HKO.out _ (hO5.other (p := ⟨cB, o, none⟩) (Nat.ne_of_gt hco) _))
              clear hS
              have hS := hHeld
              clear hHeld
              clear hK K
              try simp only [Act.put, List.setIfInBounds_toArray, List.set_cons_zero, List.set_cons_succ]
              refine wpAnyH_done (by kernel_rfl) ?_ _
              have hC6 := hC5.put o (.int .i64 (0 : Nat))
              rw [rowA_set] at hC6
              have hO6 := hO5.other (p := ⟨cB, o, none⟩) (Nat.ne_of_gt hco) (.int .i64 (0 : Nat))
              have hz6 := hz5.other (p := ⟨cB, o, none⟩) (Blk.apart hz5 hC5 (by decide)) (.int .i64 (0 : Nat))
              have hf6 := hfr5.put_new (p := ⟨cB, o, none⟩) hcB0 (.int .i64 (0 : Nat))
              have HC15 : Hid (∀ n ∈ cc.set o 0, n ≤ 15) := by
                intro n hn
                rcases List.mem_or_eq_of_mem_set hn with h | h
                · exact hc15 n h
                · rw [h]; omega
              have HC6 := Lib.hid hC6
              have HO6 := Lib.hid hO6
              have HZ6 := Lib.hid hz6
              have HF6 := Lib.hid hf6
              clear hC6 hO6 hz6 hf6 hC5 hO5 hz5 hfr5 kC fC hS
              go_wp2_with fail
              exact ⟨⟨i + 1, qq, er, cc.set o 0, by go_num, by omega, hp5, HZ6.out, HF6.out, HC6.out, HO6.out, by simp [hcc], HC15.out, .inr ⟨her, HR.out⟩⟩, by simp [intOf]; omega⟩
          · have hd1 : decide ((i : Int) < (k : Int) + 4) = false := by simp; omega
            obtain rfl : i = k + 4 := by omega
            have hEE : (er = 0 ∧ h ≤ 29 ∧ d ≤ 29 ∧ r0 = dyn4 h d cc (bitsAt s qq)) ∨ (er ≠ 0 ∧ r0 = .error er) := by
              rcases hE.out with ⟨h0, h1, h2, h3⟩ | h1
              · refine .inl ⟨h0, h1, h2, ?_⟩
                rw [h3, List.drop_eq_nil_of_le (by rw [List.length_take]; omega)]
                rfl
              · exact .inr h1
            have HEE := Lib.hid hEE
            have hiC : IRow wr (.slice (some ⟨cB, 0, none⟩) N N) cc := by
              have := hCr.irow N (by omega) (by unfold maxLen; omega)
              rwa [hcc] at this
            clear hE hEE hOr hCr
            have k2 := hzr.cell 2
            simp [rc] at k2
            rcases HEE.out with ⟨rfl, hh29, hd29, hE4⟩ | ⟨her, hE4⟩
            · unfold dyn4 at hE4
              have HE4 := Lib.hid hE4
              have hss := sumC_le cc
              clear HEE hE4
              go_wp2_with fail
              refine (refSum_any _ cc _ hiC.read hc15 (by omega)).mono ?_
              rintro e w5 ⟨rfl, rfl⟩
              have hE4 := HE4.out
              clear HE4
              obtain ⟨S, hS⟩ : ∃ S, sumC cc = S := ⟨_, rfl⟩
              rw [hS] at hE4 hss ⊢
              by_cases hfull : S ≠ 32768
              · rw [if_pos hfull] at hE4
                have HE := Lib.hid hE4
                have d3 : ((S : Int) != 32768) = true := by simp; omega
                clear hE4 hS hfull
                have kE := hzr.cell 2
                have fE := hzr.frozen 2
                simp [rc] at kE
                have hz0 := hzr.put 2 (.int .i64 4)
                have hf0 := hfr.put hzr (Nat.le_refl _) (by simp) 2 (.int .i64 4)
                have HZ0 := Lib.hid hz0
                have HF0 := Lib.hid hf0
                clear hz0 hf0
                go_upto_region 12 with fail
                have hzE := HZ0.out
                have hfE := HF0.out
                clear HZ0 HF0 kE fE
                generalize wr.setCell ⟨zb, 2, none⟩ (.int .i64 4) = wE at hzE hfE ⊢
                have kE := hzE.cell 2
                simp [rc] at kE
                go_wp2_with fail
                go_ret2
                refine ⟨?_, hfE⟩
                rw [HE.out]
                exact ⟨⟨_, _, rfl⟩, qq, by simpa [rc] using hzE⟩
              rw [if_neg hfull] at hE4
              have d3 : ((S : Int) != 32768) = false := by simp; omega
              have hgood : Good cc := ⟨hc15, by omega, by rw [hS]; omega⟩
              obtain ⟨n, hn⟩ : ∃ n, n = h + 257 + d + 1 := ⟨_, rfl⟩
              obtain ⟨sp, hsp⟩ : ∃ n, n = h + 257 := ⟨_, rfl⟩
              rw [← hn, ← hsp] at hE4
              have HE1 : Hid ((h : Int) + 257 + (d : Int) + 1 = (n : Int)) := by show _ = _; omega
              have HCALL := Lib.hid (refList_any s qq zb n _ cc wr hzr hiC hgood hs hqq (by omega))
              have hsp29 : sp ≤ 286 := by omega
              have hspn : sp < n := by omega
              have hsp1 : 257 ≤ sp := by omega
              have hn400 : n ≤ 400 := by omega
              have e1 : (h : Int) + 257 = (sp : Int) := by omega
              have HSP := Lib.hid hsp
              have HN3 := Lib.hid hn
              have HE4 := Lib.hid hE4
              have HSPE := Lib.hid e1
              clear hE4 hS hfull hss hn hsp e1
              go_wp2_with fail
              rw [HE1.out]
              refine HCALL.out.mono ?_
              rintro e w5 ⟨hok, hf5⟩
              have hfr5 := hfr.trans hf5
              have hE4 := HE4.out
              clear HCALL HE4 hf5 hfr hzr hiC k2 d3
              cases hlst : lstT cc n (bitsAt s qq) with
              | error k3 =>
                rw [hlst] at hok hE4
                obtain ⟨rfl, p5, hz5⟩ := hok
                have HE : Hid (r0 = .error k3) := hE4
                have hk3 := lstT_err hlst
                have hk1 : ((k3 : Int) != 0) = true := by simp; omega
                have k2 := hz5.cell 2
                simp [rc] at k2
                clear hlst hE4
                go_wp2_with fail
                go_ret2
                refine ⟨?_, hfr5⟩
                rw [HE.out]
                exact ⟨⟨_, _, rfl⟩, p5, hz5⟩
              | ok ab =>
                obtain ⟨all, b5⟩ := ab
                rw [hlst] at hok hE4
                obtain ⟨⟨u, rfl, hrow⟩, p5, hp5, rfl, hz5⟩ := hok
                obtain ⟨hlen, ha15⟩ := lstT_ok (by omega) hlst
                simp only at hE4
                obtain ⟨xg, c, rfl, hc1, hc2, h3⟩ := hrow
                obtain ⟨g, off, cs, rfl, hbg, hcell⟩ := h3 (by intro h; rw [h] at hlen; simp at hlen; omega)
                rw [hlen] at hc1 ⊢
                have hrt : ∀ w', Blk w' g 3 cs → IRow w' (.slice (some ⟨g, off, none⟩) sp c) (all.take sp) := by
                  intro w' hbg
                  have hl : (all.take sp).length = sp := by simp; omega
                  refine ⟨_, c, by rw [hl], by omega, hc2, fun _ => ⟨g, off, cs, rfl, hbg, fun j hj => ?_⟩⟩
                  rw [hcell j (by omega)]
                  simp
                have hrd : ∀ w', Blk w' g 3 cs → IRow w' (.slice (some ⟨g, off + sp, none⟩) (n - sp) (c - sp)) (all.drop sp) := by
                  intro w' hbg
                  have hl : (all.drop sp).length = n - sp := by simp; omega
                  refine ⟨_, c - sp, by rw [hl], by omega, by omega, fun _ => ⟨g, off + sp, cs, rfl, hbg, fun j hj => ?_⟩⟩
                  rw [Nat.add_assoc, hcell (sp + j) (by omega)]
                  simp
                have ht15 : ∀ m ∈ all.take sp, m ≤ 15 := fun m hm => ha15 m (List.mem_of_mem_take hm)
                have hd15 : ∀ m ∈ all.drop sp, m ≤ 15 := fun m hm => ha15 m (List.mem_of_mem_drop hm)
                have htl : (all.take sp).length ≤ 400 := by simp; omega
                have hdl : (all.drop sp).length ≤ 400 := by simp; omega
                have hdle : (all.drop sp).length = n - sp := by simp; omega
                have hg256 : all.getD 256 0 = all[256]'(by omega) := by simp [List.getD, show 256 < all.length by omega]
                have k256 : ∀ w', Blk w' g 3 cs → w'.cell? ⟨g, off + 256, none⟩ = some (.int .i64 (all.getD 256 0 : Nat)) := fun w' hb => by rw [hb.cell, hcell 256 (by omega), hg256]
                have HRT := Lib.hid hrt
                have HRD := Lib.hid hrd
                have HK256 := Lib.hid k256
                have HE4 := Lib.hid hE4
                have k2 := hz5.cell 2
                simp [rc] at k2
                unfold maxLen at hc2
                have hcne : ¬ c = 0 := by omega
                have hcsp : ¬ c = sp := by omega
                have a1 : (sp : Int) ≤ (c : Int) := by omega
                have a2 : (sp : Int) ≤ (n : Int) := by omega
                have a3 : (0 : Int) ≤ (sp : Int) := by omega
                have w1 : IntKind.i64.wrap ((h : Int) + 257) = (sp : Int) := by rw [HSPE.out, IntKind.wrap_i64]; omega
                clear hE4 hlst hg256 hcell h3 hrt hrd k256
                go_wp2_with fail
                go_quiet (fail)
                go_upto_region 18 with fail
                have hz6 : Blk (w5.drewN nq) zb 49 (rc s p5 0) := hz5
                have hbg6 : Blk (w5.drewN nq) g 3 cs := hbg
                have hfr6 : Fr zb [49] w (w5.drewN nq) := hfr5.drewN nq
                clear hz5 hbg hfr5 k2 w1 a1 a2 a3 hcne hcsp
                generalize w5.drewN nq = w6 at hz6 hbg6 hfr6 ⊢
                have hit := HRT.out w6 hbg6
                have hid := HRD.out w6 hbg6
                have k256 := HK256.out w6 hbg6
                clear HRT HRD HK256 hbg6
                obtain ⟨M, hM⟩ : ∃ M, n - sp = M := ⟨_, rfl⟩
                rw [hM] at hid hdle ⊢
                obtain ⟨c', hc'⟩ : ∃ c', c - sp = c' := ⟨_, rfl⟩
                rw [hc'] at hid ⊢
                have hM400 : M ≤ 400 := by omega
                clear hM hc'
                generalize all.drop sp = D at *
                generalize all.take sp = T at *
                have hd0 := id hid
                obtain ⟨x7, c7, e7, h71, h72, h73⟩ := hd0
                cases e7
                clear hc1 hc2 hdle
                go_wp2_with fail
                go_loop [11, 93] (fun v11 vi => ∃ j : Nat, vi = .int .i64 j ∧ j ≤ D.length ∧ v11 = .int .i64 (usedC (D.take j) : Nat)) (fun _ vi => D.length - (intOf vi).toNat)
                case atStart => exact ⟨0, rfl, Nat.zero_le _, rfl⟩
                case round =>
                  obtain ⟨j, rfl, hj, rfl⟩ := hrel
                  have hul := usedC_le (D.take j)
                  have htl2 : (D.take j).length ≤ j := by simp; omega
                  have hul2 : usedC (D.take j) ≤ 400 := by omega
                  clear hul htl2
                  by_cases hjl : j < D.length
                  · have hd2 : decide ((j : Int) < (D.length : Int)) = true := by simp; omega
                    have hne : D ≠ [] := by rintro rfl; simp at hjl
                    obtain ⟨g7, off7, cs7, e8, hb7, hcl7⟩ := h73 hne
                    cases e8
                    have q7 := (hb7.cell (off + sp + j)).trans (hcl7 j hjl)
                    have HS : Hid (usedC (D.take (j + 1)) = usedC (D.take j) + (if D[j] = 0 then 0 else 1)) := by show _ = _; rw [List.take_succ_eq_append_getElem hjl, usedC_snoc]
                    have z1 : (0 : Int) ≤ (j : Int) := by omega
                    have z2 : (j : Int) < (D.length : Int) := by omega
                    clear hcl7 h73 hb7 hit hid k256 HE4
                    generalize D[j] = y at *
                    generalize usedC (D.take j) = U at *
                    by_cases hy : y = 0
                    · subst hy
                      go_wp2_with fail
                      go_round
                      case rel => exact ⟨j + 1, by go_num, by omega, by rw [HS.out]; rfl⟩
                      case measure => simp [intOf]; omega
                    · have hy1 : decide ((0 : Int) < (y : Int)) = true := by simp; omega
                      go_wp2_with fail
                      go_round
                      case rel => exact ⟨j + 1, by go_num, by omega, by rw [HS.out, if_neg hy]; simp⟩
                      case measure => simp [intOf]; omega
                  · have hd2 : decide ((j : Int) < (D.length : Int)) = false := by simp; omega
                    have hall : D.take j = D := List.take_of_length_le (by omega)
                    rw [hall] at hul2 ⊢
                    have hsu := sum_used D hd15
                    have hsD := sumC_le D
                    have hsD2 : sumC D ≤ 400 * 32768 := Nat.le_trans hsD (Nat.mul_le_mul_right _ hdl)
                    have hsT : sumC T ≤ 400 * 32768 := Nat.le_trans (sumC_le T) (Nat.mul_le_mul_right _ htl)
                    have HIT := Lib.hid hit
                    have HID := Lib.hid hid
                    have HST := Lib.hid (refSum_any _ T w6 hit.read ht15 htl)
                    have HSD := Lib.hid (refSum_any _ D w6 hid.read hd15 hdl)
                    have HDR : Hid (disR D ↔ sumC D = 32768 ∨ usedC D = 0 ∨ usedC D = 1 ∧ sumC D = 16384) := Iff.rfl
                    clear hall hsD hit hid h73 h71 h72
                    go_wp2_with fail
                    refine HSD.out.mono ?_
                    rintro e w7 ⟨rfl, rfl⟩
                    go_wp2_with fail
                    refine HST.out.mono ?_
                    rintro e w7 ⟨rfl, rfl⟩
                    have hE4 := HE4.out
                    clear HST HSD HE4
                    generalize sumC D = SD at *
                    generalize usedC D = UD at *
                    generalize sumC T = ST at *
                    generalize all.getD 256 0 = V at *
                    have a3 : (256 : Int) < (sp : Int) := by omega
                    by_cases b1 : ST = 32768
                    · have e1 : ((ST : Int) != 32768) = false := by simp; omega
                      by_cases b2 : V = 0
                      · have e2 : ((V : Int) == 0) = true := by simp; omega
                        rw [if_pos (.inr b2)] at hE4
                        have HE := Lib.hid hE4
                        clear hE4 hsu HDR b1 b2
                        have kE := hz6.cell 2
                        have fE := hz6.frozen 2
                        simp [rc] at kE
                        have hz0 := hz6.put 2 (.int .i64 4)
                        have hf0 := hfr6.put hz6 (Nat.le_refl _) (by simp) 2 (.int .i64 4)
                        have HZ0 := Lib.hid hz0
                        have HF0 := Lib.hid hf0
                        clear hz0 hf0
                        go_wp2_with fail
                        go_ret2
                        refine ⟨?_, HF0.out⟩
                        rw [HE.out]
                        exact ⟨⟨_, _, rfl⟩, p5, by have := HZ0.out; simpa [rc] using this⟩
                      have e2 : ((V : Int) == 0) = false := beq_false_of_ne (by omega)
                      rw [if_neg (by omega)] at hE4
                      by_cases b3 : SD = 32768
                      · have e3 : ((SD : Int) != 32768) = false := by simp; omega
                        rw [if_pos (HDR.out.2 (.inl b3))] at hE4
                        have HE := Lib.hid hE4
                        clear hE4 hsu HDR b1 b2 b3
                        go_wp2_with fail
                        go_ret2
                        refine ⟨?_, hfr6⟩
                        rw [HE.out]
                        exact ⟨⟨_, _, rfl, HIT.out, HID.out⟩, p5, hp5, rfl, hz6⟩
                      have e3 : ((SD : Int) != 32768) = true := by simp; omega
                      by_cases b4 : SD = 0
                      · have e4 : ((SD : Int) != 0) = false := by simp; omega
                        rw [if_pos (HDR.out.2 (.inr (.inl (hsu.1 b4))))] at hE4
                        have HE := Lib.hid hE4
                        clear hE4 hsu HDR b1 b2 b3 b4
                        go_wp2_with fail
                        go_ret2
                        refine ⟨?_, hfr6⟩
                        rw [HE.out]
                        exact ⟨⟨_, _, rfl, HIT.out, HID.out⟩, p5, hp5, rfl, hz6⟩
                      have e4 : ((SD : Int) != 0) = true := by simp; omega
                      have b4' : ¬ UD = 0 := fun h => b4 (hsu.2 h)
                      by_cases b5 : UD = 1
                      · have e5 : ((UD : Int) != 1) = false := by simp; omega
                        by_cases b6 : SD = 16384
                        · have e6 : ((SD : Int) != 16384) = false := by simp; omega
                          rw [if_pos (HDR.out.2 (.inr (.inr ⟨b5, b6⟩)))] at hE4
                          have HE := Lib.hid hE4
                          clear hE4 hsu HDR b1 b2 b3 b4 b5 b6 b4'
                          go_wp2_with fail
                          go_ret2
                          refine ⟨?_, hfr6⟩
                          rw [HE.out]
                          exact ⟨⟨_, _, rfl, HIT.out, HID.out⟩, p5, hp5, rfl, hz6⟩
                        · have e6 : ((SD : Int) != 16384) = true := by simp; omega
                          rw [if_neg (fun h => by rcases HDR.out.1 h with h | h | h; exact b3 h; exact b4' h; exact b6 h.2)] at hE4
                          have HE := Lib.hid hE4
                          clear hE4 hsu HDR b1 b2 b3 b4 b5 b6 b4'
                          have kE := hz6.cell 2
                          have fE := hz6.frozen 2
                          simp [rc] at kE
                          have hz0 := hz6.put 2 (.int .i64 4)
                          have hf0 := hfr6.put hz6 (Nat.le_refl _) (by simp) 2 (.int .i64 4)
                          have HZ0 := Lib.hid hz0
                          have HF0 := Lib.hid hf0
                          clear hz0 hf0
                          go_wp2_with fail
                          go_ret2
                          refine ⟨?_, HF0.out⟩
                          rw [HE.out]
                          exact ⟨⟨_, _, rfl⟩, p5, by have := HZ0.out; simpa [rc] using this⟩
                      · have e5 : ((UD : Int) != 1) = true := by simp; omega
                        rw [if_neg (fun h => by rcases HDR.out.1 h with h | h | h; exact b3 h; exact b4' h; exact b5 h.1)] at hE4
                        have HE := Lib.hid hE4
                        clear hE4 hsu HDR b1 b2 b3 b4 b5 b4'
                        have kE := hz6.cell 2
                        have fE := hz6.frozen 2
                        simp [rc] at kE
                        have hz0 := hz6.put 2 (.int .i64 4)
                        have hf0 := hfr6.put hz6 (Nat.le_refl _) (by simp) 2 (.int .i64 4)
                        have HZ0 := Lib.hid hz0
                        have HF0 := Lib.hid hf0
                        clear hz0 hf0
                        go_wp2_with fail
                        go_ret2
                        refine ⟨?_, HF0.out⟩
                        rw [HE.out]
                        exact ⟨⟨_, _, rfl⟩, p5, by have := HZ0.out; simpa [rc] using this⟩
                    · have e1 : ((ST : Int) != 32768) = true := by simp; omega
                      rw [if_pos (.inl b1)] at hE4
                      have HE := Lib.hid hE4
                      clear hE4 hsu HDR b1
                      have kE := hz6.cell 2
                      have fE := hz6.frozen 2
                      simp [rc] at kE
                      have hz0 := hz6.put 2 (.int .i64 4)
                      have hf0 := hfr6.put hz6 (Nat.le_refl _) (by simp) 2 (.int .i64 4)
                      have HZ0 := Lib.hid hz0
                      have HF0 := Lib.hid hf0
                      clear hz0 hf0
                      go_wp2_with fail
                      go_ret2
                      refine ⟨?_, HF0.out⟩
                      rw [HE.out]
                      exact ⟨⟨_, _, rfl⟩, p5, by have := HZ0.out; simpa [rc] using this⟩
            · have HE := Lib.hid hE4
              have hk0 : ((er : Int) == 0) = false := beq_false_of_ne (by omega)
              have hk1 : ((er : Int) != 0) = true := by simp; omega
              clear HEE hE4
              go_wp2_with fail
              go_ret2
              refine ⟨?_, hfr⟩
              rw [HE.out]
              exact ⟨⟨_, _, rfl⟩, qq, hzr⟩
end Go.Proofs.Ytkbelkdephfhpaa
