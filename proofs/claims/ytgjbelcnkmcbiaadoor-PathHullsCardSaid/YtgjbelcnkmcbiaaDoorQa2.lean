/-
  Walk: the law's ends: the first and the last points of the subpaths. (Region 7 by wip/gen_qa2.py.)
-/
import Derived.Test.YtgjbelcnkmcbiaaDoorQa1
namespace Go.Proofs.YtgjbelcnkmcbiaaDoor
open Go.RowKit

/-- 'append(out, x1, ..)' within a region that draws its order; where the row lies behind it. -/
theorem step_appD {P : Program} {w : World} {ops : Array Oper} {o : Oper} {a : Act} {K : Act → World → Prop} {Q : Exit → Act → World → Prop} {E : Prop} {t e : TypeId} {z : Value} {size bytes : Nat} (hE : Elem P t e z size bytes) (hgd : o.guard = none) {s x : Operand}
    (ho : o.op = .call { callee := .builtin .append, args := #[s, x], argTypes := #[t, t] }) {base : Nat} {v : Value} {n : Nat} {xs : List Value} (hs : a.eval s = v) (hown : w.ownsRow base e size v n xs) {cs : Array Value} {m k : Nat}
    (hx : a.eval x = .slice (some ⟨k, 0, none⟩) (m + 1) (m + 1)) (hb : Blk w k e cs) (hm : cs.size = (m + 1) * size) (h1 : ∀ u ∈ cs.toList, u.oneCell' = true) (hlen : (n + (m + 1)) * bytes ≤ 140737488355328) (h63 : n + (m + 1) ≤ maxLen) (hbase : base ≤ w.heap.size)
    (h : ∀ r cap w', w'.ownsRow base e size (.slice (some ⟨r, 0, none⟩) (n + (m + 1)) cap) (n + (m + 1)) (xs ++ cs.toList) → w.grownBy w' v.ownBlock → (v.ownBlock = some r ∨ r = w.heap.size) → K (a.put o.dst (.slice (some ⟨r, 0, none⟩) (n + (m + 1)) cap)) w') :
    if Region.wanted o (yielded ops a.tmps) = true then Oper.wp P o a w K Q else E := by
  obtain ⟨ht, ⟨i, hi, hz, hsz, hby⟩, hzs, hp⟩ := hE
  exact step_append_lies (w := w) hgd s x t ho base e i z size bytes ht hi hz hsz hby hzs hp v n xs hs hown ⟨k, 0, none⟩ (m + 1) (m + 1) cs.toList hx (by simpa using hm) (World.news_of_block hb) h1 (by omega) h63 hlen hbase _ rfl fun g cap w' a1 a2 a3 _ => h g cap w' a1 a2 a3
theorem qown_sh {B : Nat} {W : World} {v : Value} {l : List Pt} (h : QOwn W B v l) : ∃ x c, v = .slice x l.length c := by
  rcases h.2 with ⟨rfl, h0⟩ | ⟨g, cap, cur, rfl, _⟩
  · exact ⟨none, 0, by rw [h0]⟩
  · exact ⟨_, _, rfl⟩

theorem usedP_le (k : Int) : usedP k ≤ 3 := by unfold usedP; (repeat' split) <;> omega

set_option maxRecDepth 100000 in
set_option maxHeartbeats 4000000 in
theorem ends_any (v : Value) (l : List Sg) (w : World) (hr : SRow w v l) (h0 : chkP l = 0) : Calls Tryd.prog 16 #[v] w fun e w' =>
    (∃ g1 g2, e = .returned (.tuple #[g1, g2]) ∧ QRow w' g1 ((flP l).map hdP) ∧ QRow w' g2 ((flP l).map lastP)) ∧ Below w.heap.size w w' := by
  obtain ⟨x, c, rfl, hc1, hc2, -⟩ := id hr
  unfold maxLen at hc2
  have HSR := Lib.hid hr
  have hok := Lib.hid (chkP_ok h0).2
  have hln := (chkP_ok h0).1
  have HRF := Lib.hid (ref_fl h0)
  have HMF := Lib.hid (move_first h0)
  have HE0 : Hid (E2 w ((w.alloc (.cells #[] 32)).alloc (.cells #[] 32)) (.slice (some ⟨w.heap.size, 0, none⟩) 0 0) (.slice (some ⟨w.heap.size + 1, 0, none⟩) 0 0) [] []) := by
    have hb1 := (Below.refl w.heap.size w).alloc (Nat.le_refl _) (.cells #[] 32)
    have a1 : QOwn (w.alloc (.cells #[] 32)) w.heap.size (.slice (some ⟨w.heap.size, 0, none⟩) 0 0) [] := World.ownsRow_lit w #[] 0 (Nat.le_refl _) (by decide) rfl
    have a2 : QOwn ((w.alloc (.cells #[] 32)).alloc (.cells #[] 32)) w.heap.size (.slice (some ⟨w.heap.size + 1, 0, none⟩) 0 0) [] := by
      have := World.ownsRow_lit (e := 32) (size := 2) (base := w.heap.size) (w.alloc (.cells #[] 32)) #[] 0 (by simp) (by decide) rfl
      simp at this
      exact this
    refine ⟨World.ownsRow.alloc a1 _, a2, ?_, hb1.alloc (by simp) _⟩
    intro r hr e
    have h1 : w.heap.size = r := by injection hr
    have h2 : w.heap.size + 1 = r := by injection e
    omega
  clear hr h0
  go_enter Tryd.func16, Tryd.ntmps16
  go_wp2_with fail
  go_loopw [4, 5, 6] (fun v1 v2 vi wr => ∃ (i : Nat) (out : List (List Pt)) (p : Pt) (fs ls : List Pt) (O1 O2 : Value), O1 = v1 ∧ O2 = v2 ∧ vi = .int .i64 i ∧ i ≤ l.length ∧ fs.length ≤ i ∧ ls.length ≤ i ∧ Hid (EnSt out p fs ls) ∧ Hid (0 < i → out ≠ []) ∧ Hid (rGo [] (0, 0) l = rGo out p (l.drop i)) ∧ Hid (E2 w wr O1 O2 fs ls)) (fun _ _ vi _ => l.length - (intOf vi).toNat)
  case atStart => exact ⟨0, [], (0, 0), [], [], _, _, rfl, rfl, rfl, Nat.zero_le _, Nat.le_refl _, Nat.le_refl _, ⟨rfl, rfl, by simp, by simp⟩, by intro h; simp at h, rfl, HE0.out⟩
  case round =>
    obtain ⟨i, out, p, fs, ls, O1, O2, rfl, rfl, rfl, hi, hfl, hll, hen, hne, hrg, he2⟩ := hrel
    by_cases hlt : i < l.length
    · have hd : decide ((i : Int) < (l.length : Int)) = true := by simp; omega
      have hrw := HSR.out.below he2.out.w
      obtain ⟨bb, off, rfl, hcl, -⟩ := hrw.at i hlt
      have hso := hok.out i hlt
      have HAT : Hid (rGo [] (0, 0) l = rGo (if l[i].1 = 1 then out ++ [[l[i].2.1]] else out.dropLast ++ [bendP (out.getLast?.getD []) p l[i]]) (curP p l[i]) (l.drop (i + 1))) := by
        show _ = _; rw [hrg.out, List.drop_eq_getElem_cons hlt, rGo_cons]
      have HCL : Hid (∀ W, Below w.heap.size w W → SCell W bb off i l[i]) := by
        intro W hb
        obtain ⟨b', off', hv, hcl, -⟩ := (HSR.out.below hb).at i hlt
        obtain ⟨rfl, rfl⟩ : bb = b' ∧ off = off' := by injection hv with hv; injection hv with h1 h2; exact ⟨h1, h2⟩
        exact hcl i hlt
      obtain ⟨s, hm⟩ : ∃ s : Sg, l[i] = s := ⟨_, rfl⟩
      rw [hm] at HAT HCL hso
      have hu3 := usedP_le s.1
      have HUS := Lib.hid (fun w => rused_any s.1 w)
      rw [rusP_ok s.1 hso.lo hso.hi] at HUS
      clear hrg hm hcl hrw
      obtain ⟨u, hu⟩ : ∃ u, usedP s.1 = u := ⟨_, rfl⟩
      obtain ⟨k, hk⟩ : ∃ k, s.1 = k := ⟨_, rfl⟩
      obtain ⟨px, py, hp0⟩ : ∃ px py, s.2.1 = (px, py) := ⟨_, _, rfl⟩
      have HCU := Lib.hid (cur_pt p s hso.lo hso.hi)
      obtain ⟨y1, y2, y3, -⟩ := HCL.out wr he2.out.w
      have HYY : Hid (∀ W, Below w.heap.size w W → W.cell? ⟨bb, off + i * 7 + 1, none⟩ = some (.int .i64 px) ∧ W.cell? ⟨bb, off + i * 7 + 2, none⟩ = some (.int .i64 py)) := by
        intro W hb
        obtain ⟨_, a2, a3, -⟩ := HCL.out W hb
        rw [hp0] at a2 a3
        exact ⟨a2, a3⟩
      have hsk := hso.ord
      rw [hu] at HUS HCU
      rw [hk] at hsk HAT HUS HCU y1
      rw [hp0] at y2 y3
      simp only at y2 y3
      obtain ⟨x1, c1, rfl⟩ := qown_sh he2.out.a
      obtain ⟨x2, c2, rfl⟩ := qown_sh he2.out.b
      have hmax : maxLen = 9223372036854775807 := rfl
      by_cases hk1 : k = 1
      · subst hk1
        have HZ := HAT.out
        rw [if_pos rfl, hp0, cur_move hk, hp0] at HZ
        have HZ := Lib.hid HZ
        have HEN := Lib.hid (hen.out.move (px, py))
        clear hso HAT HCU hsk hp0 hu hk hen hne
        go_upto_region 7 with (refine (HUS.out _).mono ?_; rintro e' w' ⟨rfl, rfl⟩)
        have hE0 : E2 w wr.drew (.slice x1 fs.length c1) (.slice x2 ls.length c2) fs ls := he2.out.below (Below.refl _ _).drew
        have hS := HYY.out _ hE0.w
        clear y1 y2 y3 he2
        --HELD
        refine wp_region_held_drew (S := fun _ => True) (by kernel_rfl) trivial (fun hHeld => ?_)
        clear hHeld
        generalize wr.drew = wd at *
        refine wpAnyH_weaken (S2 := fun W => W.cell? ⟨bb, off + i * 7 + 1, none⟩ = some (.int .i64 px) ∧ W.cell? ⟨bb, off + i * 7 + 2, none⟩ = some (.int .i64 py)) (fun _ _ => trivial) ?_
        refine wpAnyH_take (i := 0) (oi := ⟨some 28, Op.move (Operand.tmp 4), 37, _, _, none⟩) (v := ?v1) rfl (by kernel_rfl) (by kernel_rfl) (by kernel_rfl) (fun _ _ _ h => h) (Or.inl ⟨by rfl, ?y1⟩) hS ?r1
        case y1 => (intro w hSw; (try dsimp only at hSw); go_simp; try with_reducible rfl)
        try simp only [Act.put, List.setIfInBounds_toArray, List.set_cons_zero, List.set_cons_succ]
        refine wpAnyH_take (i := 1) (oi := ⟨some 29, Op.move (Operand.tmp 0), 22, _, _, none⟩) (v := ?v2) rfl (by kernel_rfl) (by kernel_rfl) (by kernel_rfl) (fun _ _ _ h => h) (Or.inl ⟨by rfl, ?y2⟩) hS ?r2
        case y2 => (intro w hSw; (try dsimp only at hSw); go_simp; try with_reducible rfl)
        try simp only [Act.put, List.setIfInBounds_toArray, List.set_cons_zero, List.set_cons_succ]
        refine wpAnyH_take (i := 2) (oi := ⟨some 30, Op.move (Operand.tmp 6), 3, _, _, none⟩) (v := ?v3) rfl (by kernel_rfl) (by kernel_rfl) (by kernel_rfl) (fun _ _ _ h => h) (Or.inl ⟨by rfl, ?y3⟩) hS ?r3
        case y3 => (intro w hSw; (try dsimp only at hSw); go_simp; try with_reducible rfl)
        try simp only [Act.put, List.setIfInBounds_toArray, List.set_cons_zero, List.set_cons_succ]
        refine wpAnyH_take (i := 3) (oi := ⟨some 31, Op.indexAddr 22 (Operand.tmp 29) (Operand.tmp 30), 0, _, _, none⟩) (v := ?v4) rfl (by kernel_rfl) (by kernel_rfl) (by kernel_rfl) (fun _ _ _ h => h) (Or.inl ⟨by rfl, ?y4⟩) hS ?r4
        case y4 => (intro w hSw; (try dsimp only at hSw); go_simp; try with_reducible rfl)
        try simp only [Act.put, List.setIfInBounds_toArray, List.set_cons_zero, List.set_cons_succ]
        refine wpAnyH_take (i := 4) (oi := ⟨some 32, Op.fieldAddr 35 (Operand.tmp 31) 1, 0, _, _, none⟩) (v := ?v5) rfl (by kernel_rfl) (by kernel_rfl) (by kernel_rfl) (fun _ _ _ h => h) (Or.inl ⟨by rfl, ?y5⟩) hS ?r5
        case y5 => (intro w hSw; (try dsimp only at hSw); go_simp; try with_reducible rfl)
        try simp only [Act.put, List.setIfInBounds_toArray, List.set_cons_zero, List.set_cons_succ]
        refine wpAnyH_take (i := 5) (oi := ⟨some 33, Op.indexAddr 33 (Operand.tmp 32) (Operand.const (Value.int IntKind.i64 0)), 0, _, _, none⟩) (v := ?v6) rfl (by kernel_rfl) (by kernel_rfl) (by kernel_rfl) (fun _ _ _ h => h) (Or.inl ⟨by rfl, ?y6⟩) hS ?r6
        case y6 => (intro w hSw; (try dsimp only at hSw); go_simp; try with_reducible rfl)
        try simp only [Act.put, List.setIfInBounds_toArray, List.set_cons_zero, List.set_cons_succ]
        refine wpAnyH_take (i := 6) (oi := ⟨some 34, Op.load 32 (Operand.tmp 33), 32, _, _, none⟩) (v := ?v7) rfl (by kernel_rfl) (by kernel_rfl) (by kernel_rfl) (fun _ _ _ h => h) (Or.inl ⟨by rfl, ?y7⟩) hS ?r7
        case y7 => (intro w hSw; (try dsimp only at hSw); go_simp; try with_reducible rfl)
        try simp only [Act.put, List.setIfInBounds_toArray, List.set_cons_zero, List.set_cons_succ]
        refine wpAnyH_take (i := 9) (oi := ⟨some 37, Op.move (Operand.tmp 5), 37, _, _, none⟩) (v := ?v8) rfl (by kernel_rfl) (by kernel_rfl) (by kernel_rfl) (fun _ _ _ h => h) (Or.inl ⟨by rfl, ?y8⟩) hS ?r8
        case y8 => (intro w hSw; (try dsimp only at hSw); go_simp; try with_reducible rfl)
        try simp only [Act.put, List.setIfInBounds_toArray, List.set_cons_zero, List.set_cons_succ]
        refine wpAnyH_take (i := 10) (oi := ⟨some 38, Op.move (Operand.tmp 0), 22, _, _, none⟩) (v := ?v9) rfl (by kernel_rfl) (by kernel_rfl) (by kernel_rfl) (fun _ _ _ h => h) (Or.inl ⟨by rfl, ?y9⟩) hS ?r9
        case y9 => (intro w hSw; (try dsimp only at hSw); go_simp; try with_reducible rfl)
        try simp only [Act.put, List.setIfInBounds_toArray, List.set_cons_zero, List.set_cons_succ]
        refine wpAnyH_take (i := 11) (oi := ⟨some 39, Op.move (Operand.tmp 6), 3, _, _, none⟩) (v := ?v10) rfl (by kernel_rfl) (by kernel_rfl) (by kernel_rfl) (fun _ _ _ h => h) (Or.inl ⟨by rfl, ?y10⟩) hS ?r10
        case y10 => (intro w hSw; (try dsimp only at hSw); go_simp; try with_reducible rfl)
        try simp only [Act.put, List.setIfInBounds_toArray, List.set_cons_zero, List.set_cons_succ]
        refine wpAnyH_take (i := 12) (oi := ⟨some 40, Op.indexAddr 22 (Operand.tmp 38) (Operand.tmp 39), 0, _, _, none⟩) (v := ?v11) rfl (by kernel_rfl) (by kernel_rfl) (by kernel_rfl) (fun _ _ _ h => h) (Or.inl ⟨by rfl, ?y11⟩) hS ?r11
        case y11 => (intro w hSw; (try dsimp only at hSw); go_simp; try with_reducible rfl)
        try simp only [Act.put, List.setIfInBounds_toArray, List.set_cons_zero, List.set_cons_succ]
        refine wpAnyH_take (i := 13) (oi := ⟨some 41, Op.fieldAddr 35 (Operand.tmp 40) 1, 0, _, _, none⟩) (v := ?v12) rfl (by kernel_rfl) (by kernel_rfl) (by kernel_rfl) (fun _ _ _ h => h) (Or.inl ⟨by rfl, ?y12⟩) hS ?r12
        case y12 => (intro w hSw; (try dsimp only at hSw); go_simp; try with_reducible rfl)
        try simp only [Act.put, List.setIfInBounds_toArray, List.set_cons_zero, List.set_cons_succ]
        refine wpAnyH_take (i := 14) (oi := ⟨some 42, Op.indexAddr 33 (Operand.tmp 41) (Operand.const (Value.int IntKind.i64 0)), 0, _, _, none⟩) (v := ?v13) rfl (by kernel_rfl) (by kernel_rfl) (by kernel_rfl) (fun _ _ _ h => h) (Or.inl ⟨by rfl, ?y13⟩) hS ?r13
        case y13 => (intro w hSw; (try dsimp only at hSw); go_simp; try with_reducible rfl)
        try simp only [Act.put, List.setIfInBounds_toArray, List.set_cons_zero, List.set_cons_succ]
        refine wpAnyH_take (i := 15) (oi := ⟨some 43, Op.load 32 (Operand.tmp 42), 32, _, _, none⟩) (v := ?v14) rfl (by kernel_rfl) (by kernel_rfl) (by kernel_rfl) (fun _ _ _ h => h) (Or.inl ⟨by rfl, ?y14⟩) hS ?r14
        case y14 => (intro w hSw; (try dsimp only at hSw); go_simp; try with_reducible rfl)
        try simp only [Act.put, List.setIfInBounds_toArray, List.set_cons_zero, List.set_cons_succ]
        refine wpAnyH_ready (rs := [7, 16]) (by kernel_rfl) (by simp) ?r15
        refine AllReadyH.cons (o := ⟨some 35, Op.buildSlice 37 1 #[(0, Operand.tmp 34)], 37, _, _, none⟩) rfl (fun K hK => ?sa15) (AllReadyH.cons (o := ⟨some 44, Op.buildSlice 37 1 #[(0, Operand.tmp 43)], 37, _, _, none⟩) rfl (fun K hK => ?sb15) AllReadyH.nil)
        case sa15 =>
          go_simp
          have hE1 := hE0.alloc (.cells #[.int .i64 px, .int .i64 py] 32)
          refine hK.out _ _ ?k15 (fun hHeld => ?_)
          case k15 => exact HYY.out _ hE1.w
          clear hS
          have hS := hHeld
          clear hHeld
          clear hK K
          try simp only [Act.put, List.setIfInBounds_toArray, List.set_cons_zero, List.set_cons_succ]
          refine wpAnyH_ready (rs := [8, 16]) (by kernel_rfl) (by simp) ?r16
          refine AllReadyH.cons (o := ⟨some 36, Op.call { callee := Callee.builtin Builtin.append, args := #[Operand.tmp 28, Operand.tmp 35], argTypes := #[37, 37] }, 37, _, _, none⟩) rfl (fun K hK => ?sa16) (AllReadyH.cons (o := ⟨some 44, Op.buildSlice 37 1 #[(0, Operand.tmp 43)], 37, _, _, none⟩) rfl (fun K hK => ?sb16) AllReadyH.nil)
          case sa16 =>
            refine step_appD el_pt rfl (s := .tmp 28) (x := .tmp 35) rfl (by simp [Act.eval]) hE1.a (m := 0) (by simp [Act.eval]) (Blk.new _ _ _) rfl (by intro z hz; simp at hz; rcases hz with rfl | rfl <;> rfl) (by omega) (by omega) hE1.w.size ?_
            intro r8 c8 w8 h8 hg8 hr8
            have hE2 := hE1.app1 h8 hg8 hr8
            refine hK.out _ _ ?k16 (fun hHeld => ?_)
            case k16 => exact HYY.out _ hE2.w
            clear hS
            have hS := hHeld
            clear hHeld
            clear hK K
            try simp only [Act.put, List.setIfInBounds_toArray, List.set_cons_zero, List.set_cons_succ]
            refine wpAnyH_ready (rs := [16]) (by kernel_rfl) (by simp) ?r17
            refine AllReadyH.cons (o := ⟨some 44, Op.buildSlice 37 1 #[(0, Operand.tmp 43)], 37, _, _, none⟩) rfl (fun K hK => ?s17) AllReadyH.nil
            go_simp
            have hE3 := hE2.alloc (.cells #[.int .i64 px, .int .i64 py] 32)
            refine hK.out _ _ ?k17 (fun hHeld => ?_)
            case k17 => exact HYY.out _ hE3.w
            clear hS
            have hS := hHeld
            clear hHeld
            clear hK K
            try simp only [Act.put, List.setIfInBounds_toArray, List.set_cons_zero, List.set_cons_succ]
            refine wpAnyH_ready (rs := [17]) (by kernel_rfl) (by simp) ?r18
            refine AllReadyH.cons (o := ⟨some 45, Op.call { callee := Callee.builtin Builtin.append, args := #[Operand.tmp 37, Operand.tmp 44], argTypes := #[37, 37] }, 37, _, _, none⟩) rfl (fun K hK => ?s18) AllReadyH.nil
            refine step_appD el_pt rfl (s := .tmp 37) (x := .tmp 44) rfl (by simp [Act.eval]) hE3.b (m := 0) (by simp [Act.eval]) (Blk.new _ _ _) rfl (by intro z hz; simp at hz; rcases hz with rfl | rfl <;> rfl) (by omega) (by omega) hE3.w.size ?_
            intro r17 c17 w17 h17 hg17 hr17
            have hE4 := hE3.app2 h17 hg17 hr17
            refine hK.out _ _ ?k18 (fun hHeld => ?_)
            case k18 => exact HYY.out _ hE4.w
            clear hS
            have hS := hHeld
            clear hHeld
            clear hK K
            try simp only [Act.put, List.setIfInBounds_toArray, List.set_cons_zero, List.set_cons_succ]
            refine wpAnyH_ready (rs := [18]) (by kernel_rfl) (by simp) ?r19
            refine AllReadyH.cons (o := ⟨some 4, Op.assign (Operand.tmp 36), 37, _, _, none⟩) rfl (fun K hK => ?s19) AllReadyH.nil
            go_simp
            refine hK.out _ _ ?k19 (fun hHeld => ?_)
            case k19 => exact hS
            clear hS
            have hS := hHeld
            clear hHeld
            clear hK K
            try simp only [Act.put, List.setIfInBounds_toArray, List.set_cons_zero, List.set_cons_succ]
            refine wpAnyH_ready (rs := [19]) (by kernel_rfl) (by simp) ?r20
            refine AllReadyH.cons (o := ⟨some 5, Op.assign (Operand.tmp 45), 37, _, _, none⟩) rfl (fun K hK => ?s20) AllReadyH.nil
            go_simp
            refine hK.out _ _ ?k20 (fun hHeld => ?_)
            case k20 => exact hS
            clear hS
            have hS := hHeld
            clear hHeld
            clear hK K
            try simp only [Act.put, List.setIfInBounds_toArray, List.set_cons_zero, List.set_cons_succ]
            refine wpAnyH_done (by kernel_rfl) ?_ _
            have HE4 := Lib.hid hE4
            clear hS hE0 hE1 hE2 hE3 hE4
            (try clear h8 hg8 hr8 h17 hg17 hr17)
            (try clear hB)
            go_wp2_with fail
            go_roundw
            case rel => exact ⟨i + 1, _, _, _, _, _, _, rfl, rfl, by go_num, by omega, by simp; omega, by simp; omega, HEN, fun _ => by simp, HZ, HE4⟩
            case measure => simp [intOf]; omega
          case sb16 =>
            go_simp
            have hE2 := hE1.alloc (.cells #[.int .i64 px, .int .i64 py] 32)
            refine hK.out _ _ ?k16 (fun hHeld => ?_)
            case k16 => exact HYY.out _ hE2.w
            clear hS
            have hS := hHeld
            clear hHeld
            clear hK K
            try simp only [Act.put, List.setIfInBounds_toArray, List.set_cons_zero, List.set_cons_succ]
            refine wpAnyH_ready (rs := [8]) (by kernel_rfl) (by simp) ?r21
            refine AllReadyH.cons (o := ⟨some 36, Op.call { callee := Callee.builtin Builtin.append, args := #[Operand.tmp 28, Operand.tmp 35], argTypes := #[37, 37] }, 37, _, _, none⟩) rfl (fun K hK => ?s21) AllReadyH.nil
            refine step_appD el_pt rfl (s := .tmp 28) (x := .tmp 35) rfl (by simp [Act.eval]) hE2.a (m := 0) (by simp [Act.eval]) ((Blk.new wd _ _).alloc _) rfl (by intro z hz; simp at hz; rcases hz with rfl | rfl <;> rfl) (by omega) (by omega) hE2.w.size ?_
            intro r8 c8 w8 h8 hg8 hr8
            have hE3 := hE2.app1 h8 hg8 hr8
            have hB := blk_app (Blk.new (wd.alloc (.cells #[.int .i64 px, .int .i64 py] 32)) 32 #[.int .i64 px, .int .i64 py]) hg8 (hE1.nblk (Nat.le_refl _)).1
            refine hK.out _ _ ?k21 (fun hHeld => ?_)
            case k21 => exact HYY.out _ hE3.w
            clear hS
            have hS := hHeld
            clear hHeld
            clear hK K
            try simp only [Act.put, List.setIfInBounds_toArray, List.set_cons_zero, List.set_cons_succ]
            refine wpAnyH_ready (rs := [17]) (by kernel_rfl) (by simp) ?r22
            refine AllReadyH.cons (o := ⟨some 45, Op.call { callee := Callee.builtin Builtin.append, args := #[Operand.tmp 37, Operand.tmp 44], argTypes := #[37, 37] }, 37, _, _, none⟩) rfl (fun K hK => ?s22) AllReadyH.nil
            refine step_appD el_pt rfl (s := .tmp 37) (x := .tmp 44) rfl (by simp [Act.eval]) hE3.b (m := 0) (by simp [Act.eval]) hB rfl (by intro z hz; simp at hz; rcases hz with rfl | rfl <;> rfl) (by omega) (by omega) hE3.w.size ?_
            intro r17 c17 w17 h17 hg17 hr17
            have hE4 := hE3.app2 h17 hg17 hr17
            refine hK.out _ _ ?k22 (fun hHeld => ?_)
            case k22 => exact HYY.out _ hE4.w
            clear hS
            have hS := hHeld
            clear hHeld
            clear hK K
            try simp only [Act.put, List.setIfInBounds_toArray, List.set_cons_zero, List.set_cons_succ]
            refine wpAnyH_ready (rs := [18]) (by kernel_rfl) (by simp) ?r23
            refine AllReadyH.cons (o := ⟨some 4, Op.assign (Operand.tmp 36), 37, _, _, none⟩) rfl (fun K hK => ?s23) AllReadyH.nil
            go_simp
            refine hK.out _ _ ?k23 (fun hHeld => ?_)
            case k23 => exact hS
            clear hS
            have hS := hHeld
            clear hHeld
            clear hK K
            try simp only [Act.put, List.setIfInBounds_toArray, List.set_cons_zero, List.set_cons_succ]
            refine wpAnyH_ready (rs := [19]) (by kernel_rfl) (by simp) ?r24
            refine AllReadyH.cons (o := ⟨some 5, Op.assign (Operand.tmp 45), 37, _, _, none⟩) rfl (fun K hK => ?s24) AllReadyH.nil
            go_simp
            refine hK.out _ _ ?k24 (fun hHeld => ?_)
            case k24 => exact hS
            clear hS
            have hS := hHeld
            clear hHeld
            clear hK K
            try simp only [Act.put, List.setIfInBounds_toArray, List.set_cons_zero, List.set_cons_succ]
            refine wpAnyH_done (by kernel_rfl) ?_ _
            have HE4 := Lib.hid hE4
            clear hS hE0 hE1 hE2 hE3 hE4
            (try clear h8 hg8 hr8 h17 hg17 hr17)
            (try clear hB)
            go_wp2_with fail
            go_roundw
            case rel => exact ⟨i + 1, _, _, _, _, _, _, rfl, rfl, by go_num, by omega, by simp; omega, by simp; omega, HEN, fun _ => by simp, HZ, HE4⟩
            case measure => simp [intOf]; omega
        case sb15 =>
          go_simp
          have hE1 := hE0.alloc (.cells #[.int .i64 px, .int .i64 py] 32)
          refine hK.out _ _ ?k15 (fun hHeld => ?_)
          case k15 => exact HYY.out _ hE1.w
          clear hS
          have hS := hHeld
          clear hHeld
          clear hK K
          try simp only [Act.put, List.setIfInBounds_toArray, List.set_cons_zero, List.set_cons_succ]
          refine wpAnyH_ready (rs := [7]) (by kernel_rfl) (by simp) ?r25
          refine AllReadyH.cons (o := ⟨some 35, Op.buildSlice 37 1 #[(0, Operand.tmp 34)], 37, _, _, none⟩) rfl (fun K hK => ?s25) AllReadyH.nil
          go_simp
          have hE2 := hE1.alloc (.cells #[.int .i64 px, .int .i64 py] 32)
          refine hK.out _ _ ?k25 (fun hHeld => ?_)
          case k25 => exact HYY.out _ hE2.w
          clear hS
          have hS := hHeld
          clear hHeld
          clear hK K
          try simp only [Act.put, List.setIfInBounds_toArray, List.set_cons_zero, List.set_cons_succ]
          refine wpAnyH_ready (rs := [8]) (by kernel_rfl) (by simp) ?r26
          refine AllReadyH.cons (o := ⟨some 36, Op.call { callee := Callee.builtin Builtin.append, args := #[Operand.tmp 28, Operand.tmp 35], argTypes := #[37, 37] }, 37, _, _, none⟩) rfl (fun K hK => ?s26) AllReadyH.nil
          refine step_appD el_pt rfl (s := .tmp 28) (x := .tmp 35) rfl (by simp [Act.eval]) hE2.a (m := 0) (by simp [Act.eval]) (Blk.new (wd.alloc (.cells #[.int .i64 px, .int .i64 py] 32)) _ _) rfl (by intro z hz; simp at hz; rcases hz with rfl | rfl <;> rfl) (by omega) (by omega) hE2.w.size ?_
          intro r8 c8 w8 h8 hg8 hr8
          have hE3 := hE2.app1 h8 hg8 hr8
          have hB := blk_app ((Blk.new wd 32 #[.int .i64 px, .int .i64 py]).alloc (.cells #[.int .i64 px, .int .i64 py] 32)) hg8 (hE0.nblk (Nat.le_refl _)).1
          refine hK.out _ _ ?k26 (fun hHeld => ?_)
          case k26 => exact HYY.out _ hE3.w
          clear hS
          have hS := hHeld
          clear hHeld
          clear hK K
          try simp only [Act.put, List.setIfInBounds_toArray, List.set_cons_zero, List.set_cons_succ]
          refine wpAnyH_ready (rs := [17]) (by kernel_rfl) (by simp) ?r27
          refine AllReadyH.cons (o := ⟨some 45, Op.call { callee := Callee.builtin Builtin.append, args := #[Operand.tmp 37, Operand.tmp 44], argTypes := #[37, 37] }, 37, _, _, none⟩) rfl (fun K hK => ?s27) AllReadyH.nil
          refine step_appD el_pt rfl (s := .tmp 37) (x := .tmp 44) rfl (by simp [Act.eval]) hE3.b (m := 0) (by simp [Act.eval]) hB rfl (by intro z hz; simp at hz; rcases hz with rfl | rfl <;> rfl) (by omega) (by omega) hE3.w.size ?_
          intro r17 c17 w17 h17 hg17 hr17
          have hE4 := hE3.app2 h17 hg17 hr17
          refine hK.out _ _ ?k27 (fun hHeld => ?_)
          case k27 => exact HYY.out _ hE4.w
          clear hS
          have hS := hHeld
          clear hHeld
          clear hK K
          try simp only [Act.put, List.setIfInBounds_toArray, List.set_cons_zero, List.set_cons_succ]
          refine wpAnyH_ready (rs := [18]) (by kernel_rfl) (by simp) ?r28
          refine AllReadyH.cons (o := ⟨some 4, Op.assign (Operand.tmp 36), 37, _, _, none⟩) rfl (fun K hK => ?s28) AllReadyH.nil
          go_simp
          refine hK.out _ _ ?k28 (fun hHeld => ?_)
          case k28 => exact hS
          clear hS
          have hS := hHeld
          clear hHeld
          clear hK K
          try simp only [Act.put, List.setIfInBounds_toArray, List.set_cons_zero, List.set_cons_succ]
          refine wpAnyH_ready (rs := [19]) (by kernel_rfl) (by simp) ?r29
          refine AllReadyH.cons (o := ⟨some 5, Op.assign (Operand.tmp 45), 37, _, _, none⟩) rfl (fun K hK => ?s29) AllReadyH.nil
          go_simp
          refine hK.out _ _ ?k29 (fun hHeld => ?_)
          case k29 => exact hS
          clear hS
          have hS := hHeld
          clear hHeld
          clear hK K
          try simp only [Act.put, List.setIfInBounds_toArray, List.set_cons_zero, List.set_cons_succ]
          refine wpAnyH_done (by kernel_rfl) ?_ _
          have HE4 := Lib.hid hE4
          clear hS hE0 hE1 hE2 hE3 hE4
          (try clear h8 hg8 hr8 h17 hg17 hr17)
          (try clear hB)
          go_wp2_with fail
          go_roundw
          case rel => exact ⟨i + 1, _, _, _, _, _, _, rfl, rfl, by go_num, by omega, by simp; omega, by simp; omega, HEN, fun _ => by simp, HZ, HE4⟩
          case measure => simp [intOf]; omega
        --DLEH
      · have hkk : (k == 1) = false := by simpa using hk1
        have hi0 : 0 < i := by
          rcases hsk with h | ⟨p', hp, -⟩
          · exact absurd h hk1
          · rcases Nat.eq_zero_or_pos i with h0 | h0
            · subst h0; simp at hp
            · exact h0
        have hon := hne.out hi0
        have hes := hen.out.same hon
        have HZ := HAT.out
        rw [if_neg hk1] at HZ
        have HZ := Lib.hid HZ
        have HEN := Lib.hid (hen.out.go hon (s := s) (by rw [hk]; exact hk1))
        have hu0 : u = 0 ↔ k = 5 := by
          rw [← hu, ← hk]
          unfold usedP
          have := hso.lo; have := hso.hi
          (repeat' split) <;> omega
        have hlp := List.length_pos_iff.2 hes.2
        have HLP := Lib.hid hes.2
        have dl : decide (0 < ls.length) = true := by simpa using hlp
        by_cases hk5 : k = 5
        · have h0u : u = 0 := hu0.2 hk5
          subst h0u
          have hc := HCU.out
          rw [if_pos hk5] at hc
          have HEQ := hes.1
          rw [hc] at HZ HEN
          rw [hes.1] at HEN
          clear hso HAT HCU hsk hp0 hu hk hen hne hes hu0 hc hon HEQ hlp hk5
          go_wp2_with fail
          refine (HUS.out _).mono ?_
          rintro e' w' ⟨rfl, rfl⟩
          go_wp2_with fail
          go_roundw
          case rel => exact ⟨i + 1, _, p, fs, ls, _, _, rfl, rfl, by go_num, by omega, by omega, by omega, HEN, fun _ => by simp, HZ, he2⟩
          case measure => simp [intOf]; omega
        · have h0u : 0 < u := by
            rcases Nat.eq_zero_or_pos u with h | h
            · exact absurd (hu0.1 h) hk5
            · exact h
          have du : decide (0 < u) = true := by simpa using h0u
          have hc := HCU.out
          rw [if_neg hk5] at hc
          obtain ⟨qx, qy, hq⟩ : ∃ qx qy, s.pt (u - 1) = (qx, qy) := ⟨_, _, rfl⟩
          rw [hc, hq] at HZ HEN
          obtain ⟨g, co, hv, hgb, -⟩ := World.ownsRow.form he2.out.b hlp
          injection hv with hv1 hv2 hv3
          subst hv1
          subst hv3
          have HSC : Hid (wr.cell? ⟨bb, off + i * 7 + 1 + (u - 1) * 2, none⟩ = some (.int .i64 qx) ∧ wr.cell? ⟨bb, off + i * 7 + 1 + (u - 1) * 2 + 1, none⟩ = some (.int .i64 qy)) := by
            obtain ⟨b1, b2, b3, b4, b5, b6, b7⟩ := HCL.out wr he2.out.w
            have hq1 : (s.pt (u - 1)).1 = qx := by rw [hq]
            have hq2 : (s.pt (u - 1)).2 = qy := by rw [hq]
            rw [← hq1, ← hq2]
            rcases (by omega : u = 1 ∨ u = 2 ∨ u = 3) with rfl | rfl | rfl
            · exact ⟨b2, b3⟩
            · exact ⟨b4, b5⟩
            · exact ⟨b6, b7⟩
          obtain ⟨s1, s2⟩ := HSC.out
          have hpl : (pcells ls).length = ls.length * 2 := pcells_length ls
          obtain ⟨v0, t0⟩ : ∃ v0, wr.cell? ⟨g, (ls.length - 1) * 2, none⟩ = some v0 := by
            rw [World.ownsRow.cellAt he2.out.b _ (by omega)]
            exact ⟨_, List.getElem?_eq_getElem (by omega)⟩
          obtain ⟨v1, t1⟩ : ∃ v1, wr.cell? ⟨g, (ls.length - 1) * 2 + 1, none⟩ = some v1 := by
            rw [World.ownsRow.cellAt he2.out.b _ (by omega)]
            exact ⟨_, List.getElem?_eq_getElem (by omega)⟩
          have f0 := World.ownsRow.frozenAt he2.out.b ((ls.length - 1) * 2)
          have f1 := World.ownsRow.frozenAt he2.out.b ((ls.length - 1) * 2 + 1)
          have HPT := Lib.hid (he2.out.put (px := qx) (py := qy) HLP.out)
          have hw2 : (ls.length : Int) - 1 < (ls.length : Int) := by omega
          have hw3 : ((ls.length : Int) - 1).toNat = ls.length - 1 := by omega
          have hw4 : (1 : Int) ≤ (ls.length : Int) := by omega
          have hw5 : ((u : Int) - 1).toNat = u - 1 := by omega
          have hw6 : (1 : Int) ≤ (u : Int) := by omega
          have hw7 : (u : Int) - 1 < 3 := by omega
          have hw8 : (u : Int) < 4 := by omega
          have HDL : Hid ((ls.dropLast ++ [(qx, qy)]).length = ls.length) := by show _ = _; simp; omega
          clear hso HAT HCU hsk hp0 hu hk hen hne hes hu0 hc hon hlp hk5 hpl hq he2 y2 y3 HSC
          go_wp2_with fail
          refine (HUS.out _).mono ?_
          rintro e' w' ⟨rfl, rfl⟩
          go_wp2_with fail
          exact ⟨⟨i + 1, _, _, fs, _, _, _, rfl, rfl, rfl, by omega, by omega, by rw [HDL.out]; omega, HEN, fun _ => by simp, HZ, HPT⟩, by simp [intOf]; omega⟩
    · have hd : decide ((i : Int) < (l.length : Int)) = false := by simp; omega
      have HZ : Hid (flP l = out) := by show _ = _; rw [← HRF.out, hrg.out, List.drop_of_length_le (by omega)]; rfl
      have HZ1 : Hid (fs = (flP l).map hdP ∧ ls = (flP l).map lastP) := by rw [HZ.out]; exact ⟨hen.out.f, hen.out.l⟩
      obtain ⟨x1, c1, rfl⟩ := qown_sh he2.out.a
      obtain ⟨x2, c2, rfl⟩ := qown_sh he2.out.b
      clear hrg
      go_wp2_with fail
      go_ret2
      exact ⟨⟨_, _, rfl, by rw [← HZ1.out.1]; exact he2.out.a.row, by rw [← HZ1.out.2]; exact he2.out.b.row⟩, he2.out.w⟩
end Go.Proofs.YtgjbelcnkmcbiaaDoor
