/-
  Walk: the fixed codes, in the program.
-/
import Derived.Test.YtppfjofaegbbjaaI4
import Derived.Test.YtppfjofaegbbjaaFx
namespace Go.Proofs.Ytppfjofaegbbjaa
open Go.RowKit

/-- A row of numbers. -/
def rowA (l : List Nat) : Array Value := (icells l).toArray
theorem rowA_size (l : List Nat) : (rowA l).size = l.length := by simp [rowA, icells]
theorem rowA_get (l : List Nat) (i : Nat) (h : i < l.length) : (rowA l)[i]? = some (.int .i64 (l[i] : Int)) := by simp [rowA, icells, h]
theorem rowA_set (l : List Nat) (i x : Nat) : (rowA l).setIfInBounds i (.int .i64 (x : Nat)) = rowA (l.set i x) := by
  simp [rowA, icells, List.map_set]
theorem rowA_new (n : Nat) : mkRow (.int .i64 0) n = rowA (List.replicate n 0) := by
  simp [mkRow, rowA, icells]
theorem fill_step (f : Nat → Nat) (i m : Nat) : ((List.range i).map f ++ List.replicate (m + 1) 0).set i (f i) = (List.range (i + 1)).map f ++ List.replicate m 0 := by
  have hl : ((List.range i).map f).length = i := by simp
  rw [List.set_append_right i (f i) (by omega), hl, Nat.sub_self, List.replicate_succ, List.set_cons_zero, List.range_succ, List.map_append, List.append_assoc]
  rfl
theorem Blk.irow {w : World} {k : Nat} {l : List Nat} (h : Blk w k 3 (rowA l)) (c : Nat) (hc : l.length ≤ c) (hm : c ≤ maxLen) : IRow w (.slice (some ⟨k, 0, none⟩) l.length c) l :=
  ⟨_, c, rfl, hc, hm, fun _ => ⟨k, 0, rowA l, rfl, h, fun j hj => by rw [Nat.zero_add, rowA_get l j hj]⟩⟩

theorem results_two_rows {P : Program} {fn : Func} {p q : Tmp} {ty : TypeId} (h : fn.results = #[.cell p ty, .cell q ty]) (tmps : Array Value) (w : World) (g g' : Nat) (t : TypeId) (cs cs' : Array Value) (fr : Nat × Nat) (d : TypeDesc)
    (hp : tmps.getD p undef = .pointer (some ⟨g, 0, none⟩)) (hq : tmps.getD q undef = .pointer (some ⟨g', 0, none⟩)) (hg : w.heap[g]? = some (.cells cs t fr)) (hg' : w.heap[g']? = some (.cells cs' t fr))
    (hu : P.underlying ty = some d) (hd : (match d with | .struct _ | .array _ _ => true | _ => false) = true) (hi : (P.info? ty).map (·.size) = some cs.size) (hi' : (P.info? ty).map (·.size) = some cs'.size) :
    (results fn tmps).run P w = .ok (.tuple #[.agg cs, .agg cs']) w := by
  have hp' : tmps[p]?.getD undef = .pointer (some ⟨g, 0, none⟩) := by simpa using hp
  have hq' : tmps[q]?.getD undef = .pointer (some ⟨g', 0, none⟩) := by simpa using hq
  simp [results, h, hp', hq', asAddr, run_loadVar_row w g t ty cs fr d hg hu hd hi, run_loadVar_row w g' t ty cs' fr d hg' hu hd hi']
theorem results_two_rows_tmp {P : Program} {fn : Func} {p q r : Tmp} {ty : TypeId} (h : fn.results = #[.cell p ty, .cell q ty, .tmp r]) (tmps : Array Value) (w : World) (g g' : Nat) (t : TypeId) (cs cs' : Array Value) (fr : Nat × Nat) (d : TypeDesc) (v : Value)
    (hp : tmps.getD p undef = .pointer (some ⟨g, 0, none⟩)) (hq : tmps.getD q undef = .pointer (some ⟨g', 0, none⟩)) (hr : tmps.getD r undef = v) (hg : w.heap[g]? = some (.cells cs t fr)) (hg' : w.heap[g']? = some (.cells cs' t fr))
    (hu : P.underlying ty = some d) (hd : (match d with | .struct _ | .array _ _ => true | _ => false) = true) (hi : (P.info? ty).map (·.size) = some cs.size) (hi' : (P.info? ty).map (·.size) = some cs'.size) :
    (results fn tmps).run P w = .ok (.tuple #[.agg cs, .agg cs', v]) w := by
  have hp' : tmps[p]?.getD undef = .pointer (some ⟨g, 0, none⟩) := by simpa using hp
  have hq' : tmps[q]?.getD undef = .pointer (some ⟨g', 0, none⟩) := by simpa using hq
  have hr' : tmps[r]?.getD undef = v := by simpa using hr
  simp [results, h, hp', hq', hr', asAddr, run_loadVar_row w g t ty cs fr d hg hu hd hi, run_loadVar_row w g' t ty cs' fr d hg' hu hd hi']
theorem decC_inf (ls : List Nat) (sv : Value) : (Try.prog.info? 69).map (·.size) = some (decC ls sv).size := by rw [← decA_dec]; exact inf19
theorem decC_one (ls : List Nat) (sv : Value) (h : sv.oneCell' = true) : (decC ls sv).all (·.oneCell') = true := by
  unfold Value.oneCell' at h
  simp [decC, Value.oneCell']
  exact h
/-- A decoder as a value. -/
def DecV (w : World) (ls : List Nat) (v : Value) : Prop := ∃ sv, v = .agg (decC ls sv) ∧ IRow w sv (allC ls 15)
theorem irow_one {w : World} {v : Value} {l : List Nat} (h : IRow w v l) : v.oneCell' = true := by
  obtain ⟨x, c, rfl, _⟩ := h; rfl
theorem IRow.below {w w' : World} {v : Value} {l : List Nat} (h : IRow w v l) (hb : Below w.heap.size w w') : IRow w' v l := h.fr (Fr.of_below (B := 0) hb []) (by simp)
theorem IRow.alloc {w : World} {v : Value} {l : List Nat} (h : IRow w v l) (o : Obj) : IRow (w.alloc o) v l := h.below ((Below.refl _ _).alloc (Nat.le_refl _) o)
theorem IRow.setRow {w : World} {v : Value} {l : List Nat} (h : IRow w v l) {g : Nat} {t : TypeId} {cs : Array Value} (hg : Blk w g t cs) (ht : t ≠ 3) (cs' : Array Value) : IRow (w.setRow g cs') v l := by
  obtain ⟨x, c, rfl, h1, h2, h3⟩ := h
  refine ⟨x, c, rfl, h1, h2, fun hne => ?_⟩
  obtain ⟨g', off, cs2, rfl, hb, hc⟩ := h3 hne
  exact ⟨g', off, cs2, rfl, hb.setRow_ne cs' (fun e => ht ((Blk.uniq (e ▸ hg) hb).1)), hc⟩
def fixB (i : Nat) : Nat := if i < 144 then 8 else if i < 256 then 9 else if i < 280 then 7 else 8
theorem fixB_eq : (List.range 288).map fixB = fixL := by decide +kernel
theorem fix15 : (∀ n ∈ fixL, n ≤ 15) ∧ fixL.length = 288 ∧ (∀ n ∈ fixD, n ≤ 15) ∧ fixD.length = 32 := by decide +kernel

set_option maxRecDepth 100000 in
set_option maxHeartbeats 8000000 in
theorem fixedCodes_any (w : World) :
    Calls Try.prog 50 #[] w fun e w' => (∃ u v, e = .returned (.tuple #[u, v]) ∧ DecV w' fixL u ∧ DecV w' fixD v) ∧ Below w.heap.size w w' := by
  obtain ⟨N, hN, hm1⟩ : ∃ N, N = 288 ∧ ∀ w, (Instr.makeSlice 61 (.int .i64 288) (.int .i64 288)).run Try.prog w = .ok (.slice (some ⟨w.heap.size, 0, none⟩) N N) (w.alloc (.cells (mkRow (.int .i64 0) N) 3)) :=
    ⟨288, rfl, run_mk el_int4 rfl 288 (by omega) (by omega)⟩
  obtain ⟨M, hM, hm2⟩ : ∃ N, N = 32 ∧ ∀ w, (Instr.makeSlice 61 (.int .i64 32) (.int .i64 32)).run Try.prog w = .ok (.slice (some ⟨w.heap.size, 0, none⟩) N N) (w.alloc (.cells (mkRow (.int .i64 0) N) 3)) :=
    ⟨32, rfl, run_mk el_int4 rfl 32 (by omega) (by omega)⟩
  have HN := Lib.hid hN
  have HM := Lib.hid hM
  have hNs : N ≤ 300 := by omega
  have hMs : M ≤ 300 := by omega
  obtain ⟨B, hB⟩ : ∃ B, w.heap.size = B := ⟨_, rfl⟩
  have hA := (((Blk.new w 69 (decA (fun _ => 0) (.slice none 0 0) 0 0)).alloc (.cells (decA (fun _ => 0) (.slice none 0 0) 0 0) 69))).alloc (.cells (mkRow (.int .i64 0) N) 3)
  have hC := (Blk.new_at (w := w.alloc (.cells (decA (fun _ => 0) (.slice none 0 0) 0 0) 69)) (k := w.heap.size + 1) (by simp) 69 (decA (fun _ => 0) (.slice none 0 0) 0 0)).alloc (.cells (mkRow (.int .i64 0) N) 3)
  have hE := Blk.new_at (w := (w.alloc (.cells (decA (fun _ => 0) (.slice none 0 0) 0 0) 69)).alloc (.cells (decA (fun _ => 0) (.slice none 0 0) 0 0) 69)) (k := w.heap.size + 1 + 1) (by simp) 3 (mkRow (.int .i64 0) N)
  have hb : Below w.heap.size w (((w.alloc (.cells (decA (fun _ => 0) (.slice none 0 0) 0 0) 69)).alloc (.cells (decA (fun _ => 0) (.slice none 0 0) 0 0) 69)).alloc (.cells (mkRow (.int .i64 0) N) 3)) :=
    (((Below.refl _ _).alloc (Nat.le_refl _) _).alloc (by simp) _).alloc (by simp; omega) _
  have HA := Lib.hid hA
  have HC := Lib.hid hC
  have HE := Lib.hid hE
  have HBB := Lib.hid hb
  clear hA hC hE hb hN hM hB
  go_enter Try.func50, Try.ntmps50
  go_upto_region 2 with fail
  have hA := HA.out
  have hC := HC.out
  have hE := HE.out
  have hb := HBB.out
  clear HA HC HE HBB
  change Code.wp _ _ _ _ (((w.alloc (.cells (decA (fun _ => 0) (.slice none 0 0) 0 0) 69)).alloc (.cells (decA (fun _ => 0) (.slice none 0 0) 0 0) 69)).alloc (.cells (mkRow (.int .i64 0) N) 3))
  generalize ((w.alloc (.cells (decA (fun _ => 0) (.slice none 0 0) 0 0) 69)).alloc (.cells (decA (fun _ => 0) (.slice none 0 0) 0 0) 69)).alloc (.cells (mkRow (.int .i64 0) N) 3) = w1 at hA hC hE hb ⊢
  have hZs : (decA (fun _ => 0) (.slice none 0 0) 0 0).size = 19 := rfl
  generalize decA (fun _ => 0) (.slice none 0 0) 0 0 = Z at *
  obtain ⟨B, hB⟩ : ∃ B, w.heap.size = B := ⟨_, rfl⟩
  rw [hB] at hA hC hE hb ⊢
  have HB := Lib.hid hB
  clear hB
  rw [rowA_new] at hE
  have HZ := Lib.hid hZs
  clear hZs
  go_wp2_with fail
  go_loopw [9] (fun vi wr => ∃ i : Nat, vi = .int .i64 i ∧ i ≤ N ∧ Blk wr B 69 Z ∧ Blk wr (B + 1) 69 Z ∧ Blk wr (B + 1 + 1) 3 (rowA ((List.range i).map fixB ++ List.replicate (N - i) 0)) ∧ Below B w wr) (fun vi _ => N - (intOf vi).toNat)
  case atStart => exact ⟨0, rfl, Nat.zero_le _, hA, hC, hE, hb⟩
  case round =>
    clear hA hC hE hb
    obtain ⟨i, rfl, hi, hA, hC, hE, hb⟩ := hrel
    by_cases hlt : i < N
    · have hd : decide ((i : Int) < (N : Int)) = true := by simp; omega
      have hll : ((List.range i).map fixB ++ List.replicate (N - i) 0).length = N := by simp; omega
      obtain ⟨old, kE⟩ : ∃ u, wr.cell? ⟨B + 1 + 1, i, none⟩ = some u := ⟨_, by rw [hE.cell i, rowA_get _ i (by omega)]⟩
      have fE := hE.frozen i
      obtain ⟨X, hX⟩ : ∃ X, fixB i = X := ⟨_, rfl⟩
      have hE2 := hE.put i (.int .i64 (X : Nat))
      rw [rowA_set, ← hX, show N - i = (N - (i + 1)) + 1 from by omega, fill_step, hX] at hE2
      have hA2 := hA.other (p := ⟨B + 1 + 1, i, none⟩) (by simp; omega) (.int .i64 (X : Nat))
      have hC2 := hC.other (p := ⟨B + 1 + 1, i, none⟩) (by simp) (.int .i64 (X : Nat))
      have hb2 := hb.setCell (p := ⟨B + 1 + 1, i, none⟩) (by simp; omega) (.int .i64 (X : Nat))
      have HA := Lib.hid hA2
      have HC := Lib.hid hC2
      have HE := Lib.hid hE2
      have HBB := Lib.hid hb2
      have HX := Lib.hid hX
      clear hA hC hE hb hA2 hC2 hE2 hb2 hll hX
      have h0 : (0 : Int) ≤ (i : Int) := by omega
      have h1 : (i : Int) < (N : Int) := by omega
      by_cases c1 : i < 144
      · have d1 : decide ((i : Int) < 144) = true := by simp; omega
        obtain rfl : X = 8 := by rw [← HX.out]; unfold fixB; rw [if_pos c1]
        go_wp2_with fail
        exact ⟨⟨i + 1, by go_num, by omega, HA.out, HC.out, HE.out, HBB.out⟩, by simp [intOf]; omega⟩
      have d1 : decide ((i : Int) < 144) = false := by simp; omega
      by_cases c2 : i < 256
      · have d2 : decide ((i : Int) < 256) = true := by simp; omega
        obtain rfl : X = 9 := by rw [← HX.out]; unfold fixB; rw [if_neg c1, if_pos c2]
        go_wp2_with fail
        exact ⟨⟨i + 1, by go_num, by omega, HA.out, HC.out, HE.out, HBB.out⟩, by simp [intOf]; omega⟩
      have d2 : decide ((i : Int) < 256) = false := by simp; omega
      by_cases c3 : i < 280
      · have d3 : decide ((i : Int) < 280) = true := by simp; omega
        obtain rfl : X = 7 := by rw [← HX.out]; unfold fixB; rw [if_neg c1, if_neg c2, if_pos c3]
        go_wp2_with fail
        exact ⟨⟨i + 1, by go_num, by omega, HA.out, HC.out, HE.out, HBB.out⟩, by simp [intOf]; omega⟩
      have d3 : decide ((i : Int) < 280) = false := by simp; omega
      obtain rfl : X = 8 := by rw [← HX.out]; unfold fixB; rw [if_neg c1, if_neg c2, if_neg c3]
      go_wp2_with fail
      exact ⟨⟨i + 1, by go_num, by omega, HA.out, HC.out, HE.out, HBB.out⟩, by simp [intOf]; omega⟩
    · have hd : decide ((i : Int) < (N : Int)) = false := by simp; omega
      obtain rfl : i = N := by omega
      rw [Nat.sub_self, List.replicate_zero, List.append_nil, HN.out, fixB_eq] at hE
      have hA2 := hA.alloc (.cells (mkRow (.int .i64 0) M) 3)
      have hC2 := hC.alloc (.cells (mkRow (.int .i64 0) M) 3)
      have hE2 := hE.alloc (.cells (mkRow (.int .i64 0) M) 3)
      have hF2 := Blk.new wr 3 (mkRow (.int .i64 0) M)
      have hb2 := hb.alloc (Nat.le_of_lt hA.lt) (.cells (mkRow (.int .i64 0) M) 3)
      have hFl : B + 1 + 1 < wr.heap.size := hE.lt
      rw [rowA_new] at hF2 hE2 hA2 hC2 hb2
      have HA := Lib.hid hA2
      have HC := Lib.hid hC2
      have HE := Lib.hid hE2
      have HF := Lib.hid hF2
      have HBB := Lib.hid hb2
      clear hA hC hE hb hA2 hC2 hE2 hF2 hb2
      go_upto_region 14 with fail
      have hA := HA.out
      have hC := HC.out
      have hE := HE.out
      have hF := HF.out
      have hb := HBB.out
      clear HA HC HE HF HBB
      rw [rowA_new]
      generalize wr.alloc (.cells (rowA (List.replicate M 0)) 3) = w2 at hA hC hE hF hb ⊢
      obtain ⟨fB, hfB⟩ : ∃ k, wr.heap.size = k := ⟨_, rfl⟩
      rw [hfB] at hF hFl ⊢
      clear hfB
      go_wp2_with fail
      go_loopw [37] (fun vi ws => ∃ j : Nat, vi = .int .i64 j ∧ j ≤ M ∧ Blk ws B 69 Z ∧ Blk ws (B + 1) 69 Z ∧ Blk ws (B + 1 + 1) 3 (rowA fixL) ∧ Blk ws fB 3 (rowA ((List.range j).map (fun _ => 5) ++ List.replicate (M - j) 0)) ∧ Below B w ws) (fun vi _ => M - (intOf vi).toNat)
      case atStart => exact ⟨0, rfl, Nat.zero_le _, hA, hC, hE, hF, hb⟩
      case round =>
        clear hA hC hE hb hF
        obtain ⟨j, rfl, hj, hA, hC, hE, hF, hb⟩ := hrel
        by_cases hjl : j < M
        · have hd : decide ((j : Int) < (M : Int)) = true := by simp; omega
          have hll : ((List.range j).map (fun _ => 5) ++ List.replicate (M - j) 0).length = M := by simp; omega
          obtain ⟨old, kF⟩ : ∃ u, wr.cell? ⟨fB, j, none⟩ = some u := ⟨_, by rw [hF.cell j, rowA_get _ j (by omega)]⟩
          have fF := hF.frozen j
          have hF2 := hF.put j (.int .i64 ((5 : Nat) : Int))
          rw [rowA_set, show M - j = (M - (j + 1)) + 1 from by omega, fill_step (fun _ => 5)] at hF2
          have hA2 := hA.other (p := ⟨fB, j, none⟩) (by simp; omega) (.int .i64 ((5 : Nat) : Int))
          have hC2 := hC.other (p := ⟨fB, j, none⟩) (by simp; omega) (.int .i64 ((5 : Nat) : Int))
          have hE2 := hE.other (p := ⟨fB, j, none⟩) (by simp; omega) (.int .i64 ((5 : Nat) : Int))
          have hb2 := hb.setCell (p := ⟨fB, j, none⟩) (by simp; omega) (.int .i64 ((5 : Nat) : Int))
          have HA := Lib.hid hA2
          have HC := Lib.hid hC2
          have HE := Lib.hid hE2
          have HF := Lib.hid hF2
          have HBB := Lib.hid hb2
          clear hA hC hE hF hb hA2 hC2 hE2 hF2 hb2 hll
          have h0 : (0 : Int) ≤ (j : Int) := by omega
          have h1 : (j : Int) < (M : Int) := by omega
          go_wp2_with fail
          exact ⟨⟨j + 1, by go_num, by omega, HA.out, HC.out, HE.out, HF.out, HBB.out⟩, by simp [intOf]; omega⟩
        · have hd : decide ((j : Int) < (M : Int)) = false := by simp; omega
          obtain rfl : j = M := by omega
          rw [Nat.sub_self, List.replicate_zero, List.append_nil, HM.out, fixD_eq] at hF
          have hiE : IRow wr (.slice (some ⟨B + 1 + 1, 0, none⟩) i i) fixL := by
            have := hE.irow i (by rw [fix15.2.1, HN.out]; exact Nat.le_refl _) (by rw [HN.out]; unfold maxLen; decide)
            rwa [fix15.2.1, ← HN.out] at this
          have hiF : IRow wr (.slice (some ⟨fB, 0, none⟩) j j) fixD := by
            have := hF.irow j (by rw [fix15.2.2.2, HM.out]; exact Nat.le_refl _) (by rw [HM.out]; unfold maxLen; decide)
            rwa [fix15.2.2.2, ← HM.out] at this
          clear hE hF
          go_wp2_with fail
          refine (newDecoder_any _ fixL _ hiE.read fix15.1 (by rw [fix15.2.1]; decide)).mono ?_
          rintro e w3 ⟨⟨su, rfl, hsu⟩, hb3⟩
          have hA3 := (Fr.of_below (B := 0) hb3 []).blk hA (by simp)
          have hC3 := (Fr.of_below (B := 0) hb3 []).blk hC (by simp)
          have hiF3 := hiF.below hb3
          have hBle : B ≤ wr.heap.size := Nat.le_of_lt hA.lt
          have hbb3 : Below B w w3 := hb.trans (hb3.mono hBle)
          clear hA hC hiE hiF hb hb3 hBle
          have hDi := decC_inf fixL su
          have hDs : (decC fixL su).size = 19 := rfl
          have hD1 := decC_one fixL su (irow_one hsu)
          have HDV : Hid (∀ w', IRow w' su (allC fixL 15) → DecV w' fixL (.agg (decC fixL su))) := fun w' h => ⟨su, rfl, h⟩
          generalize decC fixL su = D at *
          go_wp2_with fail
          refine (newDecoder_any _ fixD _ hiF3.read fix15.2.2.1 (by rw [fix15.2.2.2]; decide)).mono ?_
          rintro e w4 ⟨⟨sv, rfl, hsv⟩, hb4⟩
          have hA4 := (Fr.of_below (B := 0) hb4 []).blk hA3 (by simp)
          have hC4 := (Fr.of_below (B := 0) hb4 []).blk hC3 (by simp)
          have hsu4 := hsu.below hb4
          have hBle : B ≤ w3.heap.size := Nat.le_of_lt hA3.lt
          have hbb4 : Below B w w4 := hbb3.trans (hb4.mono hBle)
          clear hA3 hC3 hsu hbb3 hb4 hBle hiF3
          have hEi := decC_inf fixD sv
          have hEs : (decC fixD sv).size = 19 := rfl
          have hE1 := decC_one fixD sv (irow_one hsv)
          have HEV : Hid (∀ w', IRow w' sv (allC fixD 15) → DecV w' fixD (.agg (decC fixD sv))) := fun w' h => ⟨sv, rfl, h⟩
          generalize decC fixD sv = E at *
          have hA5 := (hA4.setRow D).setRow_ne E (g := B + 1) (by omega)
          have hC4' := hC4.setRow_ne D (g := B) (by omega)
          have hC5 := hC4'.setRow E
          have hu5 := (hsu4.setRow hA4 (by decide) D).setRow hC4' (by decide) E
          have hv5 := (hsv.setRow hA4 (by decide) D).setRow hC4' (by decide) E
          have hb5 := below_setRow (below_setRow hbb4 (Nat.le_refl B) D) (g := B + 1) (by omega) E
          have HA4 := Lib.hid hA4
          have HC4 := Lib.hid hC4'
          have HA5 := Lib.hid hA5
          have HC5 := Lib.hid hC5
          have HU := Lib.hid hu5
          have HV := Lib.hid hv5
          have HB5 := Lib.hid hb5
          have HDI := Lib.hid hDi
          have HEI := Lib.hid hEi
          have HD1 := Lib.hid hD1
          have HE1 := Lib.hid hE1
          have HZD : Hid (Z.size = D.size) := by show _ = _; rw [HZ.out, hDs]
          have HZE : Hid (Z.size = E.size) := by show _ = _; rw [HZ.out, hEs]
          clear hA4 hC4 hC4' hA5 hC5 hu5 hv5 hb5 hDi hEi hD1 hE1 hDs hEs hsu4 hsv hbb4
          go_wp2_with (first | refine wpList_store_row rfl 69 (.tmp 0) (.tmp 45) rfl B D rfl rfl 69 _ HA4.out HDI.out HZD.out HD1.out ?_ | refine wpList_store_row rfl 69 (.tmp 1) (.tmp 47) rfl (B + 1) E rfl rfl 69 _ HC4.out HEI.out HZE.out HE1.out ?_)
          refine bodyPost_ret (v := .tuple #[.agg D, .agg E]) (results_two_rows rfl _ _ B (B + 1) 69 D E (0, 0) _ rfl rfl HA5.out HC5.out Try.underlying69 rfl HDI.out HEI.out) rfl ⟨⟨_, _, rfl, HDV.out _ HU.out, HEV.out _ HV.out⟩, ?_⟩
          rw [HB.out]
          exact HB5.out
end Go.Proofs.Ytppfjofaegbbjaa
