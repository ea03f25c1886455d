/-
  Rows of ints that a call owns.
  The lengths of the fixed codes.
  Walk: the fixed codes, in the program.
  Walk: code lengths written with a code, in the program.
  Walk: the check of the distance code, in the program.
-/
import Derived.Test.YthbejefodelpkaaGreatZG
import Derived.Test.YthbejefodelpkaaGreatZI4
import Derived.Test.YthbejefodelpkaaGreatZI7
import Derived.Deep.CutBlock
import Derived.Deep.CutRange
namespace Go.Proofs.YthbejefodelpkaaGreat
open Go.RowKit

def icells (l : List Nat) : List Value := l.map fun (n : Nat) => Value.int .i64 (n : Int)
theorem icells_append (a b : List Nat) : icells (a ++ b) = icells a ++ icells b := by simp [icells]
theorem icells_get (l : List Nat) (i : Nat) (h : i < l.length) : (icells l)[i]? = some (.int .i64 (l[i] : Int)) := by simp [icells, h]
/-- The call's own row of ints. -/
def ORow (w : World) (base : Nat) (v : Value) (l : List Nat) : Prop := w.ownsRow base 3 1 v l.length (icells l)
theorem el_int : Elem Tryz.prog 51 3 (.int .i64 0) 1 8 := by
  refine ⟨Tryz.underlying51, ?_, rfl, by decide⟩
  exact info_parts (by kernel_rfl)
theorem orow_more {w : World} {base : Nat} {v : Value} {n : Nat} {l : List Nat} {xs : List Value} (h : w.ownsRow base 3 1 v n (icells l ++ xs)) (new : List Nat) (hx : xs = icells new) (hn : n = l.length + new.length) : ORow w base v (l ++ new) := by
  subst hx; subst hn
  unfold ORow
  rw [icells_append, List.length_append]
  exact h
theorem ORow.read {w : World} {base : Nat} {v : Value} {l : List Nat} (h : ORow w base v l) : IRead w v l := by
  rcases h.2 with ⟨rfl, h0⟩ | ⟨g, cap, cur, rfl, _, hg, hnc, hcm, _, _⟩
  · have : l = [] := List.eq_nil_of_length_eq_zero h0
    subst this
    exact ⟨none, 0, rfl, Nat.le_refl _, Nat.zero_le _, fun hne => absurd rfl hne⟩
  · refine ⟨_, cap, rfl, hnc, hcm, fun _ => ⟨g, 0, rfl, fun j hj => ?_⟩⟩
    have := World.ownsRow.cells h (g := g) rfl j _ (icells_get l j hj)
    rw [Addr.add_lit] at this
    exact this
theorem ORow.irow {w : World} {base : Nat} {v : Value} {l : List Nat} (h : ORow w base v l) : IRow w v l := by
  rcases h.2 with ⟨rfl, h0⟩ | ⟨g, cap, cur, rfl, _, hg, hnc, hcm, hcs, ht⟩
  · have : l = [] := List.eq_nil_of_length_eq_zero h0
    subst this
    exact ⟨none, 0, rfl, Nat.le_refl _, Nat.zero_le _, fun hne => absurd rfl hne⟩
  · refine ⟨_, cap, rfl, hnc, hcm, fun _ => ⟨g, 0, cur, rfl, hg, fun j hj => ?_⟩⟩
    have h1 := icells_get l j hj
    rw [← ht, List.getElem?_take] at h1
    rw [Nat.zero_add]
    split at h1
    · simpa using h1
    · cases h1
end Go.Proofs.YthbejefodelpkaaGreat
namespace Go.Proofs.YthbejefodelpkaaGreat
open Go.RowKit

def fixAt (i : Nat) : Nat := if 256 ≤ i ∧ i < 280 then 7 else if 144 ≤ i ∧ i < 256 then 9 else 8
theorem fixL_eq : (List.range 288).map fixAt = fixL := by decide +kernel
theorem fixD_eq : (List.range 32).map (fun _ => 5) = fixD := by decide +kernel

end Go.Proofs.YthbejefodelpkaaGreat
namespace Go.Proofs.YthbejefodelpkaaGreat
open Go.RowKit

/-- A row of numbers. -/
def rowA (l : List Nat) : Array Value := (icells l).toArray
theorem rowA_size (l : List Nat) : (rowA l).size = l.length := by simp [rowA, icells]
theorem rowA_get (l : List Nat) (i : Nat) (h : i < l.length) : (rowA l)[i]? = some (.int .i64 (l[i] : Int)) := by simp [rowA, icells, h]
theorem rowA_set (l : List Nat) (i x : Nat) : (rowA l).setIfInBounds i (.int .i64 (x : Nat)) = rowA (l.set i x) := by
  simp [rowA, icells, List.map_set]
theorem rowA_new (n : Nat) : mkRow (.int .i64 0) n = rowA (List.replicate n 0) := by
  simp [mkRow, rowA, icells]
theorem fill_step (f : Nat → Nat) (i m : Nat) : ((List.range i).map f ++ List.replicate (m + 1) 0).set i (f i) = (List.range (i + 1)).map f ++ List.replicate m 0 := by
  have hl : ((List.range i).map f).length = i := by simp
  rw [List.set_append_right i (f i) (by omega), hl, Nat.sub_self, List.replicate_succ, List.set_cons_zero, List.range_succ, List.map_append, List.append_assoc]
  rfl
theorem Blk.irow {w : World} {k : Nat} {l : List Nat} (h : Blk w k 3 (rowA l)) (c : Nat) (hc : l.length ≤ c) (hm : c ≤ maxLen) : IRow w (.slice (some ⟨k, 0, none⟩) l.length c) l :=
  ⟨_, c, rfl, hc, hm, fun _ => ⟨k, 0, rowA l, rfl, h, fun j hj => by rw [Nat.zero_add, rowA_get l j hj]⟩⟩

theorem results_two_rows {P : Program} {fn : Func} {p q : Tmp} {ty : TypeId} (h : fn.results = #[.cell p ty, .cell q ty]) (tmps : Array Value) (w : World) (g g' : Nat) (t : TypeId) (cs cs' : Array Value) (fr : Nat × Nat) (d : TypeDesc)
    (hp : tmps.getD p undef = .pointer (some ⟨g, 0, none⟩)) (hq : tmps.getD q undef = .pointer (some ⟨g', 0, none⟩)) (hg : w.heap[g]? = some (.cells cs t fr)) (hg' : w.heap[g']? = some (.cells cs' t fr))
    (hu : P.underlying ty = some d) (hd : (match d with | .struct _ | .array _ _ => true | _ => false) = true) (hi : (P.info? ty).map (·.size) = some cs.size) (hi' : (P.info? ty).map (·.size) = some cs'.size) :
    (results fn tmps).run P w = .ok (.tuple #[.agg cs, .agg cs']) w := by
  have hp' : tmps[p]?.getD undef = .pointer (some ⟨g, 0, none⟩) := by simpa using hp
  have hq' : tmps[q]?.getD undef = .pointer (some ⟨g', 0, none⟩) := by simpa using hq
  simp [results, h, hp', hq', asAddr, run_loadVar_row w g t ty cs fr d hg hu hd hi, run_loadVar_row w g' t ty cs' fr d hg' hu hd hi']
theorem results_two_rows_tmp {P : Program} {fn : Func} {p q r : Tmp} {ty : TypeId} (h : fn.results = #[.cell p ty, .cell q ty, .tmp r]) (tmps : Array Value) (w : World) (g g' : Nat) (t : TypeId) (cs cs' : Array Value) (fr : Nat × Nat) (d : TypeDesc) (v : Value)
    (hp : tmps.getD p undef = .pointer (some ⟨g, 0, none⟩)) (hq : tmps.getD q undef = .pointer (some ⟨g', 0, none⟩)) (hr : tmps.getD r undef = v) (hg : w.heap[g]? = some (.cells cs t fr)) (hg' : w.heap[g']? = some (.cells cs' t fr))
    (hu : P.underlying ty = some d) (hd : (match d with | .struct _ | .array _ _ => true | _ => false) = true) (hi : (P.info? ty).map (·.size) = some cs.size) (hi' : (P.info? ty).map (·.size) = some cs'.size) :
    (results fn tmps).run P w = .ok (.tuple #[.agg cs, .agg cs', v]) w := by
  have hp' : tmps[p]?.getD undef = .pointer (some ⟨g, 0, none⟩) := by simpa using hp
  have hq' : tmps[q]?.getD undef = .pointer (some ⟨g', 0, none⟩) := by simpa using hq
  have hr' : tmps[r]?.getD undef = v := by simpa using hr
  simp [results, h, hp', hq', hr', asAddr, run_loadVar_row w g t ty cs fr d hg hu hd hi, run_loadVar_row w g' t ty cs' fr d hg' hu hd hi']
theorem decC_inf (ls : List Nat) (sv : Value) : (Tryz.prog.info? 164).map (·.size) = some (decC ls sv).size := by rw [← decA_dec]; exact inf19
theorem decC_one (ls : List Nat) (sv : Value) (h : sv.oneCell' = true) : (decC ls sv).all (·.oneCell') = true := by
  unfold Value.oneCell' at h
  simp [decC, Value.oneCell']
  exact h
/-- A decoder as a value. -/
def DecV (w : World) (ls : List Nat) (v : Value) : Prop := ∃ sv, v = .agg (decC ls sv) ∧ IRow w sv (allC ls 15)
theorem irow_one {w : World} {v : Value} {l : List Nat} (h : IRow w v l) : v.oneCell' = true := by
  obtain ⟨x, c, rfl, _⟩ := h; rfl
theorem IRow.below {w w' : World} {v : Value} {l : List Nat} (h : IRow w v l) (hb : Below w.heap.size w w') : IRow w' v l := h.fr (Fr.of_below (B := 0) hb []) (by simp)
theorem IRow.alloc {w : World} {v : Value} {l : List Nat} (h : IRow w v l) (o : Obj) : IRow (w.alloc o) v l := h.below ((Below.refl _ _).alloc (Nat.le_refl _) o)
theorem IRow.setRow {w : World} {v : Value} {l : List Nat} (h : IRow w v l) {g : Nat} {t : TypeId} {cs : Array Value} (hg : Blk w g t cs) (ht : t ≠ 3) (cs' : Array Value) : IRow (w.setRow g cs') v l := by
  obtain ⟨x, c, rfl, h1, h2, h3⟩ := h
  refine ⟨x, c, rfl, h1, h2, fun hne => ?_⟩
  obtain ⟨g', off, cs2, rfl, hb, hc⟩ := h3 hne
  exact ⟨g', off, cs2, rfl, hb.setRow_ne cs' (fun e => ht ((Blk.uniq (e ▸ hg) hb).1)), hc⟩
def fixB (i : Nat) : Nat := if i < 144 then 8 else if i < 256 then 9 else if i < 280 then 7 else 8
theorem fixB_eq : (List.range 288).map fixB = fixL := by decide +kernel
theorem fix15 : (∀ n ∈ fixL, n ≤ 15) ∧ fixL.length = 288 ∧ (∀ n ∈ fixD, n ≤ 15) ∧ fixD.length = 32 := by decide +kernel

set_option maxRecDepth 100000 in
set_option maxHeartbeats 8000000 in
theorem fixedCodes_any (w : World) :
    Calls Tryz.prog 156 #[] w fun e w' => (∃ u v, e = .returned (.tuple #[u, v]) ∧ DecV w' fixL u ∧ DecV w' fixD v) ∧ Below w.heap.size w w' := by
  obtain ⟨N, hN, hm1⟩ : ∃ N, N = 288 ∧ ∀ w, (Instr.makeSlice 51 (.int .i64 288) (.int .i64 288)).run Tryz.prog w = .ok (.slice (some ⟨w.heap.size, 0, none⟩) N N) (w.alloc (.cells (mkRow (.int .i64 0) N) 3)) :=
    ⟨288, rfl, run_mk el_int4 rfl 288 (by omega) (by omega)⟩
  obtain ⟨M, hM, hm2⟩ : ∃ N, N = 32 ∧ ∀ w, (Instr.makeSlice 51 (.int .i64 32) (.int .i64 32)).run Tryz.prog w = .ok (.slice (some ⟨w.heap.size, 0, none⟩) N N) (w.alloc (.cells (mkRow (.int .i64 0) N) 3)) :=
    ⟨32, rfl, run_mk el_int4 rfl 32 (by omega) (by omega)⟩
  have HN := Lib.hid hN
  have HM := Lib.hid hM
  have hNs : N ≤ 300 := by omega
  have hMs : M ≤ 300 := by omega
  obtain ⟨B, hB⟩ : ∃ B, w.heap.size = B := ⟨_, rfl⟩
  have hA := (((Blk.new w 164 (decA (fun _ => 0) (.slice none 0 0) 0 0)).alloc (.cells (decA (fun _ => 0) (.slice none 0 0) 0 0) 164))).alloc (.cells (mkRow (.int .i64 0) N) 3)
  have hC := (Blk.new_at (w := w.alloc (.cells (decA (fun _ => 0) (.slice none 0 0) 0 0) 164)) (k := w.heap.size + 1) (by simp) 164 (decA (fun _ => 0) (.slice none 0 0) 0 0)).alloc (.cells (mkRow (.int .i64 0) N) 3)
  have hE := Blk.new_at (w := (w.alloc (.cells (decA (fun _ => 0) (.slice none 0 0) 0 0) 164)).alloc (.cells (decA (fun _ => 0) (.slice none 0 0) 0 0) 164)) (k := w.heap.size + 1 + 1) (by simp) 3 (mkRow (.int .i64 0) N)
  have hb : Below w.heap.size w (((w.alloc (.cells (decA (fun _ => 0) (.slice none 0 0) 0 0) 164)).alloc (.cells (decA (fun _ => 0) (.slice none 0 0) 0 0) 164)).alloc (.cells (mkRow (.int .i64 0) N) 3)) :=
    (((Below.refl _ _).alloc (Nat.le_refl _) _).alloc (by simp) _).alloc (by simp; omega) _
  have HA := Lib.hid hA
  have HC := Lib.hid hC
  have HE := Lib.hid hE
  have HBB := Lib.hid hb
  clear hA hC hE hb hN hM hB
  go_enter Tryz.func156, Tryz.ntmps156
  go_upto_region 2 with fail
  have hA := HA.out
  have hC := HC.out
  have hE := HE.out
  have hb := HBB.out
  clear HA HC HE HBB
  change Code.wp _ _ _ _ (((w.alloc (.cells (decA (fun _ => 0) (.slice none 0 0) 0 0) 164)).alloc (.cells (decA (fun _ => 0) (.slice none 0 0) 0 0) 164)).alloc (.cells (mkRow (.int .i64 0) N) 3))
  generalize ((w.alloc (.cells (decA (fun _ => 0) (.slice none 0 0) 0 0) 164)).alloc (.cells (decA (fun _ => 0) (.slice none 0 0) 0 0) 164)).alloc (.cells (mkRow (.int .i64 0) N) 3) = w1 at hA hC hE hb ⊢
  have hZs : (decA (fun _ => 0) (.slice none 0 0) 0 0).size = 19 := rfl
  generalize decA (fun _ => 0) (.slice none 0 0) 0 0 = Z at *
  obtain ⟨B, hB⟩ : ∃ B, w.heap.size = B := ⟨_, rfl⟩
  rw [hB] at hA hC hE hb ⊢
  have HB := Lib.hid hB
  clear hB
  rw [rowA_new] at hE
  have HZ := Lib.hid hZs
  clear hZs
  go_wp2_with fail
  go_loopw [9] (fun vi wr => ∃ i : Nat, vi = .int .i64 i ∧ i ≤ N ∧ Blk wr B 164 Z ∧ Blk wr (B + 1) 164 Z ∧ Blk wr (B + 1 + 1) 3 (rowA ((List.range i).map fixB ++ List.replicate (N - i) 0)) ∧ Below B w wr) (fun vi _ => N - (intOf vi).toNat)
  case atStart => exact ⟨0, rfl, Nat.zero_le _, hA, hC, hE, hb⟩
  case round =>
    clear hA hC hE hb
    obtain ⟨i, rfl, hi, hA, hC, hE, hb⟩ := hrel
    by_cases hlt : i < N
    · have hd : decide ((i : Int) < (N : Int)) = true := by simp; omega
      have hll : ((List.range i).map fixB ++ List.replicate (N - i) 0).length = N := by simp; omega
      obtain ⟨old, kE⟩ : ∃ u, wr.cell? ⟨B + 1 + 1, i, none⟩ = some u := ⟨_, by rw [hE.cell i, rowA_get _ i (by omega)]⟩
      have fE := hE.frozen i
      obtain ⟨X, hX⟩ : ∃ X, fixB i = X := ⟨_, rfl⟩
      have hE2 := hE.put i (.int .i64 (X : Nat))
      rw [rowA_set, ← hX, show N - i = (N - (i + 1)) + 1 from by omega, fill_step, hX] at hE2
      have hA2 := hA.other (p := ⟨B + 1 + 1, i, none⟩) (by simp; omega) (.int .i64 (X : Nat))
      have hC2 := hC.other (p := ⟨B + 1 + 1, i, none⟩) (by simp) (.int .i64 (X : Nat))
      have hb2 := hb.setCell (p := ⟨B + 1 + 1, i, none⟩) (by simp; omega) (.int .i64 (X : Nat))
      have HA := Lib.hid hA2
      have HC := Lib.hid hC2
      have HE := Lib.hid hE2
      have HBB := Lib.hid hb2
      have HX := Lib.hid hX
      clear hA hC hE hb hA2 hC2 hE2 hb2 hll hX
      have h0 : (0 : Int) ≤ (i : Int) := by omega
      have h1 : (i : Int) < (N : Int) := by omega
      by_cases c1 : i < 144
      · have d1 : decide ((i : Int) < 144) = true := by simp; omega
        obtain rfl : X = 8 := by rw [← HX.out]; unfold fixB; rw [if_pos c1]
        go_wp2_with fail
        exact ⟨⟨i + 1, by go_num, by omega, HA.out, HC.out, HE.out, HBB.out⟩, by simp [intOf]; omega⟩
      have d1 : decide ((i : Int) < 144) = false := by simp; omega
      by_cases c2 : i < 256
      · have d2 : decide ((i : Int) < 256) = true := by simp; omega
        obtain rfl : X = 9 := by rw [← HX.out]; unfold fixB; rw [if_neg c1, if_pos c2]
        go_wp2_with fail
        exact ⟨⟨i + 1, by go_num, by omega, HA.out, HC.out, HE.out, HBB.out⟩, by simp [intOf]; omega⟩
      have d2 : decide ((i : Int) < 256) = false := by simp; omega
      by_cases c3 : i < 280
      · have d3 : decide ((i : Int) < 280) = true := by simp; omega
        obtain rfl : X = 7 := by rw [← HX.out]; unfold fixB; rw [if_neg c1, if_neg c2, if_pos c3]
        go_wp2_with fail
        exact ⟨⟨i + 1, by go_num, by omega, HA.out, HC.out, HE.out, HBB.out⟩, by simp [intOf]; omega⟩
      have d3 : decide ((i : Int) < 280) = false := by simp; omega
      obtain rfl : X = 8 := by rw [← HX.out]; unfold fixB; rw [if_neg c1, if_neg c2, if_neg c3]
      go_wp2_with fail
      exact ⟨⟨i + 1, by go_num, by omega, HA.out, HC.out, HE.out, HBB.out⟩, by simp [intOf]; omega⟩
    · have hd : decide ((i : Int) < (N : Int)) = false := by simp; omega
      obtain rfl : i = N := by omega
      rw [Nat.sub_self, List.replicate_zero, List.append_nil, HN.out, fixB_eq] at hE
      have hA2 := hA.alloc (.cells (mkRow (.int .i64 0) M) 3)
      have hC2 := hC.alloc (.cells (mkRow (.int .i64 0) M) 3)
      have hE2 := hE.alloc (.cells (mkRow (.int .i64 0) M) 3)
      have hF2 := Blk.new wr 3 (mkRow (.int .i64 0) M)
      have hb2 := hb.alloc (Nat.le_of_lt hA.lt) (.cells (mkRow (.int .i64 0) M) 3)
      have hFl : B + 1 + 1 < wr.heap.size := hE.lt
      rw [rowA_new] at hF2 hE2 hA2 hC2 hb2
      have HA := Lib.hid hA2
      have HC := Lib.hid hC2
      have HE := Lib.hid hE2
      have HF := Lib.hid hF2
      have HBB := Lib.hid hb2
      clear hA hC hE hb hA2 hC2 hE2 hF2 hb2
      go_upto_region 14 with fail
      have hA := HA.out
      have hC := HC.out
      have hE := HE.out
      have hF := HF.out
      have hb := HBB.out
      clear HA HC HE HF HBB
      rw [rowA_new]
      generalize wr.alloc (.cells (rowA (List.replicate M 0)) 3) = w2 at hA hC hE hF hb ⊢
      obtain ⟨fB, hfB⟩ : ∃ k, wr.heap.size = k := ⟨_, rfl⟩
      rw [hfB] at hF hFl ⊢
      clear hfB
      go_wp2_with fail
      go_loopw [37] (fun vi ws => ∃ j : Nat, vi = .int .i64 j ∧ j ≤ M ∧ Blk ws B 164 Z ∧ Blk ws (B + 1) 164 Z ∧ Blk ws (B + 1 + 1) 3 (rowA fixL) ∧ Blk ws fB 3 (rowA ((List.range j).map (fun _ => 5) ++ List.replicate (M - j) 0)) ∧ Below B w ws) (fun vi _ => M - (intOf vi).toNat)
      case atStart => exact ⟨0, rfl, Nat.zero_le _, hA, hC, hE, hF, hb⟩
      case round =>
        clear hA hC hE hb hF
        obtain ⟨j, rfl, hj, hA, hC, hE, hF, hb⟩ := hrel
        by_cases hjl : j < M
        · have hd : decide ((j : Int) < (M : Int)) = true := by simp; omega
          have hll : ((List.range j).map (fun _ => 5) ++ List.replicate (M - j) 0).length = M := by simp; omega
          obtain ⟨old, kF⟩ : ∃ u, wr.cell? ⟨fB, j, none⟩ = some u := ⟨_, by rw [hF.cell j, rowA_get _ j (by omega)]⟩
          have fF := hF.frozen j
          have hF2 := hF.put j (.int .i64 ((5 : Nat) : Int))
          rw [rowA_set, show M - j = (M - (j + 1)) + 1 from by omega, fill_step (fun _ => 5)] at hF2
          have hA2 := hA.other (p := ⟨fB, j, none⟩) (by simp; omega) (.int .i64 ((5 : Nat) : Int))
          have hC2 := hC.other (p := ⟨fB, j, none⟩) (by simp; omega) (.int .i64 ((5 : Nat) : Int))
          have hE2 := hE.other (p := ⟨fB, j, none⟩) (by simp; omega) (.int .i64 ((5 : Nat) : Int))
          have hb2 := hb.setCell (p := ⟨fB, j, none⟩) (by simp; omega) (.int .i64 ((5 : Nat) : Int))
          have HA := Lib.hid hA2
          have HC := Lib.hid hC2
          have HE := Lib.hid hE2
          have HF := Lib.hid hF2
          have HBB := Lib.hid hb2
          clear hA hC hE hF hb hA2 hC2 hE2 hF2 hb2 hll
          have h0 : (0 : Int) ≤ (j : Int) := by omega
          have h1 : (j : Int) < (M : Int) := by omega
          go_wp2_with fail
          exact ⟨⟨j + 1, by go_num, by omega, HA.out, HC.out, HE.out, HF.out, HBB.out⟩, by simp [intOf]; omega⟩
        · have hd : decide ((j : Int) < (M : Int)) = false := by simp; omega
          obtain rfl : j = M := by omega
          rw [Nat.sub_self, List.replicate_zero, List.append_nil, HM.out, fixD_eq] at hF
          have hiE : IRow wr (.slice (some ⟨B + 1 + 1, 0, none⟩) i i) fixL := by
            have := hE.irow i (by rw [fix15.2.1, HN.out]; exact Nat.le_refl _) (by rw [HN.out]; unfold maxLen; decide)
            rwa [fix15.2.1, ← HN.out] at this
          have hiF : IRow wr (.slice (some ⟨fB, 0, none⟩) j j) fixD := by
            have := hF.irow j (by rw [fix15.2.2.2, HM.out]; exact Nat.le_refl _) (by rw [HM.out]; unfold maxLen; decide)
            rwa [fix15.2.2.2, ← HM.out] at this
          clear hE hF
          go_wp2_with fail
          refine (newDecoder_any _ fixL _ hiE.read fix15.1 (by rw [fix15.2.1]; decide)).mono ?_
          rintro e w3 ⟨⟨su, rfl, hsu⟩, hb3⟩
          have hA3 := (Fr.of_below (B := 0) hb3 []).blk hA (by simp)
          have hC3 := (Fr.of_below (B := 0) hb3 []).blk hC (by simp)
          have hiF3 := hiF.below hb3
          have hBle : B ≤ wr.heap.size := Nat.le_of_lt hA.lt
          have hbb3 : Below B w w3 := hb.trans (hb3.mono hBle)
          clear hA hC hiE hiF hb hb3 hBle
          have hDi := decC_inf fixL su
          have hDs : (decC fixL su).size = 19 := rfl
          have hD1 := decC_one fixL su (irow_one hsu)
          have HDV : Hid (∀ w', IRow w' su (allC fixL 15) → DecV w' fixL (.agg (decC fixL su))) := fun w' h => ⟨su, rfl, h⟩
          generalize decC fixL su = D at *
          go_wp2_with fail
          refine (newDecoder_any _ fixD _ hiF3.read fix15.2.2.1 (by rw [fix15.2.2.2]; decide)).mono ?_
          rintro e w4 ⟨⟨sv, rfl, hsv⟩, hb4⟩
          have hA4 := (Fr.of_below (B := 0) hb4 []).blk hA3 (by simp)
          have hC4 := (Fr.of_below (B := 0) hb4 []).blk hC3 (by simp)
          have hsu4 := hsu.below hb4
          have hBle : B ≤ w3.heap.size := Nat.le_of_lt hA3.lt
          have hbb4 : Below B w w4 := hbb3.trans (hb4.mono hBle)
          clear hA3 hC3 hsu hbb3 hb4 hBle hiF3
          have hEi := decC_inf fixD sv
          have hEs : (decC fixD sv).size = 19 := rfl
          have hE1 := decC_one fixD sv (irow_one hsv)
          have HEV : Hid (∀ w', IRow w' sv (allC fixD 15) → DecV w' fixD (.agg (decC fixD sv))) := fun w' h => ⟨sv, rfl, h⟩
          generalize decC fixD sv = E at *
          have hA5 := (hA4.setRow D).setRow_ne E (g := B + 1) (by omega)
          have hC4' := hC4.setRow_ne D (g := B) (by omega)
          have hC5 := hC4'.setRow E
          have hu5 := (hsu4.setRow hA4 (by decide) D).setRow hC4' (by decide) E
          have hv5 := (hsv.setRow hA4 (by decide) D).setRow hC4' (by decide) E
          have hb5 := below_setRow (below_setRow hbb4 (Nat.le_refl B) D) (g := B + 1) (by omega) E
          have HA4 := Lib.hid hA4
          have HC4 := Lib.hid hC4'
          have HA5 := Lib.hid hA5
          have HC5 := Lib.hid hC5
          have HU := Lib.hid hu5
          have HV := Lib.hid hv5
          have HB5 := Lib.hid hb5
          have HDI := Lib.hid hDi
          have HEI := Lib.hid hEi
          have HD1 := Lib.hid hD1
          have HE1 := Lib.hid hE1
          have HZD : Hid (Z.size = D.size) := by show _ = _; rw [HZ.out, hDs]
          have HZE : Hid (Z.size = E.size) := by show _ = _; rw [HZ.out, hEs]
          clear hA4 hC4 hC4' hA5 hC5 hu5 hv5 hb5 hDi hEi hD1 hE1 hDs hEs hsu4 hsv hbb4
          go_wp2_with (first | refine wpList_store_row rfl 164 (.tmp 0) (.tmp 45) rfl B D rfl rfl 164 _ HA4.out HDI.out HZD.out HD1.out ?_ | refine wpList_store_row rfl 164 (.tmp 1) (.tmp 47) rfl (B + 1) E rfl rfl 164 _ HC4.out HEI.out HZE.out HE1.out ?_)
          refine bodyPost_ret (v := .tuple #[.agg D, .agg E]) (results_two_rows rfl _ _ B (B + 1) 164 D E (0, 0) _ rfl rfl HA5.out HC5.out Tryz.underlying164 rfl HDI.out HEI.out) rfl ⟨⟨_, _, rfl, HDV.out _ HU.out, HEV.out _ HV.out⟩, ?_⟩
          rw [HB.out]
          exact HB5.out
end Go.Proofs.YthbejefodelpkaaGreat
namespace Go.Proofs.YthbejefodelpkaaGreat
open Go.RowKit

theorem Fr.grown_new {B : Nat} {T : List TypeId} {a w w' : World} (h : Fr B T a w) {base : Nat} {e : TypeId} {size : Nat} {v : Value} {n : Nat} {xs : List Value} (ho : w.ownsRow base e size v n xs) (hB : a.heap.size ≤ base) (hg : w.grownBy w' v.ownBlock) : Fr B T a w' :=
  ⟨hg.os.trans h.os, hg.tape.trans h.tape, hg.output.trans h.output, Nat.le_trans h.size hg.size, fun k hk hc => by
    refine (hg.block k (Nat.lt_of_lt_of_le hk h.size) ?_).trans (h.block k hk hc)
    intro eq
    rcases ho.2 with ⟨rfl, _⟩ | ⟨g, cap, cur, rfl, hbg, _⟩
    · simp [Value.ownBlock] at eq
    · have : k = g := by simpa [Value.ownBlock] using eq
      omega⟩
/-- What reading code lengths promises. -/
def LstOk (s : ByteArray) (most zb : Nat) (v : Value) (r : Except Nat (List Nat × List Bool)) (e : Ending) (w : World) : Prop :=
  match r with
  | .error k => e = .returned (.tuple #[.slice none 0 0, .int .i64 k])
  | .ok (l, b) => (∃ u, e = .returned (.tuple #[u, .int .i64 0]) ∧ IRow w u l) ∧ ∃ p, p ≤ 8 * s.size ∧ b = bitsAt s p ∧ Blk w zb 141 (zc s p most v)
theorem numT_zero (b : List Bool) : numT b 0 = .ok (0, b) := by unfold numT; simp [byteOf]
/-- How a symbol goes on. -/
def lstS (cl : List Nat) (n f : Nat) (acc : List Nat) (value least extra : Nat) (b : List Bool) : Except Nat (List Nat × List Bool) :=
  match numT b extra with
  | .error e => .error e
  | .ok (x, b2) => lstGo cl n f (acc ++ List.replicate (least + x) value) b2

set_option maxRecDepth 100000 in
set_option maxHeartbeats 8000000 in
theorem lengths_any (s : ByteArray) (p most zb db n : Nat) (v : Value) (cl : List Nat) (w : World) (hz : Blk w zb 141 (zc s p most v)) (hd : Dec w db cl) (hl : cl.length ≤ 400) (hs : s.size ≤ 1000000000000000) (hp : p ≤ 8 * s.size) (hn : n ≤ 400) :
    Calls Tryz.prog 172 #[.pointer (some ⟨zb, 0, none⟩), .pointer (some ⟨db, 0, none⟩), .int .i64 n] w fun e w' => LstOk s most zb v (lstT cl n (bitsAt s p)) e w' ∧ Fr zb [141] w w' := by
  have HD : Hid (lstGo cl n (n + 1) [] (bitsAt s p) = lstT cl n (bitsAt s p)) := rfl
  go_enter Tryz.func172, Tryz.ntmps172
  go_wp2_with fail
  obtain ⟨W, hW⟩ : ∃ W, w.heap.size = W := ⟨_, rfl⟩
  have HW := Lib.hid hW
  have hzW : W ≤ w.heap.size := by omega
  clear hW
  go_loopg [8] (n + 1) (fun k v8 wr => ∃ (q : Nat) (acc : List Nat), q ≤ 8 * s.size ∧ n - acc.length < k ∧ acc.length ≤ 600 ∧ Hid (lstGo cl n k acc (bitsAt s q) = lstT cl n (bitsAt s p)) ∧ ORow wr W v8 acc ∧ Blk wr zb 141 (zc s q most v) ∧ Fr zb [141] w wr ∧ W ≤ wr.heap.size)
  case atStart => exact ⟨p, [], hp, by simp, Nat.zero_le _, HD, ⟨rfl, .inl ⟨rfl, rfl⟩⟩, hz, Fr.refl _ _ _, hzW⟩
  case round =>
    clear HD hz hzW
    obtain ⟨q, acc, hq, hk, hal, hlst, hrow, hzr, hfr, hszr⟩ := hrel
    obtain ⟨f, hf⟩ : ∃ f, gk = f + 1 := ⟨gk - 1, by omega⟩
    have hll := hlst.out
    rw [hf] at hll
    unfold lstGo at hll
    have HF := Lib.hid hf
    have hk2 : n - acc.length ≤ f := by omega
    clear hf hlst hk
    obtain ⟨xa, ca, rfl⟩ : ∃ x c, u8 = .slice x acc.length c := by
      rcases hrow.2 with ⟨rfl, h0⟩ | ⟨g, cap, cur, rfl, _⟩
      · exact ⟨none, 0, by rw [h0]⟩
      · exact ⟨_, _, rfl⟩
    by_cases hnl : n ≤ acc.length
    · rw [if_pos hnl] at hll
      have d1 : decide ((acc.length : Int) < (n : Int)) = false := by simp; omega
      by_cases heq : acc.length = n
      · rw [if_pos heq] at hll
        have HE := Lib.hid hll.symm
        have d2 : decide ((n : Int) < (acc.length : Int)) = false := by simp; omega
        clear hll
        go_wp2_with fail
        go_ret2
        refine ⟨?_, hfr⟩
        rw [HE.out]
        exact ⟨⟨_, rfl, hrow.irow⟩, q, hq, rfl, hzr⟩
      · rw [if_neg heq] at hll
        have HE := Lib.hid hll.symm
        have d2 : decide ((n : Int) < (acc.length : Int)) = true := by simp; omega
        clear hll
        go_wp2_with fail
        go_ret2
        refine ⟨?_, hfr⟩
        rw [HE.out]
        rfl
    rw [if_neg hnl] at hll
    have d1 : decide ((acc.length : Int) < (n : Int)) = true := by simp; omega
    have hdr := hd.fr hfr (by decide) (by decide)
    have HLL := Lib.hid hll
    clear hll
    go_wp2_with fail
    refine (symbol_any s q most zb db v cl _ hzr hdr hl hs hq).mono ?_
    rintro e w1 ⟨hst, hf1⟩
    have hll := HLL.out
    clear HLL
    have hfr1 := hfr.trans hf1
    have hrow1 : ORow w1 W (.slice xa acc.length ca) acc := hf1.owns hrow (by decide)
    have hsz1 : W ≤ w1.heap.size := Nat.le_trans hszr hf1.size
    clear hdr hrow hzr hfr hf1 hszr
    cases hn1 : symT cl (bitsAt s q) with
    | error k =>
      rw [hn1] at hst hll
      obtain ⟨rfl, -⟩ := hst
      have HE : Hid (lstT cl n (bitsAt s p) = .error k) := hll.symm
      have hk := symT_err hn1
      have hk1 : ((k : Int) != 0) = true := by simp; omega
      clear hn1 hll
      go_wp2_with fail
      go_ret2
      refine ⟨?_, hfr1⟩
      rw [HE.out]; rfl
    | ok xb =>
      obtain ⟨y, b1⟩ := xb
      rw [hn1] at hst hll
      obtain ⟨rfl, q1, hq1, rfl, hz1⟩ := hst
      simp only at hll
      clear hn1
      have HLL := Lib.hid hll
      clear hll
      go_upto_block 2 with fail
      go_cut [11, 12, 13] from 15 to 63 (fun v11 v12 v13 wx => ∃ value least extra : Nat, v11 = .int .i64 value ∧ v12 = .int .i64 least ∧ v13 = .int .i64 extra ∧ extra ≤ 7 ∧ 1 ≤ least ∧ least ≤ 11 ∧ Hid (lstS cl n f acc value least extra (bitsAt s q1) = lstT cl n (bitsAt s p)) ∧ wx = w1)
      case first =>
        have hll := HLL.out
        clear HLL
        by_cases h16 : y = 16
        · subst h16
          rw [if_pos rfl] at hll
          by_cases h0 : acc.length = 0
          · rw [if_pos h0] at hll
            have HE := Lib.hid hll.symm
            have d3 : ((acc.length : Int) == 0) = true := by rw [h0]; rfl
            clear hll
            go_wp2_with fail
            go_ret2
            refine ⟨?_, hfr1⟩
            rw [HE.out]; rfl
          · rw [if_neg h0] at hll
            have d3 : ((acc.length : Int) == 0) = false := beq_false_of_ne (by omega)
            obtain ⟨g, cap, hv, hcell⟩ : ∃ g cap, Value.slice xa acc.length ca = .slice (some ⟨g, 0, none⟩) acc.length cap ∧ w1.cell? ⟨g, acc.length - 1, none⟩ = some (.int .i64 (acc.getD (acc.length - 1) 0 : Nat)) := by
              rcases hrow1.2 with ⟨hn, h00⟩ | ⟨g, cap, cur, hv, hgB, hgg, _⟩
              · omega
              · refine ⟨g, cap, hv, ?_⟩
                have hj : acc.length - 1 < acc.length := by omega
                have := World.ownsRow.cells hrow1 (g := g) (by rw [hv]; rfl) (acc.length - 1) _ (icells_get acc _ hj)
                rw [Addr.add_lit, Nat.zero_add] at this
                rw [this]
                simp [List.getD, hj]
            cases hv
            have HS : Hid (lstS cl n f acc (acc.getD (acc.length - 1) 0) 3 2 (bitsAt s q1) = lstT cl n (bitsAt s p)) := hll
            obtain ⟨A, hA⟩ : ∃ A, acc.length - 1 = A := ⟨_, rfl⟩
            rw [hA] at hcell HS
            generalize acc.getD A 0 = V at hcell HS
            clear hll d3
            have z2 : (0 : Int) ≤ (A : Int) := by omega
            have d3 : ((acc.length : Int) == 0) = false := beq_false_of_ne (by omega)
            have z3 : IntKind.i64.wrap ((acc.length : Int) - 1) = (A : Int) := by rw [IntKind.wrap_i64]; omega
            have z4 : (A : Int) < (acc.length : Int) := by omega
            clear hA h0
            go_wp2_with fail
            go_meet
            case rel => exact ⟨V, 3, 2, rfl, rfl, rfl, by decide, by decide, by decide, HS, rfl⟩
        · rw [if_neg h16] at hll
          have d16 : ((y : Int) == 16) = false := beq_false_of_ne (by omega)
          by_cases h17 : y = 17
          · subst h17
            rw [if_pos rfl] at hll
            have HS : Hid (lstS cl n f acc 0 3 3 (bitsAt s q1) = lstT cl n (bitsAt s p)) := hll
            clear hll
            go_wp2_with fail
            go_meet
            case rel => exact ⟨0, 3, 3, rfl, rfl, rfl, by decide, by decide, by decide, HS, rfl⟩
          rw [if_neg h17] at hll
          have d17 : ((y : Int) == 17) = false := beq_false_of_ne (by omega)
          by_cases h18 : y = 18
          · subst h18
            rw [if_pos rfl] at hll
            have HS : Hid (lstS cl n f acc 0 11 7 (bitsAt s q1) = lstT cl n (bitsAt s p)) := hll
            clear hll
            go_wp2_with fail
            go_meet
            case rel => exact ⟨0, 11, 7, rfl, rfl, rfl, by decide, by decide, by decide, HS, rfl⟩
          rw [if_neg h18] at hll
          have d18 : ((y : Int) == 18) = false := beq_false_of_ne (by omega)
          have HS : Hid (lstS cl n f acc y 1 0 (bitsAt s q1) = lstT cl n (bitsAt s p)) := by
            show _ = _
            unfold lstS
            rw [numT_zero]
            exact hll
          clear hll h16 h17 h18
          go_wp2_with fail
          go_meet
          case rel => exact ⟨y, 1, 0, rfl, rfl, rfl, by decide, by decide, by decide, HS, rfl⟩
      case rest =>
        obtain ⟨value, least, extra, rfl, rfl, rfl, hex, hle, hle2, hS, rfl⟩ := hcut
        clear HLL
        go_wp2_with fail
        refine (number_any s q1 extra most zb v _ hz1 hs hq1 (by omega)).mono ?_
        rintro e w2 ⟨hok, hf2⟩
        have hst := hok.st hq1
        have hfr2 := hfr1.trans hf2
        have hrow2 : ORow w2 W (.slice xa acc.length ca) acc := hf2.owns hrow1 (by decide)
        have hsz2 : W ≤ w2.heap.size := Nat.le_trans hsz1 hf2.size
        clear hok hrow1 hz1 hfr1 hf2 hsz1
        have hss := hS.out
        unfold lstS at hss
        clear hS
        cases hn2 : numT (bitsAt s q1) extra with
        | error k =>
          rw [hn2] at hst hss
          obtain ⟨rfl, -⟩ := hst
          have HE : Hid (lstT cl n (bitsAt s p) = .error k) := hss.symm
          have hk := numT_err hn2
          have hk1 : ((k : Int) != 0) = true := by simp; omega
          clear hn2 hss
          go_wp2_with fail
          go_ret2
          refine ⟨?_, hfr2⟩
          rw [HE.out]; rfl
        | ok xb =>
          obtain ⟨x, b2⟩ := xb
          rw [hn2] at hst hss
          obtain ⟨rfl, q2, hq2, rfl, hz2⟩ := hst
          have hx := (numT_ok hn2).2.2.2
          have hx7 : x < 128 := Nat.lt_of_lt_of_le hx (by have : 2 ^ extra ≤ 2 ^ 7 := Nat.pow_le_pow_right (by omega) (by omega); simpa using this)
          have HSS := Lib.hid hss
          clear hn2 hss hx
          go_wp2_with fail
          go_loopw [8, 57] (fun va vi ws => ∃ j : Nat, vi = .int .i64 j ∧ j ≤ least + x ∧ ORow ws W va (acc ++ List.replicate j value) ∧ Blk ws zb 141 (zc s q2 most v) ∧ Fr zb [141] w ws ∧ W ≤ ws.heap.size) (fun _ vi _ => least + x - (intOf vi).toNat)
          case atStart => exact ⟨0, rfl, Nat.zero_le _, by simpa using hrow2, hz2, hfr2, hsz2⟩
          case round =>
            clear hrow2 hz2 hfr2 hsz2
            obtain ⟨j, rfl, hj, hrow, hzr, hfr, hszr⟩ := hrel
            by_cases hjl : j < least + x
            · have hd : decide ((j : Int) < (least : Int) + (x : Int)) = true := by simp; omega
              have hown := id hrow
              unfold ORow at hown
              have hlen : (acc ++ List.replicate j value).length = acc.length + j := by simp
              have hvs : ∃ x' c', u8 = .slice x' (acc.length + j) c' := by
                rcases hown.2 with ⟨rfl, h0⟩ | ⟨g, cap, cur, rfl, _⟩
                · exact ⟨none, 0, by rw [← hlen, h0]⟩
                · exact ⟨_, _, by rw [hlen]⟩
              have HX : Hid (acc ++ List.replicate (j + 1) value = (acc ++ List.replicate j value) ++ [value]) := by
                show _ = _
                rw [List.replicate_succ', List.append_assoc]
              rw [hlen] at hown
              have HL := Lib.hid hlen
              clear hlen
              obtain ⟨x', c', rfl⟩ := hvs
              go_wp2_with (at_builtin; refine wpList_app el_int hown hszr rfl rfl rfl (m := 0) rfl (by simp [Value.oneCell']) rfl (by omega) (by unfold maxLen; omega) ?_)
              intro r cap w3 ho hg hat
              have hrow2 : ORow w3 W (.slice (some ⟨r, 0, none⟩) (acc.length + j + 1) cap) (acc ++ List.replicate (j + 1) value) := by
                rw [HX.out]
                exact orow_more ho [value] rfl (by rw [HL.out]; rfl)
              have hfr3 : Fr zb [141] w w3 := (hfr.alloc _).grown_new (World.ownsRow.alloc hown _) (by rw [HW.out]; exact Nat.le_refl _) hg
              have hz3 : Blk w3 zb 141 (zc s q2 most v) := by
                refine (hg.block zb (by simp; exact Nat.lt_succ_of_lt hzr.lt) ?_).trans (hzr.alloc _)
                exact own_blk_ne' hzr hown.2 (by decide)
              have hsz3 : W ≤ w3.heap.size := by have := hg.size; simp at this; omega
              clear ho hg hat hown hrow HX HL hfr hzr hszr
              go_wp2_with fail
              exact ⟨⟨j + 1, by go_num, by omega, hrow2, hz3, hfr3, hsz3⟩, by simp [intOf]; omega⟩
            · have hd : decide ((j : Int) < (least : Int) + (x : Int)) = false := by simp; omega
              obtain rfl : j = least + x := by omega
              go_wp2_with fail
              go_roundg f
              case measure => have := HF.out; omega
              case rel => exact ⟨q2, _, hq2, by simp; omega, by simp; omega, HSS, hrow, hzr, hfr, hszr⟩
end Go.Proofs.YthbejefodelpkaaGreat
namespace Go.Proofs.YthbejefodelpkaaGreat
open Go.RowKit

theorem usedC_snoc (l : List Nat) (n : Nat) : usedC (l ++ [n]) = usedC l + (if n = 0 then 0 else 1) := by
  unfold usedC
  rw [List.countP_append]
  by_cases h : n = 0 <;> simp [h]
theorem usedC_le (l : List Nat) : usedC l ≤ l.length := List.countP_le_length
/-- A distance code is whole, or empty, or one code of one bit. -/
def disR (l : List Nat) : Prop := sumC l = 32768 ∨ usedC l = 0 ∨ usedC l = 1 ∧ sumC l = 16384
instance (l : List Nat) : Decidable (disR l) := by unfold disR; exact inferInstance

set_option maxRecDepth 100000 in
set_option maxHeartbeats 2000000 in
theorem distancesRight_any (v : Value) (ls : List Nat) (w : World) (hr : IRead w v ls) (h15 : ∀ n ∈ ls, n ≤ 15) (hl : ls.length ≤ 400) :
    Calls Tryz.prog 173 #[v] w fun e w' => e = .returned (.bool (decide (disR ls))) ∧ w = w' := by
  have HSUM := Lib.hid (sum_any v ls w hr h15 hl)
  obtain ⟨x, c, rfl, hc1, hc2, hcell⟩ := id hr
  unfold maxLen at hc2
  go_enter Tryz.func173, Tryz.ntmps173
  go_wp2_with fail
  go_loop [3, 9] (fun v3 vi => ∃ i : Nat, vi = .int .i64 i ∧ i ≤ ls.length ∧ v3 = .int .i64 (usedC (ls.take i) : Nat)) (fun _ vi => ls.length - (intOf vi).toNat)
  case atStart => exact ⟨0, rfl, Nat.zero_le _, rfl⟩
  case round =>
    obtain ⟨i, rfl, hi, rfl⟩ := hrel
    have hsl := usedC_le (ls.take i)
    have htl : (ls.take i).length = i := by simp; omega
    rw [htl] at hsl
    clear htl
    by_cases hlt : i < ls.length
    · have hne : ls ≠ [] := by rintro rfl; simp at hlt
      have hd : decide ((i : Int) < (ls.length : Int)) = true := by simp; omega
      obtain ⟨g, off, rfl, hcl⟩ := hcell hne
      have q := hcl i hlt
      have HS : Hid (usedC (ls.take (i + 1)) = usedC (ls.take i) + (if ls[i] = 0 then 0 else 1)) := by show _ = _; rw [List.take_succ_eq_append_getElem hlt, usedC_snoc]
      clear hcl hcell hr HSUM
      generalize ls[i] = y at *
      generalize usedC (ls.take i) = S at *
      generalize hn : ls.length = n at *
      have HN := Lib.hid hn
      clear hn
      by_cases hy : y = 0
      · subst hy
        go_wp2_with fail
        go_round
        case rel => exact ⟨i + 1, by go_num, by omega, by rw [HS.out]; rfl⟩
        case measure => simp [intOf]; omega
      · have hy1 : ((y : Int) != 0) = true := by simp; omega
        go_wp2_with fail
        go_round
        case rel => exact ⟨i + 1, by go_num, by omega, by rw [HS.out, if_neg hy]; simp⟩
        case measure => simp [intOf]; omega
    · have hd : decide ((i : Int) < (ls.length : Int)) = false := by simp; omega
      have hall : ls.take i = ls := List.take_of_length_le (by omega)
      rw [hall] at hsl ⊢
      clear hall
      go_wp2_with fail
      refine (HSUM.out).mono ?_
      rintro e w1 ⟨rfl, rfl⟩
      have hD : Hid (disR ls ↔ sumC ls = 32768 ∨ usedC ls = 0 ∨ usedC ls = 1 ∧ sumC ls = 16384) := Iff.rfl
      have hsm := sumC_le ls
      clear HSUM hcell hr
      generalize sumC ls = S at *
      generalize usedC ls = U at *
      have fin : ∀ b : Bool, Hid (b = true ↔ (S = 32768 ∨ U = 0 ∨ U = 1 ∧ S = 16384)) → b = decide (disR ls) := by
        intro b hb
        rw [Bool.eq_iff_iff, decide_eq_true_iff, hD.out]
        exact hb.out
      have FIN := Lib.hid fin
      clear fin hD
      by_cases a1 : S = 32768
      · have d1 : ((S : Int) == 32768) = true := by simp; omega
        have HR : Hid (true = decide (disR ls)) := FIN.out true (by show _ ↔ _; simp [a1])
        clear a1 FIN hsm
        go_wp2_with fail
        go_ret
        exact ⟨by rw [← HR.out]; rfl, rfl⟩
      have d1 : ((S : Int) == 32768) = false := by simp; omega
      by_cases a2 : U = 0
      · have d2 : ((U : Int) == 0) = true := by simp; omega
        have HR : Hid (true = decide (disR ls)) := FIN.out true (by show _ ↔ _; simp [a2])
        clear a1 a2 FIN hsm
        go_wp2_with fail
        go_ret
        exact ⟨by rw [← HR.out]; rfl, rfl⟩
      have d2 : ((U : Int) == 0) = false := by simp; omega
      by_cases a3 : U = 1
      · have d3 : ((U : Int) == 1) = true := by simp; omega
        by_cases a4 : S = 16384
        · have d4 : ((S : Int) == 16384) = true := by simp; omega
          have HR : Hid (true = decide (disR ls)) := FIN.out true (by show _ ↔ _; simp [a3, a4])
          clear a1 a2 a3 a4 FIN hsm
          go_wp2_with fail
          go_ret
          exact ⟨by rw [← HR.out]; rfl, rfl⟩
        · have d4 : ((S : Int) == 16384) = false := by simp; omega
          have HR : Hid (false = decide (disR ls)) := FIN.out false (by show _ ↔ _; simp [a1, a2, a4])
          clear a1 a2 a3 a4 FIN hsm
          go_wp2_with fail
          go_ret
          exact ⟨by rw [← HR.out]; rfl, rfl⟩
      · have d3 : ((U : Int) == 1) = false := by simp; omega
        have HR : Hid (false = decide (disR ls)) := FIN.out false (by show _ ↔ _; simp [a1, a2, a3])
        clear a1 a2 a3 FIN hsm
        go_wp2_with fail
        go_ret
        exact ⟨by rw [← HR.out]; rfl, rfl⟩
end Go.Proofs.YthbejefodelpkaaGreat
