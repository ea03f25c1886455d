/-
  Walk: path.Place: the image of a path (of a right path, by a right transform).
-/
import Derived.Test.YtgjbelcnkmcbiaaDoorMv1
import Derived.Test.YtgjbelcnkmcbiaaDoorSp2
namespace Go.Proofs.YtgjbelcnkmcbiaaDoor
open Go.RowKit

/-- What Place answers. -/
def PlOk (t : Af) (l : List Sg) (e : Ending) (w' : World) : Prop :=
  if ∀ s ∈ l, plBad t s = false then ∃ g, e = .returned (.tuple #[g, .int .i64 0]) ∧ SRow w' g (l.map (plS t))
  else e = .returned (.tuple #[.slice none 0 0, .int .i64 2])
/-- The segment with its first j points. -/
def partS (t : Af) (s : Sg) (j : Nat) : Sg :=
  (s.1, (if 0 < j then imgP t s.2.1 else (0, 0)), (if 1 < j then imgP t s.2.2.1 else (0, 0)), (if 2 < j then imgP t s.2.2.2 else (0, 0)))
theorem part_all (t : Af) (s : Sg) : partS t s (usedP s.1) = plS t s := rfl
theorem part_zero (t : Af) (s : Sg) : partS t s 0 = zeroSg s.1 := rfl
theorem part_put (t : Af) (s : Sg) (j : Nat) (hj : j < 3) (X Y : Int) (h : imgP t (s.pt j) = (X, Y)) : putN (putN (partS t s j) (2 * j) X) (2 * j + 1) Y = partS t s (j + 1) := by
  rcases (by omega : j = 0 ∨ j = 1 ∨ j = 2) with rfl | rfl | rfl
  · have h : imgP t s.2.1 = (X, Y) := h
    simp [putN, partS, h]
  · have h : imgP t s.2.2.1 = (X, Y) := h
    simp [putN, partS, h]
  · have h : imgP t s.2.2.2 = (X, Y) := h
    simp [putN, partS, h]
theorem scells_put (q : List Sg) (i m : Nat) (hi : i < q.length) (hm : m < 7) (u : Value) (s' : Sg) (h : scell s' = (scell q[i]).set m u) : (scells q).set (i * 7 + m) u = scells (q.set i s') := by
  induction q generalizing i with
  | nil => simp at hi
  | cons a r ih =>
    have hl : (scell a).length = 7 := rfl
    cases i with
    | zero =>
      simp only [scells, List.flatMap_cons, List.set_cons_zero]
      simp only [List.getElem_cons_zero] at h
      rw [List.set_append_left _ _ (by omega), h]
      congr 2
      omega
    | succ i =>
      simp only [scells, List.flatMap_cons, List.set_cons_succ]
      rw [List.set_append_right _ _ (by omega), hl, show (i + 1) * 7 + m - 7 = i * 7 + m by omega]
      congr 1
      exact ih i (by simpa using hi) (by simpa using h)
theorem SOwn.put {w : World} {B g c : Nat} {q : List Sg} (h : SOwn w B (.slice (some ⟨g, 0, none⟩) q.length c) q) (i m : Nat) (hi : i < q.length) (hm : m < 7) (u : Value) (s' : Sg) (he : scell s' = (scell q[i]).set m u) :
    SOwn (w.setCell ⟨g, i * 7 + m, none⟩ u) B (.slice (some ⟨g, 0, none⟩) (q.set i s').length c) (q.set i s') := by
  have h1 := (World.ownsRow.stored h (i * 7 + m) u).1
  unfold SOwn
  rw [List.length_set, ← scells_put q i m hi hm u s' he]
  exact h1
theorem mk_segs (n : Nat) : madeCells #[Value.int .i64 0, .int .i64 0, .int .i64 0, .int .i64 0, .int .i64 0, .int .i64 0, .int .i64 0] (n * 7) = (scells (List.replicate n (zeroSg 0))).toArray := by
  have e : scells (List.replicate n (zeroSg 0)) = List.replicate (7 * n) (Value.int .i64 0) := by
    induction n with
    | zero => rfl
    | succ n ih =>
      rw [List.replicate_succ]
      show scell (zeroSg 0) ++ scells _ = _
      rw [ih, show 7 * (n + 1) = 7 * n + 1 + 1 + 1 + 1 + 1 + 1 + 1 by omega]
      simp only [List.replicate_succ]
      rfl
  rw [e]
  apply Array.ext
  · rw [size_madeCells]; simp [Nat.mul_comm]
  · intro i h1 h2
    have : i % 7 = 0 ∨ i % 7 = 1 ∨ i % 7 = 2 ∨ i % 7 = 3 ∨ i % 7 = 4 ∨ i % 7 = 5 ∨ i % 7 = 6 := by omega
    rcases this with h | h | h | h | h | h | h <;> simp [madeCells, h]
theorem run_mksegs (n : Nat) (hb : n ≤ 1048576) (w : World) :
    (Instr.makeSlice 22 (.int .i64 (n : Int)) (.int .i64 (n : Int))).run Tryd.prog w = .ok (.slice (some ⟨w.heap.size, 0, none⟩) n n) (w.alloc (.cells (scells (List.replicate n (zeroSg 0))).toArray 35)) := by
  obtain ⟨ht, ⟨i, hi, hzz, hsz, hby⟩, _, _⟩ := el_sg
  have hb' : (i.bytes : Int) * (n : Int) ≤ 281474976710656 := by
    rw [hby]; omega
  have hr := run_make (P := Tryd.prog) w 22 35 i _ ht hi hzz .i64 .i64 n n (by omega) (by omega) hb' (by omega)
  rw [hr, Int.toNat_natCast, hsz, show (Value.agg #[Value.int .i64 0, .int .i64 0, .int .i64 0, .int .i64 0, .int .i64 0, .int .i64 0, .int .i64 0]).cells = #[Value.int .i64 0, .int .i64 0, .int .i64 0, .int .i64 0, .int .i64 0, .int .i64 0, .int .i64 0] from rfl, mk_segs]
theorem pt_cells (s : Sg) (j : Nat) (hj : j < 3) : (scell s)[1 + j * 2]? = some (.int .i64 (s.pt j).1) ∧ (scell s)[1 + j * 2 + 1]? = some (.int .i64 (s.pt j).2) := by
  rcases (by omega : j = 0 ∨ j = 1 ∨ j = 2) with rfl | rfl | rfl <;> exact ⟨rfl, rfl⟩
theorem bad_at {t : Af} {s : Sg} {j : Nat} (hj : j < usedP s.1) (hb : farP (imgP t (s.pt j)) = true) : plBad t s = true := by
  cases h : plBad t s with
  | true => rfl
  | false => rw [bad_near h j hj] at hb; cases hb
theorem good_all {t : Af} {s : Sg} (h : ∀ j, j < usedP s.1 → farP (imgP t (s.pt j)) = false) : plBad t s = false := by
  unfold plBad
  simp only [Bool.or_eq_false_iff, Bool.and_eq_false_iff, decide_eq_false_iff_not]
  refine ⟨⟨?_, ?_⟩, ?_⟩
  · by_cases hu : 0 < usedP s.1
    · exact .inr (h 0 hu)
    · exact .inl hu
  · by_cases hu : 1 < usedP s.1
    · exact .inr (h 1 hu)
    · exact .inl hu
  · by_cases hu : 2 < usedP s.1
    · exact .inr (h 2 hu)
    · exact .inl hu
theorem used3 (k : Int) : usedP k ≤ 3 := by unfold usedP; (repeat' split) <;> omega

theorem Blk.keep {w w' : World} {k : Nat} {t : TypeId} {cs : Array Value} (h : Blk w k t cs) (hb : Below w.heap.size w w') : Blk w' k t cs := (hb.block _ h.lt).trans h
theorem image_run (a p : Value) (w : World) : (callFunc 40 #[a, p]).run Tryd.prog w = .ok (.enter 40 #[a, p]) w := by kernel_rfl
theorem sg_cells (s : Sg) (j : Nat) (hj : j < 3) : (sgC s)[1 + j * 2]? = some (.int .i64 (s.pt j).1) ∧ (sgC s)[1 + j * 2 + 1]? = some (.int .i64 (s.pt j).2) := by
  rcases (by omega : j = 0 ∨ j = 1 ∨ j = 2) with rfl | rfl | rfl <;> exact ⟨rfl, rfl⟩
/-- The row after i rounds. -/
def rowS (t : Af) (l : List Sg) (i : Nat) : List Sg := (l.take i).map (plS t) ++ List.replicate (l.length - i) (zeroSg 0)
theorem rowS_len (t : Af) (l : List Sg) (i : Nat) (h : i ≤ l.length) : (rowS t l i).length = l.length := by
  unfold rowS; simp; omega
theorem rowS_zero (t : Af) (l : List Sg) : rowS t l 0 = List.replicate l.length (zeroSg 0) := by simp [rowS]
theorem rowS_all (t : Af) (l : List Sg) : rowS t l l.length = l.map (plS t) := by simp [rowS]
theorem rowS_at (t : Af) (l : List Sg) (i : Nat) (h : i < l.length) : (rowS t l i)[i]? = some (zeroSg 0) := by
  unfold rowS
  rw [List.getElem?_append_right (by simp; omega), List.getElem?_replicate, if_pos (by simp; omega)]
theorem rowS_next (t : Af) (l : List Sg) (i : Nat) (h : i < l.length) : (rowS t l i).set i (plS t l[i]) = rowS t l (i + 1) := by
  unfold rowS
  rw [List.set_append_right _ _ (by simp; omega), List.take_succ_eq_append_getElem h, List.map_append, List.append_assoc]
  congr 1
  rw [List.length_map, List.length_take, Nat.min_eq_left (by omega), Nat.sub_self, show l.length - i = (l.length - (i + 1)) + 1 by omega, List.replicate_succ, List.set_cons_zero]
  rfl

set_option maxRecDepth 100000 in
set_option maxHeartbeats 4000000 in
theorem place_any (v : Value) (l : List Sg) (t : Af) (w : World) (hr : SRow w v l) (h0 : chkP l = 0) (ht : afChk t = 0) : Calls Tryd.prog 29 #[v, .agg (afC t)] w fun e w' => PlOk t l e w' ∧ Below w.heap.size w w' := by
  have hl128 := (chkP_ok h0).1
  have HCK := Lib.hid (fun w hr => check_any v l w hr)
  have HAC := Lib.hid (fun w => achk_any t w)
  have HIM := Lib.hid (fun p w => image_any t p w)
  have HSR := Lib.hid hr
  rw [h0] at HCK
  rw [ht] at HAC
  obtain ⟨x, c, rfl, hc1, hc2, -⟩ := hr
  unfold maxLen at hc2
  have hbx := (Below.refl w.heap.size w).alloc (Nat.le_refl _) (.cells (afC t) 45)
  have hK0 := Blk.new w 45 (afC t)
  unfold afC at HAC HIM hbx hK0 ⊢
  have HBX := Lib.hid hbx
  have HKB := Lib.hid hK0
  clear h0 ht hbx hK0
  go_enter Tryd.func29, Tryd.ntmps29
  go_wp2_with fail
  refine (HCK.out _ (HSR.out.below HBX.out)).mono ?_
  rintro e w1 ⟨rfl, hb1⟩
  have HB1 := Lib.hid (HBX.out.trans (hb1.mono HBX.out.size))
  have HK1 := Lib.hid (HKB.out.keep hb1)
  have k0 := HK1.out.cell 0
  have k1 := HK1.out.cell 1
  have k2 := HK1.out.cell 2
  have k3 := HK1.out.cell 3
  have k4 := HK1.out.cell 4
  have k5 := HK1.out.cell 5
  clear hb1 HBX HKB HCK
  go_wp2_with fail
  refine (HAC.out _).mono ?_
  rintro e w2 ⟨rfl, hb2⟩
  have HB2 := Lib.hid (HB1.out.trans (hb2.mono HB1.out.size))
  have HK2 := Lib.hid (HK1.out.keep hb2)
  clear hb2 HB1 HK1 k0 k1 k2 k3 k4 k5 HAC
  have hmk := run_mksegs l.length (by omega)
  have HG0 : Hid (SOwn (w2.alloc (.cells (scells (List.replicate l.length (zeroSg 0))).toArray 35)) w.heap.size (.slice (some ⟨w2.heap.size, 0, none⟩) (List.replicate l.length (zeroSg 0)).length l.length) (List.replicate l.length (zeroSg 0))) := by
    have h1 := World.ownsRow_lit (e := 35) (size := 7) (base := w.heap.size) w2 (scells (List.replicate l.length (zeroSg 0))).toArray l.length HB2.out.size (by unfold maxLen; omega) (by rw [List.size_toArray, scells_length]; simp)
    show World.ownsRow _ _ _ _ _ _ _
    rw [List.length_replicate]
    exact h1
  have HBG := Lib.hid (HB2.out.alloc HB2.out.size (.cells (scells (List.replicate l.length (zeroSg 0))).toArray 35))
  have HKG := Lib.hid (Blk.alloc HK2.out (.cells (scells (List.replicate l.length (zeroSg 0))).toArray 35))
  go_wp2_with fail
  clear hmk
  generalize w2.alloc (.cells (scells (List.replicate l.length (zeroSg 0))).toArray 35) = wg at *
  generalize hGe : w2.heap.size = G at *
  have HGG : Hid (w.heap.size ≤ G) := by rw [← hGe]; exact HB2.out.size
  clear hGe HB2 HK2
  rw [← rowS_zero t l] at HG0
  go_loopw [28] (fun vi wj => ∃ i : Nat, vi = .int .i64 i ∧ i ≤ l.length ∧ Hid (∀ j (h : j < l.length), j < i → plBad t l[j] = false) ∧ Hid (SOwn wj w.heap.size (.slice (some ⟨G, 0, none⟩) (rowS t l i).length l.length) (rowS t l i)) ∧ Hid (Blk wj w.heap.size 45 #[.int .i64 t.a, .int .i64 t.b, .int .i64 t.c, .int .i64 t.d, .int .i64 t.e, .int .i64 t.f]) ∧ Hid (Below w.heap.size w wj)) (fun vi _ => l.length - (intOf vi).toNat)
  case atStart => exact ⟨0, rfl, Nat.zero_le _, fun j h h2 => absurd h2 (by omega), HG0.out, HKG.out, HBG.out⟩
  case round =>
    obtain ⟨i, rfl, hi, hbd, how, hka, hbw⟩ := hrel
    by_cases hlt : i < l.length
    · have hd : decide ((i : Int) < (l.length : Int)) = true := by simp; omega
      obtain ⟨bb, off, rfl, hcl, -⟩ := (HSR.out.below hbw.out).at i hlt
      obtain ⟨q1, q2, q3, q4, q5, q6, q7⟩ := hcl i hlt
      obtain ⟨s, hs⟩ : ∃ s : Sg, l[i] = s := ⟨_, rfl⟩
      have HSM : Hid (s ∈ l) := by rw [← hs]; exact List.getElem_mem hlt
      have HRN := Lib.hid (rowS_next t l i hlt)
      have HRA := Lib.hid (rowS_at t l i hlt)
      have HRL := Lib.hid (rowS_len t l i hi)
      rw [hs] at q1 q2 q3 q4 q5 q6 q7 HRN
      have HS := Lib.hid hs
      generalize hRow : rowS t l i = row at *
      have hrl : row.length = l.length := HRL.out
      obtain ⟨k, ⟨ax, ay⟩, ⟨bx, by_⟩, ⟨cx, cy⟩⟩ := s
      simp only at q1 q2 q3 q4 q5 q6 q7
      clear hcl hs hRow
      have hwa := how.out
      unfold SOwn at hwa
      rw [hrl] at hwa
      have hoa := World.ownsRow.alloc hwa (.cells #[.int .i64 k, .int .i64 ax, .int .i64 ay, .int .i64 bx, .int .i64 by_, .int .i64 cx, .int .i64 cy] 35)
      have hsl : (scells row).length = l.length * 7 := by rw [scells_length, hrl]
      obtain ⟨u0, hu0⟩ : ∃ u0, (wr.alloc (.cells #[.int .i64 k, .int .i64 ax, .int .i64 ay, .int .i64 bx, .int .i64 by_, .int .i64 cx, .int .i64 cy] 35)).cell? ⟨G, i * 7, none⟩ = some u0 := by
        rw [World.ownsRow.cellAt hoa _ (by omega)]
        exact ⟨_, List.getElem?_eq_getElem (by omega)⟩
      have hf0 := World.ownsRow.frozenAt hoa (i * 7)
      have hGl := (World.ownsRow.lt hwa G rfl).2
      have HGW := Lib.hid hGl
      have HO0 : Hid (SOwn ((wr.setCell ⟨G, i * 7, none⟩ (.int .i64 k)).alloc (.cells #[.int .i64 k, .int .i64 ax, .int .i64 ay, .int .i64 bx, .int .i64 by_, .int .i64 cx, .int .i64 cy] 35)) w.heap.size (.slice (some ⟨G, 0, none⟩) (row.set i (zeroSg k)).length l.length) (row.set i (zeroSg k))) := by
        have h := (show SOwn wr w.heap.size (.slice (some ⟨G, 0, none⟩) row.length l.length) row by unfold SOwn; rw [hrl]; exact hwa).put i 0 (by omega) (by omega) (.int .i64 k) (zeroSg k) (by have e := HRA.out; rw [List.getElem?_eq_getElem (by omega)] at e; injection e with e; rw [e]; rfl)
        exact World.ownsRow.alloc h _
      have HS0 : Hid (Blk ((wr.setCell ⟨G, i * 7, none⟩ (.int .i64 k)).alloc (.cells #[.int .i64 k, .int .i64 ax, .int .i64 ay, .int .i64 bx, .int .i64 by_, .int .i64 cx, .int .i64 cy] 35)) wr.heap.size 35 #[.int .i64 k, .int .i64 ax, .int .i64 ay, .int .i64 bx, .int .i64 by_, .int .i64 cx, .int .i64 cy]) := Blk.new_at (by rw [World.size_setCell']) _ _
      have hAG : w.heap.size ≠ G := by
        intro e
        obtain ⟨cur, hcur⟩ : ∃ cur, Blk wr G 35 cur := by
          rcases hwa.2 with ⟨e, -⟩ | ⟨g, cap, cur, e, _, hg, _⟩
          · cases e
          · injection e with e1
            injection e1 with e1
            injection e1 with e1
            subst e1
            exact ⟨cur, hg⟩
        exact (hka.out.apart hcur (by decide)) e
      have HA0 : Hid (Blk ((wr.setCell ⟨G, i * 7, none⟩ (.int .i64 k)).alloc (.cells #[.int .i64 k, .int .i64 ax, .int .i64 ay, .int .i64 bx, .int .i64 by_, .int .i64 cx, .int .i64 cy] 35)) w.heap.size 45 #[.int .i64 t.a, .int .i64 t.b, .int .i64 t.c, .int .i64 t.d, .int .i64 t.e, .int .i64 t.f]) := (hka.out.other (p := ⟨G, i * 7, none⟩) hAG _).alloc _
      have HB0 : Hid (Below w.heap.size w ((wr.setCell ⟨G, i * 7, none⟩ (.int .i64 k)).alloc (.cells #[.int .i64 k, .int .i64 ax, .int .i64 ay, .int .i64 bx, .int .i64 by_, .int .i64 cx, .int .i64 cy] 35))) := (hbw.out.setCell HGG.out _).alloc (by rw [World.size_setCell']; exact hbw.out.size) _
      have HAGN := Lib.hid hAG
      have HW0 : Hid (w.heap.size < wr.heap.size) := hka.out.lt
      clear hoa hsl hwa how hka hbw hAG
      go_upto_region 12 with fail
      generalize ((wr.setCell ⟨G, i * 7, none⟩ (.int .i64 k)).alloc (.cells #[.int .i64 k, .int .i64 ax, .int .i64 ay, .int .i64 bx, .int .i64 by_, .int .i64 cx, .int .i64 cy] 35)) = wz at *
      generalize hSe : wr.heap.size = S at *
      have HSA : Hid (w.heap.size < S) := HW0
      have z0 : wz.cell? ⟨S, 0, none⟩ = some (.int .i64 k) := HS0.out.cell 0
      obtain ⟨z, hz⟩ : ∃ z : Sg, z = (k, (ax, ay), (bx, by_), cx, cy) := ⟨_, rfl⟩
      have HZK : Hid (z.1 = k) := by rw [hz]; rfl
      rw [← hz] at HSM HRN HS
      have HS1 : Hid (Blk wz S 35 (sgC z)) := by rw [hz]; exact HS0.out
      have HUS := Lib.hid (fun w => used_any k w)
      have hu3 := used3 k
      obtain ⟨u, hu⟩ : ∃ u, usedP k = u := ⟨_, rfl⟩
      rw [hu] at HUS hu3
      have HUE : Hid (usedP z.1 = u) := by rw [HZK.out]; exact hu
      have HO1 : Hid (SOwn wz w.heap.size (.slice (some ⟨G, 0, none⟩) (row.set i (partS t z 0)).length l.length) (row.set i (partS t z 0))) := by
        show SOwn _ _ _ _
        rw [part_zero, HZK.out]; exact HO0.out
      clear hu hz HS0 HO0 hSe HW0
      go_wp2_with fail
      refine (HUS.out _).mono ?_
      rintro e w' ⟨rfl, rfl⟩
      clear z0 HUS
      go_wp2_with fail
      go_loopw [42] (fun vj wx => ∃ j : Nat, vj = .int .i64 j ∧ j ≤ u ∧ Hid (∀ j', j' < j → farP (imgP t (z.pt j')) = false) ∧ Hid (SOwn wx w.heap.size (.slice (some ⟨G, 0, none⟩) (row.set i (partS t z j)).length l.length) (row.set i (partS t z j))) ∧ Hid (Blk wx S 35 (sgC z)) ∧ Hid (Blk wx w.heap.size 45 #[.int .i64 t.a, .int .i64 t.b, .int .i64 t.c, .int .i64 t.d, .int .i64 t.e, .int .i64 t.f]) ∧ Hid (Below w.heap.size w wx)) (fun vj _ => u - (intOf vj).toNat)
      case atStart => exact ⟨0, rfl, Nat.zero_le _, fun j' h => absurd h (by omega), HO1.out, HS1.out, HA0.out, HB0.out⟩
      case round =>
        obtain ⟨j, rfl, hj, hgd, hox, hsx, hax, hbx⟩ := hrel
        by_cases hlj : j < u
        · have hdj : decide ((j : Int) < (u : Int)) = true := by simp; omega
          have hj3 : j < 3 := by omega
          obtain ⟨px, py, hp⟩ : ∃ a b, z.pt j = (a, b) := ⟨_, _, rfl⟩
          obtain ⟨X, Y, hq⟩ : ∃ a b, imgP t (px, py) = (a, b) := ⟨_, _, rfl⟩
          have b0 : wr.cell? ⟨S, 1 + j * 2, none⟩ = some (.int .i64 px) := by rw [hsx.out.cell, (sg_cells z j hj3).1, hp]
          have b1 : wr.cell? ⟨S, 1 + j * 2 + 1, none⟩ = some (.int .i64 py) := by rw [hsx.out.cell, (sg_cells z j hj3).2, hp]
          have b0a : (wr.alloc (.cells #[.int .i64 0, .int .i64 0] 32)).cell? ⟨S, 1 + j * 2, none⟩ = some (.int .i64 px) := by rw [(hsx.out.alloc _).cell, (sg_cells z j hj3).1, hp]
          have b1a : (wr.alloc (.cells #[.int .i64 0, .int .i64 0] 32)).cell? ⟨S, 1 + j * 2 + 1, none⟩ = some (.int .i64 py) := by rw [(hsx.out.alloc _).cell, (sg_cells z j hj3).2, hp]
          have hSl := hsx.out.lt
          have hAl := hax.out.lt
          have hax2 := hax.out.alloc (.cells #[.int .i64 0, .int .i64 0] 32)
          have n0 := hax2.cell 0
          have n1 := hax2.cell 1
          have n2 := hax2.cell 2
          have n3 := hax2.cell 3
          have n4 := hax2.cell 4
          have n5 := hax2.cell 5
          clear hax2
          have m0 := hax.out.cell 0
          have m1 := hax.out.cell 1
          have m2 := hax.out.cell 2
          have m3 := hax.out.cell 3
          have m4 := hax.out.cell 4
          have m5 := hax.out.cell 5
          have HIP := Lib.hid (fun w => (HIM.out (px, py) w).mono fun e w' (h : e = .returned (.agg (ptC (imgP t (px, py)))) ∧ Below w.heap.size w w') => (⟨_, h.1, rfl, h.2⟩ : ∃ v, e = .returned v ∧ (v = .agg (ptC (imgP t (px, py))) ∧ Below w.heap.size w w')))
          rw [hq] at HIP
          unfold ptC at HIP
          simp only at HIP
          have HQ : Hid (imgP t (z.pt j) = (X, Y)) := by show _ = _; rw [hp, hq]
          have HBE := Lib.hid (fun w => beyond_any (X, Y) w)
          unfold ptC at HBE
          simp only at HBE
          obtain ⟨ff, hff⟩ : ∃ ff, farP (X, Y) = ff := ⟨_, rfl⟩
          rw [hff] at HBE
          have HFF := Lib.hid hff
          have hi3 : ((j : Nat) : Int) < 3 := by omega
          have hi0 : (0 : Int) ≤ (j : Int) := by omega
          clear hp hq hff
          go_upto_region 15 with fail
          have HPA : Hid (∀ W : World, Below wr.heap.size wr W → Blk W S 35 (sgC z) ∧ Blk W w.heap.size 45 #[.int .i64 t.a, .int .i64 t.b, .int .i64 t.c, .int .i64 t.d, .int .i64 t.e, .int .i64 t.f]) := fun W hb => ⟨hsx.out.keep hb, hax.out.keep hb⟩
          go_region_law (refine step_call (vs := #[.agg #[.int .i64 t.a, .int .i64 t.b, .int .i64 t.c, .int .i64 t.d, .int .i64 t.e, .int .i64 t.f], .agg #[.int .i64 px, .int .i64 py]]) rfl rfl ?_ (image_run _ _ _) (HIP.out _) ?_; simp [Act.eval]; rintro vX wX ⟨rfl, hbX⟩; have HBX := Lib.hid hbX; try (have hzX : Blk wX wr.heap.size 32 #[.int .i64 0, .int .i64 0] := ((hbX.block _ (by simp)).trans (Blk.new wr _ _)); have z0 := hzX.cell 0; have z1 := hzX.cell 1; have g0 := hzX.frozen 0; have g1 := hzX.frozen 1))
          all_goals
            first
              | (have HYX : Hid (Blk ((wX.setCell ⟨wr.heap.size, 0, none⟩ (.int .i64 X)).setCell ⟨wr.heap.size, 1, none⟩ (.int .i64 Y)) wr.heap.size 32 #[.int .i64 X, .int .i64 Y]) := (hzX.put 0 (.int .i64 X)).put 1 (.int .i64 Y)
                 have HBY : Hid (Below wr.heap.size wr ((wX.setCell ⟨wr.heap.size, 0, none⟩ (.int .i64 X)).setCell ⟨wr.heap.size, 1, none⟩ (.int .i64 Y))) := ((below_alloc_drew HBX.out).setCell (Nat.le_refl _) _).setCell (Nat.le_refl _) _
                 clear hzX z0 z1 g0 g1 HBX
                 generalize ((wX.setCell ⟨wr.heap.size, 0, none⟩ (.int .i64 X)).setCell ⟨wr.heap.size, 1, none⟩ (.int .i64 Y)) = wy at *
                 generalize hD : wr.heap.size = D at HYX ⊢
                 clear hD)
              | (have HYX : Hid (Blk (wX.alloc (.cells #[.int .i64 X, .int .i64 Y] 32)) wX.heap.size 32 #[.int .i64 X, .int .i64 Y]) := Blk.new wX _ _
                 have HBY : Hid (Below wr.heap.size wr (wX.alloc (.cells #[.int .i64 X, .int .i64 Y] 32))) := below_drew_alloc HBX.out _
                 clear HBX
                 generalize wX.alloc (.cells #[.int .i64 X, .int .i64 Y] 32) = wy at *
                 generalize hD : wX.heap.size = D at HYX ⊢
                 clear hD)
            have y0 := HYX.out.cell 0
            have y1 := HYX.out.cell 1
            obtain ⟨hsy, hay⟩ := HPA.out _ HBY.out
            have HSY := Lib.hid hsy
            have HAY := Lib.hid hay
            have HBWY : Hid (Below w.heap.size w wy) := hbx.out.trans (HBY.out.mono hbx.out.size)
            have HOY : Hid (SOwn wy w.heap.size (.slice (some ⟨G, 0, none⟩) (row.set i (partS t z j)).length l.length) (row.set i (partS t z j))) := (Fr.of_below (B := 0) HBY.out []).owns hox.out (by simp)
            clear hsy hay b0 b1 b0a b1a m0 m1 m2 m3 m4 m5 n0 n1 n2 n3 n4 n5 hSl hAl HPA HIP
            go_wp2_with fail
            refine (HBE.out _).mono ?_
            rintro e w3 ⟨rfl, hb3⟩
            have HB3 := Lib.hid hb3
            clear hb3 y0 y1
            cases ff with
            | true =>
              have HNO : Hid (PlOk t l (.returned (.tuple #[.slice none 0 0, .int .i64 2])) w3) := by
                show PlOk _ _ _ _
                unfold PlOk
                rw [if_neg (fun h => by
                  have h1 := bad_at (t := t) (s := z) (j := j) (by rw [HUE.out]; exact hlj) (by rw [HQ.out]; exact HFF.out)
                  rw [h z HSM.out] at h1; cases h1)]
              go_wp2_with fail
              go_ret2
              exact ⟨HNO.out, HBWY.out.trans (HB3.out.mono HBWY.out.size)⟩
            | false =>
              have HY3 := Lib.hid (HYX.out.keep HB3.out)
              have HO3 : Hid (SOwn w3 w.heap.size (.slice (some ⟨G, 0, none⟩) (row.set i (partS t z j)).length l.length) (row.set i (partS t z j))) := (Fr.of_below (B := 0) HB3.out []).owns HOY.out (by simp)
              have HS3 := Lib.hid (HSY.out.keep HB3.out)
              have HA3 := Lib.hid (HAY.out.keep HB3.out)
              have HB9 := Lib.hid (HBWY.out.trans (HB3.out.mono HBWY.out.size))
              clear HOY HSY HAY HBWY hox hsx hax hbx HBY HB3 HYX
              obtain ⟨K0, hK0⟩ : ∃ K0, K0 = w3.heap.size := ⟨_, rfl⟩
              have HBU : Hid (∀ u : BW K0 w3, Below w3.heap.size w3 u.w) := fun u => u.b.mono (by omega)
              have c1 : ∀ u : BW K0 w3, u.w.cell? ⟨D, 0, none⟩ = some (.int .i64 X) := fun u => (HY3.out.keep (HBU.out u)).cell 0
              have c2 : ∀ u : BW K0 w3, u.w.cell? ⟨D, 1, none⟩ = some (.int .i64 Y) := fun u => (HY3.out.keep (HBU.out u)).cell 1
              clear hK0
              go_upto_region 18 with fail
              refine wp_region_bw_tail K0 w3 7 (Below.refl _ _) (by kernel_rfl) (by kernel_rfl) ?_
              simp only [List.take_succ_cons, List.take_zero, List.drop_succ_cons, List.drop_zero]
              repeat (go_big_quiet_step (fail))
              refine wpQuiet_nil ?_
              rintro _ ⟨v9, rfl⟩
              have HB5 := Lib.hid (HBU.out v9)
              generalize v9.w = w5 at *
              clear c1 c2 HBU
              have HO5 : Hid (SOwn w5 w.heap.size (.slice (some ⟨G, 0, none⟩) (row.set i (partS t z j)).length l.length) (row.set i (partS t z j))) := (Fr.of_below (B := 0) HB5.out []).owns HO3.out (by simp)
              have HS5 := Lib.hid (HS3.out.keep HB5.out)
              have HA5 := Lib.hid (HA3.out.keep HB5.out)
              have HB6 := Lib.hid (HB9.out.trans (HB5.out.mono HB9.out.size))
              have hrs : (row.set i (partS t z j)).length = l.length := by rw [List.length_set]; exact hrl
              have ho5 := HO5.out
              unfold SOwn at ho5
              rw [hrs] at ho5
              have hpl : (scells (row.set i (partS t z j))).length = l.length * 7 := by rw [scells_length, hrs]
              obtain ⟨v0, t0⟩ : ∃ v0, w5.cell? ⟨G, i * 7 + 1 + j * 2, none⟩ = some v0 := by
                rw [World.ownsRow.cellAt ho5 _ (by omega)]
                exact ⟨_, List.getElem?_eq_getElem (by omega)⟩
              obtain ⟨v1, t1⟩ : ∃ v1, w5.cell? ⟨G, i * 7 + 1 + j * 2 + 1, none⟩ = some v1 := by
                rw [World.ownsRow.cellAt ho5 _ (by omega)]
                exact ⟨_, List.getElem?_eq_getElem (by omega)⟩
              have g0 := World.ownsRow.frozenAt ho5 (i * 7 + 1 + j * 2)
              have g1 := World.ownsRow.frozenAt ho5 (i * 7 + 1 + j * 2 + 1)
              have HP := Lib.hid (part_put t z j hj3 X Y HQ.out)
              have HON : Hid (SOwn ((w5.setCell ⟨G, i * 7 + 1 + j * 2, none⟩ (.int .i64 X)).setCell ⟨G, i * 7 + 1 + j * 2 + 1, none⟩ (.int .i64 Y)) w.heap.size (.slice (some ⟨G, 0, none⟩) (row.set i (partS t z (j + 1))).length l.length) (row.set i (partS t z (j + 1)))) := by
                have e1 : (row.set i (partS t z j))[i]'(by rw [hrs]; exact hlt) = partS t z j := List.getElem_set_self _
                have h1 := HO5.out.put i (1 + j * 2) (by rw [hrs]; exact hlt) (by omega) (.int .i64 X) (putN (partS t z j) (2 * j) X) (by rw [e1, putN_cell _ _ _ (by omega)]; congr 1; omega)
                rw [List.set_set, show i * 7 + (1 + j * 2) = i * 7 + 1 + j * 2 by omega] at h1
                have e2 : (row.set i (putN (partS t z j) (2 * j) X))[i]'(by rw [List.length_set, hrl]; exact hlt) = putN (partS t z j) (2 * j) X := List.getElem_set_self _
                have h2 := h1.put i (1 + j * 2 + 1) (by rw [List.length_set, hrl]; exact hlt) (by omega) (.int .i64 Y) (putN (putN (partS t z j) (2 * j) X) (2 * j + 1) Y) (by rw [e2, putN_cell _ _ _ (by omega)]; congr 1; omega)
                rw [List.set_set, show i * 7 + (1 + j * 2 + 1) = i * 7 + 1 + j * 2 + 1 by omega, HP.out] at h2
                exact h2
              have hGlt := (World.ownsRow.lt ho5 G rfl)
              have hGB : Hid (w.heap.size ≤ G) := HGG
              obtain ⟨cur, hcur⟩ : ∃ cur, Blk w5 G 35 cur := by
                rcases ho5.2 with ⟨e, -⟩ | ⟨g, cap, cur, e, _, hg, _⟩
                · cases e
                · injection e with e1
                  injection e1 with e1
                  injection e1 with e1
                  subst e1
                  exact ⟨cur, hg⟩
              have HSN : Hid (Blk ((w5.setCell ⟨G, i * 7 + 1 + j * 2, none⟩ (.int .i64 X)).setCell ⟨G, i * 7 + 1 + j * 2 + 1, none⟩ (.int .i64 Y)) S 35 (sgC z)) := (HS5.out.other (p := ⟨G, _, none⟩) (by show S ≠ G; have := HGW.out; omega) _).other (p := ⟨G, _, none⟩) (by show S ≠ G; have := HGW.out; omega) _
              have HAN : Hid (Blk ((w5.setCell ⟨G, i * 7 + 1 + j * 2, none⟩ (.int .i64 X)).setCell ⟨G, i * 7 + 1 + j * 2 + 1, none⟩ (.int .i64 Y)) w.heap.size 45 #[.int .i64 t.a, .int .i64 t.b, .int .i64 t.c, .int .i64 t.d, .int .i64 t.e, .int .i64 t.f]) := (HA5.out.other (p := ⟨G, _, none⟩) HAGN.out _).other (p := ⟨G, _, none⟩) HAGN.out _
              have HBN : Hid (Below w.heap.size w ((w5.setCell ⟨G, i * 7 + 1 + j * 2, none⟩ (.int .i64 X)).setCell ⟨G, i * 7 + 1 + j * 2 + 1, none⟩ (.int .i64 Y))) := (HB6.out.setCell HGG.out _).setCell HGG.out _
              have HGD : Hid (∀ j', j' < j + 1 → farP (imgP t (z.pt j')) = false) := by
                intro j' h
                by_cases he : j' = j
                · subst he; rw [HQ.out]; exact HFF.out
                · exact hgd.out j' (by omega)
              clear ho5 hpl hcur hGlt HO5 HS5 HA5 HB6 hgd
              go_wp2_with fail
              go_roundw
              case rel => exact ⟨j + 1, by go_num, by omega, HGD, HON, HSN, HAN, HBN⟩
              case measure => simp [intOf]; omega
        · have hdj : decide ((j : Int) < (u : Int)) = false := by simp; omega
          have hju : j = u := by omega
          have HNX : Hid (SOwn wr w.heap.size (.slice (some ⟨G, 0, none⟩) (rowS t l (i + 1)).length l.length) (rowS t l (i + 1))) := by
            have h := hox.out
            rw [hju, ← HUE.out, part_all, HRN.out] at h
            exact h
          have HGN : Hid (∀ j (h : j < l.length), j < i + 1 → plBad t l[j] = false) := by
            intro j' h hj'
            by_cases he : j' = i
            · subst he
              rw [HS.out]
              exact good_all fun m hm => hgd.out m (by rw [HUE.out] at hm; omega)
            · exact hbd.out j' h (by omega)
          clear hox hgd
          go_wp2_with fail
          go_roundw
          case rel => exact ⟨i + 1, by go_num, by omega, HGN, HNX, hax, hbx⟩
          case measure => simp [intOf]; omega
    · have hd : decide ((i : Int) < (l.length : Int)) = false := by simp; omega
      have hin : i = l.length := by omega
      have HFI : Hid (PlOk t l (.returned (.tuple #[.slice (some ⟨G, 0, none⟩) l.length l.length, .int .i64 0])) wr) := by
        show PlOk _ _ _ _
        unfold PlOk
        rw [if_pos (fun s hs => by
          obtain ⟨j, hj, rfl⟩ := List.getElem_of_mem hs
          exact hbd.out j hj (by omega))]
        have h := how.out.row
        rw [hin, rowS_all] at h
        rw [List.length_map] at h
        exact ⟨_, rfl, h⟩
      clear how hka hbd
      go_wp2_with fail
      go_ret2
      exact ⟨HFI.out, hbw.out⟩
end Go.Proofs.YtgjbelcnkmcbiaaDoor
