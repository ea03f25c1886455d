/-
  Rows of ints and of tags that are read; the program of tiff: find, first.
-/
import Derived.Test.YtakileiomgaahaaTi9
namespace Go.Proofs.Ytakileiomgaahaa
open Go.RowKit

/-- The slice value v reads as the ints l. -/
def IRow (w : World) (v : Value) (l : List Nat) : Prop :=
  ∃ x c, v = .slice x l.length c ∧ l.length ≤ c ∧ c ≤ maxLen ∧ (l ≠ [] → ∃ b off, x = some ⟨b, off, none⟩ ∧ ∀ i (h : i < l.length), w.cell? ⟨b, off + i, none⟩ = some (.int .i64 (l[i] : Int)))
theorem IRow.nil (w : World) : IRow w (.slice none 0 0) [] := ⟨none, 0, rfl, Nat.le_refl _, Nat.zero_le _, fun h => absurd rfl h⟩
theorem IRow.one {w : World} {v : Value} {l : List Nat} (h : IRow w v l) : v.oneCell' = true := by obtain ⟨x, c, rfl, -⟩ := h; rfl
theorem IRow.shape {w : World} {v : Value} {l : List Nat} (h : IRow w v l) : ∃ x c, v = .slice x l.length c := by obtain ⟨x, c, rfl, -⟩ := h; exact ⟨x, c, rfl⟩
theorem IRow.below {w w' : World} {v : Value} {l : List Nat} (h : IRow w v l) (hb : Below w.heap.size w w') : IRow w' v l := by
  obtain ⟨x, c, rfl, h1, h2, h3⟩ := h
  refine ⟨x, c, rfl, h1, h2, fun hne => ?_⟩
  obtain ⟨b, off, rfl, hc⟩ := h3 hne
  refine ⟨b, off, rfl, fun i hi => ?_⟩
  have := hc i hi
  exact (hb.cell (p := ⟨b, _, none⟩) (World.block_lt_of_cell? w _ this)).trans this
theorem ORow.irow {w : World} {B : Nat} {v : Value} {l : List Nat} (h : ORow w B v l) : IRow w v l := by
  obtain ⟨x, c, rfl⟩ := h.shape
  obtain ⟨_, h2, h3, h4, h5⟩ := h.get
  refine ⟨x, c, rfl, h2, h3, fun hne => ?_⟩
  have hp : 0 < l.length := List.length_pos_iff.2 hne
  obtain ⟨g, rfl⟩ := h4 0 hp
  exact ⟨g, 0, rfl, fun i hi => by rw [Nat.zero_add]; exact h5 g rfl i hi⟩
/-- Tag i of the row at an address. -/
def TCell (w : World) (b off i : Nat) (t : Tg) : Prop := w.cell? ⟨b, off + i * 4, none⟩ = some (.int .i64 (t.id : Int)) ∧ w.cell? ⟨b, off + i * 4 + 1, none⟩ = some (.int .i64 (t.ty : Int)) ∧ w.cell? ⟨b, off + i * 4 + 3, none⟩ = some (.string ⟨t.text.toArray⟩) ∧ ∃ v, w.cell? ⟨b, off + i * 4 + 2, none⟩ = some v ∧ IRow w v t.vals
/-- The slice value v reads as the tags l. -/
def TRow (w : World) (v : Value) (l : List Tg) : Prop :=
  ∃ x c, v = .slice x l.length c ∧ l.length ≤ c ∧ c ≤ maxLen ∧ (l ≠ [] → ∃ b off, x = some ⟨b, off, none⟩ ∧ ∀ i (h : i < l.length), TCell w b off i l[i])
theorem TRow.nil (w : World) : TRow w (.slice none 0 0) [] := ⟨none, 0, rfl, Nat.le_refl _, Nat.zero_le _, fun h => absurd rfl h⟩
theorem TRow.one {w : World} {v : Value} {l : List Tg} (h : TRow w v l) : v.oneCell' = true := by obtain ⟨x, c, rfl, -⟩ := h; rfl
theorem TRow.below {w w' : World} {v : Value} {l : List Tg} (h : TRow w v l) (hb : Below w.heap.size w w') : TRow w' v l := by
  obtain ⟨x, c, rfl, h1, h2, h3⟩ := h
  refine ⟨x, c, rfl, h1, h2, fun hne => ?_⟩
  obtain ⟨b, off, rfl, hc⟩ := h3 hne
  refine ⟨b, off, rfl, fun i hi => ?_⟩
  obtain ⟨c1, c2, c3, v, c4, c5⟩ := hc i hi
  have hlt : b < w.heap.size := World.block_lt_of_cell? w _ c1
  exact ⟨(hb.cell (p := ⟨b, _, none⟩) hlt).trans c1, (hb.cell (p := ⟨b, _, none⟩) hlt).trans c2, (hb.cell (p := ⟨b, _, none⟩) hlt).trans c3, v, (hb.cell (p := ⟨b, _, none⟩) hlt).trans c4, c5.below hb⟩
theorem TOwn.trow {w : World} {B : Nat} {v : Value} {l : List Tg} (h : TOwn w B v l) : TRow w v l := by
  obtain ⟨L, rfl, h2, h3⟩ := h
  rw [TRow]
  simp only [List.length_map]
  rcases h2.2 with ⟨rfl, h0⟩ | ⟨g, cap, cur, rfl, hg, hh, hc, hm, _⟩
  · refine ⟨none, 0, by rw [h0], by omega, Nat.zero_le _, fun hne => ?_⟩
    have := List.eq_nil_of_length_eq_zero h0
    subst this
    exact absurd rfl hne
  · refine ⟨_, cap, rfl, hc, hm, fun _ => ⟨g, 0, rfl, fun i hi => ?_⟩⟩
    have hi' : i < L.length := hi
    have key : ∀ j, j < 4 → w.cell? ⟨g, i * 4 + j, none⟩ = (tcA L[i].1 L[i].2)[j]? := fun j hj => by
      have h4 := tcells_get L i hi' j hj
      have h5 : (tcA L[i].1 L[i].2)[j]? = some ((tcA L[i].1 L[i].2)[j]'hj) := Array.getElem?_eq_getElem hj
      have := World.ownsRow.cells h2 (g := g) rfl (i * 4 + j) _ (h4.trans h5)
      rw [Addr.add_lit] at this
      rw [h5]
      simpa using this
    have k0 := key 0 (by decide)
    have k1 := key 1 (by decide)
    have k2 := key 2 (by decide)
    have k3 := key 3 (by decide)
    unfold TCell
    simp only [Nat.zero_add, Nat.add_zero, List.getElem_map] at *
    exact ⟨k0, k1, k3, _, k2, (h3 _ (List.getElem_mem hi')).irow⟩

/-- The tag with a number, its values, the first of them. -/
def findT (l : List Tg) (id : Int) : Option Tg := l.find? fun t => (t.id : Int) == id
def valsT (l : List Tg) (id : Int) : List Nat := ((findT l id).getD tag0).vals
def firstT (l : List Tg) (id other : Int) : Int := match valsT l id with | [] => other | v :: _ => (v : Int)

set_option maxHeartbeats 2000000 in
set_option maxRecDepth 100000 in
theorem tfind_any (v : Value) (l : List Tg) (id : Int) (w : World) (hr : TRow w v l) : Calls Try.prog 40 #[v, .int .i64 id] w fun e w' => ∃ u, e = .returned (.tuple #[.agg (tcA ((findT l id).getD tag0) u), .bool (findT l id).isSome]) ∧ IRow w' u ((findT l id).getD tag0).vals ∧ Below w.heap.size w w' := by
  obtain ⟨x, c, rfl, hlc, hcm, -⟩ := _root_.id hr
  unfold maxLen at hcm
  have HR := Lib.hid hr
  have hlen : l.length ≤ 9223372036854775807 := by omega
  clear hr
  have hb0 := Blk.new w 70 (tcA tag0 (.slice none 0 0))
  have hbe0 := (Below.refl w.heap.size w).alloc (Nat.le_refl _) (.cells (tcA tag0 (.slice none 0 0)) 70)
  go_enter Try.func40, Try.ntmps40
  go_upto_region 1 with fail
  change Blk (w.alloc (.cells #[.int .i64 0, .int .i64 0, .slice none 0 0, .string ⟨#[]⟩] 70)) w.heap.size 70 (tcA tag0 (.slice none 0 0)) at hb0
  change Below w.heap.size w (w.alloc (.cells #[.int .i64 0, .int .i64 0, .slice none 0 0, .string ⟨#[]⟩] 70)) at hbe0
  generalize w.alloc (.cells #[.int .i64 0, .int .i64 0, .slice none 0 0, .string ⟨#[]⟩] 70) = wz at *
  generalize hB : w.heap.size = B at *
  have HB := Lib.hid hB
  have HB0 := Lib.hid hb0
  have HBE := Lib.hid hbe0
  clear hB hb0 hbe0
  go_wp2_with fail
  go_loopw [10] (fun vi wr => ∃ i : Nat, vi = .int .i64 i ∧ i ≤ l.length ∧ Hid (findT l id = findT (l.drop i) id) ∧ Hid (Below wz.heap.size wz wr)) (fun vi _ => l.length - (intOf vi).toNat)
  case atStart => exact ⟨0, rfl, Nat.zero_le _, rfl, Below.refl _ _⟩
  case round =>
    obtain ⟨i, rfl, hi, hf, hbw⟩ := hrel
    have HBR : Hid (Blk wr B 70 (tcA tag0 (.slice none 0 0))) := (hbw.out.block _ HB0.out.lt).trans HB0.out
    have HBW : Hid (Below B w wr) := HBE.out.trans (hbw.out.mono (Nat.le_of_lt HB0.out.lt))
    by_cases hlt : i < l.length
    · have dlt : decide ((i : Int) < (l.length : Int)) = true := by simp; omega
      have hne : l ≠ [] := by rintro rfl; simp at hlt
      obtain ⟨x', c', hv, -, -, hcell⟩ := HR.out
      cases hv
      obtain ⟨b, off, rfl, hc⟩ := hcell hne
      obtain ⟨c0, c1, c3, u, c2, hu⟩ := hc i hlt
      have hbB : b < B := by rw [← HB.out]; exact World.block_lt_of_cell? w _ c0
      replace c0 := (HBW.out.cell (p := ⟨b, _, none⟩) hbB).trans c0
      replace c1 := (HBW.out.cell (p := ⟨b, _, none⟩) hbB).trans c1
      replace c2 := (HBW.out.cell (p := ⟨b, _, none⟩) hbB).trans c2
      replace c3 := (HBW.out.cell (p := ⟨b, _, none⟩) hbB).trans c3
      clear hcell hc hne
      obtain ⟨t, ht⟩ : ∃ t, l[i] = t := ⟨_, rfl⟩
      rw [ht] at c0 c1 c3 hu
      have HFI : Hid (findT (l.drop i) id = if (t.id : Int) = id then some t else findT (l.drop (i + 1)) id) := by
        show _ = _
        rw [List.drop_eq_getElem_cons hlt, ht]
        unfold findT
        rw [List.find?_cons]
        by_cases h : (t.id : Int) = id
        · rw [if_pos h, h]; simp
        · rw [if_neg h, beq_false_of_ne h]
      obtain ⟨ux, uc, rfl⟩ := hu.shape
      have HU := Lib.hid hu
      have i1 : (i : Int) < (l.length : Int) := by omega
      obtain ⟨ti, ty, tv, tx⟩ := t
      obtain ⟨tl, htl⟩ : ∃ n, tv.length = n := ⟨_, rfl⟩
      simp only at c0 c1 c2 c3 HU
      rw [htl] at c2 HU
      clear ht hu htl
      have hk := Blk.new wr 70 (tcA ⟨ti, ty, tv, tx⟩ (.slice ux tl uc))
      have hkb := (Below.refl wr.heap.size wr).alloc (Nat.le_refl _) (.cells (tcA ⟨ti, ty, tv, tx⟩ (.slice ux tl uc)) 70)
      go_upto_region 4 with fail
      change Blk (wr.alloc (.cells #[.int .i64 (ti : Int), .int .i64 (ty : Int), .slice ux tl uc, .string ⟨tx.toArray⟩] 70)) wr.heap.size 70 (tcA ⟨ti, ty, tv, tx⟩ (.slice ux tl uc)) at hk
      change Below wr.heap.size wr (wr.alloc (.cells #[.int .i64 (ti : Int), .int .i64 (ty : Int), .slice ux tl uc, .string ⟨tx.toArray⟩] 70)) at hkb
      have HBR2 : Hid (Blk (wr.alloc (.cells #[.int .i64 (ti : Int), .int .i64 (ty : Int), .slice ux tl uc, .string ⟨tx.toArray⟩] 70)) B 70 (tcA tag0 (.slice none 0 0))) := HBR.out.alloc _
      have HBW2 : Hid (Below B w (wr.alloc (.cells #[.int .i64 (ti : Int), .int .i64 (ty : Int), .slice ux tl uc, .string ⟨tx.toArray⟩] 70))) := HBW.out.alloc (Nat.le_of_lt HBR.out.lt) _
      have HBW3 : Hid (Below wz.heap.size wz (wr.alloc (.cells #[.int .i64 (ti : Int), .int .i64 (ty : Int), .slice ux tl uc, .string ⟨tx.toArray⟩] 70))) := hbw.out.alloc hbw.out.size _
      have hlt2 : B < wr.heap.size := HBR.out.lt
      generalize wr.alloc (.cells #[.int .i64 (ti : Int), .int .i64 (ty : Int), .slice ux tl uc, .string ⟨tx.toArray⟩] 70) = wk at *
      have q0 : wk.cell? ⟨wr.heap.size, 0, none⟩ = some (.int .i64 (ti : Int)) := hk.cell 0
      have q1 : wk.cell? ⟨wr.heap.size, 1, none⟩ = some (.int .i64 (ty : Int)) := hk.cell 1
      have q2 : wk.cell? ⟨wr.heap.size, 2, none⟩ = some (.slice ux tl uc) := hk.cell 2
      have q3 : wk.cell? ⟨wr.heap.size, 3, none⟩ = some (.string ⟨tx.toArray⟩) := hk.cell 3
      have HKK := Lib.hid hk
      clear hk hkb c0 c1 c2 c3 HBR HBW hbw
      generalize wr.heap.size = K at *
      by_cases hid : (ti : Int) = id
      · have e1 : ((ti : Int) == id) = true := by simpa using hid
        have HF : Hid (findT l id = some ⟨ti, ty, tv, tx⟩) := by show _ = _; rw [hf.out, HFI.out, if_pos hid]
        obtain ⟨T, hT⟩ : ∃ T, tcA ⟨ti, ty, tv, tx⟩ (.slice ux tl uc) = T := ⟨_, rfl⟩
        rw [hT] at HKK
        have HTI : Hid ((Try.prog.info? 70).map (·.size) = some T.size) := by show _ = _; rw [← hT]; exact tcA_inf _ _
        have HT1 : Hid (T.all (·.oneCell') = true) := by show _ = _; rw [← hT]; exact tcA_one _ _ rfl
        have HTS : Hid ((tcA tag0 (.slice none 0 0)).size = T.size) := by show _ = _; rw [← hT]; rfl
        have HT := Lib.hid hT
        clear hid hT q1 q2 q3
        go_wp2_with (first | refine wpList_load_row rfl 70 (.tmp 7) rfl K (by rfl) 70 T (0, 0) _ (by exact HKK.out) Try.underlying70 rfl (by exact HTI.out) ?_ | refine wpList_store_rowTo rfl 70 (.tmp 4) (.tmp 18) rfl rfl B T (by rfl) (by rfl) 70 _ (by exact HBR2.out) (by exact HTI.out) (by exact HTS.out) (by exact HT1.out) ?_)
        refine bodyPost_ret (v := .tuple #[.agg T, .bool true]) (results_ct rfl _ _ B 70 T (0, 0) _ _ rfl rfl (HBR2.out.rset T) Try.underlying70 rfl HTI.out) rfl ?_
        rw [HF.out, HB.out]
        have hbe := below_rset HBW2.out (Nat.le_refl B) T
        exact ⟨.slice ux tl uc, by rw [← HT.out]; rfl, HU.out.below (by rw [HB.out]; exact hbe), hbe⟩
      · have e1 : ((ti : Int) == id) = false := by simpa using hid
        have HF : Hid (findT l id = findT (l.drop (i + 1)) id) := by show _ = _; rw [hf.out, HFI.out, if_neg hid]
        go_wp2_with fail
        go_roundw
        case rel => exact ⟨i + 1, by go_num, by omega, HF.out, HBW3.out⟩
        case measure => simp [intOf]; omega
    · have dlt : decide ((i : Int) < (l.length : Int)) = false := by simp; omega
      have HF : Hid (findT l id = none) := by show _ = _; rw [hf.out, List.drop_of_length_le (by omega)]; rfl
      go_wp2_with (refine wpList_rset_same rfl 70 (.tmp 4) (.tmp 20) rfl rfl B (tcA tag0 (.slice none 0 0)) (by rfl) (by rfl) 70 (by exact HBR.out) (tcA_inf _ _) (tcA_one _ _ rfl) ?_)
      refine bodyPost_ret (v := .tuple #[.agg (tcA tag0 (.slice none 0 0)), .bool false]) (results_ct rfl _ _ B 70 (tcA tag0 (.slice none 0 0)) (0, 0) _ _ rfl rfl HBR.out Try.underlying70 rfl (tcA_inf _ _)) rfl ?_
      rw [HF.out, HB.out]
      exact ⟨.slice none 0 0, rfl, IRow.nil _, HBW.out⟩
end Go.Proofs.Ytakileiomgaahaa
