/-
  How arguments [][]api.Point, api.Affine are read (of a narrowed row).
-/
import Derived.Test.YtgjbelcnkmcbiaaDoorRb4
import Derived.Test.YtgjbelcnkmcbiaaDoorQx
namespace Go.Proofs.YtgjbelcnkmcbiaaDoor
open Go.RowKit Go.ChangeShapes Go.WideShapes
set_option maxRecDepth 100000

section
variable {H : Type} {enc : TypeId × Value → H} {W : World} {n : Nat}
theorem bulk_pos (d : DataW H) : 1 ≤ Rows.uptoBulk d := by
  cases d with
  | lit l => cases l <;> simp [Rows.uptoBulk]
  | _ => simp [Rows.uptoBulk]
theorem bulkAll_len (l : List (DataW H)) : l.length ≤ Rows.uptoBulkAll l := by
  induction l with
  | nil => simp
  | cons d r ih =>
    have := bulk_pos d
    simp only [Rows.uptoBulkAll, List.length_cons]
    omega
theorem bulkAll_sum (D : Nat → DataW H) (L : Nat → Nat) : ∀ k, (∀ i, i < k → L i + 1 ≤ Rows.uptoBulk (D i)) → ((List.range k).map L).sum + k ≤ Rows.uptoBulkAll ((List.range k).map D) := by
  have happ : ∀ (a b : List (DataW H)), Rows.uptoBulkAll (a ++ b) = Rows.uptoBulkAll a + Rows.uptoBulkAll b := by
    intro a b
    induction a with
    | nil => simp [Rows.uptoBulkAll]
    | cons d r ih => simp only [List.cons_append, Rows.uptoBulkAll, ih]; omega
  intro k
  induction k with
  | zero => intro _; simp [Rows.uptoBulkAll]
  | succ k ih =>
    intro h
    have h1 := ih (fun i hi => h i (by omega))
    have h2 := h k (by omega)
    rw [List.range_succ, List.map_append, List.map_append, happ, List.sum_append]
    simp only [List.map_cons, List.map_nil, Rows.uptoBulkAll, List.sum_cons, List.sum_nil]
    omega
theorem open_pts {u : Value} {d : DataW H} {p : List MemPlace} (h : DataW.trod enc Tryd.prog W 0 (fun _ => true) true n 37 [u] = some (d, p)) : ∃ q, QRow W u q ∧ q.length + 1 ≤ Rows.uptoBulk d := by
  rcases Deep.open_slice Tryd.underlying37 h with ⟨hcs, hx⟩ | ⟨a, len, cap, m, n', D, Pl, hcs, _, hl, hm, hmm, hxe, hx⟩
  · simp at hcs
    subst hcs
    injection hx with hx _
    subst hx
    exact ⟨[], qrow_nil W, by simp [Rows.uptoBulk]⟩
  · simp at hcs
    subst hcs
    simp only [if_true] at hmm
    subst hmm
    injection hxe with hxe _
    subst hxe
    have ce : Tryd.prog.cellsOf 32 = 2 := by kernel_rfl
    have key : ∀ i, i < len → ∃ s : Pt, ∀ j (hj : j < 2), W.cell? (a.add (i * 2 + j)) = ([.int .i64 s.1, .int .i64 s.2] : List Value)[j]? := by
      intro i hi
      obtain ⟨cs', h1, h2⟩ := hx i (by omega)
      rw [ce] at h1
      obtain ⟨_, hlen, hcell⟩ := World.cells?_some h1
      obtain ⟨x, y, rfl⟩ := trod_point h2
      refine ⟨(x, y), fun j hj => ?_⟩
      have := hcell j hj
      rwa [Deep.add_add] at this
    obtain ⟨q, hq⟩ := Deep.choose_lt key
    refine ⟨(List.range len).map q, ⟨some a, _, by simp, by simpa using hl, hm, (fun h => by cases h), fun hne => ?_⟩, ?_⟩
    · have hlen : 0 < len := by
        rcases Nat.eq_zero_or_pos len with h0 | h0
        · subst h0; simp at hne
        · exact h0
      obtain ⟨b, off, spot⟩ := a
      have hspot : spot = none := by
        have c0 := hq 0 hlen 0 (by decide)
        simpa [Addr.add] using World.cell?_spot c0
      subst hspot
      refine ⟨b, off, rfl, fun i hi => ?_⟩
      have hi' : i < len := by simpa using hi
      have hq := hq i hi'
      simp only [Addr.add_lit, ← Nat.add_assoc] at hq
      simp only [List.getElem_map, List.getElem_range]
      have k0 := hq 0 (by decide)
      have k1 := hq 1 (by decide)
      exact ⟨k0, k1⟩
    · have h1 := bulkAll_len ((List.range len).map D)
      simp only [List.length_map, List.length_range] at h1
      simp only [Rows.uptoBulk, List.length_map, List.length_range]
      omega
theorem open_polys_u {base : Nat} {v : Value} {d : DataW H} {p : List MemPlace} (hv : Value.okWide Tryd.prog W .any base 23 v)
    (h : DataW.Trod enc Tryd.prog W 0 (fun _ => true) true 23 v d p) (hb : Rows.uptoBulk d ≤ 1048576) : ∃ ps, GRow W v ps ∧ totP ps ≤ 1048576 ∧ ps.length ≤ 1048576 := by
  obtain ⟨a0, len, cap, rfl⟩ := okWide_slice Tryd.underlying23 hv
  obtain ⟨fuel, hf⟩ := h
  rcases Deep.open_slice Tryd.underlying23 hf with ⟨hcs, _⟩ | ⟨a, len', cap', m, n, D, Pl, hcs, _, hl, hm, hmm, hxe, hx⟩
  · simp [Value.cells] at hcs
    obtain ⟨rfl, rfl, rfl⟩ := hcs
    exact ⟨[], grow_nil W, by simp [totP], by simp⟩
  · simp [Value.cells] at hcs
    obtain ⟨rfl, rfl, rfl⟩ := hcs
    simp only [if_true] at hmm
    subst hmm
    injection hxe with hxe _
    subst hxe
    have ce : Tryd.prog.cellsOf 37 = 1 := by kernel_rfl
    have key : ∀ i, i < len → ∃ s : Value × List Pt, W.cell? (a.add i) = some s.1 ∧ QRow W s.1 s.2 ∧ s.2.length + 1 ≤ Rows.uptoBulk (D i) := by
      intro i hi
      obtain ⟨cs', h1, h2⟩ := hx i (by omega)
      rw [ce] at h1
      obtain ⟨_, hlen, hcell⟩ := World.cells?_some h1
      match cs', hlen with
      | [u], _ =>
        obtain ⟨q, hq1, hq2⟩ := open_pts h2
        have := hcell 0 (by decide)
        rw [Deep.add_add] at this
        exact ⟨(u, q), by simpa using this, hq1, hq2⟩
    obtain ⟨q, hq⟩ := Deep.choose_lt key
    have hs := bulkAll_sum D (fun i => (q i).2.length) len (fun i hi => (hq i hi).2.2)
    simp only [Rows.uptoBulk] at hb
    refine ⟨(List.range len).map fun i => (q i).2, ⟨some a, _, by simp, by simpa using hl, hm, (fun h => by cases h), fun hne => ?_⟩, ?_, ?_⟩
    · have hlen : 0 < len := by
        rcases Nat.eq_zero_or_pos len with h0 | h0
        · subst h0; simp at hne
        · exact h0
      obtain ⟨b, off, spot⟩ := a
      have hspot : spot = none := by
        have c0 := (hq 0 hlen).1
        simpa [Addr.add] using World.cell?_spot c0
      subst hspot
      refine ⟨b, off, rfl, fun i hi => ?_⟩
      have hi' : i < len := by simpa using hi
      obtain ⟨c1, c2, -⟩ := hq i hi'
      simp only [List.getElem_map, List.getElem_range]
      exact ⟨_, by rw [Addr.add_lit] at c1; exact c1, c2⟩
    · unfold totP
      rw [List.map_map]
      show ((List.range len).map fun i => (q i).2.length).sum ≤ _
      omega
    · simp only [List.length_map, List.length_range]
      omega
theorem open_affine {base : Nat} {v : Value} {d : DataW H} {p : List MemPlace} (hv : Value.okWide Tryd.prog W .any base 45 v)
    (h : DataW.Trod enc Tryd.prog W 0 (fun _ => true) true 45 v d p) : ∃ t, v = .agg (afC t) := by
  obtain ⟨cs, rfl, hs⟩ := okWide_struct Tryd.underlying45 hv
  obtain ⟨fuel, hf⟩ := h
  have c6 : Tryd.prog.cellsOf 45 = 6 := by kernel_rfl
  have ci : Tryd.prog.cellsOf 3 = 1 := by kernel_rfl
  rw [c6] at hs
  obtain ⟨xs, k, _, _, _, hxl, hx⟩ := DataW.trod_struct Tryd.underlying45 hf
  have hx6 : xs.length = 6 := hxl
  obtain ⟨l⟩ := cs
  match l, hs with
  | [v0, v1, v2, v3, v4, v5], _ =>
    have g : ∀ (j : Nat) (hj : j < 6), ∃ a : Int, (([v0, v1, v2, v3, v4, v5].drop j).take 1) = [.int .i64 a] := by
      intro j hj
      have e : DataW.trod enc Tryd.prog W 0 (fun _ => true) true k 3 (([v0, v1, v2, v3, v4, v5].drop j).take (Tryd.prog.cellsOf 3)) = xs[j]? := by
        match j, hj with
        | 0, _ => exact hx 0 _ rfl
        | 1, _ => exact hx 1 _ rfl
        | 2, _ => exact hx 2 _ rfl
        | 3, _ => exact hx 3 _ rfl
        | 4, _ => exact hx 4 _ rfl
        | 5, _ => exact hx 5 _ rfl
      rw [ci] at e
      obtain ⟨a, ea, _⟩ := DataW.trod_int (x := xs[j]'(by omega)) Tryd.underlying3 (by rw [← List.getElem?_eq_getElem]; exact e)
      exact ⟨a, ea⟩
    obtain ⟨a0, e0⟩ := g 0 (by decide)
    obtain ⟨a1, e1⟩ := g 1 (by decide)
    obtain ⟨a2, e2⟩ := g 2 (by decide)
    obtain ⟨a3, e3⟩ := g 3 (by decide)
    obtain ⟨a4, e4⟩ := g 4 (by decide)
    obtain ⟨a5, e5⟩ := g 5 (by decide)
    simp at e0 e1 e2 e3 e4 e5
    exact ⟨⟨a0, a1, a2, a3, a4, a5⟩, by rw [e0, e1, e2, e3, e4, e5]; rfl⟩
end
end Go.Proofs.YtgjbelcnkmcbiaaDoor
