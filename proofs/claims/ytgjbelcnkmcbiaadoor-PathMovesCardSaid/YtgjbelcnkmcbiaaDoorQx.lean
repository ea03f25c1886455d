/-
  How arguments []api.Seg and [][]api.Point are read.
-/
import Derived.Test.YtgjbelcnkmcbiaaDoorQd
import Derived.Deep.SlicePairs
import Derived.ChangeArms
import Derived.OpenShut
namespace Go.Proofs.YtgjbelcnkmcbiaaDoor
open Go.RowKit Go.ChangeShapes Go.WideShapes
set_option maxRecDepth 100000

section
variable {H : Type} {enc : TypeId × Value → H} {W : World} {n : Nat}
/-- The numbers of a point. -/
theorem trod_point {cs : List Value} {x : DataW H × List MemPlace} (h : DataW.trod enc Tryd.prog W 0 (fun _ => true) true n 32 cs = some x) : ∃ a b : Int, cs = [.int .i64 a, .int .i64 b] := by
  obtain ⟨xs, k, _, _, hlen, hxl, hf⟩ := DataW.trod_struct Tryd.underlying32 h
  have ce : Tryd.prog.cellsOf 32 = 2 := by kernel_rfl
  have ci : Tryd.prog.cellsOf 3 = 1 := by kernel_rfl
  rw [ce] at hlen
  have hx2 : xs.length = 2 := hxl
  match cs, hlen with
  | [v0, v1], _ =>
    have g0 : DataW.trod enc Tryd.prog W 0 (fun _ => true) true k 3 (([v0, v1].drop 0).take (Tryd.prog.cellsOf 3)) = xs[0]? := hf 0 _ rfl
    have g1 : DataW.trod enc Tryd.prog W 0 (fun _ => true) true k 3 (([v0, v1].drop 1).take (Tryd.prog.cellsOf 3)) = xs[1]? := hf 1 _ rfl
    rw [ci] at g0 g1
    obtain ⟨a0, e0, _⟩ := DataW.trod_int (x := xs[0]) Tryd.underlying3 (by rw [← List.getElem?_eq_getElem]; exact g0)
    obtain ⟨a1, e1, _⟩ := DataW.trod_int (x := xs[1]) Tryd.underlying3 (by rw [← List.getElem?_eq_getElem]; exact g1)
    simp at e0 e1
    subst e0 e1
    exact ⟨a0, a1, rfl⟩
/-- The numbers of a segment. -/
theorem trod_seg {cs : List Value} {x : DataW H × List MemPlace} (h : DataW.trod enc Tryd.prog W 0 (fun _ => true) true n 35 cs = some x) :
    ∃ s : Sg, cs = [.int .i64 s.1, .int .i64 s.2.1.1, .int .i64 s.2.1.2, .int .i64 s.2.2.1.1, .int .i64 s.2.2.1.2, .int .i64 s.2.2.2.1, .int .i64 s.2.2.2.2] := by
  obtain ⟨xs, k, _, _, hlen, hxl, hf⟩ := DataW.trod_struct Tryd.underlying35 h
  have ce : Tryd.prog.cellsOf 35 = 7 := by kernel_rfl
  have cp : Tryd.prog.cellsOf 32 = 2 := by kernel_rfl
  have ca : Tryd.prog.cellsOf 33 = 6 := by kernel_rfl
  have ci : Tryd.prog.cellsOf 3 = 1 := by kernel_rfl
  rw [ce] at hlen
  have hx2 : xs.length = 2 := hxl
  match cs, hlen with
  | [v0, v1, v2, v3, v4, v5, v6], _ =>
    have g0 : DataW.trod enc Tryd.prog W 0 (fun _ => true) true k 3 (([v0, v1, v2, v3, v4, v5, v6].drop 0).take (Tryd.prog.cellsOf 3)) = xs[0]? := hf 0 _ rfl
    have g1 : DataW.trod enc Tryd.prog W 0 (fun _ => true) true k 33 (([v0, v1, v2, v3, v4, v5, v6].drop 1).take (Tryd.prog.cellsOf 33)) = xs[1]? := hf 1 _ rfl
    rw [ci] at g0
    rw [ca] at g1
    obtain ⟨a0, e0, _⟩ := DataW.trod_int (x := xs[0]) Tryd.underlying3 (by rw [← List.getElem?_eq_getElem]; exact g0)
    have g1' : DataW.trod enc Tryd.prog W 0 (fun _ => true) true k 33 [v1, v2, v3, v4, v5, v6] = some xs[1] := by rw [← List.getElem?_eq_getElem]; exact g1
    obtain ⟨ys, m, _, _, _, hyl, hfy⟩ := DataW.trod_array Tryd.underlying33 g1'
    rw [cp] at hfy
    have hp : ∀ (j : Nat) (hj : j < 3), ∃ a b : Int, (([v1, v2, v3, v4, v5, v6].drop (j * 2)).take 2) = [.int .i64 a, .int .i64 b] := fun j hj =>
      trod_point (x := ys[j]'(by omega)) (by rw [← List.getElem?_eq_getElem]; exact hfy j hj)
    obtain ⟨b1, b2, h1⟩ := hp 0 (by decide)
    obtain ⟨b3, b4, h2⟩ := hp 1 (by decide)
    obtain ⟨b5, b6, h3⟩ := hp 2 (by decide)
    simp at e0 h1 h2 h3
    obtain ⟨rfl, rfl⟩ := h1
    obtain ⟨rfl, rfl⟩ := h2
    obtain ⟨rfl, rfl⟩ := h3
    subst e0
    exact ⟨(a0, (b1, b2), (b3, b4), b5, b6), rfl⟩
theorem open_segs {base : Nat} {v : Value} {d : DataW H} {p : List MemPlace} (hv : Value.okWide Tryd.prog W .any base 22 v)
    (h : DataW.Trod enc Tryd.prog W 0 (fun _ => true) true 22 v d p) : ∃ l, SRow W v l := by
  obtain ⟨a0, len, cap, rfl⟩ := okWide_slice Tryd.underlying22 hv
  obtain ⟨fuel, hf⟩ := h
  rcases Deep.open_slice Tryd.underlying22 hf with ⟨hcs, _⟩ | ⟨a, len', cap', m, n, D, Pl, hcs, _, hl, hm, hmm, _, hx⟩
  · simp [Value.cells] at hcs
    obtain ⟨rfl, rfl, rfl⟩ := hcs
    exact ⟨[], srow_nil W⟩
  · simp [Value.cells] at hcs
    obtain ⟨rfl, rfl, rfl⟩ := hcs
    simp only [if_true] at hmm
    subst hmm
    have ce : Tryd.prog.cellsOf 35 = 7 := by kernel_rfl
    have key : ∀ i, i < len → ∃ s : Sg, ∀ j (hj : j < 7), W.cell? (a.add (i * 7 + j)) = ([.int .i64 s.1, .int .i64 s.2.1.1, .int .i64 s.2.1.2, .int .i64 s.2.2.1.1, .int .i64 s.2.2.1.2, .int .i64 s.2.2.2.1, .int .i64 s.2.2.2.2] : List Value)[j]? := by
      intro i hi
      obtain ⟨cs', h1, h2⟩ := hx i (by omega)
      rw [ce] at h1
      obtain ⟨_, hlen, hcell⟩ := World.cells?_some h1
      obtain ⟨s, rfl⟩ := trod_seg h2
      refine ⟨s, fun j hj => ?_⟩
      have := hcell j hj
      rwa [Deep.add_add] at this
    obtain ⟨q, hq⟩ := Deep.choose_lt key
    refine ⟨(List.range len).map q, some a, _, by simp, by simpa using hl, hm, (fun h => by cases h), fun hne => ?_⟩
    have hlen : 0 < len := by
      rcases Nat.eq_zero_or_pos len with h0 | h0
      · subst h0; simp at hne
      · exact h0
    obtain ⟨b, off, spot⟩ := a
    have hspot : spot = none := by
      have c0 := hq 0 hlen 0 (by decide)
      simpa [Addr.add] using World.cell?_spot c0
    subst hspot
    refine ⟨b, off, rfl, fun i hi => ?_⟩
    have hi' : i < len := by simpa using hi
    have hq := hq i hi'
    simp only [Addr.add_lit, ← Nat.add_assoc] at hq
    simp only [List.getElem_map, List.getElem_range]
    have k0 := hq 0 (by decide)
    have k1 := hq 1 (by decide)
    have k2 := hq 2 (by decide)
    have k3 := hq 3 (by decide)
    have k4 := hq 4 (by decide)
    have k5 := hq 5 (by decide)
    have k6 := hq 6 (by decide)
    exact ⟨k0, k1, k2, k3, k4, k5, k6⟩
end
end Go.Proofs.YtgjbelcnkmcbiaaDoor
