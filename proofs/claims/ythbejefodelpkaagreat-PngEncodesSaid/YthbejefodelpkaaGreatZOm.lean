/-
  How arguments []api.Meta and api.Image are read.
-/
import Derived.Test.YthbejefodelpkaaGreatZF
import Derived.Deep.SlicePairs
import Derived.Deep.Strs
import Derived.ChangeArms
namespace Go.Proofs.YthbejefodelpkaaGreat
open Go.RowKit Go.ChangeShapes Go.WideShapes
set_option maxRecDepth 100000

def strOf : Value → List UInt8 | .string s => s.data.toList | _ => []
/-- What is known of an argument that is a list of metadata. -/
def MArg (w : World) (v : Value) : Prop := ∃ l : List Mt, MRow w v l ∧ ∀ m ∈ l, m.1.length ≤ maxLen ∧ m.2.length ≤ maxLen
theorem open_meta {H : Type} {enc : TypeId × Value → H} {W : World} {base : Nat} {v : Value} {d : DataW H} {p : List MemPlace} (hv : Value.okWide Tryz.prog W .any base 37 v)
    (h : DataW.Trod enc Tryz.prog W 0 (fun _ => true) true 37 v d p) : MArg W v := by
  obtain ⟨a0, len, cap, rfl⟩ := okWide_slice Tryz.underlying37 hv
  obtain ⟨fuel, hf⟩ := h
  rcases Deep.open_slice_pairs Tryz.underlying37 Tryz.underlying65 (by kernel_rfl) rfl rfl (by kernel_rfl) (by kernel_rfl) hf with ⟨hcs, _⟩ | ⟨a, len', cap', m, n, V0, V1, D0, D1, P0, P1, hcs, _, hl, hm, hmm, _, hx⟩
  · simp [Value.cells] at hcs
    obtain ⟨rfl, rfl, rfl⟩ := hcs
    exact ⟨[], mrow_nil W, fun m hm => by cases hm⟩
  · simp [Value.cells] at hcs
    obtain ⟨rfl, rfl, rfl⟩ := hcs
    simp only [if_true] at hmm
    subst hmm
    have key : ∀ i, i < len → ∃ s0 s1 : ByteArray, V0 i = .string s0 ∧ V1 i = .string s1 ∧ s0.size ≤ maxLen ∧ s1.size ≤ maxLen ∧ W.cell? (a.add (i * 2)) = some (V0 i) ∧ W.cell? (a.add (i * 2 + 1)) = some (V1 i) := by
      intro i hi
      obtain ⟨c0, c1, t0, t1⟩ := hx i (by omega)
      obtain ⟨s0, e0, _, m0⟩ := DataW.trod_string Tryz.underlying9 t0
      obtain ⟨s1, e1, _, m1⟩ := DataW.trod_string Tryz.underlying9 t1
      exact ⟨s0, s1, by simpa using e0, by simpa using e1, m0, m1, c0, c1⟩
    refine ⟨(List.range len).map fun i => (strOf (V0 i), strOf (V1 i)), ⟨some a, m, by simp, by simpa using hl, hm, (fun h => by cases h), fun hne => ?_⟩, ?_⟩
    · have hlen : 0 < len := by
        rcases Nat.eq_zero_or_pos len with h0 | h0
        · subst h0; simp at hne
        · exact h0
      obtain ⟨b, off, spot⟩ := a
      have hspot : spot = none := by
        obtain ⟨_, _, _, _, _, _, c0, _⟩ := key 0 hlen
        simpa [Addr.add] using World.cell?_spot c0
      subst hspot
      refine ⟨b, off, rfl, fun i hi => ?_⟩
      have hi' : i < len := by simpa using hi
      obtain ⟨s0, s1, e0, e1, _, _, c0, c1⟩ := key i hi'
      rw [Addr.add_lit] at c0 c1
      simp only [List.getElem_map, List.getElem_range]
      rw [e0] at c0
      rw [e1] at c1
      refine ⟨?_, ?_⟩
      · rw [c0, e0]; rfl
      · rw [Nat.add_assoc, c1, e1]; rfl
    · intro x hx'
      obtain ⟨i, hi, rfl⟩ := List.mem_map.1 hx'
      obtain ⟨s0, s1, e0, e1, m0, m1, _, _⟩ := key i (by simpa using hi)
      simp only
      rw [e0, e1]
      have l0 : s0.data.toList.length = s0.size := by simp
      have l1 : s1.data.toList.length = s1.size := by simp
      exact ⟨by show s0.data.toList.length ≤ _; omega, by show s1.data.toList.length ≤ _; omega⟩
def imgV (W H : Int) (v : Value) : Array Value := #[.int .i64 W, .int .i64 H, v]
/-- What is known of an argument that is an image. -/
def IArg (w : World) (v : Value) : Prop := ∃ (W H : Int) (pv : Value) (px : List Px), v = .agg #[.int .i64 W, .int .i64 H, pv] ∧ PRow w pv px
theorem open_pixels {H : Type} {enc : TypeId × Value → H} {W : World} {fuel : Nat} {c : Value} {x : DataW H × List MemPlace} (h : DataW.trod enc Tryz.prog W 0 (fun _ => true) true fuel 34 [c] = some x) : ∃ px : List Px, PRow W c px := by
  rcases Deep.open_slice Tryz.underlying34 h with ⟨hcs, _⟩ | ⟨a, len, cap, m, n, D, Pl, hcs, _, hl, hm, hmm, _, hx⟩
  · simp only [List.cons.injEq, and_true] at hcs
    subst hcs
    exact ⟨[], none, 0, rfl, Nat.le_refl _, by unfold maxLen; omega, fun _ => rfl, fun h => absurd rfl h⟩
  · simp only [List.cons.injEq, and_true] at hcs
    subst hcs
    simp only [if_true] at hmm
    subst hmm
    have ce : Tryz.prog.cellsOf 41 = 4 := by kernel_rfl
    have ci : Tryz.prog.cellsOf 3 = 1 := by kernel_rfl
    have key : ∀ i, i < len → ∃ p : Px, W.cell? (a.add (i * 4)) = some (.int .i64 p.1) ∧ W.cell? (a.add (i * 4 + 1)) = some (.int .i64 p.2.1) ∧ W.cell? (a.add (i * 4 + 2)) = some (.int .i64 p.2.2.1) ∧ W.cell? (a.add (i * 4 + 3)) = some (.int .i64 p.2.2.2) := by
      intro i hi
      obtain ⟨cs', h1, h2⟩ := hx i (by omega)
      rw [ce] at h1
      obtain ⟨_, hlen, hcell⟩ := World.cells?_some h1
      obtain ⟨xs, k, _, _, _, hxl, hf⟩ := DataW.trod_struct Tryz.underlying41 h2
      have hx4 : xs.length = 4 := hxl
      match cs', hlen with
      | [v0, v1, v2, v3], _ =>
        have g0 : DataW.trod enc Tryz.prog W 0 (fun _ => true) true k 3 (([v0, v1, v2, v3].drop 0).take (Tryz.prog.cellsOf 3)) = xs[0]? := hf 0 _ rfl
        have g1 : DataW.trod enc Tryz.prog W 0 (fun _ => true) true k 3 (([v0, v1, v2, v3].drop 1).take (Tryz.prog.cellsOf 3)) = xs[1]? := hf 1 _ rfl
        have g2 : DataW.trod enc Tryz.prog W 0 (fun _ => true) true k 3 (([v0, v1, v2, v3].drop 2).take (Tryz.prog.cellsOf 3)) = xs[2]? := hf 2 _ rfl
        have g3 : DataW.trod enc Tryz.prog W 0 (fun _ => true) true k 3 (([v0, v1, v2, v3].drop 3).take (Tryz.prog.cellsOf 3)) = xs[3]? := hf 3 _ rfl
        rw [ci] at g0 g1 g2 g3
        obtain ⟨a0, e0, _⟩ := DataW.trod_int (x := xs[0]) Tryz.underlying3 (by rw [← List.getElem?_eq_getElem]; exact g0)
        obtain ⟨a1, e1, _⟩ := DataW.trod_int (x := xs[1]) Tryz.underlying3 (by rw [← List.getElem?_eq_getElem]; exact g1)
        obtain ⟨a2, e2, _⟩ := DataW.trod_int (x := xs[2]) Tryz.underlying3 (by rw [← List.getElem?_eq_getElem]; exact g2)
        obtain ⟨a3, e3, _⟩ := DataW.trod_int (x := xs[3]) Tryz.underlying3 (by rw [← List.getElem?_eq_getElem]; exact g3)
        simp at e0 e1 e2 e3
        have k0 := hcell 0 (by omega)
        have k1 := hcell 1 (by omega)
        have k2 := hcell 2 (by omega)
        have k3 := hcell 3 (by omega)
        rw [Deep.add_add] at k0 k1 k2 k3
        subst e0 e1 e2 e3
        exact ⟨(a0, a1, a2, a3), by simpa using k0, by simpa using k1, by simpa using k2, by simpa using k3⟩
    obtain ⟨q, hq⟩ := Deep.choose_lt key
    refine ⟨(List.range len).map q, some a, _, by simp, by simpa using hl, hm, (fun h => by cases h), fun hne => ?_⟩
    have hlen : 0 < len := by
      rcases Nat.eq_zero_or_pos len with h0 | h0
      · subst h0; simp at hne
      · exact h0
    obtain ⟨b, off, spot⟩ := a
    have hspot : spot = none := by
      have c0 := (hq 0 hlen).1
      simpa [Addr.add] using World.cell?_spot c0
    subst hspot
    refine ⟨b, off, rfl, fun i hi => ?_⟩
    have hi' : i < len := by simpa using hi
    obtain ⟨c0, c1, c2, c3⟩ := hq i hi'
    rw [Addr.add_lit] at c0 c1 c2 c3
    simp only [List.getElem_map, List.getElem_range]
    exact ⟨c0, by rw [Nat.add_assoc]; exact c1, by rw [Nat.add_assoc]; exact c2, by rw [Nat.add_assoc]; exact c3⟩
theorem open_image {H : Type} {enc : TypeId × Value → H} {W : World} {base : Nat} {v : Value} {d : DataW H} {p : List MemPlace} (hv : Value.okWide Tryz.prog W .any base 36 v)
    (h : DataW.Trod enc Tryz.prog W 0 (fun _ => true) true 36 v d p) : IArg W v := by
  obtain ⟨cs, rfl, hs⟩ := okWide_struct Tryz.underlying36 hv
  obtain ⟨fuel, hf⟩ := h
  have c3 : Tryz.prog.cellsOf 36 = 3 := by kernel_rfl
  have ci : Tryz.prog.cellsOf 3 = 1 := by kernel_rfl
  have cp : Tryz.prog.cellsOf 34 = 1 := by kernel_rfl
  rw [c3] at hs
  obtain ⟨y0, y1, y2, n, _, _, g0, g1, g2⟩ := Deep.trod_struct3 Tryz.underlying36 hf
  obtain ⟨l⟩ := cs
  match l, hs with
  | [v0, v1, v2], _ =>
    simp [Value.cells, ci, cp] at g0 g1 g2
    obtain ⟨a, e0, _⟩ := DataW.trod_int Tryz.underlying3 g0
    obtain ⟨b, e1, _⟩ := DataW.trod_int Tryz.underlying3 g1
    simp at e0 e1
    obtain ⟨px, hp⟩ := open_pixels g2
    exact ⟨a, b, v2, px, by rw [e0, e1], hp⟩
end Go.Proofs.YthbejefodelpkaaGreat
