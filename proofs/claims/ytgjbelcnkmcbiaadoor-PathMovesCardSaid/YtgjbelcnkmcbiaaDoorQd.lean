/-
  Plain definitions: points, segments, rows of them; the error of a path.
-/
import Derived.Test.YtgjbelcnkmcbiaaDoorLib
import Derived.Deep.Cut
import Derived.Deep.CutBlock
import Derived.Deep.CutRange
import Derived.Deep.RegionWith
import Derived.Deep.RegionHeld3
import Derived.Deep.RegionLaw
import Derived.StillTailTactics
import Derived.Outline
import Derived.Great.BuildSlice
import Derived.BigQuiet
import Derived.Test.YtgjbelcnkmcbiaaDoorProg
namespace Go.Proofs.YtgjbelcnkmcbiaaDoor
open Go.RowKit

abbrev Pt := Int × Int
/-- A segment: its kind, its three points. -/
abbrev Sg := Int × Pt × Pt × Pt
def Sg.pt (s : Sg) (i : Nat) : Pt := if i = 0 then s.2.1 else if i = 1 then s.2.2.1 else s.2.2.2
def ptC (p : Pt) : Array Value := #[.int .i64 p.1, .int .i64 p.2]
def sgC (s : Sg) : Array Value := #[.int .i64 s.1, .int .i64 s.2.1.1, .int .i64 s.2.1.2, .int .i64 s.2.2.1.1, .int .i64 s.2.2.1.2, .int .i64 s.2.2.2.1, .int .i64 s.2.2.2.2]
/-- Segment i of the row at an address. -/
def SCell (w : World) (b off : Nat) (i : Nat) (s : Sg) : Prop :=
  w.cell? ⟨b, off + i * 7, none⟩ = some (.int .i64 s.1) ∧ w.cell? ⟨b, off + i * 7 + 1, none⟩ = some (.int .i64 s.2.1.1) ∧ w.cell? ⟨b, off + i * 7 + 2, none⟩ = some (.int .i64 s.2.1.2) ∧
  w.cell? ⟨b, off + i * 7 + 3, none⟩ = some (.int .i64 s.2.2.1.1) ∧ w.cell? ⟨b, off + i * 7 + 4, none⟩ = some (.int .i64 s.2.2.1.2) ∧ w.cell? ⟨b, off + i * 7 + 5, none⟩ = some (.int .i64 s.2.2.2.1) ∧ w.cell? ⟨b, off + i * 7 + 6, none⟩ = some (.int .i64 s.2.2.2.2)
/-- The slice value v reads as the segments l. -/
def SRow (w : World) (v : Value) (l : List Sg) : Prop :=
  ∃ x c, v = .slice x l.length c ∧ l.length ≤ c ∧ c ≤ maxLen ∧ (x = none → c = 0) ∧ (l ≠ [] → ∃ b off, x = some ⟨b, off, none⟩ ∧ ∀ i (h : i < l.length), SCell w b off i l[i])
theorem SRow.one {w : World} {v : Value} {l : List Sg} (h : SRow w v l) : v.oneCell' = true := by obtain ⟨x, c, rfl, -⟩ := h; rfl
theorem SRow.below {w w' : World} {v : Value} {l : List Sg} (h : SRow w v l) (hb : Below w.heap.size w w') : SRow w' v l := by
  obtain ⟨x, c, rfl, h1, h2, h3, h4⟩ := h
  refine ⟨x, c, rfl, h1, h2, h3, fun hne => ?_⟩
  obtain ⟨b, off, rfl, hc⟩ := h4 hne
  refine ⟨b, off, rfl, fun i hi => ?_⟩
  obtain ⟨c1, c2, c3, c4, c5, c6, c7⟩ := hc i hi
  have hlt : b < w.heap.size := World.block_lt_of_cell? w _ c1
  exact ⟨(hb.cell (p := ⟨b, _, none⟩) hlt).trans c1, (hb.cell (p := ⟨b, _, none⟩) hlt).trans c2, (hb.cell (p := ⟨b, _, none⟩) hlt).trans c3, (hb.cell (p := ⟨b, _, none⟩) hlt).trans c4, (hb.cell (p := ⟨b, _, none⟩) hlt).trans c5, (hb.cell (p := ⟨b, _, none⟩) hlt).trans c6, (hb.cell (p := ⟨b, _, none⟩) hlt).trans c7⟩
theorem SRow.drewN {w : World} {v : Value} {l : List Sg} (h : SRow w v l) (n : Nat) : SRow (w.drewN n) v l := h
theorem SRow.alloc {w : World} {v : Value} {l : List Sg} (h : SRow w v l) (o : Obj) : SRow (w.alloc o) v l := h.below ((Below.refl _ _).alloc (Nat.le_refl _) o)
theorem srow_nil (w : World) : SRow w (.slice none 0 0) [] := ⟨none, 0, rfl, Nat.le_refl _, Nat.zero_le _, fun _ => rfl, fun h => absurd rfl h⟩
theorem below_drewN {B : Nat} {w w' : World} (h : Below B w w') (n : Nat) : Below B w (w'.drewN n) := ⟨h.os, h.tape, h.output, h.size, h.block⟩

/-! ### Rows of points, of polygons -/
def QCell (w : World) (b off : Nat) (i : Nat) (p : Pt) : Prop := w.cell? ⟨b, off + i * 2, none⟩ = some (.int .i64 p.1) ∧ w.cell? ⟨b, off + i * 2 + 1, none⟩ = some (.int .i64 p.2)
/-- The slice value v reads as the points l. -/
def QRow (w : World) (v : Value) (l : List Pt) : Prop :=
  ∃ x c, v = .slice x l.length c ∧ l.length ≤ c ∧ c ≤ maxLen ∧ (x = none → c = 0) ∧ (l ≠ [] → ∃ b off, x = some ⟨b, off, none⟩ ∧ ∀ i (h : i < l.length), QCell w b off i l[i])
theorem QRow.one {w : World} {v : Value} {l : List Pt} (h : QRow w v l) : v.oneCell' = true := by obtain ⟨x, c, rfl, -⟩ := h; rfl
theorem QRow.below {w w' : World} {v : Value} {l : List Pt} (h : QRow w v l) (hb : Below w.heap.size w w') : QRow w' v l := by
  obtain ⟨x, c, rfl, h1, h2, h3, h4⟩ := h
  refine ⟨x, c, rfl, h1, h2, h3, fun hne => ?_⟩
  obtain ⟨b, off, rfl, hc⟩ := h4 hne
  refine ⟨b, off, rfl, fun i hi => ?_⟩
  obtain ⟨c1, c2⟩ := hc i hi
  have hlt : b < w.heap.size := World.block_lt_of_cell? w _ c1
  exact ⟨(hb.cell (p := ⟨b, _, none⟩) hlt).trans c1, (hb.cell (p := ⟨b, _, none⟩) hlt).trans c2⟩
theorem qrow_nil (w : World) : QRow w (.slice none 0 0) [] := ⟨none, 0, rfl, Nat.le_refl _, Nat.zero_le _, fun _ => rfl, fun h => absurd rfl h⟩
/-- The slice value v reads as the polygons l. -/
def GRow (w : World) (v : Value) (l : List (List Pt)) : Prop :=
  ∃ x c, v = .slice x l.length c ∧ l.length ≤ c ∧ c ≤ maxLen ∧ (x = none → c = 0) ∧ (l ≠ [] → ∃ b off, x = some ⟨b, off, none⟩ ∧ ∀ i (h : i < l.length), ∃ u, w.cell? ⟨b, off + i, none⟩ = some u ∧ QRow w u l[i])
theorem GRow.below {w w' : World} {v : Value} {l : List (List Pt)} (h : GRow w v l) (hb : Below w.heap.size w w') : GRow w' v l := by
  obtain ⟨x, c, rfl, h1, h2, h3, h4⟩ := h
  refine ⟨x, c, rfl, h1, h2, h3, fun hne => ?_⟩
  obtain ⟨b, off, rfl, hc⟩ := h4 hne
  refine ⟨b, off, rfl, fun i hi => ?_⟩
  obtain ⟨u, c1, c2⟩ := hc i hi
  have hlt : b < w.heap.size := World.block_lt_of_cell? w _ c1
  exact ⟨u, (hb.cell (p := ⟨b, _, none⟩) hlt).trans c1, c2.below hb⟩
theorem grow_nil (w : World) : GRow w (.slice none 0 0) [] := ⟨none, 0, rfl, Nat.le_refl _, Nat.zero_le _, fun _ => rfl, fun h => absurd rfl h⟩

/-! ### The error of a path -/
def farP (p : Pt) : Bool := decide (p.1 < -16777216) || decide (p.1 > 16777216) || decide (p.2 < -16777216) || decide (p.2 > 16777216)
def usedP (k : Int) : Nat := if k = 3 then 2 else if k = 4 then 3 else if k = 5 then 0 else 1
def badPt (u i : Nat) (p : Pt) : Bool := farP p || (decide (u ≤ i) && (p != (0, 0)))
def ptsBad (s : Sg) : Bool := badPt (usedP s.1) 0 s.2.1 || badPt (usedP s.1) 1 s.2.2.1 || badPt (usedP s.1) 2 s.2.2.2
def isC : Option Sg → Bool
  | none => true
  | some q => q.1 == 5
def sgErr (q : Option Sg) (s : Sg) : Int :=
  if s.1 < 1 ∨ 5 < s.1 then 8 else if ptsBad s = true then 2 else if s.1 ≠ 1 ∧ isC q = true then 24 else 0
def chkGo : Option Sg → List Sg → Int
  | _, [] => 0
  | q, s :: r => if sgErr q s ≠ 0 then sgErr q s else chkGo (some s) r
def chkP (l : List Sg) : Int := if 128 < l.length then 3 else chkGo none l
end Go.Proofs.YtgjbelcnkmcbiaaDoor
