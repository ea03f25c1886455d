/-
  Walk: the law's ends: the first and the last points of the subpaths.
-/
import Derived.Test.YtgjbelcnkmcbiaaDoorQz1
import Derived.Test.YtgjbelcnkmcbiaaDoorQr
import Derived.Test.YtgjbelcnkmcbiaaDoorQg
import Derived.Deep.AppendLies
namespace Go.Proofs.YtgjbelcnkmcbiaaDoor
open Go.RowKit

/-- Two rows of points, each of its own. -/
structure E2 (w0 W : World) (v1 v2 : Value) (fs ls : List Pt) : Prop where
  a : QOwn W w0.heap.size v1 fs
  b : QOwn W w0.heap.size v2 ls
  d : ∀ r, v1.ownBlock = some r → v2.ownBlock ≠ some r
  w : Below w0.heap.size w0 W
theorem own_fr {B : Nat} {W W' : World} {v : Value} {l : List Pt} (h : QOwn W B v l) (hb : Below W.heap.size W W') : QOwn W' B v l := (Fr.of_below (B := 0) hb []).owns h (by simp)
theorem E2.below {w0 W W' : World} {v1 v2 : Value} {fs ls : List Pt} (h : E2 w0 W v1 v2 fs ls) (hb : Below W.heap.size W W') : E2 w0 W' v1 v2 fs ls :=
  ⟨own_fr h.a hb, own_fr h.b hb, h.d, h.w.trans (hb.mono h.w.size)⟩
theorem E2.alloc {w0 W : World} {v1 v2 : Value} {fs ls : List Pt} (h : E2 w0 W v1 v2 fs ls) (o : Obj) : E2 w0 (W.alloc o) v1 v2 fs ls := h.below ((Below.refl _ _).alloc (Nat.le_refl _) o)
theorem own_lt {B : Nat} {W : World} {v : Value} {l : List Pt} (h : QOwn W B v l) {r : Nat} (hr : v.ownBlock = some r) : r < W.heap.size := (World.ownsRow.lt h r hr).2
theorem E2.app1 {w0 W W' : World} {v1 v2 : Value} {fs ls : List Pt} {r c : Nat} {px py : Int} (h : E2 w0 W v1 v2 fs ls)
    (ho : W'.ownsRow w0.heap.size 32 2 (.slice (some ⟨r, 0, none⟩) (fs.length + 1) c) (fs.length + 1) (pcells fs ++ [.int .i64 px, .int .i64 py])) (hg : W.grownBy W' v1.ownBlock) (hr : v1.ownBlock = some r ∨ r = W.heap.size) :
    E2 w0 W' (.slice (some ⟨r, 0, none⟩) (fs.length + 1) c) v2 (fs ++ [(px, py)]) ls := by
  refine ⟨qown_more ho [(px, py)] rfl rfl, ?_, ?_, (below_app' h.w h.w.size h.a hg).1⟩
  · refine World.ownsRow.kept h.b hg ?_
    cases hv : v2.ownBlock with
    | none => exact .inl rfl
    | some j => exact .inr fun e => h.d j e.symm hv
  · intro j hj e
    have hj : r = j := by injection hj
    subst hj
    rcases hr with hr | hr
    · exact h.d r hr e
    · have := own_lt h.b e
      omega
theorem E2.app2 {w0 W W' : World} {v1 v2 : Value} {fs ls : List Pt} {r c : Nat} {px py : Int} (h : E2 w0 W v1 v2 fs ls)
    (ho : W'.ownsRow w0.heap.size 32 2 (.slice (some ⟨r, 0, none⟩) (ls.length + 1) c) (ls.length + 1) (pcells ls ++ [.int .i64 px, .int .i64 py])) (hg : W.grownBy W' v2.ownBlock) (hr : v2.ownBlock = some r ∨ r = W.heap.size) :
    E2 w0 W' v1 (.slice (some ⟨r, 0, none⟩) (ls.length + 1) c) fs (ls ++ [(px, py)]) := by
  refine ⟨?_, qown_more ho [(px, py)] rfl rfl, ?_, (below_app' h.w h.w.size h.b hg).1⟩
  · refine World.ownsRow.kept h.a hg ?_
    cases hv : v1.ownBlock with
    | none => exact .inl rfl
    | some j => exact .inr fun e => h.d j hv e.symm
  · intro j hj e
    have e : r = j := by injection e
    subst e
    rcases hr with hr | hr
    · exact h.d r hj hr
    · have := own_lt h.a hj
      omega
theorem blk_app {W W' : World} {k : Nat} {t : TypeId} {cs : Array Value} {row : Option Nat} (h : Blk W k t cs) (hg : W.grownBy W' row) (hn : row ≠ some k) : Blk W' k t cs := (hg.block k h.lt fun e => hn e.symm).trans h
theorem E2.nblk {w0 W : World} {v1 v2 : Value} {fs ls : List Pt} (h : E2 w0 W v1 v2 fs ls) {k : Nat} (hk : W.heap.size ≤ k) : v1.ownBlock ≠ some k ∧ v2.ownBlock ≠ some k :=
  ⟨fun e => by have := own_lt h.a e; omega, fun e => by have := own_lt h.b e; omega⟩
/-- The last point of the second row is put anew. -/
theorem E2.put {w0 W : World} {v1 : Value} {fs ls : List Pt} {g c : Nat} {px py : Int} (h : E2 w0 W v1 (.slice (some ⟨g, 0, none⟩) ls.length c) fs ls) (hne : ls ≠ []) :
    E2 w0 ((W.setCell ⟨g, (ls.length - 1) * 2, none⟩ (.int .i64 px)).setCell ⟨g, (ls.length - 1) * 2 + 1, none⟩ (.int .i64 py)) v1 (.slice (some ⟨g, 0, none⟩) ls.length c) fs (ls.dropLast ++ [(px, py)]) := by
  have hp := List.length_pos_iff.2 hne
  have hgb := (World.ownsRow.lt h.b g rfl).1
  have hd : v1.ownBlock ≠ some g := fun e => h.d g e rfl
  have e : (ls.dropLast ++ [(px, py)]).length = ls.length := by simp; omega
  have h1 := (World.ownsRow.stored h.b ((ls.length - 1) * 2) (.int .i64 px)).1
  have h2 := (World.ownsRow.stored h1 ((ls.length - 1) * 2 + 1) (.int .i64 py)).1
  refine ⟨ownsRow_setCell_other (ownsRow_setCell_other h.a hd _) hd _, ?_, h.d, (h.w.setCell hgb _).setCell hgb _⟩
  unfold QOwn
  rw [e]
  have e2 : ((pcells ls).set ((ls.length - 1) * 2) (.int .i64 px)).set ((ls.length - 1) * 2 + 1) (.int .i64 py) = pcells (ls.dropLast ++ [(px, py)]) := by
    have h3 : ls = ls.dropLast ++ [ls.getLast hne] := (List.dropLast_concat_getLast hne).symm
    have h4 : (pcells ls.dropLast).length = (ls.length - 1) * 2 := by rw [pcells_length]; simp
    conv => lhs; rw [h3]
    simp only [List.length_append, List.length_dropLast, List.length_singleton, Nat.sub_add_cancel hp]
    rw [pcells_append, pcells_append, List.set_append_right _ _ (by omega), List.set_append_right _ _ (by omega), h4]
    simp [pcells, pcell]
  rw [← e2]
  exact h2
theorem EnSt.same {out : List (List Pt)} {p : Pt} {fs ls : List Pt} (h : EnSt out p fs ls) (hne : out ≠ []) : ls.dropLast ++ [p] = ls ∧ ls ≠ [] := by
  have hc := h.cur hne
  have hl : ls ≠ [] := by rintro rfl; cases hc
  refine ⟨?_, hl⟩
  rw [List.getLast?_eq_some_getLast hl] at hc
  injection hc with hc
  rw [← hc]
  exact List.dropLast_concat_getLast hl
theorem cur_pt (p : Pt) (s : Sg) (h1 : 1 ≤ s.1) (h5 : s.1 ≤ 5) : curP p s = if s.1 = 5 then p else s.pt (usedP s.1 - 1) := by
  unfold curP
  rcases (by omega : s.1 = 1 ∨ s.1 = 2 ∨ s.1 = 3 ∨ s.1 = 4 ∨ s.1 = 5) with h | h | h | h | h <;> rw [h] <;> rfl
end Go.Proofs.YtgjbelcnkmcbiaaDoor
