/-
  Walk: path.extend: a segment added to a polygon.
-/
import Derived.Test.YtgjbelcnkmcbiaaDoorQp
import Derived.Test.YtgjbelcnkmcbiaaDoorNum
namespace Go.Proofs.YtgjbelcnkmcbiaaDoor
open Go.RowKit

def qdI (a b c k : Int) : Int := rdI ((8 - k) * (8 - k) * a + 2 * k * (8 - k) * b + k * k * c) 64
def cbI (a b c d k : Int) : Int := rdI ((16 - k) * (16 - k) * (16 - k) * a + 3 * k * (16 - k) * (16 - k) * b + 3 * k * k * (16 - k) * c + k * k * k * d) 4096
def quadPt (p a b : Pt) (k : Int) : Pt := (qdI p.1 a.1 b.1 k, qdI p.2 a.2 b.2 k)
def cubicPt (p a b c : Pt) (k : Int) : Pt := (cbI p.1 a.1 b.1 c.1 k, cbI p.2 a.2 b.2 c.2 k)
def quadL (l : List Pt) (p a b : Pt) (n : Nat) : List Pt := (List.range n).foldl (fun l i => pushP l (quadPt p a b ((i + 1 : Nat) : Int))) l
def cubicL (l : List Pt) (p a b c : Pt) (n : Nat) : List Pt := (List.range n).foldl (fun l i => pushP l (cubicPt p a b c ((i + 1 : Nat) : Int))) l
theorem quadL_succ (l : List Pt) (p a b : Pt) (n : Nat) : quadL l p a b (n + 1) = pushP (quadL l p a b n) (quadPt p a b ((n + 1 : Nat) : Int)) := by
  unfold quadL; rw [List.range_succ, List.foldl_append]; rfl
theorem cubicL_succ (l : List Pt) (p a b c : Pt) (n : Nat) : cubicL l p a b c (n + 1) = pushP (cubicL l p a b c n) (cubicPt p a b c ((n + 1 : Nat) : Int)) := by
  unfold cubicL; rw [List.range_succ, List.foldl_append]; rfl
/-- The points of a segment behind a polygon's current point p. -/
def bendP (l : List Pt) (p : Pt) (s : Sg) : List Pt :=
  if s.1 = 2 then pushP l s.2.1 else if s.1 = 3 then quadL l p s.2.1 s.2.2.1 8 else if s.1 = 4 then cubicL l p s.2.1 s.2.2.1 s.2.2.2 16 else l
theorem push_len (l : List Pt) (q : Pt) : (pushP l q).length ≤ l.length + 1 ∧ l.length ≤ (pushP l q).length := by unfold pushP; split <;> simp
theorem push_ne (l : List Pt) (q : Pt) (h : l ≠ []) : pushP l q ≠ [] := by unfold pushP; split <;> simp [h]
theorem quadL_len (l : List Pt) (p a b : Pt) (n : Nat) : (quadL l p a b n).length ≤ l.length + n ∧ (l ≠ [] → quadL l p a b n ≠ []) := by
  induction n with
  | zero => exact ⟨Nat.le_refl _, fun h => h⟩
  | succ n ih => rw [quadL_succ]; exact ⟨by have := (push_len (quadL l p a b n) (quadPt p a b ((n + 1 : Nat) : Int))).1; omega, fun h => push_ne _ _ (ih.2 h)⟩
theorem cubicL_len (l : List Pt) (p a b c : Pt) (n : Nat) : (cubicL l p a b c n).length ≤ l.length + n ∧ (l ≠ [] → cubicL l p a b c n ≠ []) := by
  induction n with
  | zero => exact ⟨Nat.le_refl _, fun h => h⟩
  | succ n ih => rw [cubicL_succ]; exact ⟨by have := (push_len (cubicL l p a b c n) (cubicPt p a b c ((n + 1 : Nat) : Int))).1; omega, fun h => push_ne _ _ (ih.2 h)⟩

def sgA (k ax ay bx by_ cx cy : Int) : Array Value := #[.int .i64 k, .int .i64 ax, .int .i64 ay, .int .i64 bx, .int .i64 by_, .int .i64 cx, .int .i64 cy]
/-- What path.extend holds: the polygon's box, the segment, the point; the frame. -/
structure XS (w0 wr : World) (B k0 : Nat) (cs : Array Value) (px py : Int) (v : Value) (l : List Pt) : Prop where
  bx : Blk wr k0 37 #[v]
  sg : Blk wr (k0 + 1) 35 cs
  pt : Blk wr (k0 + 2) 32 #[.int .i64 px, .int .i64 py]
  ow : QOwn wr B v l
  fr : Fr B [32] w0 wr
  ne : v.ownBlock ≠ some (k0 + 2)
  nl : l ≠ []
  le : w0.heap.size ≤ k0
  bl : B ≤ wr.heap.size
theorem own_type {w : World} {B : Nat} {v : Value} {l : List Pt} (h : QOwn w B v l) {k : Nat} {t : TypeId} {cs : Array Value} (hb : Blk w k t cs) (ht : t ≠ 32) : some k ≠ v.ownBlock := by
  rcases h.2 with ⟨rfl, -⟩ | ⟨g, cap, cur, rfl, _, hg, _⟩
  · intro e; cases e
  · intro e
    have e : k = g := by injection e
    subst e
    have hb' : w.heap[k]? = _ := hb
    rw [hg] at hb'
    injection hb' with hb'
    injection hb' with h1 h2
    exact ht h2.symm
theorem XS.step {w0 wr w' : World} {B k0 : Nat} {cs : Array Value} {px py : Int} {v v' : Value} {l l' : List Pt} (h : XS w0 wr B k0 cs px py v l) (hn : l' ≠ []) (hb : Blk w' k0 37 #[v']) (ho : QOwn w' B v' l') (hg : Grw k0 v.ownBlock wr w')
    (hv : v'.ownBlock = v.ownBlock ∨ ∃ g, v'.ownBlock = some g ∧ wr.heap.size ≤ g) : XS w0 w' B k0 cs px py v' l' where
  bx := hb
  sg := (hg.block _ h.sg.lt (by omega) (own_type h.ow h.sg (by decide))).trans h.sg
  pt := (hg.block _ h.pt.lt (by omega) (fun e => h.ne e.symm)).trans h.pt
  ow := ho
  fr := hg.fr h.fr h.le h.ow (by simp)
  ne := by
    rcases hv with e | ⟨g, e, hge⟩
    · rw [e]; exact h.ne
    · rw [e]; intro e2; injection e2 with e2; have := h.pt.lt; omega
  nl := hn
  le := h.le
  bl := Nat.le_trans h.bl hg.size
theorem XS.drew {w0 wr : World} {B k0 : Nat} {cs : Array Value} {px py : Int} {v : Value} {l : List Pt} (h : XS w0 wr B k0 cs px py v l) : XS w0 wr.drew B k0 cs px py v l := ⟨h.bx, h.sg, h.pt, h.ow, h.fr.drew, h.ne, h.nl, h.le, h.bl⟩
def near24 (x : Int) : Prop := -16777216 ≤ x ∧ x ≤ 16777216
theorem mul_b (c x C : Int) (h0 : 0 ≤ c) (hc : c ≤ C) (hx : near24 x) : -(16777216 * C) ≤ c * x ∧ c * x ≤ 16777216 * C := by
  have h1 : c * x ≤ c * 16777216 := Int.mul_le_mul_of_nonneg_left hx.2 h0
  have h2 : c * (-16777216) ≤ c * x := Int.mul_le_mul_of_nonneg_left hx.1 h0
  omega
theorem quad_b (a b c a' b' c' k : Int) (h1 : 1 ≤ k) (h8 : k ≤ 8) (ha : near24 a) (hb : near24 b) (hc : near24 c) (ha' : near24 a') (hb' : near24 b') (hc' : near24 c') :
    ∃ A Bq C x1 x2 x3 x4 S y1 y2 y3 y4 T, wrap64 ((8 - k) * (8 - k)) = A ∧ wrap64 (2 * k * (8 - k)) = Bq ∧ wrap64 (k * k) = C ∧
      IntKind.i64.wrap (A * a) = x1 ∧ IntKind.i64.wrap (Bq * b) = x2 ∧ IntKind.i64.wrap (x1 + x2) = x3 ∧ IntKind.i64.wrap (C * c) = x4 ∧ IntKind.i64.wrap (x3 + x4) = S ∧
      IntKind.i64.wrap (A * a') = y1 ∧ IntKind.i64.wrap (Bq * b') = y2 ∧ IntKind.i64.wrap (y1 + y2) = y3 ∧ IntKind.i64.wrap (C * c') = y4 ∧ IntKind.i64.wrap (y3 + y4) = T ∧
      rdI S 64 = qdI a b c k ∧ rdI T 64 = qdI a' b' c' k ∧ -2305843009213693952 ≤ S ∧ S ≤ 2305843009213693952 ∧ -2305843009213693952 ≤ T ∧ T ≤ 2305843009213693952 := by
  rcases (by omega : k = 1 ∨ k = 2 ∨ k = 3 ∨ k = 4 ∨ k = 5 ∨ k = 6 ∨ k = 7 ∨ k = 8) with rfl | rfl | rfl | rfl | rfl | rfl | rfl | rfl
  all_goals
    unfold near24 at *
    refine ⟨_, _, _, _, _, _, _, _, _, _, _, _, _, wrap64_of _ (by omega), wrap64_of _ (by omega), wrap64_of _ (by omega), IntWalk.i64_in _ (by omega), IntWalk.i64_in _ (by omega), IntWalk.i64_in _ (by omega), IntWalk.i64_in _ (by omega), IntWalk.i64_in _ (by omega), IntWalk.i64_in _ (by omega), IntWalk.i64_in _ (by omega), IntWalk.i64_in _ (by omega), IntWalk.i64_in _ (by omega), IntWalk.i64_in _ (by omega), rfl, rfl, by omega, by omega, by omega, by omega⟩
theorem cubic_b (a b c d a' b' c' d' k : Int) (h1 : 1 ≤ k) (h8 : k ≤ 16) (ha : near24 a) (hb : near24 b) (hc : near24 c) (hd : near24 d) (ha' : near24 a') (hb' : near24 b') (hc' : near24 c') (hd' : near24 d') :
    ∃ A0 A B1 Bq C1 C D0 D x1 x2 x3 x4 x5 x6 S y1 y2 y3 y4 y5 y6 T, wrap64 ((16 - k) * (16 - k)) = A0 ∧ wrap64 (A0 * (16 - k)) = A ∧ wrap64 (3 * k * (16 - k)) = B1 ∧ wrap64 (B1 * (16 - k)) = Bq ∧ wrap64 (3 * k * k) = C1 ∧ wrap64 (C1 * (16 - k)) = C ∧ wrap64 (k * k) = D0 ∧ wrap64 (D0 * k) = D ∧
      IntKind.i64.wrap (A * a) = x1 ∧ IntKind.i64.wrap (Bq * b) = x2 ∧ IntKind.i64.wrap (x1 + x2) = x3 ∧ IntKind.i64.wrap (C * c) = x4 ∧ IntKind.i64.wrap (x3 + x4) = x5 ∧ IntKind.i64.wrap (D * d) = x6 ∧ IntKind.i64.wrap (x5 + x6) = S ∧
      IntKind.i64.wrap (A * a') = y1 ∧ IntKind.i64.wrap (Bq * b') = y2 ∧ IntKind.i64.wrap (y1 + y2) = y3 ∧ IntKind.i64.wrap (C * c') = y4 ∧ IntKind.i64.wrap (y3 + y4) = y5 ∧ IntKind.i64.wrap (D * d') = y6 ∧ IntKind.i64.wrap (y5 + y6) = T ∧
      rdI S 4096 = cbI a b c d k ∧ rdI T 4096 = cbI a' b' c' d' k ∧ -2305843009213693952 ≤ S ∧ S ≤ 2305843009213693952 ∧ -2305843009213693952 ≤ T ∧ T ≤ 2305843009213693952 := by
  rcases (by omega : k = 1 ∨ k = 2 ∨ k = 3 ∨ k = 4 ∨ k = 5 ∨ k = 6 ∨ k = 7 ∨ k = 8 ∨ k = 9 ∨ k = 10 ∨ k = 11 ∨ k = 12 ∨ k = 13 ∨ k = 14 ∨ k = 15 ∨ k = 16) with rfl | rfl | rfl | rfl | rfl | rfl | rfl | rfl | rfl | rfl | rfl | rfl | rfl | rfl | rfl | rfl
  all_goals
    unfold near24 at *
    refine ⟨_, _, _, _, _, _, _, _, _, _, _, _, _, _, _, _, _, _, _, _, _, _, wrap64_of _ (by omega), wrap64_of _ (by omega), wrap64_of _ (by omega), wrap64_of _ (by omega), wrap64_of _ (by omega), wrap64_of _ (by omega), wrap64_of _ (by omega), wrap64_of _ (by omega), IntWalk.i64_in _ (by omega), IntWalk.i64_in _ (by omega), IntWalk.i64_in _ (by omega), IntWalk.i64_in _ (by omega), IntWalk.i64_in _ (by omega), IntWalk.i64_in _ (by omega), IntWalk.i64_in _ (by omega), IntWalk.i64_in _ (by omega), IntWalk.i64_in _ (by omega), IntWalk.i64_in _ (by omega), IntWalk.i64_in _ (by omega), IntWalk.i64_in _ (by omega), IntWalk.i64_in _ (by omega), IntWalk.i64_in _ (by omega), rfl, rfl, by omega, by omega, by omega, by omega⟩
end Go.Proofs.YtgjbelcnkmcbiaaDoor
