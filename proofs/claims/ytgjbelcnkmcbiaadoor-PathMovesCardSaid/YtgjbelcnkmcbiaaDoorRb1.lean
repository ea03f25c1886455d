/-
  Plain: the image of polygons; rows that are made whole and filled.
-/
import Derived.Test.YtgjbelcnkmcbiaaDoorRa3
import Derived.Test.YtgjbelcnkmcbiaaDoorQg
namespace Go.Proofs.YtgjbelcnkmcbiaaDoor
open Go.RowKit

def totP (ps : List (List Pt)) : Nat := (ps.map List.length).sum
def badP (t : Af) (p : Pt) : Bool := farP p || farP (imgP t p)
/-- What Shift answers. -/
def ShOk (t : Af) (ps : List (List Pt)) (e : Ending) (w' : World) : Prop :=
  if afChk t ≠ 0 then e = .returned (.tuple #[.slice none 0 0, .int .i64 (afChk t)])
  else if 4096 < totP ps then e = .returned (.tuple #[.slice none 0 0, .int .i64 3])
  else if ∀ q ∈ ps, ∀ p ∈ q, badP t p = false then ∃ g, e = .returned (.tuple #[g, .int .i64 0]) ∧ GRow w' g (ps.map (·.map (imgP t)))
  else e = .returned (.tuple #[.slice none 0 0, .int .i64 2])
theorem tot_take (ps : List (List Pt)) (i : Nat) (h : i < ps.length) : totP (ps.take (i + 1)) = totP (ps.take i) + ps[i].length := by
  unfold totP
  rw [List.take_succ_eq_append_getElem h, List.map_append, List.sum_append]
  show _ + ([ps[i].length] : List Nat).sum = _
  simp only [List.sum_cons, List.sum_nil, Nat.add_zero]
theorem tot_le (ps : List (List Pt)) (i : Nat) : totP (ps.take i) ≤ totP ps := by
  unfold totP
  conv => rhs; rw [← List.take_append_drop i ps]
  rw [List.map_append, List.sum_append]
  omega
theorem mk_pts (n : Nat) : madeCells #[Value.int .i64 0, .int .i64 0] (n * 2) = (pcells (List.replicate n ((0, 0) : Pt))).toArray := by
  have e : pcells (List.replicate n ((0, 0) : Pt)) = List.replicate (2 * n) (Value.int .i64 0) := by
    induction n with
    | zero => rfl
    | succ n ih =>
      rw [List.replicate_succ]
      show pcell (0, 0) ++ pcells _ = _
      rw [ih, show 2 * (n + 1) = 2 * n + 1 + 1 by omega, List.replicate_succ, List.replicate_succ]
      rfl
  rw [e]
  apply Array.ext
  · rw [size_madeCells]; simp [Nat.mul_comm]
  · intro i h1 h2
    have : i % 2 = 0 ∨ i % 2 = 1 := by omega
    rcases this with h | h <;> simp [madeCells, h]
theorem run_mkpts (n : Nat) (hb : n ≤ 1048576) (w : World) :
    (Instr.makeSlice 37 (.int .i64 (n : Int)) (.int .i64 (n : Int))).run Tryd.prog w = .ok (.slice (some ⟨w.heap.size, 0, none⟩) n n) (w.alloc (.cells (pcells (List.replicate n ((0, 0) : Pt))).toArray 32)) := by
  obtain ⟨ht, ⟨i, hi, hzz, hsz, hby⟩, _, _⟩ := el_pt
  have hb' : (i.bytes : Int) * (n : Int) ≤ 281474976710656 := by
    rw [hby]; omega
  have hr := run_make (P := Tryd.prog) w 37 32 i _ ht hi hzz .i64 .i64 n n (by omega) (by omega) hb' (by omega)
  rw [hr, Int.toNat_natCast, hsz, show (Value.agg #[Value.int .i64 0, .int .i64 0]).cells = #[Value.int .i64 0, .int .i64 0] from rfl, mk_pts]
/-- The point k of a row is put. -/
theorem QOwn.put {w : World} {B g c : Nat} {q : List Pt} (h : QOwn w B (.slice (some ⟨g, 0, none⟩) q.length c) q) (k : Nat) (hk : k < q.length) (x y : Int) :
    QOwn ((w.setCell ⟨g, k * 2, none⟩ (.int .i64 x)).setCell ⟨g, k * 2 + 1, none⟩ (.int .i64 y)) B (.slice (some ⟨g, 0, none⟩) q.length c) (q.set k (x, y)) := by
  have h1 := (World.ownsRow.stored h (k * 2) (.int .i64 x)).1
  have h2 := (World.ownsRow.stored h1 (k * 2 + 1) (.int .i64 y)).1
  unfold QOwn
  rw [List.length_set]
  have e : ((pcells q).set (k * 2) (.int .i64 x)).set (k * 2 + 1) (.int .i64 y) = pcells (q.set k (x, y)) := by
    clear h h1 h2
    induction q generalizing k with
    | nil => simp at hk
    | cons a r ih =>
      cases k with
      | zero => simp [pcells, pcell]
      | succ k =>
        have h3 := ih k (by simpa using hk)
        have e1 : pcells (a :: r) = .int .i64 a.1 :: .int .i64 a.2 :: pcells r := rfl
        rw [e1, show (k + 1) * 2 = k * 2 + 1 + 1 by omega]
        simp only [List.set_cons_succ]
        rw [h3]
        rfl
  rw [← e]
  exact h2
end Go.Proofs.YtgjbelcnkmcbiaaDoor
