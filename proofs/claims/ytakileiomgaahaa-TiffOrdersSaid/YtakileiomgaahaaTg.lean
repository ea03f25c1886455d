/-
  Rows of ints and of tags that a call owns; the tags of a file, plainly.
-/
import Derived.Test.YtakileiomgaahaaTi7
namespace Go.Proofs.Ytakileiomgaahaa
open Go.RowKit

def icells (l : List Nat) : List Value := l.map fun (n : Nat) => Value.int .i64 (n : Int)
theorem icells_append (a b : List Nat) : icells (a ++ b) = icells a ++ icells b := by simp [icells]
theorem icells_get (l : List Nat) (i : Nat) (h : i < l.length) : (icells l)[i]? = some (.int .i64 (l[i] : Int)) := by simp [icells, h]
/-- The call's own row of ints. -/
def ORow (w : World) (base : Nat) (v : Value) (l : List Nat) : Prop := w.ownsRow base 3 1 v l.length (icells l)
theorem el_int : Elem Try.prog 68 3 (.int .i64 0) 1 8 := by
  refine ⟨Try.underlying68, ?_, rfl, by decide⟩
  exact info_parts (by kernel_rfl)
theorem orow_more {w : World} {base : Nat} {v : Value} {n : Nat} {l : List Nat} {xs : List Value} (h : w.ownsRow base 3 1 v n (icells l ++ xs)) (new : List Nat) (hx : xs = icells new) (hn : n = l.length + new.length) : ORow w base v (l ++ new) := by
  subst hx; subst hn
  unfold ORow
  rw [icells_append, List.length_append]
  exact h
theorem orow_nil (w : World) (B : Nat) : ORow w B (.slice none 0 0) [] := World.ownsRow_nil _ _ _ _
theorem ORow.shape {w : World} {b : Nat} {v : Value} {l : List Nat} (h : ORow w b v l) : ∃ x c, v = .slice x l.length c := by
  rcases h.2 with ⟨rfl, h0⟩ | ⟨g, cap, cur, rfl, _⟩
  · exact ⟨none, 0, by rw [h0]⟩
  · exact ⟨_, _, rfl⟩
theorem ORow.one {w : World} {b : Nat} {v : Value} {l : List Nat} (h : ORow w b v l) : v.oneCell' = true := by obtain ⟨x, c, rfl⟩ := h.shape; rfl
theorem own_weaken {w : World} {B B' : Nat} (hB : B' ≤ B) {e : TypeId} {size : Nat} {v : Value} {n : Nat} {xs : List Value} (h : w.ownsRow B e size v n xs) : w.ownsRow B' e size v n xs := by
  refine ⟨h.1, ?_⟩
  rcases h.2 with hn | ⟨g, cap, cur, rfl, hb, rest⟩
  · exact .inl hn
  · exact .inr ⟨g, cap, cur, rfl, Nat.le_trans hB hb, rest⟩
theorem own_below {w w' : World} {B : Nat} {e : TypeId} {size : Nat} {v : Value} {n : Nat} {xs : List Value} (h : w.ownsRow B e size v n xs) (hb : Below w.heap.size w w') : w'.ownsRow B e size v n xs := (Fr.of_below (B := 0) hb []).owns h (by simp)
/-- Cell i of a row of ints. -/
theorem ORow.get {w : World} {b : Nat} {x : Option Addr} {n c : Nat} {l : List Nat} (h : ORow w b (.slice x n c) l) : n = l.length ∧ n ≤ c ∧ c ≤ maxLen ∧ (∀ (i : Nat) (_ : i < l.length), ∃ g, x = some ⟨g, 0, none⟩) ∧ (∀ g, x = some ⟨g, 0, none⟩ → ∀ (i : Nat) (hi : i < l.length), w.cell? ⟨g, i, none⟩ = some (.int .i64 (l[i] : Int))) := by
  rcases h.2 with ⟨h1, h0⟩ | ⟨g, cap, cur, h1, hg, hh, hc, hm, _⟩
  · cases h1
    refine ⟨h0.symm, Nat.le_refl _, Nat.zero_le _, fun i hi => by omega, fun g hg => by cases hg⟩
  · injection h1 with h1 h2 h3
    subst h1; subst h2; subst h3
    refine ⟨rfl, hc, hm, fun i _ => ⟨g, rfl⟩, fun g' hg' i hi => ?_⟩
    obtain rfl : g = g' := by injection hg' with h; injection h
    have := World.ownsRow.cells h (g := g) rfl i _ (icells_get l i hi)
    rw [Addr.add_lit] at this
    simpa using this

/-- A tag. -/
structure Tg where
  id : Nat
  ty : Nat
  vals : List Nat
  text : List UInt8
def tag0 : Tg := ⟨0, 0, [], []⟩
/-- The cells of a tag whose values lie in the slice v. -/
def tcA (t : Tg) (v : Value) : Array Value := #[.int .i64 t.id, .int .i64 t.ty, v, .string ⟨t.text.toArray⟩]
theorem tcA_inf (t : Tg) (v : Value) : (Try.prog.info? 70).map (·.size) = some (tcA t v).size := by show _ = some 4; kernel_rfl
theorem tcA_one (t : Tg) (v : Value) (hv : v.oneCell' = true) : (tcA t v).all (·.oneCell') = true := by
  unfold Value.oneCell' at hv
  simp [tcA, Value.oneCell']; exact hv
def tcells (L : List (Tg × Value)) : List Value := L.flatMap fun p => (tcA p.1 p.2).toList
theorem tcells_append (a b : List (Tg × Value)) : tcells (a ++ b) = tcells a ++ tcells b := by simp [tcells]
theorem tcells_one (t : Tg) (v : Value) : tcells [(t, v)] = [.int .i64 t.id, .int .i64 t.ty, v, .string ⟨t.text.toArray⟩] := rfl
theorem tcells_length (L : List (Tg × Value)) : (tcells L).length = L.length * 4 := by
  induction L with
  | nil => rfl
  | cons t l ih => simp [tcells, tcA] at ih ⊢; omega
theorem tcells_get (L : List (Tg × Value)) (i : Nat) (h : i < L.length) (j : Nat) (hj : j < 4) : (tcells L)[i * 4 + j]? = (tcA L[i].1 L[i].2)[j]? := by
  induction L generalizing i with
  | nil => simp at h
  | cons t l ih =>
    have e : tcells (t :: l) = (tcA t.1 t.2).toList ++ tcells l := rfl
    have hl : (tcA t.1 t.2).toList.length = 4 := rfl
    rw [e]
    cases i with
    | zero =>
      rw [List.getElem?_append_left (by rw [hl]; omega)]
      simp
    | succ i =>
      rw [List.getElem?_append_right (by rw [hl]; omega), hl, show (i + 1) * 4 + j - 4 = i * 4 + j by omega]
      exact ih i (by simpa using h)
theorem el_tag : Elem Try.prog 29 70 (.agg (tcA tag0 (.slice none 0 0))) 4 56 := by
  refine ⟨Try.underlying29, ?_, rfl, by decide⟩
  exact info_parts (by kernel_rfl)
/-- The slice value v owns a row of tags, from block base on; their values lie in rows of their own. -/
def TOwn (w : World) (base : Nat) (v : Value) (l : List Tg) : Prop := ∃ L : List (Tg × Value), L.map (·.1) = l ∧ w.ownsRow base 70 4 v L.length (tcells L) ∧ ∀ p ∈ L, ORow w base p.2 p.1.vals
theorem town_nil (w : World) (B : Nat) : TOwn w B (.slice none 0 0) [] := ⟨[], rfl, World.ownsRow_nil _ _ _ _, fun p hp => by cases hp⟩
theorem TOwn.below {w w' : World} {B : Nat} {v : Value} {l : List Tg} (h : TOwn w B v l) (hb : Below w.heap.size w w') : TOwn w' B v l := by
  obtain ⟨L, h1, h2, h3⟩ := h
  exact ⟨L, h1, own_below h2 hb, fun p hp => own_below (h3 p hp) hb⟩
theorem TOwn.weaken {w : World} {B B' : Nat} (hB : B' ≤ B) {v : Value} {l : List Tg} (h : TOwn w B v l) : TOwn w B' v l := by
  obtain ⟨L, h1, h2, h3⟩ := h
  exact ⟨L, h1, own_weaken hB h2, fun p hp => own_weaken hB (h3 p hp)⟩
theorem TOwn.shape {w : World} {b : Nat} {v : Value} {l : List Tg} (h : TOwn w b v l) : ∃ x c, v = .slice x l.length c := by
  obtain ⟨L, rfl, h2, _⟩ := h
  rw [List.length_map]
  rcases h2.2 with ⟨rfl, h0⟩ | ⟨g, cap, cur, rfl, _⟩
  · exact ⟨none, 0, by rw [h0]⟩
  · exact ⟨_, _, rfl⟩

/-- The number of n bytes at a place. -/
def nAt (big : Bool) (s : List UInt8) (p n : Nat) : Nat := numB big ((s.drop p).take n)
def szT (ty : Nat) : Nat := if ty = 3 then 2 else if ty = 4 then 4 else 1
def mostT (ty : Nat) : Nat := if ty = 2 then 8192 else 256
/-- Where the values of a tag lie. -/
def plT (big : Bool) (s : List UInt8) (p n z : Nat) : Nat := if 4 < n * z then nAt big s (p + 8) 4 else p + 8
/-- The tag at a place. -/
def tagP (big : Bool) (s : List UInt8) (p : Nat) : Except Nat Tg :=
  if nAt big s (p + 2) 2 < 1 ∨ 4 < nAt big s (p + 2) 2 then .error 8
  else if mostT (nAt big s (p + 2) 2) < nAt big s (p + 4) 4 then .error 3
  else if s.length < plT big s p (nAt big s (p + 4) 4) (szT (nAt big s (p + 2) 2)) + nAt big s (p + 4) 4 * szT (nAt big s (p + 2) 2) then .error 2
  else if nAt big s (p + 2) 2 = 2 then
    if nAt big s (p + 4) 4 = 0 then .error 4
    else .ok ⟨nAt big s p 2, 2, [], (s.drop (plT big s p (nAt big s (p + 4) 4) 1)).take (nAt big s (p + 4) 4 - 1)⟩
  else .ok ⟨nAt big s p 2, nAt big s (p + 2) 2, (List.range (nAt big s (p + 4) 4)).map fun k => nAt big s (plT big s p (nAt big s (p + 4) 4) (szT (nAt big s (p + 2) 2)) + k * szT (nAt big s (p + 2) 2)) (szT (nAt big s (p + 2) 2)), []⟩
theorem nAt_lt (big : Bool) (s : List UInt8) (p n : Nat) : nAt big s p n < 256 ^ n := by
  have h := numB_lt big ((s.drop p).take n)
  have h2 : ((s.drop p).take n).length ≤ n := by rw [List.length_take]; omega
  exact Nat.lt_of_lt_of_le h (Nat.pow_le_pow_right (by decide) h2)
end Go.Proofs.Ytakileiomgaahaa
