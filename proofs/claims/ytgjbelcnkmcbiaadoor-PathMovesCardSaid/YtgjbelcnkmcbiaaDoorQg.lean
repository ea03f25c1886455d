/-
  Walk: path.Flatten: the polygons of a path, or the error.
-/
import Derived.Test.YtgjbelcnkmcbiaaDoorQe2
import Derived.Test.YtgjbelcnkmcbiaaDoorQf
namespace Go.Proofs.YtgjbelcnkmcbiaaDoor
open Go.RowKit

/-- A polygon's row that lies below block b. -/
def PolyAt (w : World) (b : Nat) (u : Value) (q : List Pt) : Prop := ∃ B', QOwn w B' u q ∧ ∀ k, u.ownBlock = some k → k < b
theorem PolyAt.mono {w : World} {b b' : Nat} {u : Value} {q : List Pt} (h : PolyAt w b u q) (hb : b ≤ b') : PolyAt w b' u q := by
  obtain ⟨B', h1, h2⟩ := h
  exact ⟨B', h1, fun k hk => Nat.lt_of_lt_of_le (h2 k hk) hb⟩
theorem PolyAt.kept {w w' : World} {b : Nat} {u : Value} {q : List Pt} (h : PolyAt w b u q) (hk : ∀ k cs, k < b → Blk w k 32 cs → Blk w' k 32 cs) : PolyAt w' b u q := by
  obtain ⟨B', h1, h2⟩ := h
  refine ⟨B', ⟨h1.1, ?_⟩, h2⟩
  rcases h1.2 with h | ⟨g, cap, cur, rfl, hb, hg, rest⟩
  · exact .inl h
  · exact .inr ⟨g, cap, cur, rfl, hb, hk g cur (h2 g rfl) hg, rest⟩
theorem PolyAt.fr {w w' : World} {b : Nat} {T : List TypeId} {u : Value} {q : List Pt} (h : PolyAt w b u q) (hf : Fr b T w w') : PolyAt w' b u q := h.kept fun _ _ hk hb => hf.blk_lt hb hk
theorem PolyAt.row {w : World} {b : Nat} {u : Value} {q : List Pt} (h : PolyAt w b u q) : QRow w u q := by
  obtain ⟨B', h1, -⟩ := h; exact h1.row
/-- The slice value v owns a row, from block B on, of polygons that lie below b. -/
def GOwn (w : World) (B b : Nat) (v : Value) (ps : List (List Pt)) : Prop :=
  ∃ us : List Value, us.length = ps.length ∧ w.ownsRow B 37 1 v ps.length us ∧ (∀ u ∈ us, u.oneCell' = true) ∧ ∀ i (h : i < ps.length) (h' : i < us.length), PolyAt w b us[i] ps[i]
theorem gown_nil (w : World) (B b : Nat) : GOwn w B b (.slice none 0 0) [] := ⟨[], rfl, World.ownsRow_nil _ _ _ _, by simp, fun i h => by cases h⟩
theorem GOwn.shape {w : World} {B b : Nat} {v : Value} {ps : List (List Pt)} (h : GOwn w B b v ps) : ∃ x c, v = .slice x ps.length c := by
  obtain ⟨us, -, h2, -⟩ := h
  rcases h2.2 with ⟨rfl, h0⟩ | ⟨g, cap, cur, rfl, _⟩
  · exact ⟨none, 0, by rw [h0]⟩
  · exact ⟨_, _, rfl⟩
theorem GOwn.fr {w w' : World} {B b : Nat} {v : Value} {ps : List (List Pt)} (h : GOwn w B b v ps) (hf : Fr b [32] w w') : GOwn w' B b v ps := by
  obtain ⟨us, h1, h2, h3, h4⟩ := h
  exact ⟨us, h1, hf.owns h2 (by decide), h3, fun i h h' => (h4 i h h').fr hf⟩
theorem GOwn.below {w w' : World} {B b : Nat} {v : Value} {ps : List (List Pt)} (h : GOwn w B b v ps) (hb : Below w.heap.size w w') : GOwn w' B b v ps := by
  obtain ⟨us, h1, h2, h3, h4⟩ := h
  refine ⟨us, h1, (Fr.of_below (B := 0) hb []).owns h2 (by simp), h3, fun i h h' => (h4 i h h').kept fun k cs hk hbk => (hb.block k hbk.lt).trans hbk⟩
theorem GOwn.mono {w : World} {B b b' : Nat} {v : Value} {ps : List (List Pt)} (h : GOwn w B b v ps) (hb : b ≤ b') : GOwn w B b' v ps := by
  obtain ⟨us, h1, h2, h3, h4⟩ := h
  exact ⟨us, h1, h2, h3, fun i h h' => (h4 i h h').mono hb⟩
theorem GOwn.row {w : World} {B b : Nat} {v : Value} {ps : List (List Pt)} (h : GOwn w B b v ps) : GRow w v ps := by
  obtain ⟨us, h1, h2, h3, h4⟩ := h
  rcases id h2.2 with ⟨rfl, h0⟩ | ⟨g, cap, cur, rfl, _, hg, hc, hm, _⟩
  · have : ps = [] := List.eq_nil_of_length_eq_zero h0
    subst this
    exact grow_nil w
  · refine ⟨_, cap, rfl, hc, hm, (fun h => by cases h), fun _ => ⟨g, 0, rfl, fun i hi => ?_⟩⟩
    have a1 := World.ownsRow.cells h2 (g := g) rfl i _ (List.getElem?_eq_getElem (by omega))
    rw [Addr.add_lit] at a1
    exact ⟨_, a1, (h4 i hi (by omega)).row⟩
theorem el_poly : Elem Tryd.prog 23 37 (.slice none 0 0) 1 24 := by
  refine ⟨Tryd.underlying23, ?_, rfl, by decide⟩
  exact info_parts (by kernel_rfl)
theorem GOwn.more {w w' : World} {B b : Nat} {v v' u : Value} {ps : List (List Pt)} {q : List Pt} {us : List Value} {n : Nat} (hl : us.length = ps.length) (h2 : w.ownsRow B 37 1 v ps.length us) (h3 : ∀ u ∈ us, u.oneCell' = true) (h4 : ∀ i (h : i < ps.length) (h' : i < us.length), PolyAt w b us[i] ps[i])
    (hu : PolyAt w b u q) (hu1 : u.oneCell' = true) (hn : n = ps.length + 1) (h5 : w'.ownsRow B 37 1 v' n (us ++ [u])) (hk : ∀ k cs, k < b → Blk w k 32 cs → Blk w' k 32 cs) : GOwn w' B b v' (ps ++ [q]) := by
  subst hn
  refine ⟨us ++ [u], by simp [hl], by simpa using h5, ?_, fun i h h' => ?_⟩
  · intro x hx
    rcases List.mem_append.1 hx with hx | hx
    · exact h3 x hx
    · simp at hx; rw [hx]; exact hu1
  · by_cases hi : i < ps.length
    · rw [List.getElem_append_left (by omega), List.getElem_append_left hi]
      exact (h4 i hi (by omega)).kept hk
    · have hi2 : i = ps.length := by simp at h; omega
      subst hi2
      rw [List.getElem_append_right (by omega), List.getElem_append_right (by omega)]
      simpa [hl] using hu.kept hk
theorem flGo_at (ps : List (List Pt)) (q : List Pt) (l : List Sg) (i : Nat) (hi : i < l.length) (s : Sg) (hs : l[i] = s) :
    flGo ps q (l.drop i) = flGo (if moveNext (l.drop (i + 1)) = true then ps ++ [if s.1 = 1 then [s.2.1] else bendP q (lastP q) s] else ps) (if s.1 = 1 then [s.2.1] else bendP q (lastP q) s) (l.drop (i + 1)) := by
  rw [List.drop_eq_getElem_cons hi, hs]; rfl
theorem move_next (l : List Sg) (i : Nat) (hi : i < l.length) : moveNext (l.drop (i + 1)) = true ↔ (i + 1 = l.length ∨ ∃ h : i + 1 < l.length, l[i + 1].1 = 1) := by
  by_cases h : i + 1 < l.length
  · rw [List.drop_eq_getElem_cons h]
    show ((l[i + 1].1 == 1) = true) ↔ _
    constructor
    · intro e; exact .inr ⟨h, by simpa using e⟩
    · rintro (e | ⟨_, e⟩)
      · omega
      · simpa using e
  · rw [List.drop_of_length_le (by omega)]
    exact ⟨fun _ => .inl (by omega), fun _ => rfl⟩
/-- The polygon under way, where the next segment adds to it. -/
structure Live (wr : World) (b i : Nat) (v : Value) (q : List Pt) : Prop where
  ow : QOwn wr b v q
  la : ∃ p, q.getLast? = some p ∧ nearP p
  ln : q.length ≤ 16 * i + 1
theorem SRow.at {w : World} {x : Option Addr} {c : Nat} {l : List Sg} (h : SRow w (.slice x l.length c) l) (i : Nat) (hi : i < l.length) : ∃ b off, x = some ⟨b, off, none⟩ ∧ (∀ j (hj : j < l.length), SCell w b off j l[j]) ∧ l.length ≤ c := by
  obtain ⟨x', c', hv, h1, -, -, h4⟩ := h
  cases hv
  obtain ⟨b, off, rfl, hc⟩ := h4 (by rintro rfl; cases hi)
  exact ⟨b, off, rfl, hc, h1⟩
end Go.Proofs.YtgjbelcnkmcbiaaDoor
