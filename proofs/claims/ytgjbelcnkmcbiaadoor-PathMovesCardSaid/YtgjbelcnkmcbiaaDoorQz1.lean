/-
  Plain: the polygons of a path lie between its points, and no two neighbours are equal.
-/
import Derived.Test.YtgjbelcnkmcbiaaDoorQrf
namespace Go.Proofs.YtgjbelcnkmcbiaaDoor
open Go.RowKit

/-- Within the box. -/
def inB (lo hi p : Pt) : Prop := (lo.1 ≤ p.1 ∧ p.1 ≤ hi.1) ∧ lo.2 ≤ p.2 ∧ p.2 ≤ hi.2
theorem rd_in (x b lo hi : Int) (hb : 0 < b) (h0 : b * lo ≤ x) (h1 : x ≤ b * hi) : lo ≤ rdI x b ∧ rdI x b ≤ hi := by
  constructor
  · calc lo = rdI (b * lo) b := (rd_mul lo b hb).symm
      _ ≤ rdI x b := Int.ediv_le_ediv (by omega) (by omega)
  · calc rdI x b ≤ rdI (b * hi) b := Int.ediv_le_ediv (by omega) (by omega)
      _ = hi := rd_mul hi b hb
theorem quad_in (a b c k lo hi : Int) (h1 : 1 ≤ k) (h8 : k ≤ 8) (ha : lo ≤ a ∧ a ≤ hi) (hb : lo ≤ b ∧ b ≤ hi) (hc : lo ≤ c ∧ c ≤ hi) : lo ≤ qdI a b c k ∧ qdI a b c k ≤ hi := by
  unfold qdI
  rcases (by omega : k = 1 ∨ k = 2 ∨ k = 3 ∨ k = 4 ∨ k = 5 ∨ k = 6 ∨ k = 7 ∨ k = 8) with rfl | rfl | rfl | rfl | rfl | rfl | rfl | rfl
  all_goals exact rd_in _ 64 lo hi (by decide) (by omega) (by omega)
theorem cubic_in (a b c d k lo hi : Int) (h1 : 1 ≤ k) (h8 : k ≤ 16) (ha : lo ≤ a ∧ a ≤ hi) (hb : lo ≤ b ∧ b ≤ hi) (hc : lo ≤ c ∧ c ≤ hi) (hd : lo ≤ d ∧ d ≤ hi) : lo ≤ cbI a b c d k ∧ cbI a b c d k ≤ hi := by
  unfold cbI
  rcases (by omega : k = 1 ∨ k = 2 ∨ k = 3 ∨ k = 4 ∨ k = 5 ∨ k = 6 ∨ k = 7 ∨ k = 8 ∨ k = 9 ∨ k = 10 ∨ k = 11 ∨ k = 12 ∨ k = 13 ∨ k = 14 ∨ k = 15 ∨ k = 16) with rfl | rfl | rfl | rfl | rfl | rfl | rfl | rfl | rfl | rfl | rfl | rfl | rfl | rfl | rfl | rfl
  all_goals exact rd_in _ 4096 lo hi (by decide) (by omega) (by omega)
/-- A polygon within the box, no two neighbours equal. -/
structure GP (lo hi : Pt) (q : List Pt) : Prop where
  ne : q ≠ []
  inn : ∀ z ∈ q, inB lo hi z
  dif : ∀ k (h : k + 1 < q.length), q[k + 1] ≠ q[k]
theorem GP.push {lo hi : Pt} {q : List Pt} (h : GP lo hi q) {z : Pt} (hz : inB lo hi z) : GP lo hi (pushP q z) := by
  unfold pushP
  split
  · exact h
  · rename_i e
    refine ⟨by simp, ?_, ?_⟩
    · intro y hy
      rcases List.mem_append.1 hy with hy | hy
      · exact h.inn y hy
      · simp at hy; subst hy; exact hz
    · intro k hk
      by_cases hk2 : k + 1 < q.length
      · rw [List.getElem_append_left hk2, List.getElem_append_left (by omega)]; exact h.dif k hk2
      · have hk3 : k + 1 = q.length := by simp at hk; omega
        rw [List.getElem_append_right (by omega), List.getElem_append_left (by omega)]
        intro e2
        apply e
        rw [List.getLast?_eq_getElem?, List.getElem?_eq_getElem (by omega)]
        have : q.length - 1 = k := by omega
        simp only [this]
        rw [← e2]; simp
theorem GP.one {lo hi z : Pt} (hz : inB lo hi z) : GP lo hi [z] :=
  ⟨by simp, by intro y hy; simp at hy; subst hy; exact hz, by intro k hk; simp at hk⟩
theorem GP.quad {lo hi : Pt} {q : List Pt} (h : GP lo hi q) {p a b : Pt} (hp : inB lo hi p) (ha : inB lo hi a) (hb : inB lo hi b) : ∀ n, n ≤ 8 → GP lo hi (quadL q p a b n)
  | 0, _ => h
  | n + 1, hn => by
    rw [quadL_succ]
    exact (GP.quad h hp ha hb n (by omega)).push ⟨quad_in _ _ _ _ _ _ (by omega) (by omega) hp.1 ha.1 hb.1, quad_in _ _ _ _ _ _ (by omega) (by omega) hp.2 ha.2 hb.2⟩
theorem GP.cubic {lo hi : Pt} {q : List Pt} (h : GP lo hi q) {p a b c : Pt} (hp : inB lo hi p) (ha : inB lo hi a) (hb : inB lo hi b) (hc : inB lo hi c) : ∀ n, n ≤ 16 → GP lo hi (cubicL q p a b c n)
  | 0, _ => h
  | n + 1, hn => by
    rw [cubicL_succ]
    exact (GP.cubic h hp ha hb hc n (by omega)).push ⟨cubic_in _ _ _ _ _ _ _ (by omega) (by omega) hp.1 ha.1 hb.1 hc.1, cubic_in _ _ _ _ _ _ _ (by omega) (by omega) hp.2 ha.2 hb.2 hc.2⟩
theorem GP.bend {lo hi p : Pt} {q : List Pt} (h : GP lo hi q) (hp : inB lo hi p) {s : Sg} (hs : ∀ k, k < usedP s.1 → inB lo hi (s.pt k)) : GP lo hi (bendP q p s) := by
  unfold bendP
  split
  · rename_i e; exact h.push (hs 0 (by rw [e]; decide))
  · split
    · rename_i e; exact h.quad hp (hs 0 (by rw [e]; decide)) (hs 1 (by rw [e]; decide)) 8 (Nat.le_refl _)
    · split
      · rename_i e; exact h.cubic hp (hs 0 (by rw [e]; decide)) (hs 1 (by rw [e]; decide)) (hs 2 (by rw [e]; decide)) 16 (Nat.le_refl _)
      · exact h
theorem cur_in {lo hi p : Pt} (hp : inB lo hi p) {s : Sg} (hs : ∀ k, k < usedP s.1 → inB lo hi (s.pt k)) : inB lo hi (curP p s) := by
  unfold curP
  split
  · rename_i e; exact hs 0 (by rw [e]; decide)
  split
  · rename_i e; exact hs 0 (by rw [e]; decide)
  split
  · rename_i e; exact hs 1 (by rw [e]; decide)
  split
  · rename_i e; exact hs 2 (by rw [e]; decide)
  exact hp
theorem hull_go {lo hi : Pt} (l : List Sg) (hl : ∀ s ∈ l, ∀ k, k < usedP s.1 → inB lo hi (s.pt k)) :
    ∀ (out : List (List Pt)) (p : Pt), (∀ q ∈ out, GP lo hi q) → (moveNext l = true ∨ (out ≠ [] ∧ inB lo hi p)) → ∀ q ∈ rGo out p l, GP lo hi q := by
  induction l with
  | nil => exact fun out p h _ => h
  | cons s r ih =>
    intro out p h hc
    rw [rGo_cons]
    have hs := hl s (by simp)
    refine ih (fun t ht => hl t (by simp [ht])) _ _ ?_ (.inr ⟨by split <;> simp, ?_⟩)
    · split
      · rename_i e
        intro q hq
        rcases List.mem_append.1 hq with hq | hq
        · exact h q hq
        · simp at hq; subst hq; exact GP.one (hs 0 (by rw [e]; decide))
      · rename_i e
        rcases hc with hc | ⟨hne, hp⟩
        · exact absurd (by simpa [moveNext] using hc) e
        · intro q hq
          rcases List.mem_append.1 hq with hq | hq
          · exact h q (List.dropLast_subset _ hq)
          · simp at hq; subst hq
            have : out.getLast?.getD [] = out.getLast hne := by rw [List.getLast?_eq_some_getLast hne]; rfl
            rw [this]
            exact (h _ (List.getLast_mem hne)).bend hp hs
    · rcases hc with hc | ⟨hne, hp⟩
      · have e : s.1 = 1 := by simpa [moveNext] using hc
        rw [cur_move e]; exact hs 0 (by rw [e]; decide)
      · exact cur_in hp hs
theorem move_first {l : List Sg} (h : chkP l = 0) : moveNext l = true := by
  cases l with
  | nil => rfl
  | cons s r =>
    obtain ⟨-, h2⟩ := chkP_ok h
    rcases (h2 0 (by simp)).ord with h3 | ⟨p, h4, -⟩
    · simpa [moveNext] using h3
    · cases h4
theorem hull {l : List Sg} (h : chkP l = 0) {lo hi : Pt} (hl : ∀ s ∈ l, ∀ k, k < usedP s.1 → inB lo hi (s.pt k)) : ∀ q ∈ flP l, GP lo hi q := by
  rw [← ref_fl h]
  exact hull_go l hl _ _ (by simp) (.inl (move_first h))
/-! ### First and last points -/
def hdP (q : List Pt) : Pt := q.head?.getD (0, 0)
theorem push_hd (q : List Pt) (z : Pt) (h : q ≠ []) : (pushP q z).head? = q.head? := by
  unfold pushP; split
  · rfl
  · cases q with
    | nil => exact absurd rfl h
    | cons a r => rfl
theorem quadL_hd (l : List Pt) (p a b : Pt) (h : l ≠ []) : ∀ n, (quadL l p a b n).head? = l.head?
  | 0 => rfl
  | n + 1 => by rw [quadL_succ, push_hd _ _ ((quadL_len l p a b n).2 h)]; exact quadL_hd l p a b h n
theorem cubicL_hd (l : List Pt) (p a b c : Pt) (h : l ≠ []) : ∀ n, (cubicL l p a b c n).head? = l.head?
  | 0 => rfl
  | n + 1 => by rw [cubicL_succ, push_hd _ _ ((cubicL_len l p a b c n).2 h)]; exact cubicL_hd l p a b c h n
theorem bend_hd (l : List Pt) (p : Pt) (s : Sg) (h : l ≠ []) : hdP (bendP l p s) = hdP l := by
  unfold hdP bendP
  split
  · rw [push_hd _ _ h]
  split
  · rw [quadL_hd _ _ _ _ h]
  split
  · rw [cubicL_hd _ _ _ _ _ h]
  rfl
/-- The state of 'ends': what the reference has so far. -/
structure EnSt (out : List (List Pt)) (p : Pt) (fs ls : List Pt) : Prop where
  f : fs = out.map hdP
  l : ls = out.map lastP
  ne : ∀ q ∈ out, q ≠ []
  cur : out ≠ [] → ls.getLast? = some p
theorem EnSt.move {out : List (List Pt)} {p : Pt} {fs ls : List Pt} (h : EnSt out p fs ls) (z : Pt) : EnSt (out ++ [[z]]) z (fs ++ [z]) (ls ++ [z]) :=
  ⟨by rw [h.f]; simp [hdP], by rw [h.l]; simp [lastP], by intro q hq; rcases List.mem_append.1 hq with hq | hq; exact h.ne q hq; simp at hq; subst hq; simp, fun _ => by simp⟩
theorem EnSt.go {out : List (List Pt)} {p : Pt} {fs ls : List Pt} (h : EnSt out p fs ls) (hne : out ≠ []) {s : Sg} (h1 : s.1 ≠ 1) :
    EnSt (out.dropLast ++ [bendP (out.getLast?.getD []) p s]) (curP p s) fs (ls.dropLast ++ [curP p s]) := by
  obtain ⟨a, b, rfl⟩ : ∃ a b, out = a ++ [b] := ⟨_, _, (List.dropLast_concat_getLast hne).symm⟩
  have hb : b ≠ [] := h.ne b (by simp)
  have hl : b.getLast? = some p := by
    have := h.cur hne
    rw [h.l] at this
    simp [lastP] at this
    cases hq : b.getLast? with
    | none => simp at hq; exact absurd hq hb
    | some z => rw [hq] at this; simp at this; rw [this]
  have hg : (a ++ [b]).getLast?.getD [] = b := by simp
  rw [hg, List.dropLast_concat]
  have hbl := bend_last b p s h1 hl
  refine ⟨?_, ?_, ?_, fun _ => by simp⟩
  · rw [h.f]; simp [bend_hd b p s hb]
  · rw [h.l, List.map_append, List.map_append, List.map_singleton, List.map_singleton, List.dropLast_concat]
    unfold lastP
    rw [hbl]; rfl
  · intro q hq
    rcases List.mem_append.1 hq with hq | hq
    · exact h.ne q (by simp [hq])
    · simp at hq; subst hq; intro e; rw [e] at hbl; cases hbl
end Go.Proofs.YtgjbelcnkmcbiaaDoor
