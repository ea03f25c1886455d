/-
  Plain laws: what Decode accepts is valid.
-/
import Derived.Test.YtakkdgcmeeilbaaDoorPix2
namespace Go.Proofs.YtakkdgcmeeilbaaDoor
open Go

theorem rdI_range (x g : Nat) (hg : 1 ≤ g) (hx : x ≤ g) : 0 ≤ rdI ((x * 65535 : Nat) : Int) g ∧ rdI ((x * 65535 : Nat) : Int) g ≤ 65535 := by
  unfold rdI
  have h1 : x * 65535 ≤ g * 65535 := Nat.mul_le_mul_right _ hx
  refine ⟨Int.ediv_nonneg (by omega) (by omega), ?_⟩
  apply Int.le_of_lt_add_one
  rw [Int.ediv_lt_iff_lt_mul (by omega)]
  omega
theorem uI_id (x : Int) (h0 : 0 ≤ x) (h1 : x ≤ 65535) : uI x = x := by
  unfold uI clampI; omega
theorem valP_of (p : Px) (h : (0 ≤ p.1 ∧ p.1 ≤ 65535) ∧ (0 ≤ p.2.1 ∧ p.2.1 ≤ 65535) ∧ (0 ≤ p.2.2.1 ∧ p.2.2.1 ≤ 65535) ∧ (0 ≤ p.2.2.2 ∧ p.2.2.2 ≤ 65535)) : valP p = true := by
  unfold valP
  rw [uI_id _ h.1.1 h.1.2, uI_id _ h.2.1.1 h.2.1.2, uI_id _ h.2.2.1.1 h.2.2.1.2, uI_id _ h.2.2.2.1 h.2.2.2.2]
  simp
theorem valS_range (two : Bool) (g : Nat) (l : List UInt8) (k d : Nat) (hg : 1 ≤ g) (ho : okS two d g l = true) (hk : k < d) : 0 ≤ valS two g l k ∧ valS two g l k ≤ 65535 := by
  have h := List.all_eq_true.1 ho k (List.mem_range.2 hk)
  exact rdI_range _ _ hg (by simpa using h)
theorem pxS_valid (two : Bool) (d g : Nat) (l : List UInt8) (hd1 : 1 ≤ d) (hd4 : d ≤ 4) (hg : 1 ≤ g) (ho : okS two d g l = true) : valP (pxS two d g l) = true := by
  have R := fun k hk => valS_range two g l k d hg ho hk
  have U : (0 : Int) ≤ 65535 ∧ (65535 : Int) ≤ 65535 := by decide
  unfold pxS
  split
  · exact valP_of _ ⟨R 0 (by omega), R 0 (by omega), R 0 (by omega), U⟩
  · split
    · exact valP_of _ ⟨R 0 (by omega), R 0 (by omega), R 0 (by omega), R 1 (by omega)⟩
    · split
      · exact valP_of _ ⟨R 0 (by omega), R 1 (by omega), R 2 (by omega), U⟩
      · exact valP_of _ ⟨R 0 (by omega), R 1 (by omega), R 2 (by omega), R 3 (by omega)⟩
/-- Metadata that a header may hold: valid entries with distinct keys, at most 16. -/
def GoodM (ms : List Mt) : Prop := DistK ms ∧ ms.length ≤ 16 ∧ ∀ m ∈ ms, isK m.1 = true ∧ isV m.2 = true
theorem entL_good (line : List UInt8) (m : Mt) (h : entL line = some m) : isK m.1 = true ∧ isV m.2 = true := by
  unfold entL at h
  split at h
  · cases h
  · split at h
    · split at h
      · cases h
      · split at h
        · cases h
        · rename_i h1 h2
          cases h
          exact ⟨by simpa using h1, by simpa using h2⟩
    · cases h
theorem addP_good (ms : List Mt) (line : List UInt8) (h : GoodM ms) : GoodM (addP ms line) := by
  refine ⟨addP_dist _ _ h.1, addP_le _ _ h.2.1, fun m hm => ?_⟩
  unfold addP at hm
  cases he : entL line with
  | none => rw [he] at hm; exact h.2.2 m hm
  | some q =>
    rw [he] at hm
    simp only at hm
    split at hm
    · exact h.2.2 m hm
    · rcases List.mem_append.1 hm with hm | hm
      · exact h.2.2 m hm
      · simp at hm; subst hm
        exact entL_good line m he
theorem lineP_ms (line : List UInt8) (vs vs' : List (Option Nat)) (ms ms' : List Mt) (h : lineP line vs ms = some (vs', ms')) (hg : GoodM ms) : GoodM ms' := by
  unfold lineP at h
  split at h
  · cases h; exact hg
  · split at h
    · cases h; exact addP_good _ _ hg
    · cases hn : numL line with
      | none => rw [hn] at h; cases h
      | some kn =>
        rw [hn] at h
        simp only at h
        cases hs : setL4 vs kn.1 kn.2 with
        | none => rw [hs] at h; cases h
        | some vs2 => rw [hs] at h; cases h; exact hg
theorem linesF_ms (f : Nat) (u : List UInt8) (vs vs' : List (Option Nat)) (ms ms' : List Mt) (r : List UInt8) (h : linesF f u vs ms = some (vs', ms', r)) (hg : GoodM ms) : GoodM ms' := by
  induction f generalizing u vs ms with
  | zero => cases h
  | succ f ih =>
    unfold linesF at h
    split at h
    · split at h
      · cases h; exact hg
      · cases hl : lineP (u.take (fnd 10 u)) vs ms with
        | none => rw [hl] at h; cases h
        | some q =>
          rw [hl] at h
          exact ih _ _ _ h (lineP_ms _ _ _ _ _ hl hg)
    · cases h
theorem chkGo_sorted (l : List Mt) (p : Option Mt) (hs : l.Pairwise ltM) (hv : ∀ m ∈ l, isK m.1 = true ∧ isV m.2 = true) (hp : ∀ q, p = some q → ∀ m ∈ l, ltM q m) : chkGo p l = 0 := by
  induction l generalizing p with
  | nil => rfl
  | cons m l ih =>
    rw [List.pairwise_cons] at hs
    have he : entP p m = 0 := by
      unfold entP
      have hm := hv m List.mem_cons_self
      rw [if_neg (by rw [hm.1]; decide), if_neg (by rw [hm.2]; decide)]
      cases p with
      | none => rfl
      | some q =>
        have hl : ltM q m := hp q rfl m List.mem_cons_self
        simp only
        rw [if_neg]
        unfold leK
        intro h
        rw [Bool.or_eq_true] at h
        rcases h with h | h
        · have := less_trans _ _ _ hl h
          rw [less_irrefl] at this; cases this
        · have e : m.1 = q.1 := by simpa using h
          unfold ltM at hl
          rw [e, less_irrefl] at hl; cases hl
    rw [chkGo, if_pos he]
    exact ih (some m) hs.2 (fun x hx => hv x (List.mem_cons_of_mem _ hx)) (fun q hq x hx => by cases hq; exact hs.1 x hx)
theorem sortM_chk (ms : List Mt) (hg : GoodM ms) : chkP (sortM ms) = 0 ∧ ∀ m ∈ sortM ms, m.1.length ≤ 256 ∧ m.2.length ≤ 256 := by
  obtain ⟨h1, h2⟩ := sortM_perm ms hg.1
  have hv : ∀ m ∈ sortM ms, isK m.1 = true ∧ isV m.2 = true := fun m hm => hg.2.2 m (h1.mem_iff.1 hm)
  have hl : (sortM ms).length ≤ 16 := by rw [h1.length_eq]; exact hg.2.1
  refine ⟨?_, fun m hm => ?_⟩
  · unfold chkP
    rw [if_neg (by omega)]
    exact chkGo_sorted _ none h2 hv (fun q hq => by cases hq)
  · obtain ⟨a, b⟩ := hv m hm
    unfold isK okTxt at a
    unfold isV okTxt at b
    simp only [Bool.and_eq_true, decide_eq_true_eq] at a b
    omega
theorem goodM_nil : GoodM [] := ⟨List.Pairwise.nil, by simp, fun m hm => by cases hm⟩
theorem headP_ms (l : List UInt8) (w h d g : Nat) (ms : List Mt) (r : List UInt8) (he : headP l = some (w, h, d, g, ms, r)) : ∃ m0, GoodM m0 ∧ ms = sortM m0 := by
  have hpl : ∀ d0 u, toHd (plainP d0 u) = some (w, h, d, g, ms, r) → ∃ m0, GoodM m0 ∧ ms = sortM m0 := by
    intro d0 u he
    cases hp : plainP d0 u with
    | none => rw [hp] at he; cases he
    | some q =>
      rw [hp] at he
      obtain ⟨a, b, c, e, f⟩ := q
      cases he
      exact ⟨[], goodM_nil, rfl⟩
  unfold headP at he
  split at he
  · unfold sevP at he
    cases hl : linesP (l.drop 3) [none, none, none, none] [] with
    | none => rw [hl] at he; cases he
    | some q =>
      obtain ⟨vs, m0, r0⟩ := q
      rw [hl] at he
      have hg := linesF_ms _ _ _ _ _ _ _ hl goodM_nil
      match vs, he with
      | [some a, some b, some c, some e], he => cases he; exact ⟨m0, hg, rfl⟩
  · split at he
    · exact hpl _ _ he
    · split at he
      · exact hpl _ _ he
      · cases he
/-- What is read is valid. -/
theorem decP_valid (l : List UInt8) (W H : Nat) (px : List Px) (ms : List Mt) (h : decP l = .ok (W, H, px, ms)) : rchk W H px = 0 ∧ 0 < W ∧ chkP ms = 0 ∧ ∀ m ∈ ms, m.1.length ≤ 256 ∧ m.2.length ≤ 256 := by
  unfold decP at h
  cases hh : headP l with
  | none => rw [hh] at h; cases h
  | some q =>
    obtain ⟨w, hi, d, g, m1, r⟩ := q
    rw [hh] at h
    simp only at h
    obtain ⟨m0, hg0, rfl⟩ := headP_ms _ _ _ _ _ _ _ hh
    unfold bodyP at h
    generalize (if 255 < g then 2 else 1) = nb at h
    split at h
    · cases h
    · split at h
      · cases h
      · split at h
        · cases h
        · split at h
          · cases h
          · split at h
            · rename_i c1 c2 c3 c4 c5
              cases h
              have hs := sortM_chk m0 hg0
              refine ⟨?_, by omega, hs.1, hs.2⟩
              unfold rchk
              rw [if_neg (by omega), if_pos, if_pos]
              · rw [List.all_eq_true]
                intro p hp
                unfold pixL at hp
                obtain ⟨k, hk, rfl⟩ := List.mem_map.1 hp
                have ho := List.all_eq_true.1 c5 k hk
                exact pxS_valid _ _ _ _ (by omega) (by omega) (by omega) ho
              · refine ⟨by omega, ?_⟩
                simp [pixL]
            · cases h
theorem decP_err (l : List UInt8) (k : Nat) (h : decP l = .error k) : k ≠ 0 := by
  unfold decP at h
  cases hh : headP l with
  | none => rw [hh] at h; cases h; decide
  | some q =>
    obtain ⟨w, hi, d, g, m1, r⟩ := q
    rw [hh] at h
    simp only at h
    unfold bodyP at h
    generalize (if 255 < g then 2 else 1) = nb at h
    repeat' split at h
    all_goals first
      | (cases h; done)
      | (cases h; decide)
end Go.Proofs.YtakkdgcmeeilbaaDoor
