/-
  Plain definitions and laws: metadata.
-/
import Derived.WalkKit
namespace Go.Proofs.Ytakileiomgaahaa
open Go

abbrev Mt := List UInt8 × List UInt8
def okC (lo : Nat) (c : UInt8) : Bool := decide (lo ≤ c.toNat) && decide (c.toNat ≤ 126)
def okTxt (most lo : Nat) (s : List UInt8) : Bool := decide (1 ≤ s.length) && decide (s.length ≤ most) && s.all (okC lo)
def isK (s : List UInt8) : Bool := okTxt 32 33 s
def isV (s : List UInt8) : Bool := okTxt 256 32 s
/-- a <= b. -/
def leK (a b : List UInt8) : Bool := Op.bytesLess a b || a == b
/-- The error of an entry behind another one. -/
def entP (p : Option Mt) (m : Mt) : Nat := if isK m.1 = false then 13 else if isV m.2 = false then 4 else match p with | none => 0 | some q => if leK m.1 q.1 = true then 24 else 0
def chkGo : Option Mt → List Mt → Nat
  | _, [] => 0
  | p, m :: r => if entP p m = 0 then chkGo (some m) r else entP p m
def chkP (l : List Mt) : Nat := if 16 < l.length then 3 else chkGo none l
def getP (l : List Mt) (k : List UInt8) : Option (List UInt8) := (l.find? fun m => m.1 == k).map (·.2)
def setErr (l : List Mt) (k v : List UInt8) : Nat :=
  if chkP l ≠ 0 then chkP l else if isK k = false then 13 else if v = [] ∧ getP l k = none then 9 else if v ≠ [] ∧ isV v = false then 4 else if v ≠ [] ∧ getP l k = none ∧ l.length = 16 then 3 else 0
def setL (l : List Mt) (k v : List UInt8) : List Mt := (l.filter fun m => Op.bytesLess m.1 k) ++ (if v = [] then [] else [(k, v)]) ++ (l.filter fun m => Op.bytesLess k m.1)

theorem less_irrefl (a : List UInt8) : Op.bytesLess a a = false := by
  induction a with
  | nil => rfl
  | cons c a ih => simp [Op.bytesLess, ih]
theorem less_trans (a b c : List UInt8) (h1 : Op.bytesLess a b = true) (h2 : Op.bytesLess b c = true) : Op.bytesLess a c = true := by
  induction a generalizing b c with
  | nil =>
    cases c with
    | nil => cases b <;> simp [Op.bytesLess] at h2
    | cons => rfl
  | cons x a ih =>
    cases b with
    | nil => simp [Op.bytesLess] at h1
    | cons y b =>
      cases c with
      | nil => simp [Op.bytesLess] at h2
      | cons z c =>
        simp only [Op.bytesLess, Bool.or_eq_true, Bool.and_eq_true, decide_eq_true_eq, beq_iff_eq] at h1 h2 ⊢
        rcases h1 with h1 | ⟨rfl, h1⟩
        · rcases h2 with h2 | ⟨rfl, h2⟩
          · exact .inl (UInt8.lt_trans h1 h2)
          · exact .inl h1
        · rcases h2 with h2 | ⟨rfl, h2⟩
          · exact .inl h2
          · exact .inr ⟨rfl, ih _ _ h1 h2⟩
theorem less_total (a b : List UInt8) (h1 : Op.bytesLess a b = false) (h2 : a ≠ b) : Op.bytesLess b a = true := by
  induction a generalizing b with
  | nil =>
    cases b with
    | nil => exact absurd rfl h2
    | cons => simp [Op.bytesLess] at h1
  | cons x a ih =>
    cases b with
    | nil => rfl
    | cons y b =>
      simp only [Op.bytesLess, Bool.or_eq_false_iff, Bool.and_eq_false_iff, decide_eq_false_iff_not] at h1
      simp only [Op.bytesLess, Bool.or_eq_true, Bool.and_eq_true, decide_eq_true_eq, beq_iff_eq]
      by_cases hxy : x = y
      · subst hxy
        refine .inr ⟨rfl, ih b ?_ fun e => h2 (by rw [e])⟩
        rcases h1.2 with h | h
        · simp at h
        · exact h
      · refine .inl ?_
        have h3 : ¬ x.toNat < y.toNat := h1.1
        have h4 : x.toNat ≠ y.toNat := fun e => hxy (UInt8.toNat_inj.1 e)
        show y.toNat < x.toNat
        omega
theorem less_asymm (a b : List UInt8) (h1 : Op.bytesLess a b = true) : Op.bytesLess b a = false := by
  cases h : Op.bytesLess b a with
  | false => rfl
  | true => have := less_trans _ _ _ h1 h; rw [less_irrefl] at this; cases this
theorem leK_false {a b : List UInt8} : leK a b = false ↔ Op.bytesLess b a = true := by
  unfold leK
  constructor
  · intro h
    simp only [Bool.or_eq_false_iff] at h
    exact less_total _ _ h.1 (by simpa using h.2)
  · intro h
    simp only [Bool.or_eq_false_iff]
    exact ⟨less_asymm _ _ h, by rw [beq_eq_false_iff_ne]; rintro rfl; rw [less_irrefl] at h; cases h⟩

/-- Keys in order, each entry right. -/
def Asc : List Mt → Prop
  | [] => True
  | m :: r => isK m.1 = true ∧ isV m.2 = true ∧ (∀ x ∈ r, Op.bytesLess m.1 x.1 = true) ∧ Asc r
theorem entP_zero {p : Option Mt} {m : Mt} : entP p m = 0 ↔ isK m.1 = true ∧ isV m.2 = true ∧ (∀ q, p = some q → Op.bytesLess q.1 m.1 = true) := by
  unfold entP
  constructor
  · intro h
    split at h
    · cases h
    · rename_i h1
      split at h
      · cases h
      · rename_i h2
        refine ⟨by simpa using h1, by simpa using h2, fun q hq => ?_⟩
        subst hq
        simp only at h
        split at h
        · cases h
        · rename_i h3
          exact leK_false.1 (by simpa using h3)
  · rintro ⟨h1, h2, h3⟩
    rw [if_neg (by rw [h1]; decide), if_neg (by rw [h2]; decide)]
    cases p with
    | none => rfl
    | some q =>
      simp only
      rw [if_neg (by rw [leK_false.2 (h3 q rfl)]; decide)]
theorem chkGo_zero (p : Option Mt) (l : List Mt) : chkGo p l = 0 ↔ Asc l ∧ (∀ q, p = some q → ∀ x ∈ l, Op.bytesLess q.1 x.1 = true) := by
  induction l generalizing p with
  | nil => simp [chkGo, Asc]
  | cons m r ih =>
    unfold chkGo
    by_cases h0 : entP p m = 0
    · rw [if_pos h0, ih]
      obtain ⟨e1, e2, e3⟩ := entP_zero.1 h0
      constructor
      · rintro ⟨ha, hb⟩
        refine ⟨⟨e1, e2, hb m rfl, ha⟩, fun q hq x hx => ?_⟩
        rcases List.mem_cons.1 hx with rfl | hx
        · exact e3 q hq
        · exact less_trans _ _ _ (e3 q hq) (hb m rfl x hx)
      · rintro ⟨⟨_, _, h3, h4⟩, _⟩
        exact ⟨h4, fun q hq => by cases hq; exact h3⟩
    · rw [if_neg h0]
      constructor
      · intro h; exact absurd h h0
      · rintro ⟨⟨h1, h2, h3, h4⟩, h5⟩
        exact entP_zero.2 ⟨h1, h2, fun q hq => h5 q hq m (by simp)⟩
theorem chkP_zero (l : List Mt) : chkP l = 0 ↔ l.length ≤ 16 ∧ Asc l := by
  unfold chkP
  by_cases h : 16 < l.length
  · rw [if_pos h]
    constructor
    · intro h; cases h
    · rintro ⟨h1, _⟩; omega
  · rw [if_neg h, chkGo_zero]
    simp; omega
theorem asc_tail {m : Mt} {l : List Mt} (h : Asc (m :: l)) : Asc l := h.2.2.2
theorem asc_append (a b : List Mt) : Asc (a ++ b) ↔ Asc a ∧ Asc b ∧ ∀ x ∈ a, ∀ y ∈ b, Op.bytesLess x.1 y.1 = true := by
  induction a with
  | nil => simp [Asc]
  | cons m a ih =>
    simp only [List.cons_append, Asc, ih]
    constructor
    · rintro ⟨h1, h2, h3, h4, h5, h6⟩
      refine ⟨⟨h1, h2, fun x hx => h3 x (by simp [hx]), h4⟩, h5, fun x hx y hy => ?_⟩
      rcases List.mem_cons.1 hx with rfl | hx
      · exact h3 y (by simp [hy])
      · exact h6 x hx y hy
    · rintro ⟨⟨h1, h2, h3, h4⟩, h5, h6⟩
      refine ⟨h1, h2, fun x hx => ?_, h4, h5, fun x hx y hy => h6 x (by simp [hx]) y hy⟩
      rcases List.mem_append.1 hx with hx | hx
      · exact h3 x hx
      · exact h6 m (by simp) x hx

/-- How many keys are less. -/
def cntL (l : List Mt) (k : List UInt8) : Nat := match l with | [] => 0 | m :: r => if Op.bytesLess m.1 k then cntL r k + 1 else 0
theorem cntL_le (l : List Mt) (k : List UInt8) : cntL l k ≤ l.length := by
  induction l with
  | nil => simp [cntL]
  | cons m r ih => unfold cntL; split <;> simp <;> omega
theorem filter_none_less (l : List Mt) (k : List UInt8) (h : ∀ x ∈ l, Op.bytesLess x.1 k = false) : l.filter (fun m => Op.bytesLess m.1 k) = [] := by
  rw [List.filter_eq_nil_iff]
  intro x hx; rw [h x hx]; decide
/-- In order, the keys that are less come first, then the key itself, then the greater ones. -/
theorem asc_parts (l : List Mt) (k : List UInt8) (h : Asc l) :
    l.take (cntL l k) = l.filter (fun m => Op.bytesLess m.1 k) ∧ l.drop (cntL l k + if (getP l k).isSome then 1 else 0) = l.filter (fun m => Op.bytesLess k m.1) := by
  induction l with
  | nil => simp [cntL, getP]
  | cons m r ih =>
    obtain ⟨h1, h2, h3, h4⟩ := h
    obtain ⟨i1, i2⟩ := ih h4
    by_cases hl : Op.bytesLess m.1 k = true
    · have e : cntL (m :: r) k = cntL r k + 1 := by simp [cntL, hl]
      have hg : (m.1 == k) = false := by
        rw [beq_eq_false_iff_ne]; rintro e; rw [e, less_irrefl] at hl; cases hl
      have eg : getP (m :: r) k = getP r k := by simp [getP, hg]
      have hk : Op.bytesLess k m.1 = false := less_asymm _ _ hl
      rw [e, eg, List.take_succ_cons, i1, List.filter_cons_of_pos (by exact hl)]
      refine ⟨rfl, ?_⟩
      rw [show cntL r k + 1 + (if (getP r k).isSome = true then 1 else 0) = cntL r k + (if (getP r k).isSome = true then 1 else 0) + 1 from by omega, List.drop_succ_cons, i2, List.filter_cons_of_neg (by rw [hk]; decide)]
    · have hl' : Op.bytesLess m.1 k = false := by simpa using hl
      have e : cntL (m :: r) k = 0 := by simp [cntL, hl']
      have hnone : ∀ x ∈ r, Op.bytesLess x.1 k = false := by
        intro x hx
        have hx' := h3 x hx
        cases hb : Op.bytesLess x.1 k with
        | false => rfl
        | true => have := less_trans _ _ _ hx' hb; rw [hl'] at this; cases this
      rw [e, List.take_zero, List.filter_cons_of_neg (by rw [hl']; decide), filter_none_less r k hnone]
      refine ⟨rfl, ?_⟩
      by_cases hk : m.1 = k
      · have eg : (getP (m :: r) k).isSome = true := by simp [getP, hk]
        rw [eg]
        have hk2 : Op.bytesLess k m.1 = false := by rw [hk]; exact less_irrefl k
        simp only [if_true, Nat.zero_add, List.drop_succ_cons, List.drop_zero]
        rw [List.filter_cons_of_neg (by rw [hk2]; decide), List.filter_eq_self.2]
        intro x hx; rw [← hk]; exact h3 x hx
      · have hkm : Op.bytesLess k m.1 = true := less_total _ _ hl' hk
        have hall : ∀ x ∈ m :: r, Op.bytesLess k x.1 = true := by
          intro x hx
          rcases List.mem_cons.1 hx with rfl | hx
          · exact hkm
          · exact less_trans _ _ _ hkm (h3 x hx)
        have eg : getP (m :: r) k = none := by
          simp only [getP, Option.map_eq_none_iff, List.find?_eq_none]
          intro x hx hxe
          have := hall x hx
          rw [eq_of_beq hxe, less_irrefl] at this; cases this
        rw [eg, List.filter_eq_self.2 (fun x hx => hall x hx)]
        rfl
end Go.Proofs.Ytakileiomgaahaa
