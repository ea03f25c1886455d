/-
  Plain definitions and laws: metadata.
  Plain definitions: what the layer pam reads.
  Walks: keys and values, in the program and in the reference.
  Walks: the error of metadata, in the program and in the reference.
  Walks: spaces and numbers, in the program and in the reference.
  Walks: strings.Cut at one byte.
  Walks: beginnings, numbers, words, in the program and in the reference.
  Walks: the value of a key; two equal lists are the same.
  Walk: a value set, in the program.
-/
import Derived.WalkKit
import Derived.Test.YthbejefodelpkaaGreatZA
import Derived.Test.YthbejefodelpkaaGreatProg
import Derived.Outline
import Derived.StillTailTactics
import Derived.Lib.Bytealg
import Derived.OwnWalk
namespace Go.Proofs.YthbejefodelpkaaGreat
open Go

abbrev Mt := List UInt8 × List UInt8
def okC (lo : Nat) (c : UInt8) : Bool := decide (lo ≤ c.toNat) && decide (c.toNat ≤ 126)
def okTxt (most lo : Nat) (s : List UInt8) : Bool := decide (1 ≤ s.length) && decide (s.length ≤ most) && s.all (okC lo)
def isK (s : List UInt8) : Bool := okTxt 32 33 s
def isV (s : List UInt8) : Bool := okTxt 256 32 s
/-- a <= b. -/
def leK (a b : List UInt8) : Bool := Op.bytesLess a b || a == b
/-- The error of an entry behind another one. -/
def entP (p : Option Mt) (m : Mt) : Nat := if isK m.1 = false then 13 else if isV m.2 = false then 4 else match p with | none => 0 | some q => if leK m.1 q.1 = true then 24 else 0
def chkGo : Option Mt → List Mt → Nat
  | _, [] => 0
  | p, m :: r => if entP p m = 0 then chkGo (some m) r else entP p m
def chkP (l : List Mt) : Nat := if 16 < l.length then 3 else chkGo none l
def getP (l : List Mt) (k : List UInt8) : Option (List UInt8) := (l.find? fun m => m.1 == k).map (·.2)
def setErr (l : List Mt) (k v : List UInt8) : Nat :=
  if chkP l ≠ 0 then chkP l else if isK k = false then 13 else if v = [] ∧ getP l k = none then 9 else if v ≠ [] ∧ isV v = false then 4 else if v ≠ [] ∧ getP l k = none ∧ l.length = 16 then 3 else 0
def setL (l : List Mt) (k v : List UInt8) : List Mt := (l.filter fun m => Op.bytesLess m.1 k) ++ (if v = [] then [] else [(k, v)]) ++ (l.filter fun m => Op.bytesLess k m.1)

theorem less_irrefl (a : List UInt8) : Op.bytesLess a a = false := by
  induction a with
  | nil => rfl
  | cons c a ih => simp [Op.bytesLess, ih]
theorem less_trans (a b c : List UInt8) (h1 : Op.bytesLess a b = true) (h2 : Op.bytesLess b c = true) : Op.bytesLess a c = true := by
  induction a generalizing b c with
  | nil =>
    cases c with
    | nil => cases b <;> simp [Op.bytesLess] at h2
    | cons => rfl
  | cons x a ih =>
    cases b with
    | nil => simp [Op.bytesLess] at h1
    | cons y b =>
      cases c with
      | nil => simp [Op.bytesLess] at h2
      | cons z c =>
        simp only [Op.bytesLess, Bool.or_eq_true, Bool.and_eq_true, decide_eq_true_eq, beq_iff_eq] at h1 h2 ⊢
        rcases h1 with h1 | ⟨rfl, h1⟩
        · rcases h2 with h2 | ⟨rfl, h2⟩
          · exact .inl (UInt8.lt_trans h1 h2)
          · exact .inl h1
        · rcases h2 with h2 | ⟨rfl, h2⟩
          · exact .inl h2
          · exact .inr ⟨rfl, ih _ _ h1 h2⟩
theorem less_total (a b : List UInt8) (h1 : Op.bytesLess a b = false) (h2 : a ≠ b) : Op.bytesLess b a = true := by
  induction a generalizing b with
  | nil =>
    cases b with
    | nil => exact absurd rfl h2
    | cons => simp [Op.bytesLess] at h1
  | cons x a ih =>
    cases b with
    | nil => rfl
    | cons y b =>
      simp only [Op.bytesLess, Bool.or_eq_false_iff, Bool.and_eq_false_iff, decide_eq_false_iff_not] at h1
      simp only [Op.bytesLess, Bool.or_eq_true, Bool.and_eq_true, decide_eq_true_eq, beq_iff_eq]
      by_cases hxy : x = y
      · subst hxy
        refine .inr ⟨rfl, ih b ?_ fun e => h2 (by rw [e])⟩
        rcases h1.2 with h | h
        · simp at h
        · exact h
      · refine .inl ?_
        have h3 : ¬ x.toNat < y.toNat := h1.1
        have h4 : x.toNat ≠ y.toNat := fun e => hxy (UInt8.toNat_inj.1 e)
        show y.toNat < x.toNat
        omega
theorem less_asymm (a b : List UInt8) (h1 : Op.bytesLess a b = true) : Op.bytesLess b a = false := by
  cases h : Op.bytesLess b a with
  | false => rfl
  | true => have := less_trans _ _ _ h1 h; rw [less_irrefl] at this; cases this
theorem leK_false {a b : List UInt8} : leK a b = false ↔ Op.bytesLess b a = true := by
  unfold leK
  constructor
  · intro h
    simp only [Bool.or_eq_false_iff] at h
    exact less_total _ _ h.1 (by simpa using h.2)
  · intro h
    simp only [Bool.or_eq_false_iff]
    exact ⟨less_asymm _ _ h, by rw [beq_eq_false_iff_ne]; rintro rfl; rw [less_irrefl] at h; cases h⟩

/-- Keys in order, each entry right. -/
def Asc : List Mt → Prop
  | [] => True
  | m :: r => isK m.1 = true ∧ isV m.2 = true ∧ (∀ x ∈ r, Op.bytesLess m.1 x.1 = true) ∧ Asc r
theorem entP_zero {p : Option Mt} {m : Mt} : entP p m = 0 ↔ isK m.1 = true ∧ isV m.2 = true ∧ (∀ q, p = some q → Op.bytesLess q.1 m.1 = true) := by
  unfold entP
  constructor
  · intro h
    split at h
    · cases h
    · rename_i h1
      split at h
      · cases h
      · rename_i h2
        refine ⟨by simpa using h1, by simpa using h2, fun q hq => ?_⟩
        subst hq
        simp only at h
        split at h
        · cases h
        · rename_i h3
          exact leK_false.1 (by simpa using h3)
  · rintro ⟨h1, h2, h3⟩
    rw [if_neg (by rw [h1]; decide), if_neg (by rw [h2]; decide)]
    cases p with
    | none => rfl
    | some q =>
      simp only
      rw [if_neg (by rw [leK_false.2 (h3 q rfl)]; decide)]
theorem chkGo_zero (p : Option Mt) (l : List Mt) : chkGo p l = 0 ↔ Asc l ∧ (∀ q, p = some q → ∀ x ∈ l, Op.bytesLess q.1 x.1 = true) := by
  induction l generalizing p with
  | nil => simp [chkGo, Asc]
  | cons m r ih =>
    unfold chkGo
    by_cases h0 : entP p m = 0
    · rw [if_pos h0, ih]
      obtain ⟨e1, e2, e3⟩ := entP_zero.1 h0
      constructor
      · rintro ⟨ha, hb⟩
        refine ⟨⟨e1, e2, hb m rfl, ha⟩, fun q hq x hx => ?_⟩
        rcases List.mem_cons.1 hx with rfl | hx
        · exact e3 q hq
        · exact less_trans _ _ _ (e3 q hq) (hb m rfl x hx)
      · rintro ⟨⟨_, _, h3, h4⟩, _⟩
        exact ⟨h4, fun q hq => by cases hq; exact h3⟩
    · rw [if_neg h0]
      constructor
      · intro h; exact absurd h h0
      · rintro ⟨⟨h1, h2, h3, h4⟩, h5⟩
        exact entP_zero.2 ⟨h1, h2, fun q hq => h5 q hq m (by simp)⟩
theorem chkP_zero (l : List Mt) : chkP l = 0 ↔ l.length ≤ 16 ∧ Asc l := by
  unfold chkP
  by_cases h : 16 < l.length
  · rw [if_pos h]
    constructor
    · intro h; cases h
    · rintro ⟨h1, _⟩; omega
  · rw [if_neg h, chkGo_zero]
    simp; omega
theorem asc_tail {m : Mt} {l : List Mt} (h : Asc (m :: l)) : Asc l := h.2.2.2
theorem asc_append (a b : List Mt) : Asc (a ++ b) ↔ Asc a ∧ Asc b ∧ ∀ x ∈ a, ∀ y ∈ b, Op.bytesLess x.1 y.1 = true := by
  induction a with
  | nil => simp [Asc]
  | cons m a ih =>
    simp only [List.cons_append, Asc, ih]
    constructor
    · rintro ⟨h1, h2, h3, h4, h5, h6⟩
      refine ⟨⟨h1, h2, fun x hx => h3 x (by simp [hx]), h4⟩, h5, fun x hx y hy => ?_⟩
      rcases List.mem_cons.1 hx with rfl | hx
      · exact h3 y (by simp [hy])
      · exact h6 x hx y hy
    · rintro ⟨⟨h1, h2, h3, h4⟩, h5, h6⟩
      refine ⟨h1, h2, fun x hx => ?_, h4, h5, fun x hx y hy => h6 x (by simp [hx]) y hy⟩
      rcases List.mem_append.1 hx with hx | hx
      · exact h3 x hx
      · exact h6 m (by simp) x hx

/-- How many keys are less. -/
def cntL (l : List Mt) (k : List UInt8) : Nat := match l with | [] => 0 | m :: r => if Op.bytesLess m.1 k then cntL r k + 1 else 0
theorem cntL_le (l : List Mt) (k : List UInt8) : cntL l k ≤ l.length := by
  induction l with
  | nil => simp [cntL]
  | cons m r ih => unfold cntL; split <;> simp <;> omega
theorem filter_none_less (l : List Mt) (k : List UInt8) (h : ∀ x ∈ l, Op.bytesLess x.1 k = false) : l.filter (fun m => Op.bytesLess m.1 k) = [] := by
  rw [List.filter_eq_nil_iff]
  intro x hx; rw [h x hx]; decide
/-- In order, the keys that are less come first, then the key itself, then the greater ones. -/
theorem asc_parts (l : List Mt) (k : List UInt8) (h : Asc l) :
    l.take (cntL l k) = l.filter (fun m => Op.bytesLess m.1 k) ∧ l.drop (cntL l k + if (getP l k).isSome then 1 else 0) = l.filter (fun m => Op.bytesLess k m.1) := by
  induction l with
  | nil => simp [cntL, getP]
  | cons m r ih =>
    obtain ⟨h1, h2, h3, h4⟩ := h
    obtain ⟨i1, i2⟩ := ih h4
    by_cases hl : Op.bytesLess m.1 k = true
    · have e : cntL (m :: r) k = cntL r k + 1 := by simp [cntL, hl]
      have hg : (m.1 == k) = false := by
        rw [beq_eq_false_iff_ne]; rintro e; rw [e, less_irrefl] at hl; cases hl
      have eg : getP (m :: r) k = getP r k := by simp [getP, hg]
      have hk : Op.bytesLess k m.1 = false := less_asymm _ _ hl
      rw [e, eg, List.take_succ_cons, i1, List.filter_cons_of_pos (by exact hl)]
      refine ⟨rfl, ?_⟩
      rw [show cntL r k + 1 + (if (getP r k).isSome = true then 1 else 0) = cntL r k + (if (getP r k).isSome = true then 1 else 0) + 1 from by omega, List.drop_succ_cons, i2, List.filter_cons_of_neg (by rw [hk]; decide)]
    · have hl' : Op.bytesLess m.1 k = false := by simpa using hl
      have e : cntL (m :: r) k = 0 := by simp [cntL, hl']
      have hnone : ∀ x ∈ r, Op.bytesLess x.1 k = false := by
        intro x hx
        have hx' := h3 x hx
        cases hb : Op.bytesLess x.1 k with
        | false => rfl
        | true => have := less_trans _ _ _ hx' hb; rw [hl'] at this; cases this
      rw [e, List.take_zero, List.filter_cons_of_neg (by rw [hl']; decide), filter_none_less r k hnone]
      refine ⟨rfl, ?_⟩
      by_cases hk : m.1 = k
      · have eg : (getP (m :: r) k).isSome = true := by simp [getP, hk]
        rw [eg]
        have hk2 : Op.bytesLess k m.1 = false := by rw [hk]; exact less_irrefl k
        simp only [if_true, Nat.zero_add, List.drop_succ_cons, List.drop_zero]
        rw [List.filter_cons_of_neg (by rw [hk2]; decide), List.filter_eq_self.2]
        intro x hx; rw [← hk]; exact h3 x hx
      · have hkm : Op.bytesLess k m.1 = true := less_total _ _ hl' hk
        have hall : ∀ x ∈ m :: r, Op.bytesLess k x.1 = true := by
          intro x hx
          rcases List.mem_cons.1 hx with rfl | hx
          · exact hkm
          · exact less_trans _ _ _ hkm (h3 x hx)
        have eg : getP (m :: r) k = none := by
          simp only [getP, Option.map_eq_none_iff, List.find?_eq_none]
          intro x hx hxe
          have := hall x hx
          rw [eq_of_beq hxe, less_irrefl] at this; cases this
        rw [eg, List.filter_eq_self.2 (fun x hx => hall x hx)]
        rfl
end Go.Proofs.YthbejefodelpkaaGreat
namespace Go.Proofs.YthbejefodelpkaaGreat
open Go

def spc (c : UInt8) : Bool := c == 9 || c == 10 || c == 13 || c == 32
def dig (c : UInt8) : Bool := decide (48 ≤ c.toNat) && decide (c.toNat ≤ 57)
/-- The number with the digits l. -/
def decV : List UInt8 → Nat → Nat
  | [], n => n
  | c :: l, n => decV l (10 * n + (c.toNat - 48))
/-- The number at the beginning, and its digits; zeros if there are more than 9. -/
def numAt (l : List UInt8) : Nat × Nat := if 9 < (l.takeWhile dig).length then (0, 0) else (decV (l.takeWhile dig) 0, (l.takeWhile dig).length)
theorem decV_append (a b : List UInt8) (n : Nat) : decV (a ++ b) n = decV b (decV a n) := by
  induction a generalizing n with
  | nil => rfl
  | cons c a ih => exact ih _
theorem decV_lt (l : List UInt8) (h : l.all dig = true) (n : Nat) : decV l n < (n + 1) * 10 ^ l.length := by
  induction l generalizing n with
  | nil => simp [decV]
  | cons c l ih =>
    simp only [List.all_cons, Bool.and_eq_true] at h
    have h1 := h.1
    simp only [dig, Bool.and_eq_true, decide_eq_true_eq] at h1
    refine Nat.lt_of_lt_of_le (ih h.2 _) ?_
    rw [List.length_cons, Nat.pow_succ', ← Nat.mul_assoc]
    exact Nat.mul_le_mul_right _ (by omega)
theorem tw_end (l : List UInt8) (i : Nat) (hi : i ≤ l.length) (ha : (l.take i).all dig = true) (he : ∀ h : i < l.length, dig l[i] = false) : l.takeWhile dig = l.take i := by
  induction l generalizing i with
  | nil => simp
  | cons c l ih =>
    cases i with
    | zero =>
      have := he (by simp)
      simp only [List.getElem_cons_zero] at this
      simp [this]
    | succ i =>
      simp only [List.take_succ_cons, List.all_cons, Bool.and_eq_true] at ha
      simp only [List.length_cons, Nat.add_le_add_iff_right] at hi
      rw [List.takeWhile_cons, if_pos ha.1, List.take_succ_cons, ih i hi ha.2 (fun h => by have := he (by simp; omega); simpa using this)]
theorem tw_more (l : List UInt8) (i : Nat) (hi : i < l.length) (ha : (l.take i).all dig = true) (he : dig l[i] = true) : i < (l.takeWhile dig).length := by
  induction l generalizing i with
  | nil => simp at hi
  | cons c l ih =>
    cases i with
    | zero => simp only [List.getElem_cons_zero] at he; simp [he]
    | succ i =>
      simp only [List.take_succ_cons, List.all_cons, Bool.and_eq_true] at ha
      simp only [List.length_cons, Nat.add_lt_add_iff_right] at hi
      have := ih i hi ha.2 (by simpa using he)
      rw [List.takeWhile_cons, if_pos ha.1]
      simp; omega
theorem tw_all (l : List UInt8) : (l.takeWhile dig).all dig = true := by
  induction l with
  | nil => rfl
  | cons c l ih =>
    rw [List.takeWhile_cons]
    split
    · simp_all
    · rfl
/-- The number that a text is. -/
def numP (t : List UInt8) : Option Nat := if 1 ≤ t.length ∧ t.length ≤ 9 ∧ t.all dig = true then some (decV t 0) else none
/-- How many bytes stand before the first c. -/
def fnd (c : UInt8) : List UInt8 → Nat
  | [] => 0
  | b :: l => if b = c then 0 else fnd c l + 1
/-- Behind all spaces and comments; none where a comment has no end. -/
def skipF : Nat → List UInt8 → Option (List UInt8)
  | 0, _ => none
  | _ + 1, [] => some []
  | f + 1, c :: l => if spc c then skipF f l else if c = 35 then (if fnd 10 l < l.length then skipF f (l.drop (fnd 10 l + 1)) else none) else some (c :: l)
def skipP (l : List UInt8) : Option (List UInt8) := skipF (l.length + 1) l
end Go.Proofs.YthbejefodelpkaaGreat
namespace Go.Proofs.YthbejefodelpkaaGreat
open Go.RowKit

theorem ret_bool {a b : Bool} (h : a = b) : Ending.returned (.bool a) = .returned (.bool b) := by rw [h]
theorem take_snocB (s : ByteArray) (k : Nat) (h : k < s.size) : s.data.toList.take (k + 1) = s.data.toList.take k ++ [s[k]] := by
  rw [List.take_succ_eq_append_getElem (by simpa using h)]; rfl
theorem all_bad (p : UInt8 → Bool) (s : ByteArray) (k : Nat) (h : k < s.size) (hb : p s[k] = false) : s.data.toList.all p = false := by
  rw [← List.take_append_drop (k + 1) s.data.toList, take_snocB s k h]
  simp [hb]

set_option maxHeartbeats 1000000 in
theorem printable_any (s : ByteArray) (most lo : Nat) (w : World) (hm : most ≤ 1000) (_hlo : lo ≤ 126) :
    Calls Tryz.prog 117 #[.string s, .int .i64 most, .int .u8 lo] w fun e w' => e = .returned (.bool (okTxt most lo s.data.toList)) ∧ w = w' := by
  have hlen : s.data.toList.length = s.size := by simp
  have HL := Lib.hid hlen
  clear hlen
  by_cases h1 : s.size < 1
  · have hd : decide ((s.size : Int) < 1) = true := by simp; omega
    have HR : Hid (okTxt most lo s.data.toList = false) := by show _ = _; unfold okTxt; rw [HL.out, decide_eq_false (by omega)]; rfl
    go_enter Tryz.func117, Tryz.ntmps117
    go_wp2_with fail
    go_ret
    exact ⟨ret_bool HR.out.symm, rfl⟩
  have hd : decide ((s.size : Int) < 1) = false := by simp; omega
  by_cases h2 : most < s.size
  · have hd2 : decide ((most : Int) < (s.size : Int)) = true := by simp; omega
    have HR : Hid (okTxt most lo s.data.toList = false) := by show _ = _; unfold okTxt; rw [HL.out, decide_eq_false (show ¬ s.size ≤ most by omega)]; simp
    go_enter Tryz.func117, Tryz.ntmps117
    go_wp2_with fail
    go_ret
    exact ⟨ret_bool HR.out.symm, rfl⟩
  have hd2 : decide ((most : Int) < (s.size : Int)) = false := by simp; omega
  have HR : Hid (okTxt most lo s.data.toList = s.data.toList.all (okC lo)) := by
    show _ = _
    unfold okTxt
    rw [HL.out, decide_eq_true (show 1 ≤ s.size by omega), decide_eq_true (show s.size ≤ most by omega)]; rfl
  go_enter Tryz.func117, Tryz.ntmps117
  go_wp2_with fail
  go_loop [19] (fun vi => ∃ i : Nat, vi = .int .i64 i ∧ i ≤ s.size ∧ Hid ((s.data.toList.take i).all (okC lo) = true)) (fun vi => s.size - (intOf vi).toNat)
  case atStart => exact ⟨0, rfl, Nat.zero_le _, rfl⟩
  case round =>
    obtain ⟨i, rfl, hi, ha⟩ := hrel
    by_cases hlt : i < s.size
    · have hcl : decide ((i : Int) < (s.size : Int)) = true := by simp; omega
      have HS := Lib.hid (take_snocB s i hlt)
      by_cases hb1 : (s[i]).toNat < lo
      · have HB : Hid (s.data.toList.all (okC lo) = false) := all_bad _ s i hlt (by simp [okC]; omega)
        have e1 : decide (((s[i]).toNat : Int) < (lo : Int)) = true := by simp; omega
        go_wp2_with fail
        go_ret
        exact ⟨ret_bool (by rw [HR.out, HB.out]), rfl⟩
      have e1 : decide (((s[i]).toNat : Int) < (lo : Int)) = false := by simp; omega
      by_cases hb2 : 126 < (s[i]).toNat
      · have HB : Hid (s.data.toList.all (okC lo) = false) := all_bad _ s i hlt (by simp [okC]; omega)
        have e2 : decide ((126 : Int) < ((s[i]).toNat : Int)) = true := by simp; omega
        go_wp2_with fail
        go_ret
        exact ⟨ret_bool (by rw [HR.out, HB.out]), rfl⟩
      · have e2 : decide ((126 : Int) < ((s[i]).toNat : Int)) = false := by simp; omega
        have HO : Hid (okC lo s[i] = true) := by show _ = _; simp [okC]; omega
        go_wp2_with fail
        go_round
        case rel => exact ⟨i + 1, by go_num, by omega, by show _ = _; rw [HS.out, List.all_append, ha.out]; simp [HO.out]⟩
        case measure => simp [intOf]; omega
    · have hcl : decide ((i : Int) < (s.size : Int)) = false := by simp; omega
      have ha2 : Hid (s.data.toList.all (okC lo) = true) := by have := ha.out; rwa [List.take_of_length_le (by rw [HL.out]; omega)] at this
      go_wp2_with fail
      go_ret
      exact ⟨ret_bool (by rw [HR.out, ha2.out]), rfl⟩

theorem isKey_any (s : ByteArray) (w : World) : Calls Tryz.prog 98 #[.string s] w fun e w' => e = .returned (.bool (isK s.data.toList)) ∧ w = w' := by
  go_enter Tryz.func98, Tryz.ntmps98
  go_wp2_with fail
  refine (printable_any s 32 33 _ (by decide) (by decide)).mono ?_
  rintro e w1 ⟨rfl, rfl⟩
  go_wp2_with fail
  go_ret
  exact ⟨rfl, rfl⟩
theorem isValue_any (s : ByteArray) (w : World) : Calls Tryz.prog 99 #[.string s] w fun e w' => e = .returned (.bool (isV s.data.toList)) ∧ w = w' := by
  go_enter Tryz.func99, Tryz.ntmps99
  go_wp2_with fail
  refine (printable_any s 256 32 _ (by decide) (by decide)).mono ?_
  rintro e w1 ⟨rfl, rfl⟩
  go_wp2_with fail
  go_ret
  exact ⟨rfl, rfl⟩

theorem okTxt_all {most lo : Nat} {s : List UInt8} (h : s.all (okC lo) = false) : okTxt most lo s = false := by unfold okTxt; rw [h]; simp

set_option maxHeartbeats 1000000 in
theorem rName_any (s : ByteArray) (w : World) (hs : s.size ≤ maxLen) : Calls Tryz.prog 77 #[.string s] w fun e w' => e = .returned (.bool (isK s.data.toList)) ∧ w = w' := by
  unfold maxLen at hs
  have hlen : s.data.toList.length = s.size := by simp
  have HL := Lib.hid hlen
  clear hlen
  go_enter Tryz.func77, Tryz.ntmps77
  go_wp2_with fail
  go_loop [3] (fun vi => ∃ i : Nat, vi = .int .i64 i ∧ i ≤ s.size ∧ Hid ((s.data.toList.take i).all (okC 33) = true)) (fun vi => s.size - (intOf vi).toNat)
  case atStart => exact ⟨0, rfl, Nat.zero_le _, rfl⟩
  case round =>
    obtain ⟨i, rfl, hi, ha⟩ := hrel
    by_cases hlt : i < s.size
    · have hcl : decide ((i : Int) < (s.size : Int)) = true := by simp; omega
      have HS := Lib.hid (take_snocB s i hlt)
      by_cases hb1 : (s[i]).toNat < 33
      · have HB : Hid (s.data.toList.all (okC 33) = false) := all_bad _ s i hlt (by simp [okC]; omega)
        have e1 : decide (((s[i]).toNat : Int) < 33) = true := by simp; omega
        go_wp2_with fail
        go_ret
        exact ⟨ret_bool (okTxt_all HB.out).symm, rfl⟩
      have e1 : decide (((s[i]).toNat : Int) < 33) = false := by simp; omega
      by_cases hb2 : 126 < (s[i]).toNat
      · have HB : Hid (s.data.toList.all (okC 33) = false) := all_bad _ s i hlt (by simp [okC]; omega)
        have e2 : decide ((126 : Int) < ((s[i]).toNat : Int)) = true := by simp; omega
        go_wp2_with fail
        go_ret
        exact ⟨ret_bool (okTxt_all HB.out).symm, rfl⟩
      · have e2 : decide ((126 : Int) < ((s[i]).toNat : Int)) = false := by simp; omega
        have HO : Hid (okC 33 s[i] = true) := by show _ = _; simp [okC]; omega
        go_wp2_with fail
        go_round
        case rel => exact ⟨i + 1, by go_num, by omega, by show _ = _; rw [HS.out, List.all_append, ha.out]; simp [HO.out]⟩
        case measure => simp [intOf]; omega
    · have hcl : decide ((i : Int) < (s.size : Int)) = false := by simp; omega
      have ha2 : Hid (s.data.toList.all (okC 33) = true) := by have := ha.out; rwa [List.take_of_length_le (by rw [HL.out]; omega)] at this
      by_cases h1 : 1 ≤ s.size
      · have d1 : decide ((1 : Int) ≤ (s.size : Int)) = true := by simp; omega
        by_cases h2 : s.size ≤ 32
        · have d2 : decide ((s.size : Int) ≤ 32) = true := by simp; omega
          go_wp2_with fail
          go_ret
          exact ⟨ret_bool (by unfold isK okTxt; rw [ha2.out, HL.out, decide_eq_true h1, decide_eq_true h2]; rfl), rfl⟩
        · have d2 : decide ((s.size : Int) ≤ 32) = false := by simp; omega
          go_wp2_with fail
          go_ret
          exact ⟨ret_bool (by unfold isK okTxt; rw [HL.out, decide_eq_false h2]; simp), rfl⟩
      · have d1 : decide ((1 : Int) ≤ (s.size : Int)) = false := by simp; omega
        go_wp2_with fail
        go_ret
        exact ⟨ret_bool (by unfold isK okTxt; rw [HL.out, decide_eq_false h1]; rfl), rfl⟩


set_option maxHeartbeats 1000000 in
theorem rvalue_any (s : ByteArray) (w : World) (hs : s.size ≤ maxLen) : Calls Tryz.prog 78 #[.string s] w fun e w' => e = .returned (.bool (isV s.data.toList)) ∧ w = w' := by
  unfold maxLen at hs
  have hlen : s.data.toList.length = s.size := by simp
  have HL := Lib.hid hlen
  clear hlen
  go_enter Tryz.func78, Tryz.ntmps78
  go_wp2_with fail
  go_loop [3] (fun vi => ∃ i : Nat, vi = .int .i64 i ∧ i ≤ s.size ∧ Hid ((s.data.toList.take i).all (okC 32) = true)) (fun vi => s.size - (intOf vi).toNat)
  case atStart => exact ⟨0, rfl, Nat.zero_le _, rfl⟩
  case round =>
    obtain ⟨i, rfl, hi, ha⟩ := hrel
    by_cases hlt : i < s.size
    · have hcl : decide ((i : Int) < (s.size : Int)) = true := by simp; omega
      have HS := Lib.hid (take_snocB s i hlt)
      by_cases hb1 : (s[i]).toNat < 32
      · have HB : Hid (s.data.toList.all (okC 32) = false) := all_bad _ s i hlt (by simp [okC]; omega)
        have e1 : decide (((s[i]).toNat : Int) < 32) = true := by simp; omega
        go_wp2_with fail
        go_ret
        exact ⟨ret_bool (okTxt_all HB.out).symm, rfl⟩
      have e1 : decide (((s[i]).toNat : Int) < 32) = false := by simp; omega
      by_cases hb2 : 126 < (s[i]).toNat
      · have HB : Hid (s.data.toList.all (okC 32) = false) := all_bad _ s i hlt (by simp [okC]; omega)
        have e2 : decide ((126 : Int) < ((s[i]).toNat : Int)) = true := by simp; omega
        go_wp2_with fail
        go_ret
        exact ⟨ret_bool (okTxt_all HB.out).symm, rfl⟩
      · have e2 : decide ((126 : Int) < ((s[i]).toNat : Int)) = false := by simp; omega
        have HO : Hid (okC 32 s[i] = true) := by show _ = _; simp [okC]; omega
        go_wp2_with fail
        go_round
        case rel => exact ⟨i + 1, by go_num, by omega, by show _ = _; rw [HS.out, List.all_append, ha.out]; simp [HO.out]⟩
        case measure => simp [intOf]; omega
    · have hcl : decide ((i : Int) < (s.size : Int)) = false := by simp; omega
      have ha2 : Hid (s.data.toList.all (okC 32) = true) := by have := ha.out; rwa [List.take_of_length_le (by rw [HL.out]; omega)] at this
      by_cases h1 : 1 ≤ s.size
      · have d1 : decide ((1 : Int) ≤ (s.size : Int)) = true := by simp; omega
        by_cases h2 : s.size ≤ 256
        · have d2 : decide ((s.size : Int) ≤ 256) = true := by simp; omega
          go_wp2_with fail
          go_ret
          exact ⟨ret_bool (by unfold isV okTxt; rw [ha2.out, HL.out, decide_eq_true h1, decide_eq_true h2]; rfl), rfl⟩
        · have d2 : decide ((s.size : Int) ≤ 256) = false := by simp; omega
          go_wp2_with fail
          go_ret
          exact ⟨ret_bool (by unfold isV okTxt; rw [HL.out, decide_eq_false h2]; simp), rfl⟩
      · have d1 : decide ((1 : Int) ≤ (s.size : Int)) = false := by simp; omega
        go_wp2_with fail
        go_ret
        exact ⟨ret_bool (by unfold isV okTxt; rw [HL.out, decide_eq_false h1]; rfl), rfl⟩

end Go.Proofs.YthbejefodelpkaaGreat
namespace Go.Proofs.YthbejefodelpkaaGreat
open Go.RowKit

def bs (l : List UInt8) : ByteArray := ⟨l.toArray⟩
/-- Entry i of the row at an address. -/
def MCell (w : World) (b off : Nat) (i : Nat) (m : Mt) : Prop := w.cell? ⟨b, off + i * 2, none⟩ = some (.string ⟨m.1.toArray⟩) ∧ w.cell? ⟨b, off + i * 2 + 1, none⟩ = some (.string ⟨m.2.toArray⟩)
/-- The slice value v reads as the metadata l. -/
def MRow (w : World) (v : Value) (l : List Mt) : Prop :=
  ∃ x c, v = .slice x l.length c ∧ l.length ≤ c ∧ c ≤ maxLen ∧ (x = none → c = 0) ∧ (l ≠ [] → ∃ b off, x = some ⟨b, off, none⟩ ∧ ∀ i (h : i < l.length), MCell w b off i l[i])
theorem MRow.below {w w' : World} {v : Value} {l : List Mt} (h : MRow w v l) (hb : Below w.heap.size w w') : MRow w' v l := by
  obtain ⟨x, c, rfl, h1, h2, h3, h4⟩ := h
  refine ⟨x, c, rfl, h1, h2, h3, fun hne => ?_⟩
  obtain ⟨b, off, rfl, hc⟩ := h4 hne
  refine ⟨b, off, rfl, fun i hi => ?_⟩
  obtain ⟨c1, c2⟩ := hc i hi
  have hlt : b < w.heap.size := World.block_lt_of_cell? w _ c1
  exact ⟨(hb.cell (p := ⟨b, off + i * 2, none⟩) hlt).trans c1, (hb.cell (p := ⟨b, off + i * 2 + 1, none⟩) hlt).trans c2⟩
theorem MRow.drewN {w : World} {v : Value} {l : List Mt} (h : MRow w v l) (n : Nat) : MRow (w.drewN n) v l := h
theorem MRow.alloc {w : World} {v : Value} {l : List Mt} (h : MRow w v l) (o : Obj) : MRow (w.alloc o) v l := h.below ((Below.refl _ _).alloc (Nat.le_refl _) o)
theorem mrow_nil (w : World) : MRow w (.slice none 0 0) [] := ⟨none, 0, rfl, Nat.le_refl _, Nat.zero_le _, fun _ => rfl, fun h => absurd rfl h⟩

set_option maxRecDepth 100000 in
set_option maxHeartbeats 2000000 in
theorem checkEntry_any (v : Value) (l : List Mt) (k val : List UInt8) (w : World) (hr : MRow w v l) :
    Calls Tryz.prog 66 #[v, .agg #[.string ⟨k.toArray⟩, .string ⟨val.toArray⟩]] w fun e w' => e = .returned (.int .i64 (entP l.getLast? (k, val))) ∧ Below w.heap.size w w' := by
  have hk0 := fun w => isKey_any ⟨k.toArray⟩ w
  have hv0 := fun w => isValue_any ⟨val.toArray⟩ w
  have e1 : (ByteArray.mk k.toArray).data.toList = k := rfl
  have e2 : (ByteArray.mk val.toArray).data.toList = val := rfl
  rw [e1] at hk0
  rw [e2] at hv0
  clear e1 e2
  have HK := Lib.hid hk0
  have HV := Lib.hid hv0
  clear hk0 hv0
  have HE : Hid (entP l.getLast? (k, val) = if isK k = false then 13 else if isV val = false then 4 else match l.getLast? with | none => 0 | some q => if leK k q.1 = true then 24 else 0) := rfl
  generalize isK k = bk at *
  generalize isV val = bv at *
  go_enter Tryz.func66, Tryz.ntmps66
  go_wp2_with fail
  refine (HK.out _).mono ?_
  rintro e w1 ⟨rfl, rfl⟩
  have hb1 := Lib.hid ((Below.refl w.heap.size w).alloc (Nat.le_refl _) (.cells #[.string ⟨k.toArray⟩, .string ⟨val.toArray⟩] 65))
  cases bk with
  | false =>
    go_wp2_with fail
    go_ret
    exact ⟨by rw [HE.out]; rfl, hb1.out⟩
  | true =>
    go_wp2_with fail
    refine (HV.out _).mono ?_
    rintro e w1 ⟨rfl, rfl⟩
    cases bv with
    | false =>
      go_wp2_with fail
      go_ret
      exact ⟨by rw [HE.out]; rfl, hb1.out⟩
    | true =>
      have hr2 := hr.alloc (.cells #[.string ⟨k.toArray⟩, .string ⟨val.toArray⟩] 65)
      have hbl := Blk.new w 65 #[.string ⟨k.toArray⟩, .string ⟨val.toArray⟩]
      go_wp2_with fail
      generalize w.alloc (.cells #[.string ⟨k.toArray⟩, .string ⟨val.toArray⟩] 65) = wz at *
      have y0 : wz.cell? ⟨w.heap.size, 0, none⟩ = some (.string ⟨k.toArray⟩) := hbl.cell 0
      clear hbl hr
      obtain ⟨kb, hkb⟩ : ∃ kb, kb = w.heap.size := ⟨_, rfl⟩
      rw [← hkb] at hb1 y0 ⊢
      have HKB := Lib.hid hkb
      clear hkb
      rcases List.eq_nil_or_concat l with rfl | ⟨l', q, rfl⟩
      · obtain ⟨x, c, rfl, -⟩ := hr2
        have g0 : decide ((0 : Int) < ((0 : Nat) : Int)) = false := by decide
        go_quiet (fail)
        go_wp2_with fail
        go_ret
        exact ⟨by rw [HE.out]; rfl, by rw [← HKB.out]; exact below_drewN hb1.out _⟩
      · rw [List.concat_eq_append] at *
        obtain ⟨x, c, rfl, hc1, hc2, -, hcell0⟩ := hr2
        obtain ⟨b, off, rfl, hcell⟩ := hcell0 (by simp)
        clear hcell0
        obtain ⟨q1, -⟩ := hcell l'.length (by simp)
        simp only [List.getElem_append_right (Nat.le_refl _), Nat.sub_self, List.getElem_cons_zero] at q1
        have hl : (l' ++ [q]).length = l'.length + 1 := by simp
        rw [hl] at hc1 ⊢
        clear hl hcell
        rw [List.getLast?_concat] at HE
        generalize l'.length = n at *
        unfold maxLen at hc2
        have g0 : decide ((0 : Int) < ((n + 1 : Nat) : Int)) = true := by simp
        have z1 : IntKind.i64.wrap (((n + 1 : Nat) : Int) - 1) = (n : Int) := by rw [IntKind.wrap_i64]; omega
        have z2 : (0 : Int) ≤ (n : Int) := by omega
        have z3 : (n : Int) < ((n + 1 : Nat) : Int) := by omega
        have z4 : ((n : Int)).toNat = n := by omega
        have HL : Hid (leK k q.1 = (Op.bytesLess k q.1 || k == q.1)) := rfl
        cases hl1 : Op.bytesLess k q.1 with
        | true =>
          go_quiet (fail)
          clear z1 z2 z3 z4
          go_wp2_with fail
          go_ret
          exact ⟨by rw [HE.out]; simp [HL.out, hl1], by rw [← HKB.out]; exact below_drewN hb1.out _⟩
        | false =>
          cases hl2 : (k == q.1) with
          | true =>
            go_quiet (fail)
            clear z1 z2 z3 z4
            go_wp2_with fail
            go_ret
            exact ⟨by rw [HE.out]; simp [HL.out, hl1, hl2], by rw [← HKB.out]; exact below_drewN hb1.out _⟩
          | false =>
            go_quiet (fail)
            clear z1 z2 z3 z4
            go_wp2_with fail
            go_ret
            exact ⟨by rw [HE.out]; simp [HL.out, hl1, hl2], by rw [← HKB.out]; exact below_drewN hb1.out _⟩

theorem MRow.take {w : World} {x : Option Addr} {c : Nat} {l : List Mt} (h : MRow w (.slice x l.length c) l) (i : Nat) (hi : i ≤ l.length) (hne : l ≠ []) : MRow w (.slice x i c) (l.take i) := by
  obtain ⟨x', c', hv, h1, h2, h3, h4⟩ := h
  cases hv
  have hl : (l.take i).length = i := by simp; omega
  refine ⟨x, c, by rw [hl], by omega, h2, h3, fun _ => ?_⟩
  obtain ⟨b, off, rfl, hc⟩ := h4 hne
  refine ⟨b, off, rfl, fun j hj => ?_⟩
  have := hc j (by omega)
  simpa using this

/-- The state of a check before entry i. -/
theorem chkGo_at (l : List Mt) (i : Nat) (hi : i < l.length) (m : Mt) (hm : l[i] = m) (h : chkGo none l = chkGo ((l.take i).getLast?) (l.drop i)) :
    (entP (l.take i).getLast? m = 0 → chkGo none l = chkGo ((l.take (i + 1)).getLast?) (l.drop (i + 1))) ∧ (entP (l.take i).getLast? m ≠ 0 → chkGo none l = entP (l.take i).getLast? m) := by
  subst hm
  have e : (l.take (i + 1)).getLast? = some l[i] := by
    rw [List.take_succ_eq_append_getElem hi, List.getLast?_concat]
  rw [h, List.drop_eq_getElem_cons hi, e]
  refine ⟨fun h0 => ?_, fun h0 => ?_⟩
  · rw [chkGo, if_pos h0]
  · rw [chkGo, if_neg h0]

set_option maxRecDepth 100000 in
set_option maxHeartbeats 2000000 in
theorem check_any (v : Value) (l : List Mt) (w : World) (hr : MRow w v l) :
    Calls Tryz.prog 30 #[v] w fun e w' => e = .returned (.int .i64 (chkP l)) ∧ Below w.heap.size w w' := by
  obtain ⟨x, c, rfl, hc1, hc2, hc3, hcell⟩ := id hr
  unfold maxLen at hc2
  by_cases hbig : 16 < l.length
  · have HC : Hid (chkP l = 3) := by show _ = _; unfold chkP; rw [if_pos hbig]
    have d1 : decide ((16 : Int) < (l.length : Int)) = true := by simp; omega
    go_enter Tryz.func30, Tryz.ntmps30
    go_wp2_with fail
    go_ret
    exact ⟨by rw [HC.out]; rfl, Below.refl _ _⟩
  have HC : Hid (chkP l = chkGo none l) := by show _ = _; unfold chkP; rw [if_neg hbig]
  have d1 : decide ((16 : Int) < (l.length : Int)) = false := by simp; omega
  go_enter Tryz.func30, Tryz.ntmps30
  go_wp2_with fail
  go_loopw [11] (fun vi wr => ∃ i : Nat, vi = .int .i64 i ∧ i ≤ l.length ∧ Hid (chkGo none l = chkGo ((l.take i).getLast?) (l.drop i)) ∧ Hid (Below w.heap.size w wr)) (fun vi _ => l.length - (intOf vi).toNat)
  case atStart => exact ⟨0, rfl, Nat.zero_le _, rfl, Below.refl _ _⟩
  case round =>
    obtain ⟨i, rfl, hi, hch, hbw⟩ := hrel
    by_cases hlt : i < l.length
    · have hne : l ≠ [] := by rintro rfl; simp at hlt
      have hrw : MRow wr (.slice x l.length c) l := hr.below hbw.out
      have htk := fun o => (hrw.alloc o).take i hi hne
      obtain ⟨b, off, rfl, hcl⟩ := hcell hne
      obtain ⟨x', c', hv, -, -, -, hcell'⟩ := hrw
      cases hv
      obtain ⟨b', off', hbo, hcl'⟩ := hcell' hne
      cases hbo
      obtain ⟨q1, q2⟩ := hcl' i hlt
      clear hcl hcl' hcell' hcell hr
      obtain ⟨mk, mv, hm⟩ : ∃ mk mv, l[i] = (mk, mv) := ⟨_, _, rfl⟩
      have HAT := Lib.hid (chkGo_at l i hlt _ hm hch.out)
      rw [hm] at q1 q2
      simp only at q1 q2
      have HTK := Lib.hid htk
      clear htk hch hm hc3
      have hd : decide ((i : Int) < (l.length : Int)) = true := by simp; omega
      generalize hn : l.length = n at *
      have HN := Lib.hid hn
      clear hn
      go_wp2_with fail
      have hbl := Blk.new wr 65 #[.string ⟨mk.toArray⟩, .string ⟨mv.toArray⟩]
      have htk := HTK.out (.cells #[.string ⟨mk.toArray⟩, .string ⟨mv.toArray⟩] 65)
      have hbz := Lib.hid (hbw.out.alloc hbw.out.size (.cells #[.string ⟨mk.toArray⟩, .string ⟨mv.toArray⟩] 65))
      clear HTK q1 q2 hbw
      generalize wr.alloc (.cells #[.string ⟨mk.toArray⟩, .string ⟨mv.toArray⟩] 65) = wz at *
      generalize wr.heap.size = kb at *
      have y0 : wz.cell? ⟨kb, 0, none⟩ = some (.string ⟨mk.toArray⟩) := hbl.cell 0
      have y1 : wz.cell? ⟨kb, 1, none⟩ = some (.string ⟨mv.toArray⟩) := hbl.cell 1
      clear hbl
      have hic : i ≤ c := by omega
      have i0 : (0 : Int) ≤ (i : Int) := by omega
      have ic : (i : Int) ≤ (c : Int) := by omega
      go_still_tail 4, (by kernel_rfl)
      change wpList _ _ _ _ _ wz.drew
      go_wp2_with fail
      have htk' : MRow wz.drew _ _ := htk
      refine (checkEntry_any _ _ _ _ _ htk').mono ?_
      rintro e w2 ⟨rfl, hb2⟩
      have hbw2 : Below w.heap.size w w2 := hbz.out.drew.trans (hb2.mono hbz.out.size)
      clear htk htk' hb2 hbz y0 y1
      by_cases h0 : entP (l.take i).getLast? (mk, mv) = 0
      · rw [h0]
        have HAT2 := Lib.hid (HAT.out.1 h0)
        clear h0 HAT
        go_wp2_with fail
        go_roundw
        case rel => exact ⟨i + 1, by go_num, by omega, HAT2, hbw2⟩
        case measure => simp [intOf]; omega
      · have HAT2 := Lib.hid (HAT.out.2 h0)
        clear HAT
        generalize entP (l.take i).getLast? (mk, mv) = ee at *
        have hne0 : ((ee : Int) != 0) = true := by simp; omega
        go_wp2_with fail
        go_ret
        exact ⟨by rw [HC.out, HAT2.out]; rfl, hbw2⟩
    · have hd : decide ((i : Int) < (l.length : Int)) = false := by simp; omega
      have HZ : Hid (chkGo none l = 0) := by show _ = _; rw [hch.out, List.drop_of_length_le (by omega)]; rfl
      go_wp2_with fail
      go_ret
      exact ⟨by rw [HC.out, HZ.out]; rfl, hbw.out⟩

set_option maxRecDepth 100000 in
set_option maxHeartbeats 2000000 in
theorem rcheck_any (v : Value) (l : List Mt) (w : World) (hr : MRow w v l) (hsz : ∀ m ∈ l, m.1.length ≤ maxLen ∧ m.2.length ≤ maxLen) :
    Calls Tryz.prog 50 #[v] w fun e w' => e = .returned (.int .i64 (chkP l)) ∧ ∃ n, w' = w.drewN n := by
  obtain ⟨x, c, rfl, hc1, hc2, hc3, hcell⟩ := id hr
  unfold maxLen at hc2
  by_cases hbig : 16 < l.length
  · have HC : Hid (chkP l = 3) := by show _ = _; unfold chkP; rw [if_pos hbig]
    have d1 : decide ((16 : Int) < (l.length : Int)) = true := by simp; omega
    go_enter Tryz.func50, Tryz.ntmps50
    go_wp2_with fail
    go_ret
    exact ⟨by rw [HC.out]; rfl, 0, rfl⟩
  have HC : Hid (chkP l = chkGo none l) := by show _ = _; unfold chkP; rw [if_neg hbig]
  have d1 : decide ((16 : Int) < (l.length : Int)) = false := by simp; omega
  go_enter Tryz.func50, Tryz.ntmps50
  go_wp2_with fail
  go_loopw [9] (fun vi wr => ∃ i : Nat, vi = .int .i64 i ∧ i ≤ l.length ∧ Hid (chkGo none l = chkGo ((l.take i).getLast?) (l.drop i)) ∧ Hid (∃ n, wr = w.drewN n)) (fun vi _ => l.length - (intOf vi).toNat)
  case atStart => exact ⟨0, rfl, Nat.zero_le _, rfl, 0, rfl⟩
  case round =>
    obtain ⟨i, rfl, hi, hch, hbw⟩ := hrel
    by_cases hlt : i < l.length
    · have hne : l ≠ [] := by rintro rfl; simp at hlt
      have hrw : MRow wr (.slice x l.length c) l := by obtain ⟨n, rfl⟩ := hbw.out; exact hr.drewN n
      obtain ⟨x', c', hv, -, -, -, hcell'⟩ := hrw
      cases hv
      obtain ⟨b, off, rfl, hcl'⟩ := hcell' hne
      obtain ⟨q1, q2⟩ := hcl' i hlt
      obtain ⟨mk, mv, hm⟩ : ∃ mk mv, l[i] = (mk, mv) := ⟨_, _, rfl⟩
      have hs := hsz l[i] (List.getElem_mem hlt)
      have HAT := Lib.hid (chkGo_at l i hlt _ hm hch.out)
      rw [hm] at q1 q2 hs
      simp only at q1 q2 hs
      have hprev : (i = 0 ∧ (l.take i).getLast? = none) ∨ ∃ j q, i = j + 1 ∧ (l.take i).getLast? = some q ∧ wr.cell? ⟨b, off + j * 2, none⟩ = some (.string ⟨q.1.toArray⟩) := by
        cases i with
        | zero => exact .inl ⟨rfl, by simp⟩
        | succ j =>
          refine .inr ⟨j, l[j], rfl, ?_, (hcl' j (by omega)).1⟩
          rw [List.take_succ_eq_append_getElem (by omega), List.getLast?_concat]
      clear hcl' hcell' hcell hr hch hm hc3 hsz
      have hd : decide ((i : Int) < (l.length : Int)) = true := by simp; omega
      have i1 : (i : Int) < (l.length : Int) := by omega
      have HE : Hid (entP (l.take i).getLast? (mk, mv) = if isK mk = false then 13 else if isV mv = false then 4 else match (l.take i).getLast? with | none => 0 | some q => if leK mk q.1 = true then 24 else 0) := rfl
      have HK := Lib.hid (fun w => rName_any ⟨mk.toArray⟩ w hs.1)
      have HV := Lib.hid (fun w => rvalue_any ⟨mv.toArray⟩ w hs.2)
      have e1 : (ByteArray.mk mk.toArray).data.toList = mk := rfl
      have e2 : (ByteArray.mk mv.toArray).data.toList = mv := rfl
      rw [e1] at HK
      rw [e2] at HV
      clear e1 e2 hs
      generalize isK mk = bk at *
      generalize isV mv = bv at *
      generalize hn : l.length = n at *
      have HN := Lib.hid hn
      clear hn
      go_wp2_with fail
      refine (HK.out _).mono ?_
      rintro e w1 ⟨rfl, rfl⟩
      cases bk with
      | false =>
        have HF : Hid (chkGo none l = 13) := by
          have h1 : entP (l.take i).getLast? (mk, mv) = 13 := HE.out
          exact (HAT.out.2 (by rw [h1]; decide)).trans h1
        go_wp2_with fail
        go_ret
        exact ⟨by rw [HC.out, HF.out]; rfl, hbw.out⟩
      | true =>
        go_wp2_with fail
        refine (HV.out _).mono ?_
        rintro e w1 ⟨rfl, rfl⟩
        cases bv with
        | false =>
          have HF : Hid (chkGo none l = 4) := by
            have h1 : entP (l.take i).getLast? (mk, mv) = 4 := HE.out
            exact (HAT.out.2 (by rw [h1]; decide)).trans h1
          go_wp2_with fail
          go_ret
          exact ⟨by rw [HC.out, HF.out]; rfl, hbw.out⟩
        | true =>
          rcases hprev with ⟨rfl, hp⟩ | ⟨j, q, rfl, hp, hcq⟩
          · have HZ : Hid (chkGo none l = chkGo ((l.take (0 + 1)).getLast?) (l.drop (0 + 1))) := HAT.out.1 (by rw [HE.out, hp]; rfl)
            clear hp HAT HE
            have g0 : decide ((0 : Int) < ((0 : Nat) : Int)) = false := by decide
            go_wp2_with fail
            go_quiet (fail)
            go_wp2_with fail
            refine ⟨⟨1, rfl, by omega, HZ, ?_⟩, by simp [intOf]; omega⟩
            obtain ⟨n0, hn0⟩ := hbw.out
            exact ⟨n0 + nq, by rw [hn0]; simp [World.drewN]; omega⟩
          · have HP := Lib.hid hp
            clear hp
            have HL : Hid (leK mk q.1 = (Op.bytesLess mk q.1 || mk == q.1)) := rfl
            have g0 : decide ((0 : Int) < ((j + 1 : Nat) : Int)) = true := by simp
            have z1 : IntKind.i64.wrap (((j + 1 : Nat) : Int) - 1) = (j : Int) := by rw [IntKind.wrap_i64]; omega
            have z2 : (0 : Int) ≤ (j : Int) := by omega
            have z3 : (j : Int) < (n : Int) := by omega
            have z4 : ((j : Int)).toNat = j := by omega
            cases hl1 : Op.bytesLess mk q.1 with
            | true =>
              have HF : Hid (chkGo none l = 24) := by
                have h1 : entP (l.take (j + 1)).getLast? (mk, mv) = 24 := by rw [HE.out, HP.out]; simp [HL.out, hl1]
                exact (HAT.out.2 (by rw [h1]; decide)).trans h1
              go_wp2_with fail
              go_quiet (fail)
              clear z1 z2 z3 z4
              go_wp2_with fail
              go_ret
              obtain ⟨n0, hn0⟩ := hbw.out
              exact ⟨by rw [HC.out, HF.out]; rfl, n0 + nq, by rw [hn0]; simp [World.drewN]; omega⟩
            | false =>
              cases hl2 : (mk == q.1) with
              | true =>
                have HF : Hid (chkGo none l = 24) := by
                  have h1 : entP (l.take (j + 1)).getLast? (mk, mv) = 24 := by rw [HE.out, HP.out]; simp [HL.out, hl1, hl2]
                  exact (HAT.out.2 (by rw [h1]; decide)).trans h1
                go_wp2_with fail
                go_quiet (fail)
                clear z1 z2 z3 z4
                go_wp2_with fail
                go_ret
                obtain ⟨n0, hn0⟩ := hbw.out
                exact ⟨by rw [HC.out, HF.out]; rfl, n0 + nq, by rw [hn0]; simp [World.drewN]; omega⟩
              | false =>
                have HZ : Hid (chkGo none l = chkGo ((l.take (j + 1 + 1)).getLast?) (l.drop (j + 1 + 1))) := HAT.out.1 (by rw [HE.out, HP.out]; simp [HL.out, hl1, hl2])
                go_wp2_with fail
                go_quiet (fail)
                clear z1 z2 z3 z4
                go_wp2_with fail
                refine ⟨⟨j + 1 + 1, by go_num, by omega, HZ, ?_⟩, by simp [intOf]; omega⟩
                obtain ⟨n0, hn0⟩ := hbw.out
                exact ⟨n0 + nq, by rw [hn0]; simp [World.drewN]; omega⟩
    · have hd : decide ((i : Int) < (l.length : Int)) = false := by simp; omega
      have HZ : Hid (chkGo none l = 0) := by show _ = _; rw [hch.out, List.drop_of_length_le (by omega)]; rfl
      go_wp2_with fail
      go_ret
      exact ⟨by rw [HC.out, HZ.out]; rfl, hbw.out⟩
end Go.Proofs.YthbejefodelpkaaGreat
namespace Go.Proofs.YthbejefodelpkaaGreat
open Go.RowKit

theorem spc_eq (c : UInt8) : spc c = (decide ((c.toNat : Int) = 9) || decide ((c.toNat : Int) = 10) || decide ((c.toNat : Int) = 13) || decide ((c.toNat : Int) = 32)) := by
  have key : ∀ n : Fin 256, spc (UInt8.ofNat n.val) = (decide ((n.val : Int) = 9) || decide ((n.val : Int) = 10) || decide ((n.val : Int) = 13) || decide ((n.val : Int) = 32)) := by decide +kernel
  have h := key ⟨c.toNat, c.toNat_lt⟩
  simpa using h
theorem spc4 (n : Int) : (n == 9 || n == 10 || n == 13 || n == 32) = (decide (n = 9) || decide (n = 10) || decide (n = 13) || decide (n = 32)) := by
  by_cases h : n = 9 <;> by_cases h2 : n = 10 <;> by_cases h3 : n = 13 <;> by_cases h4 : n = 32 <;> simp [h, h2, h3, h4]
/-- The state of reading a number: n is the number of the first i bytes, which are digits. -/
def NumAt (s : ByteArray) (i n : Nat) : Prop := i ≤ s.size ∧ (s.data.toList.take i).all dig = true ∧ n = decV (s.data.toList.take i) 0
theorem NumAt.zero (s : ByteArray) : NumAt s 0 0 := ⟨Nat.zero_le _, rfl, rfl⟩
theorem NumAt.lt {s : ByteArray} {i n : Nat} (h : NumAt s i n) (hi : i ≤ 9) : n ≤ 999999999 ∧ (i ≤ 8 → n ≤ 99999999) := by
  obtain ⟨h1, h2, rfl⟩ := h
  have h3 := decV_lt _ h2 0
  have h4 : (s.data.toList.take i).length = i := by simp; omega
  rw [h4] at h3
  have h5 : 10 ^ i ≤ 10 ^ 9 := Nat.pow_le_pow_right (by decide) hi
  refine ⟨by omega, fun h8 => ?_⟩
  have h6 : 10 ^ i ≤ 10 ^ 8 := Nat.pow_le_pow_right (by decide) h8
  omega
theorem NumAt.step {s : ByteArray} {i n : Nat} (h : NumAt s i n) (hi : i < s.size) (hd : dig s[i] = true) : NumAt s (i + 1) (10 * n + ((s[i]).toNat - 48)) := by
  obtain ⟨h1, h2, rfl⟩ := h
  refine ⟨hi, ?_, ?_⟩
  · rw [take_snocB s i hi, List.all_append, h2]; simp [hd]
  · rw [take_snocB s i hi, decV_append]; rfl
theorem NumAt.fin {s : ByteArray} {i n : Nat} (h : NumAt s i n) (hi : i ≤ 9) (he : ∀ h : i < s.size, dig s[i] = false) : numAt s.data.toList = (n, i) := by
  obtain ⟨h1, h2, rfl⟩ := h
  have e := tw_end s.data.toList i (by simpa using h1) h2 (fun h => he (by simpa using h))
  unfold numAt
  rw [e]
  have h4 : (s.data.toList.take i).length = i := by simp; omega
  rw [h4, if_neg (by omega)]
theorem NumAt.many {s : ByteArray} {n : Nat} (h : NumAt s 9 n) (hi : 9 < s.size) (he : dig s[9] = true) : numAt s.data.toList = (0, 0) := by
  obtain ⟨h1, h2, rfl⟩ := h
  have e := tw_more s.data.toList 9 (by simpa using hi) h2 he
  unfold numAt
  rw [if_pos e]

end Go.Proofs.YthbejefodelpkaaGreat
namespace Go.Proofs.YthbejefodelpkaaGreat
open Go.RowKit

theorem fnd_le (c : UInt8) (l : List UInt8) : fnd c l ≤ l.length := by
  induction l with
  | nil => simp [fnd]
  | cons b l ih => unfold fnd; split <;> simp <;> omega
theorem fnd_get (c : UInt8) (l : List UInt8) (h : fnd c l < l.length) : l[fnd c l] = c := by
  induction l with
  | nil => simp at h
  | cons b l ih =>
    unfold fnd at h ⊢
    split
    · rename_i hb; simp [hb]
    · rename_i hb
      rw [if_neg hb] at h
      simp only [List.getElem_cons_succ]
      exact ih (by simpa using h)
theorem fnd_before (c : UInt8) (l : List UInt8) (i : Nat) (h : i < fnd c l) (hl : i < l.length) : l[i] ≠ c := by
  induction l generalizing i with
  | nil => simp at hl
  | cons b l ih =>
    unfold fnd at h
    split at h
    · omega
    · rename_i hb
      cases i with
      | zero => simpa using hb
      | succ i => simpa using ih i (by omega) (by simpa using hl)
theorem fnd_index (c : UInt8) (l : List UInt8) : Lib.indexByte l c = if fnd c l < l.length then (fnd c l : Int) else -1 := by
  induction l with
  | nil => simp [Lib.indexByte, fnd]
  | cons b l ih =>
    by_cases hb : b = c
    · simp [hb, Lib.indexByte, fnd]
    · have e1 : fnd c (b :: l) = fnd c l + 1 := by simp [fnd, hb]
      have e2 : Lib.indexByte (b :: l) c = if (Lib.indexByte l c == -1) = true then -1 else Lib.indexByte l c + 1 := by
        have : (b == c) = false := by simpa using hb
        simp only [Lib.indexByte, this]
        rfl
      rw [e1, e2, ih, List.length_cons]
      by_cases h : fnd c l < l.length
      · have h' : fnd c l + 1 < l.length + 1 := by omega
        have hn : (((fnd c l : Nat) : Int) == -1) = false := by rw [beq_eq_false_iff_ne]; omega
        rw [if_pos h, if_pos h', hn]
        simp
      · have h' : ¬ fnd c l + 1 < l.length + 1 := by omega
        rw [if_neg h, if_neg h']
        rfl
theorem fnd_unique (c : UInt8) (l : List UInt8) (i : Nat) (hi : i ≤ l.length) (h1 : ∀ j (h : j < l.length), j < i → l[j] ≠ c) (h2 : ∀ h : i < l.length, l[i] = c) : fnd c l = i := by
  induction l generalizing i with
  | nil => simp at hi; simp [fnd, hi]
  | cons b l ih =>
    cases i with
    | zero =>
      have : b = c := h2 (by simp)
      simp [fnd, this]
    | succ i =>
      have hb : b ≠ c := h1 0 (by simp) (by omega)
      unfold fnd
      rw [if_neg hb, ih i (by simpa using hi) (fun j hj hji => by have := h1 (j + 1) (by simpa using hj) (by omega); simpa using this) (fun hi' => by have := h2 (by simpa using hi'); simpa using this)]

def cutV (u : List UInt8) (c : UInt8) : Value := .tuple #[.string ⟨(u.take (fnd c u)).toArray⟩, .string ⟨(u.drop (fnd c u + 1)).toArray⟩, .bool (decide (fnd c u < u.length))]

set_option maxHeartbeats 1000000 in
set_option maxRecDepth 100000 in
theorem indexByte_any (s : ByteArray) (c : Int) (w : World) :
    Calls Tryz.prog 159 #[.string s, .int .u8 c] w fun e w' => e = .returned (.int .i64 (Lib.indexByte s.data.toList c.toNat.toUInt8)) ∧ w' = w := by
  go_enter Tryz.func159, Tryz.ntmps159
  go_wp2
  rw [run_callFunc_extern Tryz.func174 (by kernel_rfl) (by kernel_rfl) (by kernel_rfl) (e := Extern.BytealgIndexByte.indexByte) (by kernel_rfl), Lib.run_indexByteString]
  simp only [Result.andThen]
  rw [Oper.upon_value]
  go_wp2
  go_ret
  exact ⟨rfl, rfl⟩

set_option maxHeartbeats 1000000 in
set_option maxRecDepth 100000 in
theorem index1_any (s : ByteArray) (c : UInt8) (w : World) :
    Calls Tryz.prog 135 #[.string s, .string ⟨#[c]⟩] w fun e w' => e = .returned (.int .i64 (Lib.indexByte s.data.toList c)) ∧ w' = w := by
  have hb := c.toNat_lt
  cases he : ([c] == s.toList) with
  | true =>
    have HS : Hid (Lib.indexByte s.data.toList c = 0) := by
      have : [c] = s.data.toList := by rw [← ByteArray.toList_eq]; exact eq_of_beq he
      show _ = _
      rw [← this]
      simp [Lib.indexByte]
    go_enter Tryz.func135, Tryz.ntmps135
    go_wp2_with fail
    go_ret
    exact ⟨by rw [HS.out]; rfl, rfl⟩
  | false =>
    go_enter Tryz.func135, Tryz.ntmps135
    go_wp2_with fail
    refine (indexByte_any _ _ _).mono ?_
    rintro e w1 ⟨rfl, rfl⟩
    go_wp2_with fail
    go_ret
    refine ⟨?_, rfl⟩
    simp
    rfl

set_option maxHeartbeats 1000000 in
set_option maxRecDepth 100000 in
theorem cut0_any (u : List UInt8) (c : UInt8) (w : World) (hu : u.length ≤ maxLen) :
    Calls Tryz.prog 112 #[.string ⟨u.toArray⟩, .string ⟨#[c]⟩] w fun e w' => e = .returned (cutV u c) ∧ ∃ n, w' = w.drewN n := by
  unfold maxLen at hu
  have hix := fun w => index1_any ⟨u.toArray⟩ c w
  have e1 : (ByteArray.mk u.toArray).data.toList = u := rfl
  rw [e1, fnd_index] at hix
  clear e1
  have hle := fnd_le c u
  have HV : Hid (cutV u c = .tuple #[.string ⟨(u.take (fnd c u)).toArray⟩, .string ⟨(u.drop (fnd c u + 1)).toArray⟩, .bool (decide (fnd c u < u.length))]) := rfl
  generalize fnd c u = p at *
  by_cases hp : p < u.length
  · rw [if_pos hp] at hix
    have HIX := Lib.hid hix
    clear hix
    obtain ⟨s, hs⟩ : ∃ s : ByteArray, s = ⟨u.toArray⟩ := ⟨_, rfl⟩
    have hss : s.size = u.length := by rw [hs]; simp [ByteArray.size]
    have x1 : Hid (s.extract 0 p = ⟨(u.take p).toArray⟩) := by show _ = _; rw [hs]; exact ByteArray.ext (by simp)
    have x2 : Hid (s.extract (p + 1) s.size = ⟨(u.drop (p + 1)).toArray⟩) := by show _ = _; rw [hss, hs]; exact ByteArray.ext (by simp; rw [List.take_of_length_le (by simp)])
    rw [← hs] at HIX ⊢
    have HSS := Lib.hid hss
    clear hs
    rw [← hss] at hp hu
    clear hss hle
    go_enter Tryz.func112, Tryz.ntmps112
    go_wp2_with fail
    refine (HIX.out _).mono ?_
    rintro e w1 ⟨rfl, rfl⟩
    have z1 : IntKind.i64.wrap ((p : Int) + 1) = (p : Int) + 1 := IntWalk.i64_in _ (by omega)
    have z2 : ((p : Int) + 1).toNat = p + 1 := by omega
    have z3 : (0 : Int) ≤ (p : Int) + 1 := by omega
    have z4 : (p : Int) + 1 ≤ (s.size : Int) := by omega
    have z5 : (p : Int) ≤ (s.size : Int) := by omega
    have z6 : (0 : Int) ≤ (p : Int) := by omega
    go_wp2_with fail
    go_quiet (fail)
    clear z1 z2 z3 z4 z5 z6
    go_wp2_with fail
    refine bodyPost_ret (v := .tuple #[.string (s.extract 0 p), .string (s.extract (p + 1) s.size), .bool true]) (by simp [results, Tryz.f112, go_sem]) rfl ⟨?_, _, rfl⟩
    rw [HV.out, x1.out, x2.out, decide_eq_true (by have := HSS.out; omega)]
  · rw [if_neg hp] at hix
    have HIX := Lib.hid hix
    clear hix
    go_enter Tryz.func112, Tryz.ntmps112
    go_wp2_with fail
    refine (HIX.out _).mono ?_
    rintro e w1 ⟨rfl, rfl⟩
    go_wp2_with fail
    refine bodyPost_ret (v := .tuple #[.string ⟨u.toArray⟩, .string ⟨#[]⟩, .bool false]) (by simp [results, Tryz.f112, go_sem]) rfl ⟨?_, 0, rfl⟩
    rw [HV.out, List.take_of_length_le (by omega), List.drop_of_length_le (by omega), decide_eq_false (by omega)]

set_option maxHeartbeats 1000000 in
set_option maxRecDepth 100000 in
theorem cut_any (u : List UInt8) (c : UInt8) (w : World) (hu : u.length ≤ maxLen) :
    Calls Tryz.prog 90 #[.string ⟨u.toArray⟩, .string ⟨#[c]⟩] w fun e w' => e = .returned (cutV u c) ∧ ∃ n, w' = w.drewN n := by
  have H := Lib.hid (fun w => cut0_any u c w hu)
  have HV : Hid (cutV u c = .tuple #[.string ⟨(u.take (fnd c u)).toArray⟩, .string ⟨(u.drop (fnd c u + 1)).toArray⟩, .bool (decide (fnd c u < u.length))]) := rfl
  generalize hb : decide (fnd c u < u.length) = b at *
  clear hb
  generalize u.take (fnd c u) = a1 at *
  generalize u.drop (fnd c u + 1) = a2 at *
  generalize cutV u c = V at *
  obtain rfl := HV.out
  clear HV
  go_enter Tryz.func90, Tryz.ntmps90
  go_wp2_with fail
  refine (H.out _).mono ?_
  rintro e w1 ⟨rfl, n, rfl⟩
  go_wp2_with fail
  refine bodyPost_ret (v := .tuple #[.string ⟨a1.toArray⟩, .string ⟨a2.toArray⟩, .bool b]) (by simp [results, Tryz.f90, go_sem]) rfl ⟨rfl, _, rfl⟩

end Go.Proofs.YthbejefodelpkaaGreat
namespace Go.Proofs.YthbejefodelpkaaGreat
open Go.RowKit

/-- l begins with p. -/
def begP (p l : List UInt8) : Bool := decide (p.length ≤ l.length) && (l.take p.length == p)
theorem ba_extract_eq (s p : ByteArray) (n : Nat) : ((s.extract 0 n).toList == p.toList) = (s.data.toList.take n == p.data.toList) := by
  rw [ByteArray.toList_eq, ByteArray.toList_eq, extract_list]; simp
theorem hasPre0_any (s p : ByteArray) (w : World) : Calls Tryz.prog 67 #[.string s, .string p] w fun e w' => e = .returned (.bool (begP p.data.toList s.data.toList)) ∧ w = w' := by
  have HL : Hid (p.data.toList.length = p.size ∧ s.data.toList.length = s.size) := ⟨by simp, by simp⟩
  cases hc : decide (p.size ≤ s.size) with
  | true =>
    have hc0 : p.size ≤ s.size := by simpa using hc
    have hc' : decide ((p.size : Int) ≤ (s.size : Int)) = true := by simp at hc ⊢; omega
    have hc2 : (p.size : Int) ≤ (s.size : Int) := by omega
    clear hc
    go_enter Tryz.func67, Tryz.ntmps67
    go_wp2_with fail
    go_ret
    refine ⟨ret_bool ?_, rfl⟩
    unfold begP
    rw [HL.out.1, HL.out.2, decide_eq_true hc0, ← ba_extract_eq]
    simp
  | false =>
    have hc0 : ¬ p.size ≤ s.size := by simpa using hc
    have hc' : decide ((p.size : Int) ≤ (s.size : Int)) = false := by simp at hc ⊢; omega
    clear hc
    go_enter Tryz.func67, Tryz.ntmps67
    go_wp2_with fail
    go_ret
    refine ⟨ret_bool ?_, rfl⟩
    unfold begP
    rw [HL.out.1, HL.out.2, decide_eq_false hc0]
    rfl
theorem hasPre_any (s p : ByteArray) (w : World) : Calls Tryz.prog 31 #[.string s, .string p] w fun e w' => e = .returned (.bool (begP p.data.toList s.data.toList)) ∧ w = w' := by
  have H := Lib.hid (fun w => hasPre0_any s p w)
  go_enter Tryz.func31, Tryz.ntmps31
  go_wp2_with fail
  refine (H.out _).mono ?_
  rintro e w1 ⟨rfl, rfl⟩
  go_wp2_with fail
  go_ret
  exact ⟨rfl, rfl⟩
theorem NumAt.lt10 {s : ByteArray} {i n : Nat} (h : NumAt s i n) (hi : i ≤ 10) : n ≤ 9999999999 ∧ (i ≤ 9 → n ≤ 999999999) := by
  obtain ⟨h1, h2, rfl⟩ := h
  have h3 := decV_lt _ h2 0
  have h4 : (s.data.toList.take i).length = i := by simp; omega
  rw [h4] at h3
  have h5 : 10 ^ i ≤ 10 ^ 10 := Nat.pow_le_pow_right (by decide) hi
  refine ⟨by omega, fun h8 => ?_⟩
  have h6 : 10 ^ i ≤ 10 ^ 9 := Nat.pow_le_pow_right (by decide) h8
  omega
theorem numP_bad {s : ByteArray} {i : Nat} (hi : i < s.size) (hd : dig s[i] = false) : numP s.data.toList = none := by
  unfold numP
  rw [if_neg]
  rintro ⟨-, -, h⟩
  rw [all_bad dig s i hi hd] at h
  cases h
/-- The answer of the reference's number. -/
def numB (l : List UInt8) : Bool := (numP l).isSome
/-- The index of a word of a header, or -1. -/
def wIx (u : List UInt8) : Int := if u = [87, 73, 68, 84, 72] then 0 else if u = [72, 69, 73, 71, 72, 84] then 1 else if u = [68, 69, 80, 84, 72] then 2 else if u = [77, 65, 88, 86, 65, 76] then 3 else -1
end Go.Proofs.YthbejefodelpkaaGreat
namespace Go.Proofs.YthbejefodelpkaaGreat
open Go.RowKit

theorem getP_drop (l : List Mt) (k : List UInt8) (i : Nat) (hi : i < l.length) (m : Mt) (hm : l[i] = m) : getP (l.drop i) k = if (m.1 == k) = true then some m.2 else getP (l.drop (i + 1)) k := by
  subst hm
  rw [List.drop_eq_getElem_cons hi]
  unfold getP
  rw [List.find?_cons]
  cases (l[i].1 == k) <;> rfl
def optV (o : Option (List UInt8)) : Value := .tuple #[.string ⟨(o.getD []).toArray⟩, .bool o.isSome]

end Go.Proofs.YthbejefodelpkaaGreat
namespace Go.Proofs.YthbejefodelpkaaGreat
open Go.RowKit

/-- The address of 'x[k:]'. -/
def cutAt (x : Option Addr) (c k size : Nat) : Option Addr := if c = k then x else x.map (·.add (k * size))
/-- 'x[k:]', its address under a name. -/
theorem wpList_slice_l {P : Program} {w : World} {ops : Array Oper} {rest : List Oper} {o : Oper} {a : Act} {Q : Exit → Act → World → Prop} (hg : o.guard = none) {sOp iOp : Operand} {t : TypeId}
    (ho : o.op = Op.slice t sOp (some iOp) none none) (ht : P.underlying t = some (.slice (P.elem t))) {size : Nat} (hsz : ∀ w : World, (sizeOf (P.elem t)).run P w = .ok size w)
    {x : Option Addr} {n c : Nat} (hs : a.eval sOp = .slice x n c) {k : Nat} (hi : a.eval iOp = .int .i64 (k : Int)) (hk : k ≤ n)
    (h : ∀ x2, Hid (x2 = cutAt x c k size) → wpList P ops Q rest (a.put o.dst (.slice x2 (n - k) (c - k))) w) : wpList P ops Q (o :: rest) a w := by
  refine wpList_plain hg fun K hK => ?_
  have hr := run_slice_l (P := P) (w := w) t x n c ht .i64 (k : Int) (by omega) (by omega)
  have hr2 := run_sliceAt_slice (P := P) (w := w) t (.slice x n c) (some (.int .i64 (k : Int))) none none ht
  rw [hr, hsz] at hr2
  simp only [Result.andThen, sliced, Int.toNat_natCast] at hr2
  unfold Oper.wp
  simp [execOp, ho, hs, hi, hr2, Result.andThen]
  exact hK _ _ (h _ rfl)

def mcell (m : Mt) : List Value := [.string ⟨m.1.toArray⟩, .string ⟨m.2.toArray⟩]
def mcells (l : List Mt) : List Value := l.flatMap mcell
theorem mcells_length (l : List Mt) : (mcells l).length = l.length * 2 := by
  induction l with
  | nil => rfl
  | cons t l ih => simp [mcells, mcell] at ih ⊢; omega
theorem mcells_append (a b : List Mt) : mcells (a ++ b) = mcells a ++ mcells b := by simp [mcells]
theorem mcells_one (l : List Mt) : ∀ u ∈ mcells l, u.oneCell' = true := by
  intro u hu
  simp only [mcells, mcell, List.mem_flatMap] at hu
  obtain ⟨m, _, hm⟩ := hu
  simp at hm
  rcases hm with rfl | rfl <;> rfl
theorem mcells_get (l : List Mt) (i : Nat) (h : i < l.length) : (mcells l)[i * 2]? = some (.string ⟨l[i].1.toArray⟩) ∧ (mcells l)[i * 2 + 1]? = some (.string ⟨l[i].2.toArray⟩) := by
  induction l generalizing i with
  | nil => simp at h
  | cons t l ih =>
    cases i with
    | zero => simp [mcells, mcell]
    | succ i =>
      have := ih i (by simpa using h)
      have e : mcells (t :: l) = mcell t ++ mcells l := rfl
      rw [e]
      have hl : (mcell t).length = 2 := rfl
      refine ⟨?_, ?_⟩ <;> rw [List.getElem?_append_right (by rw [hl]; omega), hl]
      · rw [show (i + 1) * 2 - 2 = i * 2 from by omega]; simpa using this.1
      · rw [show (i + 1) * 2 + 1 - 2 = i * 2 + 1 from by omega]; simpa using this.2
/-- The slice value v owns a row of metadata, from block base on. -/
def MOwn (w : World) (base : Nat) (v : Value) (l : List Mt) : Prop := w.ownsRow base 65 2 v l.length (mcells l)
theorem MOwn.row {w : World} {base : Nat} {v : Value} {l : List Mt} (h : MOwn w base v l) : MRow w v l := by
  rcases h.2 with ⟨rfl, h0⟩ | ⟨g, cap, cur, rfl, _, hg, hc, hm, _⟩
  · have : l = [] := List.eq_nil_of_length_eq_zero h0
    subst this
    exact mrow_nil w
  · refine ⟨_, cap, rfl, hc, hm, (fun h => by cases h), fun _ => ⟨g, 0, rfl, fun i hi => ?_⟩⟩
    have hgt := mcells_get l i hi
    have a1 := World.ownsRow.cells h (g := g) rfl _ _ hgt.1
    have a2 := World.ownsRow.cells h (g := g) rfl _ _ hgt.2
    rw [Addr.add_lit] at a1 a2
    exact ⟨a1, by simpa [Nat.add_assoc] using a2⟩
theorem mown_more {w : World} {base : Nat} {v : Value} {n : Nat} {l : List Mt} {xs : List Value} (h : w.ownsRow base 65 2 v n (mcells l ++ xs)) (new : List Mt) (hx : xs = mcells new) (hn : n = l.length + new.length) : MOwn w base v (l ++ new) := by
  subst hx; subst hn
  unfold MOwn
  rw [mcells_append, List.length_append]
  exact h
theorem el_meta : Elem Tryz.prog 37 65 (.agg #[.string ⟨#[]⟩, .string ⟨#[]⟩]) 2 32 := by
  refine ⟨Tryz.underlying37, ?_, rfl, by decide⟩
  exact info_parts (by kernel_rfl)
theorem size_meta (w : World) : (sizeOf (Tryz.prog.elem 37)).run Tryz.prog w = .ok 2 w := by kernel_rfl

/-- What is read from a row, as the new cells of an append. -/
theorem MRow.news {w : World} {x : Option Addr} {n c : Nat} {l : List Mt} (h : MRow w (.slice x n c) l) : ∀ ad, x = some ad → ∀ j u, (mcells l)[j]? = some u → w.cell? (ad.add j) = some u := by
  intro ad hx j u hu
  obtain ⟨x', c', hv, _, _, _, h4⟩ := h
  cases hv
  have hj : j < l.length * 2 := by
    have := (List.getElem?_eq_some_iff.1 hu).1
    rwa [mcells_length] at this
  have hne : l ≠ [] := by rintro rfl; simp at hj
  obtain ⟨b, off, hbo, hc⟩ := h4 hne
  rw [hbo] at hx
  cases hx
  rw [Addr.add_lit]
  have hi : j / 2 < l.length := by omega
  obtain ⟨c1, c2⟩ := hc (j / 2) hi
  have hg := mcells_get l (j / 2) hi
  by_cases h2 : j % 2 = 0
  · have e : j / 2 * 2 = j := by omega
    rw [e] at c1 hg
    rw [c1, ← hg.1, hu]
  · have e : j / 2 * 2 + 1 = j := by omega
    rw [Nat.add_assoc, e] at c2
    rw [e] at hg
    rw [c2, ← hg.2, hu]
/-- The rest of a row. -/
theorem MRow.from {w : World} {x x2 : Option Addr} {n c k : Nat} {l : List Mt} (h : MRow w (.slice x n c) l) (hk : k ≤ n) (hx : x2 = cutAt x c k 2) : MRow w (.slice x2 (n - k) (c - k)) (l.drop k) := by
  unfold cutAt at hx
  obtain ⟨x', c', hv, h1, h2, h3, h4⟩ := h
  cases hv
  have hl : (l.drop k).length = l.length - k := by simp
  refine ⟨x2, c - k, by rw [hl], by omega, by omega, fun h0 => ?_, fun hne => ?_⟩
  · rw [hx] at h0
    split at h0
    · omega
    · have : x = none := by cases x with | none => rfl | some a => cases h0
      have := h3 this
      omega
  · have hlt : k < l.length := by
      rcases Nat.lt_or_ge k l.length with h | h
      · exact h
      · exact absurd (List.drop_of_length_le h) hne
    obtain ⟨b, off, rfl, hc⟩ := h4 (by rintro rfl; simp at hlt)
    rw [if_neg (by omega)] at hx
    refine ⟨b, off + k * 2, by rw [hx]; simp [Addr.add_lit], fun i hi => ?_⟩
    have := hc (k + i) (by simp at hi; omega)
    simp only [MCell, List.getElem_drop] at this ⊢
    rw [show off + k * 2 + i * 2 = off + (k + i) * 2 from by omega]
    exact this

/-- What Set promises. -/
def setRes (l : List Mt) (k v : List UInt8) : List Mt := if setErr l k v = 0 then setL l k v else []
def SetOk (l : List Mt) (k v : List UInt8) (e : Ending) (w : World) : Prop := ∃ x, e = .returned (.tuple #[x, .int .i64 (setErr l k v)]) ∧ MRow w x (setRes l k v)
theorem setOk_err {l : List Mt} {k v : List UInt8} {w : World} {n : Nat} (h : setErr l k v = n) (hn : n ≠ 0) : SetOk l k v (.returned (.tuple #[.slice none 0 0, .int .i64 n])) w :=
  ⟨_, by rw [h], by unfold setRes; rw [if_neg (by omega)]; exact mrow_nil w⟩

theorem cntL_step (l : List Mt) (k : List UInt8) (i : Nat) (hi : i < l.length) (m : Mt) (hm : l[i] = m) (h : cntL l k = i + cntL (l.drop i) k) : (Op.bytesLess m.1 k = true → cntL l k = i + 1 + cntL (l.drop (i + 1)) k) ∧ (Op.bytesLess m.1 k = false → cntL l k = i) := by
  subst hm
  rw [List.drop_eq_getElem_cons hi] at h
  refine ⟨fun h0 => ?_, fun h0 => ?_⟩
  · rw [h, cntL, if_pos h0]; omega
  · rw [h, cntL, if_neg (by rw [h0]; decide)]; rfl

/-- 'x[:k]'. -/
theorem wpList_slice_h {P : Program} {w : World} {ops : Array Oper} {rest : List Oper} {o : Oper} {a : Act} {Q : Exit → Act → World → Prop} (hg : o.guard = none) {sOp iOp : Operand} {t : TypeId}
    (ho : o.op = Op.slice t sOp none (some iOp) none) (ht : P.underlying t = some (.slice (P.elem t))) {size : Nat} (hsz : ∀ w : World, (sizeOf (P.elem t)).run P w = .ok size w)
    {x : Option Addr} {n c : Nat} (hs : a.eval sOp = .slice x n c) {k : Nat} (hi : a.eval iOp = .int .i64 (k : Int)) (hk : k ≤ c)
    (h : wpList P ops Q rest (a.put o.dst (.slice x k c)) w) : wpList P ops Q (o :: rest) a w := by
  refine wpList_plain hg fun K hK => ?_
  have hr := run_slice_h (P := P) (w := w) t x n c ht .i64 (k : Int) (by omega) (by omega)
  have hr2 := run_sliceAt_slice (P := P) (w := w) t (.slice x n c) none (some (.int .i64 (k : Int))) none ht
  rw [hr, hsz] at hr2
  have e : (if c = 0 then x else x.map (·.add (0 * size))) = x := by
    split
    · rfl
    · cases x with
      | none => rfl
      | some a => simp [Addr.add]
  simp only [Result.andThen, sliced, Int.toNat_natCast, Nat.sub_zero, e] at hr2
  unfold Oper.wp
  simp [execOp, ho, hs, hi, hr2, Result.andThen]
  exact hK _ _ h
theorem und_meta : Tryz.prog.underlying 37 = some (.slice (Tryz.prog.elem 37)) := by kernel_rfl
/-- 'make([]T, 0, n)'. -/
theorem wpList_mk0 {P : Program} {w : World} {ops : Array Oper} {rest : List Oper} {o : Oper} {a : Act} {Q : Exit → Act → World → Prop} {t e : TypeId} {z : Value} {size bytes : Nat} (hE : Elem P t e z size bytes)
    (hg : o.guard = none) {l c : Operand} (hop : o.op = Op.makeSlice t l c) (base : Nat) {C : Int} {n : Nat} (hl : a.eval l = .int .i64 0) (hc : a.eval c = .int .i64 C) (hC : C = (n : Int)) (b2 : bytes * n ≤ 281474976710656) (b3 : n ≤ maxLen) (b4 : base ≤ w.heap.size)
    (hK : ∀ w', w'.ownsRow base e size (.slice (some ⟨w.heap.size, 0, none⟩) 0 n) 0 [] → w.grownBy w' none → wpList P ops Q rest (a.put o.dst (.slice (some ⟨w.heap.size, 0, none⟩) 0 n)) w') :
    wpList P ops Q (o :: rest) a w := by
  obtain ⟨ht, ⟨i, hi, hz, hsz, hby⟩, _, _⟩ := hE
  exact wpList_make_own w hg l c t hop base e i z size ht hi hz hsz .i64 .i64 C n hl hc hC (by rw [hby]; exact b2) b3 b4 hK
/-- 'append(out, x...)' within the capacity. -/
theorem wpList_fits {P : Program} {w : World} {ops : Array Oper} {rest : List Oper} {o : Oper} {a : Act} {Q : Exit → Act → World → Prop} {t e : TypeId} {z : Value} {size bytes : Nat} (hE : Elem P t e z size bytes)
    (hg : o.guard = none) {s x : Operand} (hop : o.op = Op.call { callee := Callee.builtin Builtin.append, args := #[s, x], argTypes := #[t, t] })
    {base g k cap : Nat} {xs : List Value} (hs : a.eval s = .slice (some ⟨g, 0, none⟩) k cap) (hown : w.ownsRow base e size (.slice (some ⟨g, 0, none⟩) k cap) k xs) {ao : Option Addr} {m c : Nat} (news : List Value) (hx : a.eval x = .slice ao m c) (hn : news.length = m * size)
    (hnone : ao = none → m = 0 ∧ c = 0) (hc : ∀ ad, ao = some ad → ∀ j u, news[j]? = some u → w.cell? (ad.add j) = some u) (h1c : ∀ u ∈ news, u.oneCell' = true) (b1 : k + m ≤ cap)
    (hK : ∀ w', w'.ownsRow base e size (.slice (some ⟨g, 0, none⟩) (k + m) cap) (k + m) (xs ++ news) → w.grownBy w' (some g) → wpList P ops Q rest (a.put o.dst (.slice (some ⟨g, 0, none⟩) (k + m) cap)) w') :
    wpList P ops Q (o :: rest) a w := by
  obtain ⟨ht, ⟨i, hi, hz, hsz, hby⟩, _, _⟩ := hE
  exact wpList_append_fits_any w hg s x t hop base e i size ht hi hsz g k cap xs hs hown ao m c news hx hn hnone hc h1c b1 hK
theorem mrow_of {w : World} {base : Nat} {v : Value} {n : Nat} {l : List Mt} (h : w.ownsRow base 65 2 v n (mcells l)) : MRow w v l := by
  have e : n = l.length := by have := h.1; rw [mcells_length] at this; omega
  subst e
  exact MOwn.row h
theorem MRow.none0 {w : World} {x : Option Addr} {n c : Nat} {l : List Mt} (h : MRow w (.slice x n c) l) : x = none → n = 0 ∧ c = 0 := by
  obtain ⟨x', c', hv, h1, _, h3, _⟩ := h
  cases hv
  intro h0
  have := h3 h0
  omega
theorem MRow.grown {w w' : World} {v : Value} {l : List Mt} {g : Nat} (h : MRow w v l) (hg : w.grownBy w' (some g)) (hB : ∀ b off k, l ≠ [] → v = .slice (some ⟨b, off, none⟩) l.length k → b ≠ g) : MRow w' v l := by
  obtain ⟨x, c, rfl, h1, h2, h3, h4⟩ := h
  refine ⟨x, c, rfl, h1, h2, h3, fun hne => ?_⟩
  obtain ⟨b, off, rfl, hc⟩ := h4 hne
  refine ⟨b, off, rfl, fun i hi => ?_⟩
  obtain ⟨c1, c2⟩ := hc i hi
  have hbg := hB b off c hne rfl
  exact ⟨hg.cell c1 (by simpa using hbg), hg.cell c2 (by simpa using hbg)⟩
/-- A row that lay before a world stands behind all that is made since. -/
theorem MRow.far {w1 w2 : World} {B : Nat} {v : Value} {l : List Mt} (h : MRow w1 v l) (hlt : w1.heap.size ≤ B) (h2 : Below B w1 w2) : MRow w2 v l := h.below (h2.mono hlt)

theorem MRow.take' {w : World} {x : Option Addr} {n c : Nat} {l : List Mt} (h : MRow w (.slice x n c) l) (i : Nat) (hi : i ≤ n) : MRow w (.slice x i c) (l.take i) := by
  have hn : n = l.length := by obtain ⟨_, _, hv, _⟩ := h; cases hv; rfl
  subst hn
  by_cases hne : l = []
  · subst hne
    have : i = 0 := by simpa using hi
    subst this
    simpa using h
  · exact h.take i hi hne
theorem getP_cnt (l : List Mt) (k : List UInt8) (h : Asc l) (hg : (getP l k).isSome = true) : cntL l k < l.length := by
  induction l with
  | nil => simp [getP] at hg
  | cons m r ih =>
    unfold cntL
    split
    · rename_i hl
      have hk : (m.1 == k) = false := by
        rw [beq_eq_false_iff_ne]; rintro e; rw [e, less_irrefl] at hl; cases hl
      have : getP (m :: r) k = getP r k := by simp [getP, hk]
      rw [this] at hg
      have := ih h.2.2.2 hg
      simp; omega
    · simp

end Go.Proofs.YthbejefodelpkaaGreat
