/-
  Plain: the text of a path; a path's text is read as the path; a text that is read as a path is the path's text.
-/
import Derived.Test.YtgjbelcnkmcbiaaDoorSp
import Derived.Test.YtgjbelcnkmcbiaaDoorQf
import Derived.Lib.AtoiAllCases
import Derived.Lib.ItoaNum
namespace Go.Proofs.YtgjbelcnkmcbiaaDoor
open Go.RowKit

/-! ### Decimal numbers -/
theorem u8_dig (n : Nat) (h : n < 10) : (UInt8.ofNat (48 + n)).toNat = 48 + n := by
  rw [UInt8.toNat_ofNat']; omega
theorem pu_dec (u : Nat) (h : u < 18446744073709551616) : ∀ r, Lib.parseUint10 0 (Lib.decDigits u ++ r) = Lib.parseUint10 u r := by
  induction u using Nat.strongRecOn with
  | _ u ih =>
    intro r
    by_cases h1 : u < 10
    · rw [Lib.decDigits_one h1]
      have := u8_dig u h1
      simp only [List.cons_append, List.nil_append, Lib.parseUint10, this]
      rw [if_pos (by omega), if_neg (by omega), if_neg (by omega)]
      congr 1; omega
    · rw [Lib.decDigits, dif_neg h1, List.append_assoc, ih (u / 10) (by omega) (by omega)]
      have := u8_dig (u % 10) (by omega)
      simp only [List.cons_append, List.nil_append, Lib.parseUint10, this]
      rw [if_pos (by omega), if_neg (by omega), if_neg (by omega)]
      congr 1; omega
theorem dec_digit (u : Nat) : ∀ c ∈ Lib.decDigits u, 48 ≤ c.toNat ∧ c.toNat ≤ 57 := by
  induction u using Nat.strongRecOn with
  | _ u ih =>
    intro c hc
    by_cases h1 : u < 10
    · rw [Lib.decDigits_one h1] at hc
      obtain rfl : c = UInt8.ofNat (48 + u) := by simpa using hc
      rw [u8_dig u h1]; omega
    · rw [Lib.decDigits, dif_neg h1] at hc
      rcases List.mem_append.1 hc with hc | hc
      · exact ih (u / 10) (by omega) c hc
      · obtain rfl : c = UInt8.ofNat (48 + u % 10) := by simpa using hc
        rw [u8_dig _ (by omega)]; omega
theorem dec_ne (u : Nat) : Lib.decDigits u ≠ [] := by
  rw [Lib.decDigits]; split <;> simp
theorem dec_len (k u : Nat) (h : u < 10 ^ (k + 1)) : (Lib.decDigits u).length ≤ k + 1 := by
  induction k generalizing u with
  | zero => rw [Lib.decDigits_one (by simpa using h)]; simp
  | succ k ih =>
    by_cases h1 : u < 10
    · rw [Lib.decDigits_one h1]; simp
    · rw [Lib.decDigits, dif_neg h1]
      have := ih (u / 10) (by rw [Nat.pow_succ] at h; omega)
      simp; omega
theorem mag_dec (u : Nat) (h : u < 18446744073709551616) : Lib.parseMag (Lib.decDigits u) = .ok u := by
  unfold Lib.parseMag; rw [if_neg (dec_ne _)]
  have := pu_dec u h []
  rw [List.append_nil] at this
  rw [this]; rfl
theorem atoi_itoa (v : Int) (h0 : -9223372036854775808 ≤ v) (h1 : v ≤ 9223372036854775807) : Lib.atoiAll (Lib.itoa v) = .ok v := by
  unfold Lib.itoa
  by_cases hv : v < 0
  · rw [if_pos hv, Lib.atoiAll_minus, mag_dec _ (by omega)]
    show (if _ then _ else _) = _
    rw [if_neg (by omega)]; congr 1; omega
  · rw [if_neg hv]
    have hm := mag_dec v.toNat (by omega)
    cases hd : Lib.decDigits v.toNat with
    | nil => exact absurd hd (dec_ne _)
    | cons c r =>
      have hc := dec_digit v.toNat c (by rw [hd]; simp)
      rw [hd] at hm
      rw [Lib.atoiAll_plain c r (by omega) (by omega), hm]
      show (if _ then _ else _) = _
      rw [if_neg (by omega)]; congr 1; omega
theorem numP_itoa (v : Int) (h0 : -9223372036854775808 ≤ v) (h1 : v ≤ 9223372036854775807) : numP (Lib.itoa v) = some v := by
  unfold numP; rw [atoi_itoa v h0 h1]; simp
theorem numP_some {l : List UInt8} {v : Int} (h : numP l = some v) : Lib.itoa v = l ∧ -9223372036854775808 ≤ v ∧ v ≤ 9223372036854775807 := by
  unfold numP at h
  rcases ha : Lib.atoiAll l with u | _ | _
  · rw [ha] at h
    simp only at h
    split at h
    · injection h with h
      subst h
      have := Lib.atoiAll_bounds ha
      exact ⟨by assumption, this.1, this.2⟩
    · cases h
  · rw [ha] at h; cases h
  · rw [ha] at h; cases h
theorem itoa_no (v : Int) : (32 : UInt8) ∉ Lib.itoa v := by
  unfold Lib.itoa
  have key : ∀ u, (32 : UInt8) ∉ Lib.decDigits u := fun u h => by
    have := dec_digit u _ h
    have e : (32 : UInt8).toNat = 32 := rfl
    omega
  split
  · intro h
    rcases List.mem_cons.1 h with h | h
    · cases h
    · exact key _ h
  · exact key _

/-! ### The pieces of a text -/
def joinP : List (List UInt8) → List UInt8
  | [] => []
  | [x] => x
  | x :: y :: r => x ++ 32 :: joinP (y :: r)
theorem joinP_inter (l : List (List UInt8)) : [32].intercalate l = joinP l := by
  induction l with
  | nil => rfl
  | cons x r ih =>
    cases r with
    | nil => simp [joinP, List.intercalate, List.intersperse]
    | cons y r => rw [joinP, ← ih]; simp [List.intercalate, List.intersperse]
theorem spl_one (c : UInt8) (x : List UInt8) (h : c ∉ x) : spl c x = [x] := by
  induction x with
  | nil => rfl
  | cons a r ih =>
    have h1 : ¬ a = c := fun e => h (by simp [e])
    unfold spl
    rw [if_neg h1, ih (fun e => h (by simp [e]))]
theorem spl_app (c : UInt8) (x r : List UInt8) (h : c ∉ x) : spl c (x ++ c :: r) = x :: spl c r := by
  induction x with
  | nil => show spl c (c :: r) = _; conv => lhs; unfold spl
           rw [if_pos rfl]
  | cons a s ih =>
    have h1 : ¬ a = c := fun e => h (by simp [e])
    show spl c (a :: (s ++ c :: r)) = _
    conv => lhs; unfold spl
    rw [if_neg h1, ih (fun e => h (by simp [e]))]
theorem spl_join (l : List (List UInt8)) (h0 : l ≠ []) (h : ∀ x ∈ l, (32 : UInt8) ∉ x) : spl 32 (joinP l) = l := by
  induction l with
  | nil => exact absurd rfl h0
  | cons x r ih =>
    cases r with
    | nil => exact spl_one 32 x (h x (by simp))
    | cons y r =>
      rw [joinP, spl_app 32 x _ (h x (by simp)), ih (by simp) (fun z hz => h z (by simp at hz ⊢; right; exact hz))]
theorem join_spl (s : List UInt8) : joinP (spl 32 s) = s := by
  induction s with
  | nil => rfl
  | cons a r ih =>
    unfold spl
    cases hr : spl 32 r with
    | nil => exact absurd hr (spl_ne 32 r)
    | cons y ys =>
      rw [hr] at ih
      by_cases h : a = 32
      · rw [if_pos h]
        show [] ++ 32 :: joinP (y :: ys) = _
        rw [ih, h]; rfl
      · rw [if_neg h]
        cases ys with
        | nil => show a :: y = a :: r; rw [show y = r from ih]
        | cons z zs => show a :: (y ++ 32 :: joinP (z :: zs)) = a :: r; rw [show y ++ 32 :: joinP (z :: zs) = r from ih]

/-! ### The words of a path -/
def letP (k : Int) : List UInt8 := if k = 1 then [77] else if k = 2 then [76] else if k = 3 then [81] else if k = 4 then [67] else [90]
def nums (s : Sg) : List Int := [s.2.1.1, s.2.1.2, s.2.2.1.1, s.2.2.1.2, s.2.2.2.1, s.2.2.2.2]
def segW (s : Sg) : List (List UInt8) := letP s.1 :: ((nums s).take (2 * usedP s.1)).map Lib.itoa
def wordsP (l : List Sg) : List (List UInt8) := l.flatMap segW
def printP (l : List Sg) : List UInt8 := joinP (wordsP l)
theorem kind_let (k : Int) (h1 : 1 ≤ k) (h5 : k ≤ 5) : kindP (letP k) = k := by
  rcases (by omega : k = 1 ∨ k = 2 ∨ k = 3 ∨ k = 4 ∨ k = 5) with rfl | rfl | rfl | rfl | rfl <;> rfl
theorem let_kind (x : List UInt8) (h : kindP x ≠ 0) : letP (kindP x) = x ∧ 1 ≤ kindP x ∧ kindP x ≤ 5 := by
  unfold kindP at h ⊢
  split
  · rename_i h; exact ⟨h.symm, by decide, by decide⟩
  split
  · rename_i h; exact ⟨h.symm, by decide, by decide⟩
  split
  · rename_i h; exact ⟨h.symm, by decide, by decide⟩
  split
  · rename_i h; exact ⟨h.symm, by decide, by decide⟩
  split
  · rename_i h; exact ⟨h.symm, by decide, by decide⟩
  · rename_i h1 h2 h3 h4 h5; rw [if_neg h1, if_neg h2, if_neg h3, if_neg h4, if_neg h5] at h; exact absurd rfl h
theorem seg_no (s : Sg) : ∀ x ∈ segW s, (32 : UInt8) ∉ x := by
  intro x hx
  rcases List.mem_cons.1 hx with rfl | hx
  · unfold letP; split; · decide
    split; · decide
    split; · decide
    split <;> decide
  · obtain ⟨v, -, rfl⟩ := List.mem_map.1 hx
    exact itoa_no v
theorem words_no (l : List Sg) : ∀ x ∈ wordsP l, (32 : UInt8) ∉ x := by
  intro x hx
  obtain ⟨s, -, hx⟩ := List.mem_flatMap.1 hx
  exact seg_no s x hx
theorem words_append (a b : List Sg) : wordsP (a ++ b) = wordsP a ++ wordsP b := by simp [wordsP]

/-! ### A path's text is read as the path -/
def psF (r : Except Nat PS) (x : List UInt8) : Except Nat PS := match r with | .ok st => psStep st x | .error e => .error e
theorem psRun_app (pre m : List (List UInt8)) : psRun (pre ++ m) = m.foldl psF (psRun pre) := by
  unfold psRun; rw [List.foldl_append]; rfl
theorem step_let (L : List Sg) (r a : Nat) (k : Int) (h1 : 1 ≤ k) (h5 : k ≤ 5) : psF (.ok ⟨L, r, 0, a⟩) (letP k) = .ok ⟨L ++ [zeroSg k], 0, 2 * usedP k, a + ((letP k).length + 1)⟩ := by
  show psStep _ _ = _
  unfold psStep
  rw [if_pos rfl, kind_let k h1 h5, if_neg (by omega)]
theorem step_num (L : List Sg) (z : Sg) (j m a : Nat) (v : Int) (h0 : -9223372036854775808 ≤ v) (h1 : v ≤ 9223372036854775807) :
    psF (.ok ⟨L ++ [z], j, m + 1, a⟩) (Lib.itoa v) = .ok ⟨L ++ [putN z j v], j + 1, m, a + ((Lib.itoa v).length + 1)⟩ := by
  show psStep _ _ = _
  unfold psStep
  rw [if_neg (by simp), numP_itoa v h0 h1]
  simp
theorem run_seg {pre : List (List UInt8)} {st : PS} {s : Sg} (h : psRun pre = .ok st) (hm : st.ms = 0) (h1 : 1 ≤ s.1) (h5 : s.1 ≤ 5) (hp : ptsBad s = false) :
    ∃ r a, psRun (pre ++ segW s) = .ok ⟨st.l ++ [s], r, 0, a⟩ := by
  obtain ⟨⟨⟨a1, a2⟩, a3, a4⟩, ⟨⟨b1, b2⟩, b3, b4⟩, ⟨c1, c2⟩, c3, c4⟩ := near_pts hp
  obtain ⟨k, ⟨x0, y0⟩, ⟨x1, y1⟩, x2, y2⟩ := s
  obtain ⟨L, r, m, a⟩ := st
  simp only at *
  subst hm
  rw [psRun_app, h]
  have hz := hp
  unfold ptsBad badPt at hz
  simp only [Bool.or_eq_false_iff, Bool.and_eq_false_iff, decide_eq_false_iff_not, bne_eq_false_iff_eq] at hz
  obtain ⟨⟨⟨-, z0⟩, -, z1⟩, -, z2⟩ := hz
  rcases (by omega : k = 1 ∨ k = 2 ∨ k = 3 ∨ k = 4 ∨ k = 5) with rfl | rfl | rfl | rfl | rfl
  · obtain ⟨rfl, rfl⟩ : x1 = 0 ∧ y1 = 0 := by rcases z1 with z | z; exact absurd (by decide) z; simpa using z
    obtain ⟨rfl, rfl⟩ : x2 = 0 ∧ y2 = 0 := by rcases z2 with z | z; exact absurd (by decide) z; simpa using z
    show ∃ r' a', [letP 1, Lib.itoa x0, Lib.itoa y0].foldl psF _ = _
    simp only [List.foldl_cons, List.foldl_nil]
    rw [step_let _ _ _ _ (by decide) (by decide), show 2 * usedP 1 = 2 from rfl, step_num _ _ _ _ _ _ (by omega) (by omega), step_num _ _ _ _ _ _ (by omega) (by omega)]
    exact ⟨_, _, rfl⟩
  · obtain ⟨rfl, rfl⟩ : x1 = 0 ∧ y1 = 0 := by rcases z1 with z | z; exact absurd (by decide) z; simpa using z
    obtain ⟨rfl, rfl⟩ : x2 = 0 ∧ y2 = 0 := by rcases z2 with z | z; exact absurd (by decide) z; simpa using z
    show ∃ r' a', [letP 2, Lib.itoa x0, Lib.itoa y0].foldl psF _ = _
    simp only [List.foldl_cons, List.foldl_nil]
    rw [step_let _ _ _ _ (by decide) (by decide), show 2 * usedP 2 = 2 from rfl, step_num _ _ _ _ _ _ (by omega) (by omega), step_num _ _ _ _ _ _ (by omega) (by omega)]
    exact ⟨_, _, rfl⟩
  · obtain ⟨rfl, rfl⟩ : x2 = 0 ∧ y2 = 0 := by rcases z2 with z | z; exact absurd (by decide) z; simpa using z
    show ∃ r' a', [letP 3, Lib.itoa x0, Lib.itoa y0, Lib.itoa x1, Lib.itoa y1].foldl psF _ = _
    simp only [List.foldl_cons, List.foldl_nil]
    rw [step_let _ _ _ _ (by decide) (by decide), show 2 * usedP 3 = 4 from rfl, step_num _ _ _ _ _ _ (by omega) (by omega), step_num _ _ _ _ _ _ (by omega) (by omega), step_num _ _ _ _ _ _ (by omega) (by omega), step_num _ _ _ _ _ _ (by omega) (by omega)]
    exact ⟨_, _, rfl⟩
  · show ∃ r' a', [letP 4, Lib.itoa x0, Lib.itoa y0, Lib.itoa x1, Lib.itoa y1, Lib.itoa x2, Lib.itoa y2].foldl psF _ = _
    simp only [List.foldl_cons, List.foldl_nil]
    rw [step_let _ _ _ _ (by decide) (by decide), show 2 * usedP 4 = 6 from rfl, step_num _ _ _ _ _ _ (by omega) (by omega), step_num _ _ _ _ _ _ (by omega) (by omega), step_num _ _ _ _ _ _ (by omega) (by omega), step_num _ _ _ _ _ _ (by omega) (by omega), step_num _ _ _ _ _ _ (by omega) (by omega), step_num _ _ _ _ _ _ (by omega) (by omega)]
    exact ⟨_, _, rfl⟩
  · obtain ⟨rfl, rfl⟩ : x0 = 0 ∧ y0 = 0 := by rcases z0 with z | z; exact absurd (by decide) z; simpa using z
    obtain ⟨rfl, rfl⟩ : x1 = 0 ∧ y1 = 0 := by rcases z1 with z | z; exact absurd (by decide) z; simpa using z
    obtain ⟨rfl, rfl⟩ : x2 = 0 ∧ y2 = 0 := by rcases z2 with z | z; exact absurd (by decide) z; simpa using z
    show ∃ r' a', [letP 5].foldl psF _ = _
    simp only [List.foldl_cons, List.foldl_nil]
    rw [step_let _ _ _ _ (by decide) (by decide), show 2 * usedP 5 = 0 from rfl]
    exact ⟨_, _, rfl⟩
theorem run_words (b : List Sg) (a : List Sg) (h : ∀ s ∈ b, 1 ≤ s.1 ∧ s.1 ≤ 5 ∧ ptsBad s = false) {r at_ : Nat} (h0 : psRun (wordsP a) = .ok ⟨a, r, 0, at_⟩) :
    ∃ r a', psRun (wordsP (a ++ b)) = .ok ⟨a ++ b, r, 0, a'⟩ := by
  induction b generalizing a r at_ with
  | nil => rw [List.append_nil]; exact ⟨_, _, h0⟩
  | cons s b ih =>
    obtain ⟨h1, h5, hp⟩ := h s (by simp)
    obtain ⟨r', a', e⟩ := run_seg h0 rfl h1 h5 hp
    have := ih (a ++ [s]) (fun x hx => h x (by simp [hx])) (r := r') (at_ := a') (by rw [words_append]; simpa [wordsP] using e)
    simpa [List.append_assoc] using this
theorem chk_all {l : List Sg} (h : chkP l = 0) : ∀ s ∈ l, 1 ≤ s.1 ∧ s.1 ≤ 5 ∧ ptsBad s = false := by
  obtain ⟨-, h2⟩ := chkP_ok h
  intro s hs
  obtain ⟨i, hi, rfl⟩ := List.getElem_of_mem hs
  have := h2 i hi
  exact ⟨this.lo, this.hi, this.pts⟩
/-- A path's text is read as the path. -/
theorem parse_print {l : List Sg} (h : chkP l = 0) : parseP (printP l) = (l, 0, 0) := by
  by_cases h0 : l = []
  · subst h0; rfl
  have hw : wordsP l ≠ [] := by
    cases l with
    | nil => exact absurd rfl h0
    | cons s r => simp [wordsP, segW]
  have hs : spl 32 (printP l) = wordsP l := spl_join _ hw (words_no l)
  have hne : printP l ≠ [] := by
    intro e
    rw [e] at hs
    have hx : wordsP l = [[]] := hs.symm
    cases l with
    | nil => exact absurd rfl h0
    | cons s r =>
      simp only [wordsP, List.flatMap_cons, segW, List.cons_append, List.cons.injEq] at hx
      have := hx.1
      unfold letP at this
      split at this; · cases this
      split at this; · cases this
      split at this; · cases this
      split at this <;> cases this
  obtain ⟨r, a, e⟩ := run_words l [] (chk_all h) (r := 0) (at_ := 0) rfl
  rw [List.nil_append] at e
  unfold parseP
  rw [if_neg hne, hs, e]
  simp [h]

/-! ### A text that is read is the path's text -/
theorem put_nums (z : Sg) (j : Nat) (v : Int) (h : j < 6) : nums (putN z j v) = (nums z).set j v := by
  rcases (by omega : j = 0 ∨ j = 1 ∨ j = 2 ∨ j = 3 ∨ j = 4 ∨ j = 5) with rfl | rfl | rfl | rfl | rfl | rfl <;> rfl
theorem take_set (l : List Int) (j : Nat) (v : Int) (h : j < l.length) : (l.set j v).take (j + 1) = l.take j ++ [v] := by
  induction l generalizing j with
  | nil => cases h
  | cons a r ih =>
    cases j with
    | zero => simp
    | succ j => simp only [List.set_cons_succ, List.take_succ_cons, List.cons_append]; rw [ih j (by simpa using h)]
/-- What the pieces read so far are. -/
def WInv (pre : List (List UInt8)) (st : PS) : Prop :=
  (st.l = [] ∧ pre = [] ∧ st.ms = 0) ∨ ∃ L z, st.l = L ++ [z] ∧ st.rd + st.ms = 2 * usedP z.1 ∧ pre = wordsP L ++ letP z.1 :: ((nums z).take st.rd).map Lib.itoa
theorem WInv.full {pre : List (List UInt8)} {st : PS} (h : WInv pre st) (hm : st.ms = 0) : pre = wordsP st.l := by
  rcases h with ⟨h1, h2, -⟩ | ⟨L, z, h1, h2, h3⟩
  · rw [h1, h2]; rfl
  · rw [h3, h1, words_append, show st.rd = 2 * usedP z.1 by omega]
    simp [wordsP, segW]
theorem winv {pre : List (List UInt8)} {st : PS} (h : psRun pre = .ok st) : WInv pre st := by
  suffices key : ∀ (b a : List (List UInt8)) st0 st, psRun a = .ok st0 → WInv a st0 → psRun (a ++ b) = .ok st → WInv (a ++ b) st from
    key pre [] ⟨[], 0, 0, 0⟩ _ rfl (.inl ⟨rfl, rfl, rfl⟩) h
  intro b
  induction b with
  | nil => intro a st0 st h0 h1 h2; rw [List.append_nil] at h2 ⊢; rw [h0] at h2; cases h2; exact h1
  | cons x r ih =>
    intro a st0 st h0 h1 h2
    rw [show a ++ x :: r = (a ++ [x]) ++ r by simp] at h2 ⊢
    have hx := psRun_snoc a x
    rw [h0] at hx
    simp only at hx
    cases hs : psStep st0 x with
    | error e => rw [hs] at hx; rw [psRun_err _ r e hx] at h2; cases h2
    | ok s1 =>
      rw [hs] at hx
      refine ih _ s1 _ hx ?_ h2
      unfold psStep at hs
      by_cases hm : st0.ms = 0
      · rw [if_pos hm] at hs
        have hf := h1.full hm
        split at hs
        · cases hs
        · rename_i hk
          cases hs
          refine .inr ⟨st0.l, zeroSg (kindP x), rfl, by show 0 + _ = _; simp [zeroSg], ?_⟩
          rw [← hf]
          simp [zeroSg, (let_kind x hk).1]
      · rw [if_neg hm] at hs
        rcases h1 with ⟨-, -, h4⟩ | ⟨L, z, h3, h4, h5⟩
        · exact absurd h4 hm
        · have hu := used_le z.1
          split at hs
          · cases hs
          · rename_i v hv
            cases hs
            refine .inr ⟨L, putN z st0.rd v, by simp [h3], ?_, ?_⟩
            · show st0.rd + 1 + (st0.ms - 1) = _
              rw [putN_kind]; omega
            · rw [h5, putN_kind, put_nums z st0.rd v (by omega), take_set _ _ _ (by show _ < 6; omega)]
              simp [(numP_some hv).1]
/-- A text that is read is the path's text. -/
theorem print_parse {s : List UInt8} {l : List Sg} {a : Nat} (h : parseP s = (l, a, 0)) : chkP l = 0 ∧ printP l = s := by
  unfold parseP at h
  by_cases h0 : s = []
  · rw [if_pos h0] at h; cases h; exact ⟨rfl, h0.symm⟩
  · rw [if_neg h0] at h
    cases hr : psRun (spl 32 s) with
    | error e => rw [hr] at h; cases h
    | ok st =>
      rw [hr] at h
      simp only at h
      by_cases hm : 0 < st.ms
      · rw [if_pos hm] at h; cases h
      · rw [if_neg hm] at h
        by_cases hc : chkP st.l = 0
        · rw [if_neg (by simp [hc])] at h
          cases h
          refine ⟨hc, ?_⟩
          unfold printP
          rw [← (winv hr).full (by omega), join_spl]
        · rw [if_pos (by simpa using hc)] at h
          injection h with h1 h2
          injection h2 with h2 h3
          exact absurd h3 hc

/-! ### The reference's reading of a number -/
def rdStep (n : Int) (c : UInt8) : Int := if 48 ≤ c.toNat ∧ c.toNat ≤ 57 then wrap64 (n * 10 - ((c.toNat : Int) - 48)) else n
def rdP (l : List UInt8) : Int := (l.take 20).foldl rdStep 0
def rnumP (l : List UInt8) : Int := if l ≠ [] ∧ l.head? ≠ some 45 then wrap64 (-(rdP l)) else rdP l
theorem rd_dec (u : Nat) (h : u ≤ 9223372036854775808) : (Lib.decDigits u).foldl rdStep 0 = -(u : Int) := by
  induction u using Nat.strongRecOn with
  | _ u ih =>
    by_cases h1 : u < 10
    · rw [Lib.decDigits_one h1]
      show rdStep 0 _ = _
      unfold rdStep
      rw [u8_dig u h1, if_pos (by omega), wrap64_of _ (by omega)]
      omega
    · rw [Lib.decDigits, dif_neg h1, List.foldl_append, ih (u / 10) (by omega) (by omega)]
      show rdStep _ _ = _
      unfold rdStep
      rw [u8_dig _ (by omega), if_pos (by omega), wrap64_of _ (by omega)]
      omega
theorem rnum_itoa (v : Int) (h0 : -9223372036854775808 ≤ v) (h1 : v ≤ 9223372036854775807) : rnumP (Lib.itoa v) = v := by
  unfold rnumP rdP Lib.itoa
  by_cases hv : v < 0
  · rw [if_pos hv]
    have hl := dec_len 18 v.natAbs (by omega)
    rw [List.take_of_length_le (by simp; omega), if_neg (by simp)]
    show (Lib.decDigits v.natAbs).foldl rdStep (rdStep 0 45) = v
    rw [show rdStep 0 45 = 0 by decide, rd_dec _ (by omega)]
    omega
  · rw [if_neg hv]
    have hl := dec_len 18 v.toNat (by omega)
    rw [List.take_of_length_le (by omega), rd_dec _ (by omega), if_pos]
    · rw [wrap64_of _ (by omega)]; omega
    · refine ⟨dec_ne _, ?_⟩
      cases hd : Lib.decDigits v.toNat with
      | nil => exact absurd hd (dec_ne _)
      | cons c r =>
        have hc := dec_digit v.toNat c (by rw [hd]; simp)
        intro e
        simp at e
        subst e
        have e : (45 : UInt8).toNat = 45 := rfl
        omega
theorem wrap64_bounds (x : Int) : -9223372036854775808 ≤ wrap64 x ∧ wrap64 x ≤ 9223372036854775807 := by
  unfold wrap64; omega
theorem rnum_is (l : List UInt8) : numP l = if Lib.itoa (rnumP l) = l then some (rnumP l) else none := by
  by_cases h : Lib.itoa (rnumP l) = l
  · rw [if_pos h]
    have hb : -9223372036854775808 ≤ rnumP l ∧ rnumP l ≤ 9223372036854775807 := by
      have hr : ∀ (x : List UInt8) (n : Int), -9223372036854775808 ≤ n ∧ n ≤ 9223372036854775807 → -9223372036854775808 ≤ x.foldl rdStep n ∧ x.foldl rdStep n ≤ 9223372036854775807 := by
        intro x
        induction x with
        | nil => intro n hn; exact hn
        | cons c r ih =>
          intro n hn
          refine ih _ ?_
          unfold rdStep
          split
          · exact wrap64_bounds _
          · exact hn
      unfold rnumP
      split
      · exact wrap64_bounds _
      · exact hr _ 0 (by decide)
    have := numP_itoa (rnumP l) hb.1 hb.2
    rw [h] at this
    exact this
  · rw [if_neg h]
    cases hn : numP l with
    | none => rfl
    | some v =>
      obtain ⟨h1, h2, h3⟩ := numP_some hn
      exfalso
      apply h
      rw [← h1, rnum_itoa v h2 h3]
end Go.Proofs.YtgjbelcnkmcbiaaDoor
