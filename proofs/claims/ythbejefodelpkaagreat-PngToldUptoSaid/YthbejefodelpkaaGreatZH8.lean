/-
  Plain: a changed byte is reported.
-/
import Derived.Test.YthbejefodelpkaaGreatZH5
import Derived.Test.YthbejefodelpkaaGreatZJ
namespace Go.Proofs.YthbejefodelpkaaGreat
open Go.RowKit
set_option maxRecDepth 100000

/-- The places of the bytes of names, data and checksums. -/
def plcP : Nat → List Mt → List Nat
  | _, [] => []
  | a, m :: r => List.range' (a + 4) (8 + m.2.length) ++ plcP (a + 12 + m.2.length) r
def frP (l : List Mt) : Nat := 8 + (l.map fun m => 12 + m.2.length).sum
theorem frP_snoc (l : List Mt) (m : Mt) : frP (l ++ [m]) = frP l + 12 + m.2.length := by unfold frP; simp; omega
theorem plcP_snoc (l : List Mt) (m : Mt) : plcP 8 (l ++ [m]) = plcP 8 l ++ List.range' (frP l + 4) (8 + m.2.length) := by
  have key : ∀ (l : List Mt) (a : Nat), plcP a (l ++ [m]) = plcP a l ++ List.range' (a + (l.map fun m => 12 + m.2.length).sum + 4) (8 + m.2.length) := by
    intro l
    induction l with
    | nil => intro a; simp [plcP]
    | cons x r ih =>
      intro a
      rw [List.cons_append, plcP, plcP, ih, List.append_assoc, List.map_cons, List.sum_cons]
      congr 4
      omega
  rw [key]
  rfl
theorem plcP_len (l : List Mt) : ∀ a, (plcP a l).length ≤ (l.map fun m => 12 + m.2.length).sum ∧ (l ≠ [] → 0 < (plcP a l).length) := by
  induction l with
  | nil => intro a; simp [plcP]
  | cons x r ih =>
    intro a
    have := ih (a + 12 + x.2.length)
    rw [plcP, List.length_append, List.length_range', List.map_cons, List.sum_cons]
    exact ⟨by omega, fun _ => by omega⟩
theorem plcP_mem (l : List Mt) : ∀ (a k : Nat), k ∈ plcP a l → ∃ pre c post o, l = pre ++ c :: post ∧ 4 ≤ o ∧ o < 12 + c.2.length ∧ k = a + (pre.map fun m => 12 + m.2.length).sum + o := by
  induction l with
  | nil => intro a k h; cases h
  | cons x r ih =>
    intro a k h
    rw [plcP] at h
    rcases List.mem_append.1 h with h | h
    · obtain ⟨h1, h2⟩ := List.mem_range'_1.1 h
      exact ⟨[], x, r, k - a, rfl, by omega, by omega, by simp; omega⟩
    · obtain ⟨pre, c, post, o, h1, h2, h3, h4⟩ := ih _ _ h
      exact ⟨x :: pre, c, post, o, by rw [h1]; rfl, h2, h3, by rw [h4, List.map_cons, List.sum_cons]; omega⟩
theorem ck_sum (l : List Mt) (h : ∀ m ∈ l, m.1.length = 4) : (l.flatMap ckB).length = (l.map fun m => 12 + m.2.length).sum := by
  induction l with
  | nil => rfl
  | cons m r ih =>
    rw [List.flatMap_cons, List.length_append, ckB_len, ih (fun x hx => h x (List.mem_cons_of_mem _ hx)), h m List.mem_cons_self, List.map_cons, List.sum_cons]
theorem set_split {α : Type} (l : List α) (i : Nat) (h : i < l.length) (x : α) : l = l.take i ++ l[i] :: l.drop (i + 1) ∧ l.set i x = l.take i ++ x :: l.drop (i + 1) := by
  constructor
  · conv => lhs; rw [← List.take_append_drop i l, List.drop_eq_getElem_cons h]
  · rw [List.set_eq_take_append_cons_drop, if_pos h]
theorem crcP_set (l : List UInt8) (i : Nat) (h : i < l.length) (x : UInt8) (hx : x ≠ l[i]) : crcP (l.set i x) ≠ crcP l := by
  obtain ⟨h1, h2⟩ := set_split l i h x
  rw [h2]
  intro e
  have e2 : crcP (l.take i ++ x :: l.drop (i + 1)) = crcP (l.take i ++ l[i] :: l.drop (i + 1)) := by rw [e, ← h1]
  exact crcP_change _ _ _ _ hx e2
theorem beP_set (n i : Nat) (h : i < (be4 n).length) (x : UInt8) (hx : x ≠ (be4 n)[i]) : beP ((be4 n).set i x) ≠ n := by
  intro e
  have h1 := be4_beP ((be4 n).set i x) (by rw [List.length_set]; rfl)
  rw [e] at h1
  have h2 : ((be4 n).set i x)[i]'(by rw [List.length_set]; exact h) = x := List.getElem_set_self _
  have h3 : ((be4 n).set i x)[i]'(by rw [List.length_set]; exact h) = (be4 n)[i] := by simp only [← h1]
  exact hx (h2.symm.trans h3)
theorem bad_step (c : Mt) (q : List UInt8) (hn : nameP c.1 = true) (hd : c.2.length ≤ 1048576) (o : Nat) (h4 : 4 ≤ o) (ho : o < 12 + c.2.length) (x : UInt8) (hx : ∀ h : o < (ckB c).length, x ≠ (ckB c)[o]) : ∃ e, ckStep ((ckB c).set o x ++ q) = .error e := by
  have hl4 : c.1.length = 4 := name_len hn
  obtain ⟨cn, cd⟩ := c
  simp only at hn hd ho hl4 hx
  have hk : ckB (cn, cd) = be4 cd.length ++ (cn ++ cd) ++ be4 (crcP (cn ++ cd)) := by unfold ckB; simp
  have hkl : (ckB (cn, cd)).length = 12 + cd.length := by rw [ckB_len]; simp only; omega
  have hcl : (cn ++ cd).length = 4 + cd.length := by rw [List.length_append]; omega
  have hb4 : (be4 cd.length).length = 4 := rfl
  have hbn : beP (be4 cd.length) = cd.length := beP_be4 _ (by omega)
  by_cases hoc : o < 8 + cd.length
  · -- the name or the data
    have hset : (ckB (cn, cd)).set o x = be4 cd.length ++ (cn ++ cd).set (o - 4) x ++ be4 (crcP (cn ++ cd)) := by
      rw [hk, List.set_append_left _ _ (by simp only [List.length_append, hb4]; omega), List.set_append_right _ _ (by omega), hb4]
    have hlt : o - 4 < (cn ++ cd).length := by omega
    have hxx : x ≠ (cn ++ cd)[o - 4] := by
      have h := hx (by omega)
      intro e
      apply h
      rw [e]
      have hA : o < (be4 cd.length ++ (cn ++ cd)).length := by rw [List.length_append, hb4, hcl]; omega
      have hB : (be4 cd.length).length ≤ o := by rw [hb4]; omega
      rw [List.getElem_of_eq hk (by omega), List.getElem_append_left hA, List.getElem_append_right hB]
      rfl
    have hcr := crcP_set (cn ++ cd) (o - 4) hlt x hxx
    obtain ⟨M, hM⟩ : ∃ M, M = (cn ++ cd).set (o - 4) x := ⟨_, rfl⟩
    have hMl : M.length = 4 + cd.length := by rw [hM, List.length_set, hcl]
    rw [← hM] at hcr hset
    rw [hset]
    have t4 : (be4 cd.length ++ M ++ be4 (crcP (cn ++ cd)) ++ q).take 4 = be4 cd.length := by rw [List.append_assoc, List.append_assoc]; exact app_take _ _ _ hb4
    have tm : ((be4 cd.length ++ M ++ be4 (crcP (cn ++ cd)) ++ q).take (8 + cd.length)).drop 4 = M := by
      rw [List.append_assoc, app_take (be4 cd.length ++ M) _ _ (by rw [List.length_append, hb4, hMl]; omega)]
      exact app_drop _ _ _ hb4
    have te : ((be4 cd.length ++ M ++ be4 (crcP (cn ++ cd)) ++ q).take (12 + cd.length)).drop (8 + cd.length) = be4 (crcP (cn ++ cd)) := by
      rw [app_take (be4 cd.length ++ M ++ be4 (crcP (cn ++ cd))) _ _ (by simp only [List.length_append, hb4, hMl, be4_len]; omega)]
      exact app_drop _ _ _ (by rw [List.length_append, hb4, hMl]; omega)
    unfold ckStep
    rw [t4, hbn, tm, te, beP_be4 _ (crcP_lt _)]
    split; · exact ⟨_, rfl⟩
    split; · exact ⟨_, rfl⟩
    split; · exact ⟨_, rfl⟩
    split; · exact ⟨_, rfl⟩
    rw [if_pos (fun e => hcr e.symm)]
    exact ⟨_, rfl⟩
  · -- the checksum
    have hset : (ckB (cn, cd)).set o x = be4 cd.length ++ (cn ++ cd) ++ (be4 (crcP (cn ++ cd))).set (o - (8 + cd.length)) x := by
      rw [hk, List.set_append_right _ _ (by simp only [List.length_append, hb4]; omega)]
      congr 2
      simp only [List.length_append, hb4]
      omega
    have hlt : o - (8 + cd.length) < (be4 (crcP (cn ++ cd))).length := by rw [be4_len]; omega
    have hxx : x ≠ (be4 (crcP (cn ++ cd)))[o - (8 + cd.length)] := by
      have h := hx (by omega)
      intro e
      apply h
      rw [e]
      have hA : (be4 cd.length ++ (cn ++ cd)).length ≤ o := by rw [List.length_append, hb4, hcl]; omega
      rw [List.getElem_of_eq hk (by omega), List.getElem_append_right hA]
      congr 1
      simp only [List.length_append, hb4]
      omega
    have hcr := beP_set (crcP (cn ++ cd)) (o - (8 + cd.length)) hlt x hxx
    obtain ⟨E, hE⟩ : ∃ E, E = (be4 (crcP (cn ++ cd))).set (o - (8 + cd.length)) x := ⟨_, rfl⟩
    have hEl : E.length = 4 := by rw [hE, List.length_set]; rfl
    rw [← hE] at hcr hset
    rw [hset]
    have t4 : (be4 cd.length ++ (cn ++ cd) ++ E ++ q).take 4 = be4 cd.length := by rw [List.append_assoc, List.append_assoc]; exact app_take _ _ _ hb4
    have tm : ((be4 cd.length ++ (cn ++ cd) ++ E ++ q).take (8 + cd.length)).drop 4 = cn ++ cd := by
      rw [List.append_assoc, app_take (be4 cd.length ++ (cn ++ cd)) _ _ (by rw [List.length_append, hb4, hcl]; omega)]
      exact app_drop _ _ _ hb4
    have te : ((be4 cd.length ++ (cn ++ cd) ++ E ++ q).take (12 + cd.length)).drop (8 + cd.length) = E := by
      rw [app_take (be4 cd.length ++ (cn ++ cd) ++ E) _ _ (by simp only [List.length_append, hb4, hEl] at hcl ⊢; omega)]
      exact app_drop _ _ _ (by rw [List.length_append, hb4, hcl]; omega)
    unfold ckStep
    rw [t4, hbn, tm, te]
    split; · exact ⟨_, rfl⟩
    split; · exact ⟨_, rfl⟩
    split; · exact ⟨_, rfl⟩
    split; · exact ⟨_, rfl⟩
    first | exact ⟨_, rfl⟩ | (rw [if_pos hcr]; exact ⟨_, rfl⟩)
theorem bad_go (pre : List Mt) : ∀ (f : Nat) (acc : List Mt) (X : List UInt8) (e : Nat), (∀ m ∈ pre, nameP m.1 = true ∧ m.2.length ≤ 1048576 ∧ m.1 ≠ iendP) → ckStep X = .error e → ∃ k, ckGo f acc (pre.flatMap ckB ++ X) = .error k := by
  induction pre with
  | nil =>
    intro f acc X e _ h
    cases f with
    | zero => exact ⟨5, rfl⟩
    | succ f => exact ⟨e, by unfold ckGo; rw [List.flatMap_nil, List.nil_append, h]⟩
  | cons m r ih =>
    intro f acc X e hp h
    cases f with
    | zero => exact ⟨5, rfl⟩
    | succ f =>
      obtain ⟨h1, h2, h3⟩ := hp m List.mem_cons_self
      obtain ⟨k, hk⟩ := ih f (acc ++ [m]) X e (fun x hx => hp x (List.mem_cons_of_mem _ hx)) h
      refine ⟨k, ?_⟩
      unfold ckGo
      rw [List.flatMap_cons, List.append_assoc, ckStep_ckB m _ h1 h2]
      simp only
      rw [if_neg h3]
      exact hk
theorem ord_pre (pre : List Mt) (c : Mt) (post : List Mt) (h : jOrd (pre ++ c :: post) = true) : ∀ m ∈ pre, m.1 ≠ iendP := by
  intro m hm he
  obtain ⟨j, hj, rfl⟩ := List.mem_iff_getElem.1 hm
  have key : ∀ k, k ≤ j → jOrd ((pre ++ c :: post).drop k) = true := by
    intro k
    induction k with
    | zero => intro _; exact h
    | succ k ih =>
      intro hk
      have h1 := ih (by omega)
      rw [jOrd_drop _ k (by simp; omega), Bool.and_eq_true] at h1
      exact h1.2
  have h1 := key j (Nat.le_refl _)
  rw [jOrd_drop _ j (by simp; omega), Bool.and_eq_true] at h1
  have h2 := h1.1
  rw [List.getElem_append_left hj, he] at h2
  simp at h2
  have : pre.length + (post.length + 1) = (pre ++ c :: post).length := by simp
  omega
/-- One byte replaced by another one: an error. -/
theorem told {s : List UInt8} {l : List Mt} (h : chunksP s = .ok l) (k : Nat) (hk : k ∈ plcP 8 l) (x : UInt8) (hx : ∀ hl : k < s.length, x ≠ s[k]) : k < s.length ∧ ∃ e, decP (s.set k x) = .error e := by
  obtain ⟨j1, j2, j3, j4, j5⟩ := join_ok (join_chunks h)
  have hnm := jErr_names j1
  obtain ⟨pre, c, post, o, rfl, h4, ho, hke⟩ := plcP_mem l 8 k hk
  have hpl := ck_sum pre (fun m hm => name_len (hnm m (by simp [hm])).1)
  obtain ⟨hcn, hcd⟩ := hnm c (by simp)
  have hcl : (ckB c).length = 12 + c.2.length := by
    rw [ckB_len]
    have := name_len hcn
    omega
  have hs : s = sigP ++ (pre.flatMap ckB ++ (ckB c ++ post.flatMap ckB)) := by rw [j5, List.flatMap_append, List.flatMap_cons]
  have h8 : sigP.length = 8 := rfl
  have hsl : s.length = 8 + ((pre.flatMap ckB).length + ((ckB c).length + (post.flatMap ckB).length)) := by rw [hs]; simp only [List.length_append, h8]
  have hlt : k < s.length := by omega
  refine ⟨hlt, ?_⟩
  have hset : s.set k x = sigP ++ (pre.flatMap ckB ++ ((ckB c).set o x ++ post.flatMap ckB)) := by
    rw [hs, List.set_append_right _ _ (by omega), List.set_append_right _ _ (by omega), List.set_append_left _ _ (by omega)]
    congr 4
    omega
  have hxo : ∀ hl : o < (ckB c).length, x ≠ (ckB c)[o] := by
    intro hl e
    apply hx hlt
    rw [e]
    have : s[k] = (sigP ++ (pre.flatMap ckB ++ (ckB c ++ post.flatMap ckB)))[k]'(by rw [← hs]; exact hlt) := by simp only [← hs]
    rw [this, List.getElem_append_right (by omega), List.getElem_append_right (by omega), List.getElem_append_left (by omega)]
    congr 1
    omega
  obtain ⟨e, he⟩ := bad_step c (post.flatMap ckB) hcn hcd o h4 ho x hxo
  have hbeg : begP sigP (s.set k x) = true := by
    rw [hset]
    unfold begP
    rw [List.take_left' rfl]
    simp
  have hdr : (s.set k x).drop 8 = pre.flatMap ckB ++ ((ckB c).set o x ++ post.flatMap ckB) := by rw [hset]; exact List.drop_left' rfl
  obtain ⟨r, hr⟩ := bad_go pre ((s.set k x).length + 1) [] _ e (fun m hm => ⟨(hnm m (by simp [hm])).1, (hnm m (by simp [hm])).2, ord_pre pre c post j2 m hm⟩) he
  refine ⟨r, ?_⟩
  have hch : chunksP (s.set k x) = .error r := by
    unfold chunksP
    rw [if_pos hbeg, hdr]
    exact hr
  unfold decP
  rw [hch]
end Go.Proofs.YthbejefodelpkaaGreat
