/-
  Plain laws of metadata.
-/
import Derived.Test.YtggogfjfkimcgaaM11
namespace Go.Proofs.Ytggogfjfkimcgaa

theorem asc_filter (q : Mt → Bool) (l : List Mt) (h : Asc l) : Asc (l.filter q) := by
  induction l with
  | nil => trivial
  | cons m r ih =>
    obtain ⟨h1, h2, h3, h4⟩ := h
    rw [List.filter_cons]
    split
    · exact ⟨h1, h2, fun x hx => h3 x (List.mem_filter.1 hx).1, ih h4⟩
    · exact ih h4
theorem setErr_zero {l : List Mt} {k v : List UInt8} (h : setErr l k v = 0) : chkP l = 0 ∧ isK k = true ∧ (v = [] → getP l k ≠ none) ∧ (v ≠ [] → isV v = true) ∧ (v ≠ [] → getP l k = none → l.length ≠ 16) := by
  unfold setErr at h
  split at h
  · rename_i h0; exact absurd h h0
  · rename_i h0
    split at h
    · cases h
    · rename_i h1
      split at h
      · cases h
      · rename_i h2
        split at h
        · cases h
        · rename_i h3
          split at h
          · cases h
          · rename_i h4
            refine ⟨by simpa using h0, by simpa using h1, fun hv hg => h2 ⟨hv, hg⟩, fun hv => ?_, fun hv hg hl => h4 ⟨hv, hg, hl⟩⟩
            by_cases hi : isV v = true
            · exact hi
            · exact absurd ⟨hv, by simpa using hi⟩ h3
theorem setErr_mk {l : List Mt} {k v : List UInt8} (h0 : chkP l = 0) (h1 : isK k = true) (h2 : v = [] → getP l k ≠ none) (h3 : v ≠ [] → isV v = true) (h4 : v ≠ [] → getP l k = none → l.length ≠ 16) : setErr l k v = 0 := by
  unfold setErr
  rw [if_neg (by simp [h0]), if_neg (by simp [h1]), if_neg (fun h => h2 h.1 h.2), if_neg (fun h => by rw [h3 h.1] at h; cases h.2), if_neg (fun h => h4 h.1 h.2.1 h.2.2)]
theorem cnt_found (l : List Mt) (k : List UInt8) (h : Asc l) : cntL l k + (if (getP l k).isSome then 1 else 0) ≤ l.length := by
  by_cases hg : (getP l k).isSome = true
  · have := getP_cnt l k h hg
    rw [if_pos hg]; omega
  · rw [if_neg hg]
    exact cntL_le l k
theorem setL_len (l : List Mt) (k v : List UInt8) (h : Asc l) : (setL l k v).length + (if (getP l k).isSome then 1 else 0) = l.length + (if v = [] then 0 else 1) := by
  obtain ⟨p1, p2⟩ := asc_parts l k h
  have hc := cnt_found l k h
  unfold setL
  rw [← p1, ← p2]
  simp only [List.length_append, List.length_take, List.length_drop]
  have hle := cntL_le l k
  by_cases hg : (getP l k).isSome = true
  · rw [if_pos hg] at hc ⊢
    by_cases hv : v = []
    · simp only [hv, if_true, List.length_nil]; omega
    · simp only [hv, if_false, List.length_singleton]; omega
  · rw [if_neg hg] at hc ⊢
    by_cases hv : v = []
    · simp only [hv, if_true, List.length_nil]; omega
    · simp only [hv, if_false, List.length_singleton]; omega
theorem set_valid {l : List Mt} {k v : List UInt8} (h : setErr l k v = 0) : chkP (setL l k v) = 0 := by
  obtain ⟨h0, h1, h2, h3, h4⟩ := setErr_zero h
  obtain ⟨hl, ha⟩ := (chkP_zero l).1 h0
  rw [chkP_zero]
  have hlen := setL_len l k v ha
  refine ⟨?_, ?_⟩
  · by_cases hv : v = []
    · rw [if_pos hv] at hlen; omega
    · rw [if_neg hv] at hlen
      cases hg : getP l k with
      | none => have := h4 hv hg; rw [hg] at hlen; simp at hlen; omega
      | some o => rw [hg] at hlen; simp at hlen; omega
  · unfold setL
    rw [asc_append, asc_append]
    have hmid : Asc (if v = [] then [] else [(k, v)]) := by
      split
      · trivial
      · rename_i hv
        exact ⟨h1, h3 hv, (fun x hx => by cases hx), trivial⟩
    refine ⟨⟨asc_filter _ _ ha, hmid, fun x hx y hy => ?_⟩, asc_filter _ _ ha, fun x hx y hy => ?_⟩
    · have hx' := (List.mem_filter.1 hx).2
      split at hy
      · cases hy
      · rw [List.mem_singleton.1 hy]; exact hx'
    · have hy' := (List.mem_filter.1 hy).2
      rcases List.mem_append.1 hx with hx | hx
      · exact less_trans _ _ _ (List.mem_filter.1 hx).2 hy'
      · split at hx
        · cases hx
        · rw [List.mem_singleton.1 hx]; exact hy'

theorem getP_append (a b : List Mt) (k : List UInt8) : getP (a ++ b) k = (getP a k).or (getP b k) := by
  unfold getP
  rw [List.find?_append]
  cases List.find? (fun m => m.1 == k) a <;> rfl
theorem getP_none (a : List Mt) (k : List UInt8) (h : ∀ m ∈ a, m.1 ≠ k) : getP a k = none := by
  unfold getP
  rw [Option.map_eq_none_iff, List.find?_eq_none]
  intro m hm he
  exact h m hm (eq_of_beq he)
theorem getP_less (l : List Mt) (k : List UInt8) : getP (l.filter fun m => Op.bytesLess m.1 k) k = none :=
  getP_none _ _ fun m hm he => by have := (List.mem_filter.1 hm).2; rw [he, less_irrefl] at this; cases this
theorem getP_more (l : List Mt) (k : List UInt8) : getP (l.filter fun m => Op.bytesLess k m.1) k = none :=
  getP_none _ _ fun m hm he => by have := (List.mem_filter.1 hm).2; rw [he, less_irrefl] at this; cases this
theorem get_set (l : List Mt) (k v : List UInt8) : getP (setL l k v) k = if v = [] then none else some v := by
  unfold setL
  rw [getP_append, getP_append, getP_less, getP_more]
  by_cases hv : v = []
  · rw [if_pos hv, if_pos hv]; rfl
  · rw [if_neg hv, if_neg hv]; simp [getP]
theorem get_filter (l : List Mt) (q : Mt → Bool) (k : List UInt8) (h : ∀ m ∈ l, m.1 = k → q m = true) : getP (l.filter q) k = getP l k := by
  induction l with
  | nil => rfl
  | cons m r ih =>
    have ih := ih fun x hx => h x (by simp [hx])
    rw [List.filter_cons]
    by_cases hm : m.1 = k
    · rw [if_pos (h m (by simp) hm)]
      simp [getP, hm]
    · have hb : (m.1 == k) = false := by rw [beq_eq_false_iff_ne]; exact hm
      have e : getP (m :: r) k = getP r k := by simp [getP, hb]
      split
      · rw [e, ← ih]; simp [getP, hb]
      · rw [e, ih]
theorem get_other (l : List Mt) (k v o : List UInt8) (ho : o ≠ k) : getP (setL l k v) o = getP l o := by
  unfold setL
  rw [getP_append, getP_append]
  have hmid : getP (if v = [] then [] else [(k, v)]) o = none := by
    split
    · rfl
    · exact getP_none _ _ fun m hm he => by rw [List.mem_singleton.1 hm] at he; exact ho he.symm
  rw [hmid, Option.or_none]
  by_cases h : Op.bytesLess o k = true
  · rw [get_filter l _ o (fun m _ hm => by rw [hm]; exact h)]
    have : getP (l.filter fun m => Op.bytesLess k m.1) o = none := getP_none _ _ fun m hm he => by
      have := (List.mem_filter.1 hm).2
      rw [he, less_asymm _ _ h] at this; cases this
    rw [this, Option.or_none]
  · have h' : Op.bytesLess o k = false := by simpa using h
    have h2 := less_total _ _ h' ho
    rw [get_filter l (fun m => Op.bytesLess k m.1) o (fun m _ hm => by rw [hm]; exact h2)]
    have : getP (l.filter fun m => Op.bytesLess m.1 k) o = none := getP_none _ _ fun m hm he => by
      have := (List.mem_filter.1 hm).2
      rw [he, h'] at this; cases this
    rw [this, Option.none_or]
theorem getP_mem {l : List Mt} {k v : List UInt8} (h : getP l k = some v) : (k, v) ∈ l := by
  unfold getP at h
  obtain ⟨m, hm, rfl⟩ := Option.map_eq_some_iff.1 h
  have h1 := List.mem_of_find?_eq_some hm
  have h2 := List.find?_some hm
  have : m.1 = k := eq_of_beq h2
  rw [← this]; exact h1
/-- In order, a list is its three parts. -/
theorem asc_whole (l : List Mt) (k : List UInt8) (h : Asc l) : l = (l.filter fun m => Op.bytesLess m.1 k) ++ (match getP l k with | none => [] | some o => [(k, o)]) ++ (l.filter fun m => Op.bytesLess k m.1) := by
  obtain ⟨p1, p2⟩ := asc_parts l k h
  have hc := cnt_found l k h
  cases hg : getP l k with
  | none =>
    rw [hg] at p2
    simp only [Option.isSome_none, Bool.false_eq_true, if_false, Nat.add_zero] at p2
    rw [← p1, ← p2]
    simp
  | some o =>
    have hlt := getP_cnt l k h (by rw [hg]; rfl)
    rw [hg] at p2
    simp only [Option.isSome_some, if_true] at p2
    have hm := getP_mem hg
    have e : l = l.take (cntL l k) ++ l[cntL l k] :: l.drop (cntL l k + 1) := by rw [← List.drop_eq_getElem_cons hlt, List.take_append_drop]
    have hk : l[cntL l k] = (k, o) := by
      rw [e] at hm
      rcases List.mem_append.1 hm with hm | hm
      · rw [p1] at hm
        have := (List.mem_filter.1 hm).2
        simp only [less_irrefl] at this; cases this
      · rcases List.mem_cons.1 hm with hm | hm
        · exact hm.symm
        · rw [p2] at hm
          have := (List.mem_filter.1 hm).2
          simp only [less_irrefl] at this; cases this
    simp only
    rw [← p1, ← p2]
    conv => lhs; rw [e, hk]
    simp
theorem filter_set_less (l : List Mt) (k v : List UInt8) : (setL l k v).filter (fun m => Op.bytesLess m.1 k) = l.filter fun m => Op.bytesLess m.1 k := by
  unfold setL
  rw [List.filter_append, List.filter_append, List.filter_filter]
  have e1 : (if v = [] then [] else [(k, v)] : List Mt).filter (fun m => Op.bytesLess m.1 k) = [] := by
    split
    · rfl
    · simp [less_irrefl]
  have e2 : (l.filter fun m => Op.bytesLess k m.1).filter (fun m => Op.bytesLess m.1 k) = [] := by
    rw [List.filter_eq_nil_iff]
    intro m hm
    rw [less_asymm _ _ (List.mem_filter.1 hm).2]; decide
  rw [e1, e2]
  simp
theorem filter_set_more (l : List Mt) (k v : List UInt8) : (setL l k v).filter (fun m => Op.bytesLess k m.1) = l.filter fun m => Op.bytesLess k m.1 := by
  unfold setL
  rw [List.filter_append, List.filter_append, List.filter_filter]
  have e1 : (if v = [] then [] else [(k, v)] : List Mt).filter (fun m => Op.bytesLess k m.1) = [] := by
    split
    · rfl
    · simp [less_irrefl]
  have e2 : ∀ m ∈ l, (Op.bytesLess k m.1 && Op.bytesLess m.1 k) = false := by
    intro m _
    cases h : Op.bytesLess k m.1 with
    | false => rfl
    | true => rw [less_asymm _ _ h]; rfl
  have e3 : l.filter (fun m => Op.bytesLess k m.1 && Op.bytesLess m.1 k) = [] := by
    rw [List.filter_eq_nil_iff]
    intro m hm; rw [e2 m hm]; decide
  rw [e1, e3]
  simp
theorem set_back {l : List Mt} {k v : List UInt8} (h : setErr l k v = 0) : setErr (setL l k v) k ((getP l k).getD []) = 0 ∧ setL (setL l k v) k ((getP l k).getD []) = l := by
  obtain ⟨h0, h1, h2, h3, h4⟩ := setErr_zero h
  obtain ⟨hl, ha⟩ := (chkP_zero l).1 h0
  have hlen := setL_len l k v ha
  have hold : ∀ o, getP l k = some o → isV o = true ∧ o ≠ [] := by
    intro o ho
    have := (asc_get l ha (k, o) (getP_mem ho)).2
    refine ⟨this, ?_⟩
    rintro rfl
    cases this
  refine ⟨setErr_mk (set_valid h) h1 (fun he => ?_) (fun he => ?_) (fun he hg hl16 => ?_), ?_⟩
  · rw [get_set]
    by_cases hv : v = []
    · exfalso
      cases hg : getP l k with
      | none => exact h2 hv hg
      | some o => rw [hg] at he; exact (hold o hg).2 he
    · rw [if_neg hv]; simp
  · cases hg : getP l k with
    | none => rw [hg] at he; exact absurd rfl he
    | some o => exact (hold o hg).1
  · rw [get_set] at hg
    by_cases hv : v = []
    · cases hgo : getP l k with
      | none => rw [hgo] at he; exact absurd rfl he
      | some o => rw [hgo, if_pos hv] at hlen; simp at hlen; omega
    · rw [if_neg hv] at hg; cases hg
  · have e : ∀ (L : List Mt) (o : List UInt8), setL L k o = (L.filter fun m => Op.bytesLess m.1 k) ++ (if o = [] then [] else [(k, o)]) ++ (L.filter fun m => Op.bytesLess k m.1) := fun _ _ => rfl
    rw [e (setL l k v), filter_set_less, filter_set_more]
    conv => rhs; rw [asc_whole l k ha]
    cases hg : getP l k with
    | none => simp
    | some o => simp [(hold o hg).2]
end Go.Proofs.Ytggogfjfkimcgaa
