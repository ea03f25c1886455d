/-
  Plain: what is packed is unpacked.
-/
import Derived.Test.YtakileiomgaahaaTk1
import Derived.Test.YtakileiomgaahaaTi4
namespace Go.Proofs.Ytakileiomgaahaa
open Go.RowKit

theorem take_run (l : List UInt8) (n : Nat) (h : n ≤ (l.takeWhile (· == l.getD 0 0)).length) : l.take n = List.replicate n (l.getD 0 0) := by
  generalize l.getD 0 0 = b at *
  induction l generalizing n with
  | nil =>
    simp at h
    subst h; rfl
  | cons c l ih =>
    cases n with
    | zero => rfl
    | succ n =>
      rw [List.takeWhile_cons] at h
      split at h
      · rename_i hc
        rw [List.take_succ_cons, List.replicate_succ, ih n (by simpa using h), beq_iff_eq.1 hc]
      · simp at h
theorem take_runP (l : List UInt8) : l.take (runP l) = List.replicate (runP l) (l.getD 0 0) := by
  refine take_run l _ ?_
  rw [runP_eq]
  omega
theorem pc_run (n : Nat) (h1 : 2 ≤ n) (h2 : n ≤ 128) (b : UInt8) (t : List UInt8) : (UInt8.ofNat (257 - n)).toNat ≠ 128 ∧ pcS (UInt8.ofNat (257 - n)) = n ∧ pcN (UInt8.ofNat (257 - n)) = 1 ∧ pcB (UInt8.ofNat (257 - n)) (b :: t) = List.replicate n b := by
  have e : (UInt8.ofNat (257 - n)).toNat = 257 - n := by rw [UInt8.toNat_ofNat']; omega
  have eS : pcS (UInt8.ofNat (257 - n)) = n := by unfold pcS; rw [e, if_pos (by omega)]; omega
  have eN : pcN (UInt8.ofNat (257 - n)) = 1 := by unfold pcN; rw [e, if_pos (by omega)]
  refine ⟨by omega, eS, eN, ?_⟩
  unfold pcB
  rw [eS, eN, Nat.div_one]
  exact repeatL_one b n
theorem pc_lit (n : Nat) (h1 : 1 ≤ n) (h2 : n ≤ 128) (t : List UInt8) : (UInt8.ofNat (n - 1)).toNat ≠ 128 ∧ pcS (UInt8.ofNat (n - 1)) = n ∧ pcN (UInt8.ofNat (n - 1)) = n ∧ pcB (UInt8.ofNat (n - 1)) t = t.take n := by
  have e : (UInt8.ofNat (n - 1)).toNat = n - 1 := by rw [UInt8.toNat_ofNat']; omega
  have eS : pcS (UInt8.ofNat (n - 1)) = n := by unfold pcS; rw [e, if_neg (by omega)]; omega
  have eN : pcN (UInt8.ofNat (n - 1)) = n := by unfold pcN; rw [e, if_neg (by omega)]; omega
  refine ⟨by omega, eS, eN, ?_⟩
  unfold pcB
  rw [eS, eN, Nat.div_self (by omega)]
  exact repeatL_once _
theorem packP_ne0 {l : List UInt8} (h : l ≠ []) : packP l ≠ [] := by
  by_cases h2 : 2 ≤ runP l
  · rw [packP_run h h2]; simp
  · rw [packP_lit h h2]; simp
theorem unpack_pack (N : Nat) (tail : List UInt8) : ∀ (k : Nat) (l out : List UInt8), l.length ≤ k → out.length + l.length = N → unpG N (packP l ++ tail) out = unpG N tail (out ++ l) := by
  intro k
  induction k with
  | zero =>
    intro l out hk _
    have : l = [] := List.eq_nil_of_length_eq_zero (by omega)
    subst this
    rw [packP_nil, List.nil_append, List.append_nil]
  | succ k ih =>
    intro l out hk hN
    by_cases hne : l = []
    · subst hne
      rw [packP_nil, List.nil_append, List.append_nil]
    have hpos : 0 < l.length := List.length_pos_iff.2 hne
    have hr := runP_le l
    by_cases h2 : 2 ≤ runP l
    · obtain ⟨p1, p2, p3, p4⟩ := pc_run (runP l) h2 hr.2 (l.getD 0 0) (packP (l.drop (runP l)) ++ tail)
      rw [packP_run hne h2, List.cons_append, List.cons_append, unpG_step (by omega) p1 (by rw [p2]; omega) (by rw [p3]; simp), p4, p3, List.drop_succ_cons, List.drop_zero]
      rw [ih (l.drop (runP l)) _ (by rw [List.length_drop]; omega) (by rw [List.length_append, List.length_replicate, List.length_drop]; omega)]
      rw [← take_runP, List.append_assoc, List.take_append_drop]
    · have hge : 1 ≤ litN l := litF_ge 128 l 1
      have hle := litF_le 128 l 1 (by omega) (by decide)
      rw [show litF 128 l 1 = litN l from rfl] at hle
      obtain ⟨p1, p2, p3, p4⟩ := pc_lit (litN l) hge hle.2 ((l.take (litN l) ++ packP (l.drop (litN l))) ++ tail)
      have htl : (l.take (litN l)).length = litN l := by rw [List.length_take]; omega
      have ht : ((l.take (litN l) ++ packP (l.drop (litN l))) ++ tail).take (litN l) = l.take (litN l) := by
        rw [List.append_assoc, List.take_left' htl]
      have hd : ((l.take (litN l) ++ packP (l.drop (litN l))) ++ tail).drop (litN l) = packP (l.drop (litN l)) ++ tail := by
        rw [List.append_assoc, List.drop_left' htl]
      rw [packP_lit hne h2, List.cons_append, unpG_step (by omega) p1 (by rw [p2]; omega) (by rw [p3, List.length_append, List.length_append, htl]; omega), p4, p3, ht, hd]
      rw [ih (l.drop (litN l)) _ (by rw [List.length_drop]; omega) (by rw [List.length_append, htl, List.length_drop]; omega)]
      rw [List.append_assoc, List.take_append_drop]
theorem dropLast_cons_ne {α : Type} (a : α) {l : List α} (h : l ≠ []) : (a :: l).dropLast = a :: l.dropLast := by
  cases l with
  | nil => exact absurd rfl h
  | cons b t => rfl
theorem unpack_cut (N : Nat) : ∀ (k : Nat) (l out : List UInt8), l.length ≤ k → l ≠ [] → out.length + l.length = N → unpG N (packP l).dropLast out = .error 5 := by
  intro k
  induction k with
  | zero =>
    intro l out hk hne _
    exact absurd (List.eq_nil_of_length_eq_zero (by omega)) hne
  | succ k ih =>
    intro l out hk hne hN
    have hpos : 0 < l.length := List.length_pos_iff.2 hne
    have hr := runP_le l
    by_cases h2 : 2 ≤ runP l
    · by_cases hrest : l.drop (runP l) = []
      · obtain ⟨p1, p2, p3, p4⟩ := pc_run (runP l) h2 hr.2 0 []
        rw [packP_run hne h2, hrest, packP_nil]
        show unpG N [UInt8.ofNat (257 - runP l)] out = _
        exact unpG_short (by omega) p1 (by rw [p2]; omega) (by rw [p3]; decide)
      · obtain ⟨p1, p2, p3, p4⟩ := pc_run (runP l) h2 hr.2 (l.getD 0 0) (packP (l.drop (runP l))).dropLast
        rw [packP_run hne h2, dropLast_cons_ne _ (by simp), dropLast_cons_ne _ (packP_ne0 hrest), unpG_step (by omega) p1 (by rw [p2]; omega) (by rw [p3]; simp), p4, p3, List.drop_succ_cons, List.drop_zero]
        exact ih (l.drop (runP l)) _ (by rw [List.length_drop]; omega) hrest (by rw [List.length_append, List.length_replicate, List.length_drop]; omega)
    · have hge : 1 ≤ litN l := litF_ge 128 l 1
      have hle := litF_le 128 l 1 (by omega) (by decide)
      rw [show litF 128 l 1 = litN l from rfl] at hle
      have htl : (l.take (litN l)).length = litN l := by rw [List.length_take]; omega
      by_cases hrest : l.drop (litN l) = []
      · obtain ⟨p1, p2, p3, p4⟩ := pc_lit (litN l) hge hle.2 []
        have htne : l.take (litN l) ≠ [] := by intro h; rw [h] at htl; simp at htl; omega
        rw [packP_lit hne h2, hrest, packP_nil, List.append_nil, dropLast_cons_ne _ htne]
        exact unpG_short (by omega) p1 (by rw [p2]; omega) (by rw [p3, List.length_dropLast, htl]; omega)
      · obtain ⟨p1, p2, p3, p4⟩ := pc_lit (litN l) hge hle.2 (l.take (litN l) ++ (packP (l.drop (litN l))).dropLast)
        have ht : (l.take (litN l) ++ (packP (l.drop (litN l))).dropLast).take (litN l) = l.take (litN l) := by rw [List.take_left' htl]
        have hd : (l.take (litN l) ++ (packP (l.drop (litN l))).dropLast).drop (litN l) = (packP (l.drop (litN l))).dropLast := by rw [List.drop_left' htl]
        have hne2 : l.take (litN l) ++ packP (l.drop (litN l)) ≠ [] := by
          intro h
          exact packP_ne0 hrest (List.append_eq_nil_iff.1 h).2
        rw [packP_lit hne h2, dropLast_cons_ne _ hne2, List.dropLast_append_of_ne_nil (packP_ne0 hrest), unpG_step (by omega) p1 (by rw [p2]; omega) (by rw [p3, List.length_append, htl]; omega), p4, p3, ht, hd]
        exact ih (l.drop (litN l)) _ (by rw [List.length_drop]; omega) hrest (by rw [List.length_append, htl, List.length_drop]; omega)
theorem unp_back (l : List UInt8) (h : l.length ≤ 1048576) : unpP (packP l) l.length = .ok l := by
  unfold unpP
  rw [if_neg (by omega), Int.toNat_natCast]
  have := unpack_pack l.length [] l.length l [] (Nat.le_refl _) (by simp)
  rw [List.append_nil, List.nil_append] at this
  rw [this]
  exact unpG_done (Nat.lt_irrefl _)
theorem unp_more (l : List UInt8) (x : UInt8) (h : l.length ≤ 1048576) : unpP (packP l ++ [x]) l.length = .error 6 := by
  unfold unpP
  rw [if_neg (by omega), Int.toNat_natCast, unpack_pack l.length [x] l.length l [] (Nat.le_refl _) (by simp), List.nil_append]
  exact unpG_more (Nat.lt_irrefl _) (by simp)
theorem unp_less (l : List UInt8) (h : l.length ≤ 1048576) (hne : l ≠ []) : unpP (packP l).dropLast l.length = .error 5 := by
  unfold unpP
  rw [if_neg (by omega), Int.toNat_natCast]
  exact unpack_cut l.length l.length l [] (Nat.le_refl _) hne (by simp)
end Go.Proofs.Ytakileiomgaahaa
