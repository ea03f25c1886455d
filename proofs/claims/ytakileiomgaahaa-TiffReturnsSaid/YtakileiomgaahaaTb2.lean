/-
  Plain: the file of an image is read back: metadata, packed rows, tags.
-/
import Derived.Test.YtakileiomgaahaaTb1
import Derived.Test.YtakileiomgaahaaTi6
import Derived.Test.YtakileiomgaahaaTup
import Derived.Test.YtakileiomgaahaaM9
namespace Go.Proofs.Ytakileiomgaahaa
open Go.RowKit

theorem fnd_app (c : UInt8) (a b : List UInt8) (h : ∀ x ∈ a, x ≠ c) : fnd c (a ++ c :: b) = a.length := by
  induction a with
  | nil => simp [fnd]
  | cons x a ih =>
    simp only [List.cons_append, fnd, List.length_cons]
    rw [if_neg (h x (by simp)), ih fun y hy => h y (by simp [hy])]
theorem okTxt_mem {most lo : Nat} {s : List UInt8} (h : okTxt most lo s = true) (x : UInt8) (hx : x ∈ s) : lo ≤ x.toNat ∧ x.toNat ≤ 126 := by
  simp only [okTxt, Bool.and_eq_true, List.all_eq_true] at h
  have := h.2 x hx
  simpa [okC] using this
theorem line_parts (m : Mt) (u : List UInt8) (hk : isK m.1 = true) (hv : isV m.2 = true) :
    fnd 10 (lineP m ++ u) = m.1.length + 1 + m.2.length ∧ fnd 32 ((lineP m ++ u).take (fnd 10 (lineP m ++ u))) = m.1.length ∧ lineM (lineP m ++ u) = m ∧ (lineP m ++ u).drop (fnd 10 (lineP m ++ u) + 1) = u := by
  have e : lineP m ++ u = (m.1 ++ 32 :: m.2) ++ 10 :: u := by simp [lineP]
  have h10 : fnd 10 (lineP m ++ u) = (m.1 ++ 32 :: m.2).length := by
    rw [e]
    apply fnd_app
    intro x hx
    rcases List.mem_append.1 hx with hx | hx
    · have := okTxt_mem hk x hx
      rintro rfl; exact absurd this.1 (by decide)
    · rcases List.mem_cons.1 hx with rfl | hx
      · decide
      · have := okTxt_mem hv x hx
        rintro rfl; exact absurd this.1 (by decide)
  have ht : (lineP m ++ u).take (fnd 10 (lineP m ++ u)) = m.1 ++ 32 :: m.2 := by rw [h10, e, List.take_left]
  have h32 : fnd 32 (m.1 ++ 32 :: m.2) = m.1.length := fnd_app _ _ _ fun x hx => by
    have := okTxt_mem hk x hx
    rintro rfl; exact absurd this.1 (by decide)
  refine ⟨by rw [h10]; simp; omega, by rw [ht, h32], ?_, ?_⟩
  · unfold lineM
    rw [ht, h32, List.take_left]
    have : (m.1 ++ 32 :: m.2).drop (m.1.length + 1) = m.2 := by
      rw [show m.1 ++ 32 :: m.2 = (m.1 ++ [32]) ++ m.2 from by simp, show m.1.length + 1 = (m.1 ++ [32]).length from by simp, List.drop_left]
    rw [this]
  · rw [h10, e, show (m.1 ++ 32 :: m.2) ++ 10 :: u = (m.1 ++ 32 :: m.2 ++ [10]) ++ u from by simp, show (m.1 ++ 32 :: m.2).length + 1 = (m.1 ++ 32 :: m.2 ++ [10]).length from by simp; omega, List.drop_left]
theorem parGo_text (r acc : List Mt) (f : Nat) (h : Asc (acc ++ r)) (hl : (acc ++ r).length ≤ 16) (hf : r.length < f) : parGo f acc (textP r) = .ok (acc ++ r) := by
  induction r generalizing acc f with
  | nil =>
    obtain ⟨g, rfl⟩ : ∃ g, f = g + 1 := ⟨f - 1, by simp at hf; omega⟩
    show parGo (g + 1) acc [] = _
    rw [parGo_end, List.append_nil]
  | cons m r ih =>
    obtain ⟨g, rfl⟩ : ∃ g, f = g + 1 := ⟨f - 1, by omega⟩
    have hkv := asc_get _ h m (by simp)
    obtain ⟨p1, p2, p3, p4⟩ := line_parts m (textP r) hkv.1 hkv.2
    have e : textP (m :: r) = lineP m ++ textP r := rfl
    have hne : lineP m ++ textP r ≠ [] := by simp [lineP]
    have hlen : (lineP m ++ textP r).length = m.1.length + 1 + m.2.length + 1 + (textP r).length := by simp [lineP]; omega
    have hent : entP acc.getLast? (lineM (lineP m ++ textP r)) = 0 := by
      rw [p3]
      refine entP_zero.2 ⟨hkv.1, hkv.2, fun q hq => ?_⟩
      have hq' : q ∈ acc := List.mem_of_getLast? hq
      exact ((asc_append acc (m :: r)).1 h).2.2 q hq' m (by simp)
    rw [e, parGo_step hne (by simp at hl; omega) (by rw [p1] at p2 ⊢; omega) hent, p3, p4, ih (acc ++ [m]) g (by simpa using h) (by simpa using hl) (by simp at hf; omega)]
    simp
theorem parP_text (l : List Mt) (h : chkP l = 0) : parP (textP l) = .ok l := by
  obtain ⟨hl, ha⟩ := (chkP_zero l).1 h
  exact parGo_text l [] 18 ha hl (by omega)

theorem unpack_packs (N : Nat) (tail : List UInt8) : ∀ (k : Nat) (l out : List UInt8), l.length ≤ k → out.length + l.length ≤ N → unpG N (packP l ++ tail) out = unpG N tail (out ++ l) := by
  intro k
  induction k with
  | zero =>
    intro l out hk _
    have : l = [] := List.eq_nil_of_length_eq_zero (by omega)
    subst this
    rw [packP_nil, List.nil_append, List.append_nil]
  | succ k ih =>
    intro l out hk hN
    by_cases hne : l = []
    · subst hne
      rw [packP_nil, List.nil_append, List.append_nil]
    have hpos : 0 < l.length := List.length_pos_iff.2 hne
    have hr := runP_le l
    by_cases h2 : 2 ≤ runP l
    · obtain ⟨p1, p2, p3, p4⟩ := pc_run (runP l) h2 hr.2 (l.getD 0 0) (packP (l.drop (runP l)) ++ tail)
      rw [packP_run hne h2, List.cons_append, List.cons_append, unpG_step (by omega) p1 (by rw [p2]; omega) (by rw [p3]; simp), p4, p3, List.drop_succ_cons, List.drop_zero]
      rw [ih (l.drop (runP l)) _ (by rw [List.length_drop]; omega) (by rw [List.length_append, List.length_replicate, List.length_drop]; omega)]
      rw [← take_runP, List.append_assoc, List.take_append_drop]
    · have hge : 1 ≤ litN l := litF_ge 128 l 1
      have hle := litF_le 128 l 1 (by omega) (by decide)
      rw [show litF 128 l 1 = litN l from rfl] at hle
      obtain ⟨p1, p2, p3, p4⟩ := pc_lit (litN l) hge hle.2 ((l.take (litN l) ++ packP (l.drop (litN l))) ++ tail)
      have htl : (l.take (litN l)).length = litN l := by rw [List.length_take]; omega
      have ht : ((l.take (litN l) ++ packP (l.drop (litN l))) ++ tail).take (litN l) = l.take (litN l) := by
        rw [List.append_assoc, List.take_left' htl]
      have hd : ((l.take (litN l) ++ packP (l.drop (litN l))) ++ tail).drop (litN l) = packP (l.drop (litN l)) ++ tail := by
        rw [List.append_assoc, List.drop_left' htl]
      rw [packP_lit hne h2, List.cons_append, unpG_step (by omega) p1 (by rw [p2]; omega) (by rw [p3, List.length_append, List.length_append, htl]; omega), p4, p3, ht, hd]
      rw [ih (l.drop (litN l)) _ (by rw [List.length_drop]; omega) (by rw [List.length_append, htl, List.length_drop]; omega)]
      rw [List.append_assoc, List.take_append_drop]
/-- The rows, packed one by one, are unpacked as one. -/
theorem unpack_rows (d W : Nat) (px : List Px) (N : Nat) : ∀ (H : Nat) (tail out : List UInt8), out.length + (rowsB d false W px H).length ≤ N → unpG N (rowsB d true W px H ++ tail) out = unpG N tail (out ++ rowsB d false W px H) := by
  intro H
  induction H with
  | zero => intro tail out _; simp [rowsB]
  | succ y ih =>
    intro tail out h
    rw [rowsB, rowsB] at *
    simp only [if_true, Bool.false_eq_true, if_false] at *
    rw [List.length_append] at h
    rw [List.append_assoc, ih _ _ (by omega), unpack_packs N tail _ _ _ (Nat.le_refl _) (by rw [List.length_append]; omega), List.append_assoc]
theorem pxT_size {d : Nat} (hd : d = 8 ∨ d = 16) (p : Px) : (pxT d p).length = 4 * (d / 8) := by
  rcases hd with rfl | rfl
  · unfold pxT
    rw [if_neg (by decide)]
    split
    · rfl
    · simp [smT]
  · unfold pxT
    rw [if_pos rfl]
    simp [smT, litB_len]
theorem flat_size {d : Nat} (hd : d = 8 ∨ d = 16) (l : List Px) : (l.flatMap (pxT d)).length = l.length * (4 * (d / 8)) := by
  induction l with
  | nil => simp
  | cons p l ih => rw [List.flatMap_cons, List.length_append, ih, pxT_size hd, List.length_cons, Nat.add_mul]; omega
theorem rowsB_flat (d W : Nat) (px : List Px) (y : Nat) : rowsB d false W px y = (px.take (y * W)).flatMap (pxT d) := by
  induction y with
  | zero => simp [rowsB]
  | succ y ih =>
    rw [rowsB, ih, rowB]
    simp only [Bool.false_eq_true, if_false]
    rw [← List.flatMap_append, Nat.add_mul, Nat.one_mul, List.take_add]
theorem rowsB_size {d : Nat} (hd : d = 8 ∨ d = 16) {W H : Nat} {px : List Px} (hl : px.length = W * H) : (rowsB d false W px H).length = H * W * (4 * (d / 8)) := by
  rw [rowsB_flat, flat_size hd, List.length_take, hl, Nat.mul_comm W H, Nat.min_self]
theorem rowsB_bound {d : Nat} (hd : d = 8 ∨ d = 16) {W : Nat} (hW : W ≤ 256) (pk : Bool) (px : List Px) (y : Nat) : (rowsB d pk W px y).length ≤ 2064 * y := by
  induction y with
  | zero => simp [rowsB]
  | succ y ih =>
    rw [rowsB, List.length_append]
    have h1 : (rowB d W px y).length ≤ 2048 := by
      unfold rowB
      rw [flat_size hd, List.length_take]
      have h2 : min W (px.drop (y * W)).length ≤ 256 := by omega
      have h3 : 4 * (d / 8) ≤ 8 := by rcases hd with rfl | rfl <;> decide
      exact Nat.mul_le_mul h2 h3
    have h2 := packP_bound _ (rowB d W px y) (Nat.le_refl _)
    split <;> omega
end Go.Proofs.Ytakileiomgaahaa
