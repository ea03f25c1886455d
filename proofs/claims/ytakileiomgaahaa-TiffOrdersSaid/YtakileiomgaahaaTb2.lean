/-
  Plain: the file of an image is read back: metadata, packed rows, tags.
-/
import Derived.Test.YtakileiomgaahaaTjp
import Derived.Test.YtakileiomgaahaaTi2
import Derived.Test.YtakileiomgaahaaTi6
import Derived.Test.YtakileiomgaahaaTup
import Derived.Test.YtakileiomgaahaaM9
namespace Go.Proofs.Ytakileiomgaahaa
open Go.RowKit

theorem numLE_litB (v n : Nat) : numLE (litB v n) = v % 256 ^ n := by
  induction n with
  | zero => simp [litB, numLE, Nat.mod_one]
  | succ n ih =>
    rw [litB_succ, numLE_snoc, ih, litB_len, Nat.mod_pow_succ]
    have e : (256 : Nat) ^ n = 2 ^ (8 * n) := by rw [Nat.pow_mul]
    have e2 : (UInt8.ofNat (v / 2 ^ (8 * n) % 256)).toNat = v / 256 ^ n % 256 := by
      rw [UInt8.toNat_ofNat', e]; omega
    rw [e2]
/-- The bytes of a number, the least one first or last. -/
def litE (big : Bool) (v n : Nat) : List UInt8 := if big then (litB v n).reverse else litB v n
theorem litE_len (big : Bool) (v n : Nat) : (litE big v n).length = n := by unfold litE; split <;> simp [litB_len]
theorem numB_litE (big : Bool) (v n : Nat) (h : v < 256 ^ n) : numB big (litE big v n) = v := by
  unfold numB litE
  cases big with
  | true => simp only [if_true, List.reverse_reverse]; rw [numLE_litB, Nat.mod_eq_of_lt h]
  | false => simp only [Bool.false_eq_true, if_false]; rw [numLE_litB, Nat.mod_eq_of_lt h]
/-- The bytes x lie in s from p on. -/
def At (s : List UInt8) (p : Nat) (x : List UInt8) : Prop := (s.drop p).take x.length = x
theorem At.self (s : List UInt8) : At s 0 s := by unfold At; simp
theorem At.len {s : List UInt8} {p : Nat} {x : List UInt8} (h : At s p x) (hx : x ≠ []) : p + x.length ≤ s.length := by
  have h1 := congrArg List.length h
  rw [List.length_take, List.length_drop] at h1
  have := List.length_pos_iff.2 hx
  omega
theorem At.left {s : List UInt8} {p : Nat} {x y : List UInt8} (h : At s p (x ++ y)) : At s p x := by
  unfold At at h ⊢
  have := congrArg (List.take x.length) h
  rw [List.take_take, List.length_append, Nat.min_eq_left (by omega), List.take_left] at this
  exact this
theorem At.right {s : List UInt8} {p : Nat} {x y : List UInt8} (h : At s p (x ++ y)) : At s (p + x.length) y := by
  unfold At at h ⊢
  have := congrArg (List.drop x.length) h
  rw [List.drop_take, List.drop_drop, List.length_append, List.drop_left, show x.length + y.length - x.length = y.length by omega] at this
  exact this
theorem At.rightn {s : List UInt8} {p n q : Nat} {x y : List UInt8} (h : At s p (x ++ y)) (hn : x.length = n) (hq : q = p + n) : At s q y := by
  have := h.right
  rw [hn] at this
  rw [hq]
  exact this
theorem At.num {big : Bool} {s : List UInt8} {p v n : Nat} (h : At s p (litE big v n)) (hv : v < 256 ^ n) : nAt big s p n = v := by
  unfold At at h
  rw [litE_len] at h
  unfold nAt
  rw [h]
  exact numB_litE big v n hv
/-- The bytes of a tag with the bytes vb in place of its value. -/
def tagE (big : Bool) (id ty cnt : Nat) (vb : List UInt8) : List UInt8 := litE big id 2 ++ litE big ty 2 ++ litE big cnt 4 ++ vb
theorem At.tag {big : Bool} {s : List UInt8} {p id ty cnt : Nat} {vb : List UInt8} (h : At s p (tagE big id ty cnt vb)) (h1 : id < 65536) (h2 : ty < 65536) (h3 : cnt < 4294967296) : nAt big s p 2 = id ∧ nAt big s (p + 2) 2 = ty ∧ nAt big s (p + 4) 4 = cnt ∧ At s (p + 8) vb := by
  unfold tagE at h
  refine ⟨h.left.left.left.num h1, (h.left.left.rightn (litE_len _ _ _) rfl).num h2, (h.left.rightn (n := 4) (by simp [litE_len]) rfl).num h3, h.rightn (n := 8) (by simp [litE_len]) rfl⟩
theorem tagP_long {big : Bool} {s : List UInt8} {p id v : Nat} (h : At s p (tagE big id 4 1 (litE big v 4))) (h1 : id < 65536) (h2 : v < 4294967296) : tagP big s p = .ok ⟨id, 4, [v], []⟩ := by
  obtain ⟨k0, k2, k4, k8⟩ := h.tag h1 (by decide) (by decide)
  have hl := k8.len (by intro e; have := congrArg List.length e; rw [litE_len] at this; simp at this)
  rw [litE_len] at hl
  unfold tagP
  rw [k2, k4, k0, if_neg (by decide), if_neg (by decide)]
  have e : plT big s p 1 (szT 4) = p + 8 := by unfold plT; rw [if_neg (by decide)]
  rw [e, if_neg (by show ¬ s.length < p + 8 + 1 * 4; omega), if_neg (by decide)]
  have e2 : szT 4 = 4 := rfl
  rw [e2]
  simp only [List.range_succ, List.range_zero, List.nil_append, List.map_cons, List.map_nil, Nat.zero_mul, Nat.add_zero]
  rw [k8.num h2]
theorem tagP_short {big : Bool} {s : List UInt8} {p id v : Nat} {z : List UInt8} (h : At s p (tagE big id 3 1 (litE big v 2 ++ z))) (h1 : id < 65536) (h2 : v < 65536) : tagP big s p = .ok ⟨id, 3, [v], []⟩ := by
  obtain ⟨k0, k2, k4, k8⟩ := h.tag h1 (by decide) (by decide)
  have k8 := k8.left
  have hl := k8.len (by intro e; have := congrArg List.length e; rw [litE_len] at this; simp at this)
  rw [litE_len] at hl
  unfold tagP
  rw [k2, k4, k0, if_neg (by decide), if_neg (by decide)]
  have e : plT big s p 1 (szT 3) = p + 8 := by unfold plT; rw [if_neg (by decide)]
  rw [e, if_neg (by show ¬ s.length < p + 8 + 1 * 2; omega), if_neg (by decide)]
  have e2 : szT 3 = 2 := rfl
  rw [e2]
  simp only [List.range_succ, List.range_zero, List.nil_append, List.map_cons, List.map_nil, Nat.zero_mul, Nat.add_zero]
  rw [k8.num h2]
theorem tagP_four {big : Bool} {s : List UInt8} {p id at_ a b c d : Nat} (h : At s p (tagE big id 3 4 (litE big at_ 4))) (h1 : id < 65536) (h2 : at_ < 4294967296) (hv : At s at_ (litE big a 2 ++ litE big b 2 ++ litE big c 2 ++ litE big d 2)) (ha : a < 65536) (hb : b < 65536) (hc : c < 65536) (hd : d < 65536) : tagP big s p = .ok ⟨id, 3, [a, b, c, d], []⟩ := by
  obtain ⟨k0, k2, k4, k8⟩ := h.tag h1 (by decide) (by decide)
  have hl := hv.len (by intro e; have := congrArg List.length e; simp [litE_len] at this)
  simp only [List.length_append, litE_len] at hl
  unfold tagP
  rw [k2, k4, k0, if_neg (by decide), if_neg (by decide)]
  have e : plT big s p 4 (szT 3) = at_ := by unfold plT; rw [if_pos (by decide), k8.num h2]
  rw [e, if_neg (by show ¬ s.length < at_ + 4 * 2; omega), if_neg (by decide)]
  have e2 : szT 3 = 2 := rfl
  rw [e2]
  simp only [List.range_succ, List.range_zero, List.nil_append, List.map_cons, List.map_nil, Nat.zero_mul, Nat.add_zero, List.cons_append]
  rw [hv.left.left.left.num ha, (hv.left.left.rightn (n := 2) (by simp [litE_len]) (q := at_ + 1 * 2) rfl).num hb, (hv.left.rightn (n := 4) (by simp [litE_len]) (q := at_ + 2 * 2) rfl).num hc, (hv.rightn (n := 6) (by simp [litE_len]) (q := at_ + 3 * 2) rfl).num hd]
theorem tagP_text {big : Bool} {s : List UInt8} {p id at_ : Nat} {x : List UInt8} (h : At s p (tagE big id 2 (x.length + 1) (litE big at_ 4))) (h1 : id < 65536) (h2 : at_ < 4294967296) (hx : 4 ≤ x.length) (hx2 : x.length ≤ 8191) (hv : At s at_ (x ++ [0])) : tagP big s p = .ok ⟨id, 2, [], x⟩ := by
  obtain ⟨k0, k2, k4, k8⟩ := h.tag h1 (by decide) (by omega)
  have hl := hv.len (by simp)
  simp only [List.length_append, List.length_singleton] at hl
  unfold tagP
  have e3 : szT 2 = 1 := rfl
  rw [k2, k4, k0, if_neg (by decide), if_neg (by show ¬ 8192 < x.length + 1; omega), e3]
  have e : plT big s p (x.length + 1) 1 = at_ := by unfold plT; rw [if_pos (by omega), k8.num h2]
  rw [e, if_neg (by omega), if_pos rfl, if_neg (by omega)]
  have e2 : (s.drop at_).take (x.length + 1 - 1) = x := by rw [Nat.add_sub_cancel]; exact hv.left
  rw [e2]
theorem tagsG_step {big : Bool} {s : List UInt8} {n p : Nat} {last : Int} {acc : List Tg} {t : Tg} (h : tagP big s p = .ok t) (hl : last < (t.id : Int)) : tagsG big s (n + 1) p last acc = tagsG big s n (p + 12) t.id (acc ++ [t]) := by
  rw [tagsG]
  have hid := (tagP_ok h).1
  rw [if_neg (by rw [← hid]; omega), h]
end Go.Proofs.Ytakileiomgaahaa
namespace Go.Proofs.Ytakileiomgaahaa
open Go.RowKit

theorem fnd_app (c : UInt8) (a b : List UInt8) (h : ∀ x ∈ a, x ≠ c) : fnd c (a ++ c :: b) = a.length := by
  induction a with
  | nil => simp [fnd]
  | cons x a ih =>
    simp only [List.cons_append, fnd, List.length_cons]
    rw [if_neg (h x (by simp)), ih fun y hy => h y (by simp [hy])]
theorem okTxt_mem {most lo : Nat} {s : List UInt8} (h : okTxt most lo s = true) (x : UInt8) (hx : x ∈ s) : lo ≤ x.toNat ∧ x.toNat ≤ 126 := by
  simp only [okTxt, Bool.and_eq_true, List.all_eq_true] at h
  have := h.2 x hx
  simpa [okC] using this
theorem line_parts (m : Mt) (u : List UInt8) (hk : isK m.1 = true) (hv : isV m.2 = true) :
    fnd 10 (lineP m ++ u) = m.1.length + 1 + m.2.length ∧ fnd 32 ((lineP m ++ u).take (fnd 10 (lineP m ++ u))) = m.1.length ∧ lineM (lineP m ++ u) = m ∧ (lineP m ++ u).drop (fnd 10 (lineP m ++ u) + 1) = u := by
  have e : lineP m ++ u = (m.1 ++ 32 :: m.2) ++ 10 :: u := by simp [lineP]
  have h10 : fnd 10 (lineP m ++ u) = (m.1 ++ 32 :: m.2).length := by
    rw [e]
    apply fnd_app
    intro x hx
    rcases List.mem_append.1 hx with hx | hx
    · have := okTxt_mem hk x hx
      rintro rfl; exact absurd this.1 (by decide)
    · rcases List.mem_cons.1 hx with rfl | hx
      · decide
      · have := okTxt_mem hv x hx
        rintro rfl; exact absurd this.1 (by decide)
  have ht : (lineP m ++ u).take (fnd 10 (lineP m ++ u)) = m.1 ++ 32 :: m.2 := by rw [h10, e, List.take_left]
  have h32 : fnd 32 (m.1 ++ 32 :: m.2) = m.1.length := fnd_app _ _ _ fun x hx => by
    have := okTxt_mem hk x hx
    rintro rfl; exact absurd this.1 (by decide)
  refine ⟨by rw [h10]; simp; omega, by rw [ht, h32], ?_, ?_⟩
  · unfold lineM
    rw [ht, h32, List.take_left]
    have : (m.1 ++ 32 :: m.2).drop (m.1.length + 1) = m.2 := by
      rw [show m.1 ++ 32 :: m.2 = (m.1 ++ [32]) ++ m.2 from by simp, show m.1.length + 1 = (m.1 ++ [32]).length from by simp, List.drop_left]
    rw [this]
  · rw [h10, e, show (m.1 ++ 32 :: m.2) ++ 10 :: u = (m.1 ++ 32 :: m.2 ++ [10]) ++ u from by simp, show (m.1 ++ 32 :: m.2).length + 1 = (m.1 ++ 32 :: m.2 ++ [10]).length from by simp; omega, List.drop_left]
theorem parGo_text (r acc : List Mt) (f : Nat) (h : Asc (acc ++ r)) (hl : (acc ++ r).length ≤ 16) (hf : r.length < f) : parGo f acc (textP r) = .ok (acc ++ r) := by
  induction r generalizing acc f with
  | nil =>
    obtain ⟨g, rfl⟩ : ∃ g, f = g + 1 := ⟨f - 1, by simp at hf; omega⟩
    show parGo (g + 1) acc [] = _
    rw [parGo_end, List.append_nil]
  | cons m r ih =>
    obtain ⟨g, rfl⟩ : ∃ g, f = g + 1 := ⟨f - 1, by omega⟩
    have hkv := asc_get _ h m (by simp)
    obtain ⟨p1, p2, p3, p4⟩ := line_parts m (textP r) hkv.1 hkv.2
    have e : textP (m :: r) = lineP m ++ textP r := rfl
    have hne : lineP m ++ textP r ≠ [] := by simp [lineP]
    have hlen : (lineP m ++ textP r).length = m.1.length + 1 + m.2.length + 1 + (textP r).length := by simp [lineP]; omega
    have hent : entP acc.getLast? (lineM (lineP m ++ textP r)) = 0 := by
      rw [p3]
      refine entP_zero.2 ⟨hkv.1, hkv.2, fun q hq => ?_⟩
      have hq' : q ∈ acc := List.mem_of_getLast? hq
      exact ((asc_append acc (m :: r)).1 h).2.2 q hq' m (by simp)
    rw [e, parGo_step hne (by simp at hl; omega) (by rw [p1] at p2 ⊢; omega) hent, p3, p4, ih (acc ++ [m]) g (by simpa using h) (by simpa using hl) (by simp at hf; omega)]
    simp
theorem parP_text (l : List Mt) (h : chkP l = 0) : parP (textP l) = .ok l := by
  obtain ⟨hl, ha⟩ := (chkP_zero l).1 h
  exact parGo_text l [] 18 ha hl (by omega)

theorem unpack_packs (N : Nat) (tail : List UInt8) : ∀ (k : Nat) (l out : List UInt8), l.length ≤ k → out.length + l.length ≤ N → unpG N (packP l ++ tail) out = unpG N tail (out ++ l) := by
  intro k
  induction k with
  | zero =>
    intro l out hk _
    have : l = [] := List.eq_nil_of_length_eq_zero (by omega)
    subst this
    rw [packP_nil, List.nil_append, List.append_nil]
  | succ k ih =>
    intro l out hk hN
    by_cases hne : l = []
    · subst hne
      rw [packP_nil, List.nil_append, List.append_nil]
    have hpos : 0 < l.length := List.length_pos_iff.2 hne
    have hr := runP_le l
    by_cases h2 : 2 ≤ runP l
    · obtain ⟨p1, p2, p3, p4⟩ := pc_run (runP l) h2 hr.2 (l.getD 0 0) (packP (l.drop (runP l)) ++ tail)
      rw [packP_run hne h2, List.cons_append, List.cons_append, unpG_step (by omega) p1 (by rw [p2]; omega) (by rw [p3]; simp), p4, p3, List.drop_succ_cons, List.drop_zero]
      rw [ih (l.drop (runP l)) _ (by rw [List.length_drop]; omega) (by rw [List.length_append, List.length_replicate, List.length_drop]; omega)]
      rw [← take_runP, List.append_assoc, List.take_append_drop]
    · have hge : 1 ≤ litN l := litF_ge 128 l 1
      have hle := litF_le 128 l 1 (by omega) (by decide)
      rw [show litF 128 l 1 = litN l from rfl] at hle
      obtain ⟨p1, p2, p3, p4⟩ := pc_lit (litN l) hge hle.2 ((l.take (litN l) ++ packP (l.drop (litN l))) ++ tail)
      have htl : (l.take (litN l)).length = litN l := by rw [List.length_take]; omega
      have ht : ((l.take (litN l) ++ packP (l.drop (litN l))) ++ tail).take (litN l) = l.take (litN l) := by
        rw [List.append_assoc, List.take_left' htl]
      have hd : ((l.take (litN l) ++ packP (l.drop (litN l))) ++ tail).drop (litN l) = packP (l.drop (litN l)) ++ tail := by
        rw [List.append_assoc, List.drop_left' htl]
      rw [packP_lit hne h2, List.cons_append, unpG_step (by omega) p1 (by rw [p2]; omega) (by rw [p3, List.length_append, List.length_append, htl]; omega), p4, p3, ht, hd]
      rw [ih (l.drop (litN l)) _ (by rw [List.length_drop]; omega) (by rw [List.length_append, htl, List.length_drop]; omega)]
      rw [List.append_assoc, List.take_append_drop]
/-- The rows, packed one by one, are unpacked as one. -/
theorem unpack_rows (d W : Nat) (px : List Px) (N : Nat) : ∀ (H : Nat) (tail out : List UInt8), out.length + (rowsB d false W px H).length ≤ N → unpG N (rowsB d true W px H ++ tail) out = unpG N tail (out ++ rowsB d false W px H) := by
  intro H
  induction H with
  | zero => intro tail out _; simp [rowsB]
  | succ y ih =>
    intro tail out h
    rw [rowsB, rowsB] at *
    simp only [if_true, Bool.false_eq_true, if_false] at *
    rw [List.length_append] at h
    rw [List.append_assoc, ih _ _ (by omega), unpack_packs N tail _ _ _ (Nat.le_refl _) (by rw [List.length_append]; omega), List.append_assoc]
theorem pxT_size {d : Nat} (hd : d = 8 ∨ d = 16) (p : Px) : (pxT d p).length = 4 * (d / 8) := by
  rcases hd with rfl | rfl
  · unfold pxT
    rw [if_neg (by decide)]
    split
    · rfl
    · simp [smT]
  · unfold pxT
    rw [if_pos rfl]
    simp [smT, litB_len]
theorem flat_size {d : Nat} (hd : d = 8 ∨ d = 16) (l : List Px) : (l.flatMap (pxT d)).length = l.length * (4 * (d / 8)) := by
  induction l with
  | nil => simp
  | cons p l ih => rw [List.flatMap_cons, List.length_append, ih, pxT_size hd, List.length_cons, Nat.add_mul]; omega
theorem rowsB_flat (d W : Nat) (px : List Px) (y : Nat) : rowsB d false W px y = (px.take (y * W)).flatMap (pxT d) := by
  induction y with
  | zero => simp [rowsB]
  | succ y ih =>
    rw [rowsB, ih, rowB]
    simp only [Bool.false_eq_true, if_false]
    rw [← List.flatMap_append, Nat.add_mul, Nat.one_mul, List.take_add]
theorem rowsB_size {d : Nat} (hd : d = 8 ∨ d = 16) {W H : Nat} {px : List Px} (hl : px.length = W * H) : (rowsB d false W px H).length = H * W * (4 * (d / 8)) := by
  rw [rowsB_flat, flat_size hd, List.length_take, hl, Nat.mul_comm W H, Nat.min_self]
theorem rowsB_bound {d : Nat} (hd : d = 8 ∨ d = 16) {W : Nat} (hW : W ≤ 256) (pk : Bool) (px : List Px) (y : Nat) : (rowsB d pk W px y).length ≤ 2064 * y := by
  induction y with
  | zero => simp [rowsB]
  | succ y ih =>
    rw [rowsB, List.length_append]
    have h1 : (rowB d W px y).length ≤ 2048 := by
      unfold rowB
      rw [flat_size hd, List.length_take]
      have h2 : min W (px.drop (y * W)).length ≤ 256 := by omega
      have h3 : 4 * (d / 8) ≤ 8 := by rcases hd with rfl | rfl <;> decide
      exact Nat.mul_le_mul h2 h3
    have h2 := packP_bound _ (rowB d W px y) (Nat.le_refl _)
    split <;> omega
end Go.Proofs.Ytakileiomgaahaa
