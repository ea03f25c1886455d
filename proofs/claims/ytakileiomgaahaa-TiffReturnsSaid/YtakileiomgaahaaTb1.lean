/-
  Plain: numbers and tags that lie in some bytes.
-/
import Derived.Test.YtakileiomgaahaaTjp
import Derived.Test.YtakileiomgaahaaTi2
namespace Go.Proofs.Ytakileiomgaahaa
open Go.RowKit

theorem numLE_litB (v n : Nat) : numLE (litB v n) = v % 256 ^ n := by
  induction n with
  | zero => simp [litB, numLE, Nat.mod_one]
  | succ n ih =>
    rw [litB_succ, numLE_snoc, ih, litB_len, Nat.mod_pow_succ]
    have e : (256 : Nat) ^ n = 2 ^ (8 * n) := by rw [Nat.pow_mul]
    have e2 : (UInt8.ofNat (v / 2 ^ (8 * n) % 256)).toNat = v / 256 ^ n % 256 := by
      rw [UInt8.toNat_ofNat', e]; omega
    rw [e2]
/-- The bytes of a number, the least one first or last. -/
def litE (big : Bool) (v n : Nat) : List UInt8 := if big then (litB v n).reverse else litB v n
theorem litE_len (big : Bool) (v n : Nat) : (litE big v n).length = n := by unfold litE; split <;> simp [litB_len]
theorem numB_litE (big : Bool) (v n : Nat) (h : v < 256 ^ n) : numB big (litE big v n) = v := by
  unfold numB litE
  cases big with
  | true => simp only [if_true, List.reverse_reverse]; rw [numLE_litB, Nat.mod_eq_of_lt h]
  | false => simp only [Bool.false_eq_true, if_false]; rw [numLE_litB, Nat.mod_eq_of_lt h]
/-- The bytes x lie in s from p on. -/
def At (s : List UInt8) (p : Nat) (x : List UInt8) : Prop := (s.drop p).take x.length = x
theorem At.self (s : List UInt8) : At s 0 s := by unfold At; simp
theorem At.len {s : List UInt8} {p : Nat} {x : List UInt8} (h : At s p x) (hx : x ≠ []) : p + x.length ≤ s.length := by
  have h1 := congrArg List.length h
  rw [List.length_take, List.length_drop] at h1
  have := List.length_pos_iff.2 hx
  omega
theorem At.left {s : List UInt8} {p : Nat} {x y : List UInt8} (h : At s p (x ++ y)) : At s p x := by
  unfold At at h ⊢
  have := congrArg (List.take x.length) h
  rw [List.take_take, List.length_append, Nat.min_eq_left (by omega), List.take_left] at this
  exact this
theorem At.right {s : List UInt8} {p : Nat} {x y : List UInt8} (h : At s p (x ++ y)) : At s (p + x.length) y := by
  unfold At at h ⊢
  have := congrArg (List.drop x.length) h
  rw [List.drop_take, List.drop_drop, List.length_append, List.drop_left, show x.length + y.length - x.length = y.length by omega] at this
  exact this
theorem At.rightn {s : List UInt8} {p n q : Nat} {x y : List UInt8} (h : At s p (x ++ y)) (hn : x.length = n) (hq : q = p + n) : At s q y := by
  have := h.right
  rw [hn] at this
  rw [hq]
  exact this
theorem At.num {big : Bool} {s : List UInt8} {p v n : Nat} (h : At s p (litE big v n)) (hv : v < 256 ^ n) : nAt big s p n = v := by
  unfold At at h
  rw [litE_len] at h
  unfold nAt
  rw [h]
  exact numB_litE big v n hv
/-- The bytes of a tag with the bytes vb in place of its value. -/
def tagE (big : Bool) (id ty cnt : Nat) (vb : List UInt8) : List UInt8 := litE big id 2 ++ litE big ty 2 ++ litE big cnt 4 ++ vb
theorem At.tag {big : Bool} {s : List UInt8} {p id ty cnt : Nat} {vb : List UInt8} (h : At s p (tagE big id ty cnt vb)) (h1 : id < 65536) (h2 : ty < 65536) (h3 : cnt < 4294967296) : nAt big s p 2 = id ∧ nAt big s (p + 2) 2 = ty ∧ nAt big s (p + 4) 4 = cnt ∧ At s (p + 8) vb := by
  unfold tagE at h
  refine ⟨h.left.left.left.num h1, (h.left.left.rightn (litE_len _ _ _) rfl).num h2, (h.left.rightn (n := 4) (by simp [litE_len]) rfl).num h3, h.rightn (n := 8) (by simp [litE_len]) rfl⟩
theorem tagP_long {big : Bool} {s : List UInt8} {p id v : Nat} (h : At s p (tagE big id 4 1 (litE big v 4))) (h1 : id < 65536) (h2 : v < 4294967296) : tagP big s p = .ok ⟨id, 4, [v], []⟩ := by
  obtain ⟨k0, k2, k4, k8⟩ := h.tag h1 (by decide) (by decide)
  have hl := k8.len (by intro e; have := congrArg List.length e; rw [litE_len] at this; simp at this)
  rw [litE_len] at hl
  unfold tagP
  rw [k2, k4, k0, if_neg (by decide), if_neg (by decide)]
  have e : plT big s p 1 (szT 4) = p + 8 := by unfold plT; rw [if_neg (by decide)]
  rw [e, if_neg (by show ¬ s.length < p + 8 + 1 * 4; omega), if_neg (by decide)]
  have e2 : szT 4 = 4 := rfl
  rw [e2]
  simp only [List.range_succ, List.range_zero, List.nil_append, List.map_cons, List.map_nil, Nat.zero_mul, Nat.add_zero]
  rw [k8.num h2]
theorem tagP_short {big : Bool} {s : List UInt8} {p id v : Nat} {z : List UInt8} (h : At s p (tagE big id 3 1 (litE big v 2 ++ z))) (h1 : id < 65536) (h2 : v < 65536) : tagP big s p = .ok ⟨id, 3, [v], []⟩ := by
  obtain ⟨k0, k2, k4, k8⟩ := h.tag h1 (by decide) (by decide)
  have k8 := k8.left
  have hl := k8.len (by intro e; have := congrArg List.length e; rw [litE_len] at this; simp at this)
  rw [litE_len] at hl
  unfold tagP
  rw [k2, k4, k0, if_neg (by decide), if_neg (by decide)]
  have e : plT big s p 1 (szT 3) = p + 8 := by unfold plT; rw [if_neg (by decide)]
  rw [e, if_neg (by show ¬ s.length < p + 8 + 1 * 2; omega), if_neg (by decide)]
  have e2 : szT 3 = 2 := rfl
  rw [e2]
  simp only [List.range_succ, List.range_zero, List.nil_append, List.map_cons, List.map_nil, Nat.zero_mul, Nat.add_zero]
  rw [k8.num h2]
theorem tagP_four {big : Bool} {s : List UInt8} {p id at_ a b c d : Nat} (h : At s p (tagE big id 3 4 (litE big at_ 4))) (h1 : id < 65536) (h2 : at_ < 4294967296) (hv : At s at_ (litE big a 2 ++ litE big b 2 ++ litE big c 2 ++ litE big d 2)) (ha : a < 65536) (hb : b < 65536) (hc : c < 65536) (hd : d < 65536) : tagP big s p = .ok ⟨id, 3, [a, b, c, d], []⟩ := by
  obtain ⟨k0, k2, k4, k8⟩ := h.tag h1 (by decide) (by decide)
  have hl := hv.len (by intro e; have := congrArg List.length e; simp [litE_len] at this)
  simp only [List.length_append, litE_len] at hl
  unfold tagP
  rw [k2, k4, k0, if_neg (by decide), if_neg (by decide)]
  have e : plT big s p 4 (szT 3) = at_ := by unfold plT; rw [if_pos (by decide), k8.num h2]
  rw [e, if_neg (by show ¬ s.length < at_ + 4 * 2; omega), if_neg (by decide)]
  have e2 : szT 3 = 2 := rfl
  rw [e2]
  simp only [List.range_succ, List.range_zero, List.nil_append, List.map_cons, List.map_nil, Nat.zero_mul, Nat.add_zero, List.cons_append]
  rw [hv.left.left.left.num ha, (hv.left.left.rightn (n := 2) (by simp [litE_len]) (q := at_ + 1 * 2) rfl).num hb, (hv.left.rightn (n := 4) (by simp [litE_len]) (q := at_ + 2 * 2) rfl).num hc, (hv.rightn (n := 6) (by simp [litE_len]) (q := at_ + 3 * 2) rfl).num hd]
theorem tagP_text {big : Bool} {s : List UInt8} {p id at_ : Nat} {x : List UInt8} (h : At s p (tagE big id 2 (x.length + 1) (litE big at_ 4))) (h1 : id < 65536) (h2 : at_ < 4294967296) (hx : 4 ≤ x.length) (hx2 : x.length ≤ 8191) (hv : At s at_ (x ++ [0])) : tagP big s p = .ok ⟨id, 2, [], x⟩ := by
  obtain ⟨k0, k2, k4, k8⟩ := h.tag h1 (by decide) (by omega)
  have hl := hv.len (by simp)
  simp only [List.length_append, List.length_singleton] at hl
  unfold tagP
  have e3 : szT 2 = 1 := rfl
  rw [k2, k4, k0, if_neg (by decide), if_neg (by show ¬ 8192 < x.length + 1; omega), e3]
  have e : plT big s p (x.length + 1) 1 = at_ := by unfold plT; rw [if_pos (by omega), k8.num h2]
  rw [e, if_neg (by omega), if_pos rfl, if_neg (by omega)]
  have e2 : (s.drop at_).take (x.length + 1 - 1) = x := by rw [Nat.add_sub_cancel]; exact hv.left
  rw [e2]
theorem tagsG_step {big : Bool} {s : List UInt8} {n p : Nat} {last : Int} {acc : List Tg} {t : Tg} (h : tagP big s p = .ok t) (hl : last < (t.id : Int)) : tagsG big s (n + 1) p last acc = tagsG big s n (p + 12) t.id (acc ++ [t]) := by
  rw [tagsG]
  have hid := (tagP_ok h).1
  rw [if_neg (by rw [← hid]; omega), h]
end Go.Proofs.Ytakileiomgaahaa
