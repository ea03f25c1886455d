/-
  Plain: what Decode of tiff answers.
-/
import Derived.Test.YtakileiomgaahaaTj5
import Derived.Test.YtakileiomgaahaaTj7
import Derived.Test.YtakileiomgaahaaM8
namespace Go.Proofs.Ytakileiomgaahaa
open Go.RowKit

theorem tagP_ok {big : Bool} {s : List UInt8} {p : Nat} {t : Tg} (h : tagP big s p = .ok t) : t.id = nAt big s p 2 ∧ t.ty = nAt big s (p + 2) 2 ∧ (∀ x ∈ t.vals, x ≤ 4294967295) ∧ t.text.length ≤ 8192 := by
  unfold tagP at h
  split at h
  · cases h
  split at h
  · cases h
  rename_i hm
  split at h
  · cases h
  split at h
  · rename_i h2
    split at h
    · cases h
    · injection h with h
      subst h
      refine ⟨rfl, h2.symm, (fun x hx => by cases hx), ?_⟩
      rw [List.length_take]
      unfold mostT at hm
      rw [if_pos h2] at hm
      omega
  · injection h with h
    subst h
    refine ⟨rfl, rfl, fun x hx => ?_, Nat.zero_le _⟩
    simp only [List.mem_map] at hx
    obtain ⟨k, _, rfl⟩ := hx
    have h1 := nAt_lt big s (plT big s p (nAt big s (p + 4) 4) (szT (nAt big s (p + 2) 2)) + k * szT (nAt big s (p + 2) 2)) (szT (nAt big s (p + 2) 2))
    have h2 : szT (nAt big s (p + 2) 2) ≤ 4 := by unfold szT; split <;> (try split) <;> omega
    have h3 : (256 : Nat) ^ szT (nAt big s (p + 2) 2) ≤ 256 ^ 4 := Nat.pow_le_pow_right (by decide) h2
    have h4 : (256 : Nat) ^ 4 = 4294967296 := by decide
    omega
def TagsB (l : List Tg) : Prop := LBd l ∧ ∀ t ∈ l, t.text.length ≤ 8192
theorem tagsG_ok {big : Bool} {s : List UInt8} {n p : Nat} {last : Int} {acc l : List Tg} (ha : TagsB acc) (h : tagsG big s n p last acc = .ok l) : TagsB l := by
  induction n generalizing p last acc with
  | zero => unfold tagsG at h; injection h with h; rw [← h]; exact ha
  | succ n ih =>
    unfold tagsG at h
    split at h
    · cases h
    · split at h
      · cases h
      · rename_i t ht
        have := tagP_ok ht
        refine ih ⟨fun u hu => ?_, fun u hu => ?_⟩ h
        · rcases List.mem_append.1 hu with h1 | h1
          · exact ha.1 u h1
          · rw [List.mem_singleton.1 h1]; exact this.2.2.1
        · rcases List.mem_append.1 hu with h1 | h1
          · exact ha.2 u h1
          · rw [List.mem_singleton.1 h1]; exact this.2.2.2
theorem tagsP_ok {s : List UInt8} {l : List Tg} (h : tagsP s = .ok l) : TagsB l := by
  unfold tagsP at h
  repeat' split at h
  all_goals first | (cases h; done) | exact tagsG_ok ⟨(fun u hu => by cases hu), (fun u hu => by cases hu)⟩ h
theorem tagsG_err {big : Bool} {s : List UInt8} {n p : Nat} {last : Int} {acc : List Tg} {k : Nat} (h : tagsG big s n p last acc = .error k) : k ≠ 0 := by
  induction n generalizing p last acc with
  | zero => unfold tagsG at h; cases h
  | succ n ih =>
    unfold tagsG at h
    split at h
    · injection h with h; omega
    · split at h
      · rename_i t ht
        injection h with h
        rw [← h]
        exact (tagP_err ht).1
      · exact ih h
theorem tagsP_err {s : List UInt8} {k : Nat} (h : tagsP s = .error k) : k ≠ 0 := by
  unfold tagsP at h
  repeat' split at h
  all_goals first | (injection h with h; omega) | exact tagsG_err h
theorem kindP_ok {l : List Tg} (h : kindP l = true) : (firstN l 277 0 = 1 ∨ firstN l 277 0 = 3 ∨ firstN l 277 0 = 4) ∧ (firstN l 258 0 = 8 ∨ firstN l 258 0 = 16) ∧ (firstN l 259 1 = 1 ∨ firstN l 259 1 = 32773) := by
  unfold kindP at h
  split at h
  · cases h
  rename_i h0
  split at h
  · cases h
  rename_i h1
  split at h
  · cases h
  rename_i h2
  split at h
  · cases h
  rename_i h3
  have h1' : ((firstT l 262 (-1) = 0 ∨ firstT l 262 (-1) = 1) ∧ firstN l 277 0 = 1) ∨ (firstT l 262 (-1) = 2 ∧ (firstN l 277 0 = 3 ∨ firstN l 277 0 = 4)) := Classical.byContradiction fun hc => h1 hc
  have hs : firstN l 277 0 = 1 ∨ firstN l 277 0 = 3 ∨ firstN l 277 0 = 4 := by rcases h1' with ⟨_, h⟩ | ⟨_, h | h⟩ <;> omega
  refine ⟨hs, ?_, by omega⟩
  have h2' : (valsT l 258).length = firstN l 277 0 := Classical.byContradiction fun hc => h2 hc
  have h3' : bitsP (valsT l 258) = true := by simpa using h3
  unfold firstN at *
  cases hv : valsT l 258 with
  | nil => rw [hv] at h2'; simp at h2'; omega
  | cons a r =>
    rw [hv] at h3'
    unfold bitsP at h3'
    have := List.all_eq_true.1 h3' a (by simp)
    unfold okB at this
    simp at this
    simpa using this
theorem sizeP_ok {l : List Tg} (h : sizeP l = true) : ∃ n, (valsT l 273).length = n ∧ (valsT l 279).length = n ∧ n ≤ 256 ∧ 1 ≤ firstN l 256 0 ∧ firstN l 256 0 ≤ 256 ∧ 1 ≤ firstN l 257 0 ∧ firstN l 257 0 ≤ 256 ∧ 1 ≤ firstN l 278 (firstN l 257 0) ∧ (∀ k, k < n → k * firstN l 278 (firstN l 257 0) < firstN l 257 0) ∧ firstN l 257 0 ≤ n * firstN l 278 (firstN l 257 0) := by
  unfold sizeP at h
  split at h
  · cases h
  split at h
  · cases h
  rename_i h1 h2
  simp only [Bool.and_eq_true, decide_eq_true_eq] at h
  obtain ⟨h3, h4⟩ := h
  generalize firstN l 278 (firstN l 257 0) = r at *
  generalize firstN l 257 0 = H at *
  generalize firstN l 256 0 = W at *
  have hm := Nat.div_add_mod (H + r - 1) r
  have hl := Nat.mod_lt (H + r - 1) (show 0 < r by omega)
  generalize hn : (H + r - 1) / r = n at *
  have hk : ∀ k, k < n → k * r < H := fun k hk => by
    have : (k + 1) * r ≤ n * r := Nat.mul_le_mul_right r hk
    rw [Nat.succ_mul] at this
    rw [Nat.mul_comm r n] at hm
    omega
  refine ⟨n, h3, h4, ?_, by omega, by omega, by omega, by omega, by omega, hk, ?_⟩
  · rcases Nat.lt_or_ge 256 n with h | h
    · have h5 := hk 256 h
      have : 256 * 1 ≤ 256 * r := Nat.mul_le_mul_left 256 (by omega)
      omega
    · exact h
  · rw [Nat.mul_comm r n] at hm
    omega
theorem stripP_len {H : Hd} {s : List UInt8} {k a z : Nat} {u : List UInt8} (h : stripP H s k a z = .ok u) : u.length = needN H k := by
  unfold stripP at h
  split at h
  · cases h
  split at h
  · cases h
  split at h
  · cases h
  split at h
  · cases h
  · injection h with h
    subst h
    omega
/-- The rows of the strips before strip k. -/
def rowsN (H : Hd) : Nat → Nat
  | 0 => 0
  | k + 1 => rowsN H k + min H.rows (H.h - k * H.rows)
theorem rowsN_eq (H : Hd) (k : Nat) : rowsN H k = min H.h (k * H.rows) := by
  induction k with
  | zero => simp [rowsN]
  | succ k ih =>
    rw [rowsN, ih, Nat.succ_mul]
    omega
theorem stripsG_len {H : Hd} {s : List UInt8} {ps zs : List Nat} {n k : Nat} {out d : List UInt8} (h : stripsG H s ps zs n k out = .ok d) (ho : out.length = rowsN H k * H.w * H.samples * H.bytes) : d.length = rowsN H (k + n) * H.w * H.samples * H.bytes := by
  induction n generalizing k out with
  | zero => unfold stripsG at h; injection h with h; rw [← h]; exact ho
  | succ n ih =>
    unfold stripsG at h
    split at h
    · cases h
    · rename_i u hu
      have h1 := stripP_len hu
      have h2 := ih h (by
        rw [List.length_append, ho, h1, rowsN]
        unfold needN
        rw [Nat.add_mul, Nat.add_mul, Nat.add_mul])
      rw [h2, show k + 1 + n = k + (n + 1) by omega]
def chunkT (size : Nat) (d : List UInt8) (k : Nat) : List UInt8 := (d.drop (k * size)).take size
def metT (l : List Tg) : List Mt := if ((findT l 270).getD tag0).ty = 2 then (match parP ((findT l 270).getD tag0).text with | .ok ms => ms | .error _ => []) else []
def noneT (l : List Tg) : Bool := [256, 257, 258, 262, 273, 277, 279].any fun i => (valsT l i).length == 0
abbrev DResT := Except Nat (Nat × Nat × List Px × List Mt)
/-- The image and the metadata of a file, or the error. -/
def decT (s : List UInt8) : DResT :=
  match tagsP s with
  | .error e => .error e
  | .ok l =>
    if noneT l = true then .error 9
    else if kindP l = false then .error 8
    else if sizeP l = false then .error 15
    else match stripsG (hdT l (bigP s)) s (valsT l 273) (valsT l 279) (valsT l 273).length 0 [] with
    | .error e => .error e
    | .ok d => .ok (firstN l 256 0, firstN l 257 0, (List.range (firstN l 256 0 * firstN l 257 0)).map (fun k => pixP (hdT l (bigP s)) (chunkT (firstN l 277 0 * (firstN l 258 0 / 8)) d k)), metT l)
def errT (k : Nat) : Value := .tuple #[.agg img0, .slice none 0 0, .int .i64 k]
/-- What Decode answers. -/
def DecOkT (r : DResT) (e : Ending) (w : World) : Prop :=
  match r with
  | .error k => e = .returned (errT k)
  | .ok (a, b, px, ms) => ∃ pv mv, e = .returned (.tuple #[.agg (imgC a b pv), mv, .int .i64 0]) ∧ PRow w pv px ∧ MRow w mv ms
/-- The first i of n pixels are f's. -/
def fillT (f : Nat → Px) (n i : Nat) : List Px := (List.range i).map f ++ List.replicate (n - i) (0, 0, 0, 0)
theorem fillT_zero (f : Nat → Px) (n : Nat) : fillT f n 0 = List.replicate n (0, 0, 0, 0) := by simp [fillT]
theorem fillT_len (f : Nat → Px) (n i : Nat) (h : i ≤ n) : (fillT f n i).length = n := by simp [fillT]; omega
theorem fillT_step (f : Nat → Px) (n i : Nat) (h : i < n) : (fillT f n i).set i (f i) = fillT f n (i + 1) := by
  unfold fillT
  obtain ⟨m, hm⟩ : ∃ m, n - i = m + 1 := ⟨n - i - 1, by omega⟩
  have hm2 : n - (i + 1) = m := by omega
  have hl : ((List.range i).map f).length = i := by simp
  rw [hm, hm2, List.set_append_right i (f i) (by omega), hl, Nat.sub_self, List.replicate_succ, List.set_cons_zero, List.range_succ, List.map_append, List.append_assoc]
  rfl
theorem fillT_all (f : Nat → Px) (n : Nat) : fillT f n n = (List.range n).map f := by simp [fillT]
end Go.Proofs.Ytakileiomgaahaa
