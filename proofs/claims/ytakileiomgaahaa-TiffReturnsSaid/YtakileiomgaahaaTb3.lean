/-
  Plain: the file of an image is read back: the tags.
-/
import Derived.Test.YtakileiomgaahaaTb2
namespace Go.Proofs.Ytakileiomgaahaa
open Go.RowKit

/-- The first bytes of a file. -/
def headE (big : Bool) (T : Nat) : List UInt8 := (if big then [77, 77] else [73, 73]) ++ litE big 42 2 ++ litE big 8 4 ++ litE big T 2
theorem headE_len (big : Bool) (T : Nat) : (headE big T).length = 10 := by unfold headE; simp [litE_len]; split <;> rfl
theorem tagsP_head {big : Bool} {s : List UInt8} {T : Nat} (h : At s 0 (headE big T)) (hT : T ≤ 256) (hl : 10 + 12 * T ≤ s.length) : tagsP s = tagsG big s T 10 (-1) [] := by
  unfold headE at h
  have h2 : s.take 2 = (if big then [77, 77] else [73, 73]) := by
    have := h.left.left.left
    unfold At at this
    cases big <;> exact this
  have hm : ((if big then [77, 77] else [73, 73] : List UInt8)).length = 2 := by cases big <;> rfl
  have hb : bigP s = big := by unfold bigP; rw [h2]; cases big <;> decide
  have k2 : nAt big s 2 2 = 42 := (h.left.left.rightn hm rfl).num (by decide)
  have k4 : nAt big s 4 4 = 8 := (h.left.rightn (n := 4) (by simp [litE_len, hm]) rfl).num (by decide)
  have k8 : nAt big s 8 2 = T := (h.rightn (n := 8) (by simp [litE_len, hm]) rfl).num (by omega)
  unfold tagsP
  rw [hb, k2, k4, k8, h2, if_neg (by omega), if_neg (by cases big <;> decide), if_neg (by omega), if_neg (by omega), if_neg (by omega)]
theorem tagB_eq (id ty n v : Nat) : tagB id ty n v = tagE false id ty n (litE false v 4) := rfl
theorem tagB_short (id v : Nat) : tagB id 3 1 v = tagE false id 3 1 (litE false v 2 ++ [UInt8.ofNat (v / 2 ^ 16 % 256), UInt8.ofNat (v / 2 ^ 24 % 256)]) := rfl
theorem head_eq {T : Nat} (h : T = 10 ∨ T = 11) : ([73, 73] ++ [42, 0, 8, 0, 0, 0, UInt8.ofNat T, 0] : List UInt8) = headE false T := by
  rcases h with rfl | rfl <;> decide
theorem textP_size {ms : List Mt} (hc : chkP ms = 0) (hne : ms ≠ []) : 4 ≤ (textP ms).length ∧ (textP ms).length ≤ 4640 := by
  obtain ⟨hl, ha⟩ := (chkP_zero ms).1 hc
  have hg := asc_get ms ha
  refine ⟨?_, Nat.le_trans (textP_len ms hg) (Nat.mul_le_mul_right 290 hl)⟩
  match ms, hne with
  | m :: r, _ =>
    have h1 := hg m (by simp)
    have k1 : 1 ≤ m.1.length := by
      have := h1.1; simp only [isK, okTxt, Bool.and_eq_true, decide_eq_true_eq] at this; exact this.1.1
    have k2 : 1 ≤ m.2.length := by
      have := h1.2; simp only [isV, okTxt, Bool.and_eq_true, decide_eq_true_eq] at this; exact this.1.1
    show 4 ≤ (lineP m ++ textP r).length
    unfold lineP
    simp only [List.length_append, List.length_cons, List.length_nil]
    omega
/-- The tags of an image's file. -/
def tagsL (W H D : Nat) (pk : Bool) (ms : List Mt) (n : Nat) : List Tg :=
  [⟨256, 4, [W], []⟩, ⟨257, 4, [H], []⟩, ⟨258, 3, [D, D, D, D], []⟩, ⟨259, 3, [compT pk], []⟩, ⟨262, 3, [2], []⟩] ++ (if ms = [] then [] else [⟨270, 2, [], textP ms⟩])
    ++ [⟨273, 4, [22 + 12 * tagsT ms + (txtT ms).length], []⟩, ⟨277, 3, [4], []⟩, ⟨278, 4, [H], []⟩, ⟨279, 4, [n], []⟩, ⟨338, 3, [2], []⟩]
theorem fileT_tags {W H D : Nat} {pk : Bool} {ms : List Mt} {px : List Px} (hW : W ≤ 256) (hH : H ≤ 256) (hD : D = 8 ∨ D = 16) (hc : chkP ms = 0) :
    tagsP (fileT W H D pk ms px) = .ok (tagsL W H D pk ms (rowsB D pk W px H).length) ∧ At (fileT W H D pk ms px) (22 + 12 * tagsT ms + (txtT ms).length) (rowsB D pk W px H) ∧ (fileT W H D pk ms px).length = 22 + 12 * tagsT ms + (txtT ms).length + (rowsB D pk W px H).length := by
  have hR := rowsB_bound hD hW pk px H
  have hcp : compT pk < 65536 := by unfold compT; split <;> decide
  have h := At.self (fileT W H D pk ms px)
  have hlen : (fileT W H D pk ms px).length = 22 + 12 * tagsT ms + (txtT ms).length + (rowsB D pk W px H).length := by
    unfold fileT
    simp only [List.length_append, tagB_len, litB_len, List.length_cons, List.length_nil]
    by_cases hms : ms = []
    · simp [tagsT, hms]
    · simp [tagsT, hms, tagB_len]
  generalize hs : fileT W H D pk ms px = s at h hlen ⊢
  have h : At s 0 (fileT W H D pk ms px) := by rw [hs]; exact h
  unfold fileT at h
  generalize rowsB D pk W px H = R at *
  clear hs
  by_cases hms : ms = []
  · have hT : tagsT ms = 10 := by unfold tagsT; rw [if_pos hms]
    have hX : txtT ms = [] := by unfold txtT; rw [if_pos hms]
    unfold tagsL
    rw [hT, hX] at h hlen ⊢
    rw [if_pos hms] at h ⊢
    simp only [List.append_nil, List.length_nil, Nat.add_zero] at h hlen ⊢
    rw [head_eq (.inl rfl)] at h
    have q : ∀ {x y : List UInt8} {n : Nat}, At s 0 (x ++ y) → x.length = n → At s n y := fun h hn => h.rightn hn (by omega)
    have aR := q h (n := 142) (by simp only [List.length_append, tagB_len, litB_len, headE_len])
    have hd := h.left
    have t0 := hd.left.left.left.left.left
    have aD : At s 134 (litE false D 2 ++ litE false D 2 ++ litE false D 2 ++ litE false D 2) := by
      have e : headE false 10 ++ tagB 256 4 1 W ++ tagB 257 4 1 H ++ tagB 258 3 4 (14 + 12 * 10) ++ tagB 259 3 1 (compT pk) ++ tagB 262 3 1 2 ++ tagB 273 4 1 (22 + 12 * 10) ++ tagB 277 3 1 4 ++ tagB 278 4 1 H ++ tagB 279 4 1 R.length ++ tagB 338 3 1 2 ++ litB 0 4 ++ litB D 2 ++ litB D 2 ++ litB D 2 ++ litB D 2 = (headE false 10 ++ tagB 256 4 1 W ++ tagB 257 4 1 H ++ tagB 258 3 4 (14 + 12 * 10) ++ tagB 259 3 1 (compT pk) ++ tagB 262 3 1 2 ++ tagB 273 4 1 (22 + 12 * 10) ++ tagB 277 3 1 4 ++ tagB 278 4 1 H ++ tagB 279 4 1 R.length ++ tagB 338 3 1 2 ++ litB 0 4) ++ (litB D 2 ++ litB D 2 ++ litB D 2 ++ litB D 2) := by simp only [List.append_assoc]
      rw [e] at hd
      exact q hd (by simp only [List.length_append, tagB_len, litB_len, headE_len])
    have b10 := q t0 (n := 118 + 0) (by simp only [List.length_append, tagB_len, headE_len])
    have b9 := q t0.left (n := 106) (by simp only [List.length_append, tagB_len, headE_len])
    have b8 := q t0.left.left (n := 94) (by simp only [List.length_append, tagB_len, headE_len])
    have b7 := q t0.left.left.left (n := 82) (by simp only [List.length_append, tagB_len, headE_len])
    have b6 := q t0.left.left.left.left (n := 70) (by simp only [List.length_append, tagB_len, headE_len])
    have b5 := q t0.left.left.left.left.left (n := 58) (by simp only [List.length_append, tagB_len, headE_len])
    have b4 := q t0.left.left.left.left.left.left (n := 46) (by simp only [List.length_append, tagB_len, headE_len])
    have b3 := q t0.left.left.left.left.left.left.left (n := 34) (by simp only [List.length_append, tagB_len, headE_len])
    have b2 := q t0.left.left.left.left.left.left.left.left (n := 22) (by simp only [List.length_append, tagB_len, headE_len])
    have b1 := q t0.left.left.left.left.left.left.left.left.left (n := 10) (by simp only [headE_len])
    have b0 := t0.left.left.left.left.left.left.left.left.left.left
    have c1 := tagP_long (big := false) (id := 256) (v := W) b1 (by decide) (by omega)
    have c2 := tagP_long (big := false) (id := 257) (v := H) b2 (by decide) (by omega)
    have c3 := tagP_four (big := false) (id := 258) (at_ := 14 + 12 * 10) b3 (by decide) (by decide) aD (by omega) (by omega) (by omega) (by omega)
    rw [tagB_short] at b4 b5 b7 b10
    have c4 := tagP_short (big := false) (id := 259) b4 (by decide) hcp
    have c5 := tagP_short (big := false) (id := 262) b5 (by decide) (by decide)
    have c6 := tagP_long (big := false) (id := 273) (v := 22 + 12 * 10) b6 (by decide) (by decide)
    have c7 := tagP_short (big := false) (id := 277) b7 (by decide) (by decide)
    have c8 := tagP_long (big := false) (id := 278) (v := H) b8 (by decide) (by omega)
    have c9 := tagP_long (big := false) (id := 279) (v := R.length) b9 (by decide) (by omega)
    have c10 := tagP_short (big := false) (id := 338) b10 (by decide) (by decide)
    refine ⟨?_, aR, hlen⟩
    rw [tagsP_head b0 (by decide) (by omega), tagsG_step c1 (by simp only; omega), tagsG_step c2 (by simp only; omega), tagsG_step c3 (by simp only; omega), tagsG_step c4 (by simp only; omega), tagsG_step c5 (by simp only; omega), tagsG_step c6 (by simp only; omega), tagsG_step c7 (by simp only; omega), tagsG_step c8 (by simp only; omega), tagsG_step c9 (by simp only; omega), tagsG_step c10 (by simp only; omega), tagsG]
    rfl
  · have hT : tagsT ms = 11 := by unfold tagsT; rw [if_neg hms]
    have hX : txtT ms = textP ms ++ [0] := by unfold txtT; rw [if_neg hms]
    obtain ⟨hx1, hx2⟩ := textP_size hc hms
    unfold tagsL
    rw [hT, hX] at h hlen ⊢
    rw [if_neg hms] at h ⊢
    generalize textP ms = X at *
    have hXl : (X ++ [0]).length = X.length + 1 := by simp
    rw [hXl] at h hlen ⊢
    rw [head_eq (.inr rfl)] at h
    have q : ∀ {x y : List UInt8} {n : Nat}, At s 0 (x ++ y) → x.length = n → At s n y := fun h hn => h.rightn hn (by omega)
    have aR := q h (n := 22 + 12 * 11 + (X.length + 1)) (by simp only [List.length_append, tagB_len, litB_len, headE_len, List.length_singleton])
    have hd0 := h.left
    have aX := q hd0 (n := 22 + 12 * 11) (by simp only [List.length_append, tagB_len, litB_len, headE_len])
    have hd := hd0.left
    have t0 := hd.left.left.left.left.left
    have aD : At s 146 (litE false D 2 ++ litE false D 2 ++ litE false D 2 ++ litE false D 2) := by
      have e : headE false 11 ++ tagB 256 4 1 W ++ tagB 257 4 1 H ++ tagB 258 3 4 (14 + 12 * 11) ++ tagB 259 3 1 (compT pk) ++ tagB 262 3 1 2 ++ tagB 270 2 (X.length + 1) (22 + 12 * 11) ++ tagB 273 4 1 (22 + 12 * 11 + (X.length + 1)) ++ tagB 277 3 1 4 ++ tagB 278 4 1 H ++ tagB 279 4 1 R.length ++ tagB 338 3 1 2 ++ litB 0 4 ++ litB D 2 ++ litB D 2 ++ litB D 2 ++ litB D 2 = (headE false 11 ++ tagB 256 4 1 W ++ tagB 257 4 1 H ++ tagB 258 3 4 (14 + 12 * 11) ++ tagB 259 3 1 (compT pk) ++ tagB 262 3 1 2 ++ tagB 270 2 (X.length + 1) (22 + 12 * 11) ++ tagB 273 4 1 (22 + 12 * 11 + (X.length + 1)) ++ tagB 277 3 1 4 ++ tagB 278 4 1 H ++ tagB 279 4 1 R.length ++ tagB 338 3 1 2 ++ litB 0 4) ++ (litB D 2 ++ litB D 2 ++ litB D 2 ++ litB D 2) := by simp only [List.append_assoc]
      rw [e] at hd
      exact q hd (by simp only [List.length_append, tagB_len, litB_len, headE_len])
    have b11 := q t0 (n := 130) (by simp only [List.length_append, tagB_len, headE_len])
    have b10 := q t0.left (n := 118) (by simp only [List.length_append, tagB_len, headE_len])
    have b9 := q t0.left.left (n := 106) (by simp only [List.length_append, tagB_len, headE_len])
    have b8 := q t0.left.left.left (n := 94) (by simp only [List.length_append, tagB_len, headE_len])
    have b7 := q t0.left.left.left.left (n := 82) (by simp only [List.length_append, tagB_len, headE_len])
    have b6 := q t0.left.left.left.left.left (n := 70) (by simp only [List.length_append, tagB_len, headE_len])
    have b5 := q t0.left.left.left.left.left.left (n := 58) (by simp only [List.length_append, tagB_len, headE_len])
    have b4 := q t0.left.left.left.left.left.left.left (n := 46) (by simp only [List.length_append, tagB_len, headE_len])
    have b3 := q t0.left.left.left.left.left.left.left.left (n := 34) (by simp only [List.length_append, tagB_len, headE_len])
    have b2 := q t0.left.left.left.left.left.left.left.left.left (n := 22) (by simp only [List.length_append, tagB_len, headE_len])
    have b1 := q t0.left.left.left.left.left.left.left.left.left.left (n := 10) (by simp only [headE_len])
    have b0 := t0.left.left.left.left.left.left.left.left.left.left.left
    have c1 := tagP_long (big := false) (id := 256) (v := W) b1 (by decide) (by omega)
    have c2 := tagP_long (big := false) (id := 257) (v := H) b2 (by decide) (by omega)
    have c3 := tagP_four (big := false) (id := 258) (at_ := 14 + 12 * 11) b3 (by decide) (by decide) aD (by omega) (by omega) (by omega) (by omega)
    rw [tagB_short] at b4 b5 b8 b11
    have c4 := tagP_short (big := false) (id := 259) b4 (by decide) hcp
    have c5 := tagP_short (big := false) (id := 262) b5 (by decide) (by decide)
    have c6 := tagP_text (big := false) (id := 270) (at_ := 22 + 12 * 11) b6 (by decide) (by decide) hx1 (by omega) aX
    have c7 := tagP_long (big := false) (id := 273) (v := 22 + 12 * 11 + (X.length + 1)) b7 (by decide) (by omega)
    have c8 := tagP_short (big := false) (id := 277) b8 (by decide) (by decide)
    have c9 := tagP_long (big := false) (id := 278) (v := H) b9 (by decide) (by omega)
    have c10 := tagP_long (big := false) (id := 279) (v := R.length) b10 (by decide) (by omega)
    have c11 := tagP_short (big := false) (id := 338) b11 (by decide) (by decide)
    refine ⟨?_, aR, hlen⟩
    rw [tagsP_head b0 (by decide) (by omega), tagsG_step c1 (by simp only; omega), tagsG_step c2 (by simp only; omega), tagsG_step c3 (by simp only; omega), tagsG_step c4 (by simp only; omega), tagsG_step c5 (by simp only; omega), tagsG_step c6 (by simp only; omega), tagsG_step c7 (by simp only; omega), tagsG_step c8 (by simp only; omega), tagsG_step c9 (by simp only; omega), tagsG_step c10 (by simp only; omega), tagsG_step c11 (by simp only; omega), tagsG]
    rfl
end Go.Proofs.Ytakileiomgaahaa
