/-
  Plain: the file of an image is read back.
-/
import Derived.Test.YtakileiomgaahaaTb2
namespace Go.Proofs.Ytakileiomgaahaa
open Go.RowKit

/-- The first bytes of a file. -/
def headE (big : Bool) (T : Nat) : List UInt8 := (if big then [77, 77] else [73, 73]) ++ litE big 42 2 ++ litE big 8 4 ++ litE big T 2
theorem headE_len (big : Bool) (T : Nat) : (headE big T).length = 10 := by unfold headE; simp [litE_len]; split <;> rfl
theorem tagsP_head {big : Bool} {s : List UInt8} {T : Nat} (h : At s 0 (headE big T)) (hT : T ≤ 256) (hl : 10 + 12 * T ≤ s.length) : tagsP s = tagsG big s T 10 (-1) [] := by
  unfold headE at h
  have h2 : s.take 2 = (if big then [77, 77] else [73, 73]) := by
    have := h.left.left.left
    unfold At at this
    cases big <;> exact this
  have hm : ((if big then [77, 77] else [73, 73] : List UInt8)).length = 2 := by cases big <;> rfl
  have hb : bigP s = big := by unfold bigP; rw [h2]; cases big <;> decide
  have k2 : nAt big s 2 2 = 42 := (h.left.left.rightn hm rfl).num (by decide)
  have k4 : nAt big s 4 4 = 8 := (h.left.rightn (n := 4) (by simp [litE_len, hm]) rfl).num (by decide)
  have k8 : nAt big s 8 2 = T := (h.rightn (n := 8) (by simp [litE_len, hm]) rfl).num (by omega)
  unfold tagsP
  rw [hb, k2, k4, k8, h2, if_neg (by omega), if_neg (by cases big <;> decide), if_neg (by omega), if_neg (by omega), if_neg (by omega)]
theorem tagB_eq (id ty n v : Nat) : tagB id ty n v = tagE false id ty n (litE false v 4) := rfl
theorem tagB_short (id v : Nat) : tagB id 3 1 v = tagE false id 3 1 (litE false v 2 ++ [UInt8.ofNat (v / 2 ^ 16 % 256), UInt8.ofNat (v / 2 ^ 24 % 256)]) := rfl
theorem head_eq {T : Nat} (h : T = 10 ∨ T = 11) : ([73, 73] ++ [42, 0, 8, 0, 0, 0, UInt8.ofNat T, 0] : List UInt8) = headE false T := by
  rcases h with rfl | rfl <;> decide
theorem textP_size {ms : List Mt} (hc : chkP ms = 0) (hne : ms ≠ []) : 4 ≤ (textP ms).length ∧ (textP ms).length ≤ 4640 := by
  obtain ⟨hl, ha⟩ := (chkP_zero ms).1 hc
  have hg := asc_get ms ha
  refine ⟨?_, Nat.le_trans (textP_len ms hg) (Nat.mul_le_mul_right 290 hl)⟩
  match ms, hne with
  | m :: r, _ =>
    have h1 := hg m (by simp)
    have k1 : 1 ≤ m.1.length := by
      have := h1.1; simp only [isK, okTxt, Bool.and_eq_true, decide_eq_true_eq] at this; exact this.1.1
    have k2 : 1 ≤ m.2.length := by
      have := h1.2; simp only [isV, okTxt, Bool.and_eq_true, decide_eq_true_eq] at this; exact this.1.1
    show 4 ≤ (lineP m ++ textP r).length
    unfold lineP
    simp only [List.length_append, List.length_cons, List.length_nil]
    omega
/-- The tags of an image's file. -/
def tagsL (W H D : Nat) (pk : Bool) (ms : List Mt) (n : Nat) : List Tg :=
  [⟨256, 4, [W], []⟩, ⟨257, 4, [H], []⟩, ⟨258, 3, [D, D, D, D], []⟩, ⟨259, 3, [compT pk], []⟩, ⟨262, 3, [2], []⟩] ++ (if ms = [] then [] else [⟨270, 2, [], textP ms⟩])
    ++ [⟨273, 4, [22 + 12 * tagsT ms + (txtT ms).length], []⟩, ⟨277, 3, [4], []⟩, ⟨278, 4, [H], []⟩, ⟨279, 4, [n], []⟩, ⟨338, 3, [2], []⟩]
theorem fileT_tags {W H D : Nat} {pk : Bool} {ms : List Mt} {px : List Px} (hW : W ≤ 256) (hH : H ≤ 256) (hD : D = 8 ∨ D = 16) (hc : chkP ms = 0) :
    tagsP (fileT W H D pk ms px) = .ok (tagsL W H D pk ms (rowsB D pk W px H).length) ∧ At (fileT W H D pk ms px) (22 + 12 * tagsT ms + (txtT ms).length) (rowsB D pk W px H) ∧ (fileT W H D pk ms px).length = 22 + 12 * tagsT ms + (txtT ms).length + (rowsB D pk W px H).length := by
  have hR := rowsB_bound hD hW pk px H
  have hcp : compT pk < 65536 := by unfold compT; split <;> decide
  have h := At.self (fileT W H D pk ms px)
  have hlen : (fileT W H D pk ms px).length = 22 + 12 * tagsT ms + (txtT ms).length + (rowsB D pk W px H).length := by
    unfold fileT
    simp only [List.length_append, tagB_len, litB_len, List.length_cons, List.length_nil]
    by_cases hms : ms = []
    · simp [tagsT, hms]
    · simp [tagsT, hms, tagB_len]
  generalize hs : fileT W H D pk ms px = s at h hlen ⊢
  have h : At s 0 (fileT W H D pk ms px) := by rw [hs]; exact h
  unfold fileT at h
  generalize rowsB D pk W px H = R at *
  clear hs
  by_cases hms : ms = []
  · have hT : tagsT ms = 10 := by unfold tagsT; rw [if_pos hms]
    have hX : txtT ms = [] := by unfold txtT; rw [if_pos hms]
    unfold tagsL
    rw [hT, hX] at h hlen ⊢
    rw [if_pos hms] at h ⊢
    simp only [List.append_nil, List.length_nil, Nat.add_zero] at h hlen ⊢
    rw [head_eq (.inl rfl)] at h
    have q : ∀ {x y : List UInt8} {n : Nat}, At s 0 (x ++ y) → x.length = n → At s n y := fun h hn => h.rightn hn (by omega)
    have aR := q h (n := 142) (by simp only [List.length_append, tagB_len, litB_len, headE_len])
    have hd := h.left
    have t0 := hd.left.left.left.left.left
    have aD : At s 134 (litE false D 2 ++ litE false D 2 ++ litE false D 2 ++ litE false D 2) := by
      have e : headE false 10 ++ tagB 256 4 1 W ++ tagB 257 4 1 H ++ tagB 258 3 4 (14 + 12 * 10) ++ tagB 259 3 1 (compT pk) ++ tagB 262 3 1 2 ++ tagB 273 4 1 (22 + 12 * 10) ++ tagB 277 3 1 4 ++ tagB 278 4 1 H ++ tagB 279 4 1 R.length ++ tagB 338 3 1 2 ++ litB 0 4 ++ litB D 2 ++ litB D 2 ++ litB D 2 ++ litB D 2 = (headE false 10 ++ tagB 256 4 1 W ++ tagB 257 4 1 H ++ tagB 258 3 4 (14 + 12 * 10) ++ tagB 259 3 1 (compT pk) ++ tagB 262 3 1 2 ++ tagB 273 4 1 (22 + 12 * 10) ++ tagB 277 3 1 4 ++ tagB 278 4 1 H ++ tagB 279 4 1 R.length ++ tagB 338 3 1 2 ++ litB 0 4) ++ (litB D 2 ++ litB D 2 ++ litB D 2 ++ litB D 2) := by simp only [List.append_assoc]
      rw [e] at hd
      exact q hd (by simp only [List.length_append, tagB_len, litB_len, headE_len])
    have b10 := q t0 (n := 118 + 0) (by simp only [List.length_append, tagB_len, headE_len])
    have b9 := q t0.left (n := 106) (by simp only [List.length_append, tagB_len, headE_len])
    have b8 := q t0.left.left (n := 94) (by simp only [List.length_append, tagB_len, headE_len])
    have b7 := q t0.left.left.left (n := 82) (by simp only [List.length_append, tagB_len, headE_len])
    have b6 := q t0.left.left.left.left (n := 70) (by simp only [List.length_append, tagB_len, headE_len])
    have b5 := q t0.left.left.left.left.left (n := 58) (by simp only [List.length_append, tagB_len, headE_len])
    have b4 := q t0.left.left.left.left.left.left (n := 46) (by simp only [List.length_append, tagB_len, headE_len])
    have b3 := q t0.left.left.left.left.left.left.left (n := 34) (by simp only [List.length_append, tagB_len, headE_len])
    have b2 := q t0.left.left.left.left.left.left.left.left (n := 22) (by simp only [List.length_append, tagB_len, headE_len])
    have b1 := q t0.left.left.left.left.left.left.left.left.left (n := 10) (by simp only [headE_len])
    have b0 := t0.left.left.left.left.left.left.left.left.left.left
    have c1 := tagP_long (big := false) (id := 256) (v := W) b1 (by decide) (by omega)
    have c2 := tagP_long (big := false) (id := 257) (v := H) b2 (by decide) (by omega)
    have c3 := tagP_four (big := false) (id := 258) (at_ := 14 + 12 * 10) b3 (by decide) (by decide) aD (by omega) (by omega) (by omega) (by omega)
    rw [tagB_short] at b4 b5 b7 b10
    have c4 := tagP_short (big := false) (id := 259) b4 (by decide) hcp
    have c5 := tagP_short (big := false) (id := 262) b5 (by decide) (by decide)
    have c6 := tagP_long (big := false) (id := 273) (v := 22 + 12 * 10) b6 (by decide) (by decide)
    have c7 := tagP_short (big := false) (id := 277) b7 (by decide) (by decide)
    have c8 := tagP_long (big := false) (id := 278) (v := H) b8 (by decide) (by omega)
    have c9 := tagP_long (big := false) (id := 279) (v := R.length) b9 (by decide) (by omega)
    have c10 := tagP_short (big := false) (id := 338) b10 (by decide) (by decide)
    refine ⟨?_, aR, hlen⟩
    rw [tagsP_head b0 (by decide) (by omega), tagsG_step c1 (by simp only; omega), tagsG_step c2 (by simp only; omega), tagsG_step c3 (by simp only; omega), tagsG_step c4 (by simp only; omega), tagsG_step c5 (by simp only; omega), tagsG_step c6 (by simp only; omega), tagsG_step c7 (by simp only; omega), tagsG_step c8 (by simp only; omega), tagsG_step c9 (by simp only; omega), tagsG_step c10 (by simp only; omega), tagsG]
    rfl
  · have hT : tagsT ms = 11 := by unfold tagsT; rw [if_neg hms]
    have hX : txtT ms = textP ms ++ [0] := by unfold txtT; rw [if_neg hms]
    obtain ⟨hx1, hx2⟩ := textP_size hc hms
    unfold tagsL
    rw [hT, hX] at h hlen ⊢
    rw [if_neg hms] at h ⊢
    generalize textP ms = X at *
    have hXl : (X ++ [0]).length = X.length + 1 := by simp
    rw [hXl] at h hlen ⊢
    rw [head_eq (.inr rfl)] at h
    have q : ∀ {x y : List UInt8} {n : Nat}, At s 0 (x ++ y) → x.length = n → At s n y := fun h hn => h.rightn hn (by omega)
    have aR := q h (n := 22 + 12 * 11 + (X.length + 1)) (by simp only [List.length_append, tagB_len, litB_len, headE_len, List.length_singleton])
    have hd0 := h.left
    have aX := q hd0 (n := 22 + 12 * 11) (by simp only [List.length_append, tagB_len, litB_len, headE_len])
    have hd := hd0.left
    have t0 := hd.left.left.left.left.left
    have aD : At s 146 (litE false D 2 ++ litE false D 2 ++ litE false D 2 ++ litE false D 2) := by
      have e : headE false 11 ++ tagB 256 4 1 W ++ tagB 257 4 1 H ++ tagB 258 3 4 (14 + 12 * 11) ++ tagB 259 3 1 (compT pk) ++ tagB 262 3 1 2 ++ tagB 270 2 (X.length + 1) (22 + 12 * 11) ++ tagB 273 4 1 (22 + 12 * 11 + (X.length + 1)) ++ tagB 277 3 1 4 ++ tagB 278 4 1 H ++ tagB 279 4 1 R.length ++ tagB 338 3 1 2 ++ litB 0 4 ++ litB D 2 ++ litB D 2 ++ litB D 2 ++ litB D 2 = (headE false 11 ++ tagB 256 4 1 W ++ tagB 257 4 1 H ++ tagB 258 3 4 (14 + 12 * 11) ++ tagB 259 3 1 (compT pk) ++ tagB 262 3 1 2 ++ tagB 270 2 (X.length + 1) (22 + 12 * 11) ++ tagB 273 4 1 (22 + 12 * 11 + (X.length + 1)) ++ tagB 277 3 1 4 ++ tagB 278 4 1 H ++ tagB 279 4 1 R.length ++ tagB 338 3 1 2 ++ litB 0 4) ++ (litB D 2 ++ litB D 2 ++ litB D 2 ++ litB D 2) := by simp only [List.append_assoc]
      rw [e] at hd
      exact q hd (by simp only [List.length_append, tagB_len, litB_len, headE_len])
    have b11 := q t0 (n := 130) (by simp only [List.length_append, tagB_len, headE_len])
    have b10 := q t0.left (n := 118) (by simp only [List.length_append, tagB_len, headE_len])
    have b9 := q t0.left.left (n := 106) (by simp only [List.length_append, tagB_len, headE_len])
    have b8 := q t0.left.left.left (n := 94) (by simp only [List.length_append, tagB_len, headE_len])
    have b7 := q t0.left.left.left.left (n := 82) (by simp only [List.length_append, tagB_len, headE_len])
    have b6 := q t0.left.left.left.left.left (n := 70) (by simp only [List.length_append, tagB_len, headE_len])
    have b5 := q t0.left.left.left.left.left.left (n := 58) (by simp only [List.length_append, tagB_len, headE_len])
    have b4 := q t0.left.left.left.left.left.left.left (n := 46) (by simp only [List.length_append, tagB_len, headE_len])
    have b3 := q t0.left.left.left.left.left.left.left.left (n := 34) (by simp only [List.length_append, tagB_len, headE_len])
    have b2 := q t0.left.left.left.left.left.left.left.left.left (n := 22) (by simp only [List.length_append, tagB_len, headE_len])
    have b1 := q t0.left.left.left.left.left.left.left.left.left.left (n := 10) (by simp only [headE_len])
    have b0 := t0.left.left.left.left.left.left.left.left.left.left.left
    have c1 := tagP_long (big := false) (id := 256) (v := W) b1 (by decide) (by omega)
    have c2 := tagP_long (big := false) (id := 257) (v := H) b2 (by decide) (by omega)
    have c3 := tagP_four (big := false) (id := 258) (at_ := 14 + 12 * 11) b3 (by decide) (by decide) aD (by omega) (by omega) (by omega) (by omega)
    rw [tagB_short] at b4 b5 b8 b11
    have c4 := tagP_short (big := false) (id := 259) b4 (by decide) hcp
    have c5 := tagP_short (big := false) (id := 262) b5 (by decide) (by decide)
    have c6 := tagP_text (big := false) (id := 270) (at_ := 22 + 12 * 11) b6 (by decide) (by decide) hx1 (by omega) aX
    have c7 := tagP_long (big := false) (id := 273) (v := 22 + 12 * 11 + (X.length + 1)) b7 (by decide) (by omega)
    have c8 := tagP_short (big := false) (id := 277) b8 (by decide) (by decide)
    have c9 := tagP_long (big := false) (id := 278) (v := H) b9 (by decide) (by omega)
    have c10 := tagP_long (big := false) (id := 279) (v := R.length) b10 (by decide) (by omega)
    have c11 := tagP_short (big := false) (id := 338) b11 (by decide) (by decide)
    refine ⟨?_, aR, hlen⟩
    rw [tagsP_head b0 (by decide) (by omega), tagsG_step c1 (by simp only; omega), tagsG_step c2 (by simp only; omega), tagsG_step c3 (by simp only; omega), tagsG_step c4 (by simp only; omega), tagsG_step c5 (by simp only; omega), tagsG_step c6 (by simp only; omega), tagsG_step c7 (by simp only; omega), tagsG_step c8 (by simp only; omega), tagsG_step c9 (by simp only; omega), tagsG_step c10 (by simp only; omega), tagsG_step c11 (by simp only; omega), tagsG]
    rfl
end Go.Proofs.Ytakileiomgaahaa
namespace Go.Proofs.Ytakileiomgaahaa
open Go.RowKit

theorem tagsL_vals (W H D : Nat) (pk : Bool) (ms : List Mt) (n : Nat) :
    valsT (tagsL W H D pk ms n) 256 = [W] ∧ valsT (tagsL W H D pk ms n) 257 = [H] ∧ valsT (tagsL W H D pk ms n) 258 = [D, D, D, D] ∧ valsT (tagsL W H D pk ms n) 259 = [compT pk] ∧ valsT (tagsL W H D pk ms n) 262 = [2] ∧ valsT (tagsL W H D pk ms n) 273 = [22 + 12 * tagsT ms + (txtT ms).length] ∧ valsT (tagsL W H D pk ms n) 277 = [4]
    ∧ valsT (tagsL W H D pk ms n) 278 = [H] ∧ valsT (tagsL W H D pk ms n) 279 = [n] ∧ valsT (tagsL W H D pk ms n) 284 = [] ∧ valsT (tagsL W H D pk ms n) 317 = [] ∧ valsT (tagsL W H D pk ms n) 338 = [2] := by
  unfold tagsL
  by_cases hms : ms = []
  · rw [if_pos hms]; exact ⟨rfl, rfl, rfl, rfl, rfl, rfl, rfl, rfl, rfl, rfl, rfl, rfl⟩
  · rw [if_neg hms]; exact ⟨rfl, rfl, rfl, rfl, rfl, rfl, rfl, rfl, rfl, rfl, rfl, rfl⟩
theorem tagsL_met (W H D : Nat) (pk : Bool) (ms : List Mt) (n : Nat) (hc : chkP ms = 0) : metT (tagsL W H D pk ms n) = ms := by
  by_cases hms : ms = []
  · have e : findT (tagsL W H D pk ms n) 270 = none := by unfold tagsL; rw [if_pos hms]; rfl
    unfold metT
    rw [e, hms]
    rfl
  · have e : findT (tagsL W H D pk ms n) 270 = some ⟨270, 2, [], textP ms⟩ := by unfold tagsL; rw [if_neg hms]; rfl
    unfold metT
    rw [e]
    simp only [Option.getD_some, if_true]
    rw [parP_text ms hc]
/-- What becomes of a pixel. -/
def backT (D : Nat) (p : Px) : Px := if D = 16 then p else if to8I p.2.2.2 = 0 then (0, 0, 0, 0) else (257 * to8I p.1, 257 * to8I p.2.1, 257 * to8I p.2.2.1, 257 * to8I p.2.2.2)
theorem vnat {p : Px} (h : valP p = true) : ∃ a b c d : Nat, p = ((a : Int), (b : Int), (c : Int), (d : Int)) ∧ a < 65536 ∧ b < 65536 ∧ c < 65536 ∧ d < 65536 := by
  obtain ⟨p1, p2, p3, p4⟩ := p
  simp only [valP, Bool.and_eq_true, beq_iff_eq] at h
  have r := fun x => uI_rng x
  have h1 := r p1; have h2 := r p2; have h3 := r p3; have h4 := r p4
  rw [h.1.1.1] at h1
  rw [h.1.1.2] at h2
  rw [h.1.2] at h3
  rw [h.2] at h4
  refine ⟨p1.toNat, p2.toNat, p3.toNat, p4.toNat, ?_, by omega, by omega, by omega, by omega⟩
  rw [Int.toNat_of_nonneg h1.1, Int.toNat_of_nonneg h2.1, Int.toNat_of_nonneg h3.1, Int.toNat_of_nonneg h4.1]
theorem byte8 (v : Int) : ((UInt8.ofNat (to8I v).toNat).toNat : Int) = to8I v := by
  have := to8I_rng v
  rw [UInt8.toNat_ofNat']
  omega
theorem pixP_back {H : Hd} {D : Nat} (hD : D = 8 ∨ D = 16) (hs : H.samples = 4) (hb : H.bytes = D / 8) (ha : H.alpha = 2) (hg : H.big = false) {p : Px} (hp : valP p = true) : pixP H (pxT D p) = backT D p := by
  unfold pixP
  rw [if_neg (by omega), if_neg (by omega), if_neg (by omega)]
  rcases hD with rfl | rfl
  · unfold backT
    rw [if_neg (by decide)]
    have hb1 : H.bytes = 1 := hb
    have e : ∀ c k, smpN H c k = 257 * nAt false c k 1 := fun c k => by unfold smpN; rw [if_pos hb1, hg]
    rw [e, e, e, e]
    unfold pxT
    rw [if_neg (by decide)]
    by_cases h0 : to8I p.2.2.2 = 0
    · rw [if_pos h0, if_pos h0]; rfl
    · rw [if_neg h0, if_neg h0]
      have f : ∀ v, smT 8 v = [UInt8.ofNat (to8I v).toNat] := fun v => by unfold smT; rw [if_neg (by decide)]
      rw [f, f, f, f]
      have z0 := byte8 p.1
      have z1 := byte8 p.2.1
      have z2 := byte8 p.2.2.1
      have z3 := byte8 p.2.2.2
      generalize UInt8.ofNat (to8I p.1).toNat = b0 at *
      generalize UInt8.ofNat (to8I p.2.1).toNat = b1 at *
      generalize UInt8.ofNat (to8I p.2.2.1).toNat = b2 at *
      generalize UInt8.ofNat (to8I p.2.2.2).toNat = b3 at *
      have g0 : nAt false ([b0] ++ [b1] ++ [b2] ++ [b3]) 0 1 = b0.toNat := rfl
      have g1 : nAt false ([b0] ++ [b1] ++ [b2] ++ [b3]) 1 1 = b1.toNat := rfl
      have g2 : nAt false ([b0] ++ [b1] ++ [b2] ++ [b3]) 2 1 = b2.toNat := rfl
      have g3 : nAt false ([b0] ++ [b1] ++ [b2] ++ [b3]) 3 1 = b3.toNat := rfl
      rw [g0, g1, g2, g3, ← z0, ← z1, ← z2, ← z3]
      simp only [Int.natCast_mul]
      rfl
  · obtain ⟨a, b, c, d, rfl, h1, h2, h3, h4⟩ := vnat hp
    unfold backT
    rw [if_pos rfl]
    have hb2 : H.bytes = 2 := hb
    have e : ∀ c k, smpN H c k = nAt false c (k * 2) 2 := fun c k => by unfold smpN; rw [if_neg (by omega), hg, hb2]
    rw [e, e, e, e]
    have f : ∀ v : Nat, smT 16 (v : Int) = litE false v 2 := fun v => by unfold smT; rw [if_pos rfl]; rfl
    have hx : pxT 16 ((a : Int), (b : Int), (c : Int), (d : Int)) = litE false a 2 ++ litE false b 2 ++ litE false c 2 ++ litE false d 2 := by unfold pxT; rw [if_pos rfl]; simp only [f]
    rw [hx]
    have h := At.self (litE false a 2 ++ litE false b 2 ++ litE false c 2 ++ litE false d 2)
    generalize hs' : litE false a 2 ++ litE false b 2 ++ litE false c 2 ++ litE false d 2 = s at h ⊢
    have h : At s 0 (litE false a 2 ++ litE false b 2 ++ litE false c 2 ++ litE false d 2) := by rw [hs']; exact h
    rw [h.left.left.left.num h1, (h.left.left.rightn (n := 2) (q := 1 * 2) (by simp [litE_len]) rfl).num h2, (h.left.rightn (n := 4) (q := 2 * 2) (by simp [litE_len]) rfl).num h3, (h.rightn (n := 6) (q := 3 * 2) (by simp [litE_len]) rfl).num h4]
theorem flat_chunk {α : Type} (f : α → List UInt8) (sz : Nat) : ∀ (l : List α) (k : Nat) (hk : k < l.length), (∀ a ∈ l, (f a).length = sz) → chunkT sz (l.flatMap f) k = f l[k]
  | [], k, hk, _ => absurd hk (by simp)
  | a :: l, 0, _, h => by
    unfold chunkT
    rw [Nat.zero_mul, List.drop_zero, List.flatMap_cons, ← h a (by simp), List.take_left]
    rfl
  | a :: l, k + 1, hk, h => by
    have ih := flat_chunk f sz l k (by simpa using hk) fun b hb => h b (by simp [hb])
    unfold chunkT at ih ⊢
    rw [List.flatMap_cons, Nat.add_mul, Nat.one_mul, Nat.add_comm, ← List.drop_drop]
    conv => lhs; rw [show (f a ++ l.flatMap f).drop sz = l.flatMap f from by rw [← h a (by simp), List.drop_left]]
    rw [ih]
    rfl
theorem fileT_big (W H D : Nat) (pk : Bool) (ms : List Mt) (px : List Px) : bigP (fileT W H D pk ms px) = false := by
  have h := At.self (fileT W H D pk ms px)
  have h2 : (fileT W H D pk ms px).take 2 = [73, 73] := by
    generalize hs : fileT W H D pk ms px = s at h ⊢
    have h : At s 0 (fileT W H D pk ms px) := by rw [hs]; exact h
    unfold fileT at h
    have := h.left.left.left.left.left.left.left.left.left.left.left.left.left.left.left.left.left.left.left
    exact this
  unfold bigP
  rw [h2]
  decide
theorem decT_file {W H D : Nat} {pk : Bool} {ms : List Mt} {px : List Px} (hW1 : 1 ≤ W) (hW : W ≤ 256) (hH1 : 1 ≤ H) (hH : H ≤ 256) (hD : D = 8 ∨ D = 16) (hc : chkP ms = 0) (hl : px.length = W * H) (hv : ∀ p ∈ px, valP p = true) :
    decT (fileT W H D pk ms px) = .ok (W, H, px.map (backT D), ms) := by
  obtain ⟨ht, hat_, hlen⟩ := fileT_tags (W := W) (H := H) (D := D) (pk := pk) (ms := ms) (px := px) hW hH hD hc
  have hb := fileT_big W H D pk ms px
  obtain ⟨v256, v257, v258, v259, v262, v273, v277, v278, v279, v284, v317, v338⟩ := tagsL_vals W H D pk ms (rowsB D pk W px H).length
  have hm := tagsL_met W H D pk ms (rowsB D pk W px H).length hc
  have hsz := rowsB_size hD (W := W) (H := H) hl
  have hfl := rowsB_flat D W px H
  have hrows := unpack_rows D W px (rowsB D false W px H).length H [] [] (by simp)
  rw [List.append_nil, List.nil_append, unpG_done (Nat.lt_irrefl _)] at hrows
  generalize fileT W H D pk ms px = s at *
  generalize tagsL W H D pk ms (rowsB D pk W px H).length = l at *
  generalize hP : 22 + 12 * tagsT ms + (txtT ms).length = P at *
  have hnone : noneT l = false := by
    unfold noneT
    simp only [List.any_cons, List.any_nil, v256, v257, v258, v262, v273, v277, v279]
    rfl
  have f256 : firstN l 256 0 = W := by unfold firstN; rw [v256]
  have f257 : firstN l 257 0 = H := by unfold firstN; rw [v257]
  have f258 : firstN l 258 0 = D := by unfold firstN; rw [v258]
  have f259 : firstN l 259 1 = compT pk := by unfold firstN; rw [v259]
  have f262 : firstN l 262 0 = 2 := by unfold firstN; rw [v262]
  have g262 : firstT l 262 (-1) = 2 := by unfold firstT; rw [v262]; rfl
  have f277 : firstN l 277 0 = 4 := by unfold firstN; rw [v277]
  have f278 : firstN l 278 H = H := by unfold firstN; rw [v278]
  have f284 : firstN l 284 1 = 1 := by unfold firstN; rw [v284]
  have f317 : firstN l 317 1 = 1 := by unfold firstN; rw [v317]
  have f338 : firstN l 338 0 = 2 := by unfold firstN; rw [v338]
  have hkind : kindP l = true := by
    unfold kindP
    rw [f259, g262, f277, v258, f338, f284, f317, if_neg (by unfold compT; split <;> omega), if_neg (fun h => h (.inr ⟨rfl, .inr rfl⟩)), if_neg (by simp)]
    rcases hD with rfl | rfl <;> rfl
  have hdiv : (H + H - 1) / H = 1 := Nat.div_eq_of_lt_le (by omega) (by omega)
  have hsize : sizeP l = true := by
    unfold sizeP
    rw [f257, f256, f278, hdiv, v273, v279, if_neg (by omega), if_neg (by omega)]
    rfl
  have hhd : hdT l false = ⟨W, H, D / 8, 4, 2, 2, H, compT pk == 32773, false⟩ := by
    unfold hdT
    rw [f256, f257, f258, f277, f262, f338, f278, f259]
  have hneed : needN (hdT l false) 0 = (rowsB D false W px H).length := by
    rw [hhd, hsz]
    unfold needN
    simp only [Nat.zero_mul, Nat.sub_zero, Nat.min_self, Nat.mul_assoc]
  have hnb : (rowsB D false W px H).length ≤ 1048576 := by
    have h1 := rowsB_bound hD hW false px H
    omega
  have hunp : unpK (hdT l false) 0 (rowsB D pk W px H) = .ok (rowsB D false W px H) := by
    unfold unpK
    rw [hneed]
    have hpk : (hdT l false).packed = pk := by rw [hhd]; cases pk <;> rfl
    rw [hpk]
    cases pk with
    | false => rfl
    | true =>
      rw [if_pos rfl]
      unfold unpP
      rw [if_neg (by omega), Int.toNat_natCast]
      exact hrows
  have hstrip : stripP (hdT l false) s 0 P (rowsB D pk W px H).length = .ok (rowsB D false W px H) := by
    unfold stripP
    rw [if_neg (by omega)]
    have e : (s.drop P).take (rowsB D pk W px H).length = rowsB D pk W px H := hat_
    rw [e, hunp]
    simp only [hneed]
    rw [if_neg (by omega), if_neg (by omega)]
  have hg : stripsG (hdT l false) s (valsT l 273) (valsT l 279) (valsT l 273).length 0 [] = .ok (rowsB D false W px H) := by
    rw [v273, v279]
    show stripsG (hdT l false) s [P] [(rowsB D pk W px H).length] 1 0 [] = _
    unfold stripsG
    have e1 : ([P] : List Nat).getD 0 0 = P := rfl
    have e2 : ([(rowsB D pk W px H).length] : List Nat).getD 0 0 = (rowsB D pk W px H).length := rfl
    rw [e1, e2, hstrip]
    simp only [stripsG, List.nil_append]
  unfold decT
  rw [ht]
  simp only [hnone, hkind, hsize, Bool.false_eq_true, Bool.true_eq_false, if_false, hb]
  rw [hg, f256, f257, f277, f258, hm]
  simp only
  congr 1
  congr 1
  congr 1
  congr 1
  apply List.ext_getElem
  · simp [hl]
  · intro k h1 h2
    have hk : k < px.length := by simpa using h2
    rw [List.getElem_map, List.getElem_map, List.getElem_range, hfl, List.take_of_length_le (by rw [hl, Nat.mul_comm]; exact Nat.le_refl _), flat_chunk (pxT D) (4 * (D / 8)) px k hk (fun p _ => pxT_size hD p)]
    exact pixP_back hD (by rw [hhd]) (by rw [hhd]) (by rw [hhd]) (by rw [hhd]) (hv _ (List.getElem_mem hk))
end Go.Proofs.Ytakileiomgaahaa
