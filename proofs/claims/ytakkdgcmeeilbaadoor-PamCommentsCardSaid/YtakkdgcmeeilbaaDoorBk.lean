/-
  Plain laws: a file that was written is read back.
-/
import Derived.Test.YtakkdgcmeeilbaaDoorEn
import Derived.Test.YtakkdgcmeeilbaaDoorP10
import Derived.Test.YtakkdgcmeeilbaaDoorPv
namespace Go.Proofs.YtakkdgcmeeilbaaDoor
open Go.RowKit

theorem fnd_at (c : UInt8) (a r : List UInt8) (h : c ∉ a) : fnd c (a ++ c :: r) = a.length := by
  induction a with
  | nil => simp [fnd]
  | cons b a ih =>
    simp only [List.mem_cons, not_or] at h
    rw [List.cons_append, fnd, if_neg (fun e => h.1 e.symm), ih h.2, List.length_cons]
theorem line_step {line r : List UInt8} {vs vs' : List (Option Nat)} {ms ms' : List Mt} (h : (10 : UInt8) ∉ line) (hE : line ≠ ENDH) (hl : lineP line vs ms = some (vs', ms')) : linesP (line ++ 10 :: r) vs ms = linesP r vs' ms' := by
  have hf := fnd_at 10 line r h
  have ht : (line ++ 10 :: r).take (fnd 10 (line ++ 10 :: r)) = line := by rw [hf, List.take_left]
  have hd : (line ++ 10 :: r).drop (fnd 10 (line ++ 10 :: r) + 1) = r := by rw [hf, ← List.drop_drop, List.drop_left]; rfl
  have := linesP_step (u := line ++ 10 :: r) (by rw [hf]; simp) (by rw [ht]; exact hE) (by rw [ht]; exact hl)
  rw [this, hd]
theorem line_end {r : List UInt8} {vs : List (Option Nat)} {ms : List Mt} : linesP (ENDH ++ 10 :: r) vs ms = some (vs, ms, r) := by
  have hf := fnd_at 10 ENDH r (by decide)
  have ht : (ENDH ++ 10 :: r).take (fnd 10 (ENDH ++ 10 :: r)) = ENDH := by rw [hf, List.take_left]
  have hd : (ENDH ++ 10 :: r).drop (fnd 10 (ENDH ++ 10 :: r) + 1) = r := by rw [hf, ← List.drop_drop, List.drop_left]; rfl
  rw [linesP_end (by rw [hf]; simp) ht, hd]
theorem txt_free {most lo : Nat} {s : List UInt8} (h : okTxt most lo s = true) (c : UInt8) (hc : c.toNat < lo) : c ∉ s := by
  unfold okTxt at h
  simp only [Bool.and_eq_true] at h
  intro hm
  have := List.all_eq_true.1 h.2 c hm
  unfold okC at this
  simp only [Bool.and_eq_true, decide_eq_true_eq] at this
  omega
theorem entL_at {m : Mt} (hk : isK m.1 = true) (hv : isV m.2 = true) : entL ([35, 32] ++ m.1 ++ [32] ++ m.2) = some m := by
  have hd : ([35, 32] ++ m.1 ++ [32] ++ m.2).drop 2 = m.1 ++ 32 :: m.2 := by simp
  have hb : begP [35, 32] ([35, 32] ++ m.1 ++ [32] ++ m.2) = true := by unfold begP; simp
  have hf := fnd_at 32 m.1 m.2 (txt_free hk 32 (by decide))
  unfold entL
  rw [hd, hf, hb, List.take_left, ← List.drop_drop, List.drop_left]
  have e : (32 :: m.2).drop 1 = m.2 := rfl
  rw [e, if_neg (by decide), if_pos (by simp), if_neg (by rw [hk]; decide), if_neg (by rw [hv]; decide)]
theorem addP_at {l : List Mt} {m : Mt} (hk : isK m.1 = true) (hv : isV m.2 = true) (hl : l.length < 16) (hn : ∀ q ∈ l, q.1 ≠ m.1) : addP l ([35, 32] ++ m.1 ++ [32] ++ m.2) = l ++ [m] := by
  unfold addP
  rw [entL_at hk hv]
  simp only
  rw [if_neg]
  rintro (h | h)
  · unfold anyK at h
    rw [List.any_eq_true] at h
    obtain ⟨q, hq, he⟩ := h
    exact hn q hq (by simpa using he)
  · omega
theorem lines_met (ms acc : List Mt) (r : List UInt8) (vs : List (Option Nat)) (ha : Asc ms) (hl : acc.length + ms.length ≤ 16) (hn : ∀ q ∈ acc, ∀ m ∈ ms, q.1 ≠ m.1) : linesP (metB ms ++ r) vs acc = linesP r vs (acc ++ ms) := by
  induction ms generalizing acc with
  | nil => simp [metB]
  | cons m ms ih =>
    obtain ⟨hk, hv, hlt, hr⟩ := ha
    have e : metB (m :: ms) ++ r = ([35, 32] ++ m.1 ++ [32] ++ m.2) ++ 10 :: (metB ms ++ r) := by
      unfold metB; rw [List.flatMap_cons]; unfold entB; simp
    rw [List.length_cons] at hl
    have h10 : (10 : UInt8) ∉ ([35, 32] ++ m.1 ++ [32] ++ m.2) := by
      have h1 := txt_free hk 10 (by decide)
      have h2 := txt_free hv 10 (by decide)
      simp only [List.mem_append, not_or]
      exact ⟨⟨⟨by decide, h1⟩, by decide⟩, h2⟩
    have hL : lineP ([35, 32] ++ m.1 ++ [32] ++ m.2) vs acc = some (vs, acc ++ [m]) := by
      rw [← addP_at hk hv (by omega) (fun q hq => hn q hq m List.mem_cons_self)]
      refine lineP_hash (by simp) ?_ (by simp)
      unfold begP TUPL; simp
    rw [e, line_step h10 (by unfold ENDH; simp) hL, ih (acc ++ [m]) hr (by simp; omega) ?_]
    · simp
    · intro q hq x hx
      rcases List.mem_append.1 hq with hq | hq
      · exact hn q hq x (List.mem_cons_of_mem _ hx)
      · simp at hq; subst hq
        intro he
        have := hlt x hx
        rw [he, less_irrefl] at this; cases this
theorem dec_dig (n : Nat) : (Lib.decDigits n).all dig = true ∧ decV (Lib.decDigits n) 0 = n := by
  induction n using Nat.strongRecOn with
  | _ n ih =>
    have small : ∀ k, k < 10 → ∀ a, dig (UInt8.ofNat (48 + k)) = true ∧ decV [UInt8.ofNat (48 + k)] a = 10 * a + k := by
      intro k hk a
      have : (UInt8.ofNat (48 + k)).toNat = 48 + k := by simp [UInt8.toNat_ofNat']; omega
      unfold dig
      simp only [decV, this, Bool.and_eq_true, decide_eq_true_eq]
      omega
    by_cases h10 : n < 10
    · have := small n h10 0
      rw [dec_small n h10]
      simpa using this
    · have := small (n % 10) (Nat.mod_lt _ (by decide)) (n / 10)
      have ih1 := ih (n / 10) (by omega)
      rw [dec_big n h10, dec_small (n % 10) (Nat.mod_lt _ (by decide)), decV_append, ih1.2, this.2, List.all_append, ih1.1]
      refine ⟨by simpa using this.1, by omega⟩
theorem dec_len3 (n : Nat) (h : n ≤ 256) : 1 ≤ (Lib.decDigits n).length ∧ (Lib.decDigits n).length ≤ 3 := by
  have one : ∀ k, k < 10 → (Lib.decDigits k).length = 1 := fun k hk => by rw [dec_small k hk]; rfl
  by_cases h1 : n < 10
  · rw [one n h1]; omega
  · rw [dec_big n h1, List.length_append, one (n % 10) (by omega)]
    by_cases h2 : n / 10 < 10
    · rw [one _ h2]; omega
    · rw [dec_big _ h2, List.length_append, one _ (show n / 10 % 10 < 10 by omega), one _ (show n / 10 / 10 < 10 by omega)]; omega
theorem dec_num (n : Nat) (h : n ≤ 256) : numP (Lib.decDigits n) = some n := by
  obtain ⟨h1, h2⟩ := dec_len3 n h
  obtain ⟨h3, h4⟩ := dec_dig n
  unfold numP
  rw [if_pos ⟨h1, by omega, h3⟩, h4]
theorem dec_free (n : Nat) : (10 : UInt8) ∉ Lib.decDigits n := by
  intro hm
  have := List.all_eq_true.1 (dec_dig n).1 10 hm
  revert this; decide
theorem num_line {wd t : List UInt8} {k n : Nat} (h32 : (32 : UInt8) ∉ wd) (hw : wIx wd = (k : Int)) (hn : numP t = some n) : numL (wd ++ 32 :: t) = some (k, n) := by
  have hf := fnd_at 32 wd t h32
  refine numL_some ?_ ?_
  · rw [hf, List.take_left]; exact hw
  · rw [hf, ← List.drop_drop, List.drop_left]; exact hn
theorem word_step {wd t r : List UInt8} {vs : List (Option Nat)} {ms : List Mt} {k n : Nat} (hwd : wd ≠ []) (h35 : wd.getD 0 0 ≠ 35) (hT : begP TUPL (wd ++ 32 :: t) = false) (hE : wd ++ 32 :: t ≠ ENDH) (h10 : (10 : UInt8) ∉ wd) (h32 : (32 : UInt8) ∉ wd) (ht : (10 : UInt8) ∉ t) (hw : wIx wd = (k : Int)) (hn : numP t = some n) (hv : (vs.getD k none).isSome = false) :
    linesP ((wd ++ 32 :: t) ++ 10 :: r) vs ms = linesP r (vs.set k (some n)) ms := by
  refine line_step ?_ hE (lineP_good (by simp) hT ?_ (num_line h32 hw hn) hv)
  · simp only [List.mem_append, List.mem_cons, not_or]
    exact ⟨h10, by decide, ht⟩
  · cases wd with
    | nil => exact absurd rfl hwd
    | cons c wd => simpa using h35
/-- The number that a header of depth d says. -/
def grN (d : Nat) : Nat := if d = 16 then 65535 else 255
theorem grB_num (d : Nat) : numP (grB d) = some (grN d) := by
  unfold grB grN
  split <;> decide
theorem grB_free (d : Nat) : (10 : UInt8) ∉ grB d := by
  unfold grB
  split <;> decide
theorem lines_size (W H d : Nat) (ms : List Mt) (r : List UInt8) (hW : W ≤ 256) (hH : H ≤ 256) : linesP (sizB W H ++ endB d ++ r) [none, none, none, none] ms = some ([some W, some H, some 4, some (grN d)], ms, r) := by
  have e : sizB W H ++ endB d ++ r = ([87, 73, 68, 84, 72] ++ 32 :: Lib.decDigits W) ++ 10 :: (([72, 69, 73, 71, 72, 84] ++ 32 :: Lib.decDigits H) ++ 10 :: (([68, 69, 80, 84, 72] ++ 32 :: [52]) ++ 10 :: (([77, 65, 88, 86, 65, 76] ++ 32 :: grB d) ++ 10 :: ([84, 85, 80, 76, 84, 89, 80, 69, 32, 82, 71, 66, 95, 65, 76, 80, 72, 65] ++ 10 :: (ENDH ++ 10 :: r))))) := by
    unfold sizB endB ENDH; simp
  rw [e]
  rw [word_step (k := 0) (n := W) (by simp) (by decide) (by unfold begP TUPL; simp) (by unfold ENDH; simp) (by decide) (by decide) (dec_free W) (by decide) (dec_num W hW) rfl]
  rw [word_step (k := 1) (n := H) (by simp) (by decide) (by unfold begP TUPL; simp) (by unfold ENDH; simp) (by decide) (by decide) (dec_free H) (by decide) (dec_num H hH) rfl]
  rw [word_step (k := 2) (n := 4) (by simp) (by decide) (by decide) (by decide) (by decide) (by decide) (by decide) (by decide) (by decide) rfl]
  rw [word_step (k := 3) (n := grN d) (by simp) (by decide) (by unfold begP TUPL; simp) (by unfold ENDH; simp) (by decide) (by decide) (grB_free d) (by decide) (grB_num d) rfl]
  rw [line_step (by decide) (by decide) (vs' := [some W, some H, some 4, some (grN d)]) (ms' := ms) (by unfold lineP; rw [if_pos (.inr (by decide))]; rfl)]
  exact line_end
theorem asc_lt (ms : List Mt) (h : Asc ms) : ms.Pairwise ltM := by
  induction ms with
  | nil => exact List.Pairwise.nil
  | cons m ms ih =>
    obtain ⟨-, -, h3, h4⟩ := h
    exact List.Pairwise.cons (fun x hx => h3 x hx) (ih h4)
theorem sortM_asc (ms : List Mt) (h : Asc ms) : sortM ms = ms := by
  have hp := asc_lt ms h
  have hd : DistK ms := hp.imp (fun {a b} hab e => by unfold ltM at hab; rw [e, less_irrefl] at hab; cases hab)
  obtain ⟨h1, h2⟩ := sortM_perm ms hd
  exact sorted_one _ _ h1 h2 hp
theorem linesP_note {line r : List UInt8} {vs : List (Option Nat)} {ms : List Mt} (h10 : (10 : UInt8) ∉ line) (h0 : line.getD 0 0 = 35) (h1 : line.getD 1 0 ≠ 32) : linesP (line ++ 10 :: 10 :: r) vs ms = linesP r vs ms := by
  have hne : line ≠ [] := by rintro rfl; simp at h0
  have hE : line ≠ ENDH := by rintro rfl; simp [ENDH] at h0
  have hent : entL line = none := by
    unfold entL
    rw [if_pos]
    unfold begP
    match line, h0, h1 with
    | [], h0, _ => simp at h0
    | [c], _, _ => simp
    | c :: b :: l, _, h1 => simp at h1 ⊢; intro _ e; exact absurd e h1
  have hadd : addP ms line = ms := by unfold addP; rw [hent]
  have hT : begP TUPL line = false := by
    match line, h0 with
    | c :: l, h0 => simp at h0; subst h0; unfold begP TUPL; simp
  have hL := lineP_hash (vs := vs) (ms := ms) hne hT h0
  rw [hadd] at hL
  rw [line_step h10 hE hL]
  have := line_step (line := []) (r := r) (vs := vs) (ms := ms) (vs' := vs) (ms' := ms) (by simp) (by unfold ENDH; simp) (by unfold lineP; rw [if_pos (.inl rfl)])
  simpa using this
theorem chunk_flat (s : Nat) (f : Px → List UInt8) (px : List Px) (hf : ∀ p, (f p).length = s) (k : Nat) (hk : k < px.length) : chunk s (px.flatMap f) k = f px[k] := by
  unfold chunk
  induction px generalizing k with
  | nil => simp at hk
  | cons p px ih =>
    rw [List.flatMap_cons]
    cases k with
    | zero => rw [Nat.zero_mul, List.drop_zero, ← hf p, List.take_left]; rfl
    | succ k =>
      have e : (k + 1) * s = (f p).length + k * s := by rw [hf p, Nat.succ_mul]; omega
      rw [e, ← List.drop_drop, List.drop_left, ih k (by simpa using hk)]; rfl
theorem pxB_len16 (p : Px) : (pxB 16 p).length = 8 := rfl
theorem pxB_len8 (p : Px) : (pxB 8 p).length = 4 := by
  unfold pxB
  rw [if_neg (by decide)]
  split <;> rfl
theorem pixB_lens (s d : Nat) (px : List Px) (hf : ∀ p, (pxB d p).length = s) : (pixB d px).length = px.length * s := by
  unfold pixB
  induction px with
  | nil => simp
  | cons p px ih => rw [List.flatMap_cons, List.length_append, ih, hf, List.length_cons, Nat.succ_mul]; omega
theorem rd_16 (n : Nat) : rdI ((n * 65535 : Nat) : Int) 65535 = n := by unfold rdI; omega
theorem rd_8 (n : Nat) : rdI ((n * 65535 : Nat) : Int) 255 = 257 * n := by unfold rdI; omega
theorem ofNat_le (n : Nat) (h : n ≤ 255) : (UInt8.ofNat n).toNat = n := by simp [UInt8.toNat_ofNat']; omega
theorem val_16 (v : Int) (h0 : 0 ≤ v) (h1 : v ≤ 65535) : 256 * (UInt8.ofNat (v.toNat / 256)).toNat + (UInt8.ofNat (v.toNat % 256)).toNat = v.toNat := by
  rw [ofNat_le _ (by omega), ofNat_le _ (by omega)]; omega
theorem valP_rng (p : Px) (h : valP p = true) : (0 ≤ p.1 ∧ p.1 ≤ 65535) ∧ (0 ≤ p.2.1 ∧ p.2.1 ≤ 65535) ∧ (0 ≤ p.2.2.1 ∧ p.2.2.1 ≤ 65535) ∧ (0 ≤ p.2.2.2 ∧ p.2.2.2 ≤ 65535) := by
  unfold valP at h
  simp only [Bool.and_eq_true, beq_iff_eq] at h
  have k : ∀ x : Int, uI x = x → 0 ≤ x ∧ x ≤ 65535 := fun x hx => by have := uI_rng x; rw [hx] at this; exact this
  exact ⟨k _ h.1.1.1, k _ h.1.1.2, k _ h.1.2, k _ h.2⟩
theorem back_16 (p : Px) (h : valP p = true) : pxS true 4 65535 (pxB 16 p) = p := by
  obtain ⟨h1, h2, h3, h4⟩ := valP_rng p h
  obtain ⟨a, b, c, q⟩ := p
  have e0 := val_16 a h1.1 h1.2
  have e1 := val_16 b h2.1 h2.2
  have e2 := val_16 c h3.1 h3.2
  have e3 := val_16 q h4.1 h4.2
  unfold pxS
  rw [if_neg (by decide), if_neg (by decide), if_neg (by decide)]
  have s0 : smpP true (pxB 16 (a, b, c, q)) 0 = a.toNat := e0
  have s1 : smpP true (pxB 16 (a, b, c, q)) 1 = b.toNat := e1
  have s2 : smpP true (pxB 16 (a, b, c, q)) 2 = c.toNat := e2
  have s3 : smpP true (pxB 16 (a, b, c, q)) 3 = q.toNat := e3
  unfold valS
  rw [s0, s1, s2, s3]
  have := rd_16
  simp only at h1 h2 h3 h4
  refine Prod.ext ?_ (Prod.ext ?_ (Prod.ext ?_ ?_)) <;> simp only <;> (refine (rd_16 _).trans ?_) <;> omega
/-- A pixel after 8 bits. -/
def q8P (p : Px) : Px := if to8I p.2.2.2 = 0 then (0, 0, 0, 0) else (257 * to8I p.1, 257 * to8I p.2.1, 257 * to8I p.2.2.1, 257 * to8I p.2.2.2)
theorem val_8 (v : Int) : ((UInt8.ofNat (to8I v).toNat).toNat : Int) = to8I v := by
  have := to8I_rng v
  rw [ofNat_le _ (by omega)]; omega
theorem back_8 (p : Px) : pxS false 4 255 (pxB 8 p) = q8P p := by
  unfold pxB q8P
  rw [if_neg (by decide)]
  by_cases h0 : to8I p.2.2.2 = 0
  · rw [if_pos h0, if_pos h0]; decide +kernel
  · rw [if_neg h0, if_neg h0]
    unfold pxS valS
    rw [if_neg (by decide), if_neg (by decide), if_neg (by decide)]
    refine Prod.ext ?_ (Prod.ext ?_ (Prod.ext ?_ ?_)) <;> simp only <;> (refine (rd_8 _).trans ?_)
    · exact congrArg (257 * ·) (val_8 p.1)
    · exact congrArg (257 * ·) (val_8 p.2.1)
    · exact congrArg (257 * ·) (val_8 p.2.2.1)
    · exact congrArg (257 * ·) (val_8 p.2.2.2)
theorem okS_16 (l : List UInt8) : okS true 4 65535 l = true := okS_all _ _ _ _ fun k _ => smp_le true l k
theorem okS_8 (l : List UInt8) : okS false 4 255 l = true := okS_all _ _ _ _ fun k _ => by
  unfold smpP
  have := (l.getD k 0).toNat_lt
  rw [if_neg (by decide)]; omega
/-- A pixel after depth d. -/
def qdP (d : Nat) (p : Px) : Px := if d = 16 then p else q8P p
theorem body_back (W H d : Nat) (ms : List Mt) (px : List Px) (hd : d = 8 ∨ d = 16) (hW : 1 ≤ W ∧ W ≤ 256) (hH : 1 ≤ H ∧ H ≤ 256) (hl : px.length = W * H) (hv : ∀ p ∈ px, valP p = true) : bodyP W H 4 (grN d) ms (pixB d px) = .ok (W, H, px.map (qdP d), ms) := by
  have hR : ∀ s (two : Bool) g, (∀ p, (pxB d p).length = s) → (∀ l, okS two 4 g l = true) → (∀ p ∈ px, pxS two 4 g (pxB d p) = qdP d p) → pixOk two 4 g s (W * H) (pixB d px) = true ∧ pixL two 4 g s (W * H) (pixB d px) = px.map (qdP d) := by
    intro s two g h1 h2 h3
    refine ⟨List.all_eq_true.2 fun k _ => h2 _, ?_⟩
    unfold pixL
    rw [← hl]
    apply List.ext_getElem
    · simp
    · intro k hk1 hk2
      simp only [List.getElem_map, List.getElem_range]
      have hk : k < px.length := by simpa using hk1
      have := chunk_flat s (pxB d) px h1 k hk
      unfold pixB
      rw [this]
      exact h3 _ (List.getElem_mem hk)
  rcases hd with rfl | rfl
  · obtain ⟨r1, r2⟩ := hR 4 false 255 pxB_len8 okS_8 (fun p _ => back_8 p)
    have hlen := pixB_lens 4 8 px pxB_len8
    rw [hl] at hlen
    unfold bodyP
    have hg : grN 8 = 255 := rfl
    rw [hg, if_neg (by omega), if_neg (by omega), if_neg (by rw [hlen]; simp), if_neg (by rw [hlen]; simp)]
    have e1 : decide (255 < 255) = false := rfl
    have e2 : (4 * if 255 < 255 then 2 else 1) = 4 := rfl
    rw [e1, e2, if_pos r1, r2]
  · obtain ⟨r1, r2⟩ := hR 8 true 65535 pxB_len16 okS_16 (fun p hp => back_16 p (hv p hp))
    have hlen := pixB_lens 8 16 px pxB_len16
    rw [hl] at hlen
    unfold bodyP
    have hg : grN 16 = 65535 := rfl
    rw [hg, if_neg (by omega), if_neg (by omega), if_neg (by rw [hlen]; simp), if_neg (by rw [hlen]; simp)]
    have e1 : decide (255 < 65535) = true := rfl
    have e2 : (4 * if 255 < 65535 then 2 else 1) = 8 := rfl
    rw [e1, e2, if_pos r1, r2]
/-- What encP says of its arguments. -/
theorem encP_facts {W H d : Int} {px : List Px} {ms : List Mt} {l : List UInt8} (h : encP W H px d ms = .ok l) : rchk W H px = 0 ∧ W ≠ 0 ∧ (d = 8 ∨ d = 16) ∧ chkP ms = 0 ∧ l = fileB W.toNat H.toNat d.toNat ms px := by
  unfold encP at h
  split at h; · cases h
  split at h; · cases h
  split at h; · cases h
  split at h; · cases h
  split at h; · cases h
  rename_i h1 h2 h3 h4 h5
  cases h
  exact ⟨by simpa using h1, h2, by omega, by simpa using h4, rfl⟩
/-- A file is read back, with a comment that is no entry and an empty line, or without. -/
theorem dec_file {W H d : Int} {px : List Px} {ms : List Mt} {l : List UInt8} (h : encP W H px d ms = .ok l) (note : List UInt8) (hn : note = [] ∨ ∃ line : List UInt8, note = line ++ [10, 10] ∧ (10 : UInt8) ∉ line ∧ line.getD 0 0 = 35 ∧ line.getD 1 0 ≠ 32) :
    decP (l.take 3 ++ note ++ l.drop 3) = .ok (W.toNat, H.toNat, px.map (qdP d.toNat), ms) := by
  obtain ⟨h1, h2, h3, h4, rfl⟩ := encP_facts h
  have hW0 : (W = 0 ↔ H = 0) := by
    unfold rchk at h1
    split at h1; · cases h1
    split at h1
    · rename_i h; exact h.1
    · cases h1
  obtain ⟨w, h', rfl, rfl, hw, hh, hl, hv⟩ := rchk_zero h1
  obtain ⟨hm1, hm2⟩ := (chkP_zero ms).1 h4
  have hw1 : 1 ≤ w := by omega
  have hh1 : 1 ≤ h' := by omega
  simp only [Int.toNat_natCast]
  generalize hdn : d.toNat = D
  have hD : D = 8 ∨ D = 16 := by omega
  have ht : (fileB w h' D ms px).take 3 = [80, 55, 10] := by unfold fileB; simp
  have hdr : (fileB w h' D ms px).drop 3 = metB ms ++ (sizB w h' ++ endB D ++ pixB D px) := by unfold fileB; simp
  rw [ht, hdr]
  have hb : begP [80, 55, 10] ([80, 55, 10] ++ note ++ (metB ms ++ (sizB w h' ++ endB D ++ pixB D px))) = true := by unfold begP; simp
  have hd3 : ([80, 55, 10] ++ note ++ (metB ms ++ (sizB w h' ++ endB D ++ pixB D px))).drop 3 = note ++ (metB ms ++ (sizB w h' ++ endB D ++ pixB D px)) := by simp
  have hlines : linesP (note ++ (metB ms ++ (sizB w h' ++ endB D ++ pixB D px))) [none, none, none, none] [] = some ([some w, some h', some 4, some (grN D)], ms, pixB D px) := by
    have base : linesP (metB ms ++ (sizB w h' ++ endB D ++ pixB D px)) [none, none, none, none] [] = some ([some w, some h', some 4, some (grN D)], ms, pixB D px) := by
      rw [lines_met ms [] _ _ hm2 (by simpa using hm1) (by simp), lines_size _ _ _ _ _ hw hh]; simp
    rcases hn with rfl | ⟨line, rfl, ha, hb, hc⟩
    · simpa using base
    · rw [← base]
      have := linesP_note (r := metB ms ++ (sizB w h' ++ endB D ++ pixB D px)) (vs := [none, none, none, none]) (ms := []) ha hb hc
      rw [← this]; simp
  unfold decP headP
  rw [hb, if_pos rfl, hd3]
  unfold sevP
  rw [hlines]
  simp only [sevF]
  rw [sortM_asc ms hm2]
  exact body_back w h' D ms px hD ⟨hw1, hw⟩ ⟨hh1, hh⟩ hl hv
theorem dec_back {W H d : Int} {px : List Px} {ms : List Mt} {l : List UInt8} (h : encP W H px d ms = .ok l) : decP l = .ok (W.toNat, H.toNat, px.map (qdP d.toNat), ms) := by
  have := dec_file h [] (.inl rfl)
  rwa [List.append_nil, List.take_append_drop] at this
end Go.Proofs.YtakkdgcmeeilbaaDoor
