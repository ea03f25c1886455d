/-
  Plain: what Decode accepts is valid. The law PngRight.
-/
import Derived.Test.YthbejefodelpkaaGreatZO
import Derived.Test.YthbejefodelpkaaGreatZF
namespace Go.Proofs.YthbejefodelpkaaGreat
open Go.RowKit
set_option maxRecDepth 100000

theorem valP_of (p : Px) (h : (0 ≤ p.1 ∧ p.1 ≤ 65535) ∧ (0 ≤ p.2.1 ∧ p.2.1 ≤ 65535) ∧ (0 ≤ p.2.2.1 ∧ p.2.2.1 ≤ 65535) ∧ (0 ≤ p.2.2.2 ∧ p.2.2.2 ≤ 65535)) : valP p = true := by
  unfold valP
  rw [uI_id _ h.1.1 h.1.2, uI_id _ h.2.1.1 h.2.1.2, uI_id _ h.2.2.1.1 h.2.2.1.2, uI_id _ h.2.2.2.1 h.2.2.2.2]
  simp
theorem from8_rng (x : Int) : 0 ≤ from8I x ∧ from8I x ≤ 65535 := by unfold from8I clampI; omega
theorem smI_rng (s : List UInt8) (n k : Nat) (hn : n = 1 ∨ n = 2) : 0 ≤ smI s n k ∧ smI s n k ≤ 65535 := by
  unfold smI
  split
  · exact from8_rng _
  · have h2 : n = 2 := by omega
    have h1 := beP_lt ((s.take ((k + 1) * n)).drop (k * n))
    have hl : ((s.take ((k + 1) * n)).drop (k * n)).length ≤ 2 := by rw [List.length_drop, List.length_take, Nat.add_mul]; omega
    have h3 : 256 ^ ((s.take ((k + 1) * n)).drop (k * n)).length ≤ 256 ^ 2 := Nat.pow_le_pow_right (by decide) hl
    unfold smN
    omega
theorem dirP_val (s : List UInt8) (c n : Nat) (hn : n = 1 ∨ n = 2) : valP (dirP s c n) = true := by
  have R := fun k => smI_rng s n k hn
  have U : (0 : Int) ≤ 65535 ∧ (65535 : Int) ≤ 65535 := by decide
  unfold dirP
  split
  · exact valP_of _ ⟨R 0, R 0, R 0, U⟩
  · split
    · exact valP_of _ ⟨R 0, R 0, R 0, R 1⟩
    · split
      · exact valP_of _ ⟨R 0, R 1, R 2, U⟩
      · exact valP_of _ ⟨R 0, R 1, R 2, R 3⟩
theorem idxP_val (k : Nat) (cs av : List UInt8) : valP (idxP k cs av) = true := by
  have h := dirP_val ((cs.take (3 * k + 3)).drop (3 * k)) 3 1 (.inl rfl)
  have R := fun k' => smI_rng ((cs.take (3 * k + 3)).drop (3 * k)) 1 k' (.inl rfl)
  unfold idxP
  split
  · exact valP_of _ ⟨R 0, R 1, R 2, from8_rng _⟩
  · exact h
theorem rowG_val {c n : Nat} {pal alp line : List UInt8} (hn : n = 1 ∨ n = 2) {x : Nat} {l : List Px} (h : rowG c n pal alp line x = some l) : ∀ p ∈ l, valP p = true := by
  induction x generalizing l with
  | zero => unfold rowG at h; cases h; intro p hp; cases hp
  | succ x ih =>
    unfold rowG at h
    split at h
    · cases h
    · rename_i l0 h0
      split at h
      · cases h
      · rename_i q hq
        cases h
        intro p hp
        rcases List.mem_append.1 hp with hp | hp
        · exact ih h0 p hp
        · simp at hp; subst hp
          unfold pixG at hq
          simp only at hq
          split at hq
          · cases hq; exact dirP_val _ _ _ hn
          · split at hq
            · cases hq
            · cases hq; exact idxP_val _ _ _
theorem picG_val {c n W : Nat} {pal alp s : List UInt8} (hn : n = 1 ∨ n = 2) {y : Nat} {a : List UInt8} {l : List Px} (h : picG c n W pal alp s y = some (a, l)) : ∀ p ∈ l, valP p = true := by
  induction y generalizing a l with
  | zero => unfold picG at h; cases h; intro p hp; cases hp
  | succ y ih =>
    unfold picG at h
    split at h
    · cases h
    · rename_i a0 l0 h0
      split at h
      · cases h
      · split at h
        · cases h
        · rename_i r hr
          cases h
          intro p hp
          rcases List.mem_append.1 hp with hp | hp
          · exact ih h0 p hp
          · exact rowG_val hn hr p hp
theorem pixR_val {l : List Mt} {W H d c : Nat} {px : List Px} (hk : kindOk d c = true) (h : pixR l W H d c = .ok px) : px.length = H * W ∧ ∀ p ∈ px, valP p = true := by
  have hd : d / 8 = 1 ∨ d / 8 = 2 := by rcases kindOk_yes hk with ⟨-, h⟩ | ⟨-, h⟩ <;> omega
  unfold pixR at h
  split at h; · cases h
  split at h; · cases h
  split at h; · cases h
  split at h
  · cases h
  · rename_i a px' hp
    cases h
    exact ⟨picG_len hp, picG_val hd hp⟩
theorem chkGo_sorted (l : List Mt) (p : Option Mt) (hs : l.Pairwise ltM) (hv : ∀ m ∈ l, isK m.1 = true ∧ isV m.2 = true) (hp : ∀ q, p = some q → ∀ m ∈ l, ltM q m) : chkGo p l = 0 := by
  induction l generalizing p with
  | nil => rfl
  | cons m l ih =>
    rw [List.pairwise_cons] at hs
    have he : entP p m = 0 := by
      unfold entP
      have hm := hv m List.mem_cons_self
      rw [if_neg (by rw [hm.1]; decide), if_neg (by rw [hm.2]; decide)]
      cases p with
      | none => rfl
      | some q =>
        have hl : ltM q m := hp q rfl m List.mem_cons_self
        simp only
        rw [if_neg]
        unfold leK
        intro h
        rw [Bool.or_eq_true] at h
        rcases h with h | h
        · have := less_trans _ _ _ hl h
          rw [less_irrefl] at this; cases this
        · have e : m.1 = q.1 := by simpa using h
          unfold ltM at hl
          rw [e, less_irrefl] at hl; cases hl
    rw [chkGo, if_pos he]
    exact ih (some m) hs.2 (fun x hx => hv x (List.mem_cons_of_mem _ hx)) (fun q hq x hx => by cases hq; exact hs.1 x hx)
theorem entT_good {m e : Mt} (h : entT m = some e) : isK e.1 = true ∧ isV e.2 = true := by
  unfold entT at h
  split at h
  · rename_i h1
    cases h
    simp only [Bool.and_eq_true] at h1
    exact ⟨h1.1.2, h1.2⟩
  · cases h
theorem addT_good (ms : List Mt) (m : Mt) (h : ∀ x ∈ ms, isK x.1 = true ∧ isV x.2 = true) : ∀ x ∈ addT ms m, isK x.1 = true ∧ isV x.2 = true := by
  unfold addT
  cases he : entT m with
  | none => exact h
  | some e =>
    simp only
    split
    · exact h
    · intro x hx
      rcases List.mem_append.1 hx with hx | hx
      · exact h x hx
      · simp at hx; subst hx; exact entT_good he
theorem entG_good (l : List Mt) : ∀ x ∈ entG l, isK x.1 = true ∧ isV x.2 = true := by
  have key : ∀ (l ms : List Mt), (∀ x ∈ ms, isK x.1 = true ∧ isV x.2 = true) → ∀ x ∈ l.foldl addT ms, isK x.1 = true ∧ isV x.2 = true := by
    intro l
    induction l with
    | nil => intro ms h; exact h
    | cons m r ih => intro ms h; exact ih _ (addT_good ms m h)
  exact key l [] (fun x hx => by cases hx)
theorem entsP_chk (l : List Mt) : chkP (entsP l) = 0 := by
  obtain ⟨h1, h2⟩ := entG_ok l
  obtain ⟨h3, h4⟩ := sortM_perm (entG l) h1
  have h5 : (entsP l).length ≤ 16 := by unfold entsP; rw [h3.length_eq]; exact h2
  unfold chkP
  rw [if_neg (by omega)]
  exact chkGo_sorted _ none h4 (fun m hm => entG_good l m (h3.mem_iff.1 hm)) (fun q h => by cases h)
theorem decP_right {s : List UInt8} {W H : Nat} {px : List Px} {ms : List Mt} (h : decP s = .ok (W, H, px, ms)) : rchk W H px = 0 ∧ 1 ≤ W ∧ chkP ms = 0 := by
  unfold decP at h
  split at h; · cases h
  split at h; · cases h
  rename_i l hl W' H' d c hh
  obtain ⟨hW, hH, hk⟩ := kind_of_hdr hh
  split at h; · cases h
  split at h; · cases h
  split at h; · cases h
  split at h
  · cases h
  · rename_i px' hp
    cases h
    obtain ⟨h1, h2⟩ := pixR_val hk hp
    refine ⟨?_, hW.1, entsP_chk _⟩
    unfold rchk
    rw [if_neg (by omega), if_pos ⟨by omega, by rw [h1, Nat.mul_comm]; simp⟩, if_pos (List.all_eq_true.2 h2)]
theorem decP_err {s : List UInt8} {k : Nat} (h : decP s = .error k) : k ≠ 0 := by
  unfold decP at h
  split at h
  · rename_i h1; cases h; exact chunksP_err h1
  split at h
  · rename_i h1; cases h; exact hdrP_err h1
  split at h; · cases h; decide
  split at h; · cases h; decide
  split at h; · cases h; decide
  split at h
  · rename_i h1; cases h; exact pixR_err h1
  · cases h

set_option maxHeartbeats 4000000 in
theorem lawRight (s : ByteArray) (w : World) (hs : s.size ≤ 1048576) :
    Calls Tryz.prog 11 #[.string s] w fun e w' => e = .returned (.bool true) ∧ Below w.heap.size w w' := by
  have HD := Lib.hid (decode_any s w (by omega))
  have HAW := Lib.hid (fun w => awake_any w)
  obtain ⟨r, hr⟩ : ∃ r, decP s.data.toList = r := ⟨_, rfl⟩
  have HR := Lib.hid (fun W H px ms (h : r = .ok (W, H, px, ms)) => decP_right (hr.trans h))
  have HE := Lib.hid (fun k (h : r = .error k) => decP_err (hr.trans h))
  rw [hr] at HD
  clear hr
  go_enter Tryz.func11, Tryz.ntmps11
  go_wp2_with fail
  refine HD.out.mono ?_
  rintro e w1 ⟨he, hb1⟩
  cases r with
  | error k =>
    have he : e = .returned (.tuple #[.agg #[.int .i64 0, .int .i64 0, .slice none 0 0], .slice none 0 0, .int .i64 (k : Nat)]) := he
    subst he
    have hk := HE.out k rfl
    have dk : ((k : Int) != 0) = true := by simp; omega
    have hb2 := (Below.refl w1.heap.size w1).alloc (Nat.le_refl _) (.cells #[.int .i64 0, .int .i64 0, .slice none 0 0] 36)
    have HK := Lib.hid (Blk.new w1 36 #[.int .i64 0, .int .i64 0, .slice none 0 0])
    have HB2 := Lib.hid (bthen hb1 hb2)
    clear hb1 hb2 HD HR HE hk
    go_upto_region 2 with fail
    generalize w1.alloc (.cells #[.int .i64 0, .int .i64 0, .slice none 0 0] 36) = w2 at *
    generalize w1.heap.size = K at *
    go_wp2_with fail
    refine (HAW.out _).mono ?_
    rintro e w3 ⟨rfl, hb⟩
    have HK3 := Lib.hid (HK.out.keep hb)
    have HB3 := Lib.hid (bthen HB2.out hb)
    clear hb HK HB2
    go_wp2_with fail
    refine (HAW.out _).mono ?_
    rintro e w4 ⟨rfl, hb⟩
    have HK4 := Lib.hid (HK3.out.keep hb)
    have HB4 := Lib.hid (bthen HB3.out hb)
    clear hb HK3 HB3
    have a0 : w4.cell? ⟨K, 0, none⟩ = some (.int .i64 0) := HK4.out.cell 0
    have a1 : w4.cell? ⟨K, 1, none⟩ = some (.int .i64 0) := HK4.out.cell 1
    have a2 : w4.cell? ⟨K, 2, none⟩ = some (.slice none 0 0) := HK4.out.cell 2
    have HSA := Lib.hid (same_any 0 0 (.slice none 0 0) (.slice none 0 0) [] w4 (prow_nil _) (prow_nil _))
    simp only [imgI] at HSA
    go_wp2_with fail
    refine HSA.out.mono ?_
    rintro e w5 ⟨rfl, hb⟩
    have HB5 := Lib.hid (bthen HB4.out hb)
    clear hb a0 a1 a2 HSA
    go_wp2_with fail
    go_ret
    exact ⟨rfl, HB5.out⟩
  | ok q =>
    obtain ⟨W, H, px, ms⟩ := q
    obtain ⟨v, vm, rfl, hp, hm⟩ := he
    obtain ⟨xp, cp, rfl, -⟩ := id hp
    obtain ⟨xm, cm, rfl, -⟩ := id hm
    obtain ⟨h1, h2, h3⟩ := HR.out W H px ms rfl
    have dW : decide ((0 : Int) < (W : Int)) = true := by simp; omega
    have hW0 : 0 < W := h2
    have HRC := Lib.hid (fun w h => pcheckI_any (W : Int) (H : Int) (.slice xp px.length cp) px w h)
    have HMC := Lib.hid (fun w h => check_any (.slice xm ms.length cm) ms w h)
    rw [h1] at HRC
    rw [h3] at HMC
    unfold imgI at HRC ⊢
    have hb2 := (Below.refl w1.heap.size w1).alloc (Nat.le_refl _) (.cells #[.int .i64 W, .int .i64 H, .slice xp px.length cp] 36)
    have HK := Lib.hid (Blk.new w1 36 #[.int .i64 W, .int .i64 H, .slice xp px.length cp])
    have HP2 := Lib.hid (hp.below hb2)
    have HM2 := Lib.hid (hm.below hb2)
    have HB2 := Lib.hid (bthen hb1 hb2)
    clear hb1 hb2 HD HR HE h1 h2 h3 hp hm
    go_upto_region 2 with fail
    generalize w1.alloc (.cells #[.int .i64 W, .int .i64 H, .slice xp px.length cp] 36) = w2 at *
    generalize w1.heap.size = K at *
    go_wp2_with fail
    refine (HAW.out _).mono ?_
    rintro e w3 ⟨rfl, hb⟩
    have HK3 := Lib.hid (HK.out.keep hb)
    have HP3 := Lib.hid (HP2.out.below hb)
    have HM3 := Lib.hid (HM2.out.below hb)
    have HB3 := Lib.hid (bthen HB2.out hb)
    clear hb HK HB2 HP2 HM2
    have a0 : w3.cell? ⟨K, 0, none⟩ = some (.int .i64 W) := HK3.out.cell 0
    have a1 : w3.cell? ⟨K, 1, none⟩ = some (.int .i64 H) := HK3.out.cell 1
    have a2 : w3.cell? ⟨K, 2, none⟩ = some (.slice xp px.length cp) := HK3.out.cell 2
    go_wp2_with fail
    refine (HRC.out _ HP3.out).mono ?_
    rintro e w4 ⟨rfl, hb⟩
    have HK4 := Lib.hid (HK3.out.keep hb)
    have HM4 := Lib.hid (HM3.out.below hb)
    have HB4 := Lib.hid (bthen HB3.out hb)
    clear hb HK3 HB3 HP3 HM3 a0 a1 a2 HRC
    have a0 : w4.cell? ⟨K, 0, none⟩ = some (.int .i64 W) := HK4.out.cell 0
    go_wp2_with fail
    refine (HMC.out _ HM4.out).mono ?_
    rintro e w5 ⟨rfl, hb⟩
    have HB5 := Lib.hid (bthen HB4.out hb)
    clear hb a0
    go_wp2_with fail
    go_ret
    exact ⟨rfl, HB5.out⟩
end Go.Proofs.YthbejefodelpkaaGreat
