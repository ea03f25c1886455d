/-
  Walk: a block, in the program.
  Walk: Inflate, in the program.
  Walk: Zlib, in the program.
-/
import Derived.Test.YthbejefodelpkaaGreatZI13
import Derived.Test.YthbejefodelpkaaGreatZI8
import Derived.Test.YthbejefodelpkaaGreatZC
namespace Go.Proofs.YthbejefodelpkaaGreat
open Go.RowKit

theorem ZO.below {w w' : World} {B zb : Nat} {s : ByteArray} {p most : Nat} {out : List UInt8} (h : ZO w B zb s p most out) (hb : Below w.heap.size w w') : ZO w' B zb s p most out := by
  obtain ⟨v, hz, hr, hB⟩ := h
  exact ⟨v, (Fr.of_below (B := 0) hb []).blk hz (by simp), (Fr.of_below (B := 0) hb []).owns hr (by simp), hB⟩
theorem datGo_err (ll dl : List Nat) (most f : Nat) (out : List UInt8) (b : List Bool) (k : Nat) (hf : b.length < f) (h : datGo ll dl most f out b = .error k) : k ≠ 0 := by
  induction f generalizing out b with
  | zero => omega
  | succ f ih =>
    unfold datGo at h
    split at h
    · rename_i hs; cases h; exact symT_err hs
    · rename_i s b1 hs
      have hl := symT_len hs
      split at h
      · split at h
        · cases h; decide
        · exact ih _ _ (by omega) h
      · split at h
        · cases h
        · split at h
          · cases h; decide
          · split at h
            · rename_i hs; cases h; exact matT_err hs
            · rename_i hm
              have := matT_len hm
              exact ih _ _ (by omega) h
theorem datT_err {ll dl : List Nat} {most : Nat} {out : List UInt8} {b : List Bool} {k : Nat} (h : datT ll dl most out b = .error k) : k ≠ 0 := datGo_err _ _ _ _ _ _ _ (by omega) h
theorem stoT_err {most : Nat} {out : List UInt8} {b : List Bool} {k : Nat} (h : stoT most out b = .error k) : k ≠ 0 := by
  unfold stoT at h
  split at h
  · rename_i hs; cases h; exact numT_err hs
  · split at h
    · cases h; decide
    · split at h
      · cases h; decide
      · split at h <;> cases h
        decide
/-- What a block promises. -/
def BlkOk (s : ByteArray) (most B zb : Nat) (r : Except Nat (Bool × List UInt8 × List Bool)) (e : Ending) (w : World) : Prop :=
  match r with
  | .error k => e = .returned (.tuple #[.bool false, .int .i64 k])
  | .ok (last, o, b) => e = .returned (.tuple #[.bool last, .int .i64 0]) ∧ ∃ p, p ≤ 8 * s.size ∧ b = bitsAt s p ∧ ZO w B zb s p most o
theorem dyn_small {b b' : List Bool} {ll dl : List Nat} (h : dynT b = .ok ((ll, dl), b')) : ll.length ≤ 400 ∧ dl.length ≤ 400 := by
  rw [dyn0] at h
  split at h
  · cases h
  · rename_i x b1 h1
    have hx := (numT_ok h1).2.2.2
    unfold dyn1 at h
    split at h
    · cases h
    · rename_i y b2 h2
      have hy := (numT_ok h2).2.2.2
      unfold dyn2 at h
      split at h
      · cases h
      · unfold dyn3 at h
        split at h
        · cases h
        · split at h
          · cases h
          · rename_i cl b4 hcl
            unfold dyn4 at h
            split at h
            · cases h
            · split at h
              · cases h
              · rename_i all b5 hl
                have hln : all.length = x + 257 + y + 1 := by
                  clear h
                  have key : ∀ f acc b, lstGo cl (x + 257 + y + 1) f acc b = .ok (all, b5) → all.length = x + 257 + y + 1 := by
                    intro f
                    induction f with
                    | zero => intro acc b h; cases h
                    | succ f ih =>
                      intro acc b h
                      unfold lstGo at h
                      split at h
                      · split at h
                        · rename_i h1; cases h; exact h1
                        · cases h
                      · split at h
                        · cases h
                        · split at h
                          · split at h
                            · cases h
                            · split at h
                              · cases h
                              · exact ih _ _ h
                          · split at h
                            · split at h
                              · cases h
                              · exact ih _ _ h
                            · split at h
                              · split at h
                                · cases h
                                · exact ih _ _ h
                              · exact ih _ _ h
                  exact key _ _ _ hl
                split at h
                · cases h
                · split at h
                  · cases h
                    simp at hx hy
                    simp
                    omega
                  · cases h

set_option maxRecDepth 100000 in
set_option maxHeartbeats 8000000 in
theorem block_any (s : ByteArray) (p most B zb : Nat) (out : List UInt8) (w : World) (hz : ZO w B zb s p most out) (hs : s.size ≤ 1000000000000000) (hp : p ≤ 8 * s.size) (hm : most ≤ 1048576) (ho : out.length ≤ most) :
    Calls Tryz.prog 134 #[.pointer (some ⟨zb, 0, none⟩)] w fun e w' => BlkOk s most B zb (blkT most out (bitsAt s p)) e w' ∧ FZ B w w' := by
  obtain ⟨v, hzb, hrow, hB⟩ := hz
  have HM : Hid (blkT most out (bitsAt s p) = match numT (bitsAt s p) 1 with
    | .error e => .error e
    | .ok (l, b1) => match numT b1 2 with
      | .error e => .error e
      | .ok (k, b2) =>
        match (if k = 0 then stoT most out b2 else if k = 1 then datT fixL fixD most out b2 else if k = 2 then (match dynT b2 with | .error e => .error e | .ok ((ll, dl), b3) => datT ll dl most out b3) else .error 4) with
        | .error e => .error e
        | .ok (o, b3) => .ok (l == 1, o, b3)) := rfl
  go_enter Tryz.func134, Tryz.ntmps134
  go_wp2_with fail
  refine (number_any s p 1 most zb v _ hzb hs hp (by decide)).mono ?_
  rintro e w1 ⟨hok, hf1⟩
  have hst := hok.st hp
  have hfz1 := fz_of hf1 hB
  have hrow1 := hf1.owns hrow (by decide)
  have hEE := HM.out
  clear hok hrow hzb HM hf1
  cases hn1 : numT (bitsAt s p) 1 with
  | error k =>
    rw [hn1] at hst hEE
    obtain ⟨rfl, -⟩ := hst
    have HE : Hid (blkT most out (bitsAt s p) = .error k) := hEE
    have hk := numT_err hn1
    have hk1 : ((k : Int) != 0) = true := by simp; omega
    clear hn1 hEE
    go_wp2_with fail
    go_ret2
    refine ⟨?_, hfz1⟩
    rw [HE.out]; rfl
  | ok lb =>
  obtain ⟨l, b1⟩ := lb
  rw [hn1] at hst hEE
  obtain ⟨rfl, p1, hp1, rfl, hz1⟩ := hst
  simp only at hEE
  have HEE := Lib.hid hEE
  clear hEE hn1
  go_wp2_with fail
  refine (number_any s p1 2 most zb v _ hz1 hs hp1 (by decide)).mono ?_
  rintro e w2 ⟨hok, hf2⟩
  have hst := hok.st hp1
  have hfz2 := hfz1.trans (fz_of hf2 hB)
  have hrow2 := hf2.owns hrow1 (by decide)
  have hEE := HEE.out
  clear hok hrow1 hz1 HEE hf2 hfz1
  cases hn2 : numT (bitsAt s p1) 2 with
  | error k =>
    rw [hn2] at hst hEE
    obtain ⟨rfl, -⟩ := hst
    have HE : Hid (blkT most out (bitsAt s p) = .error k) := hEE
    have hk := numT_err hn2
    have hk1 : ((k : Int) != 0) = true := by simp; omega
    clear hn2 hEE
    go_wp2_with fail
    go_ret2
    refine ⟨?_, hfz2⟩
    rw [HE.out]; rfl
  | ok kb =>
  obtain ⟨kd, b2⟩ := kb
  have hkd := (numT_ok hn2).2.2.2
  rw [hn2] at hst hEE
  obtain ⟨rfl, p2, hp2, rfl, hz2⟩ := hst
  simp only at hEE hkd
  have hzo : ZO w2 B zb s p2 most out := ⟨v, hz2, hrow2, hB⟩
  clear hn2
  by_cases h0 : kd = 0
  · rw [if_pos h0] at hEE
    subst h0
    have HEE := Lib.hid hEE
    clear hEE
    go_wp2_with fail
    refine (stored_any s p2 most B zb out _ hzo hs hp2 hm ho).mono ?_
    rintro e w3 ⟨hok, hf3⟩
    have hfz3 := hfz2.trans hf3
    have hEE := HEE.out
    clear HEE hf3 hfz2 hzo hz2 hrow2
    cases hr : stoT most out (bitsAt s p2) with
    | error k =>
      rw [hr] at hok hEE
      obtain rfl := hok
      have HE : Hid (blkT most out (bitsAt s p) = .error k) := hEE
      have hk : ((k : Int) == 0) = false := beq_false_of_ne (by have := stoT_err hr; omega)
      clear hr hEE
      by_cases hl : l = 1
      · have d1 : ((l : Int) == 1) = true := by simp; omega
        go_wp2_with fail
        go_ret2
        refine ⟨?_, hfz3⟩
        rw [HE.out]; rfl
      · have d1 : ((l : Int) == 1) = false := beq_false_of_ne (by omega)
        go_wp2_with fail
        go_ret2
        refine ⟨?_, hfz3⟩
        rw [HE.out]; rfl
    | ok ob =>
      obtain ⟨o, b9⟩ := ob
      rw [hr] at hok hEE
      obtain ⟨rfl, p9, hp9, rfl, hz9⟩ := hok
      have HE : Hid (blkT most out (bitsAt s p) = .ok (l == 1, o, bitsAt s p9)) := hEE
      clear hr hEE
      by_cases hl : l = 1
      · have d1 : ((l : Int) == 1) = true := by simp; omega
        have HL : Hid ((l == 1) = true) := by show _ = _; rw [hl]; rfl
        go_wp2_with fail
        go_ret2
        refine ⟨?_, hfz3⟩
        rw [HE.out, HL.out]
        exact ⟨rfl, p9, hp9, rfl, hz9⟩
      · have d1 : ((l : Int) == 1) = false := beq_false_of_ne (by omega)
        have HL : Hid ((l == 1) = false) := beq_false_of_ne hl
        go_wp2_with fail
        go_ret2
        refine ⟨?_, hfz3⟩
        rw [HE.out, HL.out]
        exact ⟨rfl, p9, hp9, rfl, hz9⟩
  rw [if_neg h0] at hEE
  have d0 : ((kd : Int) == 0) = false := beq_false_of_ne (by omega)
  by_cases h1 : kd = 1
  · rw [if_pos h1] at hEE
    subst h1
    have HEE := Lib.hid hEE
    clear hEE h0 d0
    go_wp2_with fail
    refine (fixedCodes_any _).mono ?_
    rintro e w3 ⟨⟨u1, u2, rfl, hV1, hV2⟩, hb3⟩
    have hzo3 := hzo.below hb3
    have hfz3 : FZ B w w3 := hfz2.trans (Fr.of_below hb3 _)
    clear hb3 hzo hz2 hrow2 hfz2
    obtain ⟨s1, rfl, hs1⟩ := hV1
    obtain ⟨s2, rfl, hs2⟩ := hV2
    have hN1 := (Blk.new w3 164 decZ).alloc (.cells decZ 164)
    have hN2 := Blk.new_at (w := w3.alloc (.cells decZ 164)) (k := w3.heap.size + 1) (by simp) 164 decZ
    have hN2' := hN2.setRow_ne (decC fixL s1) (g := w3.heap.size) (by omega)
    have hdec1 : Dec ((((w3.alloc (.cells decZ 164)).alloc (.cells decZ 164)).setRow w3.heap.size (decC fixL s1)).setRow (w3.heap.size + 1) (decC fixD s2)) w3.heap.size fixL :=
      ⟨s1, (hN1.setRow _).setRow_ne _ (by omega), (((hs1.alloc _).alloc _).setRow hN1 (by decide) _).setRow hN2' (by decide) _⟩
    have hdec2 : Dec ((((w3.alloc (.cells decZ 164)).alloc (.cells decZ 164)).setRow w3.heap.size (decC fixL s1)).setRow (w3.heap.size + 1) (decC fixD s2)) (w3.heap.size + 1) fixD :=
      ⟨s2, hN2'.setRow _, (((hs2.alloc _).alloc _).setRow hN1 (by decide) _).setRow hN2' (by decide) _⟩
    have hbn : Below w3.heap.size w3 ((((w3.alloc (.cells decZ 164)).alloc (.cells decZ 164)).setRow w3.heap.size (decC fixL s1)).setRow (w3.heap.size + 1) (decC fixD s2)) :=
      below_setRow (below_setRow (((Below.refl _ _).alloc (Nat.le_refl _) _).alloc (by simp) _) (Nat.le_refl _) _) (by omega) _
    have i1 := decC_inf fixL s1
    have o1 := decC_one fixL s1 (irow_one hs1)
    have z1 : decZ.size = (decC fixL s1).size := rfl
    have i2 := decC_inf fixD s2
    have o2 := decC_one fixD s2 (irow_one hs2)
    have z2 : decZ.size = (decC fixD s2).size := rfl
    generalize decC fixL s1 = D1 at *
    generalize decC fixD s2 = D2 at *
    have HN1 := Lib.hid hN1
    have HN2 := Lib.hid hN2'
    have HDEC1 := Lib.hid hdec1
    have HDEC2 := Lib.hid hdec2
    have HBN := Lib.hid hbn
    have HI1 := Lib.hid i1
    have HO1 := Lib.hid o1
    have HZ1 := Lib.hid z1
    have HI2 := Lib.hid i2
    have HO2 := Lib.hid o2
    have HZ2 := Lib.hid z2
    clear hN1 hN2 hN2' hdec1 hdec2 hbn i1 o1 z1 i2 o2 z2 hs1 hs2
    go_upto_region 13 with (first | refine wpList_store_rowTo rfl 164 (.tmp 7) (.tmp 37) rfl rfl w3.heap.size D1 (by rfl) (by rfl) 164 _ (by exact HN1.out) (by exact HI1.out) (by exact HZ1.out) (by exact HO1.out) ?_ | refine wpList_store_rowTo rfl 164 (.tmp 8) (.tmp 38) rfl rfl (w3.heap.size + 1) D2 (by rfl) (by rfl) 164 _ (by exact HN2.out) (by exact HI2.out) (by exact HZ2.out) (by exact HO2.out) ?_)
    have hdec1 := HDEC1.out
    have hdec2 := HDEC2.out
    have hbn := HBN.out
    clear HDEC1 HDEC2 HBN HN1 HN2 HI1 HO1 HZ1 HI2 HO2 HZ2
    change Code.wp _ _ _ _ ((((w3.alloc (.cells decZ 164)).alloc (.cells decZ 164)).setRow w3.heap.size D1).setRow (w3.heap.size + 1) D2)
    generalize (((w3.alloc (.cells decZ 164)).alloc (.cells decZ 164)).setRow w3.heap.size D1).setRow (w3.heap.size + 1) D2 = w5 at hdec1 hdec2 hbn ⊢
    have hzo5 := hzo3.below hbn
    have hfz5 : FZ B w w5 := hfz3.trans (Fr.of_below hbn _)
    clear hbn hzo3 hfz3
    go_wp2_with fail
    refine (data_any s p2 most B zb _ _ out fixL fixD _ hzo5 hdec1 hdec2 (by rw [fix15.2.1]; decide) (by rw [fix15.2.2.2]; decide) hs hp2 hm ho).mono ?_
    rintro e w6 ⟨hok, hf6⟩
    have hfz6 := hfz5.trans hf6
    have hEE := HEE.out
    clear HEE hf6 hfz5 hzo5 hdec1 hdec2
    cases hr : datT fixL fixD most out (bitsAt s p2) with
    | error k =>
      rw [hr] at hok hEE
      obtain rfl := hok
      have HE : Hid (blkT most out (bitsAt s p) = .error k) := hEE
      have hk : ((k : Int) == 0) = false := beq_false_of_ne (by have := datT_err hr; omega)
      clear hr hEE
      by_cases hl : l = 1
      · have d1 : ((l : Int) == 1) = true := by simp; omega
        go_wp2_with fail
        go_ret2
        refine ⟨?_, hfz6⟩
        rw [HE.out]; rfl
      · have d1 : ((l : Int) == 1) = false := beq_false_of_ne (by omega)
        go_wp2_with fail
        go_ret2
        refine ⟨?_, hfz6⟩
        rw [HE.out]; rfl
    | ok ob =>
      obtain ⟨o, b9⟩ := ob
      rw [hr] at hok hEE
      obtain ⟨rfl, p9, hp9, rfl, hz9⟩ := hok
      have HE : Hid (blkT most out (bitsAt s p) = .ok (l == 1, o, bitsAt s p9)) := hEE
      clear hr hEE
      by_cases hl : l = 1
      · have d1 : ((l : Int) == 1) = true := by simp; omega
        have HL : Hid ((l == 1) = true) := by show _ = _; rw [hl]; rfl
        go_wp2_with fail
        go_ret2
        refine ⟨?_, hfz6⟩
        rw [HE.out, HL.out]
        exact ⟨rfl, p9, hp9, rfl, hz9⟩
      · have d1 : ((l : Int) == 1) = false := beq_false_of_ne (by omega)
        have HL : Hid ((l == 1) = false) := beq_false_of_ne hl
        go_wp2_with fail
        go_ret2
        refine ⟨?_, hfz6⟩
        rw [HE.out, HL.out]
        exact ⟨rfl, p9, hp9, rfl, hz9⟩
  rw [if_neg h1] at hEE
  have d1 : ((kd : Int) == 1) = false := beq_false_of_ne (by omega)
  by_cases h2 : kd = 2
  · rw [if_pos h2] at hEE
    subst h2
    have HEE := Lib.hid hEE
    clear hEE h0 d0 h1 d1
    go_wp2_with fail
    refine (dynamicCodes_any s p2 most zb v _ hz2 hs hp2).mono ?_
    rintro e w3 ⟨hok, hf3⟩
    have hfz3 := hfz2.trans (fz_of hf3 hB)
    have hrow3 := hf3.owns hrow2 (by decide)
    have hEE := HEE.out
    clear HEE hf3 hfz2 hrow2 hz2 hzo
    cases hdy : dynT (bitsAt s p2) with
    | error k =>
      rw [hdy] at hok hEE
      obtain rfl := hok
      have HE : Hid (blkT most out (bitsAt s p) = .error k) := hEE
      have hk := dynT_err hdy
      have hk1 : ((k : Int) != 0) = true := by simp; omega
      have hN1 := (Blk.new w3 164 decZ).alloc (.cells decZ 164)
      have hN2 := Blk.new_at (w := w3.alloc (.cells decZ 164)) (k := w3.heap.size + 1) (by simp) 164 decZ
      have HN1 := Lib.hid hN1
      have HN2 := Lib.hid hN2
      have hfz4 : FZ B w ((w3.alloc (.cells decZ 164)).alloc (.cells decZ 164)) := (hfz3.alloc _).alloc _
      have HF4 := Lib.hid hfz4
      clear hdy hEE hN1 hN2 hfz4 hfz3
      go_upto_region 16 with (first | refine wpList_store_same rfl 164 (.tmp 9) (.tmp 46) rfl rfl w3.heap.size decZ (by rfl) (by rfl) 164 (by exact HN1.out) decZ_inf decZ_one ?_ | refine wpList_store_same rfl 164 (.tmp 10) (.tmp 47) rfl rfl (w3.heap.size + 1) decZ (by rfl) (by rfl) 164 (by exact HN2.out) decZ_inf decZ_one ?_)
      have hfz4 := HF4.out
      clear HF4 HN1 HN2
      change Code.wp _ _ _ _ ((w3.alloc (.cells decZ 164)).alloc (.cells decZ 164))
      generalize (w3.alloc (.cells decZ 164)).alloc (.cells decZ 164) = w4 at hfz4 ⊢
      go_wp2_with fail
      go_ret2
      refine ⟨?_, hfz4⟩
      rw [HE.out]; rfl
    | ok db =>
      obtain ⟨⟨ll, dl⟩, b3⟩ := db
      have hsm := dyn_small hdy
      rw [hdy] at hok hEE
      obtain ⟨⟨u1, u2, rfl, hV1, hV2⟩, p3, hp3, rfl, hz3⟩ := hok
      simp only at hEE
      have hzo3 : ZO w3 B zb s p3 most out := ⟨v, hz3, hrow3, hB⟩
      have HEE := Lib.hid hEE
      clear hEE hdy hz3 hrow3
      obtain ⟨s1, rfl, hs1⟩ := hV1
      obtain ⟨s2, rfl, hs2⟩ := hV2
      have hN1 := (Blk.new w3 164 decZ).alloc (.cells decZ 164)
      have hN2 := Blk.new_at (w := w3.alloc (.cells decZ 164)) (k := w3.heap.size + 1) (by simp) 164 decZ
      have hN2' := hN2.setRow_ne (decC ll s1) (g := w3.heap.size) (by omega)
      have hdec1 : Dec ((((w3.alloc (.cells decZ 164)).alloc (.cells decZ 164)).setRow w3.heap.size (decC ll s1)).setRow (w3.heap.size + 1) (decC dl s2)) w3.heap.size ll :=
        ⟨s1, (hN1.setRow _).setRow_ne _ (by omega), (((hs1.alloc _).alloc _).setRow hN1 (by decide) _).setRow hN2' (by decide) _⟩
      have hdec2 : Dec ((((w3.alloc (.cells decZ 164)).alloc (.cells decZ 164)).setRow w3.heap.size (decC ll s1)).setRow (w3.heap.size + 1) (decC dl s2)) (w3.heap.size + 1) dl :=
        ⟨s2, hN2'.setRow _, (((hs2.alloc _).alloc _).setRow hN1 (by decide) _).setRow hN2' (by decide) _⟩
      have hbn : Below w3.heap.size w3 ((((w3.alloc (.cells decZ 164)).alloc (.cells decZ 164)).setRow w3.heap.size (decC ll s1)).setRow (w3.heap.size + 1) (decC dl s2)) :=
        below_setRow (below_setRow (((Below.refl _ _).alloc (Nat.le_refl _) _).alloc (by simp) _) (Nat.le_refl _) _) (by omega) _
      have i1 := decC_inf ll s1
      have o1 := decC_one ll s1 (irow_one hs1)
      have z1 : decZ.size = (decC ll s1).size := rfl
      have i2 := decC_inf dl s2
      have o2 := decC_one dl s2 (irow_one hs2)
      have z2 : decZ.size = (decC dl s2).size := rfl
      generalize decC ll s1 = D1 at *
      generalize decC dl s2 = D2 at *
      have HN1 := Lib.hid hN1
      have HN2 := Lib.hid hN2'
      have HDEC1 := Lib.hid hdec1
      have HDEC2 := Lib.hid hdec2
      have HBN := Lib.hid hbn
      have HI1 := Lib.hid i1
      have HO1 := Lib.hid o1
      have HZ1 := Lib.hid z1
      have HI2 := Lib.hid i2
      have HO2 := Lib.hid o2
      have HZ2 := Lib.hid z2
      clear hN1 hN2 hN2' hdec1 hdec2 hbn i1 o1 z1 i2 o2 z2 hs1 hs2
      go_upto_region 16 with (first | refine wpList_store_rowTo rfl 164 (.tmp 9) (.tmp 46) rfl rfl w3.heap.size D1 (by rfl) (by rfl) 164 _ (by exact HN1.out) (by exact HI1.out) (by exact HZ1.out) (by exact HO1.out) ?_ | refine wpList_store_rowTo rfl 164 (.tmp 10) (.tmp 47) rfl rfl (w3.heap.size + 1) D2 (by rfl) (by rfl) 164 _ (by exact HN2.out) (by exact HI2.out) (by exact HZ2.out) (by exact HO2.out) ?_)
      have hdec1 := HDEC1.out
      have hdec2 := HDEC2.out
      have hbn := HBN.out
      clear HDEC1 HDEC2 HBN HN1 HN2 HI1 HO1 HZ1 HI2 HO2 HZ2
      change Code.wp _ _ _ _ ((((w3.alloc (.cells decZ 164)).alloc (.cells decZ 164)).setRow w3.heap.size D1).setRow (w3.heap.size + 1) D2)
      generalize (((w3.alloc (.cells decZ 164)).alloc (.cells decZ 164)).setRow w3.heap.size D1).setRow (w3.heap.size + 1) D2 = w5 at hdec1 hdec2 hbn ⊢
      have hzo5 := hzo3.below hbn
      have hfz5 : FZ B w w5 := hfz3.trans (Fr.of_below hbn _)
      clear hbn hzo3 hfz3
      go_wp2_with fail
      refine (data_any s p3 most B zb _ _ out ll dl _ hzo5 hdec1 hdec2 hsm.1 hsm.2 hs hp3 hm ho).mono ?_
      rintro e w6 ⟨hok, hf6⟩
      have hfz6 := hfz5.trans hf6
      have hEE := HEE.out
      clear HEE hf6 hfz5 hzo5 hdec1 hdec2
      cases hr : datT ll dl most out (bitsAt s p3) with
      | error k =>
        rw [hr] at hok hEE
        obtain rfl := hok
        have HE : Hid (blkT most out (bitsAt s p) = .error k) := hEE
        have hk : ((k : Int) == 0) = false := beq_false_of_ne (by have := datT_err hr; omega)
        clear hr hEE
        by_cases hl : l = 1
        · have d1 : ((l : Int) == 1) = true := by simp; omega
          go_wp2_with fail
          go_ret2
          refine ⟨?_, hfz6⟩
          rw [HE.out]; rfl
        · have d1 : ((l : Int) == 1) = false := beq_false_of_ne (by omega)
          go_wp2_with fail
          go_ret2
          refine ⟨?_, hfz6⟩
          rw [HE.out]; rfl
      | ok ob =>
        obtain ⟨o, b9⟩ := ob
        rw [hr] at hok hEE
        obtain ⟨rfl, p9, hp9, rfl, hz9⟩ := hok
        have HE : Hid (blkT most out (bitsAt s p) = .ok (l == 1, o, bitsAt s p9)) := hEE
        clear hr hEE
        by_cases hl : l = 1
        · have d1 : ((l : Int) == 1) = true := by simp; omega
          have HL : Hid ((l == 1) = true) := by show _ = _; rw [hl]; rfl
          go_wp2_with fail
          go_ret2
          refine ⟨?_, hfz6⟩
          rw [HE.out, HL.out]
          exact ⟨rfl, p9, hp9, rfl, hz9⟩
        · have d1 : ((l : Int) == 1) = false := beq_false_of_ne (by omega)
          have HL : Hid ((l == 1) = false) := beq_false_of_ne hl
          go_wp2_with fail
          go_ret2
          refine ⟨?_, hfz6⟩
          rw [HE.out, HL.out]
          exact ⟨rfl, p9, hp9, rfl, hz9⟩
  rw [if_neg h2] at hEE
  have d2 : ((kd : Int) == 2) = false := beq_false_of_ne (by omega)
  have HE : Hid (blkT most out (bitsAt s p) = .error 4) := hEE
  clear hEE h0 h1 h2
  by_cases hl : l = 1
  · have d3 : ((l : Int) == 1) = true := by simp; omega
    go_wp2_with fail
    go_ret2
    refine ⟨?_, hfz2⟩
    rw [HE.out]; rfl
  · have d3 : ((l : Int) == 1) = false := beq_false_of_ne (by omega)
    go_wp2_with fail
    go_ret2
    refine ⟨?_, hfz2⟩
    rw [HE.out]; rfl
end Go.Proofs.YthbejefodelpkaaGreat
namespace Go.Proofs.YthbejefodelpkaaGreat
open Go.RowKit

theorem datGo_len (ll dl : List Nat) (most f : Nat) (out o : List UInt8) (b b' : List Bool) (ho : out.length ≤ most) (h : datGo ll dl most f out b = .ok (o, b')) : b'.length < b.length ∧ o.length ≤ most := by
  induction f generalizing out b with
  | zero => cases h
  | succ f ih =>
    unfold datGo at h
    split at h
    · cases h
    · rename_i s b1 hs
      have hl := symT_len hs
      split at h
      · split at h
        · cases h
        · have := ih _ _ (by simp; omega) h
          omega
      · split at h
        · cases h; exact ⟨hl, ho⟩
        · split at h
          · cases h
          · split at h
            · cases h
            · rename_i hm
              have h1 := matT_len hm
              have := ih _ _ h1.2 h
              omega
theorem blkT_len {most : Nat} {out o : List UInt8} {b b' : List Bool} {last : Bool} (ho : out.length ≤ most) (h : blkT most out b = .ok (last, o, b')) : b'.length < b.length ∧ o.length ≤ most := by
  unfold blkT at h
  split at h
  · cases h
  · rename_i l b1 h1
    have h1' := numT_ok h1
    have hb1 : b1.length + 1 ≤ b.length := by rw [h1'.2.1]; simp; omega
    split at h
    · cases h
    · rename_i k b2 h2
      have h2' := numT_ok h2
      have hb2 : b2.length ≤ b1.length := by rw [h2'.2.1]; simp
      split at h
      · cases h
      · rename_i o1 b3 h3
        cases h
        split at h3
        · unfold stoT at h3
          split at h3
          · cases h3
          · rename_i x b4 h4
            have h4' := numT_ok h4
            have hb4 : b4.length ≤ b2.length := by rw [h4'.2.1]; simp
            split at h3
            · cases h3
            · split at h3
              · cases h3
              · split at h3
                · cases h3
                · cases h3
                  rw [List.length_append, pack_length]
                  simp
                  omega
        · split at h3
          · have := datGo_len _ _ _ _ _ _ _ _ ho h3; omega
          · split at h3
            · split at h3
              · cases h3
              · rename_i ll dl b5 hd
                have hdl : b5.length ≤ b2.length := by
                  clear h3
                  rw [dyn0] at hd
                  split at hd
                  · cases hd
                  · rename_i e1
                    have f1 := numT_ok e1
                    unfold dyn1 at hd
                    split at hd
                    · cases hd
                    · rename_i e2
                      have f2 := numT_ok e2
                      unfold dyn2 at hd
                      split at hd
                      · cases hd
                      · rename_i e3
                        have f3 := numT_ok e3
                        unfold dyn3 at hd
                        split at hd
                        · cases hd
                        · split at hd
                          · cases hd
                          · rename_i e4
                            have f4 : ∀ r c b cl b', clGo r c b = .ok (cl, b') → b'.length ≤ b.length := by
                              intro r
                              induction r with
                              | nil => intro c b cl b' h; cases h; exact Nat.le_refl _
                              | cons o r ih =>
                                intro c b cl b' h
                                unfold clGo at h
                                split at h
                                · cases h
                                · rename_i g1
                                  have g2 := numT_ok g1
                                  have g3 := ih _ _ _ _ h
                                  rw [g2.2.1] at g3
                                  simp at g3
                                  omega
                            have f4 := f4 _ _ _ _ _ e4
                            unfold dyn4 at hd
                            split at hd
                            · cases hd
                            · split at hd
                              · cases hd
                              · rename_i e5
                                have f5 : ∀ cl n f acc b l b', lstGo cl n f acc b = .ok (l, b') → b'.length ≤ b.length := by
                                  intro cl n f
                                  induction f with
                                  | zero => intro acc b l b' h; cases h
                                  | succ f ih =>
                                    intro acc b l b' h
                                    unfold lstGo at h
                                    have num : ∀ b k x b2 acc2, numT b k = .ok (x, b2) → lstGo cl n f acc2 b2 = .ok (l, b') → b'.length ≤ b.length := by
                                      intro b k x b2 acc2 g1 g2
                                      have g3 := ih _ _ _ _ g2
                                      rw [(numT_ok g1).2.1] at g3
                                      simp at g3
                                      omega
                                    split at h
                                    · split at h
                                      · cases h; exact Nat.le_refl _
                                      · cases h
                                    · split at h
                                      · cases h
                                      · rename_i hs
                                        have hsl := symT_len hs
                                        split at h
                                        · split at h
                                          · cases h
                                          · split at h
                                            · cases h
                                            · rename_i g1; have := num _ _ _ _ _ g1 h; omega
                                        · split at h
                                          · split at h
                                            · cases h
                                            · rename_i g1; have := num _ _ _ _ _ g1 h; omega
                                          · split at h
                                            · split at h
                                              · cases h
                                              · rename_i g1; have := num _ _ _ _ _ g1 h; omega
                                            · have := ih _ _ _ _ h; omega
                                have f5 := f5 _ _ _ _ _ _ _ e5
                                split at hd
                                · cases hd
                                · split at hd
                                  · cases hd
                                    rw [f3.2.1, f2.2.1, f1.2.1] at f4
                                    simp at f4
                                    omega
                                  · cases hd
                have := datGo_len _ _ _ _ _ _ _ _ ho h3
                omega
            · cases h3
theorem blkT_err {most : Nat} {out : List UInt8} {b : List Bool} {k : Nat} (h : blkT most out b = .error k) : k ≠ 0 := by
  unfold blkT at h
  split at h
  · rename_i hs; cases h; exact numT_err hs
  · split at h
    · rename_i hs; cases h; exact numT_err hs
    · split at h
      · rename_i h3
        cases h
        split at h3
        · exact stoT_err h3
        · split at h3
          · exact datT_err h3
          · split at h3
            · split at h3
              · rename_i hs; cases h3; exact dynT_err hs
              · exact datT_err h3
            · cases h3; decide
      · cases h
def infR (n : Nat) (r : Except Nat (List UInt8 × List Bool)) : Except Nat (List UInt8 × Nat) :=
  match r with
  | .error e => .error e
  | .ok (o, b) => .ok (o, (8 * n - b.length + 7) / 8)
theorem infP_eq (most : Nat) (l : List UInt8) : infP most l = infR l.length (infGo most (8 * l.length + 1) [] (unp l)) := rfl
/-- The limit that counts. -/
def mostN (m : Int) : Nat := (min (max m 0) 1048576).toNat
theorem mostN_le (m : Int) : mostN m ≤ 1048576 := by unfold mostN; omega
def InfOk (r : Except Nat (List UInt8 × Nat)) (e : Ending) : Prop :=
  match r with
  | .error k => e = .returned (.tuple #[.string ⟨#[]⟩, .int .i64 0, .int .i64 k])
  | .ok (o, u) => e = .returned (.tuple #[.string ⟨o.toArray⟩, .int .i64 u, .int .i64 0])

set_option maxRecDepth 100000 in
set_option maxHeartbeats 8000000 in
theorem inflate_any (s : ByteArray) (m : Int) (w : World) (hs : s.size ≤ 1000000000000000) :
    Calls Tryz.prog 111 #[.string s, .int .i64 m] w fun e w' => InfOk (infP (mostN m) s.data.toList) e ∧ Below w.heap.size w w' := by
  have hM := mostN_le m
  obtain ⟨M, hMM⟩ : ∃ M, mostN m = M := ⟨_, rfl⟩
  have HMM := Lib.hid hMM
  rw [hMM] at hM ⊢
  have HM1 : Hid ((if 1048576 < if m < 0 then 0 else m then 1048576 else if m < 0 then 0 else m) = (M : Int)) := by
    show _ = _
    unfold mostN at hMM
    by_cases h1 : m < 0
    · rw [if_pos h1, if_neg (by decide)]; omega
    · rw [if_neg h1]
      split <;> omega
  have H0 : Hid (infGo M (8 * s.size + 1) [] (bitsAt s 0) = infGo M (8 * s.data.toList.length + 1) [] (unp s.data.toList)) := by
    show _ = _
    rw [show s.data.toList.length = s.size from by simp]
    rfl
  obtain ⟨r0, hr0⟩ : ∃ r0, infGo M (8 * s.data.toList.length + 1) [] (unp s.data.toList) = r0 := ⟨_, rfl⟩
  have HP : Hid (infP M s.data.toList = infR s.size r0) := by
    show _ = _
    rw [infP_eq, hr0, show s.data.toList.length = s.size from by simp]
  rw [hr0] at H0
  clear hr0 hMM
  have hz0 := Blk.new w 141 (zc s 0 M (.slice none 0 0))
  have HZ0 := Lib.hid hz0
  clear hz0
  have HB0 : Hid (Below w.heap.size w (w.alloc (.cells (zc s 0 M (.slice none 0 0)) 141))) := (Below.refl _ _).alloc (Nat.le_refl _) _
  have hsz : (w.alloc (.cells (zc s 0 M (.slice none 0 0)) 141)).heap.size = w.heap.size + 1 := by simp
  have HSZ := Lib.hid hsz
  clear hsz
  go_enter Tryz.func111, Tryz.ntmps111
  go_upto_block 0 with fail
  rw [HM1.out]
  generalize (if m < 0 then (0 : Int) else m) = m1
  have hz0 := HZ0.out
  have hb0 := HB0.out
  have hsz := HSZ.out
  clear HZ0 HB0 HM1 HSZ
  change Code.wp _ _ _ _ (w.alloc (.cells (zc s 0 M (.slice none 0 0)) 141))
  generalize w.alloc (.cells (zc s 0 M (.slice none 0 0)) 141) = w1 at hz0 hb0 hsz ⊢
  obtain ⟨zb, hzb⟩ : ∃ k, w.heap.size = k := ⟨_, rfl⟩
  rw [hzb] at hz0 hb0 ⊢
  have HZB := Lib.hid hzb
  clear hzb hsz
  have hzo0 : ZO w1 zb zb s 0 M [] := ⟨_, hz0, ⟨rfl, .inl ⟨rfl, rfl⟩⟩, Nat.le_refl _⟩
  clear hz0
  go_wp2_with fail
  go_loopg [8] (8 * s.size + 1) (fun k v8 wr => ∃ (q : Nat) (o : List UInt8), q ≤ 8 * s.size ∧ 8 * s.size - q < k ∧ o.length ≤ M ∧ Hid (infGo M k o (bitsAt s q) = r0) ∧ ZO wr zb zb s q M o ∧ Below zb w wr)
  case atStart => exact ⟨0, [], Nat.zero_le _, by omega, Nat.zero_le _, H0, hzo0, hb0⟩
  case round =>
    clear hzo0 hb0 H0
    obtain ⟨q, o, hq, hk, hol, hinf, hzo, hbw⟩ := hrel
    obtain ⟨f, hf⟩ : ∃ f, gk = f + 1 := ⟨gk - 1, by omega⟩
    have hii := hinf.out
    rw [hf] at hii
    unfold infGo at hii
    have HF := Lib.hid hf
    have hk2 : 8 * s.size - q ≤ f := by omega
    clear hf hinf hk
    have HII := Lib.hid hii
    clear hii
    go_wp2_with fail
    refine (block_any s q M zb zb o _ hzo hs hq hM hol).mono ?_
    rintro e w2 ⟨hok, hf2⟩
    have hle : zb ≤ wr.heap.size := by obtain ⟨v, h1, _, _⟩ := hzo; exact Nat.le_of_lt h1.lt
    have hb2 : Below zb w w2 := hbw.trans (hf2.below hle)
    have hii := HII.out
    clear HII hbw hf2 hzo hle
    cases hr : blkT M o (bitsAt s q) with
    | error k =>
      rw [hr] at hok hii
      obtain rfl := hok
      have HE : Hid (infP M s.data.toList = .error k) := by show _ = _; rw [HP.out, ← hii]; rfl
      have hk := blkT_err hr
      have hk1 : ((k : Int) != 0) = true := by simp; omega
      clear hr hii
      go_wp2_with fail
      go_ret3
      refine ⟨?_, by rw [HZB.out]; exact hb2⟩
      rw [HE.out]; rfl
    | ok lob =>
      obtain ⟨last, o2, b2⟩ := lob
      obtain ⟨hlen, hol2⟩ := blkT_len hol hr
      rw [hr] at hok hii
      obtain ⟨rfl, p2, hp2, rfl, hzo2⟩ := hok
      rw [bitsAt_length, bitsAt_length] at hlen
      simp only at hii
      clear hr
      cases last with
      | false =>
        have HE : Hid (infGo M f o2 (bitsAt s p2) = r0) := hii
        clear hii
        go_wp2_with fail
        go_roundg f
        case measure => have := HF.out; omega
        case rel => exact ⟨p2, o2, hp2, by omega, hol2, HE, hzo2, hb2⟩
      | true =>
        have HE : Hid (infP M s.data.toList = .ok (o2, (p2 + 7) / 8)) := by
          show _ = _
          rw [HP.out, ← hii]
          show Except.ok (o2, (8 * s.size - (bitsAt s p2).length + 7) / 8) = _
          rw [bitsAt_length]
          congr 3
          omega
        clear hii
        obtain ⟨v, hz3, hrow3, -⟩ := hzo2
        have k1 := hz3.cell 1
        have k3 := hz3.cell 3
        simp [zc] at k1 k3
        have hcv : ∀ n, (convert 54 9 v).run Tryz.prog (w2.drewN n) = .ok (.string ⟨o2.toArray⟩) (w2.drewN n) := fun n =>
          run_str_of Tryz.underlying54 Tryz.underlying5 Tryz.underlying9 (show BRow (w2.drewN n) zb 5 v o2 from hrow3)
        obtain ⟨u, hu⟩ : ∃ u, u = (p2 + 7) / 8 := ⟨_, rfl⟩
        have hu1 : ((p2 : Int) + 7) / 8 = (u : Int) := by omega
        rw [← hu] at HE
        clear hu
        go_wp2_with fail
        go_quiet (fail)
        clear hcv
        go_wp2_with fail
        go_ret3
        refine ⟨?_, by rw [HZB.out]; exact below_drewN hb2 _⟩
        rw [HE.out]
        show Ending.returned _ = Ending.returned _
        rw [← hu1]
        rfl
end Go.Proofs.YthbejefodelpkaaGreat
namespace Go.Proofs.YthbejefodelpkaaGreat
open Go.RowKit

/-- The first two bytes are no header. -/
def zHdr (c f : Nat) : Bool := decide (c % 16 ≠ 8) || decide (128 ≤ c) || decide ((256 * c + f) % 31 ≠ 0) || decide (f / 32 % 2 ≠ 0)
def be32 (l : List UInt8) : Nat := (l.getD 0 0).toNat * 16777216 + (l.getD 1 0).toNat * 65536 + (l.getD 2 0).toNat * 256 + (l.getD 3 0).toNat
/-- What is behind the stream decides. -/
def zliE (o rest : List UInt8) : Except Nat (List UInt8) :=
  if rest.length < 4 then .error 5 else if be32 rest ≠ adler o then .error 7 else if 4 < rest.length then .error 6 else .ok o
def zliP (most : Nat) (l : List UInt8) : Except Nat (List UInt8) :=
  if l.length < 2 then .error 5 else if zHdr (l.getD 0 0).toNat (l.getD 1 0).toNat then .error 4 else
  match infP most (l.drop 2) with
  | .error e => .error e
  | .ok (o, u) => zliE o (l.drop (2 + u))
theorem infP_used {most : Nat} {l o : List UInt8} {u : Nat} (h : infP most l = .ok (o, u)) : u ≤ l.length := by
  unfold infP at h
  split at h
  · cases h
  · cases h; omega
theorem infGo_len (most f : Nat) (out o : List UInt8) (b b' : List Bool) (ho : out.length ≤ most) (h : infGo most f out b = .ok (o, b')) : o.length ≤ most ∧ b'.length < b.length := by
  induction f generalizing out b with
  | zero => cases h
  | succ f ih =>
    unfold infGo at h
    split at h
    · cases h
    · rename_i hb
      have h1 := blkT_len ho hb
      split at h
      · cases h; exact ⟨h1.2, h1.1⟩
      · have := ih _ _ h1.2 h; omega
theorem infP_len {most : Nat} {l o : List UInt8} {u : Nat} (h : infP most l = .ok (o, u)) : o.length ≤ most := by
  unfold infP at h
  split at h
  · cases h
  · rename_i hb
    cases h
    exact (infGo_len _ _ _ _ _ _ (Nat.zero_le _) hb).1
theorem infGo_err (most f : Nat) (out : List UInt8) (b : List Bool) (k : Nat) (hf : b.length < f) (ho : out.length ≤ most) (h : infGo most f out b = .error k) : k ≠ 0 := by
  induction f generalizing out b with
  | zero => omega
  | succ f ih =>
    unfold infGo at h
    split at h
    · rename_i hb; cases h; exact blkT_err hb
    · rename_i hb
      have h1 := blkT_len ho hb
      split at h
      · cases h
      · exact ih _ _ (by omega) h1.2 h
theorem infP_err {most : Nat} {l : List UInt8} {k : Nat} (h : infP most l = .error k) : k ≠ 0 := by
  unfold infP at h
  split at h
  · rename_i hb
    cases h
    exact infGo_err _ _ _ _ _ (by rw [unp_length]; omega) (Nat.zero_le _) hb
  · cases h
theorem and32 (f : Nat) (h : f < 256) : bits .and .i64 (f : Int) 32 = ((f / 32 % 2 * 32 : Nat) : Int) := by
  have key : ∀ y : Fin 256, bits .and .i64 (y.val : Int) 32 = ((y.val / 32 % 2 * 32 : Nat) : Int) := by decide +kernel
  exact key ⟨f, h⟩
theorem or_nat32 (a b : Nat) (ha : a < 4294967296) (hb : b < 4294967296) : bits .or .u32 (a : Int) (b : Int) = ((a ||| b : Nat) : Int) := by
  have hx : a ||| b < 2 ^ 32 := Nat.or_lt_two_pow (by omega) (by omega)
  have h1 : ∀ a : Nat, a < 4294967296 → (BitVec.ofInt 32 (a : Int)).toNat = a := fun a ha => by
    rw [BitVec.ofInt_natCast, BitVec.toNat_ofNat]; exact Nat.mod_eq_of_lt (by omega)
  show IntKind.u32.wrap ((BitVec.ofInt 32 (a : Int) ||| BitVec.ofInt 32 (b : Int)).toNat : Int) = _
  rw [BitVec.toNat_or, h1 a ha, h1 b hb, IntKind.wrap_u32]
  omega
theorem or_hi32 (a b k : Nat) (hb : b < 2 ^ k) (ha : a * 2 ^ k < 4294967296) (hb2 : b < 4294967296) : bits .or .u32 ((a * 2 ^ k : Nat) : Int) (b : Int) = ((a * 2 ^ k + b : Nat) : Int) := by
  rw [or_nat32 _ _ ha hb2, Nat.mul_comm, Nat.two_pow_add_eq_or_of_lt hb]
theorem or_be (r0 r1 r2 r3 : Nat) (h0 : r0 < 256) (h1 : r1 < 256) (h2 : r2 < 256) (h3 : r3 < 256) :
    bits .or .u32 (bits .or .u32 (bits .or .u32 ((r0 : Int) * 16777216) ((r1 : Int) * 65536)) ((r2 : Int) * 256)) (r3 : Int) = ((r0 * 16777216 + r1 * 65536 + r2 * 256 + r3 : Nat) : Int) := by
  have e1 : (r0 : Int) * 16777216 = ((r0 * 2 ^ 24 : Nat) : Int) := by simp
  have e2 : (r1 : Int) * 65536 = ((r1 * 65536 : Nat) : Int) := by simp
  have e3 : (r2 : Int) * 256 = ((r2 * 256 : Nat) : Int) := by simp
  have p24 : (2 : Nat) ^ 24 = 16777216 := by decide
  have p16 : (2 : Nat) ^ 16 = 65536 := by decide
  have p8 : (2 : Nat) ^ 8 = 256 := by decide
  rw [e1, e2, or_hi32 r0 (r1 * 65536) 24 (by omega) (by omega) (by omega)]
  rw [show r0 * 2 ^ 24 + r1 * 65536 = (r0 * 256 + r1) * 2 ^ 16 from by omega, e3, or_hi32 (r0 * 256 + r1) (r2 * 256) 16 (by omega) (by omega) (by omega)]
  rw [show (r0 * 256 + r1) * 2 ^ 16 + r2 * 256 = (r0 * 65536 + r1 * 256 + r2) * 2 ^ 8 from by omega, or_hi32 _ r3 8 (by omega) (by omega) (by omega), show (r0 * 65536 + r1 * 256 + r2) * 2 ^ 8 + r3 = r0 * 16777216 + r1 * 65536 + r2 * 256 + r3 from by omega]
def ZlOk (r : Except Nat (List UInt8)) (e : Ending) : Prop :=
  match r with
  | .error k => e = .returned (.tuple #[.string ⟨#[]⟩, .int .i64 k])
  | .ok o => e = .returned (.tuple #[.string ⟨o.toArray⟩, .int .i64 0])

set_option maxRecDepth 100000 in
set_option maxHeartbeats 8000000 in
theorem izlib_any (s : ByteArray) (m : Int) (w : World) (hs : s.size ≤ 1000000000000000) :
    Calls Tryz.prog 87 #[.string s, .int .i64 m] w fun e w' => ZlOk (zliP (mostN m) s.data.toList) e ∧ Below w.heap.size w w' := by
  have hsl : s.data.toList.length = s.size := by simp
  have hP : zliP (mostN m) s.data.toList = if s.size < 2 then .error 5 else if zHdr (s.data.toList.getD 0 0).toNat (s.data.toList.getD 1 0).toNat then .error 4 else
    match infP (mostN m) (s.data.toList.drop 2) with
    | .error e => .error e
    | .ok (o, u) => zliE o (s.data.toList.drop (2 + u)) := by rw [← hsl]; rfl
  clear hsl
  by_cases h2 : s.size < 2
  · rw [if_pos h2] at hP
    have HE := Lib.hid hP
    have d1 : decide ((s.size : Int) < 2) = true := by simp; omega
    clear hP
    go_enter Tryz.func87, Tryz.ntmps87
    go_wp2_with fail
    go_ret2
    refine ⟨?_, Below.refl _ _⟩
    rw [HE.out]; rfl
  rw [if_neg h2] at hP
  have d1 : decide ((s.size : Int) < 2) = false := by simp; omega
  have hs0 : 0 < s.size := by omega
  have hs1 : 1 < s.size := by omega
  have g0 := byte_at s 0 hs0
  have g1 := byte_at s 1 hs1
  rw [← g0, ← g1] at hP
  clear g0 g1
  have z0 : (0 : Int) < (s.size : Int) := by omega
  have z1 : (1 : Int) < (s.size : Int) := by omega
  have lc := (s[0]).toNat_lt
  have lf := (s[1]).toNat_lt
  have HP := Lib.hid hP
  clear hP h2
  go_enter Tryz.func87, Tryz.ntmps87
  go_wp2_with fail
  go_quiet (fail)
  revert nq; intro na
  generalize (s[0]).toNat = c at *
  generalize (s[1]).toNat = f at *
  go_upto_region 4 with fail
  have hb0 : Below w.heap.size w (w.drewN na) := below_drewN (Below.refl _ _) na
  generalize w.drewN na = w1 at hb0 ⊢
  obtain ⟨A, hA⟩ : ∃ A, A = c % 16 := ⟨_, rfl⟩
  obtain ⟨E, hE⟩ : ∃ E, E = (256 * c + f) % 31 := ⟨_, rfl⟩
  obtain ⟨G, hG⟩ : ∃ G, G = f / 32 % 2 * 32 := ⟨_, rfl⟩
  have a1 : (c : Int) % 16 = (A : Int) := by omega
  have a3 : (256 * (c : Int) + (f : Int)) % 31 = (E : Int) := by omega
  have a5 : bits .and .i64 (f : Int) 32 = (G : Int) := by rw [and32 f lf, hG]
  have HH : Hid (zHdr c f = (decide (A ≠ 8) || decide (128 ≤ c) || decide (E ≠ 0) || decide (G ≠ 0))) := by
    show _ = _
    unfold zHdr
    rw [← hA, ← hE]
    congr 1
    have : (f / 32 % 2 ≠ 0) = (G ≠ 0) := by apply propext; omega
    simp only [this]
  clear hA hE hG
  by_cases c1 : A = 8
  · have d2 : ((A : Int) != 8) = false := by simp; omega
    by_cases c2 : 128 ≤ c
    · have d3 : decide ((128 : Int) ≤ (c : Int)) = true := by simp; omega
      have HE : Hid (zliP (mostN m) s.data.toList = .error 4) := by show _ = _; rw [HP.out, HH.out, if_pos (by simp [c2])]
      clear HP HH
      go_wp2_with fail
      go_ret2
      refine ⟨?_, hb0⟩
      rw [HE.out]; rfl
    have d3 : decide ((128 : Int) ≤ (c : Int)) = false := by simp; omega
    by_cases c3 : E = 0
    · have d4 : ((E : Int) != 0) = false := by simp; omega
      by_cases c4 : G = 0
      · have d5 : ((G : Int) != 0) = false := by simp; omega
        have HP2 : Hid (zliP (mostN m) s.data.toList = match infP (mostN m) (s.data.toList.drop 2) with
            | .error e => .error e
            | .ok (o, u) => zliE o (s.data.toList.drop (2 + u))) := by show _ = _; rw [HP.out, HH.out, if_neg (by simp [c1, c2, c3, c4])]
        clear HP HH c1 c2 c3 c4
        go_wp2_with fail
        clear d2 d3 d4 d5 a1 a3 a5 z0 z1
        have hex : (s.extract 2 s.size).data.toList = s.data.toList.drop 2 := by rw [extract_list, List.take_of_length_le (by simp)]
        have hexs : (s.extract 2 s.size).size ≤ 1000000000000000 := by rw [ByteArray.size_extract]; omega
        refine (inflate_any (s.extract 2 s.size) m _ hexs).mono ?_
        rintro e w2 ⟨hok, hb2⟩
        rw [hex] at hok
        have hbb : Below w.heap.size w w2 := bthen hb0 hb2
        have hP2 := HP2.out
        clear HP2 hex hexs hb0 hb2
        cases hi : infP (mostN m) (s.data.toList.drop 2) with
        | error k =>
          rw [hi] at hok hP2
          obtain rfl := hok
          have HE : Hid (zliP (mostN m) s.data.toList = .error k) := hP2
          have hk : k ≠ 0 := infP_err hi
          have hk1 : ((k : Int) != 0) = true := by simp; omega
          clear hP2 hi
          go_wp2_with fail
          go_ret2
          refine ⟨?_, hbb⟩
          rw [HE.out]; rfl
        | ok ou =>
          obtain ⟨o, u⟩ := ou
          have hu := infP_used hi
          have hol := infP_len hi
          have hM := mostN_le m
          rw [hi] at hok hP2
          obtain rfl := hok
          simp only at hP2
          rw [List.length_drop] at hu
          have hu2 : 2 + u ≤ s.size := by have : s.data.toList.length = s.size := by simp
                                          omega
          obtain ⟨K, hK⟩ : ∃ K, K = 2 + u := ⟨_, rfl⟩
          rw [← hK] at hP2 hu2
          have hRl : (s.extract K s.size).data.toList = s.data.toList.drop K := by rw [extract_list, List.take_of_length_le (by simp)]
          rw [← hRl] at hP2
          have hRs : (s.extract K s.size).size = s.size - K := by rw [ByteArray.size_extract]; omega
          have e1 : 2 + (u : Int) = (K : Int) := by omega
          have e2 : IntKind.i64.wrap (2 + (u : Int)) = (K : Int) := by rw [IntKind.wrap_i64]; omega
          have e3 : (K : Int) ≤ (s.size : Int) := by omega
          have e4 : (0 : Int) ≤ (K : Int) := by omega
          obtain ⟨R, hR⟩ : ∃ R, s.extract K s.size = R := ⟨_, rfl⟩
          rw [hR] at hP2 hRs
          have HR := Lib.hid hR
          have hRb : R.size ≤ 1000000000000000 := by omega
          have HRS := Lib.hid hRs
          have HP3 := Lib.hid hP2
          have HK := Lib.hid hK
          clear hP2 hi hRl hR hK hRs
          go_upto_region 10 with fail
          rw [HR.out]
          have hP3 := HP3.out
          clear HP3 e1 e2 e3 e4
          have hRn : R.data.toList.length = R.size := by simp
          unfold zliE at hP3
          rw [hRn] at hP3
          clear hRn
          by_cases h4 : R.size < 4
          · rw [if_pos h4] at hP3
            have HE := Lib.hid hP3
            have d2 : decide ((R.size : Int) < 4) = true := by simp; omega
            clear hP3
            go_wp2_with fail
            go_ret2
            refine ⟨?_, hbb⟩
            rw [HE.out]; rfl
          rw [if_neg h4] at hP3
          have d2 : decide ((R.size : Int) < 4) = false := by simp; omega
          have n0 : 0 < R.size := by omega
          have n1 : 1 < R.size := by omega
          have n2 : 2 < R.size := by omega
          have n3 : 3 < R.size := by omega
          have hbe : be32 R.data.toList = (R[0]).toNat * 16777216 + (R[1]).toNat * 65536 + (R[2]).toNat * 256 + (R[3]).toNat := by
            unfold be32
            rw [byte_at R 0 n0, byte_at R 1 n1, byte_at R 2 n2, byte_at R 3 n3]
          rw [hbe] at hP3
          clear hbe
          have l0 := (R[0]).toNat_lt
          have l1 := (R[1]).toNat_lt
          have l2 := (R[2]).toNat_lt
          have l3 := (R[3]).toNat_lt
          have y0 : (0 : Int) < (R.size : Int) := by omega
          have y1 : (1 : Int) < (R.size : Int) := by omega
          have y2 : (2 : Int) < (R.size : Int) := by omega
          have y3 : (3 : Int) < (R.size : Int) := by omega
          have HP3 := Lib.hid hP3
          clear hP3
          go_wp2_with fail
          go_quiet (fail)
          generalize (R[0]).toNat = r0 at *
          generalize (R[1]).toNat = r1 at *
          generalize (R[2]).toNat = r2 at *
          generalize (R[3]).toNat = r3 at *
          go_upto_region 13 with fail
          have hor := or_be r0 r1 r2 r3 l0 l1 l2 l3
          rw [hor]
          have hbb2 : Below w.heap.size w (w2.drewN nq) := below_drewN hbb nq
          generalize w2.drewN nq = w3 at hbb2 ⊢
          obtain ⟨V, hV⟩ : ∃ V, r0 * 16777216 + r1 * 65536 + r2 * 256 + r3 = V := ⟨_, rfl⟩
          rw [hV] at HP3 ⊢
          have hVb : V < 4294967296 := by omega
          have hP3 := HP3.out
          clear HP3 hor hV hbb l0 l1 l2 l3 y0 y1 y2 y3
          have hos : (⟨o.toArray⟩ : ByteArray).size ≤ maxLen := by unfold maxLen; show o.toArray.size ≤ _; simp; omega
          have hca := adler_any ⟨o.toArray⟩ w3 hos
          rw [show (⟨o.toArray⟩ : ByteArray).data.toList = o from by simp] at hca
          have HCA := Lib.hid hca
          clear hca hos
          obtain ⟨q, hq⟩ : ∃ q, adler o = q := ⟨_, rfl⟩
          rw [hq] at HCA hP3
          have HP3 := Lib.hid hP3
          clear hP3 hq
          obtain ⟨ob, hob⟩ : ∃ ob, (⟨o.toArray⟩ : ByteArray) = ob := ⟨_, rfl⟩
          have HOB : Hid (Value.string ob = .string ⟨o.toArray⟩) := by show _ = _; rw [hob]
          rw [hob] at HCA ⊢
          clear hob
          go_wp2_with fail
          refine HCA.out.mono ?_
          rintro e w4 ⟨rfl, rfl⟩
          clear HCA
          have hP3 := HP3.out
          clear HP3
          by_cases hne : V = q
          · rw [if_neg (by omega)] at hP3
            have d3 : ((V : Int) != (q : Int)) = false := by simp; omega
            by_cases h5 : 4 < R.size
            · rw [if_pos h5] at hP3
              have HE := Lib.hid hP3
              have d4 : decide ((4 : Int) < (R.size : Int)) = true := by simp; omega
              clear hP3 hne
              go_wp2_with fail
              go_ret2
              refine ⟨?_, hbb2⟩
              rw [HE.out]; rfl
            · rw [if_neg h5] at hP3
              have HE := Lib.hid hP3
              have d4 : decide ((4 : Int) < (R.size : Int)) = false := by simp; omega
              clear hP3 hne
              go_wp2_with fail
              go_ret2
              refine ⟨?_, hbb2⟩
              rw [HE.out]
              show Ending.returned (.tuple #[.string ob, .int .i64 0]) = _
              rw [HOB.out]
          · rw [if_pos hne] at hP3
            have HE := Lib.hid hP3
            have d3 : ((V : Int) != (q : Int)) = true := by simp; omega
            clear hP3 hne
            go_wp2_with fail
            go_ret2
            refine ⟨?_, hbb2⟩
            rw [HE.out]; rfl
      · have d5 : ((G : Int) != 0) = true := by simp; omega
        have HE : Hid (zliP (mostN m) s.data.toList = .error 4) := by show _ = _; rw [HP.out, HH.out, if_pos (by simp [c4])]
        clear HP HH
        go_wp2_with fail
        go_ret2
        refine ⟨?_, hb0⟩
        rw [HE.out]; rfl
    · have d4 : ((E : Int) != 0) = true := by simp; omega
      have HE : Hid (zliP (mostN m) s.data.toList = .error 4) := by show _ = _; rw [HP.out, HH.out, if_pos (by simp [c3])]
      clear HP HH
      go_wp2_with fail
      go_ret2
      refine ⟨?_, hb0⟩
      rw [HE.out]; rfl
  · have d2 : ((A : Int) != 8) = true := by simp; omega
    have HE : Hid (zliP (mostN m) s.data.toList = .error 4) := by show _ = _; rw [HP.out, HH.out, if_pos (by simp [c1])]
    clear HP HH
    go_wp2_with fail
    go_ret2
    refine ⟨?_, hb0⟩
    rw [HE.out]; rfl
end Go.Proofs.YthbejefodelpkaaGreat
