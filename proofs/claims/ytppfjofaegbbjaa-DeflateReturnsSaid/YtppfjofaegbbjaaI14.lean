/-
  Walk: a block, in the program.
-/
import Derived.Test.YtppfjofaegbbjaaI13
import Derived.Test.YtppfjofaegbbjaaI8
namespace Go.Proofs.Ytppfjofaegbbjaa
open Go.RowKit

theorem ZO.below {w w' : World} {B zb : Nat} {s : ByteArray} {p most : Nat} {out : List UInt8} (h : ZO w B zb s p most out) (hb : Below w.heap.size w w') : ZO w' B zb s p most out := by
  obtain ⟨v, hz, hr, hB⟩ := h
  exact ⟨v, (Fr.of_below (B := 0) hb []).blk hz (by simp), (Fr.of_below (B := 0) hb []).owns hr (by simp), hB⟩
theorem datGo_err (ll dl : List Nat) (most f : Nat) (out : List UInt8) (b : List Bool) (k : Nat) (hf : b.length < f) (h : datGo ll dl most f out b = .error k) : k ≠ 0 := by
  induction f generalizing out b with
  | zero => omega
  | succ f ih =>
    unfold datGo at h
    split at h
    · rename_i hs; cases h; exact symT_err hs
    · rename_i s b1 hs
      have hl := symT_len hs
      split at h
      · split at h
        · cases h; decide
        · exact ih _ _ (by omega) h
      · split at h
        · cases h
        · split at h
          · cases h; decide
          · split at h
            · rename_i hs; cases h; exact matT_err hs
            · rename_i hm
              have := matT_len hm
              exact ih _ _ (by omega) h
theorem datT_err {ll dl : List Nat} {most : Nat} {out : List UInt8} {b : List Bool} {k : Nat} (h : datT ll dl most out b = .error k) : k ≠ 0 := datGo_err _ _ _ _ _ _ _ (by omega) h
theorem stoT_err {most : Nat} {out : List UInt8} {b : List Bool} {k : Nat} (h : stoT most out b = .error k) : k ≠ 0 := by
  unfold stoT at h
  split at h
  · rename_i hs; cases h; exact numT_err hs
  · split at h
    · cases h; decide
    · split at h
      · cases h; decide
      · split at h <;> cases h
        decide
/-- What a block promises. -/
def BlkOk (s : ByteArray) (most B zb : Nat) (r : Except Nat (Bool × List UInt8 × List Bool)) (e : Ending) (w : World) : Prop :=
  match r with
  | .error k => e = .returned (.tuple #[.bool false, .int .i64 k])
  | .ok (last, o, b) => e = .returned (.tuple #[.bool last, .int .i64 0]) ∧ ∃ p, p ≤ 8 * s.size ∧ b = bitsAt s p ∧ ZO w B zb s p most o
theorem dyn_small {b b' : List Bool} {ll dl : List Nat} (h : dynT b = .ok ((ll, dl), b')) : ll.length ≤ 400 ∧ dl.length ≤ 400 := by
  rw [dyn0] at h
  split at h
  · cases h
  · rename_i x b1 h1
    have hx := (numT_ok h1).2.2.2
    unfold dyn1 at h
    split at h
    · cases h
    · rename_i y b2 h2
      have hy := (numT_ok h2).2.2.2
      unfold dyn2 at h
      split at h
      · cases h
      · unfold dyn3 at h
        split at h
        · cases h
        · split at h
          · cases h
          · rename_i cl b4 hcl
            unfold dyn4 at h
            split at h
            · cases h
            · split at h
              · cases h
              · rename_i all b5 hl
                have hln : all.length = x + 257 + y + 1 := by
                  clear h
                  have key : ∀ f acc b, lstGo cl (x + 257 + y + 1) f acc b = .ok (all, b5) → all.length = x + 257 + y + 1 := by
                    intro f
                    induction f with
                    | zero => intro acc b h; cases h
                    | succ f ih =>
                      intro acc b h
                      unfold lstGo at h
                      split at h
                      · split at h
                        · rename_i h1; cases h; exact h1
                        · cases h
                      · split at h
                        · cases h
                        · split at h
                          · split at h
                            · cases h
                            · split at h
                              · cases h
                              · exact ih _ _ h
                          · split at h
                            · split at h
                              · cases h
                              · exact ih _ _ h
                            · split at h
                              · split at h
                                · cases h
                                · exact ih _ _ h
                              · exact ih _ _ h
                  exact key _ _ _ hl
                split at h
                · cases h
                · split at h
                  · cases h
                    simp at hx hy
                    simp
                    omega
                  · cases h

set_option maxRecDepth 100000 in
set_option maxHeartbeats 8000000 in
theorem block_any (s : ByteArray) (p most B zb : Nat) (out : List UInt8) (w : World) (hz : ZO w B zb s p most out) (hs : s.size ≤ 1000000000000000) (hp : p ≤ 8 * s.size) (hm : most ≤ 1048576) (ho : out.length ≤ most) :
    Calls Try.prog 41 #[.pointer (some ⟨zb, 0, none⟩)] w fun e w' => BlkOk s most B zb (blkT most out (bitsAt s p)) e w' ∧ FZ B w w' := by
  obtain ⟨v, hzb, hrow, hB⟩ := hz
  have HM : Hid (blkT most out (bitsAt s p) = match numT (bitsAt s p) 1 with
    | .error e => .error e
    | .ok (l, b1) => match numT b1 2 with
      | .error e => .error e
      | .ok (k, b2) =>
        match (if k = 0 then stoT most out b2 else if k = 1 then datT fixL fixD most out b2 else if k = 2 then (match dynT b2 with | .error e => .error e | .ok ((ll, dl), b3) => datT ll dl most out b3) else .error 4) with
        | .error e => .error e
        | .ok (o, b3) => .ok (l == 1, o, b3)) := rfl
  go_enter Try.func41, Try.ntmps41
  go_wp2_with fail
  refine (number_any s p 1 most zb v _ hzb hs hp (by decide)).mono ?_
  rintro e w1 ⟨hok, hf1⟩
  have hst := hok.st hp
  have hfz1 := fz_of hf1 hB
  have hrow1 := hf1.owns hrow (by decide)
  have hEE := HM.out
  clear hok hrow hzb HM hf1
  cases hn1 : numT (bitsAt s p) 1 with
  | error k =>
    rw [hn1] at hst hEE
    obtain ⟨rfl, -⟩ := hst
    have HE : Hid (blkT most out (bitsAt s p) = .error k) := hEE
    have hk := numT_err hn1
    have hk1 : ((k : Int) != 0) = true := by simp; omega
    clear hn1 hEE
    go_wp2_with fail
    go_ret2
    refine ⟨?_, hfz1⟩
    rw [HE.out]; rfl
  | ok lb =>
  obtain ⟨l, b1⟩ := lb
  rw [hn1] at hst hEE
  obtain ⟨rfl, p1, hp1, rfl, hz1⟩ := hst
  simp only at hEE
  have HEE := Lib.hid hEE
  clear hEE hn1
  go_wp2_with fail
  refine (number_any s p1 2 most zb v _ hz1 hs hp1 (by decide)).mono ?_
  rintro e w2 ⟨hok, hf2⟩
  have hst := hok.st hp1
  have hfz2 := hfz1.trans (fz_of hf2 hB)
  have hrow2 := hf2.owns hrow1 (by decide)
  have hEE := HEE.out
  clear hok hrow1 hz1 HEE hf2 hfz1
  cases hn2 : numT (bitsAt s p1) 2 with
  | error k =>
    rw [hn2] at hst hEE
    obtain ⟨rfl, -⟩ := hst
    have HE : Hid (blkT most out (bitsAt s p) = .error k) := hEE
    have hk := numT_err hn2
    have hk1 : ((k : Int) != 0) = true := by simp; omega
    clear hn2 hEE
    go_wp2_with fail
    go_ret2
    refine ⟨?_, hfz2⟩
    rw [HE.out]; rfl
  | ok kb =>
  obtain ⟨kd, b2⟩ := kb
  have hkd := (numT_ok hn2).2.2.2
  rw [hn2] at hst hEE
  obtain ⟨rfl, p2, hp2, rfl, hz2⟩ := hst
  simp only at hEE hkd
  have hzo : ZO w2 B zb s p2 most out := ⟨v, hz2, hrow2, hB⟩
  clear hn2
  by_cases h0 : kd = 0
  · rw [if_pos h0] at hEE
    subst h0
    have HEE := Lib.hid hEE
    clear hEE
    go_wp2_with fail
    refine (stored_any s p2 most B zb out _ hzo hs hp2 hm ho).mono ?_
    rintro e w3 ⟨hok, hf3⟩
    have hfz3 := hfz2.trans hf3
    have hEE := HEE.out
    clear HEE hf3 hfz2 hzo hz2 hrow2
    cases hr : stoT most out (bitsAt s p2) with
    | error k =>
      rw [hr] at hok hEE
      obtain rfl := hok
      have HE : Hid (blkT most out (bitsAt s p) = .error k) := hEE
      have hk : ((k : Int) == 0) = false := beq_false_of_ne (by have := stoT_err hr; omega)
      clear hr hEE
      by_cases hl : l = 1
      · have d1 : ((l : Int) == 1) = true := by simp; omega
        go_wp2_with fail
        go_ret2
        refine ⟨?_, hfz3⟩
        rw [HE.out]; rfl
      · have d1 : ((l : Int) == 1) = false := beq_false_of_ne (by omega)
        go_wp2_with fail
        go_ret2
        refine ⟨?_, hfz3⟩
        rw [HE.out]; rfl
    | ok ob =>
      obtain ⟨o, b9⟩ := ob
      rw [hr] at hok hEE
      obtain ⟨rfl, p9, hp9, rfl, hz9⟩ := hok
      have HE : Hid (blkT most out (bitsAt s p) = .ok (l == 1, o, bitsAt s p9)) := hEE
      clear hr hEE
      by_cases hl : l = 1
      · have d1 : ((l : Int) == 1) = true := by simp; omega
        have HL : Hid ((l == 1) = true) := by show _ = _; rw [hl]; rfl
        go_wp2_with fail
        go_ret2
        refine ⟨?_, hfz3⟩
        rw [HE.out, HL.out]
        exact ⟨rfl, p9, hp9, rfl, hz9⟩
      · have d1 : ((l : Int) == 1) = false := beq_false_of_ne (by omega)
        have HL : Hid ((l == 1) = false) := beq_false_of_ne hl
        go_wp2_with fail
        go_ret2
        refine ⟨?_, hfz3⟩
        rw [HE.out, HL.out]
        exact ⟨rfl, p9, hp9, rfl, hz9⟩
  rw [if_neg h0] at hEE
  have d0 : ((kd : Int) == 0) = false := beq_false_of_ne (by omega)
  by_cases h1 : kd = 1
  · rw [if_pos h1] at hEE
    subst h1
    have HEE := Lib.hid hEE
    clear hEE h0 d0
    go_wp2_with fail
    refine (fixedCodes_any _).mono ?_
    rintro e w3 ⟨⟨u1, u2, rfl, hV1, hV2⟩, hb3⟩
    have hzo3 := hzo.below hb3
    have hfz3 : FZ B w w3 := hfz2.trans (Fr.of_below hb3 _)
    clear hb3 hzo hz2 hrow2 hfz2
    obtain ⟨s1, rfl, hs1⟩ := hV1
    obtain ⟨s2, rfl, hs2⟩ := hV2
    have hN1 := (Blk.new w3 69 decZ).alloc (.cells decZ 69)
    have hN2 := Blk.new_at (w := w3.alloc (.cells decZ 69)) (k := w3.heap.size + 1) (by simp) 69 decZ
    have hN2' := hN2.setRow_ne (decC fixL s1) (g := w3.heap.size) (by omega)
    have hdec1 : Dec ((((w3.alloc (.cells decZ 69)).alloc (.cells decZ 69)).setRow w3.heap.size (decC fixL s1)).setRow (w3.heap.size + 1) (decC fixD s2)) w3.heap.size fixL :=
      ⟨s1, (hN1.setRow _).setRow_ne _ (by omega), (((hs1.alloc _).alloc _).setRow hN1 (by decide) _).setRow hN2' (by decide) _⟩
    have hdec2 : Dec ((((w3.alloc (.cells decZ 69)).alloc (.cells decZ 69)).setRow w3.heap.size (decC fixL s1)).setRow (w3.heap.size + 1) (decC fixD s2)) (w3.heap.size + 1) fixD :=
      ⟨s2, hN2'.setRow _, (((hs2.alloc _).alloc _).setRow hN1 (by decide) _).setRow hN2' (by decide) _⟩
    have hbn : Below w3.heap.size w3 ((((w3.alloc (.cells decZ 69)).alloc (.cells decZ 69)).setRow w3.heap.size (decC fixL s1)).setRow (w3.heap.size + 1) (decC fixD s2)) :=
      below_setRow (below_setRow (((Below.refl _ _).alloc (Nat.le_refl _) _).alloc (by simp) _) (Nat.le_refl _) _) (by omega) _
    have i1 := decC_inf fixL s1
    have o1 := decC_one fixL s1 (irow_one hs1)
    have z1 : decZ.size = (decC fixL s1).size := rfl
    have i2 := decC_inf fixD s2
    have o2 := decC_one fixD s2 (irow_one hs2)
    have z2 : decZ.size = (decC fixD s2).size := rfl
    generalize decC fixL s1 = D1 at *
    generalize decC fixD s2 = D2 at *
    have HN1 := Lib.hid hN1
    have HN2 := Lib.hid hN2'
    have HDEC1 := Lib.hid hdec1
    have HDEC2 := Lib.hid hdec2
    have HBN := Lib.hid hbn
    have HI1 := Lib.hid i1
    have HO1 := Lib.hid o1
    have HZ1 := Lib.hid z1
    have HI2 := Lib.hid i2
    have HO2 := Lib.hid o2
    have HZ2 := Lib.hid z2
    clear hN1 hN2 hN2' hdec1 hdec2 hbn i1 o1 z1 i2 o2 z2 hs1 hs2
    go_upto_region 13 with (first | refine wpList_store_rowTo rfl 69 (.tmp 7) (.tmp 37) rfl rfl w3.heap.size D1 (by rfl) (by rfl) 69 _ (by exact HN1.out) (by exact HI1.out) (by exact HZ1.out) (by exact HO1.out) ?_ | refine wpList_store_rowTo rfl 69 (.tmp 8) (.tmp 38) rfl rfl (w3.heap.size + 1) D2 (by rfl) (by rfl) 69 _ (by exact HN2.out) (by exact HI2.out) (by exact HZ2.out) (by exact HO2.out) ?_)
    have hdec1 := HDEC1.out
    have hdec2 := HDEC2.out
    have hbn := HBN.out
    clear HDEC1 HDEC2 HBN HN1 HN2 HI1 HO1 HZ1 HI2 HO2 HZ2
    change Code.wp _ _ _ _ ((((w3.alloc (.cells decZ 69)).alloc (.cells decZ 69)).setRow w3.heap.size D1).setRow (w3.heap.size + 1) D2)
    generalize (((w3.alloc (.cells decZ 69)).alloc (.cells decZ 69)).setRow w3.heap.size D1).setRow (w3.heap.size + 1) D2 = w5 at hdec1 hdec2 hbn ⊢
    have hzo5 := hzo3.below hbn
    have hfz5 : FZ B w w5 := hfz3.trans (Fr.of_below hbn _)
    clear hbn hzo3 hfz3
    go_wp2_with fail
    refine (data_any s p2 most B zb _ _ out fixL fixD _ hzo5 hdec1 hdec2 (by rw [fix15.2.1]; decide) (by rw [fix15.2.2.2]; decide) hs hp2 hm ho).mono ?_
    rintro e w6 ⟨hok, hf6⟩
    have hfz6 := hfz5.trans hf6
    have hEE := HEE.out
    clear HEE hf6 hfz5 hzo5 hdec1 hdec2
    cases hr : datT fixL fixD most out (bitsAt s p2) with
    | error k =>
      rw [hr] at hok hEE
      obtain rfl := hok
      have HE : Hid (blkT most out (bitsAt s p) = .error k) := hEE
      have hk : ((k : Int) == 0) = false := beq_false_of_ne (by have := datT_err hr; omega)
      clear hr hEE
      by_cases hl : l = 1
      · have d1 : ((l : Int) == 1) = true := by simp; omega
        go_wp2_with fail
        go_ret2
        refine ⟨?_, hfz6⟩
        rw [HE.out]; rfl
      · have d1 : ((l : Int) == 1) = false := beq_false_of_ne (by omega)
        go_wp2_with fail
        go_ret2
        refine ⟨?_, hfz6⟩
        rw [HE.out]; rfl
    | ok ob =>
      obtain ⟨o, b9⟩ := ob
      rw [hr] at hok hEE
      obtain ⟨rfl, p9, hp9, rfl, hz9⟩ := hok
      have HE : Hid (blkT most out (bitsAt s p) = .ok (l == 1, o, bitsAt s p9)) := hEE
      clear hr hEE
      by_cases hl : l = 1
      · have d1 : ((l : Int) == 1) = true := by simp; omega
        have HL : Hid ((l == 1) = true) := by show _ = _; rw [hl]; rfl
        go_wp2_with fail
        go_ret2
        refine ⟨?_, hfz6⟩
        rw [HE.out, HL.out]
        exact ⟨rfl, p9, hp9, rfl, hz9⟩
      · have d1 : ((l : Int) == 1) = false := beq_false_of_ne (by omega)
        have HL : Hid ((l == 1) = false) := beq_false_of_ne hl
        go_wp2_with fail
        go_ret2
        refine ⟨?_, hfz6⟩
        rw [HE.out, HL.out]
        exact ⟨rfl, p9, hp9, rfl, hz9⟩
  rw [if_neg h1] at hEE
  have d1 : ((kd : Int) == 1) = false := beq_false_of_ne (by omega)
  by_cases h2 : kd = 2
  · rw [if_pos h2] at hEE
    subst h2
    have HEE := Lib.hid hEE
    clear hEE h0 d0 h1 d1
    go_wp2_with fail
    refine (dynamicCodes_any s p2 most zb v _ hz2 hs hp2).mono ?_
    rintro e w3 ⟨hok, hf3⟩
    have hfz3 := hfz2.trans (fz_of hf3 hB)
    have hrow3 := hf3.owns hrow2 (by decide)
    have hEE := HEE.out
    clear HEE hf3 hfz2 hrow2 hz2 hzo
    cases hdy : dynT (bitsAt s p2) with
    | error k =>
      rw [hdy] at hok hEE
      obtain rfl := hok
      have HE : Hid (blkT most out (bitsAt s p) = .error k) := hEE
      have hk := dynT_err hdy
      have hk1 : ((k : Int) != 0) = true := by simp; omega
      have hN1 := (Blk.new w3 69 decZ).alloc (.cells decZ 69)
      have hN2 := Blk.new_at (w := w3.alloc (.cells decZ 69)) (k := w3.heap.size + 1) (by simp) 69 decZ
      have HN1 := Lib.hid hN1
      have HN2 := Lib.hid hN2
      have hfz4 : FZ B w ((w3.alloc (.cells decZ 69)).alloc (.cells decZ 69)) := (hfz3.alloc _).alloc _
      have HF4 := Lib.hid hfz4
      clear hdy hEE hN1 hN2 hfz4 hfz3
      go_upto_region 16 with (first | refine wpList_store_same rfl 69 (.tmp 9) (.tmp 46) rfl rfl w3.heap.size decZ (by rfl) (by rfl) 69 (by exact HN1.out) decZ_inf decZ_one ?_ | refine wpList_store_same rfl 69 (.tmp 10) (.tmp 47) rfl rfl (w3.heap.size + 1) decZ (by rfl) (by rfl) 69 (by exact HN2.out) decZ_inf decZ_one ?_)
      have hfz4 := HF4.out
      clear HF4 HN1 HN2
      change Code.wp _ _ _ _ ((w3.alloc (.cells decZ 69)).alloc (.cells decZ 69))
      generalize (w3.alloc (.cells decZ 69)).alloc (.cells decZ 69) = w4 at hfz4 ⊢
      go_wp2_with fail
      go_ret2
      refine ⟨?_, hfz4⟩
      rw [HE.out]; rfl
    | ok db =>
      obtain ⟨⟨ll, dl⟩, b3⟩ := db
      have hsm := dyn_small hdy
      rw [hdy] at hok hEE
      obtain ⟨⟨u1, u2, rfl, hV1, hV2⟩, p3, hp3, rfl, hz3⟩ := hok
      simp only at hEE
      have hzo3 : ZO w3 B zb s p3 most out := ⟨v, hz3, hrow3, hB⟩
      have HEE := Lib.hid hEE
      clear hEE hdy hz3 hrow3
      obtain ⟨s1, rfl, hs1⟩ := hV1
      obtain ⟨s2, rfl, hs2⟩ := hV2
      have hN1 := (Blk.new w3 69 decZ).alloc (.cells decZ 69)
      have hN2 := Blk.new_at (w := w3.alloc (.cells decZ 69)) (k := w3.heap.size + 1) (by simp) 69 decZ
      have hN2' := hN2.setRow_ne (decC ll s1) (g := w3.heap.size) (by omega)
      have hdec1 : Dec ((((w3.alloc (.cells decZ 69)).alloc (.cells decZ 69)).setRow w3.heap.size (decC ll s1)).setRow (w3.heap.size + 1) (decC dl s2)) w3.heap.size ll :=
        ⟨s1, (hN1.setRow _).setRow_ne _ (by omega), (((hs1.alloc _).alloc _).setRow hN1 (by decide) _).setRow hN2' (by decide) _⟩
      have hdec2 : Dec ((((w3.alloc (.cells decZ 69)).alloc (.cells decZ 69)).setRow w3.heap.size (decC ll s1)).setRow (w3.heap.size + 1) (decC dl s2)) (w3.heap.size + 1) dl :=
        ⟨s2, hN2'.setRow _, (((hs2.alloc _).alloc _).setRow hN1 (by decide) _).setRow hN2' (by decide) _⟩
      have hbn : Below w3.heap.size w3 ((((w3.alloc (.cells decZ 69)).alloc (.cells decZ 69)).setRow w3.heap.size (decC ll s1)).setRow (w3.heap.size + 1) (decC dl s2)) :=
        below_setRow (below_setRow (((Below.refl _ _).alloc (Nat.le_refl _) _).alloc (by simp) _) (Nat.le_refl _) _) (by omega) _
      have i1 := decC_inf ll s1
      have o1 := decC_one ll s1 (irow_one hs1)
      have z1 : decZ.size = (decC ll s1).size := rfl
      have i2 := decC_inf dl s2
      have o2 := decC_one dl s2 (irow_one hs2)
      have z2 : decZ.size = (decC dl s2).size := rfl
      generalize decC ll s1 = D1 at *
      generalize decC dl s2 = D2 at *
      have HN1 := Lib.hid hN1
      have HN2 := Lib.hid hN2'
      have HDEC1 := Lib.hid hdec1
      have HDEC2 := Lib.hid hdec2
      have HBN := Lib.hid hbn
      have HI1 := Lib.hid i1
      have HO1 := Lib.hid o1
      have HZ1 := Lib.hid z1
      have HI2 := Lib.hid i2
      have HO2 := Lib.hid o2
      have HZ2 := Lib.hid z2
      clear hN1 hN2 hN2' hdec1 hdec2 hbn i1 o1 z1 i2 o2 z2 hs1 hs2
      go_upto_region 16 with (first | refine wpList_store_rowTo rfl 69 (.tmp 9) (.tmp 46) rfl rfl w3.heap.size D1 (by rfl) (by rfl) 69 _ (by exact HN1.out) (by exact HI1.out) (by exact HZ1.out) (by exact HO1.out) ?_ | refine wpList_store_rowTo rfl 69 (.tmp 10) (.tmp 47) rfl rfl (w3.heap.size + 1) D2 (by rfl) (by rfl) 69 _ (by exact HN2.out) (by exact HI2.out) (by exact HZ2.out) (by exact HO2.out) ?_)
      have hdec1 := HDEC1.out
      have hdec2 := HDEC2.out
      have hbn := HBN.out
      clear HDEC1 HDEC2 HBN HN1 HN2 HI1 HO1 HZ1 HI2 HO2 HZ2
      change Code.wp _ _ _ _ ((((w3.alloc (.cells decZ 69)).alloc (.cells decZ 69)).setRow w3.heap.size D1).setRow (w3.heap.size + 1) D2)
      generalize (((w3.alloc (.cells decZ 69)).alloc (.cells decZ 69)).setRow w3.heap.size D1).setRow (w3.heap.size + 1) D2 = w5 at hdec1 hdec2 hbn ⊢
      have hzo5 := hzo3.below hbn
      have hfz5 : FZ B w w5 := hfz3.trans (Fr.of_below hbn _)
      clear hbn hzo3 hfz3
      go_wp2_with fail
      refine (data_any s p3 most B zb _ _ out ll dl _ hzo5 hdec1 hdec2 hsm.1 hsm.2 hs hp3 hm ho).mono ?_
      rintro e w6 ⟨hok, hf6⟩
      have hfz6 := hfz5.trans hf6
      have hEE := HEE.out
      clear HEE hf6 hfz5 hzo5 hdec1 hdec2
      cases hr : datT ll dl most out (bitsAt s p3) with
      | error k =>
        rw [hr] at hok hEE
        obtain rfl := hok
        have HE : Hid (blkT most out (bitsAt s p) = .error k) := hEE
        have hk : ((k : Int) == 0) = false := beq_false_of_ne (by have := datT_err hr; omega)
        clear hr hEE
        by_cases hl : l = 1
        · have d1 : ((l : Int) == 1) = true := by simp; omega
          go_wp2_with fail
          go_ret2
          refine ⟨?_, hfz6⟩
          rw [HE.out]; rfl
        · have d1 : ((l : Int) == 1) = false := beq_false_of_ne (by omega)
          go_wp2_with fail
          go_ret2
          refine ⟨?_, hfz6⟩
          rw [HE.out]; rfl
      | ok ob =>
        obtain ⟨o, b9⟩ := ob
        rw [hr] at hok hEE
        obtain ⟨rfl, p9, hp9, rfl, hz9⟩ := hok
        have HE : Hid (blkT most out (bitsAt s p) = .ok (l == 1, o, bitsAt s p9)) := hEE
        clear hr hEE
        by_cases hl : l = 1
        · have d1 : ((l : Int) == 1) = true := by simp; omega
          have HL : Hid ((l == 1) = true) := by show _ = _; rw [hl]; rfl
          go_wp2_with fail
          go_ret2
          refine ⟨?_, hfz6⟩
          rw [HE.out, HL.out]
          exact ⟨rfl, p9, hp9, rfl, hz9⟩
        · have d1 : ((l : Int) == 1) = false := beq_false_of_ne (by omega)
          have HL : Hid ((l == 1) = false) := beq_false_of_ne hl
          go_wp2_with fail
          go_ret2
          refine ⟨?_, hfz6⟩
          rw [HE.out, HL.out]
          exact ⟨rfl, p9, hp9, rfl, hz9⟩
  rw [if_neg h2] at hEE
  have d2 : ((kd : Int) == 2) = false := beq_false_of_ne (by omega)
  have HE : Hid (blkT most out (bitsAt s p) = .error 4) := hEE
  clear hEE h0 h1 h2
  by_cases hl : l = 1
  · have d3 : ((l : Int) == 1) = true := by simp; omega
    go_wp2_with fail
    go_ret2
    refine ⟨?_, hfz2⟩
    rw [HE.out]; rfl
  · have d3 : ((l : Int) == 1) = false := beq_false_of_ne (by omega)
    go_wp2_with fail
    go_ret2
    refine ⟨?_, hfz2⟩
    rw [HE.out]; rfl
end Go.Proofs.Ytppfjofaegbbjaa
