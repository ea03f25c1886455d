/-
  Walk: the next symbol, in the program.
  Walks: sums and counts of code lengths, in the program.
  Walks: bases and extra bits of lengths and distances, in the program and in the reference.
-/
import Derived.Test.YthbejefodelpkaaGreatZD
import Derived.Laws.Tables
namespace Go.Proofs.YthbejefodelpkaaGreat
open Go.RowKit

theorem cnt_le (ls : List Nat) (n : Nat) : cntC ls n ≤ ls.length := by
  unfold cntC
  split
  · omega
  · exact List.count_le_length
theorem endC_bound (ls : List Nat) (n : Nat) : endC ls n + ls.length ≤ ls.length * 2 ^ (n + 1) := by
  induction n with
  | zero => unfold endC fstC cntC; simp; omega
  | succ n ih =>
    have e : endC ls (n + 1) = 2 * endC ls n + cntC ls (n + 1) := rfl
    have := cnt_le ls (n + 1)
    rw [e, Nat.pow_succ, ← Nat.mul_assoc]
    omega
theorem endC_small (ls : List Nat) (n : Nat) (hl : ls.length ≤ 400) (hn : n ≤ 15) : endC ls n ≤ 26214400 := by
  have h1 := endC_bound ls n
  have h2 : 2 ^ (n + 1) ≤ 2 ^ 16 := Nat.pow_le_pow_right (by omega) (by omega)
  have h3 : ls.length * 2 ^ (n + 1) ≤ 400 * 2 ^ 16 := Nat.mul_le_mul hl h2
  have h4 : (400 : Nat) * 2 ^ 16 = 26214400 := by decide
  omega
/-- How many codes have at most n bits. -/
def idxC (ls : List Nat) : Nat → Nat
  | 0 => 0
  | n + 1 => idxC ls n + cntC ls (n + 1)
/-- The symbols in the order of their codes, those of at most n bits. -/
def allC (ls : List Nat) : Nat → List Nat
  | 0 => []
  | n + 1 => allC ls n ++ symsC ls (n + 1)
theorem allC_length (ls : List Nat) (n : Nat) : (allC ls n).length = idxC ls n := by
  induction n with
  | zero => rfl
  | succ n ih => rw [allC, List.length_append, ih, symsC_length _ _ (by omega)]; rfl
theorem allC_get (ls : List Nat) (n k m : Nat) (hn : n < m) (hk : k < cntC ls (n + 1)) : (allC ls m)[idxC ls n + k]? = some ((symsC ls (n + 1)).getD k 0) := by
  induction m with
  | zero => omega
  | succ m ih =>
    by_cases h : n = m
    · subst h
      rw [allC, List.getElem?_append_right (by rw [allC_length]; omega), allC_length, Nat.add_sub_cancel_left]
      have : k < (symsC ls (n + 1)).length := by rw [symsC_length _ _ (by omega)]; exact hk
      simp [List.getD, this]
    · have := ih (by omega)
      rw [allC, List.getElem?_append_left (List.getElem?_eq_some_iff.1 this).1]
      exact this
theorem idxC_mono (ls : List Nat) (n k : Nat) : idxC ls n ≤ idxC ls (n + k) := by
  induction k with
  | zero => exact Nat.le_refl _
  | succ k ih => rw [← Nat.add_assoc, idxC]; omega
theorem idxC_le (ls : List Nat) (n m : Nat) (h : n ≤ m) : idxC ls n ≤ idxC ls m := by
  have := idxC_mono ls n (m - n)
  rwa [show n + (m - n) = m from by omega] at this

/-- The slice value v reads as the numbers l, in a block of integers. -/
def IRow (w : World) (v : Value) (l : List Nat) : Prop :=
  ∃ x c, v = .slice x l.length c ∧ l.length ≤ c ∧ c ≤ maxLen ∧ (l ≠ [] → ∃ g off cs, x = some ⟨g, off, none⟩ ∧ Blk w g 3 cs ∧ ∀ j (h : j < l.length), cs[off + j]? = some (.int .i64 (l[j] : Int)))
theorem IRow.fr {w w' : World} {B : Nat} {T : List TypeId} {v : Value} {l : List Nat} (h : IRow w v l) (hf : Fr B T w w') (hT : 3 ∉ T) : IRow w' v l := by
  obtain ⟨x, c, rfl, h1, h2, h3⟩ := h
  refine ⟨x, c, rfl, h1, h2, fun hne => ?_⟩
  obtain ⟨g, off, cs, rfl, hb, hc⟩ := h3 hne
  exact ⟨g, off, cs, rfl, hf.blk hb hT, hc⟩
def lastC (ls : List Nat) : Nat := endC ls (lngC ls 15) - 1
def decC (ls : List Nat) (sv : Value) : Array Value :=
  #[.int .i64 (cntC ls 0 : Nat), .int .i64 (cntC ls 1 : Nat), .int .i64 (cntC ls 2 : Nat), .int .i64 (cntC ls 3 : Nat), .int .i64 (cntC ls 4 : Nat), .int .i64 (cntC ls 5 : Nat), .int .i64 (cntC ls 6 : Nat), .int .i64 (cntC ls 7 : Nat),
    .int .i64 (cntC ls 8 : Nat), .int .i64 (cntC ls 9 : Nat), .int .i64 (cntC ls 10 : Nat), .int .i64 (cntC ls 11 : Nat), .int .i64 (cntC ls 12 : Nat), .int .i64 (cntC ls 13 : Nat), .int .i64 (cntC ls 14 : Nat), .int .i64 (cntC ls 15 : Nat),
    sv, .int .i64 (lngC ls 15 : Nat), .int .i64 (lastC ls : Nat)]
/-- The block db is the decoder of the lengths ls. -/
def Dec (w : World) (db : Nat) (ls : List Nat) : Prop := ∃ sv, Blk w db 164 (decC ls sv) ∧ IRow w sv (allC ls 15)
theorem Dec.fr {w w' : World} {B : Nat} {T : List TypeId} {db : Nat} {ls : List Nat} (h : Dec w db ls) (hf : Fr B T w w') (hT : 3 ∉ T) (hT2 : 164 ∉ T) : Dec w' db ls := by
  obtain ⟨sv, hb, hr⟩ := h
  exact ⟨sv, hf.blk hb hT2, hr.fr hf hT⟩
theorem dec_cnt (ls : List Nat) (sv : Value) (n : Nat) (h : n ≤ 15) : (decC ls sv)[n]? = some (.int .i64 (cntC ls n : Nat)) := by
  match n, h with
  | 0, _ => rfl
  | 1, _ => rfl
  | 2, _ => rfl
  | 3, _ => rfl
  | 4, _ => rfl
  | 5, _ => rfl
  | 6, _ => rfl
  | 7, _ => rfl
  | 8, _ => rfl
  | 9, _ => rfl
  | 10, _ => rfl
  | 11, _ => rfl
  | 12, _ => rfl
  | 13, _ => rfl
  | 14, _ => rfl
  | 15, _ => rfl

/-- What reading promises: the number, and the bits that are left; or the error. -/
def StOk (s : ByteArray) (most zb : Nat) (v : Value) (r : Except Nat (Nat × List Bool)) (e : Ending) (w : World) : Prop :=
  match r with
  | .error k => e = .returned (.tuple #[.int .i64 0, .int .i64 k]) ∧ ∃ p, p ≤ 8 * s.size ∧ Blk w zb 141 (zc s p most v)
  | .ok (x, b) => e = .returned (.tuple #[.int .i64 x, .int .i64 0]) ∧ ∃ p, p ≤ 8 * s.size ∧ b = bitsAt s p ∧ Blk w zb 141 (zc s p most v)
theorem NumOk.st {s : ByteArray} {p n most zb : Nat} {v : Value} {e : Ending} {w : World} (h : NumOk s p n most zb v e w) (hp : p ≤ 8 * s.size) : StOk s most zb v (numT (bitsAt s p) n) e w := by
  unfold NumOk at h
  cases hn : numT (bitsAt s p) n with
  | error k => rw [hn] at h; exact ⟨h.1, p, hp, h.2⟩
  | ok x =>
    obtain ⟨x, b⟩ := x
    rw [hn] at h
    obtain ⟨h1, h2, _⟩ := numT_ok hn
    rw [bitsAt_length] at h1
    exact ⟨h.1, p + n, by omega, by rw [h2, bitsAt_drop], h.2⟩
theorem numT_one (x : Bool) (b : List Bool) : numT (x :: b) 1 = .ok (x.toNat, b) := by
  unfold numT
  rw [if_neg (by simp)]
  simp [byteOf]
theorem numT_nil : numT [] 1 = .error 5 := rfl
theorem or_bit (c x : Nat) (hc : c < 1073741824) (hx : x ≤ 1) : bits .or .i64 ((c : Int) * 2) (x : Int) = ((2 * c + x : Nat) : Int) := by
  have e : (c : Int) * 2 = ((c * 2 : Nat) : Int) := by simp
  rw [e, or_nat _ _ (by omega) (by omega)]
  have := Nat.two_pow_add_eq_or_of_lt (i := 1) (b := x) (show x < 2 ^ 1 by omega) c
  rw [Nat.pow_one] at this
  rw [Nat.mul_comm c 2, ← this]

set_option maxRecDepth 100000 in
set_option maxHeartbeats 8000000 in
theorem symbol_any (s : ByteArray) (p most zb db : Nat) (v : Value) (ls : List Nat) (w : World) (hz : Blk w zb 141 (zc s p most v)) (hd : Dec w db ls) (hl : ls.length ≤ 400) (hs : s.size ≤ 1000000000000000) (hp : p ≤ 8 * s.size) :
    Calls Tryz.prog 169 #[.pointer (some ⟨zb, 0, none⟩), .pointer (some ⟨db, 0, none⟩)] w fun e w' => StOk s most zb v (symT ls (bitsAt s p)) e w' ∧ Fr zb [141] w w' := by
  have hL := lngC_le ls 15
  obtain ⟨L, hLL⟩ : ∃ L, lngC ls 15 = L := ⟨_, rfl⟩
  rw [hLL] at hL
  have HLL := Lib.hid hLL
  have HSY : Hid (symT ls (bitsAt s p) = symGo ls L 0 0 (bitsAt s p)) := by show _ = _; unfold symT; rw [hLL]
  clear hLL
  go_enter Tryz.func169, Tryz.ntmps169
  go_wp2_with fail
  go_loopw [6, 7, 8, 9] (fun v6 v7 v8 v9 wr => ∃ m c q : Nat, v9 = .int .i64 ((m : Int) + 1) ∧ m ≤ L ∧ v6 = .int .i64 c ∧ c < 2 ^ m ∧ endC ls m ≤ c ∧ v7 = .int .i64 (fstC ls (m + 1) : Nat) ∧ v8 = .int .i64 (idxC ls m : Nat) ∧ q ≤ 8 * s.size ∧
      Hid (symT ls (bitsAt s p) = symGo ls (L - m) m c (bitsAt s q)) ∧ Blk wr zb 141 (zc s q most v) ∧ Fr zb [141] w wr) (fun _ _ _ v9 _ => 20 - (intOf v9).toNat)
  case atStart => exact ⟨0, 0, p, rfl, Nat.zero_le _, rfl, by decide, Nat.le_refl _, rfl, rfl, hp, HSY, hz, Fr.refl _ _ _⟩
  case round =>
    clear HSY hz
    obtain ⟨m, c, q, rfl, hm, rfl, hc, he, rfl, rfl, hq, hsy, hzr, hfr⟩ := hrel
    have hdr := hd.fr hfr (by decide) (by decide)
    obtain ⟨sv, hdb, hir⟩ := hdr
    have k17 : wr.cell? ⟨db, 17, none⟩ = some (.int .i64 (L : Nat)) := by rw [hdb.cell 17, ← HLL.out]; rfl
    by_cases hmL : m < L
    · have d1 : decide ((m : Int) + 1 ≤ (L : Int)) = true := by simp; omega
      go_wp2_with fail
      refine (number_any s q 1 most zb v _ hzr hs hq (by decide)).mono ?_
      rintro e w1 ⟨hok, hf1⟩
      have hst := hok.st hq
      have hdb1 := hf1.blk hdb (by decide)
      have hir1 := hir.fr hf1 (by decide)
      have hfr1 := hfr.trans hf1
      clear hok hf1 hdb hir hfr hzr k17
      have hsg := hsy.out
      rw [show L - m = (L - (m + 1)) + 1 from by omega] at hsg
      cases hb : bitsAt s q with
      | nil =>
        rw [hb] at hst hsg
        rw [numT_nil] at hst
        obtain ⟨rfl, p1, hp1, hz1⟩ := hst
        have HE : Hid (symT ls (bitsAt s p) = .error 5) := hsg
        clear hsg hb hsy
        go_wp2_with fail
        go_ret2
        refine ⟨?_, hfr1⟩
        rw [HE.out]
        exact ⟨rfl, p1, hp1, hz1⟩
      | cons x b =>
        rw [hb] at hst hsg
        rw [numT_one] at hst
        obtain ⟨rfl, p1, hp1, hb1, hz1⟩ := hst
        have hxx : x.toNat ≤ 1 := by cases x <;> decide
        have hsmall := endC_small ls (m + 1) hl (by omega)
        have hF : fstC ls (m + 1) ≤ 2 * c + x.toNat := by rw [fstC_succ]; omega
        have hE1 : endC ls (m + 1) = fstC ls (m + 1) + cntC ls (m + 1) := rfl
        have hEL := endC_small ls L hl (by omega)
        have hlast : lastC ls = endC ls L - 1 := by unfold lastC; rw [HLL.out]
        have hELp : 0 < endC ls L := by
          have h1 := lngC_pos ls 15 (by rw [HLL.out]; omega)
          rw [HLL.out] at h1
          unfold endC; omega
        have hc15 : c < 32768 := Nat.lt_of_lt_of_le hc (by have : 2 ^ m ≤ 2 ^ 15 := Nat.pow_le_pow_right (by omega) (by omega); simpa using this)
        have hor := or_bit c x.toNat (by omega) hxx
        have kc : w1.cell? ⟨db, m + 1, none⟩ = some (.int .i64 (cntC ls (m + 1) : Nat)) := by rw [hdb1.cell (m + 1), dec_cnt ls sv (m + 1) (by omega)]
        have k16 : w1.cell? ⟨db, 16, none⟩ = some sv := hdb1.cell 16
        have k17 : w1.cell? ⟨db, 17, none⟩ = some (.int .i64 (L : Nat)) := by rw [hdb1.cell 17, ← HLL.out]; rfl
        have k18 : w1.cell? ⟨db, 18, none⟩ = some (.int .i64 (lastC ls : Nat)) := hdb1.cell 18
        have hidx := idxC_le ls (m + 1) 15 (by omega)
        have hidx1 : idxC ls (m + 1) = idxC ls m + cntC ls (m + 1) := rfl
        have hall := allC_length ls 15
        have hcnt := cnt_le ls (m + 1)
        have hget := fun k hk => allC_get ls m k 15 (by omega) hk
        have hF2 : fstC ls (m + 2) = 2 * endC ls (m + 1) := rfl
        unfold symGo at hsg
        obtain ⟨K, hK⟩ : ∃ K, K = 2 * c + x.toNat := ⟨_, rfl⟩
        rw [← hK] at hsg hF hor
        have hK2 : K < 2 ^ (m + 1) := by rw [Nat.pow_succ]; omega
        have hKs : K < 65536 := by omega
        have hidb : idxC ls 15 ≤ 400 * 15 := by
          have : ∀ n, idxC ls n ≤ 400 * n := by
            intro n
            induction n with
            | zero => exact Nat.le_refl _
            | succ n ih => have := cnt_le ls (n + 1); unfold idxC; omega
          exact this 15
        clear hK hsy
        by_cases hin : K < endC ls (m + 1)
        · rw [if_pos hin] at hsg
          have hsym := hget (K - fstC ls (m + 1)) (by omega)
          obtain ⟨J, hJ⟩ : ∃ J, J = idxC ls m + (K - fstC ls (m + 1)) := ⟨_, rfl⟩
          rw [← hJ] at hsym
          have hJl : J < (allC ls 15).length := (List.getElem?_eq_some_iff.1 hsym).1
          have hJg := (List.getElem?_eq_some_iff.1 hsym).2
          obtain ⟨xs, cs0, rfl, hr1, hr2, hr3⟩ := hir1
          obtain ⟨g, off, cs, rfl, hbg, hcell⟩ := hr3 (by intro h; rw [h] at hJl; simp at hJl)
          have kj : w1.cell? ⟨g, off + J, none⟩ = some (.int .i64 ((symsC ls (m + 1)).getD (K - fstC ls (m + 1)) 0 : Nat)) := by
            rw [hbg.cell (off + J), hcell J hJl, hJg]
          rw [hJ] at kj
          have HSG := Lib.hid hsg
          generalize (symsC ls (m + 1)).getD (K - fstC ls (m + 1)) 0 = sym at *
          rw [show idxC ls m + (K - fstC ls (m + 1)) = idxC ls m + K - fstC ls (m + 1) from by omega] at kj
          have hJ2 : idxC ls m + K - fstC ls (m + 1) < (allC ls 15).length := by omega
          clear hsg hsym hJg hcell hr3 hget hbg hJ hJl hF2 hlast k17 k18
          generalize (allC ls 15).length = AL at *
          generalize fstC ls (m + 1) = F at *
          generalize idxC ls m = I at *
          generalize cntC ls (m + 1) = C at *
          have d2 : decide ((K : Int) - (F : Int) < (C : Int)) = true := by simp; omega
          unfold maxLen at hr2
          go_wp2_with fail
          go_ret2
          refine ⟨?_, hfr1⟩
          rw [HSG.out]
          exact ⟨rfl, p1, hp1, hb1, hz1⟩
        · rw [if_neg hin] at hsg
          rw [HLL.out] at hsg
          obtain ⟨D, hD⟩ : ∃ D, D = L - (m + 1) := ⟨_, rfl⟩
          rw [← hD] at hsg
          have hdiv : endC ls L ≤ K * 2 ^ D ↔ lastC ls / 2 ^ D < K := by
            rw [Nat.div_lt_iff_lt_mul (Nat.two_pow_pos _), hlast]; omega
          obtain ⟨Q, hQ⟩ : ∃ Q, Q = lastC ls / 2 ^ D := ⟨_, rfl⟩
          have hQi : (lastC ls : Int) / 2 ^ D = (Q : Int) := by rw [hQ]; simp
          rw [← hQ] at hdiv
          have hls : lastC ls ≤ 26214400 := by omega
          have hQs : Q ≤ 26214400 := by rw [hQ]; exact Nat.le_trans (Nat.div_le_self _ _) hls
          have z1 : IntKind.i64.wrap ((L : Int) - ((m : Int) + 1)) = (D : Int) := by rw [IntKind.wrap_i64]; omega
          have hD15 : D ≤ 15 := by omega
          have z2 : (0 : Int) ≤ (D : Int) := by omega
          clear hget k16 hall hidx
          have d2 : decide ((K : Int) - (fstC ls (m + 1) : Int) < (cntC ls (m + 1) : Int)) = false := by simp; omega
          have HF2 := Lib.hid hF2
          have HE1 := Lib.hid hE1
          have HI1 := Lib.hid hidx1
          have HQ := Lib.hid hQ
          have HD := Lib.hid hD
          have HLA := Lib.hid hlast
          have hid1 : idxC ls (m + 1) ≤ 6000 := by have := idxC_le ls (m + 1) 15 (by omega); omega
          clear hF2 hE1 hidx1 hQ hD hlast
          by_cases hform : endC ls L ≤ K * 2 ^ D
          · rw [if_pos hform] at hsg
            have HSG := Lib.hid hsg
            have d3 : decide (Q < K) = true := by simp; omega
            clear hsg hdiv hform
            generalize hFF : fstC ls (m + 1) = F at *
            generalize hII : idxC ls m = I at *
            generalize hCC : cntC ls (m + 1) = C at *
            clear hFF hII hCC
            go_wp2_with fail
            go_quiet (fail)
            clear z1 hQi
            go_wp2_with fail
            go_ret2
            refine ⟨?_, hfr1.drewN _⟩
            rw [HSG.out]
            exact ⟨rfl, p1, hp1, hz1.drewN _⟩
          · rw [if_neg hform] at hsg
            have HSG := Lib.hid hsg
            have d3 : decide (Q < K) = false := by simp; omega
            clear hsg hdiv hform
            have hEm : endC ls (m + 1) ≤ K := by omega
            have HF3 : Hid (fstC ls (m + 1 + 1) = (fstC ls (m + 1) + cntC ls (m + 1)) * 2) := by show _ = _; rw [Nat.mul_comm]; rfl
            have kc' := fun n => hdb1.drewN n
            obtain ⟨F, hFF⟩ : ∃ F, fstC ls (m + 1) = F := ⟨_, rfl⟩
            obtain ⟨I, hII⟩ : ∃ I, idxC ls m = I := ⟨_, rfl⟩
            obtain ⟨C, hCC⟩ : ∃ C, cntC ls (m + 1) = C := ⟨_, rfl⟩
            have HI2 : Hid (idxC ls (m + 1) = I + C) := by show _ = _; rw [← hII, ← hCC]; rfl
            have HF4 : Hid (fstC ls (m + 1 + 1) = (F + C) * 2) := by show _ = _; rw [HF3.out, hFF, hCC]
            have hFb : F ≤ 26214400 := by have := HE1.out; omega
            have hIb : I ≤ 6000 := by have := HI1.out; omega
            rw [hFF, hCC] at d2
            rw [hCC] at kc
            rw [hFF, hII]
            rw [hCC] at hcnt
            clear hFF hII hCC HF3 kc' HF2 HE1 HI1 hF
            go_wp2_with fail
            go_quiet (fail)
            clear z1 hQi
            go_wp2_with fail
            refine ⟨⟨m + 1, K, p1, by go_num, by omega, rfl, hK2, hEm, ?_, ?_, hp1, ?_, hz1.drewN _, hfr1.drewN _⟩, by simp [intOf]; omega⟩
            · rw [HF4.out]; simp
            · rw [HI2.out]; simp
            · show _ = _
              rw [HSG.out, hb1, HD.out]
    · have d1 : decide ((m : Int) + 1 ≤ (L : Int)) = false := by simp; omega
      have HE : Hid (symT ls (bitsAt s p) = .error 4) := by show _ = _; rw [hsy.out, show L - m = 0 from by omega]; rfl
      go_wp2_with fail
      go_ret2
      refine ⟨?_, hfr⟩
      rw [HE.out]
      exact ⟨rfl, q, hq, hzr⟩
end Go.Proofs.YthbejefodelpkaaGreat
namespace Go.Proofs.YthbejefodelpkaaGreat
open Go.RowKit

/-- The slice value v reads as the numbers l. -/
def IRead (w : World) (v : Value) (l : List Nat) : Prop :=
  ∃ x c, v = .slice x l.length c ∧ l.length ≤ c ∧ c ≤ maxLen ∧ (l ≠ [] → ∃ g off, x = some ⟨g, off, none⟩ ∧ ∀ j (h : j < l.length), w.cell? ⟨g, off + j, none⟩ = some (.int .i64 (l[j] : Int)))
theorem IRow.read {w : World} {v : Value} {l : List Nat} (h : IRow w v l) : IRead w v l := by
  obtain ⟨x, c, rfl, h1, h2, h3⟩ := h
  refine ⟨x, c, rfl, h1, h2, fun hne => ?_⟩
  obtain ⟨g, off, cs, rfl, hb, hc⟩ := h3 hne
  exact ⟨g, off, rfl, fun j hj => by rw [hb.cell, hc j hj]⟩
theorem IRead.below {w w' : World} {v : Value} {l : List Nat} (h : IRead w v l) (hb : Below w.heap.size w w') : IRead w' v l := by
  obtain ⟨x, c, rfl, h1, h2, h4⟩ := h
  refine ⟨x, c, rfl, h1, h2, fun hne => ?_⟩
  obtain ⟨b, off, rfl, hc⟩ := h4 hne
  refine ⟨b, off, rfl, fun i hi => ?_⟩
  have c1 := hc i hi
  have hlt : b < w.heap.size := World.block_lt_of_cell? w _ c1
  exact (hb.cell (p := ⟨b, off + i, none⟩) hlt).trans c1

theorem sumC_snoc (l : List Nat) (n : Nat) : sumC (l ++ [n]) = sumC l + (if n = 0 then 0 else 2 ^ (15 - n)) := by
  induction l with
  | nil => simp [sumC]
  | cons x l ih => simp only [List.cons_append, sumC, ih]; omega
theorem sumC_le (l : List Nat) : sumC l ≤ l.length * 32768 := by
  induction l with
  | nil => simp [sumC]
  | cons x l ih =>
    have : 2 ^ (15 - x) ≤ 2 ^ 15 := Nat.pow_le_pow_right (by omega) (by omega)
    have h15 : (2 : Nat) ^ 15 = 32768 := by decide
    simp only [sumC, List.length_cons]
    split <;> omega

set_option maxRecDepth 100000 in
set_option maxHeartbeats 2000000 in
theorem sum_any (v : Value) (ls : List Nat) (w : World) (hr : IRead w v ls) (h15 : ∀ n ∈ ls, n ≤ 15) (hl : ls.length ≤ 400) :
    Calls Tryz.prog 171 #[v] w fun e w' => e = .returned (.int .i64 (sumC ls)) ∧ w = w' := by
  obtain ⟨x, c, rfl, hc1, hc2, hcell⟩ := id hr
  unfold maxLen at hc2
  go_enter Tryz.func171, Tryz.ntmps171
  go_wp2_with fail
  go_loop [3, 8] (fun v3 vi => ∃ i : Nat, vi = .int .i64 i ∧ i ≤ ls.length ∧ v3 = .int .i64 (sumC (ls.take i) : Nat)) (fun _ vi => ls.length - (intOf vi).toNat)
  case atStart => exact ⟨0, rfl, Nat.zero_le _, rfl⟩
  case round =>
    obtain ⟨i, rfl, hi, rfl⟩ := hrel
    have hsl := sumC_le (ls.take i)
    have htl : (ls.take i).length = i := by simp; omega
    rw [htl] at hsl
    clear htl
    by_cases hlt : i < ls.length
    · have hne : ls ≠ [] := by rintro rfl; simp at hlt
      have hd : decide ((i : Int) < (ls.length : Int)) = true := by simp; omega
      obtain ⟨g, off, rfl, hcl⟩ := hcell hne
      have q := hcl i hlt
      have hx15 := h15 ls[i] (List.getElem_mem hlt)
      have HS : Hid (sumC (ls.take (i + 1)) = sumC (ls.take i) + (if ls[i] = 0 then 0 else 2 ^ (15 - ls[i]))) := by show _ = _; rw [List.take_succ_eq_append_getElem hlt, sumC_snoc]
      clear hcl hcell hr
      generalize ls[i] = y at *
      generalize sumC (ls.take i) = S at *
      generalize hn : ls.length = n at *
      have HN := Lib.hid hn
      clear hn
      by_cases hy : y = 0
      · subst hy
        go_wp2_with fail
        go_round
        case rel => exact ⟨i + 1, by go_num, by omega, by rw [HS.out]; rfl⟩
        case measure => simp [intOf]; omega
      · have hy1 : ((y : Int) != 0) = true := by simp; omega
        have hp : (2 : Nat) ^ (15 - y) ≤ 32768 := by
          have : (2 : Nat) ^ (15 - y) ≤ 2 ^ 15 := Nat.pow_le_pow_right (by omega) (by omega)
          simpa using this
        obtain ⟨Z, hZ⟩ : ∃ Z, 2 ^ (15 - y) = Z := ⟨_, rfl⟩
        have hZi : (2 : Int) ^ (15 - y) = (Z : Int) := by rw [← hZ]; simp
        rw [hZ] at hp HS
        clear hZ
        go_wp2_with fail
        go_round
        case rel => exact ⟨i + 1, by go_num, by omega, by rw [HS.out, if_neg hy]; simp⟩
        case measure => simp [intOf]; omega
    · have hd : decide ((i : Int) < (ls.length : Int)) = false := by simp; omega
      have hall : ls.take i = ls := List.take_of_length_le (by omega)
      rw [hall]
      clear hall
      go_wp2_with fail
      go_ret
      exact ⟨rfl, rfl⟩

def arr16 (f : Nat → Nat) : Array Value :=
  #[.int .i64 (f 0 : Nat), .int .i64 (f 1 : Nat), .int .i64 (f 2 : Nat), .int .i64 (f 3 : Nat), .int .i64 (f 4 : Nat), .int .i64 (f 5 : Nat), .int .i64 (f 6 : Nat), .int .i64 (f 7 : Nat),
    .int .i64 (f 8 : Nat), .int .i64 (f 9 : Nat), .int .i64 (f 10 : Nat), .int .i64 (f 11 : Nat), .int .i64 (f 12 : Nat), .int .i64 (f 13 : Nat), .int .i64 (f 14 : Nat), .int .i64 (f 15 : Nat)]
theorem arr16_get (f : Nat → Nat) (n : Nat) (h : n ≤ 15) : (arr16 f)[n]? = some (.int .i64 (f n : Nat)) := by
  match n, h with
  | 0, _ => rfl
  | 1, _ => rfl
  | 2, _ => rfl
  | 3, _ => rfl
  | 4, _ => rfl
  | 5, _ => rfl
  | 6, _ => rfl
  | 7, _ => rfl
  | 8, _ => rfl
  | 9, _ => rfl
  | 10, _ => rfl
  | 11, _ => rfl
  | 12, _ => rfl
  | 13, _ => rfl
  | 14, _ => rfl
  | 15, _ => rfl
theorem inf16 {f : Nat → Nat} : (Tryz.prog.info? 162).map (·.size) = some (arr16 f).size := by
  show _ = some 16
  kernel_rfl
theorem arr16_size (f : Nat → Nat) : (arr16 f).size = 16 := rfl
theorem arr16_ext (f : Nat → Nat) (a : Array Value) (hs : a.size = 16) (h : ∀ n, n ≤ 15 → a[n]? = some (.int .i64 (f n : Nat))) : a = arr16 f := by
  apply Array.ext_getElem?
  intro i
  rcases Nat.lt_or_ge i 16 with h1 | h1
  · rw [h i (by omega), arr16_get f i (by omega)]
  · rw [Array.getElem?_eq_none (by omega), Array.getElem?_eq_none (by rw [arr16_size]; omega)]
theorem arr16_set (f : Nat → Nat) (n x : Nat) (hn : n ≤ 15) : (arr16 f).setIfInBounds n (.int .i64 (x : Nat)) = arr16 (fun k => if k = n then x else f k) := by
  apply arr16_ext
  · simp [arr16_size]
  · intro k hk
    rw [Array.getElem?_setIfInBounds]
    by_cases h : n = k
    · subst h
      rw [if_pos rfl, if_pos (by rw [arr16_size]; omega), if_pos rfl]
    · rw [if_neg h, arr16_get f k hk, if_neg (fun e => h e.symm)]
theorem arr16_congr (f g : Nat → Nat) (h : ∀ n, n ≤ 15 → f n = g n) : arr16 f = arr16 g :=
  arr16_ext g _ (arr16_size f) fun n hn => by rw [arr16_get f n hn, h n hn]
theorem cntC_snoc (l : List Nat) (y n : Nat) : cntC (l ++ [y]) n = cntC l n + (if n = y ∧ y ≠ 0 then 1 else 0) := by
  unfold cntC
  by_cases hn : n = 0
  · subst hn
    rw [if_pos rfl, if_pos rfl]
    by_cases hy : (0 : Nat) = y ∧ y ≠ 0
    · omega
    · rw [if_neg hy]
  · rw [if_neg hn, if_neg hn, List.count_append]
    by_cases h : n = y
    · subst h; simp [hn]
    · rw [if_neg (fun e => h e.1)]
      simp [List.count_cons]
      exact fun e => h e.symm

theorem Blk.setRow {w : World} {k : Nat} {t : TypeId} {cs : Array Value} (h : Blk w k t cs) (cs' : Array Value) : Blk (w.setRow k cs') k t cs' := by
  unfold Blk at h ⊢
  simp [World.setRow, Array.getElem?_modify, h]
theorem heap_setRow_ne (w : World) (g k : Nat) (cs' : Array Value) (hk : k ≠ g) : (w.setRow g cs').heap[k]? = w.heap[k]? := by
  simp only [World.setRow, Array.getElem?_modify]
  rw [if_neg (fun e => hk e.symm)]
theorem Blk.setRow_ne {w : World} {k g : Nat} {t : TypeId} {cs : Array Value} (h : Blk w k t cs) (cs' : Array Value) (hk : k ≠ g) : Blk (w.setRow g cs') k t cs := (heap_setRow_ne w g k cs' hk).trans h
theorem below_setRow {B : Nat} {a w : World} (h : Below B a w) {g : Nat} (hg : B ≤ g) (cs' : Array Value) : Below B a (w.setRow g cs') :=
  h.trans ⟨rfl, rfl, rfl, by simp [World.setRow], fun k hk => heap_setRow_ne _ _ _ _ (by omega)⟩

set_option maxRecDepth 100000 in
set_option maxHeartbeats 4000000 in
theorem counts_any (v : Value) (ls : List Nat) (w : World) (hr : IRead w v ls) (h15 : ∀ n ∈ ls, n ≤ 15) (hl : ls.length ≤ 400) :
    Calls Tryz.prog 177 #[v] w fun e w' => e = .returned (.agg (arr16 (cntC ls))) ∧ Below w.heap.size w w' := by
  obtain ⟨x, c, rfl, hc1, hc2, hcell⟩ := id hr
  unfold maxLen at hc2
  go_enter Tryz.func177, Tryz.ntmps177
  go_wp2_with fail
  have hR := (Blk.new w 162 (arr16 fun _ => 0)).alloc (.cells (arr16 fun _ => 0) 162)
  have hC := Blk.new (w.alloc (.cells (arr16 fun _ => 0) 162)) 162 (arr16 fun _ => 0)
  have hsz : (w.alloc (.cells (arr16 fun _ => 0) 162)).heap.size = w.heap.size + 1 := by simp
  rw [hsz] at hC
  have hb0 : Below w.heap.size w ((w.alloc (.cells (arr16 fun _ => 0) 162)).alloc (.cells (arr16 fun _ => 0) 162)) := ((Below.refl _ _).alloc (Nat.le_refl _) _).alloc (by simp) _
  change Code.wp _ _ _ _ ((w.alloc (.cells (arr16 fun _ => 0) 162)).alloc (.cells (arr16 fun _ => 0) 162))
  generalize (w.alloc (.cells (arr16 fun _ => 0) 162)).alloc (.cells (arr16 fun _ => 0) 162) = w1 at *
  clear hsz
  obtain ⟨B, hB⟩ : ∃ B, B = w.heap.size := ⟨_, rfl⟩
  rw [← hB] at hR hC hb0 ⊢
  have HB := Lib.hid hB
  clear hB
  go_loopw [8] (fun vi wr => ∃ i : Nat, vi = .int .i64 i ∧ i ≤ ls.length ∧ Blk wr B 162 (arr16 fun _ => 0) ∧ Blk wr (B + 1) 162 (arr16 (cntC (ls.take i))) ∧ Below B w wr) (fun vi _ => ls.length - (intOf vi).toNat)
  case atStart => exact ⟨0, rfl, Nat.zero_le _, hR, hC, hb0⟩
  case round =>
    clear hR hC hb0
    obtain ⟨i, rfl, hi, hR, hC, hbw⟩ := hrel
    by_cases hlt : i < ls.length
    · have hne : ls ≠ [] := by rintro rfl; simp at hlt
      have hd : decide ((i : Int) < (ls.length : Int)) = true := by simp; omega
      have hrr := hr.below (by rw [← HB.out]; exact hbw)
      obtain ⟨x', c', hv', -, -, hcell'⟩ := hrr
      cases hv'
      obtain ⟨g, off, rfl, hcl⟩ := hcell' hne
      have q := hcl i hlt
      have hy15 := h15 ls[i] (List.getElem_mem hlt)
      have HS : Hid (∀ n, cntC (ls.take (i + 1)) n = cntC (ls.take i) n + (if n = ls[i] ∧ ls[i] ≠ 0 then 1 else 0)) := by intro n; rw [List.take_succ_eq_append_getElem hlt, cntC_snoc]
      have hcn := cnt_le (ls.take i) ls[i]
      have htl : (ls.take i).length ≤ 400 := by simp; omega
      clear hcl hcell hcell'
      generalize ls[i] = y at *
      by_cases hy : y = 0
      · subst hy
        have hCn : Blk wr (B + 1) 162 (arr16 (cntC (ls.take (i + 1)))) := by
          rw [arr16_congr (cntC (ls.take (i + 1))) (cntC (ls.take i)) (fun n _ => by rw [HS.out n]; simp)]
          exact hC
        go_wp2_with fail
        refine ⟨⟨i + 1, by go_num, by omega, hR, hCn, hbw⟩, by simp [intOf]; omega⟩
      · have hy1 : ((y : Int) != 0) = true := by simp; omega
        have kc : wr.cell? ⟨B + 1, y, none⟩ = some (.int .i64 (cntC (ls.take i) y : Nat)) := by rw [hC.cell y, arr16_get _ y hy15]
        have kf := hC.frozen y
        have hC2 := hC.put y (.int .i64 ((cntC (ls.take i) y : Nat) + 1 : Int))
        have e1 : ((cntC (ls.take i) y : Nat) + 1 : Int) = ((cntC (ls.take i) y + 1 : Nat) : Int) := by simp
        rw [e1, arr16_set _ _ _ hy15, arr16_congr _ (cntC (ls.take (i + 1))) (fun n _ => by
          rw [HS.out n]
          by_cases h : n = y
          · subst h; simp [hy]
          · simp [h])] at hC2
        have hR2 := hR.other (p := ⟨B + 1, y, none⟩) (by simp) (.int .i64 ((cntC (ls.take i) y + 1 : Nat) : Int))
        have hb2 := hbw.setCell (p := ⟨B + 1, y, none⟩) (by simp) (.int .i64 ((cntC (ls.take i) y + 1 : Nat) : Int))
        rw [← e1] at hC2 hR2 hb2
        have HC2 := Lib.hid hC2
        have HR2 := Lib.hid hR2
        have HB2 := Lib.hid hb2
        clear hC2 hR2 hb2 e1 hC hR hbw
        generalize cntC (ls.take i) y = C at *
        go_wp2_with fail
        refine ⟨⟨i + 1, by go_num, by omega, HR2.out, HC2.out, HB2.out⟩, by simp [intOf]; omega⟩
    · have hd : decide ((i : Int) < (ls.length : Int)) = false := by simp; omega
      have hall : ls.take i = ls := List.take_of_length_le (by omega)
      rw [hall] at hC
      clear hall
      have hone : ∀ f, (arr16 f).all (·.oneCell') = true := fun f => by simp [arr16, Value.oneCell']
      go_wp2_with (first | refine wpList_load_row (o := ⟨some 20, _, _, _, _, _⟩) rfl 162 (.tmp 3) rfl (B + 1) rfl 162 (arr16 (cntC ls)) (0, 0) _ hC Tryz.underlying162 rfl inf16 ?_ | refine wpList_store_row rfl 162 (.tmp 2) (.tmp 20) rfl B (arr16 (cntC ls)) rfl rfl 162 _ hR inf16 rfl (hone _) ?_)
      refine bodyPost_ret (v := .agg (arr16 (cntC ls))) (results_cell_row rfl _ _ B 162 (arr16 (cntC ls)) (0, 0) _ rfl (hR.setRow _) Tryz.underlying162 rfl inf16) rfl ⟨rfl, ?_⟩
      have := below_setRow hbw (Nat.le_refl B) (arr16 (cntC ls))
      rw [← HB.out]
      exact this
end Go.Proofs.YthbejefodelpkaaGreat
namespace Go.Proofs.YthbejefodelpkaaGreat
open Go.RowKit

def pairV (x : Nat × Nat) : Value := .tuple #[.int .i64 x.1, .int .i64 x.2]
set_option maxRecDepth 100000 in
set_option maxHeartbeats 2000000 in
theorem lengthBase_any (s : Nat) (w : World) (h0 : 257 ≤ s) (h1 : s ≤ 285) :
    Calls Tryz.prog 178 #[.int .i64 s] w fun e w' => e = .returned (pairV (lenB s)) ∧ w = w' := by
  have hv : Hid (lenB s = if s < 265 then (s - 254, 0) else if s = 285 then (258, 0) else (3 + (4 + (s - 265) % 4) * 2 ^ ((s - 261) / 4), (s - 261) / 4)) := rfl
  by_cases c1 : s < 265
  · have d1 : decide ((s : Int) < 265) = true := by simp; omega
    go_enter Tryz.func178, Tryz.ntmps178
    go_wp2_with fail
    go_ret2
    refine ⟨?_, rfl⟩
    rw [hv.out, if_pos c1]
    show Ending.returned (.tuple #[.int .i64 ((s : Int) - 254), .int .i64 0]) = _
    unfold pairV
    simp
    omega
  have d1 : decide ((s : Int) < 265) = false := by simp; omega
  by_cases c2 : s = 285
  · subst c2
    go_enter Tryz.func178, Tryz.ntmps178
    go_wp2_with fail
    go_ret2
    refine ⟨?_, rfl⟩
    rw [hv.out]
    rfl
  have d2 : ((s : Int) == 285) = false := by simp; omega
  obtain ⟨k, hk⟩ : ∃ k, k = (s - 261) / 4 := ⟨_, rfl⟩
  have hk5 : k ≤ 5 := by omega
  obtain ⟨m, hm⟩ : ∃ m, m = (s - 265) % 4 := ⟨_, rfl⟩
  have hm3 : m ≤ 3 := by omega
  have z1 : ((s : Int) - 261) / 4 = (k : Int) := by omega
  have z2 : ((s : Int) - 265) % 4 = (m : Int) := by omega
  have hz : Hid (lenB s = (3 + (4 + m) * 2 ^ k, k)) := by show _ = _; rw [hv.out, if_neg c1, if_neg c2, ← hk, ← hm]
  have hp : (2 : Nat) ^ k ≤ 32 := by
    have : (2 : Nat) ^ k ≤ 2 ^ 5 := Nat.pow_le_pow_right (by omega) (by omega)
    simpa using this
  obtain ⟨Z, hZ⟩ : ∃ Z, 2 ^ k = Z := ⟨_, rfl⟩
  have hZi : (2 : Int) ^ k = (Z : Int) := by rw [← hZ]; simp
  rw [hZ] at hp hz
  have hmul : (4 + m) * Z ≤ 7 * 32 := Nat.mul_le_mul (by omega) hp
  clear hk hm hZ hv
  go_enter Tryz.func178, Tryz.ntmps178
  go_wp2_with fail
  go_ret2
  refine ⟨?_, rfl⟩
  rw [hz.out]
  show Ending.returned (.tuple #[.int .i64 (wrap64 (3 + wrap64 ((4 + (m : Int)) * (Z : Int)))), .int .i64 (((s : Int) - 261) / 4)]) = _
  have e : (4 + (m : Int)) * (Z : Int) = (((4 + m) * Z : Nat) : Int) := by simp
  rw [e, wrap64_of (((4 + m) * Z : Nat) : Int) (by omega), wrap64_of _ (by omega), z1]
  unfold pairV
  simp

set_option maxRecDepth 100000 in
set_option maxHeartbeats 2000000 in
theorem distanceBase_any (s : Nat) (w : World) (h1 : s ≤ 29) :
    Calls Tryz.prog 179 #[.int .i64 s] w fun e w' => e = .returned (pairV (disB s)) ∧ w = w' := by
  have hv : Hid (disB s = if s < 4 then (s + 1, 0) else (1 + (2 + s % 2) * 2 ^ ((s - 2) / 2), (s - 2) / 2)) := rfl
  by_cases c1 : s < 4
  · have d1 : decide ((s : Int) < 4) = true := by simp; omega
    go_enter Tryz.func179, Tryz.ntmps179
    go_wp2_with fail
    go_ret2
    refine ⟨?_, rfl⟩
    rw [hv.out, if_pos c1]
    show Ending.returned (.tuple #[.int .i64 ((s : Int) + 1), .int .i64 0]) = _
    unfold pairV
    simp
  have d1 : decide ((s : Int) < 4) = false := by simp; omega
  obtain ⟨k, hk⟩ : ∃ k, k = (s - 2) / 2 := ⟨_, rfl⟩
  have hk5 : k ≤ 13 := by omega
  obtain ⟨m, hm⟩ : ∃ m, m = s % 2 := ⟨_, rfl⟩
  have hm3 : m ≤ 1 := by omega
  have z1 : ((s : Int) - 2) / 2 = (k : Int) := by omega
  have z2 : (s : Int) % 2 = (m : Int) := by omega
  have hz : Hid (disB s = (1 + (2 + m) * 2 ^ k, k)) := by show _ = _; rw [hv.out, if_neg c1, ← hk, ← hm]
  have hp : (2 : Nat) ^ k ≤ 8192 := by
    have : (2 : Nat) ^ k ≤ 2 ^ 13 := Nat.pow_le_pow_right (by omega) (by omega)
    simpa using this
  obtain ⟨Z, hZ⟩ : ∃ Z, 2 ^ k = Z := ⟨_, rfl⟩
  have hZi : (2 : Int) ^ k = (Z : Int) := by rw [← hZ]; simp
  rw [hZ] at hp hz
  have hmul : (2 + m) * Z ≤ 3 * 8192 := Nat.mul_le_mul (by omega) hp
  clear hk hm hZ hv
  go_enter Tryz.func179, Tryz.ntmps179
  go_wp2_with fail
  go_ret2
  refine ⟨?_, rfl⟩
  rw [hz.out]
  show Ending.returned (.tuple #[.int .i64 (wrap64 (1 + wrap64 ((2 + (m : Int)) * (Z : Int)))), .int .i64 (((s : Int) - 2) / 2)]) = _
  have e : (2 + (m : Int)) * (Z : Int) = (((2 + m) * Z : Nat) : Int) := by simp
  rw [e, wrap64_of (((2 + m) * Z : Nat) : Int) (by omega), wrap64_of _ (by omega), z1]
  unfold pairV
  simp

end Go.Proofs.YthbejefodelpkaaGreat
