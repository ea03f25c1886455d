/-
  Walk: the next symbol, in the reference.
-/
import Derived.Test.YtkbelkdephfhpaaJ7
import Derived.Test.YtkbelkdephfhpaaJ2
import Derived.Test.YtkbelkdephfhpaaJ3
import Derived.Test.YtkbelkdephfhpaaI6
namespace Go.Proofs.Ytkbelkdephfhpaa
open Go.RowKit

/-- How it goes on where n bits have been read as the number c. -/
def symK (ls : List Nat) (n c : Nat) (b : List Bool) : Except Nat (Nat × List Bool) :=
  if c < endC ls n then .ok ((symsC ls n).getD (c - fstC ls n) 0, b)
  else if endC ls (lngC ls 15) ≤ c * 2 ^ (lngC ls 15 - n) then .error 4
  else symGo ls (lngC ls 15 - n) n c b
theorem symK_zero (ls : List Nat) (b : List Bool) : symT ls b = symK ls 0 0 b := by
  unfold symT symK
  have h0 : endC ls 0 = 0 := rfl
  rw [h0, if_neg (by omega), Nat.zero_mul, Nat.sub_zero]
  by_cases hL : lngC ls 15 = 0
  · rw [hL, h0, if_pos (Nat.le_refl _)]; rfl
  · have := lngC_pos ls 15 (by omega)
    rw [if_neg (by unfold endC; omega)]
theorem symK_step (ls : List Nat) (n c : Nat) (x : Bool) (b : List Bool) (h1 : endC ls n ≤ c) (h2 : c * 2 ^ (lngC ls 15 - n) < endC ls (lngC ls 15)) (hn : n ≤ lngC ls 15) :
    n < lngC ls 15 ∧ symK ls n c [] = .error 5 ∧ symK ls n c (x :: b) = symK ls (n + 1) (2 * c + x.toNat) b := by
  have hlt : n < lngC ls 15 := by
    rcases Nat.lt_or_ge n (lngC ls 15) with h | h
    · exact h
    · have e : n = lngC ls 15 := by omega
      rw [← e, Nat.sub_self, Nat.pow_zero, Nat.mul_one] at h2
      omega
  obtain ⟨f, hf⟩ : ∃ f, lngC ls 15 - n = f + 1 := ⟨lngC ls 15 - n - 1, by omega⟩
  refine ⟨hlt, ?_, ?_⟩
  · unfold symK
    rw [if_neg (by omega), if_neg (by omega), hf]
    rfl
  · rw [symK, if_neg (by omega), if_neg (by omega), hf]
    unfold symGo symK
    rw [show lngC ls 15 - (n + 1) = f from by omega]
/-- No symbol before i has this code. -/
def noSy (ls : List Nat) (n c i : Nat) : Prop := ∀ j, j < i → j < ls.length → ¬ (0 < n ∧ ls.getD j 0 = n ∧ codZ ls j = c)
theorem noSy_all (ls : List Nat) (n c : Nat) (h : noSy ls n c ls.length) (hf : fstC ls n ≤ c) : endC ls n ≤ c := by
  rcases Nat.lt_or_ge c (endC ls n) with hlt | hge
  · exfalso
    by_cases hn : n = 0
    · subst hn; have : endC ls 0 = 0 := rfl; omega
    · obtain ⟨a, b, d⟩ := cod_find ls n c hn hf hlt
      refine h _ a a ⟨by omega, b, ?_⟩
      unfold codZ
      rw [if_neg (by rw [b]; exact hn), d]
  · exact hge
theorem sy_found (ls : List Nat) (n c i : Nat) (b : List Bool) (hn : 0 < n) (hi : i < ls.length) (h1 : ls.getD i 0 = n) (h2 : codZ ls i = c) : symK ls n c b = .ok (i, b) := by
  have h0 : ls.getD i 0 ≠ 0 := by omega
  unfold codZ at h2
  rw [if_neg h0] at h2
  have h3 := cod_lt ls i hi h0
  rw [h1, h2] at h3
  have hf : fstC ls n ≤ c := by rw [← h2, ← h1]; unfold codC; omega
  obtain ⟨a, b', d⟩ := cod_find ls n c (by omega) hf h3
  have := cod_inj ls _ i a hi (by rw [b', h1]) (by rw [d, h2])
  unfold symK
  rw [if_pos h3, this]
theorem beg_iff (ls : List Nat) (n c : Nat) (hno : noSy ls n c ls.length) (hf : fstC ls n ≤ c) (hn : n ≤ lngC ls 15) (h15 : ∀ n ∈ ls, n ≤ 15) :
    begB ls (codL ls) n c ls.length = true ↔ c * 2 ^ (lngC ls 15 - n) < endC ls (lngC ls 15) := by
  have hend := noSy_all ls n c hno hf
  rw [← begins_iff ls n c hn hend]
  have hcl : ∀ i, i < ls.length → (codL ls).getD i 0 = codZ ls i := by
    intro i hi
    have := codL_get ls i hi
    rw [← this]
    simp [List.getD, show i < (codL ls).length by rw [codL_length]; exact hi]
  constructor
  · intro h
    unfold begB at h
    obtain ⟨i, hi, hh⟩ := List.any_eq_true.1 h
    have hi := List.mem_range.1 hi
    rw [hcl i hi] at hh
    simp only [Bool.and_eq_true, decide_eq_true_eq, beq_iff_eq] at hh
    obtain ⟨⟨h1, h2⟩, h3⟩ := hh
    have h0 : ls.getD i 0 ≠ 0 := by omega
    have e : ls.getD i 0 = ls[i] := by simp [List.getD, hi]
    have hm15 := h15 ls[i] (List.getElem_mem hi)
    have hcz : codZ ls i = codC ls i := by unfold codZ; rw [if_neg h0]
    by_cases hmn : ls.getD i 0 = n
    · exfalso
      rw [hmn, Nat.sub_self, Nat.pow_zero, Nat.div_one] at h3
      exact hno i hi hi ⟨by omega, hmn, h3⟩
    · refine ⟨ls.getD i 0, by omega, by omega, codC ls i, by unfold codC; omega, cod_lt ls i hi h0, ?_⟩
      rw [← hcz]; exact h3
  · rintro ⟨m, h1, h2, y, h3, h4, h5⟩
    obtain ⟨a, b, d⟩ := cod_find ls m y (by omega) h3 h4
    unfold begB
    refine List.any_eq_true.2 ⟨_, List.mem_range.2 a, ?_⟩
    rw [hcl _ a, b]
    have hcz : codZ ls ((symsC ls m).getD (y - fstC ls m) 0) = y := by unfold codZ; rw [if_neg (by rw [b]; omega), d]
    rw [hcz]
    simp
    exact ⟨⟨by omega, by omega⟩, h5⟩
/-- What reading a symbol promises. -/
def RSym (s : ByteArray) (zb : Nat) (r : Except Nat (Nat × List Bool)) (e : Ending) (w : World) : Prop :=
  match r with
  | .error k => e = .returned (.int .i64 0) ∧ ∃ p, p ≤ 8 * s.size ∧ Blk w zb 49 (rc s p k)
  | .ok (x, b) => e = .returned (.int .i64 x) ∧ ∃ p, p ≤ 8 * s.size ∧ b = bitsAt s p ∧ Blk w zb 49 (rc s p 0)
theorem RNum.sy {s : ByteArray} {p n zb : Nat} {e : Ending} {w : World} (h : RNum s p n zb e w) (hp : p ≤ 8 * s.size) : RSym s zb (numT (bitsAt s p) n) e w := by
  unfold RNum at h
  cases hn : numT (bitsAt s p) n with
  | error k => rw [hn] at h; exact ⟨h.1, p, hp, h.2⟩
  | ok x =>
    obtain ⟨x, b⟩ := x
    rw [hn] at h
    obtain ⟨h1, h2, _⟩ := numT_ok hn
    rw [bitsAt_length] at h1
    exact ⟨h.1, p + n, by omega, by rw [h2, bitsAt_drop], h.2⟩
theorem refSymbol_bad (s : ByteArray) (p er zb : Nat) (v u : Value) (w : World) (hz : Blk w zb 49 (rc s p er)) (he : er ≠ 0) :
    Calls Try.prog 36 #[.pointer (some ⟨zb, 0, none⟩), v, u] w fun e w' => e = .returned (.int .i64 0) ∧ w = w' := by
  have c2 := hz.cell 2
  simp [rc] at c2
  have d0 : ((er : Int) == 0) = false := beq_false_of_ne (by omega)
  go_enter Try.func36, Try.ntmps36
  go_wp2_with fail
  go_loopw [8] (fun _ wr => wr = w) (fun _ _ => 0)
  case atStart => rfl
  case round =>
    obtain rfl := hrel
    go_wp2_with fail
    go_ret
    exact ⟨rfl, rfl⟩

set_option maxRecDepth 100000 in
set_option maxHeartbeats 8000000 in
theorem refSymbol_any (s : ByteArray) (p zb : Nat) (v u : Value) (ls : List Nat) (w : World) (hz : Blk w zb 49 (rc s p 0)) (hv : IRow w v ls) (hu : IRow w u (codL ls)) (h15 : ∀ n ∈ ls, n ≤ 15) (hl : ls.length ≤ 400) (hs : s.size ≤ 1000000000000000) (hp : p ≤ 8 * s.size) :
    Calls Try.prog 36 #[.pointer (some ⟨zb, 0, none⟩), v, u] w fun e w' => RSym s zb (symT ls (bitsAt s p)) e w' ∧ Fr zb [49] w w' := by
  have H0 : Hid (symT ls (bitsAt s p) = symK ls 0 0 (bitsAt s p)) := symK_zero _ _
  have hL := lngC_le ls 15
  obtain ⟨b0, hb0⟩ : ∃ b0, bitsAt s p = b0 := ⟨_, rfl⟩
  have H1 : Hid (symT ls b0 = symK ls 0 0 (bitsAt s p)) := by show _ = _; rw [← H0.out, hb0]
  rw [hb0]
  clear hb0 H0
  obtain ⟨L, hLL⟩ : ∃ L, lngC ls 15 = L := ⟨_, rfl⟩
  have HLL := Lib.hid hLL
  rw [hLL] at hL
  clear hLL
  go_enter Try.func36, Try.ntmps36
  go_wp2_with fail
  go_loopg [7, 8] (L + 3) (fun k v7 v8 wr => ∃ (n c q er : Nat), v8 = .int .i64 n ∧ v7 = .int .i64 c ∧ n ≤ L + 1 ∧ L + 1 - n < k ∧ c < 2 ^ (n + 1) ∧ q ≤ 8 * s.size ∧ Blk wr zb 49 (rc s q er) ∧ Fr zb [49] w wr ∧
    Hid ((er = 0 ∧ n ≤ L ∧ c < 2 ^ n ∧ fstC ls n ≤ c ∧ symT ls b0 = symK ls n c (bitsAt s q)) ∨ (er ≠ 0 ∧ symT ls b0 = .error er)))
  case atStart => exact ⟨0, 0, p, 0, rfl, rfl, by omega, by omega, by decide, hp, hz, Fr.refl _ _ _, .inl ⟨rfl, Nat.zero_le _, by decide, Nat.le_refl _, H1.out⟩⟩
  case round =>
    clear hz H1 hp
    obtain ⟨n, c, q, er, rfl, rfl, hn1, hk, hc1, hq, hzr, hfr, hcase⟩ := hrel
    have k2 := hzr.cell 2
    simp [rc] at k2
    rcases hcase.out with ⟨rfl, hn, hc, hfst, hE⟩ | ⟨her, hE⟩
    · have HE := Lib.hid hE
      have HFS := Lib.hid hfst
      obtain ⟨f, hf⟩ : ∃ f, gk = f + 1 := ⟨gk - 1, by omega⟩
      have HF := Lib.hid hf
      have hk2 : L + 1 - n ≤ f := by omega
      have hc15 : c < 32768 := Nat.lt_of_lt_of_le hc (by have : 2 ^ n ≤ 2 ^ 15 := Nat.pow_le_pow_right (by omega) (by omega); simpa using this)
      have HC := Lib.hid hc
      have hvr := hv.fr hfr (by decide)
      have hur := hu.fr hfr (by decide)
      clear hcase hE hfst hf hk hc hc1
      obtain ⟨xv, cv, rfl, hv1, hv2, hv3⟩ := id hv
      obtain ⟨xu, cu, rfl, hu1, hu2, hu3⟩ := id hu
      rw [codL_length] at hu1
      unfold maxLen at hv2 hu2
      go_wp2_with fail
      go_loopw [19] (fun vi wt => ∃ i : Nat, vi = .int .i64 i ∧ i ≤ ls.length ∧ Hid (noSy ls n c i) ∧ wt = wr) (fun vi _ => ls.length - (intOf vi).toNat)
      case atStart => exact ⟨0, rfl, Nat.zero_le _, fun j hj => absurd hj (Nat.not_lt_zero _), rfl⟩
      case round =>
        obtain ⟨i, rfl, hi, hno, rfl⟩ := hrel
        by_cases hil : i < ls.length
        · have hd : decide ((i : Int) < (ls.length : Int)) = true := by simp; omega
          have hne : ls ≠ [] := by rintro rfl; simp at hil
          have hcl : (codL ls).length = ls.length := codL_length ls
          have hne2 : codL ls ≠ [] := by intro h; rw [h] at hcl; simp at hcl; omega
          obtain ⟨x1, c1, e1, -, -, hr1⟩ := hvr
          obtain ⟨x2, c2, e2, -, -, hr2⟩ := hur
          cases e1
          cases e2
          obtain ⟨gv, ov, csv, rfl, hbv, hcv⟩ := hr1 hne
          obtain ⟨gu, ou, csu, rfl, hbu, hcu⟩ := hr2 hne2
          have q1 := (hbv.cell (ov + i)).trans (hcv i hil)
          have q2 := (hbu.cell (ou + i)).trans (hcu i (by rw [hcl]; exact hil))
          rw [codL_get ls i hil] at q2
          have hgd : ls.getD i 0 = ls[i] := by simp [List.getD, hil]
          have hy15 := h15 ls[i] (List.getElem_mem hil)
          have HFO : Hid (0 < n → ls[i] = n → codZ ls i = c → symK ls n c (bitsAt s q) = .ok (i, bitsAt s q)) := fun a b d => sy_found ls n c i _ a hil (by rw [hgd]; exact b) d
          have HNO : Hid (¬ (0 < n ∧ ls[i] = n ∧ codZ ls i = c) → noSy ls n c (i + 1)) := by
            intro h j hj hjl
            by_cases e : j = i
            · subst e; rw [hgd]; exact h
            · exact hno.out j (by omega) hjl
          have z1 : (0 : Int) ≤ (i : Int) := by omega
          have z2 : (i : Int) < (ls.length : Int) := by omega
          rw [hcl] at *
          clear hgd hno hcv hcu hbv hbu hr1 hr2 hv3 hu3 hcl
          generalize ls[i] = y at *
          generalize codZ ls i = Z at *
          by_cases hn0 : 0 < n
          · have dn : decide ((0 : Int) < (n : Int)) = true := by simp; omega
            by_cases hy : y = n
            · have dy : ((y : Int) == (n : Int)) = true := by simp; omega
              by_cases hZ : Z = c
              · have dz : ((Z : Int) == (c : Int)) = true := by simp; omega
                have HR : Hid (symT ls b0 = .ok (i, bitsAt s q)) := by show _ = _; rw [HE.out]; exact HFO.out hn0 hy hZ
                clear HFO HNO hy hZ
                go_wp2_with fail
                go_ret
                refine ⟨?_, hfr⟩
                rw [HR.out]
                exact ⟨rfl, q, hq, rfl, hzr⟩
              · have dz : ((Z : Int) == (c : Int)) = false := beq_false_of_ne (by omega)
                have HN : Hid (noSy ls n c (i + 1)) := HNO.out (fun h => hZ h.2.2)
                clear HFO HNO hy hZ
                go_wp2_with fail
                exact ⟨⟨i + 1, by go_num, by omega, HN, trivial⟩, by simp [intOf]; omega⟩
            · have dy : ((y : Int) == (n : Int)) = false := beq_false_of_ne (by omega)
              have HN : Hid (noSy ls n c (i + 1)) := HNO.out (fun h => hy h.2.1)
              clear HFO HNO hy
              go_wp2_with fail
              exact ⟨⟨i + 1, by go_num, by omega, HN, trivial⟩, by simp [intOf]; omega⟩
          · have dn : decide ((0 : Int) < (n : Int)) = false := by simp; omega
            have HN : Hid (noSy ls n c (i + 1)) := HNO.out (fun h => hn0 h.1)
            clear HFO HNO
            go_wp2_with fail
            exact ⟨⟨i + 1, by go_num, by omega, HN, trivial⟩, by simp [intOf]; omega⟩
        · have hd : decide ((i : Int) < (ls.length : Int)) = false := by simp; omega
          obtain rfl : i = ls.length := by omega
          have hcl : (codL ls).length = ls.length := codL_length ls
          have hc16 : ∀ z ∈ codL ls, z ≤ 26214400 := by
            intro z hz
            obtain ⟨j, hj, rfl⟩ := List.mem_map.1 hz
            have hj := List.mem_range.1 hj
            unfold codZ
            split
            · omega
            · rename_i h0
              have e : ls.getD j 0 = ls[j] := by simp [List.getD, hj]
              exact codC_small ls j hl hj h0 (by rw [e]; exact h15 _ (List.getElem_mem hj))
          have hbeg := beg_iff ls n c hno.out HFS.out (by rw [HLL.out]; exact hn) h15
          rw [HLL.out] at hbeg
          have HBEG := Lib.hid hbeg
          have hend := noSy_all ls n c hno.out HFS.out
          have HEND := Lib.hid hend
          have hcall := refBegins_any _ _ ls (codL ls) n c wr hvr.read hur.read hcl h15 hc16 hl (by omega)
          have HCALL := Lib.hid hcall
          clear hbeg hend hcall hc16 hcl hno hvr hur hv3 hu3
          go_wp2_with fail
          refine HCALL.out.mono ?_
          rintro e w1 ⟨rfl, m, rfl⟩
          clear HCALL
          have hz1 := hzr.drewN m
          have hfr1 := hfr.drewN m
          clear hzr hfr k2
          generalize wr.drewN m = w1 at hz1 hfr1 ⊢
          cases hb : begB ls (codL ls) n c ls.length with
          | false =>
            have HR : Hid (symT ls b0 = .error 4) := by
              show _ = _
              have h1 := HEND.out
              have h2 : ¬ c * 2 ^ (L - n) < endC ls L := fun h => by have := HBEG.out.2 h; rw [hb] at this; cases this
              rw [HE.out]
              unfold symK
              rw [HLL.out, if_neg (by omega), if_pos (by omega)]
            have k2 := hz1.cell 2
            have f2 := hz1.frozen 2
            simp [rc] at k2
            have hz2 := hz1.put 2 (.int .i64 4)
            have hf2 := hfr1.put hz1 (Nat.le_refl _) (by simp) 2 (.int .i64 4)
            have HZ2 := Lib.hid hz2
            have HF2 := Lib.hid hf2
            clear hz2 hf2 hz1 hfr1 hb HBEG HEND
            go_wp2_with fail
            go_ret
            refine ⟨?_, HF2.out⟩
            rw [HR.out]
            exact ⟨rfl, q, hq, by have := HZ2.out; simpa [rc] using this⟩
          | true =>
            have hlt := HBEG.out.1 hb
            have HST := Lib.hid (fun x b => symK_step ls n c x b HEND.out (by rw [HLL.out]; exact hlt) (by rw [HLL.out]; exact hn))
            have hnL : n < L := by have := (HST.out true []).1; rwa [HLL.out] at this
            have HFN : Hid (fstC ls (n + 1) ≤ 2 * c) := by show _ ≤ _; rw [fstC_succ]; have := HEND.out; omega
            clear hlt hb HBEG HEND
            go_wp2_with fail
            refine (refNumber_any s q 1 zb _ hz1 hs hq (by decide)).mono ?_
            rintro e w2 ⟨hok, hf2⟩
            have hst := hok.sy hq
            have hfr2 := hfr1.trans hf2
            clear hok hf2 hz1 hfr1
            have hc2 : c < 2 ^ n := HC.out
            have hp2 : 2 ^ (n + 1) = 2 * 2 ^ n := by rw [Nat.pow_succ, Nat.mul_comm]
            have hp3 : 2 ^ (n + 1 + 1) = 2 * 2 ^ (n + 1) := by rw [Nat.pow_succ, Nat.mul_comm]
            cases hbq : bitsAt s q with
            | nil =>
              rw [hbq] at hst
              rw [numT_nil] at hst
              obtain ⟨rfl, p2, hp2', hz2⟩ := hst
              have HR : Hid ((5 = 0 ∧ n + 1 ≤ L ∧ 2 * c < 2 ^ (n + 1) ∧ fstC ls (n + 1) ≤ 2 * c ∧ symT ls b0 = symK ls (n + 1) (2 * c) (bitsAt s p2)) ∨ (5 ≠ 0 ∧ symT ls b0 = .error 5)) :=
                .inr ⟨by decide, by rw [HE.out, hbq]; exact (HST.out true []).2.1⟩
              have HCB : Hid (2 * c < 2 ^ (n + 1 + 1)) := by show _ < _; omega
              clear hbq hc2 hp2 hp3
              go_wp2_with fail
              go_roundg f
              case measure => have := HF.out; omega
              case rel => exact ⟨n + 1, 2 * c, p2, 5, by go_num, by simp, by omega, by omega, HCB.out, hp2', hz2, hfr2, HR⟩
            | cons x b =>
              rw [hbq] at hst
              rw [numT_one] at hst
              obtain ⟨rfl, p2, hp2', hb2, hz2⟩ := hst
              have hx1 : x.toNat ≤ 1 := by cases x <;> decide
              have HR : Hid ((0 = 0 ∧ n + 1 ≤ L ∧ 2 * c + x.toNat < 2 ^ (n + 1) ∧ fstC ls (n + 1) ≤ 2 * c + x.toNat ∧ symT ls b0 = symK ls (n + 1) (2 * c + x.toNat) (bitsAt s p2)) ∨ ((0 : Nat) ≠ 0 ∧ symT ls b0 = .error 0)) := by
                refine .inl ⟨rfl, by omega, by omega, ?_, ?_⟩
                · have := HFN.out; omega
                · rw [HE.out, hbq, (HST.out x b).2.2, hb2]
              have HCB : Hid (2 * c + x.toNat < 2 ^ (n + 1 + 1)) := by show _ < _; omega
              generalize x.toNat = X at *
              clear hbq hc2 hp2 hp3
              go_wp2_with fail
              go_roundg f
              case measure => have := HF.out; omega
              case rel => exact ⟨n + 1, 2 * c + X, p2, 0, by go_num, by simp, by omega, by omega, HCB.out, hp2', hz2, hfr2, by rcases HR.out with ⟨-, h⟩ | ⟨h, -⟩; exact .inl ⟨rfl, h⟩; exact absurd rfl h⟩
    · have d0 : ((er : Int) == 0) = false := beq_false_of_ne (by omega)
      have HE := Lib.hid hE
      clear hcase hE
      go_wp2_with fail
      go_ret
      refine ⟨?_, hfr⟩
      rw [HE.out]
      exact ⟨rfl, q, hq, hzr⟩
end Go.Proofs.Ytkbelkdephfhpaa
