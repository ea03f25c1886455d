/-
  Walks: a pixel, in the program.
-/
import Derived.Test.YtakkdgcmeeilbaaDoorP8
import Derived.Test.YtakkdgcmeeilbaaDoorNum
namespace Go.Proofs.YtakkdgcmeeilbaaDoor
open Go.RowKit

abbrev Px := Int × Int × Int × Int
def pxC (p : Px) : Array Value := #[.int .i64 p.1, .int .i64 p.2.1, .int .i64 p.2.2.1, .int .i64 p.2.2.2]
theorem pxC_inf (p : Px) : (Tryd.prog.info? 36).map (·.size) = some (pxC p).size := by show _ = some 4; kernel_rfl
theorem pxC_one (p : Px) : (pxC p).all (·.oneCell') = true := by simp [pxC, Value.oneCell']
/-- Sample k of some bytes. -/
def smpP (two : Bool) (l : List UInt8) (k : Nat) : Nat := if two then 256 * (l.getD (2 * k) 0).toNat + (l.getD (2 * k + 1) 0).toNat else (l.getD k 0).toNat
/-- The value of sample k. -/
def valS (two : Bool) (g : Nat) (l : List UInt8) (k : Nat) : Int := rdI ((smpP two l k * 65535 : Nat) : Int) g
def okS (two : Bool) (d g : Nat) (l : List UInt8) : Bool := (List.range d).all fun k => decide (smpP two l k ≤ g)
def pxS (two : Bool) (d g : Nat) (l : List UInt8) : Px :=
  if d = 1 then (valS two g l 0, valS two g l 0, valS two g l 0, 65535)
  else if d = 2 then (valS two g l 0, valS two g l 0, valS two g l 0, valS two g l 1)
  else if d = 3 then (valS two g l 0, valS two g l 1, valS two g l 2, 65535)
  else (valS two g l 0, valS two g l 1, valS two g l 2, valS two g l 3)
def pxV (two : Bool) (d g : Nat) (l : List UInt8) : Value := if okS two d g l = true then .tuple #[.agg (pxC (pxS two d g l)), .bool true] else .tuple #[.agg (pxC (0, 0, 0, 0)), .bool false]
theorem smp_le (two : Bool) (l : List UInt8) (k : Nat) : smpP two l k ≤ 65535 := by
  unfold smpP
  have h1 := (l.getD (2 * k) 0).toNat_lt
  have h2 := (l.getD (2 * k + 1) 0).toNat_lt
  have h3 := (l.getD k 0).toNat_lt
  split <;> omega
theorem okS_bad (two : Bool) (d g : Nat) (l : List UInt8) (k : Nat) (hk : k < d) (h : ¬ smpP two l k ≤ g) : okS two d g l = false := by
  unfold okS
  rw [Bool.eq_false_iff]
  intro ha
  have := List.all_eq_true.1 ha k (List.mem_range.2 hk)
  exact h (by simpa using this)
theorem okS_all (two : Bool) (d g : Nat) (l : List UInt8) (h : ∀ k, k < d → smpP two l k ≤ g) : okS two d g l = true := by
  unfold okS
  rw [List.all_eq_true]
  intro k hk
  simpa using h k (List.mem_range.1 hk)

theorem or_high (a b : Nat) (ha : a < 256) (hb : b < 256) : bits .or .i64 ((a : Int) * 256) (b : Int) = ((256 * a + b : Nat) : Int) := by
  have h1 : ∀ a : Nat, a < 9223372036854775808 → (BitVec.ofInt 64 (a : Int)).toNat = a := fun a ha => by
    rw [BitVec.ofInt_natCast, BitVec.toNat_ofNat]; exact Nat.mod_eq_of_lt (by omega)
  have e0 : (a : Int) * 256 = ((a * 2 ^ 8 : Nat) : Int) := by omega
  have e1 : a * 2 ^ 8 ||| b = a * 2 ^ 8 + b := by rw [Nat.mul_comm]; exact (Nat.two_pow_add_eq_or_of_lt (by omega) a).symm
  rw [e0]
  show IntKind.i64.wrap ((BitVec.ofInt 64 ((a * 2 ^ 8 : Nat) : Int) ||| BitVec.ofInt 64 (b : Int)).toNat : Int) = _
  rw [BitVec.toNat_or, h1 _ (by omega), h1 b (by omega), e1, IntKind.wrap_i64]
  omega

set_option maxHeartbeats 2000000 in
set_option maxRecDepth 100000 in
theorem readPixel_any (s : ByteArray) (two : Bool) (d g : Nat) (w : World) (hd1 : 1 ≤ d) (hd4 : d ≤ 4) (hg1 : 1 ≤ g) (hg2 : g ≤ 65535) (hs : s.size = if two then d * 2 else d) :
    Calls Tryd.prog 23 #[.string s, .int .i64 d, .int .i64 g] w fun e w' => e = .returned (pxV two d g s.data.toList) ∧ Below w.heap.size w w' := by
  have HV : Hid (pxV two d g s.data.toList = if okS two d g s.data.toList = true then .tuple #[.agg (pxC (pxS two d g s.data.toList)), .bool true] else .tuple #[.agg (pxC (0, 0, 0, 0)), .bool false]) := rfl
  go_enter Tryd.func23, Tryd.ntmps23
  go_wp2_with fail
  go_loopw [12] (fun vi wr => ∃ (i : Nat) (cs : Array Value), vi = .int .i64 i ∧ i ≤ d ∧ Hid (Blk wr w.heap.size 36 (pxC (0, 0, 0, 0))) ∧ Hid (Blk wr (w.heap.size + 1) 59 cs) ∧ Hid (cs.size = 4 ∧ ∀ j, j < i → cs[j]? = some (.int .i64 (valS two g s.data.toList j))) ∧ Hid (∀ j, j < i → smpP two s.data.toList j ≤ g) ∧ Hid (Below w.heap.size w wr)) (fun vi _ => d - (intOf vi).toNat)
  case atStart =>
    exact ⟨0, #[.int .i64 0, .int .i64 0, .int .i64 0, .int .i64 0], rfl, Nat.zero_le _, (Blk.new w _ _).alloc _, Blk.new_at (by simp) _ _, ⟨rfl, fun j h => absurd h (by omega)⟩, fun j h => absurd h (by omega), ((Below.refl w.heap.size w).alloc (Nat.le_refl _) _).alloc (by simp) _⟩
  case round =>
    obtain ⟨i, cs, rfl, hi, hb6, hb8, hcs, hok, hbw⟩ := hrel
    generalize hB : w.heap.size = B at *
    have HB := Lib.hid hB
    clear hB
    by_cases hlt : i < d
    · have hdl : decide ((i : Int) < (d : Int)) = true := by simp; omega
      have HLE := Lib.hid (smp_le two s.data.toList i)
      have HSM : Hid (smpP two s.data.toList i = if two then 256 * (s.data.toList.getD (2 * i) 0).toNat + (s.data.toList.getD (2 * i + 1) 0).toNat else (s.data.toList.getD i 0).toNat) := rfl
      have HVS : Hid (valS two g s.data.toList i = rdI ((smpP two s.data.toList i * 65535 : Nat) : Int) g) := rfl
      cases two with
      | false =>
        have hs2 : s.size = d := hs
        have his : i < s.size := by omega
        have hsm : smpP false s.data.toList i = (s[i]).toNat := by rw [HSM.out, byte_at s i his]; rfl
        have e1 : ¬ d < s.size := by omega
        have m3 : wrap64 ((s[i]).toNat : Int) = ((s[i]).toNat : Int) := wrap64_byte' _
        have b1 := (s[i]).toNat_lt
        have HS2 := Lib.hid hs2
        obtain ⟨X, hX⟩ : ∃ X, (s[i]).toNat = X := ⟨_, rfl⟩
        have HSX : Hid (smpP false s.data.toList i = X) := by show _ = _; rw [hsm, hX]
        have hX65 : X ≤ 65535 := by rw [← hX]; omega
        clear hs2 hs hsm
        generalize wr = W at *
        by_cases hgx : g < X
        · have HF : Hid (okS false d g s.data.toList = false) := okS_bad _ _ _ _ i hlt (by rw [HSX.out]; omega)
          go_wp2_with (refine wpList_rset_same rfl 36 (.tmp 6) (.tmp 39) rfl rfl B (pxC (0, 0, 0, 0)) (by rfl) (by rfl) 36 (by exact hb6.out) (pxC_inf _) (pxC_one _) ?_)
          refine bodyPost_ret (v := .tuple #[.agg (pxC (0, 0, 0, 0)), .bool false]) (results_ct rfl _ _ B 36 (pxC (0, 0, 0, 0)) (0, 0) _ _ rfl rfl hb6.out Tryd.underlying36 rfl (pxC_inf _)) rfl ⟨?_, by rw [HB.out]; exact hbw.out⟩
          rw [HV.out, HF.out]; rfl
        · have HDV := Lib.hid (fun w => divI_any ((X : Int) * 65535) g w (by omega) (by omega) (by omega) (by omega))
          have HVX : Hid (rdI ((X : Int) * 65535) g = valS false g s.data.toList i) := by
            show _ = _
            rw [HVS.out, HSX.out]; congr 1
          rw [HVX.out] at HDV
          obtain ⟨u0, hu0⟩ : ∃ u, cs[i]? = some u := ⟨_, Array.getElem?_eq_getElem (by have := hcs.out.1; omega)⟩
          have hc8 : W.cell? ⟨B + 1, i, none⟩ = some u0 := (hb8.out.cell i).trans hu0
          have hf8 : W.frozen? ⟨B + 1, i, none⟩ = false := hb8.out.frozen i
          have i4 : (i : Int) < 4 := by omega
          have i0 : (0 : Int) ≤ (i : Int) := by omega
          clear hu0
          go_wp2_with fail
          refine (HDV.out _).mono ?_
          rintro e w2 ⟨rfl, rfl⟩
          go_wp2_with fail
          go_roundw
          case rel =>
            refine ⟨i + 1, cs.setIfInBounds i (.int .i64 (valS false g s.data.toList i)), by go_num, by omega, ?_, ?_, ?_, ?_, ?_⟩
            · exact hb6.out.other (p := ⟨B + 1, i, none⟩) (by simp) _
            · exact hb8.out.put i _
            · obtain ⟨a1, a2⟩ := hcs.out
              refine ⟨by simpa using a1, fun j hj => ?_⟩
              by_cases hji : j = i
              · subst hji
                rw [Array.getElem?_setIfInBounds_self_of_lt (by omega)]
              · rw [Array.getElem?_setIfInBounds_ne (fun e => hji e.symm), a2 j (by omega)]
            · intro j hj
              by_cases hji : j = i
              · subst hji; rw [HSX.out]; omega
              · exact hok.out j (by omega)
            · exact below_put hbw.out (p := ⟨B + 1, i, none⟩) (by simp) _
          case measure => simp [intOf]; omega
      | true =>
        have hs2 : s.size = d * 2 := hs
        have his : i < s.size := by omega
        obtain ⟨p, q, his1, his2, hsm, m1, m2⟩ : ∃ (p q : Nat) (hp : p < s.size) (hq : q < s.size), smpP true s.data.toList i = 256 * (s[p]).toNat + (s[q]).toNat ∧ IntKind.i64.wrap (2 * (i : Int)) = (p : Int) ∧ IntKind.i64.wrap ((p : Int) + 1) = (q : Int) := by
          refine ⟨2 * i, 2 * i + 1, by omega, by omega, ?_, by rw [IntKind.wrap_i64]; omega, by rw [IntKind.wrap_i64]; omega⟩
          rw [HSM.out, byte_at s _ (by omega), byte_at s _ (by omega)]; rfl
        have e1 : d < s.size := by omega
        have HS2 := Lib.hid hs2
        have HSM2 := Lib.hid hsm
        clear hs2 hs hsm HSM
        have m3 : wrap64 ((s[i]).toNat : Int) = ((s[i]).toNat : Int) := wrap64_byte' _
        have m4 : wrap64 ((s[p]).toNat : Int) = ((s[p]).toNat : Int) := wrap64_byte' _
        have m5 : wrap64 ((s[q]).toNat : Int) = ((s[q]).toNat : Int) := wrap64_byte' _
        have j1 : (p : Int) < (s.size : Int) := by omega
        have j2 : (q : Int) < (s.size : Int) := by omega
        have b1 := (s[p]).toNat_lt
        have b2 := (s[q]).toNat_lt
        go_wp2_with fail
        go_quiet (fail)
        rw [or_high _ _ b1 b2]
        obtain ⟨X, hX⟩ : ∃ X, X = 256 * (s[p]).toNat + (s[q]).toNat := ⟨_, rfl⟩
        rw [← hX]
        have HSX : Hid (smpP true s.data.toList i = X) := by show _ = _; rw [HSM2.out, hX]
        have hX65 : X ≤ 65535 := by rw [hX]; omega
        clear hX m1 m2 m3 m4 m5 b1 b2
        replace hb6 := Lib.hid (hb6.out.drewN nq)
        replace hb8 := Lib.hid (hb8.out.drewN nq)
        replace hbw := Lib.hid (below_drewN hbw.out nq)
        generalize wr.drewN nq = W at *
        by_cases hgx : g < X
        · have HF : Hid (okS true d g s.data.toList = false) := okS_bad _ _ _ _ i hlt (by rw [HSX.out]; omega)
          go_wp2_with (refine wpList_rset_same rfl 36 (.tmp 6) (.tmp 39) rfl rfl B (pxC (0, 0, 0, 0)) (by rfl) (by rfl) 36 (by exact hb6.out) (pxC_inf _) (pxC_one _) ?_)
          refine bodyPost_ret (v := .tuple #[.agg (pxC (0, 0, 0, 0)), .bool false]) (results_ct rfl _ _ B 36 (pxC (0, 0, 0, 0)) (0, 0) _ _ rfl rfl hb6.out Tryd.underlying36 rfl (pxC_inf _)) rfl ⟨?_, by rw [HB.out]; exact hbw.out⟩
          rw [HV.out, HF.out]; rfl
        · have HDV := Lib.hid (fun w => divI_any ((X : Int) * 65535) g w (by omega) (by omega) (by omega) (by omega))
          have HVX : Hid (rdI ((X : Int) * 65535) g = valS true g s.data.toList i) := by
            show _ = _
            rw [HVS.out, HSX.out]; congr 1
          rw [HVX.out] at HDV
          obtain ⟨u0, hu0⟩ : ∃ u, cs[i]? = some u := ⟨_, Array.getElem?_eq_getElem (by have := hcs.out.1; omega)⟩
          have hc8 : W.cell? ⟨B + 1, i, none⟩ = some u0 := (hb8.out.cell i).trans hu0
          have hf8 : W.frozen? ⟨B + 1, i, none⟩ = false := hb8.out.frozen i
          have i4 : (i : Int) < 4 := by omega
          have i0 : (0 : Int) ≤ (i : Int) := by omega
          clear hu0
          go_wp2_with fail
          refine (HDV.out _).mono ?_
          rintro e w2 ⟨rfl, rfl⟩
          go_wp2_with fail
          go_roundw
          case rel =>
            refine ⟨i + 1, cs.setIfInBounds i (.int .i64 (valS true g s.data.toList i)), by go_num, by omega, ?_, ?_, ?_, ?_, ?_⟩
            · exact hb6.out.other (p := ⟨B + 1, i, none⟩) (by simp) _
            · exact hb8.out.put i _
            · obtain ⟨a1, a2⟩ := hcs.out
              refine ⟨by simpa using a1, fun j hj => ?_⟩
              by_cases hji : j = i
              · subst hji
                rw [Array.getElem?_setIfInBounds_self_of_lt (by omega)]
              · rw [Array.getElem?_setIfInBounds_ne (fun e => hji e.symm), a2 j (by omega)]
            · intro j hj
              by_cases hji : j = i
              · subst hji; rw [HSX.out]; omega
              · exact hok.out j (by omega)
            · exact below_put hbw.out (p := ⟨B + 1, i, none⟩) (by simp) _
          case measure => simp [intOf]; omega
    · have hdl : decide ((i : Int) < (d : Int)) = false := by simp; omega
      have hid : i = d := by omega
      subst hid
      have HO : Hid (okS two i g s.data.toList = true) := okS_all _ _ _ _ hok.out
      have HPX : Hid (pxS two i g s.data.toList = if i = 1 then (valS two g s.data.toList 0, valS two g s.data.toList 0, valS two g s.data.toList 0, 65535) else if i = 2 then (valS two g s.data.toList 0, valS two g s.data.toList 0, valS two g s.data.toList 0, valS two g s.data.toList 1) else if i = 3 then (valS two g s.data.toList 0, valS two g s.data.toList 1, valS two g s.data.toList 2, 65535) else (valS two g s.data.toList 0, valS two g s.data.toList 1, valS two g s.data.toList 2, valS two g s.data.toList 3)) := rfl
      have HC : Hid (∀ j, j < i → wr.cell? ⟨B + 1, j, none⟩ = some (.int .i64 (valS two g s.data.toList j))) := fun j hj => (hb8.out.cell j).trans (hcs.out.2 j hj)
      generalize valS two g s.data.toList = V at *
      clear hlt hi hs
      have x0 : wr.cell? ⟨B, 0, none⟩ = some (.int .i64 0) := hb6.out.cell 0
      have x1 : wr.cell? ⟨B, 1, none⟩ = some (.int .i64 0) := hb6.out.cell 1
      have x2 : wr.cell? ⟨B, 2, none⟩ = some (.int .i64 0) := hb6.out.cell 2
      have x3 : wr.cell? ⟨B, 3, none⟩ = some (.int .i64 0) := hb6.out.cell 3
      have f0 := hb6.out.frozen 0
      have f1 := hb6.out.frozen 1
      have f2 := hb6.out.frozen 2
      have f3 := hb6.out.frozen 3
      have y0 := HC.out 0 (by omega)
      have h4 : i = 1 ∨ i = 2 ∨ i = 3 ∨ i = 4 := by omega
      rcases h4 with rfl | rfl | rfl | rfl
      · have HP : Hid (pxS two 1 g s.data.toList = (V 0, V 0, V 0, 65535)) := by show _ = _; rw [HPX.out]; rfl
        go_wp2_with fail
        have hz : Blk ((((wr.setCell ⟨B, 0, none⟩ (.int .i64 (V 0))).setCell ⟨B, 1, none⟩ (.int .i64 (V 0))).setCell ⟨B, 2, none⟩ (.int .i64 (V 0))).setCell ⟨B, 3, none⟩ (.int .i64 (65535))) B 36 (pxC (V 0, V 0, V 0, 65535)) := (((hb6.out.put 0 _).put 1 _).put 2 _).put 3 _
        have hbz := below_put (below_put (below_put (below_put hbw.out (p := ⟨B, 0, none⟩) (Nat.le_refl _) (.int .i64 (V 0))) (p := ⟨B, 1, none⟩) (Nat.le_refl _) (.int .i64 (V 0))) (p := ⟨B, 2, none⟩) (Nat.le_refl _) (.int .i64 (V 0))) (p := ⟨B, 3, none⟩) (Nat.le_refl _) (.int .i64 (65535))
        refine bodyPost_ret (v := .tuple #[.agg (pxC (V 0, V 0, V 0, 65535)), .bool true]) (results_ct rfl _ _ B 36 (pxC (V 0, V 0, V 0, 65535)) (0, 0) _ _ rfl rfl hz Tryd.underlying36 rfl (pxC_inf _)) rfl ⟨?_, by rw [HB.out]; exact hbz⟩
        rw [HV.out, HO.out, HP.out]; rfl
      · have y1 := HC.out 1 (by omega)
        have HP : Hid (pxS two 2 g s.data.toList = (V 0, V 0, V 0, V 1)) := by show _ = _; rw [HPX.out]; rfl
        go_wp2_with fail
        have hz : Blk ((((wr.setCell ⟨B, 0, none⟩ (.int .i64 (V 0))).setCell ⟨B, 1, none⟩ (.int .i64 (V 0))).setCell ⟨B, 2, none⟩ (.int .i64 (V 0))).setCell ⟨B, 3, none⟩ (.int .i64 (V 1))) B 36 (pxC (V 0, V 0, V 0, V 1)) := (((hb6.out.put 0 _).put 1 _).put 2 _).put 3 _
        have hbz := below_put (below_put (below_put (below_put hbw.out (p := ⟨B, 0, none⟩) (Nat.le_refl _) (.int .i64 (V 0))) (p := ⟨B, 1, none⟩) (Nat.le_refl _) (.int .i64 (V 0))) (p := ⟨B, 2, none⟩) (Nat.le_refl _) (.int .i64 (V 0))) (p := ⟨B, 3, none⟩) (Nat.le_refl _) (.int .i64 (V 1))
        refine bodyPost_ret (v := .tuple #[.agg (pxC (V 0, V 0, V 0, V 1)), .bool true]) (results_ct rfl _ _ B 36 (pxC (V 0, V 0, V 0, V 1)) (0, 0) _ _ rfl rfl hz Tryd.underlying36 rfl (pxC_inf _)) rfl ⟨?_, by rw [HB.out]; exact hbz⟩
        rw [HV.out, HO.out, HP.out]; rfl
      · have y1 := HC.out 1 (by omega)
        have y2 := HC.out 2 (by omega)
        have HP : Hid (pxS two 3 g s.data.toList = (V 0, V 1, V 2, 65535)) := by show _ = _; rw [HPX.out]; rfl
        go_wp2_with fail
        have hz : Blk ((((wr.setCell ⟨B, 0, none⟩ (.int .i64 (V 0))).setCell ⟨B, 1, none⟩ (.int .i64 (V 1))).setCell ⟨B, 2, none⟩ (.int .i64 (V 2))).setCell ⟨B, 3, none⟩ (.int .i64 (65535))) B 36 (pxC (V 0, V 1, V 2, 65535)) := (((hb6.out.put 0 _).put 1 _).put 2 _).put 3 _
        have hbz := below_put (below_put (below_put (below_put hbw.out (p := ⟨B, 0, none⟩) (Nat.le_refl _) (.int .i64 (V 0))) (p := ⟨B, 1, none⟩) (Nat.le_refl _) (.int .i64 (V 1))) (p := ⟨B, 2, none⟩) (Nat.le_refl _) (.int .i64 (V 2))) (p := ⟨B, 3, none⟩) (Nat.le_refl _) (.int .i64 (65535))
        refine bodyPost_ret (v := .tuple #[.agg (pxC (V 0, V 1, V 2, 65535)), .bool true]) (results_ct rfl _ _ B 36 (pxC (V 0, V 1, V 2, 65535)) (0, 0) _ _ rfl rfl hz Tryd.underlying36 rfl (pxC_inf _)) rfl ⟨?_, by rw [HB.out]; exact hbz⟩
        rw [HV.out, HO.out, HP.out]; rfl
      · have y1 := HC.out 1 (by omega)
        have y2 := HC.out 2 (by omega)
        have y3 := HC.out 3 (by omega)
        have HP : Hid (pxS two 4 g s.data.toList = (V 0, V 1, V 2, V 3)) := by show _ = _; rw [HPX.out]; rfl
        go_wp2_with fail
        have hz : Blk ((((wr.setCell ⟨B, 0, none⟩ (.int .i64 (V 0))).setCell ⟨B, 1, none⟩ (.int .i64 (V 1))).setCell ⟨B, 2, none⟩ (.int .i64 (V 2))).setCell ⟨B, 3, none⟩ (.int .i64 (V 3))) B 36 (pxC (V 0, V 1, V 2, V 3)) := (((hb6.out.put 0 _).put 1 _).put 2 _).put 3 _
        have hbz := below_put (below_put (below_put (below_put hbw.out (p := ⟨B, 0, none⟩) (Nat.le_refl _) (.int .i64 (V 0))) (p := ⟨B, 1, none⟩) (Nat.le_refl _) (.int .i64 (V 1))) (p := ⟨B, 2, none⟩) (Nat.le_refl _) (.int .i64 (V 2))) (p := ⟨B, 3, none⟩) (Nat.le_refl _) (.int .i64 (V 3))
        refine bodyPost_ret (v := .tuple #[.agg (pxC (V 0, V 1, V 2, V 3)), .bool true]) (results_ct rfl _ _ B 36 (pxC (V 0, V 1, V 2, V 3)) (0, 0) _ _ rfl rfl hz Tryd.underlying36 rfl (pxC_inf _)) rfl ⟨?_, by rw [HB.out]; exact hbz⟩
        rw [HV.out, HO.out, HP.out]; rfl
end Go.Proofs.YtakkdgcmeeilbaaDoor
