/-
  Walk: code lengths written with a code, in the reference.
-/
import Derived.Test.YtkbelkdephfhpaaJ9
import Derived.Test.YtkbelkdephfhpaaI12
namespace Go.Proofs.Ytkbelkdephfhpaa
open Go.RowKit

/-- What reading code lengths promises. -/
def RLst (s : ByteArray) (zb : Nat) (r : Except Nat (List Nat × List Bool)) (e : Ending) (w : World) : Prop :=
  match r with
  | .error k => e = .returned (.slice none 0 0) ∧ ∃ p, Blk w zb 49 (rc s p k)
  | .ok (l, b) => (∃ u, e = .returned u ∧ IRow w u l) ∧ ∃ p, p ≤ 8 * s.size ∧ b = bitsAt s p ∧ Blk w zb 49 (rc s p 0)

set_option maxRecDepth 100000 in
set_option maxHeartbeats 16000000 in
theorem refList_any (s : ByteArray) (p zb n : Nat) (vl : Value) (cl : List Nat) (w : World) (hz : Blk w zb 49 (rc s p 0)) (hl : IRow w vl cl) (gl : Good cl) (hs : s.size ≤ 1000000000000000) (hp : p ≤ 8 * s.size) (hn : n ≤ 400) :
    Calls Try.prog 35 #[.pointer (some ⟨zb, 0, none⟩), vl, .int .i64 n] w fun e w' => RLst s zb (lstT cl n (bitsAt s p)) e w' ∧ Fr zb [49] w w' := by
  have HD : Hid (lstGo cl n (n + 1) [] (bitsAt s p) = lstT cl n (bitsAt s p)) := rfl
  obtain ⟨r0, hr0⟩ : ∃ r0, lstT cl n (bitsAt s p) = r0 := ⟨_, rfl⟩
  rw [hr0] at HD ⊢
  clear hr0
  go_enter Try.func35, Try.ntmps35
  go_wp2_with fail
  refine (refLengths_any vl _ _ hl.int).mono ?_
  rintro e w1 ⟨hok, hb1⟩
  rw [lenP_ok cl gl.b15 gl.len gl.sum] at hok
  obtain ⟨lc, rfl, hlc⟩ := hok
  have hz1 := (Fr.of_below (B := 0) hb1 []).blk hz (by simp)
  have hl1 := hl.below hb1
  have hf1 : Fr zb [49] w w1 := Fr.of_below hb1 _
  clear hz hl hb1
  go_wp2_with fail
  obtain ⟨W, hW⟩ : ∃ W, w1.heap.size = W := ⟨_, rfl⟩
  have HW := Lib.hid hW
  have hzW : W ≤ w1.heap.size := by omega
  clear hW
  go_loopg [9] (n + 1) (fun k v9 wr => ∃ (q : Nat) (acc : List Nat), q ≤ 8 * s.size ∧ n - acc.length < k ∧ acc.length ≤ n ∧ Hid (lstGo cl n k acc (bitsAt s q) = r0) ∧ ORow wr W v9 acc ∧ Blk wr zb 49 (rc s q 0) ∧ Fr zb [49] w1 wr ∧ W ≤ wr.heap.size)
  case atStart => exact ⟨p, [], hp, by simp, Nat.zero_le _, HD, ⟨rfl, .inl ⟨rfl, rfl⟩⟩, hz1, Fr.refl _ _ _, hzW⟩
  case round =>
    clear HD hz1 hzW
    obtain ⟨q, acc, hq, hk, hal, hlst, hrow, hzr, hfr, hszr⟩ := hrel
    obtain ⟨f, hf⟩ : ∃ f, gk = f + 1 := ⟨gk - 1, by omega⟩
    have hll := hlst.out
    rw [hf] at hll
    unfold lstGo at hll
    have HF := Lib.hid hf
    have hk2 : n - acc.length ≤ f := by omega
    clear hf hlst hk
    obtain ⟨xa, ca, rfl⟩ : ∃ x c, u9 = .slice x acc.length c := by
      rcases hrow.2 with ⟨rfl, h0⟩ | ⟨g, cap, cur, rfl, _⟩
      · exact ⟨none, 0, by rw [h0]⟩
      · exact ⟨_, _, rfl⟩
    by_cases hnl : n ≤ acc.length
    · rw [if_pos hnl, if_pos (by omega)] at hll
      have d1 : decide ((acc.length : Int) < (n : Int)) = false := by simp; omega
      have HE := Lib.hid hll.symm
      clear hll
      go_wp2_with fail
      go_ret
      refine ⟨?_, hf1.trans hfr⟩
      rw [HE.out]
      exact ⟨⟨_, rfl, hrow.irow⟩, q, hq, rfl, hzr⟩
    rw [if_neg hnl] at hll
    have d1 : decide ((acc.length : Int) < (n : Int)) = true := by simp; omega
    have hlr := hl1.fr hfr (by decide)
    have hlcr := hlc.fr hfr (by decide)
    have HLL := Lib.hid hll
    clear hll
    go_wp2_with fail
    refine (refSymbol_any s q zb vl lc cl _ hzr hlr hlcr gl.b15 (by have := gl.len; omega) hs hq).mono ?_
    rintro e w4 ⟨hst, hf4⟩
    have hll := HLL.out
    clear HLL
    have hfr4 := hfr.trans hf4
    have hrow4 : ORow w4 W (.slice xa acc.length ca) acc := hf4.owns hrow (by decide)
    have hsz4 : W ≤ w4.heap.size := Nat.le_trans hszr hf4.size
    clear hlr hlcr hrow hzr hfr hf4 hszr
    cases hn1 : symT cl (bitsAt s q) with
    | error k =>
      rw [hn1] at hst hll
      obtain ⟨rfl, p4, hp4, hz4⟩ := hst
      have HE : Hid (r0 = .error k) := hll.symm
      have hk := symT_err hn1
      have hk1 : ((k : Int) != 0) = true := by simp; omega
      have hk0 : ((k : Int) == 0) = false := beq_false_of_ne (by omega)
      have k2 := hz4.cell 2
      simp [rc] at k2
      clear hn1 hll
      go_wp2_with fail
      go_ret
      refine ⟨?_, hf1.trans hfr4⟩
      rw [HE.out]
      exact ⟨rfl, p4, hz4⟩
    | ok xb =>
      obtain ⟨y, b1⟩ := xb
      have hy288 := symT_lt hn1
      have hy2 : y < 288 := by have := gl.len; omega
      rw [hn1] at hst hll
      obtain ⟨rfl, q1, hq1, rfl, hz4⟩ := hst
      simp only at hll
      clear hn1 hy288
      have k24 := hz4.cell 2
      simp [rc] at k24
      by_cases h16 : y = 16
      · subst h16
        rw [if_pos rfl] at hll
        by_cases h0 : acc.length = 0
        · rw [if_pos h0] at hll
          have HE : Hid (r0 = .error 4) := hll.symm
          have d3 : ((acc.length : Int) == 0) = true := by rw [h0]; rfl
          clear hll
          have kE := hz4.cell 2
          have fE := hz4.frozen 2
          simp [rc] at kE
          have hz0 := hz4.put 2 (.int .i64 4)
          have hf0 := hfr4.put hz4 (Nat.le_refl _) (by simp) 2 (.int .i64 4)
          have HZ0 := Lib.hid hz0
          have HF0 := Lib.hid hf0
          clear hz0 hf0
          go_upto_region 9 with fail
          have hzE := HZ0.out
          have hfE := HF0.out
          clear HZ0 HF0 kE fE
          generalize w4.setCell ⟨zb, 2, none⟩ (.int .i64 4) = wE at hzE hfE ⊢
          have kE := hzE.cell 2
          simp [rc] at kE
          have hzE2 : Blk wE zb 49 (rc s q1 4) := by simpa [rc] using hzE
          go_wp2_with fail
          refine (refNumber_bad s q1 2 4 zb _ hzE2 (by decide)).mono ?_
          rintro e w5 ⟨rfl, rfl⟩
          go_wp2_with fail
          go_ret
          refine ⟨?_, hf1.trans hfE⟩
          rw [HE.out]
          exact ⟨rfl, q1, hzE2⟩
        rw [if_neg h0] at hll
        have d3 : ((acc.length : Int) == 0) = false := beq_false_of_ne (by omega)
        obtain ⟨g, cap, hv, -⟩ : ∃ g cap, Value.slice xa acc.length ca = .slice (some ⟨g, 0, none⟩) acc.length cap ∧ True := by
          rcases hrow4.2 with ⟨hn, h00⟩ | ⟨g, cap, cur, hv, _⟩
          · omega
          · exact ⟨g, cap, hv, trivial⟩
        cases hv
        have hcellw : ∀ w', ORow w' W (.slice (some ⟨g, 0, none⟩) acc.length ca) acc → w'.cell? ⟨g, acc.length - 1, none⟩ = some (.int .i64 (acc.getD (acc.length - 1) 0 : Nat)) := by
          intro w' hr
          have hj : acc.length - 1 < acc.length := by omega
          have := World.ownsRow.cells hr (g := g) rfl (acc.length - 1) _ (icells_get acc _ hj)
          rw [Addr.add_lit, Nat.zero_add] at this
          rw [this]
          simp [List.getD, hj]
        obtain ⟨A, hA⟩ : ∃ A, acc.length - 1 = A := ⟨_, rfl⟩
        rw [hA] at hll hcellw
        have z2 : (0 : Int) ≤ (A : Int) := by omega
        have z3 : IntKind.i64.wrap ((acc.length : Int) - 1) = (A : Int) := by rw [IntKind.wrap_i64]; omega
        have z4 : (A : Int) < (acc.length : Int) := by omega
        have HCW := Lib.hid hcellw
        generalize acc.getD A 0 = V at *
        have HLL := Lib.hid hll
        clear hll hA h0 hcellw
        go_wp2_with fail
        refine (refNumber_any s q1 2 zb _ hz4 hs hq1 (by decide)).mono ?_
        rintro e w5 ⟨hok, hf5⟩
        have hst := hok.sy hq1
        have hfr5 := hfr4.trans hf5
        have hrow5 : ORow w5 W (.slice (some ⟨g, 0, none⟩) acc.length ca) acc := hf5.owns hrow4 (by decide)
        have hsz5 : W ≤ w5.heap.size := Nat.le_trans hsz4 hf5.size
        have hll := HLL.out
        clear hok hf5 hrow4 hfr4 hz4 hsz4 HLL
        cases hn2 : numT (bitsAt s q1) 2 with
        | error k =>
          rw [hn2] at hst hll
          obtain ⟨rfl, p5, hp5, hz5⟩ := hst
          have HE : Hid (r0 = .error k) := hll.symm
          have hk := numT_err hn2
          have hk1 : ((k : Int) != 0) = true := by simp; omega
          have hk0 : ((k : Int) == 0) = false := beq_false_of_ne (by omega)
          have k2 := hz5.cell 2
          simp [rc] at k2
          clear hn2 hll
          go_wp2_with fail
          go_ret
          refine ⟨?_, hf1.trans hfr5⟩
          rw [HE.out]
          exact ⟨rfl, p5, hz5⟩
        | ok xb =>
          obtain ⟨x, b2⟩ := xb
          rw [hn2] at hst hll
          obtain ⟨rfl, q2, hq2, rfl, hz5⟩ := hst
          have hx := (numT_ok hn2).2.2.2
          simp only at hx hll
          have hx7 : x < 128 := by omega
          have HS := Lib.hid hll
          clear hn2 hll hx
          have hcell := HCW.out w5 hrow5
          have k2 := hz5.cell 2
          simp [rc] at k2
          by_cases hov : n - acc.length < (3 + x)
          · have HE : Hid (r0 = .error 4) := by
              show _ = _
              rw [← HS.out]
              obtain ⟨g, rfl⟩ : ∃ g, f = g + 1 := ⟨f - 1, by omega⟩
              unfold lstGo
              have hl : (acc ++ List.replicate ((3 + x)) V).length = acc.length + ((3 + x)) := by simp
              rw [hl, if_pos (by omega), if_neg (by omega)]
            have d4 : decide ((n : Int) - (acc.length : Int) < (3 : Int) + (x : Int)) = true := by simp; omega
            clear HS
            have kE := hz5.cell 2
            have fE := hz5.frozen 2
            simp [rc] at kE
            have hz0 := hz5.put 2 (.int .i64 4)
            have hf0 := hfr5.put hz5 (Nat.le_refl _) (by simp) 2 (.int .i64 4)
            have HZ0 := Lib.hid hz0
            have HF0 := Lib.hid hf0
            clear hz0 hf0
            go_upto_region 18 with fail
            have hzE := HZ0.out
            have hfE := HF0.out
            clear HZ0 HF0 kE fE
            generalize w5.setCell ⟨zb, 2, none⟩ (.int .i64 4) = wE at hzE hfE ⊢
            have kE := hzE.cell 2
            simp [rc] at kE
            go_wp2_with fail
            go_ret
            refine ⟨?_, hf1.trans hfE⟩
            rw [HE.out]
            exact ⟨rfl, q2, by simpa [rc] using hzE⟩
          have d4 : decide ((n : Int) - (acc.length : Int) < (3 : Int) + (x : Int)) = false := by simp; omega
          go_wp2_with fail
          clear k2 d4
          go_loopw [9, 13] (fun va vi ws => ∃ j : Nat, vi = .int .i64 j ∧ j ≤ (3 + x) ∧ ORow ws W va (acc ++ List.replicate j V) ∧ Blk ws zb 49 (rc s q2 0) ∧ Fr zb [49] w1 ws ∧ W ≤ ws.heap.size) (fun _ vi _ => (3 + x) - (intOf vi).toNat)
          case atStart => exact ⟨0, rfl, Nat.zero_le _, by simpa using hrow5, hz5, hfr5, hsz5⟩
          case round =>
            clear hrow5 hz5 hfr5 hsz5
            obtain ⟨j, rfl, hj, hrow, hzr, hfr, hszr⟩ := hrel
            by_cases hjl : j < (3 + x)
            · have hd : decide ((j : Int) < (3 : Int) + (x : Int)) = true := by simp; omega
              have hown := id hrow
              unfold ORow at hown
              have hlen : (acc ++ List.replicate j V).length = acc.length + j := by simp
              have hvs : ∃ x' c', u9 = .slice x' (acc.length + j) c' := by
                rcases hown.2 with ⟨rfl, h0⟩ | ⟨g, cap, cur, rfl, _⟩
                · exact ⟨none, 0, by rw [← hlen, h0]⟩
                · exact ⟨_, _, by rw [hlen]⟩
              have HX : Hid (acc ++ List.replicate (j + 1) V = (acc ++ List.replicate j V) ++ [V]) := by
                show _ = _
                rw [List.replicate_succ', List.append_assoc]
              rw [hlen] at hown
              have HL := Lib.hid hlen
              clear hlen
              obtain ⟨x', c', rfl⟩ := hvs
              go_wp2_with (at_builtin; refine wpList_app el_int hown hszr rfl rfl rfl (m := 0) rfl (by simp [Value.oneCell']) rfl (by omega) (by unfold maxLen; omega) ?_)
              intro r cap w6 ho hg hat
              have hrow2 : ORow w6 W (.slice (some ⟨r, 0, none⟩) (acc.length + j + 1) cap) (acc ++ List.replicate (j + 1) V) := by
                rw [HX.out]
                exact orow_more ho [V] rfl (by rw [HL.out]; rfl)
              have hfr6 : Fr zb [49] w1 w6 := (hfr.alloc _).grown_new (World.ownsRow.alloc hown _) (by rw [HW.out]; exact Nat.le_refl _) hg
              have hz6 : Blk w6 zb 49 (rc s q2 0) := by
                refine (hg.block zb (by simp; exact Nat.lt_succ_of_lt hzr.lt) ?_).trans (hzr.alloc _)
                exact own_blk_ne' hzr hown.2 (by decide)
              have hsz6 : W ≤ w6.heap.size := by have := hg.size; simp at this; omega
              clear ho hg hat hown hrow HX HL hfr hzr hszr
              go_wp2_with fail
              exact ⟨⟨j + 1, by go_num, by omega, hrow2, hz6, hfr6, hsz6⟩, by simp [intOf]; omega⟩
            · have hd : decide ((j : Int) < (3 : Int) + (x : Int)) = false := by simp; omega
              obtain rfl : j = (3 + x) := by omega
              go_wp2_with fail
              go_roundg f
              case measure => have := HF.out; omega
              case rel => exact ⟨q2, _, hq2, by simp; omega, by simp; omega, HS, hrow, hzr, hfr, hszr⟩
      rw [if_neg h16] at hll
      have d16 : ((y : Int) == 16) = false := beq_false_of_ne (by omega)
      by_cases h17 : y = 17
      · subst h17
        rw [if_pos rfl] at hll
        have HLL := Lib.hid hll
        clear hll
        go_wp2_with fail
        refine (refNumber_any s q1 3 zb _ hz4 hs hq1 (by decide)).mono ?_
        rintro e w5 ⟨hok, hf5⟩
        have hst := hok.sy hq1
        have hfr5 := hfr4.trans hf5
        have hrow5 : ORow w5 W (.slice xa acc.length ca) acc := hf5.owns hrow4 (by decide)
        have hsz5 : W ≤ w5.heap.size := Nat.le_trans hsz4 hf5.size
        have hll := HLL.out
        clear hok hf5 hrow4 hfr4 hz4 hsz4 HLL
        cases hn2 : numT (bitsAt s q1) 3 with
        | error k =>
          rw [hn2] at hst hll
          obtain ⟨rfl, p5, hp5, hz5⟩ := hst
          have HE : Hid (r0 = .error k) := hll.symm
          have hk := numT_err hn2
          have hk1 : ((k : Int) != 0) = true := by simp; omega
          have hk0 : ((k : Int) == 0) = false := beq_false_of_ne (by omega)
          have k2 := hz5.cell 2
          simp [rc] at k2
          clear hn2 hll
          go_wp2_with fail
          go_ret
          refine ⟨?_, hf1.trans hfr5⟩
          rw [HE.out]
          exact ⟨rfl, p5, hz5⟩
        | ok xb =>
          obtain ⟨x, b2⟩ := xb
          rw [hn2] at hst hll
          obtain ⟨rfl, q2, hq2, rfl, hz5⟩ := hst
          have hx := (numT_ok hn2).2.2.2
          simp only at hx hll
          have hx7 : x < 128 := by omega
          have HS := Lib.hid hll
          clear hn2 hll hx
          have k2 := hz5.cell 2
          simp [rc] at k2
          by_cases hov : n - acc.length < (3 + x)
          · have HE : Hid (r0 = .error 4) := by
              show _ = _
              rw [← HS.out]
              obtain ⟨g, rfl⟩ : ∃ g, f = g + 1 := ⟨f - 1, by omega⟩
              unfold lstGo
              have hl : (acc ++ List.replicate ((3 + x)) 0).length = acc.length + ((3 + x)) := by simp
              rw [hl, if_pos (by omega), if_neg (by omega)]
            have d4 : decide ((n : Int) - (acc.length : Int) < (3 : Int) + (x : Int)) = true := by simp; omega
            clear HS
            have kE := hz5.cell 2
            have fE := hz5.frozen 2
            simp [rc] at kE
            have hz0 := hz5.put 2 (.int .i64 4)
            have hf0 := hfr5.put hz5 (Nat.le_refl _) (by simp) 2 (.int .i64 4)
            have HZ0 := Lib.hid hz0
            have HF0 := Lib.hid hf0
            clear hz0 hf0
            go_upto_region 18 with fail
            have hzE := HZ0.out
            have hfE := HF0.out
            clear HZ0 HF0 kE fE
            generalize w5.setCell ⟨zb, 2, none⟩ (.int .i64 4) = wE at hzE hfE ⊢
            have kE := hzE.cell 2
            simp [rc] at kE
            go_wp2_with fail
            go_ret
            refine ⟨?_, hf1.trans hfE⟩
            rw [HE.out]
            exact ⟨rfl, q2, by simpa [rc] using hzE⟩
          have d4 : decide ((n : Int) - (acc.length : Int) < (3 : Int) + (x : Int)) = false := by simp; omega
          go_wp2_with fail
          clear k2 d4
          go_loopw [9, 13] (fun va vi ws => ∃ j : Nat, vi = .int .i64 j ∧ j ≤ (3 + x) ∧ ORow ws W va (acc ++ List.replicate j 0) ∧ Blk ws zb 49 (rc s q2 0) ∧ Fr zb [49] w1 ws ∧ W ≤ ws.heap.size) (fun _ vi _ => (3 + x) - (intOf vi).toNat)
          case atStart => exact ⟨0, rfl, Nat.zero_le _, by simpa using hrow5, hz5, hfr5, hsz5⟩
          case round =>
            clear hrow5 hz5 hfr5 hsz5
            obtain ⟨j, rfl, hj, hrow, hzr, hfr, hszr⟩ := hrel
            by_cases hjl : j < (3 + x)
            · have hd : decide ((j : Int) < (3 : Int) + (x : Int)) = true := by simp; omega
              have hown := id hrow
              unfold ORow at hown
              have hlen : (acc ++ List.replicate j 0).length = acc.length + j := by simp
              have hvs : ∃ x' c', u9 = .slice x' (acc.length + j) c' := by
                rcases hown.2 with ⟨rfl, h0⟩ | ⟨g, cap, cur, rfl, _⟩
                · exact ⟨none, 0, by rw [← hlen, h0]⟩
                · exact ⟨_, _, by rw [hlen]⟩
              have HX : Hid (acc ++ List.replicate (j + 1) 0 = (acc ++ List.replicate j 0) ++ [0]) := by
                show _ = _
                rw [List.replicate_succ', List.append_assoc]
              rw [hlen] at hown
              have HL := Lib.hid hlen
              clear hlen
              obtain ⟨x', c', rfl⟩ := hvs
              go_wp2_with (at_builtin; refine wpList_app el_int hown hszr rfl rfl rfl (m := 0) rfl (by simp [Value.oneCell']) rfl (by omega) (by unfold maxLen; omega) ?_)
              intro r cap w6 ho hg hat
              have hrow2 : ORow w6 W (.slice (some ⟨r, 0, none⟩) (acc.length + j + 1) cap) (acc ++ List.replicate (j + 1) 0) := by
                rw [HX.out]
                exact orow_more ho [0] rfl (by rw [HL.out]; rfl)
              have hfr6 : Fr zb [49] w1 w6 := (hfr.alloc _).grown_new (World.ownsRow.alloc hown _) (by rw [HW.out]; exact Nat.le_refl _) hg
              have hz6 : Blk w6 zb 49 (rc s q2 0) := by
                refine (hg.block zb (by simp; exact Nat.lt_succ_of_lt hzr.lt) ?_).trans (hzr.alloc _)
                exact own_blk_ne' hzr hown.2 (by decide)
              have hsz6 : W ≤ w6.heap.size := by have := hg.size; simp at this; omega
              clear ho hg hat hown hrow HX HL hfr hzr hszr
              go_wp2_with fail
              exact ⟨⟨j + 1, by go_num, by omega, hrow2, hz6, hfr6, hsz6⟩, by simp [intOf]; omega⟩
            · have hd : decide ((j : Int) < (3 : Int) + (x : Int)) = false := by simp; omega
              obtain rfl : j = (3 + x) := by omega
              go_wp2_with fail
              go_roundg f
              case measure => have := HF.out; omega
              case rel => exact ⟨q2, _, hq2, by simp; omega, by simp; omega, HS, hrow, hzr, hfr, hszr⟩
      rw [if_neg h17] at hll
      have d17 : ((y : Int) == 17) = false := beq_false_of_ne (by omega)
      by_cases h18 : y = 18
      · subst h18
        rw [if_pos rfl] at hll
        have HLL := Lib.hid hll
        clear hll
        go_wp2_with fail
        refine (refNumber_any s q1 7 zb _ hz4 hs hq1 (by decide)).mono ?_
        rintro e w5 ⟨hok, hf5⟩
        have hst := hok.sy hq1
        have hfr5 := hfr4.trans hf5
        have hrow5 : ORow w5 W (.slice xa acc.length ca) acc := hf5.owns hrow4 (by decide)
        have hsz5 : W ≤ w5.heap.size := Nat.le_trans hsz4 hf5.size
        have hll := HLL.out
        clear hok hf5 hrow4 hfr4 hz4 hsz4 HLL
        cases hn2 : numT (bitsAt s q1) 7 with
        | error k =>
          rw [hn2] at hst hll
          obtain ⟨rfl, p5, hp5, hz5⟩ := hst
          have HE : Hid (r0 = .error k) := hll.symm
          have hk := numT_err hn2
          have hk1 : ((k : Int) != 0) = true := by simp; omega
          have hk0 : ((k : Int) == 0) = false := beq_false_of_ne (by omega)
          have k2 := hz5.cell 2
          simp [rc] at k2
          clear hn2 hll
          go_wp2_with fail
          go_ret
          refine ⟨?_, hf1.trans hfr5⟩
          rw [HE.out]
          exact ⟨rfl, p5, hz5⟩
        | ok xb =>
          obtain ⟨x, b2⟩ := xb
          rw [hn2] at hst hll
          obtain ⟨rfl, q2, hq2, rfl, hz5⟩ := hst
          have hx := (numT_ok hn2).2.2.2
          simp only at hx hll
          have hx7 : x < 128 := by omega
          have HS := Lib.hid hll
          clear hn2 hll hx
          have k2 := hz5.cell 2
          simp [rc] at k2
          by_cases hov : n - acc.length < (11 + x)
          · have HE : Hid (r0 = .error 4) := by
              show _ = _
              rw [← HS.out]
              obtain ⟨g, rfl⟩ : ∃ g, f = g + 1 := ⟨f - 1, by omega⟩
              unfold lstGo
              have hl : (acc ++ List.replicate ((11 + x)) 0).length = acc.length + ((11 + x)) := by simp
              rw [hl, if_pos (by omega), if_neg (by omega)]
            have d4 : decide ((n : Int) - (acc.length : Int) < (11 : Int) + (x : Int)) = true := by simp; omega
            clear HS
            have kE := hz5.cell 2
            have fE := hz5.frozen 2
            simp [rc] at kE
            have hz0 := hz5.put 2 (.int .i64 4)
            have hf0 := hfr5.put hz5 (Nat.le_refl _) (by simp) 2 (.int .i64 4)
            have HZ0 := Lib.hid hz0
            have HF0 := Lib.hid hf0
            clear hz0 hf0
            go_upto_region 18 with fail
            have hzE := HZ0.out
            have hfE := HF0.out
            clear HZ0 HF0 kE fE
            generalize w5.setCell ⟨zb, 2, none⟩ (.int .i64 4) = wE at hzE hfE ⊢
            have kE := hzE.cell 2
            simp [rc] at kE
            go_wp2_with fail
            go_ret
            refine ⟨?_, hf1.trans hfE⟩
            rw [HE.out]
            exact ⟨rfl, q2, by simpa [rc] using hzE⟩
          have d4 : decide ((n : Int) - (acc.length : Int) < (11 : Int) + (x : Int)) = false := by simp; omega
          go_wp2_with fail
          clear k2 d4
          go_loopw [9, 13] (fun va vi ws => ∃ j : Nat, vi = .int .i64 j ∧ j ≤ (11 + x) ∧ ORow ws W va (acc ++ List.replicate j 0) ∧ Blk ws zb 49 (rc s q2 0) ∧ Fr zb [49] w1 ws ∧ W ≤ ws.heap.size) (fun _ vi _ => (11 + x) - (intOf vi).toNat)
          case atStart => exact ⟨0, rfl, Nat.zero_le _, by simpa using hrow5, hz5, hfr5, hsz5⟩
          case round =>
            clear hrow5 hz5 hfr5 hsz5
            obtain ⟨j, rfl, hj, hrow, hzr, hfr, hszr⟩ := hrel
            by_cases hjl : j < (11 + x)
            · have hd : decide ((j : Int) < (11 : Int) + (x : Int)) = true := by simp; omega
              have hown := id hrow
              unfold ORow at hown
              have hlen : (acc ++ List.replicate j 0).length = acc.length + j := by simp
              have hvs : ∃ x' c', u9 = .slice x' (acc.length + j) c' := by
                rcases hown.2 with ⟨rfl, h0⟩ | ⟨g, cap, cur, rfl, _⟩
                · exact ⟨none, 0, by rw [← hlen, h0]⟩
                · exact ⟨_, _, by rw [hlen]⟩
              have HX : Hid (acc ++ List.replicate (j + 1) 0 = (acc ++ List.replicate j 0) ++ [0]) := by
                show _ = _
                rw [List.replicate_succ', List.append_assoc]
              rw [hlen] at hown
              have HL := Lib.hid hlen
              clear hlen
              obtain ⟨x', c', rfl⟩ := hvs
              go_wp2_with (at_builtin; refine wpList_app el_int hown hszr rfl rfl rfl (m := 0) rfl (by simp [Value.oneCell']) rfl (by omega) (by unfold maxLen; omega) ?_)
              intro r cap w6 ho hg hat
              have hrow2 : ORow w6 W (.slice (some ⟨r, 0, none⟩) (acc.length + j + 1) cap) (acc ++ List.replicate (j + 1) 0) := by
                rw [HX.out]
                exact orow_more ho [0] rfl (by rw [HL.out]; rfl)
              have hfr6 : Fr zb [49] w1 w6 := (hfr.alloc _).grown_new (World.ownsRow.alloc hown _) (by rw [HW.out]; exact Nat.le_refl _) hg
              have hz6 : Blk w6 zb 49 (rc s q2 0) := by
                refine (hg.block zb (by simp; exact Nat.lt_succ_of_lt hzr.lt) ?_).trans (hzr.alloc _)
                exact own_blk_ne' hzr hown.2 (by decide)
              have hsz6 : W ≤ w6.heap.size := by have := hg.size; simp at this; omega
              clear ho hg hat hown hrow HX HL hfr hzr hszr
              go_wp2_with fail
              exact ⟨⟨j + 1, by go_num, by omega, hrow2, hz6, hfr6, hsz6⟩, by simp [intOf]; omega⟩
            · have hd : decide ((j : Int) < (11 : Int) + (x : Int)) = false := by simp; omega
              obtain rfl : j = (11 + x) := by omega
              go_wp2_with fail
              go_roundg f
              case measure => have := HF.out; omega
              case rel => exact ⟨q2, _, hq2, by simp; omega, by simp; omega, HS, hrow, hzr, hfr, hszr⟩
      rw [if_neg h18] at hll
      have d18 : ((y : Int) == 18) = false := beq_false_of_ne (by omega)
      have HS : Hid (lstGo cl n f (acc ++ List.replicate 1 y) (bitsAt s q1) = r0) := hll
      clear hll h16 h17 h18
      obtain ⟨q2, hq2e⟩ : ∃ q2, q1 = q2 := ⟨_, rfl⟩
      subst hq2e
      have hz5 := hz4
      have hrow5 := hrow4
      have hfr5 := hfr4
      have hsz5 := hsz4
      have hq2 := hq1
      clear hz4 hrow4 hfr4 hsz4 k24
      have k2 := hz5.cell 2
      simp [rc] at k2
      by_cases hov : n - acc.length < 1
      · exfalso; omega
      have d4 : decide ((n : Int) - (acc.length : Int) < (1 : Int)) = false := by simp; omega
      go_wp2_with fail
      clear k2 d4
      go_loopw [9, 13] (fun va vi ws => ∃ j : Nat, vi = .int .i64 j ∧ j ≤ 1 ∧ ORow ws W va (acc ++ List.replicate j y) ∧ Blk ws zb 49 (rc s q1 0) ∧ Fr zb [49] w1 ws ∧ W ≤ ws.heap.size) (fun _ vi _ => 1 - (intOf vi).toNat)
      case atStart => exact ⟨0, rfl, Nat.zero_le _, by simpa using hrow5, hz5, hfr5, hsz5⟩
      case round =>
        clear hrow5 hz5 hfr5 hsz5
        obtain ⟨j, rfl, hj, hrow, hzr, hfr, hszr⟩ := hrel
        by_cases hjl : j < 1
        · have hd : decide ((j : Int) < (1 : Int)) = true := by simp; omega
          have hown := id hrow
          unfold ORow at hown
          have hlen : (acc ++ List.replicate j y).length = acc.length + j := by simp
          have hvs : ∃ x' c', u9 = .slice x' (acc.length + j) c' := by
            rcases hown.2 with ⟨rfl, h0⟩ | ⟨g, cap, cur, rfl, _⟩
            · exact ⟨none, 0, by rw [← hlen, h0]⟩
            · exact ⟨_, _, by rw [hlen]⟩
          have HX : Hid (acc ++ List.replicate (j + 1) y = (acc ++ List.replicate j y) ++ [y]) := by
            show _ = _
            rw [List.replicate_succ', List.append_assoc]
          rw [hlen] at hown
          have HL := Lib.hid hlen
          clear hlen
          obtain ⟨x', c', rfl⟩ := hvs
          go_wp2_with (at_builtin; refine wpList_app el_int hown hszr rfl rfl rfl (m := 0) rfl (by simp [Value.oneCell']) rfl (by omega) (by unfold maxLen; omega) ?_)
          intro r cap w6 ho hg hat
          have hrow2 : ORow w6 W (.slice (some ⟨r, 0, none⟩) (acc.length + j + 1) cap) (acc ++ List.replicate (j + 1) y) := by
            rw [HX.out]
            exact orow_more ho [y] rfl (by rw [HL.out]; rfl)
          have hfr6 : Fr zb [49] w1 w6 := (hfr.alloc _).grown_new (World.ownsRow.alloc hown _) (by rw [HW.out]; exact Nat.le_refl _) hg
          have hz6 : Blk w6 zb 49 (rc s q1 0) := by
            refine (hg.block zb (by simp; exact Nat.lt_succ_of_lt hzr.lt) ?_).trans (hzr.alloc _)
            exact own_blk_ne' hzr hown.2 (by decide)
          have hsz6 : W ≤ w6.heap.size := by have := hg.size; simp at this; omega
          clear ho hg hat hown hrow HX HL hfr hzr hszr
          go_wp2_with fail
          exact ⟨⟨j + 1, by go_num, by omega, hrow2, hz6, hfr6, hsz6⟩, by simp [intOf]; omega⟩
        · have hd : decide ((j : Int) < (1 : Int)) = false := by simp; omega
          obtain rfl : j = 1 := by omega
          go_wp2_with fail
          go_roundg f
          case measure => have := HF.out; omega
          case rel => exact ⟨q1, _, hq1, by simp; omega, by simp; omega, HS, hrow, hzr, hfr, hszr⟩
end Go.Proofs.Ytkbelkdephfhpaa
