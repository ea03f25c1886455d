/-
  Walk: Inflate, in the reference.
-/
import Derived.Test.YtkbelkdephfhpaaJ11
import Derived.Test.YtkbelkdephfhpaaJ12
import Derived.Test.YtkbelkdephfhpaaI15
namespace Go.Proofs.Ytkbelkdephfhpaa
open Go.RowKit

theorem refClamp_any (m : Int) (w : World) :
    Calls Try.prog 19 #[.int .i64 m, .int .i64 0, .int .i64 1048576] w fun e w' => e = .returned (.int .i64 (mostN m : Nat)) ∧ w = w' := by
  have hM : (mostN m : Int) = if m < 0 then 0 else if 1048576 < m then 1048576 else m := by
    unfold mostN
    split
    · omega
    · split <;> omega
  have HM := Lib.hid hM
  clear hM
  by_cases h1 : m < 0
  · have HR : Hid ((mostN m : Int) = 0) := by show _ = _; rw [HM.out, if_pos h1]
    have d1 : decide (m < 0) = true := by simp; omega
    go_enter Try.func19, Try.ntmps19
    go_wp2_with fail
    go_ret
    exact ⟨by rw [HR.out]; rfl, rfl⟩
  have d1 : decide (m < 0) = false := by simp; omega
  by_cases h2 : 1048576 < m
  · have HR : Hid ((mostN m : Int) = 1048576) := by show _ = _; rw [HM.out, if_neg h1, if_pos h2]
    have d2 : decide (1048576 < m) = true := by simp; omega
    go_enter Try.func19, Try.ntmps19
    go_wp2_with fail
    go_ret
    exact ⟨by rw [HR.out]; rfl, rfl⟩
  · have HR : Hid ((mostN m : Int) = m) := by show _ = _; rw [HM.out, if_neg h1, if_neg h2]
    have d2 : decide (1048576 < m) = false := by simp; omega
    go_enter Try.func19, Try.ntmps19
    go_wp2_with fail
    all_goals
      go_ret
      refine ⟨?_, rfl⟩
      rw [HR.out]
      first
        | rfl
        | (show Ending.returned (.int .i64 1048576) = _
           congr 2
           omega)
theorem disR_sum {l : List Nat} (h : disR l) (h15 : ∀ n ∈ l, n ≤ 15) : sumC l ≤ 32768 := by
  have hsu := sum_used l h15
  rcases h with h | h | h
  · omega
  · have := hsu.2 h; omega
  · omega
theorem good_fix : Good fixL ∧ Good fixD := by
  refine ⟨⟨fix15.1, by rw [fix15.2.1]; decide, by decide +kernel⟩, ⟨fix15.2.2.1, by rw [fix15.2.2.2]; decide, by decide +kernel⟩⟩
theorem dyn_good {b b' : List Bool} {ll dl : List Nat} (h : dynT b = .ok ((ll, dl), b')) : Good ll ∧ Good dl := by
  rw [dyn0] at h
  split at h
  · cases h
  · unfold dyn1 at h
    split at h
    · cases h
    · unfold dyn2 at h
      split at h
      · cases h
      · unfold dyn3 at h
        split at h
        · cases h
        · rename_i hbad
          split at h
          · cases h
          · rename_i cl b4 hcl
            have hcl19 : cl.length = 19 := by
              have key : ∀ r c b cl b', clGo r c b = .ok (cl, b') → cl.length = c.length := by
                intro r
                induction r with
                | nil => intro c b cl b' h; cases h; rfl
                | cons o r ih =>
                  intro c b cl b' h
                  unfold clGo at h
                  split at h
                  · cases h
                  · rw [ih _ _ _ _ h]; simp
              rw [key _ _ _ _ _ hcl]; rfl
            unfold dyn4 at h
            split at h
            · cases h
            · split at h
              · cases h
              · rename_i all b5 hl
                obtain ⟨hlen, h15⟩ := lstT_ok (by omega) hl
                split at h
                · cases h
                · rename_i hs1
                  split at h
                  · rename_i hdr
                    cases h
                    refine ⟨⟨fun n hn => h15 n (List.mem_of_mem_take hn), by simp; omega, by omega⟩, ⟨fun n hn => h15 n (List.mem_of_mem_drop hn), by simp; omega, disR_sum hdr (fun n hn => h15 n (List.mem_of_mem_drop hn))⟩⟩
                  · cases h

set_option maxRecDepth 100000 in
set_option maxHeartbeats 16000000 in
theorem refInflate_any (s : ByteArray) (m : Int) (w : World) (hs : s.size ≤ 1000000000000000) :
    Calls Try.prog 10 #[.string s, .int .i64 m] w fun e w' => InfOk (infP (mostN m) s.data.toList) e ∧ Below w.heap.size w w' := by
  have hM := mostN_le m
  have HCL := Lib.hid (refClamp_any m w)
  obtain ⟨M, hMM⟩ : ∃ M, mostN m = M := ⟨_, rfl⟩
  rw [hMM] at hM HCL ⊢
  have H0 : Hid (infGo M (8 * s.size + 1) [] (bitsAt s 0) = infGo M (8 * s.data.toList.length + 1) [] (unp s.data.toList)) := by
    show _ = _
    rw [show s.data.toList.length = s.size from by simp]
    rfl
  obtain ⟨r0, hr0⟩ : ∃ r0, infGo M (8 * s.data.toList.length + 1) [] (unp s.data.toList) = r0 := ⟨_, rfl⟩
  have HP : Hid (infP M s.data.toList = infR s.size r0) := by
    show _ = _
    rw [infP_eq, hr0, show s.data.toList.length = s.size from by simp]
  rw [hr0] at H0
  clear hr0 hMM
  have hz0 := Blk.new w 49 (rc s 0 0)
  have HZ0 := Lib.hid hz0
  clear hz0
  have HB0 : Hid (Below w.heap.size w (w.alloc (.cells (rc s 0 0) 49))) := (Below.refl _ _).alloc (Nat.le_refl _) _
  go_enter Try.func10, Try.ntmps10
  go_wp2_with fail
  refine HCL.out.mono ?_
  rintro e w0 ⟨rfl, rfl⟩
  clear HCL
  go_upto_region 3 with fail
  have hz0 := HZ0.out
  have hb0 := HB0.out
  clear HZ0 HB0
  change Code.wp _ _ _ _ (w.alloc (.cells (rc s 0 0) 49))
  generalize w.alloc (.cells (rc s 0 0) 49) = w1 at hz0 hb0 ⊢
  obtain ⟨zb, hzb⟩ : ∃ k, w.heap.size = k := ⟨_, rfl⟩
  rw [hzb] at hz0 hb0 ⊢
  have HZB := Lib.hid hzb
  have hle0 : zb ≤ w1.heap.size := Nat.le_of_lt hz0.lt
  have hB : zb ≤ zb := Nat.le_refl _
  clear hzb
  go_wp2_with fail
  go_loopg [8, 9] (8 * s.size + 2) (fun k v8 v9 wr => ∃ (last q er : Nat) (o : List UInt8), v9 = .int .i64 last ∧ Blk wr zb 49 (rc s q er) ∧ FR zb w1 wr ∧
    ((er = 0 ∧ last = 0 ∧ o.length ≤ M ∧ BRow wr zb 5 v8 o ∧ q ≤ 8 * s.size ∧ ∃ f, 8 * s.size - q < f ∧ f < k ∧ Hid (infGo M f o (bitsAt s q) = r0)) ∨ (er = 0 ∧ last ≠ 0 ∧ 0 < k ∧ q ≤ 8 * s.size ∧ BRow wr zb 5 v8 o ∧ Hid (r0 = .ok (o, bitsAt s q))) ∨ (er ≠ 0 ∧ 0 < k ∧ Hid (r0 = .error er))))
  case atStart => exact ⟨0, 0, 0, [], rfl, hz0, Fr.refl _ _ _, .inl ⟨rfl, rfl, Nat.zero_le _, ⟨rfl, .inl ⟨rfl, rfl⟩⟩, Nat.zero_le _, 8 * s.size + 1, by omega, by omega, H0⟩⟩
  case round =>
    clear hz0 H0
    obtain ⟨last, q, er, o, rfl, hzr, hfr, hcase⟩ := hrel
    have k2 := hzr.cell 2
    simp [rc] at k2
    have hbw : ∀ w', FR zb w1 w' → Below zb w w' := fun w' h => hb0.trans (h.below hle0)
    rcases hcase with ⟨rfl, rfl, hol, hrow, hq, f1, hf1, hk, hinf⟩ | ⟨rfl, hlast, hk, hq, hrow, hE⟩ | ⟨her, hk, hE⟩
    · obtain ⟨f, hf⟩ : ∃ f, f1 = f + 1 := ⟨f1 - 1, by omega⟩
      obtain ⟨g, hg⟩ : ∃ g, gk = g + 1 := ⟨gk - 1, by omega⟩
      have hii := hinf.out
      rw [hf] at hii
      unfold infGo at hii
      have HF := Lib.hid hg
      have hfg : f < g := by omega
      have hqf : 8 * s.size - q ≤ f := by omega
      have hblk : blkT M o (bitsAt s q) = match numT (bitsAt s q) 1 with
        | .error e => .error e
        | .ok (l, b1) => match numT b1 2 with
          | .error e => .error e
          | .ok (k, b2) =>
            match (if k = 0 then stoT M o b2 else if k = 1 then datT fixL fixD M o b2 else if k = 2 then (match dynT b2 with | .error e => .error e | .ok ((ll, dl), b3) => datT ll dl M o b3) else .error 4) with
            | .error e => .error e
            | .ok (o, b3) => .ok (l == 1, o, b3) := rfl
      have HLN : Hid (∀ last o' b', blkT M o (bitsAt s q) = .ok (last, o', b') → b'.length < 8 * s.size - q ∧ o'.length ≤ M) := fun last o' b' h => by have := blkT_len hol h; rwa [bitsAt_length] at this
      have HBK := Lib.hid hblk
      have HII := Lib.hid hii
      clear hf hg hii hinf hf1 hk hblk
      go_wp2_with fail
      refine (refNumber_any s q 1 zb _ hzr hs hq (by decide)).mono ?_
      rintro e w2 ⟨hok, hf2⟩
      have hst := hok.sy hq
      have hfr2 := hfr.trans (fr_of hf2 hB)
      have hrow2 : BRow w2 zb 5 u8 o := hf2.owns hrow (by decide)
      clear hok hf2 hfr hrow hzr k2
      cases hn1 : numT (bitsAt s q) 1 with
      | error k3 =>
        rw [hn1] at hst
        obtain ⟨rfl, p2, hp2, hz2⟩ := hst
        have hk3 := numT_err hn1
        have HE : Hid (infP M s.data.toList = .error k3) := by
          show _ = _
          have h1 := HBK.out
          rw [hn1] at h1
          rw [HP.out, ← HII.out, h1]
          rfl
        have hk1 : ((k3 : Int) != 0) = true := by simp; omega
        have k2 := hz2.cell 2
        simp [rc] at k2
        have hbb := hbw w2 hfr2
        clear hn1 HII HBK HLN hbw hfr2
        go_wp2_with fail
        refine (refNumber_bad s p2 2 k3 zb _ hz2 hk3).mono ?_
        rintro e w3 ⟨rfl, rfl⟩
        go_wp2_with fail
        go_quiet (fail)
        go_wp2_with fail
        go_ret3
        refine ⟨?_, by rw [HZB.out]; exact below_drewN hbb _⟩
        rw [HE.out]; rfl
      | ok lb =>
        obtain ⟨l, b1⟩ := lb
        rw [hn1] at hst
        obtain ⟨rfl, q2, hq2, rfl, hz2⟩ := hst
        have hl2 := (numT_ok hn1).2.2.2
        rw [show (2 : Nat) ^ 1 = 2 from rfl] at hl2
        have h1 := HBK.out
        rw [hn1] at h1
        simp only at h1
        have HBK2 := Lib.hid h1
        clear hn1 h1 HBK
        go_wp2_with fail
        refine (refNumber_any s q2 2 zb _ hz2 hs hq2 (by decide)).mono ?_
        rintro e w3 ⟨hok, hf3⟩
        have hst := hok.sy hq2
        have hfr3 := hfr2.trans (fr_of hf3 hB)
        have hrow3 : BRow w3 zb 5 u8 o := hf3.owns hrow2 (by decide)
        clear hok hf3 hfr2 hrow2 hz2
        cases hn2 : numT (bitsAt s q2) 2 with
        | error k3 =>
          rw [hn2] at hst
          obtain ⟨rfl, p2, hp2, hz3⟩ := hst
          have hk3 := numT_err hn2
          have HE : Hid (infP M s.data.toList = .error k3) := by
            show _ = _
            have h1 := HBK2.out
            rw [hn2] at h1
            rw [HP.out, ← HII.out, h1]
            rfl
          have hk1 : ((k3 : Int) != 0) = true := by simp; omega
          have k2 := hz3.cell 2
          simp [rc] at k2
          have hbb := hbw w3 hfr3
          clear hn2 HII HBK2 HLN hbw hfr3
          go_wp2_with fail
          go_quiet (fail)
          go_wp2_with fail
          go_ret3
          refine ⟨?_, by rw [HZB.out]; exact below_drewN hbb _⟩
          rw [HE.out]; rfl
        | ok kb =>
          obtain ⟨kd, b2⟩ := kb
          rw [hn2] at hst
          obtain ⟨rfl, q3, hq3, rfl, hz3⟩ := hst
          have hkd := (numT_ok hn2).2.2.2
          rw [show (2 : Nat) ^ 2 = 4 from rfl] at hkd
          have h1 := HBK2.out
          rw [hn2] at h1
          simp only at h1
          have k2 := hz3.cell 2
          simp [rc] at k2
          clear hn2 HBK2
          by_cases h3 : kd = 3
          · rw [if_neg (by omega), if_neg (by omega), if_neg (by omega)] at h1
            have HE : Hid (infP M s.data.toList = .error 4) := by show _ = _; rw [HP.out, ← HII.out, h1]; rfl
            subst h3
            have hbb := hbw w3 hfr3
            clear h1 HII HLN hbw
            go_wp2_with fail
            go_ret3
            refine ⟨?_, by rw [HZB.out]; exact hbb⟩
            rw [HE.out]; rfl
          have e3 : ((kd : Int) == 3) = false := beq_false_of_ne (by omega)
          by_cases h0 : kd = 0
          · rw [if_pos h0] at h1
            subst h0
            have HBK3 := Lib.hid h1
            clear h1 h3
            go_wp2_with fail
            refine (refStored_any s q3 M zb zb o u8 _ hz3 hrow3 hB hs hq3 hM hol).mono ?_
            rintro e w4 ⟨hok, hf4⟩
            have hfr4 := hfr3.trans hf4
            have h1 := HBK3.out
            clear HBK3 hf4 hfr3 hrow3 hz3 k2
            cases hr : stoT M o (bitsAt s q3) with
            | error k3 =>
              rw [hr] at hok h1
              obtain ⟨⟨v9, rfl⟩, p9, hz9⟩ := hok
              have hk3 := stoT_err hr
              have HE : Hid (r0 = .error k3) := by show _ = _; rw [← HII.out, h1]
              clear hr h1 HII HLN
              go_wp2_with fail
              go_roundg g
              case measure => have := HF.out; omega
              case rel => exact ⟨l, p9, k3, [], rfl, hz9, hfr4, .inr (.inr ⟨hk3, by omega, HE⟩)⟩
            | ok ob =>
              obtain ⟨o9, b9⟩ := ob
              rw [hr] at hok h1
              obtain ⟨⟨v9, rfl, hrow9⟩, p9, hp9, rfl, hz9⟩ := hok
              simp only at h1
              have hln := HLN.out _ _ _ h1
              rw [bitsAt_length] at hln
              by_cases hl1 : l = 0
              · subst hl1
                have HE : Hid (infGo M f o9 (bitsAt s p9) = r0) := by show _ = _; rw [← HII.out, h1]; rfl
                clear hr h1 HII HLN
                go_wp2_with fail
                go_roundg g
                case measure => have := HF.out; omega
                case rel => exact ⟨0, p9, 0, o9, rfl, hz9, hfr4, .inl ⟨rfl, rfl, hln.2, hrow9, hp9, f, by omega, hfg, HE⟩⟩
              · obtain rfl : l = 1 := by omega
                have HE : Hid (r0 = .ok (o9, bitsAt s p9)) := by show _ = _; rw [← HII.out, h1]; rfl
                clear hr h1 HII HLN
                go_wp2_with fail
                go_roundg g
                case measure => have := HF.out; omega
                case rel => exact ⟨1, p9, 0, o9, rfl, hz9, hfr4, .inr (.inl ⟨rfl, by decide, by omega, hp9, hrow9, HE⟩)⟩
          rw [if_neg h0] at h1
          have e0 : ((kd : Int) == 0) = false := beq_false_of_ne (by omega)
          by_cases h11 : kd = 1
          · rw [if_pos h11] at h1
            subst h11
            have HBK3 := Lib.hid h1
            clear h1 h3 h0
            go_wp2_with fail
            refine (refFixed_any _).mono ?_
            rintro e w4 ⟨⟨vl, vd, rfl, hvl, hvd⟩, hb4⟩
            have hz4 := (Fr.of_below (B := 0) hb4 []).blk hz3 (by simp)
            have hrow4 : BRow w4 zb 5 u8 o := (Fr.of_below (B := 0) hb4 []).owns hrow3 (by simp)
            have hfr4 : FR zb w1 w4 := hfr3.trans (Fr.of_below hb4 _)
            have k2 := hz4.cell 2
            simp [rc] at k2
            clear hb4 hz3 hrow3 hfr3
            go_wp2_with fail
            refine (refData_any s q3 M zb zb o u8 vl vd fixL fixD _ hz4 hrow4 hB hvl hvd good_fix.1 good_fix.2 hs hq3 hM hol).mono ?_
            rintro e w5 ⟨hok, hf5⟩
            have hfr5 := hfr4.trans hf5
            have h1 := HBK3.out
            clear HBK3 hf5 hfr4 hrow4 hz4 hvl hvd k2
            cases hr : datT fixL fixD M o (bitsAt s q3) with
            | error k3 =>
              rw [hr] at hok h1
              obtain ⟨⟨v9, rfl⟩, p9, hz9⟩ := hok
              have hk3 := datT_err hr
              have HE : Hid (r0 = .error k3) := by show _ = _; rw [← HII.out, h1]
              clear hr h1 HII HLN
              go_wp2_with fail
              go_roundg g
              case measure => have := HF.out; omega
              case rel => exact ⟨l, p9, k3, [], rfl, hz9, hfr5, .inr (.inr ⟨hk3, by omega, HE⟩)⟩
            | ok ob =>
              obtain ⟨o9, b9⟩ := ob
              rw [hr] at hok h1
              obtain ⟨⟨v9, rfl, hrow9⟩, p9, hp9, rfl, hz9⟩ := hok
              simp only at h1
              have hln := HLN.out _ _ _ h1
              rw [bitsAt_length] at hln
              by_cases hl1 : l = 0
              · subst hl1
                have HE : Hid (infGo M f o9 (bitsAt s p9) = r0) := by show _ = _; rw [← HII.out, h1]; rfl
                clear hr h1 HII HLN
                go_wp2_with fail
                go_roundg g
                case measure => have := HF.out; omega
                case rel => exact ⟨0, p9, 0, o9, rfl, hz9, hfr5, .inl ⟨rfl, rfl, hln.2, hrow9, hp9, f, by omega, hfg, HE⟩⟩
              · obtain rfl : l = 1 := by omega
                have HE : Hid (r0 = .ok (o9, bitsAt s p9)) := by show _ = _; rw [← HII.out, h1]; rfl
                clear hr h1 HII HLN
                go_wp2_with fail
                go_roundg g
                case measure => have := HF.out; omega
                case rel => exact ⟨1, p9, 0, o9, rfl, hz9, hfr5, .inr (.inl ⟨rfl, by decide, by omega, hp9, hrow9, HE⟩)⟩
          rw [if_neg h11] at h1
          have e1 : ((kd : Int) == 1) = false := beq_false_of_ne (by omega)
          obtain rfl : kd = 2 := by omega
          rw [if_pos rfl] at h1
          have HBK3 := Lib.hid h1
          clear h1 h3 h0 h11
          go_wp2_with fail
          refine (refFixed_any _).mono ?_
          rintro e w4 ⟨⟨vl0, vd0, rfl, -, -⟩, hb4⟩
          have hz4 := (Fr.of_below (B := 0) hb4 []).blk hz3 (by simp)
          have hrow4 : BRow w4 zb 5 u8 o := (Fr.of_below (B := 0) hb4 []).owns hrow3 (by simp)
          have hfr4 : FR zb w1 w4 := hfr3.trans (Fr.of_below hb4 _)
          clear hb4 hz3 hrow3 hfr3 k2
          go_wp2_with fail
          refine (refDynamic_any s q3 zb _ hz4 hs hq3).mono ?_
          rintro e w5 ⟨hok, hf5⟩
          have hfr5 := hfr4.trans (fr_of hf5 hB)
          have hrow5 : BRow w5 zb 5 u8 o := hf5.owns hrow4 (by decide)
          have h1 := HBK3.out
          clear HBK3 hf5 hfr4 hrow4 hz4
          cases hdy : dynT (bitsAt s q3) with
          | error k3 =>
            rw [hdy] at hok h1
            obtain ⟨⟨v5, u5, rfl⟩, p5, hz5⟩ := hok
            have hk3 := dynT_err hdy
            have HE : Hid (r0 = .error k3) := by show _ = _; rw [← HII.out, h1]
            have hk0 : ((k3 : Int) == 0) = false := beq_false_of_ne (by omega)
            have k2 := hz5.cell 2
            simp [rc] at k2
            clear hdy h1 HII HLN
            go_wp2_with fail
            go_roundg g
            case measure => have := HF.out; omega
            case rel => exact ⟨l, p5, k3, [], rfl, hz5, hfr5, .inr (.inr ⟨hk3, by omega, HE⟩)⟩
          | ok db =>
            obtain ⟨⟨ll, dl⟩, b3⟩ := db
            have hgd := dyn_good hdy
            rw [hdy] at hok h1
            obtain ⟨⟨vl, vd, rfl, hvl, hvd⟩, p5, hp5, rfl, hz5⟩ := hok
            simp only at h1
            have HBK4 := Lib.hid h1
            have k2 := hz5.cell 2
            simp [rc] at k2
            clear hdy h1
            go_wp2_with fail
            refine (refData_any s p5 M zb zb o u8 vl vd ll dl _ hz5 hrow5 hB hvl hvd hgd.1 hgd.2 hs hp5 hM hol).mono ?_
            rintro e w6 ⟨hok, hf6⟩
            have hfr6 := hfr5.trans hf6
            have h1 := HBK4.out
            clear HBK4 hf6 hfr5 hrow5 hz5 hvl hvd k2
            cases hr : datT ll dl M o (bitsAt s p5) with
            | error k3 =>
              rw [hr] at hok h1
              obtain ⟨⟨v9, rfl⟩, p9, hz9⟩ := hok
              have hk3 := datT_err hr
              have HE : Hid (r0 = .error k3) := by show _ = _; rw [← HII.out, h1]
              clear hr h1 HII HLN
              go_wp2_with fail
              go_roundg g
              case measure => have := HF.out; omega
              case rel => exact ⟨l, p9, k3, [], rfl, hz9, hfr6, .inr (.inr ⟨hk3, by omega, HE⟩)⟩
            | ok ob =>
              obtain ⟨o9, b9⟩ := ob
              rw [hr] at hok h1
              obtain ⟨⟨v9, rfl, hrow9⟩, p9, hp9, rfl, hz9⟩ := hok
              simp only at h1
              have hln := HLN.out _ _ _ h1
              rw [bitsAt_length] at hln
              by_cases hl1 : l = 0
              · subst hl1
                have HE : Hid (infGo M f o9 (bitsAt s p9) = r0) := by show _ = _; rw [← HII.out, h1]; rfl
                clear hr h1 HII HLN
                go_wp2_with fail
                go_roundg g
                case measure => have := HF.out; omega
                case rel => exact ⟨0, p9, 0, o9, rfl, hz9, hfr6, .inl ⟨rfl, rfl, hln.2, hrow9, hp9, f, by omega, hfg, HE⟩⟩
              · obtain rfl : l = 1 := by omega
                have HE : Hid (r0 = .ok (o9, bitsAt s p9)) := by show _ = _; rw [← HII.out, h1]; rfl
                clear hr h1 HII HLN
                go_wp2_with fail
                go_roundg g
                case measure => have := HF.out; omega
                case rel => exact ⟨1, p9, 0, o9, rfl, hz9, hfr6, .inr (.inl ⟨rfl, by decide, by omega, hp9, hrow9, HE⟩)⟩
    · have d1 : ((last : Int) == 0) = false := beq_false_of_ne (by omega)
      have HE : Hid (infP M s.data.toList = .ok (o, (q + 7) / 8)) := by
        show _ = _
        rw [HP.out, hE.out]
        show Except.ok (o, (8 * s.size - (bitsAt s q).length + 7) / 8) = _
        rw [bitsAt_length]
        congr 3
        omega
      have k1 := hzr.cell 1
      simp [rc] at k1
      have hcv : ∀ n, (convert 39 9 u8).run Try.prog (wr.drewN n) = .ok (.string ⟨o.toArray⟩) (wr.drewN n) := fun n =>
        run_str_of Try.underlying39 Try.underlying5 Try.underlying9 (show BRow (wr.drewN n) zb 5 u8 o from hrow)
      obtain ⟨u, hu⟩ : ∃ u, u = (q + 7) / 8 := ⟨_, rfl⟩
      have hu1 : ((q : Int) + 7) / 8 = (u : Int) := by omega
      have hbb := hbw wr hfr
      rw [← hu] at HE
      have HU1 := Lib.hid hu1
      clear hu hE hbw hfr hrow hu1
      go_wp2_with fail
      go_quiet (fail)
      clear hcv
      go_wp2_with fail
      go_ret3
      refine ⟨?_, by rw [HZB.out]; exact below_drewN hbb _⟩
      rw [HE.out]
      show Ending.returned _ = Ending.returned _
      rw [← HU1.out]
      rfl
    · have hk0 : ((er : Int) == 0) = false := beq_false_of_ne (by omega)
      have hk1 : ((er : Int) != 0) = true := by simp; omega
      have HE : Hid (infP M s.data.toList = .error er) := by show _ = _; rw [HP.out, hE.out]; rfl
      have hbb := hbw wr hfr
      clear hE hbw hfr
      by_cases hl0 : last = 0
      · have d1 : ((last : Int) == 0) = true := by simp; omega
        go_wp2_with fail
        go_quiet (fail)
        go_wp2_with fail
        go_ret3
        refine ⟨?_, by rw [HZB.out]; exact below_drewN hbb _⟩
        rw [HE.out]; rfl
      · have d1 : ((last : Int) == 0) = false := beq_false_of_ne (by omega)
        go_wp2_with fail
        go_quiet (fail)
        go_wp2_with fail
        go_ret3
        refine ⟨?_, by rw [HZB.out]; exact below_drewN hbb _⟩
        rw [HE.out]; rfl
end Go.Proofs.Ytkbelkdephfhpaa
