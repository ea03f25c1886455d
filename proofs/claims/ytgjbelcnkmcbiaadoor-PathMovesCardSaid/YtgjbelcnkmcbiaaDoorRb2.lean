/-
  Walk: path.Shift: the image of polygons.
-/
import Derived.Test.YtgjbelcnkmcbiaaDoorRb1
namespace Go.Proofs.YtgjbelcnkmcbiaaDoor
open Go.RowKit

theorem GRow.at {w : World} {x : Option Addr} {c : Nat} {l : List (List Pt)} (h : GRow w (.slice x l.length c) l) (i : Nat) (hi : i < l.length) : ∃ b off, x = some ⟨b, off, none⟩ ∧ ∃ u, w.cell? ⟨b, off + i, none⟩ = some u ∧ QRow w u l[i] := by
  obtain ⟨x', c', hv, h1, -, -, h4⟩ := h
  cases hv
  obtain ⟨b, off, rfl, hc⟩ := h4 (by rintro rfl; cases hi)
  exact ⟨b, off, rfl, hc i hi⟩
theorem QRow.at {w : World} {x : Option Addr} {c : Nat} {l : List Pt} (h : QRow w (.slice x l.length c) l) (i : Nat) (hi : i < l.length) : ∃ b off, x = some ⟨b, off, none⟩ ∧ QCell w b off i l[i] := by
  obtain ⟨x', c', hv, h1, -, -, h4⟩ := h
  cases hv
  obtain ⟨b, off, rfl, hc⟩ := h4 (by rintro rfl; cases hi)
  exact ⟨b, off, rfl, hc i hi⟩

set_option maxRecDepth 100000 in
set_option maxHeartbeats 4000000 in
theorem shift_any (v : Value) (ps : List (List Pt)) (t : Af) (w : World) (hr : GRow w v ps) (htot : totP ps ≤ 1048576) (hlen : ps.length ≤ 1048576) : Calls Tryd.prog 21 #[v, .agg (afC t)] w fun e w' => ShOk t ps e w' ∧ Below w.heap.size w w' := by
  have HCK := Lib.hid (fun w => achk_any t w)
  have HIM := Lib.hid (fun p w => image_any t p w)
  have HTK := Lib.hid (fun i h => tot_take ps i h)
  have HTL := Lib.hid (fun i => tot_le ps i)
  have HTT := Lib.hid htot
  have HSR := Lib.hid hr
  obtain ⟨x, c, rfl, hc1, hc2, -⟩ := hr
  unfold maxLen at hc2
  have hbx := (Below.refl w.heap.size w).alloc (Nat.le_refl _) (.cells (afC t) 45)
  have hK0 := Blk.new w 45 (afC t)
  unfold afC at HCK HIM hbx hK0 ⊢
  have HBX := Lib.hid hbx
  have HKB := Lib.hid hK0
  have k0 : (w.alloc (.cells #[.int .i64 t.a, .int .i64 t.b, .int .i64 t.c, .int .i64 t.d, .int .i64 t.e, .int .i64 t.f] 45)).cell? ⟨w.heap.size, 0, none⟩ = some (.int .i64 t.a) := hK0.cell 0
  clear htot hbx hK0
  by_cases h0 : afChk t = 0
  · rw [h0] at HCK
    have HR : Hid (∀ e w', ShOk t ps e w' = if 4096 < totP ps then e = .returned (.tuple #[.slice none 0 0, .int .i64 3])
      else if ∀ q ∈ ps, ∀ p ∈ q, badP t p = false then ∃ g, e = .returned (.tuple #[g, .int .i64 0]) ∧ GRow w' g (ps.map (·.map (imgP t)))
      else e = .returned (.tuple #[.slice none 0 0, .int .i64 2])) := by
      intro e w'; unfold ShOk; rw [if_neg (by simp [h0])]
    clear h0
    go_enter Tryd.func21, Tryd.ntmps21
    go_wp2_with fail
    refine (HCK.out _).mono ?_
    rintro e w1 ⟨rfl, hb1⟩
    have HB1 := Lib.hid (HBX.out.trans (hb1.mono HBX.out.size))
    have HK1 := Lib.hid ((hb1.block _ HKB.out.lt).trans HKB.out)
    clear hb1 HBX HKB k0 HCK
    go_wp2_with fail
    go_loopw [7, 23] (fun vn vi wr => ∃ (i m : Nat), vi = .int .i64 i ∧ vn = .int .i64 m ∧ i ≤ ps.length ∧ m ≤ 4096 ∧ Hid (m = totP (ps.take i)) ∧ Hid (wr = w1)) (fun _ vi _ => ps.length - (intOf vi).toNat)
    case atStart => exact ⟨0, 0, rfl, rfl, Nat.zero_le _, by decide, by show _ = _; simp [totP], rfl⟩
    case round =>
      obtain ⟨i, m, rfl, rfl, hi, hm, hmt, hwr⟩ := hrel
      by_cases hlt : i < ps.length
      · have hd : decide ((i : Int) < (ps.length : Int)) = true := by simp; omega
        have hrw := HSR.out.below HB1.out
        rw [← hwr.out] at hrw
        obtain ⟨bb, off, rfl, u, hu, hqr⟩ := hrw.at i hlt
        obtain ⟨xq, cq, rfl, hq1, hq2, -⟩ := hqr
        have HTI := Lib.hid (HTK.out i hlt)
        have hts := HTL.out (i + 1)
        obtain ⟨T, hT⟩ : ∃ T, totP ps = T := ⟨_, rfl⟩
        have htb : T ≤ 1048576 := by rw [← hT]; exact HTT.out
        have hmm : totP (ps.take (i + 1)) = m + ps[i].length := by rw [HTI.out, hmt.out]
        rw [hmm, hT] at hts
        obtain ⟨mi, hmi⟩ : ∃ mi, ps[i].length = mi := ⟨_, rfl⟩
        rw [hmi] at hu hmm hts
        have HMM := Lib.hid hmm
        have HTE := Lib.hid hT
        clear hmm hmi hT hmt hq1 hq2 hrw HTI
        by_cases h4 : 4096 < m + mi
        · have hd4 : decide ((4096 : Int) < (m : Int) + (mi : Int)) = true := by simp; omega
          have HRR : Hid (∀ e w', ShOk t ps e w' = (e = .returned (.tuple #[.slice none 0 0, .int .i64 3]))) := by
            intro e w'; rw [HR.out, if_pos (by rw [HTE.out]; omega)]
          go_wp2_with fail
          go_ret2
          exact ⟨by rw [HRR.out]; rfl, by rw [hwr.out]; exact HB1.out⟩
        · have hd4 : decide ((4096 : Int) < (m : Int) + (mi : Int)) = false := by simp; omega
          go_wp2_with fail
          go_roundw
          case rel => exact ⟨i + 1, m + mi, by go_num, by go_num, by omega, by omega, by show _ = _; rw [HMM.out], hwr⟩
          case measure => simp [intOf]; omega
      · have hd : decide ((i : Int) < (ps.length : Int)) = false := by simp; omega
        have HRR : Hid (∀ e w', ShOk t ps e w' = if ∀ q ∈ ps, ∀ p ∈ q, badP t p = false then ∃ g, e = .returned (.tuple #[g, .int .i64 0]) ∧ GRow w' g (ps.map (·.map (imgP t)))
            else e = .returned (.tuple #[.slice none 0 0, .int .i64 2])) := by
          intro e w'
          have h1 := hmt.out
          rw [List.take_of_length_le (by omega)] at h1
          rw [HR.out, if_neg (by omega)]
        have HQL : Hid (∀ i (h : i < ps.length), ps[i].length ≤ 4096) := by
          intro j hj
          have h1 := hmt.out
          rw [List.take_of_length_le (by omega)] at h1
          have h2 := HTK.out j hj
          have h3 := HTL.out (j + 1)
          omega
        have hwr' := hwr.out
        subst hwr'
        have hmk := run_mk el_poly rfl ps.length (by omega) (by omega)
        have HG0 := Lib.hid (World.ownsRow_lit (e := 37) (size := 1) (base := w.heap.size) wr (mkRow (.slice none 0 0) ps.length) ps.length HB1.out.size (by unfold maxLen; omega) (by rw [mkRow_size]; omega))
        have HBG := Lib.hid (HB1.out.alloc HB1.out.size (.cells (mkRow (.slice none 0 0) ps.length) 37))
        have HKG := Lib.hid (Blk.alloc HK1.out (.cells (mkRow (.slice none 0 0) ps.length) 37))
        clear hmt HR HTK HTL HTT
        go_wp2_with fail
        clear hmk
        generalize wr.alloc (.cells (mkRow (.slice none 0 0) ps.length) 37) = wg at *
        generalize hGe : wr.heap.size = G at *
        have HGG : Hid (w.heap.size ≤ G) := by rw [← hGe]; exact HB1.out.size
        clear hGe HK1 HB1 hwr
        have HUN : Hid (∀ u ∈ (mkRow (.slice none 0 0) ps.length).toList, u.oneCell' = true) := by
          intro u hu
          unfold mkRow at hu
          simp at hu
          rw [hu.2]; rfl
        go_loopw [39] (fun vi wj => ∃ (i : Nat) (us : List Value), vi = .int .i64 i ∧ i ≤ ps.length ∧ Hid (us.length = ps.length) ∧ Hid (wj.ownsRow w.heap.size 37 1 (.slice (some ⟨G, 0, none⟩) ps.length ps.length) ps.length us) ∧ Hid (∀ j (_ : j < i) (h1 : j < us.length) (h2 : j < ps.length), PolyAt wj wj.heap.size us[j] (ps[j].map (imgP t))) ∧ Hid (∀ u ∈ us, u.oneCell' = true) ∧ Hid (∀ j (h : j < ps.length), j < i → ∀ p ∈ ps[j], badP t p = false) ∧ Hid (Blk wj w.heap.size 45 #[.int .i64 t.a, .int .i64 t.b, .int .i64 t.c, .int .i64 t.d, .int .i64 t.e, .int .i64 t.f]) ∧ Hid (Below w.heap.size w wj)) (fun vi _ => ps.length - (intOf vi).toNat)
        case atStart => exact ⟨0, _, rfl, Nat.zero_le _, by show _ = _; simp [mkRow], HG0.out, fun j h => absurd h (by omega), HUN.out, fun j h h2 => absurd h2 (by omega), HKG.out, HBG.out⟩
        case round =>
          obtain ⟨i, us, rfl, hi, hul, how, hpo, huo, hbd, hka, hbw⟩ := hrel
          by_cases hlt : i < ps.length
          · have hd : decide ((i : Int) < (ps.length : Int)) = true := by simp; omega
            obtain ⟨bb, off, rfl, u, hu0, hqr⟩ := HSR.out.at i hlt
            have hu := (hbw.out.cell (p := ⟨bb, off + i, none⟩) (World.block_lt_of_cell? w _ hu0)).trans hu0
            clear hu0
            have hql := HQL.out i hlt
            have HPI : Hid (ps[i] ∈ ps) := List.getElem_mem hlt
            obtain ⟨Q, hQ⟩ : ∃ Q, ps[i] = Q := ⟨_, rfl⟩
            have HQE := Lib.hid hQ
            rw [hQ] at hqr hql HPI
            have HQR := Lib.hid hqr
            obtain ⟨xq, cq, rfl, hq1, hq2, -⟩ := hqr
            unfold maxLen at hq2
            have hmk := run_mkpts Q.length (by omega)
            have hoa := World.ownsRow.alloc how.out (.cells (pcells (List.replicate Q.length ((0, 0) : Pt))).toArray 32)
            have hGl := (World.ownsRow.lt how.out G rfl).2
            obtain ⟨u0, hu0⟩ : ∃ u0, (wr.alloc (.cells (pcells (List.replicate Q.length ((0, 0) : Pt))).toArray 32)).cell? ⟨G, i, none⟩ = some u0 := by
              rw [World.ownsRow.cellAt hoa _ (by omega)]
              exact ⟨_, List.getElem?_eq_getElem (by rw [hul.out]; exact hlt)⟩
            have hf0 := World.ownsRow.frozenAt hoa i
            have HOZ := Lib.hid (World.ownsRow.stored hoa i (.slice (some ⟨wr.heap.size, 0, none⟩) Q.length Q.length)).1
            have HUZ : Hid (QOwn ((wr.alloc (.cells (pcells (List.replicate Q.length ((0, 0) : Pt))).toArray 32)).setCell ⟨G, i, none⟩ (.slice (some ⟨wr.heap.size, 0, none⟩) Q.length Q.length)) wr.heap.size (.slice (some ⟨wr.heap.size, 0, none⟩) (List.replicate Q.length ((0, 0) : Pt)).length Q.length) (List.replicate Q.length (0, 0))) := by
              have h1 := World.ownsRow_lit (e := 32) (size := 2) (base := wr.heap.size) wr (pcells (List.replicate Q.length ((0, 0) : Pt))).toArray Q.length (Nat.le_refl _) (by unfold maxLen; omega) (by rw [List.size_toArray, pcells_length]; simp)
              have h2 := ownsRow_setCell_other h1 (a := ⟨G, i, none⟩) (by intro e; have e2 : wr.heap.size = G := (by injection e); omega) (.slice (some ⟨wr.heap.size, 0, none⟩) Q.length Q.length)
              show World.ownsRow _ _ _ _ _ _ _
              rw [List.length_replicate]
              exact h2
            obtain ⟨cur, hcur⟩ : ∃ cur, Blk wr G 37 cur := by
              rcases how.out.2 with ⟨e, -⟩ | ⟨g, cap, cur, e, _, hg, _⟩
              · cases e
              · injection e with e1
                injection e1 with e1
                injection e1 with e1
                subst e1
                exact ⟨cur, hg⟩
            have hFR : Fr wr.heap.size [37] wr (wr.alloc (.cells (pcells (List.replicate Q.length ((0, 0) : Pt))).toArray 32)) := (Fr.refl _ _ _).alloc _
            have hKP : ∀ k ty cs, ty ≠ 37 → Blk wr k ty cs → Blk ((wr.alloc (.cells (pcells (List.replicate Q.length ((0, 0) : Pt))).toArray 32)).setCell ⟨G, i, none⟩ (.slice (some ⟨wr.heap.size, 0, none⟩) Q.length Q.length)) k ty cs := by
              intro k ty cs hne hb
              exact (hb.alloc _).other (p := ⟨G, i, none⟩) (hb.apart hcur hne) _
            have HPO : Hid (∀ j (_ : j < i) (h1 : j < us.length) (h2 : j < ps.length), PolyAt ((wr.alloc (.cells (pcells (List.replicate Q.length ((0, 0) : Pt))).toArray 32)).setCell ⟨G, i, none⟩ (.slice (some ⟨wr.heap.size, 0, none⟩) Q.length Q.length)) wr.heap.size us[j] (ps[j].map (imgP t))) :=
              fun j h h1 h2 => (hpo.out j h h1 h2).kept fun k cs _ hb => hKP k _ cs (by decide) hb
            have HKZ := Lib.hid (hKP _ _ _ (by decide) hka.out)
            have HBZ : Hid (Below w.heap.size w ((wr.alloc (.cells (pcells (List.replicate Q.length ((0, 0) : Pt))).toArray 32)).setCell ⟨G, i, none⟩ (.slice (some ⟨wr.heap.size, 0, none⟩) Q.length Q.length))) := (hbw.out.alloc hbw.out.size _).setCell HGG.out _
            have HUS : Hid (wr.heap.size ≤ ((wr.alloc (.cells (pcells (List.replicate Q.length ((0, 0) : Pt))).toArray 32)).setCell ⟨G, i, none⟩ (.slice (some ⟨wr.heap.size, 0, none⟩) Q.length Q.length)).heap.size) := by show _ ≤ _; rw [World.size_setCell']; simp
            have HWU : Hid (w.heap.size ≤ wr.heap.size) := hbw.out.size
            have HUG := Lib.hid hGl
            clear hoa hGl hcur hFR hKP hpo hka how hQ hbw
            go_wp2_with fail
            clear hmk hu hu0 hf0
            generalize (wr.alloc (.cells (pcells (List.replicate Q.length ((0, 0) : Pt))).toArray 32)).setCell ⟨G, i, none⟩ (.slice (some ⟨wr.heap.size, 0, none⟩) Q.length Q.length) = wz at *
            generalize wr.heap.size = U at *
            have HBD : Hid (∀ p ∈ Q, badP t p = true → ∀ e w', ShOk t ps e w' = (e = .returned (.tuple #[.slice none 0 0, .int .i64 2]))) := by
              intro p hp hb e w'
              rw [HRR.out, if_neg]
              intro h
              rw [h Q HPI.out p hp] at hb
              cases hb
            have HOU : Hid (wz.cell? ⟨G, i, none⟩ = some (.slice (some ⟨U, 0, none⟩) Q.length Q.length)) := by
              show _ = _
              rw [World.ownsRow.cellAt HOZ.out i (by omega), List.getElem?_set_self (by rw [hul.out]; exact hlt)]
            go_loopw [52] (fun vk wj => ∃ (k : Nat) (q : List Pt), vk = .int .i64 k ∧ k ≤ Q.length ∧ Hid (q.length = Q.length) ∧ Hid (∀ j (h : j < q.length) (h' : j < Q.length), j < k → q[j] = imgP t Q[j]) ∧ Hid (∀ j (h : j < Q.length), j < k → badP t Q[j] = false) ∧ Hid (QOwn wj U (.slice (some ⟨U, 0, none⟩) q.length Q.length) q) ∧ Hid (Fr U [32] wz wj)) (fun vk _ => Q.length - (intOf vk).toNat)
            case atStart => exact ⟨0, List.replicate Q.length (0, 0), rfl, Nat.zero_le _, by show _ = _; simp, fun j _ _ h => absurd h (by omega), fun j _ h => absurd h (by omega), HUZ.out, Fr.refl _ _ _⟩
            case round =>
              obtain ⟨k, q, rfl, hk, hqlen, himg, hgood, hqo, hfr⟩ := hrel
              have HBJ : Hid (Below w.heap.size w wr) := HBZ.out.trans ((hfr.out.below HUS.out).mono HWU.out)
              by_cases hlk : k < Q.length
              · have hdk : decide ((k : Int) < (Q.length : Int)) = true := by simp; omega
                have hQr := HQR.out.below HBJ.out
                obtain ⟨bq, oq, rfl, z0, z1⟩ := hQr.at k hlk
                have HPM : Hid (Q[k] ∈ Q) := List.getElem_mem hlk
                obtain ⟨px, py, hp⟩ : ∃ a b, Q[k] = (a, b) := ⟨_, _, rfl⟩
                have HPK := Lib.hid hp
                rw [hp] at z0 z1 HPM
                simp only at z0 z1
                obtain ⟨q1, q2, hq⟩ : ∃ a b, imgP t (px, py) = (a, b) := ⟨_, _, rfl⟩
                have HIP := Lib.hid (fun w => HIM.out (px, py) w)
                rw [hq] at HIP
                unfold ptC at HIP
                simp only at HIP
                have HBY1 := Lib.hid (fun w => beyond_any (px, py) w)
                have HBY2 := Lib.hid (fun w => beyond_any (q1, q2) w)
                unfold ptC at HBY1 HBY2
                simp only at HBY1 HBY2
                have HBB : Hid (badP t (px, py) = (farP (px, py) || farP (q1, q2))) := by show _ = _; unfold badP; rw [hq]
                have HQI := Lib.hid hq
                obtain ⟨f1, hf1⟩ : ∃ f, farP (px, py) = f := ⟨_, rfl⟩
                obtain ⟨f2, hf2⟩ : ∃ f, farP (q1, q2) = f := ⟨_, rfl⟩
                rw [hf1] at HBY1 HBB
                rw [hf2] at HBY2 HBB
                clear hf1 hf2
                have HCY : Hid (∀ W, Below wr.heap.size wr W → Blk W w.heap.size 45 #[.int .i64 t.a, .int .i64 t.b, .int .i64 t.c, .int .i64 t.d, .int .i64 t.e, .int .i64 t.f] ∧ W.cell? ⟨G, i, none⟩ = some (.slice (some ⟨U, 0, none⟩) Q.length Q.length) ∧ QOwn W U (.slice (some ⟨U, 0, none⟩) q.length Q.length) q ∧ Fr U [32] wz W ∧ Below w.heap.size w W) := by
                  intro W hb
                  have hF2 : Fr U [32] wz W := hfr.out.trans ((Fr.of_below hb [32]).mono (Nat.le_trans HUS.out hfr.out.size) (fun _ h => h))
                  have hO2 := hF2.owns HOZ.out (by decide)
                  refine ⟨hF2.blk HKZ.out (by decide), ?_, (Fr.of_below (B := 0) hb []).owns hqo.out (by simp), hF2, HBJ.out.trans (hb.mono HBJ.out.size)⟩
                  rw [World.ownsRow.cellAt hO2 i (by omega), List.getElem?_set_self (by rw [hul.out]; exact hlt)]
                have HS0 := Lib.hid (Blk.new wr 32 #[.int .i64 px, .int .i64 py])
                have HB0 := Lib.hid ((Below.refl wr.heap.size wr).alloc (Nat.le_refl _) (.cells #[.int .i64 px, .int .i64 py] 32))
                clear hp hq hQr hqo hfr
                go_wp2_with fail
                refine (HBY1.out _).mono ?_
                rintro e w2 ⟨rfl, hb2⟩
                have HB2 : Hid (Below wr.heap.size wr w2) := HB0.out.trans (hb2.mono HB0.out.size)
                have HS2 := Lib.hid ((hb2.block _ HS0.out.lt).trans HS0.out)
                clear z0 z1 hb2 HB0 HS0 HBY1
                cases f1 with
                | true =>
                  have HRE := Lib.hid (HBD.out _ HPM.out (by rw [HBB.out]; rfl))
                  go_wp2_with fail
                  go_ret2
                  exact ⟨by rw [HRE.out]; rfl, (HCY.out _ HB2.out).2.2.2.2⟩
                | false =>
                  have m0 := (HCY.out _ HB2.out).1.cell 0
                  have m1 := (HCY.out _ HB2.out).1.cell 1
                  have m2 := (HCY.out _ HB2.out).1.cell 2
                  have m3 := (HCY.out _ HB2.out).1.cell 3
                  have m4 := (HCY.out _ HB2.out).1.cell 4
                  have m5 := (HCY.out _ HB2.out).1.cell 5
                  have b0 : w2.cell? ⟨wr.heap.size, 0, none⟩ = some (.int .i64 px) := Blk.cell HS2.out 0
                  have b1 : w2.cell? ⟨wr.heap.size, 1, none⟩ = some (.int .i64 py) := Blk.cell HS2.out 1
                  go_wp2_with fail
                  refine (HIP.out _).mono ?_
                  rintro e w3 ⟨rfl, hb3⟩
                  have HB4 : Hid (Below wr.heap.size wr (w3.alloc (.cells #[.int .i64 q1, .int .i64 q2] 32))) := (HB2.out.trans (hb3.mono HB2.out.size)).alloc (Nat.le_trans HB2.out.size hb3.size) _
                  have HS4 := Lib.hid (Blk.new w3 32 #[.int .i64 q1, .int .i64 q2])
                  clear m0 m1 m2 m3 m4 m5 b0 b1 hb3 HIP HB2 HS2
                  go_wp2_with fail
                  refine (HBY2.out _).mono ?_
                  rintro e w5 ⟨rfl, hb5⟩
                  have HB5 : Hid (Below wr.heap.size wr w5) := HB4.out.trans (hb5.mono HB4.out.size)
                  have HS5 := Lib.hid ((hb5.block _ HS4.out.lt).trans HS4.out)
                  clear hb5 HB4 HS4 HBY2
                  cases f2 with
                  | true =>
                    have HRE := Lib.hid (HBD.out _ HPM.out (by rw [HBB.out]; rfl))
                    go_wp2_with fail
                    go_ret2
                    exact ⟨by rw [HRE.out]; rfl, (HCY.out _ HB5.out).2.2.2.2⟩
                  | false =>
                    generalize hD : w3.heap.size = D at *
                    clear hD
                    obtain ⟨K0, hK0⟩ : ∃ K0, K0 = w5.heap.size := ⟨_, rfl⟩
                    have HBU : Hid (∀ u : BW K0 w5, Below wr.heap.size wr u.w) := fun u => HB5.out.trans (u.b.mono (by have := HB5.out.size; omega))
                    have c0 : ∀ u : BW K0 w5, u.w.cell? ⟨G, i, none⟩ = some (.slice (some ⟨U, 0, none⟩) Q.length Q.length) := fun u => (HCY.out _ (HBU.out u)).2.1
                    have c1 : ∀ u : BW K0 w5, u.w.cell? ⟨D, 0, none⟩ = some (.int .i64 q1) := fun u => Blk.cell ((u.b.block D (by have := Blk.lt HS5.out; omega)).trans HS5.out) 0
                    have c2 : ∀ u : BW K0 w5, u.w.cell? ⟨D, 1, none⟩ = some (.int .i64 q2) := fun u => Blk.cell ((u.b.block D (by have := Blk.lt HS5.out; omega)).trans HS5.out) 1
                    clear hK0
                    go_upto_region 25 with fail
                    refine wp_region_bw_tail K0 w5 7 (Below.refl _ _) (by kernel_rfl) (by kernel_rfl) ?_
                    simp only [List.take_succ_cons, List.take_zero, List.drop_succ_cons, List.drop_zero]
                    repeat (go_big_quiet_step (fail))
                    refine wpQuiet_nil ?_
                    rintro _ ⟨u, rfl⟩
                    obtain ⟨-, -, ho5, hf5, hb5⟩ := HCY.out _ (HBU.out u)
                    generalize u.w = wy at *
                    clear c0 c1 c2 HBU HS5 HB5 HCY
                    have hpl : (pcells q).length = q.length * 2 := pcells_length q
                    have hqk : k < q.length := by rw [hqlen.out]; exact hlk
                    obtain ⟨v0, t0⟩ : ∃ v0, wy.cell? ⟨U, k * 2, none⟩ = some v0 := by
                      rw [World.ownsRow.cellAt (cap := Q.length) (by have := ho5; unfold QOwn at this; exact this) _ (by omega)]
                      exact ⟨_, List.getElem?_eq_getElem (by omega)⟩
                    obtain ⟨v1, t1⟩ : ∃ v1, wy.cell? ⟨U, k * 2 + 1, none⟩ = some v1 := by
                      rw [World.ownsRow.cellAt (cap := Q.length) (by have := ho5; unfold QOwn at this; exact this) _ (by omega)]
                      exact ⟨_, List.getElem?_eq_getElem (by omega)⟩
                    have g0 := World.ownsRow.frozenAt (show wy.ownsRow U 32 2 (.slice (some ⟨U, 0, none⟩) q.length Q.length) q.length (pcells q) from ho5) (k * 2)
                    have g1 := World.ownsRow.frozenAt (show wy.ownsRow U 32 2 (.slice (some ⟨U, 0, none⟩) q.length Q.length) q.length (pcells q) from ho5) (k * 2 + 1)
                    obtain ⟨cur, hcur⟩ : ∃ cur, Blk wy U 32 cur := by
                      rcases ho5.2 with ⟨e, -⟩ | ⟨g, cap, cur, e, _, hg, _⟩
                      · cases e
                      · injection e with e1
                        injection e1 with e1
                        injection e1 with e1
                        subst e1
                        exact ⟨cur, hg⟩
                    have HFN : Hid (Fr U [32] wz ((wy.setCell ⟨U, k * 2, none⟩ (.int .i64 q1)).setCell ⟨U, k * 2 + 1, none⟩ (.int .i64 q2))) := (hf5.put hcur (Nat.le_refl _) (by simp) _ _).put (hcur.put _ _) (Nat.le_refl _) (by simp) _ _
                    have HQN : Hid (QOwn ((wy.setCell ⟨U, k * 2, none⟩ (.int .i64 q1)).setCell ⟨U, k * 2 + 1, none⟩ (.int .i64 q2)) U (.slice (some ⟨U, 0, none⟩) (q.set k (q1, q2)).length Q.length) (q.set k (q1, q2))) := by
                      have h := ho5.put k hqk q1 q2
                      show QOwn _ _ _ _
                      rw [List.length_set]
                      exact h
                    have HQS : Hid ((q.set k (q1, q2)).length = Q.length) := by show _ = _; rw [List.length_set, hqlen.out]
                    have HIN : Hid (∀ j (h : j < (q.set k (q1, q2)).length) (h' : j < Q.length), j < k + 1 → (q.set k (q1, q2))[j] = imgP t Q[j]) := by
                      intro j h h' hj
                      by_cases hjk : j = k
                      · subst hjk
                        rw [List.getElem_set_self, HPK.out, HQI.out]
                      · rw [List.getElem_set_ne (Ne.symm hjk)]
                        exact himg.out j (by simpa using h) h' (by omega)
                    have HGN : Hid (∀ j (h : j < Q.length), j < k + 1 → badP t Q[j] = false) := by
                      intro j h hj
                      by_cases hjk : j = k
                      · subst hjk
                        rw [HPK.out, HBB.out]; rfl
                      · exact hgood.out j h (by omega)
                    clear hpl hqk hcur hf5 ho5 hb5 himg hgood hqlen
                    go_wp2_with fail
                    go_roundw
                    case rel => exact ⟨k + 1, _, by go_num, by omega, HQS, HIN, HGN, HQN, HFN⟩
                    case measure => simp [intOf]; omega
              · have hdk : decide ((k : Int) < (Q.length : Int)) = false := by simp; omega
                have hkq : k = Q.length := by omega
                have HQF : Hid (q = Q.map (imgP t)) := by
                  refine List.ext_getElem (by rw [hqlen.out, List.length_map]) fun j h1 h2 => ?_
                  rw [List.getElem_map]
                  exact himg.out j h1 (by rw [← hqlen.out]; exact h1) (by rw [← hqlen.out] at hkq; omega)
                have HON := Lib.hid (hfr.out.owns HOZ.out (by decide))
                have HPN : Hid (∀ j (_ : j < i + 1) (h1 : j < (us.set i (.slice (some ⟨U, 0, none⟩) Q.length Q.length)).length) (h2 : j < ps.length), PolyAt wr wr.heap.size (us.set i (.slice (some ⟨U, 0, none⟩) Q.length Q.length))[j] (ps[j].map (imgP t))) := by
                  intro j hj h1 h2
                  by_cases hji : j = i
                  · subst hji
                    rw [List.getElem_set_self]
                    have h3 : QOwn wr U (.slice (some ⟨U, 0, none⟩) Q.length Q.length) (ps[j].map (imgP t)) := by
                      have h4 := hqo.out
                      rw [hqlen.out, HQF.out] at h4
                      rw [HQE.out]
                      exact h4
                    exact ⟨U, h3, fun k' hk' => (World.ownsRow.lt h3 k' hk').2⟩
                  · rw [List.getElem_set_ne (Ne.symm hji)]
                    exact ((HPO.out j (by omega) (by simpa using h1) h2).fr hfr.out).mono (Nat.le_trans HUS.out hfr.out.size)
                have HUO2 : Hid (∀ u ∈ us.set i (.slice (some ⟨U, 0, none⟩) Q.length Q.length), u.oneCell' = true) := by
                  intro u' hu'
                  rcases List.mem_or_eq_of_mem_set hu' with h | h
                  · exact huo.out u' h
                  · rw [h]; rfl
                have HGD2 : Hid (∀ j (h : j < ps.length), j < i + 1 → ∀ p ∈ ps[j], badP t p = false) := by
                  intro j h hj p hp
                  by_cases hji : j = i
                  · subst hji
                    rw [HQE.out] at hp
                    obtain ⟨k', hk', rfl⟩ := List.getElem_of_mem hp
                    exact hgood.out k' hk' (by omega)
                  · exact hbd.out j h (by omega) p hp
                have HKN := Lib.hid (hfr.out.blk HKZ.out (by decide))
                have HUL : Hid ((us.set i (.slice (some ⟨U, 0, none⟩) Q.length Q.length)).length = ps.length) := by show _ = _; rw [List.length_set, hul.out]
                clear himg hgood hqo hfr hqlen
                go_wp2_with fail
                go_roundw
                case rel => exact ⟨i + 1, _, by go_num, by omega, HUL, HON, HPN, HUO2, HGD2, HKN, HBJ⟩
                case measure => simp [intOf]; omega
          · have hd : decide ((i : Int) < (ps.length : Int)) = false := by simp; omega
            have hin : i = ps.length := by omega
            have HFI : Hid (∃ g, Ending.returned (.tuple #[.slice (some ⟨G, 0, none⟩) ps.length ps.length, .int .i64 0]) = .returned (.tuple #[g, .int .i64 0]) ∧ GRow wr g (ps.map (·.map (imgP t)))) := by
              refine ⟨_, rfl, GOwn.row (B := w.heap.size) (b := wr.heap.size) ⟨us, by rw [hul.out, List.length_map], ?_, huo.out, fun j h h' => ?_⟩⟩
              · rw [List.length_map]; exact how.out
              · rw [List.getElem_map]
                rw [List.length_map] at h
                exact hpo.out j (by omega) h' h
            have HALL : Hid (∀ q ∈ ps, ∀ p ∈ q, badP t p = false) := by
              intro q hq p hp
              obtain ⟨j, hj, rfl⟩ := List.getElem_of_mem hq
              exact hbd.out j hj (by omega) p hp
            clear how hpo hbd hka
            go_wp2_with fail
            go_ret2
            exact ⟨by rw [HRR.out, if_pos HALL.out]; exact HFI.out, hbw.out⟩
  · have HR : Hid (∀ e w', ShOk t ps e w' = (e = .returned (.tuple #[.slice none 0 0, .int .i64 (afChk t)]))) := by
      intro e w'; unfold ShOk; rw [if_pos h0]
    generalize afChk t = z at *
    have hz : (z != 0) = true := by simpa using h0
    clear HSR h0
    go_enter Tryd.func21, Tryd.ntmps21
    go_wp2_with fail
    refine (HCK.out _).mono ?_
    rintro e w1 ⟨rfl, hb1⟩
    have HB1 := Lib.hid (HBX.out.trans (hb1.mono HBX.out.size))
    clear hb1 HCK
    go_wp2_with fail
    go_ret2
    exact ⟨by rw [HR.out]; rfl, HB1.out⟩
end Go.Proofs.YtgjbelcnkmcbiaaDoor
