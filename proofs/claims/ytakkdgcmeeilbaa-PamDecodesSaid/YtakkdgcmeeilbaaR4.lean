/-
  Walks: the insertion of an entry, in the reference of pam.
-/
import Derived.Test.YtakkdgcmeeilbaaPl
import Derived.BigQuiet
namespace Go.Proofs.Ytakkdgcmeeilbaa
open Go.RowKit

/-- Metadata with an entry inserted, if it is a new one. -/
def insR (l : List Mt) (m : Mt) : List Mt := if l.length = 16 ∨ anyK l m.1 = true then l else insM l m
theorem insM_len (l : List Mt) (m : Mt) : (insM l m).length = l.length + 1 := (insM_perm l m).length_eq
def insT (d : Bool) (l : List Mt) (m : Mt) : List Mt := if d = true then l else insM l m

theorem mown_shape' {w : World} {b : Nat} {v : Value} {l : List Mt} (h : MOwn w b v l) : ∃ x c, v = .slice x l.length c := by
  rcases h.2 with ⟨rfl, h0⟩ | ⟨g, cap, cur, rfl, _⟩
  · exact ⟨none, 0, by rw [h0]⟩
  · exact ⟨_, _, rfl⟩
theorem mown_zero {w : World} {B b : Nat} (hb : b = w.heap.size) (hB : B ≤ b) : MOwn (w.alloc (.cells #[] 51)) B (.slice (some ⟨b, 0, none⟩) 0 0) [] := by
  subst hb
  exact ⟨rfl, .inr ⟨_, 0, #[], rfl, hB, Blk.new w _ _, Nat.le_refl _, by unfold maxLen; omega, rfl, rfl⟩⟩
theorem insT_step {d : Bool} {l : List Mt} {m q : Mt} {i : Nat} (hi : i < l.length) (hq : l[i] = q) : insT d (l.drop i) m =
    if d = false ∧ Op.bytesLess m.1 q.1 = true then m :: q :: insT true (l.drop (i + 1)) m else q :: insT d (l.drop (i + 1)) m := by
  rw [List.drop_eq_getElem_cons hi, hq]
  cases d with
  | true => rfl
  | false =>
    show insM _ _ = _
    unfold insM
    cases h : Op.bytesLess m.1 q.1
    · rfl
    · rfl

set_option maxHeartbeats 4000000 in
set_option maxRecDepth 100000 in
theorem rinsert_any (v : Value) (l : List Mt) (m : Mt) (w : World) (hr : MRow w v l) (hl : l.length ≤ 16) :
    Calls Try.prog 26 #[v, .agg #[.string ⟨m.1.toArray⟩, .string ⟨m.2.toArray⟩]] w fun e w' => ∃ v', e = .returned v' ∧ MRow w' v' (insR l m) ∧ Below w.heap.size w w' := by
  obtain ⟨ma, mb⟩ := m
  have HRES : Hid (insR l (ma, mb) = if l.length = 16 ∨ anyK l ma = true then l else insM l (ma, mb)) := rfl
  obtain ⟨x, c, rfl, hc1, hc2, hc3, -⟩ := id hr
  unfold maxLen at hc2
  have hr0 := hr.below ((Below.refl w.heap.size w).alloc (Nat.le_refl _) (.cells #[.string ⟨ma.toArray⟩, .string ⟨mb.toArray⟩] 51))
  have hbz := (Below.refl w.heap.size w).alloc (Nat.le_refl _) (.cells #[.string ⟨ma.toArray⟩, .string ⟨mb.toArray⟩] 51)
  have hbl := Blk.new w 51 #[.string ⟨ma.toArray⟩, .string ⟨mb.toArray⟩]
  have hsz : (w.alloc (.cells #[.string ⟨ma.toArray⟩, .string ⟨mb.toArray⟩] 51)).heap.size = w.heap.size + 1 := by simp
  obtain ⟨N, hN⟩ : ∃ N, l.length = N := ⟨_, rfl⟩
  rw [hN] at hl hc1 HRES ⊢
  have HN := Lib.hid hN
  have HR0 := Lib.hid hr
  clear hr
  rw [hN] at hr0
  clear hN
  by_cases h16 : N = 16
  · have HF : Hid (insR l (ma, mb) = l) := by show _ = _; rw [HRES.out, if_pos (.inl h16)]
    have e16 : ((N : Int) == 16) = true := by rw [h16]; rfl
    have HR := Lib.hid hr0
    have HBZ := Lib.hid hbz
    clear h16 hr0 hbz hbl hsz
    go_enter Try.func26, Try.ntmps26
    go_wp2_with fail
    go_ret
    refine ⟨_, rfl, ?_, HBZ.out⟩
    rw [HF.out]; exact HR.out
  have e16 : ((N : Int) == 16) = false := by simp; omega
  have HRES2 : Hid (insR l (ma, mb) = if anyK l ma = true then l else insM l (ma, mb)) := by show _ = _; rw [HRES.out]; simp [h16]
  clear HRES h16
  go_enter Try.func26, Try.ntmps26
  go_wp2_with fail
  generalize w.alloc (.cells #[.string ⟨ma.toArray⟩, .string ⟨mb.toArray⟩] 51) = wz at *
  generalize hB : w.heap.size = B at *
  have HB := Lib.hid hB
  have HR := Lib.hid hr0
  have HBZ := Lib.hid hbz
  have HBL := Lib.hid hbl
  have HSZ := Lib.hid hsz
  clear hB hr0 hbz hbl hsz
  go_loopw [5, 6, 7] (fun v vd vi wr => ∃ (i : Nat) (d : Bool) (acc : List Mt), vd = .bool d ∧ vi = .int .i64 i ∧ i ≤ N ∧ MOwn wr (B + 1) v acc ∧ Hid (acc.length ≤ i + d.toNat) ∧ Hid (insM l (ma, mb) = acc ++ insT d (l.drop i) (ma, mb)) ∧ Hid (anyK (l.take i) ma = false) ∧ Hid (Below (B + 1) wz wr) ∧ B + 1 ≤ wr.heap.size) (fun _ _ vi _ => N - (intOf vi).toNat)
  case atStart =>
    refine ⟨0, false, [], rfl, rfl, Nat.zero_le _, ?_, by show 0 ≤ _; omega, rfl, rfl, ?_, ?_⟩
    · exact mown_zero HSZ.out.symm (Nat.le_refl _)
    · exact (Below.refl _ _).alloc (by rw [HSZ.out]; exact Nat.le_refl _) _
    · simp [HSZ.out]
  case round =>
    obtain ⟨i, d, acc, rfl, rfl, hi, hown, hal, hch, hany, hbw, hszr⟩ := hrel
    obtain ⟨x5, c5, rfl⟩ := mown_shape' hown
    have HBL2 : Hid (Blk wr B 51 #[.string ⟨ma.toArray⟩, .string ⟨mb.toArray⟩]) := (hbw.out.block B (by omega)).trans HBL.out
    have b0 : wr.cell? ⟨B, 0, none⟩ = some (.string ⟨ma.toArray⟩) := HBL2.out.cell 0
    have b1 : wr.cell? ⟨B, 1, none⟩ = some (.string ⟨mb.toArray⟩) := HBL2.out.cell 1
    have hmax : maxLen = 9223372036854775807 := rfl
    have hal' : acc.length ≤ 17 := by have := hal.out; have := Bool.toNat_le d; omega
    by_cases hlt : i < N
    · have hd : decide ((i : Int) < (N : Int)) = true := by simp; omega
      have hlt' : i < l.length := by have := HN.out; omega
      obtain ⟨mk, mv, hm⟩ : ∃ mk mv, l[i] = (mk, mv) := ⟨_, _, rfl⟩
      have hrw := HR.out.below (by rw [HSZ.out]; exact hbw.out)
      obtain ⟨x', c', hv, -, -, -, hcl0⟩ := hrw
      rw [HN.out] at hv
      cases hv
      obtain ⟨b, off, hbo, hcl⟩ := hcl0 (by rintro rfl; simp at hlt')
      obtain ⟨q1, q2⟩ := hcl i hlt'
      have HT := Lib.hid (anyK_take l ma i hlt' _ hm)
      have HH := Lib.hid (anyK_hit l ma i hlt' _ hm)
      have HST := Lib.hid (insT_step (d := d) (m := (ma, mb)) hlt' hm)
      have HM := Lib.hid hm
      rw [hm] at q1 q2
      simp only at q1 q2
      clear hm hcl hcl0
      subst hbo
      cases he : (mk == ma) with
      | true =>
        have HF : Hid (insR l (ma, mb) = l) := by show _ = _; rw [HRES2.out, if_pos (HH.out he)]
        go_wp2_with fail
        go_quiet (fail)
        all_goals
          go_wp2_with fail
          go_ret
          refine ⟨_, rfl, ?_, ?_⟩
          · rw [HF.out, ← HN.out]; exact HR0.out.below (by rw [HB.out]; exact below_drewN (HBZ.out.trans (hbw.out.mono (Nat.le_succ B))) nq)
          · rw [HB.out]; exact below_drewN (HBZ.out.trans (hbw.out.mono (Nat.le_succ B))) nq
      | false =>
        have HAN : Hid (anyK (l.take (i + 1)) ma = false) := by show _ = _; rw [HT.out, hany.out]; simpa using he
        cases d with
        | true =>
          have HCH : Hid (insM l (ma, mb) = (acc ++ [(mk, mv)]) ++ insT true (l.drop (i + 1)) (ma, mb)) := by
            show _ = _
            rw [hch.out, HST.out, if_neg (by simp)]; simp
          go_wp2_with fail
          go_quiet (fail)
          have hown_ : MOwn (wr.drewN nq) (B + 1) (.slice x5 acc.length c5) acc := hown
          have q1_ : (wr.drewN nq).cell? ⟨b, off + i * 2, none⟩ = some (.string ⟨mk.toArray⟩) := q1
          have q2_ : (wr.drewN nq).cell? ⟨b, off + i * 2 + 1, none⟩ = some (.string ⟨mv.toArray⟩) := q2
          have b0_ : (wr.drewN nq).cell? ⟨B, 0, none⟩ = some (.string ⟨ma.toArray⟩) := b0
          have b1_ : (wr.drewN nq).cell? ⟨B, 1, none⟩ = some (.string ⟨mb.toArray⟩) := b1
          have hbw_ : Hid (Below (B + 1) wz (wr.drewN nq)) := below_drewN hbw.out nq
          have hszr_ : B + 1 ≤ (wr.drewN nq).heap.size := hszr
          clear hown q1 q2 b0 b1 hbw hszr
          generalize wr.drewN nq = ws at *
          have hown := hown_
          have q1 := q1_
          have q2 := q2_
          have b0 := b0_
          have b1 := b1_
          have hbw := hbw_
          have hszr := hszr_
          clear hown_ q1_ q2_ b0_ b1_ hbw_ hszr_
          go_wp2_with fail
          go_quiet (fail)
          have hown_ : MOwn (ws.drewN nq) (B + 1) (.slice x5 acc.length c5) acc := hown
          have q1_ : (ws.drewN nq).cell? ⟨b, off + i * 2, none⟩ = some (.string ⟨mk.toArray⟩) := q1
          have q2_ : (ws.drewN nq).cell? ⟨b, off + i * 2 + 1, none⟩ = some (.string ⟨mv.toArray⟩) := q2
          have b0_ : (ws.drewN nq).cell? ⟨B, 0, none⟩ = some (.string ⟨ma.toArray⟩) := b0
          have b1_ : (ws.drewN nq).cell? ⟨B, 1, none⟩ = some (.string ⟨mb.toArray⟩) := b1
          have hbw_ : Hid (Below (B + 1) wz (ws.drewN nq)) := below_drewN hbw.out nq
          have hszr_ : B + 1 ≤ (ws.drewN nq).heap.size := hszr
          clear hown q1 q2 b0 b1 hbw hszr
          generalize ws.drewN nq = wt at *
          have hown := hown_
          have q1 := q1_
          have q2 := q2_
          have b0 := b0_
          have b1 := b1_
          have hbw := hbw_
          have hszr := hszr_
          clear hown_ q1_ q2_ b0_ b1_ hbw_ hszr_
          go_wp2_with (at_builtin; refine wpList_app el_meta hown hszr rfl rfl rfl (m := 0) rfl (by simp [Value.oneCell']) rfl (by omega) (by unfold maxLen; omega) ?_)
          intro r2 cap2 w4 ho2 hg2 _
          have hown2 := mown_more ho2 [(mk, mv)] rfl rfl
          obtain ⟨hbel2, hsz2⟩ := below_app hbw.out hszr hown hg2
          clear ho2 hg2 hown q1 q2 b0 b1
          go_wp2_with fail
          go_roundw
          case rel => exact ⟨i + 1, true, _, rfl, by go_num, by omega, hown2, by have h9 := hal.out; simp only [Bool.toNat_true, Bool.toNat_false] at h9; show _ ≤ _; simp; omega, HCH, HAN, hbel2, hsz2⟩
          case measure => simp [intOf]; omega
        | false => 
          cases hb' : Op.bytesLess mk ma with
          | false =>
            have hb : Op.bytesLess ma mk = true := less_total _ _ hb' (by rintro rfl; simp at he)
            have HCH : Hid (insM l (ma, mb) = (acc ++ [(ma, mb)] ++ [(mk, mv)]) ++ insT true (l.drop (i + 1)) (ma, mb)) := by
              show _ = _
              rw [hch.out, HST.out, if_pos ⟨rfl, hb⟩]; simp
            go_wp2_with fail
            go_quiet (fail)
            have hown_ : MOwn (wr.drewN nq) (B + 1) (.slice x5 acc.length c5) acc := hown
            have q1_ : (wr.drewN nq).cell? ⟨b, off + i * 2, none⟩ = some (.string ⟨mk.toArray⟩) := q1
            have q2_ : (wr.drewN nq).cell? ⟨b, off + i * 2 + 1, none⟩ = some (.string ⟨mv.toArray⟩) := q2
            have b0_ : (wr.drewN nq).cell? ⟨B, 0, none⟩ = some (.string ⟨ma.toArray⟩) := b0
            have b1_ : (wr.drewN nq).cell? ⟨B, 1, none⟩ = some (.string ⟨mb.toArray⟩) := b1
            have hbw_ : Hid (Below (B + 1) wz (wr.drewN nq)) := below_drewN hbw.out nq
            have hszr_ : B + 1 ≤ (wr.drewN nq).heap.size := hszr
            clear hown q1 q2 b0 b1 hbw hszr
            generalize wr.drewN nq = ws at *
            have hown := hown_
            have q1 := q1_
            have q2 := q2_
            have b0 := b0_
            have b1 := b1_
            have hbw := hbw_
            have hszr := hszr_
            clear hown_ q1_ q2_ b0_ b1_ hbw_ hszr_
            go_wp2_with fail
            go_quiet (fail)
            have hown_ : MOwn (ws.drewN nq) (B + 1) (.slice x5 acc.length c5) acc := hown
            have q1_ : (ws.drewN nq).cell? ⟨b, off + i * 2, none⟩ = some (.string ⟨mk.toArray⟩) := q1
            have q2_ : (ws.drewN nq).cell? ⟨b, off + i * 2 + 1, none⟩ = some (.string ⟨mv.toArray⟩) := q2
            have b0_ : (ws.drewN nq).cell? ⟨B, 0, none⟩ = some (.string ⟨ma.toArray⟩) := b0
            have b1_ : (ws.drewN nq).cell? ⟨B, 1, none⟩ = some (.string ⟨mb.toArray⟩) := b1
            have hbw_ : Hid (Below (B + 1) wz (ws.drewN nq)) := below_drewN hbw.out nq
            have hszr_ : B + 1 ≤ (ws.drewN nq).heap.size := hszr
            clear hown q1 q2 b0 b1 hbw hszr
            generalize ws.drewN nq = wt at *
            have hown := hown_
            have q1 := q1_
            have q2 := q2_
            have b0 := b0_
            have b1 := b1_
            have hbw := hbw_
            have hszr := hszr_
            clear hown_ q1_ q2_ b0_ b1_ hbw_ hszr_
            go_wp2_with (at_builtin; refine wpList_app el_meta hown hszr rfl rfl rfl (m := 0) rfl (by simp [Value.oneCell']) rfl (by omega) (by unfold maxLen; omega) ?_)
            intro r2 cap2 w4 ho2 hg2 _
            have hown2 := mown_more ho2 [(ma, mb)] rfl rfl
            obtain ⟨hbel2, hsz2⟩ := below_app hbw.out hszr hown hg2
            have HQ : Hid (MRow w4 (.slice (some ⟨b, off, none⟩) N c) l) := HR.out.below (by rw [HSZ.out]; exact hbel2)
            obtain ⟨x', c', hv, -, -, -, hcl0⟩ := HQ.out
            rw [HN.out] at hv
            cases hv
            obtain ⟨b', off', hbo, hcl⟩ := hcl0 (by rintro rfl; simp at hlt')
            cases hbo
            have hbel2 := Lib.hid hbel2
            obtain ⟨p1, p2⟩ := hcl i hlt'
            rw [HM.out] at p1 p2
            simp only at p1 p2
            clear hcl hcl0 ho2 hg2 hown q1 q2 b0 b1
            have hal2 : (acc ++ [(ma, mb)]).length = acc.length + 1 := by simp
            rw [← hal2] at hown2 ⊢
            generalize acc ++ [(ma, mb)] = acc2 at *
            have hal3 : acc2.length ≤ 18 := by omega
            have HAL2 := Lib.hid hal2
            clear hal2
            go_wp2_with (at_builtin; refine wpList_app el_meta hown2 hsz2 rfl rfl rfl (m := 0) rfl (by simp [Value.oneCell']) rfl (by omega) (by unfold maxLen; omega) ?_)
            intro r3 cap3 w5 ho3 hg3 _
            have hown3 := mown_more ho3 [(mk, mv)] rfl rfl
            obtain ⟨hbel3, hsz3⟩ := below_app hbel2.out hsz2 hown2 hg3
            clear ho3 hg3 hown2 p1 p2
            go_wp2_with fail
            go_roundw
            case rel => exact ⟨i + 1, true, _, rfl, by go_num, by omega, hown3, by have h9 := hal.out; simp only [Bool.toNat_true, Bool.toNat_false] at h9; have := HAL2.out; show _ ≤ _; simp; omega, HCH, HAN, hbel3, hsz3⟩
            case measure => simp [intOf]; omega
          | true =>
            have hb : Op.bytesLess ma mk = false := less_asymm _ _ hb'
            have HCH : Hid (insM l (ma, mb) = (acc ++ [(mk, mv)]) ++ insT false (l.drop (i + 1)) (ma, mb)) := by
              show _ = _
              rw [hch.out, HST.out, if_neg (by rintro ⟨-, h⟩; rw [hb] at h; cases h)]; simp
            go_wp2_with fail
            go_quiet (fail)
            have hown_ : MOwn (wr.drewN nq) (B + 1) (.slice x5 acc.length c5) acc := hown
            have q1_ : (wr.drewN nq).cell? ⟨b, off + i * 2, none⟩ = some (.string ⟨mk.toArray⟩) := q1
            have q2_ : (wr.drewN nq).cell? ⟨b, off + i * 2 + 1, none⟩ = some (.string ⟨mv.toArray⟩) := q2
            have b0_ : (wr.drewN nq).cell? ⟨B, 0, none⟩ = some (.string ⟨ma.toArray⟩) := b0
            have b1_ : (wr.drewN nq).cell? ⟨B, 1, none⟩ = some (.string ⟨mb.toArray⟩) := b1
            have hbw_ : Hid (Below (B + 1) wz (wr.drewN nq)) := below_drewN hbw.out nq
            have hszr_ : B + 1 ≤ (wr.drewN nq).heap.size := hszr
            clear hown q1 q2 b0 b1 hbw hszr
            generalize wr.drewN nq = ws at *
            have hown := hown_
            have q1 := q1_
            have q2 := q2_
            have b0 := b0_
            have b1 := b1_
            have hbw := hbw_
            have hszr := hszr_
            clear hown_ q1_ q2_ b0_ b1_ hbw_ hszr_
            go_wp2_with fail
            go_quiet (fail)
            have hown_ : MOwn (ws.drewN nq) (B + 1) (.slice x5 acc.length c5) acc := hown
            have q1_ : (ws.drewN nq).cell? ⟨b, off + i * 2, none⟩ = some (.string ⟨mk.toArray⟩) := q1
            have q2_ : (ws.drewN nq).cell? ⟨b, off + i * 2 + 1, none⟩ = some (.string ⟨mv.toArray⟩) := q2
            have b0_ : (ws.drewN nq).cell? ⟨B, 0, none⟩ = some (.string ⟨ma.toArray⟩) := b0
            have b1_ : (ws.drewN nq).cell? ⟨B, 1, none⟩ = some (.string ⟨mb.toArray⟩) := b1
            have hbw_ : Hid (Below (B + 1) wz (ws.drewN nq)) := below_drewN hbw.out nq
            have hszr_ : B + 1 ≤ (ws.drewN nq).heap.size := hszr
            clear hown q1 q2 b0 b1 hbw hszr
            generalize ws.drewN nq = wt at *
            have hown := hown_
            have q1 := q1_
            have q2 := q2_
            have b0 := b0_
            have b1 := b1_
            have hbw := hbw_
            have hszr := hszr_
            clear hown_ q1_ q2_ b0_ b1_ hbw_ hszr_
            go_wp2_with (at_builtin; refine wpList_app el_meta hown hszr rfl rfl rfl (m := 0) rfl (by simp [Value.oneCell']) rfl (by omega) (by unfold maxLen; omega) ?_)
            intro r2 cap2 w4 ho2 hg2 _
            have hown2 := mown_more ho2 [(mk, mv)] rfl rfl
            obtain ⟨hbel2, hsz2⟩ := below_app hbw.out hszr hown hg2
            clear ho2 hg2 hown q1 q2 b0 b1
            go_wp2_with fail
            go_roundw
            case rel => exact ⟨i + 1, false, _, rfl, by go_num, by omega, hown2, by have h9 := hal.out; simp only [Bool.toNat_true, Bool.toNat_false] at h9; show _ ≤ _; simp; omega, HCH, HAN, hbel2, hsz2⟩
            case measure => simp [intOf]; omega
    · have hd : decide ((i : Int) < (N : Int)) = false := by simp; omega
      have HAN : Hid (anyK l ma = false) := by show _ = _; have := hany.out; rwa [List.take_of_length_le (by rw [HN.out]; omega)] at this
      have HF : Hid (insR l (ma, mb) = acc ++ insT d [] (ma, mb)) := by
        show _ = _
        rw [HRES2.out, HAN.out, if_neg (by decide), hch.out, List.drop_of_length_le (by rw [HN.out]; omega)]
      cases d with
      | true =>
        go_wp2_with fail
        go_ret
        refine ⟨_, rfl, ?_, ?_⟩
        · rw [HF.out]; simpa [insT] using MOwn.row hown
        · rw [HB.out]; exact HBZ.out.trans (hbw.out.mono (Nat.le_succ B))
      | false =>
        go_wp2_with (at_builtin; refine wpList_app el_meta hown hszr rfl rfl rfl (m := 0) rfl (by simp [Value.oneCell']) rfl (by omega) (by unfold maxLen; omega) ?_)
        intro r2 cap2 w4 ho2 hg2 _
        have hown2 := mown_more ho2 [(ma, mb)] rfl rfl
        obtain ⟨hbel2, hsz2⟩ := below_app hbw.out hszr hown hg2
        clear ho2 hg2 hown
        go_wp2_with fail
        go_ret
        refine ⟨_, rfl, ?_, ?_⟩
        · rw [HF.out]; exact MOwn.row hown2
        · rw [HB.out]; exact HBZ.out.trans (hbel2.mono (Nat.le_succ B))
end Go.Proofs.Ytakkdgcmeeilbaa
