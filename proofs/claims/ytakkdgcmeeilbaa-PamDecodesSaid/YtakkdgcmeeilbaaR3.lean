/-
  Walks: the entry of a comment, in the reference of pam.
-/
import Derived.Test.YtakkdgcmeeilbaaR2
import Derived.Deep.RegionWith
namespace Go.Proofs.Ytakkdgcmeeilbaa
open Go.RowKit

theorem mrow_one (w : World) (a b : List UInt8) : MRow (w.alloc (.cells #[.string ⟨a.toArray⟩, .string ⟨b.toArray⟩] 51)) (.slice (some ⟨w.heap.size, 0, none⟩) 1 1) [(a, b)] := by
  have h := Blk.new w 51 #[.string ⟨a.toArray⟩, .string ⟨b.toArray⟩]
  refine ⟨_, 1, rfl, Nat.le_refl _, by unfold maxLen; omega, (fun h => by cases h), fun _ => ⟨w.heap.size, 0, rfl, fun i hi => ?_⟩⟩
  obtain rfl : i = 0 := by simp at hi; omega
  exact ⟨h.cell 0, h.cell 1⟩
theorem chk_one (m : Mt) : (chkP [m] = 0) ↔ (isK m.1 = true ∧ isV m.2 = true) := by
  unfold chkP chkGo entP
  rw [if_neg (by simp)]
  cases isK m.1 <;> cases isV m.2 <;> simp [chkGo]
theorem entL_ref (l : List UInt8) (k : Nat) (h1 : begP [35, 32] l = true) (hk : fnd 32 (l.drop 2) = k - 2) (hk2 : 2 ≤ k) (hkl : k < l.length) :
    entL l = if chkP [((l.drop 2).take (k - 2), l.drop (k + 1))] = 0 then some ((l.drop 2).take (k - 2), l.drop (k + 1)) else none := by
  have e1 : (l.drop 2).drop (k - 2 + 1) = l.drop (k + 1) := by rw [List.drop_drop]; congr 1; omega
  unfold entL
  rw [h1, if_neg (by decide), hk, if_pos (by rw [List.length_drop]; omega), e1]
  by_cases hc : chkP [((l.drop 2).take (k - 2), l.drop (k + 1))] = 0
  · obtain ⟨a, b⟩ := (chk_one _).1 hc
    rw [if_pos hc, if_neg (by rw [a]; decide), if_neg (by rw [b]; decide)]
  · rw [if_neg hc]
    by_cases a : isK ((l.drop 2).take (k - 2)) = true
    · by_cases b : isV (l.drop (k + 1)) = true
      · exact absurd ((chk_one _).2 ⟨a, b⟩) hc
      · rw [if_neg (by rw [a]; decide), if_pos (by simpa using b)]
    · rw [if_pos (by simpa using a)]
def zmC : Array Value := #[.string ⟨#[]⟩, .string ⟨#[]⟩]
theorem zmC_inf : (Try.prog.info? 51).map (·.size) = some zmC.size := by show _ = some 2; kernel_rfl
theorem zmC_one : zmC.all (·.oneCell') = true := by simp [zmC, Value.oneCell']
theorem mtC_inf (a b : ByteArray) : (Try.prog.info? 51).map (·.size) = some (#[Value.string a, .string b] : Array Value).size := by show _ = some 2; kernel_rfl
/-- What the reference's entry answers. -/
def EntOk (l : List UInt8) (e : Ending) : Prop := ∃ (a b : List UInt8) (ok : Bool), e = .returned (.tuple #[.agg #[.string ⟨a.toArray⟩, .string ⟨b.toArray⟩], .bool ok]) ∧ entL l = if ok = true then some (a, b) else none

set_option maxHeartbeats 2000000 in
set_option maxRecDepth 100000 in
theorem rentry_any (s : ByteArray) (w : World) (hs : s.size ≤ maxLen) : Calls Try.prog 25 #[.string s] w fun e w' => EntOk s.data.toList e ∧ Below w.heap.size w w' := by
  have HS := Lib.hid hs
  unfold maxLen at hs
  have HL := Lib.hid (ba_size s)
  have HBG : Hid (∀ w, Calls Try.prog 14 #[.string s, .string ⟨#[35, 32]⟩] w fun e w' => e = .returned (.bool (begP [35, 32] s.data.toList)) ∧ w = w') := fun w => begins_any s ⟨#[35, 32]⟩ w
  obtain ⟨bg, hbg⟩ : ∃ b, begP [35, 32] s.data.toList = b := ⟨_, rfl⟩
  rw [hbg] at HBG
  have HBGE := Lib.hid hbg
  go_enter Try.func25, Try.ntmps25
  have hb0 := Blk.new w 51 zmC
  have hbe0 := (Below.refl w.heap.size w).alloc (Nat.le_refl _) (.cells zmC 51)
  go_wp2_with fail
  refine (HBG.out _).mono ?_
  rintro e w1 ⟨rfl, rfl⟩
  change Blk (w.alloc (.cells #[.string ⟨#[]⟩, .string ⟨#[]⟩] 51)) w.heap.size 51 zmC at hb0
  change Below w.heap.size w (w.alloc (.cells #[.string ⟨#[]⟩, .string ⟨#[]⟩] 51)) at hbe0
  generalize w.alloc (.cells #[.string ⟨#[]⟩, .string ⟨#[]⟩] 51) = wz at *
  have HB0 := Lib.hid hb0
  have HBE := Lib.hid hbe0
  clear hb0 hbe0
  generalize hB : w.heap.size = B at *
  have HB := Lib.hid hB
  clear hB
  cases bg with
  | false =>
    have HF : Hid (entL s.data.toList = none) := by show _ = _; unfold entL; rw [if_pos hbg]
    clear hbg
    go_wp2_with (refine wpList_rset_same rfl 51 (.tmp 2) (.tmp 9) rfl rfl B zmC (by rfl) (by rfl) 51 (by exact HB0.out) zmC_inf zmC_one ?_)
    refine bodyPost_ret (v := .tuple #[.agg zmC, .bool false]) (results_ct rfl _ _ B 51 zmC (0, 0) _ _ rfl rfl HB0.out Try.underlying51 rfl zmC_inf) rfl ⟨⟨[], [], false, rfl, by rw [HF.out]; rfl⟩, by rw [HB.out]; exact HBE.out⟩
  | true =>
    have h2 : 2 ≤ s.size := by unfold begP at hbg; simp at hbg; omega
    clear hbg
    go_wp2_with fail
    go_loop [4] (fun v4 => ∃ k : Nat, v4 = .int .i64 k ∧ 2 ≤ k ∧ k ≤ s.size ∧ Hid (∀ j (h : j < s.size), 2 ≤ j → j < k → s[j] ≠ 32)) (fun v4 => s.size - (intOf v4).toNat)
    case atStart => exact ⟨2, rfl, Nat.le_refl _, h2, fun j _ h1 h2 => by omega⟩
    case round =>
      obtain ⟨k, rfl, hk2, hks, hne⟩ := hrel
      by_cases hklt : k < s.size
      · have hcle : decide ((k : Int) < (s.size : Int)) = true := by simp; omega
        by_cases h32 : s[k] = 32
        · have d32 : (((s[k]).toNat : Int) == 32) = true := by rw [h32]; rfl
          have HFND : Hid (fnd 32 (s.data.toList.drop 2) = k - 2) := fnd_from 32 s 2 k hk2 hks (fun j hj h1 h2 => hne.out j hj h1 h2) (fun _ => h32)
          have HENT := Lib.hid (entL_ref s.data.toList k HBGE.out HFND.out hk2 (by rw [HL.out]; exact hklt))
          have x1 : Hid ((s.extract 2 k) = ⟨((s.data.toList.drop 2).take (k - 2)).toArray⟩) := ba_of _ _ (by rw [extract_list, List.drop_take])
          have x2 : Hid ((s.extract (k + 1) s.size) = ⟨(s.data.toList.drop (k + 1)).toArray⟩) := ba_of _ _ (by rw [extract_list, List.take_of_length_le (by simp)])
          have HLA : Hid (((s.data.toList.drop 2).take (k - 2)).length ≤ maxLen ∧ (s.data.toList.drop (k + 1)).length ≤ maxLen) := by
            have := HS.out
            show _ ∧ _
            rw [List.length_take, List.length_drop, List.length_drop, HL.out]; omega
          have e1 : ((k : Int) == (s.size : Int)) = false := by simp; omega
          have i1 : (2 : Int) ≤ (k : Int) := by omega
          have i2 : (k : Int) ≤ (s.size : Int) := by omega
          have i3 : (k : Int) + 1 ≤ (s.size : Int) := by omega
          have i4 : IntKind.i64.wrap ((k : Int) + 1) = (k : Int) + 1 := IntWalk.i64_in _ (by omega)
          have i5 : ((k : Int) + 1).toNat = k + 1 := by omega
          have i6 : (0 : Int) ≤ (k : Int) + 1 := by omega
          clear h32
          go_upto_region 8 with fail
          go_region
          rw [x1.out, x2.out]
          clear x1 x2 i1 i2 i3 i4 i5 i6
          generalize (s.data.toList.drop 2).take (k - 2) = ma at *
          generalize s.data.toList.drop (k + 1) = mb at *
          have HB1 : Hid (Blk (wz.alloc (.cells #[.string ⟨ma.toArray⟩, .string ⟨mb.toArray⟩] 51)).drew B 51 zmC) := (HB0.out.alloc _).drew
          have HM1 : Hid (Blk (wz.alloc (.cells #[.string ⟨ma.toArray⟩, .string ⟨mb.toArray⟩] 51)).drew wz.heap.size 51 #[.string ⟨ma.toArray⟩, .string ⟨mb.toArray⟩]) := (Blk.new wz _ _).drew
          have HBE1 : Hid (Below B w (wz.alloc (.cells #[.string ⟨ma.toArray⟩, .string ⟨mb.toArray⟩] 51)).drew) := (HBE.out.alloc (Nat.le_of_lt HB0.out.lt) _).drew
          have HBLT : Hid (B ≤ (wz.alloc (.cells #[.string ⟨ma.toArray⟩, .string ⟨mb.toArray⟩] 51)).drew.heap.size) := by have := HB0.out.lt; show _ ≤ _; simp [World.drew]; omega
          have hMB : ¬ wz.heap.size = B := by have := HB0.out.lt; omega
          generalize (wz.alloc (.cells #[.string ⟨ma.toArray⟩, .string ⟨mb.toArray⟩] 51)).drew = wa at *
          generalize wz.heap.size = M at *
          have m0 : wa.cell? ⟨M, 0, none⟩ = some (.string ⟨ma.toArray⟩) := HM1.out.cell 0
          have m1 : wa.cell? ⟨M, 1, none⟩ = some (.string ⟨mb.toArray⟩) := HM1.out.cell 1
          have m0a : ∀ o, (wa.alloc o).cell? ⟨M, 0, none⟩ = some (.string ⟨ma.toArray⟩) := fun o => (HM1.out.alloc o).cell 0
          have m1a : ∀ o, (wa.alloc o).cell? ⟨M, 1, none⟩ = some (.string ⟨mb.toArray⟩) := fun o => (HM1.out.alloc o).cell 1
          have b0a : ∀ o, (wa.alloc o).cell? ⟨B, 0, none⟩ = some (.string ⟨#[]⟩) := fun o => (HB1.out.alloc o).cell 0
          have b1a : ∀ o, (wa.alloc o).cell? ⟨B, 1, none⟩ = some (.string ⟨#[]⟩) := fun o => (HB1.out.alloc o).cell 1
          have f0a : ∀ o, (wa.alloc o).frozen? ⟨B, 0, none⟩ = false := fun o => (HB1.out.alloc o).frozen 0
          have f1a : ∀ o, (wa.alloc o).frozen? ⟨B, 1, none⟩ = false := fun o => (HB1.out.alloc o).frozen 1
          have HCK : Hid (∀ n, Calls Try.prog 11 #[.slice (some ⟨wa.heap.size, 0, none⟩) 1 1] ((wa.alloc (.cells #[.string ⟨ma.toArray⟩, .string ⟨mb.toArray⟩] 51)).drewN n) fun e w' => e = .returned (.int .i64 (chkP [(ma, mb)])) ∧ ∃ n, w' = (wa.alloc (.cells #[.string ⟨ma.toArray⟩, .string ⟨mb.toArray⟩] 51)).drewN n) := fun n =>
            (rcheck_any (.slice (some ⟨wa.heap.size, 0, none⟩) 1 1) [(ma, mb)] _ ((mrow_one wa ma mb).drewN n) (fun m hm => by simp at hm; subst hm; exact HLA.out)).mono fun e w' h => by
              obtain ⟨h1, n2, h2⟩ := h
              exact ⟨h1, n + n2, by rw [h2]; simp [World.drewN]; omega⟩
          obtain ⟨ck, hck⟩ : ∃ ck, ck = chkP [(ma, mb)] := ⟨_, rfl⟩
          rw [← hck] at HCK HENT
          clear hck
          obtain ⟨bz, hbz⟩ : ∃ bz, bz = decide (ck = 0) := ⟨_, rfl⟩
          have z0 : ((ck : Int) == 0) = bz := by
            rw [hbz]
            by_cases h : ck = 0 <;> simp [h]
          have HFIN : Hid (entL s.data.toList = if bz = true then some (ma, mb) else none) := by
            show _ = _
            rw [HENT.out, hbz]
            by_cases h : ck = 0 <;> simp [h]
          clear hbz HENT
          go_upto_region 9 with fail
          go_region_with (go_at_call 11; refine (HCK.out 1).mono ?_; rintro e w9 ⟨rfl, n9, rfl⟩)
          all_goals
            have hz : Blk ((((wa.alloc (.cells #[.string ⟨ma.toArray⟩, .string ⟨mb.toArray⟩] 51)).drewN n9).setCell ⟨B, 0, none⟩ (.string ⟨ma.toArray⟩)).setCell ⟨B, 1, none⟩ (.string ⟨mb.toArray⟩)) B 51 #[.string ⟨ma.toArray⟩, .string ⟨mb.toArray⟩] := (((HB1.out.alloc _).drewN n9).put 0 _).put 1 _
            have hbz2 : Below B w ((((wa.alloc (.cells #[.string ⟨ma.toArray⟩, .string ⟨mb.toArray⟩] 51)).drewN n9).setCell ⟨B, 0, none⟩ (.string ⟨ma.toArray⟩)).setCell ⟨B, 1, none⟩ (.string ⟨mb.toArray⟩)) := below_put (below_put (below_drewN (HBE1.out.alloc HBLT.out _) n9) (p := ⟨B, 0, none⟩) (Nat.le_refl _) _) (p := ⟨B, 1, none⟩) (Nat.le_refl _) _
            clear m0 m1 m0a m1a b0a b1a f0a f1a
            generalize ((((wa.alloc (.cells #[.string ⟨ma.toArray⟩, .string ⟨mb.toArray⟩] 51)).drewN n9).setCell ⟨B, 0, none⟩ (.string ⟨ma.toArray⟩)).setCell ⟨B, 1, none⟩ (.string ⟨mb.toArray⟩)) = wy at *
            go_wp2_with fail
            refine bodyPost_ret (v := .tuple #[.agg #[.string ⟨ma.toArray⟩, .string ⟨mb.toArray⟩], .bool bz]) (results_ct rfl _ _ B 51 #[.string ⟨ma.toArray⟩, .string ⟨mb.toArray⟩] (0, 0) _ _ rfl rfl hz Try.underlying51 rfl (mtC_inf _ _)) rfl ⟨⟨ma, mb, bz, rfl, HFIN.out⟩, by rw [HB.out]; exact hbz2⟩
        · have d32 : (((s[k]).toNat : Int) == 32) = false := by
            rw [Bool.eq_false_iff]; intro h; exact h32 ((byte_eqI s[k] 32 (by decide)).1 h)
          go_wp2_with fail
          go_round
          case rel =>
            refine ⟨k + 1, by go_num, by omega, by omega, fun j hj h1 h2 => ?_⟩
            by_cases hje : j = k
            · subst hje; exact h32
            · exact hne.out j hj h1 (by omega)
          case measure => simp [intOf]; omega
      · have hkk : k = s.size := by omega
        have HFND : Hid (fnd 32 (s.data.toList.drop 2) = k - 2) := fnd_from 32 s 2 k hk2 hks (fun j hj h1 h2 => hne.out j hj h1 h2) (fun h => absurd h hklt)
        have HF : Hid (entL s.data.toList = none) := by
          show _ = _
          unfold entL
          rw [HBGE.out, if_neg (by decide), HFND.out, if_neg (by rw [List.length_drop, HL.out]; omega)]
        have e1 : ((k : Int) == (s.size : Int)) = true := by rw [hkk]; simp
        go_wp2_with (refine wpList_rset_same rfl 51 (.tmp 2) (.tmp 26) rfl rfl B zmC (by rfl) (by rfl) 51 (by exact HB0.out) zmC_inf zmC_one ?_)
        refine bodyPost_ret (v := .tuple #[.agg zmC, .bool false]) (results_ct rfl _ _ B 51 zmC (0, 0) _ _ rfl rfl HB0.out Try.underlying51 rfl zmC_inf) rfl ⟨⟨[], [], false, rfl, by rw [HF.out]; rfl⟩, by rw [HB.out]; exact HBE.out⟩
end Go.Proofs.Ytakkdgcmeeilbaa
