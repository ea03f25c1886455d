/-
  The law TiffValid.
-/
import Derived.Test.YtakileiomgaahaaTw2
import Derived.Test.YtakileiomgaahaaTj8
namespace Go.Proofs.Ytakileiomgaahaa
open Go.RowKit

theorem vuI_id (x : Int) (h0 : 0 ≤ x) (h1 : x ≤ 65535) : uI x = x := by
  unfold uI clampI; omega
theorem vvalP_of (p : Px) (h : (0 ≤ p.1 ∧ p.1 ≤ 65535) ∧ (0 ≤ p.2.1 ∧ p.2.1 ≤ 65535) ∧ (0 ≤ p.2.2.1 ∧ p.2.2.1 ≤ 65535) ∧ (0 ≤ p.2.2.2 ∧ p.2.2.2 ≤ 65535)) : valP p = true := by
  unfold valP
  rw [vuI_id _ h.1.1 h.1.2, vuI_id _ h.2.1.1 h.2.1.2, vuI_id _ h.2.2.1.1 h.2.2.1.2, vuI_id _ h.2.2.2.1 h.2.2.2.2]
  simp
theorem straP_valid (p : Px) : valP (straP p) = true := by
  unfold straP straQ
  have h4 : 0 ≤ (limP p).2.2.2 ∧ (limP p).2.2.2 ≤ 65535 := uI_rng _
  split
  · exact vvalP_of _ ⟨⟨by decide, by decide⟩, ⟨by decide, by decide⟩, ⟨by decide, by decide⟩, ⟨by decide, by decide⟩⟩
  · exact vvalP_of _ ⟨uI_rng _, uI_rng _, uI_rng _, h4⟩
theorem pixP_valid (H : Hd) (c : List UInt8) (hb : H.bytes = 1 ∨ H.bytes = 2) : valP (pixP H c) = true := by
  have R : ∀ k, 0 ≤ (smpN H c k : Int) ∧ (smpN H c k : Int) ≤ 65535 := fun k => by have := smpN_le H c k hb; omega
  have U : (0 : Int) ≤ 65535 ∧ (65535 : Int) ≤ 65535 := by decide
  unfold pixP
  split
  · have h0 := R 0
    split
    · exact vvalP_of _ ⟨by simp only; omega, by simp only; omega, by simp only; omega, U⟩
    · exact vvalP_of _ ⟨R 0, R 0, R 0, U⟩
  · split
    · exact vvalP_of _ ⟨R 0, R 1, R 2, U⟩
    · split
      · exact straP_valid _
      · exact vvalP_of _ ⟨R 0, R 1, R 2, R 3⟩
theorem parGo_chk {f : Nat} {acc l : List Mt} {u : List UInt8} (h : parGo f acc u = .ok l) (ha : chkGo none acc = 0) (hl : acc.length ≤ 16) : chkGo none l = 0 ∧ l.length ≤ 16 := by
  induction f generalizing acc u with
  | zero => cases h
  | succ f ih =>
    unfold parGo at h
    split at h
    · injection h with h; rw [← h]; exact ⟨ha, hl⟩
    · split at h
      · cases h
      · split at h
        · cases h
        · split at h
          · rename_i h16 _ he
            refine ih h ?_ (by simp; omega)
            rw [chkGo_snoc _ _ _ ha]
            simpa using he
          · cases h
theorem parP_chk {u : List UInt8} {l : List Mt} (h : parP u = .ok l) : chkP l = 0 := by
  have := parGo_chk h rfl (Nat.zero_le _)
  unfold chkP
  rw [if_neg (by omega)]
  exact this.1
theorem metT_chk (l : List Tg) : chkP (metT l) = 0 := by
  unfold metT
  split
  · split
    · rename_i ms h; exact parP_chk h
    · rfl
  · rfl
theorem decT_valid {s : List UInt8} {W H : Nat} {px : List Px} {ms : List Mt} (h : decT s = .ok (W, H, px, ms)) : 0 < W ∧ rchk W H px = 0 ∧ chkP ms = 0 := by
  unfold decT at h
  split at h
  · cases h
  rename_i l hl
  split at h
  · cases h
  split at h
  · cases h
  rename_i hk
  split at h
  · cases h
  rename_i hsz
  have hsz' : sizeP l = true := by simpa using hsz
  have hk' : kindP l = true := by simpa using hk
  obtain ⟨n, _, _, _, hW1, hW2, hH1, hH2, _⟩ := sizeP_ok hsz'
  obtain ⟨_, hb, _⟩ := kindP_ok hk'
  split at h
  · cases h
  injection h with h
  injection h with h1 h
  injection h with h2 h
  injection h with h3 h4
  rw [← h1, ← h2, ← h3, ← h4]
  refine ⟨hW1, ?_, metT_chk l⟩
  unfold rchk
  rw [if_neg (by omega), if_pos ⟨by omega, by simp⟩, if_pos]
  rw [List.all_eq_true]
  intro p hp
  obtain ⟨k, _, rfl⟩ := List.mem_map.1 hp
  refine pixP_valid _ _ ?_
  show firstN l 258 0 / 8 = 1 ∨ firstN l 258 0 / 8 = 2
  omega
theorem decT_err {s : List UInt8} {k : Nat} (h : decT s = .error k) : k ≠ 0 := by
  unfold decT at h
  repeat' split at h
  all_goals first
    | (injection h with h; rename_i ht; rw [← h]; first | exact tagsP_err ht | exact stripsG_err ht | decide)
    | (injection h with h; omega)
    | (cases h; done)

set_option maxHeartbeats 4000000 in
set_option maxRecDepth 100000 in
theorem lawValid (s : ByteArray) (w : World) (hs : s.size ≤ 1000000000000000) : Calls Try.prog 6 #[.string s] w fun e w' => e = .returned (.bool true) ∧ Below w.heap.size w w' := by
  have HD := Lib.hid (tdecode_any s w hs)
  have HVA := Lib.hid (fun W H px ms h => decT_valid (s := s.data.toList) (W := W) (H := H) (px := px) (ms := ms) h)
  have HER := Lib.hid (fun k h => decT_err (s := s.data.toList) (k := k) h)
  have HEX := Lib.hid (fun w => awakeT_any w)
  generalize decT s.data.toList = r at *
  go_enter Try.func6, Try.ntmps6
  go_wp2_with fail
  refine HD.out.mono ?_
  rintro e w1 ⟨hok, hb1⟩
  clear HD
  match r, hok with
  | .error k, hok =>
    obtain rfl : e = .returned (errT k) := hok
    have hk0 := HER.out k rfl
    have e1 : ((k : Int) != 0) = true := by unfold bne; rw [Bool.not_eq_true', beq_eq_false_iff_ne]; omega
    have HB2 := Lib.hid (hb1.alloc hb1.size (.cells #[.int .i64 0, .int .i64 0, .slice none 0 0] 34))
    have hk := Blk.new w1 34 #[.int .i64 0, .int .i64 0, .slice none 0 0]
    have e0 : (w1.alloc (.cells #[.int .i64 0, .int .i64 0, .slice none 0 0] 34)).cell? ⟨w1.heap.size, 0, none⟩ = some (.int .i64 0) := hk.cell 0
    have e2 : (w1.alloc (.cells #[.int .i64 0, .int .i64 0, .slice none 0 0] 34)).cell? ⟨w1.heap.size, 1, none⟩ = some (.int .i64 0) := hk.cell 1
    have e3 : (w1.alloc (.cells #[.int .i64 0, .int .i64 0, .slice none 0 0] 34)).cell? ⟨w1.heap.size, 2, none⟩ = some (.slice none 0 0) := hk.cell 2
    clear hb1 hk0 hk
    simp only [errT, img0, imgC]
    go_upto_region 2 with fail
    generalize w1.alloc (.cells #[.int .i64 0, .int .i64 0, .slice none 0 0] 34) = wa at *
    go_wp2_with fail
    refine (HEX.out _).mono ?_
    rintro e w3 ⟨rfl, hb3⟩
    have HB3 := Lib.hid (bthen HB2.out hb3)
    clear hb3
    go_wp2_with fail
    go_ret
    exact ⟨rfl, HB3.out⟩
  | .ok (W, H, px, ms), hok =>
    obtain ⟨pv, mv, rfl, hp1, hm1⟩ := hok
    obtain ⟨v1, v2, v3⟩ := HVA.out W H px ms rfl
    have hba := (Below.refl w1.heap.size w1).alloc (Nat.le_refl _) (.cells #[.int .i64 W, .int .i64 H, pv] 34)
    have HBA := Lib.hid (hb1.alloc hb1.size (.cells #[.int .i64 W, .int .i64 H, pv] 34))
    have HPA := Lib.hid (hp1.below hba)
    have HMA := Lib.hid (hm1.below hba)
    have HBL := Lib.hid (Blk.new w1 34 #[.int .i64 W, .int .i64 H, pv])
    obtain ⟨x, c, rfl, -⟩ := hp1
    obtain ⟨xm, cm, rfl, -⟩ := id hm1
    simp only [imgC]
    clear hb1 hm1 hba
    go_upto_region 2 with fail
    generalize w1.alloc (.cells #[.int .i64 W, .int .i64 H, .slice x px.length c] 34) = wa at *
    generalize w1.heap.size = K1 at *
    have e0 : wa.cell? ⟨K1, 0, none⟩ = some (.int .i64 W) := HBL.out.cell 0
    have e1 : wa.cell? ⟨K1, 1, none⟩ = some (.int .i64 H) := HBL.out.cell 1
    have e2 : wa.cell? ⟨K1, 2, none⟩ = some (.slice x px.length c) := HBL.out.cell 2
    have hck := pcheckI_any W H (.slice x px.length c) px wa HPA.out
    rw [v2] at hck
    unfold imgI at hck
    have HCK := Lib.hid hck
    have HRC := Lib.hid (fun wx h => check_any (.slice xm ms.length cm) ms wx h)
    have HV3 := Lib.hid v3
    have d0 : decide ((0 : Int) < (W : Int)) = true := by simp; omega
    clear hck v2 v3
    go_wp2_with fail
    refine HCK.out.mono ?_
    rintro e w2 ⟨rfl, hb2⟩
    have HB2 := Lib.hid (bthen HBA.out hb2)
    have HM2 := Lib.hid (HMA.out.below hb2)
    clear hb2 e0 e1 e2
    go_wp2_with fail
    refine (HRC.out _ HM2.out).mono ?_
    rintro e w3 ⟨rfl, hb3⟩
    rw [HV3.out]
    have HB3 := Lib.hid (bthen HB2.out hb3)
    clear hb3
    go_wp2_with fail
    refine (HEX.out _).mono ?_
    rintro e w4 ⟨rfl, hb4⟩
    have HB4 := Lib.hid (bthen HB3.out hb4)
    clear hb4
    go_wp2_with fail
    go_ret
    exact ⟨rfl, HB4.out⟩
end Go.Proofs.Ytakileiomgaahaa
