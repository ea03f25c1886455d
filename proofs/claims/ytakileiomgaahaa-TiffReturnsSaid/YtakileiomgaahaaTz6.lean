/-
  The law TiffReturns.
-/
import Derived.Test.YtakileiomgaahaaTw2
import Derived.Test.YtakileiomgaahaaTj8
import Derived.Test.YtakileiomgaahaaTb4
import Derived.Test.YtakileiomgaahaaOm
import Derived.Deep.RegionHeld3
import Derived.Deep.CutRange
namespace Go.Proofs.Ytakileiomgaahaa
open Go.RowKit

theorem back16 (px : List Px) : px.map (backT 16) = px := by
  have : backT 16 = id := by funext p; unfold backT; rw [if_pos rfl]; rfl
  rw [this, List.map_id]
theorem bk_go {w w' : World} {k : Nat} {t : TypeId} {cs : Array Value} (h : Blk w k t cs) (hb : Below w.heap.size w w') : Blk w' k t cs := (hb.block _ h.lt).trans h
/-- Both depths: the same error, or the two files. -/
theorem enc_two (W H : Int) (px : List Px) (pk : Bool) (ms : List Mt) : (∃ k : Nat, k ≠ 0 ∧ encT W H px 16 pk ms = .error k ∧ encT W H px 8 pk ms = .error k) ∨
    (∃ a b : Nat, W = (a : Int) ∧ H = (b : Int) ∧ 1 ≤ a ∧ a ≤ 256 ∧ 1 ≤ b ∧ b ≤ 256 ∧ px.length = a * b ∧ (∀ p ∈ px, valP p = true) ∧ chkP ms = 0 ∧ encT W H px 16 pk ms = .ok (fileT a b 16 pk ms px) ∧ encT W H px 8 pk ms = .ok (fileT a b 8 pk ms px)) := by
  by_cases h1 : rchk W H px = 0
  · obtain ⟨a, b, rfl, rfl, ha, hb, hl, hv, hab⟩ := trchk_zero h1
    by_cases h2 : a = 0
    · refine .inl ⟨15, by decide, ?_, ?_⟩
      · unfold encT; rw [if_neg (fun h => h h1), if_pos (by omega)]
      · unfold encT; rw [if_neg (fun h => h h1), if_pos (by omega)]
    by_cases h3 : chkP ms = 0
    · have key : ∀ d : Nat, (d = 8 ∨ d = 16) → encT a b px d pk ms = .ok (fileT a b d pk ms px) := fun d hd => by
        obtain ⟨_, _, hlen⟩ := fileT_tags (W := a) (H := b) (D := d) (pk := pk) (ms := ms) (px := px) ha hb hd h3
        have hR := rowsB_bound hd ha pk px b
        have hX : (txtT ms).length ≤ 4641 := by
          unfold txtT
          split
          · exact Nat.zero_le _
          · rename_i hne
            have := (textP_size h3 hne).2
            rw [List.length_append]; simp; omega
        have hT : tagsT ms ≤ 11 := by unfold tagsT; split <;> omega
        unfold encT
        rw [if_neg (fun h => h h1), if_neg (by omega), if_neg (by omega), if_neg (fun h => h h3)]
        simp only [Int.toNat_natCast]
        rw [if_neg (by omega)]
      exact .inr ⟨a, b, rfl, rfl, by omega, ha, by omega, hb, hl, hv, h3, key 16 (.inr rfl), key 8 (.inl rfl)⟩
    · refine .inl ⟨chkP ms, h3, ?_, ?_⟩
      · unfold encT; rw [if_neg (fun h => h h1), if_neg (by omega), if_neg (by omega), if_pos h3]
      · unfold encT; rw [if_neg (fun h => h h1), if_neg (by omega), if_neg (by omega), if_pos h3]
  · refine .inl ⟨rchk W H px, h1, ?_, ?_⟩
    · unfold encT; rw [if_pos h1]
    · unfold encT; rw [if_pos h1]

set_option maxHeartbeats 4000000 in
set_option maxRecDepth 100000 in
theorem lawReturns (v : Value) (pk : Bool) (mv : Value) (w : World) (hv : IArg w v) (hm : MArg w mv) :
    Calls Try.prog 8 #[v, .bool pk, mv] w fun e w' => e = .returned (.bool true) ∧ Below w.heap.size w w' := by
  obtain ⟨W, H, pv, px, rfl, hp⟩ := hv
  obtain ⟨ms, hm, -⟩ := hm
  obtain ⟨x, c, rfl, -⟩ := id hp
  obtain ⟨xm, cm, rfl, -⟩ := id hm
  have H16 := Lib.hid (fun w h1 h2 => tencode_any W H 16 pk (.slice x px.length c) (.slice xm ms.length cm) px ms w h1 h2)
  have H8 := Lib.hid (fun w h1 h2 => tencode_any W H 8 pk (.slice x px.length c) (.slice xm ms.length cm) px ms w h1 h2)
  have HAW := Lib.hid (fun w => awakeT_any w)
  have htwo := enc_two W H px pk ms
  have hba := (Below.refl w.heap.size w).alloc (Nat.le_refl _) (.cells #[.int .i64 W, .int .i64 H, .slice x px.length c] 34)
  have HP1 := Lib.hid (hp.below hba)
  have HM1 := Lib.hid (hm.below hba)
  have HK1 := Lib.hid (Blk.new w 34 #[.int .i64 W, .int .i64 H, .slice x px.length c])
  have HB1 := Lib.hid hba
  clear hp hm hba
  go_enter Try.func8, Try.ntmps8
  go_upto_region 1 with fail
  generalize w.alloc (.cells #[.int .i64 W, .int .i64 H, .slice x px.length c] 34) = wz at *
  generalize hB : w.heap.size = B at *
  have HBB := Lib.hid hB
  clear hB
  have y0 : wz.cell? ⟨B, 0, none⟩ = some (.int .i64 W) := HK1.out.cell 0
  have y1 : wz.cell? ⟨B, 1, none⟩ = some (.int .i64 H) := HK1.out.cell 1
  have y2 : wz.cell? ⟨B, 2, none⟩ = some (.slice x px.length c) := HK1.out.cell 2
  have HB0 : Hid (B < wz.heap.size) := HK1.out.lt
  rcases htwo with ⟨k, hk0, h16, h8⟩ | ⟨a, b, rfl, rfl, ha1, ha2, hb1, hb2, hl, hvl, hc, h16, h8⟩
  · rw [h16] at H16
    rw [h8] at H8
    have e1 : ((k : Int) != (k : Int)) = false := by simp
    have e2 : ((k : Int) != 0) = true := by unfold bne; rw [Bool.not_eq_true', beq_eq_false_iff_ne]; omega
    have e3 : ((k : Int) == (k : Int)) = true := by simp
    have e4 : ((⟨#[]⟩ : ByteArray).toList == []) = true := by rw [ByteArray.toList_eq]; rfl
    clear h16 h8 hk0
    go_wp2_with fail
    refine (H16.out _ HP1.out HM1.out).mono ?_
    rintro e w1 ⟨hok, hb1⟩
    obtain rfl : e = .returned (.tuple #[.string ⟨#[]⟩, .int .i64 k]) := hok
    have HP2 := Lib.hid (HP1.out.below hb1)
    have HM2 := Lib.hid (HM1.out.below hb1)
    have HK2 : Hid (Blk w1 B 34 #[.int .i64 W, .int .i64 H, .slice x px.length c]) := (hb1.block _ HK1.out.lt).trans HK1.out
    have HB2 : Hid (Below B w w1) := HB1.out.trans (hb1.mono (Nat.le_of_lt HB0.out))
    have HZ2 : Hid (B ≤ w1.heap.size) := Nat.le_of_lt HK2.out.lt
    clear y0 y1 y2 hb1 H16
    have y0 : w1.cell? ⟨B, 0, none⟩ = some (.int .i64 W) := HK2.out.cell 0
    have y1 : w1.cell? ⟨B, 1, none⟩ = some (.int .i64 H) := HK2.out.cell 1
    have y2 : w1.cell? ⟨B, 2, none⟩ = some (.slice x px.length c) := HK2.out.cell 2
    go_wp2_with fail
    refine (H8.out _ HP2.out HM2.out).mono ?_
    rintro e w2 ⟨hok, hb2⟩
    obtain rfl : e = .returned (.tuple #[.string ⟨#[]⟩, .int .i64 k]) := hok
    have HB3 : Hid (Below B w w2) := HB2.out.trans (hb2.mono HZ2.out)
    have HZ3 : Hid (B ≤ w2.heap.size) := Nat.le_trans HZ2.out hb2.size
    clear y0 y1 y2 hb2 H8
    go_wp2_with fail
    refine (HAW.out _).mono ?_
    rintro e w3 ⟨rfl, hb3⟩
    have HB4 : Hid (Below B w w3) := HB3.out.trans (hb3.mono HZ3.out)
    clear hb3
    go_wp2_with fail
    go_ret
    exact ⟨rfl, by rw [HBB.out]; exact HB4.out⟩
  · rw [h16] at H16
    rw [h8] at H8
    have hd16 := decT_file (W := a) (H := b) (D := 16) (pk := pk) (ms := ms) (px := px) ha1 ha2 hb1 hb2 (.inr rfl) hc hl hvl
    have hd8 := decT_file (W := a) (H := b) (D := 8) (pk := pk) (ms := ms) (px := px) ha1 ha2 hb1 hb2 (.inl rfl) hc hl hvl
    rw [back16] at hd16
    have hz16 : (fileT a b 16 pk ms px).length ≤ 1048576 := by
      unfold encT at h16
      repeat' split at h16
      all_goals first | (cases h16; done) | (rename_i h; simp only [Int.toNat_natCast] at h; have e : (16 : Int).toNat = 16 := rfl; rw [e] at h; omega)
    have hz8 : (fileT a b 8 pk ms px).length ≤ 1048576 := by
      unfold encT at h8
      repeat' split at h8
      all_goals first | (cases h8; done) | (rename_i h; simp only [Int.toNat_natCast] at h; have e : (8 : Int).toNat = 8 := rfl; rw [e] at h; omega)
    obtain ⟨s16, hs16⟩ : ∃ s : ByteArray, s = ⟨(fileT a b 16 pk ms px).toArray⟩ := ⟨_, rfl⟩
    obtain ⟨s8, hs8⟩ : ∃ s : ByteArray, s = ⟨(fileT a b 8 pk ms px).toArray⟩ := ⟨_, rfl⟩
    have HD16 : Hid (∀ w, Calls Try.prog 17 #[.string s16] w fun e w' => DecOkT (.ok (a, b, px, ms)) e w' ∧ Below w.heap.size w w') := fun w => by
      have h := tdecode_any s16 w (by rw [hs16, ba_len]; omega)
      have e : s16.data.toList = fileT a b 16 pk ms px := by rw [hs16]
      rwa [e, hd16] at h
    have HD8 : Hid (∀ w, Calls Try.prog 17 #[.string s8] w fun e w' => DecOkT (.ok (a, b, px.map (backT 8), ms)) e w' ∧ Below w.heap.size w w') := fun w => by
      have h := tdecode_any s8 w (by rw [hs8, ba_len]; omega)
      have e : s8.data.toList = fileT a b 8 pk ms px := by rw [hs8]
      rwa [e, hd8] at h
    have HE16 : Hid (∀ e, EncOkT (.ok (fileT a b 16 pk ms px)) e → e = .returned (.tuple #[.string s16, .int .i64 0])) := fun e h => by rw [hs16]; exact h
    have HE8 : Hid (∀ e, EncOkT (.ok (fileT a b 8 pk ms px)) e → e = .returned (.tuple #[.string s8, .int .i64 0])) := fun e h => by rw [hs8]; exact h
    generalize fileT a b 16 pk ms px = f16 at *
    generalize fileT a b 8 pk ms px = f8 at *
    have HVL := Lib.hid hvl
    clear h16 h8 hd16 hd8 hz16 hz8 hs16 hs8 hvl ha1 ha2 hb1 hb2 hl hc
    go_wp2_with fail
    refine (H16.out _ HP1.out HM1.out).mono ?_
    rintro e w1 ⟨hok, hb1⟩
    obtain rfl := HE16.out _ hok
    have HP2 := Lib.hid (HP1.out.below hb1)
    have HM2 := Lib.hid (HM1.out.below hb1)
    have HK2 : Hid (Blk w1 B 34 #[.int .i64 (a : Int), .int .i64 (b : Int), .slice x px.length c]) := (hb1.block _ HK1.out.lt).trans HK1.out
    have HB2 : Hid (Below B w w1) := HB1.out.trans (hb1.mono (Nat.le_of_lt HB0.out))
    clear y0 y1 y2 hb1 H16 hok HP1 HM1 HK1 HB1
    have y0 : w1.cell? ⟨B, 0, none⟩ = some (.int .i64 (a : Int)) := HK2.out.cell 0
    have y1 : w1.cell? ⟨B, 1, none⟩ = some (.int .i64 (b : Int)) := HK2.out.cell 1
    have y2 : w1.cell? ⟨B, 2, none⟩ = some (.slice x px.length c) := HK2.out.cell 2
    go_wp2_with fail
    refine (H8.out _ HP2.out HM2.out).mono ?_
    rintro e w2 ⟨hok, hb2⟩
    obtain rfl := HE8.out _ hok
    have HP3 := Lib.hid (HP2.out.below hb2)
    have HM3 := Lib.hid (HM2.out.below hb2)
    have HK3 : Hid (Blk w2 B 34 #[.int .i64 (a : Int), .int .i64 (b : Int), .slice x px.length c]) := (hb2.block _ HK2.out.lt).trans HK2.out
    have HB3 : Hid (Below B w w2) := HB2.out.trans (hb2.mono (Nat.le_of_lt HK2.out.lt))
    clear y0 y1 y2 hb2 H8 hok HP2 HM2 HK2 HB2
    obtain ⟨n, hn⟩ : ∃ n, px.length = n := ⟨_, rfl⟩
    obtain ⟨nm, hnm⟩ : ∃ n, ms.length = n := ⟨_, rfl⟩
    have hn8 : (px.map (backT 8)).length = n := by rw [List.length_map]; exact hn
    rw [hn] at HP3 HK3 ⊢
    rw [hnm] at HM3 ⊢
    have HN := Lib.hid hn
    have HN8 := Lib.hid hn8
    have HNM := Lib.hid hnm
    clear hn hn8 hnm
    go_upto_region 5 with fail
    go_wp2_with fail
    refine (HD16.out _).mono ?_
    rintro e w3 ⟨hok, hb3⟩
    obtain ⟨p16, m16, he, hp16, hm16⟩ := hok
    subst he
    obtain ⟨xa, ca, rfl, -⟩ := id hp16
    obtain ⟨xb, cb, rfl, -⟩ := id hm16
    rw [HN.out] at hp16 ⊢
    rw [HNM.out] at hm16 ⊢
    unfold imgC
    have HK4 : Hid (Blk w3 B 34 #[.int .i64 (a : Int), .int .i64 (b : Int), .slice x n c]) := (hb3.block _ HK3.out.lt).trans HK3.out
    have HP4 := Lib.hid (HP3.out.below hb3)
    have HM4 := Lib.hid (HM3.out.below hb3)
    have HB4 : Hid (Below B w w3) := HB3.out.trans (hb3.mono (Nat.le_of_lt HK3.out.lt))
    have hal := (Below.refl w3.heap.size w3).alloc (Nat.le_refl _) (.cells #[.int .i64 (a : Int), .int .i64 (b : Int), .slice xa n ca] 34)
    have HK5 : Hid (Blk (w3.alloc (.cells #[.int .i64 (a : Int), .int .i64 (b : Int), .slice xa n ca] 34)) B 34 #[.int .i64 (a : Int), .int .i64 (b : Int), .slice x n c]) := (hal.block _ HK4.out.lt).trans HK4.out
    have HP5 := Lib.hid (HP4.out.below hal)
    have HM5 := Lib.hid (HM4.out.below hal)
    have HQ5 := Lib.hid (hp16.below hal)
    have HR5 := Lib.hid (hm16.below hal)
    have HB5 : Hid (Below B w (w3.alloc (.cells #[.int .i64 (a : Int), .int .i64 (b : Int), .slice xa n ca] 34))) := HB4.out.trans (hal.mono (Nat.le_of_lt HK4.out.lt))
    have HJ5 := Lib.hid (Blk.new w3 34 #[.int .i64 (a : Int), .int .i64 (b : Int), .slice xa n ca])
    have HBJ : Hid (B < w3.heap.size) := HK4.out.lt
    clear hb3 hal hp16 hm16 HK3 HP3 HM3 HB3 HK4 HP4 HM4 HB4 HD16
    go_upto_region 6 with fail
    generalize w3.alloc (.cells #[.int .i64 (a : Int), .int .i64 (b : Int), .slice xa n ca] 34) = w4 at *
    generalize w3.heap.size = J at *
    go_wp2_with fail
    refine (HD8.out _).mono ?_
    rintro e w5 ⟨hok, hb5⟩
    obtain ⟨p8, m8, he, hp8, hm8⟩ := hok
    subst he
    obtain ⟨xc, cc, rfl, -⟩ := id hp8
    obtain ⟨xd, cd, rfl, -⟩ := id hm8
    rw [HN8.out] at hp8 ⊢
    rw [HNM.out] at hm8 ⊢
    unfold imgC
    have HK6 : Hid (Blk w5 B 34 #[.int .i64 (a : Int), .int .i64 (b : Int), .slice x n c]) := (hb5.block _ HK5.out.lt).trans HK5.out
    have HJ6 : Hid (Blk w5 J 34 #[.int .i64 (a : Int), .int .i64 (b : Int), .slice xa n ca]) := (hb5.block _ HJ5.out.lt).trans HJ5.out
    have HP6 := Lib.hid (HP5.out.below hb5)
    have HM6 := Lib.hid (HM5.out.below hb5)
    have HQ6 := Lib.hid (HQ5.out.below hb5)
    have HR6 := Lib.hid (HR5.out.below hb5)
    have HB6 : Hid (Below B w w5) := HB5.out.trans (hb5.mono (Nat.le_of_lt HK5.out.lt))
    have hal := (Below.refl w5.heap.size w5).alloc (Nat.le_refl _) (.cells #[.int .i64 (a : Int), .int .i64 (b : Int), .slice xc n cc] 34)
    have HK7 : Hid (Blk (w5.alloc (.cells #[.int .i64 (a : Int), .int .i64 (b : Int), .slice xc n cc] 34)) B 34 #[.int .i64 (a : Int), .int .i64 (b : Int), .slice x n c]) := (hal.block _ HK6.out.lt).trans HK6.out
    have HJ7 : Hid (Blk (w5.alloc (.cells #[.int .i64 (a : Int), .int .i64 (b : Int), .slice xc n cc] 34)) J 34 #[.int .i64 (a : Int), .int .i64 (b : Int), .slice xa n ca]) := (hal.block _ HJ6.out.lt).trans HJ6.out
    have HP7 := Lib.hid (HP6.out.below hal)
    have HM7 := Lib.hid (HM6.out.below hal)
    have HQ7 := Lib.hid (HQ6.out.below hal)
    have HR7 := Lib.hid (HR6.out.below hal)
    have HS7 := Lib.hid (hp8.below hal)
    have HT7 := Lib.hid (hm8.below hal)
    have HB7 : Hid (Below B w (w5.alloc (.cells #[.int .i64 (a : Int), .int .i64 (b : Int), .slice xc n cc] 34))) := HB6.out.trans (hal.mono (Nat.le_of_lt HK6.out.lt))
    have HI7 := Lib.hid (Blk.new w5 34 #[.int .i64 (a : Int), .int .i64 (b : Int), .slice xc n cc])
    clear hb5 hal hp8 hm8 HK5 HP5 HM5 HB5 HQ5 HR5 HJ5 HK6 HP6 HM6 HB6 HQ6 HR6 HJ6 HD8
    go_upto_region 7 with fail
    generalize w5.alloc (.cells #[.int .i64 (a : Int), .int .i64 (b : Int), .slice xc n cc] 34) = w6 at *
    generalize w5.heap.size = K at *
    have HSM : Hid (Calls Try.prog 20 #[.agg #[.int .i64 (a : Int), .int .i64 (b : Int), .slice xa n ca], .agg #[.int .i64 (a : Int), .int .i64 (b : Int), .slice x n c]] w6 fun e w' => e = .returned (.bool true) ∧ Below w6.heap.size w6 w') := tsame_any a b _ _ px w6 HQ7.out HP7.out
    have HBZ : Hid (B < w6.heap.size) := HK7.out.lt
    have a0 : w6.cell? ⟨J, 0, none⟩ = some (.int .i64 (a : Int)) := HJ7.out.cell 0
    have a1 : w6.cell? ⟨J, 1, none⟩ = some (.int .i64 (b : Int)) := HJ7.out.cell 1
    have a2 : w6.cell? ⟨J, 2, none⟩ = some (.slice xa n ca) := HJ7.out.cell 2
    have y0 : w6.cell? ⟨B, 0, none⟩ = some (.int .i64 (a : Int)) := HK7.out.cell 0
    have y1 : w6.cell? ⟨B, 1, none⟩ = some (.int .i64 (b : Int)) := HK7.out.cell 1
    have y2 : w6.cell? ⟨B, 2, none⟩ = some (.slice x n c) := HK7.out.cell 2
    go_wp2_with fail
    refine HSM.out.mono ?_
    rintro e w7 ⟨rfl, hb7⟩
    have hbz7 : Below w6.heap.size w6 w7 := hb7
    have HL1 := Lib.hid (talike_any _ _ ms w7 (HR7.out.below hb7) (HM7.out.below hb7))
    have HB67 := Lib.hid hbz7
    clear a0 a1 a2 y0 y1 y2 hb7 hbz7 HSM HJ7 HQ7
    go_wp2_with fail
    refine HL1.out.mono ?_
    rintro e w8 ⟨rfl, hb8⟩
    have HB68 := Lib.hid (bthen HB67.out hb8)
    have HL2 := Lib.hid (talike_any _ _ ms w8 (HT7.out.below HB68.out) (HM7.out.below HB68.out))
    clear hb8 HL1 HB67 HR7
    go_wp2_with fail
    refine HL2.out.mono ?_
    rintro e w9 ⟨rfl, hb9⟩
    have HB69 := Lib.hid (bthen HB68.out hb9)
    have HK9 : Hid (Blk w9 B 34 #[.int .i64 (a : Int), .int .i64 (b : Int), .slice x n c]) := (HB69.out.block _ HK7.out.lt).trans HK7.out
    have HI9 : Hid (Blk w9 K 34 #[.int .i64 (a : Int), .int .i64 (b : Int), .slice xc n cc]) := (HB69.out.block _ HI7.out.lt).trans HI7.out
    have HP9 := Lib.hid (HP7.out.below HB69.out)
    have HS9 := Lib.hid (HS7.out.below HB69.out)
    have HB9 : Hid (Below B w w9) := HB7.out.trans (HB69.out.mono (Nat.le_of_lt HBZ.out))
    clear hb9 HL2 HB68 HK7 HI7 HP7 HS7 HM7 HT7 HB7 HBZ HB69
    have a0 : w9.cell? ⟨K, 0, none⟩ = some (.int .i64 (a : Int)) := HI9.out.cell 0
    have a1 : w9.cell? ⟨K, 1, none⟩ = some (.int .i64 (b : Int)) := HI9.out.cell 1
    have a2 : w9.cell? ⟨K, 2, none⟩ = some (.slice xc n cc) := HI9.out.cell 2
    have y0 : w9.cell? ⟨B, 0, none⟩ = some (.int .i64 (a : Int)) := HK9.out.cell 0
    have y1 : w9.cell? ⟨B, 1, none⟩ = some (.int .i64 (b : Int)) := HK9.out.cell 1
    have y2 : w9.cell? ⟨B, 2, none⟩ = some (.slice x n c) := HK9.out.cell 2
    have ea : ((a : Int) != (a : Int)) = false := by simp
    have eb : ((b : Int) != (b : Int)) = false := by simp
    have en : ((n : Int) != (n : Int)) = false := by simp
    go_upto_region 9 with fail
    clear a0 a1 a2 y0 y1 ea eb en
    go_wp2_with fail
    clear y2
    have hn63 : n ≤ 9223372036854775807 := by
      obtain ⟨x', c', hv, h1, h2, -⟩ := HP9.out
      cases hv
      have := HN.out
      unfold maxLen at h2
      omega
    generalize hZ : w9.heap.size = Z at *
    have HZ := Lib.hid hZ
    have HBZ : Hid (B < Z ∧ K < Z) := ⟨by rw [← hZ]; exact HK9.out.lt, by rw [← hZ]; exact HI9.out.lt⟩
    clear hZ
    go_loopw [113] (fun vi wr => ∃ i : Nat, vi = .int .i64 i ∧ i ≤ n ∧ Hid (Below Z w9 wr)) (fun vi _ => n - (intOf vi).toNat)
    case atStart => exact ⟨0, rfl, Nat.zero_le _, Below.refl _ _⟩
    case round =>
      obtain ⟨i, rfl, hi, hbw⟩ := hrel
      by_cases hlt : i < n
      · have dlt : decide ((i : Int) < (n : Int)) = true := by simp; omega
        have hil : i < px.length := by rw [HN.out]; exact hlt
        have hil8 : i < (px.map (backT 8)).length := by rw [HN8.out]; exact hlt
        have i1 : (i : Int) < (n : Int) := by omega
        have y2 : wr.cell? ⟨B, 2, none⟩ = some (.slice x n c) := (hbw.out.cell (p := ⟨B, 2, none⟩) HBZ.out.1).trans (HK9.out.cell 2)
        obtain ⟨x', c', hve, -, -, -, hcl⟩ := HP9.out.below (show Below w9.heap.size w9 wr by rw [HZ.out]; exact hbw.out)
        obtain ⟨rfl, rfl⟩ : x = x' ∧ c = c' := by injection hve with e1 e2 e3; exact ⟨e1, e3⟩
        obtain ⟨g1, o1, rfl, hc1⟩ := hcl (by rintro rfl; simp at hil)
        obtain ⟨q0, q1, q2, q3⟩ := hc1 i hil
        obtain ⟨p, hp⟩ : ∃ p, px[i] = p := ⟨_, rfl⟩
        rw [hp] at q0 q1 q2 q3
        have HPV : Hid (valP p = true) := by show _ = _; rw [← hp]; exact HVL.out _ (List.getElem_mem hil)
        have HP8 : Hid (∀ wx, Below Z w9 wx → ∃ g2 o2, xc = some ⟨g2, o2, none⟩ ∧ PCell wx g2 o2 i (backT 8 p)) := fun wx hb => by
          obtain ⟨x', c', hve, -, -, -, hcl⟩ := HS9.out.below (show Below w9.heap.size w9 wx by rw [HZ.out]; exact hb)
          obtain ⟨rfl, rfl⟩ : xc = x' ∧ cc = c' := by injection hve with e1 e2 e3; exact ⟨e1, e3⟩
          obtain ⟨g2, o2, rfl, hc2⟩ := hcl (by intro h; rw [h] at hil8; simp at hil8)
          have := hc2 i hil8
          rw [List.getElem_map, hp] at this
          exact ⟨g2, o2, rfl, this⟩
        obtain ⟨p0, p1, p2, p3⟩ := p
        simp only at q0 q1 q2 q3
        have hzr : Z ≤ wr.heap.size := by rw [← HZ.out]; exact hbw.out.size
        have hk4 := Blk.new wr 46 #[.int .i64 p0, .int .i64 p1, .int .i64 p2, .int .i64 p3]
        have hbe4 := hbw.out.alloc hzr (.cells #[.int .i64 p0, .int .i64 p1, .int .i64 p2, .int .i64 p3] 46)
        clear hp hcl hc1 hil hil8
        go_upto_region 13 with fail
        generalize wr.alloc (.cells #[.int .i64 p0, .int .i64 p1, .int .i64 p2, .int .i64 p3] 46) = w10 at *
        have HK4 := Lib.hid hk4
        have HBE4 := Lib.hid hbe4
        have hlt4 : wr.heap.size < w10.heap.size := hk4.lt
        have HZR := Lib.hid hzr
        clear hk4 hbe4 q0 q1 q2 q3 y2 hzr
        generalize wr.heap.size = V at *
        obtain ⟨f, hf⟩ : ∃ f : Int → Int, ∀ x, f x = 257 * to8I x := ⟨_, fun _ => rfl⟩
        have HT : Hid (∀ x w, Calls Try.prog 27 #[.int .i64 x] w fun e w' => e = .returned (.int .i64 (to8I x)) ∧ w = w') := fun x w => pto8_any x w
        have HF : Hid (∀ x w, Calls Try.prog 26 #[.int .i64 (to8I x)] w fun e w' => e = .returned (.int .i64 (f x)) ∧ w = w') := fun x w => by
          have h := from8_any (to8I x) w
          have h2 := to8I_rng x
          have e : from8I (to8I x) = f x := by rw [hf]; unfold from8I clampI; omega
          rwa [e] at h
        have HFE := Lib.hid hf
        clear hf
        have v0 : w10.cell? ⟨V, 0, none⟩ = some (.int .i64 p0) := HK4.out.cell 0
        have v1 : w10.cell? ⟨V, 1, none⟩ = some (.int .i64 p1) := HK4.out.cell 1
        have v2 : w10.cell? ⟨V, 2, none⟩ = some (.int .i64 p2) := HK4.out.cell 2
        have v3 : w10.cell? ⟨V, 3, none⟩ = some (.int .i64 p3) := HK4.out.cell 3
        go_cut [19] from 114 to 149 (fun v19 wx => ∃ Q : Nat, v19 = .pointer (some ⟨Q, 0, none⟩) ∧ Hid (Blk wx Q 46 #[.int .i64 (f p0), .int .i64 (f p1), .int .i64 (f p2), .int .i64 (f p3)]) ∧ Hid (w10.heap.size ≤ Q) ∧ Hid (Below w10.heap.size w10 wx))
        case first =>
          have HW := Lib.hid ((Below.refl w10.heap.size w10).drew)
          have HP0 : Hid (Blk w10.drew V 46 #[.int .i64 p0, .int .i64 p1, .int .i64 p2, .int .i64 p3]) := bk_go HK4.out ((Below.refl w10.heap.size w10).drew)
          have HBk := Lib.hid (Below.refl w10.drew.heap.size w10.drew)
          refine wp_region_noPanic ?_
          refine wp_region_held_drew (S := fun W => W.cell? ⟨V, 0, none⟩ = some (.int .i64 p0) ∧ W.cell? ⟨V, 1, none⟩ = some (.int .i64 p1) ∧ W.cell? ⟨V, 2, none⟩ = some (.int .i64 p2) ∧ W.cell? ⟨V, 3, none⟩ = some (.int .i64 p3)) (by kernel_rfl) ⟨HP0.out.cell 0, HP0.out.cell 1, HP0.out.cell 2, HP0.out.cell 3⟩ (fun hS => ?_)
          clear HK4 v0 v1 v2 v3
          generalize w10.drew = w0 at *
          refine wpAnyH_take (i := 0) (oi := ⟨some 121, Op.fieldAddr 46 (Operand.tmp 18) 0, 0, _, _, none⟩) (v := ?v1) rfl (by kernel_rfl) (by kernel_rfl) (by kernel_rfl) (fun _ _ _ h => h) (Or.inl ⟨by rfl, ?y1⟩) hS ?r1
          case y1 => (intro w hSw; (try dsimp only at hSw); go_simp; try with_reducible rfl)
          try simp only [Act.put, List.setIfInBounds_toArray, List.set_cons_zero, List.set_cons_succ]
          refine wpAnyH_take (i := 1) (oi := ⟨some 122, Op.load 3 (Operand.tmp 121), 3, _, _, none⟩) (v := ?v2) rfl (by kernel_rfl) (by kernel_rfl) (by kernel_rfl) (fun _ _ _ h => h) (Or.inl ⟨by rfl, ?y2⟩) hS ?r2
          case y2 => (intro w hSw; (try dsimp only at hSw); go_simp; try with_reducible rfl)
          try simp only [Act.put, List.setIfInBounds_toArray, List.set_cons_zero, List.set_cons_succ]
          refine wpAnyH_take (i := 4) (oi := ⟨some 125, Op.fieldAddr 46 (Operand.tmp 18) 1, 0, _, _, none⟩) (v := ?v3) rfl (by kernel_rfl) (by kernel_rfl) (by kernel_rfl) (fun _ _ _ h => h) (Or.inl ⟨by rfl, ?y3⟩) hS ?r3
          case y3 => (intro w hSw; (try dsimp only at hSw); go_simp; try with_reducible rfl)
          try simp only [Act.put, List.setIfInBounds_toArray, List.set_cons_zero, List.set_cons_succ]
          refine wpAnyH_take (i := 5) (oi := ⟨some 126, Op.load 3 (Operand.tmp 125), 3, _, _, none⟩) (v := ?v4) rfl (by kernel_rfl) (by kernel_rfl) (by kernel_rfl) (fun _ _ _ h => h) (Or.inl ⟨by rfl, ?y4⟩) hS ?r4
          case y4 => (intro w hSw; (try dsimp only at hSw); go_simp; try with_reducible rfl)
          try simp only [Act.put, List.setIfInBounds_toArray, List.set_cons_zero, List.set_cons_succ]
          refine wpAnyH_take (i := 8) (oi := ⟨some 129, Op.fieldAddr 46 (Operand.tmp 18) 2, 0, _, _, none⟩) (v := ?v5) rfl (by kernel_rfl) (by kernel_rfl) (by kernel_rfl) (fun _ _ _ h => h) (Or.inl ⟨by rfl, ?y5⟩) hS ?r5
          case y5 => (intro w hSw; (try dsimp only at hSw); go_simp; try with_reducible rfl)
          try simp only [Act.put, List.setIfInBounds_toArray, List.set_cons_zero, List.set_cons_succ]
          refine wpAnyH_take (i := 9) (oi := ⟨some 130, Op.load 3 (Operand.tmp 129), 3, _, _, none⟩) (v := ?v6) rfl (by kernel_rfl) (by kernel_rfl) (by kernel_rfl) (fun _ _ _ h => h) (Or.inl ⟨by rfl, ?y6⟩) hS ?r6
          case y6 => (intro w hSw; (try dsimp only at hSw); go_simp; try with_reducible rfl)
          try simp only [Act.put, List.setIfInBounds_toArray, List.set_cons_zero, List.set_cons_succ]
          refine wpAnyH_take (i := 12) (oi := ⟨some 133, Op.fieldAddr 46 (Operand.tmp 18) 3, 0, _, _, none⟩) (v := ?v7) rfl (by kernel_rfl) (by kernel_rfl) (by kernel_rfl) (fun _ _ _ h => h) (Or.inl ⟨by rfl, ?y7⟩) hS ?r7
          case y7 => (intro w hSw; (try dsimp only at hSw); go_simp; try with_reducible rfl)
          try simp only [Act.put, List.setIfInBounds_toArray, List.set_cons_zero, List.set_cons_succ]
          refine wpAnyH_take (i := 13) (oi := ⟨some 134, Op.load 3 (Operand.tmp 133), 3, _, _, none⟩) (v := ?v8) rfl (by kernel_rfl) (by kernel_rfl) (by kernel_rfl) (fun _ _ _ h => h) (Or.inl ⟨by rfl, ?y8⟩) hS ?r8
          case y8 => (intro w hSw; (try dsimp only at hSw); go_simp; try with_reducible rfl)
          try simp only [Act.put, List.setIfInBounds_toArray, List.set_cons_zero, List.set_cons_succ]
          refine wpAnyH_ready (rs := [2, 17]) (by kernel_rfl) (by simp) ?_
          refine AllReadyH.cons (o := ⟨some 123, Op.call { callee := Callee.value (Operand.func 27), args := #[Operand.tmp 122], argTypes := #[3] }, 3, _, _, none⟩) rfl (fun K hK => ?_) (AllReadyH.cons (o := ⟨some 19, Op.alloc 46, 0, _, _, none⟩) rfl (fun K hK => ?_) AllReadyH.nil)
          · go_simp
            refine (HT.out p0 _).mono ?_
            rintro e wE ⟨rfl, hw⟩
            subst hw
            refine hK.out _ _ ⟨(bk_go HP0.out HBk.out).cell 0, (bk_go HP0.out HBk.out).cell 1, (bk_go HP0.out HBk.out).cell 2, (bk_go HP0.out HBk.out).cell 3⟩ (fun hS => ?_)
            clear hK K
            try simp only [Act.put, List.setIfInBounds_toArray, List.set_cons_zero, List.set_cons_succ]
            refine wpAnyH_ready (rs := [3, 17]) (by kernel_rfl) (by simp) ?_
            refine AllReadyH.cons (o := ⟨some 124, Op.call { callee := Callee.value (Operand.func 26), args := #[Operand.tmp 123], argTypes := #[3] }, 3, _, _, none⟩) rfl (fun K hK => ?_) (AllReadyH.cons (o := ⟨some 19, Op.alloc 46, 0, _, _, none⟩) rfl (fun K hK => ?_) AllReadyH.nil)
            · go_simp
              refine (HF.out p0 _).mono ?_
              rintro e wE ⟨rfl, hw⟩
              subst hw
              refine hK.out _ _ ⟨(bk_go HP0.out HBk.out).cell 0, (bk_go HP0.out HBk.out).cell 1, (bk_go HP0.out HBk.out).cell 2, (bk_go HP0.out HBk.out).cell 3⟩ (fun hS => ?_)
              clear hK K
              try simp only [Act.put, List.setIfInBounds_toArray, List.set_cons_zero, List.set_cons_succ]
              refine wpAnyH_ready (rs := [6, 17]) (by kernel_rfl) (by simp) ?_
              refine AllReadyH.cons (o := ⟨some 127, Op.call { callee := Callee.value (Operand.func 27), args := #[Operand.tmp 126], argTypes := #[3] }, 3, _, _, none⟩) rfl (fun K hK => ?_) (AllReadyH.cons (o := ⟨some 19, Op.alloc 46, 0, _, _, none⟩) rfl (fun K hK => ?_) AllReadyH.nil)
              · go_simp
                refine (HT.out p1 _).mono ?_
                rintro e wE ⟨rfl, hw⟩
                subst hw
                refine hK.out _ _ ⟨(bk_go HP0.out HBk.out).cell 0, (bk_go HP0.out HBk.out).cell 1, (bk_go HP0.out HBk.out).cell 2, (bk_go HP0.out HBk.out).cell 3⟩ (fun hS => ?_)
                clear hK K
                try simp only [Act.put, List.setIfInBounds_toArray, List.set_cons_zero, List.set_cons_succ]
                refine wpAnyH_ready (rs := [7, 17]) (by kernel_rfl) (by simp) ?_
                refine AllReadyH.cons (o := ⟨some 128, Op.call { callee := Callee.value (Operand.func 26), args := #[Operand.tmp 127], argTypes := #[3] }, 3, _, _, none⟩) rfl (fun K hK => ?_) (AllReadyH.cons (o := ⟨some 19, Op.alloc 46, 0, _, _, none⟩) rfl (fun K hK => ?_) AllReadyH.nil)
                · go_simp
                  refine (HF.out p1 _).mono ?_
                  rintro e wE ⟨rfl, hw⟩
                  subst hw
                  refine hK.out _ _ ⟨(bk_go HP0.out HBk.out).cell 0, (bk_go HP0.out HBk.out).cell 1, (bk_go HP0.out HBk.out).cell 2, (bk_go HP0.out HBk.out).cell 3⟩ (fun hS => ?_)
                  clear hK K
                  try simp only [Act.put, List.setIfInBounds_toArray, List.set_cons_zero, List.set_cons_succ]
                  refine wpAnyH_ready (rs := [10, 17]) (by kernel_rfl) (by simp) ?_
                  refine AllReadyH.cons (o := ⟨some 131, Op.call { callee := Callee.value (Operand.func 27), args := #[Operand.tmp 130], argTypes := #[3] }, 3, _, _, none⟩) rfl (fun K hK => ?_) (AllReadyH.cons (o := ⟨some 19, Op.alloc 46, 0, _, _, none⟩) rfl (fun K hK => ?_) AllReadyH.nil)
                  · go_simp
                    refine (HT.out p2 _).mono ?_
                    rintro e wE ⟨rfl, hw⟩
                    subst hw
                    refine hK.out _ _ ⟨(bk_go HP0.out HBk.out).cell 0, (bk_go HP0.out HBk.out).cell 1, (bk_go HP0.out HBk.out).cell 2, (bk_go HP0.out HBk.out).cell 3⟩ (fun hS => ?_)
                    clear hK K
                    try simp only [Act.put, List.setIfInBounds_toArray, List.set_cons_zero, List.set_cons_succ]
                    refine wpAnyH_ready (rs := [11, 17]) (by kernel_rfl) (by simp) ?_
                    refine AllReadyH.cons (o := ⟨some 132, Op.call { callee := Callee.value (Operand.func 26), args := #[Operand.tmp 131], argTypes := #[3] }, 3, _, _, none⟩) rfl (fun K hK => ?_) (AllReadyH.cons (o := ⟨some 19, Op.alloc 46, 0, _, _, none⟩) rfl (fun K hK => ?_) AllReadyH.nil)
                    · go_simp
                      refine (HF.out p2 _).mono ?_
                      rintro e wE ⟨rfl, hw⟩
                      subst hw
                      refine hK.out _ _ ⟨(bk_go HP0.out HBk.out).cell 0, (bk_go HP0.out HBk.out).cell 1, (bk_go HP0.out HBk.out).cell 2, (bk_go HP0.out HBk.out).cell 3⟩ (fun hS => ?_)
                      clear hK K
                      try simp only [Act.put, List.setIfInBounds_toArray, List.set_cons_zero, List.set_cons_succ]
                      refine wpAnyH_ready (rs := [14, 17]) (by kernel_rfl) (by simp) ?_
                      refine AllReadyH.cons (o := ⟨some 135, Op.call { callee := Callee.value (Operand.func 27), args := #[Operand.tmp 134], argTypes := #[3] }, 3, _, _, none⟩) rfl (fun K hK => ?_) (AllReadyH.cons (o := ⟨some 19, Op.alloc 46, 0, _, _, none⟩) rfl (fun K hK => ?_) AllReadyH.nil)
                      · go_simp
                        refine (HT.out p3 _).mono ?_
                        rintro e wE ⟨rfl, hw⟩
                        subst hw
                        refine hK.out _ _ ⟨(bk_go HP0.out HBk.out).cell 0, (bk_go HP0.out HBk.out).cell 1, (bk_go HP0.out HBk.out).cell 2, (bk_go HP0.out HBk.out).cell 3⟩ (fun hS => ?_)
                        clear hK K
                        try simp only [Act.put, List.setIfInBounds_toArray, List.set_cons_zero, List.set_cons_succ]
                        refine wpAnyH_ready (rs := [15, 17]) (by kernel_rfl) (by simp) ?_
                        refine AllReadyH.cons (o := ⟨some 136, Op.call { callee := Callee.value (Operand.func 26), args := #[Operand.tmp 135], argTypes := #[3] }, 3, _, _, none⟩) rfl (fun K hK => ?_) (AllReadyH.cons (o := ⟨some 19, Op.alloc 46, 0, _, _, none⟩) rfl (fun K hK => ?_) AllReadyH.nil)
                        · go_simp
                          refine (HF.out p3 _).mono ?_
                          rintro e wE ⟨rfl, hw⟩
                          subst hw
                          refine hK.out _ _ ⟨(bk_go HP0.out HBk.out).cell 0, (bk_go HP0.out HBk.out).cell 1, (bk_go HP0.out HBk.out).cell 2, (bk_go HP0.out HBk.out).cell 3⟩ (fun hS => ?_)
                          clear hK K
                          try simp only [Act.put, List.setIfInBounds_toArray, List.set_cons_zero, List.set_cons_succ]
                          refine wpAnyH_take (i := 16) (oi := ⟨some 137, Op.build 46 #[(0, Operand.tmp 124), (1, Operand.tmp 128), (2, Operand.tmp 132), (3, Operand.tmp 136)], 46, _, _, none⟩) (v := ?v9) rfl (by kernel_rfl) (by kernel_rfl) (by kernel_rfl) (fun _ _ _ h => h) (Or.inl ⟨by rfl, ?y9⟩) hS ?r9
                          case y9 => (intro w hSw; (try dsimp only at hSw); go_simp; try with_reducible rfl)
                          try simp only [Act.put, List.setIfInBounds_toArray, List.set_cons_zero, List.set_cons_succ]
                          refine wpAnyH_ready (rs := [17]) (by kernel_rfl) (by simp) ?_
                          refine AllReadyH.cons (o := ⟨some 19, Op.alloc 46, 0, _, _, none⟩) rfl (fun K hK => ?_) AllReadyH.nil
                          go_simp
                          have HBk2 := Lib.hid (HBk.out.alloc HBk.out.size (.cells #[.int .i64 0, .int .i64 0, .int .i64 0, .int .i64 0] 46))
                          have HQ := Lib.hid (Blk.new w0 46 #[.int .i64 0, .int .i64 0, .int .i64 0, .int .i64 0])
                          obtain ⟨Qn, hQn⟩ : ∃ Qn, Qn = w0.heap.size := ⟨_, rfl⟩
                          have hQ0 : w0.heap.size ≤ Qn := by rw [hQn]; exact HBk.out.size
                          rw [← hQn] at HQ
                          refine hK.out _ _ ⟨(bk_go HP0.out HBk2.out).cell 0, (bk_go HP0.out HBk2.out).cell 1, (bk_go HP0.out HBk2.out).cell 2, (bk_go HP0.out HBk2.out).cell 3⟩ (fun hS => ?_)
                          clear hK K HBk
                          have HBk := HBk2
                          clear HBk2
                          generalize w0.alloc (.cells #[.int .i64 0, .int .i64 0, .int .i64 0, .int .i64 0] 46) = w1009 at *
                          rw [← hQn]
                          clear hQn
                          try simp only [Act.put, List.setIfInBounds_toArray, List.set_cons_zero, List.set_cons_succ]
                          have q0 : w1009.cell? ⟨Qn, 0, none⟩ = some (.int .i64 0) := HQ.out.cell 0
                          have z0 := HQ.out.frozen 0
                          have q1 : w1009.cell? ⟨Qn, 1, none⟩ = some (.int .i64 0) := HQ.out.cell 1
                          have z1 := HQ.out.frozen 1
                          have q2 : w1009.cell? ⟨Qn, 2, none⟩ = some (.int .i64 0) := HQ.out.cell 2
                          have z2 := HQ.out.frozen 2
                          have q3 : w1009.cell? ⟨Qn, 3, none⟩ = some (.int .i64 0) := HQ.out.cell 3
                          have z3 := HQ.out.frozen 3
                          refine wpAnyH_ready (rs := [18]) (by kernel_rfl) (by simp) ?_
                          refine AllReadyH.cons (o := ⟨none, Op.store 46 (Operand.tmp 19) (Operand.tmp 137), 0, _, _, none⟩) rfl (fun K hK => ?_) AllReadyH.nil
                          go_simp
                          have HB2 := Lib.hid (below_put (below_put (below_put (below_put (HBk.out) (p := ⟨Qn, 0, none⟩) hQ0 (.int .i64 (f p0))) (p := ⟨Qn, 1, none⟩) hQ0 (.int .i64 (f p1))) (p := ⟨Qn, 2, none⟩) hQ0 (.int .i64 (f p2))) (p := ⟨Qn, 3, none⟩) hQ0 (.int .i64 (f p3)))
                          have HQ2 := Lib.hid ((((HQ.out.put 0 (.int .i64 (f p0))).put 1 (.int .i64 (f p1))).put 2 (.int .i64 (f p2))).put 3 (.int .i64 (f p3)))
                          refine hK.out _ _ ⟨(bk_go HP0.out HB2.out).cell 0, (bk_go HP0.out HB2.out).cell 1, (bk_go HP0.out HB2.out).cell 2, (bk_go HP0.out HB2.out).cell 3⟩ (fun hS => ?_)
                          clear hK K
                          try simp only [Act.put, List.setIfInBounds_toArray, List.set_cons_zero, List.set_cons_succ]
                          refine wpAnyH_done (by kernel_rfl) ?_ _
                          refine NoPanic.normal ?_
                          go_wp2_with fail
                          go_meet
                          case rel => exact ⟨Qn, rfl, HQ2.out, Nat.le_trans HW.out.size hQ0, HW.out.trans (HB2.out.mono HW.out.size)⟩
                        · go_simp
                          have HBk2 := Lib.hid (HBk.out.alloc HBk.out.size (.cells #[.int .i64 0, .int .i64 0, .int .i64 0, .int .i64 0] 46))
                          have HQ := Lib.hid (Blk.new w0 46 #[.int .i64 0, .int .i64 0, .int .i64 0, .int .i64 0])
                          obtain ⟨Qn, hQn⟩ : ∃ Qn, Qn = w0.heap.size := ⟨_, rfl⟩
                          have hQ0 : w0.heap.size ≤ Qn := by rw [hQn]; exact HBk.out.size
                          rw [← hQn] at HQ
                          refine hK.out _ _ ⟨(bk_go HP0.out HBk2.out).cell 0, (bk_go HP0.out HBk2.out).cell 1, (bk_go HP0.out HBk2.out).cell 2, (bk_go HP0.out HBk2.out).cell 3⟩ (fun hS => ?_)
                          clear hK K HBk
                          have HBk := HBk2
                          clear HBk2
                          generalize w0.alloc (.cells #[.int .i64 0, .int .i64 0, .int .i64 0, .int .i64 0] 46) = w1010 at *
                          rw [← hQn]
                          clear hQn
                          try simp only [Act.put, List.setIfInBounds_toArray, List.set_cons_zero, List.set_cons_succ]
                          refine wpAnyH_ready (rs := [15]) (by kernel_rfl) (by simp) ?_
                          refine AllReadyH.cons (o := ⟨some 136, Op.call { callee := Callee.value (Operand.func 26), args := #[Operand.tmp 135], argTypes := #[3] }, 3, _, _, none⟩) rfl (fun K hK => ?_) AllReadyH.nil
                          go_simp
                          refine (HF.out p3 _).mono ?_
                          rintro e wE ⟨rfl, hw⟩
                          subst hw
                          refine hK.out _ _ ⟨(bk_go HP0.out HBk.out).cell 0, (bk_go HP0.out HBk.out).cell 1, (bk_go HP0.out HBk.out).cell 2, (bk_go HP0.out HBk.out).cell 3⟩ (fun hS => ?_)
                          clear hK K
                          try simp only [Act.put, List.setIfInBounds_toArray, List.set_cons_zero, List.set_cons_succ]
                          refine wpAnyH_take (i := 16) (oi := ⟨some 137, Op.build 46 #[(0, Operand.tmp 124), (1, Operand.tmp 128), (2, Operand.tmp 132), (3, Operand.tmp 136)], 46, _, _, none⟩) (v := ?v12) rfl (by kernel_rfl) (by kernel_rfl) (by kernel_rfl) (fun _ _ _ h => h) (Or.inl ⟨by rfl, ?y12⟩) hS ?r12
                          case y12 => (intro w hSw; (try dsimp only at hSw); go_simp; try with_reducible rfl)
                          try simp only [Act.put, List.setIfInBounds_toArray, List.set_cons_zero, List.set_cons_succ]
                          have q0 : w1010.cell? ⟨Qn, 0, none⟩ = some (.int .i64 0) := HQ.out.cell 0
                          have z0 := HQ.out.frozen 0
                          have q1 : w1010.cell? ⟨Qn, 1, none⟩ = some (.int .i64 0) := HQ.out.cell 1
                          have z1 := HQ.out.frozen 1
                          have q2 : w1010.cell? ⟨Qn, 2, none⟩ = some (.int .i64 0) := HQ.out.cell 2
                          have z2 := HQ.out.frozen 2
                          have q3 : w1010.cell? ⟨Qn, 3, none⟩ = some (.int .i64 0) := HQ.out.cell 3
                          have z3 := HQ.out.frozen 3
                          refine wpAnyH_ready (rs := [18]) (by kernel_rfl) (by simp) ?_
                          refine AllReadyH.cons (o := ⟨none, Op.store 46 (Operand.tmp 19) (Operand.tmp 137), 0, _, _, none⟩) rfl (fun K hK => ?_) AllReadyH.nil
                          go_simp
                          have HB2 := Lib.hid (below_put (below_put (below_put (below_put (HBk.out) (p := ⟨Qn, 0, none⟩) hQ0 (.int .i64 (f p0))) (p := ⟨Qn, 1, none⟩) hQ0 (.int .i64 (f p1))) (p := ⟨Qn, 2, none⟩) hQ0 (.int .i64 (f p2))) (p := ⟨Qn, 3, none⟩) hQ0 (.int .i64 (f p3)))
                          have HQ2 := Lib.hid ((((HQ.out.put 0 (.int .i64 (f p0))).put 1 (.int .i64 (f p1))).put 2 (.int .i64 (f p2))).put 3 (.int .i64 (f p3)))
                          refine hK.out _ _ ⟨(bk_go HP0.out HB2.out).cell 0, (bk_go HP0.out HB2.out).cell 1, (bk_go HP0.out HB2.out).cell 2, (bk_go HP0.out HB2.out).cell 3⟩ (fun hS => ?_)
                          clear hK K
                          try simp only [Act.put, List.setIfInBounds_toArray, List.set_cons_zero, List.set_cons_succ]
                          refine wpAnyH_done (by kernel_rfl) ?_ _
                          refine NoPanic.normal ?_
                          go_wp2_with fail
                          go_meet
                          case rel => exact ⟨Qn, rfl, HQ2.out, Nat.le_trans HW.out.size hQ0, HW.out.trans (HB2.out.mono HW.out.size)⟩
                      · go_simp
                        have HBk2 := Lib.hid (HBk.out.alloc HBk.out.size (.cells #[.int .i64 0, .int .i64 0, .int .i64 0, .int .i64 0] 46))
                        have HQ := Lib.hid (Blk.new w0 46 #[.int .i64 0, .int .i64 0, .int .i64 0, .int .i64 0])
                        obtain ⟨Qn, hQn⟩ : ∃ Qn, Qn = w0.heap.size := ⟨_, rfl⟩
                        have hQ0 : w0.heap.size ≤ Qn := by rw [hQn]; exact HBk.out.size
                        rw [← hQn] at HQ
                        refine hK.out _ _ ⟨(bk_go HP0.out HBk2.out).cell 0, (bk_go HP0.out HBk2.out).cell 1, (bk_go HP0.out HBk2.out).cell 2, (bk_go HP0.out HBk2.out).cell 3⟩ (fun hS => ?_)
                        clear hK K HBk
                        have HBk := HBk2
                        clear HBk2
                        generalize w0.alloc (.cells #[.int .i64 0, .int .i64 0, .int .i64 0, .int .i64 0] 46) = w1012 at *
                        rw [← hQn]
                        clear hQn
                        try simp only [Act.put, List.setIfInBounds_toArray, List.set_cons_zero, List.set_cons_succ]
                        refine wpAnyH_ready (rs := [14]) (by kernel_rfl) (by simp) ?_
                        refine AllReadyH.cons (o := ⟨some 135, Op.call { callee := Callee.value (Operand.func 27), args := #[Operand.tmp 134], argTypes := #[3] }, 3, _, _, none⟩) rfl (fun K hK => ?_) AllReadyH.nil
                        go_simp
                        refine (HT.out p3 _).mono ?_
                        rintro e wE ⟨rfl, hw⟩
                        subst hw
                        refine hK.out _ _ ⟨(bk_go HP0.out HBk.out).cell 0, (bk_go HP0.out HBk.out).cell 1, (bk_go HP0.out HBk.out).cell 2, (bk_go HP0.out HBk.out).cell 3⟩ (fun hS => ?_)
                        clear hK K
                        try simp only [Act.put, List.setIfInBounds_toArray, List.set_cons_zero, List.set_cons_succ]
                        refine wpAnyH_ready (rs := [15]) (by kernel_rfl) (by simp) ?_
                        refine AllReadyH.cons (o := ⟨some 136, Op.call { callee := Callee.value (Operand.func 26), args := #[Operand.tmp 135], argTypes := #[3] }, 3, _, _, none⟩) rfl (fun K hK => ?_) AllReadyH.nil
                        go_simp
                        refine (HF.out p3 _).mono ?_
                        rintro e wE ⟨rfl, hw⟩
                        subst hw
                        refine hK.out _ _ ⟨(bk_go HP0.out HBk.out).cell 0, (bk_go HP0.out HBk.out).cell 1, (bk_go HP0.out HBk.out).cell 2, (bk_go HP0.out HBk.out).cell 3⟩ (fun hS => ?_)
                        clear hK K
                        try simp only [Act.put, List.setIfInBounds_toArray, List.set_cons_zero, List.set_cons_succ]
                        refine wpAnyH_take (i := 16) (oi := ⟨some 137, Op.build 46 #[(0, Operand.tmp 124), (1, Operand.tmp 128), (2, Operand.tmp 132), (3, Operand.tmp 136)], 46, _, _, none⟩) (v := ?v14) rfl (by kernel_rfl) (by kernel_rfl) (by kernel_rfl) (fun _ _ _ h => h) (Or.inl ⟨by rfl, ?y14⟩) hS ?r14
                        case y14 => (intro w hSw; (try dsimp only at hSw); go_simp; try with_reducible rfl)
                        try simp only [Act.put, List.setIfInBounds_toArray, List.set_cons_zero, List.set_cons_succ]
                        have q0 : w1012.cell? ⟨Qn, 0, none⟩ = some (.int .i64 0) := HQ.out.cell 0
                        have z0 := HQ.out.frozen 0
                        have q1 : w1012.cell? ⟨Qn, 1, none⟩ = some (.int .i64 0) := HQ.out.cell 1
                        have z1 := HQ.out.frozen 1
                        have q2 : w1012.cell? ⟨Qn, 2, none⟩ = some (.int .i64 0) := HQ.out.cell 2
                        have z2 := HQ.out.frozen 2
                        have q3 : w1012.cell? ⟨Qn, 3, none⟩ = some (.int .i64 0) := HQ.out.cell 3
                        have z3 := HQ.out.frozen 3
                        refine wpAnyH_ready (rs := [18]) (by kernel_rfl) (by simp) ?_
                        refine AllReadyH.cons (o := ⟨none, Op.store 46 (Operand.tmp 19) (Operand.tmp 137), 0, _, _, none⟩) rfl (fun K hK => ?_) AllReadyH.nil
                        go_simp
                        have HB2 := Lib.hid (below_put (below_put (below_put (below_put (HBk.out) (p := ⟨Qn, 0, none⟩) hQ0 (.int .i64 (f p0))) (p := ⟨Qn, 1, none⟩) hQ0 (.int .i64 (f p1))) (p := ⟨Qn, 2, none⟩) hQ0 (.int .i64 (f p2))) (p := ⟨Qn, 3, none⟩) hQ0 (.int .i64 (f p3)))
                        have HQ2 := Lib.hid ((((HQ.out.put 0 (.int .i64 (f p0))).put 1 (.int .i64 (f p1))).put 2 (.int .i64 (f p2))).put 3 (.int .i64 (f p3)))
                        refine hK.out _ _ ⟨(bk_go HP0.out HB2.out).cell 0, (bk_go HP0.out HB2.out).cell 1, (bk_go HP0.out HB2.out).cell 2, (bk_go HP0.out HB2.out).cell 3⟩ (fun hS => ?_)
                        clear hK K
                        try simp only [Act.put, List.setIfInBounds_toArray, List.set_cons_zero, List.set_cons_succ]
                        refine wpAnyH_done (by kernel_rfl) ?_ _
                        refine NoPanic.normal ?_
                        go_wp2_with fail
                        go_meet
                        case rel => exact ⟨Qn, rfl, HQ2.out, Nat.le_trans HW.out.size hQ0, HW.out.trans (HB2.out.mono HW.out.size)⟩
                    · go_simp
                      have HBk2 := Lib.hid (HBk.out.alloc HBk.out.size (.cells #[.int .i64 0, .int .i64 0, .int .i64 0, .int .i64 0] 46))
                      have HQ := Lib.hid (Blk.new w0 46 #[.int .i64 0, .int .i64 0, .int .i64 0, .int .i64 0])
                      obtain ⟨Qn, hQn⟩ : ∃ Qn, Qn = w0.heap.size := ⟨_, rfl⟩
                      have hQ0 : w0.heap.size ≤ Qn := by rw [hQn]; exact HBk.out.size
                      rw [← hQn] at HQ
                      refine hK.out _ _ ⟨(bk_go HP0.out HBk2.out).cell 0, (bk_go HP0.out HBk2.out).cell 1, (bk_go HP0.out HBk2.out).cell 2, (bk_go HP0.out HBk2.out).cell 3⟩ (fun hS => ?_)
                      clear hK K HBk
                      have HBk := HBk2
                      clear HBk2
                      generalize w0.alloc (.cells #[.int .i64 0, .int .i64 0, .int .i64 0, .int .i64 0] 46) = w1014 at *
                      rw [← hQn]
                      clear hQn
                      try simp only [Act.put, List.setIfInBounds_toArray, List.set_cons_zero, List.set_cons_succ]
                      refine wpAnyH_ready (rs := [11]) (by kernel_rfl) (by simp) ?_
                      refine AllReadyH.cons (o := ⟨some 132, Op.call { callee := Callee.value (Operand.func 26), args := #[Operand.tmp 131], argTypes := #[3] }, 3, _, _, none⟩) rfl (fun K hK => ?_) AllReadyH.nil
                      go_simp
                      refine (HF.out p2 _).mono ?_
                      rintro e wE ⟨rfl, hw⟩
                      subst hw
                      refine hK.out _ _ ⟨(bk_go HP0.out HBk.out).cell 0, (bk_go HP0.out HBk.out).cell 1, (bk_go HP0.out HBk.out).cell 2, (bk_go HP0.out HBk.out).cell 3⟩ (fun hS => ?_)
                      clear hK K
                      try simp only [Act.put, List.setIfInBounds_toArray, List.set_cons_zero, List.set_cons_succ]
                      refine wpAnyH_ready (rs := [14]) (by kernel_rfl) (by simp) ?_
                      refine AllReadyH.cons (o := ⟨some 135, Op.call { callee := Callee.value (Operand.func 27), args := #[Operand.tmp 134], argTypes := #[3] }, 3, _, _, none⟩) rfl (fun K hK => ?_) AllReadyH.nil
                      go_simp
                      refine (HT.out p3 _).mono ?_
                      rintro e wE ⟨rfl, hw⟩
                      subst hw
                      refine hK.out _ _ ⟨(bk_go HP0.out HBk.out).cell 0, (bk_go HP0.out HBk.out).cell 1, (bk_go HP0.out HBk.out).cell 2, (bk_go HP0.out HBk.out).cell 3⟩ (fun hS => ?_)
                      clear hK K
                      try simp only [Act.put, List.setIfInBounds_toArray, List.set_cons_zero, List.set_cons_succ]
                      refine wpAnyH_ready (rs := [15]) (by kernel_rfl) (by simp) ?_
                      refine AllReadyH.cons (o := ⟨some 136, Op.call { callee := Callee.value (Operand.func 26), args := #[Operand.tmp 135], argTypes := #[3] }, 3, _, _, none⟩) rfl (fun K hK => ?_) AllReadyH.nil
                      go_simp
                      refine (HF.out p3 _).mono ?_
                      rintro e wE ⟨rfl, hw⟩
                      subst hw
                      refine hK.out _ _ ⟨(bk_go HP0.out HBk.out).cell 0, (bk_go HP0.out HBk.out).cell 1, (bk_go HP0.out HBk.out).cell 2, (bk_go HP0.out HBk.out).cell 3⟩ (fun hS => ?_)
                      clear hK K
                      try simp only [Act.put, List.setIfInBounds_toArray, List.set_cons_zero, List.set_cons_succ]
                      refine wpAnyH_take (i := 16) (oi := ⟨some 137, Op.build 46 #[(0, Operand.tmp 124), (1, Operand.tmp 128), (2, Operand.tmp 132), (3, Operand.tmp 136)], 46, _, _, none⟩) (v := ?v16) rfl (by kernel_rfl) (by kernel_rfl) (by kernel_rfl) (fun _ _ _ h => h) (Or.inl ⟨by rfl, ?y16⟩) hS ?r16
                      case y16 => (intro w hSw; (try dsimp only at hSw); go_simp; try with_reducible rfl)
                      try simp only [Act.put, List.setIfInBounds_toArray, List.set_cons_zero, List.set_cons_succ]
                      have q0 : w1014.cell? ⟨Qn, 0, none⟩ = some (.int .i64 0) := HQ.out.cell 0
                      have z0 := HQ.out.frozen 0
                      have q1 : w1014.cell? ⟨Qn, 1, none⟩ = some (.int .i64 0) := HQ.out.cell 1
                      have z1 := HQ.out.frozen 1
                      have q2 : w1014.cell? ⟨Qn, 2, none⟩ = some (.int .i64 0) := HQ.out.cell 2
                      have z2 := HQ.out.frozen 2
                      have q3 : w1014.cell? ⟨Qn, 3, none⟩ = some (.int .i64 0) := HQ.out.cell 3
                      have z3 := HQ.out.frozen 3
                      refine wpAnyH_ready (rs := [18]) (by kernel_rfl) (by simp) ?_
                      refine AllReadyH.cons (o := ⟨none, Op.store 46 (Operand.tmp 19) (Operand.tmp 137), 0, _, _, none⟩) rfl (fun K hK => ?_) AllReadyH.nil
                      go_simp
                      have HB2 := Lib.hid (below_put (below_put (below_put (below_put (HBk.out) (p := ⟨Qn, 0, none⟩) hQ0 (.int .i64 (f p0))) (p := ⟨Qn, 1, none⟩) hQ0 (.int .i64 (f p1))) (p := ⟨Qn, 2, none⟩) hQ0 (.int .i64 (f p2))) (p := ⟨Qn, 3, none⟩) hQ0 (.int .i64 (f p3)))
                      have HQ2 := Lib.hid ((((HQ.out.put 0 (.int .i64 (f p0))).put 1 (.int .i64 (f p1))).put 2 (.int .i64 (f p2))).put 3 (.int .i64 (f p3)))
                      refine hK.out _ _ ⟨(bk_go HP0.out HB2.out).cell 0, (bk_go HP0.out HB2.out).cell 1, (bk_go HP0.out HB2.out).cell 2, (bk_go HP0.out HB2.out).cell 3⟩ (fun hS => ?_)
                      clear hK K
                      try simp only [Act.put, List.setIfInBounds_toArray, List.set_cons_zero, List.set_cons_succ]
                      refine wpAnyH_done (by kernel_rfl) ?_ _
                      refine NoPanic.normal ?_
                      go_wp2_with fail
                      go_meet
                      case rel => exact ⟨Qn, rfl, HQ2.out, Nat.le_trans HW.out.size hQ0, HW.out.trans (HB2.out.mono HW.out.size)⟩
                  · go_simp
                    have HBk2 := Lib.hid (HBk.out.alloc HBk.out.size (.cells #[.int .i64 0, .int .i64 0, .int .i64 0, .int .i64 0] 46))
                    have HQ := Lib.hid (Blk.new w0 46 #[.int .i64 0, .int .i64 0, .int .i64 0, .int .i64 0])
                    obtain ⟨Qn, hQn⟩ : ∃ Qn, Qn = w0.heap.size := ⟨_, rfl⟩
                    have hQ0 : w0.heap.size ≤ Qn := by rw [hQn]; exact HBk.out.size
                    rw [← hQn] at HQ
                    refine hK.out _ _ ⟨(bk_go HP0.out HBk2.out).cell 0, (bk_go HP0.out HBk2.out).cell 1, (bk_go HP0.out HBk2.out).cell 2, (bk_go HP0.out HBk2.out).cell 3⟩ (fun hS => ?_)
                    clear hK K HBk
                    have HBk := HBk2
                    clear HBk2
                    generalize w0.alloc (.cells #[.int .i64 0, .int .i64 0, .int .i64 0, .int .i64 0] 46) = w1016 at *
                    rw [← hQn]
                    clear hQn
                    try simp only [Act.put, List.setIfInBounds_toArray, List.set_cons_zero, List.set_cons_succ]
                    refine wpAnyH_ready (rs := [10]) (by kernel_rfl) (by simp) ?_
                    refine AllReadyH.cons (o := ⟨some 131, Op.call { callee := Callee.value (Operand.func 27), args := #[Operand.tmp 130], argTypes := #[3] }, 3, _, _, none⟩) rfl (fun K hK => ?_) AllReadyH.nil
                    go_simp
                    refine (HT.out p2 _).mono ?_
                    rintro e wE ⟨rfl, hw⟩
                    subst hw
                    refine hK.out _ _ ⟨(bk_go HP0.out HBk.out).cell 0, (bk_go HP0.out HBk.out).cell 1, (bk_go HP0.out HBk.out).cell 2, (bk_go HP0.out HBk.out).cell 3⟩ (fun hS => ?_)
                    clear hK K
                    try simp only [Act.put, List.setIfInBounds_toArray, List.set_cons_zero, List.set_cons_succ]
                    refine wpAnyH_ready (rs := [11]) (by kernel_rfl) (by simp) ?_
                    refine AllReadyH.cons (o := ⟨some 132, Op.call { callee := Callee.value (Operand.func 26), args := #[Operand.tmp 131], argTypes := #[3] }, 3, _, _, none⟩) rfl (fun K hK => ?_) AllReadyH.nil
                    go_simp
                    refine (HF.out p2 _).mono ?_
                    rintro e wE ⟨rfl, hw⟩
                    subst hw
                    refine hK.out _ _ ⟨(bk_go HP0.out HBk.out).cell 0, (bk_go HP0.out HBk.out).cell 1, (bk_go HP0.out HBk.out).cell 2, (bk_go HP0.out HBk.out).cell 3⟩ (fun hS => ?_)
                    clear hK K
                    try simp only [Act.put, List.setIfInBounds_toArray, List.set_cons_zero, List.set_cons_succ]
                    refine wpAnyH_ready (rs := [14]) (by kernel_rfl) (by simp) ?_
                    refine AllReadyH.cons (o := ⟨some 135, Op.call { callee := Callee.value (Operand.func 27), args := #[Operand.tmp 134], argTypes := #[3] }, 3, _, _, none⟩) rfl (fun K hK => ?_) AllReadyH.nil
                    go_simp
                    refine (HT.out p3 _).mono ?_
                    rintro e wE ⟨rfl, hw⟩
                    subst hw
                    refine hK.out _ _ ⟨(bk_go HP0.out HBk.out).cell 0, (bk_go HP0.out HBk.out).cell 1, (bk_go HP0.out HBk.out).cell 2, (bk_go HP0.out HBk.out).cell 3⟩ (fun hS => ?_)
                    clear hK K
                    try simp only [Act.put, List.setIfInBounds_toArray, List.set_cons_zero, List.set_cons_succ]
                    refine wpAnyH_ready (rs := [15]) (by kernel_rfl) (by simp) ?_
                    refine AllReadyH.cons (o := ⟨some 136, Op.call { callee := Callee.value (Operand.func 26), args := #[Operand.tmp 135], argTypes := #[3] }, 3, _, _, none⟩) rfl (fun K hK => ?_) AllReadyH.nil
                    go_simp
                    refine (HF.out p3 _).mono ?_
                    rintro e wE ⟨rfl, hw⟩
                    subst hw
                    refine hK.out _ _ ⟨(bk_go HP0.out HBk.out).cell 0, (bk_go HP0.out HBk.out).cell 1, (bk_go HP0.out HBk.out).cell 2, (bk_go HP0.out HBk.out).cell 3⟩ (fun hS => ?_)
                    clear hK K
                    try simp only [Act.put, List.setIfInBounds_toArray, List.set_cons_zero, List.set_cons_succ]
                    refine wpAnyH_take (i := 16) (oi := ⟨some 137, Op.build 46 #[(0, Operand.tmp 124), (1, Operand.tmp 128), (2, Operand.tmp 132), (3, Operand.tmp 136)], 46, _, _, none⟩) (v := ?v18) rfl (by kernel_rfl) (by kernel_rfl) (by kernel_rfl) (fun _ _ _ h => h) (Or.inl ⟨by rfl, ?y18⟩) hS ?r18
                    case y18 => (intro w hSw; (try dsimp only at hSw); go_simp; try with_reducible rfl)
                    try simp only [Act.put, List.setIfInBounds_toArray, List.set_cons_zero, List.set_cons_succ]
                    have q0 : w1016.cell? ⟨Qn, 0, none⟩ = some (.int .i64 0) := HQ.out.cell 0
                    have z0 := HQ.out.frozen 0
                    have q1 : w1016.cell? ⟨Qn, 1, none⟩ = some (.int .i64 0) := HQ.out.cell 1
                    have z1 := HQ.out.frozen 1
                    have q2 : w1016.cell? ⟨Qn, 2, none⟩ = some (.int .i64 0) := HQ.out.cell 2
                    have z2 := HQ.out.frozen 2
                    have q3 : w1016.cell? ⟨Qn, 3, none⟩ = some (.int .i64 0) := HQ.out.cell 3
                    have z3 := HQ.out.frozen 3
                    refine wpAnyH_ready (rs := [18]) (by kernel_rfl) (by simp) ?_
                    refine AllReadyH.cons (o := ⟨none, Op.store 46 (Operand.tmp 19) (Operand.tmp 137), 0, _, _, none⟩) rfl (fun K hK => ?_) AllReadyH.nil
                    go_simp
                    have HB2 := Lib.hid (below_put (below_put (below_put (below_put (HBk.out) (p := ⟨Qn, 0, none⟩) hQ0 (.int .i64 (f p0))) (p := ⟨Qn, 1, none⟩) hQ0 (.int .i64 (f p1))) (p := ⟨Qn, 2, none⟩) hQ0 (.int .i64 (f p2))) (p := ⟨Qn, 3, none⟩) hQ0 (.int .i64 (f p3)))
                    have HQ2 := Lib.hid ((((HQ.out.put 0 (.int .i64 (f p0))).put 1 (.int .i64 (f p1))).put 2 (.int .i64 (f p2))).put 3 (.int .i64 (f p3)))
                    refine hK.out _ _ ⟨(bk_go HP0.out HB2.out).cell 0, (bk_go HP0.out HB2.out).cell 1, (bk_go HP0.out HB2.out).cell 2, (bk_go HP0.out HB2.out).cell 3⟩ (fun hS => ?_)
                    clear hK K
                    try simp only [Act.put, List.setIfInBounds_toArray, List.set_cons_zero, List.set_cons_succ]
                    refine wpAnyH_done (by kernel_rfl) ?_ _
                    refine NoPanic.normal ?_
                    go_wp2_with fail
                    go_meet
                    case rel => exact ⟨Qn, rfl, HQ2.out, Nat.le_trans HW.out.size hQ0, HW.out.trans (HB2.out.mono HW.out.size)⟩
                · go_simp
                  have HBk2 := Lib.hid (HBk.out.alloc HBk.out.size (.cells #[.int .i64 0, .int .i64 0, .int .i64 0, .int .i64 0] 46))
                  have HQ := Lib.hid (Blk.new w0 46 #[.int .i64 0, .int .i64 0, .int .i64 0, .int .i64 0])
                  obtain ⟨Qn, hQn⟩ : ∃ Qn, Qn = w0.heap.size := ⟨_, rfl⟩
                  have hQ0 : w0.heap.size ≤ Qn := by rw [hQn]; exact HBk.out.size
                  rw [← hQn] at HQ
                  refine hK.out _ _ ⟨(bk_go HP0.out HBk2.out).cell 0, (bk_go HP0.out HBk2.out).cell 1, (bk_go HP0.out HBk2.out).cell 2, (bk_go HP0.out HBk2.out).cell 3⟩ (fun hS => ?_)
                  clear hK K HBk
                  have HBk := HBk2
                  clear HBk2
                  generalize w0.alloc (.cells #[.int .i64 0, .int .i64 0, .int .i64 0, .int .i64 0] 46) = w1018 at *
                  rw [← hQn]
                  clear hQn
                  try simp only [Act.put, List.setIfInBounds_toArray, List.set_cons_zero, List.set_cons_succ]
                  refine wpAnyH_ready (rs := [7]) (by kernel_rfl) (by simp) ?_
                  refine AllReadyH.cons (o := ⟨some 128, Op.call { callee := Callee.value (Operand.func 26), args := #[Operand.tmp 127], argTypes := #[3] }, 3, _, _, none⟩) rfl (fun K hK => ?_) AllReadyH.nil
                  go_simp
                  refine (HF.out p1 _).mono ?_
                  rintro e wE ⟨rfl, hw⟩
                  subst hw
                  refine hK.out _ _ ⟨(bk_go HP0.out HBk.out).cell 0, (bk_go HP0.out HBk.out).cell 1, (bk_go HP0.out HBk.out).cell 2, (bk_go HP0.out HBk.out).cell 3⟩ (fun hS => ?_)
                  clear hK K
                  try simp only [Act.put, List.setIfInBounds_toArray, List.set_cons_zero, List.set_cons_succ]
                  refine wpAnyH_ready (rs := [10]) (by kernel_rfl) (by simp) ?_
                  refine AllReadyH.cons (o := ⟨some 131, Op.call { callee := Callee.value (Operand.func 27), args := #[Operand.tmp 130], argTypes := #[3] }, 3, _, _, none⟩) rfl (fun K hK => ?_) AllReadyH.nil
                  go_simp
                  refine (HT.out p2 _).mono ?_
                  rintro e wE ⟨rfl, hw⟩
                  subst hw
                  refine hK.out _ _ ⟨(bk_go HP0.out HBk.out).cell 0, (bk_go HP0.out HBk.out).cell 1, (bk_go HP0.out HBk.out).cell 2, (bk_go HP0.out HBk.out).cell 3⟩ (fun hS => ?_)
                  clear hK K
                  try simp only [Act.put, List.setIfInBounds_toArray, List.set_cons_zero, List.set_cons_succ]
                  refine wpAnyH_ready (rs := [11]) (by kernel_rfl) (by simp) ?_
                  refine AllReadyH.cons (o := ⟨some 132, Op.call { callee := Callee.value (Operand.func 26), args := #[Operand.tmp 131], argTypes := #[3] }, 3, _, _, none⟩) rfl (fun K hK => ?_) AllReadyH.nil
                  go_simp
                  refine (HF.out p2 _).mono ?_
                  rintro e wE ⟨rfl, hw⟩
                  subst hw
                  refine hK.out _ _ ⟨(bk_go HP0.out HBk.out).cell 0, (bk_go HP0.out HBk.out).cell 1, (bk_go HP0.out HBk.out).cell 2, (bk_go HP0.out HBk.out).cell 3⟩ (fun hS => ?_)
                  clear hK K
                  try simp only [Act.put, List.setIfInBounds_toArray, List.set_cons_zero, List.set_cons_succ]
                  refine wpAnyH_ready (rs := [14]) (by kernel_rfl) (by simp) ?_
                  refine AllReadyH.cons (o := ⟨some 135, Op.call { callee := Callee.value (Operand.func 27), args := #[Operand.tmp 134], argTypes := #[3] }, 3, _, _, none⟩) rfl (fun K hK => ?_) AllReadyH.nil
                  go_simp
                  refine (HT.out p3 _).mono ?_
                  rintro e wE ⟨rfl, hw⟩
                  subst hw
                  refine hK.out _ _ ⟨(bk_go HP0.out HBk.out).cell 0, (bk_go HP0.out HBk.out).cell 1, (bk_go HP0.out HBk.out).cell 2, (bk_go HP0.out HBk.out).cell 3⟩ (fun hS => ?_)
                  clear hK K
                  try simp only [Act.put, List.setIfInBounds_toArray, List.set_cons_zero, List.set_cons_succ]
                  refine wpAnyH_ready (rs := [15]) (by kernel_rfl) (by simp) ?_
                  refine AllReadyH.cons (o := ⟨some 136, Op.call { callee := Callee.value (Operand.func 26), args := #[Operand.tmp 135], argTypes := #[3] }, 3, _, _, none⟩) rfl (fun K hK => ?_) AllReadyH.nil
                  go_simp
                  refine (HF.out p3 _).mono ?_
                  rintro e wE ⟨rfl, hw⟩
                  subst hw
                  refine hK.out _ _ ⟨(bk_go HP0.out HBk.out).cell 0, (bk_go HP0.out HBk.out).cell 1, (bk_go HP0.out HBk.out).cell 2, (bk_go HP0.out HBk.out).cell 3⟩ (fun hS => ?_)
                  clear hK K
                  try simp only [Act.put, List.setIfInBounds_toArray, List.set_cons_zero, List.set_cons_succ]
                  refine wpAnyH_take (i := 16) (oi := ⟨some 137, Op.build 46 #[(0, Operand.tmp 124), (1, Operand.tmp 128), (2, Operand.tmp 132), (3, Operand.tmp 136)], 46, _, _, none⟩) (v := ?v20) rfl (by kernel_rfl) (by kernel_rfl) (by kernel_rfl) (fun _ _ _ h => h) (Or.inl ⟨by rfl, ?y20⟩) hS ?r20
                  case y20 => (intro w hSw; (try dsimp only at hSw); go_simp; try with_reducible rfl)
                  try simp only [Act.put, List.setIfInBounds_toArray, List.set_cons_zero, List.set_cons_succ]
                  have q0 : w1018.cell? ⟨Qn, 0, none⟩ = some (.int .i64 0) := HQ.out.cell 0
                  have z0 := HQ.out.frozen 0
                  have q1 : w1018.cell? ⟨Qn, 1, none⟩ = some (.int .i64 0) := HQ.out.cell 1
                  have z1 := HQ.out.frozen 1
                  have q2 : w1018.cell? ⟨Qn, 2, none⟩ = some (.int .i64 0) := HQ.out.cell 2
                  have z2 := HQ.out.frozen 2
                  have q3 : w1018.cell? ⟨Qn, 3, none⟩ = some (.int .i64 0) := HQ.out.cell 3
                  have z3 := HQ.out.frozen 3
                  refine wpAnyH_ready (rs := [18]) (by kernel_rfl) (by simp) ?_
                  refine AllReadyH.cons (o := ⟨none, Op.store 46 (Operand.tmp 19) (Operand.tmp 137), 0, _, _, none⟩) rfl (fun K hK => ?_) AllReadyH.nil
                  go_simp
                  have HB2 := Lib.hid (below_put (below_put (below_put (below_put (HBk.out) (p := ⟨Qn, 0, none⟩) hQ0 (.int .i64 (f p0))) (p := ⟨Qn, 1, none⟩) hQ0 (.int .i64 (f p1))) (p := ⟨Qn, 2, none⟩) hQ0 (.int .i64 (f p2))) (p := ⟨Qn, 3, none⟩) hQ0 (.int .i64 (f p3)))
                  have HQ2 := Lib.hid ((((HQ.out.put 0 (.int .i64 (f p0))).put 1 (.int .i64 (f p1))).put 2 (.int .i64 (f p2))).put 3 (.int .i64 (f p3)))
                  refine hK.out _ _ ⟨(bk_go HP0.out HB2.out).cell 0, (bk_go HP0.out HB2.out).cell 1, (bk_go HP0.out HB2.out).cell 2, (bk_go HP0.out HB2.out).cell 3⟩ (fun hS => ?_)
                  clear hK K
                  try simp only [Act.put, List.setIfInBounds_toArray, List.set_cons_zero, List.set_cons_succ]
                  refine wpAnyH_done (by kernel_rfl) ?_ _
                  refine NoPanic.normal ?_
                  go_wp2_with fail
                  go_meet
                  case rel => exact ⟨Qn, rfl, HQ2.out, Nat.le_trans HW.out.size hQ0, HW.out.trans (HB2.out.mono HW.out.size)⟩
              · go_simp
                have HBk2 := Lib.hid (HBk.out.alloc HBk.out.size (.cells #[.int .i64 0, .int .i64 0, .int .i64 0, .int .i64 0] 46))
                have HQ := Lib.hid (Blk.new w0 46 #[.int .i64 0, .int .i64 0, .int .i64 0, .int .i64 0])
                obtain ⟨Qn, hQn⟩ : ∃ Qn, Qn = w0.heap.size := ⟨_, rfl⟩
                have hQ0 : w0.heap.size ≤ Qn := by rw [hQn]; exact HBk.out.size
                rw [← hQn] at HQ
                refine hK.out _ _ ⟨(bk_go HP0.out HBk2.out).cell 0, (bk_go HP0.out HBk2.out).cell 1, (bk_go HP0.out HBk2.out).cell 2, (bk_go HP0.out HBk2.out).cell 3⟩ (fun hS => ?_)
                clear hK K HBk
                have HBk := HBk2
                clear HBk2
                generalize w0.alloc (.cells #[.int .i64 0, .int .i64 0, .int .i64 0, .int .i64 0] 46) = w1020 at *
                rw [← hQn]
                clear hQn
                try simp only [Act.put, List.setIfInBounds_toArray, List.set_cons_zero, List.set_cons_succ]
                refine wpAnyH_ready (rs := [6]) (by kernel_rfl) (by simp) ?_
                refine AllReadyH.cons (o := ⟨some 127, Op.call { callee := Callee.value (Operand.func 27), args := #[Operand.tmp 126], argTypes := #[3] }, 3, _, _, none⟩) rfl (fun K hK => ?_) AllReadyH.nil
                go_simp
                refine (HT.out p1 _).mono ?_
                rintro e wE ⟨rfl, hw⟩
                subst hw
                refine hK.out _ _ ⟨(bk_go HP0.out HBk.out).cell 0, (bk_go HP0.out HBk.out).cell 1, (bk_go HP0.out HBk.out).cell 2, (bk_go HP0.out HBk.out).cell 3⟩ (fun hS => ?_)
                clear hK K
                try simp only [Act.put, List.setIfInBounds_toArray, List.set_cons_zero, List.set_cons_succ]
                refine wpAnyH_ready (rs := [7]) (by kernel_rfl) (by simp) ?_
                refine AllReadyH.cons (o := ⟨some 128, Op.call { callee := Callee.value (Operand.func 26), args := #[Operand.tmp 127], argTypes := #[3] }, 3, _, _, none⟩) rfl (fun K hK => ?_) AllReadyH.nil
                go_simp
                refine (HF.out p1 _).mono ?_
                rintro e wE ⟨rfl, hw⟩
                subst hw
                refine hK.out _ _ ⟨(bk_go HP0.out HBk.out).cell 0, (bk_go HP0.out HBk.out).cell 1, (bk_go HP0.out HBk.out).cell 2, (bk_go HP0.out HBk.out).cell 3⟩ (fun hS => ?_)
                clear hK K
                try simp only [Act.put, List.setIfInBounds_toArray, List.set_cons_zero, List.set_cons_succ]
                refine wpAnyH_ready (rs := [10]) (by kernel_rfl) (by simp) ?_
                refine AllReadyH.cons (o := ⟨some 131, Op.call { callee := Callee.value (Operand.func 27), args := #[Operand.tmp 130], argTypes := #[3] }, 3, _, _, none⟩) rfl (fun K hK => ?_) AllReadyH.nil
                go_simp
                refine (HT.out p2 _).mono ?_
                rintro e wE ⟨rfl, hw⟩
                subst hw
                refine hK.out _ _ ⟨(bk_go HP0.out HBk.out).cell 0, (bk_go HP0.out HBk.out).cell 1, (bk_go HP0.out HBk.out).cell 2, (bk_go HP0.out HBk.out).cell 3⟩ (fun hS => ?_)
                clear hK K
                try simp only [Act.put, List.setIfInBounds_toArray, List.set_cons_zero, List.set_cons_succ]
                refine wpAnyH_ready (rs := [11]) (by kernel_rfl) (by simp) ?_
                refine AllReadyH.cons (o := ⟨some 132, Op.call { callee := Callee.value (Operand.func 26), args := #[Operand.tmp 131], argTypes := #[3] }, 3, _, _, none⟩) rfl (fun K hK => ?_) AllReadyH.nil
                go_simp
                refine (HF.out p2 _).mono ?_
                rintro e wE ⟨rfl, hw⟩
                subst hw
                refine hK.out _ _ ⟨(bk_go HP0.out HBk.out).cell 0, (bk_go HP0.out HBk.out).cell 1, (bk_go HP0.out HBk.out).cell 2, (bk_go HP0.out HBk.out).cell 3⟩ (fun hS => ?_)
                clear hK K
                try simp only [Act.put, List.setIfInBounds_toArray, List.set_cons_zero, List.set_cons_succ]
                refine wpAnyH_ready (rs := [14]) (by kernel_rfl) (by simp) ?_
                refine AllReadyH.cons (o := ⟨some 135, Op.call { callee := Callee.value (Operand.func 27), args := #[Operand.tmp 134], argTypes := #[3] }, 3, _, _, none⟩) rfl (fun K hK => ?_) AllReadyH.nil
                go_simp
                refine (HT.out p3 _).mono ?_
                rintro e wE ⟨rfl, hw⟩
                subst hw
                refine hK.out _ _ ⟨(bk_go HP0.out HBk.out).cell 0, (bk_go HP0.out HBk.out).cell 1, (bk_go HP0.out HBk.out).cell 2, (bk_go HP0.out HBk.out).cell 3⟩ (fun hS => ?_)
                clear hK K
                try simp only [Act.put, List.setIfInBounds_toArray, List.set_cons_zero, List.set_cons_succ]
                refine wpAnyH_ready (rs := [15]) (by kernel_rfl) (by simp) ?_
                refine AllReadyH.cons (o := ⟨some 136, Op.call { callee := Callee.value (Operand.func 26), args := #[Operand.tmp 135], argTypes := #[3] }, 3, _, _, none⟩) rfl (fun K hK => ?_) AllReadyH.nil
                go_simp
                refine (HF.out p3 _).mono ?_
                rintro e wE ⟨rfl, hw⟩
                subst hw
                refine hK.out _ _ ⟨(bk_go HP0.out HBk.out).cell 0, (bk_go HP0.out HBk.out).cell 1, (bk_go HP0.out HBk.out).cell 2, (bk_go HP0.out HBk.out).cell 3⟩ (fun hS => ?_)
                clear hK K
                try simp only [Act.put, List.setIfInBounds_toArray, List.set_cons_zero, List.set_cons_succ]
                refine wpAnyH_take (i := 16) (oi := ⟨some 137, Op.build 46 #[(0, Operand.tmp 124), (1, Operand.tmp 128), (2, Operand.tmp 132), (3, Operand.tmp 136)], 46, _, _, none⟩) (v := ?v22) rfl (by kernel_rfl) (by kernel_rfl) (by kernel_rfl) (fun _ _ _ h => h) (Or.inl ⟨by rfl, ?y22⟩) hS ?r22
                case y22 => (intro w hSw; (try dsimp only at hSw); go_simp; try with_reducible rfl)
                try simp only [Act.put, List.setIfInBounds_toArray, List.set_cons_zero, List.set_cons_succ]
                have q0 : w1020.cell? ⟨Qn, 0, none⟩ = some (.int .i64 0) := HQ.out.cell 0
                have z0 := HQ.out.frozen 0
                have q1 : w1020.cell? ⟨Qn, 1, none⟩ = some (.int .i64 0) := HQ.out.cell 1
                have z1 := HQ.out.frozen 1
                have q2 : w1020.cell? ⟨Qn, 2, none⟩ = some (.int .i64 0) := HQ.out.cell 2
                have z2 := HQ.out.frozen 2
                have q3 : w1020.cell? ⟨Qn, 3, none⟩ = some (.int .i64 0) := HQ.out.cell 3
                have z3 := HQ.out.frozen 3
                refine wpAnyH_ready (rs := [18]) (by kernel_rfl) (by simp) ?_
                refine AllReadyH.cons (o := ⟨none, Op.store 46 (Operand.tmp 19) (Operand.tmp 137), 0, _, _, none⟩) rfl (fun K hK => ?_) AllReadyH.nil
                go_simp
                have HB2 := Lib.hid (below_put (below_put (below_put (below_put (HBk.out) (p := ⟨Qn, 0, none⟩) hQ0 (.int .i64 (f p0))) (p := ⟨Qn, 1, none⟩) hQ0 (.int .i64 (f p1))) (p := ⟨Qn, 2, none⟩) hQ0 (.int .i64 (f p2))) (p := ⟨Qn, 3, none⟩) hQ0 (.int .i64 (f p3)))
                have HQ2 := Lib.hid ((((HQ.out.put 0 (.int .i64 (f p0))).put 1 (.int .i64 (f p1))).put 2 (.int .i64 (f p2))).put 3 (.int .i64 (f p3)))
                refine hK.out _ _ ⟨(bk_go HP0.out HB2.out).cell 0, (bk_go HP0.out HB2.out).cell 1, (bk_go HP0.out HB2.out).cell 2, (bk_go HP0.out HB2.out).cell 3⟩ (fun hS => ?_)
                clear hK K
                try simp only [Act.put, List.setIfInBounds_toArray, List.set_cons_zero, List.set_cons_succ]
                refine wpAnyH_done (by kernel_rfl) ?_ _
                refine NoPanic.normal ?_
                go_wp2_with fail
                go_meet
                case rel => exact ⟨Qn, rfl, HQ2.out, Nat.le_trans HW.out.size hQ0, HW.out.trans (HB2.out.mono HW.out.size)⟩
            · go_simp
              have HBk2 := Lib.hid (HBk.out.alloc HBk.out.size (.cells #[.int .i64 0, .int .i64 0, .int .i64 0, .int .i64 0] 46))
              have HQ := Lib.hid (Blk.new w0 46 #[.int .i64 0, .int .i64 0, .int .i64 0, .int .i64 0])
              obtain ⟨Qn, hQn⟩ : ∃ Qn, Qn = w0.heap.size := ⟨_, rfl⟩
              have hQ0 : w0.heap.size ≤ Qn := by rw [hQn]; exact HBk.out.size
              rw [← hQn] at HQ
              refine hK.out _ _ ⟨(bk_go HP0.out HBk2.out).cell 0, (bk_go HP0.out HBk2.out).cell 1, (bk_go HP0.out HBk2.out).cell 2, (bk_go HP0.out HBk2.out).cell 3⟩ (fun hS => ?_)
              clear hK K HBk
              have HBk := HBk2
              clear HBk2
              generalize w0.alloc (.cells #[.int .i64 0, .int .i64 0, .int .i64 0, .int .i64 0] 46) = w1022 at *
              rw [← hQn]
              clear hQn
              try simp only [Act.put, List.setIfInBounds_toArray, List.set_cons_zero, List.set_cons_succ]
              refine wpAnyH_ready (rs := [3]) (by kernel_rfl) (by simp) ?_
              refine AllReadyH.cons (o := ⟨some 124, Op.call { callee := Callee.value (Operand.func 26), args := #[Operand.tmp 123], argTypes := #[3] }, 3, _, _, none⟩) rfl (fun K hK => ?_) AllReadyH.nil
              go_simp
              refine (HF.out p0 _).mono ?_
              rintro e wE ⟨rfl, hw⟩
              subst hw
              refine hK.out _ _ ⟨(bk_go HP0.out HBk.out).cell 0, (bk_go HP0.out HBk.out).cell 1, (bk_go HP0.out HBk.out).cell 2, (bk_go HP0.out HBk.out).cell 3⟩ (fun hS => ?_)
              clear hK K
              try simp only [Act.put, List.setIfInBounds_toArray, List.set_cons_zero, List.set_cons_succ]
              refine wpAnyH_ready (rs := [6]) (by kernel_rfl) (by simp) ?_
              refine AllReadyH.cons (o := ⟨some 127, Op.call { callee := Callee.value (Operand.func 27), args := #[Operand.tmp 126], argTypes := #[3] }, 3, _, _, none⟩) rfl (fun K hK => ?_) AllReadyH.nil
              go_simp
              refine (HT.out p1 _).mono ?_
              rintro e wE ⟨rfl, hw⟩
              subst hw
              refine hK.out _ _ ⟨(bk_go HP0.out HBk.out).cell 0, (bk_go HP0.out HBk.out).cell 1, (bk_go HP0.out HBk.out).cell 2, (bk_go HP0.out HBk.out).cell 3⟩ (fun hS => ?_)
              clear hK K
              try simp only [Act.put, List.setIfInBounds_toArray, List.set_cons_zero, List.set_cons_succ]
              refine wpAnyH_ready (rs := [7]) (by kernel_rfl) (by simp) ?_
              refine AllReadyH.cons (o := ⟨some 128, Op.call { callee := Callee.value (Operand.func 26), args := #[Operand.tmp 127], argTypes := #[3] }, 3, _, _, none⟩) rfl (fun K hK => ?_) AllReadyH.nil
              go_simp
              refine (HF.out p1 _).mono ?_
              rintro e wE ⟨rfl, hw⟩
              subst hw
              refine hK.out _ _ ⟨(bk_go HP0.out HBk.out).cell 0, (bk_go HP0.out HBk.out).cell 1, (bk_go HP0.out HBk.out).cell 2, (bk_go HP0.out HBk.out).cell 3⟩ (fun hS => ?_)
              clear hK K
              try simp only [Act.put, List.setIfInBounds_toArray, List.set_cons_zero, List.set_cons_succ]
              refine wpAnyH_ready (rs := [10]) (by kernel_rfl) (by simp) ?_
              refine AllReadyH.cons (o := ⟨some 131, Op.call { callee := Callee.value (Operand.func 27), args := #[Operand.tmp 130], argTypes := #[3] }, 3, _, _, none⟩) rfl (fun K hK => ?_) AllReadyH.nil
              go_simp
              refine (HT.out p2 _).mono ?_
              rintro e wE ⟨rfl, hw⟩
              subst hw
              refine hK.out _ _ ⟨(bk_go HP0.out HBk.out).cell 0, (bk_go HP0.out HBk.out).cell 1, (bk_go HP0.out HBk.out).cell 2, (bk_go HP0.out HBk.out).cell 3⟩ (fun hS => ?_)
              clear hK K
              try simp only [Act.put, List.setIfInBounds_toArray, List.set_cons_zero, List.set_cons_succ]
              refine wpAnyH_ready (rs := [11]) (by kernel_rfl) (by simp) ?_
              refine AllReadyH.cons (o := ⟨some 132, Op.call { callee := Callee.value (Operand.func 26), args := #[Operand.tmp 131], argTypes := #[3] }, 3, _, _, none⟩) rfl (fun K hK => ?_) AllReadyH.nil
              go_simp
              refine (HF.out p2 _).mono ?_
              rintro e wE ⟨rfl, hw⟩
              subst hw
              refine hK.out _ _ ⟨(bk_go HP0.out HBk.out).cell 0, (bk_go HP0.out HBk.out).cell 1, (bk_go HP0.out HBk.out).cell 2, (bk_go HP0.out HBk.out).cell 3⟩ (fun hS => ?_)
              clear hK K
              try simp only [Act.put, List.setIfInBounds_toArray, List.set_cons_zero, List.set_cons_succ]
              refine wpAnyH_ready (rs := [14]) (by kernel_rfl) (by simp) ?_
              refine AllReadyH.cons (o := ⟨some 135, Op.call { callee := Callee.value (Operand.func 27), args := #[Operand.tmp 134], argTypes := #[3] }, 3, _, _, none⟩) rfl (fun K hK => ?_) AllReadyH.nil
              go_simp
              refine (HT.out p3 _).mono ?_
              rintro e wE ⟨rfl, hw⟩
              subst hw
              refine hK.out _ _ ⟨(bk_go HP0.out HBk.out).cell 0, (bk_go HP0.out HBk.out).cell 1, (bk_go HP0.out HBk.out).cell 2, (bk_go HP0.out HBk.out).cell 3⟩ (fun hS => ?_)
              clear hK K
              try simp only [Act.put, List.setIfInBounds_toArray, List.set_cons_zero, List.set_cons_succ]
              refine wpAnyH_ready (rs := [15]) (by kernel_rfl) (by simp) ?_
              refine AllReadyH.cons (o := ⟨some 136, Op.call { callee := Callee.value (Operand.func 26), args := #[Operand.tmp 135], argTypes := #[3] }, 3, _, _, none⟩) rfl (fun K hK => ?_) AllReadyH.nil
              go_simp
              refine (HF.out p3 _).mono ?_
              rintro e wE ⟨rfl, hw⟩
              subst hw
              refine hK.out _ _ ⟨(bk_go HP0.out HBk.out).cell 0, (bk_go HP0.out HBk.out).cell 1, (bk_go HP0.out HBk.out).cell 2, (bk_go HP0.out HBk.out).cell 3⟩ (fun hS => ?_)
              clear hK K
              try simp only [Act.put, List.setIfInBounds_toArray, List.set_cons_zero, List.set_cons_succ]
              refine wpAnyH_take (i := 16) (oi := ⟨some 137, Op.build 46 #[(0, Operand.tmp 124), (1, Operand.tmp 128), (2, Operand.tmp 132), (3, Operand.tmp 136)], 46, _, _, none⟩) (v := ?v24) rfl (by kernel_rfl) (by kernel_rfl) (by kernel_rfl) (fun _ _ _ h => h) (Or.inl ⟨by rfl, ?y24⟩) hS ?r24
              case y24 => (intro w hSw; (try dsimp only at hSw); go_simp; try with_reducible rfl)
              try simp only [Act.put, List.setIfInBounds_toArray, List.set_cons_zero, List.set_cons_succ]
              have q0 : w1022.cell? ⟨Qn, 0, none⟩ = some (.int .i64 0) := HQ.out.cell 0
              have z0 := HQ.out.frozen 0
              have q1 : w1022.cell? ⟨Qn, 1, none⟩ = some (.int .i64 0) := HQ.out.cell 1
              have z1 := HQ.out.frozen 1
              have q2 : w1022.cell? ⟨Qn, 2, none⟩ = some (.int .i64 0) := HQ.out.cell 2
              have z2 := HQ.out.frozen 2
              have q3 : w1022.cell? ⟨Qn, 3, none⟩ = some (.int .i64 0) := HQ.out.cell 3
              have z3 := HQ.out.frozen 3
              refine wpAnyH_ready (rs := [18]) (by kernel_rfl) (by simp) ?_
              refine AllReadyH.cons (o := ⟨none, Op.store 46 (Operand.tmp 19) (Operand.tmp 137), 0, _, _, none⟩) rfl (fun K hK => ?_) AllReadyH.nil
              go_simp
              have HB2 := Lib.hid (below_put (below_put (below_put (below_put (HBk.out) (p := ⟨Qn, 0, none⟩) hQ0 (.int .i64 (f p0))) (p := ⟨Qn, 1, none⟩) hQ0 (.int .i64 (f p1))) (p := ⟨Qn, 2, none⟩) hQ0 (.int .i64 (f p2))) (p := ⟨Qn, 3, none⟩) hQ0 (.int .i64 (f p3)))
              have HQ2 := Lib.hid ((((HQ.out.put 0 (.int .i64 (f p0))).put 1 (.int .i64 (f p1))).put 2 (.int .i64 (f p2))).put 3 (.int .i64 (f p3)))
              refine hK.out _ _ ⟨(bk_go HP0.out HB2.out).cell 0, (bk_go HP0.out HB2.out).cell 1, (bk_go HP0.out HB2.out).cell 2, (bk_go HP0.out HB2.out).cell 3⟩ (fun hS => ?_)
              clear hK K
              try simp only [Act.put, List.setIfInBounds_toArray, List.set_cons_zero, List.set_cons_succ]
              refine wpAnyH_done (by kernel_rfl) ?_ _
              refine NoPanic.normal ?_
              go_wp2_with fail
              go_meet
              case rel => exact ⟨Qn, rfl, HQ2.out, Nat.le_trans HW.out.size hQ0, HW.out.trans (HB2.out.mono HW.out.size)⟩
          · go_simp
            have HBk2 := Lib.hid (HBk.out.alloc HBk.out.size (.cells #[.int .i64 0, .int .i64 0, .int .i64 0, .int .i64 0] 46))
            have HQ := Lib.hid (Blk.new w0 46 #[.int .i64 0, .int .i64 0, .int .i64 0, .int .i64 0])
            obtain ⟨Qn, hQn⟩ : ∃ Qn, Qn = w0.heap.size := ⟨_, rfl⟩
            have hQ0 : w0.heap.size ≤ Qn := by rw [hQn]; exact HBk.out.size
            rw [← hQn] at HQ
            refine hK.out _ _ ⟨(bk_go HP0.out HBk2.out).cell 0, (bk_go HP0.out HBk2.out).cell 1, (bk_go HP0.out HBk2.out).cell 2, (bk_go HP0.out HBk2.out).cell 3⟩ (fun hS => ?_)
            clear hK K HBk
            have HBk := HBk2
            clear HBk2
            generalize w0.alloc (.cells #[.int .i64 0, .int .i64 0, .int .i64 0, .int .i64 0] 46) = w1024 at *
            rw [← hQn]
            clear hQn
            try simp only [Act.put, List.setIfInBounds_toArray, List.set_cons_zero, List.set_cons_succ]
            refine wpAnyH_ready (rs := [2]) (by kernel_rfl) (by simp) ?_
            refine AllReadyH.cons (o := ⟨some 123, Op.call { callee := Callee.value (Operand.func 27), args := #[Operand.tmp 122], argTypes := #[3] }, 3, _, _, none⟩) rfl (fun K hK => ?_) AllReadyH.nil
            go_simp
            refine (HT.out p0 _).mono ?_
            rintro e wE ⟨rfl, hw⟩
            subst hw
            refine hK.out _ _ ⟨(bk_go HP0.out HBk.out).cell 0, (bk_go HP0.out HBk.out).cell 1, (bk_go HP0.out HBk.out).cell 2, (bk_go HP0.out HBk.out).cell 3⟩ (fun hS => ?_)
            clear hK K
            try simp only [Act.put, List.setIfInBounds_toArray, List.set_cons_zero, List.set_cons_succ]
            refine wpAnyH_ready (rs := [3]) (by kernel_rfl) (by simp) ?_
            refine AllReadyH.cons (o := ⟨some 124, Op.call { callee := Callee.value (Operand.func 26), args := #[Operand.tmp 123], argTypes := #[3] }, 3, _, _, none⟩) rfl (fun K hK => ?_) AllReadyH.nil
            go_simp
            refine (HF.out p0 _).mono ?_
            rintro e wE ⟨rfl, hw⟩
            subst hw
            refine hK.out _ _ ⟨(bk_go HP0.out HBk.out).cell 0, (bk_go HP0.out HBk.out).cell 1, (bk_go HP0.out HBk.out).cell 2, (bk_go HP0.out HBk.out).cell 3⟩ (fun hS => ?_)
            clear hK K
            try simp only [Act.put, List.setIfInBounds_toArray, List.set_cons_zero, List.set_cons_succ]
            refine wpAnyH_ready (rs := [6]) (by kernel_rfl) (by simp) ?_
            refine AllReadyH.cons (o := ⟨some 127, Op.call { callee := Callee.value (Operand.func 27), args := #[Operand.tmp 126], argTypes := #[3] }, 3, _, _, none⟩) rfl (fun K hK => ?_) AllReadyH.nil
            go_simp
            refine (HT.out p1 _).mono ?_
            rintro e wE ⟨rfl, hw⟩
            subst hw
            refine hK.out _ _ ⟨(bk_go HP0.out HBk.out).cell 0, (bk_go HP0.out HBk.out).cell 1, (bk_go HP0.out HBk.out).cell 2, (bk_go HP0.out HBk.out).cell 3⟩ (fun hS => ?_)
            clear hK K
            try simp only [Act.put, List.setIfInBounds_toArray, List.set_cons_zero, List.set_cons_succ]
            refine wpAnyH_ready (rs := [7]) (by kernel_rfl) (by simp) ?_
            refine AllReadyH.cons (o := ⟨some 128, Op.call { callee := Callee.value (Operand.func 26), args := #[Operand.tmp 127], argTypes := #[3] }, 3, _, _, none⟩) rfl (fun K hK => ?_) AllReadyH.nil
            go_simp
            refine (HF.out p1 _).mono ?_
            rintro e wE ⟨rfl, hw⟩
            subst hw
            refine hK.out _ _ ⟨(bk_go HP0.out HBk.out).cell 0, (bk_go HP0.out HBk.out).cell 1, (bk_go HP0.out HBk.out).cell 2, (bk_go HP0.out HBk.out).cell 3⟩ (fun hS => ?_)
            clear hK K
            try simp only [Act.put, List.setIfInBounds_toArray, List.set_cons_zero, List.set_cons_succ]
            refine wpAnyH_ready (rs := [10]) (by kernel_rfl) (by simp) ?_
            refine AllReadyH.cons (o := ⟨some 131, Op.call { callee := Callee.value (Operand.func 27), args := #[Operand.tmp 130], argTypes := #[3] }, 3, _, _, none⟩) rfl (fun K hK => ?_) AllReadyH.nil
            go_simp
            refine (HT.out p2 _).mono ?_
            rintro e wE ⟨rfl, hw⟩
            subst hw
            refine hK.out _ _ ⟨(bk_go HP0.out HBk.out).cell 0, (bk_go HP0.out HBk.out).cell 1, (bk_go HP0.out HBk.out).cell 2, (bk_go HP0.out HBk.out).cell 3⟩ (fun hS => ?_)
            clear hK K
            try simp only [Act.put, List.setIfInBounds_toArray, List.set_cons_zero, List.set_cons_succ]
            refine wpAnyH_ready (rs := [11]) (by kernel_rfl) (by simp) ?_
            refine AllReadyH.cons (o := ⟨some 132, Op.call { callee := Callee.value (Operand.func 26), args := #[Operand.tmp 131], argTypes := #[3] }, 3, _, _, none⟩) rfl (fun K hK => ?_) AllReadyH.nil
            go_simp
            refine (HF.out p2 _).mono ?_
            rintro e wE ⟨rfl, hw⟩
            subst hw
            refine hK.out _ _ ⟨(bk_go HP0.out HBk.out).cell 0, (bk_go HP0.out HBk.out).cell 1, (bk_go HP0.out HBk.out).cell 2, (bk_go HP0.out HBk.out).cell 3⟩ (fun hS => ?_)
            clear hK K
            try simp only [Act.put, List.setIfInBounds_toArray, List.set_cons_zero, List.set_cons_succ]
            refine wpAnyH_ready (rs := [14]) (by kernel_rfl) (by simp) ?_
            refine AllReadyH.cons (o := ⟨some 135, Op.call { callee := Callee.value (Operand.func 27), args := #[Operand.tmp 134], argTypes := #[3] }, 3, _, _, none⟩) rfl (fun K hK => ?_) AllReadyH.nil
            go_simp
            refine (HT.out p3 _).mono ?_
            rintro e wE ⟨rfl, hw⟩
            subst hw
            refine hK.out _ _ ⟨(bk_go HP0.out HBk.out).cell 0, (bk_go HP0.out HBk.out).cell 1, (bk_go HP0.out HBk.out).cell 2, (bk_go HP0.out HBk.out).cell 3⟩ (fun hS => ?_)
            clear hK K
            try simp only [Act.put, List.setIfInBounds_toArray, List.set_cons_zero, List.set_cons_succ]
            refine wpAnyH_ready (rs := [15]) (by kernel_rfl) (by simp) ?_
            refine AllReadyH.cons (o := ⟨some 136, Op.call { callee := Callee.value (Operand.func 26), args := #[Operand.tmp 135], argTypes := #[3] }, 3, _, _, none⟩) rfl (fun K hK => ?_) AllReadyH.nil
            go_simp
            refine (HF.out p3 _).mono ?_
            rintro e wE ⟨rfl, hw⟩
            subst hw
            refine hK.out _ _ ⟨(bk_go HP0.out HBk.out).cell 0, (bk_go HP0.out HBk.out).cell 1, (bk_go HP0.out HBk.out).cell 2, (bk_go HP0.out HBk.out).cell 3⟩ (fun hS => ?_)
            clear hK K
            try simp only [Act.put, List.setIfInBounds_toArray, List.set_cons_zero, List.set_cons_succ]
            refine wpAnyH_take (i := 16) (oi := ⟨some 137, Op.build 46 #[(0, Operand.tmp 124), (1, Operand.tmp 128), (2, Operand.tmp 132), (3, Operand.tmp 136)], 46, _, _, none⟩) (v := ?v26) rfl (by kernel_rfl) (by kernel_rfl) (by kernel_rfl) (fun _ _ _ h => h) (Or.inl ⟨by rfl, ?y26⟩) hS ?r26
            case y26 => (intro w hSw; (try dsimp only at hSw); go_simp; try with_reducible rfl)
            try simp only [Act.put, List.setIfInBounds_toArray, List.set_cons_zero, List.set_cons_succ]
            have q0 : w1024.cell? ⟨Qn, 0, none⟩ = some (.int .i64 0) := HQ.out.cell 0
            have z0 := HQ.out.frozen 0
            have q1 : w1024.cell? ⟨Qn, 1, none⟩ = some (.int .i64 0) := HQ.out.cell 1
            have z1 := HQ.out.frozen 1
            have q2 : w1024.cell? ⟨Qn, 2, none⟩ = some (.int .i64 0) := HQ.out.cell 2
            have z2 := HQ.out.frozen 2
            have q3 : w1024.cell? ⟨Qn, 3, none⟩ = some (.int .i64 0) := HQ.out.cell 3
            have z3 := HQ.out.frozen 3
            refine wpAnyH_ready (rs := [18]) (by kernel_rfl) (by simp) ?_
            refine AllReadyH.cons (o := ⟨none, Op.store 46 (Operand.tmp 19) (Operand.tmp 137), 0, _, _, none⟩) rfl (fun K hK => ?_) AllReadyH.nil
            go_simp
            have HB2 := Lib.hid (below_put (below_put (below_put (below_put (HBk.out) (p := ⟨Qn, 0, none⟩) hQ0 (.int .i64 (f p0))) (p := ⟨Qn, 1, none⟩) hQ0 (.int .i64 (f p1))) (p := ⟨Qn, 2, none⟩) hQ0 (.int .i64 (f p2))) (p := ⟨Qn, 3, none⟩) hQ0 (.int .i64 (f p3)))
            have HQ2 := Lib.hid ((((HQ.out.put 0 (.int .i64 (f p0))).put 1 (.int .i64 (f p1))).put 2 (.int .i64 (f p2))).put 3 (.int .i64 (f p3)))
            refine hK.out _ _ ⟨(bk_go HP0.out HB2.out).cell 0, (bk_go HP0.out HB2.out).cell 1, (bk_go HP0.out HB2.out).cell 2, (bk_go HP0.out HB2.out).cell 3⟩ (fun hS => ?_)
            clear hK K
            try simp only [Act.put, List.setIfInBounds_toArray, List.set_cons_zero, List.set_cons_succ]
            refine wpAnyH_done (by kernel_rfl) ?_ _
            refine NoPanic.normal ?_
            go_wp2_with fail
            go_meet
            case rel => exact ⟨Qn, rfl, HQ2.out, Nat.le_trans HW.out.size hQ0, HW.out.trans (HB2.out.mono HW.out.size)⟩
        case rest =>
          obtain ⟨Q, rfl, HQ, hQw, HBc⟩ := hcut
          clear v0 v1 v2 v3
          have HBV : Hid (Z ≤ w10.heap.size) := by have := HZR.out; show _ ≤ _; omega
          have s3 : wc.cell? ⟨Q, 3, none⟩ = some (.int .i64 (f p3)) := HQ.out.cell 3
          by_cases hz : f p3 = 0
          · have eq0 : (f p3 == 0) = true := by simp [hz]
            have HQZ : Hid (backT 8 (p0, p1, p2, p3) = (0, 0, 0, 0)) := by show _ = _; unfold backT; rw [if_neg (by decide), if_pos (by have := HFE.out p3; show to8I p3 = 0; omega)]
            have s0 : wc.cell? ⟨Q, 0, none⟩ = some (.int .i64 (f p0)) := HQ.out.cell 0
            have s1 : wc.cell? ⟨Q, 1, none⟩ = some (.int .i64 (f p1)) := HQ.out.cell 1
            have s2 : wc.cell? ⟨Q, 2, none⟩ = some (.int .i64 (f p2)) := HQ.out.cell 2
            have z0 := HQ.out.frozen 0
            have z1 := HQ.out.frozen 1
            have z2 := HQ.out.frozen 2
            have z3 := HQ.out.frozen 3
            have HBd := Lib.hid (below_put (below_put (below_put (below_put HBc.out (p := ⟨Q, 0, none⟩) hQw.out (.int .i64 0)) (p := ⟨Q, 1, none⟩) hQw.out (.int .i64 0)) (p := ⟨Q, 2, none⟩) hQw.out (.int .i64 0)) (p := ⟨Q, 3, none⟩) hQw.out (.int .i64 0))
            have HQd : Hid (Blk ((((wc.setCell ⟨Q, 0, none⟩ (.int .i64 0)).setCell ⟨Q, 1, none⟩ (.int .i64 0)).setCell ⟨Q, 2, none⟩ (.int .i64 0)).setCell ⟨Q, 3, none⟩ (.int .i64 0)) Q 46 #[.int .i64 0, .int .i64 0, .int .i64 0, .int .i64 0]) := (((HQ.out.put 0 (.int .i64 0)).put 1 (.int .i64 0)).put 2 (.int .i64 0)).put 3 (.int .i64 0)
            clear hz
            go_upto_region 16 with fail
            clear s0 s1 s2 s3 z0 z1 z2 z3 eq0
            generalize (((wc.setCell ⟨Q, 0, none⟩ (.int .i64 0)).setCell ⟨Q, 1, none⟩ (.int .i64 0)).setCell ⟨Q, 2, none⟩ (.int .i64 0)).setCell ⟨Q, 3, none⟩ (.int .i64 0) = wd at *
            have HBD : Hid (Below Z w9 wd) := HBE4.out.trans (HBd.out.mono HBV.out)
            obtain ⟨g2, o2, rfl, r0, r1, r2, r3⟩ := HP8.out wd HBD.out
            have b2 : wd.cell? ⟨K, 2, none⟩ = some (.slice (some ⟨g2, o2, none⟩) _ cc) := (HBD.out.cell (p := ⟨K, 2, none⟩) HBZ.out.2).trans (HI9.out.cell 2)
            rw [HQZ.out] at r0 r1 r2 r3
            simp only at r0 r1 r2 r3
            have t0 : wd.cell? ⟨Q, 0, none⟩ = some (.int .i64 0) := HQd.out.cell 0
            have t1 : wd.cell? ⟨Q, 1, none⟩ = some (.int .i64 0) := HQd.out.cell 1
            have t2 : wd.cell? ⟨Q, 2, none⟩ = some (.int .i64 0) := HQd.out.cell 2
            have t3 : wd.cell? ⟨Q, 3, none⟩ = some (.int .i64 0) := HQd.out.cell 3
            have heq : ∀ w, (Op.equalIn 10000 46 (.agg #[.int .i64 0, .int .i64 0, .int .i64 0, .int .i64 0]) (.agg #[.int .i64 0, .int .i64 0, .int .i64 0, .int .i64 0])).run Try.prog w = .ok true w := fun w => (eqPx (0, 0, 0, 0) (0, 0, 0, 0) w).trans (by simp)
            clear HP8
            go_wp2_with fail
            go_quiet (fail)
            have hbn := Lib.hid (below_drewN HBD.out nq)
            clear r0 r1 r2 r3 t0 t1 t2 t3 b2 heq
            go_wp2_with fail
            go_roundw
            case rel => exact ⟨i + 1, by go_num, by omega, hbn⟩
            case measure => simp [intOf]; omega
          · have eq0 : (f p3 == 0) = false := by simpa using hz
            have HQZ : Hid (backT 8 (p0, p1, p2, p3) = (f p0, f p1, f p2, f p3)) := by show _ = _; unfold backT; rw [if_neg (by decide), if_neg (by have := HFE.out p3; show ¬ to8I p3 = 0; omega), HFE.out, HFE.out, HFE.out, HFE.out]
            clear hz
            go_upto_region 16 with fail
            clear s3 eq0
            have HBD : Hid (Below Z w9 wc) := HBE4.out.trans (HBc.out.mono HBV.out)
            obtain ⟨g2, o2, rfl, r0, r1, r2, r3⟩ := HP8.out wc HBD.out
            have b2 : wc.cell? ⟨K, 2, none⟩ = some (.slice (some ⟨g2, o2, none⟩) _ cc) := (HBD.out.cell (p := ⟨K, 2, none⟩) HBZ.out.2).trans (HI9.out.cell 2)
            rw [HQZ.out] at r0 r1 r2 r3
            simp only at r0 r1 r2 r3
            have t0 : wc.cell? ⟨Q, 0, none⟩ = some (.int .i64 (f p0)) := HQ.out.cell 0
            have t1 : wc.cell? ⟨Q, 1, none⟩ = some (.int .i64 (f p1)) := HQ.out.cell 1
            have t2 : wc.cell? ⟨Q, 2, none⟩ = some (.int .i64 (f p2)) := HQ.out.cell 2
            have t3 : wc.cell? ⟨Q, 3, none⟩ = some (.int .i64 (f p3)) := HQ.out.cell 3
            have heq : ∀ w, (Op.equalIn 10000 46 (.agg #[.int .i64 (f p0), .int .i64 (f p1), .int .i64 (f p2), .int .i64 (f p3)]) (.agg #[.int .i64 (f p0), .int .i64 (f p1), .int .i64 (f p2), .int .i64 (f p3)])).run Try.prog w = .ok true w := fun w => (eqPx ((f p0), (f p1), (f p2), (f p3)) ((f p0), (f p1), (f p2), (f p3)) w).trans (by simp)
            clear HP8
            go_wp2_with fail
            go_quiet (fail)
            have hbn := Lib.hid (below_drewN HBD.out nq)
            clear r0 r1 r2 r3 t0 t1 t2 t3 b2 heq
            go_wp2_with fail
            go_roundw
            case rel => exact ⟨i + 1, by go_num, by omega, hbn⟩
            case measure => simp [intOf]; omega
      · have dlt : decide ((i : Int) < (n : Int)) = false := by simp; omega
        have HZ9 : Hid (B ≤ Z) := Nat.le_of_lt HBZ.out.1
        have HBr : Hid (Below B w wr) := HB9.out.trans (hbw.out.mono HZ9.out)
        have HSr : Hid (B ≤ wr.heap.size) := Nat.le_trans HZ9.out (by rw [← HZ.out]; exact hbw.out.size)
        go_wp2_with fail
        refine (HAW.out _).mono ?_
        rintro e w11 ⟨rfl, hb11⟩
        have HB11 : Hid (Below B w w11) := HBr.out.trans (hb11.mono HSr.out)
        clear hb11
        go_wp2_with fail
        go_ret
        exact ⟨rfl, by rw [HBB.out]; exact HB11.out⟩
end Go.Proofs.Ytakileiomgaahaa
