/-
  Walks: the CRC-32 of the program is the plain one.
-/
import Derived.Test.YthbejefodelpkaaGreatProg
import Derived.Test.YthbejefodelpkaaGreatZA
import Derived.Test.YthbejefodelpkaaGreatZV
import Derived.Deep.Cut
import Derived.Deep.CutBlock
import Derived.Deep.CutRange
import Derived.Deep.RegionWith
import Derived.Deep.RegionHeld3
import Derived.Deep.RegionLaw
import Derived.StillTailTactics
import Derived.Outline
import Derived.Great.Walk
import Derived.Great.BuildSlice
import Derived.BigQuiet
namespace Go.Proofs.YthbejefodelpkaaGreat
open Go.RowKit
set_option maxRecDepth 100000

def tabT (i : Nat) : Array Value := ((List.range 256).map fun k => Value.int .u32 (if k < i then (crcTab k : Int) else 0)).toArray

theorem tabT_size (i : Nat) : (tabT i).size = 256 := by simp [tabT]
theorem tabT_get (i k : Nat) (h : k < 256) : (tabT i)[k]? = some (.int .u32 (if k < i then (crcTab k : Int) else 0)) := by simp [tabT, h]
theorem tabT_zero : Tryz.zeroCells87 = tabT 0 := by
  have h : ((List.range 256).map fun k => Value.int .u32 (if k < 0 then (crcTab k : Int) else 0)) = List.replicate 256 (.int .u32 0) := by
    rw [List.eq_replicate_iff]
    refine ⟨by simp, fun b hb => ?_⟩
    obtain ⟨k, _, rfl⟩ := List.mem_map.1 hb
    simp
  unfold tabT
  rw [h]
  rfl
theorem tabT_set (i : Nat) (h : i < 256) : (tabT i).setIfInBounds i (.int .u32 (crcTab i : Int)) = tabT (i + 1) := by
  apply Array.ext_getElem?
  intro k
  rw [Array.getElem?_setIfInBounds]
  by_cases hk : k < 256
  · rw [tabT_get _ k hk]
    by_cases e : i = k
    · subst e
      rw [if_pos rfl, if_pos (by rw [tabT_size]; exact h), tabT_get _ i h, if_pos (by omega)]
    · rw [if_neg e, tabT_get _ k hk]
      congr 2
      by_cases hi : k < i
      · rw [if_pos hi, if_pos (by omega)]
      · rw [if_neg hi, if_neg (by omega)]
  · rw [if_neg (by omega)]
    simp [tabT, hk]
theorem tabT_one (i : Nat) : (tabT i).all (·.oneCell') = true := by
  rw [Array.all_eq_true]
  intro k hk
  simp [tabT, Value.oneCell']

set_option maxHeartbeats 2000000 in
theorem table_any (w : World) : Calls Tryz.prog 68 #[] w fun e w' => e = .returned (.agg (tabT 256)) ∧ Below w.heap.size w w' := by
  go_enter Tryz.func68, Tryz.ntmps68
  go_upto_region 2 with fail
  rw [tabT_zero]
  have HR0 : Hid (Blk ((w.alloc (.cells (tabT 0) 87)).alloc (.cells (tabT 0) 87)) w.heap.size 87 (tabT 0)) := (Blk.new w _ _).alloc _
  have HR1 : Hid (Blk ((w.alloc (.cells (tabT 0) 87)).alloc (.cells (tabT 0) 87)) (w.heap.size + 1) 87 (tabT 0)) := Blk.new_at (by simp) _ _
  have HB : Hid (Below w.heap.size w ((w.alloc (.cells (tabT 0) 87)).alloc (.cells (tabT 0) 87))) := ((Below.refl _ _).alloc (Nat.le_refl _) _).alloc (by simp) _
  generalize (w.alloc (.cells (tabT 0) 87)).alloc (.cells (tabT 0) 87) = w0 at *
  obtain ⟨A, hA⟩ : ∃ A, A = w.heap.size := ⟨_, rfl⟩
  rw [← hA] at HR0 HR1 HB ⊢
  obtain ⟨B, hB⟩ : ∃ B, B = A + 1 := ⟨_, rfl⟩
  rw [← hB] at HR1 ⊢
  have HAB : Hid (A ≤ B ∧ A ≠ B) := ⟨by omega, by omega⟩
  have HA := Lib.hid hA
  clear hA hB
  go_wp2_with fail
  go_loopw [4] (fun vi wr => ∃ i : Nat, vi = .int .i64 i ∧ i ≤ 256 ∧ Hid (Blk wr A 87 (tabT 0)) ∧ Hid (Blk wr B 87 (tabT i)) ∧ Hid (Below A w wr)) (fun vi _ => 256 - (intOf vi).toNat)
  case atStart => exact ⟨0, rfl, by decide, HR0.out, HR1.out, HB.out⟩
  case round =>
    obtain ⟨i, rfl, hi, hr0, hr1, hb⟩ := hrel
    by_cases hlt : i < 256
    · have hd : decide ((i : Int) < 256) = true := by simp; omega
      have hcv : IntKind.u32.wrap (i : Int) = (i : Int) := by rw [IntKind.wrap_u32]; omega
      have HTS := Lib.hid (tabT_set i hlt)
      have f1 := hr1.out.frozen i
      have c1 : wr.cell? ⟨B, i, none⟩ = some (.int .u32 0) := by rw [hr1.out.cell, tabT_get i i hlt, if_neg (by omega)]
      go_wp2_with fail
      go_loopw [3, 9] (fun vc vj wx => ∃ (j c : Nat), vc = .int .u32 c ∧ vj = .int .i64 j ∧ j ≤ 8 ∧ c < 4294967296 ∧ Hid (crcSteps (8 - j) c = crcTab i) ∧ Hid (wx = wr)) (fun _ vj _ => 8 - (intOf vj).toNat)
      case atStart => exact ⟨0, i, rfl, rfl, by decide, by omega, rfl, rfl⟩
      case round =>
        obtain ⟨j, c, rfl, rfl, hj, hc, hcs, hwx⟩ := hrel
        by_cases hlj : j < 8
        · have hdj : decide ((j : Int) < 8) = true := by simp; omega
          have ha := and1_u32 c hc
          have hst : crcSteps (8 - j) c = crcSteps (8 - (j + 1)) (crcStep c) := by rw [show 8 - j = (8 - (j + 1)) + 1 by omega]; rfl
          have HST : Hid (crcSteps (8 - (j + 1)) (crcStep c) = crcTab i) := by rw [← hst]; exact hcs.out
          have hslt := crcStep_lt c hc
          have hsh : (c : Int) / 2 = ((c / 2 : Nat) : Int) := by omega
          by_cases hm : c % 2 = 1
          · have hx := xor_u32 (c / 2) 3988292384 (by omega) (by decide)
            have e : crcStep c = c / 2 ^^^ 3988292384 := by unfold crcStep; rw [if_pos hm]
            rw [e] at HST hslt
            rw [hm] at ha
            generalize hz : c / 2 ^^^ 3988292384 = z at *
            generalize hy : c / 2 = y at *
            clear hm e hz hy hst hcs
            go_wp2_with fail
            go_roundw
            case rel => exact ⟨j + 1, z, by go_num, by go_num, by omega, hslt, HST, hwx⟩
            case measure => simp [intOf]; omega
          · have e : crcStep c = c / 2 := by unfold crcStep; rw [if_neg hm]
            rw [e] at HST hslt
            rw [show c % 2 = 0 by omega] at ha
            generalize hy : c / 2 = y at *
            clear hm e hy hst hcs
            go_wp2_with fail
            go_roundw
            case rel => exact ⟨j + 1, y, by go_num, by go_num, by omega, hslt, HST, hwx⟩
            case measure => simp [intOf]; omega
        · have hdj : decide ((j : Int) < 8) = false := by simp; omega
          have hj8 : j = 8 := by omega
          have hct : c = crcTab i := by
            have := hcs.out
            rw [hj8] at this
            exact this
          have hwx' := hwx.out
          subst hwx'
          have HN1 : Hid (Blk (wr.setCell ⟨B, i, none⟩ (.int .u32 (c : Int))) B 87 (tabT (i + 1))) := by
            have := hr1.out.put i (.int .u32 (c : Int))
            rw [hct, HTS.out] at this
            rw [hct]
            exact this
          have HN0 : Hid (Blk (wr.setCell ⟨B, i, none⟩ (.int .u32 (c : Int))) A 87 (tabT 0)) := hr0.out.other (p := ⟨B, i, none⟩) HAB.out.2 _
          have HNB : Hid (Below A w (wr.setCell ⟨B, i, none⟩ (.int .u32 (c : Int)))) := hb.out.setCell HAB.out.1 _
          have hii : ((i : Nat) : Int) < 256 := by omega
          have hi0 : (0 : Int) ≤ (i : Int) := by omega
          clear hct hcs hwx hr0 hr1 hb HTS
          go_wp2_with fail
          go_roundw
          case rel => exact ⟨i + 1, by go_num, by omega, HN0, HN1, HNB⟩
          case measure => simp [intOf]; omega
    · have hd : decide ((i : Int) < 256) = false := by simp; omega
      have hi2 : i = 256 := by omega
      subst hi2
      have HTI : Hid ((Tryz.prog.info? 87).map (·.size) = some (tabT 256).size) := by
        show _ = _
        rw [tabT_size]; kernel_rfl
      have HT1 := Lib.hid (tabT_one 256)
      have HSS : Hid ((tabT 0).size = (tabT 256).size) := by show _ = _; rw [tabT_size, tabT_size]
      obtain ⟨T, hT⟩ : ∃ T, tabT 256 = T := ⟨_, rfl⟩
      rw [hT] at hr1 HTI HT1 HSS
      have HTE := Lib.hid hT
      clear hT
      generalize tabT 0 = Z at *
      go_wp2_with (first | refine wpList_load_row rfl 87 (.tmp 1) rfl B (by rfl) 87 T (0, 0) _ (by exact hr1.out) Tryz.underlying87 rfl (by exact HTI.out) ?_ | refine wpList_store_rowTo rfl 87 (.tmp 0) (.tmp 24) rfl rfl A T (by rfl) (by rfl) 87 _ (by exact hr0.out) (by exact HTI.out) (by exact HSS.out) (by exact HT1.out) ?_)
      exact bodyPost_ret (results_cell_row rfl _ _ A 87 _ (0, 0) _ rfl (hr0.out.rset T) Tryz.underlying87 rfl HTI.out) rfl ⟨by rw [HTE.out], HA.out ▸ below_rset hb.out (Nat.le_refl _) _⟩

theorem not_u32 (c : Nat) (h : c < 4294967296) : bits .xor .u32 (if IntKind.u32.signed = true then -1 else IntKind.u32.max) (c : Int) = ((4294967295 - c : Nat) : Int) := by
  rw [show (if IntKind.u32.signed = true then (-1 : Int) else IntKind.u32.max) = ((4294967295 : Nat) : Int) from rfl, xor_u32 _ _ (by decide) h]
  congr 1
  have e : (4294967295 : Nat) = 2 ^ 32 - 1 := rfl
  apply Nat.eq_of_testBit_eq
  intro i
  rw [Nat.testBit_xor, e, show 2 ^ 32 - 1 - c = 2 ^ 32 - (c + 1) by omega, Nat.testBit_two_pow_sub_succ (x := c) h, Nat.testBit_two_pow_sub_one]
  by_cases hi : i < 32
  · simp [hi]
  · have : c.testBit i = false := Nat.testBit_lt_two_pow (Nat.lt_of_lt_of_le h (Nat.pow_le_pow_right (n := 2) (by decide : 0 < 2) (by omega : 32 ≤ i)))
    simp [hi, this]
theorem crcGo_take (c : Nat) (l : List UInt8) (i : Nat) (h : i < l.length) : crcGo c (l.take (i + 1)) = crcB (crcGo c (l.take i)) l[i] := by
  unfold crcGo
  rw [List.take_succ_eq_append_getElem h, List.foldl_append]
  rfl

set_option maxHeartbeats 2000000 in
theorem crc_any (s : ByteArray) (w : World) (hs : s.size ≤ maxLen) : Calls Tryz.prog 34 #[.string s] w fun e w' => e = .returned (.int .u32 (crcP s.data.toList : Nat)) ∧ Below w.heap.size w w' := by
  unfold maxLen at hs
  have HTA := Lib.hid (table_any w)
  have HTI : Hid ((Tryz.prog.info? 87).map (·.size) = some (tabT 256).size) := by
    show _ = _
    rw [tabT_size]; kernel_rfl
  have HT1 := Lib.hid (tabT_one 256)
  have HSS : Hid ((Tryz.zeroCells87).size = (tabT 256).size) := by show _ = _; rw [tabT_zero, tabT_size, tabT_size]
  have HTG : Hid (∀ k, k < 256 → (tabT 256)[k]? = some (.int .u32 (crcTab k : Int))) := fun k hk => by rw [tabT_get 256 k hk, if_pos hk]
  generalize tabT 256 = T at *
  go_enter Tryz.func34, Tryz.ntmps34
  go_wp2_with fail
  refine HTA.out.mono ?_
  rintro e w1 ⟨rfl, hb1⟩
  have HB1 := Lib.hid hb1
  have HN1 := Lib.hid (Blk.new w1 87 Tryz.zeroCells87)
  clear hb1 HTA
  go_upto_region 2 with (refine wpList_store_rowTo rfl 87 (.tmp 3) (.tmp 6) rfl rfl w1.heap.size T (by rfl) (by rfl) 87 _ (by exact HN1.out) (by exact HTI.out) (by exact HSS.out) (by exact HT1.out) ?_)
  have HR : Hid (Blk ((w1.alloc (.cells Tryz.zeroCells87 87)).setRow w1.heap.size T) w1.heap.size 87 T) := HN1.out.rset T
  have HB2 : Hid (Below w.heap.size w ((w1.alloc (.cells Tryz.zeroCells87 87)).setRow w1.heap.size T)) := below_rset (HB1.out.alloc HB1.out.size _) HB1.out.size _
  generalize (w1.alloc (.cells Tryz.zeroCells87 87)).setRow w1.heap.size T = w2 at *
  generalize w1.heap.size = B at *
  clear HB1 HN1 HSS HT1 HTI
  have HSZ : Hid (s.size = s.data.toList.length) := by show _ = _; simp
  go_wp2_with fail
  go_loopw [4, 9] (fun vc vi wr => ∃ (i c : Nat), vc = .int .u32 c ∧ vi = .int .i64 i ∧ i ≤ s.size ∧ c < 4294967296 ∧ Hid (c = crcGo 4294967295 (s.data.toList.take i)) ∧ Hid (wr = w2)) (fun _ vi _ => s.size - (intOf vi).toNat)
  case atStart => exact ⟨0, 4294967295, rfl, rfl, Nat.zero_le _, by decide, rfl, rfl⟩
  case round =>
    obtain ⟨i, c, rfl, rfl, hi, hc, hcg, hwr⟩ := hrel
    have hwr' := hwr.out
    subst hwr'
    have hsz := HSZ.out
    by_cases hlt : i < s.size
    · have hd : decide ((i : Int) < (s.size : Int)) = true := by simp; omega
      obtain ⟨b, hb⟩ : ∃ b, s[i] = b := ⟨_, rfl⟩
      have hbl : s.data.toList[i]'(by omega) = b := by rw [← hb]; rfl
      have HNX : Hid (crcB c b = crcGo 4294967295 (s.data.toList.take (i + 1))) := by
        show _ = _
        rw [crcGo_take _ _ i (by omega), ← hcg.out, hbl]
      have hbt := b.toNat_lt
      have h8 : (c : Int) / 256 = ((c / 256 : Nat) : Int) := by omega
      have hcv : IntKind.u8.wrap (c : Int) = ((c % 256 : Nat) : Int) := by rw [IntKind.wrap_u8]; omega
      have hx := xor_u8 (c % 256) b.toNat (by omega) hbt
      have hik : (c ^^^ b.toNat) % 256 = (c % 256) ^^^ b.toNat := by
        rw [show 256 = 2 ^ 8 from rfl, Nat.xor_mod_two_pow, Nat.mod_eq_of_lt (a := b.toNat) (by omega)]
      have hkl : (c % 256) ^^^ b.toNat < 256 := by rw [← hik]; omega
      have hx2 := xor_u32 (c / 256) (crcTab ((c % 256) ^^^ b.toNat)) (by omega) (crcTab_lt _ hkl)
      have hcb : crcB c b = (c / 256) ^^^ crcTab ((c % 256) ^^^ b.toNat) := by unfold crcB; rw [hik]
      have hlt2 := crcB_lt c b hc
      rw [hcb] at HNX hlt2
      have hcell : wr.cell? ⟨B, (c % 256) ^^^ b.toNat, none⟩ = some (.int .u32 (crcTab ((c % 256) ^^^ b.toNat) : Int)) := by rw [HR.out.cell, HTG.out _ hkl]
      generalize crcTab ((c % 256) ^^^ b.toNat) = tt at *
      generalize (c % 256) ^^^ b.toNat = kk at *
      generalize c % 256 = cm at *
      generalize (c / 256) ^^^ tt = c2 at *
      generalize c / 256 = cd at *
      have hk0 : (0 : Int) ≤ (kk : Int) := by omega
      have hk1 : ((kk : Nat) : Int) < 256 := by omega
      clear hbl hcb hik hcg hsz
      go_wp2_with fail
      go_roundw
      case rel => exact ⟨i + 1, c2, by go_num, by go_num, by omega, hlt2, HNX, trivial⟩
      case measure => simp [intOf]; omega
    · have hd : decide ((i : Int) < (s.size : Int)) = false := by simp; omega
      have hn := not_u32 c hc
      have HF : Hid (crcP s.data.toList = 4294967295 - c) := by
        show _ = _
        have h1 := hcg.out
        rw [List.take_of_length_le (by omega)] at h1
        unfold crcP
        rw [← h1]
      generalize 4294967295 - c = z at *
      clear hcg hsz
      go_wp2_with fail
      go_ret
      exact ⟨by rw [HF.out]; rfl, HB2.out⟩
end Go.Proofs.YthbejefodelpkaaGreat
