/-
  The program of tiff: readTag.
-/
import Derived.Test.YtakileiomgaahaaTg
import Derived.Test.YtakileiomgaahaaM9
import Derived.Test.YtakileiomgaahaaTi8
import Derived.Deep.RegionLaw
import Derived.Deep.CutRange
import Derived.Deep.CutBlock
namespace Go.Proofs.Ytakileiomgaahaa
open Go.RowKit

theorem num_run (u v : Value) (w : World) : (callFunc 36 #[u, v]).run Try.prog w = .ok (.enter 36 #[u, v]) w := by kernel_rfl
theorem number_at (s : ByteArray) (a b : Nat) (big : Bool) (hb : b ≤ s.size) (h4 : b ≤ a + 4) (w : World) : Calls Try.prog 36 #[.string (s.extract a b), .bool big] w fun e w' => ∃ v, e = .returned v ∧ (v = .int .i64 (nAt big s.data.toList a (b - a) : Nat) ∧ w = w') := by
  refine (number_any (s.extract a b) big w (by rw [ByteArray.size_extract]; omega)).mono ?_
  rintro e w' ⟨rfl, rfl⟩
  refine ⟨_, rfl, ?_, rfl⟩
  rw [extract_list, List.drop_take]
  rfl
theorem number_in (s : ByteArray) (a b c d : Nat) (big : Bool) (hd : a + d ≤ b) (h4 : d ≤ c + 4) (w : World) : Calls Try.prog 36 #[.string ((s.extract a b).extract c d), .bool big] w fun e w' => ∃ v, e = .returned v ∧ (v = .int .i64 (nAt big s.data.toList (a + c) (d - c) : Nat) ∧ w = w') := by
  refine (number_any ((s.extract a b).extract c d) big w (by rw [ByteArray.size_extract, ByteArray.size_extract]; omega)).mono ?_
  rintro e w' ⟨rfl, rfl⟩
  refine ⟨_, rfl, ?_, rfl⟩
  have h : ((s.extract a b).extract c d).data.toList = (s.data.toList.drop (a + c)).take (d - c) := by
    rw [extract_list, extract_list, List.drop_take, List.drop_take, List.drop_take, List.drop_drop, List.take_take, Nat.min_eq_left (by omega)]
  rw [h]
  rfl
/-- What readTag answers. -/
def RtOk (B : Nat) (before : Int) (id : Nat) (r : Except Nat Tg) (e : Ending) (w : World) : Prop :=
  if (id : Int) ≤ before then e = .returned (.tuple #[.agg (tcA tag0 (.slice none 0 0)), .int .i64 24]) else
  match r with
  | .error k => e = .returned (.tuple #[.agg (tcA tag0 (.slice none 0 0)), .int .i64 k])
  | .ok t => ∃ v, e = .returned (.tuple #[.agg (tcA t v), .int .i64 0]) ∧ ORow w B v t.vals

set_option maxHeartbeats 4000000 in
set_option maxRecDepth 100000 in
theorem readTag_any (s : ByteArray) (p : Nat) (before : Int) (big : Bool) (w : World) (hs : s.size ≤ 1000000000000000) (hp : p + 12 ≤ s.size) :
    Calls Try.prog 37 #[.string s, .int .i64 p, .int .i64 before, .bool big] w fun e w' => RtOk w.heap.size before (nAt big s.data.toList p 2) (tagP big s.data.toList p) e w' ∧ Below w.heap.size w w' := by
  have HSZ : Hid (s.data.toList.length = s.size) := ba_size s
  have HN0 : Hid (∀ w, Calls Try.prog 36 #[.string (s.extract p (p + 2)), .bool big] w fun e w' => ∃ v, e = .returned v ∧ (v = .int .i64 (nAt big s.data.toList p 2 : Nat) ∧ w = w')) := fun w => by
    have := number_at s p (p + 2) big (by omega) (by omega) w; rwa [show p + 2 - p = 2 by omega] at this
  have HN2 : Hid (∀ w, Calls Try.prog 36 #[.string (s.extract (p + 2) (p + 4)), .bool big] w fun e w' => ∃ v, e = .returned v ∧ (v = .int .i64 (nAt big s.data.toList (p + 2) 2 : Nat) ∧ w = w')) := fun w => by
    have := number_at s (p + 2) (p + 4) big (by omega) (by omega) w; rwa [show p + 4 - (p + 2) = 2 by omega] at this
  have HN4 : Hid (∀ w, Calls Try.prog 36 #[.string (s.extract (p + 4) (p + 8)), .bool big] w fun e w' => ∃ v, e = .returned v ∧ (v = .int .i64 (nAt big s.data.toList (p + 4) 4 : Nat) ∧ w = w')) := fun w => by
    have := number_at s (p + 4) (p + 8) big (by omega) (by omega) w; rwa [show p + 8 - (p + 4) = 4 by omega] at this
  have HN8 : Hid (∀ w, Calls Try.prog 36 #[.string (s.extract (p + 8) (p + 12)), .bool big] w fun e w' => ∃ v, e = .returned v ∧ (v = .int .i64 (nAt big s.data.toList (p + 8) 4 : Nat) ∧ w = w')) := fun w => by
    have := number_at s (p + 8) (p + 12) big (by omega) (by omega) w; rwa [show p + 12 - (p + 8) = 4 by omega] at this
  have hl0 := nAt_lt big s.data.toList p 2
  have hl2 := nAt_lt big s.data.toList (p + 2) 2
  have hl4 := nAt_lt big s.data.toList (p + 4) 4
  have hl8 := nAt_lt big s.data.toList (p + 8) 4
  have HT : Hid (tagP big s.data.toList p = tagP big s.data.toList p) := rfl
  obtain ⟨res, hres⟩ : ∃ r, tagP big s.data.toList p = r := ⟨_, rfl⟩
  have HRES := Lib.hid hres
  rw [hres]
  unfold tagP plT at hres
  clear HT
  obtain ⟨id, hid⟩ : ∃ n, nAt big s.data.toList p 2 = n := ⟨_, rfl⟩
  obtain ⟨ty, hty⟩ : ∃ n, nAt big s.data.toList (p + 2) 2 = n := ⟨_, rfl⟩
  obtain ⟨n, hn⟩ : ∃ n, nAt big s.data.toList (p + 4) 4 = n := ⟨_, rfl⟩
  obtain ⟨n8, hn8⟩ : ∃ n, nAt big s.data.toList (p + 8) 4 = n := ⟨_, rfl⟩
  rw [hid] at HN0 hl0 ⊢
  rw [hty] at HN2 hl2
  rw [hn] at HN4 hl4
  rw [hn8] at HN8 hl8
  rw [hid, hty, hn, hn8] at hres
  have HR := Lib.hid hres
  clear hres hid hty hn hn8
  have hl0 : id ≤ 65535 := by have : id < 65536 := hl0; omega
  have hl2 : ty ≤ 65535 := by have : ty < 65536 := hl2; omega
  have hl4 : n ≤ 4294967295 := by have : n < 4294967296 := hl4; omega
  have hl8 : n8 ≤ 4294967295 := by have : n8 < 4294967296 := hl8; omega
  obtain ⟨p2, hp2⟩ : ∃ q, q = p + 2 := ⟨_, rfl⟩
  obtain ⟨p4, hp4⟩ : ∃ q, q = p + 4 := ⟨_, rfl⟩
  obtain ⟨p8, hp8⟩ : ∃ q, q = p + 8 := ⟨_, rfl⟩
  obtain ⟨p12, hp12⟩ : ∃ q, q = p + 12 := ⟨_, rfl⟩
  rw [← hp2] at HN0 HN2
  rw [← hp4] at HN2 HN4
  rw [← hp8] at HN4 HN8 HR
  rw [← hp12] at HN8
  have a2 : (p : Int) + 2 = (p2 : Int) := by omega
  have a4 : (p : Int) + 4 = (p4 : Int) := by omega
  have a8 : (p : Int) + 8 = (p8 : Int) := by omega
  have a12 : (p : Int) + 12 = (p12 : Int) := by omega
  have b2 : (p : Int) ≤ (p2 : Int) := by omega
  have b4 : (p2 : Int) ≤ (p4 : Int) := by omega
  have b8 : (p4 : Int) ≤ (p8 : Int) := by omega
  have b12 : (p8 : Int) ≤ (p12 : Int) := by omega
  have c2 : (p2 : Int) ≤ (s.size : Int) := by omega
  have c4 : (p4 : Int) ≤ (s.size : Int) := by omega
  have c8 : (p8 : Int) ≤ (s.size : Int) := by omega
  have c12 : (p12 : Int) ≤ (s.size : Int) := by omega
  have hp8s : p8 ≤ 1000000000000000 := by omega
  have hw2 : IntKind.i64.wrap (p2 : Int) = (p2 : Int) := by rw [IntKind.wrap_i64]; omega
  have hw4 : IntKind.i64.wrap (p4 : Int) = (p4 : Int) := by rw [IntKind.wrap_i64]; omega
  have hw8 : IntKind.i64.wrap (p8 : Int) = (p8 : Int) := by rw [IntKind.wrap_i64]; omega
  have hw12 : IntKind.i64.wrap (p12 : Int) = (p12 : Int) := by rw [IntKind.wrap_i64]; omega
  clear hp2 hp4 hp8 hp12 hp
  go_enter Try.func37, Try.ntmps37
  have hb0 := Blk.new w 70 (tcA tag0 (.slice none 0 0))
  have hbe0 := (Below.refl w.heap.size w).alloc (Nat.le_refl _) (.cells (tcA tag0 (.slice none 0 0)) 70)
  have hsz0 : (w.alloc (.cells (tcA tag0 (.slice none 0 0)) 70)).heap.size = w.heap.size + 1 := by simp
  go_upto_region 1 with fail
  change Blk (w.alloc (.cells #[.int .i64 0, .int .i64 0, .slice none 0 0, .string ⟨#[]⟩] 70)) w.heap.size 70 (tcA tag0 (.slice none 0 0)) at hb0
  change Below w.heap.size w (w.alloc (.cells #[.int .i64 0, .int .i64 0, .slice none 0 0, .string ⟨#[]⟩] 70)) at hbe0
  change (w.alloc (.cells #[.int .i64 0, .int .i64 0, .slice none 0 0, .string ⟨#[]⟩] 70)).heap.size = w.heap.size + 1 at hsz0
  generalize w.alloc (.cells #[.int .i64 0, .int .i64 0, .slice none 0 0, .string ⟨#[]⟩] 70) = wz at *
  generalize hB : w.heap.size = B at *
  have HB := Lib.hid hB
  have HB0 := Lib.hid hb0
  have HBE := Lib.hid hbe0
  have HSZ0 := Lib.hid hsz0
  clear hB hb0 hbe0 hsz0
  go_cut [10] (fun v10 wx => v10 = .pointer (some ⟨B + 1, 0, none⟩) ∧ Blk wx (B + 1) 70 (tcA ⟨id, ty, [], []⟩ (.slice none 0 0)) ∧ Hid (Blk wx B 70 (tcA tag0 (.slice none 0 0))) ∧ Hid (Below B w wx))
  case first =>
    go_region_law (first
      | (refine step_call (vs := #[.string (s.extract p p2), .bool big]) rfl rfl ?_ (num_run _ _ _) (HN0.out _) ?_; simp [Act.eval, Act.put]; rintro vX wX ⟨rfl, rfl⟩)
      | (refine step_call (vs := #[.string (s.extract p2 p4), .bool big]) rfl rfl ?_ (num_run _ _ _) (HN2.out _) ?_; simp [Act.eval]; rintro vX wX ⟨rfl, rfl⟩))
    all_goals
      go_wp2_with fail
      go_meet
      case rel =>
        refine ⟨by rw [HSZ0.out], ?_, (HB0.out.alloc _).drew, (HBE.out.alloc (by rw [HSZ0.out]; omega) _).drew⟩
        rw [← HSZ0.out]
        exact (Blk.new wz _ _).drew
  case rest =>
    obtain ⟨rfl, hbt, HBR, HBW⟩ := hcut
    have q0 := hbt.cell 0
    have q1 := hbt.cell 1
    simp [tcA] at q0 q1
    have HBT := Lib.hid hbt
    clear hbt
    by_cases hid : (id : Int) ≤ before
    · have did : decide ((id : Int) ≤ before) = true := by simp; exact hid
      go_wp2_with fail
      refine (HN4.out _).mono ?_
      rintro e w1 ⟨v, rfl, rfl, rfl⟩
      go_wp2_with (refine wpList_rset_same rfl 70 (.tmp 8) (.tmp 45) rfl rfl B (tcA tag0 (.slice none 0 0)) (by rfl) (by rfl) 70 (by exact HBR.out) (tcA_inf _ _) (tcA_one _ _ rfl) ?_)
      refine bodyPost_ret (v := .tuple #[.agg (tcA tag0 (.slice none 0 0)), .int .i64 24]) (results_ct rfl _ _ B 70 (tcA tag0 (.slice none 0 0)) (0, 0) _ _ rfl rfl HBR.out Try.underlying70 rfl (tcA_inf _ _)) rfl ⟨?_, by rw [HB.out]; exact HBW.out⟩
      unfold RtOk
      rw [if_pos hid]
    · have did : decide ((id : Int) ≤ before) = false := by simp; omega
      have HID := Lib.hid hid
      by_cases hty : ty < 1 ∨ 4 < ty
      · have HF : Hid (res = .error 8) := by show _ = _; rw [← HR.out, if_pos hty]
        have e1 : ((ty : Int) == 1) = false := by rw [beq_eq_false_iff_ne]; omega
        have e2 : ((ty : Int) == 2) = false := by rw [beq_eq_false_iff_ne]; omega
        have e3 : ((ty : Int) == 3) = false := by rw [beq_eq_false_iff_ne]; omega
        have e4 : ((ty : Int) == 4) = false := by rw [beq_eq_false_iff_ne]; omega
        clear hty
        go_wp2_with fail
        refine (HN4.out _).mono ?_
        rintro e w1 ⟨v, rfl, rfl, rfl⟩
        go_wp2_with (refine wpList_rset_same rfl 70 (.tmp 8) (.tmp 48) rfl rfl B (tcA tag0 (.slice none 0 0)) (by rfl) (by rfl) 70 (by exact HBR.out) (tcA_inf _ _) (tcA_one _ _ rfl) ?_)
        refine bodyPost_ret (v := .tuple #[.agg (tcA tag0 (.slice none 0 0)), .int .i64 8]) (results_ct rfl _ _ B 70 (tcA tag0 (.slice none 0 0)) (0, 0) _ _ rfl rfl HBR.out Try.underlying70 rfl (tcA_inf _ _)) rfl ⟨?_, by rw [HB.out]; exact HBW.out⟩
        unfold RtOk
        rw [if_neg (by have := HID.out; omega), HF.out]
        rfl
      · rw [if_neg hty] at HR
        have HTY : Hid (1 ≤ ty ∧ ty ≤ 4) := by constructor <;> omega
        clear hty
        go_wp2_with fail
        refine (HN4.out _).mono ?_
        rintro e w1 ⟨v, rfl, rfl, rfl⟩
        go_upto_block 0 with fail
        go_cut [12, 13] (fun v12 v13 wx => v12 = .int .i64 (szT ty : Nat) ∧ v13 = .int .i64 (mostT ty : Nat) ∧ wx = wc)
        case first =>
          have h4 : ty = 1 ∨ ty = 2 ∨ ty = 3 ∨ ty = 4 := by have := HTY.out; omega
          clear HR
          rcases h4 with rfl | rfl | rfl | rfl
          all_goals
            go_wp2_with fail
            go_meet
            case rel => exact ⟨rfl, rfl, rfl⟩
        case rest =>
          obtain ⟨rfl, rfl, hwc⟩ := hcut
          have hwc2 := hwc.symm
          subst hwc2
          clear hwc
          have hz4 : 1 ≤ szT ty ∧ szT ty ≤ 4 := by unfold szT; by_cases h3 : ty = 3 <;> by_cases h4 : ty = 4 <;> simp [h3, h4]
          have hm8 : mostT ty ≤ 8192 := by unfold mostT; split <;> omega
          obtain ⟨z, hz⟩ : ∃ z, szT ty = z := ⟨_, rfl⟩
          obtain ⟨most, hmost⟩ : ∃ z, mostT ty = z := ⟨_, rfl⟩
          rw [hz, hmost] at HR ⊢
          rw [hz] at hz4
          rw [hmost] at hm8
          have HZ := Lib.hid hz
          go_step
          obtain ⟨hz1, hz4⟩ := hz4
          clear hz hmost
          by_cases hn : most < n
          · have dn : decide ((most : Int) < (n : Int)) = true := by simp; omega
            have HF : Hid (res = .error 3) := by show _ = _; rw [← HR.out, if_pos hn]
            go_wp2_with (refine wpList_rset_same rfl 70 (.tmp 8) (.tmp 60) rfl rfl B (tcA tag0 (.slice none 0 0)) (by rfl) (by rfl) 70 (by exact HBR.out) (tcA_inf _ _) (tcA_one _ _ rfl) ?_)
            refine bodyPost_ret (v := .tuple #[.agg (tcA tag0 (.slice none 0 0)), .int .i64 3]) (results_ct rfl _ _ B 70 (tcA tag0 (.slice none 0 0)) (0, 0) _ _ rfl rfl HBR.out Try.underlying70 rfl (tcA_inf _ _)) rfl ⟨?_, by rw [HB.out]; exact HBW.out⟩
            unfold RtOk
            rw [if_neg (by have := HID.out; omega), HF.out]
            rfl
          · have dn : decide ((most : Int) < (n : Int)) = false := by simp; omega
            rw [if_neg hn] at HR
            have hn8192 : n ≤ 8192 := by omega
            go_upto_region 17 with fail
            clear hn
            obtain ⟨m, hm⟩ : ∃ m, n * z = m := ⟨_, rfl⟩
            have hmi : (n : Int) * (z : Int) = (m : Int) := by rw [← hm]; simp
            have hmb : m ≤ 32768 := by rw [← hm]; exact Nat.mul_le_mul hn8192 hz4
            have HM := Lib.hid hm
            rw [hm] at HR
            clear hm
            go_upto_if 66 with fail
            go_cut [14] (fun v14 wx => v14 = .int .i64 ((if 4 < m then n8 else p8 : Nat) : Int) ∧ wx = wc)
            case first =>
              clear HR
              by_cases h4 : 4 < m
              · have d4 : decide ((4 : Int) < (m : Int)) = true := by simp; omega
                have HI : Hid ((if 4 < m then n8 else p8 : Nat) = n8) := if_pos h4
                go_wp2_with fail
                refine (HN8.out _).mono ?_
                rintro e w1 ⟨v, rfl, rfl, rfl⟩
                go_wp2_with fail
                go_meet
                case rel => exact ⟨by rw [HI.out], rfl⟩
              · have d4 : decide ((4 : Int) < (m : Int)) = false := by simp; omega
                have HI : Hid ((if 4 < m then n8 else p8 : Nat) = p8) := if_neg h4
                go_wp2_with fail
                go_meet
                case rel => exact ⟨by rw [HI.out], rfl⟩
            case rest =>
              obtain ⟨rfl, hwc⟩ := hcut
              have hwc2 := hwc.symm
              subst hwc2
              clear hwc
              have hat : (if 4 < m then n8 else p8 : Nat) ≤ 1000000000000000 := by split <;> omega
              have HAT1 : Hid (ty = 2 → (if 4 < n * 1 then n8 else p8 : Nat) = (if 4 < m then n8 else p8 : Nat)) := by
                intro h
                have : n * 1 = m := by rw [← HM.out, ← HZ.out, h]; rfl
                rw [this]
              have HR2 : Hid ((if s.data.toList.length < (if 4 < m then n8 else p8 : Nat) + m then (Except.error 2 : Except Nat Tg) else if ty = 2 then (if n = 0 then (Except.error 4 : Except Nat Tg) else Except.ok (⟨id, 2, [], (s.data.toList.drop (if 4 < m then n8 else p8 : Nat)).take (n - 1)⟩ : Tg)) else Except.ok (⟨id, ty, (List.range n).map fun k => nAt big s.data.toList ((if 4 < m then n8 else p8 : Nat) + k * z) z, []⟩ : Tg)) = res) := by
                show _ = _
                rw [← HR.out]
                by_cases h : ty = 2
                · rw [HAT1.out h]
                · rw [if_neg h, if_neg h]
              clear HR HAT1
              obtain ⟨at_, hat_⟩ : ∃ q, (if 4 < m then n8 else p8 : Nat) = q := ⟨_, rfl⟩
              rw [hat_] at hat HR2 ⊢
              clear hat_
              obtain ⟨en, hen⟩ : ∃ en, en = at_ + m := ⟨_, rfl⟩
              have heni : (at_ : Int) + (m : Int) = (en : Int) := by omega
              rw [← hen, HSZ.out] at HR2
              by_cases hlen : s.size < en
              · have dlen : decide ((s.size : Int) < (en : Int)) = true := by simp; omega
                have HF : Hid (res = .error 2) := by show _ = _; rw [← HR2.out, if_pos hlen]
                clear hen
                go_wp2_with (refine wpList_rset_same rfl 70 (.tmp 8) (.tmp 83) rfl rfl B (tcA tag0 (.slice none 0 0)) (by rfl) (by rfl) 70 (by exact HBR.out) (tcA_inf _ _) (tcA_one _ _ rfl) ?_)
                refine bodyPost_ret (v := .tuple #[.agg (tcA tag0 (.slice none 0 0)), .int .i64 2]) (results_ct rfl _ _ B 70 (tcA tag0 (.slice none 0 0)) (0, 0) _ _ rfl rfl HBR.out Try.underlying70 rfl (tcA_inf _ _)) rfl ⟨?_, by rw [HB.out]; exact HBW.out⟩
                unfold RtOk
                rw [if_neg (by have := HID.out; omega), HF.out]
                rfl
              · have dlen : decide ((s.size : Int) < (en : Int)) = false := by simp; omega
                rw [if_neg hlen] at HR2
                have i1 : (at_ : Int) ≤ (en : Int) := by omega
                have i2 : (en : Int) ≤ (s.size : Int) := by omega
                have HEN := Lib.hid hen
                have HLEN : Hid (en ≤ s.size) := by show _ ≤ _; omega
                clear hen
                go_upto_region 22 with fail
                clear hlen
                go_upto_region 23 with fail
                have hvss : (s.extract at_ en).size = m := by rw [ByteArray.size_extract]; have := HLEN.out; have := HEN.out; omega
                have HVT : Hid ((s.extract at_ en).data.toList = (s.data.toList.drop at_).take m) := by
                  show _ = _
                  rw [extract_list, List.drop_take]; congr 1; have := HEN.out; omega
                have HNI : Hid (∀ k w, k < n → Calls Try.prog 36 #[.string ((s.extract at_ en).extract (k * z) ((k + 1) * z)), .bool big] w fun e w' => ∃ v, e = .returned v ∧ (v = .int .i64 (nAt big s.data.toList (at_ + k * z) z : Nat) ∧ w = w')) := fun k w hk => by
                  have e1 : (k + 1) * z = k * z + z := Nat.succ_mul k z
                  have e2 : (k + 1) * z ≤ m := by rw [← HM.out]; exact Nat.mul_le_mul_right z hk
                  have := number_in s at_ en (k * z) ((k + 1) * z) big (by have := HEN.out; omega) (by omega) w
                  rwa [show (k + 1) * z - k * z = z by omega] at this
                obtain ⟨vs, hvs⟩ : ∃ v, s.extract at_ en = v := ⟨_, rfl⟩
                rw [hvs] at hvss HVT HNI ⊢
                clear hvs
                by_cases h2 : ty = 2
                · have e2 : ((ty : Int) != 2) = false := by rw [h2]; rfl
                  rw [if_pos h2] at HR2
                  by_cases h0 : n = 0
                  · have e0 : ((n : Int) == 0) = true := by rw [h0]; rfl
                    have HF : Hid (res = .error 4) := by show _ = _; rw [← HR2.out, if_pos h0]
                    clear h0 h2
                    go_wp2_with (refine wpList_rset_same rfl 70 (.tmp 8) (.tmp 119) rfl rfl B (tcA tag0 (.slice none 0 0)) (by rfl) (by rfl) 70 (by exact HBR.out) (tcA_inf _ _) (tcA_one _ _ rfl) ?_)
                    refine bodyPost_ret (v := .tuple #[.agg (tcA tag0 (.slice none 0 0)), .int .i64 4]) (results_ct rfl _ _ B 70 (tcA tag0 (.slice none 0 0)) (0, 0) _ _ rfl rfl HBR.out Try.underlying70 rfl (tcA_inf _ _)) rfl ⟨?_, by rw [HB.out]; exact HBW.out⟩
                    unfold RtOk
                    rw [if_neg (by have := HID.out; omega), HF.out]
                    rfl
                  · have e0 : ((n : Int) == 0) = false := by rw [beq_eq_false_iff_ne]; omega
                    rw [if_neg h0] at HR2
                    obtain ⟨q, hq⟩ : ∃ q : Nat, q = n - 1 := ⟨_, rfl⟩
                    have hqi : (n : Int) - 1 = (q : Int) := by omega
                    have hzz : z = 1 := by rw [← HZ.out, h2]; rfl
                    have hqm : q ≤ m := by rw [← HM.out, hzz]; omega
                    have hqmi : (q : Int) ≤ (m : Int) := by omega
                    have HTX : Hid ((vs.extract 0 q).data.toList = (s.data.toList.drop at_).take (n - 1)) := by
                      show _ = _
                      rw [extract_list, List.drop_zero, HVT.out, List.take_take, ← hq, Nat.min_eq_left hqm]
                    have q3 := HBT.out.cell 3
                    have f3 := HBT.out.frozen 3
                    simp [tcA] at q3
                    have HTY2 := Lib.hid h2
                    have HB3 : Hid (Blk (wc.setCell ⟨B + 1, 3, none⟩ (.string (vs.extract 0 q))) (B + 1) 70 (tcA ⟨id, ty, [], (vs.extract 0 q).data.toList⟩ (.slice none 0 0))) := HBT.out.put 3 _
                    have HBR3 : Hid (Blk (wc.setCell ⟨B + 1, 3, none⟩ (.string (vs.extract 0 q))) B 70 (tcA tag0 (.slice none 0 0))) := HBR.out.other (by simp) _
                    have HBW3 : Hid (Below B w (wc.setCell ⟨B + 1, 3, none⟩ (.string (vs.extract 0 q)))) := below_put HBW.out (by simp) _
                    clear h2 h0 hzz hq
                    go_upto_region 33 with fail
                    generalize wc.setCell ⟨B + 1, 3, none⟩ (.string (vs.extract 0 q)) = w3 at *
                    obtain ⟨T, hT⟩ : ∃ T, tcA ⟨id, ty, [], (vs.extract 0 q).data.toList⟩ (.slice none 0 0) = T := ⟨_, rfl⟩
                    rw [hT] at HB3
                    have HTI : Hid ((Try.prog.info? 70).map (·.size) = some T.size) := by show _ = _; rw [← hT]; exact tcA_inf _ _
                    have HT1 : Hid (T.all (·.oneCell') = true) := by show _ = _; rw [← hT]; exact tcA_one _ _ rfl
                    have HTS : Hid ((tcA tag0 (.slice none 0 0)).size = T.size) := by show _ = _; rw [← hT]; rfl
                    have HT := Lib.hid hT
                    clear hT
                    go_wp2_with (first | refine wpList_load_row rfl 70 (.tmp 10) rfl (B + 1) (by rfl) 70 T (0, 0) _ (by exact HB3.out) Try.underlying70 rfl (by exact HTI.out) ?_ | refine wpList_store_rowTo rfl 70 (.tmp 8) (.tmp 125) rfl rfl B T (by rfl) (by rfl) 70 _ (by exact HBR3.out) (by exact HTI.out) (by exact HTS.out) (by exact HT1.out) ?_)
                    refine bodyPost_ret (v := .tuple #[.agg T, .int .i64 0]) (results_ct rfl _ _ B 70 T (0, 0) _ _ rfl rfl (HBR3.out.rset T) Try.underlying70 rfl HTI.out) rfl ⟨?_, by rw [HB.out]; exact below_rset HBW3.out (Nat.le_refl _) _⟩
                    unfold RtOk
                    rw [if_neg (by have := HID.out; omega), ← HR2.out]
                    refine ⟨.slice none 0 0, ?_, orow_nil _ _⟩
                    rw [← HT.out, HTX.out, HTY2.out]
                · have e2 : ((ty : Int) != 2) = true := by unfold bne; rw [Bool.not_eq_true', beq_eq_false_iff_ne]; omega
                  rw [if_neg h2] at HR2
                  clear h2
                  go_upto_region 24 with fail
                  go_wp2_with fail
                  go_loopw [96] (fun vk wr => ∃ (k : Nat) (vv : Value), vk = .int .i64 k ∧ k ≤ n ∧ Hid (Blk wr (B + 1) 70 (tcA ⟨id, ty, [], []⟩ vv)) ∧ Hid (Blk wr B 70 (tcA tag0 (.slice none 0 0))) ∧ Hid (ORow wr B vv ((List.range k).map fun k => nAt big s.data.toList (at_ + k * z) z)) ∧ Hid (Below B w wr) ∧ B + 1 < wr.heap.size) (fun vk _ => n - (intOf vk).toNat)
                  case atStart => exact ⟨0, .slice none 0 0, rfl, Nat.zero_le _, HBT.out, HBR.out, orow_nil _ _, HBW.out, HBT.out.lt⟩
                  case round =>
                    obtain ⟨k, vv, rfl, hkn, hbt, hbr, hor, hbw, hszr⟩ := hrel
                    clear HBT HBR HBW
                    by_cases hk : k < n
                    ·
                      have dk : decide ((k : Int) < (n : Int)) = true := by simp; omega
                      obtain ⟨acc, hacc⟩ : ∃ acc, ((List.range k).map fun k => nAt big s.data.toList (at_ + k * z) z) = acc := ⟨_, rfl⟩
                      have hal : acc.length = k := by rw [← hacc]; simp
                      rw [hacc] at hor
                      have HACC := Lib.hid hacc
                      have HN1 := Lib.hid (fun w => HNI.out k w hk)
                      obtain ⟨nv, hnv⟩ : ∃ nv, nAt big s.data.toList (at_ + k * z) z = nv := ⟨_, rfl⟩
                      rw [hnv] at HN1
                      have HNV := Lib.hid hnv
                      obtain ⟨kz, hkz⟩ : ∃ kz, k * z = kz := ⟨_, rfl⟩
                      obtain ⟨k1, hk1⟩ : ∃ k1, k + 1 = k1 := ⟨_, rfl⟩
                      rw [hkz, hk1] at HN1
                      obtain ⟨kz1, hkz1⟩ : ∃ kz1, k1 * z = kz1 := ⟨_, rfl⟩
                      rw [hkz1] at HN1
                      have m1 : (k : Int) * (z : Int) = (kz : Int) := by rw [← hkz]; simp
                      have m2 : (k1 : Int) * (z : Int) = (kz1 : Int) := by rw [← hkz1]; simp
                      have m3 : (k : Int) + 1 = (k1 : Int) := by omega
                      have hle1 : kz ≤ kz1 := by rw [← hkz, ← hkz1]; exact Nat.mul_le_mul_right z (by omega)
                      have hle2 : kz1 ≤ m := by rw [← hkz1, ← HM.out]; exact Nat.mul_le_mul_right z (by omega)
                      have w1 : IntKind.i64.wrap (kz : Int) = (kz : Int) := by rw [IntKind.wrap_i64]; omega
                      have w2 : IntKind.i64.wrap (kz1 : Int) = (kz1 : Int) := by rw [IntKind.wrap_i64]; omega
                      have w3 : IntKind.i64.wrap (k1 : Int) = (k1 : Int) := by rw [IntKind.wrap_i64]; omega
                      have l1 : (kz : Int) ≤ (kz1 : Int) := by omega
                      have l2 : (kz1 : Int) ≤ (vs.size : Int) := by omega
                      obtain ⟨xo, co, hvv⟩ := hor.out.shape
                      rw [hal] at hvv
                      rw [hvv] at hor hbt
                      clear hvv
                      have c2 : wr.cell? ⟨B + 1, 2, none⟩ = some (.slice xo k co) := hbt.out.cell 2
                      have HOWN : Hid ((wr.alloc (.cells #[.int .i64 (nv : Int)] 3)).drew.ownsRow B 3 1 (.slice xo k co) k (icells acc)) := by
                        have := World.ownsRow.alloc hor.out (.cells #[.int .i64 (nv : Int)] 3)
                        rw [hal] at this
                        exact this
                      have HBLK : Hid (Blk (wr.alloc (.cells #[.int .i64 (nv : Int)] 3)).drew wr.heap.size 3 #[.int .i64 (nv : Int)]) := Blk.new wr _ _
                      have HBAS : Hid (B ≤ (wr.alloc (.cells #[.int .i64 (nv : Int)] 3)).drew.heap.size) := by
                        show B ≤ (wr.alloc _).heap.size
                        simp; omega
                      have HT4 : Hid (∀ w4, (wr.alloc (.cells #[.int .i64 (nv : Int)] 3)).drew.grownBy w4 (Value.slice xo k co).ownBlock → Blk w4 (B + 1) 70 (tcA ⟨id, ty, [], []⟩ (.slice xo k co)) ∧ Blk w4 B 70 (tcA tag0 (.slice none 0 0)) ∧ Below B w w4 ∧ B + 1 < w4.heap.size) := by
                        intro w4 hg
                        have h1 : Blk (wr.alloc (.cells #[.int .i64 (nv : Int)] 3)).drew (B + 1) 70 (tcA ⟨id, ty, [], []⟩ (.slice xo k co)) := hbt.out.alloc _
                        have h2 : Blk (wr.alloc (.cells #[.int .i64 (nv : Int)] 3)).drew B 70 (tcA tag0 (.slice none 0 0)) := hbr.out.alloc _
                        have h3 : Below B w (wr.alloc (.cells #[.int .i64 (nv : Int)] 3)).drew := (hbw.out.alloc (by omega) _).drew
                        exact ⟨(hg.block _ h1.lt (own_blk_ne' h1 HOWN.out.2 (by decide))).trans h1, (hg.block _ h2.lt (own_blk_ne' h2 HOWN.out.2 (by decide))).trans h2, h3.grown hg HBAS.out (fun b hb => (HOWN.out.lt b hb).1), Nat.lt_of_lt_of_le h1.lt hg.size⟩
                      have ca := (hbt.out.alloc (.cells #[.int .i64 (nv : Int)] 3)).cell 2
                      simp [tcA] at ca
                      have HK := Lib.hid hk
                      have hkb : k ≤ 8192 := by omega
                      have HAL := Lib.hid hal
                      clear hacc hnv hkz hk1 hkz1 hk hal HNI hor hbt hbr hbw
                      go_wp2_with fail
                      go_region_law (first
                        | (refine step_call (vs := #[.string (vs.extract kz kz1), .bool big]) rfl rfl ?_ (num_run _ _ _) (HN1.out _) ?_; simp [Act.eval, Act.put]; rintro vX wX ⟨rfl, rfl⟩)
                        | (refine step_app el_int (s := .tmp 100) (x := .tmp 112) rfl rfl (by simp [Act.eval]) HOWN.out (m := 0) (by simp [Act.eval]) HBLK.out rfl (by simp [Value.oneCell']) (by omega) (by unfold maxLen; omega) HBAS.out ?_; intro r2 cap2 w5 ho5 hg5; have ht5 := HT4.out w5 hg5; have k35 := ht5.1.cell 2; have f35 := ht5.1.frozen 2; simp [tcA] at k35))
                      all_goals
                        have hrow5 := orow_more ho5 [nv] rfl (by rw [HAL.out]; rfl)
                        have hput := ht5.1.put 2 (.slice (some ⟨r2, 0, none⟩) (k + 1) cap2)
                        have hf6 : Fr (B + 1) [70] w5 (w5.setCell ⟨B + 1, 2, none⟩ (.slice (some ⟨r2, 0, none⟩) (k + 1) cap2)) := (Fr.refl _ _ _).put ht5.1 (Nat.le_refl _) (by simp) 2 _
                        have HROW : Hid (ORow (w5.setCell ⟨B + 1, 2, none⟩ (.slice (some ⟨r2, 0, none⟩) (k + 1) cap2)) B (.slice (some ⟨r2, 0, none⟩) (k + 1) cap2) (acc ++ [nv])) := hf6.owns hrow5 (by decide)
                        have HB6 : Hid (Blk (w5.setCell ⟨B + 1, 2, none⟩ (.slice (some ⟨r2, 0, none⟩) (k + 1) cap2)) B 70 (tcA tag0 (.slice none 0 0))) := ht5.2.1.other (by simp) _
                        have HBE6 : Hid (Below B w (w5.setCell ⟨B + 1, 2, none⟩ (.slice (some ⟨r2, 0, none⟩) (k + 1) cap2))) := below_put ht5.2.2.1 (by simp) _
                        have HSZ6 : Hid (B + 1 < (w5.setCell ⟨B + 1, 2, none⟩ (.slice (some ⟨r2, 0, none⟩) (k + 1) cap2)).heap.size) := Nat.lt_of_lt_of_le ht5.2.2.2 hf6.size
                        have HPUT : Hid (Blk (w5.setCell ⟨B + 1, 2, none⟩ (.slice (some ⟨r2, 0, none⟩) (k + 1) cap2)) (B + 1) 70 (tcA ⟨id, ty, [], []⟩ (.slice (some ⟨r2, 0, none⟩) (k + 1) cap2))) := by show Blk _ _ _ _; simpa [tcA] using hput
                        have HACC2 : Hid (((List.range (k + 1)).map fun k => nAt big s.data.toList (at_ + k * z) z) = acc ++ [nv]) := by show _ = _; rw [List.range_succ, List.map_append, HACC.out]; simp [HNV.out]
                        clear hput hf6 hrow5 ho5 hg5 ht5 k35 f35 HOWN HBLK HBAS HT4 ca c2
                        go_wp2_with fail
                        go_roundw
                        case rel => exact ⟨k + 1, _, by go_num, by have := HK.out; omega, HPUT.out, HB6.out, by show ORow _ _ _ _; rw [HACC2.out]; exact HROW.out, HBE6.out, HSZ6.out⟩
                        case measure => have := HK.out; simp [intOf]; omega
                    · have dk : decide ((k : Int) < (n : Int)) = false := by simp; omega
                      have hkn2 : k = n := by omega
                      rw [hkn2] at hor
                      obtain ⟨T, hT⟩ : ∃ T, tcA ⟨id, ty, [], []⟩ vv = T := ⟨_, rfl⟩
                      rw [hT] at hbt
                      obtain ⟨xo, co, hvv⟩ := hor.out.shape
                      have hv1 : vv.oneCell' = true := hor.out.one
                      have HTI : Hid ((Try.prog.info? 70).map (·.size) = some T.size) := by show _ = _; rw [← hT]; exact tcA_inf _ _
                      have HT1 : Hid (T.all (·.oneCell') = true) := by show _ = _; rw [← hT]; exact tcA_one _ _ hv1
                      have HTS : Hid ((tcA tag0 (.slice none 0 0)).size = T.size) := by show _ = _; rw [← hT]; rfl
                      have HT := Lib.hid hT
                      clear hT hv1 hvv hkn2
                      go_wp2_with (first | refine wpList_load_row rfl 70 (.tmp 10) rfl (B + 1) (by rfl) 70 T (0, 0) _ (by exact hbt.out) Try.underlying70 rfl (by exact HTI.out) ?_ | refine wpList_store_rowTo rfl 70 (.tmp 8) (.tmp 116) rfl rfl B T (by rfl) (by rfl) 70 _ (by exact hbr.out) (by exact HTI.out) (by exact HTS.out) (by exact HT1.out) ?_)
                      refine bodyPost_ret (v := .tuple #[.agg T, .int .i64 0]) ?_ ?_ ?_
                      · exact results_ct rfl _ _ B 70 T (0, 0) _ _ rfl rfl (hbr.out.rset T) Try.underlying70 rfl HTI.out
                      · rfl
                      refine ⟨?_, by rw [HB.out]; exact below_rset hbw.out (Nat.le_refl _) _⟩
                      unfold RtOk
                      rw [if_neg (by have := HID.out; omega), ← HR2.out]
                      refine ⟨vv, by rw [← HT.out]; rfl, ?_⟩
                      have hr9 : Fr B [70] wr (wr.setRow B T) := ⟨rfl, rfl, rfl, by rw [rset_size]; exact Nat.le_refl _, fun j hj hc => heap_rset_ne wr B j T (fun e => by
                        rcases hc with hc | ⟨cs', t', fr', e', ht'⟩
                        · omega
                        · have h9 := hbr.out
                          unfold Blk at h9
                          rw [e, h9] at e'; injection e' with e'; injection e' with _ e2
                          exact ht' (by rw [← e2]; simp))⟩
                      rw [HB.out]
                      exact hr9.owns hor.out (by decide)
end Go.Proofs.Ytakileiomgaahaa
