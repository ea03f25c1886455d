/-
  The reference of tiff: tag.
-/
import Derived.Test.YtakileiomgaahaaTg
import Derived.Test.YtakileiomgaahaaTi9
import Derived.Test.YtakileiomgaahaaQt
namespace Go.Proofs.Ytakileiomgaahaa
open Go.RowKit

def revN (big : Bool) (l : List UInt8) (k : Nat) : Nat := if big then numB true (l.take k) else numLE (l.drop (l.length - k))
theorem revN_lt (big : Bool) (l : List UInt8) (k : Nat) (hk : k ≤ l.length) : revN big l k < 256 ^ k := by
  unfold revN
  split
  · have := numB_lt true (l.take k); rwa [List.length_take, Nat.min_eq_left hk] at this
  · have := numLE_lt (l.drop (l.length - k)); rwa [List.length_drop, show l.length - (l.length - k) = k by omega] at this
theorem revN_all (big : Bool) (l : List UInt8) : revN big l l.length = numB big l := by
  unfold revN
  cases big with
  | true => rw [if_pos rfl, List.take_length]
  | false => rw [if_neg (by decide), Nat.sub_self, List.drop_zero]; rfl
theorem revN_big (l : List UInt8) (k : Nat) (hk : k < l.length) : revN true l (k + 1) = 256 * revN true l k + l[k].toNat := by
  unfold revN
  rw [if_pos rfl, if_pos rfl, ← List.take_append_getElem hk, numB_snoc_big]
theorem revN_little (l : List UInt8) (k : Nat) (hk : k < l.length) : revN false l (k + 1) = 256 * revN false l k + (l[l.length - 1 - k]'(by omega)).toNat := by
  unfold revN
  rw [if_neg (by decide), if_neg (by decide)]
  have h := List.drop_eq_getElem_cons (show l.length - (k + 1) < l.length by omega)
  rw [h, numLE, show l.length - (k + 1) + 1 = l.length - k by omega]
  have e : l[l.length - (k + 1)]'(by omega) = l[l.length - 1 - k]'(by omega) := by congr 1; omega
  rw [e]
  omega
set_option maxHeartbeats 2000000 in
set_option maxRecDepth 100000 in
theorem rnumber_any (s : ByteArray) (p n : Nat) (big : Bool) (w : World) (hp : p + n ≤ s.size) (h4 : n ≤ 4) (hs : s.size ≤ 1000000000000000) : Calls Try.prog 38 #[.string s, .int .i64 p, .int .i64 n, .bool big] w fun e w' => e = .returned (.int .i64 (nAt big s.data.toList p n : Nat)) ∧ w = w' := by
  obtain ⟨l, hl⟩ : ∃ l, (s.data.toList.drop p).take n = l := ⟨_, rfl⟩
  have hll : l.length = n := by rw [← hl, List.length_take, List.length_drop]; simp; omega
  have HG : Hid (∀ i (_ : i < n), ∃ h1 : i < l.length, ∃ h2 : p + i < s.size, l[i] = s[p + i]) := fun i hi => by
    refine ⟨by omega, by omega, ?_⟩
    simp only [← hl, List.getElem_take, List.getElem_drop]
    rfl
  have HF : Hid (nAt big s.data.toList p n = revN big l n) := by
    show numB big _ = _
    rw [hl, ← hll, revN_all]
  have HLB : Hid (∀ k, k ≤ n → revN big l k < 256 ^ k) := fun k hk => revN_lt big l k (by omega)
  have HBI : Hid (∀ k (_ : k < n), ∃ (h : p + k < s.size), big = true → revN big l (k + 1) = 256 * revN big l k + s[p + k].toNat) := fun k hk => by
    obtain ⟨h1, h2, h3⟩ := HG.out k hk
    exact ⟨h2, fun hb => by rw [hb, revN_big l k h1, h3]⟩
  have HLI : Hid (∀ k (_ : k < n), ∃ (h : p + (n - 1 - k) < s.size), big = false → revN big l (k + 1) = 256 * revN big l k + s[p + (n - 1 - k)].toNat) := fun k hk => by
    obtain ⟨h1, h2, h3⟩ := HG.out (n - 1 - k) (by omega)
    refine ⟨h2, fun hb => ?_⟩
    rw [hb, revN_little l k (by omega), ← h3]
    simp only [hll]
  have HR0 : Hid (revN big l 0 = 0) := by show _ = _; unfold revN; split <;> simp [numB, numLE]
  have HHP : Hid (p + n ≤ s.size) := hp
  have hpb : p ≤ 1000000000000000 := by omega
  rw [HF.out]
  clear hl hll HG HF hp
  generalize revN big l = g at *
  go_enter Try.func38, Try.ntmps38
  go_wp2_with fail
  go_loopw [9, 10] (fun vn vk wr => ∃ k m : Nat, vn = .int .i64 m ∧ vk = .int .i64 k ∧ k ≤ n ∧ Hid (m = g k) ∧ wr = w) (fun _ vk _ => n - (intOf vk).toNat)
  case atStart => exact ⟨0, 0, rfl, rfl, Nat.zero_le _, HR0.out.symm, rfl⟩
  case round =>
    obtain ⟨k, m, rfl, rfl, hk, hm, rfl⟩ := hrel
    by_cases hlt : k < n
    · have dlt : decide ((k : Int) < (n : Int)) = true := by simp; omega
      have hnl : m < 256 ^ k := by rw [hm.out]; exact HLB.out k hk
      have hk3 : k ≤ 3 := by omega
      have hn24 : m < 16777216 := Nat.lt_of_lt_of_le hnl (Nat.pow_le_pow_right (by decide) hk3)
      have HM := hm
      clear hnl hm
      cases big with
      | true =>
        obtain ⟨h2, h3⟩ := HBI.out k hlt
        obtain ⟨q, hq⟩ : ∃ q, p + k = q := ⟨_, rfl⟩
        have mq : (p : Int) + (k : Int) = (q : Int) := by omega
        simp only [hq] at h2 h3
        obtain ⟨b, hb⟩ : ∃ b, s[q] = b := ⟨_, rfl⟩
        have hb8 := b.toNat_lt
        have HN : Hid (g (k + 1) = 256 * m + b.toNat) := by show _ = _; rw [h3 trivial, HM.out, hb]
        have m3 : wrap64 (b.toNat : Int) = (b.toNat : Int) := wrap64_byte' _
        clear h3 hq HM HLI HBI
        go_wp2_with fail
        refine ⟨⟨k + 1, 256 * m + b.toNat, by congr 1, by go_num, by omega, HN.out.symm, trivial⟩, by simp [intOf]; omega⟩
      | false =>
        obtain ⟨h2, h3⟩ := HLI.out k hlt
        obtain ⟨q, hq⟩ : ∃ q, p + (n - 1 - k) = q := ⟨_, rfl⟩
        have mq : (p : Int) + (n : Int) - 1 - (k : Int) = (q : Int) := by omega
        simp only [hq] at h2 h3
        obtain ⟨b, hb⟩ : ∃ b, s[q] = b := ⟨_, rfl⟩
        have hb8 := b.toNat_lt
        have HN : Hid (g (k + 1) = 256 * m + b.toNat) := by show _ = _; rw [h3 trivial, HM.out, hb]
        have m3 : wrap64 (b.toNat : Int) = (b.toNat : Int) := wrap64_byte' _
        clear h3 hq HM HLI HBI
        go_wp2_with fail
        refine ⟨⟨k + 1, 256 * m + b.toNat, by congr 1, by go_num, by omega, HN.out.symm, trivial⟩, by simp [intOf]; omega⟩
    · have dlt : decide ((k : Int) < (n : Int)) = false := by simp; omega
      have hkn : k = n := by omega
      have HN : Hid (g n = m) := by show _ = _; rw [hm.out, hkn]
      clear hm hkn
      go_wp2_with fail
      go_ret
      exact ⟨by rw [HN.out]; rfl, rfl⟩
set_option maxHeartbeats 1000000 in
theorem rsize_any (ty : Nat) (w : World) (ht : ty ≤ 65535) : Calls Try.prog 74 #[.int .i64 ty] w fun e w' => e = .returned (.int .i64 (szT ty : Nat)) ∧ w = w' := by
  go_enter Try.func74, Try.ntmps74
  by_cases h3 : ty = 3
  · subst h3
    go_wp2_with fail
    go_ret
    exact ⟨rfl, rfl⟩
  have e3 : ((ty : Int) == 3) = false := by rw [beq_eq_false_iff_ne]; omega
  by_cases h4 : ty = 4
  · subst h4
    go_wp2_with fail
    go_ret
    exact ⟨rfl, rfl⟩
  have e4 : ((ty : Int) == 4) = false := by rw [beq_eq_false_iff_ne]; omega
  have HZ : Hid (szT ty = 1) := by show _ = _; unfold szT; rw [if_neg h3, if_neg h4]
  clear h3 h4
  go_wp2_with fail
  go_ret
  exact ⟨by rw [HZ.out]; rfl, rfl⟩
end Go.Proofs.Ytakileiomgaahaa
namespace Go.Proofs.Ytakileiomgaahaa
open Go.RowKit

theorem rnum_run (u v x y : Value) (w : World) : (callFunc 38 #[u, v, x, y]).run Try.prog w = .ok (.enter 38 #[u, v, x, y]) w := by kernel_rfl
theorem rsize_run (u : Value) (w : World) : (callFunc 74 #[u]).run Try.prog w = .ok (.enter 74 #[u]) w := by kernel_rfl
def RgOk (B : Nat) (r : Except Nat Tg) (e : Ending) (w : World) : Prop :=
  match r with
  | .error k => ∃ t, e = .returned (.tuple #[.agg (tcA t (.slice none 0 0)), .int .i64 k])
  | .ok t => ∃ v, e = .returned (.tuple #[.agg (tcA t v), .int .i64 0]) ∧ ORow w B v t.vals

set_option maxHeartbeats 4000000 in
set_option maxRecDepth 100000 in
theorem rtag_any (s : ByteArray) (p : Nat) (big : Bool) (w : World) (hs : s.size ≤ 1000000000000000) (hp : p + 12 ≤ s.size) :
    Calls Try.prog 39 #[.string s, .int .i64 p, .bool big] w fun e w' => RgOk w.heap.size (tagP big s.data.toList p) e w' ∧ Below w.heap.size w w' := by
  have HSZ : Hid (s.data.toList.length = s.size) := ba_size s
  have HN0 := Lib.hid (fun w => rnumber_any s p 2 big w (by omega) (by decide) hs)
  have HN2 := Lib.hid (fun w => rnumber_any s (p + 2) 2 big w (by omega) (by decide) hs)
  have HN4 := Lib.hid (fun w => rnumber_any s (p + 4) 4 big w (by omega) (by decide) hs)
  have HN8 := Lib.hid (fun w => rnumber_any s (p + 8) 4 big w (by omega) (by decide) hs)
  have HNK : Hid (∀ (a z : Nat) w, a + z ≤ s.size → z ≤ 4 → Calls Try.prog 38 #[.string s, .int .i64 a, .int .i64 z, .bool big] w fun e w' => e = .returned (.int .i64 (nAt big s.data.toList a z : Nat)) ∧ w = w') := fun a z w h1 h2 => rnumber_any s a z big w h1 h2 hs
  have hl0 := nAt_lt big s.data.toList p 2
  have hl2 := nAt_lt big s.data.toList (p + 2) 2
  have hl4 := nAt_lt big s.data.toList (p + 4) 4
  have hl8 := nAt_lt big s.data.toList (p + 8) 4
  obtain ⟨res, hres⟩ : ∃ r, tagP big s.data.toList p = r := ⟨_, rfl⟩
  rw [hres]
  unfold tagP plT at hres
  obtain ⟨id, hid⟩ : ∃ n, nAt big s.data.toList p 2 = n := ⟨_, rfl⟩
  obtain ⟨ty, hty⟩ : ∃ n, nAt big s.data.toList (p + 2) 2 = n := ⟨_, rfl⟩
  obtain ⟨n, hn⟩ : ∃ n, nAt big s.data.toList (p + 4) 4 = n := ⟨_, rfl⟩
  obtain ⟨n8, hn8⟩ : ∃ n, nAt big s.data.toList (p + 8) 4 = n := ⟨_, rfl⟩
  rw [hid] at HN0 hl0
  rw [hty] at HN2 hl2
  rw [hn] at HN4 hl4
  rw [hn8] at HN8 hl8
  rw [hid, hty, hn, hn8] at hres
  have HR := Lib.hid hres
  clear hres hid hty hn hn8
  have hl0 : id ≤ 65535 := by have : id < 65536 := hl0; omega
  have hl2 : ty ≤ 65535 := by have : ty < 65536 := hl2; omega
  have hl4 : n ≤ 4294967295 := by have : n < 4294967296 := hl4; omega
  have hl8 : n8 ≤ 4294967295 := by have : n8 < 4294967296 := hl8; omega
  have HSIZ := Lib.hid (fun w => rsize_any ty w hl2)
  obtain ⟨p2, hp2⟩ : ∃ q, q = p + 2 := ⟨_, rfl⟩
  obtain ⟨p4, hp4⟩ : ∃ q, q = p + 4 := ⟨_, rfl⟩
  obtain ⟨p8, hp8⟩ : ∃ q, q = p + 8 := ⟨_, rfl⟩
  rw [← hp2] at HN2
  rw [← hp4] at HN4
  rw [← hp8] at HN8 HR
  have a2 : (p : Int) + 2 = (p2 : Int) := by omega
  have a4 : (p : Int) + 4 = (p4 : Int) := by omega
  have a8 : (p : Int) + 8 = (p8 : Int) := by omega
  have HP8 : Hid (p8 + 4 ≤ s.size) := by show _ ≤ _; omega
  have hp8s : p8 ≤ 1000000000000000 := by omega
  have hps : p ≤ 1000000000000000 := by omega
  have hw2 : IntKind.i64.wrap (p2 : Int) = (p2 : Int) := by rw [IntKind.wrap_i64]; omega
  have hw4 : IntKind.i64.wrap (p4 : Int) = (p4 : Int) := by rw [IntKind.wrap_i64]; omega
  have hw8 : IntKind.i64.wrap (p8 : Int) = (p8 : Int) := by rw [IntKind.wrap_i64]; omega
  clear hp2 hp4 hp8 hp hps
  go_enter Try.func39, Try.ntmps39
  have hb0 := Blk.new w 70 (tcA tag0 (.slice none 0 0))
  have hbe0 := (Below.refl w.heap.size w).alloc (Nat.le_refl _) (.cells (tcA tag0 (.slice none 0 0)) 70)
  have hsz0 : (w.alloc (.cells (tcA tag0 (.slice none 0 0)) 70)).heap.size = w.heap.size + 1 := by simp
  go_upto_region 1 with fail
  change Blk (w.alloc (.cells #[.int .i64 0, .int .i64 0, .slice none 0 0, .string ⟨#[]⟩] 70)) w.heap.size 70 (tcA tag0 (.slice none 0 0)) at hb0
  change Below w.heap.size w (w.alloc (.cells #[.int .i64 0, .int .i64 0, .slice none 0 0, .string ⟨#[]⟩] 70)) at hbe0
  change (w.alloc (.cells #[.int .i64 0, .int .i64 0, .slice none 0 0, .string ⟨#[]⟩] 70)).heap.size = w.heap.size + 1 at hsz0
  generalize w.alloc (.cells #[.int .i64 0, .int .i64 0, .slice none 0 0, .string ⟨#[]⟩] 70) = wz at *
  generalize hB : w.heap.size = B at *
  have HB := Lib.hid hB
  have HB0 := Lib.hid hb0
  have HBE := Lib.hid hbe0
  have HSZ0 := Lib.hid hsz0
  clear hB hb0 hbe0 hsz0
  go_wp2_with fail
  refine (HN0.out _).mono ?_
  rintro e w1 ⟨rfl, rfl⟩
  go_wp2_with fail
  refine (HN2.out _).mono ?_
  rintro e w1 ⟨rfl, rfl⟩
  have hk1 := Blk.new wz 70 (tcA ⟨id, ty, [], []⟩ (.slice none 0 0))
  have hr1 := HB0.out.alloc (.cells (tcA ⟨id, ty, [], []⟩ (.slice none 0 0)) 70)
  have hbe1 := HBE.out.alloc (by rw [HSZ0.out]; omega) (.cells (tcA ⟨id, ty, [], []⟩ (.slice none 0 0)) 70)
  have hszz := HSZ0.out
  rw [hszz] at hk1
  go_upto_region 2 with fail
  change Blk (wz.alloc (.cells #[.int .i64 (id : Int), .int .i64 (ty : Int), .slice none 0 0, .string ⟨#[]⟩] 70)) (B + 1) 70 (tcA ⟨id, ty, [], []⟩ (.slice none 0 0)) at hk1
  change Blk (wz.alloc (.cells #[.int .i64 (id : Int), .int .i64 (ty : Int), .slice none 0 0, .string ⟨#[]⟩] 70)) B 70 (tcA tag0 (.slice none 0 0)) at hr1
  change Below B w (wz.alloc (.cells #[.int .i64 (id : Int), .int .i64 (ty : Int), .slice none 0 0, .string ⟨#[]⟩] 70)) at hbe1
  generalize wz.alloc (.cells #[.int .i64 (id : Int), .int .i64 (ty : Int), .slice none 0 0, .string ⟨#[]⟩] 70) = wc at *
  have q1 : wc.cell? ⟨B + 1, 1, none⟩ = some (.int .i64 (ty : Int)) := hk1.cell 1
  have HBR := Lib.hid hr1
  have HBW := Lib.hid hbe1
  obtain ⟨T, hT⟩ : ∃ T, tcA ⟨id, ty, [], []⟩ (.slice none 0 0) = T := ⟨_, rfl⟩
  have HBT0 := Lib.hid hk1
  rw [hT] at hk1
  have HBT := Lib.hid hk1
  have HTI : Hid ((Try.prog.info? 70).map (·.size) = some T.size) := by show _ = _; rw [← hT]; exact tcA_inf _ _
  have HT1 : Hid (T.all (·.oneCell') = true) := by show _ = _; rw [← hT]; exact tcA_one _ _ rfl
  have HTS : Hid ((tcA tag0 (.slice none 0 0)).size = T.size) := by show _ = _; rw [← hT]; rfl
  have HT := Lib.hid hT
  clear hk1 hr1 hbe1 hszz hT HSZ0 HB0 HBE HN0 HN2
  go_wp2_with fail
  refine (HN4.out _).mono ?_
  rintro e w1 ⟨rfl, rfl⟩
  clear HN4
  by_cases hty : ty < 1 ∨ 4 < ty
  · have HF : Hid (res = .error 8) := by show _ = _; rw [← HR.out, if_pos hty]
    by_cases h1 : ty < 1
    · have d1 : decide ((ty : Int) < 1) = true := by simp; omega
      clear hty
      go_wp2_with (first | refine wpList_load_row rfl 70 (.tmp 8) rfl (B + 1) (by rfl) 70 T (0, 0) _ (by exact HBT.out) Try.underlying70 rfl (by exact HTI.out) ?_ | refine wpList_store_rowTo rfl 70 (.tmp 6) (.tmp 36) rfl rfl B T (by rfl) (by rfl) 70 _ (by exact HBR.out) (by exact HTI.out) (by exact HTS.out) (by exact HT1.out) ?_)
      refine bodyPost_ret (v := .tuple #[.agg T, .int .i64 8]) (results_ct rfl _ _ B 70 T (0, 0) _ _ rfl rfl (HBR.out.rset T) Try.underlying70 rfl HTI.out) rfl ⟨?_, by rw [HB.out]; exact below_rset HBW.out (Nat.le_refl _) _⟩
      rw [HF.out]
      exact ⟨⟨id, ty, [], []⟩, by rw [HT.out]; rfl⟩
    · have d1 : decide ((ty : Int) < 1) = false := by simp; omega
      have d4 : decide ((4 : Int) < (ty : Int)) = true := by simp; omega
      have h4 : 4 < ty := by omega
      clear hty
      go_wp2_with (first | refine wpList_load_row rfl 70 (.tmp 8) rfl (B + 1) (by rfl) 70 T (0, 0) _ (by exact HBT.out) Try.underlying70 rfl (by exact HTI.out) ?_ | refine wpList_store_rowTo rfl 70 (.tmp 6) (.tmp 36) rfl rfl B T (by rfl) (by rfl) 70 _ (by exact HBR.out) (by exact HTI.out) (by exact HTS.out) (by exact HT1.out) ?_)
      refine bodyPost_ret (v := .tuple #[.agg T, .int .i64 8]) (results_ct rfl _ _ B 70 T (0, 0) _ _ rfl rfl (HBR.out.rset T) Try.underlying70 rfl HTI.out) rfl ⟨?_, by rw [HB.out]; exact below_rset HBW.out (Nat.le_refl _) _⟩
      rw [HF.out]
      exact ⟨⟨id, ty, [], []⟩, by rw [HT.out]; rfl⟩
  rw [if_neg hty] at HR
  have h1ty : 1 ≤ ty := by omega
  have h4ty : ty ≤ 4 := by omega
  have d1 : decide ((ty : Int) < 1) = false := by simp; omega
  have d4 : decide ((4 : Int) < (ty : Int)) = false := by simp; omega
  obtain ⟨bad, hbad⟩ : ∃ b, decide (mostT ty < n) = b := ⟨_, rfl⟩
  have HBAD := Lib.hid hbad
  clear hty hbad hl0 hl2
  go_upto_region 5 with fail
  go_cut [47] from 30 (fun v wx => v = .bool bad ∧ wx = wc)
  case first =>
    clear HR
    by_cases h2 : ty = 2
    · have e2 : ((ty : Int) != 2) = false := by rw [h2]; rfl
      have e3 : decide ((8192 : Int) < (n : Int)) = bad := by rw [← HBAD.out, h2]; show _ = decide (8192 < n); simp [decide_eq_decide]; omega
      clear h2
      go_wp2_with fail
      go_meet
      case rel => exact ⟨rfl, rfl⟩
    · have e2 : ((ty : Int) != 2) = true := by unfold bne; rw [Bool.not_eq_true', beq_eq_false_iff_ne]; omega
      have e4 : mostT ty = 256 := if_neg h2
      by_cases h3 : 256 < n
      · have e3 : decide ((256 : Int) < (n : Int)) = true := by simp; omega
        have e5 : bad = true := by rw [← HBAD.out, e4, decide_eq_true h3]
        clear h2 e4
        go_wp2_with fail
        go_meet
        case rel => exact ⟨by rw [e5], rfl⟩
      · have e3 : decide ((256 : Int) < (n : Int)) = false := by simp; omega
        have e6 : decide ((8192 : Int) < (n : Int)) = false := by simp; omega
        have e5 : bad = false := by rw [← HBAD.out, e4, decide_eq_false h3]
        clear h2 e4
        go_wp2_with fail
        go_meet
        case rel => exact ⟨by rw [e5], rfl⟩
  case rest =>
    obtain ⟨rfl, hwc⟩ := hcut
    have hwc2 := hwc.symm
    subst hwc2
    clear hwc d1 d4
    cases bad with
    | true =>
      have HF : Hid (res = .error 3) := by show _ = _; rw [← HR.out, if_pos (of_decide_eq_true HBAD.out)]
      go_wp2_with (first | refine wpList_load_row rfl 70 (.tmp 8) rfl (B + 1) (by rfl) 70 T (0, 0) _ (by exact HBT.out) Try.underlying70 rfl (by exact HTI.out) ?_ | refine wpList_store_rowTo rfl 70 (.tmp 6) (.tmp 48) rfl rfl B T (by rfl) (by rfl) 70 _ (by exact HBR.out) (by exact HTI.out) (by exact HTS.out) (by exact HT1.out) ?_)
      refine bodyPost_ret (v := .tuple #[.agg T, .int .i64 3]) (results_ct rfl _ _ B 70 T (0, 0) _ _ rfl rfl (HBR.out.rset T) Try.underlying70 rfl HTI.out) rfl ⟨?_, by rw [HB.out]; exact below_rset HBW.out (Nat.le_refl _) _⟩
      rw [HF.out]
      exact ⟨⟨id, ty, [], []⟩, by rw [HT.out]; rfl⟩
    | false =>
      have hn0 := of_decide_eq_false HBAD.out
      rw [if_neg hn0] at HR
      have hm8 : mostT ty ≤ 8192 := by unfold mostT; split <;> omega
      have hn8192 : n ≤ 8192 := by omega
      have hz4 : 1 ≤ szT ty ∧ szT ty ≤ 4 := by unfold szT; by_cases h3 : ty = 3 <;> by_cases h4 : ty = 4 <;> simp [h3, h4]
      obtain ⟨z, hz⟩ : ∃ z, szT ty = z := ⟨_, rfl⟩
      rw [hz] at HR hz4 HSIZ
      have HZ := Lib.hid hz
      obtain ⟨hz1, hz4⟩ := hz4
      obtain ⟨m, hm⟩ : ∃ m, n * z = m := ⟨_, rfl⟩
      have hmi : (n : Int) * (z : Int) = (m : Int) := by rw [← hm]; simp
      have hmb : m ≤ 32768 := by rw [← hm]; exact Nat.mul_le_mul hn8192 hz4
      have HM := Lib.hid hm
      rw [hm] at HR
      clear hm hz hn0 hm8 HBAD
      go_upto_region 7 with fail
      go_wp2_with fail
      refine (HSIZ.out _).mono ?_
      rintro e w1 ⟨rfl, rfl⟩
      go_upto_if 57 with fail
      go_cut [10] from 18 (fun v wx => v = .int .i64 ((if 4 < m then n8 else p8 : Nat) : Int) ∧ wx = wc)
      case first =>
        clear HR
        by_cases h4 : 4 < m
        · have d4 : decide ((4 : Int) < (m : Int)) = true := by simp; omega
          have HI : Hid ((if 4 < m then n8 else p8 : Nat) = n8) := if_pos h4
          go_wp2_with fail
          refine (HN8.out _).mono ?_
          rintro e w1 ⟨rfl, rfl⟩
          go_wp2_with fail
          go_meet
          case rel => exact ⟨by rw [HI.out], rfl⟩
        · have d4 : decide ((4 : Int) < (m : Int)) = false := by simp; omega
          have HI : Hid ((if 4 < m then n8 else p8 : Nat) = p8) := if_neg h4
          go_wp2_with fail
          go_meet
          case rel => exact ⟨by rw [HI.out], rfl⟩
      case rest =>
        obtain ⟨rfl, hwc⟩ := hcut
        have hwc2 := hwc.symm
        subst hwc2
        clear hwc
        have hat : (if 4 < m then n8 else p8 : Nat) ≤ 1000000000000000 := by split <;> omega
        have HAT1 : Hid (ty = 2 → (if 4 < n * 1 then n8 else p8 : Nat) = (if 4 < m then n8 else p8 : Nat)) := by
          intro h
          have : n * 1 = m := by rw [← HM.out, ← HZ.out, h]; rfl
          rw [this]
        have HR2 : Hid ((if s.data.toList.length < (if 4 < m then n8 else p8 : Nat) + m then (Except.error 2 : Except Nat Tg) else if ty = 2 then (if n = 0 then (Except.error 4 : Except Nat Tg) else Except.ok (⟨id, 2, [], (s.data.toList.drop (if 4 < m then n8 else p8 : Nat)).take (n - 1)⟩ : Tg)) else Except.ok (⟨id, ty, (List.range n).map fun k => nAt big s.data.toList ((if 4 < m then n8 else p8 : Nat) + k * z) z, []⟩ : Tg)) = res) := by
          show _ = _
          rw [← HR.out]
          by_cases h : ty = 2
          · rw [HAT1.out h]
          · rw [if_neg h, if_neg h]
        clear HR HAT1
        obtain ⟨at_, hat_⟩ : ∃ q, (if 4 < m then n8 else p8 : Nat) = q := ⟨_, rfl⟩
        rw [hat_] at hat HR2 ⊢
        obtain ⟨en, hen⟩ : ∃ en, en = at_ + m := ⟨_, rfl⟩
        rw [← hen, HSZ.out] at HR2
        clear hat_ HN8 hw2 hw4 hw8 a2 a4 a8 hp8s hl4 hl8
        go_upto_region 10 with fail
        by_cases hlen : s.size < en
        · have HF : Hid (res = .error 2) := by show _ = _; rw [← HR2.out, if_pos hlen]
          by_cases hfl : s.size < at_
          · have df : decide ((s.size : Int) < (at_ : Int)) = true := by simp; omega
            clear hlen
            clear hen
            go_wp2_with (first | refine wpList_load_row rfl 70 (.tmp 8) rfl (B + 1) (by rfl) 70 T (0, 0) _ (by exact HBT.out) Try.underlying70 rfl (by exact HTI.out) ?_ | refine wpList_store_rowTo rfl 70 (.tmp 6) (.tmp 75) rfl rfl B T (by rfl) (by rfl) 70 _ (by exact HBR.out) (by exact HTI.out) (by exact HTS.out) (by exact HT1.out) ?_)
            refine bodyPost_ret (v := .tuple #[.agg T, .int .i64 2]) (results_ct rfl _ _ B 70 T (0, 0) _ _ rfl rfl (HBR.out.rset T) Try.underlying70 rfl HTI.out) rfl ⟨?_, by rw [HB.out]; exact below_rset HBW.out (Nat.le_refl _) _⟩
            rw [HF.out]
            exact ⟨⟨id, ty, [], []⟩, by rw [HT.out]; rfl⟩
          · have df : decide ((s.size : Int) < (at_ : Int)) = false := by simp; omega
            have dg : decide ((s.size : Int) - (at_ : Int) < (m : Int)) = true := by simp; omega
            clear hlen
            clear hen
            go_wp2_with (first | refine wpList_load_row rfl 70 (.tmp 8) rfl (B + 1) (by rfl) 70 T (0, 0) _ (by exact HBT.out) Try.underlying70 rfl (by exact HTI.out) ?_ | refine wpList_store_rowTo rfl 70 (.tmp 6) (.tmp 75) rfl rfl B T (by rfl) (by rfl) 70 _ (by exact HBR.out) (by exact HTI.out) (by exact HTS.out) (by exact HT1.out) ?_)
            refine bodyPost_ret (v := .tuple #[.agg T, .int .i64 2]) (results_ct rfl _ _ B 70 T (0, 0) _ _ rfl rfl (HBR.out.rset T) Try.underlying70 rfl HTI.out) rfl ⟨?_, by rw [HB.out]; exact below_rset HBW.out (Nat.le_refl _) _⟩
            rw [HF.out]
            exact ⟨⟨id, ty, [], []⟩, by rw [HT.out]; rfl⟩
        · rw [if_neg hlen] at HR2
          have df : decide ((s.size : Int) < (at_ : Int)) = false := by simp; omega
          have dg : decide ((s.size : Int) - (at_ : Int) < (m : Int)) = false := by simp; omega
          have hfl : ¬ s.size < at_ := by omega
          have HEN : Hid (at_ + m ≤ s.size) := by show _ ≤ _; omega
          clear hlen hen
          go_upto_region 12 with fail
          clear df dg
          by_cases h2 : ty = 2
          · have e2 : ((ty : Int) == 2) = true := by rw [h2]; rfl
            rw [if_pos h2] at HR2
            by_cases h0 : n = 0
            · have e0 : ((n : Int) == 0) = true := by rw [h0]; rfl
              have HF : Hid (res = .error 4) := by show _ = _; rw [← HR2.out, if_pos h0]
              clear h0 h2
              go_wp2_with (first | refine wpList_load_row rfl 70 (.tmp 8) rfl (B + 1) (by rfl) 70 T (0, 0) _ (by exact HBT.out) Try.underlying70 rfl (by exact HTI.out) ?_ | refine wpList_store_rowTo rfl 70 (.tmp 6) (.tmp 81) rfl rfl B T (by rfl) (by rfl) 70 _ (by exact HBR.out) (by exact HTI.out) (by exact HTS.out) (by exact HT1.out) ?_)
              refine bodyPost_ret (v := .tuple #[.agg T, .int .i64 4]) (results_ct rfl _ _ B 70 T (0, 0) _ _ rfl rfl (HBR.out.rset T) Try.underlying70 rfl HTI.out) rfl ⟨?_, by rw [HB.out]; exact below_rset HBW.out (Nat.le_refl _) _⟩
              rw [HF.out]
              exact ⟨⟨id, ty, [], []⟩, by rw [HT.out]; rfl⟩
            · have e0 : ((n : Int) == 0) = false := by rw [beq_eq_false_iff_ne]; omega
              rw [if_neg h0] at HR2
              have hzz : z = 1 := by rw [← HZ.out, h2]; rfl
              have hnm : n = m := by rw [← HM.out, hzz]; omega
              obtain ⟨q, hq⟩ : ∃ q : Nat, q = at_ + n - 1 := ⟨_, rfl⟩
              have hqi : (at_ : Int) + (n : Int) - 1 = (q : Int) := by omega
              have hq1 : (at_ : Int) ≤ (q : Int) := by omega
              have hq2 : (q : Int) ≤ (s.size : Int) := by have := HEN.out; omega
              have HTX : Hid ((s.extract at_ q).data.toList = (s.data.toList.drop at_).take (n - 1)) := by
                show _ = _
                rw [extract_list, List.drop_take]; congr 1; omega
              have q3 : wc.cell? ⟨B + 1, 3, none⟩ = some (.string ⟨#[]⟩) := HBT0.out.cell 3
              have f3 := HBT0.out.frozen 3
              have HTY2 := Lib.hid h2
              have HB3 : Hid (Blk (wc.setCell ⟨B + 1, 3, none⟩ (.string (s.extract at_ q))) (B + 1) 70 (tcA ⟨id, ty, [], (s.extract at_ q).data.toList⟩ (.slice none 0 0))) := HBT0.out.put 3 _
              have HBR3 : Hid (Blk (wc.setCell ⟨B + 1, 3, none⟩ (.string (s.extract at_ q))) B 70 (tcA tag0 (.slice none 0 0))) := HBR.out.other (by simp) _
              have HBW3 : Hid (Below B w (wc.setCell ⟨B + 1, 3, none⟩ (.string (s.extract at_ q)))) := below_put HBW.out (by simp) _
              clear h2 h0 hzz hnm hq HBT HT HTI HT1 HTS
              go_upto_region 16 with fail
              generalize wc.setCell ⟨B + 1, 3, none⟩ (.string (s.extract at_ q)) = w3 at *
              obtain ⟨U, hU⟩ : ∃ T, tcA ⟨id, ty, [], (s.extract at_ q).data.toList⟩ (.slice none 0 0) = T := ⟨_, rfl⟩
              rw [hU] at HB3
              have HTI : Hid ((Try.prog.info? 70).map (·.size) = some U.size) := by show _ = _; rw [← hU]; exact tcA_inf _ _
              have HT1 : Hid (U.all (·.oneCell') = true) := by show _ = _; rw [← hU]; exact tcA_one _ _ rfl
              have HTS : Hid ((tcA tag0 (.slice none 0 0)).size = U.size) := by show _ = _; rw [← hU]; rfl
              have HT := Lib.hid hU
              clear hU
              go_wp2_with (first | refine wpList_load_row rfl 70 (.tmp 8) rfl (B + 1) (by rfl) 70 U (0, 0) _ (by exact HB3.out) Try.underlying70 rfl (by exact HTI.out) ?_ | refine wpList_store_rowTo rfl 70 (.tmp 6) (.tmp 90) rfl rfl B U (by rfl) (by rfl) 70 _ (by exact HBR3.out) (by exact HTI.out) (by exact HTS.out) (by exact HT1.out) ?_)
              refine bodyPost_ret (v := .tuple #[.agg U, .int .i64 0]) (results_ct rfl _ _ B 70 U (0, 0) _ _ rfl rfl (HBR3.out.rset U) Try.underlying70 rfl HTI.out) rfl ⟨?_, by rw [HB.out]; exact below_rset HBW3.out (Nat.le_refl _) _⟩
              rw [← HR2.out]
              refine ⟨.slice none 0 0, ?_, orow_nil _ _⟩
              rw [← HT.out, HTX.out, HTY2.out]
          · have e2 : ((ty : Int) == 2) = false := by rw [beq_eq_false_iff_ne]; omega
            rw [if_neg h2] at HR2
            clear h2 HBT HT HTI HT1 HTS T
            go_upto_region 17 with fail
            clear q1
            go_wp2_with fail
            go_loopw [12] (fun vk wr => ∃ (k : Nat) (vv : Value), vk = .int .i64 k ∧ k ≤ n ∧ Hid (Blk wr (B + 1) 70 (tcA ⟨id, ty, [], []⟩ vv)) ∧ Hid (Blk wr B 70 (tcA tag0 (.slice none 0 0))) ∧ Hid (ORow wr B vv ((List.range k).map fun k => nAt big s.data.toList (at_ + k * z) z)) ∧ Hid (Below B w wr) ∧ B + 1 < wr.heap.size) (fun vk _ => n - (intOf vk).toNat)
            case atStart => exact ⟨0, .slice none 0 0, rfl, Nat.zero_le _, HBT0.out, HBR.out, orow_nil _ _, HBW.out, HBT0.out.lt⟩
            case round =>
              obtain ⟨k, vv, rfl, hkn, hbt, hbr, hor, hbw, hszr⟩ := hrel
              clear HBT0 HBR HBW
              by_cases hk : k < n
              · have dk : decide ((k : Int) < (n : Int)) = true := by simp; omega
                obtain ⟨acc, hacc⟩ : ∃ acc, ((List.range k).map fun k => nAt big s.data.toList (at_ + k * z) z) = acc := ⟨_, rfl⟩
                have hal : acc.length = k := by rw [← hacc]; simp
                rw [hacc] at hor
                have HACC := Lib.hid hacc
                obtain ⟨nv, hnv⟩ : ∃ nv, nAt big s.data.toList (at_ + k * z) z = nv := ⟨_, rfl⟩
                have hle1 : (k + 1) * z ≤ m := by rw [← HM.out]; exact Nat.mul_le_mul_right z hk
                rw [Nat.succ_mul] at hle1
                have HN1 := Lib.hid (fun w => HNK.out (at_ + k * z) z w (by have := HEN.out; omega) (by omega))
                rw [hnv] at HN1
                have HNV := Lib.hid hnv
                obtain ⟨kz, hkz⟩ : ∃ kz, k * z = kz := ⟨_, rfl⟩
                rw [hkz] at HN1 hle1
                obtain ⟨ak, hak⟩ : ∃ ak, at_ + kz = ak := ⟨_, rfl⟩
                rw [hak] at HN1
                have m1 : (k : Int) * (z : Int) = (kz : Int) := by rw [← hkz]; simp
                have m2 : (at_ : Int) + (kz : Int) = (ak : Int) := by omega
                have hkzb : kz ≤ 32768 := by omega
                have w1 : IntKind.i64.wrap (kz : Int) = (kz : Int) := by rw [IntKind.wrap_i64]; omega
                have w2 : IntKind.i64.wrap (ak : Int) = (ak : Int) := by rw [IntKind.wrap_i64]; omega
                obtain ⟨xo, co, hvv⟩ := hor.out.shape
                rw [hal] at hvv
                rw [hvv] at hor hbt
                clear hvv
                have HN1' : Hid (∀ w, Calls Try.prog 38 #[.string s, .int .i64 ak, .int .i64 z, .bool big] w fun e w' => ∃ v, e = .returned v ∧ (v = .int .i64 (nv : Nat) ∧ w = w')) := fun w => (HN1.out w).mono fun e w' h => ⟨_, h.1, rfl, h.2⟩
                have HSI' : Hid (∀ w, Calls Try.prog 74 #[.int .i64 ty] w fun e w' => ∃ v, e = .returned v ∧ (v = .int .i64 (z : Nat) ∧ w = w')) := fun w => (HSIZ.out w).mono fun e w' h => ⟨_, h.1, rfl, h.2⟩
                have c1 : wr.cell? ⟨B + 1, 1, none⟩ = some (.int .i64 (ty : Int)) := hbt.out.cell 1
                have c2 : wr.cell? ⟨B + 1, 2, none⟩ = some (.slice xo k co) := hbt.out.cell 2
                have HOWN : Hid ((wr.alloc (.cells #[.int .i64 (nv : Int)] 3)).drew.ownsRow B 3 1 (.slice xo k co) k (icells acc)) := by
                  have := World.ownsRow.alloc hor.out (.cells #[.int .i64 (nv : Int)] 3)
                  rw [hal] at this
                  exact this
                have HBLK : Hid (Blk (wr.alloc (.cells #[.int .i64 (nv : Int)] 3)).drew wr.heap.size 3 #[.int .i64 (nv : Int)]) := Blk.new wr _ _
                have HBAS : Hid (B ≤ (wr.alloc (.cells #[.int .i64 (nv : Int)] 3)).drew.heap.size) := by
                  show B ≤ (wr.alloc _).heap.size
                  simp; omega
                have HT4 : Hid (∀ w4, (wr.alloc (.cells #[.int .i64 (nv : Int)] 3)).drew.grownBy w4 (Value.slice xo k co).ownBlock → Blk w4 (B + 1) 70 (tcA ⟨id, ty, [], []⟩ (.slice xo k co)) ∧ Blk w4 B 70 (tcA tag0 (.slice none 0 0)) ∧ Below B w w4 ∧ B + 1 < w4.heap.size) := by
                  intro w4 hg
                  have h1 : Blk (wr.alloc (.cells #[.int .i64 (nv : Int)] 3)).drew (B + 1) 70 (tcA ⟨id, ty, [], []⟩ (.slice xo k co)) := hbt.out.alloc _
                  have h2 : Blk (wr.alloc (.cells #[.int .i64 (nv : Int)] 3)).drew B 70 (tcA tag0 (.slice none 0 0)) := hbr.out.alloc _
                  have h3 : Below B w (wr.alloc (.cells #[.int .i64 (nv : Int)] 3)).drew := (hbw.out.alloc (by omega) _).drew
                  exact ⟨(hg.block _ h1.lt (own_blk_ne' h1 HOWN.out.2 (by decide))).trans h1, (hg.block _ h2.lt (own_blk_ne' h2 HOWN.out.2 (by decide))).trans h2, h3.grown hg HBAS.out (fun b hb => (HOWN.out.lt b hb).1), Nat.lt_of_lt_of_le h1.lt hg.size⟩
                have ca := (hbt.out.alloc (.cells #[.int .i64 (nv : Int)] 3)).cell 2
                simp [tcA] at ca
                have HK := Lib.hid hk
                have hkb : k ≤ 8192 := by omega
                have HAL := Lib.hid hal
                clear hacc hnv hkz hak hal HNK hor hbt hbr hbw hle1
                go_upto_region 20 with fail
                go_region_law (first
                  | (refine step_call (vs := #[.int .i64 (ty : Int)]) rfl rfl ?_ (rsize_run _ _) (HSI'.out _) ?_; simp [Act.eval, Act.put]; rintro vX wX ⟨rfl, rfl⟩)
                  | (refine step_call (vs := #[.string s, .int .i64 ak, .int .i64 z, .bool big]) rfl rfl ?_ (rnum_run _ _ _ _ _) (HN1'.out _) ?_; simp [Act.eval, Act.put]; rintro vX wX ⟨rfl, rfl⟩)
                  | (refine step_app el_int (s := .tmp 97) (x := .tmp 111) rfl rfl (by simp [Act.eval]) HOWN.out (m := 0) (by simp [Act.eval]) HBLK.out rfl (by simp [Value.oneCell']) (by omega) (by unfold maxLen; omega) HBAS.out ?_; intro r2 cap2 w5 ho5 hg5; have ht5 := HT4.out w5 hg5; have k35 := ht5.1.cell 2; have f35 := ht5.1.frozen 2; simp [tcA] at k35))
                all_goals
                  have hrow5 := orow_more ho5 [nv] rfl (by rw [HAL.out]; rfl)
                  have hput := ht5.1.put 2 (.slice (some ⟨r2, 0, none⟩) (k + 1) cap2)
                  have hf6 : Fr (B + 1) [70] w5 (w5.setCell ⟨B + 1, 2, none⟩ (.slice (some ⟨r2, 0, none⟩) (k + 1) cap2)) := (Fr.refl _ _ _).put ht5.1 (Nat.le_refl _) (by simp) 2 _
                  have HROW : Hid (ORow (w5.setCell ⟨B + 1, 2, none⟩ (.slice (some ⟨r2, 0, none⟩) (k + 1) cap2)) B (.slice (some ⟨r2, 0, none⟩) (k + 1) cap2) (acc ++ [nv])) := hf6.owns hrow5 (by decide)
                  have HB6 : Hid (Blk (w5.setCell ⟨B + 1, 2, none⟩ (.slice (some ⟨r2, 0, none⟩) (k + 1) cap2)) B 70 (tcA tag0 (.slice none 0 0))) := ht5.2.1.other (by simp) _
                  have HBE6 : Hid (Below B w (w5.setCell ⟨B + 1, 2, none⟩ (.slice (some ⟨r2, 0, none⟩) (k + 1) cap2))) := below_put ht5.2.2.1 (by simp) _
                  have HSZ6 : Hid (B + 1 < (w5.setCell ⟨B + 1, 2, none⟩ (.slice (some ⟨r2, 0, none⟩) (k + 1) cap2)).heap.size) := Nat.lt_of_lt_of_le ht5.2.2.2 hf6.size
                  have HPUT : Hid (Blk (w5.setCell ⟨B + 1, 2, none⟩ (.slice (some ⟨r2, 0, none⟩) (k + 1) cap2)) (B + 1) 70 (tcA ⟨id, ty, [], []⟩ (.slice (some ⟨r2, 0, none⟩) (k + 1) cap2))) := by show Blk _ _ _ _; simpa [tcA] using hput
                  have HACC2 : Hid (((List.range (k + 1)).map fun k => nAt big s.data.toList (at_ + k * z) z) = acc ++ [nv]) := by show _ = _; rw [List.range_succ, List.map_append, HACC.out]; simp [HNV.out]
                  clear hput hf6 hrow5 ho5 hg5 ht5 k35 f35 HOWN HBLK HBAS HT4 ca c1 c2
                  go_wp2_with fail
                  go_roundw
                  case rel => exact ⟨k + 1, _, by go_num, by have := HK.out; omega, HPUT.out, HB6.out, by show ORow _ _ _ _; rw [HACC2.out]; exact HROW.out, HBE6.out, HSZ6.out⟩
                  case measure => have := HK.out; simp [intOf]; omega
              · have dk : decide ((k : Int) < (n : Int)) = false := by simp; omega
                have hkn2 : k = n := by omega
                rw [hkn2] at hor
                obtain ⟨T, hT⟩ : ∃ T, tcA ⟨id, ty, [], []⟩ vv = T := ⟨_, rfl⟩
                rw [hT] at hbt
                obtain ⟨xo, co, hvv⟩ := hor.out.shape
                have hv1 : vv.oneCell' = true := hor.out.one
                have HTI : Hid ((Try.prog.info? 70).map (·.size) = some T.size) := by show _ = _; rw [← hT]; exact tcA_inf _ _
                have HT1 : Hid (T.all (·.oneCell') = true) := by show _ = _; rw [← hT]; exact tcA_one _ _ hv1
                have HTS : Hid ((tcA tag0 (.slice none 0 0)).size = T.size) := by show _ = _; rw [← hT]; rfl
                have HT := Lib.hid hT
                clear hT hv1 hvv hkn2
                go_wp2_with (first | refine wpList_load_row rfl 70 (.tmp 8) rfl (B + 1) (by rfl) 70 T (0, 0) _ (by exact hbt.out) Try.underlying70 rfl (by exact HTI.out) ?_ | refine wpList_store_rowTo rfl 70 (.tmp 6) (.tmp 114) rfl rfl B T (by rfl) (by rfl) 70 _ (by exact hbr.out) (by exact HTI.out) (by exact HTS.out) (by exact HT1.out) ?_)
                refine bodyPost_ret (v := .tuple #[.agg T, .int .i64 0]) ?_ ?_ ?_
                · exact results_ct rfl _ _ B 70 T (0, 0) _ _ rfl rfl (hbr.out.rset T) Try.underlying70 rfl HTI.out
                · rfl
                refine ⟨?_, by rw [HB.out]; exact below_rset hbw.out (Nat.le_refl _) _⟩
                rw [← HR2.out]
                refine ⟨vv, by rw [← HT.out]; rfl, ?_⟩
                have hr9 : Fr B [70] wr (wr.setRow B T) := ⟨rfl, rfl, rfl, by rw [rset_size]; exact Nat.le_refl _, fun j hj hc => heap_rset_ne wr B j T (fun e => by
                  rcases hc with hc | ⟨cs', t', fr', e', ht'⟩
                  · omega
                  · have h9 := hbr.out
                    unfold Blk at h9
                    rw [e, h9] at e'; injection e' with e'; injection e' with _ e2
                    exact ht' (by rw [← e2]; simp))⟩
                rw [HB.out]
                exact hr9.owns hor.out (by decide)
end Go.Proofs.Ytakileiomgaahaa
