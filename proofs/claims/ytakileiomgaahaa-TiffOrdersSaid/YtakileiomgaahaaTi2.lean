/-
  The program of tiff: appendNumber, appendTag.
-/
import Derived.Test.YtakileiomgaahaaTi1
import Derived.Test.YtakileiomgaahaaE1
namespace Go.Proofs.Ytakileiomgaahaa
open Go.RowKit

/-- The n bytes of a number, the least one first. -/
def litB (v n : Nat) : List UInt8 := (List.range n).map fun k => UInt8.ofNat (v / 2 ^ (8 * k) % 256)
theorem litB_succ (v n : Nat) : litB v (n + 1) = litB v n ++ [UInt8.ofNat (v / 2 ^ (8 * n) % 256)] := by
  unfold litB; rw [List.range_succ, List.map_append]; rfl
theorem litB_len (v n : Nat) : (litB v n).length = n := by unfold litB; simp

set_option maxHeartbeats 2000000 in
set_option maxRecDepth 100000 in
theorem appendNumber_any (x : Value) (l : List UInt8) (v n B : Nat) (w : World) (ho : BRow w B 5 x l) (hB : B ≤ w.heap.size) (hl : l.length ≤ 200000000) (_hv : v ≤ 9223372036854775807) (hn : n ≤ 8) :
    Calls Try.prog 59 #[x, .int .i64 v, .int .i64 n] w fun e w' => ∃ x', e = .returned x' ∧ BRow w' B 5 x' (l ++ litB v n) ∧ Below B w w' := by
  obtain ⟨xa, xc, rfl⟩ := brow_shape ho
  have HO := Lib.hid ho
  clear ho
  go_enter Try.func59, Try.ntmps59
  go_wp2_with fail
  go_loopw [0, 9] (fun v0 vk wr => ∃ k : Nat, vk = .int .i64 k ∧ k ≤ n ∧ BRow wr B 5 v0 (l ++ litB v k) ∧ Hid (Below B w wr) ∧ B ≤ wr.heap.size) (fun _ vk _ => n - (intOf vk).toNat)
  case atStart => exact ⟨0, rfl, Nat.zero_le _, by simpa [litB] using HO.out, Below.refl _ _, hB⟩
  case round =>
    obtain ⟨k, rfl, hk, hrow, hbw, hszr⟩ := hrel
    obtain ⟨acc, hacc⟩ : ∃ acc, acc = l ++ litB v k := ⟨_, rfl⟩
    have hal : acc.length ≤ 200000008 := by rw [hacc, List.length_append, litB_len]; omega
    rw [← hacc] at hrow
    have HACC := Lib.hid hacc
    clear hacc
    obtain ⟨x2, c2, rfl⟩ := brow_shape hrow
    by_cases hlt : k < n
    · have dlt : decide ((k : Int) < (n : Int)) = true := by simp; omega
      obtain ⟨q, hq⟩ : ∃ q, q = v / 2 ^ (8 * k) := ⟨_, rfl⟩
      have hsh : (v : Int) / 2 ^ (8 * k) = (q : Int) := by rw [hq]; simp
      have HQ : Hid (litB v (k + 1) = litB v k ++ [UInt8.ofNat (q % 256)]) := by show _ = _; rw [hq, litB_succ]
      clear hq
      go_upto_region 4 with fail
      go_wp2_with (at_builtin; refine wpList_app el_u8 hrow hszr rfl rfl rfl (m := 0) rfl (by simp [Value.oneCell']) rfl (by omega) (by unfold maxLen; omega) ?_)
      intro r2 cap2 w4 ho2 hg2 _
      have hown2 := brow_more ho2 [UInt8.ofNat (q % 256)] (by rw [← one_cell (q % 256) (by omega)]; rfl) rfl
      obtain ⟨hbel2, hsz2⟩ := below_app hbw.out hszr hrow hg2
      have HR2 : Hid (BRow w4 B 5 (.slice (some ⟨r2, 0, none⟩) (acc.length + 1) cap2) (l ++ litB v (k + 1))) := by show BRow _ _ _ _ _; rw [HQ.out, ← List.append_assoc, ← HACC.out]; exact hown2
      clear ho2 hg2 hrow hown2
      go_wp2_with fail
      go_roundw
      case rel => exact ⟨k + 1, by go_num, by omega, HR2.out, hbel2, hsz2⟩
      case measure => simp [intOf]; omega
    · have dlt : decide ((k : Int) < (n : Int)) = false := by simp; omega
      have hke : k = n := by omega
      subst hke
      go_wp2_with fail
      go_ret
      refine ⟨_, rfl, ?_, hbw.out⟩
      rw [← HACC.out]; exact hrow

/-- The bytes of a tag of a directory. -/
def tagB (id kind n v : Nat) : List UInt8 := litB id 2 ++ litB kind 2 ++ litB n 4 ++ litB v 4
theorem tagB_len (id kind n v : Nat) : (tagB id kind n v).length = 12 := by unfold tagB; simp [litB_len]

set_option maxHeartbeats 2000000 in
set_option maxRecDepth 100000 in
theorem appendTag_any (x : Value) (l : List UInt8) (id kind n v B : Nat) (w : World) (ho : BRow w B 5 x l) (hB : B ≤ w.heap.size) (hl : l.length ≤ 10000000) (hid : id ≤ 9223372036854775807) (hk : kind ≤ 9223372036854775807) (hn : n ≤ 9223372036854775807) (hv : v ≤ 9223372036854775807) :
    Calls Try.prog 58 #[x, .int .i64 id, .int .i64 kind, .int .i64 n, .int .i64 v] w fun e w' => ∃ x', e = .returned x' ∧ BRow w' B 5 x' (l ++ tagB id kind n v) ∧ Below B w w' := by
  have HN := Lib.hid (fun x l a b w h1 h2 h3 h4 h5 => appendNumber_any x l a b B w h1 h2 h3 h4 h5)
  have HO := Lib.hid ho
  have HT : Hid (l ++ tagB id kind n v = (((l ++ litB id 2) ++ litB kind 2) ++ litB n 4) ++ litB v 4) := by show _ = _; unfold tagB; simp
  clear ho
  go_enter Try.func58, Try.ntmps58
  go_wp2_with fail
  refine (HN.out x l id 2 w HO.out hB (by omega) hid (by omega)).mono ?_
  rintro e w1 ⟨x1, rfl, h1, b1⟩
  have HO1 := Lib.hid h1
  have HB1 := Lib.hid b1
  clear h1 b1
  go_wp2_with fail
  refine (HN.out x1 _ kind 2 w1 HO1.out (Nat.le_trans hB HB1.out.size) (by simp [litB_len]; omega) hk (by omega)).mono ?_
  rintro e w2 ⟨x2, rfl, h1, b1⟩
  have HO2 := Lib.hid h1
  have HB2 := Lib.hid (HB1.out.trans b1)
  clear h1 b1
  go_wp2_with fail
  refine (HN.out x2 _ n 4 w2 HO2.out (Nat.le_trans hB HB2.out.size) (by simp [litB_len]; omega) hn (by omega)).mono ?_
  rintro e w3 ⟨x3, rfl, h1, b1⟩
  have HO3 := Lib.hid h1
  have HB3 := Lib.hid (HB2.out.trans b1)
  clear h1 b1
  go_wp2_with fail
  refine (HN.out x3 _ v 4 w3 HO3.out (Nat.le_trans hB HB3.out.size) (by simp [litB_len]; omega) hv (by omega)).mono ?_
  rintro e w4 ⟨x4, rfl, h1, b1⟩
  have HO4 := Lib.hid h1
  have HB4 := Lib.hid (HB3.out.trans b1)
  clear h1 b1
  go_wp2_with fail
  go_ret
  exact ⟨x4, rfl, by rw [HT.out]; exact HO4.out, HB4.out⟩
end Go.Proofs.Ytakileiomgaahaa
