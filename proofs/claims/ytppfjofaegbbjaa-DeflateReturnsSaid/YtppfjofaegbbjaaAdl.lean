/-
  Walks: the Adler-32 checksum, in the program and in the reference, is the plain one, for every string.
-/
import Derived.Test.YtppfjofaegbbjaaProg
import Derived.Test.YtppfjofaegbbjaaLib
namespace Go.Proofs.Ytppfjofaegbbjaa
open Go.RowKit

def adlStep (x : Nat × Nat) (c : UInt8) : Nat × Nat := ((x.1 + c.toNat) % 65521, (x.2 + (x.1 + c.toNat) % 65521) % 65521)
def adlGo (l : List UInt8) : Nat × Nat := l.foldl adlStep (1, 0)
/-- The Adler-32 checksum. -/
def adler (l : List UInt8) : Nat := (adlGo l).2 * 65536 + (adlGo l).1

theorem adlGo_lt (l : List UInt8) : (adlGo l).1 < 65521 ∧ (adlGo l).2 < 65521 := by
  have key : ∀ (l : List UInt8) (x : Nat × Nat), x.1 < 65521 → x.2 < 65521 → (l.foldl adlStep x).1 < 65521 ∧ (l.foldl adlStep x).2 < 65521 := by
    intro l
    induction l with
    | nil => exact fun x h1 h2 => ⟨h1, h2⟩
    | cons c t ih => exact fun x _ _ => ih _ (Nat.mod_lt _ (by decide)) (Nat.mod_lt _ (by decide))
  exact key l (1, 0) (by decide) (by decide)
theorem adler_lt (l : List UInt8) : adler l < 4294967296 := by
  have := adlGo_lt l; unfold adler; omega
theorem adlGo_snoc (s : ByteArray) (k : Nat) (h : k < s.size) : adlGo (s.data.toList.take (k + 1)) = adlStep (adlGo (s.data.toList.take k)) s[k] := by
  have : s.data.toList.take (k + 1) = s.data.toList.take k ++ [s[k]] := by
    rw [List.take_succ_eq_append_getElem (by simpa using h)]; rfl
  rw [this, adlGo, List.foldl_append]; rfl

theorem or_adl (a b : Nat) (ha : a < 65536) (hb : b < 65536) : bits .or .u32 ((b : Int) * 65536) (a : Int) = ((b * 65536 + a : Nat) : Int) := by
  have e : (b : Int) * 65536 = ((b * 65536 : Nat) : Int) := by omega
  rw [e]
  have h1 : ∀ x : Nat, x < 4294967296 → (BitVec.ofInt 32 (x : Int)).toNat = x := fun x hx => by
    rw [BitVec.ofInt_natCast, BitVec.toNat_ofNat]; exact Nat.mod_eq_of_lt (by omega)
  show IntKind.u32.wrap ((BitVec.ofInt 32 ((b * 65536 : Nat) : Int) ||| BitVec.ofInt 32 (a : Int)).toNat : Int) = _
  rw [BitVec.toNat_or, h1 _ (by omega), h1 _ (by omega)]
  have h2 : b * 65536 ||| a = b * 65536 + a := by
    have : b * 65536 = b <<< 16 := by rw [Nat.shiftLeft_eq]
    rw [this, Nat.shiftLeft_add_eq_or_of_lt (by simpa using ha)]
  rw [h2, IntKind.wrap_u32]
  omega

set_option maxRecDepth 100000 in
set_option maxHeartbeats 1000000 in
theorem adler_any (s : ByteArray) (w : World) (hs : s.size ≤ maxLen) :
    Calls Try.prog 40 #[.string s] w fun e w' => e = .returned (.int .u32 (adler s.data.toList)) ∧ w = w' := by
  unfold maxLen at hs
  go_enter Try.func40, Try.ntmps40
  go_wp2
  go_loop [3, 4, 5, 8] (fun va vb _ vi => ∃ k a b : Nat, vi = .int .i64 k ∧ va = .int .u32 a ∧ vb = .int .u32 b ∧ k ≤ s.size ∧ a < 65521 ∧ b < 65521 ∧ Hid (adlGo (s.data.toList.take k) = (a, b))) (fun _ _ _ vi => s.size - (intOf vi).toNat)
  case atStart => exact ⟨0, 1, 0, rfl, rfl, rfl, Nat.zero_le _, by omega, by omega, rfl⟩
  case round =>
    obtain ⟨k, a, b, rfl, rfl, rfl, hk, ha, hb, hg⟩ := hrel
    by_cases hlt : k < s.size
    · have hst := adlGo_snoc s k hlt
      rw [hg.out] at hst
      have hc := (s[k]).toNat_lt
      have HS := Lib.hid hst
      clear hst
      go_wp2
      go_round
      case rel =>
        refine ⟨k + 1, (a + (s[k]).toNat) % 65521, (b + (a + (s[k]).toNat) % 65521) % 65521, by go_num, by go_num, by go_num, by omega, by omega, by omega, ?_⟩
        show _ = _
        rw [HS.out]; rfl
      case measure => simp [intOf]; omega
    · have hfin : Hid (adler s.data.toList = b * 65536 + a) := by
        show _ = _
        have := hg.out
        rw [List.take_of_length_le (by simp; omega)] at this
        rw [adler, this]
      have hor := or_adl a b (by omega) (by omega)
      have HOR := Lib.hid hor
      clear hor
      go_wp2
      go_ret
      refine ⟨ret_int ?_, rfl⟩
      rw [hfin.out, ← HOR.out]
set_option maxRecDepth 100000 in
set_option maxHeartbeats 1000000 in
theorem radler_any (s : ByteArray) (w : World) (hs : s.size ≤ maxLen) :
    Calls Try.prog 24 #[.string s] w fun e w' => e = .returned (.int .u32 (adler s.data.toList)) ∧ w = w' := by
  unfold maxLen at hs
  go_enter Try.func24, Try.ntmps24
  go_wp2
  go_loop [3, 4, 5] (fun va vb vi => ∃ k a b : Nat, vi = .int .i64 k ∧ va = .int .u32 a ∧ vb = .int .u32 b ∧ k ≤ s.size ∧ a < 65521 ∧ b < 65521 ∧ Hid (adlGo (s.data.toList.take k) = (a, b))) (fun _ _ vi => s.size - (intOf vi).toNat)
  case atStart => exact ⟨0, 1, 0, rfl, rfl, rfl, Nat.zero_le _, by omega, by omega, rfl⟩
  case round =>
    obtain ⟨k, a, b, rfl, rfl, rfl, hk, ha, hb, hg⟩ := hrel
    by_cases hlt : k < s.size
    · have hst := adlGo_snoc s k hlt
      rw [hg.out] at hst
      have hc := (s[k]).toNat_lt
      have HS := Lib.hid hst
      clear hst
      go_wp2
      go_round
      case rel =>
        refine ⟨k + 1, (a + (s[k]).toNat) % 65521, (b + (a + (s[k]).toNat) % 65521) % 65521, by go_num, by go_num, by go_num, by omega, by omega, by omega, ?_⟩
        show _ = _
        rw [HS.out]; rfl
      case measure => simp [intOf]; omega
    · have hfin : Hid (adler s.data.toList = b * 65536 + a) := by
        show _ = _
        have := hg.out
        rw [List.take_of_length_le (by simp; omega)] at this
        rw [adler, this]
      go_wp2
      go_ret
      refine ⟨ret_int ?_, rfl⟩
      rw [hfin.out]; omega
end Go.Proofs.Ytppfjofaegbbjaa
