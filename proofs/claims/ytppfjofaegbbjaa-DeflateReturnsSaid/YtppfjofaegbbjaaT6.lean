/-
  Walk: the hash of three bytes.
-/
import Derived.Test.YtppfjofaegbbjaaT5
import Derived.Test.YtppfjofaegbbjaaFnd
import Derived.Laws.BitsAllLaws
import Derived.Laws.BitsLemmas
namespace Go.Proofs.Ytppfjofaegbbjaa
open Go.RowKit

theorem hash_num (a b c : UInt8) : (bits .xor .i64 (bits .xor .i64 (wrap64 (wrap64 (a.toNat : Int) * 1024)) (wrap64 (wrap64 (b.toNat : Int) * 32))) (wrap64 (c.toNat : Int))).tmod 32768 =
    (((a.toNat * 1024 ^^^ b.toNat * 32 ^^^ c.toNat) % 32768 : Nat) : Int) := by
  have ha := a.toNat_lt
  have hb := b.toNat_lt
  have hc := c.toNat_lt
  rw [wrap64_byte', wrap64_byte', wrap64_byte', wrap64_of _ (by omega), wrap64_of _ (by omega)]
  have e1 : (a.toNat : Int) * 1024 = ((a.toNat * 1024 : Nat) : Int) := by omega
  have e2 : (b.toNat : Int) * 32 = ((b.toNat * 32 : Nat) : Int) := by omega
  have hx : a.toNat * 1024 ^^^ b.toNat * 32 < 2 ^ 62 := Nat.xor_lt_two_pow (by omega) (by omega)
  rw [e1, e2, xor_nat _ _ (by omega) (by omega), xor_nat _ _ (by omega) (by omega)]
  rfl

set_option maxRecDepth 100000 in
set_option maxHeartbeats 1000000 in
theorem hash_any (w : World) (f p : Nat) (s : ByteArray) (c1 c2 : Value) (hb : Blk w f 63 #[.string s, c1, c2]) (hp : p + 3 ≤ s.size) (hs : s.size < 1000000000) :
    Calls Try.prog 43 #[.pointer (some ⟨f, 0, none⟩), .int .i64 p] w fun e w' => e = .returned (.int .i64 (hash3 s.data.toList p)) ∧ ∃ n, w' = w.drewN n := by
  have hc := hb.cell 0
  simp at hc
  have h0 : (p : Int) < (s.size : Int) := by omega
  have h1 : (p : Int) + 1 < (s.size : Int) := by omega
  have h2 : (p : Int) + 2 < (s.size : Int) := by omega
  have w1 : IntKind.i64.wrap ((p : Int) + 1) = (p : Int) + 1 := IntWalk.i64_in _ (by omega)
  have w2 : IntKind.i64.wrap ((p : Int) + 2) = (p : Int) + 2 := IntWalk.i64_in _ (by omega)
  have z1 : (0 : Int) ≤ (p : Int) + 1 := by omega
  have z2 : (0 : Int) ≤ (p : Int) + 2 := by omega
  have n1 : ((p : Int) + 1).toNat = p + 1 := by omega
  have n2 : ((p : Int) + 2).toNat = p + 2 := by omega
  go_enter Try.func43, Try.ntmps43
  go_wp2_with fail
  go_quiet (fail)
  go_wp2
  go_ret
  refine ⟨ret_int ?_, _, rfl⟩
  rw [hash3, at8, at8, at8, ← byte_at s p (by omega), ← byte_at s (p + 1) (by omega), ← byte_at s (p + 2) (by omega)]
  exact hash_num _ _ _
end Go.Proofs.Ytppfjofaegbbjaa
