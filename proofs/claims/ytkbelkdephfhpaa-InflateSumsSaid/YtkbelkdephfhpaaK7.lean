/-
  Walk: a stored block, in the law.
-/
import Derived.Test.YtkbelkdephfhpaaK5
namespace Go.Proofs.Ytkbelkdephfhpaa
open Go.RowKit

/-- 'string([]byte{..})' of the five bytes of a block's head. -/
theorem conv5 (l : Nat) (x : Nat) (hx : x ≤ 65535) (hl : l ≤ 1) (W : World) (b : Nat) (h0 : W.cell? ⟨b, 0, none⟩ = some (.int .u8 (l : Int))) (h1 : W.cell? ⟨b, 1, none⟩ = some (.int .u8 ((x : Int) % 256))) (h2 : W.cell? ⟨b, 2, none⟩ = some (.int .u8 ((x : Int) / 256)))
    (h3 : W.cell? ⟨b, 3, none⟩ = some (.int .u8 ((65535 - (x : Int)) % 256))) (h4 : W.cell? ⟨b, 4, none⟩ = some (.int .u8 ((65535 - (x : Int)) / 256))) :
    (convert 39 9 (.slice (some ⟨b, 0, none⟩) 5 5)).run Try.prog W = .ok (.string ⟨#[UInt8.ofNat l, UInt8.ofNat x, UInt8.ofNat (x / 256), UInt8.ofNat (65535 - x), UInt8.ofNat ((65535 - x) / 256)]⟩) W := by
  refine run_convert_bytes_back W 39 9 5 ⟨b, 0, none⟩ 5 [UInt8.ofNat l, UInt8.ofNat x, UInt8.ofNat (x / 256), UInt8.ofNat (65535 - x), UInt8.ofNat ((65535 - x) / 256)] Try.underlying39 Try.underlying5 Try.underlying9 fun j hj => ?_
  rw [Addr.add_lit, Nat.zero_add]
  have hj' : j < 5 := hj
  match j, hj' with
  | 0, _ => rw [h0]; exact congrArg some (cell_byte _ _ (by omega))
  | 1, _ => rw [h1]; exact congrArg some (cell_byte _ _ (by omega))
  | 2, _ => rw [h2]; exact congrArg some (cell_byte _ _ (by omega))
  | 3, _ => rw [h3]; exact congrArg some (cell_byte _ _ (by omega))
  | 4, _ => rw [h4]; exact congrArg some (cell_byte _ _ (by omega))

set_option maxRecDepth 100000 in
set_option maxHeartbeats 4000000 in
theorem block16_any (s : ByteArray) (last : Bool) (w : World) (hs : s.size ≤ 65535) :
    Calls Try.prog 16 #[.string s, .bool last] w fun e w' => e = .returned (.string ⟨(blockP s.data.toList last).toArray⟩) ∧ Below w.heap.size w w' := by
  have hE : ∀ l, l = last.toNat → Value.string (⟨#[UInt8.ofNat l, UInt8.ofNat s.size, UInt8.ofNat (s.size / 256), UInt8.ofNat (65535 - s.size), UInt8.ofNat ((65535 - s.size) / 256)]⟩ ++ s) = .string ⟨(blockP s.data.toList last).toArray⟩ := by
    rintro l rfl
    congr 1
  have HE := Lib.hid hE
  clear hE
  have u0 : IntKind.u8.wrap (s.size : Int) = (s.size : Int) % 256 := by rw [IntKind.wrap_u8]
  have u1 : IntKind.u8.wrap ((s.size : Int) / 256) = (s.size : Int) / 256 := by rw [IntKind.wrap_u8]; omega
  have u2 : IntKind.u8.wrap (65535 - (s.size : Int)) = (65535 - (s.size : Int)) % 256 := by rw [IntKind.wrap_u8]
  have u3 : IntKind.u8.wrap ((65535 - (s.size : Int)) / 256) = (65535 - (s.size : Int)) / 256 := by rw [IntKind.wrap_u8]; omega
  cases last with
  | true =>
    have hcv := conv5 1 s.size hs (by decide)
    go_enter Try.func16, Try.ntmps16
    go_wp2_with fail
    go_ret
    refine ⟨?_, (Below.refl _ _).alloc (Nat.le_refl _) _⟩
    have := HE.out 1 rfl
    exact congrArg Ending.returned this
  | false =>
    have hcv := conv5 0 s.size hs (by decide)
    go_enter Try.func16, Try.ntmps16
    go_wp2_with fail
    go_ret
    refine ⟨?_, (Below.refl _ _).alloc (Nat.le_refl _) _⟩
    have := HE.out 0 rfl
    exact congrArg Ending.returned this
end Go.Proofs.Ytkbelkdephfhpaa
