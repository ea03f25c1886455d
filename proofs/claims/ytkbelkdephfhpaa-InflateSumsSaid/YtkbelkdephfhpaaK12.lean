/-
  The law InflateSums: the plain law, and four bytes as a string.
-/
import Derived.Test.YtkbelkdephfhpaaK8
namespace Go.Proofs.Ytkbelkdephfhpaa
open Go.RowKit

def num4 (p q r t : UInt8) : Nat := p.toNat * 16777216 + q.toNat * 65536 + r.toNat * 256 + t.toNat
theorem zli_four (l rest : List UInt8) (p q r t : UInt8) (hl : l.length ≤ 65535) :
    zliP 1048576 ([120, 1] ++ blockP l true ++ [p, q, r, t] ++ rest) = if num4 p q r t ≠ adler l then .error 7 else if rest = [] then .ok l else .error 6 := by
  have hb := blockP_length l true
  have hi := inf_block 1048576 l ([p, q, r, t] ++ rest) hl (by omega)
  have hd2 : ([120, 1] ++ blockP l true ++ [p, q, r, t] ++ rest : List UInt8).drop 2 = blockP l true ++ ([p, q, r, t] ++ rest) := by
    rw [List.append_assoc, List.append_assoc]; rfl
  have hdu : ([120, 1] ++ blockP l true ++ [p, q, r, t] ++ rest : List UInt8).drop (2 + (5 + l.length)) = [p, q, r, t] ++ rest := by
    rw [← List.drop_drop, hd2, List.drop_left' hb]
  unfold zliP
  rw [hd2, hi, if_neg (by simp), if_neg (by simp; decide)]
  show zliE l (List.drop (2 + (5 + l.length)) _) = _
  rw [hdu]
  unfold zliE
  rw [if_neg (by simp)]
  show (if num4 p q r t ≠ adler l then _ else _) = _
  split
  · rfl
  · cases rest with
    | nil => rfl
    | cons a b => simp

theorem conv4x (p q r t : UInt8) (W : World) (b : Nat) (h0 : W.cell? ⟨b, 0, none⟩ = some (.int .u8 (p.toNat : Int))) (h1 : W.cell? ⟨b, 1, none⟩ = some (.int .u8 (q.toNat : Int)))
    (h2 : W.cell? ⟨b, 2, none⟩ = some (.int .u8 (r.toNat : Int))) (h3 : W.cell? ⟨b, 3, none⟩ = some (.int .u8 (t.toNat : Int))) :
    (convert 39 9 (.slice (some ⟨b, 0, none⟩) 4 4)).run Try.prog W = .ok (.string ⟨#[p, q, r, t]⟩) W := by
  refine run_convert_bytes_back W 39 9 5 ⟨b, 0, none⟩ 4 [p, q, r, t] Try.underlying39 Try.underlying5 Try.underlying9 fun j hj => ?_
  rw [Addr.add_lit, Nat.zero_add]
  have hj' : j < 4 := hj
  match j, hj' with
  | 0, _ => rw [h0]; rfl
  | 1, _ => rw [h1]; rfl
  | 2, _ => rw [h2]; rfl
  | 3, _ => rw [h3]; rfl
theorem conv1x (p : UInt8) (W : World) (b : Nat) (h0 : W.cell? ⟨b, 0, none⟩ = some (.int .u8 (p.toNat : Int))) :
    (convert 39 9 (.slice (some ⟨b, 0, none⟩) 1 1)).run Try.prog W = .ok (.string ⟨#[p]⟩) W := by
  refine run_convert_bytes_back W 39 9 5 ⟨b, 0, none⟩ 1 [p] Try.underlying39 Try.underlying5 Try.underlying9 fun j hj => ?_
  rw [Addr.add_lit, Nat.zero_add]
  have hj' : j < 1 := hj
  match j, hj' with
  | 0, _ => rw [h0]; rfl
end Go.Proofs.Ytkbelkdephfhpaa
