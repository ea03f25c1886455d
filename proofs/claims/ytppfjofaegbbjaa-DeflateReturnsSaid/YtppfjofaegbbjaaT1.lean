/-
  Walks: deflate.input and deflate.Stored return what the plain functions say, for every string; no conditions beyond Go's own bound on lengths.
-/
import Derived.Test.YtppfjofaegbbjaaProg
import Derived.Test.YtppfjofaegbbjaaLib
namespace Go.Proofs.Ytppfjofaegbbjaa
open Go.RowKit

theorem del_u8 : Elem Try.prog 37 5 (.int .u8 0) 1 1 := by
  refine ⟨Try.underlying37, ?_, rfl, by decide⟩
  exact info_parts (by kernel_rfl)

theorem input_any (s : ByteArray) (w : World) (hs : s.size ≤ maxLen) :
    Calls Try.prog 27 #[.string s] w fun e w' => e = .returned (.string (s.extract 0 (min s.size 1048576))) ∧ w = w' := by
  unfold maxLen at hs
  go_enter Try.func27, Try.ntmps27
  by_cases h : s.size ≤ 1048576
  · go_wp2
    go_ret
    refine ⟨?_, rfl⟩
    rw [Nat.min_eq_left (by omega)]; simp
  · go_wp2
    go_ret
    refine ⟨?_, rfl⟩
    rw [Nat.min_eq_right (by omega)]; rfl

def hdr (last n : Nat) : List UInt8 := [UInt8.ofNat last, UInt8.ofNat n, UInt8.ofNat (n / 256), UInt8.ofNat (255 - n % 256), UInt8.ofNat (255 - n / 256 % 256)]
def stored (l : List UInt8) : List UInt8 :=
  if l.length ≤ 65535 then hdr 1 l.length ++ l else hdr 0 65535 ++ (l.take 65535 ++ stored (l.drop 65535))
termination_by l.length
decreasing_by simp; omega

theorem hdr_cells (last : Int) (k n : Nat) (hk : last = (k : Int)) (hk' : k < 256) (h : n < 65536) :
    [Value.int .u8 last, Value.int .u8 ((n : Int) % 256), Value.int .u8 ((n : Int) / 256), Value.int .u8 (bits .xor .u8 (if IntKind.u8.signed = true then -1 else IntKind.u8.max) ((n : Int) % 256)),
      Value.int .u8 (bits .xor .u8 (if IntKind.u8.signed = true then -1 else IntKind.u8.max) ((n : Int) / 256))] = bcells (hdr k n) := by
  rw [xor255 _ (by omega) (by omega), xor255 _ (by omega) (by omega)]
  simp only [bcells, hdr, List.map_cons, List.map_nil]
  rw [cell_byte last k (by omega), cell_byte ((n : Int) % 256) n (by omega), cell_byte ((n : Int) / 256) (n / 256) (by omega), cell_byte (255 - (n : Int) % 256) (255 - n % 256) (by omega), cell_byte (255 - (n : Int) / 256) (255 - n / 256 % 256) (by omega)]

set_option maxHeartbeats 400000 in
theorem dstored_any (s : ByteArray) (w : World) (hs : s.size ≤ maxLen) :
    Calls Try.prog 9 #[.string s] w fun e w' => e = .returned (.string ⟨(stored (s.data.toList.take 1048576)).toArray⟩) ∧ Below w.heap.size w w' := by
  go_enter Try.func9, Try.ntmps9
  go_wp2_with (go_at_call 27; refine (input_any _ _ hs).mono ?_; rintro e w' ⟨rfl, rfl⟩)
  go_loopw [0, 3] (fun t v wr => ∃ (r : ByteArray) (done : List UInt8), t = .string r ∧ BRow wr w.heap.size 5 v done ∧ done.length + 2 * r.size ≤ 20000000 ∧ Hid (done ++ stored r.data.toList = stored (s.data.toList.take 1048576)) ∧ Below w.heap.size w wr ∧ w.heap.size ≤ wr.heap.size) (fun t _ _ => strLen t)
  case atStart =>
    refine ⟨_, [], rfl, World.ownsRow_nil _ _ _ _, ?_, ?_, Below.refl _ _, Nat.le_refl _⟩
    · simp [ByteArray.size_extract]; omega
    · show _ = _
      rw [extract_list]
      simp
      congr 1
      by_cases h : s.size ≤ 1048576
      · rw [Nat.min_eq_left h, List.take_of_length_le (by simp), List.take_of_length_le (by simpa using h)]
      · rw [Nat.min_eq_right (by omega)]
  case round =>
    obtain ⟨r, done, rfl, hown, hlen, hst, hbel, hsz⟩ := hrel
    by_cases hr : r.size ≤ 65535
    · go_wp2_with (at_builtin; refine wpList_app del_u8 hown hsz rfl rfl rfl (m := 4) rfl (by simp [Value.oneCell']) rfl (by omega) (by unfold maxLen; omega) ?_)
      intro r1 cap1 w1 ho1 hg1 _
      have hown1 := brow_more ho1 (hdr 1 r.size) (hdr_cells 1 1 r.size rfl (by omega) (by omega)) rfl
      obtain ⟨hbel1, hsz1⟩ := below_app hbel hsz hown hg1
      have hl1 : (done ++ hdr 1 r.size).length ≤ done.length + 5 := by simp [hdr]
      clear ho1 hg1 hown
      go_wp2_with (at_builtin; refine wpList_app_str del_u8 Try.underlying9 hown1 hsz1 rfl rfl rfl rfl (by omega) ?_)
      intro v2 w2 hown2 hg2
      obtain ⟨hbel2, hsz2⟩ := below_app' hbel1 hsz1 hown1 hg2
      have hcv := run_str_of Try.underlying37 Try.underlying5 Try.underlying9 hown2
      clear hg2 hown1
      go_wp2
      go_ret
      refine ⟨?_, hbel2⟩
      have h := hst.out
      rw [stored, if_pos (by simpa using hr)] at h
      rw [← h]
      simp
    · have hr' : 65535 < r.size := by omega
      clear hr
      go_wp2_with (at_builtin; refine wpList_app del_u8 hown hsz rfl rfl rfl (m := 4) rfl (by simp [Value.oneCell']) rfl (by omega) (by unfold maxLen; omega) ?_)
      intro r1 cap1 w1 ho1 hg1 _
      have hown1 := brow_more ho1 (hdr 0 65535) (by kernel_rfl) rfl
      obtain ⟨hbel1, hsz1⟩ := below_app hbel hsz hown hg1
      have hl1 : (done ++ hdr 0 65535).length ≤ done.length + 5 := by simp [hdr]
      clear ho1 hg1 hown
      go_wp2_with (at_builtin; refine wpList_app_str del_u8 Try.underlying9 hown1 hsz1 rfl rfl rfl rfl ?hb ?_)
      case hb => rw [ByteArray.size_extract]; omega
      intro v2 w2 hown2 hg2
      obtain ⟨hbel2, hsz2⟩ := below_app' hbel1 hsz1 hown1 hg2
      clear hg2 hown1
      go_wp2
      go_roundw
      case rel =>
        refine ⟨_, _, rfl, hown2, ?_, ?_, hbel2, hsz2⟩
        · simp [hdr]; omega
        · show _ = _
          have h := hst.out
          rw [stored, if_neg (by simp; omega)] at h
          rw [← h, extract_list]
          simp [List.take_of_length_le]
      case measure => simp [strLen]; omega
end Go.Proofs.Ytppfjofaegbbjaa
