/-
  Walks: deflate.Zlib and the reference's Best and Zlib; the laws DeflateFixes and DeflateWraps.
-/
import Derived.Test.YtppfjofaegbbjaaT14
import Derived.Test.YtppfjofaegbbjaaAdl
import Derived.Deep.RegionWith
namespace Go.Proofs.Ytppfjofaegbbjaa
open Go.RowKit

/-- A number in four bytes, the most significant one first. -/
def be4 (n : Nat) : List UInt8 := [UInt8.ofNat (n / 16777216), UInt8.ofNat (n / 65536), UInt8.ofNat (n / 256), UInt8.ofNat n]
def zlibP (l : List UInt8) : List UInt8 := [120, 1] ++ best l ++ be4 (adler l)

/-- 'string([]byte{..})' of the four bytes of a number. -/
theorem conv4 (x : Nat) (hx : x < 4294967296) (W : World) (b : Nat) (h0 : W.cell? ⟨b, 0, none⟩ = some (.int .u8 ((x : Int) / 16777216))) (h1 : W.cell? ⟨b, 1, none⟩ = some (.int .u8 ((x : Int) / 65536 % 256)))
    (h2 : W.cell? ⟨b, 2, none⟩ = some (.int .u8 ((x : Int) / 256 % 256))) (h3 : W.cell? ⟨b, 3, none⟩ = some (.int .u8 ((x : Int) % 256))) :
    (convert 37 9 (.slice (some ⟨b, 0, none⟩) 4 4)).run Try.prog W = .ok (.string ⟨(be4 x).toArray⟩) W := by
  refine run_convert_bytes_back W 37 9 5 ⟨b, 0, none⟩ 4 (be4 x) Try.underlying37 Try.underlying5 Try.underlying9 fun j hj => ?_
  rw [Addr.add_lit, Nat.zero_add]
  have hj' : j < 4 := hj
  match j, hj' with
  | 0, _ => rw [h0]; exact congrArg some (cell_byte _ _ (by omega))
  | 1, _ => rw [h1]; exact congrArg some (cell_byte _ _ (by omega))
  | 2, _ => rw [h2]; exact congrArg some (cell_byte _ _ (by omega))
  | 3, _ => rw [h3]; exact congrArg some (cell_byte _ _ (by omega))

theorem stored_length (l : List UInt8) : (stored l).length = l.length + 5 * max 1 ((l.length + 65534) / 65535) := by
  induction h : l.length using Nat.strongRecOn generalizing l with
  | _ n ih =>
    subst h
    rw [stored]
    by_cases hl : l.length ≤ 65535
    · rw [if_pos hl]
      simp [hdr]
      omega
    · rw [if_neg hl, List.length_append, List.length_append, ih (l.drop 65535).length (by simp; omega) _ rfl]
      simp [hdr]
      omega
theorem best_length (l : List UInt8) : (best l).length ≤ (stored l).length := by
  unfold best
  split <;> omega

set_option maxRecDepth 100000 in
set_option maxHeartbeats 1000000 in
theorem zlib_any (s : ByteArray) (w : World) (hs : s.size ≤ maxLen) :
    Calls Try.prog 22 #[.string s] w fun e w' => e = .returned (.string ⟨(zlibP (s.data.toList.take 1048576)).toArray⟩) ∧ Below w.heap.size w w' := by
  have hin := input_any s w hs
  have hz := inp_size s
  have hl := inp_list s
  change Calls _ _ _ _ (fun e w' => e = .returned (.string (inp s)) ∧ w = w') at hin
  generalize inp s = t at *
  have HL := Lib.hid hl
  have HI := Lib.hid hin
  have hmx : t.size ≤ maxLen := by unfold maxLen; omega
  have had := adler_lt t.data.toList
  have hza : Hid (zlibP (s.data.toList.take 1048576) = [120, 1] ++ best t.data.toList ++ be4 (adler t.data.toList)) := by show _ = _; rw [zlibP, HL.out]
  have hA := adler_any t w hmx
  have hB := fun w => best_any t w hmx
  rw [List.take_of_length_le (by simpa using hz)] at hB
  generalize adler t.data.toList = x at *
  have hy : (best t.data.toList).length ≤ 3000000 := by
    have h1 := best_length t.data.toList
    have h2 := stored_length t.data.toList
    have h3 : t.data.toList.length = t.size := by simp
    omega
  generalize best t.data.toList = y at *
  have HA := Lib.hid hA
  have HB := Lib.hid hB
  clear hl hin hA hB
  go_enter Try.func22, Try.ntmps22
  go_wp2_with fail
  refine HI.out.mono ?_
  rintro e w1 ⟨rfl, rfl⟩
  clear HI
  go_wp2_with fail
  refine HA.out.mono ?_
  rintro e w1 ⟨rfl, rfl⟩
  clear HA
  go_wp2_with fail
  have hcv := conv4 x had
  have u0 : IntKind.u8.wrap ((x : Int) / 16777216) = (x : Int) / 16777216 := by rw [IntKind.wrap_u8]; omega
  have u1 : IntKind.u8.wrap ((x : Int) / 65536) = (x : Int) / 65536 % 256 := by rw [IntKind.wrap_u8]
  have u2 : IntKind.u8.wrap ((x : Int) / 256) = (x : Int) / 256 % 256 := by rw [IntKind.wrap_u8]
  have u3 : IntKind.u8.wrap (x : Int) = (x : Int) % 256 := by rw [IntKind.wrap_u8]
  generalize hbe : be4 x = z at *
  have hz4 : z.length = 4 := by rw [← hbe]; rfl
  have HBE := Lib.hid hbe
  clear hbe
  go_region_with (go_at_call 20; refine (HB.out _).mono ?_; rintro e w9 ⟨rfl, hb9⟩; obtain ⟨hcA, hfA⟩ := bcell hb9)
  all_goals
    clear u0 u1 u2 u3 hcv
    go_wp2_with fail
    go_ret
    refine ⟨?_, ?_⟩
    · rw [hza.out]
      exact congrArg Ending.returned (congrArg Value.string (ByteArray.ext (by simp)))
    · first | exact below_drew_alloc hb9 _ | exact below_alloc_drew hb9

set_option maxHeartbeats 400000 in
theorem rbest_any (s : ByteArray) (w : World) (hs : s.size ≤ maxLen) :
    Calls Try.prog 21 #[.string s] w fun e w' => e = .returned (.string ⟨(best (s.data.toList.take 1048576)).toArray⟩) ∧ Below w.heap.size w w' := by
  have h1 := fun w => rfixed_any s w hs
  have h2 := fun w => rstored_any s w hs
  have hb : Hid (best (s.data.toList.take 1048576) = if (fixed (s.data.toList.take 1048576)).length < (stored (s.data.toList.take 1048576)).length then fixed (s.data.toList.take 1048576) else stored (s.data.toList.take 1048576)) := rfl
  generalize fixed (s.data.toList.take 1048576) = a at *
  generalize stored (s.data.toList.take 1048576) = b at *
  have H1 := Lib.hid h1
  have H2 := Lib.hid h2
  clear h1 h2
  go_enter Try.func21, Try.ntmps21
  go_wp2_with fail
  refine (H1.out _).mono ?_
  rintro e w1 ⟨rfl, hb1⟩
  go_wp2_with fail
  refine (H2.out _).mono ?_
  rintro e w2 ⟨rfl, hb2⟩
  by_cases hlt : a.length < b.length
  · go_wp2_with fail
    go_ret
    rw [hb.out, if_pos hlt]
    exact ⟨rfl, bthen hb1 hb2⟩
  · go_wp2_with fail
    go_ret
    rw [hb.out, if_neg hlt]
    exact ⟨rfl, bthen hb1 hb2⟩

set_option maxRecDepth 100000 in
set_option maxHeartbeats 1000000 in
theorem rzlib_any (s : ByteArray) (w : World) (hs : s.size ≤ maxLen) :
    Calls Try.prog 23 #[.string s] w fun e w' => e = .returned (.string ⟨(zlibP (s.data.toList.take 1048576)).toArray⟩) ∧ Below w.heap.size w w' := by
  have hin := rinput_any s w hs
  have hz := inp_size s
  have hl := inp_list s
  generalize inp s = t at *
  have HL := Lib.hid hl
  have HI := Lib.hid hin
  have hmx : t.size ≤ maxLen := by unfold maxLen; omega
  have had := adler_lt t.data.toList
  have hza : Hid (zlibP (s.data.toList.take 1048576) = [120, 1] ++ best t.data.toList ++ be4 (adler t.data.toList)) := by show _ = _; rw [zlibP, HL.out]
  have hA := radler_any t w hmx
  have hB := fun w => rbest_any s w hs
  rw [← HL.out] at hB
  generalize adler t.data.toList = x at *
  have hy : (best t.data.toList).length ≤ 3000000 := by
    have h1 := best_length t.data.toList
    have h2 := stored_length t.data.toList
    have h3 : t.data.toList.length = t.size := by simp
    omega
  generalize best t.data.toList = y at *
  have HA := Lib.hid hA
  have HB := Lib.hid hB
  clear hl hin hA hB
  go_enter Try.func23, Try.ntmps23
  go_wp2_with fail
  refine HI.out.mono ?_
  rintro e w1 ⟨rfl, rfl⟩
  clear HI
  go_wp2_with fail
  refine HA.out.mono ?_
  rintro e w1 ⟨rfl, rfl⟩
  clear HA
  go_wp2_with fail
  have hcv := conv4 x had
  have u0 : IntKind.u8.wrap ((x : Int) / 16777216) = (x : Int) / 16777216 := by rw [IntKind.wrap_u8]; omega
  have u1 : IntKind.u8.wrap ((x : Int) / 65536) = (x : Int) / 65536 % 256 := by rw [IntKind.wrap_u8]
  have u2 : IntKind.u8.wrap ((x : Int) / 256) = (x : Int) / 256 % 256 := by rw [IntKind.wrap_u8]
  have u3 : IntKind.u8.wrap (x : Int) = (x : Int) % 256 := by rw [IntKind.wrap_u8]
  generalize hbe : be4 x = z at *
  have hz4 : z.length = 4 := by rw [← hbe]; rfl
  have HBE := Lib.hid hbe
  clear hbe
  go_region_with (go_at_call 21; refine (HB.out _).mono ?_; rintro e w9 ⟨rfl, hb9⟩; obtain ⟨hcA, hfA⟩ := bcell hb9)
  all_goals
    clear u0 u1 u2 u3 hcv
    go_wp2_with fail
    go_ret
    refine ⟨?_, ?_⟩
    · rw [hza.out]
      exact congrArg Ending.returned (congrArg Value.string (ByteArray.ext (by simp)))
    · first | exact below_drew_alloc hb9 _ | exact below_alloc_drew hb9

set_option maxHeartbeats 400000 in
theorem lawFixes (s : ByteArray) (w : World) (hs : s.size ≤ maxLen) :
    Calls Try.prog 4 #[.string s] w fun e w' => e = .returned (.bool true) ∧ Below w.heap.size w w' := by
  have h1 := fun w => fixed_any s w hs
  have h2 := fun w => rfixed_any s w hs
  generalize fixed (s.data.toList.take 1048576) = b at *
  have H1 := Lib.hid h1
  have H2 := Lib.hid h2
  clear h1 h2
  by_cases h6 : s.size ≤ 6000
  · have hd : decide ((6000 : Int) < (s.size : Int)) = false := by simp; omega
    go_enter Try.func4, Try.ntmps4
    go_wp2_with fail
    refine (H1.out _).mono ?_
    rintro e w1 ⟨rfl, hb1⟩
    go_wp2_with fail
    refine (H2.out _).mono ?_
    rintro e w2 ⟨rfl, hb2⟩
    go_wp2_with fail
    refine (example_any _).mono ?_
    rintro e w3 ⟨rfl, hb3⟩
    go_wp2_with fail
    go_ret
    exact ⟨rfl, bthen (bthen hb1 hb2) hb3⟩
  · have hd : decide ((6000 : Int) < (s.size : Int)) = true := by simp; omega
    go_enter Try.func4, Try.ntmps4
    go_wp2_with fail
    go_ret
    exact ⟨rfl, Below.refl _ _⟩

set_option maxHeartbeats 400000 in
theorem lawWraps (s : ByteArray) (w : World) (hs : s.size ≤ maxLen) :
    Calls Try.prog 6 #[.string s] w fun e w' => e = .returned (.bool true) ∧ Below w.heap.size w w' := by
  have h1 := fun w => best_any s w hs
  have h2 := fun w => rbest_any s w hs
  have h3 := fun w => zlib_any s w hs
  have h4 := fun w => rzlib_any s w hs
  generalize best (s.data.toList.take 1048576) = b at *
  generalize zlibP (s.data.toList.take 1048576) = z at *
  have H1 := Lib.hid h1
  have H2 := Lib.hid h2
  have H3 := Lib.hid h3
  have H4 := Lib.hid h4
  clear h1 h2 h3 h4
  by_cases h6 : s.size ≤ 6000
  · have hd : decide ((6000 : Int) < (s.size : Int)) = false := by simp; omega
    go_enter Try.func6, Try.ntmps6
    go_wp2_with fail
    refine (H1.out _).mono ?_
    rintro e w1 ⟨rfl, hb1⟩
    go_wp2_with fail
    refine (H2.out _).mono ?_
    rintro e w2 ⟨rfl, hb2⟩
    go_wp2_with fail
    refine (H3.out _).mono ?_
    rintro e w3 ⟨rfl, hb3⟩
    go_wp2_with fail
    refine (H4.out _).mono ?_
    rintro e w4 ⟨rfl, hb4⟩
    go_wp2_with fail
    refine (example_any _).mono ?_
    rintro e w5 ⟨rfl, hb5⟩
    go_wp2_with fail
    go_ret
    exact ⟨rfl, bthen (bthen (bthen (bthen hb1 hb2) hb3) hb4) hb5⟩
  · have hd : decide ((6000 : Int) < (s.size : Int)) = true := by simp; omega
    go_enter Try.func6, Try.ntmps6
    go_wp2_with fail
    go_ret
    exact ⟨rfl, Below.refl _ _⟩

end Go.Proofs.Ytppfjofaegbbjaa
