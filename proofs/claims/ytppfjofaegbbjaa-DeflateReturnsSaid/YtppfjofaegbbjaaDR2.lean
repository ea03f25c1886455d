/-
  The law DeflateReturns: what a decoder makes of all forms of any text is the text.
-/
import Derived.Test.YtppfjofaegbbjaaT15
import Derived.Test.YtppfjofaegbbjaaI16
import Derived.Test.YtppfjofaegbbjaaDR1
namespace Go.Proofs.Ytppfjofaegbbjaa
open Go.RowKit

theorem fixedGo_len29 (l : List UInt8) (f p : Nat) : (fixedGo l f p).length ≤ 29 * f := by
  induction f generalizing p with
  | zero => simp [fixedGo]
  | succ f ih =>
    unfold fixedGo
    split
    · have h1 := ih (p + (tok l p).2)
      have h2 := tok_bits l p
      rw [List.length_append]; omega
    · simp
theorem fixed_small (l : List UInt8) (h : l.length ≤ 1048576) : (fixed l).length ≤ 5000000 := by
  have h1 := fixedGo_len29 l l.length 0
  have h2 := symBits_length 256
  rw [fixed, pack_length, fixedBits]
  simp only [List.length_append, numBits_length]
  omega
theorem stored_small (l : List UInt8) (h : l.length ≤ 1048576) : (stored l).length ≤ 5000000 := by
  have h1 := stored_length l
  omega
theorem inf_best (M : Nat) (l rest : List UInt8) (hM : l.length ≤ M) : infP M (best l ++ rest) = .ok (l, (best l).length) := by
  unfold best
  split
  · exact inf_fixed M l rest hM
  · exact inf_stored M l rest hM
theorem be32_be4 (x : Nat) (h : x < 4294967296) : be32 (be4 x) = x := by
  unfold be32 be4
  simp only [List.getD_cons_zero, List.getD_cons_succ, UInt8.toNat_ofNat']
  omega
theorem zli_zlib (M : Nat) (l : List UInt8) (hM : l.length ≤ M) : zliP M (zlibP l) = .ok l := by
  have hd : (zlibP l).drop 2 = best l ++ be4 (adler l) := rfl
  have hd2 : (zlibP l).drop (2 + (best l).length) = be4 (adler l) := by
    rw [← List.drop_drop, hd, List.drop_left' rfl]
  have h4 : (be4 (adler l)).length = 4 := rfl
  unfold zliP
  rw [if_neg (by simp [zlibP]), if_neg (by simp [zlibP]; decide), hd, inf_best M l _ hM]
  dsimp only
  rw [hd2]
  unfold zliE
  rw [h4, if_neg (by omega), be32_be4 _ (adler_lt l), if_neg (by simp), if_neg (by omega)]

theorem back_any (s t : ByteArray) (hs : s.size ≤ 1048576) (ht : t.size ≤ 5000000) (h : infP s.size t.data.toList = .ok (s.data.toList, t.size)) (w : World) :
    Calls Try.prog 25 #[.string t, .int .i64 s.size] w fun e w' => e = .returned (.tuple #[.string s, .int .i64 t.size, .int .i64 0]) ∧ Below w.heap.size w w' := by
  refine (inflate_any t s.size w (by omega)).mono ?_
  rintro e w' ⟨he, hb⟩
  have hm : mostN (s.size : Int) = s.size := by unfold mostN; omega
  rw [hm, h] at he
  exact ⟨he, hb⟩
theorem zback_any (s t : ByteArray) (hs : s.size ≤ 1048576) (ht : t.size ≤ 5000006) (h : zliP s.size t.data.toList = .ok s.data.toList) (w : World) :
    Calls Try.prog 26 #[.string t, .int .i64 s.size] w fun e w' => e = .returned (.tuple #[.string s, .int .i64 0]) ∧ Below w.heap.size w w' := by
  refine (izlib_any t s.size w (by omega)).mono ?_
  rintro e w' ⟨he, hb⟩
  have hm : mostN (s.size : Int) = s.size := by unfold mostN; omega
  rw [hm, h] at he
  exact ⟨he, hb⟩

set_option maxRecDepth 100000 in
set_option maxHeartbeats 1000000 in
theorem lawReturns (s : ByteArray) (w : World) (hs : s.size ≤ maxLen) :
    Calls Try.prog 8 #[.string s] w fun e w' => e = .returned (.bool true) ∧ Below w.heap.size w w' := by
  by_cases h6 : s.size ≤ 1048576
  case neg =>
    have hd : (1048576 : Int) < (s.size : Int) := by omega
    go_enter Try.func8, Try.ntmps8
    go_wp2_with fail
    go_ret
    exact ⟨rfl, Below.refl _ _⟩
  have hln : s.data.toList.length = s.size := by simp
  have hA0 := fun w => dstored_any s w hs
  have hB0 := fun w => fixed_any s w hs
  have hC0 := fun w => best_any s w hs
  have hZ0 := fun w => zlib_any s w hs
  rw [List.take_of_length_le (by rw [hln]; omega)] at hA0 hB0 hC0 hZ0
  have sA := stored_small s.data.toList (by omega)
  have sB := fixed_small s.data.toList (by omega)
  have sC : (best s.data.toList).length ≤ 5000000 := by unfold best; split <;> assumption
  have iA := inf_stored s.size s.data.toList [] (by omega)
  have iB := inf_fixed s.size s.data.toList [] (by omega)
  have iC := inf_best s.size s.data.toList [] (by omega)
  have iZ := zli_zlib s.size s.data.toList (by omega)
  have sZ : (zlibP s.data.toList).length ≤ 5000006 := by unfold zlibP; simp only [List.length_append, List.length_cons, List.length_nil]; have : (be4 (adler s.data.toList)).length = 4 := rfl; omega
  rw [List.append_nil] at iA iB iC
  obtain ⟨A, hA⟩ : ∃ A : ByteArray, A = ⟨(stored s.data.toList).toArray⟩ := ⟨_, rfl⟩
  obtain ⟨B, hB⟩ : ∃ B : ByteArray, B = ⟨(fixed s.data.toList).toArray⟩ := ⟨_, rfl⟩
  obtain ⟨C, hC⟩ : ∃ C : ByteArray, C = ⟨(best s.data.toList).toArray⟩ := ⟨_, rfl⟩
  obtain ⟨Z, hZ⟩ : ∃ Z : ByteArray, Z = ⟨(zlibP s.data.toList).toArray⟩ := ⟨_, rfl⟩
  rw [← hA] at hA0
  rw [← hB] at hB0
  rw [← hC] at hC0
  rw [← hZ] at hZ0
  have zA : A.size = (stored s.data.toList).length := by rw [hA]; rfl
  have zB : B.size = (fixed s.data.toList).length := by rw [hB]; rfl
  have zC : C.size = (best s.data.toList).length := by rw [hC]; rfl
  have zZ : Z.size = (zlibP s.data.toList).length := by rw [hZ]; rfl
  have hA1 := back_any s A h6 (by omega) (by rw [zA, ← iA, hA])
  have hB1 := back_any s B h6 (by omega) (by rw [zB, ← iB, hB])
  have hC1 := back_any s C h6 (by omega) (by rw [zC, ← iC, hC])
  have hZ1 := zback_any s Z h6 (by omega) (by rw [← iZ, hZ])
  have HA0 := Lib.hid hA0
  have HB0 := Lib.hid hB0
  have HC0 := Lib.hid hC0
  have HZ0 := Lib.hid hZ0
  have HA1 := Lib.hid hA1
  have HB1 := Lib.hid hB1
  have HC1 := Lib.hid hC1
  have HZ1 := Lib.hid hZ1
  clear hA0 hB0 hC0 hZ0 hA1 hB1 hC1 hZ1 hA hB hC hZ zA zB zC zZ iA iB iC iZ sA sB sC sZ hln
  have hd : ¬ (1048576 : Int) < (s.size : Int) := by omega
  go_enter Try.func8, Try.ntmps8
  go_wp2_with fail
  refine (HA0.out _).mono ?_
  rintro e w1 ⟨rfl, hb1⟩
  go_wp2_with fail
  refine (HB0.out _).mono ?_
  rintro e w2 ⟨rfl, hb2⟩
  go_wp2_with fail
  refine (HC0.out _).mono ?_
  rintro e w3 ⟨rfl, hb3⟩
  have hb := bthen (bthen hb1 hb2) hb3
  clear hb1 hb2 hb3 HA0 HB0 HC0
  go_wp2_with fail
  have hB0 := Blk.new w3 9 #[.string A, .string B, .string C]
  have hbW := hb.alloc hb.size (.cells #[.string A, .string B, .string C] 9)
  generalize w3.alloc (.cells #[.string A, .string B, .string C] 9) = wa at *
  generalize w3.heap.size = g at *
  clear hb
  go_loopw [4] (fun vi wr => ∃ i : Nat, vi = .int .i64 i ∧ i ≤ 3 ∧ Blk wr g 9 #[.string A, .string B, .string C] ∧ Below w.heap.size w wr) (fun vi _ => 3 - (intOf vi).toNat)
  case atStart => exact ⟨0, rfl, by omega, hB0, hbW⟩
  case round =>
    clear hB0 hbW
    obtain ⟨i, rfl, hi, hBk, hbr⟩ := hrel
    obtain rfl | rfl | rfl | rfl : i = 0 ∨ i = 1 ∨ i = 2 ∨ i = 3 := by omega
    · have hc0 : wr.cell? ⟨g, 0, none⟩ = some (.string A) := by simpa using hBk.cell 0
      go_wp2_with fail
      refine (HA1.out _).mono ?_
      rintro e w4 ⟨rfl, hb4⟩
      have hB4 : Blk w4 g 9 _ := (hb4.block g hBk.lt).trans hBk
      have hc4 : w4.cell? ⟨g, 0, none⟩ = some (.string A) := by simpa using hB4.cell 0
      clear hc0
      go_wp2_with fail
      exact ⟨⟨1, by go_num, by omega, hB4, bthen hbr hb4⟩, by simp [intOf]⟩
    · have hc0 : wr.cell? ⟨g, 1, none⟩ = some (.string B) := by simpa using hBk.cell 1
      go_wp2_with fail
      refine (HB1.out _).mono ?_
      rintro e w4 ⟨rfl, hb4⟩
      have hB4 : Blk w4 g 9 _ := (hb4.block g hBk.lt).trans hBk
      have hc4 : w4.cell? ⟨g, 1, none⟩ = some (.string B) := by simpa using hB4.cell 1
      clear hc0
      go_wp2_with fail
      exact ⟨⟨2, by go_num, by omega, hB4, bthen hbr hb4⟩, by simp [intOf]⟩
    · have hc0 : wr.cell? ⟨g, 2, none⟩ = some (.string C) := by simpa using hBk.cell 2
      go_wp2_with fail
      refine (HC1.out _).mono ?_
      rintro e w4 ⟨rfl, hb4⟩
      have hB4 : Blk w4 g 9 _ := (hb4.block g hBk.lt).trans hBk
      have hc4 : w4.cell? ⟨g, 2, none⟩ = some (.string C) := by simpa using hB4.cell 2
      clear hc0
      go_wp2_with fail
      exact ⟨⟨3, by go_num, by omega, hB4, bthen hbr hb4⟩, by simp [intOf]⟩
    · clear HA1 HB1 HC1
      go_wp2_with fail
      refine (HZ0.out _).mono ?_
      rintro e w4 ⟨rfl, hb4⟩
      go_wp2_with fail
      refine (HZ1.out _).mono ?_
      rintro e w5 ⟨rfl, hb5⟩
      go_wp2_with fail
      refine (example_any _).mono ?_
      rintro e w6 ⟨rfl, hb6⟩
      go_wp2_with fail
      go_ret
      exact ⟨rfl, bthen (bthen (bthen hbr hb4) hb5) hb6⟩
end Go.Proofs.Ytppfjofaegbbjaa
