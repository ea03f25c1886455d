/-
  The laws InflateStored and InflateCuts: walks.
-/
import Derived.Test.YtkbelkdephfhpaaK2
import Derived.Test.YtkbelkdephfhpaaK7
import Derived.Test.YtkbelkdephfhpaaK10
namespace Go.Proofs.Ytkbelkdephfhpaa
open Go.RowKit

theorem ba_app (l : List UInt8) (s : ByteArray) : ((⟨l.toArray⟩ : ByteArray) ++ s).data.toList = l ++ s.data.toList := by
  rw [ByteArray.data_append]; simp
theorem ba_size (s : ByteArray) : s.data.toList.length = s.size := by simp
theorem mostN_id (n : Nat) (h : n ≤ 1048576) : mostN (n : Int) = n := by unfold mostN; omega

set_option maxRecDepth 100000 in
set_option maxHeartbeats 8000000 in
theorem lawStored (a b r : ByteArray) (w : World) (_ : a.size ≤ 200000000000000) (_ : b.size ≤ 200000000000000) (hr : r.size ≤ 200000000000000) :
    Calls Try.prog 6 #[.string a, .string b, .string r] w fun e w' => e = .returned (.bool true) ∧ Below w.heap.size w w' := by
  by_cases c1 : 65535 < a.size
  · have d1 : decide ((65535 : Int) < (a.size : Int)) = true := by simp; omega
    go_enter Try.func6, Try.ntmps6
    go_wp2_with fail
    refine (awake_any _).mono ?_
    rintro e w1 ⟨rfl, hb1⟩
    go_wp2_with fail
    go_ret
    exact ⟨rfl, hb1⟩
  have d1 : decide ((65535 : Int) < (a.size : Int)) = false := by simp; omega
  by_cases c2 : 65535 < b.size
  · have d2 : decide ((65535 : Int) < (b.size : Int)) = true := by simp; omega
    go_enter Try.func6, Try.ntmps6
    go_wp2_with fail
    refine (awake_any _).mono ?_
    rintro e w1 ⟨rfl, hb1⟩
    go_wp2_with fail
    go_ret
    exact ⟨rfl, hb1⟩
  have d2 : decide ((65535 : Int) < (b.size : Int)) = false := by simp; omega
  have hla := ba_size a
  have hlb := ba_size b
  have hlen1 := blockP_length a.data.toList false
  have hlen2 := blockP_length b.data.toList true
  have hin := inf_blocks 1048576 a.data.toList b.data.toList r.data.toList (by omega) (by omega) (by omega)
  have hcut := inf_cut 1048576 a.data.toList (by omega) (by omega)
  have HB1 := Lib.hid (fun w => block16_any a false w (by omega))
  have HB2 := Lib.hid (fun w => block16_any b true w (by omega))
  obtain ⟨X1, hX1⟩ : ∃ X, (⟨(blockP a.data.toList false).toArray⟩ : ByteArray) = X := ⟨_, rfl⟩
  obtain ⟨X2, hX2⟩ : ∃ X, (⟨(blockP b.data.toList true).toArray⟩ : ByteArray) = X := ⟨_, rfl⟩
  have l1 : X1.data.toList = blockP a.data.toList false := by rw [← hX1]
  have l2 : X2.data.toList = blockP b.data.toList true := by rw [← hX2]
  rw [hX1] at HB1
  rw [hX2] at HB2
  have s1 := ba_size X1
  have s2 := ba_size X2
  rw [l1, hlen1] at s1
  rw [l2, hlen2] at s2
  have hY : (X1 ++ X2).size = 10 + a.size + b.size := by rw [ByteArray.size_append]; omega
  have hYr : (X1 ++ X2 ++ r).size = 10 + a.size + b.size + r.size := by rw [ByteArray.size_append, hY]
  have hYl : (X1 ++ X2 ++ r).data.toList = blockP a.data.toList false ++ blockP b.data.toList true ++ r.data.toList := by
    rw [ByteArray.data_append, ByteArray.data_append]; simp [l1, l2]
  have hab : (⟨(a.data.toList ++ b.data.toList).toArray⟩ : ByteArray) = a ++ b := by
    apply ByteArray.ext
    rw [ByteArray.data_append]
    simp
  have HI1 := Lib.hid (fun w => inf_call (X1 ++ X2 ++ r) 1048576 (.ok (a.data.toList ++ b.data.toList, 10 + a.data.toList.length + b.data.toList.length)) w (by rw [hYr]; omega) (by rw [hYl]; exact hin))
  have HI2 := Lib.hid (fun w => inf_call X1 1048576 (.error 5) w (by omega) (by rw [l1]; exact hcut))
  have HAB := Lib.hid hab
  have b1 : X1.size ≤ 65540 := by omega
  have b2 : X2.size ≤ 65540 := by omega
  have b3 : (X1 ++ X2).size ≤ 131080 := by rw [hY]; omega
  have hu : ((10 + a.data.toList.length + b.data.toList.length : Nat) : Int) = ((X1 ++ X2).size : Int) := by rw [hY, hla, hlb]
  have HU := Lib.hid hu
  clear hin hcut l1 l2 s1 s2 hYr hYl hab hX1 hX2 hlen1 hlen2 hY hu
  go_enter Try.func6, Try.ntmps6
  go_wp2_with fail
  refine (HB1.out _).mono ?_
  rintro e w1 ⟨rfl, hb1⟩
  go_wp2_with fail
  refine (HB2.out _).mono ?_
  rintro e w2 ⟨rfl, hb2⟩
  have hbb := bthen hb1 hb2
  clear hb1 hb2
  go_wp2_with fail
  refine (HI1.out _).mono ?_
  rintro e w3 ⟨hok, hb3⟩
  have hok2 : e = .returned (.tuple #[.string (a ++ b), .int .i64 ((X1 ++ X2).size : Int), .int .i64 0]) := by rw [← HU.out, ← HAB.out]; exact hok
  subst hok2
  have hbb3 := bthen hbb hb3
  clear hbb hb3 hok HU HAB HI1 HB2
  generalize X1 ++ X2 = Y at *
  go_wp2_with fail
  refine (HB1.out _).mono ?_
  rintro e w4 ⟨rfl, hb4⟩
  go_wp2_with fail
  refine (HI2.out _).mono ?_
  rintro e w5 ⟨rfl, hb5⟩
  have hbb5 := bthen hbb3 (bthen hb4 hb5)
  clear hbb3 hb4 hb5 HB1 HI2
  go_wp2_with fail
  refine (awake_any _).mono ?_
  rintro e w6 ⟨rfl, hb6⟩
  have hbb6 := bthen hbb5 hb6
  clear hb6
  go_wp2_with fail
  go_ret
  exact ⟨rfl, hbb6⟩
end Go.Proofs.Ytkbelkdephfhpaa
