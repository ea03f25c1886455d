/-
  The law TiffPacks.
-/
import Derived.Test.YtakileiomgaahaaTw2
import Derived.Test.YtakileiomgaahaaTk1
import Derived.Test.YtakileiomgaahaaTi8
namespace Go.Proofs.Ytakileiomgaahaa
open Go.RowKit

def unS (r : Except Nat (List UInt8)) : ByteArray := match r with | .error _ => ⟨#[]⟩ | .ok l => ⟨l.toArray⟩
def unK (r : Except Nat (List UInt8)) : Nat := match r with | .error k => k | .ok _ => 0
theorem UnpOk.eq {r : Except Nat (List UInt8)} {e : Ending} (h : UnpOk r e) : e = .returned (.tuple #[.string (unS r), .int .i64 (unK r : Nat)]) := by
  cases r with
  | error k => exact h
  | ok l => exact h
set_option maxHeartbeats 2000000 in
set_option maxRecDepth 100000 in
theorem lawPacks (s : ByteArray) (n : Int) (w : World) (hs : s.size ≤ 140737488355328) (_ : (Lit.int IntKind.i64 n).wf = true) : Calls Try.prog 3 #[.string s, .int .i64 n] w fun e w' => e = .returned (.bool true) ∧ Below w.heap.size w w' := by
  have HU := Lib.hid (fun w => unpack_any s n w (by unfold maxLen; omega))
  have HR := Lib.hid (fun w => runpack_any s n w (by omega))
  have HP := Lib.hid (fun w => packBits_any s w hs)
  have HQ := Lib.hid (fun w => rpackBits_any s w hs)
  have HAW := Lib.hid (fun w => awakeT_any w)
  obtain ⟨st, hst⟩ : ∃ st, unS (unpP s.data.toList n) = st := ⟨_, rfl⟩
  obtain ⟨k, hk⟩ : ∃ k, unK (unpP s.data.toList n) = k := ⟨_, rfl⟩
  have HUE : Hid (∀ e, UnpOk (unpP s.data.toList n) e → e = .returned (.tuple #[.string st, .int .i64 (k : Nat)])) := fun e h => by rw [h.eq, hst, hk]
  obtain ⟨pk, hpk⟩ : ∃ pk : ByteArray, (⟨(packP s.data.toList).toArray⟩ : ByteArray) = pk := ⟨_, rfl⟩
  rw [hpk] at HP HQ
  have ek : ((k : Int) == (k : Int)) = true := by simp
  have est : (st.toList == st.toList) = true := by simp
  have epk : (pk.toList == pk.toList) = true := by simp
  clear hst hk hpk
  go_enter Try.func3, Try.ntmps3
  go_wp2_with fail
  refine (HU.out _).mono ?_
  rintro e w1 ⟨hok, hb1⟩
  obtain rfl := HUE.out _ hok
  have HB1 := Lib.hid hb1
  clear hok hb1
  go_wp2_with fail
  refine (HR.out _).mono ?_
  rintro e w2 ⟨hok, hb2⟩
  obtain rfl := HUE.out _ hok
  have HB2 := Lib.hid (bthen HB1.out hb2)
  clear hok hb2
  go_wp2_with fail
  refine (HP.out _).mono ?_
  rintro e w3 ⟨rfl, hb3⟩
  have HB3 := Lib.hid (bthen HB2.out hb3)
  clear hb3
  go_wp2_with fail
  refine (HQ.out _).mono ?_
  rintro e w4 ⟨rfl, hb4⟩
  have HB4 := Lib.hid (bthen HB3.out hb4)
  clear hb4
  go_wp2_with fail
  refine (HAW.out _).mono ?_
  rintro e w5 ⟨rfl, hb5⟩
  have HB5 := Lib.hid (bthen HB4.out hb5)
  clear hb5
  go_wp2_with fail
  go_ret
  exact ⟨rfl, HB5.out⟩
end Go.Proofs.Ytakileiomgaahaa
