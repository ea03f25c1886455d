/-
  The laws InflateStreams and InflateZlibs: walks.
-/
import Derived.Test.YtkbelkdephfhpaaK2
import Derived.Test.YtkbelkdephfhpaaJ14
namespace Go.Proofs.Ytkbelkdephfhpaa
open Go.RowKit

set_option maxRecDepth 100000 in
set_option maxHeartbeats 4000000 in
theorem lawStreams (s : ByteArray) (m : Int) (w : World) (hs : s.size ≤ 1000000000000000) (_ : (Lit.int IntKind.i64 m).wf = true) :
    Calls Try.prog 3 #[.string s, .int .i64 m] w fun e w' => e = .returned (.bool true) ∧ Below w.heap.size w w' := by
  go_enter Try.func3, Try.ntmps3
  go_wp2_with fail
  refine (inflate_any s m _ hs).mono ?_
  rintro e w1 ⟨hok, hb1⟩
  cases hr : infP (mostN m) s.data.toList with
  | error k =>
    rw [hr] at hok
    obtain rfl := hok
    go_wp2_with fail
    refine (refInflate_any s m _ hs).mono ?_
    rintro e w2 ⟨hok2, hb2⟩
    rw [hr] at hok2
    obtain rfl := hok2
    have hbb := bthen hb1 hb2
    clear hr hb1 hb2
    go_wp2_with fail
    refine (awake_any _).mono ?_
    rintro e w3 ⟨rfl, hb3⟩
    have hbb3 := bthen hbb hb3
    clear hb3
    go_wp2_with fail
    go_ret
    exact ⟨rfl, hbb3⟩
  | ok ou =>
    obtain ⟨o, u⟩ := ou
    rw [hr] at hok
    obtain rfl := hok
    go_wp2_with fail
    refine (refInflate_any s m _ hs).mono ?_
    rintro e w2 ⟨hok2, hb2⟩
    rw [hr] at hok2
    obtain rfl := hok2
    have hbb := bthen hb1 hb2
    generalize (⟨o.toArray⟩ : ByteArray) = ob
    clear hr hb1 hb2
    go_wp2_with fail
    refine (awake_any _).mono ?_
    rintro e w3 ⟨rfl, hb3⟩
    have hbb3 := bthen hbb hb3
    clear hb3
    go_wp2_with fail
    go_ret
    exact ⟨rfl, hbb3⟩

set_option maxRecDepth 100000 in
set_option maxHeartbeats 4000000 in
theorem lawZlibs (s : ByteArray) (m : Int) (w : World) (hs : s.size ≤ 1000000000000000) (_ : (Lit.int IntKind.i64 m).wf = true) :
    Calls Try.prog 4 #[.string s, .int .i64 m] w fun e w' => e = .returned (.bool true) ∧ Below w.heap.size w w' := by
  go_enter Try.func4, Try.ntmps4
  go_wp2_with fail
  refine (zlib_any s m _ hs).mono ?_
  rintro e w1 ⟨hok, hb1⟩
  cases hr : zliP (mostN m) s.data.toList with
  | error k =>
    rw [hr] at hok
    obtain rfl := hok
    go_wp2_with fail
    refine (refZlib_any s m _ hs).mono ?_
    rintro e w2 ⟨hok2, hb2⟩
    rw [hr] at hok2
    obtain rfl := hok2
    have hbb := bthen hb1 hb2
    clear hr hb1 hb2
    go_wp2_with fail
    refine (awake_any _).mono ?_
    rintro e w3 ⟨rfl, hb3⟩
    have hbb3 := bthen hbb hb3
    clear hb3
    go_wp2_with fail
    go_ret
    exact ⟨rfl, hbb3⟩
  | ok o =>
    rw [hr] at hok
    obtain rfl := hok
    go_wp2_with fail
    refine (refZlib_any s m _ hs).mono ?_
    rintro e w2 ⟨hok2, hb2⟩
    rw [hr] at hok2
    obtain rfl := hok2
    have hbb := bthen hb1 hb2
    generalize (⟨o.toArray⟩ : ByteArray) = ob
    clear hr hb1 hb2
    go_wp2_with fail
    refine (awake_any _).mono ?_
    rintro e w3 ⟨rfl, hb3⟩
    have hbb3 := bthen hbb hb3
    clear hb3
    go_wp2_with fail
    go_ret
    exact ⟨rfl, hbb3⟩
end Go.Proofs.Ytkbelkdephfhpaa
