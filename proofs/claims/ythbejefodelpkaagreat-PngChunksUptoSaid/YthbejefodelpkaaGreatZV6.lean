/-
  The law PngChunks.
-/
import Derived.Test.YthbejefodelpkaaGreatZV5
namespace Go.Proofs.YthbejefodelpkaaGreat
open Go.RowKit
set_option maxRecDepth 100000

def ckL (r : Except Nat (List Mt)) : List Mt := match r with | .error _ => [] | .ok l => l
def ckK (r : Except Nat (List Mt)) : Nat := match r with | .error k => k | .ok _ => 0
theorem CkOk.uni {r : Except Nat (List Mt)} {e : Ending} {w' : World} (h : CkOk r e w') : ∃ x c, e = .returned (.tuple #[.slice x (ckL r).length c, .int .i64 (ckK r : Nat)]) ∧ MRow w' (.slice x (ckL r).length c) (ckL r) := by
  cases r with
  | error k => exact ⟨none, 0, h, mrow_nil w'⟩
  | ok l =>
    obtain ⟨v, rfl, hm⟩ := h
    obtain ⟨x, c, rfl, -⟩ := id hm
    exact ⟨x, c, rfl, hm⟩

set_option maxHeartbeats 2000000 in
theorem lawChunks (s : ByteArray) (w : World) (hs : s.size ≤ 1048576) :
    Calls Tryz.prog 3 #[.string s] w fun e w' => e = .returned (.bool true) ∧ Below w.heap.size w w' := by
  have H1 := Lib.hid (fun w => chunks_any s w (by omega))
  have H2 := Lib.hid (fun w => vchunks_any s w (by omega))
  have HAW := Lib.hid (fun w => awake_any w)
  obtain ⟨r, hr⟩ : ∃ r, chunksP s.data.toList = r := ⟨_, rfl⟩
  rw [hr] at H1 H2
  have HU := Lib.hid (fun e w' (h : CkOk r e w') => h.uni)
  obtain ⟨l, hl⟩ : ∃ l, ckL r = l := ⟨_, rfl⟩
  obtain ⟨z, hz⟩ : ∃ z, ckK r = z := ⟨_, rfl⟩
  rw [hl, hz] at HU
  have ez : ((z : Int) == (z : Int)) = true := by simp
  clear hr hl hz
  go_enter Tryz.func3, Tryz.ntmps3
  go_wp2_with fail
  refine (H1.out _).mono ?_
  rintro e w1 ⟨he, hb⟩
  obtain ⟨x1, c1, rfl, hm1⟩ := HU.out _ _ he
  have HB1 := Lib.hid hb
  have HM1 := Lib.hid hm1
  clear hb he hm1
  go_wp2_with fail
  refine (H2.out _).mono ?_
  rintro e w2 ⟨he, hb⟩
  obtain ⟨x2, c2, rfl, hm2⟩ := HU.out _ _ he
  have HB2 := Lib.hid (bthen HB1.out hb)
  have HM2 := Lib.hid hm2
  have HN1 := Lib.hid (HM1.out.below hb)
  clear hb he hm2 HM1
  go_wp2_with fail
  refine (HAW.out _).mono ?_
  rintro e w3 ⟨rfl, hb⟩
  have HB3 := Lib.hid (bthen HB2.out hb)
  have HM3 := Lib.hid (HM2.out.below hb)
  have HN3 := Lib.hid (HN1.out.below hb)
  clear hb HM2 HN1
  go_wp2_with fail
  refine (sameChunks_any _ _ l _ HN3.out HM3.out).mono ?_
  rintro e w4 ⟨rfl, hb⟩
  have HB4 := Lib.hid (bthen HB3.out hb)
  clear hb
  go_wp2_with fail
  go_ret
  exact ⟨rfl, HB4.out⟩
end Go.Proofs.YthbejefodelpkaaGreat
