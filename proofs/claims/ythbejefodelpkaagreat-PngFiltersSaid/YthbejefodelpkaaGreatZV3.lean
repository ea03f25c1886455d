/-
  The law PngFilters.
-/
import Derived.Test.YthbejefodelpkaaGreatZV2
namespace Go.Proofs.YthbejefodelpkaaGreat
open Go.RowKit
set_option maxRecDepth 100000

set_option maxHeartbeats 2000000 in
theorem lawFilters (k b : Int) (l a : ByteArray) (w : World) (_ : (Lit.int IntKind.i64 k).wf = true) (_ : (Lit.int IntKind.i64 b).wf = true) (hl : l.size ≤ 140737488355328) (_ : a.size ≤ 140737488355328) :
    Calls Tryz.prog 5 #[.int .i64 k, .int .i64 b, .string l, .string a] w fun e w' => e = .returned (.bool true) ∧ Below w.heap.size w w' := by
  have H1 := Lib.hid (fun w => filter_any k b l a w hl)
  have H2 := Lib.hid (fun w => vfilter_any k b l a w hl)
  have H3 := Lib.hid (fun w => unfilter_any k b l a w hl)
  have H4 := Lib.hid (fun w => vunfilter_any k b l a w hl)
  have HAW := Lib.hid (fun w => awake_any w)
  obtain ⟨z, hz⟩ : ∃ z, fchk k b l.data.toList a.data.toList = z := ⟨_, rfl⟩
  rw [hz] at H1 H2 H3 H4
  obtain ⟨F, hF⟩ : ∃ F : ByteArray, (if z = 0 then ⟨(filP k b.toNat l.data.toList a.data.toList).toArray⟩ else ⟨#[]⟩ : ByteArray) = F := ⟨_, rfl⟩
  obtain ⟨G, hG⟩ : ∃ F : ByteArray, (if z = 0 then ⟨(unfP k b.toNat l.data.toList a.data.toList).toArray⟩ else ⟨#[]⟩ : ByteArray) = F := ⟨_, rfl⟩
  rw [hF] at H1 H2
  rw [hG] at H3 H4
  have eF : (F.toList == F.toList) = true := by simp
  have eG : (G.toList == G.toList) = true := by simp
  have ez : ((z : Int) == (z : Int)) = true := by simp
  clear hz hF hG
  go_enter Tryz.func5, Tryz.ntmps5
  go_wp2_with fail
  refine (H1.out _).mono ?_
  rintro e w1 ⟨rfl, hb⟩
  have HB1 := Lib.hid hb
  clear hb
  go_wp2_with fail
  refine (H2.out _).mono ?_
  rintro e w2 ⟨rfl, hb⟩
  have HB2 := Lib.hid (bthen HB1.out hb)
  clear hb
  go_wp2_with fail
  refine (H3.out _).mono ?_
  rintro e w3 ⟨rfl, hb⟩
  have HB3 := Lib.hid (bthen HB2.out hb)
  clear hb
  go_wp2_with fail
  refine (H4.out _).mono ?_
  rintro e w4 ⟨rfl, hb⟩
  have HB4 := Lib.hid (bthen HB3.out hb)
  clear hb
  go_wp2_with fail
  refine (HAW.out _).mono ?_
  rintro e w5 ⟨rfl, hb⟩
  have HB5 := Lib.hid (bthen HB4.out hb)
  clear hb
  go_wp2_with fail
  go_ret
  exact ⟨rfl, HB5.out⟩
end Go.Proofs.YthbejefodelpkaaGreat
