/-
  The law PngJoins.
-/
import Derived.Test.YthbejefodelpkaaGreatZV7
import Derived.Test.YthbejefodelpkaaGreatZH4
namespace Go.Proofs.YthbejefodelpkaaGreat
open Go.RowKit
set_option maxRecDepth 100000

set_option maxHeartbeats 2000000 in
theorem lawJoins (v : Value) (w : World) (hv : CArg w v) :
    Calls Tryz.prog 4 #[v] w fun e w' => e = .returned (.bool true) ∧ Below w.heap.size w w' := by
  obtain ⟨l, hr, hl1, hl2⟩ := hv
  obtain ⟨xv, cv, rfl, -⟩ := id hr
  have HR := Lib.hid hr
  have H1 := Lib.hid (join_any _ l w hr (by omega) (by omega))
  have H2 := Lib.hid (fun w h => vjoin_any (.slice xv l.length cv) l w h (by omega) (by omega))
  have HAW := Lib.hid (fun w => awake_any w)
  obtain ⟨r, hjr⟩ : ∃ r, joinP l = r := ⟨_, rfl⟩
  rw [hjr] at H1
  have H2' : Hid (∀ w, MRow w (.slice xv l.length cv) l → Calls Tryz.prog 17 #[.slice xv l.length cv] w fun e w' => JoOk r e ∧ Below w.heap.size w w') := fun w h => by rw [← hjr]; exact H2.out w h
  have HU := Lib.hid (fun e (h : JoOk r e) => h.eq)
  obtain ⟨S, hS⟩ : ∃ s, joS r = s := ⟨_, rfl⟩
  obtain ⟨z, hz⟩ : ∃ z, joK r = z := ⟨_, rfl⟩
  rw [hS, hz] at HU
  have ez : ((z : Int) == (z : Int)) = true := by simp
  have eS : (S.toList == S.toList) = true := by simp
  clear hr hjr hS hz H2
  go_enter Tryz.func4, Tryz.ntmps4
  go_wp2_with fail
  refine H1.out.mono ?_
  rintro e w1 ⟨he, hb⟩
  obtain rfl := HU.out _ he
  have HB1 := Lib.hid hb
  have HR1 := Lib.hid (HR.out.below hb)
  clear hb he H1
  go_wp2_with fail
  refine (H2'.out _ HR1.out).mono ?_
  rintro e w2 ⟨he, hb⟩
  obtain rfl := HU.out _ he
  have HB2 := Lib.hid (bthen HB1.out hb)
  clear hb he
  go_wp2_with fail
  refine (HAW.out _).mono ?_
  rintro e w3 ⟨rfl, hb⟩
  have HB3 := Lib.hid (bthen HB2.out hb)
  clear hb
  go_wp2_with fail
  go_ret
  exact ⟨rfl, HB3.out⟩
end Go.Proofs.YthbejefodelpkaaGreat
