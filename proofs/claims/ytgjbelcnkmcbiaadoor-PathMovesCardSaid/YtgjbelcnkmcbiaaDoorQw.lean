/-
  The examples of the chapter hold: the law's example().
-/
import Derived.Test.YtgjbelcnkmcbiaaDoorPa
import Derived.Test.YtgjbelcnkmcbiaaDoorQl
import Derived.Test.YtgjbelcnkmcbiaaDoorQs
import Derived.Test.YtgjbelcnkmcbiaaDoorQu
import Derived.Test.YtgjbelcnkmcbiaaDoorQx
namespace Go.Proofs.YtgjbelcnkmcbiaaDoor
open Go.RowKit

def exL : List Sg := [(1, (0, 0), (0, 0), 0, 0), (3, (64, 0), (64, 64), 0, 0), (5, (0, 0), (0, 0), 0, 0)]
theorem it0 : Lib.itoa 0 = [48] := by simp [Lib.itoa, Lib.decDigits]
theorem it1 : Lib.itoa 1 = [49] := by simp [Lib.itoa, Lib.decDigits]
theorem it64 : Lib.itoa 64 = [54, 52] := by simp [Lib.itoa, Lib.decDigits]
theorem ex_print : printP exL = [77, 32, 48, 32, 48, 32, 81, 32, 54, 52, 32, 48, 32, 54, 52, 32, 54, 52, 32, 90] := by
  simp [printP, wordsP, segW, exL, nums, letP, usedP, joinP, it0, it64]
theorem ex_chk : chkP exL = 0 := by decide
theorem ex_parse : parseP [77, 32, 48, 32, 48, 32, 81, 32, 54, 52, 32, 48, 32, 54, 52, 32, 54, 52, 32, 90] = (exL, 0, 0) := by rw [← ex_print]; exact parse_print ex_chk
theorem num0 : numP [48] = some 0 := by rw [← it0]; exact numP_itoa 0 (by decide) (by decide)
theorem num01 : numP [48, 49] = none := by rw [rnum_is, show rnumP [48, 49] = 1 by decide +kernel, it1]; decide
theorem ex_p1 : parseP [77, 32, 48, 32, 48, 49] = ([], 4, 4) := by
  unfold parseP
  rw [if_neg (by decide), show spl 32 [77, 32, 48, 32, 48, 49] = [[77], [48], [48, 49]] by decide]
  have e : psRun [[77], [48], [48, 49]] = .error 4 := by
    simp [psRun, psStep, kindP, usedP, num0, num01]
  rw [e]
theorem ex_p2 : parseP [77, 32, 48] = ([], 3, 4) := by
  unfold parseP
  rw [if_neg (by decide), show spl 32 [77, 32, 48] = [[77], [48]] by decide]
  have e : psRun [[77], [48]] = .ok ⟨[putN (zeroSg 1) 0 0], 1, 1, 4⟩ := by
    simp [psRun, psStep, kindP, usedP, num0]
  rw [e]; rfl
theorem ex_p3 : parseP [76, 32, 48, 32, 48] = ([], 0, 24) := by
  unfold parseP
  rw [if_neg (by decide), show spl 32 [76, 32, 48, 32, 48] = [[76], [48], [48]] by decide]
  have e : psRun [[76], [48], [48]] = .ok ⟨[putN (putN (zeroSg 2) 0 0) 1 0], 2, 0, 6⟩ := by
    simp [psRun, psStep, kindP, usedP, num0]
  rw [e]; rfl
theorem ex_fl : ∃ q, flP exL = [q] ∧ q.length = 9 ∧ q[4]? = some (48, 16) := by
  have h : (flP exL).length = 1 := by decide +kernel
  obtain ⟨q, hq⟩ := List.length_eq_one_iff.1 h
  refine ⟨q, hq, ?_, ?_⟩
  · have h2 : ((flP exL)[0]?.map List.length) = some 9 := by decide +kernel
    rw [hq] at h2; simpa using h2
  · have h2 : ((flP exL)[0]?.bind (·[4]?)) = some (48, 16) := by decide +kernel
    rw [hq] at h2; simpa using h2
theorem pa_at (l : List UInt8) (v : List Sg × Nat × Int) (h : parseP l = v) (hl : l.length ≤ 1048576) (w : World) (hd : Ldd w) :
    Calls Tryd.prog 25 #[.string ⟨l.toArray⟩] w fun e w' => (∃ g, e = .returned (.tuple #[g, .int .i64 (v.2.1 : Nat), .int .i64 v.2.2]) ∧ SRow w' g v.1) ∧ Below w.heap.size w w' := by
  refine (parse_any ⟨l.toArray⟩ w (by simpa [ByteArray.size] using hl) hd).mono ?_
  rintro e w' ⟨⟨g, h1, h2⟩, hb⟩
  have h1 : e = .returned (.tuple #[g, .int .i64 ((parseP l).2.1 : Nat), .int .i64 (parseP l).2.2]) := h1
  have h2 : SRow w' g (parseP l).1 := h2
  rw [h] at h1 h2
  exact ⟨⟨g, h1, h2⟩, hb⟩

set_option maxRecDepth 100000 in
set_option maxHeartbeats 4000000 in
theorem example_any (w : World) (hd : Ldd w) : Calls Tryd.prog 13 #[] w fun e w' => e = .returned (.bool true) ∧ Below w.heap.size w w' := by
  have HD := Lib.hid hd
  have H0 : Hid (∀ w, Ldd w → Calls Tryd.prog 25 #[.string ⟨#[77, 32, 48, 32, 48, 32, 81, 32, 54, 52, 32, 48, 32, 54, 52, 32, 54, 52, 32, 90]⟩] w fun e w' => (∃ g, e = .returned (.tuple #[g, .int .i64 0, .int .i64 0]) ∧ SRow w' g exL) ∧ Below w.heap.size w w') :=
    fun w h => pa_at _ _ ex_parse (by decide) w h
  have H1 : Hid (∀ w, Ldd w → Calls Tryd.prog 25 #[.string ⟨#[77, 32, 48, 32, 48, 49]⟩] w fun e w' => (∃ g, e = .returned (.tuple #[g, .int .i64 4, .int .i64 4]) ∧ SRow w' g []) ∧ Below w.heap.size w w') :=
    fun w h => pa_at _ _ ex_p1 (by decide) w h
  have H2 : Hid (∀ w, Ldd w → Calls Tryd.prog 25 #[.string ⟨#[77, 32, 48]⟩] w fun e w' => (∃ g, e = .returned (.tuple #[g, .int .i64 3, .int .i64 4]) ∧ SRow w' g []) ∧ Below w.heap.size w w') :=
    fun w h => pa_at _ _ ex_p2 (by decide) w h
  have H3 : Hid (∀ w, Ldd w → Calls Tryd.prog 25 #[.string ⟨#[76, 32, 48, 32, 48]⟩] w fun e w' => (∃ g, e = .returned (.tuple #[g, .int .i64 0, .int .i64 24]) ∧ SRow w' g []) ∧ Below w.heap.size w w') :=
    fun w h => pa_at _ _ ex_p3 (by decide) w h
  have HFL : Hid (∀ v w, SRow w v exL → Calls Tryd.prog 10 #[v] w fun e w' => (∃ g, e = .returned (.tuple #[g, .int .i64 0]) ∧ GRow w' g (flP exL)) ∧ Below w.heap.size w w') := by
    intro v w hr
    refine (flatten_any v exL w hr).mono ?_
    rintro e w' ⟨h1, h2⟩
    unfold FlOk at h1
    rw [if_pos ex_chk] at h1
    exact ⟨h1, h2⟩
  obtain ⟨q, hq1, hq2, hq3⟩ := ex_fl
  have HQ := Lib.hid hq1
  clear hq1 hd
  go_enter Tryd.func13, Tryd.ntmps13
  go_wp2_with (refine (H0.out _ HD.out).mono ?_)
  rintro e w1 ⟨⟨g, rfl, hr⟩, hb1⟩
  have HR := Lib.hid hr
  have HB1 := Lib.hid hb1
  have HD1 := Lib.hid (HD.out.below hb1)
  have HF := Lib.hid (HFL.out g w1 hr)
  obtain ⟨x, c, rfl, -⟩ := hr
  have hl3 : exL.length = 3 := rfl
  rw [hl3]
  rw [hl3] at HF
  clear hb1 H0 HD HFL hl3
  go_wp2_with (refine HF.out.mono ?_)
  rintro e w2 ⟨⟨g2, rfl, hg⟩, hb2⟩
  rw [HQ.out] at hg
  have HB2 := Lib.hid (bthen HB1.out hb2)
  have HD2 := Lib.hid (HD1.out.below hb2)
  obtain ⟨x2, c2, rfl, -, -, -, hc⟩ := hg
  obtain ⟨b2, o2, rfl, hc'⟩ := hc (by simp)
  obtain ⟨u, hu, hqr⟩ := hc' 0 (by simp)
  obtain ⟨x3, c3, rfl, -, -, -, hc3⟩ := hqr
  obtain ⟨b3, o3, rfl, hc4⟩ := hc3 (by rintro h; simp at h; rw [h] at hq2; simp at hq2)
  obtain ⟨y0, y1⟩ := hc4 4 (by simp; omega)
  simp only [List.getElem_cons_zero, Nat.add_zero] at hu y0 y1
  have hg4 : q[4]'(by omega) = (48, 16) := by rw [List.getElem?_eq_getElem (by omega)] at hq3; injection hq3
  rw [hg4] at y0 y1
  rw [hq2] at hu
  have hln : [q].length = 1 := rfl
  rw [hln]
  clear hc hc' hc3 hc4 hg4 hq3 hb2 HR HB1 HD1 HF HQ hq2 hln
  go_wp2_with (refine (H1.out _ HD2.out).mono ?_)
  rintro e w3 ⟨⟨g3, rfl, hr3⟩, hb3⟩
  have HB3 := Lib.hid (bthen HB2.out hb3)
  have HD3 := Lib.hid (HD2.out.below hb3)
  obtain ⟨x5, c5, rfl, -⟩ := hr3
  clear hb3 HB2 HD2 hu y0 y1 H1
  go_wp2_with (refine (H2.out _ HD3.out).mono ?_)
  rintro e w4 ⟨⟨g4, rfl, hr4⟩, hb4⟩
  have HB4 := Lib.hid (bthen HB3.out hb4)
  have HD4 := Lib.hid (HD3.out.below hb4)
  obtain ⟨x6, c6, rfl, -⟩ := hr4
  clear hb4 HB3 HD3 H2
  go_wp2_with (refine (H3.out _ HD4.out).mono ?_)
  rintro e w5 ⟨⟨g5, rfl, hr5⟩, hb5⟩
  have HB5 := Lib.hid (bthen HB4.out hb5)
  obtain ⟨x7, c7, rfl, -⟩ := hr5
  clear hb5 HB4 HD4 H3
  go_wp2_with fail
  go_ret
  exact ⟨rfl, HB5.out⟩

set_option maxRecDepth 100000 in
set_option maxHeartbeats 2000000 in
theorem lawFlattens (v : Value) (W : World) (hd : Ldd W) (ho : ∃ l, SRow W v l) : Calls Tryd.prog 3 #[v] W fun e W' => e = .returned (.bool true) ∧ Below W.heap.size W W' := by
  obtain ⟨l, hr⟩ := ho
  have HA := Lib.hid (flatten_any v l W hr)
  have HB := Lib.hid (fun w1 (hb : Below W.heap.size W w1) => rflatten_any v l w1 (hr.below hb))
  have HE := Lib.hid (fun w1 (hb : Below W.heap.size W w1) => example_any w1 (hd.below hb))
  obtain ⟨x, c, rfl, -⟩ := hr
  clear hd
  by_cases h0 : chkP l = 0
  · have HFO : Hid (∀ e w', FlOk l e w' = ∃ g, e = .returned (.tuple #[g, .int .i64 0]) ∧ GRow w' g (flP l)) := by
      intro e w'; unfold FlOk; rw [if_pos h0]
    clear h0
    go_enter Tryd.func3, Tryd.ntmps3
    go_wp2_with (refine HA.out.mono ?_)
    rintro e w1 ⟨hf, hb1⟩
    rw [HFO.out] at hf
    obtain ⟨g1, rfl, hg1⟩ := hf
    have HB1 := Lib.hid hb1
    have HG1 := Lib.hid hg1
    obtain ⟨x1, c1, rfl, -⟩ := hg1
    clear hb1 HA
    go_wp2_with (refine (HB.out _ HB1.out).mono ?_)
    rintro e w2 ⟨hf, hb2⟩
    rw [HFO.out] at hf
    obtain ⟨g2, rfl, hg2⟩ := hf
    have HB2 := Lib.hid (bthen HB1.out hb2)
    have HSM := Lib.hid (samePolys_any _ _ (flP l) w2 (HG1.out.below hb2) hg2)
    obtain ⟨x2, c2, rfl, -⟩ := hg2
    clear hb2 HB HG1
    go_wp2_with (refine HSM.out.mono ?_)
    rintro e w3 ⟨rfl, n3, rfl⟩
    have HB3 := Lib.hid (below_drewN HB2.out n3)
    clear HSM
    generalize w2.drewN n3 = w3 at *
    go_wp2_with (refine (HE.out _ HB3.out).mono ?_)
    rintro e w4 ⟨rfl, hb4⟩
    have HB4 := Lib.hid (bthen HB3.out hb4)
    clear hb4
    go_wp2_with fail
    go_ret
    exact ⟨rfl, HB4.out⟩
  · have HFO : Hid (∀ e w', FlOk l e w' = (e = .returned (.tuple #[.slice none 0 0, .int .i64 (chkP l)]))) := by
      intro e w'; unfold FlOk; rw [if_neg h0]
    generalize chkP l = z at *
    clear h0
    go_enter Tryd.func3, Tryd.ntmps3
    go_wp2_with (refine HA.out.mono ?_)
    rintro e w1 ⟨hf, hb1⟩
    rw [HFO.out] at hf
    subst hf
    have HB1 := Lib.hid hb1
    clear hb1 HA
    go_wp2_with (refine (HB.out _ HB1.out).mono ?_)
    rintro e w2 ⟨hf, hb2⟩
    rw [HFO.out] at hf
    subst hf
    have HB2 := Lib.hid (bthen HB1.out hb2)
    have HSM := Lib.hid (samePolys_any _ _ [] w2 (grow_nil _) (grow_nil _))
    clear hb2 HB
    go_wp2_with (refine HSM.out.mono ?_)
    rintro e w3 ⟨rfl, n3, rfl⟩
    have HB3 := Lib.hid (below_drewN HB2.out n3)
    clear HSM
    generalize w2.drewN n3 = w3 at *
    go_wp2_with (refine (HE.out _ HB3.out).mono ?_)
    rintro e w4 ⟨rfl, hb4⟩
    have HB4 := Lib.hid (bthen HB3.out hb4)
    clear hb4
    go_wp2_with fail
    go_ret
    exact ⟨rfl, HB4.out⟩
end Go.Proofs.YtgjbelcnkmcbiaaDoor
