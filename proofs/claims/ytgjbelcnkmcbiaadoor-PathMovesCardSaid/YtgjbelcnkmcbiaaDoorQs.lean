/-
  Walks: two polygons, two lists of polygons, two paths are the same.
-/
import Derived.Test.YtgjbelcnkmcbiaaDoorQc
namespace Go.Proofs.YtgjbelcnkmcbiaaDoor
open Go.RowKit

set_option maxHeartbeats 2000000 in
set_option maxRecDepth 100000 in
theorem samePoly_any (v1 v2 : Value) (l : List Pt) (w : World) (h1 : QRow w v1 l) (h2 : QRow w v2 l) :
    Calls Tryd.prog 35 #[v1, v2] w fun e w' => e = .returned (.bool true) ∧ ∃ n, w' = w.drewN n := by
  obtain ⟨x1, c1, rfl, hl1, hc1, -⟩ := id h1
  obtain ⟨x2, c2, rfl, -, hc2, -⟩ := id h2
  have HP1 := Lib.hid h1
  have HP2 := Lib.hid h2
  unfold maxLen at hc1 hc2
  clear h1 h2
  go_enter Tryd.func35, Tryd.ntmps35
  go_wp2_with fail
  go_loopw [5] (fun vi wr => ∃ (i n k : Nat), vi = .int .i64 i ∧ i ≤ l.length ∧ n = 0 ∧ Hid (wr = w.drewN k)) (fun vi _ => l.length - (intOf vi).toNat)
  case atStart => exact ⟨0, 0, 0, rfl, Nat.zero_le _, rfl, rfl⟩
  case round =>
    obtain ⟨i, n, k, rfl, hi, -, hwk⟩ := hrel
    by_cases hlt : i < l.length
    · have dlt : decide ((i : Int) < (l.length : Int)) = true := by simp; omega
      have hne : l ≠ [] := by rintro rfl; simp at hlt
      have hp1 : QRow wr (.slice x1 l.length c1) l := by rw [hwk.out]; exact HP1.out
      have hp2 : QRow wr (.slice x2 l.length c2) l := by rw [hwk.out]; exact HP2.out
      obtain ⟨x, c, hv, -, -, -, hcl⟩ := hp1
      cases hv
      obtain ⟨g1, o1, rfl, hc⟩ := hcl hne
      obtain ⟨q0, q1⟩ := hc i hlt
      clear hcl hc
      obtain ⟨x, c, hv, -, -, -, hcl⟩ := hp2
      cases hv
      obtain ⟨g2, o2, rfl, hc⟩ := hcl hne
      obtain ⟨r0, r1⟩ := hc i hlt
      clear hcl hc
      obtain ⟨p, hp⟩ : ∃ p, l[i] = p := ⟨_, rfl⟩
      rw [hp] at q0 q1 r0 r1
      clear hp
      obtain ⟨p0, p1⟩ := p
      simp only at q0 q1 r0 r1
      have heq : ∀ w, (Op.equalIn 10000 32 (.agg #[.int .i64 p0, .int .i64 p1]) (.agg #[.int .i64 p0, .int .i64 p1])).run Tryd.prog w = .ok true w := fun w => (eqPt p0 p1 p0 p1 w).trans (by simp)
      go_wp2_with fail
      go_quiet (fail)
      clear q0 q1 r0 r1
      have HK : Hid (wr.drewN nq = w.drewN (k + nq)) := by show _ = _; rw [hwk.out]; simp only [World.drewN, Nat.add_assoc]
      go_wp2_with fail
      go_roundw
      case rel => exact ⟨i + 1, 0, _, by go_num, by omega, rfl, HK⟩
      case measure => simp [intOf]; omega
    · have dlt : decide ((i : Int) < (l.length : Int)) = false := by simp; omega
      go_wp2_with fail
      go_ret
      exact ⟨rfl, _, hwk.out⟩

set_option maxHeartbeats 2000000 in
set_option maxRecDepth 100000 in
theorem samePolys_any (v1 v2 : Value) (l : List (List Pt)) (w : World) (h1 : GRow w v1 l) (h2 : GRow w v2 l) :
    Calls Tryd.prog 12 #[v1, v2] w fun e w' => e = .returned (.bool true) ∧ ∃ n, w' = w.drewN n := by
  obtain ⟨x1, c1, rfl, hl1, hc1, -⟩ := id h1
  obtain ⟨x2, c2, rfl, -, hc2, -⟩ := id h2
  have HP1 := Lib.hid h1
  have HP2 := Lib.hid h2
  unfold maxLen at hc1 hc2
  clear h1 h2
  go_enter Tryd.func12, Tryd.ntmps12
  go_wp2_with fail
  go_loopw [5] (fun vi wr => ∃ (i n k : Nat), vi = .int .i64 i ∧ i ≤ l.length ∧ n = 0 ∧ Hid (wr = w.drewN k)) (fun vi _ => l.length - (intOf vi).toNat)
  case atStart => exact ⟨0, 0, 0, rfl, Nat.zero_le _, rfl, rfl⟩
  case round =>
    obtain ⟨i, n, k, rfl, hi, -, hwk⟩ := hrel
    by_cases hlt : i < l.length
    · have dlt : decide ((i : Int) < (l.length : Int)) = true := by simp; omega
      have hne : l ≠ [] := by rintro rfl; simp at hlt
      have hp1 : GRow wr (.slice x1 l.length c1) l := by rw [hwk.out]; exact HP1.out
      have hp2 : GRow wr (.slice x2 l.length c2) l := by rw [hwk.out]; exact HP2.out
      obtain ⟨x, c, hv, -, -, -, hcl⟩ := hp1
      cases hv
      obtain ⟨g1, o1, rfl, hc⟩ := hcl hne
      obtain ⟨u1, q0, r1⟩ := hc i hlt
      clear hcl hc
      obtain ⟨x, c, hv, -, -, -, hcl⟩ := hp2
      cases hv
      obtain ⟨g2, o2, rfl, hc⟩ := hcl hne
      obtain ⟨u2, q1, r2⟩ := hc i hlt
      clear hcl hc
      have HSP : Hid (∀ m, Calls Tryd.prog 35 #[u1, u2] (wr.drewN m) fun e w' => e = .returned (.bool true) ∧ ∃ n, w' = (wr.drewN m).drewN n) := fun m => samePoly_any u1 u2 l[i] (wr.drewN m) r1 r2
      obtain ⟨x3, c3, rfl, -⟩ := r1
      obtain ⟨x4, c4, rfl, -⟩ := r2
      go_wp2_with fail
      go_quiet ((go_at_call 35; exact Calls.quiet_of (HSP.out _)))
      clear q0 q1
      have HK : Hid (wr.drewN nq = w.drewN (k + nq)) := by show _ = _; rw [hwk.out]; simp only [World.drewN, Nat.add_assoc]
      go_wp2_with fail
      go_roundw
      case rel => exact ⟨i + 1, 0, _, by go_num, by omega, rfl, HK⟩
      case measure => simp [intOf]; omega
    · have dlt : decide ((i : Int) < (l.length : Int)) = false := by simp; omega
      go_wp2_with fail
      go_ret
      exact ⟨rfl, _, hwk.out⟩
end Go.Proofs.YtgjbelcnkmcbiaaDoor
