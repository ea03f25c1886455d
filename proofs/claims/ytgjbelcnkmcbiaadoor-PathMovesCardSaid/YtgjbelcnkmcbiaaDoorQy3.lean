/-
  Walks: two lists of bools, two paths are the same. The law on errors and open subpaths.
-/
import Derived.Test.YtgjbelcnkmcbiaaDoorQy2
import Derived.ChangeKeysEq
namespace Go.Proofs.YtgjbelcnkmcbiaaDoor
open Go.RowKit

theorem eqSeg (k a b c d e f : Int) (w : World) : (Op.equalIn 10000 35 (.agg #[.int .i64 k, .int .i64 a, .int .i64 b, .int .i64 c, .int .i64 d, .int .i64 e, .int .i64 f]) (.agg #[.int .i64 k, .int .i64 a, .int .i64 b, .int .i64 c, .int .i64 d, .int .i64 e, .int .i64 f])).run Tryd.prog w = .ok true w := by
  have u3 := Tryd.underlying3
  have a3 := Tryd.isAgg3
  have z3 := Tryd.sizeOf3
  have uP := Tryd.underlying32
  have hS : Tryd.prog.underlying 35 = some (.struct (Tryd.prog.fieldsOf 35)) := by kernel_rfl
  have hP : Tryd.prog.underlying 32 = some (.struct (Tryd.prog.fieldsOf 32)) := by kernel_rfl
  have hc : Tryd.prog.cellsOf 32 = 2 := by kernel_rfl
  have hpt : ∀ x y w, (Op.equalIn 9998 32 (.agg #[.int .i64 x, .int .i64 y]) (.agg #[.int .i64 x, .int .i64 y])).run Tryd.prog w = .ok true w := by
    intro x y w
    rw [show (9998 : Nat) = 9997 + 1 from rfl, run_equalIn_agg w 9997 32 _ _ hP (by kernel_rfl)]
    simp only [Program.fieldsOf, Tryd.underlying32]
    go_simp
  have harr : ∀ w, (Op.equalIn 9999 33 (.agg #[.int .i64 a, .int .i64 b, .int .i64 c, .int .i64 d, .int .i64 e, .int .i64 f]) (.agg #[.int .i64 a, .int .i64 b, .int .i64 c, .int .i64 d, .int .i64 e, .int .i64 f])).run Tryd.prog w = .ok true w := by
    intro w
    obtain ⟨i, hi⟩ := info_of_underlying Tryd.underlying32
    have hpart : ∀ (xs : Array Value) (o : Nat) w, (part 32 xs o).run Tryd.prog w = .ok (.agg (xs.extract o (o + 2))) w := by
      intro xs o w
      simp [part, isAgg, run_underlying Tryd.underlying32]
    rw [show (9999 : Nat) = 9998 + 1 from rfl, run_equalIn_array w 9998 _ _ Tryd.underlying33 hi, hc]
    simp [Op.eqItems, List.range, List.range.loop, hpart, hpt]
  rw [show (10000 : Nat) = 9999 + 1 from rfl, run_equalIn_agg w 9999 35 _ _ hS (by kernel_rfl)]
  simp only [Program.fieldsOf, Tryd.underlying35]
  go_simp

set_option maxHeartbeats 2000000 in
set_option maxRecDepth 100000 in
theorem sameSegs_any (v1 v2 : Value) (l : List Sg) (w : World) (h1 : SRow w v1 l) (h2 : SRow w v2 l) :
    Calls Tryd.prog 27 #[v1, v2] w fun e w' => e = .returned (.bool true) ∧ ∃ n, w' = w.drewN n := by
  obtain ⟨x1, c1, rfl, hl1, hc1, -⟩ := id h1
  obtain ⟨x2, c2, rfl, -, hc2, -⟩ := id h2
  have HP1 := Lib.hid h1
  have HP2 := Lib.hid h2
  unfold maxLen at hc1 hc2
  clear h1 h2
  go_enter Tryd.func27, Tryd.ntmps27
  go_wp2_with fail
  go_loopw [5] (fun vi wr => ∃ (i n k : Nat), vi = .int .i64 i ∧ i ≤ l.length ∧ n = 0 ∧ Hid (wr = w.drewN k)) (fun vi _ => l.length - (intOf vi).toNat)
  case atStart => exact ⟨0, 0, 0, rfl, Nat.zero_le _, rfl, rfl⟩
  case round =>
    obtain ⟨i, n, k, rfl, hi, -, hwk⟩ := hrel
    by_cases hlt : i < l.length
    · have dlt : decide ((i : Int) < (l.length : Int)) = true := by simp; omega
      have hp1 : SRow wr (.slice x1 l.length c1) l := by rw [hwk.out]; exact HP1.out
      have hp2 : SRow wr (.slice x2 l.length c2) l := by rw [hwk.out]; exact HP2.out
      obtain ⟨g1, o1, rfl, hcl, -⟩ := hp1.at i hlt
      have q := hcl i hlt
      clear hcl
      obtain ⟨g2, o2, rfl, hcl, -⟩ := hp2.at i hlt
      have r := hcl i hlt
      clear hcl
      obtain ⟨m, hm⟩ : ∃ m, l[i] = m := ⟨_, rfl⟩
      rw [hm] at q r
      clear hm
      obtain ⟨k0, ⟨ax, ay⟩, ⟨bx, by_⟩, ⟨cx, cy⟩⟩ := m
      obtain ⟨q0, q1, q2, q3, q4, q5, q6⟩ := q
      obtain ⟨r0, r1, r2, r3, r4, r5, r6⟩ := r
      simp only at q0 q1 q2 q3 q4 q5 q6 r0 r1 r2 r3 r4 r5 r6
      have heq := eqSeg k0 ax ay bx by_ cx cy
      go_wp2_with fail
      go_quiet (fail)
      clear q0 q1 q2 q3 q4 q5 q6 r0 r1 r2 r3 r4 r5 r6
      have HK : Hid (wr.drewN nq = w.drewN (k + nq)) := by show _ = _; rw [hwk.out]; simp only [World.drewN, Nat.add_assoc]
      go_wp2_with fail
      go_roundw
      case rel => exact ⟨i + 1, 0, _, by go_num, by omega, rfl, HK⟩
      case measure => simp [intOf]; omega
    · have dlt : decide ((i : Int) < (l.length : Int)) = false := by simp; omega
      go_wp2_with fail
      go_ret
      exact ⟨rfl, _, hwk.out⟩

set_option maxHeartbeats 2000000 in
set_option maxRecDepth 100000 in
theorem sameBools_any (v1 v2 : Value) (l : List Bool) (w : World) (h1 : BoRow w v1 l) (h2 : BoRow w v2 l) :
    Calls Tryd.prog 20 #[v1, v2] w fun e w' => e = .returned (.bool true) ∧ ∃ n, w' = w.drewN n := by
  obtain ⟨x1, c1, rfl, hl1, hc1, -⟩ := id h1
  obtain ⟨x2, c2, rfl, -, hc2, -⟩ := id h2
  have HP1 := Lib.hid h1
  have HP2 := Lib.hid h2
  unfold maxLen at hc1 hc2
  clear h1 h2
  go_enter Tryd.func20, Tryd.ntmps20
  go_wp2_with fail
  go_loopw [5] (fun vi wr => ∃ (i n k : Nat), vi = .int .i64 i ∧ i ≤ l.length ∧ n = 0 ∧ Hid (wr = w.drewN k)) (fun vi _ => l.length - (intOf vi).toNat)
  case atStart => exact ⟨0, 0, 0, rfl, Nat.zero_le _, rfl, rfl⟩
  case round =>
    obtain ⟨i, n, k, rfl, hi, -, hwk⟩ := hrel
    by_cases hlt : i < l.length
    · have dlt : decide ((i : Int) < (l.length : Int)) = true := by simp; omega
      have hne : l ≠ [] := by rintro rfl; simp at hlt
      have hp1 : BoRow wr (.slice x1 l.length c1) l := by rw [hwk.out]; exact HP1.out
      have hp2 : BoRow wr (.slice x2 l.length c2) l := by rw [hwk.out]; exact HP2.out
      obtain ⟨x, c, hv, -, -, hcl⟩ := hp1
      cases hv
      obtain ⟨g1, o1, rfl, hc⟩ := hcl hne
      have q0 := hc i hlt
      clear hcl hc
      obtain ⟨x, c, hv, -, -, hcl⟩ := hp2
      cases hv
      obtain ⟨g2, o2, rfl, hc⟩ := hcl hne
      have r0 := hc i hlt
      clear hcl hc
      generalize l[i] = m at *
      go_wp2_with fail
      go_quiet (fail)
      clear q0 r0
      have HK : Hid (wr.drewN nq = w.drewN (k + nq)) := by show _ = _; rw [hwk.out]; simp only [World.drewN, Nat.add_assoc]
      go_wp2_with fail
      go_roundw
      case rel => exact ⟨i + 1, 0, _, by go_num, by omega, rfl, HK⟩
      case measure => simp [intOf]; omega
    · have dlt : decide ((i : Int) < (l.length : Int)) = false := by simp; omega
      go_wp2_with fail
      go_ret
      exact ⟨rfl, _, hwk.out⟩

end Go.Proofs.YtgjbelcnkmcbiaaDoor
