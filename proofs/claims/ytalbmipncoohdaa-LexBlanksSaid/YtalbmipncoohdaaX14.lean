/-
  Walk: two equal rows of tokens are the same.
-/
import Derived.Test.YtalbmipncoohdaaX13
namespace Go.Proofs.Ytalbmipncoohdaa
open Go.RowKit

theorem tcells_get (l : List Tk) (i : Nat) (h : i < l.length) : (tcells l)[i * 3]? = some (.int .i64 (l[i].kind : Int)) ∧ (tcells l)[i * 3 + 1]? = some (.string ⟨l[i].text.toArray⟩) ∧ (tcells l)[i * 3 + 2]? = some (.int .i64 (l[i].at_ : Int)) := by
  induction l generalizing i with
  | nil => simp at h
  | cons t l ih =>
    cases i with
    | zero => simp [tcells, tcell]
    | succ i =>
      have := ih i (by simpa using h)
      have e : tcells (t :: l) = tcell t ++ tcells l := rfl
      rw [e]
      have hl : (tcell t).length = 3 := rfl
      refine ⟨?_, ?_, ?_⟩ <;> rw [List.getElem?_append_right (by rw [hl]; omega), hl]
      · rw [show (i + 1) * 3 - 3 = i * 3 from by omega]; simpa using this.1
      · rw [show (i + 1) * 3 + 1 - 3 = i * 3 + 1 from by omega]; simpa using this.2.1
      · rw [show (i + 1) * 3 + 2 - 3 = i * 3 + 2 from by omega]; simpa using this.2.2

/-- A row of tokens with a token in it lies in a block. -/
theorem trow_block {w : World} {b : Nat} {v : Value} {l : List Tk} (h : TRow w b v l) (hl : 0 < l.length) : ∃ g c, v = .slice (some ⟨g, 0, none⟩) l.length c ∧ l.length ≤ c := by
  rcases h.2 with ⟨rfl, h0⟩ | ⟨g, cap, cur, rfl, _, _, hc, _⟩
  · omega
  · exact ⟨_, _, rfl, hc⟩
theorem trow_cells {w : World} {b g c : Nat} {l : List Tk} (h : TRow w b (.slice (some ⟨g, 0, none⟩) l.length c) l) (i : Nat) (hi : i < l.length) :
    w.cell? ⟨g, i * 3, none⟩ = some (.int .i64 (l[i].kind : Int)) ∧ w.cell? ⟨g, i * 3 + 1, none⟩ = some (.string ⟨l[i].text.toArray⟩) ∧ w.cell? ⟨g, i * 3 + 2, none⟩ = some (.int .i64 (l[i].at_ : Int)) := by
  have hg := tcells_get l i hi
  have a1 := World.ownsRow.cells h (g := g) rfl _ _ hg.1
  have a2 := World.ownsRow.cells h (g := g) rfl _ _ hg.2.1
  have a3 := World.ownsRow.cells h (g := g) rfl _ _ hg.2.2
  rw [Addr.add_lit, Nat.zero_add] at a1 a2 a3
  exact ⟨a1, a2, a3⟩
theorem trow_drewN {w : World} {b : Nat} {v : Value} {l : List Tk} (h : TRow w b v l) (n : Nat) : TRow (w.drewN n) b v l := h

set_option maxRecDepth 100000 in
set_option maxHeartbeats 2000000 in
theorem same_any (v1 v2 : Value) (l : List Tk) (b1 b2 : Nat) (w : World) (h1 : TRow w b1 v1 l) (h2 : TRow w b2 v2 l) (hl : l.length ≤ 1000000) :
    Calls Try.prog 10 #[v1, v2] w fun e w' => e = .returned (.bool true) ∧ ∃ n, w' = w.drewN n := by
  obtain ⟨x1, c1, rfl⟩ := trow_shape h1
  obtain ⟨x2, c2, rfl⟩ := trow_shape h2
  go_enter Try.func10, Try.ntmps10
  go_wp2_with fail
  go_loopw [5] (fun v wr => ∃ (i : Nat), v = .int .i64 i ∧ i ≤ l.length ∧ Hid (∃ n, wr = w.drewN n)) (fun v _ => l.length - (intOf v).toNat)
  case atStart => exact ⟨0, rfl, Nat.zero_le _, ⟨0, rfl⟩⟩
  case round =>
    obtain ⟨i, rfl, hi, hdi⟩ := hrel
    by_cases hlt : i < l.length
    · have k1 : TRow wr b1 (.slice x1 l.length c1) l := by obtain ⟨n, rfl⟩ := hdi.out; exact trow_drewN h1 n
      have k2 : TRow wr b2 (.slice x2 l.length c2) l := by obtain ⟨n, rfl⟩ := hdi.out; exact trow_drewN h2 n
      obtain ⟨g1, d1, e1, hd1⟩ := trow_block k1 (by omega)
      obtain ⟨g2, d2, e2, hd2⟩ := trow_block k2 (by omega)
      injection e1 with e1 _ e1'
      injection e2 with e2 _ e2'
      subst e1 e1' e2 e2'
      obtain ⟨p1, p2, p3⟩ := trow_cells k1 i hlt
      obtain ⟨q1, q2, q3⟩ := trow_cells k2 i hlt
      have hg1 : decide ((i : Int) < (l.length : Int)) = true := by simp; omega
      have i0 : (0 : Int) ≤ (i : Int) := by omega
      have i1 : (i : Int) < (l.length : Int) := by omega
      clear h1 h2 k1 k2
      go_wp2_with fail
      go_quiet (fail)
      go_wp2_with fail
      refine ⟨⟨i + 1, by go_num, by omega, ?_⟩, by simp [intOf]; omega⟩
      obtain ⟨n, hn⟩ := hdi.out
      exact ⟨n + nq, by rw [hn]; simp [World.drewN]; omega⟩
    · have hg1 : decide ((i : Int) < (l.length : Int)) = false := by simp; omega
      go_wp2_with fail
      go_ret
      exact ⟨rfl, hdi.out⟩

def ktOf (l : List Tk) : List (Nat × List UInt8) := l.map fun t => (t.kind, t.text)

set_option maxRecDepth 100000 in
set_option maxHeartbeats 2000000 in
theorem alike_any (v1 v2 : Value) (l m : List Tk) (hlm : Hid (ktOf l = ktOf m)) (b1 b2 : Nat) (w : World) (h1 : TRow w b1 v1 l) (h2 : TRow w b2 v2 m) (hl : l.length ≤ 1000000) :
    Calls Try.prog 16 #[v1, v2] w fun e w' => e = .returned (.bool true) ∧ ∃ n, w' = w.drewN n := by
  obtain ⟨x1, c1, rfl⟩ := trow_shape h1
  obtain ⟨x2, c2, rfl⟩ := trow_shape h2
  have hlen : l.length = m.length := by have := congrArg List.length hlm.out; simpa [ktOf] using this
  obtain ⟨n, hn⟩ : ∃ n, n = l.length := ⟨_, rfl⟩
  rw [← hn] at hl
  have HN := Lib.hid hn
  have HM := Lib.hid (hn.trans hlen)
  go_enter Try.func16, Try.ntmps16
  rw [← HN.out, ← HM.out]
  clear hn hlen
  go_wp2_with fail
  go_loopw [5] (fun v wr => ∃ (i : Nat), v = .int .i64 i ∧ i ≤ n ∧ Hid (∃ n, wr = w.drewN n)) (fun v _ => n - (intOf v).toNat)
  case atStart => exact ⟨0, rfl, Nat.zero_le _, ⟨0, rfl⟩⟩
  case round =>
    obtain ⟨i, rfl, hi, hdi⟩ := hrel
    by_cases hlt : i < n
    · have k1 : TRow wr b1 (.slice x1 l.length c1) l := by obtain ⟨n, rfl⟩ := hdi.out; exact trow_drewN h1 n
      have k2 : TRow wr b2 (.slice x2 m.length c2) m := by obtain ⟨n, rfl⟩ := hdi.out; exact trow_drewN h2 n
      obtain ⟨g1, d1, e1, hd1⟩ := trow_block k1 (by have := HN.out; omega)
      obtain ⟨g2, d2, e2, hd2⟩ := trow_block k2 (by have := HM.out; omega)
      injection e1 with e1 _ e1'
      injection e2 with e2 _ e2'
      subst e1 e1' e2 e2'
      obtain ⟨p1, p2, p3⟩ := trow_cells k1 i (by have := HN.out; omega)
      obtain ⟨q1, q2, q3⟩ := trow_cells k2 i (by have := HM.out; omega)
      have he : (ktOf l)[i]? = (ktOf m)[i]? := by rw [hlm.out]
      simp only [ktOf, List.getElem?_map] at he
      rw [List.getElem?_eq_getElem (by have := HN.out; omega), List.getElem?_eq_getElem (by have := HM.out; omega)] at he
      simp only [Option.map_some, Option.some.injEq, Prod.mk.injEq] at he
      rw [← he.1] at q1
      rw [← he.2] at q2
      clear he p3 q3
      generalize l[i].kind = kk at *
      generalize l[i].text = tt at *
      have hg1 : decide ((i : Int) < (n : Int)) = true := by simp; omega
      have i0 : (0 : Int) ≤ (i : Int) := by omega
      have i1 : (i : Int) < (n : Int) := by omega
      clear h1 h2 k1 k2
      go_wp2_with fail
      go_quiet (fail)
      go_wp2_with fail
      refine ⟨⟨i + 1, by go_num, by omega, ?_⟩, by simp [intOf]; omega⟩
      obtain ⟨n, hn⟩ := hdi.out
      exact ⟨n + nq, by rw [hn]; simp [World.drewN]; omega⟩
    · have hg1 : decide ((i : Int) < (n : Int)) = false := by simp; omega
      go_wp2_with fail
      go_ret
      exact ⟨rfl, hdi.out⟩

end Go.Proofs.Ytalbmipncoohdaa
