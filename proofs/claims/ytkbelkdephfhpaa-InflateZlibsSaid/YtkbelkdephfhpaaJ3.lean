/-
  Walk: whether bits begin a code, in the reference.
-/
import Derived.Test.YtkbelkdephfhpaaI3
namespace Go.Proofs.Ytkbelkdephfhpaa
open Go.RowKit

def begB (ls cs : List Nat) (n c k : Nat) : Bool := (List.range k).any fun i => decide (0 < ls.getD i 0) && decide (n ≤ ls.getD i 0) && (cs.getD i 0 / 2 ^ (ls.getD i 0 - n) == c)
theorem begB_succ (ls cs : List Nat) (n c k : Nat) : begB ls cs n c (k + 1) = (begB ls cs n c k || (decide (0 < ls.getD k 0) && decide (n ≤ ls.getD k 0) && (cs.getD k 0 / 2 ^ (ls.getD k 0 - n) == c))) := by
  unfold begB
  rw [List.range_succ, List.any_append]
  simp
theorem begB_mono (ls cs : List Nat) (n c k m : Nat) (h : begB ls cs n c k = true) (hk : k ≤ m) : begB ls cs n c m = true := by
  obtain ⟨d, rfl⟩ := Nat.le.dest hk
  clear hk
  induction d with
  | zero => exact h
  | succ d ih => rw [← Nat.add_assoc, begB_succ, ih]; rfl

set_option maxRecDepth 100000 in
set_option maxHeartbeats 2000000 in
theorem refBegins_any (v u : Value) (ls cs : List Nat) (n c : Nat) (w : World) (hr : IRead w v ls) (hu : IRead w u cs) (hlc : cs.length = ls.length) (h15 : ∀ n ∈ ls, n ≤ 15) (hc16 : ∀ n ∈ cs, n ≤ 26214400) (hl : ls.length ≤ 400) (hn : n ≤ 20) :
    Calls Try.prog 44 #[v, u, .int .i64 n, .int .i64 c] w fun e w' => e = .returned (.bool (begB ls cs n c ls.length)) ∧ ∃ m, w' = w.drewN m := by
  obtain ⟨x, cp, rfl, hc1, hc2, hcell⟩ := id hr
  obtain ⟨y, cq, rfl, hd1, hd2, hdell⟩ := id hu
  unfold maxLen at hc2 hd2
  go_enter Try.func44, Try.ntmps44
  go_wp2_with fail
  go_loopw [12] (fun vi wr => ∃ i m : Nat, vi = .int .i64 i ∧ i ≤ ls.length ∧ Hid (begB ls cs n c i = false) ∧ wr = w.drewN m) (fun vi _ => ls.length - (intOf vi).toNat)
  case atStart => exact ⟨0, 0, rfl, Nat.zero_le _, rfl, rfl⟩
  case round =>
    obtain ⟨i, m, rfl, hi, hb, rfl⟩ := hrel
    by_cases hlt : i < ls.length
    · have hd : decide ((i : Int) < (ls.length : Int)) = true := by simp; omega
      have hne : ls ≠ [] := by rintro rfl; simp at hlt
      have hlt2 : i < cs.length := by omega
      have hne2 : cs ≠ [] := by rintro rfl; simp at hlt2
      obtain ⟨g, off, rfl, hcl⟩ := hcell hne
      obtain ⟨g2, off2, rfl, hdl⟩ := hdell hne2
      have q1 := hcl i hlt
      have q2 := hdl i hlt2
      have y15 := h15 ls[i] (List.getElem_mem hlt)
      have z16 := hc16 cs[i] (List.getElem_mem hlt2)
      have HB : Hid (begB ls cs n c (i + 1) = (decide (0 < ls[i]) && decide (n ≤ ls[i]) && (cs[i] / 2 ^ (ls[i] - n) == c))) := by
        show _ = _
        rw [begB_succ, hb.out]; simp [List.getD, hlt, hlt2]
      clear hcl hdl hcell hdell hr hu
      rw [hlc] at *
      generalize ls[i] = Y at *
      generalize cs[i] = Z at *
      have k1 : (0 : Int) ≤ (i : Int) := by omega
      have k2 : (i : Int) < (ls.length : Int) := by omega
      by_cases hy : 0 < Y
      · have dy : decide ((0 : Int) < (Y : Int)) = true := by simp; omega
        by_cases hYn : n ≤ Y
        · have dn : decide ((n : Int) ≤ (Y : Int)) = true := by simp; omega
          have e1 : (Z : Int) / 2 ^ (Y - n) = ((Z / 2 ^ (Y - n) : Nat) : Int) := by simp
          generalize Z / 2 ^ (Y - n) = F at *
          have HY := Lib.hid (And.intro hy hYn)
          by_cases hF : F = c
          · have dF : ((F : Int) == (c : Int)) = true := by simp; omega
            have HR : Hid (begB ls cs n c ls.length = true) := begB_mono _ _ _ _ _ _ (by rw [HB.out]; simp [hy, hYn, hF]) hlt
            clear HB hF hb
            go_wp2_with fail
            go_quiet (fail)
            go_wp2_with fail
            go_ret
            exact ⟨by rw [HR.out]; rfl, m + nq, by simp⟩
          · have dF : ((F : Int) == (c : Int)) = false := by simp; omega
            have HR : Hid (begB ls cs n c (i + 1) = false) := by show _ = _; rw [HB.out]; simp [hF]
            clear HB hF hb
            go_wp2_with fail
            go_quiet (fail)
            go_wp2_with fail
            exact ⟨⟨i + 1, m + nq, by go_num, by omega, HR, rfl⟩, by simp [intOf]; omega⟩
        · have dn : decide ((n : Int) ≤ (Y : Int)) = false := by simp; omega
          have HR : Hid (begB ls cs n c (i + 1) = false) := by show _ = _; rw [HB.out]; simp [hYn]
          clear HB hb
          go_wp2_with fail
          go_quiet (fail)
          go_wp2_with fail
          exact ⟨⟨i + 1, m + nq, by go_num, by omega, HR, rfl⟩, by simp [intOf]; omega⟩
      · have dy : decide ((0 : Int) < (Y : Int)) = false := by simp; omega
        have HR : Hid (begB ls cs n c (i + 1) = false) := by show _ = _; rw [HB.out]; simp [hy]
        clear HB hb
        go_wp2_with fail
        go_quiet (fail)
        go_wp2_with fail
        exact ⟨⟨i + 1, m + nq, by go_num, by omega, HR, rfl⟩, by simp [intOf]; omega⟩
    · have hd : decide ((i : Int) < (ls.length : Int)) = false := by simp; omega
      obtain rfl : i = ls.length := by omega
      go_wp2_with fail
      go_ret
      exact ⟨by rw [hb.out]; rfl, _, rfl⟩
end Go.Proofs.Ytkbelkdephfhpaa
