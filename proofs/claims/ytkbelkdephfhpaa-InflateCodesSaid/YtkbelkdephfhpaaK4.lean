/-
  The law InflateCodes: its walk.
-/
import Derived.Test.YtkbelkdephfhpaaK2
import Derived.Test.YtkbelkdephfhpaaJ7
namespace Go.Proofs.Ytkbelkdephfhpaa
open Go.RowKit

/-- What a list of code lengths with codes is. -/
theorem lenP_of {L : List Int} {cs : List Nat} (h : lenP L = .ok cs) : ∃ ls : List Nat, cs = codL ls ∧ L = ls.map Int.ofNat ∧ (∀ n ∈ ls, n ≤ 15) ∧ ls.length ≤ 288 := by
  unfold lenP at h
  split at h
  · cases h
  · split at h
    · cases h
    · rename_i hb
      split at h
      · cases h
      · cases h
        have hall : ∀ y ∈ L, 0 ≤ y ∧ y ≤ 15 := by
          intro y hy
          rcases Decidable.em (y < 0 ∨ 15 < y) with hc | hc
          · exact absurd (List.any_eq_true.2 ⟨y, hy, by simpa using hc⟩) hb
          · omega
        refine ⟨L.map Int.toNat, rfl, ?_, ?_, by simp; omega⟩
        · rw [List.map_map]
          conv => lhs; rw [← List.map_id L]
          apply List.map_congr_left
          intro y hy
          have := hall y hy
          simp
          omega
        · intro n hn
          obtain ⟨y, hy, rfl⟩ := List.mem_map.1 hn
          have := hall y hy
          omega
theorem codZ_small (ls : List Nat) (h15 : ∀ n ∈ ls, n ≤ 15) (hl : ls.length ≤ 400) (i : Nat) (hi : i < ls.length) : codZ ls i ≤ 26214400 := by
  unfold codZ
  split
  · omega
  · rename_i h0
    have e : ls.getD i 0 = ls[i] := by simp [List.getD, hi]
    exact codC_small ls i hl hi h0 (by rw [e]; exact h15 _ (List.getElem_mem hi))
theorem codZ_apart (ls : List Nat) (i j : Nat) (hi : i < ls.length) (hj : j < ls.length) (hij : i ≠ j) (h0 : 0 < ls[i]) (hl : ls[i] ≤ ls[j]) : codZ ls j / 2 ^ (ls[j] - ls[i]) ≠ codZ ls i := by
  have ei : ls.getD i 0 = ls[i] := by simp [List.getD, hi]
  have ej : ls.getD j 0 = ls[j] := by simp [List.getD, hj]
  have := cod_prefix ls i j hi hj hij (by omega) (by omega)
  unfold codZ
  rw [if_neg (by omega), if_neg (by omega), ← ei, ← ej]
  exact this

set_option maxRecDepth 100000 in
set_option maxHeartbeats 8000000 in
theorem lawCodes (v : Value) (L : List Int) (w : World) (hr : IReadZ w v L) :
    Calls Try.prog 5 #[v] w fun e w' => e = .returned (.bool true) ∧ Below w.heap.size w w' := by
  go_enter Try.func5, Try.ntmps5
  go_wp2_with fail
  refine (lengthsX_any v L _ hr).mono ?_
  rintro e w1 ⟨hok, hb1⟩
  have hr1 := hr.below hb1
  cases hP : lenP L with
  | error k =>
    rw [hP] at hok
    obtain rfl := hok
    go_wp2_with fail
    refine (refLengths_any v L _ hr1).mono ?_
    rintro e w2 ⟨hok, hb2⟩
    rw [hP] at hok
    obtain rfl := hok
    have hbb := bthen hb1 hb2
    clear hP hb1 hb2 hr hr1
    go_wp2_with fail
    refine (awake_any _).mono ?_
    rintro e w3 ⟨rfl, hb3⟩
    have hbb3 := bthen hbb hb3
    clear hb3 hbb
    go_wp2_with fail
    go_loop [36] (fun vi => vi = .int .i64 0) (fun _ => 0)
    case atStart => rfl
    case round =>
      obtain rfl := hrel
      go_wp2_with fail
      go_loop [51] (fun vi => vi = .int .i64 0) (fun _ => 0)
      case atStart => rfl
      case round =>
        obtain rfl := hrel
        go_wp2_with fail
        go_ret
        exact ⟨rfl, hbb3⟩
  | ok cs =>
    rw [hP] at hok
    obtain ⟨ua, rfl, hua⟩ := hok
    go_wp2_with fail
    refine (refLengths_any v L _ hr1).mono ?_
    rintro e w2 ⟨hok, hb2⟩
    rw [hP] at hok
    obtain ⟨ub, rfl, hub⟩ := hok
    obtain ⟨ls, rfl, rfl, h15, hl288⟩ := lenP_of hP
    have hbb := bthen hb1 hb2
    have hr2 := hr1.below hb2
    have hua2 := hua.below hb2
    clear hP hb1 hb2 hr hr1 hua
    obtain ⟨xa, ca, rfl, ha1, ha2, ha3⟩ := id hua2
    obtain ⟨xb, cb, rfl, hb1, hb2, hb3⟩ := id hub
    rw [codL_length] at ha1 hb1
    unfold maxLen at ha2 hb2
    clear ha3 hb3
    have dl : ((codL ls).length : Int) = (ls.length : Int) := by rw [codL_length]
    go_wp2_with fail
    refine (awake_any _).mono ?_
    rintro e w3 ⟨rfl, hb3⟩
    have hbb3 := bthen hbb hb3
    have hr3 := hr2.below hb3
    have hua3 := hua2.below hb3
    have hub3 := hub.below hb3
    clear hb3 hbb hr2 hua2 hub dl
    rw [codL_length]
    go_wp2_with fail
    go_loopw [36] (fun vi wt => ∃ i m : Nat, vi = .int .i64 i ∧ i ≤ ls.length ∧ wt = w3.drewN m) (fun vi _ => ls.length - (intOf vi).toNat)
    case atStart => exact ⟨0, 0, rfl, Nat.zero_le _, rfl⟩
    case round =>
      obtain ⟨i, m, rfl, hi, rfl⟩ := hrel
      by_cases hil : i < ls.length
      · have hd : decide ((i : Int) < (ls.length : Int)) = true := by simp; omega
        have hne : codL ls ≠ [] := by intro h; have := codL_length ls; rw [h] at this; simp at this; omega
        obtain ⟨x1, c1, e1, -, -, h1⟩ := hua3
        obtain ⟨x2, c2, e2, -, -, h2⟩ := hub3
        cases e1
        cases e2
        obtain ⟨ga, oa, csa, rfl, hba, hca⟩ := h1 hne
        obtain ⟨gb, ob, csb, rfl, hbb, hcb⟩ := h2 hne
        have q1 := (hba.cell (oa + i)).trans (hca i (by rw [codL_length]; exact hil))
        have q2 := (hbb.cell (ob + i)).trans (hcb i (by rw [codL_length]; exact hil))
        rw [codL_get ls i hil] at q1 q2
        have hsm := codZ_small ls h15 (by omega) i hil
        have z1 : (0 : Int) ≤ (i : Int) := by omega
        have z2 : (i : Int) < (ls.length : Int) := by omega
        generalize codZ ls i = Z at *
        clear h1 h2 hca hcb hba hbb hr3
        go_wp2_with fail
        go_quiet (fail)
        go_wp2_with fail
        exact ⟨⟨i + 1, m + nq, by go_num, by omega, by simp⟩, by simp [intOf]; omega⟩
      · have hd : decide ((i : Int) < (ls.length : Int)) = false := by simp; omega
        obtain rfl : i = ls.length := by omega
        go_wp2_with fail
        go_loopw [51] (fun vi wt => ∃ i m : Nat, vi = .int .i64 i ∧ i ≤ ls.length ∧ wt = w3.drewN m) (fun vi _ => ls.length - (intOf vi).toNat)
        case atStart => exact ⟨0, m, rfl, Nat.zero_le _, rfl⟩
        case round =>
          obtain ⟨i, m2, rfl, hi, rfl⟩ := hrel
          by_cases hil : i < ls.length
          · have hd : decide ((i : Int) < (ls.length : Int)) = true := by simp; omega
            go_wp2_with fail
            go_loopw [56] (fun vi wt => ∃ j m : Nat, vi = .int .i64 j ∧ j ≤ ls.length ∧ wt = w3.drewN m) (fun vi _ => ls.length - (intOf vi).toNat)
            case atStart => exact ⟨0, m2, rfl, Nat.zero_le _, rfl⟩
            case round =>
              obtain ⟨j, m3, rfl, hj, rfl⟩ := hrel
              by_cases hjl : j < ls.length
              · have hd : decide ((j : Int) < (ls.length : Int)) = true := by simp; omega
                have hne : codL ls ≠ [] := by intro h; have := codL_length ls; rw [h] at this; simp at this; omega
                have hne2 : ls.map Int.ofNat ≠ [] := by intro h; have := congrArg List.length h; simp at this; rw [this] at hil; simp at hil
                obtain ⟨x1, c1, e1, -, -, h1⟩ := hua3
                cases e1
                obtain ⟨ga, oa, csa, rfl, hba, hca⟩ := h1 hne
                obtain ⟨xl, cl, rfl, hl1, hl2, h3⟩ := hr3
                obtain ⟨gl, ol, rfl, hcl⟩ := h3 hne2
                unfold maxLen at hl2
                have q1 := (hba.cell (oa + i)).trans (hca i (by rw [codL_length]; exact hil))
                have q2 := (hba.cell (oa + j)).trans (hca j (by rw [codL_length]; exact hjl))
                rw [codL_get ls i hil] at q1
                rw [codL_get ls j hjl] at q2
                have q3 := hcl i (by simpa using hil)
                have q4 := hcl j (by simpa using hjl)
                simp only [List.getElem_map, Int.ofNat_eq_natCast] at q3 q4
                have hlm : (ls.map Int.ofNat).length = ls.length := by simp
                rw [hlm] at hl1 ⊢
                have hsm := codZ_small ls h15 (by omega) i hil
                have hsm2 := codZ_small ls h15 (by omega) j hjl
                have hap := codZ_apart ls i j hil hjl
                have hy15 := h15 ls[i] (List.getElem_mem hil)
                have hz15 := h15 ls[j] (List.getElem_mem hjl)
                have z1 : (0 : Int) ≤ (i : Int) := by omega
                have z2 : (i : Int) < (ls.length : Int) := by omega
                have z3 : (0 : Int) ≤ (j : Int) := by omega
                have z4 : (j : Int) < (ls.length : Int) := by omega
                clear h1 h3 hca hcl hba hub3 hlm
                by_cases hij : i = j
                · subst hij
                  clear q2 q4 hap hsm2 hz15
                  generalize codZ ls i = Z at *
                  generalize ls[i] = y at *
                  go_wp2_with fail
                  go_quiet (fail)
                  go_wp2_with fail
                  exact ⟨⟨i + 1, m3 + nq, by go_num, by omega, by simp⟩, by simp [intOf]; omega⟩
                have dij : ((i : Int) != (j : Int)) = true := by simp; omega
                generalize codZ ls i = Z at *
                generalize ls[i] = y at *
                generalize codZ ls j = Z2 at *
                generalize ls[j] = z at *
                by_cases hy : 0 < y
                · have dy : decide ((0 : Int) < (y : Int)) = true := by simp; omega
                  by_cases hyz : y ≤ z
                  · have dz : decide ((y : Int) ≤ (z : Int)) = true := by simp; omega
                    have d15 : decide ((z : Int) ≤ 15) = true := by simp; omega
                    have hne3 := hap hij hy hyz
                    obtain ⟨D, hD⟩ : ∃ D, z - y = D := ⟨_, rfl⟩
                    rw [hD] at hne3
                    have w1 : IntKind.i64.wrap ((z : Int) - (y : Int)) = (D : Int) := by rw [IntKind.wrap_i64]; omega
                    have w2 : (z : Int) - (y : Int) = (D : Int) := by omega
                    obtain ⟨Q, hQ⟩ : ∃ Q, Z2 / 2 ^ D = Q := ⟨_, rfl⟩
                    have hQi : (Z2 : Int) / 2 ^ D = (Q : Int) := by rw [← hQ]; simp
                    rw [hQ] at hne3
                    have dq : ((Q : Int) == (Z : Int)) = false := beq_false_of_ne (by omega)
                    have hD15 : D ≤ 15 := by omega
                    have z5 : (0 : Int) ≤ (D : Int) := by omega
                    clear hD hQ hap w2
                    go_wp2_with fail
                    go_quiet (fail)
                    go_wp2_with fail
                    exact ⟨⟨j + 1, m3 + nq, by go_num, by omega, by simp⟩, by simp [intOf]; omega⟩
                  · have dz : decide ((y : Int) ≤ (z : Int)) = false := by simp; omega
                    clear hap
                    go_wp2_with fail
                    go_quiet (fail)
                    go_wp2_with fail
                    exact ⟨⟨j + 1, m3 + nq, by go_num, by omega, by simp⟩, by simp [intOf]; omega⟩
                · have dy : decide ((0 : Int) < (y : Int)) = false := by simp; omega
                  clear hap
                  go_wp2_with fail
                  go_quiet (fail)
                  go_wp2_with fail
                  exact ⟨⟨j + 1, m3 + nq, by go_num, by omega, by simp⟩, by simp [intOf]; omega⟩
              · have hd : decide ((j : Int) < (ls.length : Int)) = false := by simp; omega
                go_wp2_with fail
                exact ⟨⟨i + 1, m3, by go_num, by omega, rfl⟩, by simp [intOf]; omega⟩
          · have hd : decide ((i : Int) < (ls.length : Int)) = false := by simp; omega
            go_wp2_with fail
            go_ret
            exact ⟨rfl, below_drewN hbb3 _⟩
end Go.Proofs.Ytkbelkdephfhpaa
