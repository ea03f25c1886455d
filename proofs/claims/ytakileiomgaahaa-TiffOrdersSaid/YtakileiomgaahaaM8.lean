/-
  Walks: the metadata of a text, in the program and in the reference.
-/
import Derived.Test.YtakileiomgaahaaM7
namespace Go.Proofs.Ytakileiomgaahaa
open Go.RowKit

/-- The entry on the first line. -/
def lineM (u : List UInt8) : Mt := ((u.take (fnd 10 u)).take (fnd 32 (u.take (fnd 10 u))), (u.take (fnd 10 u)).drop (fnd 32 (u.take (fnd 10 u)) + 1))
def parGo : Nat → List Mt → List UInt8 → Except (Nat × Nat) (List Mt)
  | 0, _, _ => .error (0, 0)
  | f + 1, acc, u =>
    if u = [] then .ok acc
    else if 16 ≤ acc.length then .error (acc.length + 1, 3)
    else if fnd 10 u = u.length ∨ fnd 32 (u.take (fnd 10 u)) = fnd 10 u then .error (acc.length + 1, 4)
    else if entP acc.getLast? (lineM u) = 0 then parGo f (acc ++ [lineM u]) (u.drop (fnd 10 u + 1))
    else .error (acc.length + 1, entP acc.getLast? (lineM u))
def parP (u : List UInt8) : Except (Nat × Nat) (List Mt) := parGo 18 [] u
def ParOk (r : Except (Nat × Nat) (List Mt)) (e : Ending) (w : World) : Prop :=
  match r with
  | .error (p, k) => e = .returned (.tuple #[.slice none 0 0, .int .i64 p, .int .i64 k])
  | .ok l => ∃ v, e = .returned (.tuple #[v, .int .i64 0, .int .i64 0]) ∧ MRow w v l
theorem parGo_end {f : Nat} {acc : List Mt} : parGo (f + 1) acc [] = .ok acc := by rw [parGo, if_pos rfl]
theorem parGo_lim {f : Nat} {acc : List Mt} {u : List UInt8} (hu : u ≠ []) (h : 16 ≤ acc.length) : parGo (f + 1) acc u = .error (acc.length + 1, 3) := by rw [parGo, if_neg hu, if_pos h]
theorem parGo_form {f : Nat} {acc : List Mt} {u : List UInt8} (hu : u ≠ []) (h : ¬ 16 ≤ acc.length) (h2 : fnd 10 u = u.length ∨ fnd 32 (u.take (fnd 10 u)) = fnd 10 u) : parGo (f + 1) acc u = .error (acc.length + 1, 4) := by
  rw [parGo, if_neg hu, if_neg h, if_pos h2]
theorem parGo_ent {f : Nat} {acc : List Mt} {u : List UInt8} (hu : u ≠ []) (h : ¬ 16 ≤ acc.length) (h2 : ¬ (fnd 10 u = u.length ∨ fnd 32 (u.take (fnd 10 u)) = fnd 10 u)) (h3 : entP acc.getLast? (lineM u) ≠ 0) :
    parGo (f + 1) acc u = .error (acc.length + 1, entP acc.getLast? (lineM u)) := by
  rw [parGo, if_neg hu, if_neg h, if_neg h2, if_neg h3]
theorem parGo_step {f : Nat} {acc : List Mt} {u : List UInt8} (hu : u ≠ []) (h : ¬ 16 ≤ acc.length) (h2 : ¬ (fnd 10 u = u.length ∨ fnd 32 (u.take (fnd 10 u)) = fnd 10 u)) (h3 : entP acc.getLast? (lineM u) = 0) :
    parGo (f + 1) acc u = parGo f (acc ++ [lineM u]) (u.drop (fnd 10 u + 1)) := by
  rw [parGo, if_neg hu, if_neg h, if_neg h2, if_pos h3]

set_option maxRecDepth 100000 in
set_option maxHeartbeats 4000000 in
theorem parse_any (s : List UInt8) (w : World) (hs : s.length ≤ maxLen) :
    Calls Try.prog 46 #[.string ⟨s.toArray⟩] w fun e w' => ParOk (parP s) e w' ∧ Below w.heap.size w w' := by
  unfold maxLen at hs
  go_enter Try.func46, Try.ntmps46
  go_wp2_with fail
  obtain ⟨B, hB⟩ : ∃ B, B = w.heap.size := ⟨_, rfl⟩
  have HB := Lib.hid hB
  clear hB
  go_loopw [0, 5, 6] (fun v0 v5 v6 wr => ∃ (acc : List Mt) (u : List UInt8), v0 = .string ⟨u.toArray⟩ ∧ v6 = .int .i64 ((acc.length : Int) + 1) ∧ acc.length ≤ 16 ∧ u.length ≤ s.length ∧ MOwn wr B v5 acc ∧
      Hid (parGo (18 - acc.length) acc u = parP s) ∧ Below B w wr ∧ B ≤ wr.heap.size) (fun _ _ v6 _ => 20 - (intOf v6).toNat)
  case atStart => exact ⟨[], s, rfl, rfl, by decide, Nat.le_refl _, World.ownsRow_nil _ _ _ _, rfl, Below.refl _ _, by have := HB.out; omega⟩
  case round =>
    obtain ⟨acc, u, rfl, rfl, ha, hul, hown, hpar, hbel, hszr⟩ := hrel
    obtain ⟨x5, c5, rfl⟩ := mown_shape hown
    have hp := hpar.out
    rw [show 18 - acc.length = (17 - acc.length) + 1 from by omega] at hp
    clear hpar
    by_cases hu : u = []
    · subst hu
      rw [parGo_end] at hp
      have HP := Lib.hid hp
      clear hp
      go_wp2_with fail
      refine bodyPost_ret (v := .tuple #[.slice x5 acc.length c5, .int .i64 0, .int .i64 0]) (by simp [results, Try.f46, go_sem]) rfl ⟨?_, by rw [← HB.out]; exact hbel⟩
      rw [← HP.out]
      exact ⟨_, rfl, hown.row⟩
    have hue : u.isEmpty = false := by simpa using hu
    by_cases hlim : 16 ≤ acc.length
    · rw [parGo_lim hu hlim] at hp
      have HP := Lib.hid hp
      have d1 : decide ((16 : Int) < (acc.length : Int) + 1) = true := by simp; omega
      clear hp hu
      go_wp2_with fail
      refine bodyPost_ret (v := .tuple #[.slice none 0 0, .int .i64 ((acc.length : Int) + 1), .int .i64 3]) (by simp [results, Try.f46, go_sem]) rfl ⟨?_, by rw [← HB.out]; exact hbel⟩
      rw [← HP.out]
      rfl
    have d1 : decide ((16 : Int) < (acc.length : Int) + 1) = false := by simp; omega
    have hc1 := fun w => cut_any u 10 w (by unfold maxLen; omega)
    have hc2 := fun w => cut_any (u.take (fnd 10 u)) 32 w (by unfold maxLen; simp; omega)
    have hf1 := fnd_le 10 u
    have hf2 := fnd_le 32 (u.take (fnd 10 u))
    have htl : (u.take (fnd 10 u)).length = fnd 10 u := by simp; omega
    unfold cutV at hc1 hc2
    rw [htl] at hc2 hf2
    have hlm : lineM u = ((u.take (fnd 10 u)).take (fnd 32 (u.take (fnd 10 u))), (u.take (fnd 10 u)).drop (fnd 32 (u.take (fnd 10 u)) + 1)) := rfl
    have hdl : (u.drop (fnd 10 u + 1)).length ≤ s.length := by simp; omega
    by_cases hform : fnd 10 u = u.length ∨ fnd 32 (u.take (fnd 10 u)) = fnd 10 u
    · rw [parGo_form hu hlim hform] at hp
      have HP := Lib.hid hp
      clear hp hlm hdl hu
      generalize (u.take (fnd 10 u)).take (fnd 32 (u.take (fnd 10 u))) = mk at *
      generalize (u.take (fnd 10 u)).drop (fnd 32 (u.take (fnd 10 u)) + 1) = mv at *
      generalize fnd 32 (u.take (fnd 10 u)) = b2 at *
      generalize u.take (fnd 10 u) = tx at *
      generalize u.drop (fnd 10 u + 1) = rs at *
      generalize fnd 10 u = b1 at *
      have hbb : decide (b1 < u.length) = false ∨ decide (b1 < u.length) = true ∧ decide (b2 < b1) = false := by
        rcases hform with h | h
        · exact .inl (by simp; omega)
        · by_cases h1 : b1 < u.length
          · exact .inr ⟨by simp; omega, by simp; omega⟩
          · exact .inl (by simp; omega)
      generalize decide (b1 < u.length) = q1 at *
      generalize decide (b2 < b1) = q2 at *
      have HC1 := Lib.hid hc1
      have HC2 := Lib.hid hc2
      clear hc1 hc2 hform hf1 hf2 htl
      go_wp2_with fail
      refine (HC1.out _).mono ?_
      rintro e w1 ⟨rfl, n1, rfl⟩
      go_wp2_with fail
      refine (HC2.out _).mono ?_
      rintro e w1 ⟨rfl, n2, rfl⟩
      have hbel2 := Lib.hid (below_drewN (below_drewN hbel n1) n2)
      generalize (wr.drewN n1).drewN n2 = w2 at *
      rcases hbb with rfl | ⟨rfl, rfl⟩
      all_goals
        go_wp2_with fail
        refine bodyPost_ret (v := .tuple #[.slice none 0 0, .int .i64 ((acc.length : Int) + 1), .int .i64 4]) (by simp [results, Try.f46, go_sem]) rfl ⟨?_, by rw [← HB.out]; exact hbel2.out⟩
        rw [← HP.out]
        rfl
    have hq1 : decide (fnd 10 u < u.length) = true := by simp; omega
    have hq2 : decide (fnd 32 (u.take (fnd 10 u)) < fnd 10 u) = true := by simp; omega
    rw [hq1] at hc1
    rw [hq2] at hc2
    by_cases hent : entP acc.getLast? (lineM u) = 0
    · rw [parGo_step hu hlim hform hent] at hp
      have HP := Lib.hid hp
      clear hp
      generalize lineM u = lm at *
      subst hlm
      generalize (u.take (fnd 10 u)).take (fnd 32 (u.take (fnd 10 u))) = mk at *
      generalize (u.take (fnd 10 u)).drop (fnd 32 (u.take (fnd 10 u)) + 1) = mv at *
      generalize fnd 32 (u.take (fnd 10 u)) = b2 at *
      generalize u.take (fnd 10 u) = tx at *
      generalize u.drop (fnd 10 u + 1) = rs at *
      generalize fnd 10 u = b1 at *
      have HC1 := Lib.hid hc1
      have HC2 := Lib.hid hc2
      clear hc1 hc2 hform hf1 hf2 htl hq1 hq2 hu
      go_wp2_with fail
      refine (HC1.out _).mono ?_
      rintro e w1 ⟨rfl, n1, rfl⟩
      go_wp2_with fail
      refine (HC2.out _).mono ?_
      rintro e w1 ⟨rfl, n2, rfl⟩
      have hbel2 := below_drewN (below_drewN hbel n1) n2
      have hown2 : MOwn ((wr.drewN n1).drewN n2) B (.slice x5 acc.length c5) acc := hown
      have hsz2 : B ≤ ((wr.drewN n1).drewN n2).heap.size := hszr
      clear hown hbel hszr HC1 HC2
      generalize (wr.drewN n1).drewN n2 = w2 at *
      go_wp2_with fail
      refine (checkEntry_any _ acc mk mv _ (World.ownsRow.alloc hown2 _ |> MOwn.row)).mono ?_
      rintro e w3 ⟨rfl, hb3⟩
      have hbl := (Blk.new w2 67 #[.string ⟨mk.toArray⟩, .string ⟨mv.toArray⟩])
      have hbl3 := (Fr.of_below (B := 0) hb3 []).blk hbl (by simp)
      have hown3 : MOwn w3 B _ acc := (Fr.of_below (B := 0) hb3 []).owns (World.ownsRow.alloc hown2 _) (by simp)
      have hbel3 : Below B w w3 := (hbel2.alloc hsz2 _).trans (hb3.mono (by simp; omega))
      have hsz3 : B ≤ w3.heap.size := by have := hb3.size; simp at this; omega
      clear hb3 hbl hown2 hbel2 hsz2
      rw [hent]
      clear hent
      have q0 := hbl3.cell 0
      have q1 := hbl3.cell 1
      simp at q0 q1
      clear hbl3
      go_wp2_with (at_builtin; refine wpList_app el_meta hown3 hsz3 rfl rfl rfl (m := 0) rfl (by simp [Value.oneCell']) rfl (by omega) (by unfold maxLen; omega) ?_)
      intro r2 cap2 w4 ho4 hg4 _
      have hown4 := mown_more ho4 [(mk, mv)] rfl rfl
      obtain ⟨hbel4, hsz4⟩ := below_app hbel3 hsz3 hown3 hg4
      clear ho4 hg4 hown3 hbel3 hsz3 q0 q1
      go_wp2_with fail
      go_roundw
      case rel =>
        refine ⟨acc ++ [(mk, mv)], rs, rfl, by simp, by simp; omega, hdl, hown4, ?_, hbel4, hsz4⟩
        show _ = _
        rw [← HP.out]
        congr 1
        simp
      case measure => simp [intOf]; omega
    · rw [parGo_ent hu hlim hform hent] at hp
      have HP := Lib.hid hp
      clear hp
      generalize lineM u = lm at *
      subst hlm
      generalize (u.take (fnd 10 u)).take (fnd 32 (u.take (fnd 10 u))) = mk at *
      generalize (u.take (fnd 10 u)).drop (fnd 32 (u.take (fnd 10 u)) + 1) = mv at *
      generalize fnd 32 (u.take (fnd 10 u)) = b2 at *
      generalize u.take (fnd 10 u) = tx at *
      generalize u.drop (fnd 10 u + 1) = rs at *
      generalize fnd 10 u = b1 at *
      have HC1 := Lib.hid hc1
      have HC2 := Lib.hid hc2
      clear hc1 hc2 hform hf1 hf2 htl hq1 hq2 hu
      go_wp2_with fail
      refine (HC1.out _).mono ?_
      rintro e w1 ⟨rfl, n1, rfl⟩
      go_wp2_with fail
      refine (HC2.out _).mono ?_
      rintro e w1 ⟨rfl, n2, rfl⟩
      have hbel2 := below_drewN (below_drewN hbel n1) n2
      have hown2 : MOwn ((wr.drewN n1).drewN n2) B (.slice x5 acc.length c5) acc := hown
      have hsz2 : B ≤ ((wr.drewN n1).drewN n2).heap.size := hszr
      clear hown hbel hszr HC1 HC2
      generalize (wr.drewN n1).drewN n2 = w2 at *
      go_wp2_with fail
      refine (checkEntry_any _ acc mk mv _ (World.ownsRow.alloc hown2 _ |> MOwn.row)).mono ?_
      rintro e w3 ⟨rfl, hb3⟩
      have hbl := (Blk.new w2 67 #[.string ⟨mk.toArray⟩, .string ⟨mv.toArray⟩])
      have hbl3 := (Fr.of_below (B := 0) hb3 []).blk hbl (by simp)
      have hown3 : MOwn w3 B _ acc := (Fr.of_below (B := 0) hb3 []).owns (World.ownsRow.alloc hown2 _) (by simp)
      have hbel3 : Below B w w3 := (hbel2.alloc hsz2 _).trans (hb3.mono (by simp; omega))
      have hsz3 : B ≤ w3.heap.size := by have := hb3.size; simp at this; omega
      clear hb3 hbl hown2 hbel2 hsz2
      generalize entP acc.getLast? (mk, mv) = ee at *
      have hne0 : ((ee : Int) != 0) = true := by simp; omega
      clear hbl3
      go_wp2_with fail
      refine bodyPost_ret (v := .tuple #[.slice none 0 0, .int .i64 ((acc.length : Int) + 1), .int .i64 ee]) (by simp [results, Try.f46, go_sem]) rfl ⟨?_, by rw [← HB.out]; exact hbel3⟩
      rw [← HP.out]
      rfl
end Go.Proofs.Ytakileiomgaahaa
