/-
  The program of tiff: Tags.
-/
import Derived.Test.YtakileiomgaahaaTj1
namespace Go.Proofs.Ytakileiomgaahaa
open Go.RowKit

def tagsG (big : Bool) (s : List UInt8) : Nat → Nat → Int → List Tg → Except Nat (List Tg)
  | 0, _, _, acc => .ok acc
  | n + 1, p, last, acc => if (nAt big s p 2 : Int) ≤ last then .error 24 else match tagP big s p with | .error e => .error e | .ok t => tagsG big s n (p + 12) t.id (acc ++ [t])
def bigP (s : List UInt8) : Bool := s.take 2 == [77, 77]
/-- The tags of a file. -/
def tagsP (s : List UInt8) : Except Nat (List Tg) :=
  if s.length < 8 then .error 5
  else if (bigP s = false ∧ s.take 2 ≠ [73, 73]) ∨ nAt (bigP s) s 2 2 ≠ 42 then .error 4
  else if nAt (bigP s) s 4 4 < 8 ∨ s.length < nAt (bigP s) s 4 4 + 2 then .error 2
  else if 256 < nAt (bigP s) s (nAt (bigP s) s 4 4) 2 then .error 3
  else if s.length < nAt (bigP s) s 4 4 + 2 + 12 * nAt (bigP s) s (nAt (bigP s) s 4 4) 2 then .error 5
  else tagsG (bigP s) s (nAt (bigP s) s (nAt (bigP s) s 4 4) 2) (nAt (bigP s) s 4 4 + 2) (-1) []
def TgsOk (r : Except Nat (List Tg)) (e : Ending) (w : World) : Prop :=
  match r with
  | .error k => e = .returned (.tuple #[.slice none 0 0, .int .i64 k])
  | .ok l => ∃ v, e = .returned (.tuple #[v, .int .i64 0]) ∧ TRow w v l
theorem town_more {w0 w' : World} {B : Nat} {L : List (Tg × Value)} {v vv : Value} {r cap : Nat} {t : Tg} (hL : ∀ p ∈ L, ORow w0 B p.2 p.1.vals) (hv : ORow w0 B vv t.vals) (hb : w0.ownsRow B 70 4 v L.length (tcells L))
    (hown : w'.ownsRow B 70 4 (.slice (some ⟨r, 0, none⟩) (L.length + 1) cap) (L.length + 1) (tcells L ++ (tcA t vv).toList)) (hg : w0.grownBy w' v.ownBlock) : TOwn w' B (.slice (some ⟨r, 0, none⟩) (L.length + 1) cap) (L.map (·.1) ++ [t]) := by
  have hfr : Fr B [70] w0 w' := (Fr.refl B [70] w0).grown hb (Nat.le_refl _) (by simp) hg
  refine ⟨L ++ [(t, vv)], by simp, ?_, fun p hp => ?_⟩
  · rw [tcells_append, List.length_append]
    exact hown
  · rcases List.mem_append.1 hp with h | h
    · exact hfr.owns (hL p h) (by decide)
    · rw [List.mem_singleton.1 h]
      exact hfr.owns hv (by decide)

theorem tagP_err {big : Bool} {s : List UInt8} {p k : Nat} (h : tagP big s p = .error k) : k ≠ 0 ∧ k ≤ 8 := by
  unfold tagP at h
  repeat' split at h
  all_goals first | (cases h; done) | (injection h with h; omega)
set_option maxHeartbeats 4000000 in
set_option maxRecDepth 100000 in
theorem ttags_any (s : ByteArray) (w : World) (hs : s.size ≤ 1000000000000000) : Calls Try.prog 15 #[.string s] w fun e w' => TgsOk (tagsP s.data.toList) e w' ∧ Below w.heap.size w w' := by
  have HSZ : Hid (s.data.toList.length = s.size) := ba_size s
  have HBG := Lib.hid (fun w => isBig_any s w (by unfold maxLen; omega))
  have HEX : Hid ((s.extract 0 2).toList = s.data.toList.take 2) := by show _ = _; rw [ByteArray.toList_eq, extract_list]; rfl
  have hk : tagsP s.data.toList = (if s.data.toList.length < 8 then .error 5
    else if (bigP s.data.toList = false ∧ s.data.toList.take 2 ≠ [73, 73]) ∨ nAt (bigP s.data.toList) s.data.toList 2 2 ≠ 42 then .error 4
    else if nAt (bigP s.data.toList) s.data.toList 4 4 < 8 ∨ s.data.toList.length < nAt (bigP s.data.toList) s.data.toList 4 4 + 2 then .error 2
    else if 256 < nAt (bigP s.data.toList) s.data.toList (nAt (bigP s.data.toList) s.data.toList 4 4) 2 then .error 3
    else if s.data.toList.length < nAt (bigP s.data.toList) s.data.toList 4 4 + 2 + 12 * nAt (bigP s.data.toList) s.data.toList (nAt (bigP s.data.toList) s.data.toList 4 4) 2 then .error 5
    else tagsG (bigP s.data.toList) s.data.toList (nAt (bigP s.data.toList) s.data.toList (nAt (bigP s.data.toList) s.data.toList 4 4) 2) (nAt (bigP s.data.toList) s.data.toList 4 4 + 2) (-1) []) := rfl
  have HBP : Hid (bigP s.data.toList = (s.data.toList.take 2 == [77, 77])) := rfl
  rw [← HBP.out] at HBG
  clear HBP
  rw [HSZ.out] at hk
  generalize bigP s.data.toList = big at *
  generalize tagsP s.data.toList = res at *
  obtain ⟨p0, hp0⟩ : ∃ p, nAt big s.data.toList 4 4 = p := ⟨_, rfl⟩
  obtain ⟨n42, hn42⟩ : ∃ p, nAt big s.data.toList 2 2 = p := ⟨_, rfl⟩
  rw [hp0, hn42] at hk
  obtain ⟨n, hn⟩ : ∃ n, nAt big s.data.toList p0 2 = n := ⟨_, rfl⟩
  rw [hn] at hk
  have hp0b : p0 ≤ 4294967295 := by have := nAt_lt big s.data.toList 4 4; rw [hp0] at this; have : p0 < 4294967296 := this; omega
  have hnb : n ≤ 65535 := by have := nAt_lt big s.data.toList p0 2; rw [hn] at this; have : n < 65536 := this; omega
  have HN2 : Hid (∀ w, 8 ≤ s.size → Calls Try.prog 36 #[.string (s.extract 2 4), .bool big] w fun e w' => ∃ v, e = .returned v ∧ (v = .int .i64 (n42 : Nat) ∧ w = w')) := fun w h => by
    have := number_at s 2 4 big (by omega) (by omega) w; rwa [show 4 - 2 = 2 by omega, hn42] at this
  have HN4 : Hid (∀ w, 8 ≤ s.size → Calls Try.prog 36 #[.string (s.extract 4 8), .bool big] w fun e w' => ∃ v, e = .returned v ∧ (v = .int .i64 (p0 : Nat) ∧ w = w')) := fun w h => by
    have := number_at s 4 8 big (by omega) (by omega) w; rwa [show 8 - 4 = 4 by omega, hp0] at this
  obtain ⟨p2, hp2⟩ : ∃ p2, p0 + 2 = p2 := ⟨_, rfl⟩
  have HNN : Hid (∀ w, p2 ≤ s.size → Calls Try.prog 36 #[.string (s.extract p0 p2), .bool big] w fun e w' => ∃ v, e = .returned v ∧ (v = .int .i64 (n : Nat) ∧ w = w')) := fun w h => by
    have := number_at s p0 p2 big (by omega) (by omega) w; rwa [show p2 - p0 = 2 by omega, hn] at this
  rw [hp2] at hk
  have HK := Lib.hid hk
  clear hk hp0 hn42 hn
  generalize hB : w.heap.size = B at *
  have HB := Lib.hid hB
  clear hB
  go_enter Try.func15, Try.ntmps15
  by_cases h8 : s.size < 8
  · have e8 : decide ((s.size : Int) < 8) = true := by simp; omega
    have hk := HK.out
    rw [if_pos h8] at hk
    have HF := Lib.hid hk
    clear hk HK
    go_wp2_with fail
    refine bodyPost_ret (v := .tuple #[.slice none 0 0, .int .i64 5]) (by simp [results, Try.f15, go_sem]) rfl ⟨?_, Below.refl _ _⟩
    rw [HF.out]
    rfl
  have e8 : decide ((s.size : Int) < 8) = false := by simp; omega
  have hk := HK.out
  rw [if_neg h8] at hk
  have HK1 := Lib.hid hk
  have hs8 : 8 ≤ s.size := by omega
  clear hk HK h8
  go_wp2_with fail
  refine (HBG.out _).mono ?_
  rintro e w1 ⟨rfl, hw1⟩
  subst hw1
  clear e8 HBG
  have HA : Hid (∀ w, Calls Try.prog 36 #[.string (s.extract 2 4), .bool big] w fun e w' => ∃ v, e = .returned v ∧ (v = .int .i64 (n42 : Nat) ∧ w = w')) := fun w => HN2.out w hs8
  have HC : Hid (∀ w, Calls Try.prog 36 #[.string (s.extract 4 8), .bool big] w fun e w' => ∃ v, e = .returned v ∧ (v = .int .i64 (p0 : Nat) ∧ w = w')) := fun w => HN4.out w hs8
  clear HN2 HN4
  have i2 : (2 : Int) ≤ (s.size : Int) := by omega
  have i4 : (4 : Int) ≤ (s.size : Int) := by omega
  have i8 : (8 : Int) ≤ (s.size : Int) := by omega
  obtain ⟨bad, hbad⟩ : ∃ b, decide ((big = false ∧ s.data.toList.take 2 ≠ [73, 73]) ∨ n42 ≠ 42) = b := ⟨_, rfl⟩
  have HBAD := Lib.hid hbad
  clear hbad
  go_upto_region 4 with fail
  go_cut [29] (fun v29 wx => v29 = .bool bad ∧ wx = w)
  case first =>
    clear HK1
    have e42 : ∀ b, decide (n42 ≠ 42) = b → ((n42 : Int) != 42) = b := fun b h => by
      rw [← h]
      by_cases h2 : n42 = 42
      · rw [h2]; rfl
      · rw [decide_eq_true h2]; unfold bne; rw [beq_false_of_ne (by omega)]; rfl
    have e42' := e42 _ rfl
    cases big with
    | true =>
      have HBD : Hid (bad = decide (n42 ≠ 42)) := by show _ = _; rw [← HBAD.out]; simp
      generalize decide (n42 ≠ 42) = bb at *
      clear e42
      go_wp2_with fail
      refine (HA.out _).mono ?_
      rintro e w2 ⟨v, rfl, rfl, rfl⟩
      go_wp2_with fail
      go_meet
      case rel => exact ⟨by rw [HBD.out], rfl⟩
    | false =>
      by_cases h2 : s.data.toList.take 2 = [73, 73]
      · have HBD : Hid (bad = decide (n42 ≠ 42)) := by show _ = _; rw [← HBAD.out]; simp [h2]
        have eII : ((s.extract 0 2).toList != [73, 73]) = false := by rw [HEX.out, h2]; rfl
        have eII2 : ((s.extract 0 2).toList == [73, 73]) = true := by rw [HEX.out, h2]; rfl
        generalize decide (n42 ≠ 42) = bb at *
        clear e42 h2
        go_wp2_with fail
        refine (HA.out _).mono ?_
        rintro e w2 ⟨v, rfl, rfl, rfl⟩
        go_wp2_with fail
        go_meet
        case rel => exact ⟨by rw [HBD.out], rfl⟩
      · have HBD : Hid (bad = true) := by show _ = _; rw [← HBAD.out]; simp [h2]
        have eII : ((s.extract 0 2).toList != [73, 73]) = true := by rw [HEX.out]; unfold bne; rw [beq_false_of_ne h2]; rfl
        have eII2 : ((s.extract 0 2).toList == [73, 73]) = false := by rw [HEX.out]; exact beq_false_of_ne h2
        clear e42 e42' h2
        go_wp2_with fail
        go_meet
        case rel => exact ⟨by rw [HBD.out], rfl⟩
  case rest =>
    obtain ⟨rfl, hwc⟩ := hcut
    have hwc2 := hwc.symm
    subst hwc2
    clear hwc
    cases bad with
    | true =>
      have hk := HK1.out
      rw [if_pos (of_decide_eq_true HBAD.out)] at hk
      have HF := Lib.hid hk
      clear hk HK1
      go_wp2_with fail
      refine bodyPost_ret (v := .tuple #[.slice none 0 0, .int .i64 4]) (by simp [results, Try.f15, go_sem]) rfl ⟨?_, Below.refl _ _⟩
      rw [HF.out]
      rfl
    | false =>
      have hk := HK1.out
      rw [if_neg (of_decide_eq_false HBAD.out)] at hk
      have HK2 := Lib.hid hk
      clear hk HK1 HBAD
      go_wp2_with fail
      refine (HC.out _).mono ?_
      rintro e w2 ⟨v, rfl, rfl, rfl⟩
      by_cases hp : p0 < 8 ∨ s.size < p2
      · have hk := HK2.out
        rw [if_pos hp] at hk
        have HF := Lib.hid hk
        clear hk HK2
        by_cases h0 : p0 < 8
        · have e0 : decide ((p0 : Int) < 8) = true := by simp; omega
          clear hp
          go_wp2_with fail
          refine bodyPost_ret (v := .tuple #[.slice none 0 0, .int .i64 2]) (by simp [results, Try.f15, go_sem]) rfl ⟨?_, Below.refl _ _⟩
          rw [HF.out]
          rfl
        · have e0 : decide ((p0 : Int) < 8) = false := by simp; omega
          have e1 : decide ((s.size : Int) - (p0 : Int) < 2) = true := by simp; omega
          clear hp
          go_wp2_with fail
          refine bodyPost_ret (v := .tuple #[.slice none 0 0, .int .i64 2]) (by simp [results, Try.f15, go_sem]) rfl ⟨?_, Below.refl _ _⟩
          rw [HF.out]
          rfl
      have hk := HK2.out
      rw [if_neg hp] at hk
      have HK3 := Lib.hid hk
      have e0 : decide ((p0 : Int) < 8) = false := by simp; omega
      have e1 : decide ((s.size : Int) - (p0 : Int) < 2) = false := by simp; omega
      have hps : p2 ≤ s.size := by omega
      have HA2 : Hid (∀ w, Calls Try.prog 36 #[.string (s.extract p0 p2), .bool big] w fun e w' => ∃ v, e = .returned v ∧ (v = .int .i64 (n : Nat) ∧ w = w')) := fun w => HNN.out w hps
      clear hk HK2 hp HNN
      go_upto_region 9 with fail
      clear e0 e1
      have m1 : (p0 : Int) + 2 = (p2 : Int) := by omega
      have l1 : (p0 : Int) ≤ (p2 : Int) := by omega
      have l2 : (p2 : Int) ≤ (s.size : Int) := by omega
      go_wp2_with fail
      refine (HA2.out _).mono ?_
      rintro e w2 ⟨v, rfl, rfl, rfl⟩
      go_upto_region 11 with fail
      clear m1 l1 l2 HA2
      by_cases hn2 : 256 < n
      · have hk := HK3.out
        rw [if_pos hn2] at hk
        have HF := Lib.hid hk
        have e0 : decide ((256 : Int) < (n : Int)) = true := by simp; omega
        clear hk HK3
        go_wp2_with fail
        refine bodyPost_ret (v := .tuple #[.slice none 0 0, .int .i64 3]) (by simp [results, Try.f15, go_sem]) rfl ⟨?_, Below.refl _ _⟩
        rw [HF.out]
        rfl
      have hk := HK3.out
      rw [if_neg hn2] at hk
      have HK4 := Lib.hid hk
      have e0 : decide ((256 : Int) < (n : Int)) = false := by simp; omega
      have hn256 : n ≤ 256 := by omega
      obtain ⟨m, hm⟩ : ∃ m, 12 * n = m := ⟨_, rfl⟩
      have m1 : (n : Int) * 12 = (m : Int) := by omega
      rw [hm] at hk
      clear HK3 hn2
      go_upto_region 13 with fail
      clear e0
      by_cases hsz : s.size < p2 + m
      · rw [if_pos hsz] at hk
        have HF := Lib.hid hk
        have e0 : decide ((s.size : Int) - (p2 : Int) < (m : Int)) = true := by simp; omega
        clear hk HK4 hm
        go_wp2_with fail
        refine bodyPost_ret (v := .tuple #[.slice none 0 0, .int .i64 5]) (by simp [results, Try.f15, go_sem]) rfl ⟨?_, Below.refl _ _⟩
        rw [HF.out]
        rfl
      rw [if_neg hsz] at hk
      have HK5 := Lib.hid hk
      have e0 : decide ((s.size : Int) - (p2 : Int) < (m : Int)) = false := by simp; omega
      have hroom : p2 + 12 * n ≤ s.size := by omega
      have HROOM := Lib.hid hroom
      clear hk HK4
      go_upto_region 15 with fail
      clear e0 hm m1 hsz hroom
      go_wp2_with fail
      go_loopw [5, 7, 8, 62] (fun v5 v7 v8 v62 wr => ∃ (i p : Nat) (last : Int) (acc : List Tg), v5 = .int .i64 p ∧ v8 = .int .i64 last ∧ v62 = .int .i64 i ∧ i ≤ n ∧ Hid (p = p2 + 12 * i) ∧ Hid (acc.length = i) ∧ Hid (tagsG big s.data.toList (n - i) p last acc = res) ∧ Hid (TOwn wr B v7 acc) ∧ Hid (Below B w wr) ∧ B ≤ wr.heap.size) (fun _ _ _ v62 _ => n - (intOf v62).toNat)
      case atStart => exact ⟨0, p2, -1, [], rfl, rfl, rfl, Nat.zero_le _, rfl, rfl, HK5.out.symm, town_nil _ _, Below.refl _ _, by rw [← HB.out]; exact Nat.le_refl _⟩
      case round =>
        obtain ⟨i, p, last, acc, rfl, rfl, rfl, hi, hp, hal, htg, hown, hbw, hszr⟩ := hrel
        by_cases hlt : i < n
        · have dlt : decide ((i : Int) < (n : Int)) = true := by simp; omega
          have hpr : p + 12 ≤ s.size := by have := hp.out; have := HROOM.out; omega
          have HRT : Hid (Calls Try.prog 37 #[.string s, .int .i64 p, .int .i64 last, .bool big] wr fun e w' => ((∃ k : Nat, k ≠ 0 ∧ res = .error k ∧ e = .returned (.tuple #[.agg (tcA tag0 (.slice none 0 0)), .int .i64 k])) ∨ (∃ t v, tagsG big s.data.toList (n - (i + 1)) (p + 12) t.id (acc ++ [t]) = res ∧ e = .returned (.tuple #[.agg (tcA t v), .int .i64 0]) ∧ ORow w' wr.heap.size v t.vals)) ∧ Below wr.heap.size wr w') := by
            refine (readTag_any s p last big wr hs hpr).mono fun e w' h => ⟨?_, h.2⟩
            have h1 := h.1
            have h2 := htg.out
            rw [show n - i = (n - (i + 1)) + 1 by omega, tagsG] at h2
            unfold RtOk at h1
            by_cases hl : (nAt big s.data.toList p 2 : Int) ≤ last
            · rw [if_pos hl] at h1 h2
              exact .inl ⟨24, by decide, h2.symm, h1⟩
            · rw [if_neg hl] at h1 h2
              cases ht : tagP big s.data.toList p with
              | error k =>
                rw [ht] at h1 h2
                exact .inl ⟨k, (tagP_err ht).1, h2.symm, h1⟩
              | ok t =>
                rw [ht] at h1 h2
                obtain ⟨v, h3, h4⟩ := h1
                exact .inr ⟨t, v, h2, h3, h4⟩
          clear htg hpr
          go_wp2_with fail
          refine HRT.out.mono ?_
          rintro e w1 ⟨⟨k, hk0, hres, rfl⟩ | ⟨t, v, hres, rfl, hrow⟩, hb1⟩
          · have ek : ((k : Int) != 0) = true := by unfold bne; rw [Bool.not_eq_true', beq_eq_false_iff_ne]; omega
            have HF := Lib.hid hres
            have HBE : Hid (Below B w (w1.alloc (.cells #[.int .i64 0, .int .i64 0, .slice none 0 0, .string ⟨#[]⟩] 70))) := (hbw.out.trans (hb1.mono hszr)).alloc (Nat.le_trans hszr hb1.size) _
            unfold tcA tag0
            simp only
            clear hres hb1 HRT hk0
            go_wp2_with fail
            refine bodyPost_ret (v := .tuple #[.slice none 0 0, .int .i64 k]) (by simp [results, Try.f15, go_sem]) rfl ⟨?_, HBE.out⟩
            rw [HF.out]
            rfl
          · obtain ⟨xo, co, rfl⟩ := hrow.shape
            obtain ⟨L, hL, hL2, hL3⟩ := hown.out
            obtain ⟨ti, ty, tv, tx⟩ := t
            simp only at hrow hres
            have HF := Lib.hid hres
            obtain ⟨tn, htn⟩ : ∃ n, tv.length = n := ⟨_, rfl⟩
            unfold tcA
            simp only [htn]
            rw [htn] at hrow
            have hu7 := hown.out.shape
            rw [hal.out] at hu7
            obtain ⟨xl, cl, rfl⟩ := hu7
            have hLl : L.length = i := by rw [← hal.out, ← hL, List.length_map]
            have hb0 : Below B w w1 := hbw.out.trans (hb1.mono hszr)
            have hz1 : B ≤ w1.heap.size := Nat.le_trans hszr hb1.size
            have hL2' : w1.ownsRow B 70 4 (.slice xl i cl) L.length (tcells L) := own_below hL2 hb1
            have hL3' : ∀ p ∈ L, ORow w1 B p.2 p.1.vals := fun p hp => own_below (hL3 p hp) hb1
            have hrow' : ORow w1 B (.slice xo tn co) tv := own_weaken hszr hrow
            have hk := Blk.new w1 70 #[.int .i64 (ti : Int), .int .i64 (ty : Int), .slice xo tn co, .string ⟨tx.toArray⟩]
            have hka := (Below.refl w1.heap.size w1).alloc (Nat.le_refl _) (.cells #[.int .i64 (ti : Int), .int .i64 (ty : Int), .slice xo tn co, .string ⟨tx.toArray⟩] 70)
            have HOW : Hid (L.map (·.1) = acc) := hL
            have HLL := Lib.hid hLl
            have HHP : Hid (p + 12 ≤ s.size ∧ p = p2 + 12 * i) := ⟨by have := hp.out; have := HROOM.out; omega, hp.out⟩
            clear hL hL2 hL3 hrow hb1 HRT hres htn hown hp hLl hszr hbw
            have m12 : (p : Int) + 12 = ((p + 12 : Nat) : Int) := by omega
            obtain ⟨pq, hpq⟩ : ∃ q, p + 12 = q := ⟨_, rfl⟩
            rw [hpq] at m12 HF
            have HPQ := Lib.hid hpq
            have hpb : pq ≤ 1000000000000000 := by have := HHP.out.1; omega
            clear hpq
            go_upto_region 20 with fail
            have h2 := own_below hL2' hka
            have h3 : ∀ p ∈ L, ORow (w1.alloc (.cells #[.int .i64 (ti : Int), .int .i64 (ty : Int), .slice xo tn co, .string ⟨tx.toArray⟩] 70)) B p.2 p.1.vals := fun p hp => own_below (hL3' p hp) hka
            have h4 := own_below hrow' hka
            have h5 : Below B w (w1.alloc (.cells #[.int .i64 (ti : Int), .int .i64 (ty : Int), .slice xo tn co, .string ⟨tx.toArray⟩] 70)) := hb0.alloc hz1 _
            have h6 : B ≤ (w1.alloc (.cells #[.int .i64 (ti : Int), .int .i64 (ty : Int), .slice xo tn co, .string ⟨tx.toArray⟩] 70)).heap.size := by simp; omega
            have hne : some w1.heap.size ≠ (Value.slice xl i cl).ownBlock := by
              intro h
              have := (hL2'.lt _ h.symm).2
              omega
            clear hL2' hL3' hrow' hb0 hka
            generalize w1.alloc (.cells #[.int .i64 (ti : Int), .int .i64 (ty : Int), .slice xo tn co, .string ⟨tx.toArray⟩] 70) = wk at *
            have q0 : wk.cell? ⟨w1.heap.size, 0, none⟩ = some (.int .i64 (ti : Int)) := hk.cell 0
            have q1 : wk.cell? ⟨w1.heap.size, 1, none⟩ = some (.int .i64 (ty : Int)) := hk.cell 1
            have q2 : wk.cell? ⟨w1.heap.size, 2, none⟩ = some (.slice xo tn co) := hk.cell 2
            have q3 : wk.cell? ⟨w1.heap.size, 3, none⟩ = some (.string ⟨tx.toArray⟩) := hk.cell 3
            have HKK := Lib.hid hk
            have HNE := Lib.hid hne
            clear hk hne hz1
            generalize w1.heap.size = K at *
            have hLn : L.length ≤ 256 := by rw [HLL.out]; exact Nat.le_trans hi hn256
            have h2i := h2
            rw [HLL.out] at h2i
            have HO2 := Lib.hid h2
            have HO3 := Lib.hid h3
            have HO4 := Lib.hid h4
            have HO5 := Lib.hid h5
            clear h2 h3 h4 h5
            go_upto_region 22 with fail
            go_wp2_with (at_builtin; refine wpList_app el_tag h2i h6 rfl rfl rfl (m := 0) rfl (by simp [Value.oneCell']) rfl (by omega) (by unfold maxLen; omega) ?_)
            intro r2 cap2 w4 ho2 hg2 _
            have hgA : (wk.alloc (.cells #[.int .i64 (ti : Int), .int .i64 (ty : Int), .slice xo tn co, .string ⟨tx.toArray⟩] 70)).grownBy w4 (Value.slice xl i cl).ownBlock := hg2
            have HOWN2 : Hid (TOwn w4 B (.slice (some ⟨r2, 0, none⟩) (i + 1) cap2) (acc ++ [⟨ti, ty, tv, tx⟩])) := by
              have ha := (Below.refl wk.heap.size wk).alloc (Nat.le_refl _) (.cells #[.int .i64 (ti : Int), .int .i64 (ty : Int), .slice xo tn co, .string ⟨tx.toArray⟩] 70)
              have := town_more (t := ⟨ti, ty, tv, tx⟩) (vv := .slice xo tn co) (fun p hp => own_below (HO3.out p hp) ha) (own_below HO4.out ha) (own_below HO2.out ha) (by rw [HLL.out]; exact ho2) hgA
              rw [HOW.out, HLL.out] at this
              exact this
            have hbel2 := below_app HO5.out h6 h2i hg2
            have y0 : w4.cell? ⟨K, 0, none⟩ = some (.int .i64 (ti : Int)) := by
              have hkA := HKK.out.alloc (.cells #[.int .i64 (ti : Int), .int .i64 (ty : Int), .slice xo tn co, .string ⟨tx.toArray⟩] 70)
              exact Blk.cell ((hgA.block K hkA.lt HNE.out).trans hkA) 0
            have HBE2 := Lib.hid hbel2.1
            have hsz2 := hbel2.2
            clear ho2 hg2 hgA hbel2 q0 q1 q2 q3 h2i HO2 HO3 HO4 HO5 HKK HNE h6
            go_wp2_with fail
            go_roundw
            case rel =>
              refine ⟨i + 1, pq, ti, _, rfl, rfl, by go_num, by omega, ?_, ?_, HF.out, HOWN2.out, HBE2.out, hsz2⟩
              · show _ = _
                rw [← HPQ.out, HHP.out.2]; omega
              · show _ = _
                rw [List.length_append, hal.out]; rfl
            case measure => simp [intOf]; omega
        · have dlt : decide ((i : Int) < (n : Int)) = false := by simp; omega
          have hin : i = n := by omega
          have HF : Hid (res = .ok acc) := by show _ = _; rw [← htg.out, hin, Nat.sub_self, tagsG]
          have HTR := Lib.hid hown.out.trow
          clear hin htg
          go_wp2_with fail
          refine bodyPost_ret (v := .tuple #[u7, .int .i64 0]) (by simp [results, Try.f15, go_sem]) rfl ⟨?_, hbw.out⟩
          rw [HF.out]
          exact ⟨u7, rfl, HTR.out⟩
end Go.Proofs.Ytakileiomgaahaa
