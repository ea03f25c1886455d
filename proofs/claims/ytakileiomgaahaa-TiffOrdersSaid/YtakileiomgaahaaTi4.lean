/-
  The program of tiff: PackBits.
-/
import Derived.Test.YtakileiomgaahaaTi3
import Derived.Test.YtakileiomgaahaaFw
import Derived.Test.YtakileiomgaahaaApw
namespace Go.Proofs.Ytakileiomgaahaa
open Go.RowKit

theorem runP_le (l : List UInt8) : runP l ≤ l.length ∧ runP l ≤ 128 := by
  rw [runP_eq]
  have : (l.takeWhile (· == l.getD 0 0)).length ≤ l.length := (List.takeWhile_sublist _).length_le
  omega
theorem runP_pos (b : UInt8) (l : List UInt8) : 1 ≤ runP (b :: l) := by
  show 1 ≤ min 128 (((b :: l).takeWhile (· == b)).length)
  rw [List.takeWhile_cons, if_pos (by simp), List.length_cons]
  omega
/-- How many bytes stand in a piece without a run, at least n of them. -/
def litF : Nat → List UInt8 → Nat → Nat
  | 0, _, n => n
  | f + 1, l, n => if n < l.length ∧ n < 128 ∧ runP (l.drop n) < 3 then litF f l (n + 1) else n
def litN (l : List UInt8) : Nat := litF 128 l 1
theorem litF_ge (f : Nat) (l : List UInt8) (n : Nat) : n ≤ litF f l n := by
  induction f generalizing n with
  | zero => exact Nat.le_refl _
  | succ f ih =>
    unfold litF
    split
    · exact Nat.le_trans (Nat.le_succ n) (ih _)
    · exact Nat.le_refl _
theorem litF_le (f : Nat) (l : List UInt8) (n : Nat) (h1 : n ≤ l.length) (h2 : n ≤ 128) : litF f l n ≤ l.length ∧ litF f l n ≤ 128 := by
  induction f generalizing n with
  | zero => exact ⟨h1, h2⟩
  | succ f ih =>
    unfold litF
    split
    · exact ih _ (by omega) (by omega)
    · exact ⟨h1, h2⟩
def packF : Nat → List UInt8 → List UInt8
  | 0, _ => []
  | f + 1, l =>
    match l with
    | [] => []
    | b :: r => if 2 ≤ runP (b :: r) then UInt8.ofNat (257 - runP (b :: r)) :: b :: packF f ((b :: r).drop (runP (b :: r)))
      else UInt8.ofNat (litN (b :: r) - 1) :: ((b :: r).take (litN (b :: r)) ++ packF f ((b :: r).drop (litN (b :: r))))
def packP (l : List UInt8) : List UInt8 := packF l.length l
theorem packF_cons (f : Nat) (b : UInt8) (r : List UInt8) : packF (f + 1) (b :: r) = if 2 ≤ runP (b :: r) then UInt8.ofNat (257 - runP (b :: r)) :: b :: packF f ((b :: r).drop (runP (b :: r))) else UInt8.ofNat (litN (b :: r) - 1) :: ((b :: r).take (litN (b :: r)) ++ packF f ((b :: r).drop (litN (b :: r)))) := rfl
theorem packF_enough (f g : Nat) (l : List UInt8) (hf : l.length ≤ f) (hg : l.length ≤ g) : packF f l = packF g l := by
  induction f generalizing g l with
  | zero =>
    have : l = [] := List.eq_nil_of_length_eq_zero (by omega)
    subst this
    cases g <;> rfl
  | succ f ih =>
    cases l with
    | nil => cases g <;> rfl
    | cons b r =>
      cases g with
      | zero => simp at hg
      | succ g =>
        rw [packF_cons, packF_cons]
        have hp := runP_pos b r
        have hl : 1 ≤ litN (b :: r) := litF_ge 128 (b :: r) 1
        split
        · rw [ih g _ (by simp at hf ⊢; omega) (by simp at hg ⊢; omega)]
        · rw [ih g _ (by simp at hf ⊢; omega) (by simp at hg ⊢; omega)]
theorem packP_nil : packP [] = [] := rfl
theorem packP_run {l : List UInt8} (hne : l ≠ []) (h : 2 ≤ runP l) : packP l = UInt8.ofNat (257 - runP l) :: l.getD 0 0 :: packP (l.drop (runP l)) := by
  cases l with
  | nil => exact absurd rfl hne
  | cons b r =>
    have hp := runP_pos b r
    unfold packP
    rw [List.length_cons, packF_cons, if_pos h, packF_enough r.length _ _ (by simp; omega) (Nat.le_refl _)]
    rfl
theorem packP_lit {l : List UInt8} (hne : l ≠ []) (h : ¬ 2 ≤ runP l) : packP l = UInt8.ofNat (litN l - 1) :: (l.take (litN l) ++ packP (l.drop (litN l))) := by
  cases l with
  | nil => exact absurd rfl hne
  | cons b r =>
    have hl : 1 ≤ litN (b :: r) := litF_ge 128 (b :: r) 1
    unfold packP
    rw [List.length_cons, packF_cons, if_neg h, packF_enough r.length _ _ (by simp; omega) (Nat.le_refl _)]

theorem litF_stop (f : Nat) (l : List UInt8) (n : Nat) (h : 128 ≤ f + n) : ¬ (litF f l n < l.length ∧ litF f l n < 128 ∧ runP (l.drop (litF f l n)) < 3) := by
  induction f generalizing n with
  | zero => unfold litF; omega
  | succ f ih =>
    unfold litF
    split
    · exact ih (n + 1) (by omega)
    · rename_i hc; exact hc
theorem packP_bound : ∀ (k : Nat) (l : List UInt8), l.length ≤ k → (packP l).length ≤ l.length + (l.length + 127) / 128 := by
  intro k
  induction k using Nat.strongRecOn with
  | _ k ih =>
    intro l hk
    by_cases hne : l = []
    · subst hne; simp [packP, packF]
    have hpos : 0 < l.length := List.length_pos_iff.2 hne
    have hr1 := runP_le l
    by_cases h2 : 2 ≤ runP l
    · rw [packP_run hne h2, List.length_cons, List.length_cons]
      have := ih (l.length - runP l) (by omega) (l.drop (runP l)) (by rw [List.length_drop]; exact Nat.le_refl _)
      rw [List.length_drop] at this
      omega
    · have hge : 1 ≤ litN l := litF_ge 128 l 1
      have hle := litF_le 128 l 1 (by omega) (by decide)
      have hst := litF_stop 128 l 1 (by omega)
      rw [show litF 128 l 1 = litN l from rfl] at hle hst
      rw [packP_lit hne h2, List.length_cons, List.length_append, List.length_take, Nat.min_eq_left hle.1]
      by_cases h128 : litN l = 128
      · have := ih (l.length - litN l) (by omega) (l.drop (litN l)) (by rw [List.length_drop]; exact Nat.le_refl _)
        rw [List.length_drop] at this
        omega
      · by_cases hend : litN l = l.length
        · rw [hend, List.drop_length]
          simp only [packP_nil, List.length_nil]
          omega
        · have h3 : 3 ≤ runP (l.drop (litN l)) := by
            rcases Nat.lt_or_ge (runP (l.drop (litN l))) 3 with h | h
            · exact absurd ⟨by omega, by omega, h⟩ hst
            · exact h
          have hne2 : l.drop (litN l) ≠ [] := by
            intro h
            have := congrArg List.length h
            rw [List.length_drop, List.length_nil] at this
            omega
          have hr2 := runP_le (l.drop (litN l))
          rw [List.length_drop] at hr2
          rw [packP_run hne2 (by omega), List.length_cons, List.length_cons]
          have := ih (l.length - litN l - runP (l.drop (litN l))) (by omega) ((l.drop (litN l)).drop (runP (l.drop (litN l)))) (by rw [List.length_drop, List.length_drop]; exact Nat.le_refl _)
          rw [List.length_drop, List.length_drop] at this
          omega
theorem packP_bnd (s : ByteArray) (hs : s.size ≤ 140737488355328) (o r : List UInt8) (h : o ++ r = packP s.data.toList) : o.length ≤ 141836999983104 := by
  have h1 := packP_bound s.data.toList.length s.data.toList (Nat.le_refl _)
  have h2 := congrArg List.length h
  have h3 : s.data.toList.length = s.size := by simp
  rw [List.length_append] at h2
  omega

set_option maxHeartbeats 4000000 in
set_option maxRecDepth 100000 in
theorem packBits_any (s : ByteArray) (w : World) (hs : s.size ≤ 140737488355328) : Calls Try.prog 12 #[.string s] w fun e w' => e = .returned (.string ⟨(packP s.data.toList).toArray⟩) ∧ Below w.heap.size w w' := by
  have HRUN := Lib.hid (fun s w h => run_any s w h)
  have HLT := Lib.hid (packP_bnd s hs)
  have HBE := Lib.hid (Below.refl w.heap.size w)
  generalize hB : w.heap.size = B at *
  have HB := Lib.hid hB
  clear hB
  have HO0 : Hid (BRow w B 5 (.slice none 0 0) []) := ⟨rfl, .inl ⟨rfl, rfl⟩⟩
  go_enter Try.func12, Try.ntmps12
  go_wp2_with fail
  go_loopw [0, 3] (fun vs vo wr => ∃ (r : ByteArray) (out : List UInt8), vs = .string r ∧ BRow wr B 5 vo out ∧ Hid (out ++ packP r.data.toList = packP s.data.toList) ∧ out.length ≤ 141836999983104 ∧ r.size ≤ s.size ∧ Hid (Below B w wr) ∧ B ≤ wr.heap.size) (fun vs _ _ => match vs with | .string r => r.size | _ => 0)
  case atStart => exact ⟨s, [], rfl, HO0.out, rfl, by simp, Nat.le_refl _, HBE.out, by rw [← HB.out]; exact Nat.le_refl _⟩
  case round =>
    obtain ⟨r, out, rfl, hrow, hpk, hol, hsz, hbw, hszr⟩ := hrel
    obtain ⟨l, hl⟩ : ∃ l, r.data.toList = l := ⟨_, rfl⟩
    have hll : l.length = r.size := by rw [← hl, ba_size]
    have HL := Lib.hid hl
    rw [hl] at hpk
    obtain ⟨xo, co, rfl⟩ := brow_shape hrow
    by_cases h0 : r.size = 0
    · have hln : l = [] := List.eq_nil_of_length_eq_zero (by omega)
      have e1 : (r.toList == []) = true := by rw [ByteArray.toList_eq, hl, hln]; rfl
      have e2 : (r.toList != []) = false := by unfold bne; rw [e1]; rfl
      have HF : Hid (packP s.data.toList = out) := by show _ = _; rw [← hpk.out, hln, packP_nil, List.append_nil]
      have hst := run_str_of Try.underlying54 Try.underlying5 Try.underlying9 hrow
      clear hl hln h0 hpk
      go_wp2_with fail
      go_ret
      exact ⟨by rw [HF.out]; rfl, hbw.out⟩
    · have hne : l ≠ [] := by rintro rfl; simp at hll; omega
      have e1 : (r.toList == []) = false := by rw [ByteArray.toList_eq, hl, beq_eq_false_iff_ne]; exact hne
      have e2 : (r.toList != []) = true := by unfold bne; rw [e1]; rfl
      have HR1 := Lib.hid (HRUN.out r wr (by unfold maxLen; omega))
      rw [hl] at HR1
      obtain ⟨n, hn⟩ : ∃ n, runP l = n := ⟨_, rfl⟩
      have hn1 := runP_le l
      have hn2 : 1 ≤ runP l := by
        cases l with
        | nil => exact absurd rfl hne
        | cons b t => exact runP_pos b t
      rw [hn] at HR1 hn1 hn2
      obtain ⟨hn3, hn4⟩ := hn1
      have HN := Lib.hid hn
      have HNE := Lib.hid hne
      clear hn hne
      go_wp2_with fail
      refine HR1.out.mono ?_
      rintro e w1 ⟨rfl, n1, hw1⟩
      have hb1 : Below wr.heap.size wr w1 := by rw [hw1]; exact below_drewN (Below.refl _ _) n1
      have hrow1 : BRow w1 B 5 (.slice xo out.length co) out := (Fr.of_below (B := 0) hb1 []).owns hrow (by simp)
      have hbw1 : Hid (Below B w w1) := hbw.out.trans (hb1.mono hszr)
      have hsz1 : B ≤ w1.heap.size := Nat.le_trans hszr hb1.size
      clear hw1 hb1 hrow hbw hszr HR1 e1 e2
      have hrs : 0 < r.size := by omega
      have hg0 : l.getD 0 0 = r[0] := by
        rw [← hl, List.getD_eq_getElem?_getD, List.getElem?_eq_getElem (by rw [ba_size]; exact hrs)]
        simp only [Option.getD_some, Array.getElem_toList]
        rfl
      obtain ⟨b0, hb0⟩ : ∃ b0, r[0] = b0 := ⟨_, rfl⟩
      rw [hb0] at hg0
      have HG0 := Lib.hid hg0
      clear hg0 hl
      by_cases h2 : 2 ≤ n
      · have d2 : decide ((2 : Int) ≤ (n : Int)) = true := by simp; omega
        have HPK : Hid (out ++ packP l = (out ++ [UInt8.ofNat (257 - n), b0]) ++ packP (l.drop n)) := by
          show _ = _
          rw [packP_run HNE.out (by rw [HN.out]; exact h2), HN.out, HG0.out]; simp
        have HX : Hid ((r.extract n r.size).data.toList = l.drop n ∧ (r.extract n r.size).size = r.size - n) := by
          refine ⟨by rw [extract_list, HL.out, List.take_of_length_le (by omega)], by rw [ByteArray.size_extract]; omega⟩
        obtain ⟨q, hq⟩ : ∃ q : Nat, q = 257 - n := ⟨_, rfl⟩
        have hqn : (257 : Int) - (n : Int) = (q : Int) := by omega
        have hq8 : q ≤ 255 := by omega
        rw [← hq] at HPK
        have hol2 : (out ++ [UInt8.ofNat q, b0]).length ≤ 141836999983104 := HLT.out _ (packP (l.drop n)) (by rw [← HPK.out]; exact hpk.out)
        have hol3 : out.length + 2 ≤ 141836999983104 := by rw [List.length_append] at hol2; exact hol2
        have HOL2 := Lib.hid hol2
        clear hq hol2
        go_upto_region 5 with fail
        go_wp2_with (at_builtin; refine wpList_appW el_u8 hrow1 hsz1 rfl rfl rfl (m := 1) rfl (by simp [Value.oneCell']) rfl (by omega) (by unfold maxLen; omega) ?_)
        intro r2 cap2 w4 ho2 hg2
        have hown2 := brow_more ho2 [UInt8.ofNat q, b0] (by simp only [bcells, List.map_cons, List.map_nil]; rw [bcell_ofNat q (by omega)]) rfl
        obtain ⟨hbel2, hsz2⟩ := below_app hbw1.out hsz1 hrow1 hg2
        have HO2 := Lib.hid hown2
        have HPK2 : Hid ((out ++ [UInt8.ofNat q, b0]) ++ packP (r.extract n r.size).data.toList = packP s.data.toList) := by show _ = _; rw [HX.out.1, ← HPK.out]; exact hpk.out
        have hxs := HX.out.2
        clear ho2 hg2 hrow1 hown2 hpk HPK hb0
        go_wp2_with fail
        go_roundw
        case rel => exact ⟨_, _, rfl, HO2.out, HPK2.out, HOL2.out, by rw [hxs]; omega, hbel2, hsz2⟩
        case measure => simp only [ByteArray.size_extract]; omega
      · have d2 : decide ((2 : Int) ≤ (n : Int)) = false := by simp; omega
        have hn1 : n = 1 := by omega
        have HPK : Hid (out ++ packP l = ((out ++ [UInt8.ofNat (litN l - 1)]) ++ l.take (litN l)) ++ packP (l.drop (litN l))) := by
          show _ = _
          rw [packP_lit HNE.out (by rw [HN.out]; exact h2)]; simp
        have HN1 := Lib.hid hn1
        clear hn1 h2 hb0
        go_upto_region 6 with fail
        go_loopw [4] (fun vm wq => ∃ m : Nat, vm = .int .i64 m ∧ 1 ≤ m ∧ m ≤ r.size ∧ m ≤ 128 ∧ Hid (litN l = litF (129 - m) l m) ∧ BRow wq B 5 (.slice xo out.length co) out ∧ Hid (Below B w wq) ∧ B ≤ wq.heap.size) (fun vm _ => 200 - (intOf vm).toNat)
        case atStart => exact ⟨n, rfl, by omega, by omega, by omega, by show _ = _; rw [HN1.out]; rfl, hrow1, hbw1.out, hsz1⟩
        case round =>
          obtain ⟨m, rfl, hm1, hm2, hm3, hlit, hrowq, hbq, hszq⟩ := hrel
          by_cases hlt : m < r.size ∧ m < 128
          · have hlt1 := hlt.1
            have hlt2 := hlt.2
            have dlt : decide ((m : Int) < min (r.size : Int) 128) = true := by simp; omega
            have HX : Hid ((r.extract m r.size).data.toList = l.drop m) := by show _ = _; rw [extract_list, HL.out, List.take_of_length_le (by omega)]
            have HR2 := Lib.hid (HRUN.out (r.extract m r.size) wr (by rw [ByteArray.size_extract]; unfold maxLen; omega))
            rw [HX.out] at HR2
            obtain ⟨t, ht⟩ : ∃ t, runP (l.drop m) = t := ⟨_, rfl⟩
            rw [ht] at HR2
            have HT := Lib.hid ht
            clear ht HX hlt
            go_wp2_with fail
            refine HR2.out.mono ?_
            rintro e w2 ⟨rfl, n2, hw2⟩
            have hb2 : Below wr.heap.size wr w2 := by rw [hw2]; exact below_drewN (Below.refl _ _) n2
            have hrow2 : BRow w2 B 5 (.slice xo out.length co) out := (Fr.of_below (B := 0) hb2 []).owns hrowq (by simp)
            have hbw2 : Hid (Below B w w2) := hbq.out.trans (hb2.mono hszq)
            have hsz2 : B ≤ w2.heap.size := Nat.le_trans hszq hb2.size
            clear hw2 hb2 HR2 hrowq hbq hszq
            by_cases h3 : t < 3
            · have d3 : decide ((t : Int) < 3) = true := by simp; omega
              have HLT : Hid (litN l = litF (129 - (m + 1)) l (m + 1)) := by
                show _ = _
                rw [hlit.out, show 129 - m = (128 - m) + 1 by omega, litF, if_pos ⟨by omega, hlt2, by rw [HT.out]; exact h3⟩, show 129 - (m + 1) = 128 - m by omega]
              clear hlit h3
              go_wp2_with fail
              go_roundw
              case rel => exact ⟨m + 1, by go_num, by omega, by omega, by omega, HLT.out, hrow2, hbw2.out, hsz2⟩
              case measure => simp [intOf]; omega
            · have d3 : decide ((t : Int) < 3) = false := by simp; omega
              have HLM : Hid (litN l = m) := by
                show _ = _
                rw [hlit.out, show 129 - m = (128 - m) + 1 by omega, litF, if_neg (by rw [HT.out]; rintro ⟨_, _, h⟩; exact h3 h)]
              clear h3
              have HPK3 : Hid (out ++ packP l = ((out ++ [UInt8.ofNat (m - 1)]) ++ l.take m) ++ packP (l.drop m)) := by show _ = _; rw [HPK.out, HLM.out]
              have HX0 : Hid ((r.extract 0 m).data.toList = l.take m ∧ (r.extract 0 m).size = m) := by
                refine ⟨by rw [extract_list, HL.out, List.drop_zero], by rw [ByteArray.size_extract]; omega⟩
              have HXm : Hid ((r.extract m r.size).data.toList = l.drop m ∧ (r.extract m r.size).size = r.size - m) := by
                refine ⟨by rw [extract_list, HL.out, List.take_of_length_le (by omega)], by rw [ByteArray.size_extract]; omega⟩
              obtain ⟨q, hq⟩ : ∃ q : Nat, q = m - 1 := ⟨_, rfl⟩
              have hqm : (m : Int) - 1 = (q : Int) := by omega
              have hq8 : q ≤ 127 := by omega
              rw [← hq] at HPK3
              have hol2 : ((out ++ [UInt8.ofNat q]) ++ l.take m).length ≤ 141836999983104 := HLT.out _ (packP (l.drop m)) (by rw [← HPK3.out]; exact hpk.out)
              have hol3 : out.length + 1 + m ≤ 141836999983104 := by rw [List.length_append, List.length_append, List.length_take, Nat.min_eq_left (by omega)] at hol2; exact hol2
              have HOL2 := Lib.hid hol2
              clear hq HLM hlit hol2
              go_upto_region 8 with fail
              go_wp2_with (at_builtin; refine wpList_appW el_u8 hrow2 hsz2 rfl rfl rfl (m := 0) rfl (by simp [Value.oneCell']) rfl (by omega) (by unfold maxLen; omega) ?_)
              intro r3 cap3 w4 ho3 hg3
              have hown3 := brow_more ho3 [UInt8.ofNat q] (by rw [← one_cell q (by omega)]) rfl
              obtain ⟨hbel3, hsz3⟩ := below_app hbw2.out hsz2 hrow2 hg3
              clear ho3 hg3
              have hx0 := HX0.out.2
              have hl1 : (out ++ [UInt8.ofNat q]).length = out.length + 1 := by simp
              go_upto_region 9 with fail
              go_wp2_with (at_builtin; refine wpList_app_strW (s := r.extract 0 m) el_u8 Try.underlying9 hown3 hsz3 rfl rfl rfl rfl (by omega) (by omega) ?_)
              intro v5 w5 hrow5 hg5
              have HO5 : Hid (BRow w5 B 5 v5 ((out ++ [UInt8.ofNat q]) ++ l.take m)) := by show BRow _ _ _ _ _; have h := hrow5; simpa [HL.out] using h
              obtain ⟨hbel5, hsz5⟩ := below_app' hbel3 hsz3 hown3 hg5
              have HPK2 : Hid (((out ++ [UInt8.ofNat q]) ++ l.take m) ++ packP (r.extract m r.size).data.toList = packP s.data.toList) := by show _ = _; rw [HXm.out.1, ← HPK3.out]; exact hpk.out
              have hxs := HXm.out.2
              clear hrow5 hg5 hown3 hbel3
              go_wp2_with fail
              go_roundw
              case rel => exact ⟨_, _, rfl, HO5.out, HPK2.out, HOL2.out, by rw [hxs]; omega, hbel5, hsz5⟩
              case measure => simp only [ByteArray.size_extract]; omega
          · have dlt : decide ((m : Int) < min (r.size : Int) 128) = false := by simp; omega
            have HLM : Hid (litN l = m) := by
              show _ = _
              rw [hlit.out, show 129 - m = (128 - m) + 1 by omega, litF, if_neg (by rintro ⟨h, h', _⟩; exact hlt ⟨by omega, h'⟩)]
            clear hlt
            have HPK3 : Hid (out ++ packP l = ((out ++ [UInt8.ofNat (m - 1)]) ++ l.take m) ++ packP (l.drop m)) := by show _ = _; rw [HPK.out, HLM.out]
            have HX0 : Hid ((r.extract 0 m).data.toList = l.take m ∧ (r.extract 0 m).size = m) := by
              refine ⟨by rw [extract_list, HL.out, List.drop_zero], by rw [ByteArray.size_extract]; omega⟩
            have HXm : Hid ((r.extract m r.size).data.toList = l.drop m ∧ (r.extract m r.size).size = r.size - m) := by
              refine ⟨by rw [extract_list, HL.out, List.take_of_length_le (by omega)], by rw [ByteArray.size_extract]; omega⟩
            obtain ⟨q, hq⟩ : ∃ q : Nat, q = m - 1 := ⟨_, rfl⟩
            have hqm : (m : Int) - 1 = (q : Int) := by omega
            have hq8 : q ≤ 127 := by omega
            rw [← hq] at HPK3
            have hol2 : ((out ++ [UInt8.ofNat q]) ++ l.take m).length ≤ 141836999983104 := HLT.out _ (packP (l.drop m)) (by rw [← HPK3.out]; exact hpk.out)
            have hol3 : out.length + 1 + m ≤ 141836999983104 := by rw [List.length_append, List.length_append, List.length_take, Nat.min_eq_left (by omega)] at hol2; exact hol2
            have HOL2 := Lib.hid hol2
            clear hq HLM hlit hol2
            go_upto_region 8 with fail
            go_wp2_with (at_builtin; refine wpList_appW el_u8 hrowq hszq rfl rfl rfl (m := 0) rfl (by simp [Value.oneCell']) rfl (by omega) (by unfold maxLen; omega) ?_)
            intro r3 cap3 w4 ho3 hg3
            have hown3 := brow_more ho3 [UInt8.ofNat q] (by rw [← one_cell q (by omega)]) rfl
            obtain ⟨hbel3, hsz3⟩ := below_app hbq.out hszq hrowq hg3
            clear ho3 hg3
            have hx0 := HX0.out.2
            have hl1 : (out ++ [UInt8.ofNat q]).length = out.length + 1 := by simp
            go_upto_region 9 with fail
            go_wp2_with (at_builtin; refine wpList_app_strW (s := r.extract 0 m) el_u8 Try.underlying9 hown3 hsz3 rfl rfl rfl rfl (by omega) (by omega) ?_)
            intro v5 w5 hrow5 hg5
            have HO5 : Hid (BRow w5 B 5 v5 ((out ++ [UInt8.ofNat q]) ++ l.take m)) := by show BRow _ _ _ _ _; have h := hrow5; simpa [HL.out] using h
            obtain ⟨hbel5, hsz5⟩ := below_app' hbel3 hsz3 hown3 hg5
            have HPK2 : Hid (((out ++ [UInt8.ofNat q]) ++ l.take m) ++ packP (r.extract m r.size).data.toList = packP s.data.toList) := by show _ = _; rw [HXm.out.1, ← HPK3.out]; exact hpk.out
            have hxs := HXm.out.2
            clear hrow5 hg5 hown3 hbel3
            go_wp2_with fail
            go_roundw
            case rel => exact ⟨_, _, rfl, HO5.out, HPK2.out, HOL2.out, by rw [hxs]; omega, hbel5, hsz5⟩
            case measure => simp only [ByteArray.size_extract]; omega
end Go.Proofs.Ytakileiomgaahaa
