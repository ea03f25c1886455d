/-
  Walk: a value set, in the reference.
-/
import Derived.Test.YtggogfjfkimcgaaM4
namespace Go.Proofs.Ytggogfjfkimcgaa
open Go.RowKit

theorem mown_shape {w : World} {b : Nat} {v : Value} {l : List Mt} (h : MOwn w b v l) : ∃ x c, v = .slice x l.length c := by
  rcases h.2 with ⟨rfl, h0⟩ | ⟨g, cap, cur, rfl, _⟩
  · exact ⟨none, 0, by rw [h0]⟩
  · exact ⟨_, _, rfl⟩

set_option maxRecDepth 100000 in
set_option maxHeartbeats 16000000 in
theorem rset_any (v : Value) (l : List Mt) (k val : List UInt8) (w : World) (hr : MRow w v l) (hsz : ∀ m ∈ l, m.1.length ≤ maxLen ∧ m.2.length ≤ maxLen) (hks : k.length ≤ maxLen) (hvs : val.length ≤ maxLen) :
    Calls Try.prog 14 #[v, .string ⟨k.toArray⟩, .string ⟨val.toArray⟩] w fun e w' => SetOk l k val e w' ∧ Below w.heap.size w w' := by
  have HE : Hid (setErr l k val = if chkP l ≠ 0 then chkP l else if isK k = false then 13 else if val = [] ∧ getP l k = none then 9 else if val ≠ [] ∧ isV val = false then 4 else if val ≠ [] ∧ getP l k = none ∧ l.length = 16 then 3 else 0) := rfl
  have hck := fun w h => rcheck_any v l w h hsz
  have HCZ := Lib.hid (chkP_zero l)
  obtain ⟨x, c, rfl, hc1, hc2, hc3, hcell⟩ := id hr
  unfold maxLen at hc2
  generalize chkP l = ch at *
  have HCK := Lib.hid hck
  clear hck hcell hc3 hsz
  go_enter Try.func14, Try.ntmps14
  go_wp2_with fail
  refine (HCK.out _ hr).mono ?_
  rintro e w1 ⟨rfl, n1, rfl⟩
  have hb1 : Below w.heap.size w (w.drewN n1) := below_drewN (Below.refl _ _) n1
  generalize w.drewN n1 = w2 at *
  have hb2 := hb1
  clear hb1
  by_cases hch : ch = 0
  · subst hch
    have HOK := Lib.hid (HCZ.out.1 rfl)
    clear HCZ
    go_wp2_with fail
    refine (rName_any ⟨k.toArray⟩ _ hks).mono ?_
    rintro e w3 ⟨rfl, rfl⟩
    have e1 : (ByteArray.mk k.toArray).data.toList = k := rfl
    rw [e1]
    clear e1
    cases hk : isK k with
    | false =>
      rw [hk] at HE
      have HE2 : Hid (setErr l k val = 13) := by show _ = _; rw [HE.out]; simp
      clear HE hk
      go_wp2_with fail
      go_ret2
      exact ⟨setOk_err HE2.out (by decide), hb2⟩
    | true =>
      rw [hk] at HE
      clear hk
      go_wp2_with fail
      refine (rget_any _ l k _ (hr.below hb2)).mono ?_
      rintro e w3 ⟨rfl, rfl⟩
      clear HCK
      by_cases hvv : val = []
      · subst hvv
        cases hg : getP l k with
        | none =>
          have HE2 : Hid (setErr l k [] = 9) := by show _ = _; rw [HE.out, hg]; simp
          clear HE hg
          simp only [optV, Option.getD_some, Option.isSome_some, Option.getD_none, Option.isSome_none]
          go_wp2_with fail
          go_ret2
          exact ⟨setOk_err HE2.out (by decide), hb2⟩
        | some old =>
          have HE0 : Hid (setErr l k [] = 0) := by show _ = _; rw [HE.out, hg]; simp
          clear HE hg
          simp only [optV, Option.getD_some, Option.isSome_some, Option.getD_none, Option.isSome_none]
          have hl16 := HOK.out.1
          obtain ⟨N, hN⟩ : ∃ N, l.length = N := ⟨_, rfl⟩
          have hr := Lib.hid hr
          rw [hN] at hl16 hc1 ⊢
          have HN := Lib.hid hN
          clear hN
          go_wp2_with fail
          obtain ⟨B, hB⟩ : ∃ B, B = w.heap.size := ⟨_, rfl⟩
          have HB := Lib.hid hB
          have hst : MOwn w2 B (.slice none 0 0) [] := World.ownsRow_nil _ _ _ _
          have hbst : Hid (Below B w w2) := by rw [hB]; exact hb2
          have hszst : B ≤ w2.heap.size := by rw [hB]; exact hb2.size
          have hacl : ([] : List Mt).length ≤ 20 := by decide
          clear hB
          go_loopw [11, 50] (fun v vi wr => ∃ i : Nat, vi = .int .i64 i ∧ i ≤ N ∧ MOwn wr B v ([] ++ ((l.take i).filter fun (m : Mt) => Op.bytesLess m.1 k)) ∧ Hid (Below B w wr) ∧ B ≤ wr.heap.size) (fun _ vi _ => N - (intOf vi).toNat)
          case atStart => exact ⟨0, rfl, Nat.zero_le _, by simpa using hst, hbst, hszst⟩
          case round =>
            clear hst hbst hszst
            obtain ⟨i, rfl, hi, hown, hbw, hszr⟩ := hrel
            have hfl : ([] ++ ((l.take i).filter fun (m : Mt) => Op.bytesLess m.1 k)).length ≤ 40 := by
              have h1 := List.length_filter_le (fun m : Mt => Op.bytesLess m.1 k) (l.take i)
              have h2 : (l.take i).length ≤ 16 := by simp; omega
              have h3 : ([] : List Mt).length ≤ 20 := hacl
              rw [List.length_append]
              omega
            obtain ⟨acc, hacc⟩ : ∃ acc : List Mt, acc = [] ++ ((l.take i).filter fun (m : Mt) => Op.bytesLess m.1 k) := ⟨_, rfl⟩
            rw [← hacc] at hown hfl
            obtain ⟨x11, c11, rfl⟩ := mown_shape hown
            have HACC := Lib.hid hacc
            clear hacc
            by_cases hlt : i < N
            · have hd : decide ((i : Int) < (N : Int)) = true := by simp; omega
              have hlt' : i < l.length := by have := HN.out; omega
              obtain ⟨mk, mv, hm⟩ : ∃ mk mv, l[i] = (mk, mv) := ⟨_, _, rfl⟩
              have hrw := hr.out.below (by rw [← HB.out]; exact hbw.out)
              obtain ⟨x', c', hv, -, -, -, hcl0⟩ := hrw
              cases hv
              obtain ⟨b, off, hbo, hcl⟩ := hcl0 (by rintro rfl; simp at hlt')
              obtain ⟨q1, q2⟩ := hcl i hlt'
              have HS : Hid (l.take (i + 1) = l.take i ++ [(mk, mv)]) := by show _ = _; rw [List.take_succ_eq_append_getElem hlt', hm]
              rw [hm] at q1 q2
              simp only at q1 q2
              clear hm hcl hcl0
              subst hbo
              cases hb : Op.bytesLess mk k with
              | true =>
                go_wp2_with (at_builtin; refine wpList_app el_meta hown hszr rfl rfl rfl (m := 0) rfl (by simp [Value.oneCell']) rfl (by omega) (by unfold maxLen; omega) ?_)
                intro r2 cap2 w4 ho2 hg2 _
                have hown2 := mown_more ho2 [(mk, mv)] rfl rfl
                obtain ⟨hbel2, hsz2⟩ := below_app hbw.out hszr hown hg2
                clear ho2 hg2 hown q1 q2
                go_wp2_with fail
                go_roundw
                case rel =>
                  refine ⟨i + 1, by go_num, by omega, ?_, hbel2, hsz2⟩
                  rw [HS.out, List.filter_append, List.filter_cons_of_pos (by exact hb), List.filter_nil, ← List.append_assoc, ← HACC.out]
                  exact hown2
                case measure => simp [intOf]; omega
              | false =>
                skip
                all_goals
                  go_wp2_with fail
                  refine ⟨⟨i + 1, by go_num, by omega, ?_, hbw, hszr⟩, by simp [intOf]; omega⟩
                  rw [HS.out, List.filter_append, List.filter_cons_of_neg (by rw [hb]; decide), List.filter_nil, List.append_nil, ← HACC.out]
                  exact hown
            · have hd : decide ((i : Int) < (N : Int)) = false := by simp; omega
              have HALL : Hid (acc = [] ++ (l.filter fun (m : Mt) => Op.bytesLess m.1 k)) := by show _ = _; rw [HACC.out, List.take_of_length_le (by rw [HN.out]; omega)]
              clear HACC
              have hst := hown
              have hbst := hbw
              have hszst := hszr
              clear hown hbw hszr
              go_wp2_with fail
              obtain ⟨a1, ha1⟩ : ∃ a1 : List Mt, a1 = acc := ⟨_, rfl⟩
              rw [← ha1]
              have HA1 : Hid (a1 = (l.filter fun m => Op.bytesLess m.1 k)) := by show _ = _; rw [ha1, HALL.out]; simp
              rw [← ha1] at hst
              have hacl : a1.length ≤ 20 := by
                have h1 := List.length_filter_le (fun m : Mt => Op.bytesLess m.1 k) l
                have h2 := HN.out
                rw [HA1.out]
                simp
                omega
              clear ha1 HALL hfl hi hlt hd
              go_loopw [11, 78] (fun v vi wr => ∃ i : Nat, vi = .int .i64 i ∧ i ≤ N ∧ MOwn wr B v (a1 ++ ((l.take i).filter fun (m : Mt) => Op.bytesLess k m.1)) ∧ Hid (Below B w wr) ∧ B ≤ wr.heap.size) (fun _ vi _ => N - (intOf vi).toNat)
              case atStart => exact ⟨0, rfl, Nat.zero_le _, by simpa using hst, hbst, hszst⟩
              case round =>
                clear hst hbst hszst
                obtain ⟨i, rfl, hi, hown, hbw, hszr⟩ := hrel
                have hfl : (a1 ++ ((l.take i).filter fun (m : Mt) => Op.bytesLess k m.1)).length ≤ 40 := by
                  have h1 := List.length_filter_le (fun m : Mt => Op.bytesLess k m.1) (l.take i)
                  have h2 : (l.take i).length ≤ 16 := by simp; omega
                  have h3 : (a1 : List Mt).length ≤ 20 := hacl
                  rw [List.length_append]
                  omega
                obtain ⟨acc, hacc⟩ : ∃ acc : List Mt, acc = a1 ++ ((l.take i).filter fun (m : Mt) => Op.bytesLess k m.1) := ⟨_, rfl⟩
                rw [← hacc] at hown hfl
                obtain ⟨x11, c11, rfl⟩ := mown_shape hown
                have HACC := Lib.hid hacc
                clear hacc
                by_cases hlt : i < N
                · have hd : decide ((i : Int) < (N : Int)) = true := by simp; omega
                  have hlt' : i < l.length := by have := HN.out; omega
                  obtain ⟨mk, mv, hm⟩ : ∃ mk mv, l[i] = (mk, mv) := ⟨_, _, rfl⟩
                  have hrw := hr.out.below (by rw [← HB.out]; exact hbw.out)
                  obtain ⟨x', c', hv, -, -, -, hcl0⟩ := hrw
                  cases hv
                  obtain ⟨b, off, hbo, hcl⟩ := hcl0 (by rintro rfl; simp at hlt')
                  obtain ⟨q1, q2⟩ := hcl i hlt'
                  have HS : Hid (l.take (i + 1) = l.take i ++ [(mk, mv)]) := by show _ = _; rw [List.take_succ_eq_append_getElem hlt', hm]
                  rw [hm] at q1 q2
                  simp only at q1 q2
                  clear hm hcl hcl0
                  subst hbo
                  cases hb : Op.bytesLess k mk with
                  | true =>
                    have hb1 : Op.bytesLess mk k = false := less_asymm _ _ hb
                    have hb2 : (mk == k) = false := by rw [beq_eq_false_iff_ne]; rintro rfl; rw [less_irrefl] at hb; cases hb
                    go_wp2_with (at_builtin; refine wpList_app el_meta hown hszr rfl rfl rfl (m := 0) rfl (by simp [Value.oneCell']) rfl (by omega) (by unfold maxLen; omega) ?_)
                    intro r2 cap2 w4 ho2 hg2 _
                    have hown2 := mown_more ho2 [(mk, mv)] rfl rfl
                    obtain ⟨hbel2, hsz2⟩ := below_app hbw.out hszr hown hg2
                    clear ho2 hg2 hown q1 q2
                    go_wp2_with fail
                    go_roundw
                    case rel =>
                      refine ⟨i + 1, by go_num, by omega, ?_, hbel2, hsz2⟩
                      rw [HS.out, List.filter_append, List.filter_cons_of_pos (by exact hb), List.filter_nil, ← List.append_assoc, ← HACC.out]
                      exact hown2
                    case measure => simp [intOf]; omega
                  | false =>
                    have hb12 : Op.bytesLess mk k = true ∨ Op.bytesLess mk k = false ∧ (mk == k) = true := by
                      cases h1 : Op.bytesLess mk k with
                      | true => exact .inl rfl
                      | false =>
                        refine .inr ⟨rfl, ?_⟩
                        by_cases h2 : mk = k
                        · simp [h2]
                        · have := less_total _ _ h1 h2; rw [hb] at this; cases this
                    rcases hb12 with hb1 | ⟨hb1, hb2⟩
                    all_goals
                      go_wp2_with fail
                      refine ⟨⟨i + 1, by go_num, by omega, ?_, hbw, hszr⟩, by simp [intOf]; omega⟩
                      rw [HS.out, List.filter_append, List.filter_cons_of_neg (by rw [hb]; decide), List.filter_nil, List.append_nil, ← HACC.out]
                      exact hown
                · have hd : decide ((i : Int) < (N : Int)) = false := by simp; omega
                  have HALL : Hid (acc = a1 ++ (l.filter fun (m : Mt) => Op.bytesLess k m.1)) := by show _ = _; rw [HACC.out, List.take_of_length_le (by rw [HN.out]; omega)]
                  clear HACC
                  go_wp2_with fail
                  go_ret2
                  refine ⟨⟨_, by rw [HE0.out]; rfl, ?_⟩, by rw [← HB.out]; exact hbw.out⟩
                  have hfin := hown.row
                  have el : setRes l k [] = (l.filter fun m => Op.bytesLess m.1 k) ++ (l.filter fun m => Op.bytesLess k m.1) := by
                    unfold setRes setL
                    rw [if_pos HE0.out]
                    simp []
                  have el2 : setRes l k [] = acc := by rw [el, HALL.out, HA1.out]
                  rw [el2]
                  exact hfin

      · have HV0 := Lib.hid hvv
        have hv0 : val.isEmpty = false := by simpa using hvv
        clear hvv
        have hiv := fun w => rvalue_any ⟨val.toArray⟩ w hvs
        have e1 : (ByteArray.mk val.toArray).data.toList = val := rfl
        rw [e1] at hiv
        clear e1
        cases hv : isV val with
        | false =>
          rw [hv] at HE hiv
          have HIV := Lib.hid hiv
          have HE2 : Hid (setErr l k val = 4) := by show _ = _; rw [HE.out]; simp [HV0.out]
          clear HE hv hiv
          cases hg : getP l k with
          | none =>
            clear hg
            simp only [optV, Option.getD_some, Option.isSome_some, Option.getD_none, Option.isSome_none]
            go_wp2_with fail
            refine (HIV.out _).mono ?_
            rintro e w3 ⟨rfl, rfl⟩
            go_wp2_with fail
            go_ret2
            exact ⟨setOk_err HE2.out (by decide), hb2⟩
          | some old =>
            clear hg
            simp only [optV, Option.getD_some, Option.isSome_some, Option.getD_none, Option.isSome_none]
            go_wp2_with fail
            refine (HIV.out _).mono ?_
            rintro e w3 ⟨rfl, rfl⟩
            go_wp2_with fail
            go_ret2
            exact ⟨setOk_err HE2.out (by decide), hb2⟩
        | true =>
          rw [hv] at HE hiv
          have HIV := Lib.hid hiv
          clear hv hiv
          cases hg : getP l k with
          | none =>
            by_cases h16 : l.length = 16
            · have HE2 : Hid (setErr l k val = 3) := by show _ = _; rw [HE.out, hg]; simp [HV0.out, h16]
              have d16 : ((l.length : Int) == 16) = true := by simp; omega
              clear HE hg h16
              simp only [optV, Option.getD_some, Option.isSome_some, Option.getD_none, Option.isSome_none]
              go_wp2_with fail
              refine (HIV.out _).mono ?_
              rintro e w3 ⟨rfl, rfl⟩
              go_wp2_with fail
              go_ret2
              exact ⟨setOk_err HE2.out (by decide), hb2⟩
            · have HE0 : Hid (setErr l k val = 0) := by show _ = _; rw [HE.out, hg]; simp [h16, HV0.out]
              have d16 : ((l.length : Int) == 16) = false := by simp; omega
              clear HE hg
              simp only [optV, Option.getD_some, Option.isSome_some, Option.getD_none, Option.isSome_none]
              go_wp2_with fail
              refine (HIV.out _).mono ?_
              rintro e w3 ⟨rfl, rfl⟩
              have hl16 := HOK.out.1
              obtain ⟨N, hN⟩ : ∃ N, l.length = N := ⟨_, rfl⟩
              have hr := Lib.hid hr
              rw [hN] at hl16 hc1 d16 ⊢
              have HN := Lib.hid hN
              clear hN
              go_wp2_with fail
              obtain ⟨B, hB⟩ : ∃ B, B = w.heap.size := ⟨_, rfl⟩
              have HB := Lib.hid hB
              have hst : MOwn w2 B (.slice none 0 0) [] := World.ownsRow_nil _ _ _ _
              have hbst : Hid (Below B w w2) := by rw [hB]; exact hb2
              have hszst : B ≤ w2.heap.size := by rw [hB]; exact hb2.size
              have hacl : ([] : List Mt).length ≤ 20 := by decide
              clear hB
              go_loopw [11, 50] (fun v vi wr => ∃ i : Nat, vi = .int .i64 i ∧ i ≤ N ∧ MOwn wr B v ([] ++ ((l.take i).filter fun (m : Mt) => Op.bytesLess m.1 k)) ∧ Hid (Below B w wr) ∧ B ≤ wr.heap.size) (fun _ vi _ => N - (intOf vi).toNat)
              case atStart => exact ⟨0, rfl, Nat.zero_le _, by simpa using hst, hbst, hszst⟩
              case round =>
                clear hst hbst hszst
                obtain ⟨i, rfl, hi, hown, hbw, hszr⟩ := hrel
                have hfl : ([] ++ ((l.take i).filter fun (m : Mt) => Op.bytesLess m.1 k)).length ≤ 40 := by
                  have h1 := List.length_filter_le (fun m : Mt => Op.bytesLess m.1 k) (l.take i)
                  have h2 : (l.take i).length ≤ 16 := by simp; omega
                  have h3 : ([] : List Mt).length ≤ 20 := hacl
                  rw [List.length_append]
                  omega
                obtain ⟨acc, hacc⟩ : ∃ acc : List Mt, acc = [] ++ ((l.take i).filter fun (m : Mt) => Op.bytesLess m.1 k) := ⟨_, rfl⟩
                rw [← hacc] at hown hfl
                obtain ⟨x11, c11, rfl⟩ := mown_shape hown
                have HACC := Lib.hid hacc
                clear hacc
                by_cases hlt : i < N
                · have hd : decide ((i : Int) < (N : Int)) = true := by simp; omega
                  have hlt' : i < l.length := by have := HN.out; omega
                  obtain ⟨mk, mv, hm⟩ : ∃ mk mv, l[i] = (mk, mv) := ⟨_, _, rfl⟩
                  have hrw := hr.out.below (by rw [← HB.out]; exact hbw.out)
                  obtain ⟨x', c', hv, -, -, -, hcl0⟩ := hrw
                  cases hv
                  obtain ⟨b, off, hbo, hcl⟩ := hcl0 (by rintro rfl; simp at hlt')
                  obtain ⟨q1, q2⟩ := hcl i hlt'
                  have HS : Hid (l.take (i + 1) = l.take i ++ [(mk, mv)]) := by show _ = _; rw [List.take_succ_eq_append_getElem hlt', hm]
                  rw [hm] at q1 q2
                  simp only at q1 q2
                  clear hm hcl hcl0
                  subst hbo
                  cases hb : Op.bytesLess mk k with
                  | true =>
                    go_wp2_with (at_builtin; refine wpList_app el_meta hown hszr rfl rfl rfl (m := 0) rfl (by simp [Value.oneCell']) rfl (by omega) (by unfold maxLen; omega) ?_)
                    intro r2 cap2 w4 ho2 hg2 _
                    have hown2 := mown_more ho2 [(mk, mv)] rfl rfl
                    obtain ⟨hbel2, hsz2⟩ := below_app hbw.out hszr hown hg2
                    clear ho2 hg2 hown q1 q2
                    go_wp2_with fail
                    go_roundw
                    case rel =>
                      refine ⟨i + 1, by go_num, by omega, ?_, hbel2, hsz2⟩
                      rw [HS.out, List.filter_append, List.filter_cons_of_pos (by exact hb), List.filter_nil, ← List.append_assoc, ← HACC.out]
                      exact hown2
                    case measure => simp [intOf]; omega
                  | false =>
                    skip
                    all_goals
                      go_wp2_with fail
                      refine ⟨⟨i + 1, by go_num, by omega, ?_, hbw, hszr⟩, by simp [intOf]; omega⟩
                      rw [HS.out, List.filter_append, List.filter_cons_of_neg (by rw [hb]; decide), List.filter_nil, List.append_nil, ← HACC.out]
                      exact hown
                · have hd : decide ((i : Int) < (N : Int)) = false := by simp; omega
                  have HALL : Hid (acc = [] ++ (l.filter fun (m : Mt) => Op.bytesLess m.1 k)) := by show _ = _; rw [HACC.out, List.take_of_length_le (by rw [HN.out]; omega)]
                  clear HACC
                  go_wp2_with (at_builtin; refine wpList_app el_meta hown hszr rfl rfl rfl (m := 0) rfl (by simp [Value.oneCell']) rfl (by omega) (by unfold maxLen; omega) ?_)
                  intro r2 cap2 w4 ho2 hg2 _
                  have hst := mown_more ho2 [(k, val)] rfl rfl
                  obtain ⟨hbel2, hszst⟩ := below_app hbw.out hszr hown hg2
                  have hbst := Lib.hid hbel2
                  clear ho2 hg2 hown hbel2 hbw hszr
                  go_wp2_with fail
                  obtain ⟨a1, ha1⟩ : ∃ a1 : List Mt, a1 = acc ++ [(k, val)] := ⟨_, rfl⟩
                  have HA1 : Hid (a1 = (l.filter fun m => Op.bytesLess m.1 k) ++ [(k, val)]) := by show _ = _; rw [ha1, HALL.out]; simp
                  rw [← ha1] at hst
                  have hacl : a1.length ≤ 20 := by
                    have h1 := List.length_filter_le (fun m : Mt => Op.bytesLess m.1 k) l
                    have h2 := HN.out
                    rw [HA1.out]
                    simp
                    omega
                  clear ha1 HALL hfl hi hlt hd
                  go_loopw [11, 78] (fun v vi wr => ∃ i : Nat, vi = .int .i64 i ∧ i ≤ N ∧ MOwn wr B v (a1 ++ ((l.take i).filter fun (m : Mt) => Op.bytesLess k m.1)) ∧ Hid (Below B w wr) ∧ B ≤ wr.heap.size) (fun _ vi _ => N - (intOf vi).toNat)
                  case atStart => exact ⟨0, rfl, Nat.zero_le _, by simpa using hst, hbst, hszst⟩
                  case round =>
                    clear hst hbst hszst
                    obtain ⟨i, rfl, hi, hown, hbw, hszr⟩ := hrel
                    have hfl : (a1 ++ ((l.take i).filter fun (m : Mt) => Op.bytesLess k m.1)).length ≤ 40 := by
                      have h1 := List.length_filter_le (fun m : Mt => Op.bytesLess k m.1) (l.take i)
                      have h2 : (l.take i).length ≤ 16 := by simp; omega
                      have h3 : (a1 : List Mt).length ≤ 20 := hacl
                      rw [List.length_append]
                      omega
                    obtain ⟨acc, hacc⟩ : ∃ acc : List Mt, acc = a1 ++ ((l.take i).filter fun (m : Mt) => Op.bytesLess k m.1) := ⟨_, rfl⟩
                    rw [← hacc] at hown hfl
                    obtain ⟨x11, c11, rfl⟩ := mown_shape hown
                    have HACC := Lib.hid hacc
                    clear hacc
                    by_cases hlt : i < N
                    · have hd : decide ((i : Int) < (N : Int)) = true := by simp; omega
                      have hlt' : i < l.length := by have := HN.out; omega
                      obtain ⟨mk, mv, hm⟩ : ∃ mk mv, l[i] = (mk, mv) := ⟨_, _, rfl⟩
                      have hrw := hr.out.below (by rw [← HB.out]; exact hbw.out)
                      obtain ⟨x', c', hv, -, -, -, hcl0⟩ := hrw
                      cases hv
                      obtain ⟨b, off, hbo, hcl⟩ := hcl0 (by rintro rfl; simp at hlt')
                      obtain ⟨q1, q2⟩ := hcl i hlt'
                      have HS : Hid (l.take (i + 1) = l.take i ++ [(mk, mv)]) := by show _ = _; rw [List.take_succ_eq_append_getElem hlt', hm]
                      rw [hm] at q1 q2
                      simp only at q1 q2
                      clear hm hcl hcl0
                      subst hbo
                      cases hb : Op.bytesLess k mk with
                      | true =>
                        have hb1 : Op.bytesLess mk k = false := less_asymm _ _ hb
                        have hb2 : (mk == k) = false := by rw [beq_eq_false_iff_ne]; rintro rfl; rw [less_irrefl] at hb; cases hb
                        go_wp2_with (at_builtin; refine wpList_app el_meta hown hszr rfl rfl rfl (m := 0) rfl (by simp [Value.oneCell']) rfl (by omega) (by unfold maxLen; omega) ?_)
                        intro r2 cap2 w4 ho2 hg2 _
                        have hown2 := mown_more ho2 [(mk, mv)] rfl rfl
                        obtain ⟨hbel2, hsz2⟩ := below_app hbw.out hszr hown hg2
                        clear ho2 hg2 hown q1 q2
                        go_wp2_with fail
                        go_roundw
                        case rel =>
                          refine ⟨i + 1, by go_num, by omega, ?_, hbel2, hsz2⟩
                          rw [HS.out, List.filter_append, List.filter_cons_of_pos (by exact hb), List.filter_nil, ← List.append_assoc, ← HACC.out]
                          exact hown2
                        case measure => simp [intOf]; omega
                      | false =>
                        have hb12 : Op.bytesLess mk k = true ∨ Op.bytesLess mk k = false ∧ (mk == k) = true := by
                          cases h1 : Op.bytesLess mk k with
                          | true => exact .inl rfl
                          | false =>
                            refine .inr ⟨rfl, ?_⟩
                            by_cases h2 : mk = k
                            · simp [h2]
                            · have := less_total _ _ h1 h2; rw [hb] at this; cases this
                        rcases hb12 with hb1 | ⟨hb1, hb2⟩
                        all_goals
                          go_wp2_with fail
                          refine ⟨⟨i + 1, by go_num, by omega, ?_, hbw, hszr⟩, by simp [intOf]; omega⟩
                          rw [HS.out, List.filter_append, List.filter_cons_of_neg (by rw [hb]; decide), List.filter_nil, List.append_nil, ← HACC.out]
                          exact hown
                    · have hd : decide ((i : Int) < (N : Int)) = false := by simp; omega
                      have HALL : Hid (acc = a1 ++ (l.filter fun (m : Mt) => Op.bytesLess k m.1)) := by show _ = _; rw [HACC.out, List.take_of_length_le (by rw [HN.out]; omega)]
                      clear HACC
                      go_wp2_with fail
                      go_ret2
                      refine ⟨⟨_, by rw [HE0.out]; rfl, ?_⟩, by rw [← HB.out]; exact hbw.out⟩
                      have hfin := hown.row
                      have el : setRes l k val = (l.filter fun m => Op.bytesLess m.1 k) ++ [(k, val)] ++ (l.filter fun m => Op.bytesLess k m.1) := by
                        unfold setRes setL
                        rw [if_pos HE0.out]
                        simp [HV0.out]
                      have el2 : setRes l k val = acc := by rw [el, HALL.out, HA1.out]
                      rw [el2]
                      exact hfin

          | some old =>
            have HE0 : Hid (setErr l k val = 0) := by show _ = _; rw [HE.out, hg]; simp
            clear HE hg
            simp only [optV, Option.getD_some, Option.isSome_some, Option.getD_none, Option.isSome_none]
            go_wp2_with fail
            refine (HIV.out _).mono ?_
            rintro e w3 ⟨rfl, rfl⟩
            have hl16 := HOK.out.1
            obtain ⟨N, hN⟩ : ∃ N, l.length = N := ⟨_, rfl⟩
            have hr := Lib.hid hr
            rw [hN] at hl16 hc1 ⊢
            have HN := Lib.hid hN
            clear hN
            go_wp2_with fail
            obtain ⟨B, hB⟩ : ∃ B, B = w.heap.size := ⟨_, rfl⟩
            have HB := Lib.hid hB
            have hst : MOwn w2 B (.slice none 0 0) [] := World.ownsRow_nil _ _ _ _
            have hbst : Hid (Below B w w2) := by rw [hB]; exact hb2
            have hszst : B ≤ w2.heap.size := by rw [hB]; exact hb2.size
            have hacl : ([] : List Mt).length ≤ 20 := by decide
            clear hB
            go_loopw [11, 50] (fun v vi wr => ∃ i : Nat, vi = .int .i64 i ∧ i ≤ N ∧ MOwn wr B v ([] ++ ((l.take i).filter fun (m : Mt) => Op.bytesLess m.1 k)) ∧ Hid (Below B w wr) ∧ B ≤ wr.heap.size) (fun _ vi _ => N - (intOf vi).toNat)
            case atStart => exact ⟨0, rfl, Nat.zero_le _, by simpa using hst, hbst, hszst⟩
            case round =>
              clear hst hbst hszst
              obtain ⟨i, rfl, hi, hown, hbw, hszr⟩ := hrel
              have hfl : ([] ++ ((l.take i).filter fun (m : Mt) => Op.bytesLess m.1 k)).length ≤ 40 := by
                have h1 := List.length_filter_le (fun m : Mt => Op.bytesLess m.1 k) (l.take i)
                have h2 : (l.take i).length ≤ 16 := by simp; omega
                have h3 : ([] : List Mt).length ≤ 20 := hacl
                rw [List.length_append]
                omega
              obtain ⟨acc, hacc⟩ : ∃ acc : List Mt, acc = [] ++ ((l.take i).filter fun (m : Mt) => Op.bytesLess m.1 k) := ⟨_, rfl⟩
              rw [← hacc] at hown hfl
              obtain ⟨x11, c11, rfl⟩ := mown_shape hown
              have HACC := Lib.hid hacc
              clear hacc
              by_cases hlt : i < N
              · have hd : decide ((i : Int) < (N : Int)) = true := by simp; omega
                have hlt' : i < l.length := by have := HN.out; omega
                obtain ⟨mk, mv, hm⟩ : ∃ mk mv, l[i] = (mk, mv) := ⟨_, _, rfl⟩
                have hrw := hr.out.below (by rw [← HB.out]; exact hbw.out)
                obtain ⟨x', c', hv, -, -, -, hcl0⟩ := hrw
                cases hv
                obtain ⟨b, off, hbo, hcl⟩ := hcl0 (by rintro rfl; simp at hlt')
                obtain ⟨q1, q2⟩ := hcl i hlt'
                have HS : Hid (l.take (i + 1) = l.take i ++ [(mk, mv)]) := by show _ = _; rw [List.take_succ_eq_append_getElem hlt', hm]
                rw [hm] at q1 q2
                simp only at q1 q2
                clear hm hcl hcl0
                subst hbo
                cases hb : Op.bytesLess mk k with
                | true =>
                  go_wp2_with (at_builtin; refine wpList_app el_meta hown hszr rfl rfl rfl (m := 0) rfl (by simp [Value.oneCell']) rfl (by omega) (by unfold maxLen; omega) ?_)
                  intro r2 cap2 w4 ho2 hg2 _
                  have hown2 := mown_more ho2 [(mk, mv)] rfl rfl
                  obtain ⟨hbel2, hsz2⟩ := below_app hbw.out hszr hown hg2
                  clear ho2 hg2 hown q1 q2
                  go_wp2_with fail
                  go_roundw
                  case rel =>
                    refine ⟨i + 1, by go_num, by omega, ?_, hbel2, hsz2⟩
                    rw [HS.out, List.filter_append, List.filter_cons_of_pos (by exact hb), List.filter_nil, ← List.append_assoc, ← HACC.out]
                    exact hown2
                  case measure => simp [intOf]; omega
                | false =>
                  skip
                  all_goals
                    go_wp2_with fail
                    refine ⟨⟨i + 1, by go_num, by omega, ?_, hbw, hszr⟩, by simp [intOf]; omega⟩
                    rw [HS.out, List.filter_append, List.filter_cons_of_neg (by rw [hb]; decide), List.filter_nil, List.append_nil, ← HACC.out]
                    exact hown
              · have hd : decide ((i : Int) < (N : Int)) = false := by simp; omega
                have HALL : Hid (acc = [] ++ (l.filter fun (m : Mt) => Op.bytesLess m.1 k)) := by show _ = _; rw [HACC.out, List.take_of_length_le (by rw [HN.out]; omega)]
                clear HACC
                go_wp2_with (at_builtin; refine wpList_app el_meta hown hszr rfl rfl rfl (m := 0) rfl (by simp [Value.oneCell']) rfl (by omega) (by unfold maxLen; omega) ?_)
                intro r2 cap2 w4 ho2 hg2 _
                have hst := mown_more ho2 [(k, val)] rfl rfl
                obtain ⟨hbel2, hszst⟩ := below_app hbw.out hszr hown hg2
                have hbst := Lib.hid hbel2
                clear ho2 hg2 hown hbel2 hbw hszr
                go_wp2_with fail
                obtain ⟨a1, ha1⟩ : ∃ a1 : List Mt, a1 = acc ++ [(k, val)] := ⟨_, rfl⟩
                have HA1 : Hid (a1 = (l.filter fun m => Op.bytesLess m.1 k) ++ [(k, val)]) := by show _ = _; rw [ha1, HALL.out]; simp
                rw [← ha1] at hst
                have hacl : a1.length ≤ 20 := by
                  have h1 := List.length_filter_le (fun m : Mt => Op.bytesLess m.1 k) l
                  have h2 := HN.out
                  rw [HA1.out]
                  simp
                  omega
                clear ha1 HALL hfl hi hlt hd
                go_loopw [11, 78] (fun v vi wr => ∃ i : Nat, vi = .int .i64 i ∧ i ≤ N ∧ MOwn wr B v (a1 ++ ((l.take i).filter fun (m : Mt) => Op.bytesLess k m.1)) ∧ Hid (Below B w wr) ∧ B ≤ wr.heap.size) (fun _ vi _ => N - (intOf vi).toNat)
                case atStart => exact ⟨0, rfl, Nat.zero_le _, by simpa using hst, hbst, hszst⟩
                case round =>
                  clear hst hbst hszst
                  obtain ⟨i, rfl, hi, hown, hbw, hszr⟩ := hrel
                  have hfl : (a1 ++ ((l.take i).filter fun (m : Mt) => Op.bytesLess k m.1)).length ≤ 40 := by
                    have h1 := List.length_filter_le (fun m : Mt => Op.bytesLess k m.1) (l.take i)
                    have h2 : (l.take i).length ≤ 16 := by simp; omega
                    have h3 : (a1 : List Mt).length ≤ 20 := hacl
                    rw [List.length_append]
                    omega
                  obtain ⟨acc, hacc⟩ : ∃ acc : List Mt, acc = a1 ++ ((l.take i).filter fun (m : Mt) => Op.bytesLess k m.1) := ⟨_, rfl⟩
                  rw [← hacc] at hown hfl
                  obtain ⟨x11, c11, rfl⟩ := mown_shape hown
                  have HACC := Lib.hid hacc
                  clear hacc
                  by_cases hlt : i < N
                  · have hd : decide ((i : Int) < (N : Int)) = true := by simp; omega
                    have hlt' : i < l.length := by have := HN.out; omega
                    obtain ⟨mk, mv, hm⟩ : ∃ mk mv, l[i] = (mk, mv) := ⟨_, _, rfl⟩
                    have hrw := hr.out.below (by rw [← HB.out]; exact hbw.out)
                    obtain ⟨x', c', hv, -, -, -, hcl0⟩ := hrw
                    cases hv
                    obtain ⟨b, off, hbo, hcl⟩ := hcl0 (by rintro rfl; simp at hlt')
                    obtain ⟨q1, q2⟩ := hcl i hlt'
                    have HS : Hid (l.take (i + 1) = l.take i ++ [(mk, mv)]) := by show _ = _; rw [List.take_succ_eq_append_getElem hlt', hm]
                    rw [hm] at q1 q2
                    simp only at q1 q2
                    clear hm hcl hcl0
                    subst hbo
                    cases hb : Op.bytesLess k mk with
                    | true =>
                      have hb1 : Op.bytesLess mk k = false := less_asymm _ _ hb
                      have hb2 : (mk == k) = false := by rw [beq_eq_false_iff_ne]; rintro rfl; rw [less_irrefl] at hb; cases hb
                      go_wp2_with (at_builtin; refine wpList_app el_meta hown hszr rfl rfl rfl (m := 0) rfl (by simp [Value.oneCell']) rfl (by omega) (by unfold maxLen; omega) ?_)
                      intro r2 cap2 w4 ho2 hg2 _
                      have hown2 := mown_more ho2 [(mk, mv)] rfl rfl
                      obtain ⟨hbel2, hsz2⟩ := below_app hbw.out hszr hown hg2
                      clear ho2 hg2 hown q1 q2
                      go_wp2_with fail
                      go_roundw
                      case rel =>
                        refine ⟨i + 1, by go_num, by omega, ?_, hbel2, hsz2⟩
                        rw [HS.out, List.filter_append, List.filter_cons_of_pos (by exact hb), List.filter_nil, ← List.append_assoc, ← HACC.out]
                        exact hown2
                      case measure => simp [intOf]; omega
                    | false =>
                      have hb12 : Op.bytesLess mk k = true ∨ Op.bytesLess mk k = false ∧ (mk == k) = true := by
                        cases h1 : Op.bytesLess mk k with
                        | true => exact .inl rfl
                        | false =>
                          refine .inr ⟨rfl, ?_⟩
                          by_cases h2 : mk = k
                          · simp [h2]
                          · have := less_total _ _ h1 h2; rw [hb] at this; cases this
                      rcases hb12 with hb1 | ⟨hb1, hb2⟩
                      all_goals
                        go_wp2_with fail
                        refine ⟨⟨i + 1, by go_num, by omega, ?_, hbw, hszr⟩, by simp [intOf]; omega⟩
                        rw [HS.out, List.filter_append, List.filter_cons_of_neg (by rw [hb]; decide), List.filter_nil, List.append_nil, ← HACC.out]
                        exact hown
                  · have hd : decide ((i : Int) < (N : Int)) = false := by simp; omega
                    have HALL : Hid (acc = a1 ++ (l.filter fun (m : Mt) => Op.bytesLess k m.1)) := by show _ = _; rw [HACC.out, List.take_of_length_le (by rw [HN.out]; omega)]
                    clear HACC
                    go_wp2_with fail
                    go_ret2
                    refine ⟨⟨_, by rw [HE0.out]; rfl, ?_⟩, by rw [← HB.out]; exact hbw.out⟩
                    have hfin := hown.row
                    have el : setRes l k val = (l.filter fun m => Op.bytesLess m.1 k) ++ [(k, val)] ++ (l.filter fun m => Op.bytesLess k m.1) := by
                      unfold setRes setL
                      rw [if_pos HE0.out]
                      simp [HV0.out]
                    have el2 : setRes l k val = acc := by rw [el, HALL.out, HA1.out]
                    rw [el2]
                    exact hfin

  · have HE2 : Hid (setErr l k val = ch) := by show _ = _; rw [HE.out, if_pos hch]
    have hne0 : ((ch : Int) != 0) = true := by simp; omega
    go_wp2_with fail
    go_ret2
    exact ⟨setOk_err HE2.out hch, hb2⟩
end Go.Proofs.Ytggogfjfkimcgaa
