/-
  Walks: spaces, in the reference of pam.
-/
import Derived.Test.YtakkdgcmeeilbaaP4
namespace Go.Proofs.Ytakkdgcmeeilbaa
open Go.RowKit

def SkR (l : List UInt8) (p : Nat) : Option (List UInt8) → Prop
  | some t => t = l.drop p
  | none => p < l.length ∧ l.getD p 0 = 35
/-- Where the reference's skip stands, from 'at' on. -/
def SkAt (l : List UInt8) (at0 p : Nat) : Prop := at0 ≤ p ∧ p ≤ l.length ∧ SkR l p (skipP (l.drop at0))
theorem drop_cons (s : ByteArray) (q : Nat) (h : q < s.size) : s.data.toList.drop q = s[q] :: s.data.toList.drop (q + 1) := by
  rw [List.drop_eq_getElem_cons (by simpa using h)]; rfl
theorem fnd_from (c : UInt8) (s : ByteArray) (q e : Nat) (hq : q ≤ e) (he : e ≤ s.size) (h1 : ∀ j (h : j < s.size), q ≤ j → j < e → s[j] ≠ c) (h2 : ∀ h : e < s.size, s[e] = c) : fnd c (s.data.toList.drop q) = e - q := by
  refine fnd_unique c _ (e - q) (by rw [List.length_drop, ba_size]; omega) ?_ ?_
  · intro j hj hlt
    rw [List.getElem_drop]
    rw [List.length_drop, ba_size] at hj
    exact h1 (q + j) (by omega) (by omega) (by omega)
  · intro hlt
    rw [List.length_drop, ba_size] at hlt
    rw [List.getElem_drop]
    have := h2 (by omega)
    have e1 : q + (e - q) = e := by omega
    simp only [e1]
    exact this
theorem byte_eqI (c : UInt8) (n : Nat) (hn : n < 256) : (((c.toNat : Int) == (n : Int)) = true) ↔ c = UInt8.ofNat n := by
  rw [beq_iff_eq]
  constructor
  · intro h
    apply UInt8.toNat_inj.1
    rw [UInt8.toNat_ofNat']; omega
  · rintro rfl
    rw [UInt8.toNat_ofNat']; omega

set_option maxHeartbeats 2000000 in
set_option maxRecDepth 100000 in
theorem rskip_any (s : ByteArray) (at0 : Nat) (w : World) (hs : s.size ≤ maxLen) (h0 : at0 ≤ s.size) : Calls Try.prog 29 #[.string s, .int .i64 at0] w fun e w' => (∃ p : Nat, e = .returned (.int .i64 p) ∧ SkAt s.data.toList at0 p) ∧ w = w' := by
  unfold maxLen at hs
  have HL := Lib.hid (ba_size s)
  obtain ⟨R, hR⟩ : ∃ R, skipP (s.data.toList.drop at0) = R := ⟨_, rfl⟩
  have HS : Hid (∀ p, at0 ≤ p → p ≤ s.size → SkR s.data.toList p R → SkAt s.data.toList at0 p) := by
    intro p h1 h2 h3
    exact ⟨h1, by rw [ba_size]; exact h2, by rw [hR]; exact h3⟩
  have HR := Lib.hid hR
  clear hR
  have HZ : Hid (at0 ≤ s.size) := h0
  clear h0
  go_enter Try.func29, Try.ntmps29
  go_wp2_with fail
  go_loop [1] (fun v1 => ∃ q : Nat, v1 = .int .i64 q ∧ q ≤ s.size ∧ Hid (at0 ≤ q) ∧ Hid (skipP (s.data.toList.drop q) = R)) (fun v1 => s.size - (intOf v1).toNat)
  case atStart => exact ⟨at0, rfl, HZ.out, Nat.le_refl _, HR⟩
  case round =>
    clear HR HZ
    obtain ⟨q, rfl, hq, haq, hch⟩ := hrel
    by_cases hlt : q < s.size
    · have hcl : decide ((q : Int) < (s.size : Int)) = true := by simp; omega
      have HDC := Lib.hid (drop_cons s q hlt)
      have HSP := Lib.hid (fun w => rspace_any s[q] w)
      have HC := Lib.hid (skipP_cons s[q] (s.data.toList.drop (q + 1)))
      obtain ⟨sp, hsp⟩ : ∃ b, spc s[q] = b := ⟨_, rfl⟩
      rw [hsp] at HSP
      have HSPC := Lib.hid hsp
      clear hsp
      go_wp2_with fail
      refine (HSP.out _).mono ?_
      rintro e w1 ⟨rfl, rfl⟩
      by_cases h35 : s[q] = 35
      · have d35 : (((s[q]).toNat : Int) == 35) = true := by rw [h35]; rfl
        have HNS : Hid (spc s[q] = false) := by show _ = _; rw [h35]; rfl
        have hsf : sp = false := by rw [← HSPC.out]; exact HNS.out
        subst hsf
        have HC2 : Hid (R = if fnd 10 (s.data.toList.drop (q + 1)) < (s.data.toList.drop (q + 1)).length then skipP ((s.data.toList.drop (q + 1)).drop (fnd 10 (s.data.toList.drop (q + 1)) + 1)) else none) := by
          show _ = _
          rw [← hch.out, HDC.out, HC.out, HNS.out, if_neg (by decide), if_pos h35]
        have H35 := Lib.hid h35
        clear h35 HSPC
        go_wp2_with fail
        go_loop [5] (fun v5 => ∃ e : Nat, v5 = .int .i64 e ∧ q ≤ e ∧ e ≤ s.size ∧ Hid (∀ j (h : j < s.size), q ≤ j → j < e → s[j] ≠ 10)) (fun v5 => s.size - (intOf v5).toNat)
        case atStart => exact ⟨q, rfl, Nat.le_refl _, by omega, fun j _ h1 h2 => by omega⟩
        case round =>
          obtain ⟨e, rfl, hqe, hes, hne⟩ := hrel
          by_cases helt : e < s.size
          · have hcle : decide ((e : Int) < (s.size : Int)) = true := by simp; omega
            by_cases h10 : s[e] = 10
            · have d10 : (((s[e]).toNat : Int) == 10) = true := by rw [h10]; rfl
              have hqne : q ≠ e := by
                rintro rfl
                rw [H35.out] at h10; revert h10; decide
              have HFND : Hid (fnd 10 (s.data.toList.drop (q + 1)) = e - (q + 1)) := fnd_from 10 s (q + 1) e (by omega) hes (fun j hj h1 h2 => hne.out j hj (by omega) h2) (fun _ => h10)
              have HN : Hid (skipP (s.data.toList.drop (e + 1)) = R) := by
                show _ = _
                rw [HC2.out, HFND.out, if_pos (by rw [List.length_drop, HL.out]; omega), List.drop_drop]
                congr 2; omega
              have e1 : ((e : Int) == (s.size : Int)) = false := by simp; omega
              clear h10
              go_wp2_with fail
              refine ⟨⟨e + 1, by go_num, by omega, by have := haq.out; show at0 ≤ e + 1; omega, HN⟩, ?_⟩
              simp [intOf]; omega
            · have d10 : (((s[e]).toNat : Int) == 10) = false := by
                rw [Bool.eq_false_iff]; intro h; exact h10 ((byte_eqI s[e] 10 (by decide)).1 h)
              go_wp2_with fail
              go_round
              case rel =>
                refine ⟨e + 1, by go_num, by omega, by omega, fun j hj h1 h2 => ?_⟩
                by_cases hje : j = e
                · subst hje; exact h10
                · exact hne.out j hj h1 (by omega)
              case measure => simp [intOf]; omega
          · have hcle : decide ((e : Int) < (s.size : Int)) = false := by simp; omega
            have hee : e = s.size := by omega
            have HFND : Hid (fnd 10 (s.data.toList.drop (q + 1)) = e - (q + 1)) := fnd_from 10 s (q + 1) e (by omega) hes (fun j hj h1 h2 => hne.out j hj (by omega) h2) (fun h => absurd h helt)
            have HN : Hid (R = none) := by
              show _ = _
              rw [HC2.out, HFND.out, if_neg (by rw [List.length_drop, HL.out]; omega)]
            have e1 : ((e : Int) == (s.size : Int)) = true := by rw [hee]; simp
            have HP := Lib.hid (HS.out q haq.out (by omega))
            have HGQ : Hid (s.data.toList.getD q 0 = 35) := by show _ = _; rw [← byte_at s q hlt]; exact H35.out
            have HLT := Lib.hid hlt
            go_wp2_with fail
            go_ret
            refine ⟨⟨q, rfl, HP.out ?_⟩, rfl⟩
            rw [HN.out]; exact ⟨by rw [HL.out]; exact HLT.out, HGQ.out⟩
      · have d35 : (((s[q]).toNat : Int) == 35) = false := by
          rw [Bool.eq_false_iff]; intro h; exact h35 ((byte_eqI s[q] 35 (by decide)).1 h)
        cases sp with
        | true =>
          have HN : Hid (skipP (s.data.toList.drop (q + 1)) = R) := by
            show _ = _
            rw [← hch.out, HDC.out, HC.out, HSPC.out, if_pos rfl]
          clear h35
          go_wp2_with fail
          go_round
          case rel => exact ⟨q + 1, by go_num, by omega, by have := haq.out; show at0 ≤ q + 1; omega, HN⟩
          case measure => simp [intOf]; omega
        | false =>
          have HN : Hid (R = some (s.data.toList.drop q)) := by
            show _ = _
            rw [← hch.out, HDC.out, HC.out, HSPC.out, if_neg (by decide), if_neg h35]
          clear h35
          have HP := Lib.hid (HS.out q haq.out (by omega))
          go_wp2_with fail
          go_ret
          refine ⟨⟨q, rfl, HP.out ?_⟩, rfl⟩
          rw [HN.out]; exact rfl
    · have hcl : decide ((q : Int) < (s.size : Int)) = false := by simp; omega
      have HN : Hid (R = some (s.data.toList.drop q)) := by
        show _ = _
        have hz : s.data.toList.drop q = [] := List.drop_of_length_le (by rw [HL.out]; omega)
        rw [← hch.out, hz]; rfl
      have HP := Lib.hid (HS.out q haq.out (by omega))
      go_wp2_with fail
      go_ret
      refine ⟨⟨q, rfl, HP.out ?_⟩, rfl⟩
      rw [HN.out]; exact rfl
end Go.Proofs.Ytakkdgcmeeilbaa
