/-
  Plain law: texts and metadata are read back. The law MetaReturns.
-/
import Derived.Test.YtggogfjfkimcgaaM13
namespace Go.Proofs.Ytggogfjfkimcgaa
open Go.RowKit

theorem fnd_app (c : UInt8) (a b : List UInt8) (h : ∀ x ∈ a, x ≠ c) : fnd c (a ++ c :: b) = a.length := by
  induction a with
  | nil => simp [fnd]
  | cons x a ih =>
    simp only [List.cons_append, fnd, List.length_cons]
    rw [if_neg (h x (by simp)), ih fun y hy => h y (by simp [hy])]
theorem okTxt_mem {most lo : Nat} {s : List UInt8} (h : okTxt most lo s = true) (x : UInt8) (hx : x ∈ s) : lo ≤ x.toNat ∧ x.toNat ≤ 126 := by
  simp only [okTxt, Bool.and_eq_true, List.all_eq_true] at h
  have := h.2 x hx
  simpa [okC] using this
theorem line_parts (m : Mt) (u : List UInt8) (hk : isK m.1 = true) (hv : isV m.2 = true) :
    fnd 10 (lineP m ++ u) = m.1.length + 1 + m.2.length ∧ fnd 32 ((lineP m ++ u).take (fnd 10 (lineP m ++ u))) = m.1.length ∧ lineM (lineP m ++ u) = m ∧ (lineP m ++ u).drop (fnd 10 (lineP m ++ u) + 1) = u := by
  have e : lineP m ++ u = (m.1 ++ 32 :: m.2) ++ 10 :: u := by simp [lineP]
  have h10 : fnd 10 (lineP m ++ u) = (m.1 ++ 32 :: m.2).length := by
    rw [e]
    apply fnd_app
    intro x hx
    rcases List.mem_append.1 hx with hx | hx
    · have := okTxt_mem hk x hx
      rintro rfl; exact absurd this.1 (by decide)
    · rcases List.mem_cons.1 hx with rfl | hx
      · decide
      · have := okTxt_mem hv x hx
        rintro rfl; exact absurd this.1 (by decide)
  have ht : (lineP m ++ u).take (fnd 10 (lineP m ++ u)) = m.1 ++ 32 :: m.2 := by rw [h10, e, List.take_left]
  have h32 : fnd 32 (m.1 ++ 32 :: m.2) = m.1.length := fnd_app _ _ _ fun x hx => by
    have := okTxt_mem hk x hx
    rintro rfl; exact absurd this.1 (by decide)
  refine ⟨by rw [h10]; simp; omega, by rw [ht, h32], ?_, ?_⟩
  · unfold lineM
    rw [ht, h32, List.take_left]
    have : (m.1 ++ 32 :: m.2).drop (m.1.length + 1) = m.2 := by
      rw [show m.1 ++ 32 :: m.2 = (m.1 ++ [32]) ++ m.2 from by simp, show m.1.length + 1 = (m.1 ++ [32]).length from by simp, List.drop_left]
    rw [this]
  · rw [h10, e, show (m.1 ++ 32 :: m.2) ++ 10 :: u = (m.1 ++ 32 :: m.2 ++ [10]) ++ u from by simp, show (m.1 ++ 32 :: m.2).length + 1 = (m.1 ++ 32 :: m.2 ++ [10]).length from by simp; omega, List.drop_left]
theorem parGo_text (r acc : List Mt) (f : Nat) (h : Asc (acc ++ r)) (hl : (acc ++ r).length ≤ 16) (hf : r.length < f) : parGo f acc (textP r) = .ok (acc ++ r) := by
  induction r generalizing acc f with
  | nil =>
    obtain ⟨g, rfl⟩ : ∃ g, f = g + 1 := ⟨f - 1, by simp at hf; omega⟩
    show parGo (g + 1) acc [] = _
    rw [parGo_end, List.append_nil]
  | cons m r ih =>
    obtain ⟨g, rfl⟩ : ∃ g, f = g + 1 := ⟨f - 1, by omega⟩
    have hkv := asc_get _ h m (by simp)
    obtain ⟨p1, p2, p3, p4⟩ := line_parts m (textP r) hkv.1 hkv.2
    have e : textP (m :: r) = lineP m ++ textP r := rfl
    have hne : lineP m ++ textP r ≠ [] := by simp [lineP]
    have hlen : (lineP m ++ textP r).length = m.1.length + 1 + m.2.length + 1 + (textP r).length := by simp [lineP]; omega
    have hent : entP acc.getLast? (lineM (lineP m ++ textP r)) = 0 := by
      rw [p3]
      refine entP_zero.2 ⟨hkv.1, hkv.2, fun q hq => ?_⟩
      have hq' : q ∈ acc := List.mem_of_getLast? hq
      exact ((asc_append acc (m :: r)).1 h).2.2 q hq' m (by simp)
    rw [e, parGo_step hne (by simp at hl; omega) (by rw [p1] at p2 ⊢; omega) hent, p3, p4, ih (acc ++ [m]) g (by simpa using h) (by simpa using hl) (by simp at hf; omega)]
    simp
theorem parP_text (l : List Mt) (h : chkP l = 0) : parP (textP l) = .ok l := by
  obtain ⟨hl, ha⟩ := (chkP_zero l).1 h
  exact parGo_text l [] 18 ha hl (by omega)
theorem split_at (c : UInt8) (t : List UInt8) (h : fnd c t < t.length) : t = t.take (fnd c t) ++ c :: t.drop (fnd c t + 1) := by
  conv => lhs; rw [← List.take_append_drop (fnd c t) t, List.drop_eq_getElem_cons h, fnd_get c t h]
theorem text_line (u : List UInt8) (h1 : fnd 10 u < u.length) (h2 : fnd 32 (u.take (fnd 10 u)) < fnd 10 u) : lineP (lineM u) ++ u.drop (fnd 10 u + 1) = u := by
  have hl : (u.take (fnd 10 u)).length = fnd 10 u := by simp; omega
  have e1 := split_at 10 u h1
  have e2 := split_at 32 (u.take (fnd 10 u)) (by omega)
  have e3 : lineP (lineM u) = u.take (fnd 10 u) ++ [10] := by
    unfold lineP lineM
    simp only
    conv => rhs; rw [e2]
    simp
  rw [e3]
  conv => rhs; rw [e1]
  simp
theorem parGo_back (f : Nat) (acc : List Mt) (u : List UInt8) (l : List Mt) (hc : chkGo none acc = 0) (hl : acc.length ≤ 16) (h : parGo f acc u = .ok l) : ∃ r, l = acc ++ r ∧ textP r = u ∧ chkGo none l = 0 ∧ l.length ≤ 16 := by
  induction f generalizing acc u with
  | zero => cases h
  | succ f ih =>
    by_cases hu : u = []
    · subst hu
      rw [parGo_end] at h
      cases h
      exact ⟨[], by simp, rfl, hc, hl⟩
    by_cases hlim : 16 ≤ acc.length
    · rw [parGo_lim hu hlim] at h; cases h
    by_cases hf : fnd 10 u = u.length ∨ fnd 32 (u.take (fnd 10 u)) = fnd 10 u
    · rw [parGo_form hu hlim hf] at h; cases h
    by_cases he : entP acc.getLast? (lineM u) = 0
    · rw [parGo_step hu hlim hf he] at h
      have hf1 := fnd_le 10 u
      have hf2 := fnd_le 32 (u.take (fnd 10 u))
      have htl : (u.take (fnd 10 u)).length = fnd 10 u := by simp; omega
      rw [htl] at hf2
      obtain ⟨r, hr1, hr2, hr3, hr4⟩ := ih _ _ (by rw [chkGo_snoc _ _ _ hc, Option.or_none]; exact he) (by simp; omega) h
      refine ⟨lineM u :: r, by rw [hr1]; simp, ?_, hr3, hr4⟩
      show lineP (lineM u) ++ textP r = u
      rw [hr2]
      exact text_line u (by omega) (by omega)
    · rw [parGo_ent hu hlim hf he] at h; cases h
theorem parP_back (u : List UInt8) (l : List Mt) (h : parP u = .ok l) : chkP l = 0 ∧ textP l = u := by
  obtain ⟨r, rfl, h2, h3, h4⟩ := parGo_back _ _ _ _ rfl (by decide) h
  refine ⟨?_, h2⟩
  unfold chkP
  rw [if_neg (by omega)]
  exact h3
theorem parGo_err (f : Nat) (acc : List Mt) (u : List UInt8) (x : Nat × Nat) (hl : acc.length ≤ 16) (hf : 17 < f + acc.length) (h : parGo f acc u = .error x) : x.2 ≠ 0 ∧ 1 ≤ x.1 ∧ x.1 ≤ 17 := by
  induction f generalizing acc u with
  | zero => omega
  | succ f ih =>
    by_cases hu : u = []
    · subst hu
      rw [parGo_end] at h; cases h
    by_cases hlim : 16 ≤ acc.length
    · rw [parGo_lim hu hlim] at h; cases h
      exact ⟨(fun h => by cases h), by simp, by simp; omega⟩
    by_cases hff : fnd 10 u = u.length ∨ fnd 32 (u.take (fnd 10 u)) = fnd 10 u
    · rw [parGo_form hu hlim hff] at h; cases h
      exact ⟨(fun h => by cases h), by simp, by simp; omega⟩
    by_cases he : entP acc.getLast? (lineM u) = 0
    · rw [parGo_step hu hlim hff he] at h
      exact ih _ _ (by simp; omega) (by simp; omega) h
    · rw [parGo_ent hu hlim hff he] at h; cases h
      exact ⟨he, by simp, by simp; omega⟩

set_option maxRecDepth 100000 in
set_option maxHeartbeats 4000000 in
theorem lawReturns (v : Value) (s : ByteArray) (w : World) (hr : MArg w v) (hs : s.size ≤ maxLen) :
    Calls Try.prog 7 #[v, .string s] w fun e w' => e = .returned (.bool true) ∧ Below w.heap.size w w' := by
  obtain ⟨l, hr, -⟩ := hr
  obtain ⟨x, c, rfl, -⟩ := id hr
  obtain ⟨k, rfl, hk, -⟩ := strL s
  rw [← hk] at hs
  clear hk
  have htl : chkP l = 0 → (textP l).length ≤ maxLen := fun h => by
    obtain ⟨h1, h2⟩ := (chkP_zero l).1 h
    have := textP_len l (fun m hm => asc_get l h2 m hm)
    unfold maxLen; omega
  have hpt : chkP l = 0 → prtP l = textP l ∧ parP (textP l) = .ok l := fun h => ⟨by unfold prtP; rw [if_pos h], parP_text l h⟩
  have HTL := Lib.hid htl
  have HPT := Lib.hid hpt
  have HPR := Lib.hid (fun w h => print_any (.slice x l.length c) l w h)
  have HPA := Lib.hid (fun w => parse_any k w hs)
  clear htl hpt
  generalize prtP l = pt at *
  generalize chkP l = ch at *
  go_enter Try.func7, Try.ntmps7
  go_wp2_with fail
  refine (HPR.out _ hr).mono ?_
  rintro e w1 ⟨rfl, hb1⟩
  have hr1 := hr.below hb1
  clear HPR hr
  by_cases h0 : ch = 0
  · subst h0
    obtain ⟨rfl, hpl⟩ := HPT.out rfl
    have HPL := Lib.hid (fun w => parse_any (textP l) w (HTL.out rfl))
    rw [hpl] at HPL
    clear hpl HPT HTL
    generalize textP l = tx at *
    go_wp2_with fail
    refine (HPL.out _).mono ?_
    rintro e w2 ⟨hok, hb2⟩
    obtain ⟨v2, rfl, hr2⟩ := hok
    have hr12 := hr1.below hb2
    have hb12 := bthen hb1 hb2
    clear hr1 hb1 hb2 HPL
    obtain ⟨x2, c2, rfl, -⟩ := id hr2
    go_wp2_with fail
    refine (same_any _ _ l _ hr2 hr12).mono ?_
    rintro e w3 ⟨rfl, n3, rfl⟩
    have hbb := below_drewN hb12 n3
    clear hb12 hr2 hr12
    generalize w2.drewN n3 = w3 at *
    go_wp2_with fail
    refine (HPA.out _).mono ?_
    rintro e w5 ⟨hok, hb5⟩
    have hb15 := bthen hbb hb5
    clear hbb hb5 HPA
    cases hp : parP k with
    | error y =>
      have hy := parGo_err 18 [] k y (by decide) (by decide) hp
      rw [hp] at hok
      obtain rfl := hok
      clear hp
      have y1 : ((y.2 : Int) != 0) = true := by simp; omega
      have y2 : decide ((0 : Int) < (y.1 : Int)) = true := by simp; omega
      have y3 : decide ((y.1 : Int) ≤ 17) = true := by simp; omega
      have y4 : 0 < y.1 := by omega
      have y5 : y.1 ≤ 17 := by omega
      clear hy
      go_wp2_with fail
      refine (awake_any _).mono ?_
      rintro e w6 ⟨rfl, hb6⟩
      go_wp2_with fail
      go_ret
      exact ⟨rfl, bthen hb15 hb6⟩
    | ok L =>
      obtain ⟨hL1, hL2⟩ := parP_back k L hp
      rw [hp] at hok
      obtain ⟨v5, rfl, hr5⟩ := hok
      have hL3 : prtP L = k := by unfold prtP; rw [if_pos hL1, hL2]
      have HPL := Lib.hid (print_any _ L _ hr5)
      rw [hL1, hL3] at HPL
      obtain ⟨x5, c5, rfl, -⟩ := id hr5
      clear hp hL1 hL2 hL3 hr5
      go_wp2_with fail
      refine HPL.out.mono ?_
      rintro e w6 ⟨rfl, hb6⟩
      clear HPL
      go_wp2_with fail
      refine (awake_any _).mono ?_
      rintro e w7 ⟨rfl, hb7⟩
      go_wp2_with fail
      go_ret
      exact ⟨rfl, bthen (bthen hb15 hb6) hb7⟩
  · have d0 : ((ch : Int) == 0) = false := by simp; omega
    have hbb := hb1
    clear hb1 hr1 HPT HTL
    go_wp2_with fail
    refine (HPA.out _).mono ?_
    rintro e w5 ⟨hok, hb5⟩
    have hb15 := bthen hbb hb5
    clear hbb hb5 HPA
    cases hp : parP k with
    | error y =>
      have hy := parGo_err 18 [] k y (by decide) (by decide) hp
      rw [hp] at hok
      obtain rfl := hok
      clear hp
      have y1 : ((y.2 : Int) != 0) = true := by simp; omega
      have y2 : decide ((0 : Int) < (y.1 : Int)) = true := by simp; omega
      have y3 : decide ((y.1 : Int) ≤ 17) = true := by simp; omega
      have y4 : 0 < y.1 := by omega
      have y5 : y.1 ≤ 17 := by omega
      clear hy
      go_wp2_with fail
      refine (awake_any _).mono ?_
      rintro e w6 ⟨rfl, hb6⟩
      go_wp2_with fail
      go_ret
      exact ⟨rfl, bthen hb15 hb6⟩
    | ok L =>
      obtain ⟨hL1, hL2⟩ := parP_back k L hp
      rw [hp] at hok
      obtain ⟨v5, rfl, hr5⟩ := hok
      have hL3 : prtP L = k := by unfold prtP; rw [if_pos hL1, hL2]
      have HPL := Lib.hid (print_any _ L _ hr5)
      rw [hL1, hL3] at HPL
      obtain ⟨x5, c5, rfl, -⟩ := id hr5
      clear hp hL1 hL2 hL3 hr5
      go_wp2_with fail
      refine HPL.out.mono ?_
      rintro e w6 ⟨rfl, hb6⟩
      clear HPL
      go_wp2_with fail
      refine (awake_any _).mono ?_
      rintro e w7 ⟨rfl, hb7⟩
      go_wp2_with fail
      go_ret
      exact ⟨rfl, bthen (bthen hb15 hb6) hb7⟩
end Go.Proofs.Ytggogfjfkimcgaa
