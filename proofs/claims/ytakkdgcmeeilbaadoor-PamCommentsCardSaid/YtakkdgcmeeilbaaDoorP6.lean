/-
  Walks: addEntry, in the program.
-/
import Derived.Test.YtakkdgcmeeilbaaDoorP5
namespace Go.Proofs.YtakkdgcmeeilbaaDoor
open Go.RowKit

/-- The entry of a comment line. -/
def entL (line : List UInt8) : Option Mt :=
  if begP [35, 32] line = false then none
  else if fnd 32 (line.drop 2) < (line.drop 2).length then
    if isK ((line.drop 2).take (fnd 32 (line.drop 2))) = false then none
    else if isV ((line.drop 2).drop (fnd 32 (line.drop 2) + 1)) = false then none
    else some ((line.drop 2).take (fnd 32 (line.drop 2)), (line.drop 2).drop (fnd 32 (line.drop 2) + 1))
  else none
/-- Metadata with an entry more, if it is a new one. -/
def addP (l : List Mt) (line : List UInt8) : List Mt :=
  match entL line with
  | none => l
  | some m => if anyK l m.1 = true ∨ 16 ≤ l.length then l else l ++ [m]
theorem addP_le (l : List Mt) (line : List UInt8) (h : l.length ≤ 16) : (addP l line).length ≤ 16 := by
  unfold addP
  split
  · exact h
  · split
    · exact h
    · simp; omega
theorem ba_len (l : List UInt8) : (ByteArray.mk l.toArray).size = l.length := by simp [ByteArray.size]

set_option maxHeartbeats 2000000 in
set_option maxRecDepth 100000 in
theorem addEntry_any (v : Value) (l : List Mt) (B : Nat) (s : ByteArray) (w : World) (ho : MOwn w B v l) (hB : B ≤ w.heap.size) (hl : l.length ≤ 16) (hs : s.size ≤ maxLen) :
    Calls Tryd.prog 49 #[v, .string s] w fun e w' => ∃ v', e = .returned v' ∧ MOwn w' B v' (addP l s.data.toList) ∧ Fr B [44] w w' := by
  have HA : Hid (addP l s.data.toList = match entL s.data.toList with | none => l | some m => if anyK l m.1 = true ∨ 16 ≤ l.length then l else l ++ [m]) := rfl
  have HCP := Lib.hid (fun w => cutPrefix_any s ⟨#[35, 32]⟩ w)
  have HCV : Hid (∀ b, begP [35, 32] s.data.toList = b → cpV (ByteArray.mk #[35, 32]).data.toList s.data.toList = if b = true then .tuple #[.string ⟨(s.data.toList.drop 2).toArray⟩, .bool true] else .tuple #[.string s, .bool false]) := by
    intro b hb; subst hb; rfl
  have HE : Hid (entL s.data.toList = if begP [35, 32] s.data.toList = false then none
    else if fnd 32 (s.data.toList.drop 2) < (s.data.toList.drop 2).length then
      if isK ((s.data.toList.drop 2).take (fnd 32 (s.data.toList.drop 2))) = false then none
      else if isV ((s.data.toList.drop 2).drop (fnd 32 (s.data.toList.drop 2) + 1)) = false then none
      else some ((s.data.toList.drop 2).take (fnd 32 (s.data.toList.drop 2)), (s.data.toList.drop 2).drop (fnd 32 (s.data.toList.drop 2) + 1))
    else none) := rfl
  have HO := Lib.hid ho
  have hr := Lib.hid ho.row
  clear ho
  cases hbp : begP [35, 32] s.data.toList with
  | false =>
    have HN : Hid (addP l s.data.toList = l) := by show _ = _; rw [HA.out, HE.out, if_pos hbp]
    have HCUT := Lib.hid (fun w => cutS_any s 32 w hs)
    unfold cutV at HCUT
    have hcv := HCV.out _ hbp
    clear hbp
    rw [hcv] at HCP
    clear hcv
    generalize s.data.toList.take (fnd 32 s.data.toList) = a1 at *
    generalize s.data.toList.drop (fnd 32 s.data.toList + 1) = a2 at *
    generalize decide (fnd 32 s.data.toList < s.data.toList.length) = b2 at *
    go_enter Tryd.func49, Tryd.ntmps49
    go_wp2_with fail
    refine (HCP.out _).mono ?_
    rintro e w1 ⟨rfl, rfl⟩
    go_wp2_with fail
    refine (HCUT.out _).mono ?_
    rintro e w2 ⟨rfl, n, rfl⟩
    have HO2 : Hid (MOwn (w.drewN n) B v l) := HO.out
    have HF2 : Hid (Fr B [44] w (w.drewN n)) := (Fr.refl B _ w).drewN n
    generalize w.drewN n = w2 at *
    go_wp2_with fail
    go_ret
    refine ⟨v, rfl, ?_, ?_⟩
    · rw [HN.out]; exact World.ownsRow.alloc HO2.out _
    · exact HF2.out.alloc _
  | true =>
    have HEb := HE.out
    rw [hbp] at HEb
    have HE2 := Lib.hid HEb
    have hcv := HCV.out _ hbp
    clear hbp HEb HE
    rw [hcv] at HCP
    clear hcv HCV
    obtain ⟨T, hT⟩ : ∃ T : ByteArray, T = ⟨(s.data.toList.drop 2).toArray⟩ := ⟨_, rfl⟩
    have HTL : Hid (T.data.toList = s.data.toList.drop 2) := by show _ = _; rw [hT]
    have hTs : T.size ≤ maxLen := by rw [hT, ba_len, List.length_drop, ba_size]; omega
    rw [← hT] at HCP
    rw [← HTL.out] at HE2
    have HCUT := Lib.hid (fun w => cutS_any T 32 w hTs)
    unfold cutV at HCUT
    clear hT HTL
    have HLE : Hid ((T.data.toList.take (fnd 32 T.data.toList)).length ≤ maxLen ∧ (T.data.toList.drop (fnd 32 T.data.toList + 1)).length ≤ maxLen) := by
      show _ ∧ _
      rw [List.length_take, List.length_drop, ba_size]; omega
    generalize T.data.toList.take (fnd 32 T.data.toList) = a1 at *
    generalize T.data.toList.drop (fnd 32 T.data.toList + 1) = a2 at *
    obtain ⟨b2, hb2⟩ : ∃ b, decide (fnd 32 T.data.toList < T.data.toList.length) = b := ⟨_, rfl⟩
    rw [hb2] at HCUT
    have HK := Lib.hid (fun w => within_any ⟨a1.toArray⟩ 32 33 w (by rw [ba_len]; exact HLE.out.1) (by decide) (by decide))
    have HV := Lib.hid (fun w => within_any ⟨a2.toArray⟩ 256 32 w (by rw [ba_len]; exact HLE.out.2) (by decide) (by decide))
    have HK' : Hid (∀ w, Calls Tryd.prog 66 #[.string ⟨a1.toArray⟩, .int .i64 32, .int .u8 33] w fun e w' => e = .returned (.bool (isK a1)) ∧ w = w') := fun w => HK.out w
    have HV' : Hid (∀ w, Calls Tryd.prog 66 #[.string ⟨a2.toArray⟩, .int .i64 256, .int .u8 32] w fun e w' => e = .returned (.bool (isV a2)) ∧ w = w') := fun w => HV.out w
    clear HK HV
    cases b2 with
    | false =>
      have HN : Hid (addP l s.data.toList = l) := by show _ = _; rw [HA.out, HE2.out, if_neg (by decide), if_neg (by simpa using hb2)]
      clear hb2
      go_enter Tryd.func49, Tryd.ntmps49
      go_wp2_with fail
      refine (HCP.out _).mono ?_
      rintro e w1 ⟨rfl, rfl⟩
      go_wp2_with fail
      refine (HCUT.out _).mono ?_
      rintro e w2 ⟨rfl, n, rfl⟩
      have HO2 : Hid (MOwn (w.drewN n) B v l) := HO.out
      have HF2 : Hid (Fr B [44] w (w.drewN n)) := (Fr.refl B _ w).drewN n
      generalize w.drewN n = w2 at *
      go_wp2_with fail
      go_ret
      refine ⟨v, rfl, ?_, ?_⟩
      · rw [HN.out]; exact World.ownsRow.alloc HO2.out _
      · exact HF2.out.alloc _
    | true =>
      have hE3 : entL s.data.toList = if isK a1 = false then none else if isV a2 = false then none else some (a1, a2) := by rw [HE2.out, if_neg (by decide), if_pos (by simpa using hb2)]
      have HE3 := Lib.hid hE3
      clear hE3 hb2 HE2
      go_enter Tryd.func49, Tryd.ntmps49
      go_wp2_with fail
      refine (HCP.out _).mono ?_
      rintro e w1 ⟨rfl, rfl⟩
      go_wp2_with fail
      refine (HCUT.out _).mono ?_
      rintro e w2 ⟨rfl, n, rfl⟩
      have HO2 : Hid (MOwn (w.drewN n) B v l) := HO.out
      have HF2 : Hid (Fr B [44] w (w.drewN n)) := (Fr.refl B _ w).drewN n
      have HS2 : Hid (B ≤ (w.drewN n).heap.size) := hB
      clear HO hr
      generalize w.drewN n = w2 at *
      have HO3 := Lib.hid (World.ownsRow.alloc HO2.out (.cells #[.string ⟨a1.toArray⟩] 9))
      have HF3 := Lib.hid (HF2.out.alloc (.cells #[.string ⟨a1.toArray⟩] 9))
      have HB3 := Lib.hid (Blk.new w2 9 #[.string ⟨a1.toArray⟩])
      have HS3 : Hid (B ≤ (w2.alloc (.cells #[.string ⟨a1.toArray⟩] 9)).heap.size) := by have := HS2.out; show _ ≤ _; simp; omega
      go_wp2_with fail
      refine (HK'.out _).mono ?_
      rintro e w3 ⟨rfl, rfl⟩
      clear HO2 HF2 HS2
      generalize w2.alloc (.cells #[.string ⟨a1.toArray⟩] 9) = wz at *
      generalize w2.heap.size = kb at *
      cases hk : isK a1 with
      | false =>
        have HN : Hid (addP l s.data.toList = l) := by show _ = _; rw [HA.out, HE3.out, hk]; rfl
        go_wp2_with fail
        go_ret
        exact ⟨v, rfl, by rw [HN.out]; exact HO3.out, HF3.out⟩
      | true =>
        go_wp2_with fail
        refine (HV'.out _).mono ?_
        rintro e w3 ⟨rfl, rfl⟩
        cases hv : isV a2 with
        | false =>
          have HN : Hid (addP l s.data.toList = l) := by show _ = _; rw [HA.out, HE3.out, hk, hv]; rfl
          go_wp2_with fail
          go_ret
          exact ⟨v, rfl, by rw [HN.out]; exact HO3.out, HF3.out⟩
        | true =>
          have HN : Hid (addP l s.data.toList = if anyK l a1 = true ∨ 16 ≤ l.length then l else l ++ [(a1, a2)]) := by show _ = _; rw [HA.out, HE3.out, hk, hv]; rfl
          have HCF := Lib.hid (containsFunc_any v l a1 kb wz (MOwn.row HO3.out) (HB3.out.cell 0) (by omega))
          clear hk hv HE3 HA HK' HV' HCP HCUT
          go_wp2_with fail
          refine HCF.out.mono ?_
          rintro e w4 ⟨rfl, hb4⟩
          have HO4 : Hid (MOwn w4 B v l) := (Fr.of_below (B := 0) hb4 []).owns HO3.out (by simp)
          have HF4 : Hid (Fr B [44] w w4) := HF3.out.trans (Fr.of_below hb4 _)
          have HB4 : Hid (Blk w4 kb 9 #[.string ⟨a1.toArray⟩]) := (Fr.of_below (B := 0) hb4 []).blk HB3.out (by simp)
          have HS4 : Hid (B ≤ w4.heap.size) := Nat.le_trans HS3.out hb4.size
          clear HO3 HF3 HB3 HS3 hb4
          obtain ⟨x, c, rfl, hc1, hc2, -⟩ := MOwn.row HO4.out
          cases hak : anyK l a1 with
          | true =>
            have HN2 : Hid (addP l s.data.toList = l) := by show _ = _; rw [HN.out, if_pos (.inl hak)]
            go_wp2_with fail
            go_ret
            exact ⟨_, rfl, by rw [HN2.out]; exact HO4.out, HF4.out⟩
          | false =>
            by_cases h16 : 16 ≤ l.length
            · have HN2 : Hid (addP l s.data.toList = l) := by show _ = _; rw [HN.out, if_pos (.inr h16)]
              have d16 : decide ((16 : Int) ≤ (l.length : Int)) = true := by simp; omega
              go_wp2_with fail
              go_ret
              exact ⟨_, rfl, by rw [HN2.out]; exact HO4.out, HF4.out⟩
            · have HN2 : Hid (addP l s.data.toList = l ++ [(a1, a2)]) := by show _ = _; rw [HN.out, if_neg (by rw [hak]; simp; omega)]
              have d16 : decide ((16 : Int) ≤ (l.length : Int)) = false := by simp; omega
              have hcell : w4.cell? ⟨kb, 0, none⟩ = some (.string ⟨a1.toArray⟩) := HB4.out.cell 0
              have hmax : maxLen = 9223372036854775807 := rfl
              clear hak hc1 hc2
              go_wp2_with (refine wpList_app (P := Tryd.prog) el_meta (hown := HO4.out) (by exact HS4.out) rfl rfl rfl (m := 0) (cs := #[.string ⟨a1.toArray⟩, .string ⟨a2.toArray⟩]) rfl (by intro u hu; simp at hu; rcases hu with rfl | rfl <;> rfl) rfl (by omega) (by omega) ?_)
              intro r cap w5 h5 hg5 _
              go_wp2_with fail
              go_ret
              refine ⟨_, rfl, ?_, ?_⟩
              · rw [HN2.out]
                exact mown_more h5 [(a1, a2)] rfl rfl
              · exact (HF4.out.alloc _).grown (World.ownsRow.alloc HO4.out _) (Nat.le_refl _) (by simp) hg5
end Go.Proofs.YtakkdgcmeeilbaaDoor
