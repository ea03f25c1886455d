/-
  Walks: spaces, in the program.
-/
import Derived.Test.YtakkdgcmeeilbaaDoorP2
namespace Go.Proofs.YtakkdgcmeeilbaaDoor
open Go.RowKit

theorem skipF_enough (f g : Nat) (l : List UInt8) (hf : l.length < f) (hg : l.length < g) : skipF f l = skipF g l := by
  induction f generalizing g l with
  | zero => omega
  | succ f ih =>
    cases g with
    | zero => omega
    | succ g =>
      cases l with
      | nil => rfl
      | cons c l =>
        simp only [List.length_cons] at hf hg
        unfold skipF
        rw [ih g l (by omega) (by omega), ih g (l.drop (fnd 10 l + 1)) (by simp; omega) (by simp; omega)]
theorem skipP_nil : skipP [] = some [] := rfl
theorem skipP_cons (c : UInt8) (l : List UInt8) : skipP (c :: l) = if spc c then skipP l else if c = 35 then (if fnd 10 l < l.length then skipP (l.drop (fnd 10 l + 1)) else none) else some (c :: l) := by
  show skipF (l.length + 1 + 1) (c :: l) = _
  rw [skipF]
  unfold skipP
  rw [skipF_enough (l.length + 1) ((l.drop (fnd 10 l + 1)).length + 1) (l.drop (fnd 10 l + 1)) (by simp; omega) (by omega)]
def skV : Option (List UInt8) → Value
  | none => .tuple #[.string ⟨#[]⟩, .bool false]
  | some t => .tuple #[.string ⟨t.toArray⟩, .bool true]
theorem cutS_any (s : ByteArray) (c : UInt8) (w : World) (hu : s.size ≤ maxLen) :
    Calls Tryd.prog 48 #[.string s, .string ⟨#[c]⟩] w fun e w' => e = .returned (cutV s.data.toList c) ∧ ∃ n, w' = w.drewN n :=
  cut_any s.data.toList c w (by simpa using hu)
theorem ba_tail (s : ByteArray) (c : UInt8) (l : List UInt8) (h : s.data.toList = c :: l) : (s.extract 1 s.size).data.toList = l := by
  rw [extract_list, List.take_of_length_le (by simp), h]; rfl
theorem ba_size (s : ByteArray) : s.data.toList.length = s.size := by simp
theorem ba_of (s : ByteArray) (l : List UInt8) (h : s.data.toList = l) : s = ⟨l.toArray⟩ := by
  subst h; rfl

set_option maxHeartbeats 1000000 in
set_option maxRecDepth 100000 in
theorem skipSpaces_any (t : ByteArray) (w : World) (ht : t.size ≤ maxLen) : Calls Tryd.prog 55 #[.string t] w fun e w' => e = .returned (skV (skipP t.data.toList)) ∧ ∃ n, w' = w.drewN n := by
  obtain ⟨R, hR⟩ : ∃ R, R = skipP t.data.toList := ⟨_, rfl⟩
  rw [← hR]
  have HR := Lib.hid hR
  clear hR
  go_enter Tryd.func55, Tryd.ntmps55
  go_wp2_with fail
  go_loopw [0] (fun v0 wr => ∃ s : ByteArray, v0 = .string s ∧ Hid (s.size ≤ maxLen) ∧ Hid (R = skipP s.data.toList) ∧ Hid (∃ n, wr = w.drewN n)) (fun v0 _ => strLen v0)
  case atStart => exact ⟨t, rfl, ht, HR, 0, rfl⟩
  case round =>
    clear HR
    obtain ⟨s, rfl, hs, hch, hbw⟩ := hrel
    cases hl : s.data.toList with
    | nil =>
      have q0 : s.toList.isEmpty = true := by rw [ByteArray.toList_eq, hl]; rfl
      have HE : Hid (R = some []) := by show _ = _; rw [hch.out, hl]; rfl
      have HS : Hid (s = ⟨#[]⟩) := ba_of s _ hl
      clear hl
      go_wp2_with fail
      refine bodyPost_ret (v := .tuple #[.string s, .bool true]) (by simp [results, Tryd.f55, go_sem]) rfl ⟨?_, hbw.out⟩
      rw [HE.out, HS.out]; rfl
    | cons c l =>
      have q0 : s.toList.isEmpty = false := by rw [ByteArray.toList_eq, hl]; rfl
      have hsz : s.size = l.length + 1 := by rw [← ba_size, hl]; rfl
      have hpos : 0 < s.size := by omega
      have h0 : s[0] = c := by rw [byte_at, hl]; rfl
      have HT := Lib.hid (ba_tail s c l hl)
      have HL := Lib.hid hl
      have HC := Lib.hid (skipP_cons c l)
      have HCUT := Lib.hid (fun w => cutS_any s 10 w hs.out)
      have H0 := Lib.hid h0
      have HSZ := Lib.hid hsz
      have HSP := Lib.hid (fun w => isSpace_any s[0] w)
      clear hl h0 hsz
      go_wp2_with fail
      refine (HSP.out _).mono ?_
      rintro e w1 ⟨rfl, rfl⟩
      cases hsp : spc s[0] with
      | true =>
        have i1 : (1 : Int) ≤ (s.size : Int) := by omega
        have HN : Hid (R = skipP (s.extract 1 s.size).data.toList) := by
          show _ = _
          rw [hch.out, HL.out, HC.out, if_pos (by rw [← H0.out]; exact hsp), HT.out]
        go_wp2_with fail
        go_roundw
        case rel => exact ⟨s.extract 1 s.size, rfl, by have := hs.out; show _ ≤ _; rw [ByteArray.size_extract]; omega, HN, hbw⟩
        case measure => simp only [strLen, ByteArray.size_extract]; omega
      | false =>
        by_cases h35 : s[0] = 35
        · have d35 : (((s[0]).toNat : Int) == 35) = true := by rw [h35]; rfl
          have hc : c = 35 := by rw [← H0.out]; exact h35
          have HF : Hid (fnd 10 s.data.toList = fnd 10 l + 1) := by show _ = _; rw [HL.out, hc]; rfl
          go_wp2_with fail
          refine (HCUT.out _).mono ?_
          rintro e w2 ⟨rfl, n, rfl⟩
          unfold cutV
          by_cases hf : fnd 10 l < l.length
          · have hd : decide (fnd 10 s.data.toList < s.data.toList.length) = true := by rw [HF.out, HL.out]; simp; omega
            rw [hd]
            have HN : Hid (R = skipP (s.data.toList.drop (fnd 10 s.data.toList + 1))) := by
              show _ = _
              rw [hch.out, HF.out, HL.out, HC.out, if_neg (by rw [← H0.out, hsp]; simp), if_pos hc, if_pos hf]; rfl
            have HLT : Hid ((s.data.toList.drop (fnd 10 s.data.toList + 1)).length < s.size) := by show _ < _; rw [List.length_drop, ba_size]; omega
            generalize s.data.toList.drop (fnd 10 s.data.toList + 1) = l2 at *
            generalize s.data.toList.take (fnd 10 s.data.toList) = l3 at *
            clear hd
            go_wp2_with fail
            go_roundw
            case rel =>
              refine ⟨⟨l2.toArray⟩, rfl, ?_, HN, ?_⟩
              · have h1 := HLT.out
                have h2 := hs.out
                show _ ≤ _
                have : (ByteArray.mk l2.toArray).size = l2.length := by simp [ByteArray.size]
                rw [this]; omega
              · obtain ⟨n0, hn0⟩ := hbw.out
                exact ⟨n0 + n, by rw [hn0]; simp [World.drewN]; omega⟩
            case measure =>
              have h1 := HLT.out
              have : (ByteArray.mk l2.toArray).size = l2.length := by simp [ByteArray.size]
              simp only [strLen, this]; omega
          · have hd : decide (fnd 10 s.data.toList < s.data.toList.length) = false := by rw [HF.out, HL.out]; simp; omega
            rw [hd]
            have HN : Hid (R = none) := by
              show _ = _
              rw [hch.out, HL.out, HC.out, if_neg (by rw [← H0.out, hsp]; simp), if_pos hc, if_neg hf]
            generalize s.data.toList.drop (fnd 10 s.data.toList + 1) = l2 at *
            generalize s.data.toList.take (fnd 10 s.data.toList) = l3 at *
            clear hd
            go_wp2_with fail
            refine bodyPost_ret (v := .tuple #[.string ⟨#[]⟩, .bool false]) (by simp [results, Tryd.f55, go_sem]) rfl ⟨?_, ?_⟩
            · rw [HN.out]; rfl
            · obtain ⟨n0, hn0⟩ := hbw.out
              exact ⟨n0 + n, by rw [hn0]; simp [World.drewN]; omega⟩
        · have d35 : (((s[0]).toNat : Int) == 35) = false := by
            rw [Bool.eq_false_iff]; intro h; apply h35; have h1 := beq_iff_eq.1 h; exact UInt8.toNat_inj.1 (by have : (35 : UInt8).toNat = 35 := rfl; omega)
          have HN : Hid (R = some s.data.toList) := by
            show _ = _
            rw [hch.out, HL.out, HC.out, if_neg (by rw [← H0.out, hsp]; simp), if_neg (by rw [← H0.out]; exact h35)]
          go_wp2_with fail
          refine bodyPost_ret (v := .tuple #[.string s, .bool true]) (by simp [results, Tryd.f55, go_sem]) rfl ⟨?_, hbw.out⟩
          rw [HN.out]; rfl
end Go.Proofs.YtakkdgcmeeilbaaDoor
