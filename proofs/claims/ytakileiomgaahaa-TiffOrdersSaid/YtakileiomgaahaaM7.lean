/-
  Walks: strings.Cut at one byte; the reference's find. The plain form of Parse.
-/
import Derived.Test.YtakileiomgaahaaM6
import Derived.Lib.Bytealg
namespace Go.Proofs.Ytakileiomgaahaa
open Go.RowKit

/-- How many bytes stand before the first c. -/
def fnd (c : UInt8) : List UInt8 → Nat
  | [] => 0
  | b :: l => if b = c then 0 else fnd c l + 1
theorem fnd_le (c : UInt8) (l : List UInt8) : fnd c l ≤ l.length := by
  induction l with
  | nil => simp [fnd]
  | cons b l ih => unfold fnd; split <;> simp <;> omega
theorem fnd_get (c : UInt8) (l : List UInt8) (h : fnd c l < l.length) : l[fnd c l] = c := by
  induction l with
  | nil => simp at h
  | cons b l ih =>
    unfold fnd at h ⊢
    split
    · rename_i hb; simp [hb]
    · rename_i hb
      rw [if_neg hb] at h
      simp only [List.getElem_cons_succ]
      exact ih (by simpa using h)
theorem fnd_before (c : UInt8) (l : List UInt8) (i : Nat) (h : i < fnd c l) (hl : i < l.length) : l[i] ≠ c := by
  induction l generalizing i with
  | nil => simp at hl
  | cons b l ih =>
    unfold fnd at h
    split at h
    · omega
    · rename_i hb
      cases i with
      | zero => simpa using hb
      | succ i => simpa using ih i (by omega) (by simpa using hl)
theorem fnd_index (c : UInt8) (l : List UInt8) : Lib.indexByte l c = if fnd c l < l.length then (fnd c l : Int) else -1 := by
  induction l with
  | nil => simp [Lib.indexByte, fnd]
  | cons b l ih =>
    by_cases hb : b = c
    · simp [hb, Lib.indexByte, fnd]
    · have e1 : fnd c (b :: l) = fnd c l + 1 := by simp [fnd, hb]
      have e2 : Lib.indexByte (b :: l) c = if (Lib.indexByte l c == -1) = true then -1 else Lib.indexByte l c + 1 := by
        have : (b == c) = false := by simpa using hb
        simp only [Lib.indexByte, this]
        rfl
      rw [e1, e2, ih, List.length_cons]
      by_cases h : fnd c l < l.length
      · have h' : fnd c l + 1 < l.length + 1 := by omega
        have hn : (((fnd c l : Nat) : Int) == -1) = false := by rw [beq_eq_false_iff_ne]; omega
        rw [if_pos h, if_pos h', hn]
        simp
      · have h' : ¬ fnd c l + 1 < l.length + 1 := by omega
        rw [if_neg h, if_neg h']
        rfl
theorem fnd_unique (c : UInt8) (l : List UInt8) (i : Nat) (hi : i ≤ l.length) (h1 : ∀ j (h : j < l.length), j < i → l[j] ≠ c) (h2 : ∀ h : i < l.length, l[i] = c) : fnd c l = i := by
  induction l generalizing i with
  | nil => simp at hi; simp [fnd, hi]
  | cons b l ih =>
    cases i with
    | zero =>
      have : b = c := h2 (by simp)
      simp [fnd, this]
    | succ i =>
      have hb : b ≠ c := h1 0 (by simp) (by omega)
      unfold fnd
      rw [if_neg hb, ih i (by simpa using hi) (fun j hj hji => by have := h1 (j + 1) (by simpa using hj) (by omega); simpa using this) (fun hi' => by have := h2 (by simpa using hi'); simpa using this)]

def cutV (u : List UInt8) (c : UInt8) : Value := .tuple #[.string ⟨(u.take (fnd c u)).toArray⟩, .string ⟨(u.drop (fnd c u + 1)).toArray⟩, .bool (decide (fnd c u < u.length))]

set_option maxHeartbeats 1000000 in
set_option maxRecDepth 100000 in
theorem indexByte_any (s : ByteArray) (c : Int) (w : World) :
    Calls Try.prog 108 #[.string s, .int .u8 c] w fun e w' => e = .returned (.int .i64 (Lib.indexByte s.data.toList c.toNat.toUInt8)) ∧ w' = w := by
  go_enter Try.func108, Try.ntmps108
  go_wp2
  rw [run_callFunc_extern Try.func112 (by kernel_rfl) (by kernel_rfl) (by kernel_rfl) (e := Extern.BytealgIndexByte.indexByte) (by kernel_rfl), Lib.run_indexByteString]
  simp only [Result.andThen]
  rw [Oper.upon_value]
  go_wp2
  go_ret
  exact ⟨rfl, rfl⟩

set_option maxHeartbeats 1000000 in
set_option maxRecDepth 100000 in
theorem index1_any (s : ByteArray) (c : UInt8) (w : World) :
    Calls Try.prog 105 #[.string s, .string ⟨#[c]⟩] w fun e w' => e = .returned (.int .i64 (Lib.indexByte s.data.toList c)) ∧ w' = w := by
  have hb := c.toNat_lt
  cases he : ([c] == s.toList) with
  | true =>
    have HS : Hid (Lib.indexByte s.data.toList c = 0) := by
      have : [c] = s.data.toList := by rw [← ByteArray.toList_eq]; exact eq_of_beq he
      show _ = _
      rw [← this]
      simp [Lib.indexByte]
    go_enter Try.func105, Try.ntmps105
    go_wp2_with fail
    go_ret
    exact ⟨by rw [HS.out]; rfl, rfl⟩
  | false =>
    go_enter Try.func105, Try.ntmps105
    go_wp2_with fail
    refine (indexByte_any _ _ _).mono ?_
    rintro e w1 ⟨rfl, rfl⟩
    go_wp2_with fail
    go_ret
    refine ⟨?_, rfl⟩
    simp
    rfl

set_option maxHeartbeats 1000000 in
set_option maxRecDepth 100000 in
theorem cut0_any (u : List UInt8) (c : UInt8) (w : World) (hu : u.length ≤ maxLen) :
    Calls Try.prog 95 #[.string ⟨u.toArray⟩, .string ⟨#[c]⟩] w fun e w' => e = .returned (cutV u c) ∧ ∃ n, w' = w.drewN n := by
  unfold maxLen at hu
  have hix := fun w => index1_any ⟨u.toArray⟩ c w
  have e1 : (ByteArray.mk u.toArray).data.toList = u := rfl
  rw [e1, fnd_index] at hix
  clear e1
  have hle := fnd_le c u
  have HV : Hid (cutV u c = .tuple #[.string ⟨(u.take (fnd c u)).toArray⟩, .string ⟨(u.drop (fnd c u + 1)).toArray⟩, .bool (decide (fnd c u < u.length))]) := rfl
  generalize fnd c u = p at *
  by_cases hp : p < u.length
  · rw [if_pos hp] at hix
    have HIX := Lib.hid hix
    clear hix
    obtain ⟨s, hs⟩ : ∃ s : ByteArray, s = ⟨u.toArray⟩ := ⟨_, rfl⟩
    have hss : s.size = u.length := by rw [hs]; simp [ByteArray.size]
    have x1 : Hid (s.extract 0 p = ⟨(u.take p).toArray⟩) := by show _ = _; rw [hs]; exact ByteArray.ext (by simp)
    have x2 : Hid (s.extract (p + 1) s.size = ⟨(u.drop (p + 1)).toArray⟩) := by show _ = _; rw [hss, hs]; exact ByteArray.ext (by simp; rw [List.take_of_length_le (by simp)])
    rw [← hs] at HIX ⊢
    have HSS := Lib.hid hss
    clear hs
    rw [← hss] at hp hu
    clear hss hle
    go_enter Try.func95, Try.ntmps95
    go_wp2_with fail
    refine (HIX.out _).mono ?_
    rintro e w1 ⟨rfl, rfl⟩
    have z1 : IntKind.i64.wrap ((p : Int) + 1) = (p : Int) + 1 := IntWalk.i64_in _ (by omega)
    have z2 : ((p : Int) + 1).toNat = p + 1 := by omega
    have z3 : (0 : Int) ≤ (p : Int) + 1 := by omega
    have z4 : (p : Int) + 1 ≤ (s.size : Int) := by omega
    have z5 : (p : Int) ≤ (s.size : Int) := by omega
    have z6 : (0 : Int) ≤ (p : Int) := by omega
    go_wp2_with fail
    go_quiet (fail)
    clear z1 z2 z3 z4 z5 z6
    go_wp2_with fail
    refine bodyPost_ret (v := .tuple #[.string (s.extract 0 p), .string (s.extract (p + 1) s.size), .bool true]) (by simp [results, Try.f95, go_sem]) rfl ⟨?_, _, rfl⟩
    rw [HV.out, x1.out, x2.out, decide_eq_true (by have := HSS.out; omega)]
  · rw [if_neg hp] at hix
    have HIX := Lib.hid hix
    clear hix
    go_enter Try.func95, Try.ntmps95
    go_wp2_with fail
    refine (HIX.out _).mono ?_
    rintro e w1 ⟨rfl, rfl⟩
    go_wp2_with fail
    refine bodyPost_ret (v := .tuple #[.string ⟨u.toArray⟩, .string ⟨#[]⟩, .bool false]) (by simp [results, Try.f95, go_sem]) rfl ⟨?_, 0, rfl⟩
    rw [HV.out, List.take_of_length_le (by omega), List.drop_of_length_le (by omega), decide_eq_false (by omega)]

set_option maxHeartbeats 1000000 in
set_option maxRecDepth 100000 in
theorem cut_any (u : List UInt8) (c : UInt8) (w : World) (hu : u.length ≤ maxLen) :
    Calls Try.prog 77 #[.string ⟨u.toArray⟩, .string ⟨#[c]⟩] w fun e w' => e = .returned (cutV u c) ∧ ∃ n, w' = w.drewN n := by
  have H := Lib.hid (fun w => cut0_any u c w hu)
  have HV : Hid (cutV u c = .tuple #[.string ⟨(u.take (fnd c u)).toArray⟩, .string ⟨(u.drop (fnd c u + 1)).toArray⟩, .bool (decide (fnd c u < u.length))]) := rfl
  generalize hb : decide (fnd c u < u.length) = b at *
  clear hb
  generalize u.take (fnd c u) = a1 at *
  generalize u.drop (fnd c u + 1) = a2 at *
  generalize cutV u c = V at *
  obtain rfl := HV.out
  clear HV
  go_enter Try.func77, Try.ntmps77
  go_wp2_with fail
  refine (H.out _).mono ?_
  rintro e w1 ⟨rfl, n, rfl⟩
  go_wp2_with fail
  refine bodyPost_ret (v := .tuple #[.string ⟨a1.toArray⟩, .string ⟨a2.toArray⟩, .bool b]) (by simp [results, Try.f77, go_sem]) rfl ⟨rfl, _, rfl⟩

theorem drop_at (s : ByteArray) (p : Nat) (h : p < s.size) : s.data.toList.drop p = s[p] :: s.data.toList.drop (p + 1) := by
  rw [List.drop_eq_getElem_cons (by simpa using h)]; rfl
set_option maxHeartbeats 1000000 in
set_option maxRecDepth 100000 in
theorem find_any (s : ByteArray) (p : Nat) (c : UInt8) (w : World) (hs : s.size ≤ maxLen) (hp : p ≤ s.size) :
    Calls Try.prog 79 #[.string s, .int .i64 p, .int .u8 (c.toNat : Int)] w fun e w' => e = .returned (.int .i64 ((p + fnd c (s.data.toList.drop p) : Nat) : Int)) ∧ w = w' := by
  unfold maxLen at hs
  obtain ⟨F, hF⟩ : ∃ F, F = p + fnd c (s.data.toList.drop p) := ⟨_, rfl⟩
  rw [← hF]
  have hb := c.toNat_lt
  have HF := Lib.hid hF
  clear hF
  go_enter Try.func79, Try.ntmps79
  go_wp2_with fail
  go_loop [1] (fun vi => ∃ i : Nat, vi = .int .i64 i ∧ i ≤ s.size ∧ Hid (F = i + fnd c (s.data.toList.drop i))) (fun vi => s.size - (intOf vi).toNat)
  case atStart => exact ⟨p, rfl, hp, HF⟩
  case round =>
    obtain ⟨i, rfl, hi, hf⟩ := hrel
    by_cases hlt : i < s.size
    · have hd : decide ((i : Int) < (s.size : Int)) = true := by simp; omega
      have hdr := drop_at s i hlt
      by_cases hc : s[i] = c
      · have e1 : (((s[i]).toNat : Int) != (c.toNat : Int)) = false := by rw [hc]; simp
        have HE : Hid (F = i) := by show _ = _; rw [hf.out, hdr, fnd, if_pos hc]; rfl
        clear hdr hc
        go_wp2_with fail
        go_ret
        exact ⟨by rw [HE.out]; rfl, rfl⟩
      · have e1 : (((s[i]).toNat : Int) != (c.toNat : Int)) = true := by
          have : (s[i]).toNat ≠ c.toNat := fun h => hc (UInt8.toNat_inj.1 h)
          simp; omega
        have HE : Hid (F = i + 1 + fnd c (s.data.toList.drop (i + 1))) := by show _ = _; rw [hf.out, hdr, fnd, if_neg hc]; omega
        clear hdr
        go_wp2_with fail
        go_round
        case rel => exact ⟨i + 1, by go_num, by omega, HE⟩
        case measure => simp [intOf]; omega
    · have hd : decide ((i : Int) < (s.size : Int)) = false := by simp; omega
      have HE : Hid (F = i) := by show _ = _; rw [hf.out, List.drop_of_length_le (by simp; omega)]; rfl
      go_wp2_with fail
      go_ret
      exact ⟨by rw [HE.out]; rfl, rfl⟩
end Go.Proofs.Ytakileiomgaahaa
