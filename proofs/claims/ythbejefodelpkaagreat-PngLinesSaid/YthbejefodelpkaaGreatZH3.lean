/-
  The law PngLines.
-/
import Derived.Test.YthbejefodelpkaaGreatZO
namespace Go.Proofs.YthbejefodelpkaaGreat
open Go.RowKit
set_option maxRecDepth 100000

set_option maxHeartbeats 4000000 in
theorem lawLines (b : Int) (l a : ByteArray) (w : World) (hb : (Lit.int IntKind.u8 b).wf = true) (hl : l.size ≤ 140737488355328) (_ : a.size ≤ 140737488355328) :
    Calls Tryz.prog 8 #[.int .u8 b, .string l, .string a] w fun e w' => e = .returned (.bool true) ∧ Below w.heap.size w w' := by
  have hb2 : 0 ≤ b ∧ b ≤ 255 := by
    simp [Lit.wf] at hb
    have a1 : IntKind.u8.min = 0 := rfl
    have a2 : IntKind.u8.max = 255 := rfl
    omega
  obtain ⟨bn, rfl⟩ : ∃ n : Nat, b = (n : Int) := ⟨b.toNat, by omega⟩
  have hb3 : bn < 256 := by omega
  clear hb hb2
  have hw0 : IntKind.i64.wrap (bn : Int) = (bn : Int) := by rw [IntKind.wrap_i64]; omega
  obtain ⟨n, hn⟩ : ∃ n, 1 + bn % 8 = n := ⟨_, rfl⟩
  have hn8 : 1 ≤ n ∧ n ≤ 8 := by omega
  have hw2 : (1 : Int) + (bn : Int) % 8 = (n : Int) := by omega
  have HAW := Lib.hid (fun w => awake_any w)
  have HLE : Hid (l.data.toList.length = l.size) := by show _ = _; simp
  have HFI : Hid (∀ (k : Nat) (AB : ByteArray), k < 5 → AB.size = 0 ∨ AB.size = l.size → ∃ F : ByteArray, F.size = l.size ∧
      (∀ w, Calls Tryz.prog 18 #[.int .i64 (k : Int), .int .i64 (n : Int), .string l, .string AB] w fun e w' => e = .returned (.tuple #[.string F, .int .i64 0]) ∧ Below w.heap.size w w') ∧
      (∀ w, Calls Tryz.prog 20 #[.int .i64 (k : Int), .int .i64 (n : Int), .string F, .string AB] w fun e w' => e = .returned (.tuple #[.string l, .int .i64 0]) ∧ Below w.heap.size w w')) := by
    intro k AB hk hAB
    have hAl : AB.data.toList.length = AB.size := by simp
    have key : ∀ q : List UInt8, q.length = l.size → fchk (k : Int) (n : Int) q AB.data.toList = 0 := by
      intro q hq
      unfold fchk
      rw [if_neg (by omega), if_neg (by omega), if_neg]
      rintro ⟨h1, h2⟩
      rcases hAB with h | h
      · exact h1 (List.eq_nil_of_length_eq_zero (by omega))
      · omega
    have hfl : (filP (k : Int) n l.data.toList AB.data.toList).length = l.size := by rw [filP_len]; simp
    refine ⟨⟨(filP (k : Int) n l.data.toList AB.data.toList).toArray⟩, hfl, fun w => ?_, fun w => ?_⟩
    · have h := filter_any (k : Int) (n : Int) l AB w hl
      have h0 := key l.data.toList HLE.out
      rw [if_pos h0, h0, Int.toNat_natCast] at h
      exact h
    · have h := unfilter_any (k : Int) (n : Int) ⟨(filP (k : Int) n l.data.toList AB.data.toList).toArray⟩ AB w (by
        have : (⟨(filP (k : Int) n l.data.toList AB.data.toList).toArray⟩ : ByteArray).size = l.size := hfl
        omega)
      have h0 := key (filP (k : Int) n l.data.toList AB.data.toList) hfl
      change Calls _ _ _ _ fun e w' => e = .returned (.tuple #[.string (if fchk (k : Int) (n : Int) (filP (k : Int) n l.data.toList AB.data.toList) AB.data.toList = 0 then ⟨(unfP (k : Int) (n : Int).toNat (filP (k : Int) n l.data.toList AB.data.toList) AB.data.toList).toArray⟩ else ⟨#[]⟩), .int .i64 (fchk (k : Int) (n : Int) (filP (k : Int) n l.data.toList AB.data.toList) AB.data.toList : Nat)]) ∧ _ at h
      rw [if_pos h0, h0, Int.toNat_natCast, unf_filP _ _ hn8.1] at h
      exact h
  have el : (l.toList == l.toList) = true := by simp
  have HAB : Hid (∃ AB : ByteArray, (AB.size = 0 ∨ AB.size = l.size) ∧ (AB = a.extract 0 l.size ∧ l.size < a.size ∨ AB = ⟨#[]⟩ ∧ a.size < l.size ∨ AB = a ∧ a.size = l.size)) := by
    show ∃ _, _
    by_cases h1 : l.size < a.size
    · exact ⟨_, .inr (by simp; omega), .inl ⟨rfl, h1⟩⟩
    · by_cases h2 : a.size < l.size
      · exact ⟨_, .inl rfl, .inr (.inl ⟨rfl, h2⟩)⟩
      · exact ⟨_, .inr (by omega), .inr (.inr ⟨rfl, by omega⟩)⟩
  obtain ⟨AB, hAB, hcase⟩ := HAB.out
  have HFK := Lib.hid (fun k h => HFI.out k AB h hAB)
  clear HAB HFI HLE hn hAB
  go_enter Tryz.func8, Tryz.ntmps8
  rcases hcase with ⟨hA, hlt⟩ | ⟨hA, hlt⟩ | ⟨hA, hlt⟩
  · have d1 : decide ((l.size : Int) < (a.size : Int)) = true := by simp; omega
    have hle : l.size ≤ a.size := by omega
    have hs : (a.extract 0 l.size).size = l.size := by simp; omega
    have d2 : decide (((a.extract 0 l.size).size : Int) < (l.size : Int)) = false := by rw [hs]; simp
    go_wp2_with fail
    rw [← hA]
    clear hs d1 d2 hA hle hlt
    go_loopw [31] (fun vk wr => ∃ (k : Nat), vk = .int .i64 k ∧ k ≤ 5 ∧ Hid (Below w.heap.size w wr)) (fun vk _ => 5 - (intOf vk).toNat)
    case atStart => exact ⟨0, rfl, by decide, Below.refl _ _⟩
    case round =>
      obtain ⟨k, rfl, hk, hbw⟩ := hrel
      by_cases hk5 : k < 5
      · have hdk : decide ((k : Int) < 5) = true := by simp; omega
        obtain ⟨F, hFs, hF1, hF2⟩ := HFK.out k hk5
        have HF1 := Lib.hid hF1
        have HF2 := Lib.hid hF2
        clear hF1 hF2 hFs
        go_wp2_with fail
        refine (HF1.out _).mono ?_
        rintro e w1 ⟨rfl, hb1⟩
        have HB1 := Lib.hid (bthen hbw.out hb1)
        clear hb1
        go_wp2_with fail
        refine (HF2.out _).mono ?_
        rintro e w2 ⟨rfl, hb2⟩
        have HB2 := Lib.hid (bthen HB1.out hb2)
        clear hb2 HB1 hbw
        go_wp2_with fail
        go_roundw
        case rel => exact ⟨k + 1, by go_num, by omega, HB2⟩
        case measure => simp [intOf]; omega
      · have hdk : decide ((k : Int) < 5) = false := by simp; omega
        go_wp2_with fail
        refine (HAW.out _).mono ?_
        rintro e w1 ⟨rfl, hb1⟩
        have HB1 := Lib.hid (bthen hbw.out hb1)
        clear hb1
        go_wp2_with fail
        go_ret
        exact ⟨rfl, HB1.out⟩
  · have d1 : decide ((l.size : Int) < (a.size : Int)) = false := by simp; omega
    have d2 : decide ((a.size : Int) < (l.size : Int)) = true := by simp; omega
    have hn1 : ¬ l.size < a.size := by omega
    go_wp2_with fail
    rw [← hA]
    clear d1 d2 hA hlt hn1
    go_loopw [31] (fun vk wr => ∃ (k : Nat), vk = .int .i64 k ∧ k ≤ 5 ∧ Hid (Below w.heap.size w wr)) (fun vk _ => 5 - (intOf vk).toNat)
    case atStart => exact ⟨0, rfl, by decide, Below.refl _ _⟩
    case round =>
      obtain ⟨k, rfl, hk, hbw⟩ := hrel
      by_cases hk5 : k < 5
      · have hdk : decide ((k : Int) < 5) = true := by simp; omega
        obtain ⟨F, hFs, hF1, hF2⟩ := HFK.out k hk5
        have HF1 := Lib.hid hF1
        have HF2 := Lib.hid hF2
        clear hF1 hF2 hFs
        go_wp2_with fail
        refine (HF1.out _).mono ?_
        rintro e w1 ⟨rfl, hb1⟩
        have HB1 := Lib.hid (bthen hbw.out hb1)
        clear hb1
        go_wp2_with fail
        refine (HF2.out _).mono ?_
        rintro e w2 ⟨rfl, hb2⟩
        have HB2 := Lib.hid (bthen HB1.out hb2)
        clear hb2 HB1 hbw
        go_wp2_with fail
        go_roundw
        case rel => exact ⟨k + 1, by go_num, by omega, HB2⟩
        case measure => simp [intOf]; omega
      · have hdk : decide ((k : Int) < 5) = false := by simp; omega
        go_wp2_with fail
        refine (HAW.out _).mono ?_
        rintro e w1 ⟨rfl, hb1⟩
        have HB1 := Lib.hid (bthen hbw.out hb1)
        clear hb1
        go_wp2_with fail
        go_ret
        exact ⟨rfl, HB1.out⟩
  · have d1 : decide ((l.size : Int) < (a.size : Int)) = false := by simp; omega
    have d2 : decide ((a.size : Int) < (l.size : Int)) = false := by simp; omega
    go_wp2_with fail
    rw [← hA]
    clear d1 d2 hA hlt
    go_loopw [31] (fun vk wr => ∃ (k : Nat), vk = .int .i64 k ∧ k ≤ 5 ∧ Hid (Below w.heap.size w wr)) (fun vk _ => 5 - (intOf vk).toNat)
    case atStart => exact ⟨0, rfl, by decide, Below.refl _ _⟩
    case round =>
      obtain ⟨k, rfl, hk, hbw⟩ := hrel
      by_cases hk5 : k < 5
      · have hdk : decide ((k : Int) < 5) = true := by simp; omega
        obtain ⟨F, hFs, hF1, hF2⟩ := HFK.out k hk5
        have HF1 := Lib.hid hF1
        have HF2 := Lib.hid hF2
        clear hF1 hF2 hFs
        go_wp2_with fail
        refine (HF1.out _).mono ?_
        rintro e w1 ⟨rfl, hb1⟩
        have HB1 := Lib.hid (bthen hbw.out hb1)
        clear hb1
        go_wp2_with fail
        refine (HF2.out _).mono ?_
        rintro e w2 ⟨rfl, hb2⟩
        have HB2 := Lib.hid (bthen HB1.out hb2)
        clear hb2 HB1 hbw
        go_wp2_with fail
        go_roundw
        case rel => exact ⟨k + 1, by go_num, by omega, HB2⟩
        case measure => simp [intOf]; omega
      · have hdk : decide ((k : Int) < 5) = false := by simp; omega
        go_wp2_with fail
        refine (HAW.out _).mono ?_
        rintro e w1 ⟨rfl, hb1⟩
        have HB1 := Lib.hid (bthen hbw.out hb1)
        clear hb1
        go_wp2_with fail
        go_ret
        exact ⟨rfl, HB1.out⟩
end Go.Proofs.YthbejefodelpkaaGreat
