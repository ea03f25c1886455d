/-
  Walks: the text of metadata, in the program and in the reference.
-/
import Derived.Test.YtakileiomgaahaaM5
import Derived.Test.YtakileiomgaahaaBld
namespace Go.Proofs.Ytakileiomgaahaa
open Go.RowKit

def lineP (m : Mt) : List UInt8 := m.1 ++ [32] ++ m.2 ++ [10]
def textP (l : List Mt) : List UInt8 := l.flatMap lineP
def prtP (l : List Mt) : List UInt8 := if chkP l = 0 then textP l else []
theorem textP_snoc (l : List Mt) (m : Mt) : textP (l ++ [m]) = textP l ++ (m.1 ++ [32] ++ m.2 ++ [10]) := by simp [textP, lineP]
theorem asc_get (l : List Mt) (h : Asc l) (m : Mt) (hm : m ∈ l) : isK m.1 = true ∧ isV m.2 = true := by
  induction l with
  | nil => cases hm
  | cons x r ih =>
    rcases List.mem_cons.1 hm with rfl | hm
    · exact ⟨h.1, h.2.1⟩
    · exact ih h.2.2.2 hm
theorem okTxt_len {most lo : Nat} {s : List UInt8} (h : okTxt most lo s = true) : s.length ≤ most := by
  simp only [okTxt, Bool.and_eq_true, decide_eq_true_eq] at h
  exact h.1.2
theorem textP_len (l : List Mt) (h : ∀ m ∈ l, isK m.1 = true ∧ isV m.2 = true) : (textP l).length ≤ l.length * 290 := by
  induction l with
  | nil => simp [textP]
  | cons m r ih =>
    have h1 := ih fun x hx => h x (by simp [hx])
    have h2 := okTxt_len (h m (by simp)).1
    have h3 := okTxt_len (h m (by simp)).2
    have e : (textP (m :: r)).length = (lineP m).length + (textP r).length := by simp [textP]
    have e2 : (lineP m).length = m.1.length + m.2.length + 2 := by simp [lineP]; omega
    simp only [List.length_cons]
    omega

set_option maxRecDepth 100000 in
set_option maxHeartbeats 4000000 in
theorem print_any (v : Value) (l : List Mt) (w : World) (hr : MRow w v l) :
    Calls Try.prog 56 #[v] w fun e w' => e = .returned (.tuple #[.string ⟨(prtP l).toArray⟩, .int .i64 (chkP l)]) ∧ Below w.heap.size w w' := by
  have HP : Hid (prtP l = if chkP l = 0 then textP l else []) := rfl
  have hck := fun w h => check_any v l w h
  have HCZ := Lib.hid (chkP_zero l)
  obtain ⟨x, c, rfl, hc1, hc2, hc3, hcell⟩ := id hr
  unfold maxLen at hc2
  generalize chkP l = ch at *
  have HCK := Lib.hid hck
  clear hck hcell hc3
  go_enter Try.func56, Try.ntmps56
  go_wp2_with fail
  refine (HCK.out _ hr).mono ?_
  rintro e w1 ⟨rfl, hb1⟩
  by_cases hch : ch = 0
  · subst hch
    have HOK := Lib.hid (HCZ.out.1 rfl)
    have HP2 : Hid (prtP l = textP l) := HP.out
    clear HCZ HP HCK
    have hl16 := HOK.out.1
    obtain ⟨N, hN⟩ : ∃ N, l.length = N := ⟨_, rfl⟩
    rw [hN] at hl16 hc1 ⊢
    have HN := Lib.hid hN
    clear hN
    go_wp2_with fail
    have hbl0 : Bld w1.heap.size w1.heap.size [] (w1.alloc (.cells #[.pointer none, .slice none 0 0] 56)) :=
      Or.inl ⟨Nat.le_refl _, .slice none 0 0, heap_alloc_new w1 _, World.ownsRow_nil _ _ _ _, by simp [Value.ownBlock]⟩
    have hbb0 : Below w1.heap.size w1 (w1.alloc (.cells #[.pointer none, .slice none 0 0] 56)) := (Below.refl _ _).alloc (Nat.le_refl _) _
    obtain ⟨B, hB⟩ : ∃ B, B = w1.heap.size := ⟨_, rfl⟩
    rw [← hB] at hbl0 hbb0 ⊢
    have HB := Lib.hid hB
    clear hB
    go_loopw [15] (fun vi wr => ∃ i : Nat, vi = .int .i64 i ∧ i ≤ N ∧ Hid (Bld B B (textP (l.take i)) wr) ∧ Hid (Below B w1 wr)) (fun vi _ => N - (intOf vi).toNat)
    case atStart => exact ⟨0, rfl, Nat.zero_le _, hbl0, hbb0⟩
    case round =>
      clear hbl0 hbb0
      obtain ⟨i, rfl, hi, hbld, hbw⟩ := hrel
      have htl : (textP (l.take i)).length ≤ 5000 := by
        have h1 := textP_len (l.take i) fun m hm => asc_get l HOK.out.2 m (List.mem_of_mem_take hm)
        have h2 : (l.take i).length ≤ 16 := by simp; omega
        omega
      by_cases hlt : i < N
      · have hd : decide ((i : Int) < (N : Int)) = true := by simp; omega
        have hlt' : i < l.length := by have := HN.out; omega
        obtain ⟨mk, mv, hm⟩ : ∃ mk mv, l[i] = (mk, mv) := ⟨_, _, rfl⟩
        have hkv := asc_get l HOK.out.2 l[i] (List.getElem_mem hlt')
        have hrw := (hr.below hb1).below (by rw [← HB.out]; exact hbw.out)
        obtain ⟨x', c', hv, -, -, -, hcl0⟩ := hrw
        cases hv
        obtain ⟨b, off, hbo, hcl⟩ := hcl0 (by rintro rfl; simp at hlt')
        obtain ⟨q1, q2⟩ := hcl i hlt'
        have HS : Hid (textP (l.take (i + 1)) = textP (l.take i) ++ (mk ++ [32] ++ mv ++ [10])) := by show _ = _; rw [List.take_succ_eq_append_getElem hlt', hm, textP_snoc]
        rw [hm] at q1 q2 hkv
        simp only at q1 q2 hkv
        have hk1 := okTxt_len hkv.1
        have hk2 := okTxt_len hkv.2
        clear hm hcl hcl0 hkv
        subst hbo
        have hsz : B ≤ wr.heap.size := by have := hbw.out.size; have := HB.out; omega
        have hbz := Lib.hid (hbw.out.alloc hsz (.cells #[.string ⟨mk.toArray⟩, .string ⟨mv.toArray⟩] 67))
        have hbl2 : Hid (Bld B B (textP (l.take i)) (wr.alloc (.cells #[.string ⟨mk.toArray⟩, .string ⟨mv.toArray⟩] 67))) := by
          have hal := World.grownBy_alloc wr (.cells #[.string ⟨mk.toArray⟩, .string ⟨mv.toArray⟩] 67) none
          rcases hbld.out with ⟨h1, v, h2, h3, h4⟩ | ⟨h1, v, h2, h3, h4⟩
          · exact Or.inl ⟨h1, v, (hal.block B (by rcases Nat.lt_or_ge B wr.heap.size with h' | h'; exact h'; simp [Array.getElem?_eq_none h'] at h2) (by simp)).trans h2, h3.alloc _, h4⟩
          · exact Or.inr ⟨h1, v, (hal.block B (by rcases Nat.lt_or_ge B wr.heap.size with h' | h'; exact h'; simp [Array.getElem?_eq_none h'] at h2) (by simp)).trans h2, h3.alloc _, h4⟩
        go_wp2_with fail
        refine (writeString_any B B _ _ _ hbl2.out ?_ (by simp; omega)).mono ?_
        · simp [ByteArray.size]; omega
        rintro e w4 ⟨rfl, hb4, hbe4⟩
        have hbe5 := hbz.out.trans hbe4
        clear hbld hbl2 hbz hbe4 hbw q1 q2
        go_wp2_with fail
        refine ⟨⟨i + 1, by go_num, by omega, ?_, hbe5⟩, by simp [intOf]; omega⟩
        rw [HS.out]
        show Bld _ _ _ _
        simpa using hb4
      · have hd : decide ((i : Int) < (N : Int)) = false := by simp; omega
        have hall : l.take i = l := List.take_of_length_le (by rw [HN.out]; omega)
        rw [hall] at hbld
        clear hall
        go_wp2_with fail
        refine (bldString_any B B _ _ hbld.out (by have := hbw.out.size; have := HB.out; omega)).mono ?_
        rintro e w4 ⟨rfl, hbe4⟩
        go_wp2_with fail
        go_ret2
        refine ⟨by rw [HP2.out]; rfl, ?_⟩
        have := hbw.out.trans hbe4
        rw [HB.out] at this
        exact bthen hb1 this
  · have HP2 : Hid (prtP l = []) := by show _ = _; rw [HP.out, if_neg hch]
    have hne0 : ((ch : Int) != 0) = true := by simp; omega
    go_wp2_with fail
    go_ret2
    exact ⟨by rw [HP2.out]; rfl, hb1⟩

set_option maxRecDepth 100000 in
set_option maxHeartbeats 4000000 in
theorem rprint_any (v : Value) (l : List Mt) (w : World) (hr : MRow w v l) (hsz : ∀ m ∈ l, m.1.length ≤ maxLen ∧ m.2.length ≤ maxLen) :
    Calls Try.prog 61 #[v] w fun e w' => e = .returned (.tuple #[.string ⟨(prtP l).toArray⟩, .int .i64 (chkP l)]) ∧ Below w.heap.size w w' := by
  have HP : Hid (prtP l = if chkP l = 0 then textP l else []) := rfl
  have hck := fun w h => rcheck_any v l w h hsz
  have HCZ := Lib.hid (chkP_zero l)
  obtain ⟨x, c, rfl, hc1, hc2, hc3, hcell⟩ := id hr
  unfold maxLen at hc2
  generalize chkP l = ch at *
  have HCK := Lib.hid hck
  clear hck hcell hc3 hsz
  go_enter Try.func61, Try.ntmps61
  go_wp2_with fail
  refine (HCK.out _ hr).mono ?_
  rintro e w1 ⟨rfl, n1, rfl⟩
  have hb1 : Below w.heap.size w (w.drewN n1) := below_drewN (Below.refl _ _) n1
  generalize w.drewN n1 = w2 at *
  by_cases hch : ch = 0
  · subst hch
    have HOK := Lib.hid (HCZ.out.1 rfl)
    have HP2 : Hid (prtP l = textP l) := HP.out
    clear HCZ HP HCK
    have hl16 := HOK.out.1
    obtain ⟨N, hN⟩ : ∃ N, l.length = N := ⟨_, rfl⟩
    rw [hN] at hl16 hc1 ⊢
    have HN := Lib.hid hN
    clear hN
    go_wp2_with fail
    go_loopw [5, 14] (fun v vi wr => ∃ i : Nat, vi = .int .i64 i ∧ i ≤ N ∧ v = .string ⟨(textP (l.take i)).toArray⟩ ∧ Hid (Below w.heap.size w wr)) (fun _ vi _ => N - (intOf vi).toNat)
    case atStart => exact ⟨0, rfl, Nat.zero_le _, rfl, hb1⟩
    case round =>
      obtain ⟨i, rfl, hi, rfl, hbw⟩ := hrel
      have htl : (textP (l.take i)).length ≤ 5000 := by
        have h1 := textP_len (l.take i) fun m hm => asc_get l HOK.out.2 m (List.mem_of_mem_take hm)
        have h2 : (l.take i).length ≤ 16 := by simp; omega
        omega
      by_cases hlt : i < N
      · have hd : decide ((i : Int) < (N : Int)) = true := by simp; omega
        have hlt' : i < l.length := by have := HN.out; omega
        obtain ⟨mk, mv, hm⟩ : ∃ mk mv, l[i] = (mk, mv) := ⟨_, _, rfl⟩
        have hkv := asc_get l HOK.out.2 l[i] (List.getElem_mem hlt')
        have hrw := hr.below hbw.out
        obtain ⟨x', c', hv, -, -, -, hcl0⟩ := hrw
        cases hv
        obtain ⟨b, off, hbo, hcl⟩ := hcl0 (by rintro rfl; simp at hlt')
        obtain ⟨q1, q2⟩ := hcl i hlt'
        have HS : Hid (textP (l.take (i + 1)) = textP (l.take i) ++ (mk ++ [32] ++ mv ++ [10])) := by show _ = _; rw [List.take_succ_eq_append_getElem hlt', hm, textP_snoc]
        rw [hm] at q1 q2 hkv
        simp only at q1 q2 hkv
        have hk1 := okTxt_len hkv.1
        have hk2 := okTxt_len hkv.2
        clear hm hcl hcl0 hkv
        subst hbo
        have i0 : (0 : Int) ≤ (i : Int) := by omega
        have i1 : (i : Int) < (N : Int) := by omega
        go_wp2_with fail
        go_quiet (fail)
        go_wp2_with fail
        refine ⟨⟨i + 1, by go_num, by omega, ?_, below_drewN hbw.out _⟩, by simp [intOf]; omega⟩
        rw [HS.out]
        exact congrArg Value.string (ByteArray.ext (by simp))
      · have hd : decide ((i : Int) < (N : Int)) = false := by simp; omega
        have hall : l.take i = l := List.take_of_length_le (by rw [HN.out]; omega)
        rw [hall]
        clear hall
        go_wp2_with fail
        go_ret2
        exact ⟨by rw [HP2.out]; rfl, hbw.out⟩
  · have HP2 : Hid (prtP l = []) := by show _ = _; rw [HP.out, if_neg hch]
    have hne0 : ((ch : Int) != 0) = true := by simp; omega
    go_wp2_with fail
    go_ret2
    exact ⟨by rw [HP2.out]; rfl, hb1⟩
end Go.Proofs.Ytakileiomgaahaa
