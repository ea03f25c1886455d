/-
  Walk: the operator at a place, in the reference.
-/
import Derived.Test.YtalbmipncoohdaaX8
namespace Go.Proofs.Ytalbmipncoohdaa
open Go.RowKit

def opF : List (List UInt8) → List UInt8 → List UInt8
  | [], _ => []
  | l :: L, u => if u.take l.length = l then l else opF L u
def opsL : List (List UInt8) := twos ++ ones.map fun c => [c]
theorem opF_twos (L M : List (List UInt8)) (h : ∀ l ∈ L, l.length = 2) (u : List UInt8) : opF (L ++ M) u = if u.take 2 ∈ L then u.take 2 else opF M u := by
  induction L with
  | nil => simp
  | cons l L ih =>
    have hl : l.length = 2 := h l (by simp)
    rw [List.cons_append, opF, hl, ih (fun x hx => h x (by simp [hx]))]
    by_cases e : u.take 2 = l
    · simp [e]
    · simp [e]
theorem opF_ones (M : List UInt8) (c : UInt8) (t : List UInt8) : opF (M.map fun c => [c]) (c :: t) = if c ∈ M then [c] else [] := by
  induction M with
  | nil => simp [opF]
  | cons d M ih =>
    rw [List.map_cons, opF, ih]
    by_cases e : c = d
    · simp [e]
    · simp [e]
theorem opF_all (c : UInt8) (t : List UInt8) : opF opsL (c :: t) = (c :: t).take (opR (c :: t)) := by
  rw [opsL, opF_twos _ _ twos_len, opF_ones]
  by_cases h : (c :: t).take 2 ∈ twos
  · rw [if_pos h, opR_two h]
  · rw [if_neg h]
    by_cases h1 : c ∈ ones
    · rw [if_pos h1, opR_one h h1]; rfl
    · rw [if_neg h1, opR_none h h1]; rfl

/-- The row of the operators. -/
def opsA : Array Value := (opsL.map fun l => Value.string ⟨l.toArray⟩).toArray
theorem opsA_get (i : Nat) (h : i < 24) : opsA[i]? = some (.string ⟨(opsL.getD i []).toArray⟩) := by
  have : opsL.length = 24 := by decide
  simp [opsA, this, h]
theorem opsL_len (i : Nat) (h : i < 24) : (opsL.getD i []).length = 1 ∨ (opsL.getD i []).length = 2 := by
  have : ∀ i : Fin 24, (opsL.getD i.val []).length = 1 ∨ (opsL.getD i.val []).length = 2 := by decide +kernel
  exact this ⟨i, h⟩
theorem opsL_drop (i : Nat) (h : i < 24) : opsL.drop i = opsL.getD i [] :: opsL.drop (i + 1) := by
  have hl : i < opsL.length := by have : opsL.length = 24 := by decide
                                  omega
  rw [List.drop_eq_getElem_cons hl, List.getD_eq_getElem?_getD, List.getElem?_eq_getElem hl]; rfl

set_option maxRecDepth 100000 in
set_option maxHeartbeats 1000000 in
theorem operators_any (w : World) : Calls Try.prog 33 #[] w fun e w' => e = .returned (.slice (some ⟨w.heap.size, 0, none⟩) 24 24) ∧ w' = w.alloc (.cells opsA 9) := by
  go_enter Try.func33, Try.ntmps33
  go_wp2
  go_ret
  exact ⟨rfl, rfl⟩

theorem drewN_trans {a b c : World} (h : ∃ n, b = a.drewN n) (h' : ∃ n, c = b.drewN n) : ∃ n, c = a.drewN n := by
  obtain ⟨n, rfl⟩ := h
  obtain ⟨m, rfl⟩ := h'
  exact ⟨n + m, by rw [World.drewN_drewN]⟩

theorem drewN_below {B : Nat} {a w : World} (h : Below B a w) (n : Nat) : Below B a (w.drewN n) := ⟨h.os, h.tape, h.output, h.size, h.block⟩

set_option maxRecDepth 100000 in
set_option maxHeartbeats 4000000 in
theorem roperator_any (s : ByteArray) (p : Nat) (w : World) (hp : p < s.size) (hs : s.size < 1000000) :
    Calls Try.prog 31 #[.string s, .int .i64 p] w fun e w' => e = .returned (.string ⟨((s.data.toList.drop p).take (opR (s.data.toList.drop p))).toArray⟩) ∧ Below w.heap.size w w' := by
  have hdr := drop_at s p hp
  have hall : Hid (opF opsL (s.data.toList.drop p) = (s.data.toList.drop p).take (opR (s.data.toList.drop p))) := by show _ = _; rw [hdr, opF_all]
  clear hdr
  go_enter Try.func31, Try.ntmps31
  go_wp2_with fail
  refine (operators_any _).mono ?_
  rintro e w1 ⟨rfl, rfl⟩
  go_wp2_with fail
  have hblk := Blk.new w 9 opsA
  have hbel0 : Below w.heap.size w (w.alloc (.cells opsA 9)) := (Below.refl _ _).alloc (Nat.le_refl _) _
  generalize w.alloc (.cells opsA 9) = w1 at *
  obtain ⟨B, hB⟩ : ∃ B, B = w.heap.size := ⟨_, rfl⟩
  rw [← hB] at hblk hbel0 ⊢
  have HB := Lib.hid hB
  clear hB
  go_loopw [6] (fun v wr => ∃ (i : Nat), v = .int .i64 i ∧ i ≤ 24 ∧ Hid (opF (opsL.drop i) (s.data.toList.drop p) = (s.data.toList.drop p).take (opR (s.data.toList.drop p))) ∧ Hid (∃ n, wr = w1.drewN n)) (fun v _ => 24 - (intOf v).toNat)
  case atStart => exact ⟨0, rfl, by omega, hall.out, ⟨0, rfl⟩⟩
  case round =>
    obtain ⟨i, rfl, hi, hF, hdi⟩ := hrel
    have hb1 : Blk wr B 9 opsA := by obtain ⟨n, rfl⟩ := hdi.out; exact hblk.drewN n
    by_cases hlt : i < 24
    · have hF2 := hF.out
      rw [opsL_drop i hlt, opF] at hF2
      have hll := opsL_len i hlt
      have hc := hb1.cell i
      rw [opsA_get i hlt] at hc
      have hg1 : decide ((i : Int) < 24) = true := by simp; omega
      generalize opsL.getD i [] = O at *
      have HF := Lib.hid hF2
      clear hF2 hF hall
      obtain ⟨OS, hOS⟩ : ∃ OS : ByteArray, OS = ⟨O.toArray⟩ := ⟨_, rfl⟩
      rw [← hOS] at hc
      have hO1 : OS.data.toList = O := by rw [hOS]
      have hO2 : OS.size = O.length := by rw [← hO1]; simp
      clear hOS
      subst hO1
      have hle : OS.size ≤ 2 := by omega
      clear hll hO2
      have w2 : IntKind.i64.wrap ((p : Int) + (OS.size : Int)) = (p : Int) + (OS.size : Int) := IntWalk.i64_in _ (by omega)
      have z1 : (0 : Int) ≤ (p : Int) := by omega
      have z2 : (0 : Int) ≤ (p : Int) + (OS.size : Int) := by omega
      have n2 : ((p : Int) + (OS.size : Int)).toNat = p + OS.size := by omega
      have z3 : (p : Int) ≤ (p : Int) + (OS.size : Int) := by omega
      have i1 : (i : Int) < 24 := by omega
      have i0 : (0 : Int) ≤ (i : Int) := by omega
      by_cases hfit : p + OS.size ≤ s.size
      · have hg2 : decide ((p : Int) + (OS.size : Int) ≤ (s.size : Int)) = true := by simp; omega
        have z4 : (p : Int) + (OS.size : Int) ≤ (s.size : Int) := by omega
        have hex : (s.extract p (p + OS.size)).data.toList = (s.data.toList.drop p).take OS.data.toList.length := by rw [extract_take]; simp
        by_cases heq : (s.extract p (p + OS.size)).toList = OS.toList
        · have hq : ((s.extract p (p + OS.size)).toList == OS.toList) = true := by simpa using heq
          have heq' := heq
          rw [ByteArray.toList_eq, ByteArray.toList_eq] at heq'
          go_wp2_with fail
          go_quiet (fail)
          go_wp2_with fail
          go_ret
          have hfin := HF.out
          rw [if_pos (by rw [← hex]; exact heq')] at hfin
          rw [← hfin]
          exact ⟨rfl, by rw [← HB.out]; obtain ⟨n, rfl⟩ := hdi.out; exact drewN_below (drewN_below hbel0 _) _⟩
        · have hq : ((s.extract p (p + OS.size)).toList == OS.toList) = false := by simpa using heq
          have heq' := heq
          rw [ByteArray.toList_eq, ByteArray.toList_eq] at heq'
          go_wp2_with fail
          go_quiet (fail)
          go_wp2_with fail
          refine ⟨⟨i + 1, by go_num, by omega, ?_, drewN_trans hdi.out ⟨_, rfl⟩⟩, by simp [intOf]; omega⟩
          have hfin := HF.out
          rw [if_neg (by rw [← hex]; exact heq')] at hfin
          exact hfin
      · have hg2 : decide ((p : Int) + (OS.size : Int) ≤ (s.size : Int)) = false := by simp; omega
        go_wp2_with fail
        go_quiet (fail)
        go_wp2_with fail
        refine ⟨⟨i + 1, by go_num, by omega, ?_, drewN_trans hdi.out ⟨_, rfl⟩⟩, by simp [intOf]; omega⟩
        have hfin := HF.out
        rw [if_neg] at hfin
        · exact hfin
        · intro h
          have := congrArg List.length h
          simp at this
          omega
    · have hg1 : decide ((i : Int) < 24) = false := by simp; omega
      go_wp2_with fail
      go_ret
      have hfin := hF.out
      have hn : opsL.drop i = [] := List.drop_of_length_le (by have : opsL.length = 24 := by decide
                                                               omega)
      rw [hn, opF] at hfin
      rw [← hfin]
      exact ⟨rfl, by rw [← HB.out]; obtain ⟨n, rfl⟩ := hdi.out; exact drewN_below hbel0 _⟩
end Go.Proofs.Ytalbmipncoohdaa
