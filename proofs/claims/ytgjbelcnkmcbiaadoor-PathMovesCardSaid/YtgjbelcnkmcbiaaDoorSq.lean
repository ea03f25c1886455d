/-
  Walk: strings.SplitSeq at a separator of one byte: its iterator keeps what is left of the string in a cell; what comes are the pieces.
-/
import Derived.RangeFuncBound
import Derived.RangeFuncCalls
import Derived.RangeFuncLeaves
import Derived.Shelf.Abstract
import Derived.Shelf.RegionOpen
import Derived.WalkKit
import Derived.OwnWalkIn
import Derived.TacticsInMore
import Derived.LoopNIn
import Derived.LoopIn
import Derived.Lib.IndexLaws
import Derived.Test.YtgjbelcnkmcbiaaDoorRf
import Derived.Test.YtgjbelcnkmcbiaaDoorQsh
namespace Go.Proofs.YtgjbelcnkmcbiaaDoor
open Go.RowKit Go.Shelf
attribute [local go_sem] Oper.semAt_some

/-- The pieces of a text between the bytes c. -/
def spl (c : UInt8) : List UInt8 → List (List UInt8)
  | [] => [[]]
  | x :: r => if x = c then [] :: spl c r else match spl c r with | [] => [[x]] | y :: ys => (x :: y) :: ys
theorem spl_ne (c : UInt8) (l : List UInt8) : spl c l ≠ [] := by
  cases l with
  | nil => simp [spl]
  | cons x r => unfold spl; split; · simp
                split <;> simp
theorem spl_none (c : UInt8) (l : List UInt8) (h : Lib.indexByte l c < 0) : spl c l = [l] := by
  induction l with
  | nil => rfl
  | cons x r ih =>
    unfold Lib.indexByte at h
    by_cases hx : (x == c) = true
    · simp [hx] at h
    · have hx' : ¬ x = c := by simpa using hx
      have hr : Lib.indexByte r c < 0 := by
        by_cases h1 : Lib.indexByte r c = -1
        · omega
        · have := Lib.indexByte_ge r c
          have hb : (Lib.indexByte r c == -1) = false := by simpa using h1
          rw [if_neg hx, hb] at h
          simp at h
          omega
      unfold spl
      rw [if_neg hx', ih hr]
theorem spl_some (c : UInt8) (l : List UInt8) (i : Nat) (h : Lib.indexByte l c = i) : i < l.length ∧ spl c l = l.take i :: spl c (l.drop (i + 1)) := by
  induction l generalizing i with
  | nil => simp [Lib.indexByte] at h
  | cons x r ih =>
    unfold Lib.indexByte at h
    by_cases hx : (x == c) = true
    · have hx' : x = c := by simpa using hx
      rw [if_pos hx] at h
      have : i = 0 := by omega
      subst this
      refine ⟨by simp, ?_⟩
      conv => lhs; unfold spl
      rw [if_pos hx']; simp
    · have hx' : ¬ x = c := by simpa using hx
      rw [if_neg hx] at h
      by_cases h1 : Lib.indexByte r c = -1
      · simp [h1] at h
      · have hge := Lib.indexByte_ge r c
        have hb : (Lib.indexByte r c == -1) = false := by simpa using h1
        rw [hb] at h
        simp at h
        obtain ⟨j, rfl⟩ : ∃ j, i = j + 1 := ⟨i - 1, by omega⟩
        obtain ⟨h2, h3⟩ := ih j (by omega)
        refine ⟨by simp; omega, ?_⟩
        conv => lhs; unfold spl
        rw [if_neg hx', h3]
        simp

def strAt (W : World) (B : Nat) : Nat := match W.heap[B]? with | some (.cells cs _ _) => (match cs[0]? with | some (Value.string s) => s.size | _ => 0) | _ => 0
theorem strAt_blk {W : World} {B : Nat} {t : TypeId} {s : ByteArray} (h : Blk W B t #[.string s]) : strAt W B = s.size := by
  unfold strAt; rw [show W.heap[B]? = _ from h]; rfl
theorem ba_eta (s : ByteArray) : (⟨s.data.toList.toArray⟩ : ByteArray) = s := by cases s; simp
theorem ba_ext1 {a : ByteArray} {l : List UInt8} (h : a.data.toList = l) : a = ⟨l.toArray⟩ := by rw [← h]

set_option maxRecDepth 100000 in
set_option maxHeartbeats 2000000 in
theorem splitIter (n : Nat) (hn : 2 ≤ n) (c : UInt8) (s : ByteArray) (w : World) (B : Nat) (hs : Blk w B 9 #[.string s]) (hsep : Blk w (B + 1) 9 #[.string ⟨#[c]⟩]) (hz : Blk w (B + 2) 3 #[.int .i64 0]) (hsz : s.size ≤ 9223372036854775806) :
    SeqS Fence.wide n Tryd.prog 83 #[.pointer (some ⟨B + 1, 0, none⟩), .pointer (some ⟨B, 0, none⟩), .pointer (some ⟨B + 2, 0, none⟩)] (fun x : List UInt8 => #[.string ⟨x.toArray⟩]) B B (B + 3) (spl c s.data.toList) w := fun l J Jx W hW hJs hY h0 => by
  have hs := Lib.hid (hW.blk hs (by omega) (by omega))
  have hsep := hW.blk hsep (by omega) (by omega)
  have hz := hW.blk hz (by omega) (by omega)
  have c0 : W.cell? ⟨B + 1, 0, none⟩ = some (.string ⟨#[c]⟩) := hsep.cell 0
  have HX : Hid (∃ xs, spl c s.data.toList = xs) := ⟨_, rfl⟩
  obtain ⟨xs, hxs⟩ := HX.out
  clear HX
  rw [hxs] at hY ⊢
  refine callsIn_of_wp Tryd.func83 rfl trivial ?_ rfl
  simp only [Tryd.ntmps83, List.size_toArray, List.length_cons, List.length_nil, Nat.reduceAdd, Nat.reduceSub, Array.replicate_succ, Array.replicate_zero, List.push_toArray, List.append_toArray, List.nil_append, List.cons_append]
  gi_wp2
  gi_loopw [] (fun wr => ∃ (pre : List (List UInt8)) (r : ByteArray), Blk wr B 9 #[.string r] ∧ Blk wr (B + 1) 9 #[.string ⟨#[c]⟩] ∧ Blk wr (B + 2) 3 #[.int .i64 0] ∧ xs = pre ++ spl c r.data.toList ∧ J pre wr ∧ r.size ≤ 9223372036854775806)
    (fun wr => strAt wr B)
  case atStart =>
    exact ⟨[], s, hs.out, hsep, hz, hxs.symm, h0, hsz⟩
  case round =>
    obtain ⟨pre, r, b0, b1, b2, hx, hj, hr⟩ := hrel
    have d0 : wr.cell? ⟨B, 0, none⟩ = some (.string r) := b0.cell 0
    have d1 : wr.cell? ⟨B + 1, 0, none⟩ = some (.string ⟨#[c]⟩) := b1.cell 0
    have d2 : wr.cell? ⟨B + 2, 0, none⟩ = some (.int .i64 0) := b2.cell 0
    have f0 : wr.frozen? ⟨B, 0, none⟩ = false := b0.frozen 0
    have HI := Lib.hid (fun w => Tryd.strings_Index_one r c w)
    have hrl : r.data.toList.length = r.size := by simp
    generalize hi : Lib.indexByte r.data.toList c = i at *
    by_cases hneg : i < 0
    · have e1 := spl_none c r.data.toList (by omega)
      rw [e1] at hx
      obtain ⟨fn, tmps, assign, body, hy, hR⟩ := hY pre r.data.toList wr hj (by rw [hx]; exact List.prefix_rfl)
      rw [ba_eta] at hy
      gi_wp2_with fail
      refine ⟨trivial, fun _ => by omega, (callsIn_wide.2 (HI.out _)).mono ?_⟩
      rintro e w' ⟨rfl, hw'⟩
      rw [hw']
      clear hw'
      gi_wp2
      refine ⟨fun _ => by omega, hR.mono ?_⟩
      rintro e W3 (⟨rfl, hJ3, hk3⟩ | ⟨rfl, hJx3⟩)
      · gi_wp2
        go_end0
        exact ⟨⟨_, rfl⟩, .inl (by rw [hx]; exact hJ3)⟩
      · gi_wp2
        go_end0
        exact ⟨⟨_, rfl⟩, .inr ⟨_, by rw [hx]; exact List.prefix_rfl, hJx3⟩⟩
    · obtain ⟨o, rfl⟩ : ∃ o : Nat, i = o := ⟨i.toNat, by omega⟩
      obtain ⟨e0, e1⟩ := spl_some c r.data.toList o hi
      rw [e1] at hx
      rw [hrl] at e0
      gi_wp2_with fail
      refine ⟨trivial, fun _ => by omega, (callsIn_wide.2 (HI.out _)).mono ?_⟩
      rintro e w' ⟨rfl, hw'⟩
      rw [hw']
      clear hw'
      have g1 : ¬ ((o : Int) < 0) := by omega
      have g2 : wrap64 (o : Int) = o := wrap64_of _ (by omega)
      have g3 : wrap64 ((o : Int) + 1) = o + 1 := wrap64_of _ (by omega)
      have g4 : r.extract 0 o = ⟨(r.data.toList.take o).toArray⟩ := ba_ext1 (by rw [extract_list]; simp)
      obtain ⟨fn, tmps, assign, body, hy, hR⟩ := hY pre (r.data.toList.take o) wr hj (by rw [hx]; exact ⟨_, by rw [List.append_assoc]; rfl⟩)
      rw [← g4] at hy
      have HG := Lib.hid g4
      clear g4
      gi_wp2_with fail
      refine ⟨fun _ => by omega, hR.mono ?_⟩
      rintro e W3 (⟨rfl, hJ3, hk3⟩ | ⟨rfl, hJx3⟩)
      · have b0' := hk3.blk b0 (by omega) (by omega)
        have b1' := hk3.blk b1 (by omega) (by omega)
        have b2' := hk3.blk b2 (by omega) (by omega)
        have d0' : W3.cell? ⟨B, 0, none⟩ = some (.string r) := b0'.cell 0
        have d1' : W3.cell? ⟨B + 1, 0, none⟩ = some (.string ⟨#[c]⟩) := b1'.cell 0
        have f0' : W3.frozen? ⟨B, 0, none⟩ = false := b0'.frozen 0
        gi_wp2_with fail
        go_roundw
        case rel =>
          refine ⟨pre ++ [r.data.toList.take o], r.extract (o + 1) r.size, b0'.put 0 _, b1'.other (by show B + 1 ≠ B; omega) _, b2'.other (by show B + 2 ≠ B; omega) _, ?_, hJs _ _ _ hJ3, by simp; omega⟩
          rw [hx, extract_list, List.append_assoc, ← hrl, List.take_length]; rfl
        case measure =>
          rw [strAt_blk b0, strAt_blk (b0'.put 0 _)]
          simp; omega
      · gi_wp2_with fail
        refine bodyPost_ret (results_none rfl _ _ _) rfl ?_
        exact ⟨⟨_, rfl⟩, .inr ⟨_, by rw [hx]; exact ⟨_, by rw [List.append_assoc]; rfl⟩, hJx3⟩⟩
end Go.Proofs.YtgjbelcnkmcbiaaDoor
