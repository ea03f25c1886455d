/-
  The chapter's examples hold of the program.
-/
import Derived.Test.YtkbelkdephfhpaaK1
namespace Go.Proofs.Ytkbelkdephfhpaa
open Go.RowKit

theorem inf_call (s : ByteArray) (m : Int) (r : Except Nat (List UInt8 × Nat)) (w : World) (hs : s.size ≤ 1000000000000000) (h : infP (mostN m) s.data.toList = r) :
    Calls Try.prog 9 #[.string s, .int .i64 m] w fun e w' => InfOk r e ∧ Below w.heap.size w w' := by
  have := inflate_any s m w hs
  rwa [h] at this
theorem zli_call (s : ByteArray) (m : Int) (r : Except Nat (List UInt8)) (w : World) (hs : s.size ≤ 1000000000000000) (h : zliP (mostN m) s.data.toList = r) :
    Calls Try.prog 12 #[.string s, .int .i64 m] w fun e w' => ZlOk r e ∧ Below w.heap.size w w' := by
  have := zlib_any s m w hs
  rwa [h] at this
theorem len_call (v : Value) (L : List Int) (r : Except Nat (List Nat)) (w : World) (hr : IReadZ w v L) (h : lenP L = r) :
    Calls Try.prog 14 #[v] w fun e w' => LenOk r e w' ∧ Below w.heap.size w w' := by
  have := lengthsX_any v L w hr
  rwa [h] at this
theorem new_ints (w : World) (l : List Int) (h : l.length ≤ 1000) : IReadZ (w.alloc (.cells (l.map (Value.int .i64)).toArray 3)) (.slice (some ⟨w.heap.size, 0, none⟩) l.length l.length) l := by
  refine ⟨_, l.length, rfl, Nat.le_refl _, by unfold maxLen; omega, fun _ => ⟨w.heap.size, 0, rfl, fun j hj => ?_⟩⟩
  rw [Blk.cell (Blk.new w 3 _), Nat.zero_add]
  simp [hj]

set_option maxRecDepth 100000 in
set_option maxHeartbeats 8000000 in
theorem awake_any (w : World) : Calls Try.prog 11 #[] w fun e w' => e = .returned (.bool true) ∧ Below w.heap.size w w' := by
  have C1 := Lib.hid (fun w => inf_call ⟨#[75, 4, 0]⟩ 9 _ w (by decide) ex1)
  have C2 := Lib.hid (fun w => inf_call ⟨#[75, 132, 3, 0]⟩ 10 _ w (by decide) ex2)
  have C3 := Lib.hid (fun w => inf_call ⟨#[75, 132, 3, 0]⟩ 9 _ w (by decide) ex3)
  have C4 := Lib.hid (fun w => inf_call ⟨#[1, 0, 0, 255, 255]⟩ 0 _ w (by decide) ex4)
  have C5 := Lib.hid (fun w => inf_call ⟨#[0, 0, 0, 255, 255]⟩ 0 _ w (by decide) ex5)
  have C6 := Lib.hid (fun w => inf_call ⟨#[7]⟩ 0 _ w (by decide) ex6)
  have C7 := Lib.hid (fun w => zli_call ⟨#[120, 156, 75, 4, 0, 0, 98, 0, 98]⟩ 1 _ w (by decide) ex7)
  go_enter Try.func11, Try.ntmps11
  go_wp2_with fail
  refine (C1.out _).mono ?_
  rintro e w1 ⟨rfl, hb1⟩
  go_wp2_with fail
  refine (C2.out _).mono ?_
  rintro e w2 ⟨rfl, hb2⟩
  go_wp2_with fail
  refine (C3.out _).mono ?_
  rintro e w3 ⟨rfl, hb3⟩
  go_wp2_with fail
  refine (C4.out _).mono ?_
  rintro e w4 ⟨rfl, hb4⟩
  go_wp2_with fail
  refine (C5.out _).mono ?_
  rintro e w5 ⟨rfl, hb5⟩
  go_wp2_with fail
  refine (C6.out _).mono ?_
  rintro e w6 ⟨rfl, hb6⟩
  go_wp2_with fail
  refine (C7.out _).mono ?_
  rintro e w7 ⟨rfl, hb7⟩
  have hbb := bthen hb1 (bthen hb2 (bthen hb3 (bthen hb4 (bthen hb5 (bthen hb6 hb7)))))
  clear C1 C2 C3 C4 C5 C6 C7 hb1 hb2 hb3 hb4 hb5 hb6 hb7
  go_wp2_with fail
  have hz8 := new_ints w7 [2, 1, 3, 3] (by decide)
  have hb8 : Below w.heap.size w (w7.alloc (.cells (([2, 1, 3, 3] : List Int).map (Value.int .i64)).toArray 3)) := hbb.alloc hbb.size _
  change Calls _ _ _ (w7.alloc (.cells (([2, 1, 3, 3] : List Int).map (Value.int .i64)).toArray 3)) _
  generalize w7.alloc (.cells (([2, 1, 3, 3] : List Int).map (Value.int .i64)).toArray 3) = w8 at hz8 hb8 ⊢
  refine (len_call _ _ _ w8 hz8 ex8).mono ?_
  rintro e w9 ⟨⟨u, rfl, hu⟩, hb9⟩
  have hbb9 : Below w.heap.size w w9 := hb8.trans (hb9.mono hb8.size)
  clear hz8 hb8 hb9 hbb
  go_wp2_with fail
  have hz10 := new_ints w9 [1, 1, 1] (by decide)
  have hb10 : Below w.heap.size w (w9.alloc (.cells (([1, 1, 1] : List Int).map (Value.int .i64)).toArray 3)) := hbb9.alloc hbb9.size _
  have hu10 := hu.alloc (.cells (([1, 1, 1] : List Int).map (Value.int .i64)).toArray 3)
  change Calls _ _ _ (w9.alloc (.cells (([1, 1, 1] : List Int).map (Value.int .i64)).toArray 3)) _
  generalize w9.alloc (.cells (([1, 1, 1] : List Int).map (Value.int .i64)).toArray 3) = w10 at hz10 hb10 hu10 ⊢
  refine (len_call _ _ _ w10 hz10 ex9).mono ?_
  rintro e w11 ⟨rfl, hb11⟩
  have hbb11 : Below w.heap.size w w11 := hb10.trans (hb11.mono hb10.size)
  have hu11 := hu10.below hb11
  clear hz10 hb10 hb11 hbb9 hu hu10
  obtain ⟨x, c, rfl, hc1, hc2, h3⟩ := hu11
  obtain ⟨g, off, cs, rfl, hb, hcell⟩ := h3 (by decide)
  have q0 := (hb.cell (off + 0)).trans (hcell 0 (by decide))
  have q1 := (hb.cell (off + 1)).trans (hcell 1 (by decide))
  have q2 := (hb.cell (off + 2)).trans (hcell 2 (by decide))
  have q3 := (hb.cell (off + 3)).trans (hcell 3 (by decide))
  simp at q0 q1 q2 q3
  clear h3 hcell
  go_wp2_with fail
  go_ret
  exact ⟨rfl, hbb11⟩
end Go.Proofs.Ytkbelkdephfhpaa
