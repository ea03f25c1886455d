/-
  Walk: the examples.
-/
import Derived.Test.YtggogfjfkimcgaaM9
namespace Go.Proofs.Ytggogfjfkimcgaa
open Go.RowKit

theorem mrow_new (w : World) (l : List Mt) (cs : Array Value) (hc : cs.toList = mcells l) (hl : l.length ≤ 1000) : MRow (w.alloc (.cells cs 39)) (.slice (some ⟨w.heap.size, 0, none⟩) l.length l.length) l := by
  have hs : cs.size = l.length * 2 := by rw [← mcells_length, ← hc]; simp
  exact mrow_of (base := 0) (n := l.length) ⟨mcells_length l, .inr ⟨w.heap.size, l.length, cs, rfl, Nat.zero_le _, heap_alloc_new w _, Nat.le_refl _, by unfold maxLen; omega, hs, by rw [hc, ← mcells_length, List.take_length]⟩⟩

def kA : List UInt8 := [97]
def vA : List UInt8 := [49]
def kB : List UInt8 := [98]
def vB : List UInt8 := [50]
theorem aw1 : setErr [(kB, vB)] kA vA = 0 ∧ setRes [(kB, vB)] kA vA = [(kA, vA), (kB, vB)] := by decide +kernel
theorem aw2 : getP [(kA, vA), (kB, vB)] kB = some vB ∧ getP [(kA, vA), (kB, vB)] [99] = none ∧ setErr [] kA [] = 9 := by decide +kernel
theorem aw3 : prtP [(kA, vA), (kB, vB)] = [97, 32, 49, 10, 98, 32, 50, 10] ∧ chkP [(kA, vA), (kB, vB)] = 0 ∧ chkP [(kB, vB), (kA, vA)] = 24 := by decide +kernel
theorem aw4 : parP [97, 32, 49, 10, 98, 32, 50, 10] = .ok [(kA, vA), (kB, vB)] := by kernel_rfl
theorem aw5 : parP [97, 32, 49] = .error (1, 4) := by kernel_rfl

set_option maxRecDepth 100000 in
set_option maxHeartbeats 8000000 in
theorem awake_any (w : World) :
    Calls Try.prog 12 #[] w fun e w' => e = .returned (.bool true) ∧ Below w.heap.size w w' := by
  go_enter Try.func12, Try.ntmps12
  go_wp2_with fail
  have hA := (Blk.new w 39 #[.string ⟨kA.toArray⟩, .string ⟨vA.toArray⟩]).alloc (.cells #[.string ⟨kB.toArray⟩, .string ⟨vB.toArray⟩] 39)
  have hB := Blk.new (w.alloc (.cells #[.string ⟨kA.toArray⟩, .string ⟨vA.toArray⟩] 39)) 39 #[.string ⟨kB.toArray⟩, .string ⟨vB.toArray⟩]
  have hbw : Below w.heap.size w ((w.alloc (.cells #[.string ⟨kA.toArray⟩, .string ⟨vA.toArray⟩] 39)).alloc (.cells #[.string ⟨kB.toArray⟩, .string ⟨vB.toArray⟩] 39)) := ((Below.refl _ _).alloc (Nat.le_refl _) _).alloc (by simp) _
  have hsz : ((w.alloc (.cells #[.string ⟨kA.toArray⟩, .string ⟨vA.toArray⟩] 39)).alloc (.cells #[.string ⟨kB.toArray⟩, .string ⟨vB.toArray⟩] 39)).heap.size = w.heap.size + 1 + 1 := by simp
  have hsz1 : (w.alloc (.cells #[.string ⟨kA.toArray⟩, .string ⟨vA.toArray⟩] 39)).heap.size = w.heap.size + 1 := by simp
  rw [hsz1] at hB
  change Calls _ _ #[_, .string ⟨kA.toArray⟩, .string ⟨vA.toArray⟩] (World.alloc ((w.alloc (.cells #[.string ⟨kA.toArray⟩, .string ⟨vA.toArray⟩] 39)).alloc (.cells #[.string ⟨kB.toArray⟩, .string ⟨vB.toArray⟩] 39)) (.cells #[.string ⟨kB.toArray⟩, .string ⟨vB.toArray⟩] 39)) _
  generalize (w.alloc (.cells #[.string ⟨kA.toArray⟩, .string ⟨vA.toArray⟩] 39)).alloc (.cells #[.string ⟨kB.toArray⟩, .string ⟨vB.toArray⟩] 39) = w2 at *
  clear hsz1
  have hr0 := mrow_new w2 [(kB, vB)] #[.string ⟨kB.toArray⟩, .string ⟨vB.toArray⟩] rfl (by decide)
  rw [hsz] at hr0
  refine (set_any _ [(kB, vB)] kA vA _ hr0).mono ?_
  rintro e w3 ⟨⟨v, rfl, hr3⟩, hb3⟩
  rw [aw1.1]
  rw [aw1.2] at hr3
  have hb23 : Below w2.heap.size w2 w3 := ((Below.refl _ _).alloc (Nat.le_refl _) _).trans (hb3.mono (by simp))
  clear hr0 hb3 hsz
  obtain ⟨x, c, rfl, -⟩ := id hr3
  go_wp2_with fail
  refine (get_any _ _ kB _ hr3).mono ?_
  rintro e w4 ⟨rfl, hb4⟩
  rw [aw2.1]
  simp only [optV, Option.getD_some, Option.isSome_some]
  have hr4 := hr3.below hb4
  have hb24 := bthen hb23 hb4
  clear hr3 hb23 hb4
  go_wp2_with fail
  refine (get_any _ _ [99] _ hr4).mono ?_
  rintro e w5 ⟨rfl, hb5⟩
  rw [aw2.2.1]
  simp only [optV, Option.getD_none, Option.isSome_none]
  have hr5 := hr4.below hb5
  have hb25 := bthen hb24 hb5
  clear hr4 hb24 hb5
  go_wp2_with fail
  refine (set_any _ [] kA [] _ (mrow_nil _)).mono ?_
  rintro e w6 ⟨⟨v6, rfl, hr6⟩, hb6⟩
  rw [aw2.2.2]
  have hr7 := hr5.below hb6
  have hb26 := bthen hb25 hb6
  clear hr5 hb25 hb6 hr6
  go_wp2_with fail
  refine (print_any _ _ _ hr7).mono ?_
  rintro e w7 ⟨rfl, hb7⟩
  rw [aw3.1, aw3.2.1]
  have hr8 := hr7.below hb7
  have hb27 := bthen hb26 hb7
  clear hr7 hb26 hb7
  go_wp2_with fail
  refine (parse_any [97, 32, 49, 10, 98, 32, 50, 10] _ (by decide)).mono ?_
  rintro e w8 ⟨hok, hb8⟩
  rw [aw4] at hok
  obtain ⟨v8, rfl, hr8'⟩ := hok
  have hr9 := hr8.below hb8
  have hb28 := bthen hb27 hb8
  clear hr8 hb27 hb8
  go_wp2_with fail
  refine (parse_any [97, 32, 49] _ (by decide)).mono ?_
  rintro e w9 ⟨hok, hb9⟩
  rw [aw5] at hok
  obtain rfl := hok
  have hr10 := hr9.below hb9
  have hr10' := hr8'.below hb9
  have hb29 := bthen hb28 hb9
  clear hr9 hb28 hb9 hr8'
  have cA := (Fr.of_below (B := 0) hb29 []).blk hA (by simp)
  have cB := (Fr.of_below (B := 0) hb29 []).blk hB (by simp)
  have a0 := cA.cell 0
  have a1 := cA.cell 1
  have b0 := cB.cell 0
  have b1 := cB.cell 1
  simp [kA, vA, kB, vB] at a0 a1 b0 b1
  go_wp2_with fail
  refine (check_any _ [(kB, vB), (kA, vA)] _ (mrow_new w9 [(kB, vB), (kA, vA)] #[.string ⟨kB.toArray⟩, .string ⟨vB.toArray⟩, .string ⟨kA.toArray⟩, .string ⟨vA.toArray⟩] rfl (by decide))).mono ?_
  rintro e w10 ⟨rfl, hb10⟩
  rw [aw3.2.2]
  have hb910 : Below w9.heap.size w9 w10 := ((Below.refl _ _).alloc (Nat.le_refl _) _).trans (hb10.mono (by simp))
  clear hb10
  have hr11 := hr10.below hb910
  have hr11' := hr10'.below hb910
  have cA := (Fr.of_below (B := 0) hb910 []).blk cA (by simp)
  have cB := (Fr.of_below (B := 0) hb910 []).blk cB (by simp)
  have hb30 := bthen hb29 hb910
  clear hb29 hb910 hr10 hr10' a0 a1 b0 b1
  go_wp2_with fail
  refine (check_any _ [(kA, vA), (kB, vB)] _ hr11).mono ?_
  rintro e w11 ⟨rfl, hb11⟩
  rw [aw3.2.1]
  have hr12 := hr11.below hb11
  have hr12' := hr11'.below hb11
  have cA := (Fr.of_below (B := 0) hb11 []).blk cA (by simp)
  have cB := (Fr.of_below (B := 0) hb11 []).blk cB (by simp)
  have hb31 := bthen hb30 hb11
  clear hb30 hb11 hr11 hr11'
  have a0 := cA.cell 0
  have a1 := cA.cell 1
  have b0 := cB.cell 0
  have b1 := cB.cell 1
  simp [kA, vA, kB, vB] at a0 a1 b0 b1
  go_wp2_with fail
  refine (same_any _ _ [(kA, vA), (kB, vB)] _ (hr12.alloc _) (mrow_new w11 [(kA, vA), (kB, vB)] #[.string ⟨kA.toArray⟩, .string ⟨vA.toArray⟩, .string ⟨kB.toArray⟩, .string ⟨vB.toArray⟩] rfl (by decide))).mono ?_
  rintro e w12 ⟨rfl, n12, rfl⟩
  have hb12 : Below w11.heap.size w11 ((w11.alloc (.cells #[.string ⟨kA.toArray⟩, .string ⟨vA.toArray⟩, .string ⟨kB.toArray⟩, .string ⟨vB.toArray⟩] 39)).drewN n12) := below_drewN ((Below.refl _ _).alloc (Nat.le_refl _) _) n12
  have hr13 := hr12.below hb12
  have hr13' := hr12'.below hb12
  have hb32 := bthen hb31 hb12
  clear hb31 hb12 hr12 hr12' a0 a1 b0 b1 cA cB
  generalize (w11.alloc (.cells #[.string ⟨kA.toArray⟩, .string ⟨vA.toArray⟩, .string ⟨kB.toArray⟩, .string ⟨vB.toArray⟩] 39)).drewN n12 = w12 at *
  go_wp2_with fail
  refine (same_any _ _ [(kA, vA), (kB, vB)] _ hr13' hr13).mono ?_
  rintro e w13 ⟨rfl, n13, rfl⟩
  have hb33 := Lib.hid (below_drewN hb32 n13)
  generalize w12.drewN n13 = w13 at *
  go_wp2_with fail
  go_ret
  exact ⟨rfl, hbw.trans (hb33.out.mono hbw.size)⟩
end Go.Proofs.Ytggogfjfkimcgaa
