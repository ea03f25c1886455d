/-
  Walk: the law's awake. (Printed by gen_aw2.py.)
  What is laid before the call.
  Plain laws: scopes: a program that is accepted is accepted as a block; a declaration once more is refused.
-/
import Derived.Test.YtbaidkefobhipaaGreatDoorZS31
import Derived.Test.YtbaidkefobhipaaGreatDoorZS3
import Derived.Test.YtbaidkefobhipaaGreatDoorZS8
namespace Go.Proofs.YtbaidkefobhipaaGreatDoor
open Go.RowKit

theorem bapp (a b : List UInt8) : ((⟨a.toArray⟩ : ByteArray) ++ ⟨b.toArray⟩) = ⟨(a ++ b).toArray⟩ := by
 apply ByteArray.ext
 simp
theorem rep63 : Lib.repeatL [40] 63 ++ [49] = List.replicate 63 40 ++ [49] := by kernel_rfl
theorem rep62 : Lib.repeatL [40] 62 ++ [49] ++ Lib.repeatL [41] 62 ++ [59] = List.replicate 62 40 ++ [49] ++ List.replicate 62 41 ++ [59] := by kernel_rfl
theorem aw1_size : aw1F.size = 6 := rfl
theorem aw1_len : aw1F.len = 1 := rfl
theorem aw_leaf (w : World) (k n : Int) (p : Nat) (t : List UInt8) : NdV w (ndV (hdT k t n p) (.slice none 0 0) (.slice none 0 0)) (hdT k t n p, .nil) :=
 ndv_mk (hdT k t n p) .nil rfl rfl (nmrow_nil w) (frow_nil w)
theorem aw_kid {w : World} (k n : Int) (p : Nat) (t : List UInt8) {x : Option Addr} {m c : Nat} {F : Fo} (hm : m = F.len) (h : FRow w (.slice x m c) F) : NdV w (ndV (hdT k t n p) (.slice none 0 0) (.slice x m c)) (hdT k t n p, F) :=
 ndv_mk (hdT k t n p) F rfl hm (nmrow_nil w) h

set_option maxHeartbeats 8000000 in
set_option maxRecDepth 100000 in
theorem awake_any (w : World) (htab : Lib.TabIs Tryz.prog w "internal/strconv.uint64pow10" .u64 Lib.pow10Tab) :
  Calls Tryz.prog 10 #[] w fun e w' => e = .returned (.bool true) ∧ Below w.heap.size w w' := by
 have hb0 := Below.refl w.heap.size w
 have hb1 := hb0.alloc (by simp <;> omega) (.cells #[.int .i64 1, .string ⟨#[]⟩, .int .i64 1, .slice none 0 0, .slice none 0 0, .int .i64 8] 31)
 have hb2 := hb1.alloc (by simp <;> omega) (.cells #[.int .i64 1, .string ⟨#[]⟩, .int .i64 2, .slice none 0 0, .slice none 0 0, .int .i64 12] 31)
 have hb3 := hb2.alloc (by simp <;> omega) (.cells #[.int .i64 1, .string ⟨#[]⟩, .int .i64 3, .slice none 0 0, .slice none 0 0, .int .i64 16] 31)
 have hb4 := hb3.alloc (by simp <;> omega) (.cells #[.int .i64 1, .string ⟨#[]⟩, .int .i64 2, .slice none 0 0, .slice none 0 0, .int .i64 12, .int .i64 1, .string ⟨#[]⟩, .int .i64 3, .slice none 0 0, .slice none 0 0, .int .i64 16] 31)
 have hb5 := hb4.alloc (by simp <;> omega) (.cells #[.int .i64 6, .string ⟨#[42]⟩, .int .i64 0, .slice none 0 0, .slice (some ⟨w.heap.size + 1 + 1 + 1, 0, none⟩) 2 2, .int .i64 14] 31)
 have hb6 := hb5.alloc (by simp <;> omega) (.cells #[.int .i64 1, .string ⟨#[]⟩, .int .i64 1, .slice none 0 0, .slice none 0 0, .int .i64 8, .int .i64 6, .string ⟨#[42]⟩, .int .i64 0, .slice none 0 0, .slice (some ⟨w.heap.size + 1 + 1 + 1, 0, none⟩) 2 2, .int .i64 14] 31)
 have hb7 := hb6.alloc (by simp <;> omega) (.cells #[.int .i64 6, .string ⟨#[43]⟩, .int .i64 0, .slice none 0 0, .slice (some ⟨w.heap.size + 1 + 1 + 1 + 1 + 1, 0, none⟩) 2 2, .int .i64 10] 31)
 have hk3 : Blk (((((((w.alloc (.cells #[.int .i64 1, .string ⟨#[]⟩, .int .i64 1, .slice none 0 0, .slice none 0 0, .int .i64 8] 31)).alloc (.cells #[.int .i64 1, .string ⟨#[]⟩, .int .i64 2, .slice none 0 0, .slice none 0 0, .int .i64 12] 31)).alloc (.cells #[.int .i64 1, .string ⟨#[]⟩, .int .i64 3, .slice none 0 0, .slice none 0 0, .int .i64 16] 31)).alloc (.cells #[.int .i64 1, .string ⟨#[]⟩, .int .i64 2, .slice none 0 0, .slice none 0 0, .int .i64 12, .int .i64 1, .string ⟨#[]⟩, .int .i64 3, .slice none 0 0, .slice none 0 0, .int .i64 16] 31)).alloc (.cells #[.int .i64 6, .string ⟨#[42]⟩, .int .i64 0, .slice none 0 0, .slice (some ⟨w.heap.size + 1 + 1 + 1, 0, none⟩) 2 2, .int .i64 14] 31)).alloc (.cells #[.int .i64 1, .string ⟨#[]⟩, .int .i64 1, .slice none 0 0, .slice none 0 0, .int .i64 8, .int .i64 6, .string ⟨#[42]⟩, .int .i64 0, .slice none 0 0, .slice (some ⟨w.heap.size + 1 + 1 + 1, 0, none⟩) 2 2, .int .i64 14] 31)).alloc (.cells #[.int .i64 6, .string ⟨#[43]⟩, .int .i64 0, .slice none 0 0, .slice (some ⟨w.heap.size + 1 + 1 + 1 + 1 + 1, 0, none⟩) 2 2, .int .i64 10] 31)) (w.heap.size + 1 + 1 + 1) 31 #[.int .i64 1, .string ⟨#[]⟩, .int .i64 2, .slice none 0 0, .slice none 0 0, .int .i64 12, .int .i64 1, .string ⟨#[]⟩, .int .i64 3, .slice none 0 0, .slice none 0 0, .int .i64 16] := (((Blk.new_at (w := (((w.alloc (.cells #[.int .i64 1, .string ⟨#[]⟩, .int .i64 1, .slice none 0 0, .slice none 0 0, .int .i64 8] 31)).alloc (.cells #[.int .i64 1, .string ⟨#[]⟩, .int .i64 2, .slice none 0 0, .slice none 0 0, .int .i64 12] 31)).alloc (.cells #[.int .i64 1, .string ⟨#[]⟩, .int .i64 3, .slice none 0 0, .slice none 0 0, .int .i64 16] 31))) (k := w.heap.size + 1 + 1 + 1) (by simp) 31 #[.int .i64 1, .string ⟨#[]⟩, .int .i64 2, .slice none 0 0, .slice none 0 0, .int .i64 12, .int .i64 1, .string ⟨#[]⟩, .int .i64 3, .slice none 0 0, .slice none 0 0, .int .i64 16]).alloc (.cells #[.int .i64 6, .string ⟨#[42]⟩, .int .i64 0, .slice none 0 0, .slice (some ⟨w.heap.size + 1 + 1 + 1, 0, none⟩) 2 2, .int .i64 14] 31)).alloc (.cells #[.int .i64 1, .string ⟨#[]⟩, .int .i64 1, .slice none 0 0, .slice none 0 0, .int .i64 8, .int .i64 6, .string ⟨#[42]⟩, .int .i64 0, .slice none 0 0, .slice (some ⟨w.heap.size + 1 + 1 + 1, 0, none⟩) 2 2, .int .i64 14] 31)).alloc (.cells #[.int .i64 6, .string ⟨#[43]⟩, .int .i64 0, .slice none 0 0, .slice (some ⟨w.heap.size + 1 + 1 + 1 + 1 + 1, 0, none⟩) 2 2, .int .i64 10] 31)
 have hk5 : Blk (((((((w.alloc (.cells #[.int .i64 1, .string ⟨#[]⟩, .int .i64 1, .slice none 0 0, .slice none 0 0, .int .i64 8] 31)).alloc (.cells #[.int .i64 1, .string ⟨#[]⟩, .int .i64 2, .slice none 0 0, .slice none 0 0, .int .i64 12] 31)).alloc (.cells #[.int .i64 1, .string ⟨#[]⟩, .int .i64 3, .slice none 0 0, .slice none 0 0, .int .i64 16] 31)).alloc (.cells #[.int .i64 1, .string ⟨#[]⟩, .int .i64 2, .slice none 0 0, .slice none 0 0, .int .i64 12, .int .i64 1, .string ⟨#[]⟩, .int .i64 3, .slice none 0 0, .slice none 0 0, .int .i64 16] 31)).alloc (.cells #[.int .i64 6, .string ⟨#[42]⟩, .int .i64 0, .slice none 0 0, .slice (some ⟨w.heap.size + 1 + 1 + 1, 0, none⟩) 2 2, .int .i64 14] 31)).alloc (.cells #[.int .i64 1, .string ⟨#[]⟩, .int .i64 1, .slice none 0 0, .slice none 0 0, .int .i64 8, .int .i64 6, .string ⟨#[42]⟩, .int .i64 0, .slice none 0 0, .slice (some ⟨w.heap.size + 1 + 1 + 1, 0, none⟩) 2 2, .int .i64 14] 31)).alloc (.cells #[.int .i64 6, .string ⟨#[43]⟩, .int .i64 0, .slice none 0 0, .slice (some ⟨w.heap.size + 1 + 1 + 1 + 1 + 1, 0, none⟩) 2 2, .int .i64 10] 31)) (w.heap.size + 1 + 1 + 1 + 1 + 1) 31 #[.int .i64 1, .string ⟨#[]⟩, .int .i64 1, .slice none 0 0, .slice none 0 0, .int .i64 8, .int .i64 6, .string ⟨#[42]⟩, .int .i64 0, .slice none 0 0, .slice (some ⟨w.heap.size + 1 + 1 + 1, 0, none⟩) 2 2, .int .i64 14] := (Blk.new_at (w := (((((w.alloc (.cells #[.int .i64 1, .string ⟨#[]⟩, .int .i64 1, .slice none 0 0, .slice none 0 0, .int .i64 8] 31)).alloc (.cells #[.int .i64 1, .string ⟨#[]⟩, .int .i64 2, .slice none 0 0, .slice none 0 0, .int .i64 12] 31)).alloc (.cells #[.int .i64 1, .string ⟨#[]⟩, .int .i64 3, .slice none 0 0, .slice none 0 0, .int .i64 16] 31)).alloc (.cells #[.int .i64 1, .string ⟨#[]⟩, .int .i64 2, .slice none 0 0, .slice none 0 0, .int .i64 12, .int .i64 1, .string ⟨#[]⟩, .int .i64 3, .slice none 0 0, .slice none 0 0, .int .i64 16] 31)).alloc (.cells #[.int .i64 6, .string ⟨#[42]⟩, .int .i64 0, .slice none 0 0, .slice (some ⟨w.heap.size + 1 + 1 + 1, 0, none⟩) 2 2, .int .i64 14] 31))) (k := w.heap.size + 1 + 1 + 1 + 1 + 1) (by simp) 31 #[.int .i64 1, .string ⟨#[]⟩, .int .i64 1, .slice none 0 0, .slice none 0 0, .int .i64 8, .int .i64 6, .string ⟨#[42]⟩, .int .i64 0, .slice none 0 0, .slice (some ⟨w.heap.size + 1 + 1 + 1, 0, none⟩) 2 2, .int .i64 14]).alloc (.cells #[.int .i64 6, .string ⟨#[43]⟩, .int .i64 0, .slice none 0 0, .slice (some ⟨w.heap.size + 1 + 1 + 1 + 1 + 1, 0, none⟩) 2 2, .int .i64 10] 31)
 have hk6 : Blk (((((((w.alloc (.cells #[.int .i64 1, .string ⟨#[]⟩, .int .i64 1, .slice none 0 0, .slice none 0 0, .int .i64 8] 31)).alloc (.cells #[.int .i64 1, .string ⟨#[]⟩, .int .i64 2, .slice none 0 0, .slice none 0 0, .int .i64 12] 31)).alloc (.cells #[.int .i64 1, .string ⟨#[]⟩, .int .i64 3, .slice none 0 0, .slice none 0 0, .int .i64 16] 31)).alloc (.cells #[.int .i64 1, .string ⟨#[]⟩, .int .i64 2, .slice none 0 0, .slice none 0 0, .int .i64 12, .int .i64 1, .string ⟨#[]⟩, .int .i64 3, .slice none 0 0, .slice none 0 0, .int .i64 16] 31)).alloc (.cells #[.int .i64 6, .string ⟨#[42]⟩, .int .i64 0, .slice none 0 0, .slice (some ⟨w.heap.size + 1 + 1 + 1, 0, none⟩) 2 2, .int .i64 14] 31)).alloc (.cells #[.int .i64 1, .string ⟨#[]⟩, .int .i64 1, .slice none 0 0, .slice none 0 0, .int .i64 8, .int .i64 6, .string ⟨#[42]⟩, .int .i64 0, .slice none 0 0, .slice (some ⟨w.heap.size + 1 + 1 + 1, 0, none⟩) 2 2, .int .i64 14] 31)).alloc (.cells #[.int .i64 6, .string ⟨#[43]⟩, .int .i64 0, .slice none 0 0, .slice (some ⟨w.heap.size + 1 + 1 + 1 + 1 + 1, 0, none⟩) 2 2, .int .i64 10] 31)) (w.heap.size + 1 + 1 + 1 + 1 + 1 + 1) 31 #[.int .i64 6, .string ⟨#[43]⟩, .int .i64 0, .slice none 0 0, .slice (some ⟨w.heap.size + 1 + 1 + 1 + 1 + 1, 0, none⟩) 2 2, .int .i64 10] := (Blk.new_at (w := ((((((w.alloc (.cells #[.int .i64 1, .string ⟨#[]⟩, .int .i64 1, .slice none 0 0, .slice none 0 0, .int .i64 8] 31)).alloc (.cells #[.int .i64 1, .string ⟨#[]⟩, .int .i64 2, .slice none 0 0, .slice none 0 0, .int .i64 12] 31)).alloc (.cells #[.int .i64 1, .string ⟨#[]⟩, .int .i64 3, .slice none 0 0, .slice none 0 0, .int .i64 16] 31)).alloc (.cells #[.int .i64 1, .string ⟨#[]⟩, .int .i64 2, .slice none 0 0, .slice none 0 0, .int .i64 12, .int .i64 1, .string ⟨#[]⟩, .int .i64 3, .slice none 0 0, .slice none 0 0, .int .i64 16] 31)).alloc (.cells #[.int .i64 6, .string ⟨#[42]⟩, .int .i64 0, .slice none 0 0, .slice (some ⟨w.heap.size + 1 + 1 + 1, 0, none⟩) 2 2, .int .i64 14] 31)).alloc (.cells #[.int .i64 1, .string ⟨#[]⟩, .int .i64 1, .slice none 0 0, .slice none 0 0, .int .i64 8, .int .i64 6, .string ⟨#[42]⟩, .int .i64 0, .slice none 0 0, .slice (some ⟨w.heap.size + 1 + 1 + 1, 0, none⟩) 2 2, .int .i64 14] 31))) (k := w.heap.size + 1 + 1 + 1 + 1 + 1 + 1) (by simp) 31 #[.int .i64 6, .string ⟨#[43]⟩, .int .i64 0, .slice none 0 0, .slice (some ⟨w.heap.size + 1 + 1 + 1 + 1 + 1, 0, none⟩) 2 2, .int .i64 10])
 have HB := zH hb7
 have HTAB := zH (tab_below htab hb7)
 have HK3 := zH hk3
 have HK5 := zH hk5
 have HK6 := zH hk6
 have HPR := zH (prog_ok (s := ⟨#[108, 101, 116, 32, 120, 32, 61, 32, 49, 32, 43, 32, 50, 32, 42, 32, 51, 59]⟩) ev1 (((((((w.alloc (.cells #[.int .i64 1, .string ⟨#[]⟩, .int .i64 1, .slice none 0 0, .slice none 0 0, .int .i64 8] 31)).alloc (.cells #[.int .i64 1, .string ⟨#[]⟩, .int .i64 2, .slice none 0 0, .slice none 0 0, .int .i64 12] 31)).alloc (.cells #[.int .i64 1, .string ⟨#[]⟩, .int .i64 3, .slice none 0 0, .slice none 0 0, .int .i64 16] 31)).alloc (.cells #[.int .i64 1, .string ⟨#[]⟩, .int .i64 2, .slice none 0 0, .slice none 0 0, .int .i64 12, .int .i64 1, .string ⟨#[]⟩, .int .i64 3, .slice none 0 0, .slice none 0 0, .int .i64 16] 31)).alloc (.cells #[.int .i64 6, .string ⟨#[42]⟩, .int .i64 0, .slice none 0 0, .slice (some ⟨w.heap.size + 1 + 1 + 1, 0, none⟩) 2 2, .int .i64 14] 31)).alloc (.cells #[.int .i64 1, .string ⟨#[]⟩, .int .i64 1, .slice none 0 0, .slice none 0 0, .int .i64 8, .int .i64 6, .string ⟨#[42]⟩, .int .i64 0, .slice none 0 0, .slice (some ⟨w.heap.size + 1 + 1 + 1, 0, none⟩) 2 2, .int .i64 14] 31)).alloc (.cells #[.int .i64 6, .string ⟨#[43]⟩, .int .i64 0, .slice none 0 0, .slice (some ⟨w.heap.size + 1 + 1 + 1 + 1 + 1, 0, none⟩) 2 2, .int .i64 10] 31)) (by unfold maxLen; decide))
 clear htab hb0 hb1 hb2 hb3 hb4 hb5 hb6 hb7 hk3 hk5 hk6
 go_enter Tryz.func10, Tryz.ntmps10
 go_upto_region 4 with fail
 generalize (((((((w.alloc (.cells #[.int .i64 1, .string ⟨#[]⟩, .int .i64 1, .slice none 0 0, .slice none 0 0, .int .i64 8] 31)).alloc (.cells #[.int .i64 1, .string ⟨#[]⟩, .int .i64 2, .slice none 0 0, .slice none 0 0, .int .i64 12] 31)).alloc (.cells #[.int .i64 1, .string ⟨#[]⟩, .int .i64 3, .slice none 0 0, .slice none 0 0, .int .i64 16] 31)).alloc (.cells #[.int .i64 1, .string ⟨#[]⟩, .int .i64 2, .slice none 0 0, .slice none 0 0, .int .i64 12, .int .i64 1, .string ⟨#[]⟩, .int .i64 3, .slice none 0 0, .slice none 0 0, .int .i64 16] 31)).alloc (.cells #[.int .i64 6, .string ⟨#[42]⟩, .int .i64 0, .slice none 0 0, .slice (some ⟨w.heap.size + 1 + 1 + 1, 0, none⟩) 2 2, .int .i64 14] 31)).alloc (.cells #[.int .i64 1, .string ⟨#[]⟩, .int .i64 1, .slice none 0 0, .slice none 0 0, .int .i64 8, .int .i64 6, .string ⟨#[42]⟩, .int .i64 0, .slice none 0 0, .slice (some ⟨w.heap.size + 1 + 1 + 1, 0, none⟩) 2 2, .int .i64 14] 31)).alloc (.cells #[.int .i64 6, .string ⟨#[43]⟩, .int .i64 0, .slice none 0 0, .slice (some ⟨w.heap.size + 1 + 1 + 1 + 1 + 1, 0, none⟩) 2 2, .int .i64 10] 31)) = wa at *
 generalize hKe : w.heap.size = K at *
 go_wp2_with fail
 refine HPR.out.mono ?_
 rintro e w1 ⟨⟨x, c, rfl, hr⟩, hb⟩
 rw [aw1_len] at hr ⊢
 have HR := zH hr
 have HB1 := zH (HB.out.trans (hb.mono (by rw [← hKe]; exact HB.out.size)))
 have HT1 := zH (tab_below HTAB.out hb)
 have HK3 : Hid (Blk w1 (K + 1 + 1 + 1) 31 #[.int .i64 1, .string ⟨#[]⟩, .int .i64 2, .slice none 0 0, .slice none 0 0, .int .i64 12, .int .i64 1, .string ⟨#[]⟩, .int .i64 3, .slice none 0 0, .slice none 0 0, .int .i64 16]) := (hb.block _ HK3.out.lt).trans HK3.out
 have HK5 : Hid (Blk w1 (K + 1 + 1 + 1 + 1 + 1) 31 #[.int .i64 1, .string ⟨#[]⟩, .int .i64 1, .slice none 0 0, .slice none 0 0, .int .i64 8, .int .i64 6, .string ⟨#[42]⟩, .int .i64 0, .slice none 0 0, .slice (some ⟨K + 1 + 1 + 1, 0, none⟩) 2 2, .int .i64 14]) := (hb.block _ HK5.out.lt).trans HK5.out
 have HK6 : Hid (Blk w1 (K + 1 + 1 + 1 + 1 + 1 + 1) 31 #[.int .i64 6, .string ⟨#[43]⟩, .int .i64 0, .slice none 0 0, .slice (some ⟨K + 1 + 1 + 1 + 1 + 1, 0, none⟩) 2 2, .int .i64 10]) := (hb.block _ HK6.out.lt).trans HK6.out
 clear hb hr HPR HB HTAB
 have y0 : w1.cell? ⟨K + 1 + 1 + 1 + 1 + 1 + 1, 0, none⟩ = some (.int .i64 6) := HK6.out.cell 0
 have y1 : w1.cell? ⟨K + 1 + 1 + 1 + 1 + 1 + 1, 1, none⟩ = some (.string ⟨#[43]⟩) := HK6.out.cell 1
 have y2 : w1.cell? ⟨K + 1 + 1 + 1 + 1 + 1 + 1, 2, none⟩ = some (.int .i64 0) := HK6.out.cell 2
 have y3 : w1.cell? ⟨K + 1 + 1 + 1 + 1 + 1 + 1, 3, none⟩ = some (.slice none 0 0) := HK6.out.cell 3
 have y4 : w1.cell? ⟨K + 1 + 1 + 1 + 1 + 1 + 1, 4, none⟩ = some (.slice (some ⟨K + 1 + 1 + 1 + 1 + 1, 0, none⟩) 2 2) := HK6.out.cell 4
 have y5 : w1.cell? ⟨K + 1 + 1 + 1 + 1 + 1 + 1, 5, none⟩ = some (.int .i64 10) := HK6.out.cell 5
 have ha1 := (Below.refl w1.heap.size w1).alloc (Nat.le_refl _) (.cells #[.int .i64 6, .string ⟨#[43]⟩, .int .i64 0, .slice none 0 0, .slice (some ⟨K + 1 + 1 + 1 + 1 + 1, 0, none⟩) 2 2, .int .i64 10] 31)
 have ha2 := ha1.alloc (by simp) (.cells #[.int .i64 20, .string ⟨#[120]⟩, .int .i64 0, .slice none 0 0, .slice (some ⟨w1.heap.size, 0, none⟩) 1 1, .int .i64 0] 31)
 have q1 : Blk ((w1.alloc (.cells #[.int .i64 6, .string ⟨#[43]⟩, .int .i64 0, .slice none 0 0, .slice (some ⟨K + 1 + 1 + 1 + 1 + 1, 0, none⟩) 2 2, .int .i64 10] 31)).alloc (.cells #[.int .i64 20, .string ⟨#[120]⟩, .int .i64 0, .slice none 0 0, .slice (some ⟨w1.heap.size, 0, none⟩) 1 1, .int .i64 0] 31)) w1.heap.size 31 #[.int .i64 6, .string ⟨#[43]⟩, .int .i64 0, .slice none 0 0, .slice (some ⟨K + 1 + 1 + 1 + 1 + 1, 0, none⟩) 2 2, .int .i64 10] := (Blk.new w1 31 #[.int .i64 6, .string ⟨#[43]⟩, .int .i64 0, .slice none 0 0, .slice (some ⟨K + 1 + 1 + 1 + 1 + 1, 0, none⟩) 2 2, .int .i64 10]).alloc _
 have q2 : Blk ((w1.alloc (.cells #[.int .i64 6, .string ⟨#[43]⟩, .int .i64 0, .slice none 0 0, .slice (some ⟨K + 1 + 1 + 1 + 1 + 1, 0, none⟩) 2 2, .int .i64 10] 31)).alloc (.cells #[.int .i64 20, .string ⟨#[120]⟩, .int .i64 0, .slice none 0 0, .slice (some ⟨w1.heap.size, 0, none⟩) 1 1, .int .i64 0] 31)) (w1.heap.size + 1) 31 #[.int .i64 20, .string ⟨#[120]⟩, .int .i64 0, .slice none 0 0, .slice (some ⟨w1.heap.size, 0, none⟩) 1 1, .int .i64 0] := Blk.new_at (w := w1.alloc (.cells #[.int .i64 6, .string ⟨#[43]⟩, .int .i64 0, .slice none 0 0, .slice (some ⟨K + 1 + 1 + 1 + 1 + 1, 0, none⟩) 2 2, .int .i64 10] 31)) (by simp) 31 _
 have HL : Hid (FRow ((w1.alloc (.cells #[.int .i64 6, .string ⟨#[43]⟩, .int .i64 0, .slice none 0 0, .slice (some ⟨K + 1 + 1 + 1 + 1 + 1, 0, none⟩) 2 2, .int .i64 10] 31)).alloc (.cells #[.int .i64 20, .string ⟨#[120]⟩, .int .i64 0, .slice none 0 0, .slice (some ⟨w1.heap.size, 0, none⟩) 1 1, .int .i64 0] 31)) (.slice (some ⟨w1.heap.size + 1, 0, none⟩) 1 1) aw1F) := by
  have p3 := frow_blk (S := fun _ => true) ((ha2.block _ HK3.out.lt).trans HK3.out) rfl (FCl.two (aw_leaf _ 1 2 12 []) (aw_leaf _ 1 3 16 [])) (by decide)
  have p5 := frow_blk (S := fun _ => true) ((ha2.block _ HK5.out.lt).trans HK5.out) rfl (FCl.two (aw_leaf _ 1 1 8 []) (aw_kid 6 0 14 [42] rfl p3)) (by decide)
  have p6 := frow_blk (S := fun _ => true) q1 rfl (FCl.one (aw_kid 6 0 10 [43] rfl p5)) (by decide)
  have p7 := frow_blk (S := fun _ => true) q2 rfl (FCl.one (aw_kid 20 0 0 [120] rfl p6)) (by decide)
  exact p7.sub (unmask _ _)
 have HA2 := zH ha2
 have HEQ := zH (equal_same aw1F _ _ _ (HR.out.below ha2) HL.out)
 clear ha1 ha2 q1 q2
 go_wp2_with fail
 refine HEQ.out.mono ?_
 rintro e w2 ⟨rfl, hb⟩
 have hb2 := HA2.out.trans (hb.mono (by simp; omega))
 have HR2 := zH (HR.out.below hb2)
 have HB2 := zH (HB1.out.trans (hb2.mono (by rw [← hKe]; exact HB1.out.size)))
 have HT2 := zH (tab_below HT1.out hb2)
 have HSZ := zH (size_any aw1F _ w2 HR2.out)
 rw [aw1_size, show wrap64 ((6 : Nat) : Int) = 6 from wrap64_of _ (by omega)] at HSZ
 clear hb hb2 HL HEQ HA2 HR HB1 HT1 y0 y1 y2 y3 y4 y5
 go_wp2_with fail
 refine HSZ.out.mono ?_
 rintro e w3 ⟨rfl, hb⟩
 have HR3 := zH (HR2.out.below hb)
 have HB3 := zH (HB2.out.trans (hb.mono (by rw [← hKe]; exact HB2.out.size)))
 have HT3 := zH (tab_below HT2.out hb)
 have HSA := zH (same_any aw1F aw1F _ _ w3 HR3.out HR3.out)
 rw [Fo.sameF_refl] at HSA
 clear hb HSZ HR2 HB2 HT2
 go_wp2_with fail
 refine HSA.out.mono ?_
 rintro e w4 ⟨rfl, hb⟩
 have HR4 := zH (HR3.out.below hb)
 have HB4 := zH (HB3.out.trans (hb.mono (by rw [← hKe]; exact HB3.out.size)))
 have HT4 := zH (tab_below HT3.out hb)
 have HSB := zH (same_any aw1F .nil _ _ w4 HR4.out (frow_nil w4))
 rw [show Fo.sameF aw1F .nil = false from rfl] at HSB
 clear hb HSA HR3 HB3 HT3
 go_wp2_with fail
 refine HSB.out.mono ?_
 rintro e w5 ⟨rfl, hb⟩
 have HB5 := zH (HB4.out.trans (hb.mono (by rw [← hKe]; exact HB4.out.size)))
 have HT5 := zH (tab_below HT4.out hb)
 clear hb HSB HR4 HB4 HT4
 go_upto_region 7 with fail
 have HF := zH (fails_err ⟨#[97, 32, 60, 32, 98, 32, 60, 32, 99, 59]⟩ 6 18 ev2 w5 (by unfold maxLen; decide))
 go_wp2_with fail
 refine HF.out.mono ?_
 rintro e w6 ⟨rfl, hb⟩
 have HB6 := zH (HB5.out.trans (hb.mono (by rw [← hKe]; exact HB5.out.size)))
 have HT6 := zH (tab_below HT5.out hb)
 clear hb HB5 HT5 HF
 have HF := zH (fails_err ⟨#[108, 101, 116, 32, 49]⟩ 4 18 ev3 w6 (by unfold maxLen; decide))
 go_wp2_with fail
 refine HF.out.mono ?_
 rintro e w7 ⟨rfl, hb⟩
 have HB7 := zH (HB6.out.trans (hb.mono (by rw [← hKe]; exact HB6.out.size)))
 have HT7 := zH (tab_below HT6.out hb)
 clear hb HB6 HT6 HF
 have HF := zH (fails_err ⟨#[102, 40]⟩ 2 18 ev4 w7 (by unfold maxLen; decide))
 go_wp2_with fail
 refine HF.out.mono ?_
 rintro e w8 ⟨rfl, hb⟩
 have HB8 := zH (HB7.out.trans (hb.mono (by rw [← hKe]; exact HB7.out.size)))
 have HT8 := zH (tab_below HT7.out hb)
 clear hb HB7 HT7 HF
 have HRP := zH (Tryz.strings_Repeat ⟨#[40]⟩ 63 w8 (by decide) (by decide))
 obtain ⟨ra, hra⟩ : ∃ r, Lib.repeatL (⟨#[40]⟩ : ByteArray).data.toList 63 = r := ⟨_, rfl⟩
 rw [hra] at HRP
 have HRA := zH hra
 clear hra
 go_wp2_with fail
 refine HRP.out.mono ?_
 rintro e w9 ⟨rfl, hb⟩
 have HB9 := zH (HB8.out.trans (hb.mono (by rw [← hKe]; exact HB8.out.size)))
 have HT9 := zH (tab_below HT8.out hb)
 clear hb HB8 HT8 HRP
 have hse : ((⟨ra.toArray⟩ : ByteArray) ++ ⟨#[49]⟩).data.toList = List.replicate 63 40 ++ [49] := by rw [bapp ra [49]]; show ra ++ [49] = _; rw [← HRA.out]; exact rep63
 have hra63 : ra.length = 63 := by rw [← HRA.out]; rfl
 have hnra : ¬ (9223372036854775807 < ra.length + 1) := by omega
 obtain ⟨sa, hsa⟩ : ∃ s, (⟨ra.toArray⟩ : ByteArray) ++ ⟨#[49]⟩ = s := ⟨_, rfl⟩
 have hsl : sa.size ≤ maxLen := by
  have h1 : sa.size = 64 := by rw [← hsa, bapp ra [49]]; show (ra ++ [49]).toArray.size = 64; simp; omega
  rw [h1]; unfold maxLen; decide
 rw [hsa] at hse
 have HF := zH (fails_err sa 63 12 (by rw [hse]; exact ev5) w9 hsl)
 clear hse hsl hra63
 go_wp2_with fail
 refine HF.out.mono ?_
 rintro e w10 ⟨rfl, hb⟩
 have HB10 := zH (HB9.out.trans (hb.mono (by rw [← hKe]; exact HB9.out.size)))
 have HT10 := zH (tab_below HT9.out hb)
 clear hb HB9 HT9 HF hnra HRA
 clear hsa
 have HRP := zH (Tryz.strings_Repeat ⟨#[40]⟩ 62 w10 (by decide) (by decide))
 obtain ⟨rb, hrb⟩ : ∃ r, Lib.repeatL (⟨#[40]⟩ : ByteArray).data.toList 62 = r := ⟨_, rfl⟩
 rw [hrb] at HRP
 have HRB := zH hrb
 clear hrb
 go_wp2_with fail
 refine HRP.out.mono ?_
 rintro e w11 ⟨rfl, hb⟩
 have HB11 := zH (HB10.out.trans (hb.mono (by rw [← hKe]; exact HB10.out.size)))
 have HT11 := zH (tab_below HT10.out hb)
 clear hb HB10 HT10 HRP
 have hrb62 : rb.length = 62 := by rw [← HRB.out]; rfl
 have hnrb : ¬ (9223372036854775807 < rb.length + 1) := by omega
 obtain ⟨sb, hsb⟩ : ∃ s, (⟨rb.toArray⟩ : ByteArray) ++ ⟨#[49]⟩ = s := ⟨_, rfl⟩
 have hsb2 : sb = ⟨(rb ++ [49]).toArray⟩ := by rw [← hsb]; exact bapp rb [49]
 have HSB2 := zH hsb2
 have HRB62 := zH hrb62
 clear hsb2 hrb62
 have HRP := zH (Tryz.strings_Repeat ⟨#[41]⟩ 62 w11 (by decide) (by decide))
 obtain ⟨rc, hrc⟩ : ∃ r, Lib.repeatL (⟨#[41]⟩ : ByteArray).data.toList 62 = r := ⟨_, rfl⟩
 rw [hrc] at HRP
 have HRC := zH hrc
 clear hrc
 go_wp2_with fail
 refine HRP.out.mono ?_
 rintro e w12 ⟨rfl, hb⟩
 have HB12 := zH (HB11.out.trans (hb.mono (by rw [← hKe]; exact HB11.out.size)))
 have HT12 := zH (tab_below HT11.out hb)
 clear hb HB11 HT11 HRP
 have hrc62 : rc.length = 62 := by rw [← HRC.out]; rfl
 have hsbz : sb.size = 63 := by rw [HSB2.out]; show (rb ++ [49]).toArray.size = 63; simp; exact HRB62.out
 have hn1 : ¬ (9223372036854775807 < sb.size + rc.length) := by omega
 have hn2 : ¬ (9223372036854775807 < sb.size + rc.length + 1) := by omega
 obtain ⟨sd, hsd⟩ : ∃ s, sb ++ ⟨rc.toArray⟩ ++ (⟨#[59]⟩ : ByteArray) = s := ⟨_, rfl⟩
 have hsd2 : sd = ⟨(rb ++ [49] ++ rc ++ [59]).toArray⟩ := by rw [← hsd, HSB2.out, bapp (rb ++ [49]) rc]; exact bapp (rb ++ [49] ++ rc) [59]
 have hse : sd.data.toList = List.replicate 62 40 ++ [49] ++ List.replicate 62 41 ++ [59] := by rw [hsd2]; show rb ++ [49] ++ rc ++ [59] = _; rw [← HRB.out, ← HRC.out]; exact rep62
 have hsl : sd.size ≤ maxLen := by
  have h1 : sd.size = 126 := by rw [hsd2]; show (rb ++ [49] ++ rc ++ [59]).toArray.size = 126; simp; have := HRB62.out; omega
  rw [h1]; unfold maxLen; decide
 have hok := okB_ok ev6
 obtain ⟨Fq, hFq, hFl⟩ := hok
 have HF := zH (fails_ok sd Fq (by rw [hse]; exact hFq) hFl w12 hsl)
 clear hse hsl hrc62 hsbz hsd2 HRB62 HSB2 HRB HRC hFq hFl
 go_wp2_with fail
 refine HF.out.mono ?_
 rintro e w13 ⟨rfl, hb⟩
 have HB13 := zH (HB12.out.trans (hb.mono (by rw [← hKe]; exact HB12.out.size)))
 have HT13 := zH (tab_below HT12.out hb)
 clear hb HB12 HT12 HF hsb hsd hn1 hn2 hnrb
 go_upto_region 9 with fail
 have HF := zH (prints_any ⟨#[105, 102, 32, 97, 123, 102, 40, 49, 44, 91, 50, 93, 41, 59, 125]⟩ ⟨#[105, 102, 32, 97, 32, 123, 10, 32, 32, 102, 40, 49, 44, 32, 91, 50, 93, 41, 59, 10, 125, 10]⟩ ev7 w13 (by unfold maxLen; decide) HT13.out)
 go_wp2_with fail
 refine HF.out.mono ?_
 rintro e w14 ⟨rfl, hb⟩
 have HB14 := zH (HB13.out.trans (hb.mono (by rw [← hKe]; exact HB13.out.size)))
 have HT14 := zH (tab_below HT13.out hb)
 clear hb HB13 HT13 HF
 have HF := zH (prints_any ⟨#[40, 49, 43, 50, 41, 42, 51, 59]⟩ ⟨#[40, 49, 32, 43, 32, 50, 41, 32, 42, 32, 51, 59, 10]⟩ ev8 w14 (by unfold maxLen; decide) HT14.out)
 go_wp2_with fail
 refine HF.out.mono ?_
 rintro e w15 ⟨rfl, hb⟩
 have HB15 := zH (HB14.out.trans (hb.mono (by rw [← hKe]; exact HB14.out.size)))
 have HT15 := zH (tab_below HT14.out hb)
 clear hb HB14 HT14 HF
 have HF := zH (prints_any ⟨#[40, 97, 45, 98, 41, 45, 99, 59, 97, 45, 40, 98, 45, 99, 41, 59]⟩ ⟨#[97, 32, 45, 32, 98, 32, 45, 32, 99, 59, 10, 97, 32, 45, 32, 40, 98, 32, 45, 32, 99, 41, 59, 10]⟩ ev9 w15 (by unfold maxLen; decide) HT15.out)
 go_wp2_with fail
 refine HF.out.mono ?_
 rintro e w16 ⟨rfl, hb⟩
 have HB16 := zH (HB15.out.trans (hb.mono (by rw [← hKe]; exact HB15.out.size)))
 have HT16 := zH (tab_below HT15.out hb)
 clear hb HB15 HT15 HF
 go_upto_region 11 with fail
 have HF := zH (finds_any ⟨#[120, 32, 61, 32, 49, 59]⟩ 0 13 ev10 w16 (by unfold maxLen; decide))
 go_wp2_with fail
 refine HF.out.mono ?_
 rintro e w17 ⟨rfl, hb⟩
 have HB17 := zH (HB16.out.trans (hb.mono (by rw [← hKe]; exact HB16.out.size)))
 have HT17 := zH (tab_below HT16.out hb)
 clear hb HB16 HT16 HF
 have HF := zH (finds_any ⟨#[108, 101, 116, 32, 120, 32, 61, 32, 120, 59]⟩ 8 13 ev11 w17 (by unfold maxLen; decide))
 go_wp2_with fail
 refine HF.out.mono ?_
 rintro e w18 ⟨rfl, hb⟩
 have HB18 := zH (HB17.out.trans (hb.mono (by rw [← hKe]; exact HB17.out.size)))
 have HT18 := zH (tab_below HT17.out hb)
 clear hb HB17 HT17 HF
 have HF := zH (finds_any ⟨#[108, 101, 116, 32, 120, 32, 61, 32, 49, 59, 32, 108, 101, 116, 32, 120, 32, 61, 32, 50, 59]⟩ 11 10 ev12 w18 (by unfold maxLen; decide))
 go_wp2_with fail
 refine HF.out.mono ?_
 rintro e w19 ⟨rfl, hb⟩
 have HB19 := zH (HB18.out.trans (hb.mono (by rw [← hKe]; exact HB18.out.size)))
 have HT19 := zH (tab_below HT18.out hb)
 clear hb HB18 HT18 HF
 have HF := zH (finds_any ⟨#[123, 32, 102, 110, 32, 102, 40, 41, 32, 123, 32, 125, 32, 125]⟩ 2 14 ev13 w19 (by unfold maxLen; decide))
 go_wp2_with fail
 refine HF.out.mono ?_
 rintro e w20 ⟨rfl, hb⟩
 have HB20 := zH (HB19.out.trans (hb.mono (by rw [← hKe]; exact HB19.out.size)))
 have HT20 := zH (tab_below HT19.out hb)
 clear hb HB19 HT19 HF
 have HF := zH (finds_any ⟨#[108, 101, 116, 32, 120, 32, 61, 32, 49, 59, 32, 123, 32, 108, 101, 116, 32, 120, 32, 61, 32, 120, 59, 32, 125]⟩ 0 0 ev14 w20 (by unfold maxLen; decide))
 go_wp2_with fail
 refine HF.out.mono ?_
 rintro e w21 ⟨rfl, hb⟩
 have HB21 := zH (HB20.out.trans (hb.mono (by rw [← hKe]; exact HB20.out.size)))
 have HT21 := zH (tab_below HT20.out hb)
 clear hb HB20 HT20 HF
 go_wp2_with fail
 go_ret
 exact ⟨by simp, by rw [hKe]; exact HB21.out⟩
end Go.Proofs.YtbaidkefobhipaaGreatDoor
namespace Go.Proofs.YtbaidkefobhipaaGreatDoor
open Go.RowKit
structure Ldd (w : World) : Prop where
 tab : Lib.TabIs Tryz.prog w "internal/strconv.uint64pow10" .u64 Lib.pow10Tab
 es : ∃ tp p, w.var? Tryz.prog "strconv.ErrSyntax" = some #[.iface tp p]
 er : ∃ tp p, w.var? Tryz.prog "strconv.ErrRange" = some #[.iface tp p]
theorem Ldd.awake {w w' : World} (h : Ldd w) (hb : Below w.heap.size w w') : Calls Tryz.prog 10 #[] w' fun e w2 => e = .returned (.bool true) ∧ Below w'.heap.size w' w2 := awake_any w' (tab_below h.tab hb)
end Go.Proofs.YtbaidkefobhipaaGreatDoor
namespace Go.Proofs.YtbaidkefobhipaaGreatDoor

theorem CE.then_ok {α β : Type} {r : CE α} {f : α → CE β} {b : β} (h : r.then f = .ok b) : ∃ a, r = .ok a ∧ f a = .ok b := by
 cases r with
 | error x => cases h
 | ok a => exact ⟨a, rfl, h⟩
def Ext : List (List Nm) → List (List Nm) → Prop
 | [], [] => True
 | a :: s, b :: t => (∀ n ∈ a, n ∈ b) ∧ Ext s t
 | _, _ => False
theorem Ext.refl : ∀ s, Ext s s := by
 intro s
 induction s with
 | nil => exact True.intro
 | cons a s ih => exact ⟨fun _ h => h, ih⟩
theorem Ext.trans : ∀ {s t u}, Ext s t → Ext t u → Ext s u := by
 intro s
 induction s with
 | nil => intro t u h1 h2; cases t with
  | nil => exact h2
  | cons _ _ => exact h1.elim
 | cons a s ih =>
  intro t u h1 h2
  cases t with
  | nil => exact h1.elim
  | cons b t =>
   cases u with
   | nil => exact h2.elim
   | cons c u => exact ⟨fun n hn => h2.1 n (h1.1 n hn), ih h1.2 h2.2⟩
theorem Ext.tail {s t} (h : Ext s t) : Ext s.tail t.tail := by
 cases s with
 | nil => cases t with
  | nil => exact h
  | cons _ _ => exact h.elim
 | cons a s => cases t with
  | nil => exact h.elim
  | cons b t => exact h.2
theorem Ext.head {s t} (h : Ext s t) {n : Nm} (hn : n ∈ s.headD []) : n ∈ t.headD [] := by
 cases s with
 | nil => simp at hn
 | cons a s => cases t with
  | nil => exact h.elim
  | cons b t => exact h.1 n hn
theorem Ext.vis : ∀ {s t}, Ext s t → ∀ n, visC s n = true → visC t n = true := by
 intro s
 induction s with
 | nil => intro t _ n h; simp [visC] at h
 | cons a s ih =>
  intro t h n hn
  cases t with
  | nil => exact h.elim
  | cons b t =>
   unfold visC at hn ⊢
   simp only [List.any_cons, Bool.or_eq_true, decide_eq_true_eq] at hn ⊢
   rcases hn with h1 | h1
   ·exact .inl (h.1 n h1)
   ·exact .inr (ih h.2 n h1)
theorem exC_ext : ∀ (F : Fo) (s t : List (List Nm)), (∀ n, visC s n = true → visC t n = true) → exC s F = .ok () → exC t F = .ok () := by
 intro F
 induction F with
 | nil => intro s t _ _; rfl
 | cons h k r ihk ihr =>
  intro s t hv he
  simp only [exC] at he ⊢
  split at he
  ·cases he
  ·rename_i hn
   obtain ⟨_, h1, h2⟩ := CE.then_ok he
   rw [if_neg (fun hc => hn ⟨hc.1, by
    cases hs : visC s h.text with
    | false => rfl
    | true => rw [hv _ hs] at hc; exact hc.2⟩), ihk s t hv h1]
   exact ihr s t hv h2
theorem decl_ext (s : CS) (n : Nm) : Ext s.ss (s.decl n).ss := by
 unfold CS.decl
 cases hs : s.ss with
 | nil => exact True.intro
 | cons l t => exact ⟨fun _ h => List.mem_cons_of_mem _ h, Ext.refl t⟩
theorem ckC_ext : ∀ (F : Fo) (m : Cm) (s s' : CS), ckC m s F = .ok s' → Ext s.ss s'.ss := by
 intro F
 induction F with
 | nil =>
  intro m s s' h
  cases m <;> (simp only [ckC] at h; cases h; exact Ext.refl _)
 | cons h k r ihk ihr =>
  intro m s s' he
  cases m with
  | st p =>
   rw [ckC] at he
   obtain ⟨s1, h1, h2⟩ := CE.then_ok he
   refine Ext.trans ?_ (ihr _ _ _ h2)
   by_cases c20 : h.kind = 20
   ·rw [if_pos c20] at h1
    obtain ⟨_, -, h3⟩ := CE.then_ok h1
    split at h3
    ·cases h3
    ·cases h3; exact decl_ext s _
   rw [if_neg c20] at h1
   by_cases c21 : h.kind = 21
   ·rw [if_pos c21] at h1
    split at h1
    ·cases h1
    ·obtain ⟨_, -, h3⟩ := CE.then_ok h1; cases h3; exact Ext.refl _
   rw [if_neg c21] at h1
   by_cases c22 : h.kind = 22
   ·rw [if_pos c22] at h1
    exact ihk _ _ _ h1
   rw [if_neg c22] at h1
   by_cases c23 : h.kind = 23
   ·rw [if_pos c23] at h1
    exact ihk _ _ _ h1
   rw [if_neg c23] at h1
   by_cases c24 : h.kind = 24
   ·rw [if_pos c24] at h1
    exact ihk _ _ _ h1
   rw [if_neg c24] at h1
   by_cases c25 : h.kind = 25
   ·rw [if_pos c25] at h1
    obtain ⟨s2, h3, h4⟩ := CE.then_ok h1
    cases h4
    exact (ihk _ _ _ h3).tail
   rw [if_neg c25] at h1
   by_cases c26 : h.kind = 26
   ·rw [if_pos c26] at h1
    split at h1
    ·cases h1
    split at h1
    ·cases h1
    split at h1
    ·cases h1
    ·exact ihk _ { s with fs := h.text :: s.fs } _ h1
   rw [if_neg c26] at h1
   by_cases c27 : h.kind = 27
   ·rw [if_pos c27] at h1
    split at h1
    ·cases h1
    ·obtain ⟨_, -, h3⟩ := CE.then_ok h1; cases h3; exact Ext.refl _
   rw [if_neg c27] at h1
   by_cases c28 : h.kind = 28
   ·rw [if_pos c28] at h1
    obtain ⟨_, -, h3⟩ := CE.then_ok h1; cases h3; exact Ext.refl _
   rw [if_neg c28] at h1
   by_cases c29 : h.kind = 29
   ·rw [if_pos c29] at h1
    split at h1
    ·cases h1
    ·cases h1; exact Ext.refl _
   ·rw [if_neg c29] at h1
    cases h1; exact Ext.refl _
  | iff =>
   simp only [ckC] at he
   split at he
   ·cases he
   ·obtain ⟨_, -, h2⟩ := CE.then_ok he
    exact ihr _ _ _ h2
  | loop ns =>
   cases r with
   | nil =>
    simp only [ckC] at he
    obtain ⟨s2, h3, h4⟩ := CE.then_ok he
    cases h4
    exact (ihk _ _ _ h3).tail
   | cons h2 k2 r2 =>
    simp only [ckC] at he
    split at he
    ·cases he
    ·obtain ⟨_, -, h2⟩ := CE.then_ok he
     exact ihr _ _ _ h2
  | fnb ns =>
   simp only [ckC] at he
   obtain ⟨s2, h3, h4⟩ := CE.then_ok he
   cases h4
   exact Ext.refl _
theorem ckC_app (p : Bool) : ∀ (A B : Fo) (s : CS), ckC (.st p) s (A.app B) = (ckC (.st p) s A).then fun s' => ckC (.st p) s' B := by
 intro A
 induction A with
 | nil => intro B s; simp only [Fo.app, ckC, CE.then]
 | cons h k r _ ihr =>
  intro B s
  simp only [Fo.app]
  rw [ckC, ckC]
  generalize (if h.kind = 20 then _ else _ : CE CS) = R
  cases R with
  | error x => rfl
  | ok s1 => exact ihr B s1
theorem ck_dup {p : Bool} {A r k : Fo} {h : Hd} {s s' : CS} (hk : h.kind = 20) (hss : s.ss ≠ []) (hc : ckC (.st p) s (A.app (.cons h k r)) = .ok s') : ckC (.st p) s ((A.app (.cons h k r)).app (.cons h k .nil)) = .error (h.pos, 10) := by
 rw [ckC_app, hc]
 show ckC (.st p) s' _ = _
 rw [ckC_app] at hc
 obtain ⟨s1, h1, h2⟩ := CE.then_ok hc
 rw [ckC] at h2
 obtain ⟨s2, h3, h4⟩ := CE.then_ok h2
 rw [if_pos hk] at h3
 obtain ⟨_, h5, h6⟩ := CE.then_ok h3
 split at h6
 ·cases h6
 cases h6
 have e1 := ckC_ext _ _ _ _ h1
 have e2 := ckC_ext _ _ _ _ h4
 rw [ckC, if_pos hk, exC_ext k s1.ss s'.ss ((decl_ext s1 h.text).trans e2).vis h5]
 have hin : h.text ∈ (s1.decl h.text).ss.headD [] := by
  unfold CS.decl
  cases hs : s1.ss with
  | nil =>
   rw [hs] at e1
   cases hs2 : s.ss with
   | nil => exact absurd hs2 hss
   | cons a b => rw [hs2] at e1; exact e1.elim
  | cons l t => simp
 show CE.then (CE.then (.ok ()) _) _ = _
 simp only [CE.then]
 rw [if_pos (e2.head hin)]

def CS.out (s : CS) : CS := { s with ss := s.ss ++ [[]] }
theorem vis_out (ss : List (List Nm)) (n : Nm) : visC (ss ++ [[]]) n = visC ss n := by unfold visC; simp
theorem exC_out : ∀ (F : Fo) (ss : List (List Nm)), exC (ss ++ [[]]) F = exC ss F := by
 intro F
 induction F with
 | nil => intro _; rfl
 | cons h k r ihk ihr => intro ss; simp only [exC, vis_out, ihk, ihr]
theorem head_out {ss : List (List Nm)} (h : ss ≠ []) : (ss ++ [[]]).headD [] = ss.headD [] := by cases ss with
 | nil => exact absurd rfl h
 | cons _ _ => rfl
theorem tail_out {ss : List (List Nm)} (h : ss ≠ []) : (ss ++ [[]]).tail = ss.tail ++ [[]] := by cases ss with
 | nil => exact absurd rfl h
 | cons _ _ => rfl
theorem Ext.ne {s t} (h : Ext s t) (hs : s ≠ []) : t ≠ [] := by
 cases s with
 | nil => exact absurd rfl hs
 | cons a s => cases t with
  | nil => exact h.elim
  | cons _ _ => simp
theorem decl_out {s : CS} (hs : s.ss ≠ []) (n : Nm) : s.out.decl n = (s.decl n).out := by
 unfold CS.out CS.decl
 cases h : s.ss with
 | nil => exact absurd h hs
 | cons _ _ => simp
def Cm.in : Cm → Bool
 | .st p => !p
 | .fnb _ => false
 | _ => true
theorem ckC_out : ∀ (F : Fo) (m : Cm) (s s' : CS), m.in = true → s.ss ≠ [] → ckC m s F = .ok s' → ckC m s.out F = .ok s'.out := by
 intro F
 induction F with
 | nil =>
  intro m s s' _ _ h
  cases m <;> (simp only [ckC] at h ⊢; cases h; rfl)
 | cons h k r ihk ihr =>
  intro m s s' hm hs he
  cases m with
  | st p =>
   simp only [Cm.in, Bool.not_eq_true'] at hm
   subst hm
   rw [ckC] at he ⊢
   obtain ⟨s1, h1, h2⟩ := CE.then_ok he
   have hx : Ext s.ss s1.ss := by
    have := ckC_ext (.cons h k .nil) (.st false) s s1 (by rw [ckC, h1]; rfl)
    exact this
   have key : (if h.kind = 20 then (exC s.out.ss k).then fun _ => if h.text ∈ s.out.ss.headD [] then .error (h.pos, 10) else .ok (s.out.decl h.text)
   else if h.kind = 21 then if visC s.out.ss h.text = false then .error (h.pos, 13) else (exC s.out.ss k).then fun _ => .ok s.out
   else if h.kind = 22 then ckC .iff s.out k
   else if h.kind = 23 then ckC (.loop []) s.out k
   else if h.kind = 24 then ckC (.loop [h.text]) s.out k
   else if h.kind = 25 then (ckC (.st false) (s.out.push []) k).then fun s' => .ok s'.pop
   else if h.kind = 26 then
    if false = false then .error (h.pos, 14) else if h.text ∈ s.out.fs then .error (h.pos, 10) else if ¬ h.names.Nodup then .error (h.pos, 10)
    else ckC (.fnb h.names) { s.out with fs := h.text :: s.out.fs } k
   else if h.kind = 27 then if s.out.inF = false then .error (h.pos, 14) else (exC s.out.ss k).then fun _ => .ok s.out
   else if h.kind = 28 then (exC s.out.ss k).then fun _ => .ok s.out
   else if h.kind = 29 then if s.out.lo = 0 then .error (h.pos, 14) else .ok s.out
   else .ok s.out : CE CS) = .ok s1.out := by
    have eo : s.out.ss = s.ss ++ [[]] := rfl
    rw [eo]
    simp only [exC_out, head_out hs, vis_out]
    by_cases h20 : h.kind = 20
    ·rw [if_pos h20] at h1 ⊢
     obtain ⟨_, h3, h4⟩ := CE.then_ok h1
     rw [h3]
     simp only [CE.then]
     split at h4
     ·cases h4
     ·rename_i hn
      rw [if_neg hn]
      cases h4
      rw [decl_out hs]
    rw [if_neg h20] at h1 ⊢
    by_cases h21 : h.kind = 21
    ·rw [if_pos h21] at h1 ⊢
     split at h1
     ·cases h1
     ·rename_i hn
      rw [if_neg hn]
      obtain ⟨_, h3, h4⟩ := CE.then_ok h1
      rw [h3]
      cases h4
      rfl
    rw [if_neg h21] at h1 ⊢
    by_cases h22 : h.kind = 22
    ·rw [if_pos h22] at h1 ⊢
     exact ihk _ _ _ rfl hs h1
    rw [if_neg h22] at h1 ⊢
    by_cases h23 : h.kind = 23
    ·rw [if_pos h23] at h1 ⊢
     exact ihk _ _ _ rfl hs h1
    rw [if_neg h23] at h1 ⊢
    by_cases h24 : h.kind = 24
    ·rw [if_pos h24] at h1 ⊢
     exact ihk _ _ _ rfl hs h1
    rw [if_neg h24] at h1 ⊢
    by_cases h25 : h.kind = 25
    ·rw [if_pos h25] at h1 ⊢
     obtain ⟨s2, h3, h4⟩ := CE.then_ok h1
     have := ihk (.st false) (s.push []) s2 rfl (by simp [CS.push]) h3
     rw [show s.out.push [] = (s.push []).out from rfl, this]
     cases h4
     have e2 := (ckC_ext _ _ _ _ h3).ne (by simp [CS.push])
     show Except.ok s2.out.pop = Except.ok s2.pop.out
     unfold CS.out CS.pop
     simp only [tail_out e2]
    rw [if_neg h25] at h1 ⊢
    by_cases h26 : h.kind = 26
    ·rw [if_pos h26] at h1; simp at h1
    rw [if_neg h26] at h1 ⊢
    by_cases h27 : h.kind = 27
    ·rw [if_pos h27] at h1 ⊢
     split at h1
     ·cases h1
     ·rename_i hn
      rw [if_neg (show ¬ s.out.inF = false from hn)]
      obtain ⟨_, h3, h4⟩ := CE.then_ok h1
      rw [h3]
      cases h4
      rfl
    rw [if_neg h27] at h1 ⊢
    by_cases h28 : h.kind = 28
    ·rw [if_pos h28] at h1 ⊢
     obtain ⟨_, h3, h4⟩ := CE.then_ok h1
     rw [h3]
     cases h4
     rfl
    rw [if_neg h28] at h1 ⊢
    by_cases h29 : h.kind = 29
    ·rw [if_pos h29] at h1 ⊢
     split at h1
     ·cases h1
     ·rename_i hn
      rw [if_neg (show ¬ s.out.lo = 0 from hn)]
      cases h1
      rfl
    rw [if_neg h29] at h1 ⊢
    cases h1
    rfl
   rw [key]
   exact ihr _ _ _ rfl (hx.ne hs) h2
  | iff =>
   rw [ckC] at he ⊢
   rw [show s.out.ss = s.ss ++ [[]] from rfl, vis_out, exC_out]
   split at he
   ·cases he
   ·rename_i hn
    rw [if_neg hn]
    obtain ⟨_, h1, h2⟩ := CE.then_ok he
    rw [h1]
    exact ihr _ _ _ rfl hs h2
  | loop ns =>
   cases r with
   | nil =>
    rw [ckC] at he ⊢
    obtain ⟨s2, h3, h4⟩ := CE.then_ok he
    have := ihk (.st false) ({ s with lo := s.lo + 1 }.push ns) s2 rfl (by simp [CS.push]) h3
    rw [show ({ s.out with lo := s.out.lo + 1 } : CS).push ns = (({ s with lo := s.lo + 1 } : CS).push ns).out from rfl, this]
    cases h4
    have e2 := (ckC_ext _ _ _ _ h3).ne (by simp [CS.push])
    show Except.ok _ = Except.ok _
    unfold CS.out CS.pop
    simp only [tail_out e2]
   | cons h2 k2 r2 =>
    rw [ckC] at he ⊢
    rw [show s.out.ss = s.ss ++ [[]] from rfl, vis_out, exC_out]
    split at he
    ·cases he
    ·rename_i hn
     rw [if_neg hn]
     obtain ⟨_, h1, h2⟩ := CE.then_ok he
     rw [h1]
     exact ihr _ _ _ rfl hs h2
  | fnb ns => cases hm
def hasFn : Fo → Bool
 | .nil => false
 | .cons h _ r => decide (h.kind = 26) || hasFn r
theorem ckC_top : ∀ (F : Fo) (s : CS), hasFn F = false → ckC (.st false) s F = ckC (.st true) s F := by
 intro F
 induction F with
 | nil => intro _ _; simp only [ckC]
 | cons h k r _ ihr =>
  intro s hf
  simp only [hasFn, Bool.or_eq_false_iff, decide_eq_false_iff_not] at hf
  rw [ckC, ckC]
  rw [if_neg (c := h.kind = 26) hf.1, if_neg (c := h.kind = 26) hf.1]
  congr 1
  funext s'
  exact ihr s' hf.2
theorem ck_block (F : Fo) (h : Hd) (hh : h.kind = 25) (hf : hasFn F = false) {s' : CS} (hc : ckC (.st true) ⟨[[]], [], 0, false⟩ F = .ok s') : ∃ s2, ckC (.st true) ⟨[[]], [], 0, false⟩ (.cons h F .nil) = .ok s2 := by
 rw [← ckC_top F _ hf] at hc
 have := ckC_out F (.st false) _ _ rfl (by simp) hc
 refine ⟨s'.out.pop, ?_⟩
 rw [ckC, if_neg (by rw [hh]; decide), if_neg (by rw [hh]; decide), if_neg (by rw [hh]; decide), if_neg (by rw [hh]; decide), if_neg (by rw [hh]; decide), if_pos hh]
 rw [show (⟨[[]], [], 0, false⟩ : CS).push [] = (⟨[[]], [], 0, false⟩ : CS).out from rfl, this]
 simp only [CE.then, ckC]
end Go.Proofs.YtbaidkefobhipaaGreatDoor
