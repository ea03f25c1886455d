/-
  Walk: the law's awake. (Printed by gen_aw2.py.)
  What is laid before the call.
-/
import Derived.Test.YtbaidkefobhipaaGreatDoorZS31
import Derived.Test.YtbaidkefobhipaaGreatDoorZS3
namespace Go.Proofs.YtbaidkefobhipaaGreatDoor
set_option maxHeartbeats 8000000
set_option maxRecDepth 100000
open Go.RowKit

theorem bapp (a b:List UInt8):((⟨a.toArray⟩:ByteArray)++⟨b.toArray⟩)=⟨(a++b).toArray⟩:=by
 apply ByteArray.ext
 simp
theorem rep63:Lib.repeatL [40] 63++[49]=List.replicate 63 40++[49]:=by kernel_rfl
theorem rep62:Lib.repeatL [40] 62++[49]++Lib.repeatL [41] 62++[59]=List.replicate 62 40++[49]++List.replicate 62 41++[59]:=by kernel_rfl
theorem aw1_size:aw1F.size=6:=rfl
theorem aw1_len:aw1F.len=1:=rfl
theorem aw_leaf (w:World) (k n:Int) (p:Nat) (t:List UInt8):NdV w (ndV (hdT k t n p) (.slice none 0 0) (.slice none 0 0)) (hdT k t n p,.nil):=
 ndv_mk (hdT k t n p) .nil rfl rfl (nmrow_nil w) (frow_nil w)
theorem aw_kid {w:World} (k n:Int) (p:Nat) (t:List UInt8) {x:Option Addr} {m c:Nat} {F:Fo} (hm:m=F.len) (h:FRow w (.slice x m c) F):NdV w (ndV (hdT k t n p) (.slice none 0 0) (.slice x m c)) (hdT k t n p,F):=
 ndv_mk (hdT k t n p) F rfl hm (nmrow_nil w) h

theorem awake_any (w:World) (htab:Lib.TabIs Tryz.prog w "internal/strconv.uint64pow10" .u64 Lib.pow10Tab):
  Calls Tryz.prog 10 #[] w fun e w'=>e=.returned (.bool true)∧Below w.heap.size w w':=by
 have hb0:=Below.refl w.heap.size w
 have hb1:=hb0.alloc (by simp <;> omega) (.cells #[.int .i64 1,.string ⟨#[]⟩,.int .i64 1,.slice none 0 0,.slice none 0 0,.int .i64 8] 31)
 have hb2:=hb1.alloc (by simp <;> omega) (.cells #[.int .i64 1,.string ⟨#[]⟩,.int .i64 2,.slice none 0 0,.slice none 0 0,.int .i64 12] 31)
 have hb3:=hb2.alloc (by simp <;> omega) (.cells #[.int .i64 1,.string ⟨#[]⟩,.int .i64 3,.slice none 0 0,.slice none 0 0,.int .i64 16] 31)
 have hb4:=hb3.alloc (by simp <;> omega) (.cells #[.int .i64 1,.string ⟨#[]⟩,.int .i64 2,.slice none 0 0,.slice none 0 0,.int .i64 12,.int .i64 1,.string ⟨#[]⟩,.int .i64 3,.slice none 0 0,.slice none 0 0,.int .i64 16] 31)
 have hb5:=hb4.alloc (by simp <;> omega) (.cells #[.int .i64 6,.string ⟨#[42]⟩,.int .i64 0,.slice none 0 0,.slice (some ⟨w.heap.size+1+1+1,0,none⟩) 2 2,.int .i64 14] 31)
 have hb6:=hb5.alloc (by simp <;> omega) (.cells #[.int .i64 1,.string ⟨#[]⟩,.int .i64 1,.slice none 0 0,.slice none 0 0,.int .i64 8,.int .i64 6,.string ⟨#[42]⟩,.int .i64 0,.slice none 0 0,.slice (some ⟨w.heap.size+1+1+1,0,none⟩) 2 2,.int .i64 14] 31)
 have hb7:=hb6.alloc (by simp <;> omega) (.cells #[.int .i64 6,.string ⟨#[43]⟩,.int .i64 0,.slice none 0 0,.slice (some ⟨w.heap.size+1+1+1+1+1,0,none⟩) 2 2,.int .i64 10] 31)
 have hk3:Blk (((((((w.alloc (.cells #[.int .i64 1,.string ⟨#[]⟩,.int .i64 1,.slice none 0 0,.slice none 0 0,.int .i64 8] 31)).alloc (.cells #[.int .i64 1,.string ⟨#[]⟩,.int .i64 2,.slice none 0 0,.slice none 0 0,.int .i64 12] 31)).alloc (.cells #[.int .i64 1,.string ⟨#[]⟩,.int .i64 3,.slice none 0 0,.slice none 0 0,.int .i64 16] 31)).alloc (.cells #[.int .i64 1,.string ⟨#[]⟩,.int .i64 2,.slice none 0 0,.slice none 0 0,.int .i64 12,.int .i64 1,.string ⟨#[]⟩,.int .i64 3,.slice none 0 0,.slice none 0 0,.int .i64 16] 31)).alloc (.cells #[.int .i64 6,.string ⟨#[42]⟩,.int .i64 0,.slice none 0 0,.slice (some ⟨w.heap.size+1+1+1,0,none⟩) 2 2,.int .i64 14] 31)).alloc (.cells #[.int .i64 1,.string ⟨#[]⟩,.int .i64 1,.slice none 0 0,.slice none 0 0,.int .i64 8,.int .i64 6,.string ⟨#[42]⟩,.int .i64 0,.slice none 0 0,.slice (some ⟨w.heap.size+1+1+1,0,none⟩) 2 2,.int .i64 14] 31)).alloc (.cells #[.int .i64 6,.string ⟨#[43]⟩,.int .i64 0,.slice none 0 0,.slice (some ⟨w.heap.size+1+1+1+1+1,0,none⟩) 2 2,.int .i64 10] 31)) (w.heap.size+1+1+1) 31 #[.int .i64 1,.string ⟨#[]⟩,.int .i64 2,.slice none 0 0,.slice none 0 0,.int .i64 12,.int .i64 1,.string ⟨#[]⟩,.int .i64 3,.slice none 0 0,.slice none 0 0,.int .i64 16]:=(((Blk.new_at (w:=(((w.alloc (.cells #[.int .i64 1,.string ⟨#[]⟩,.int .i64 1,.slice none 0 0,.slice none 0 0,.int .i64 8] 31)).alloc (.cells #[.int .i64 1,.string ⟨#[]⟩,.int .i64 2,.slice none 0 0,.slice none 0 0,.int .i64 12] 31)).alloc (.cells #[.int .i64 1,.string ⟨#[]⟩,.int .i64 3,.slice none 0 0,.slice none 0 0,.int .i64 16] 31))) (k:=w.heap.size+1+1+1) (by simp) 31 #[.int .i64 1,.string ⟨#[]⟩,.int .i64 2,.slice none 0 0,.slice none 0 0,.int .i64 12,.int .i64 1,.string ⟨#[]⟩,.int .i64 3,.slice none 0 0,.slice none 0 0,.int .i64 16]).alloc (.cells #[.int .i64 6,.string ⟨#[42]⟩,.int .i64 0,.slice none 0 0,.slice (some ⟨w.heap.size+1+1+1,0,none⟩) 2 2,.int .i64 14] 31)).alloc (.cells #[.int .i64 1,.string ⟨#[]⟩,.int .i64 1,.slice none 0 0,.slice none 0 0,.int .i64 8,.int .i64 6,.string ⟨#[42]⟩,.int .i64 0,.slice none 0 0,.slice (some ⟨w.heap.size+1+1+1,0,none⟩) 2 2,.int .i64 14] 31)).alloc (.cells #[.int .i64 6,.string ⟨#[43]⟩,.int .i64 0,.slice none 0 0,.slice (some ⟨w.heap.size+1+1+1+1+1,0,none⟩) 2 2,.int .i64 10] 31)
 have hk5:Blk (((((((w.alloc (.cells #[.int .i64 1,.string ⟨#[]⟩,.int .i64 1,.slice none 0 0,.slice none 0 0,.int .i64 8] 31)).alloc (.cells #[.int .i64 1,.string ⟨#[]⟩,.int .i64 2,.slice none 0 0,.slice none 0 0,.int .i64 12] 31)).alloc (.cells #[.int .i64 1,.string ⟨#[]⟩,.int .i64 3,.slice none 0 0,.slice none 0 0,.int .i64 16] 31)).alloc (.cells #[.int .i64 1,.string ⟨#[]⟩,.int .i64 2,.slice none 0 0,.slice none 0 0,.int .i64 12,.int .i64 1,.string ⟨#[]⟩,.int .i64 3,.slice none 0 0,.slice none 0 0,.int .i64 16] 31)).alloc (.cells #[.int .i64 6,.string ⟨#[42]⟩,.int .i64 0,.slice none 0 0,.slice (some ⟨w.heap.size+1+1+1,0,none⟩) 2 2,.int .i64 14] 31)).alloc (.cells #[.int .i64 1,.string ⟨#[]⟩,.int .i64 1,.slice none 0 0,.slice none 0 0,.int .i64 8,.int .i64 6,.string ⟨#[42]⟩,.int .i64 0,.slice none 0 0,.slice (some ⟨w.heap.size+1+1+1,0,none⟩) 2 2,.int .i64 14] 31)).alloc (.cells #[.int .i64 6,.string ⟨#[43]⟩,.int .i64 0,.slice none 0 0,.slice (some ⟨w.heap.size+1+1+1+1+1,0,none⟩) 2 2,.int .i64 10] 31)) (w.heap.size+1+1+1+1+1) 31 #[.int .i64 1,.string ⟨#[]⟩,.int .i64 1,.slice none 0 0,.slice none 0 0,.int .i64 8,.int .i64 6,.string ⟨#[42]⟩,.int .i64 0,.slice none 0 0,.slice (some ⟨w.heap.size+1+1+1,0,none⟩) 2 2,.int .i64 14]:=(Blk.new_at (w:=(((((w.alloc (.cells #[.int .i64 1,.string ⟨#[]⟩,.int .i64 1,.slice none 0 0,.slice none 0 0,.int .i64 8] 31)).alloc (.cells #[.int .i64 1,.string ⟨#[]⟩,.int .i64 2,.slice none 0 0,.slice none 0 0,.int .i64 12] 31)).alloc (.cells #[.int .i64 1,.string ⟨#[]⟩,.int .i64 3,.slice none 0 0,.slice none 0 0,.int .i64 16] 31)).alloc (.cells #[.int .i64 1,.string ⟨#[]⟩,.int .i64 2,.slice none 0 0,.slice none 0 0,.int .i64 12,.int .i64 1,.string ⟨#[]⟩,.int .i64 3,.slice none 0 0,.slice none 0 0,.int .i64 16] 31)).alloc (.cells #[.int .i64 6,.string ⟨#[42]⟩,.int .i64 0,.slice none 0 0,.slice (some ⟨w.heap.size+1+1+1,0,none⟩) 2 2,.int .i64 14] 31))) (k:=w.heap.size+1+1+1+1+1) (by simp) 31 #[.int .i64 1,.string ⟨#[]⟩,.int .i64 1,.slice none 0 0,.slice none 0 0,.int .i64 8,.int .i64 6,.string ⟨#[42]⟩,.int .i64 0,.slice none 0 0,.slice (some ⟨w.heap.size+1+1+1,0,none⟩) 2 2,.int .i64 14]).alloc (.cells #[.int .i64 6,.string ⟨#[43]⟩,.int .i64 0,.slice none 0 0,.slice (some ⟨w.heap.size+1+1+1+1+1,0,none⟩) 2 2,.int .i64 10] 31)
 have hk6:Blk (((((((w.alloc (.cells #[.int .i64 1,.string ⟨#[]⟩,.int .i64 1,.slice none 0 0,.slice none 0 0,.int .i64 8] 31)).alloc (.cells #[.int .i64 1,.string ⟨#[]⟩,.int .i64 2,.slice none 0 0,.slice none 0 0,.int .i64 12] 31)).alloc (.cells #[.int .i64 1,.string ⟨#[]⟩,.int .i64 3,.slice none 0 0,.slice none 0 0,.int .i64 16] 31)).alloc (.cells #[.int .i64 1,.string ⟨#[]⟩,.int .i64 2,.slice none 0 0,.slice none 0 0,.int .i64 12,.int .i64 1,.string ⟨#[]⟩,.int .i64 3,.slice none 0 0,.slice none 0 0,.int .i64 16] 31)).alloc (.cells #[.int .i64 6,.string ⟨#[42]⟩,.int .i64 0,.slice none 0 0,.slice (some ⟨w.heap.size+1+1+1,0,none⟩) 2 2,.int .i64 14] 31)).alloc (.cells #[.int .i64 1,.string ⟨#[]⟩,.int .i64 1,.slice none 0 0,.slice none 0 0,.int .i64 8,.int .i64 6,.string ⟨#[42]⟩,.int .i64 0,.slice none 0 0,.slice (some ⟨w.heap.size+1+1+1,0,none⟩) 2 2,.int .i64 14] 31)).alloc (.cells #[.int .i64 6,.string ⟨#[43]⟩,.int .i64 0,.slice none 0 0,.slice (some ⟨w.heap.size+1+1+1+1+1,0,none⟩) 2 2,.int .i64 10] 31)) (w.heap.size+1+1+1+1+1+1) 31 #[.int .i64 6,.string ⟨#[43]⟩,.int .i64 0,.slice none 0 0,.slice (some ⟨w.heap.size+1+1+1+1+1,0,none⟩) 2 2,.int .i64 10]:=(Blk.new_at (w:=((((((w.alloc (.cells #[.int .i64 1,.string ⟨#[]⟩,.int .i64 1,.slice none 0 0,.slice none 0 0,.int .i64 8] 31)).alloc (.cells #[.int .i64 1,.string ⟨#[]⟩,.int .i64 2,.slice none 0 0,.slice none 0 0,.int .i64 12] 31)).alloc (.cells #[.int .i64 1,.string ⟨#[]⟩,.int .i64 3,.slice none 0 0,.slice none 0 0,.int .i64 16] 31)).alloc (.cells #[.int .i64 1,.string ⟨#[]⟩,.int .i64 2,.slice none 0 0,.slice none 0 0,.int .i64 12,.int .i64 1,.string ⟨#[]⟩,.int .i64 3,.slice none 0 0,.slice none 0 0,.int .i64 16] 31)).alloc (.cells #[.int .i64 6,.string ⟨#[42]⟩,.int .i64 0,.slice none 0 0,.slice (some ⟨w.heap.size+1+1+1,0,none⟩) 2 2,.int .i64 14] 31)).alloc (.cells #[.int .i64 1,.string ⟨#[]⟩,.int .i64 1,.slice none 0 0,.slice none 0 0,.int .i64 8,.int .i64 6,.string ⟨#[42]⟩,.int .i64 0,.slice none 0 0,.slice (some ⟨w.heap.size+1+1+1,0,none⟩) 2 2,.int .i64 14] 31))) (k:=w.heap.size+1+1+1+1+1+1) (by simp) 31 #[.int .i64 6,.string ⟨#[43]⟩,.int .i64 0,.slice none 0 0,.slice (some ⟨w.heap.size+1+1+1+1+1,0,none⟩) 2 2,.int .i64 10])
 have HB:=zH hb7
 have HTAB:=zH (tab_below htab hb7)
 have HK3:=zH hk3
 have HK5:=zH hk5
 have HK6:=zH hk6
 have HPR:=zH (prog_ok (s:=⟨#[108,101,116,32,120,32,61,32,49,32,43,32,50,32,42,32,51,59]⟩) ev1 (((((((w.alloc (.cells #[.int .i64 1,.string ⟨#[]⟩,.int .i64 1,.slice none 0 0,.slice none 0 0,.int .i64 8] 31)).alloc (.cells #[.int .i64 1,.string ⟨#[]⟩,.int .i64 2,.slice none 0 0,.slice none 0 0,.int .i64 12] 31)).alloc (.cells #[.int .i64 1,.string ⟨#[]⟩,.int .i64 3,.slice none 0 0,.slice none 0 0,.int .i64 16] 31)).alloc (.cells #[.int .i64 1,.string ⟨#[]⟩,.int .i64 2,.slice none 0 0,.slice none 0 0,.int .i64 12,.int .i64 1,.string ⟨#[]⟩,.int .i64 3,.slice none 0 0,.slice none 0 0,.int .i64 16] 31)).alloc (.cells #[.int .i64 6,.string ⟨#[42]⟩,.int .i64 0,.slice none 0 0,.slice (some ⟨w.heap.size+1+1+1,0,none⟩) 2 2,.int .i64 14] 31)).alloc (.cells #[.int .i64 1,.string ⟨#[]⟩,.int .i64 1,.slice none 0 0,.slice none 0 0,.int .i64 8,.int .i64 6,.string ⟨#[42]⟩,.int .i64 0,.slice none 0 0,.slice (some ⟨w.heap.size+1+1+1,0,none⟩) 2 2,.int .i64 14] 31)).alloc (.cells #[.int .i64 6,.string ⟨#[43]⟩,.int .i64 0,.slice none 0 0,.slice (some ⟨w.heap.size+1+1+1+1+1,0,none⟩) 2 2,.int .i64 10] 31)) (by unfold maxLen; decide))
 clear htab hb0 hb1 hb2 hb3 hb4 hb5 hb6 hb7 hk3 hk5 hk6;go_enter Tryz.func10,Tryz.ntmps10;go_upto_region 4 with fail
 generalize (((((((w.alloc (.cells #[.int .i64 1,.string ⟨#[]⟩,.int .i64 1,.slice none 0 0,.slice none 0 0,.int .i64 8] 31)).alloc (.cells #[.int .i64 1,.string ⟨#[]⟩,.int .i64 2,.slice none 0 0,.slice none 0 0,.int .i64 12] 31)).alloc (.cells #[.int .i64 1,.string ⟨#[]⟩,.int .i64 3,.slice none 0 0,.slice none 0 0,.int .i64 16] 31)).alloc (.cells #[.int .i64 1,.string ⟨#[]⟩,.int .i64 2,.slice none 0 0,.slice none 0 0,.int .i64 12,.int .i64 1,.string ⟨#[]⟩,.int .i64 3,.slice none 0 0,.slice none 0 0,.int .i64 16] 31)).alloc (.cells #[.int .i64 6,.string ⟨#[42]⟩,.int .i64 0,.slice none 0 0,.slice (some ⟨w.heap.size+1+1+1,0,none⟩) 2 2,.int .i64 14] 31)).alloc (.cells #[.int .i64 1,.string ⟨#[]⟩,.int .i64 1,.slice none 0 0,.slice none 0 0,.int .i64 8,.int .i64 6,.string ⟨#[42]⟩,.int .i64 0,.slice none 0 0,.slice (some ⟨w.heap.size+1+1+1,0,none⟩) 2 2,.int .i64 14] 31)).alloc (.cells #[.int .i64 6,.string ⟨#[43]⟩,.int .i64 0,.slice none 0 0,.slice (some ⟨w.heap.size+1+1+1+1+1,0,none⟩) 2 2,.int .i64 10] 31))=wa at*
 generalize hKe:w.heap.size=K at*;go_wp2_with fail;refine HPR.out.mono ?_;rintro e w1 ⟨⟨x,c,rfl,hr⟩,hb⟩;rw [aw1_len] at hr ⊢;have HR:=zH hr;have HB1:=zH (HB.out.trans (hb.mono (by rw [← hKe]; exact HB.out.size)))
 have HT1:=zH (tab_below HTAB.out hb)
 have HK3:Hid (Blk w1 (K+1+1+1) 31 #[.int .i64 1,.string ⟨#[]⟩,.int .i64 2,.slice none 0 0,.slice none 0 0,.int .i64 12,.int .i64 1,.string ⟨#[]⟩,.int .i64 3,.slice none 0 0,.slice none 0 0,.int .i64 16]):=(hb.block _ HK3.out.lt).trans HK3.out
 have HK5:Hid (Blk w1 (K+1+1+1+1+1) 31 #[.int .i64 1,.string ⟨#[]⟩,.int .i64 1,.slice none 0 0,.slice none 0 0,.int .i64 8,.int .i64 6,.string ⟨#[42]⟩,.int .i64 0,.slice none 0 0,.slice (some ⟨K+1+1+1,0,none⟩) 2 2,.int .i64 14]):=(hb.block _ HK5.out.lt).trans HK5.out
 have HK6:Hid (Blk w1 (K+1+1+1+1+1+1) 31 #[.int .i64 6,.string ⟨#[43]⟩,.int .i64 0,.slice none 0 0,.slice (some ⟨K+1+1+1+1+1,0,none⟩) 2 2,.int .i64 10]):=(hb.block _ HK6.out.lt).trans HK6.out
 clear hb hr HPR HB HTAB;have y0:w1.cell? ⟨K+1+1+1+1+1+1,0,none⟩=some (.int .i64 6):=HK6.out.cell 0;have y1:w1.cell? ⟨K+1+1+1+1+1+1,1,none⟩=some (.string ⟨#[43]⟩):=HK6.out.cell 1;have y2:w1.cell? ⟨K+1+1+1+1+1+1,2,none⟩=some (.int .i64 0):=HK6.out.cell 2;have y3:w1.cell? ⟨K+1+1+1+1+1+1,3,none⟩=some (.slice none 0 0):=HK6.out.cell 3
 have y4:w1.cell? ⟨K+1+1+1+1+1+1,4,none⟩=some (.slice (some ⟨K+1+1+1+1+1,0,none⟩) 2 2):=HK6.out.cell 4
 have y5:w1.cell? ⟨K+1+1+1+1+1+1,5,none⟩=some (.int .i64 10):=HK6.out.cell 5
 have ha1:=(Below.refl w1.heap.size w1).alloc (Nat.le_refl _) (.cells #[.int .i64 6,.string ⟨#[43]⟩,.int .i64 0,.slice none 0 0,.slice (some ⟨K+1+1+1+1+1,0,none⟩) 2 2,.int .i64 10] 31)
 have ha2:=ha1.alloc (by simp) (.cells #[.int .i64 20,.string ⟨#[120]⟩,.int .i64 0,.slice none 0 0,.slice (some ⟨w1.heap.size,0,none⟩) 1 1,.int .i64 0] 31)
 have q1:Blk ((w1.alloc (.cells #[.int .i64 6,.string ⟨#[43]⟩,.int .i64 0,.slice none 0 0,.slice (some ⟨K+1+1+1+1+1,0,none⟩) 2 2,.int .i64 10] 31)).alloc (.cells #[.int .i64 20,.string ⟨#[120]⟩,.int .i64 0,.slice none 0 0,.slice (some ⟨w1.heap.size,0,none⟩) 1 1,.int .i64 0] 31)) w1.heap.size 31 #[.int .i64 6,.string ⟨#[43]⟩,.int .i64 0,.slice none 0 0,.slice (some ⟨K+1+1+1+1+1,0,none⟩) 2 2,.int .i64 10]:=(Blk.new w1 31 #[.int .i64 6,.string ⟨#[43]⟩,.int .i64 0,.slice none 0 0,.slice (some ⟨K+1+1+1+1+1,0,none⟩) 2 2,.int .i64 10]).alloc _
 have q2:Blk ((w1.alloc (.cells #[.int .i64 6,.string ⟨#[43]⟩,.int .i64 0,.slice none 0 0,.slice (some ⟨K+1+1+1+1+1,0,none⟩) 2 2,.int .i64 10] 31)).alloc (.cells #[.int .i64 20,.string ⟨#[120]⟩,.int .i64 0,.slice none 0 0,.slice (some ⟨w1.heap.size,0,none⟩) 1 1,.int .i64 0] 31)) (w1.heap.size+1) 31 #[.int .i64 20,.string ⟨#[120]⟩,.int .i64 0,.slice none 0 0,.slice (some ⟨w1.heap.size,0,none⟩) 1 1,.int .i64 0]:=Blk.new_at (w:=w1.alloc (.cells #[.int .i64 6,.string ⟨#[43]⟩,.int .i64 0,.slice none 0 0,.slice (some ⟨K+1+1+1+1+1,0,none⟩) 2 2,.int .i64 10] 31)) (by simp) 31 _
 have HL:Hid (FRow ((w1.alloc (.cells #[.int .i64 6,.string ⟨#[43]⟩,.int .i64 0,.slice none 0 0,.slice (some ⟨K+1+1+1+1+1,0,none⟩) 2 2,.int .i64 10] 31)).alloc (.cells #[.int .i64 20,.string ⟨#[120]⟩,.int .i64 0,.slice none 0 0,.slice (some ⟨w1.heap.size,0,none⟩) 1 1,.int .i64 0] 31)) (.slice (some ⟨w1.heap.size+1,0,none⟩) 1 1) aw1F):=by
  have p3:=frow_blk (S:=fun _=>true) ((ha2.block _ HK3.out.lt).trans HK3.out) rfl (FCl.two (aw_leaf _ 1 2 12 []) (aw_leaf _ 1 3 16 [])) (by decide)
  have p5:=frow_blk (S:=fun _=>true) ((ha2.block _ HK5.out.lt).trans HK5.out) rfl (FCl.two (aw_leaf _ 1 1 8 []) (aw_kid 6 0 14 [42] rfl p3)) (by decide)
  have p6:=frow_blk (S:=fun _=>true) q1 rfl (FCl.one (aw_kid 6 0 10 [43] rfl p5)) (by decide)
  have p7:=frow_blk (S:=fun _=>true) q2 rfl (FCl.one (aw_kid 20 0 0 [120] rfl p6)) (by decide)
  exact p7.sub (unmask _ _)
 have HA2:=zH ha2
 have HEQ:=zH (equal_same aw1F _ _ _ (HR.out.below ha2) HL.out)
 clear ha1 ha2 q1 q2;go_wp2_with fail;refine HEQ.out.mono ?_;rintro e w2 ⟨rfl,hb⟩;have hb2:=HA2.out.trans (hb.mono (by simp; omega))
 have HR2:=zH (HR.out.below hb2)
 have HB2:=zH (HB1.out.trans (hb2.mono (by rw [← hKe]; exact HB1.out.size)))
 have HT2:=zH (tab_below HT1.out hb2)
 have HSZ:=zH (size_any aw1F _ w2 HR2.out)
 rw [aw1_size,show wrap64 ((6:Nat):Int)=6 from wrap64_of _ (by omega)] at HSZ
 clear hb hb2 HL HEQ HA2 HR HB1 HT1 y0 y1 y2 y3 y4 y5;go_wp2_with fail;refine HSZ.out.mono ?_;rintro e w3 ⟨rfl,hb⟩;have HR3:=zH (HR2.out.below hb);have HB3:=zH (HB2.out.trans (hb.mono (by rw [← hKe]; exact HB2.out.size)))
 have HT3:=zH (tab_below HT2.out hb)
 have HSA:=zH (same_any aw1F aw1F _ _ w3 HR3.out HR3.out)
 rw [Fo.sameF_refl] at HSA;clear hb HSZ HR2 HB2 HT2;go_wp2_with fail;refine HSA.out.mono ?_;rintro e w4 ⟨rfl,hb⟩;have HR4:=zH (HR3.out.below hb);have HB4:=zH (HB3.out.trans (hb.mono (by rw [← hKe]; exact HB3.out.size)))
 have HT4:=zH (tab_below HT3.out hb)
 have HSB:=zH (same_any aw1F .nil _ _ w4 HR4.out (frow_nil w4))
 rw [show Fo.sameF aw1F .nil=false from rfl] at HSB
 clear hb HSA HR3 HB3 HT3;go_wp2_with fail;refine HSB.out.mono ?_;rintro e w5 ⟨rfl,hb⟩;have HB5:=zH (HB4.out.trans (hb.mono (by rw [← hKe]; exact HB4.out.size)))
 have HT5:=zH (tab_below HT4.out hb)
 clear hb HSB HR4 HB4 HT4;go_upto_region 7 with fail
 have HF:=zH (fails_err ⟨#[97,32,60,32,98,32,60,32,99,59]⟩ 6 18 ev2 w5 (by unfold maxLen; decide))
 go_wp2_with fail;refine HF.out.mono ?_;rintro e w6 ⟨rfl,hb⟩;have HB6:=zH (HB5.out.trans (hb.mono (by rw [← hKe]; exact HB5.out.size)))
 have HT6:=zH (tab_below HT5.out hb)
 clear hb HB5 HT5 HF;have HF:=zH (fails_err ⟨#[108,101,116,32,49]⟩ 4 18 ev3 w6 (by unfold maxLen; decide))
 go_wp2_with fail;refine HF.out.mono ?_;rintro e w7 ⟨rfl,hb⟩;have HB7:=zH (HB6.out.trans (hb.mono (by rw [← hKe]; exact HB6.out.size)))
 have HT7:=zH (tab_below HT6.out hb)
 clear hb HB6 HT6 HF;have HF:=zH (fails_err ⟨#[102,40]⟩ 2 18 ev4 w7 (by unfold maxLen; decide))
 go_wp2_with fail;refine HF.out.mono ?_;rintro e w8 ⟨rfl,hb⟩;have HB8:=zH (HB7.out.trans (hb.mono (by rw [← hKe]; exact HB7.out.size)))
 have HT8:=zH (tab_below HT7.out hb)
 clear hb HB7 HT7 HF;have HRP:=zH (Tryz.strings_Repeat ⟨#[40]⟩ 63 w8 (by decide) (by decide))
 obtain ⟨ra,hra⟩:∃r,Lib.repeatL (⟨#[40]⟩:ByteArray).data.toList 63=r:=⟨_,rfl⟩
 rw [hra] at HRP;have HRA:=zH hra;clear hra;go_wp2_with fail;refine HRP.out.mono ?_;rintro e w9 ⟨rfl,hb⟩;have HB9:=zH (HB8.out.trans (hb.mono (by rw [← hKe]; exact HB8.out.size)))
 have HT9:=zH (tab_below HT8.out hb)
 clear hb HB8 HT8 HRP;have hse:((⟨ra.toArray⟩:ByteArray)++⟨#[49]⟩).data.toList=List.replicate 63 40++[49]:=by rw [bapp ra [49]]; show ra++[49]=_; rw [← HRA.out]; exact rep63
 have hra63:ra.length=63:=by rw [← HRA.out]; rfl
 have hnra:¬ (9223372036854775807 < ra.length+1):=by omega
 obtain ⟨sa,hsa⟩:∃s,(⟨ra.toArray⟩:ByteArray)++⟨#[49]⟩=s:=⟨_,rfl⟩
 have hsl:sa.size≤maxLen:=by
  have h1:sa.size=64:=by rw [← hsa,bapp ra [49]]; show (ra++[49]).toArray.size=64; simp; omega
  rw [h1]; unfold maxLen; decide
 rw [hsa] at hse;have HF:=zH (fails_err sa 63 12 (by rw [hse]; exact ev5) w9 hsl)
 clear hse hsl hra63;go_wp2_with fail;refine HF.out.mono ?_;rintro e w10 ⟨rfl,hb⟩;have HB10:=zH (HB9.out.trans (hb.mono (by rw [← hKe]; exact HB9.out.size)))
 have HT10:=zH (tab_below HT9.out hb)
 clear hb HB9 HT9 HF hnra HRA;clear hsa;have HRP:=zH (Tryz.strings_Repeat ⟨#[40]⟩ 62 w10 (by decide) (by decide))
 obtain ⟨rb,hrb⟩:∃r,Lib.repeatL (⟨#[40]⟩:ByteArray).data.toList 62=r:=⟨_,rfl⟩
 rw [hrb] at HRP;have HRB:=zH hrb;clear hrb;go_wp2_with fail;refine HRP.out.mono ?_;rintro e w11 ⟨rfl,hb⟩;have HB11:=zH (HB10.out.trans (hb.mono (by rw [← hKe]; exact HB10.out.size)))
 have HT11:=zH (tab_below HT10.out hb)
 clear hb HB10 HT10 HRP;have hrb62:rb.length=62:=by rw [← HRB.out]; rfl
 have hnrb:¬ (9223372036854775807 < rb.length+1):=by omega
 obtain ⟨sb,hsb⟩:∃s,(⟨rb.toArray⟩:ByteArray)++⟨#[49]⟩=s:=⟨_,rfl⟩
 have hsb2:sb=⟨(rb++[49]).toArray⟩:=by rw [← hsb]; exact bapp rb [49]
 have HSB2:=zH hsb2
 have HRB62:=zH hrb62
 clear hsb2 hrb62;have HRP:=zH (Tryz.strings_Repeat ⟨#[41]⟩ 62 w11 (by decide) (by decide))
 obtain ⟨rc,hrc⟩:∃r,Lib.repeatL (⟨#[41]⟩:ByteArray).data.toList 62=r:=⟨_,rfl⟩
 rw [hrc] at HRP;have HRC:=zH hrc;clear hrc;go_wp2_with fail;refine HRP.out.mono ?_;rintro e w12 ⟨rfl,hb⟩;have HB12:=zH (HB11.out.trans (hb.mono (by rw [← hKe]; exact HB11.out.size)))
 have HT12:=zH (tab_below HT11.out hb)
 clear hb HB11 HT11 HRP;have hrc62:rc.length=62:=by rw [← HRC.out]; rfl
 have hsbz:sb.size=63:=by rw [HSB2.out]; show (rb++[49]).toArray.size=63; simp; exact HRB62.out
 have hn1:¬ (9223372036854775807 < sb.size+rc.length):=by omega
 have hn2:¬ (9223372036854775807 < sb.size+rc.length+1):=by omega
 obtain ⟨sd,hsd⟩:∃s,sb++⟨rc.toArray⟩++(⟨#[59]⟩:ByteArray)=s:=⟨_,rfl⟩
 have hsd2:sd=⟨(rb++[49]++rc++[59]).toArray⟩:=by rw [← hsd,HSB2.out,bapp (rb++[49]) rc]; exact bapp (rb++[49]++rc) [59]
 have hse:sd.data.toList=List.replicate 62 40++[49]++List.replicate 62 41++[59]:=by rw [hsd2]; show rb++[49]++rc++[59]=_; rw [← HRB.out,← HRC.out]; exact rep62
 have hsl:sd.size≤maxLen:=by
  have h1:sd.size=126:=by rw [hsd2]; show (rb++[49]++rc++[59]).toArray.size=126; simp; have:=HRB62.out; omega
  rw [h1]; unfold maxLen; decide
 have hok:=okB_ok ev6
 obtain ⟨Fq,hFq,hFl⟩:=hok
 have HF:=zH (fails_ok sd Fq (by rw [hse]; exact hFq) hFl w12 hsl)
 clear hse hsl hrc62 hsbz hsd2 HRB62 HSB2 HRB HRC hFq hFl;go_wp2_with fail;refine HF.out.mono ?_;rintro e w13 ⟨rfl,hb⟩;have HB13:=zH (HB12.out.trans (hb.mono (by rw [← hKe]; exact HB12.out.size)))
 have HT13:=zH (tab_below HT12.out hb)
 clear hb HB12 HT12 HF hsb hsd hn1 hn2 hnrb;go_upto_region 9 with fail
 have HF:=zH (prints_any ⟨#[105,102,32,97,123,102,40,49,44,91,50,93,41,59,125]⟩ ⟨#[105,102,32,97,32,123,10,32,32,102,40,49,44,32,91,50,93,41,59,10,125,10]⟩ ev7 w13 (by unfold maxLen; decide) HT13.out)
 go_wp2_with fail;refine HF.out.mono ?_;rintro e w14 ⟨rfl,hb⟩;have HB14:=zH (HB13.out.trans (hb.mono (by rw [← hKe]; exact HB13.out.size)))
 have HT14:=zH (tab_below HT13.out hb)
 clear hb HB13 HT13 HF;have HF:=zH (prints_any ⟨#[40,49,43,50,41,42,51,59]⟩ ⟨#[40,49,32,43,32,50,41,32,42,32,51,59,10]⟩ ev8 w14 (by unfold maxLen; decide) HT14.out)
 go_wp2_with fail;refine HF.out.mono ?_;rintro e w15 ⟨rfl,hb⟩;have HB15:=zH (HB14.out.trans (hb.mono (by rw [← hKe]; exact HB14.out.size)))
 have HT15:=zH (tab_below HT14.out hb)
 clear hb HB14 HT14 HF;have HF:=zH (prints_any ⟨#[40,97,45,98,41,45,99,59,97,45,40,98,45,99,41,59]⟩ ⟨#[97,32,45,32,98,32,45,32,99,59,10,97,32,45,32,40,98,32,45,32,99,41,59,10]⟩ ev9 w15 (by unfold maxLen; decide) HT15.out)
 go_wp2_with fail;refine HF.out.mono ?_;rintro e w16 ⟨rfl,hb⟩;have HB16:=zH (HB15.out.trans (hb.mono (by rw [← hKe]; exact HB15.out.size)))
 have HT16:=zH (tab_below HT15.out hb)
 clear hb HB15 HT15 HF;go_upto_region 11 with fail
 have HF:=zH (finds_any ⟨#[120,32,61,32,49,59]⟩ 0 13 ev10 w16 (by unfold maxLen; decide))
 go_wp2_with fail;refine HF.out.mono ?_;rintro e w17 ⟨rfl,hb⟩;have HB17:=zH (HB16.out.trans (hb.mono (by rw [← hKe]; exact HB16.out.size)))
 have HT17:=zH (tab_below HT16.out hb)
 clear hb HB16 HT16 HF;have HF:=zH (finds_any ⟨#[108,101,116,32,120,32,61,32,120,59]⟩ 8 13 ev11 w17 (by unfold maxLen; decide))
 go_wp2_with fail;refine HF.out.mono ?_;rintro e w18 ⟨rfl,hb⟩;have HB18:=zH (HB17.out.trans (hb.mono (by rw [← hKe]; exact HB17.out.size)))
 have HT18:=zH (tab_below HT17.out hb)
 clear hb HB17 HT17 HF;have HF:=zH (finds_any ⟨#[108,101,116,32,120,32,61,32,49,59,32,108,101,116,32,120,32,61,32,50,59]⟩ 11 10 ev12 w18 (by unfold maxLen; decide))
 go_wp2_with fail;refine HF.out.mono ?_;rintro e w19 ⟨rfl,hb⟩;have HB19:=zH (HB18.out.trans (hb.mono (by rw [← hKe]; exact HB18.out.size)))
 have HT19:=zH (tab_below HT18.out hb)
 clear hb HB18 HT18 HF;have HF:=zH (finds_any ⟨#[123,32,102,110,32,102,40,41,32,123,32,125,32,125]⟩ 2 14 ev13 w19 (by unfold maxLen; decide))
 go_wp2_with fail;refine HF.out.mono ?_;rintro e w20 ⟨rfl,hb⟩;have HB20:=zH (HB19.out.trans (hb.mono (by rw [← hKe]; exact HB19.out.size)))
 have HT20:=zH (tab_below HT19.out hb)
 clear hb HB19 HT19 HF;have HF:=zH (finds_any ⟨#[108,101,116,32,120,32,61,32,49,59,32,123,32,108,101,116,32,120,32,61,32,120,59,32,125]⟩ 0 0 ev14 w20 (by unfold maxLen; decide))
 go_wp2_with fail;refine HF.out.mono ?_;rintro e w21 ⟨rfl,hb⟩;have HB21:=zH (HB20.out.trans (hb.mono (by rw [← hKe]; exact HB20.out.size)))
 have HT21:=zH (tab_below HT20.out hb)
 clear hb HB20 HT20 HF;go_wp2_with fail;go_ret;exact ⟨by simp,by rw [hKe]; exact HB21.out⟩
open Go.RowKit
structure Ldd (w:World):Prop where
 tab:Lib.TabIs Tryz.prog w "internal/strconv.uint64pow10" .u64 Lib.pow10Tab
 es:∃tp p,w.var? Tryz.prog "strconv.ErrSyntax" = some #[.iface tp p]
 er:∃tp p,w.var? Tryz.prog "strconv.ErrRange" = some #[.iface tp p]
theorem Ldd.awake {w w':World} (h:Ldd w) (hb:Below w.heap.size w w'):Calls Tryz.prog 10 #[] w' fun e w2=>e=.returned (.bool true)∧Below w'.heap.size w' w2:=awake_any w' (tab_below h.tab hb)
end Go.Proofs.YtbaidkefobhipaaGreatDoor
