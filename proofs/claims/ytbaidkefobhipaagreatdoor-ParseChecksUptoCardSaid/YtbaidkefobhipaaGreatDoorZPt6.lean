/-
  Walks: the printer's branch and statement. (Printed by gen_pt6.py.)
-/
import Derived.Test.YtbaidkefobhipaaGreatDoorZPt5
import Derived.Test.YtbaidkefobhipaaGreatDoorZS23
import Derived.Test.YtbaidkefobhipaaGreatDoorZS24
namespace Go.Proofs.YtbaidkefobhipaaGreatDoor
set_option maxHeartbeats 16000000
set_option maxRecDepth 100000
open Go.RowKit

theorem ex_of {h:Hd} {k:Fo} {t:List Ro} {r:Fo} (hr:rt (.sq (.ex::t)) (.cons h k r)=true):exN h k=true∧rt (.sq t) r=true:=by
 simp only [rt,Bool.and_eq_true] at hr;unfold exN;simp only [Bool.and_eq_true];exact ⟨⟨hr.1.1,hr.1.2⟩,hr.2⟩
theorem bl_of {h:Hd} {k:Fo} {t:List Ro} {r:Fo} (hr:rt (.sq (.bl::t)) (.cons h k r)=true):h.kind=25∧rt .st k=true∧rt (.sq t) r=true:=by
 simp only [rt,Bool.and_eq_true,decide_eq_true_eq] at hr;refine ⟨hr.1.1.1,?_,hr.2⟩;refine (blN_st (h:=h) ?_).1;simp only [blN,stN,Bool.and_eq_true,decide_eq_true_eq];exact ⟨hr.1.1.1,hr.1.1.2,hr.1.2⟩
theorem bi_of {h:Hd} {k:Fo} {t:List Ro} {r:Fo} (hr:rt (.sq (.bi::t)) (.cons h k r)=true):stN h k=true∧rt (.sq t) r=true:=by
 simp only [rt,Bool.and_eq_true] at hr;unfold stN;simp only [Bool.and_eq_true];exact ⟨⟨hr.1.1.2,hr.1.2⟩,hr.2⟩
theorem nil_of {r:Fo} (hr:rt (.sq []) r=true):r=.nil:=by
 cases r with
 | nil=>rfl
 | cons _ _ _=>simp [rt] at hr
theorem sq_cons {o:Ro} {t:List Ro} {F:Fo} (hr:rt (.sq (o::t)) F=true):∃h k r,F=.cons h k r:=by
 cases F with
 | nil=>simp [rt] at hr
 | cons h k r=>exact ⟨h,k,r,rfl⟩
theorem st_ex1 {h:Hd} {k:Fo} (hs:stN h k=true) (hk:h.kind=20∨h.kind=21∨h.kind=28):∃h0 k0,k=.cons h0 k0 .nil∧exN h0 k0=true:=by
 have h1:=st_kids hs
 unfold kidM at h1;rw [if_pos hk] at h1;obtain ⟨h0,k0,r,rfl⟩:=sq_cons h1;obtain ⟨h2,h3⟩:=ex_of h1;obtain rfl:=nil_of h3;exact ⟨h0,k0,rfl,h2⟩
theorem st_br {h:Hd} {k:Fo} (hs:stN h k=true) (hk:h.kind=22):∃h0 k0 h1 k1 R,k=.cons h0 k0 (.cons h1 k1 R)∧exN h0 k0=true∧h1.kind=25∧rt .st k1=true∧(R=.nil∨∃h2 k2,R=.cons h2 k2 .nil∧stN h2 k2=true):=by
 have h1:=st_kids hs
 unfold kidM at h1;rw [if_neg (by omega),if_pos hk] at h1
 split at h1
 ·obtain ⟨h0,k0,r,rfl⟩:=sq_cons h1
  obtain ⟨h2,h3⟩:=ex_of h1
  obtain ⟨h4,k4,r4,rfl⟩:=sq_cons h3
  obtain ⟨h5,h6,h7⟩:=bl_of h3
  obtain ⟨h8,k8,r8,rfl⟩:=sq_cons h7
  obtain ⟨h9,h10⟩:=bi_of h7
  obtain rfl:=nil_of h10
  exact ⟨_,_,_,_,_,rfl,h2,h5,h6,Or.inr ⟨_,_,rfl,h9⟩⟩
 ·obtain ⟨h0,k0,r,rfl⟩:=sq_cons h1
  obtain ⟨h2,h3⟩:=ex_of h1
  obtain ⟨h4,k4,r4,rfl⟩:=sq_cons h3
  obtain ⟨h5,h6,h7⟩:=bl_of h3
  obtain rfl:=nil_of h7
  exact ⟨_,_,_,_,_,rfl,h2,h5,h6,Or.inl rfl⟩
theorem st_wh {h:Hd} {k:Fo} (hs:stN h k=true) (hk:h.kind=23):∃h0 k0 h1 k1,k=.cons h0 k0 (.cons h1 k1 .nil)∧exN h0 k0=true∧h1.kind=25∧rt .st k1=true:=by
 have h1:=st_kids hs
 unfold kidM at h1;rw [if_neg (by omega),if_neg (by omega),if_pos hk] at h1
 obtain ⟨h0,k0,r,rfl⟩:=sq_cons h1
 obtain ⟨h2,h3⟩:=ex_of h1
 obtain ⟨h4,k4,r4,rfl⟩:=sq_cons h3
 obtain ⟨h5,h6,h7⟩:=bl_of h3
 obtain rfl:=nil_of h7
 exact ⟨_,_,_,_,rfl,h2,h5,h6⟩
theorem st_fo {h:Hd} {k:Fo} (hs:stN h k=true) (hk:h.kind=24):∃h0 k0 h1 k1 h2 k2,k=.cons h0 k0 (.cons h1 k1 (.cons h2 k2 .nil))∧exN h0 k0=true∧exN h1 k1=true∧h2.kind=25∧rt .st k2=true:=by
 have h1:=st_kids hs
 unfold kidM at h1;rw [if_neg (by omega),if_neg (by omega),if_neg (by omega),if_pos hk] at h1
 obtain ⟨h0,k0,r,rfl⟩:=sq_cons h1
 obtain ⟨h2,h3⟩:=ex_of h1
 obtain ⟨h4,k4,r4,rfl⟩:=sq_cons h3
 obtain ⟨h5,h6⟩:=ex_of h3
 obtain ⟨h7,k7,r7,rfl⟩:=sq_cons h6
 obtain ⟨h8,h9,h10⟩:=bl_of h6
 obtain rfl:=nil_of h10
 exact ⟨_,_,_,_,_,_,rfl,h2,h5,h8,h9⟩
theorem st_fu {h:Hd} {k:Fo} (hs:stN h k=true) (hk:h.kind=26):∃h1 k1,k=.cons h1 k1 .nil∧h1.kind=25∧rt .st k1=true:=by
 have h1:=st_kids hs
 unfold kidM at h1;rw [if_neg (by omega),if_neg (by omega),if_neg (by omega),if_neg (by omega),if_neg (by omega),if_pos hk] at h1
 obtain ⟨h4,k4,r4,rfl⟩:=sq_cons h1
 obtain ⟨h5,h6,h7⟩:=bl_of h1
 obtain rfl:=nil_of h7
 exact ⟨_,_,rfl,h5,h6⟩
theorem st_re {h:Hd} {k:Fo} (hs:stN h k=true) (hk:h.kind=27):k=.nil∨∃h0 k0,k=.cons h0 k0 .nil∧exN h0 k0=true:=by
 have h1:=st_kids hs
 unfold kidM at h1;rw [if_neg (by omega),if_neg (by omega),if_neg (by omega),if_neg (by omega),if_neg (by omega),if_neg (by omega),if_pos hk] at h1
 split at h1
 ·rename_i hz
  cases k with
  | nil=>exact Or.inl rfl
  | cons _ _ _=>simp [Fo.len] at hz
 ·obtain ⟨h0,k0,r,rfl⟩:=sq_cons h1
  obtain ⟨h2,h3⟩:=ex_of h1
  obtain rfl:=nil_of h3
  exact Or.inr ⟨_,_,rfl,h2⟩
theorem stOne_blk {h:Hd} (hk:h.kind=25) (k:Fo) (d:Nat):stOne h (ntT k) d=blkT k d:=by
 unfold stOne blkT;rw [if_neg (by omega),if_neg (by omega),if_neg (by omega),if_neg (by omega),if_neg (by omega),if_pos hk]
theorem row_sh {w:World} {x:Option Addr} {n c:Nat} {F:Fo} (h:FRow w (.slice x n c) F):n≤c∧c≤9223372036854775807:=by
 obtain ⟨_,_,hvv,hlc,hlm,-⟩:=h
 injection hvv with e1 e2 e3
 subst e3;unfold maxLen at hlm;rw [e2];exact ⟨hlc,by omega⟩

def ifT (E0 B1:List UInt8) (R:List UInt8):List UInt8:=[105,102,32]++E0++[32]++B1++R
theorem pbranch_any (w0:World) (P N:Nat) (htab:Lib.TabIs Tryz.prog w0 "internal/strconv.uint64pow10" .u64 Lib.pow10Tab) (hx:PsOk w0 P N) (hkk:PkOk w0 P N) (h h0 h1:Hd) (k0 k1 R:Fo) (d:Nat) (xn xk:Option Addr) (cn n ck:Nat) (w:World) (l:List UInt8)
  (hN:k1.size < N∧R.size≤N) (hen:exN h0 k0=true) (hrt:rt .st k1=true) (hR:R=.nil∨∃h2 k2,R=.cons h2 k2 .nil∧stN h2 k2=true)
  (hkr:FRow w0 (.slice xk n ck) (.cons h0 k0 (.cons h1 k1 R))) (hbw:Below w0.heap.size w0 w) (hp:Prt w0.heap.size P l w) (hln:l.length+(ifT (exOne h0 (exT k0)) (blkT k1 d) (if R.len=1 then [32,101,108,115,101,32]++st0 (ntT R) 0 d else [])).length≤Mw):
  Calls Tryz.prog 89 #[.pointer (some ⟨P,0,none⟩),.agg (ndV h (.slice xn h.names.length cn) (.slice xk n ck)),.int .i64 (d:Nat)] w (PrCut w0.heap.size P l (ifT (exOne h0 (exT k0)) (blkT k1 d) (if R.len=1 then [32,101,108,115,101,32]++st0 (ntT R) 0 d else [])) w):=by
 obtain rfl:n=R.len+2:=by rw [hkr.len_eq]; rfl
 obtain ⟨b0,off,xn0,cn0,xk0,ck0,rfl,hb0,hz0,hk0⟩:=hkr.node0
 have hcs:=row_sh hkr
 have ht1:=FRow.tail (A:=.cons h0 k0 .nil) hkr
 simp only [Fo.len,Nat.zero_add,Nat.one_mul] at ht1;obtain ⟨_,_,xn1,cn1,xk1,ck1,he1,-,hz1,hk1⟩:=ht1.node0;injection he1 with he1
 injection he1 with he1 he2
 subst he1 he2;have hX:=fun w l h1 h2 h3=>px_all w0 P htab (k0.size+1) h0 k0 xn0 xk0 cn0 ck0 w l (Nat.lt_succ_self _) hen hk0 h1 h2 h3
 have hKB:=fun w l h2 h3 h4=>hkk h1 k1 d xn1 xk1 cn1 ck1 w l hN.1 hrt hk1 h2 h3 h4
 have hRL:R.len≤1:=by rcases hR with rfl | ⟨h2,k2,rfl,-⟩ <;> simp [Fo.len]
 have hT2:∀h2 k2,R=.cons h2 k2 .nil→∃xn2 xk2 cn2 ck2,(w0.cell? ⟨b0,off+12,none⟩=some (.int .i64 h2.kind)∧w0.cell? ⟨b0,off+12+1,none⟩=some (.string ⟨h2.text.toArray⟩)∧w0.cell? ⟨b0,off+12+2,none⟩=some (.int .i64 h2.num)∧
   w0.cell? ⟨b0,off+12+3,none⟩=some (.slice xn2 h2.names.length cn2)∧w0.cell? ⟨b0,off+12+4,none⟩=some (.slice xk2 k2.len ck2)∧w0.cell? ⟨b0,off+12+5,none⟩=some (.int .i64 h2.pos))∧
   ∀w l,Below w0.heap.size w0 w→Prt w0.heap.size P l w→l.length+(stOne h2 (ntT k2) d).length≤Mw→Calls Tryz.prog 46 #[.pointer (some ⟨P,0,none⟩),.agg (ndV h2 (.slice xn2 h2.names.length cn2) (.slice xk2 k2.len ck2)),.int .i64 (d:Nat)] w (PrCut w0.heap.size P l (stOne h2 (ntT k2) d) w):=by
  rintro h2 k2 rfl;have ht2:=FRow.tail (A:=.cons h1 k1 .nil) ht1;simp only [Fo.len,Nat.zero_add,Nat.one_mul] at ht2;obtain ⟨b2,off2,xn2,cn2,xk2,ck2,he3,⟨z0,z1,z2,z3,z4,z5⟩,hn2,hk2⟩:=FRow.node (A:=.nil) ht2;injection he3 with he3
  injection he3 with he3 he4
  subst he3 he4;simp only [Fo.len,Nat.zero_mul,Nat.add_zero,Nat.add_assoc,Nat.reduceAdd] at z0 z1 z2 z3 z4 z5;have hs2:stN h2 k2=true:=by
   rcases hR with h | ⟨h3,k3,he,hs⟩
   ·cases h
   ·injection he with e1 e2 e3; subst e1 e2; exact hs
  refine ⟨xn2,xk2,cn2,ck2,⟨z0,z1,z2,z3,z4,z5⟩,fun w l g1 g2 g3=>hx h2 k2 d xn2 xk2 cn2 ck2 w l ?_ hs2 hn2 hk2 g1 g2 g3⟩
  have:=hN.2
  simp only [Fo.size] at this;omega
 clear htab hen hkr hkk hrt hN hx;obtain ⟨B,hB⟩:∃B,w0.heap.size=B:=⟨_,rfl⟩;have HB:=zH hB;rw [hB] at hbw hp ⊢;have hsz:B≤w.heap.size:=by rw [← hB]; exact (show Below w0.heap.size w0 w by rw [hB]; exact hbw).size
 have HBND:=zH hln
 have hba:=(Below.refl w.heap.size w).alloc (Nat.le_refl _) (.cells (ndV h (.slice xn h.names.length cn) (.slice (some ⟨b0,off,none⟩) (R.len+2) ck)) 31)
 have HKB:=zH (Blk.new w 31 (ndV h (.slice xn h.names.length cn) (.slice (some ⟨b0,off,none⟩) (R.len+2) ck)))
 have HS:=zH ((PrS.mk hp hbw (Fr.refl B PT w) hsz).below hba)
 rw [hB] at hX hb0 hKB hT2;have HX:=zH hX;have HKK:=zH hKB;have HT2:=zH hT2;have HB0:=zH hb0;have HZ0:=zH hz0;have HZ1:=zH hz1;have HCS:=zH hcs;have HR:=zH hR;clear hX hb0 hz0 hz1 hKB hT2 hk0 hk1 ht1 hcs hR;clear hbw hp hln hB hsz hba;obtain ⟨TT,hTT⟩:∃TT,ifT (exOne h0 (exT k0)) (blkT k1 d) (if R.len=1 then [32,101,108,115,101,32]++st0 (ntT R) 0 d else [])=TT:=⟨_,rfl⟩
 have HTT:=zH hTT
 rw [hTT] at HBND ⊢;clear hTT;obtain ⟨kd,tx,nu,nm,ps⟩:=h;simp only at HKB HS HTT ⊢;unfold ndV at HKB HS ⊢;go_enter Tryz.func89,Tryz.ntmps89;go_upto_region 1 with fail
 generalize w.alloc (.cells #[.int .i64 kd,.string ⟨tx.toArray⟩,.int .i64 nu,.slice xn nm.length cn,.slice (some ⟨b0,off,none⟩) (R.len+2) ck,.int .i64 ps] 31)=wz at*;generalize hKBe:w.heap.size=KB at*;clear hKBe;have y0:wz.cell? ⟨KB,0,none⟩=some (.int .i64 kd):=HKB.out.cell 0;have y1:wz.cell? ⟨KB,1,none⟩=some (.string ⟨tx.toArray⟩):=HKB.out.cell 1
 have y2:wz.cell? ⟨KB,2,none⟩=some (.int .i64 nu):=HKB.out.cell 2
 have y3:wz.cell? ⟨KB,3,none⟩=some (.slice xn nm.length cn):=HKB.out.cell 3
 have y4:wz.cell? ⟨KB,4,none⟩=some (.slice (some ⟨b0,off,none⟩) (R.len+2) ck):=HKB.out.cell 4
 have y5:wz.cell? ⟨KB,5,none⟩=some (.int .i64 ps):=HKB.out.cell 5
 have hcs:=HCS.out
 obtain ⟨rl,hrl⟩:∃rl,R.len=rl:=⟨_,rfl⟩
 have HRL:=zH hrl
 rw [hrl] at HTT HKB y4 hRL hcs;clear hrl;obtain ⟨E0,hE0⟩:∃E,exOne h0 (exT k0)=E:=⟨_,rfl⟩;obtain ⟨B1,hB1⟩:∃E,blkT k1 d=E:=⟨_,rfl⟩;rw [hE0] at HX HTT;rw [hB1] at HKK HTT;have hT:TT=[105,102,32]++E0++[32]++B1++(if rl=1 then [32,101,108,115,101,32]++st0 (ntT R) 0 d else []):=HTT.out.symm
 rw [hT] at HBND;have HRT:=zH hT;clear hT HTT hE0 hB1;unfold ndV at HX HKK;have hm0:(0:Int) < (rl:Int)+2∧(1:Int) < (rl:Int)+2:=by omega
 have hbn:=(Below.refl wz.heap.size wz).alloc (Nat.le_refl _) (.cells #[.string ⟨#[105,102,32]⟩] 9)
 have HPU:=zH (put_any B P l wz.heap.size [[105,102,32]] (wz.alloc (.cells #[.string ⟨#[105,102,32]⟩] 9)) (HS.out.prt.below hbn) (Blk.new wz 9 #[.string ⟨#[105,102,32]⟩]) (by simp) (by have h1:=HBND.out; unfold Mw at h1; first | (simp only [List.length_append,List.length_cons,List.length_nil] at h1  ⊢; omega) | (simp only [List.length_append,List.flatten_cons,List.flatten_nil,List.append_nil,List.length_cons,List.length_nil] at h1  ⊢; omega)) (by have h1:=HS.out.size; simp; omega))
 have e1:([[105,102,32]]:List Nm).length=1:=rfl
 rw [e1] at HPU;have HBN:=zH hbn;clear e1 hbn;go_wp2_with fail;refine HPU.out.mono ?_;rintro e w1 ⟨rfl,hp1,hf1⟩;have HS2:=zH (HS.out.next HBN.out hp1 hf1);have HKB2:=zH (hf1.blk (HKB.out.alloc _) pt_syn);clear HS HKB y0 y1 y2 y3 y4 y5 hp1 hf1 HPU HBN;have HS:=HS2;have HKB:=HKB2;clear HS2 HKB2;have y0:w1.cell? ⟨KB,0,none⟩=some (.int .i64 kd):=HKB.out.cell 0
 have y1:w1.cell? ⟨KB,1,none⟩=some (.string ⟨tx.toArray⟩):=HKB.out.cell 1
 have y2:w1.cell? ⟨KB,2,none⟩=some (.int .i64 nu):=HKB.out.cell 2
 have y3:w1.cell? ⟨KB,3,none⟩=some (.slice xn nm.length cn):=HKB.out.cell 3
 have y4:w1.cell? ⟨KB,4,none⟩=some (.slice (some ⟨b0,off,none⟩) (rl+2) ck):=HKB.out.cell 4
 have y5:w1.cell? ⟨KB,5,none⟩=some (.int .i64 ps):=HKB.out.cell 5
 obtain ⟨z0,z1,z2,z3,z4,z5⟩:=HZ0.out
 have trz:∀o u,w0.cell? ⟨b0,o,none⟩=some u→w1.cell? ⟨b0,o,none⟩=some u:=fun o u h=>(HS.out.bel.cell (p:=⟨b0,o,none⟩) HB0.out).trans h
 replace z0:=trz _ _ z0
 replace z1:=trz _ _ z1
 replace z2:=trz _ _ z2
 replace z3:=trz _ _ z3
 replace z4:=trz _ _ z4
 replace z5:=trz _ _ z5
 clear trz;have HC:=zH (HX.out w1 (l++([[105,102,32]]:List Nm).flatten) HS.out.bel HS.out.prt (by have h1:=HBND.out; unfold Mw at h1 ⊢; first | (simp only [List.length_append,List.length_cons,List.length_nil] at h1  ⊢; omega) | (simp only [List.length_append,List.flatten_cons,List.flatten_nil,List.append_nil,List.length_cons,List.length_nil] at h1  ⊢; omega)))
 go_wp2_with fail;refine HC.out.mono ?_;rintro e w2 ⟨rfl,hp1,hf1⟩;have HS2:=zH (HS.out.next (Below.refl _ _) hp1 hf1);have HKB2:=zH (hf1.blk HKB.out pt_syn);clear HS HKB y0 y1 y2 y3 y4 y5 hp1 hf1 HC z0 z1 z2 z3 z4 z5;have HS:=HS2;have HKB:=HKB2;clear HS2 HKB2;have y0:w2.cell? ⟨KB,0,none⟩=some (.int .i64 kd):=HKB.out.cell 0;have y1:w2.cell? ⟨KB,1,none⟩=some (.string ⟨tx.toArray⟩):=HKB.out.cell 1
 have y2:w2.cell? ⟨KB,2,none⟩=some (.int .i64 nu):=HKB.out.cell 2
 have y3:w2.cell? ⟨KB,3,none⟩=some (.slice xn nm.length cn):=HKB.out.cell 3
 have y4:w2.cell? ⟨KB,4,none⟩=some (.slice (some ⟨b0,off,none⟩) (rl+2) ck):=HKB.out.cell 4
 have y5:w2.cell? ⟨KB,5,none⟩=some (.int .i64 ps):=HKB.out.cell 5
 have hbn:=(Below.refl w2.heap.size w2).alloc (Nat.le_refl _) (.cells #[.string ⟨#[32]⟩] 9)
 have HPU:=zH (put_any B P ((l++([[105,102,32]]:List Nm).flatten)++E0) w2.heap.size [[32]] (w2.alloc (.cells #[.string ⟨#[32]⟩] 9)) (HS.out.prt.below hbn) (Blk.new w2 9 #[.string ⟨#[32]⟩]) (by simp) (by have h1:=HBND.out; unfold Mw at h1; first | (simp only [List.length_append,List.length_cons,List.length_nil] at h1  ⊢; omega) | (simp only [List.length_append,List.flatten_cons,List.flatten_nil,List.append_nil,List.length_cons,List.length_nil] at h1  ⊢; omega)) (by have h1:=HS.out.size; simp; omega))
 have e1:([[32]]:List Nm).length=1:=rfl
 rw [e1] at HPU;have HBN:=zH hbn;clear e1 hbn;go_wp2_with fail;refine HPU.out.mono ?_;rintro e w3 ⟨rfl,hp1,hf1⟩;have HS2:=zH (HS.out.next HBN.out hp1 hf1);have HKB2:=zH (hf1.blk (HKB.out.alloc _) pt_syn);clear HS HKB y0 y1 y2 y3 y4 y5 hp1 hf1 HPU HBN;have HS:=HS2;have HKB:=HKB2;clear HS2 HKB2;have y0:w3.cell? ⟨KB,0,none⟩=some (.int .i64 kd):=HKB.out.cell 0
 have y1:w3.cell? ⟨KB,1,none⟩=some (.string ⟨tx.toArray⟩):=HKB.out.cell 1
 have y2:w3.cell? ⟨KB,2,none⟩=some (.int .i64 nu):=HKB.out.cell 2
 have y3:w3.cell? ⟨KB,3,none⟩=some (.slice xn nm.length cn):=HKB.out.cell 3
 have y4:w3.cell? ⟨KB,4,none⟩=some (.slice (some ⟨b0,off,none⟩) (rl+2) ck):=HKB.out.cell 4
 have y5:w3.cell? ⟨KB,5,none⟩=some (.int .i64 ps):=HKB.out.cell 5
 obtain ⟨z0,z1,z2,z3,z4,z5⟩:=HZ1.out
 have trz:∀o u,w0.cell? ⟨b0,o,none⟩=some u→w3.cell? ⟨b0,o,none⟩=some u:=fun o u h=>(HS.out.bel.cell (p:=⟨b0,o,none⟩) HB0.out).trans h
 replace z0:=trz _ _ z0
 replace z1:=trz _ _ z1
 replace z2:=trz _ _ z2
 replace z3:=trz _ _ z3
 replace z4:=trz _ _ z4
 replace z5:=trz _ _ z5
 clear trz;have HC:=zH (HKK.out w3 (((l++([[105,102,32]]:List Nm).flatten)++E0)++([[32]]:List Nm).flatten) HS.out.bel HS.out.prt (by have h1:=HBND.out; unfold Mw at h1 ⊢; first | (simp only [List.length_append,List.length_cons,List.length_nil] at h1  ⊢; omega) | (simp only [List.length_append,List.flatten_cons,List.flatten_nil,List.append_nil,List.length_cons,List.length_nil] at h1  ⊢; omega)))
 go_wp2_with fail;refine HC.out.mono ?_;rintro e w4 ⟨rfl,a2,hc1,hp1,hf1⟩;have HS2:=zH (HS.out.next (Below.refl _ _) hp1 hf1);have HC2:Hid (Cut a2 ((((l++([[105,102,32]]:List Nm).flatten)++E0)++([[32]]:List Nm).flatten)++B1)):=hc1;have HKB2:=zH (hf1.blk HKB.out pt_syn);clear HS HKB y0 y1 y2 y3 y4 y5 hp1 hf1 hc1 HC z0 z1 z2 z3 z4 z5;have HS:=HS2;have HKB:=HKB2;clear HS2 HKB2
 have y0:w4.cell? ⟨KB,0,none⟩=some (.int .i64 kd):=HKB.out.cell 0
 have y1:w4.cell? ⟨KB,1,none⟩=some (.string ⟨tx.toArray⟩):=HKB.out.cell 1
 have y2:w4.cell? ⟨KB,2,none⟩=some (.int .i64 nu):=HKB.out.cell 2
 have y3:w4.cell? ⟨KB,3,none⟩=some (.slice xn nm.length cn):=HKB.out.cell 3
 have y4:w4.cell? ⟨KB,4,none⟩=some (.slice (some ⟨b0,off,none⟩) (rl+2) ck):=HKB.out.cell 4
 have y5:w4.cell? ⟨KB,5,none⟩=some (.int .i64 ps):=HKB.out.cell 5
 by_cases h1r:rl=1
 ·subst h1r
  obtain ⟨h2,k2,rfl,-⟩:∃h2 k2,R=.cons h2 k2 .nil∧stN h2 k2=true:=by
   rcases HR.out with h | h
   ·have h1:=HRL.out; rw [h] at h1; cases h1
   ·exact h
  obtain ⟨xn2,xk2,cn2,ck2,hz2,hcon⟩:=HT2.out h2 k2 rfl
  have HZ2:=zH hz2
  have HCON:=zH hcon
  unfold ndV at HCON;clear hz2 hcon HT2;obtain ⟨E2,hE2⟩:∃E,stOne h2 (ntT k2) d=E:=⟨_,rfl⟩;rw [hE2] at HCON;have hst0:st0 (ntT (.cons h2 k2 .nil)) 0 d=E2:=hE2;rw [if_pos rfl,hst0] at HBND HRT;clear hE2 hst0;have hm3:(2:Int) < (3:Int):=by omega
  simp only [Nat.reduceAdd] at y4 HKB;have hbn:=(Below.refl w4.heap.size w4).alloc (Nat.le_refl _) (.cells #[.string ⟨#[32,101,108,115,101,32]⟩] 9)
  have HPU:=zH (put_any B P a2 w4.heap.size [[32,101,108,115,101,32]] (w4.alloc (.cells #[.string ⟨#[32,101,108,115,101,32]⟩] 9)) (HS.out.prt.below hbn) (Blk.new w4 9 #[.string ⟨#[32,101,108,115,101,32]⟩]) (by simp) (by have h1:=HBND.out; have c0:=HC2.out.le; unfold Mw at h1; first | (simp only [List.length_append,List.length_cons,List.length_nil] at h1 c0 ⊢; omega) | (simp only [List.length_append,List.flatten_cons,List.flatten_nil,List.append_nil,List.length_cons,List.length_nil] at h1 c0 ⊢; omega)) (by have h1:=HS.out.size; simp; omega))
  have e1:([[32,101,108,115,101,32]]:List Nm).length=1:=rfl
  rw [e1] at HPU;have HBN:=zH hbn;clear e1 hbn;go_wp2_with fail;refine HPU.out.mono ?_;rintro e w5 ⟨rfl,hp1,hf1⟩;have HS2:=zH (HS.out.next HBN.out hp1 hf1);have HKB2:=zH (hf1.blk (HKB.out.alloc _) pt_syn);clear HS HKB y0 y1 y2 y3 y4 y5 hp1 hf1 HPU HBN;have HS:=HS2;have HKB:=HKB2;clear HS2 HKB2;have y0:w5.cell? ⟨KB,0,none⟩=some (.int .i64 kd):=HKB.out.cell 0
  have y1:w5.cell? ⟨KB,1,none⟩=some (.string ⟨tx.toArray⟩):=HKB.out.cell 1
  have y2:w5.cell? ⟨KB,2,none⟩=some (.int .i64 nu):=HKB.out.cell 2
  have y3:w5.cell? ⟨KB,3,none⟩=some (.slice xn nm.length cn):=HKB.out.cell 3
  have y4:w5.cell? ⟨KB,4,none⟩=some (.slice (some ⟨b0,off,none⟩) 3 ck):=HKB.out.cell 4
  have y5:w5.cell? ⟨KB,5,none⟩=some (.int .i64 ps):=HKB.out.cell 5
  obtain ⟨z0,z1,z2,z3,z4,z5⟩:=HZ2.out
  have trz:∀o u,w0.cell? ⟨b0,o,none⟩=some u→w5.cell? ⟨b0,o,none⟩=some u:=fun o u h=>(HS.out.bel.cell (p:=⟨b0,o,none⟩) HB0.out).trans h
  replace z0:=trz _ _ z0
  replace z1:=trz _ _ z1
  replace z2:=trz _ _ z2
  replace z3:=trz _ _ z3
  replace z4:=trz _ _ z4
  replace z5:=trz _ _ z5
  clear trz;have HCU:=zH (HC2.out.app ([[32,101,108,115,101,32]]:List Nm).flatten)
  have HC:=zH (HCON.out w5 (a2++([[32,101,108,115,101,32]]:List Nm).flatten) HS.out.bel HS.out.prt (by have h1:=HBND.out; have c0:=HC2.out.le; unfold Mw at h1 ⊢; first | (simp only [List.length_append,List.length_cons,List.length_nil] at h1 c0 ⊢; omega) | (simp only [List.length_append,List.flatten_cons,List.flatten_nil,List.append_nil,List.length_cons,List.length_nil] at h1 c0 ⊢; omega)))
  go_wp2_with fail;refine HC.out.mono ?_;rintro e w6 ⟨rfl,a4,hc1,hp1,hf1⟩;have HS2:=zH (HS.out.next (Below.refl _ _) hp1 hf1);have HC4:Hid (Cut a4 (((((l++([[105,102,32]]:List Nm).flatten)++E0)++([[32]]:List Nm).flatten)++B1++([[32,101,108,115,101,32]]:List Nm).flatten)++E2)):=HCU.out.step hc1;clear HS hp1 hf1 hc1 HC HKB y0 y1 y2 y3 y4 y5 z0 z1 z2 z3 z4 z5;have HS:=HS2;clear HS2;go_wp2_with fail
  first
   | refine bodyPost_ret (results_none rfl _ _ _) rfl ⟨rfl,_,?_,HS.out.prt,HS.out.fr⟩
   | refine bodyPost_end (results_none rfl _ _ _) rfl ⟨rfl,_,?_,HS.out.prt,HS.out.fr⟩
  have h1:=HC4.out
  simpa [List.append_assoc,HRT.out] using h1
 ·have e3:((rl:Int)+2==3)=false:=by simp; omega
  have e4:((((rl+2:Nat):Int))==3)=false:=by simp; omega
  rw [if_neg h1r] at HBND HRT;clear h1r;go_wp2_with fail;first
   | refine bodyPost_ret (results_none rfl _ _ _) rfl ⟨rfl,_,?_,HS.out.prt,HS.out.fr⟩
   | refine bodyPost_end (results_none rfl _ _ _) rfl ⟨rfl,_,?_,HS.out.prt,HS.out.fr⟩
  have h1:=HC2.out
  simpa [List.append_assoc,HRT.out] using h1
end Go.Proofs.YtbaidkefobhipaaGreatDoor
