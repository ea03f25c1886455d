/-
  Walks: the printer's binary. (Printed by gen_pt3.py.)
-/
import Derived.Test.YtbaidkefobhipaaGreatDoorZS21
import Derived.Test.YtbaidkefobhipaaGreatDoorZCb4
namespace Go.Proofs.YtbaidkefobhipaaGreatDoor
set_option maxHeartbeats 8000000
set_option maxRecDepth 100000
open Go.RowKit

theorem weak_any (h:Hd) (n:Nat) (xn xk:Option Addr) (cn ck m:Nat) (w:World):
  Calls Tryz.prog 123 #[.agg (ndV h (.slice xn h.names.length cn) (.slice xk n ck)),.int .i64 (m:Nat)] w fun e w'=>e=.returned (.bool (weakB h m))∧Below w.heap.size w w':=by
 have HKB:=zH (Blk.new w 31 (ndV h (.slice xn h.names.length cn) (.slice xk n ck)))
 have HBA:=zH ((Below.refl w.heap.size w).alloc (Nat.le_refl _) (.cells (ndV h (.slice xn h.names.length cn) (.slice xk n ck)) 31))
 have HV:=zH (fun w=>stren_any ⟨h.text.toArray⟩ w)
 obtain ⟨q,hq⟩:∃q,stren h.text=q:=⟨_,rfl⟩
 have HQ:=zH hq
 simp only [hq] at HV;clear hq;obtain ⟨kd,tx,nu,nm,ps⟩:=h;simp only at HKB HBA HV HQ ⊢;unfold ndV at HKB HBA ⊢;go_enter Tryz.func123,Tryz.ntmps123;go_upto_region 1 with fail
 generalize w.alloc (.cells #[.int .i64 kd,.string ⟨tx.toArray⟩,.int .i64 nu,.slice xn nm.length cn,.slice xk n ck,.int .i64 ps] 31)=wz at*;generalize hKBe:w.heap.size=KB at*;rw [← hKBe] at HBA;have y0:wz.cell? ⟨KB,0,none⟩=some (.int .i64 kd):=HKB.out.cell 0;have y1:wz.cell? ⟨KB,1,none⟩=some (.string ⟨tx.toArray⟩):=HKB.out.cell 1;by_cases h6:kd=6
 ·have e6:(kd==6)=true:=by simp [h6]
  have HW:Hid (weakB ⟨kd,tx,nu,nm,ps⟩ m=decide (q < m)):=by show _=_; unfold weakB; simp [h6,HQ.out]
  clear h6;go_wp2_with fail;refine (HV.out wz).mono ?_;rintro e w1 ⟨rfl,rfl⟩;by_cases hlt:q < m
  ·have d1:decide ((q:Int) < (m:Int))=true:=by simp; omega
   go_wp2_with fail;go_ret;exact ⟨by rw [HW.out]; simp [hlt],by first | exact HBA.out | (rw [← hKBe]; exact HBA.out)⟩
  ·have d1:decide ((q:Int) < (m:Int))=false:=by simp; omega
   go_wp2_with fail;go_ret;exact ⟨by rw [HW.out]; simp [hlt],by first | exact HBA.out | (rw [← hKBe]; exact HBA.out)⟩
 ·have e6:(kd==6)=false:=by simp [h6]
  have HW:Hid (weakB ⟨kd,tx,nu,nm,ps⟩ m=false):=by show _=_; unfold weakB; simp [h6]
  clear h6;go_wp2_with fail;go_ret;exact ⟨by rw [HW.out]; rfl,by first | exact HBA.out | (rw [← hKBe]; exact HBA.out)⟩

theorem stren_le (t:Nm):stren t≤5:=by
 unfold stren;repeat' split
 all_goals decide
def binT (tx:Nm) (h0:Hd) (t0:List UInt8) (h1:Hd) (t1:List UInt8):List UInt8:=opW (weakB h0 (leastS tx)) t0++([32]++tx++[32])++opW (weakB h1 (stren tx+1)) t1

theorem pbin_any (w0:World) (P N:Nat) (hx:PxOk w0 P N) (h h0 h1:Hd) (k0 k1:Fo) (xn xk:Option Addr) (cn ck:Nat) (w:World) (l:List UInt8) (hN:k0.size < N∧k1.size < N) (hen:exN h0 k0=true∧exN h1 k1=true)
  (hkr:FRow w0 (.slice xk 2 ck) (.cons h0 k0 (.cons h1 k1 .nil))) (hbw:Below w0.heap.size w0 w) (hp:Prt w0.heap.size P l w) (hln:l.length+(binT h.text h0 (exOne h0 (exT k0)) h1 (exOne h1 (exT k1))).length≤Mw):
  Calls Tryz.prog 117 #[.pointer (some ⟨P,0,none⟩),.agg (ndV h (.slice xn h.names.length cn) (.slice xk 2 ck))] w (PrR w0.heap.size P l (binT h.text h0 (exOne h0 (exT k0)) h1 (exOne h1 (exT k1))) w):=by
 have hin:=inner_any w0 P N hx
 obtain ⟨b0,off,xn0,cn0,xk0,ck0,rfl,hb0,⟨z0,z1,z2,z3,z4,z5⟩,hk0⟩:=hkr.node0
 obtain ⟨b1,off1,xn1,cn1,xk1,ck1,he1,-,⟨v0,v1,v2,v3,v4,v5⟩,hk1⟩:=(FRow.tail (A:=.cons h0 k0 .nil) (R:=.cons h1 k1 .nil) hkr).node0
 simp only [Fo.len,Nat.zero_add,Nat.one_mul] at he1;injection he1 with he1
 injection he1 with he1 he2
 subst he1 he2;obtain ⟨_,_,hvv,hlc,hlm,-⟩:=id hkr;injection hvv with e1 e2 e3
 subst e1 e3;unfold maxLen at hlm;simp only [Fo.len,Nat.zero_add] at hlc;obtain ⟨B,hB⟩:∃B,w0.heap.size=B:=⟨_,rfl⟩;have HB:=zH hB;have hI0:=fun w l b h1 h2 h3=>hin h0 k0 b xn0 xk0 cn0 ck0 w l hN.1 hen.1 hk0 h1 h2 h3
 have hI1:=fun w l b h2 h3 h4=>hin h1 k1 b xn1 xk1 cn1 ck1 w l hN.2 hen.2 hk1 h2 h3 h4
 rw [hB] at hbw hp hI0 hI1 ⊢;have HI0:=zH hI0;have HI1:=zH hI1;have hsz:B≤w.heap.size:=by rw [← hB]; exact (show Below w0.heap.size w0 w by rw [hB]; exact hbw).size
 have HBND:=zH hln
 have HB0:Hid (b0 < B):=by rw [← hB]; exact hb0
 have hba:=(Below.refl w.heap.size w).alloc (Nat.le_refl _) (.cells (ndV h (.slice xn h.names.length cn) (.slice (some ⟨b0,off,none⟩) 2 ck)) 31)
 have HKB:=zH (Blk.new w 31 (ndV h (.slice xn h.names.length cn) (.slice (some ⟨b0,off,none⟩) 2 ck)))
 have HS:=zH ((PrS.mk hp hbw (Fr.refl B PT w) hsz).below hba)
 have HS0:=zH hsz
 have HZ:=zH (And.intro z0 (And.intro z1 (And.intro z2 (And.intro z3 (And.intro z4 z5)))))
 have HV:=zH (And.intro v0 (And.intro v1 (And.intro v2 (And.intro v3 (And.intro v4 v5)))))
 have HSR:=zH (fun w=>stren_any ⟨h.text.toArray⟩ w)
 obtain ⟨q,hq⟩:∃q,stren h.text=q:=⟨_,rfl⟩
 have HQ:=zH hq
 have hq5:q≤5:=by rw [← hq]; exact stren_le _
 simp only [hq] at HSR;have HW0:=zH (fun w m=>weak_any h0 k0.len xn0 xk0 cn0 ck0 m w)
 have HW1:=zH (fun w m=>weak_any h1 k1.len xn1 xk1 cn1 ck1 m w)
 clear hx hN hen hkr hbw hp hln hB hin hI0 hI1 hsz hba hk0 hk1 z0 z1 z2 z3 z4 z5 v0 v1 v2 v3 v4 v5 e2 hb0 hq;obtain ⟨E0,hE0⟩:∃E,exOne h0 (exT k0)=E:=⟨_,rfl⟩;obtain ⟨E1,hE1⟩:∃E,exOne h1 (exT k1)=E:=⟨_,rfl⟩;rw [hE0] at HI0 HBND ⊢;rw [hE1] at HI1 HBND ⊢;clear hE0 hE1;obtain ⟨kd,tx,nu,nm,ps⟩:=h;simp only at HKB HS HBND HSR HQ ⊢;unfold ndV at HKB HS HI0 HI1 HW0 HW1 ⊢
 have HBND2:Hid (l.length+(opW (weakB h0 (leastS tx)) E0++([32]++tx++[32])++opW (weakB h1 (q+1)) E1).length≤Mw):=by have h1:=HBND.out; unfold binT at h1; rw [HQ.out] at h1; exact h1
 have HRES:Hid (binT tx h0 E0 h1 E1=opW (weakB h0 (leastS tx)) E0++([32]++tx++[32])++opW (weakB h1 (q+1)) E1):=by show _=_; unfold binT; rw [HQ.out]
 clear HBND;have HBND:=HBND2;clear HBND2;go_enter Tryz.func117,Tryz.ntmps117;go_upto_region 1 with fail
 generalize w.alloc (.cells #[.int .i64 kd,.string ⟨tx.toArray⟩,.int .i64 nu,.slice xn nm.length cn,.slice (some ⟨b0,off,none⟩) 2 ck,.int .i64 ps] 31)=wz at*;generalize w.heap.size=KB at*;have y0:wz.cell? ⟨KB,0,none⟩=some (.int .i64 kd):=HKB.out.cell 0;have y1:wz.cell? ⟨KB,1,none⟩=some (.string ⟨tx.toArray⟩):=HKB.out.cell 1;have y2:wz.cell? ⟨KB,2,none⟩=some (.int .i64 nu):=HKB.out.cell 2
 have y3:wz.cell? ⟨KB,3,none⟩=some (.slice xn nm.length cn):=HKB.out.cell 3
 have y4:wz.cell? ⟨KB,4,none⟩=some (.slice (some ⟨b0,off,none⟩) 2 ck):=HKB.out.cell 4
 have y5:wz.cell? ⟨KB,5,none⟩=some (.int .i64 ps):=HKB.out.cell 5
 go_wp2_with fail;refine (HSR.out wz).mono ?_;rintro e w1 ⟨rfl,rfl⟩;clear HSR;obtain ⟨m,hm⟩:∃m,leastS tx=m:=⟨_,rfl⟩;have HM:=zH hm;have hm5:m≤5:=by rw [← hm]; unfold leastS; split; decide; exact stren_le _
 rw [hm] at HBND HRES;clear hm;have HW0B:=zH (fun w=>HW0.out w m)
 by_cases h3:q=3
 case pos=>
  have e3:((q:Int)==3)=true:=by simp [h3]
  have hmv:((m:Nat):Int)=(q:Int)+1:=by have h1:=HM.out; unfold leastS at h1; rw [HQ.out,if_pos h3] at h1; omega
  clear h3;go_upto_region 6 with fail
  rw [← hmv];clear hmv e3;obtain ⟨K0,hK0⟩:∃K0,K0=wz.heap.size:=⟨_,rfl⟩;have HK0:=zH hK0;have HLB:Hid (b0 < K0):=by have h1:=HS.out.size; have h2:=HB0.out; show _ < _; rw [hK0]; omega
  have HLK:Hid (KB < K0):=by rw [hK0]; exact HKB.out.lt
  obtain ⟨z0,z1,z2,z3,z4,z5⟩:=HZ.out
  have tz:∀(u:BW K0 wz) o v,w0.cell? ⟨b0,o,none⟩=some v→u.w.cell? ⟨b0,o,none⟩=some v:=fun u o v h=>(u.b.cell (p:=⟨b0,o,none⟩) HLB.out).trans ((HS.out.bel.cell (p:=⟨b0,o,none⟩) HB0.out).trans h)
  have u4:∀u:BW K0 wz,u.w.cell? ⟨KB,4,none⟩=some (.slice (some ⟨b0,off,none⟩) 2 ck):=fun u=>(u.b.cell (p:=⟨KB,4,none⟩) HLK.out).trans (HKB.out.cell 4)
  have a0:=fun u=>tz u _ _ z0
  have a1:=fun u=>tz u _ _ z1
  have a2:=fun u=>tz u _ _ z2
  have a3:=fun u=>tz u _ _ z3
  have a4:=fun u=>tz u _ _ z4
  have a5:=fun u=>tz u _ _ z5
  clear hK0 z0 z1 z2 z3 z4 z5 tz y0 y1 y2 y3 y4 y5;refine wp_region_bw_tail K0 wz 12 (Below.refl _ _) (by kernel_rfl) (by kernel_rfl) ?_
  simp only [List.take_succ_cons,List.take_zero,List.drop_succ_cons,List.drop_zero];repeat (go_big_quiet_step (first | (go_at_call 123; exact calls_bw (Nat.le_of_eq HK0.out) (HW0B.out _))))
  refine wpQuiet_nil ?_
  rintro _ ⟨v9,rfl⟩;have hb9:Below wz.heap.size wz v9.w:=v9.b.mono (Nat.le_of_eq HK0.out.symm);have HS2:=zH (HS.out.below hb9);have HKB2:Hid (Blk v9.w KB 31 #[.int .i64 kd,.string ⟨tx.toArray⟩,.int .i64 nu,.slice xn nm.length cn,.slice (some ⟨b0,off,none⟩) 2 ck,.int .i64 ps]):=(hb9.block _ HKB.out.lt).trans HKB.out;clear hb9 HS HKB u4 a0 a1 a2 a3 a4 a5 HLB HLK;have HS:=HS2;have HKB:=HKB2
  clear HS2 HKB2;generalize v9.w=wv at*;clear v9 HK0;have y0:wv.cell? ⟨KB,0,none⟩=some (.int .i64 kd):=HKB.out.cell 0;have y1:wv.cell? ⟨KB,1,none⟩=some (.string ⟨tx.toArray⟩):=HKB.out.cell 1;have y2:wv.cell? ⟨KB,2,none⟩=some (.int .i64 nu):=HKB.out.cell 2;have y3:wv.cell? ⟨KB,3,none⟩=some (.slice xn nm.length cn):=HKB.out.cell 3
  have y4:wv.cell? ⟨KB,4,none⟩=some (.slice (some ⟨b0,off,none⟩) 2 ck):=HKB.out.cell 4
  have y5:wv.cell? ⟨KB,5,none⟩=some (.int .i64 ps):=HKB.out.cell 5
  have HC:=zH (HI0.out wv l (weakB h0 m) HS.out.bel HS.out.prt (by have h1:=HBND.out; unfold Mw at h1 ⊢; first | (simp only [List.length_append,List.length_cons,List.length_nil] at h1 ⊢; omega) | (simp only [List.length_append,List.length_cons,List.length_nil] at h1 ⊢; omega)))
  go_wp2_with fail;refine HC.out.mono ?_;rintro e w2 ⟨rfl,hp1,hf1⟩;have HS2:=zH (HS.out.next (Below.refl _ _) hp1 hf1);have HKB2:=zH (hf1.blk HKB.out pt_syn);clear HS HKB y0 y1 y2 y3 y4 y5 hp1 hf1 HC;have HS:=HS2;have HKB:=HKB2;clear HS2 HKB2;have y0:w2.cell? ⟨KB,0,none⟩=some (.int .i64 kd):=HKB.out.cell 0;have y1:w2.cell? ⟨KB,1,none⟩=some (.string ⟨tx.toArray⟩):=HKB.out.cell 1
  have y2:w2.cell? ⟨KB,2,none⟩=some (.int .i64 nu):=HKB.out.cell 2
  have y3:w2.cell? ⟨KB,3,none⟩=some (.slice xn nm.length cn):=HKB.out.cell 3
  have y4:w2.cell? ⟨KB,4,none⟩=some (.slice (some ⟨b0,off,none⟩) 2 ck):=HKB.out.cell 4
  have y5:w2.cell? ⟨KB,5,none⟩=some (.int .i64 ps):=HKB.out.cell 5
  clear K0;have hbn:=(Below.refl w2.heap.size w2).alloc (Nat.le_refl _) (.cells #[.string ⟨#[32]⟩,.string ⟨tx.toArray⟩,.string ⟨#[32]⟩] 9)
  have HPU:=zH (put_any B P (l++(opW (weakB h0 m) E0)) w2.heap.size [[32],tx,[32]] (w2.alloc (.cells #[.string ⟨#[32]⟩,.string ⟨tx.toArray⟩,.string ⟨#[32]⟩] 9)) (HS.out.prt.below hbn) (Blk.new w2 9 #[.string ⟨#[32]⟩,.string ⟨tx.toArray⟩,.string ⟨#[32]⟩]) (by simp) (by have h1:=HBND.out; unfold Mw at h1; first | (simp only [List.length_append,List.length_cons,List.length_nil] at h1 ⊢; omega) | (simp only [List.length_append,List.flatten_cons,List.flatten_nil,List.append_nil,List.length_cons,List.length_nil] at h1 ⊢; omega)) (by have h1:=HS.out.size; simp; omega))
  have e1:([[32],tx,[32]]:List Nm).length=3:=rfl
  rw [e1] at HPU;have HBN:=zH hbn;clear e1 hbn;go_wp2_with fail;refine HPU.out.mono ?_;rintro e w3 ⟨rfl,hp1,hf1⟩;have HS2:=zH (HS.out.next HBN.out hp1 hf1);have HKB2:=zH (hf1.blk (HKB.out.alloc _) pt_syn);clear HS HKB y0 y1 y2 y3 y4 y5 hp1 hf1 HPU HBN;have HS:=HS2;have HKB:=HKB2;clear HS2 HKB2;have y0:w3.cell? ⟨KB,0,none⟩=some (.int .i64 kd):=HKB.out.cell 0
  have y1:w3.cell? ⟨KB,1,none⟩=some (.string ⟨tx.toArray⟩):=HKB.out.cell 1
  have y2:w3.cell? ⟨KB,2,none⟩=some (.int .i64 nu):=HKB.out.cell 2
  have y3:w3.cell? ⟨KB,3,none⟩=some (.slice xn nm.length cn):=HKB.out.cell 3
  have y4:w3.cell? ⟨KB,4,none⟩=some (.slice (some ⟨b0,off,none⟩) 2 ck):=HKB.out.cell 4
  have y5:w3.cell? ⟨KB,5,none⟩=some (.int .i64 ps):=HKB.out.cell 5
  go_upto_region 8 with fail
  have HW1B:=zH (fun w=>HW1.out w (q+1))
  obtain ⟨K0,hK0⟩:∃K0,K0=w3.heap.size:=⟨_,rfl⟩
  have HK0:=zH hK0
  have HLB:Hid (b0 < K0):=by have h1:=HS.out.size; have h2:=HB0.out; show _ < _; rw [hK0]; omega
  have HLK:Hid (KB < K0):=by rw [hK0]; exact HKB.out.lt
  obtain ⟨z0,z1,z2,z3,z4,z5⟩:=HV.out
  have tz:∀(u:BW K0 w3) o v,w0.cell? ⟨b0,o,none⟩=some v→u.w.cell? ⟨b0,o,none⟩=some v:=fun u o v h=>(u.b.cell (p:=⟨b0,o,none⟩) HLB.out).trans ((HS.out.bel.cell (p:=⟨b0,o,none⟩) HB0.out).trans h)
  have u4:∀u:BW K0 w3,u.w.cell? ⟨KB,4,none⟩=some (.slice (some ⟨b0,off,none⟩) 2 ck):=fun u=>(u.b.cell (p:=⟨KB,4,none⟩) HLK.out).trans (HKB.out.cell 4)
  have a0:=fun u=>tz u _ _ z0
  have a1:=fun u=>tz u _ _ z1
  have a2:=fun u=>tz u _ _ z2
  have a3:=fun u=>tz u _ _ z3
  have a4:=fun u=>tz u _ _ z4
  have a5:=fun u=>tz u _ _ z5
  clear hK0 z0 z1 z2 z3 z4 z5 tz y0 y1 y2 y3 y4 y5;refine wp_region_bw_tail K0 w3 13 (Below.refl _ _) (by kernel_rfl) (by kernel_rfl) ?_
  simp only [List.take_succ_cons,List.take_zero,List.drop_succ_cons,List.drop_zero];repeat (go_big_quiet_step (first | (go_at_call 123; exact calls_bw (Nat.le_of_eq HK0.out) (HW1B.out _))))
  refine wpQuiet_nil ?_
  rintro _ ⟨v9,rfl⟩;have hb9:Below w3.heap.size w3 v9.w:=v9.b.mono (Nat.le_of_eq HK0.out.symm);have HS2:=zH (HS.out.below hb9);have HKB2:Hid (Blk v9.w KB 31 #[.int .i64 kd,.string ⟨tx.toArray⟩,.int .i64 nu,.slice xn nm.length cn,.slice (some ⟨b0,off,none⟩) 2 ck,.int .i64 ps]):=(hb9.block _ HKB.out.lt).trans HKB.out;clear hb9 HS HKB u4 a0 a1 a2 a3 a4 a5 HLB HLK;have HS:=HS2;have HKB:=HKB2
  clear HS2 HKB2;generalize v9.w=wv at*;clear v9 HK0;have y0:wv.cell? ⟨KB,0,none⟩=some (.int .i64 kd):=HKB.out.cell 0;have y1:wv.cell? ⟨KB,1,none⟩=some (.string ⟨tx.toArray⟩):=HKB.out.cell 1;have y2:wv.cell? ⟨KB,2,none⟩=some (.int .i64 nu):=HKB.out.cell 2;have y3:wv.cell? ⟨KB,3,none⟩=some (.slice xn nm.length cn):=HKB.out.cell 3
  have y4:wv.cell? ⟨KB,4,none⟩=some (.slice (some ⟨b0,off,none⟩) 2 ck):=HKB.out.cell 4
  have y5:wv.cell? ⟨KB,5,none⟩=some (.int .i64 ps):=HKB.out.cell 5
  have HC:=zH (HI1.out wv ((l++(opW (weakB h0 m) E0))++([[32],tx,[32]]:List Nm).flatten) (weakB h1 (q+1)) HS.out.bel HS.out.prt (by have h1:=HBND.out; unfold Mw at h1 ⊢; first | (simp only [List.length_append,List.length_cons,List.length_nil] at h1 ⊢; omega) | (simp only [List.length_append,List.flatten_cons,List.flatten_nil,List.append_nil,List.length_cons,List.length_nil] at h1 ⊢; omega)))
  go_wp2_with fail;refine HC.out.mono ?_;rintro e w5 ⟨rfl,hp1,hf1⟩;have HS2:=zH (HS.out.next (Below.refl _ _) hp1 hf1);have HKB2:=zH (hf1.blk HKB.out pt_syn);clear HS HKB y0 y1 y2 y3 y4 y5 hp1 hf1 HC;have HS:=HS2;have HKB:=HKB2;clear HS2 HKB2;have y0:w5.cell? ⟨KB,0,none⟩=some (.int .i64 kd):=HKB.out.cell 0;have y1:w5.cell? ⟨KB,1,none⟩=some (.string ⟨tx.toArray⟩):=HKB.out.cell 1
  have y2:w5.cell? ⟨KB,2,none⟩=some (.int .i64 nu):=HKB.out.cell 2
  have y3:w5.cell? ⟨KB,3,none⟩=some (.slice xn nm.length cn):=HKB.out.cell 3
  have y4:w5.cell? ⟨KB,4,none⟩=some (.slice (some ⟨b0,off,none⟩) 2 ck):=HKB.out.cell 4
  have y5:w5.cell? ⟨KB,5,none⟩=some (.int .i64 ps):=HKB.out.cell 5
  go_wp2_with fail;first
   | refine bodyPost_ret (results_none rfl _ _ _) rfl ⟨rfl,?_,HS.out.fr⟩
   | refine bodyPost_end (results_none rfl _ _ _) rfl ⟨rfl,?_,HS.out.fr⟩
  have h1:=HS.out.prt
  simpa [List.append_assoc,HRES.out] using h1
 case neg=>
  have e3:((q:Int)==3)=false:=by simp; omega
  have hmv:q=m:=by have h1:=HM.out; unfold leastS at h1; rw [HQ.out,if_neg h3] at h1; omega
  clear h3;go_upto_region 6 with fail
  subst hmv;clear e3;obtain ⟨K0,hK0⟩:∃K0,K0=wz.heap.size:=⟨_,rfl⟩;have HK0:=zH hK0;have HLB:Hid (b0 < K0):=by have h1:=HS.out.size; have h2:=HB0.out; show _ < _; rw [hK0]; omega
  have HLK:Hid (KB < K0):=by rw [hK0]; exact HKB.out.lt
  obtain ⟨z0,z1,z2,z3,z4,z5⟩:=HZ.out
  have tz:∀(u:BW K0 wz) o v,w0.cell? ⟨b0,o,none⟩=some v→u.w.cell? ⟨b0,o,none⟩=some v:=fun u o v h=>(u.b.cell (p:=⟨b0,o,none⟩) HLB.out).trans ((HS.out.bel.cell (p:=⟨b0,o,none⟩) HB0.out).trans h)
  have u4:∀u:BW K0 wz,u.w.cell? ⟨KB,4,none⟩=some (.slice (some ⟨b0,off,none⟩) 2 ck):=fun u=>(u.b.cell (p:=⟨KB,4,none⟩) HLK.out).trans (HKB.out.cell 4)
  have a0:=fun u=>tz u _ _ z0
  have a1:=fun u=>tz u _ _ z1
  have a2:=fun u=>tz u _ _ z2
  have a3:=fun u=>tz u _ _ z3
  have a4:=fun u=>tz u _ _ z4
  have a5:=fun u=>tz u _ _ z5
  clear hK0 z0 z1 z2 z3 z4 z5 tz y0 y1 y2 y3 y4 y5;refine wp_region_bw_tail K0 wz 12 (Below.refl _ _) (by kernel_rfl) (by kernel_rfl) ?_
  simp only [List.take_succ_cons,List.take_zero,List.drop_succ_cons,List.drop_zero];repeat (go_big_quiet_step (first | (go_at_call 123; exact calls_bw (Nat.le_of_eq HK0.out) (HW0B.out _))))
  refine wpQuiet_nil ?_
  rintro _ ⟨v9,rfl⟩;have hb9:Below wz.heap.size wz v9.w:=v9.b.mono (Nat.le_of_eq HK0.out.symm);have HS2:=zH (HS.out.below hb9);have HKB2:Hid (Blk v9.w KB 31 #[.int .i64 kd,.string ⟨tx.toArray⟩,.int .i64 nu,.slice xn nm.length cn,.slice (some ⟨b0,off,none⟩) 2 ck,.int .i64 ps]):=(hb9.block _ HKB.out.lt).trans HKB.out;clear hb9 HS HKB u4 a0 a1 a2 a3 a4 a5 HLB HLK;have HS:=HS2;have HKB:=HKB2
  clear HS2 HKB2;generalize v9.w=wv at*;clear v9 HK0;have y0:wv.cell? ⟨KB,0,none⟩=some (.int .i64 kd):=HKB.out.cell 0;have y1:wv.cell? ⟨KB,1,none⟩=some (.string ⟨tx.toArray⟩):=HKB.out.cell 1;have y2:wv.cell? ⟨KB,2,none⟩=some (.int .i64 nu):=HKB.out.cell 2;have y3:wv.cell? ⟨KB,3,none⟩=some (.slice xn nm.length cn):=HKB.out.cell 3
  have y4:wv.cell? ⟨KB,4,none⟩=some (.slice (some ⟨b0,off,none⟩) 2 ck):=HKB.out.cell 4
  have y5:wv.cell? ⟨KB,5,none⟩=some (.int .i64 ps):=HKB.out.cell 5
  have HC:=zH (HI0.out wv l (weakB h0 q) HS.out.bel HS.out.prt (by have h1:=HBND.out; unfold Mw at h1 ⊢; first | (simp only [List.length_append,List.length_cons,List.length_nil] at h1 ⊢; omega) | (simp only [List.length_append,List.length_cons,List.length_nil] at h1 ⊢; omega)))
  go_wp2_with fail;refine HC.out.mono ?_;rintro e w2 ⟨rfl,hp1,hf1⟩;have HS2:=zH (HS.out.next (Below.refl _ _) hp1 hf1);have HKB2:=zH (hf1.blk HKB.out pt_syn);clear HS HKB y0 y1 y2 y3 y4 y5 hp1 hf1 HC;have HS:=HS2;have HKB:=HKB2;clear HS2 HKB2;have y0:w2.cell? ⟨KB,0,none⟩=some (.int .i64 kd):=HKB.out.cell 0;have y1:w2.cell? ⟨KB,1,none⟩=some (.string ⟨tx.toArray⟩):=HKB.out.cell 1
  have y2:w2.cell? ⟨KB,2,none⟩=some (.int .i64 nu):=HKB.out.cell 2
  have y3:w2.cell? ⟨KB,3,none⟩=some (.slice xn nm.length cn):=HKB.out.cell 3
  have y4:w2.cell? ⟨KB,4,none⟩=some (.slice (some ⟨b0,off,none⟩) 2 ck):=HKB.out.cell 4
  have y5:w2.cell? ⟨KB,5,none⟩=some (.int .i64 ps):=HKB.out.cell 5
  clear K0;have hbn:=(Below.refl w2.heap.size w2).alloc (Nat.le_refl _) (.cells #[.string ⟨#[32]⟩,.string ⟨tx.toArray⟩,.string ⟨#[32]⟩] 9)
  have HPU:=zH (put_any B P (l++(opW (weakB h0 q) E0)) w2.heap.size [[32],tx,[32]] (w2.alloc (.cells #[.string ⟨#[32]⟩,.string ⟨tx.toArray⟩,.string ⟨#[32]⟩] 9)) (HS.out.prt.below hbn) (Blk.new w2 9 #[.string ⟨#[32]⟩,.string ⟨tx.toArray⟩,.string ⟨#[32]⟩]) (by simp) (by have h1:=HBND.out; unfold Mw at h1; first | (simp only [List.length_append,List.length_cons,List.length_nil] at h1 ⊢; omega) | (simp only [List.length_append,List.flatten_cons,List.flatten_nil,List.append_nil,List.length_cons,List.length_nil] at h1 ⊢; omega)) (by have h1:=HS.out.size; simp; omega))
  have e1:([[32],tx,[32]]:List Nm).length=3:=rfl
  rw [e1] at HPU;have HBN:=zH hbn;clear e1 hbn;go_wp2_with fail;refine HPU.out.mono ?_;rintro e w3 ⟨rfl,hp1,hf1⟩;have HS2:=zH (HS.out.next HBN.out hp1 hf1);have HKB2:=zH (hf1.blk (HKB.out.alloc _) pt_syn);clear HS HKB y0 y1 y2 y3 y4 y5 hp1 hf1 HPU HBN;have HS:=HS2;have HKB:=HKB2;clear HS2 HKB2;have y0:w3.cell? ⟨KB,0,none⟩=some (.int .i64 kd):=HKB.out.cell 0
  have y1:w3.cell? ⟨KB,1,none⟩=some (.string ⟨tx.toArray⟩):=HKB.out.cell 1
  have y2:w3.cell? ⟨KB,2,none⟩=some (.int .i64 nu):=HKB.out.cell 2
  have y3:w3.cell? ⟨KB,3,none⟩=some (.slice xn nm.length cn):=HKB.out.cell 3
  have y4:w3.cell? ⟨KB,4,none⟩=some (.slice (some ⟨b0,off,none⟩) 2 ck):=HKB.out.cell 4
  have y5:w3.cell? ⟨KB,5,none⟩=some (.int .i64 ps):=HKB.out.cell 5
  go_upto_region 8 with fail
  have HW1B:=zH (fun w=>HW1.out w (q+1))
  obtain ⟨K0,hK0⟩:∃K0,K0=w3.heap.size:=⟨_,rfl⟩
  have HK0:=zH hK0
  have HLB:Hid (b0 < K0):=by have h1:=HS.out.size; have h2:=HB0.out; show _ < _; rw [hK0]; omega
  have HLK:Hid (KB < K0):=by rw [hK0]; exact HKB.out.lt
  obtain ⟨z0,z1,z2,z3,z4,z5⟩:=HV.out
  have tz:∀(u:BW K0 w3) o v,w0.cell? ⟨b0,o,none⟩=some v→u.w.cell? ⟨b0,o,none⟩=some v:=fun u o v h=>(u.b.cell (p:=⟨b0,o,none⟩) HLB.out).trans ((HS.out.bel.cell (p:=⟨b0,o,none⟩) HB0.out).trans h)
  have u4:∀u:BW K0 w3,u.w.cell? ⟨KB,4,none⟩=some (.slice (some ⟨b0,off,none⟩) 2 ck):=fun u=>(u.b.cell (p:=⟨KB,4,none⟩) HLK.out).trans (HKB.out.cell 4)
  have a0:=fun u=>tz u _ _ z0
  have a1:=fun u=>tz u _ _ z1
  have a2:=fun u=>tz u _ _ z2
  have a3:=fun u=>tz u _ _ z3
  have a4:=fun u=>tz u _ _ z4
  have a5:=fun u=>tz u _ _ z5
  clear hK0 z0 z1 z2 z3 z4 z5 tz y0 y1 y2 y3 y4 y5;refine wp_region_bw_tail K0 w3 13 (Below.refl _ _) (by kernel_rfl) (by kernel_rfl) ?_
  simp only [List.take_succ_cons,List.take_zero,List.drop_succ_cons,List.drop_zero];repeat (go_big_quiet_step (first | (go_at_call 123; exact calls_bw (Nat.le_of_eq HK0.out) (HW1B.out _))))
  refine wpQuiet_nil ?_
  rintro _ ⟨v9,rfl⟩;have hb9:Below w3.heap.size w3 v9.w:=v9.b.mono (Nat.le_of_eq HK0.out.symm);have HS2:=zH (HS.out.below hb9);have HKB2:Hid (Blk v9.w KB 31 #[.int .i64 kd,.string ⟨tx.toArray⟩,.int .i64 nu,.slice xn nm.length cn,.slice (some ⟨b0,off,none⟩) 2 ck,.int .i64 ps]):=(hb9.block _ HKB.out.lt).trans HKB.out;clear hb9 HS HKB u4 a0 a1 a2 a3 a4 a5 HLB HLK;have HS:=HS2;have HKB:=HKB2
  clear HS2 HKB2;generalize v9.w=wv at*;clear v9 HK0;have y0:wv.cell? ⟨KB,0,none⟩=some (.int .i64 kd):=HKB.out.cell 0;have y1:wv.cell? ⟨KB,1,none⟩=some (.string ⟨tx.toArray⟩):=HKB.out.cell 1;have y2:wv.cell? ⟨KB,2,none⟩=some (.int .i64 nu):=HKB.out.cell 2;have y3:wv.cell? ⟨KB,3,none⟩=some (.slice xn nm.length cn):=HKB.out.cell 3
  have y4:wv.cell? ⟨KB,4,none⟩=some (.slice (some ⟨b0,off,none⟩) 2 ck):=HKB.out.cell 4
  have y5:wv.cell? ⟨KB,5,none⟩=some (.int .i64 ps):=HKB.out.cell 5
  have HC:=zH (HI1.out wv ((l++(opW (weakB h0 q) E0))++([[32],tx,[32]]:List Nm).flatten) (weakB h1 (q+1)) HS.out.bel HS.out.prt (by have h1:=HBND.out; unfold Mw at h1 ⊢; first | (simp only [List.length_append,List.length_cons,List.length_nil] at h1 ⊢; omega) | (simp only [List.length_append,List.flatten_cons,List.flatten_nil,List.append_nil,List.length_cons,List.length_nil] at h1 ⊢; omega)))
  go_wp2_with fail;refine HC.out.mono ?_;rintro e w5 ⟨rfl,hp1,hf1⟩;have HS2:=zH (HS.out.next (Below.refl _ _) hp1 hf1);have HKB2:=zH (hf1.blk HKB.out pt_syn);clear HS HKB y0 y1 y2 y3 y4 y5 hp1 hf1 HC;have HS:=HS2;have HKB:=HKB2;clear HS2 HKB2;have y0:w5.cell? ⟨KB,0,none⟩=some (.int .i64 kd):=HKB.out.cell 0;have y1:w5.cell? ⟨KB,1,none⟩=some (.string ⟨tx.toArray⟩):=HKB.out.cell 1
  have y2:w5.cell? ⟨KB,2,none⟩=some (.int .i64 nu):=HKB.out.cell 2
  have y3:w5.cell? ⟨KB,3,none⟩=some (.slice xn nm.length cn):=HKB.out.cell 3
  have y4:w5.cell? ⟨KB,4,none⟩=some (.slice (some ⟨b0,off,none⟩) 2 ck):=HKB.out.cell 4
  have y5:w5.cell? ⟨KB,5,none⟩=some (.int .i64 ps):=HKB.out.cell 5
  go_wp2_with fail;first
   | refine bodyPost_ret (results_none rfl _ _ _) rfl ⟨rfl,?_,HS.out.fr⟩
   | refine bodyPost_end (results_none rfl _ _ _) rfl ⟨rfl,?_,HS.out.fr⟩
  have h1:=HS.out.prt
  simpa [List.append_assoc,HRES.out] using h1
end Go.Proofs.YtbaidkefobhipaaGreatDoor
