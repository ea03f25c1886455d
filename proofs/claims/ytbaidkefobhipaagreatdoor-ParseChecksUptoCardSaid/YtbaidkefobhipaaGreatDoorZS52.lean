/-
  Walks: the reference's expressions and expression. (Printed by gen_rq4.py.)
  Plain: right statements as the reference asks for them.
-/
import Derived.Test.YtbaidkefobhipaaGreatDoorZS50
namespace Go.Proofs.YtbaidkefobhipaaGreatDoor
set_option maxHeartbeats 16000000
set_option maxRecDepth 100000
open Go.RowKit

def REx (N:Nat):Prop:=∀(h:Hd) (k:Fo) (xn xk:Option Addr) (cn ck:Nat) (w:World),k.size < N→h.text.length≤1048576→FoB k→FRow w (.slice xk k.len ck) k→
 Calls Tryz.prog 77 #[.agg (ndV h (.slice xn h.names.length cn) (.slice xk k.len ck))] w fun e w'=>e=.returned (.bool (exN h k))∧Below w.heap.size w w'
theorem allG_node {p:Hd→Fo→Bool} (A:Fo) (h:Hd) (k r:Fo):allG p (A.app (.cons h k r))=(allG p A&&(p h k&&allG p r)):=by rw [allG_app]; rfl
theorem rexs_any {N:Nat} (ih:REx N) (F:Fo) (v:Value) (w:World) (hN:F.size≤N) (hF:FoB F) (hr:FRow w v F):Calls Tryz.prog 110 #[v] w fun e w'=>e=.returned (.bool (rt .ex F))∧Below w.heap.size w w':=by
 have HIH:=zH ih
 have HFB:=zH hF
 have HN:=zH hN
 obtain ⟨x,c,rfl,hl,hc,-⟩:=id hr
 have HR:=zH hr
 have HB0:=zH (Below.refl w.heap.size w)
 unfold maxLen at hc;clear hr hF hN ih;rw [rt_ex];obtain ⟨z,hz⟩:∃z,allG exN F=z:=⟨_,rfl⟩;have HZ:=zH hz;rw [hz];obtain ⟨n,hn⟩:∃n,F.len=n:=⟨_,rfl⟩;rw [hn] at HR hl ⊢;have HL:=zH hn;obtain ⟨w0,hw0⟩:∃w0,w0=w:=⟨_,rfl⟩;rw [← hw0] at HB0 HR ⊢;clear hn hw0 hz;go_enter Tryz.func110,Tryz.ntmps110;go_wp2_with fail
 go_loopw [3] (fun vi wr=>∃(i:Nat) (A R:Fo),vi=.int .i64 i∧i≤n∧Hid (F=A.app R∧A.len=i)∧Hid (allG exN A=true)∧Hid (Below w0.heap.size w0 wr)) (fun vi _=>n - (intOf vi).toNat)
 case atStart=>exact ⟨0,.nil,F,rfl,Nat.zero_le _,⟨rfl,rfl⟩,rfl,HB0.out⟩
 case round=>
  obtain ⟨i,A,R,rfl,hi,hA,hG,hbw⟩:=hrel
  by_cases hlt:i < n
  ·have dlt:decide ((i:Int) < (n:Int))=true:=by simp; omega
   have i1:(i:Int) < (n:Int):=by omega
   obtain ⟨h,k,r,rfl⟩:∃h k r,R=.cons h k r:=by
    cases R with
    | nil=>have h1:=hA.out.2; have h2:=HL.out; rw [hA.out.1,Fo.app_nil] at h2; omega
    | cons h k r=>exact ⟨h,k,r,rfl⟩
   have hf1:FRow wr (.slice x n c) (A.app (.cons h k r)):=by rw [← hA.out.1]; exact HR.out.below hbw.out
   obtain ⟨b,off,xn,cn,xk,ck,rfl,⟨k0,k1,k2,k3,k4,k5⟩,-,hk1⟩:=hf1.node
   rw [hA.out.2] at k0 k1 k2 k3 k4 k5;have hfb:=HFB.out;rw [hA.out.1,FoB_app] at hfb;have hks:k.size < N:=by
    have h1:=HN.out
    rw [hA.out.1] at h1;have:=Fo.kid_size A h k r;omega
   have HC:=zH (HIH.out h k xn xk cn ck wr hks hfb.2.1 hfb.2.2.2.1 hk1)
   have HNX:Hid (F=(A.app (.cons h k .nil)).app r∧(A.app (.cons h k .nil)).len=i+1):=⟨by rw [← Fo.next]; exact hA.out.1,by rw [Fo.app_len,hA.out.2]; rfl⟩
   obtain ⟨q,hq⟩:∃q,exN h k=q:=⟨_,rfl⟩
   have HG1:Hid (allG exN (A.app (.cons h k .nil))=q):=by show _=_; rw [allG_node,hG.out,hq]; simp [allG]
   have HG2:Hid (q=false→z=false):=fun h0=>by rw [← HZ.out,hA.out.1,allG_node,hq,h0]; simp
   rw [hq] at HC;clear hq hf1 hk1 hfb hks hA hG;obtain ⟨kd,tx,nu,nm,ps⟩:=h;unfold ndV at HC;simp only at k0 k1 k2 k3 k4 k5 HC
   cases q with
   | true=>
    go_wp2_with fail;refine HC.out.mono ?_;rintro e w1 ⟨rfl,hb⟩;have HB1:=zH (hbw.out.trans (hb.mono hbw.out.size));clear hb HC hbw;go_wp2_with fail;go_roundw
    case rel=>exact ⟨i+1,_,r,by go_num,by omega,HNX,HG1,HB1⟩
    case measure=>simp [intOf]; omega
   | false=>
    have HE:=zH (HG2.out rfl)
    go_wp2_with fail;refine HC.out.mono ?_;rintro e w1 ⟨rfl,hb⟩;have HB1:=zH (hbw.out.trans (hb.mono hbw.out.size));clear hb HC hbw;go_wp2_with fail;go_ret;exact ⟨by rw [HE.out]; rfl,HB1.out⟩
  ·have dlt:decide ((i:Int) < (n:Int))=false:=by simp; omega
   have HT:Hid (z=true):=by
    have hR:R=.nil:=by
     cases R with
     | nil=>rfl
     | cons h k r=>have h1:=hA.out.1; have h2:=HL.out; rw [h1,Fo.app_len,hA.out.2] at h2; simp only [Fo.len] at h2; omega
    show z=true
    rw [← HZ.out,hA.out.1,hR,Fo.app_nil,hG.out]
   clear hA hG;go_wp2_with fail;go_ret;exact ⟨by rw [HT.out]; rfl,hbw.out⟩
theorem rex_step {N:Nat} (ih:REx N):REx (N+1):=by
 intro h k xn xk cn ck w hN htx hF hkr;have HKB:=zH (Blk.new w 31 (ndV h (.slice xn h.names.length cn) (.slice xk k.len ck)));have HBA:=zH ((Below.refl w.heap.size w).alloc (Nat.le_refl _) (.cells (ndV h (.slice xn h.names.length cn) (.slice xk k.len ck)) 31));have HK:=zH (fun w' (hb:Below w.heap.size w w')=>rexs_any ih k _ w' (by omega) hF (hkr.below hb))
 have HPL:=zH (fun t u m w'=>rplain_any h t u m xn xk cn ck k.len w')
 have htb:(⟨h.text.toArray⟩:ByteArray).size≤1048576:=by show h.text.toArray.size≤_; rw [List.size_toArray]; exact htx
 have HNM:=zH (fun w'=>rnamed_any ⟨h.text.toArray⟩ w' htb)
 have HLT:=zH (fun w'=>rlit_run ⟨h.text.toArray⟩ w' htb)
 have HPW:=zH (fun w'=>power_any h.text w')
 have H1:=zH (fun e=>exn1 (h:=h) (k:=k) e)
 have H2:=zH (fun e=>exn2 (h:=h) (k:=k) e)
 have H3:=zH (fun e=>exn3 (h:=h) (k:=k) e)
 have H4:=zH (fun e=>exn4 (h:=h) (k:=k) e)
 have H5:=zH (fun e=>exn5 (h:=h) (k:=k) e)
 have H6:=zH (fun e=>exn6 (h:=h) (k:=k) e)
 have H7:=zH (fun e=>exn7 (h:=h) (k:=k) e)
 have H8:=zH (fun e=>exn8 (h:=h) (k:=k) e)
 have H9:=zH (fun e=>exn9 (h:=h) (k:=k) e)
 have H0:=zH (fun e=>exn0 (h:=h) (k:=k) e)
 obtain ⟨z,hz⟩:∃z,exN h k=z:=⟨_,rfl⟩
 rw [hz] at H1 H2 H3 H4 H5 H6 H7 H8 H9 H0 ⊢;obtain ⟨rk,hrk⟩:∃q,rt .ex k=q:=⟨_,rfl⟩;rw [hrk] at HK H4 H5 H6 H7 H8;obtain ⟨kl,hkl⟩:∃q,k.len=q:=⟨_,rfl⟩;rw [hkl] at HKB HBA HK HPL H1 H2 H3 H5 H6 H8 H9 ⊢;obtain ⟨nq,hnq⟩:∃q,isNameP h.text=q:=⟨_,rfl⟩;rw [show (⟨h.text.toArray⟩:ByteArray).data.toList=h.text from rfl] at HNM HLT
 rw [hnq] at HNM H3 H7;obtain ⟨lq,hlq⟩:∃q,litOk h.text=q:=⟨_,rfl⟩;rw [hlq] at HLT H2;obtain ⟨sq,hsq⟩:∃q,stren h.text=q:=⟨_,rfl⟩;rw [hsq] at HPW H6;have HP1:=zH (fun w'=>HPL.out false true false w')
 have HP2:=zH (fun w'=>HPL.out true false false w')
 have HP3:=zH (fun w'=>HPL.out false false false w')
 obtain ⟨p1,hp1⟩:∃q,plnP h false true false=q:=⟨_,rfl⟩
 obtain ⟨p2,hp2⟩:∃q,plnP h true false false=q:=⟨_,rfl⟩
 obtain ⟨p3,hp3⟩:∃q,plnP h false false false=q:=⟨_,rfl⟩
 rw [hp1] at HP1 H1;rw [hp2] at HP2 H2 H3 H5 H6 H7;rw [hp3] at HP3 H4 H8 H9;clear hN htx hF hkr htb hz hrk hkl hnq hlq hsq hp1 hp2 hp3 HPL ih;obtain ⟨kd,tx,nu,nm,ps⟩:=h;obtain ⟨nl,hnl⟩:∃l,nm.length=l:=⟨_,rfl⟩;unfold ndV at HKB HBA HP1 HP2 HP3 ⊢;simp only [hnl] at HKB HBA HP1 HP2 HP3 HNM HLT HPW H1 H2 H3 H4 H5 H6 H7 H8 H9 H0 ⊢;clear hnl;go_enter Tryz.func77,Tryz.ntmps77;go_upto_region 1 with fail
 generalize w.alloc (.cells #[.int .i64 kd,.string ⟨tx.toArray⟩,.int .i64 nu,.slice xn nl cn,.slice xk kl ck,.int .i64 ps] 31)=wz at*;generalize hA:w.heap.size=A at*;have HA:=zH hA;clear hA;have y0:wz.cell? ⟨A,0,none⟩=some (.int .i64 kd):=HKB.out.cell 0;have y1:wz.cell? ⟨A,1,none⟩=some (.string ⟨tx.toArray⟩):=HKB.out.cell 1;have y2:wz.cell? ⟨A,2,none⟩=some (.int .i64 nu):=HKB.out.cell 2
 have y3:wz.cell? ⟨A,3,none⟩=some (.slice xn nl cn):=HKB.out.cell 3
 have y4:wz.cell? ⟨A,4,none⟩=some (.slice xk kl ck):=HKB.out.cell 4
 have y5:wz.cell? ⟨A,5,none⟩=some (.int .i64 ps):=HKB.out.cell 5
 have hcases:kd=1∨kd=2∨kd=3∨(kd=9∨kd=10)∨kd=4∨kd=5∨kd=6∨kd=7∨kd=8∨¬ (1≤kd∧kd≤10):=by omega
 rcases hcases with hc | hc | hc | hc | hc | hc | hc | hc | hc | hc
 ·have HZ:=zH (H1.out hc)
  have n1:(kd==1)=true:=by simp; omega
  have n2:(kd==2)=false:=by simp; omega
  have n3:(kd==3)=false:=by simp; omega
  have n4:(kd==4)=false:=by simp; omega
  have n5:(kd==5)=false:=by simp; omega
  have n6:(kd==6)=false:=by simp; omega
  have n7:(kd==7)=false:=by simp; omega
  have n8:(kd==8)=false:=by simp; omega
  have n9:(kd==9)=false:=by simp; omega
  have n10:(kd==10)=false:=by simp; omega
  clear hc;clear H1 H2 H3 H4 H5 H6 H7 H8 H9 H0 HK HP2 HP3 HNM HLT HPW;obtain ⟨q1,hq1⟩:∃q,decide (kl=0)=q:=⟨_,rfl⟩;obtain ⟨q2,hq2⟩:∃q,decide (0≤nu)=q:=⟨_,rfl⟩;obtain ⟨q3,hq3⟩:∃q,decide (nu≤4611686018427387904)=q:=⟨_,rfl⟩;have g1:((kl:Int)==0)=q1:=by rw [← hq1]; cases kl <;> simp; omega
  rw [hq1,hq2,hq3] at HZ;clear hq1
  cases p1 <;> cases q1 <;> cases q2 <;> cases q3
  all_goals
   go_wp2_with fail;refine (HP1.out wz).mono ?_;rintro e w1 ⟨rfl,hb⟩;have HB1:=zH (HBA.out.trans (hb.mono (Nat.le_of_lt HKB.out.lt)));have HK1:Hid (Blk w1 A 31 _):=(hb.block _ HKB.out.lt).trans HKB.out;clear hb y0 y1 y2 y3 y4 y5;have y0:w1.cell? ⟨A,0,none⟩=some (.int .i64 kd):=HK1.out.cell 0;have y1:w1.cell? ⟨A,1,none⟩=some (.string ⟨tx.toArray⟩):=HK1.out.cell 1
   have y2:w1.cell? ⟨A,2,none⟩=some (.int .i64 nu):=HK1.out.cell 2
   have y3:w1.cell? ⟨A,3,none⟩=some (.slice xn nl cn):=HK1.out.cell 3
   have y4:w1.cell? ⟨A,4,none⟩=some (.slice xk kl ck):=HK1.out.cell 4
   have y5:w1.cell? ⟨A,5,none⟩=some (.int .i64 ps):=HK1.out.cell 5
   go_wp2_with fail;go_ret;exact ⟨ret_bool (by rw [HZ.out]; rfl),by rw [HA.out]; exact HB1.out⟩
 ·have HZ:=zH (H2.out hc)
  have n1:(kd==1)=false:=by simp; omega
  have n2:(kd==2)=true:=by simp; omega
  have n3:(kd==3)=false:=by simp; omega
  have n4:(kd==4)=false:=by simp; omega
  have n5:(kd==5)=false:=by simp; omega
  have n6:(kd==6)=false:=by simp; omega
  have n7:(kd==7)=false:=by simp; omega
  have n8:(kd==8)=false:=by simp; omega
  have n9:(kd==9)=false:=by simp; omega
  have n10:(kd==10)=false:=by simp; omega
  clear hc;clear H1 H2 H3 H4 H5 H6 H7 H8 H9 H0 HK HP1 HP3 HNM HPW;obtain ⟨q1,hq1⟩:∃q,decide (kl=0)=q:=⟨_,rfl⟩;have g1:((kl:Int)==0)=q1:=by rw [← hq1]; cases kl <;> simp; omega
  rw [hq1] at HZ;clear hq1;go_wp2_with fail;refine (HLT.out wz).mono ?_;rintro e w1 ⟨⟨t,x,rfl,hx⟩,rfl⟩;clear HLT
  cases p2 <;> cases q1 <;> cases lq
  all_goals
   go_wp2_with fail;refine (HP2.out wz).mono ?_;rintro e w1 ⟨rfl,hb⟩;have HB1:=zH (HBA.out.trans (hb.mono (Nat.le_of_lt HKB.out.lt)));have HK1:Hid (Blk w1 A 31 _):=(hb.block _ HKB.out.lt).trans HKB.out;clear hb y0 y1 y2 y3 y4 y5;have y0:w1.cell? ⟨A,0,none⟩=some (.int .i64 kd):=HK1.out.cell 0;have y1:w1.cell? ⟨A,1,none⟩=some (.string ⟨tx.toArray⟩):=HK1.out.cell 1
   have y2:w1.cell? ⟨A,2,none⟩=some (.int .i64 nu):=HK1.out.cell 2
   have y3:w1.cell? ⟨A,3,none⟩=some (.slice xn nl cn):=HK1.out.cell 3
   have y4:w1.cell? ⟨A,4,none⟩=some (.slice xk kl ck):=HK1.out.cell 4
   have y5:w1.cell? ⟨A,5,none⟩=some (.int .i64 ps):=HK1.out.cell 5
   go_wp2_with fail;go_ret;exact ⟨ret_bool (by rw [HZ.out]; rfl),by rw [HA.out]; exact HB1.out⟩
 ·have HZ:=zH (H3.out hc)
  have n1:(kd==1)=false:=by simp; omega
  have n2:(kd==2)=false:=by simp; omega
  have n3:(kd==3)=true:=by simp; omega
  have n4:(kd==4)=false:=by simp; omega
  have n5:(kd==5)=false:=by simp; omega
  have n6:(kd==6)=false:=by simp; omega
  have n7:(kd==7)=false:=by simp; omega
  have n8:(kd==8)=false:=by simp; omega
  have n9:(kd==9)=false:=by simp; omega
  have n10:(kd==10)=false:=by simp; omega
  clear hc;clear H1 H2 H3 H4 H5 H6 H7 H8 H9 H0 HK HP1 HP3 HLT HPW;obtain ⟨q1,hq1⟩:∃q,decide (kl=0)=q:=⟨_,rfl⟩;have g1:((kl:Int)==0)=q1:=by rw [← hq1]; cases kl <;> simp; omega
  rw [hq1] at HZ;clear hq1
  cases p2 <;> cases q1 <;> cases nq
  all_goals
   go_wp2_with fail;refine (HP2.out wz).mono ?_;rintro e w1 ⟨rfl,hb⟩;have HB1:=zH (HBA.out.trans (hb.mono (Nat.le_of_lt HKB.out.lt)));have HK1:Hid (Blk w1 A 31 _):=(hb.block _ HKB.out.lt).trans HKB.out;clear hb y0 y1 y2 y3 y4 y5;have y0:w1.cell? ⟨A,0,none⟩=some (.int .i64 kd):=HK1.out.cell 0;have y1:w1.cell? ⟨A,1,none⟩=some (.string ⟨tx.toArray⟩):=HK1.out.cell 1
   have y2:w1.cell? ⟨A,2,none⟩=some (.int .i64 nu):=HK1.out.cell 2
   have y3:w1.cell? ⟨A,3,none⟩=some (.slice xn nl cn):=HK1.out.cell 3
   have y4:w1.cell? ⟨A,4,none⟩=some (.slice xk kl ck):=HK1.out.cell 4
   have y5:w1.cell? ⟨A,5,none⟩=some (.int .i64 ps):=HK1.out.cell 5
   go_wp2_with fail;first
    | (
      go_ret
      exact ⟨ret_bool (by rw [HZ.out]; rfl),by rw [HA.out]; exact HB1.out⟩)
    | (
      refine (HNM.out w1).mono ?_
      rintro e w2 ⟨rfl,rfl⟩;go_wp2_with fail;go_ret;exact ⟨ret_bool (by rw [HZ.out]; rfl),by rw [HA.out]; exact HB1.out⟩)
 ·have HZ:=zH (H9.out hc)
  clear H1 H2 H3 H4 H5 H6 H7 H8 H9 H0 HK HP1 HP2 HLT HPW HNM;obtain ⟨q1,hq1⟩:∃q,decide (kl=0)=q:=⟨_,rfl⟩;have g1:((kl:Int)==0)=q1:=by rw [← hq1]; cases kl <;> simp; omega
  rw [hq1] at HZ;clear hq1;rcases hc with hc | hc <;> cases p3 <;> cases q1
  all_goals
   first | have n1:(kd==1)=true:=by (simp; omega) | have n1:(kd==1)=false:=by (simp; omega)
   first | have n2:(kd==2)=true:=by (simp; omega) | have n2:(kd==2)=false:=by (simp; omega)
   first | have n3:(kd==3)=true:=by (simp; omega) | have n3:(kd==3)=false:=by (simp; omega)
   first | have n4:(kd==4)=true:=by (simp; omega) | have n4:(kd==4)=false:=by (simp; omega)
   first | have n5:(kd==5)=true:=by (simp; omega) | have n5:(kd==5)=false:=by (simp; omega)
   first | have n6:(kd==6)=true:=by (simp; omega) | have n6:(kd==6)=false:=by (simp; omega)
   first | have n7:(kd==7)=true:=by (simp; omega) | have n7:(kd==7)=false:=by (simp; omega)
   first | have n8:(kd==8)=true:=by (simp; omega) | have n8:(kd==8)=false:=by (simp; omega)
   first | have n9:(kd==9)=true:=by (simp; omega) | have n9:(kd==9)=false:=by (simp; omega)
   first | have n10:(kd==10)=true:=by (simp; omega) | have n10:(kd==10)=false:=by (simp; omega)
   clear hc;go_wp2_with fail;refine (HP3.out wz).mono ?_;rintro e w1 ⟨rfl,hb⟩;have HB1:=zH (HBA.out.trans (hb.mono (Nat.le_of_lt HKB.out.lt)));have HK1:Hid (Blk w1 A 31 _):=(hb.block _ HKB.out.lt).trans HKB.out;clear hb y0 y1 y2 y3 y4 y5;have y0:w1.cell? ⟨A,0,none⟩=some (.int .i64 kd):=HK1.out.cell 0;have y1:w1.cell? ⟨A,1,none⟩=some (.string ⟨tx.toArray⟩):=HK1.out.cell 1
   have y2:w1.cell? ⟨A,2,none⟩=some (.int .i64 nu):=HK1.out.cell 2
   have y3:w1.cell? ⟨A,3,none⟩=some (.slice xn nl cn):=HK1.out.cell 3
   have y4:w1.cell? ⟨A,4,none⟩=some (.slice xk kl ck):=HK1.out.cell 4
   have y5:w1.cell? ⟨A,5,none⟩=some (.int .i64 ps):=HK1.out.cell 5
   go_wp2_with fail;go_ret;exact ⟨ret_bool (by rw [HZ.out]; rfl),by rw [HA.out]; exact HB1.out⟩
 ·have HZ:=zH (H4.out hc)
  have n1:(kd==1)=false:=by simp; omega
  have n2:(kd==2)=false:=by simp; omega
  have n3:(kd==3)=false:=by simp; omega
  have n4:(kd==4)=true:=by simp; omega
  have n5:(kd==5)=false:=by simp; omega
  have n6:(kd==6)=false:=by simp; omega
  have n7:(kd==7)=false:=by simp; omega
  have n8:(kd==8)=false:=by simp; omega
  have n9:(kd==9)=false:=by simp; omega
  have n10:(kd==10)=false:=by simp; omega
  clear hc;clear H1 H2 H3 H4 H5 H6 H7 H8 H9 H0 HP1 HP2 HLT HPW HNM;have HKK:=zH (HK.out wz HBA.out);clear HK;go_wp2_with fail;refine HKK.out.mono ?_;rintro e w3 ⟨rfl,hb⟩;have HB3:=zH (HBA.out.trans (hb.mono (Nat.le_of_lt HKB.out.lt)));have HK3:Hid (Blk w3 A 31 _):=(hb.block _ HKB.out.lt).trans HKB.out;clear hb y0 y1 y2 y3 y4 y5 HKK HBA HKB
  have y0:w3.cell? ⟨A,0,none⟩=some (.int .i64 kd):=HK3.out.cell 0
  have y1:w3.cell? ⟨A,1,none⟩=some (.string ⟨tx.toArray⟩):=HK3.out.cell 1
  have y2:w3.cell? ⟨A,2,none⟩=some (.int .i64 nu):=HK3.out.cell 2
  have y3:w3.cell? ⟨A,3,none⟩=some (.slice xn nl cn):=HK3.out.cell 3
  have y4:w3.cell? ⟨A,4,none⟩=some (.slice xk kl ck):=HK3.out.cell 4
  have y5:w3.cell? ⟨A,5,none⟩=some (.int .i64 ps):=HK3.out.cell 5
  cases rk with
  | false=>
   go_wp2_with fail;go_ret;exact ⟨ret_bool (by rw [HZ.out]; rfl),by rw [HA.out]; exact HB3.out⟩
  | true=>
   cases p3
   all_goals
    go_wp2_with fail;refine (HP3.out w3).mono ?_;rintro e w1 ⟨rfl,hb⟩;have HB1:=zH (HB3.out.trans (hb.mono (Nat.le_of_lt HK3.out.lt)));have HK1:Hid (Blk w1 A 31 _):=(hb.block _ HK3.out.lt).trans HK3.out;clear hb y0 y1 y2 y3 y4 y5;have y0:w1.cell? ⟨A,0,none⟩=some (.int .i64 kd):=HK1.out.cell 0;have y1:w1.cell? ⟨A,1,none⟩=some (.string ⟨tx.toArray⟩):=HK1.out.cell 1
    have y2:w1.cell? ⟨A,2,none⟩=some (.int .i64 nu):=HK1.out.cell 2
    have y3:w1.cell? ⟨A,3,none⟩=some (.slice xn nl cn):=HK1.out.cell 3
    have y4:w1.cell? ⟨A,4,none⟩=some (.slice xk kl ck):=HK1.out.cell 4
    have y5:w1.cell? ⟨A,5,none⟩=some (.int .i64 ps):=HK1.out.cell 5
    go_wp2_with fail;go_ret;exact ⟨ret_bool (by rw [HZ.out]; rfl),by rw [HA.out]; exact HB1.out⟩
 ·have HZ:=zH (H5.out hc)
  have n1:(kd==1)=false:=by simp; omega
  have n2:(kd==2)=false:=by simp; omega
  have n3:(kd==3)=false:=by simp; omega
  have n4:(kd==4)=false:=by simp; omega
  have n5:(kd==5)=true:=by simp; omega
  have n6:(kd==6)=false:=by simp; omega
  have n7:(kd==7)=false:=by simp; omega
  have n8:(kd==8)=false:=by simp; omega
  have n9:(kd==9)=false:=by simp; omega
  have n10:(kd==10)=false:=by simp; omega
  clear hc;clear H1 H2 H3 H4 H5 H6 H7 H8 H9 H0 HP1 HP3 HLT HPW HNM;have HKK:=zH (HK.out wz HBA.out);clear HK;go_wp2_with fail;refine HKK.out.mono ?_;rintro e w3 ⟨rfl,hb⟩;have HB3:=zH (HBA.out.trans (hb.mono (Nat.le_of_lt HKB.out.lt)));have HK3:Hid (Blk w3 A 31 _):=(hb.block _ HKB.out.lt).trans HKB.out;clear hb y0 y1 y2 y3 y4 y5 HKK HBA HKB
  have y0:w3.cell? ⟨A,0,none⟩=some (.int .i64 kd):=HK3.out.cell 0
  have y1:w3.cell? ⟨A,1,none⟩=some (.string ⟨tx.toArray⟩):=HK3.out.cell 1
  have y2:w3.cell? ⟨A,2,none⟩=some (.int .i64 nu):=HK3.out.cell 2
  have y3:w3.cell? ⟨A,3,none⟩=some (.slice xn nl cn):=HK3.out.cell 3
  have y4:w3.cell? ⟨A,4,none⟩=some (.slice xk kl ck):=HK3.out.cell 4
  have y5:w3.cell? ⟨A,5,none⟩=some (.int .i64 ps):=HK3.out.cell 5
  cases rk with
  | false=>
   go_wp2_with fail;go_ret;exact ⟨ret_bool (by rw [HZ.out]; rfl),by rw [HA.out]; exact HB3.out⟩
  | true=>
   obtain ⟨q1,hq1⟩:∃q,decide (kl=1)=q:=⟨_,rfl⟩
   have g1:((kl:Int)==1)=q1:=by rw [← hq1]; by_cases h:kl=1 <;> simp [h]; omega
   rw [hq1] at HZ;clear hq1;obtain ⟨q2,hq2⟩:∃q,decide (tx=[45])=q:=⟨_,rfl⟩;obtain ⟨q3,hq3⟩:∃q,decide (tx=[33])=q:=⟨_,rfl⟩;have g2:(tx==[45])=q2:=by rw [← hq2]; by_cases h:tx=[45] <;> simp [h]
   have g3:(tx==[33])=q3:=by rw [← hq3]; by_cases h:tx=[33] <;> simp [h]
   rw [hq2,hq3] at HZ;clear hq2 hq3
   cases p2 <;> cases q1 <;> cases q2 <;> cases q3
   all_goals
    go_wp2_with fail;refine (HP2.out w3).mono ?_;rintro e w1 ⟨rfl,hb⟩;have HB1:=zH (HB3.out.trans (hb.mono (Nat.le_of_lt HK3.out.lt)));have HK1:Hid (Blk w1 A 31 _):=(hb.block _ HK3.out.lt).trans HK3.out;clear hb y0 y1 y2 y3 y4 y5;have y0:w1.cell? ⟨A,0,none⟩=some (.int .i64 kd):=HK1.out.cell 0;have y1:w1.cell? ⟨A,1,none⟩=some (.string ⟨tx.toArray⟩):=HK1.out.cell 1
    have y2:w1.cell? ⟨A,2,none⟩=some (.int .i64 nu):=HK1.out.cell 2
    have y3:w1.cell? ⟨A,3,none⟩=some (.slice xn nl cn):=HK1.out.cell 3
    have y4:w1.cell? ⟨A,4,none⟩=some (.slice xk kl ck):=HK1.out.cell 4
    have y5:w1.cell? ⟨A,5,none⟩=some (.int .i64 ps):=HK1.out.cell 5
    go_wp2_with fail;go_ret;exact ⟨ret_bool (by rw [HZ.out]; rfl),by rw [HA.out]; exact HB1.out⟩
 ·have HZ:=zH (H6.out hc)
  have n1:(kd==1)=false:=by simp; omega
  have n2:(kd==2)=false:=by simp; omega
  have n3:(kd==3)=false:=by simp; omega
  have n4:(kd==4)=false:=by simp; omega
  have n5:(kd==5)=false:=by simp; omega
  have n6:(kd==6)=true:=by simp; omega
  have n7:(kd==7)=false:=by simp; omega
  have n8:(kd==8)=false:=by simp; omega
  have n9:(kd==9)=false:=by simp; omega
  have n10:(kd==10)=false:=by simp; omega
  clear hc;clear H1 H2 H3 H4 H5 H6 H7 H8 H9 H0 HP1 HP3 HLT HNM;have HKK:=zH (HK.out wz HBA.out);clear HK;go_wp2_with fail;refine HKK.out.mono ?_;rintro e w3 ⟨rfl,hb⟩;have HB3:=zH (HBA.out.trans (hb.mono (Nat.le_of_lt HKB.out.lt)));have HK3:Hid (Blk w3 A 31 _):=(hb.block _ HKB.out.lt).trans HKB.out;clear hb y0 y1 y2 y3 y4 y5 HKK HBA HKB
  have y0:w3.cell? ⟨A,0,none⟩=some (.int .i64 kd):=HK3.out.cell 0
  have y1:w3.cell? ⟨A,1,none⟩=some (.string ⟨tx.toArray⟩):=HK3.out.cell 1
  have y2:w3.cell? ⟨A,2,none⟩=some (.int .i64 nu):=HK3.out.cell 2
  have y3:w3.cell? ⟨A,3,none⟩=some (.slice xn nl cn):=HK3.out.cell 3
  have y4:w3.cell? ⟨A,4,none⟩=some (.slice xk kl ck):=HK3.out.cell 4
  have y5:w3.cell? ⟨A,5,none⟩=some (.int .i64 ps):=HK3.out.cell 5
  cases rk with
  | false=>
   go_wp2_with fail;go_ret;exact ⟨ret_bool (by rw [HZ.out]; rfl),by rw [HA.out]; exact HB3.out⟩
  | true=>
   obtain ⟨q1,hq1⟩:∃q,decide (kl=2)=q:=⟨_,rfl⟩
   have g1:((kl:Int)==2)=q1:=by rw [← hq1]; by_cases h:kl=2 <;> simp [h]; omega
   rw [hq1] at HZ;clear hq1;obtain ⟨q2,hq2⟩:∃q,decide (0 < sq)=q:=⟨_,rfl⟩;have g2:decide ((0:Int) < (sq:Int))=q2:=by rw [← hq2]; by_cases h:0 < sq <;> simp [h]
   rw [hq2] at HZ
   cases p2 <;> cases q1 <;> cases q2
   all_goals
    go_wp2_with fail;refine (HP2.out w3).mono ?_;rintro e w1 ⟨rfl,hb⟩;have HB1:=zH (HB3.out.trans (hb.mono (Nat.le_of_lt HK3.out.lt)));have HK1:Hid (Blk w1 A 31 _):=(hb.block _ HK3.out.lt).trans HK3.out;clear hb y0 y1 y2 y3 y4 y5;have y0:w1.cell? ⟨A,0,none⟩=some (.int .i64 kd):=HK1.out.cell 0;have y1:w1.cell? ⟨A,1,none⟩=some (.string ⟨tx.toArray⟩):=HK1.out.cell 1
    have y2:w1.cell? ⟨A,2,none⟩=some (.int .i64 nu):=HK1.out.cell 2
    have y3:w1.cell? ⟨A,3,none⟩=some (.slice xn nl cn):=HK1.out.cell 3
    have y4:w1.cell? ⟨A,4,none⟩=some (.slice xk kl ck):=HK1.out.cell 4
    have y5:w1.cell? ⟨A,5,none⟩=some (.int .i64 ps):=HK1.out.cell 5
    go_wp2_with fail;first
     | (
       go_ret
       exact ⟨ret_bool (by rw [HZ.out]; rfl),by rw [HA.out]; exact HB1.out⟩)
     | (
       refine (HPW.out w1).mono ?_
       rintro e w2 ⟨rfl,hb⟩;have HB2:=zH (HB1.out.trans (hb.mono (Nat.le_of_lt HK1.out.lt)));clear hb;go_wp2_with fail;go_ret;exact ⟨ret_bool (by rw [HZ.out]; rfl),by rw [HA.out]; exact HB2.out⟩)
 ·have HZ:=zH (H7.out hc)
  have n1:(kd==1)=false:=by simp; omega
  have n2:(kd==2)=false:=by simp; omega
  have n3:(kd==3)=false:=by simp; omega
  have n4:(kd==4)=false:=by simp; omega
  have n5:(kd==5)=false:=by simp; omega
  have n6:(kd==6)=false:=by simp; omega
  have n7:(kd==7)=true:=by simp; omega
  have n8:(kd==8)=false:=by simp; omega
  have n9:(kd==9)=false:=by simp; omega
  have n10:(kd==10)=false:=by simp; omega
  clear hc;clear H1 H2 H3 H4 H5 H6 H7 H8 H9 H0 HP1 HP3 HLT HPW;have HKK:=zH (HK.out wz HBA.out);clear HK;go_wp2_with fail;refine HKK.out.mono ?_;rintro e w3 ⟨rfl,hb⟩;have HB3:=zH (HBA.out.trans (hb.mono (Nat.le_of_lt HKB.out.lt)));have HK3:Hid (Blk w3 A 31 _):=(hb.block _ HKB.out.lt).trans HKB.out;clear hb y0 y1 y2 y3 y4 y5 HKK HBA HKB
  have y0:w3.cell? ⟨A,0,none⟩=some (.int .i64 kd):=HK3.out.cell 0
  have y1:w3.cell? ⟨A,1,none⟩=some (.string ⟨tx.toArray⟩):=HK3.out.cell 1
  have y2:w3.cell? ⟨A,2,none⟩=some (.int .i64 nu):=HK3.out.cell 2
  have y3:w3.cell? ⟨A,3,none⟩=some (.slice xn nl cn):=HK3.out.cell 3
  have y4:w3.cell? ⟨A,4,none⟩=some (.slice xk kl ck):=HK3.out.cell 4
  have y5:w3.cell? ⟨A,5,none⟩=some (.int .i64 ps):=HK3.out.cell 5
  cases rk with
  | false=>
   go_wp2_with fail;go_ret;exact ⟨ret_bool (by rw [HZ.out]; rfl),by rw [HA.out]; exact HB3.out⟩
  | true=>
   cases p2 <;> cases nq
   all_goals
    go_wp2_with fail;refine (HP2.out w3).mono ?_;rintro e w1 ⟨rfl,hb⟩;have HB1:=zH (HB3.out.trans (hb.mono (Nat.le_of_lt HK3.out.lt)));have HK1:Hid (Blk w1 A 31 _):=(hb.block _ HK3.out.lt).trans HK3.out;clear hb y0 y1 y2 y3 y4 y5;have y0:w1.cell? ⟨A,0,none⟩=some (.int .i64 kd):=HK1.out.cell 0;have y1:w1.cell? ⟨A,1,none⟩=some (.string ⟨tx.toArray⟩):=HK1.out.cell 1
    have y2:w1.cell? ⟨A,2,none⟩=some (.int .i64 nu):=HK1.out.cell 2
    have y3:w1.cell? ⟨A,3,none⟩=some (.slice xn nl cn):=HK1.out.cell 3
    have y4:w1.cell? ⟨A,4,none⟩=some (.slice xk kl ck):=HK1.out.cell 4
    have y5:w1.cell? ⟨A,5,none⟩=some (.int .i64 ps):=HK1.out.cell 5
    go_wp2_with fail;first
     | (
       go_ret
       exact ⟨ret_bool (by rw [HZ.out]; rfl),by rw [HA.out]; exact HB1.out⟩)
     | (
       refine (HNM.out w1).mono ?_
       rintro e w2 ⟨rfl,rfl⟩;go_wp2_with fail;go_ret;exact ⟨ret_bool (by rw [HZ.out]; rfl),by rw [HA.out]; exact HB1.out⟩)
 ·have HZ:=zH (H8.out hc)
  have n1:(kd==1)=false:=by simp; omega
  have n2:(kd==2)=false:=by simp; omega
  have n3:(kd==3)=false:=by simp; omega
  have n4:(kd==4)=false:=by simp; omega
  have n5:(kd==5)=false:=by simp; omega
  have n6:(kd==6)=false:=by simp; omega
  have n7:(kd==7)=false:=by simp; omega
  have n8:(kd==8)=true:=by simp; omega
  have n9:(kd==9)=false:=by simp; omega
  have n10:(kd==10)=false:=by simp; omega
  clear hc;clear H1 H2 H3 H4 H5 H6 H7 H8 H9 H0 HP1 HP2 HLT HPW HNM;have HKK:=zH (HK.out wz HBA.out);clear HK;go_wp2_with fail;refine HKK.out.mono ?_;rintro e w3 ⟨rfl,hb⟩;have HB3:=zH (HBA.out.trans (hb.mono (Nat.le_of_lt HKB.out.lt)));have HK3:Hid (Blk w3 A 31 _):=(hb.block _ HKB.out.lt).trans HKB.out;clear hb y0 y1 y2 y3 y4 y5 HKK HBA HKB
  have y0:w3.cell? ⟨A,0,none⟩=some (.int .i64 kd):=HK3.out.cell 0
  have y1:w3.cell? ⟨A,1,none⟩=some (.string ⟨tx.toArray⟩):=HK3.out.cell 1
  have y2:w3.cell? ⟨A,2,none⟩=some (.int .i64 nu):=HK3.out.cell 2
  have y3:w3.cell? ⟨A,3,none⟩=some (.slice xn nl cn):=HK3.out.cell 3
  have y4:w3.cell? ⟨A,4,none⟩=some (.slice xk kl ck):=HK3.out.cell 4
  have y5:w3.cell? ⟨A,5,none⟩=some (.int .i64 ps):=HK3.out.cell 5
  cases rk with
  | false=>
   go_wp2_with fail;go_ret;exact ⟨ret_bool (by rw [HZ.out]; rfl),by rw [HA.out]; exact HB3.out⟩
  | true=>
   obtain ⟨q1,hq1⟩:∃q,decide (kl=2)=q:=⟨_,rfl⟩
   have g1:((kl:Int)==2)=q1:=by rw [← hq1]; by_cases h:kl=2 <;> simp [h]; omega
   rw [hq1] at HZ;clear hq1
   cases p3 <;> cases q1
   all_goals
    go_wp2_with fail;refine (HP3.out w3).mono ?_;rintro e w1 ⟨rfl,hb⟩;have HB1:=zH (HB3.out.trans (hb.mono (Nat.le_of_lt HK3.out.lt)));have HK1:Hid (Blk w1 A 31 _):=(hb.block _ HK3.out.lt).trans HK3.out;clear hb y0 y1 y2 y3 y4 y5;have y0:w1.cell? ⟨A,0,none⟩=some (.int .i64 kd):=HK1.out.cell 0;have y1:w1.cell? ⟨A,1,none⟩=some (.string ⟨tx.toArray⟩):=HK1.out.cell 1
    have y2:w1.cell? ⟨A,2,none⟩=some (.int .i64 nu):=HK1.out.cell 2
    have y3:w1.cell? ⟨A,3,none⟩=some (.slice xn nl cn):=HK1.out.cell 3
    have y4:w1.cell? ⟨A,4,none⟩=some (.slice xk kl ck):=HK1.out.cell 4
    have y5:w1.cell? ⟨A,5,none⟩=some (.int .i64 ps):=HK1.out.cell 5
    go_wp2_with fail;go_ret;exact ⟨ret_bool (by rw [HZ.out]; rfl),by rw [HA.out]; exact HB1.out⟩
 ·have HZ:=zH (H0.out hc)
  clear H1 H2 H3 H4 H5 H6 H7 H8 H9 H0 HP1 HP2 HP3 HLT HPW HNM;have n1:(kd==1)=false:=by simp; omega
  have n2:(kd==2)=false:=by simp; omega
  have n3:(kd==3)=false:=by simp; omega
  have n4:(kd==4)=false:=by simp; omega
  have n5:(kd==5)=false:=by simp; omega
  have n6:(kd==6)=false:=by simp; omega
  have n7:(kd==7)=false:=by simp; omega
  have n8:(kd==8)=false:=by simp; omega
  have n9:(kd==9)=false:=by simp; omega
  have n10:(kd==10)=false:=by simp; omega
  clear hc;have HKK:=zH (HK.out wz HBA.out);clear HK;go_wp2_with fail;refine HKK.out.mono ?_;rintro e w3 ⟨rfl,hb⟩;have HB3:=zH (HBA.out.trans (hb.mono (Nat.le_of_lt HKB.out.lt)));have HK3:Hid (Blk w3 A 31 _):=(hb.block _ HKB.out.lt).trans HKB.out;clear hb y0 y1 y2 y3 y4 y5 HKK HBA HKB;have y0:w3.cell? ⟨A,0,none⟩=some (.int .i64 kd):=HK3.out.cell 0
  have y1:w3.cell? ⟨A,1,none⟩=some (.string ⟨tx.toArray⟩):=HK3.out.cell 1
  have y2:w3.cell? ⟨A,2,none⟩=some (.int .i64 nu):=HK3.out.cell 2
  have y3:w3.cell? ⟨A,3,none⟩=some (.slice xn nl cn):=HK3.out.cell 3
  have y4:w3.cell? ⟨A,4,none⟩=some (.slice xk kl ck):=HK3.out.cell 4
  have y5:w3.cell? ⟨A,5,none⟩=some (.int .i64 ps):=HK3.out.cell 5
  cases rk
  all_goals
   go_wp2_with fail;go_ret;exact ⟨ret_bool (by rw [HZ.out]),by rw [HA.out]; exact HB3.out⟩
theorem rex_all:∀N,REx N:=by
 intro N;induction N with
 | zero=>intro h k _ _ _ _ _ hN; omega
 | succ N ih=>exact rex_step ih

theorem rt_sq1 (m:Ro) (h:Hd) (k:Fo):rt (.sq [m]) (.cons h k .nil)=(match m with | .ex=>exN h k | .bl=>blN h k | .bi=>biN h k):=by
 cases m <;> simp [rt,exN,blN,biN,stN,Bool.and_assoc]
theorem rt_sqc (m m':Ro) (t:List Ro) (h:Hd) (k r:Fo):rt (.sq (m::m'::t)) (.cons h k r)=((match m with | .ex=>exN h k | .bl=>blN h k | .bi=>biN h k)&&rt (.sq (m'::t)) r):=by
 cases m <;> simp [rt,exN,blN,biN,stN,Bool.and_assoc]
theorem rt_ne {l:List Ro} {k:Fo} (h:k.len≠l.length):rt (.sq l) k=false:=by
 cases hr:rt (.sq l) k with
 | false=>rfl
 | true=>exact absurd (rt_len l k hr) h
theorem st25 {h:Hd} {k:Fo} (hk:h.kind=25):stN h k=(plnP h false false false&&rt .st k):=by
 unfold stN stH kidM plnP;simp [hk]
 cases hn:h.names with
 | nil=>simp; cases h.text.isEmpty <;> cases decide (h.num=0) <;> simp
 | cons a t=>simp
theorem st1n {h:Hd} {k:Fo} (hk:h.kind=20∨h.kind=21) (hl:k.len≠1):stN h k=false:=by
 unfold stN kidM;rw [if_pos (by omega),rt_ne (by simpa using hl),Bool.and_false]
theorem st1 {h a:Hd} {ka:Fo} (hk:h.kind=20∨h.kind=21):stN h (.cons a ka .nil)=(plnP h true false false&&isNameP h.text&&exN a ka):=by
 unfold stN kidM;rw [if_pos (by omega),rt_sq1]
 unfold stH plnP;rcases hk with hk | hk <;> simp [hk] <;> (cases hn:h.names with
  | nil=>simp
  | cons a t=>simp)
theorem st24n {h:Hd} {k:Fo} (hk:h.kind=24) (hl:k.len≠3):stN h k=false:=by
 unfold stN kidM;rw [if_neg (by omega),if_neg (by omega),if_neg (by omega),if_pos hk,rt_ne (by simpa using hl),Bool.and_false]
theorem st24 {h a b c:Hd} {ka kb kc:Fo} (hk:h.kind=24):stN h (.cons a ka (.cons b kb (.cons c kc .nil)))=(plnP h true false false&&isNameP h.text&&exN a ka&&exN b kb&&blN c kc):=by
 unfold stN kidM;rw [if_neg (by omega),if_neg (by omega),if_neg (by omega),if_pos hk,rt_sqc,rt_sqc,rt_sq1]
 unfold stH plnP;simp [hk]
 cases hn:h.names with
 | nil=>simp; cases isNameP h.text <;> cases decide (h.num=0) <;> simp [Bool.and_assoc]
 | cons a t=>simp
theorem st26n {h:Hd} {k:Fo} (hk:h.kind=26) (hl:k.len≠1):stN h k=false:=by
 unfold stN kidM;rw [if_neg (by omega),if_neg (by omega),if_neg (by omega),if_neg (by omega),if_neg (by omega),if_pos hk,rt_ne (by simpa using hl),Bool.and_false]
theorem st26 {h c:Hd} {kc:Fo} (hk:h.kind=26):stN h (.cons c kc .nil)=(h.names.all isNameP&&(plnP h true false true&&isNameP h.text&&blN c kc)):=by
 unfold stN kidM;rw [if_neg (by omega),if_neg (by omega),if_neg (by omega),if_neg (by omega),if_neg (by omega),if_pos hk,rt_sq1]
 unfold stH plnP;simp [hk]
 cases h.names.all isNameP <;> cases isNameP h.text <;> cases decide (h.num=0) <;> simp
theorem st_pln {h:Hd} (hk:h.kind=22∨h.kind=23∨h.kind=27∨h.kind=28∨h.kind=29):stH h=plnP h false false false:=by
 unfold stH plnP;rcases hk with hk | hk | hk | hk | hk <;> simp [hk] <;> (cases hn:h.names with
  | nil=>simp; cases h.text.isEmpty <;> cases decide (h.num=0) <;> simp
  | cons a t=>simp)
theorem st22n {h:Hd} {k:Fo} (hk:h.kind=22) (hl:k.len≠2) (hl3:k.len≠3):stN h k=false:=by
 unfold stN kidM;rw [if_neg (by omega),if_pos hk,if_neg hl3,rt_ne (by simpa using hl),Bool.and_false]
theorem st22a {h a b:Hd} {ka kb:Fo} (hk:h.kind=22):stN h (.cons a ka (.cons b kb .nil))=(plnP h false false false&&(exN a ka&&blN b kb)):=by
 unfold stN kidM;rw [if_neg (by omega),if_pos hk,if_neg (by simp [Fo.len]),rt_sqc,rt_sq1,st_pln (Or.inl hk)]
theorem st22b {h a b c:Hd} {ka kb kc:Fo} (hk:h.kind=22):stN h (.cons a ka (.cons b kb (.cons c kc .nil)))=(plnP h false false false&&((if c.kind=22 then stN c kc else blN c kc)&&(exN a ka&&blN b kb))):=by
 unfold stN kidM;rw [if_neg (by omega),if_pos hk,if_pos (by simp [Fo.len]),rt_sqc,rt_sqc,rt_sq1,st_pln (Or.inl hk)]
 have:biN c kc=if c.kind=22 then stN c kc else blN c kc:=by
  unfold biN blN;by_cases hc:c.kind=22
  ·simp [hc]
  ·simp [hc]
 simp only [this];unfold stN kidM
 cases (if c.kind=22 then _ else _:Bool) <;> cases exN a ka <;> cases blN b kb <;> simp
theorem st23n {h:Hd} {k:Fo} (hk:h.kind=23) (hl:k.len≠2):stN h k=false:=by
 unfold stN kidM;rw [if_neg (by omega),if_neg (by omega),if_pos hk,rt_ne (by simpa using hl),Bool.and_false]
theorem st23 {h a b:Hd} {ka kb:Fo} (hk:h.kind=23):stN h (.cons a ka (.cons b kb .nil))=(plnP h false false false&&(exN a ka&&blN b kb)):=by
 unfold stN kidM;rw [if_neg (by omega),if_neg (by omega),if_pos hk,rt_sqc,rt_sq1,st_pln (Or.inr (Or.inl hk))]
theorem st27n {h:Hd} {k:Fo} (hk:h.kind=27) (hl:k.len≠0) (hl1:k.len≠1):stN h k=false:=by
 unfold stN kidM;rw [if_neg (by omega),if_neg (by omega),if_neg (by omega),if_neg (by omega),if_neg (by omega),if_neg (by omega),if_pos hk,if_neg hl,rt_ne (by simpa using hl1),Bool.and_false]
theorem st27a {h:Hd} (hk:h.kind=27):stN h .nil=plnP h false false false:=by
 unfold stN kidM;rw [if_neg (by omega),if_neg (by omega),if_neg (by omega),if_neg (by omega),if_neg (by omega),if_neg (by omega),if_pos hk,if_pos (by rfl),st_pln (Or.inr (Or.inr (Or.inl hk)))]
 simp [rt]
theorem st27b {h a:Hd} {ka:Fo} (hk:h.kind=27):stN h (.cons a ka .nil)=(plnP h false false false&&exN a ka):=by
 unfold stN kidM;rw [if_neg (by omega),if_neg (by omega),if_neg (by omega),if_neg (by omega),if_neg (by omega),if_neg (by omega),if_pos hk,if_neg (by simp [Fo.len]),rt_sq1,st_pln (Or.inr (Or.inr (Or.inl hk)))]
theorem st28n {h:Hd} {k:Fo} (hk:h.kind=28) (hl:k.len≠1):stN h k=false:=by
 unfold stN kidM;rw [if_pos (by omega),rt_ne (by simpa using hl),Bool.and_false]
theorem st28 {h a:Hd} {ka:Fo} (hk:h.kind=28):stN h (.cons a ka .nil)=(plnP h false false false&&exN a ka):=by
 unfold stN kidM;rw [if_pos (by omega),rt_sq1,st_pln (Or.inr (Or.inr (Or.inr (Or.inl hk))))]
theorem st29 {h:Hd} {k:Fo} (hk:h.kind=29):stN h k=(plnP h false false false&&decide (k.len=0)):=by
 unfold stN kidM;rw [if_neg (by omega),if_neg (by omega),if_neg (by omega),if_neg (by omega),if_neg (by omega),if_neg (by omega),if_neg (by omega),st_pln (Or.inr (Or.inr (Or.inr (Or.inr hk))))]
 cases k <;> simp [rt,Fo.len]
theorem stx0 {h:Hd} {k:Fo} (hk:¬ (20≤h.kind∧h.kind≤29)):stN h k=false:=by
 unfold stN stH;rw [show decide (20≤h.kind∧h.kind≤29)=false by simpa using hk]
 simp
end Go.Proofs.YtbaidkefobhipaaGreatDoor
