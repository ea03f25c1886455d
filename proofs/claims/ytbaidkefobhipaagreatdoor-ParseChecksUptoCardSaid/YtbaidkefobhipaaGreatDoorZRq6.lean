/-
  Walks: the reference's right, isBlock and isStatement. (Printed by gen_rq6.py.)
-/
import Derived.Test.YtbaidkefobhipaaGreatDoorZS52
import Derived.Test.YtbaidkefobhipaaGreatDoorZS23
namespace Go.Proofs.YtbaidkefobhipaaGreatDoor
set_option maxHeartbeats 16000000
set_option maxRecDepth 100000
open Go.RowKit

def RSt (N:Nat):Prop:=∀(h:Hd) (k:Fo) (xn xk:Option Addr) (cn ck:Nat) (w:World),k.size < N→h.text.length≤1048576→(∀s∈h.names,s.length≤1048576)→FoB k→NmRow w (.slice xn h.names.length cn) h.names→FRow w (.slice xk k.len ck) k→
 Calls Tryz.prog 38 #[.agg (ndV h (.slice xn h.names.length cn) (.slice xk k.len ck))] w fun e w'=>e=.returned (.bool (stN h k))∧Below w.heap.size w w'
def RBl (N:Nat):Prop:=∀(h:Hd) (k:Fo) (xn xk:Option Addr) (cn ck:Nat) (w:World),k.size < N→FoB k→FRow w (.slice xk k.len ck) k→
 Calls Tryz.prog 74 #[.agg (ndV h (.slice xn h.names.length cn) (.slice xk k.len ck))] w fun e w'=>e=.returned (.bool (blN h k))∧Below w.heap.size w w'
theorem rrights_any {N:Nat} (ih:RSt N) (F:Fo) (v:Value) (w:World) (hN:F.size≤N) (hF:FoB F) (hr:FRow w v F):Calls Tryz.prog 19 #[v] w fun e w'=>e=.returned (.bool (rt .st F))∧Below w.heap.size w w':=by
 have HIH:=zH ih
 have HFB:=zH hF
 have HN:=zH hN
 obtain ⟨x,c,rfl,hl,hc,-⟩:=id hr
 have HR:=zH hr
 have HB0:=zH (Below.refl w.heap.size w)
 unfold maxLen at hc;clear hr hF hN ih;rw [rt_st];obtain ⟨z,hz⟩:∃z,allG stN F=z:=⟨_,rfl⟩;have HZ:=zH hz;rw [hz];obtain ⟨n,hn⟩:∃n,F.len=n:=⟨_,rfl⟩;rw [hn] at HR hl ⊢;have HL:=zH hn;obtain ⟨w0,hw0⟩:∃w0,w0=w:=⟨_,rfl⟩;rw [← hw0] at HB0 HR ⊢;clear hn hw0 hz;go_enter Tryz.func19,Tryz.ntmps19;go_wp2_with fail
 go_loopw [3] (fun vi wr=>∃(i:Nat) (A R:Fo),vi=.int .i64 i∧i≤n∧Hid (F=A.app R∧A.len=i)∧Hid (allG stN A=true)∧Hid (Below w0.heap.size w0 wr)) (fun vi _=>n - (intOf vi).toNat)
 case atStart=>exact ⟨0,.nil,F,rfl,Nat.zero_le _,⟨rfl,rfl⟩,rfl,HB0.out⟩
 case round=>
  obtain ⟨i,A,R,rfl,hi,hA,hG,hbw⟩:=hrel
  by_cases hlt:i < n
  ·have dlt:decide ((i:Int) < (n:Int))=true:=by simp; omega
   have i1:(i:Int) < (n:Int):=by omega
   obtain ⟨h,k,r,rfl⟩:∃h k r,R=.cons h k r:=by
    cases R with
    | nil=>have h1:=hA.out.2; have h2:=HL.out; rw [hA.out.1,Fo.app_nil] at h2; omega
    | cons h k r=>exact ⟨h,k,r,rfl⟩
   have hf1:FRow wr (.slice x n c) (A.app (.cons h k r)):=by rw [← hA.out.1]; exact HR.out.below hbw.out
   obtain ⟨b,off,xn,cn,xk,ck,rfl,⟨k0,k1,k2,k3,k4,k5⟩,hn1,hk1⟩:=hf1.node
   rw [hA.out.2] at k0 k1 k2 k3 k4 k5;have hfb:=HFB.out;rw [hA.out.1,FoB_app] at hfb;have hks:k.size < N:=by
    have h1:=HN.out
    rw [hA.out.1] at h1;have:=Fo.kid_size A h k r;omega
   have HC:=zH (HIH.out h k xn xk cn ck wr hks hfb.2.1 hfb.2.2.1 hfb.2.2.2.1 hn1 hk1)
   have HNX:Hid (F=(A.app (.cons h k .nil)).app r∧(A.app (.cons h k .nil)).len=i+1):=⟨by rw [← Fo.next]; exact hA.out.1,by rw [Fo.app_len,hA.out.2]; rfl⟩
   obtain ⟨q,hq⟩:∃q,stN h k=q:=⟨_,rfl⟩
   have HG1:Hid (allG stN (A.app (.cons h k .nil))=q):=by show _=_; rw [allG_node,hG.out,hq]; simp [allG]
   have HG2:Hid (q=false→z=false):=fun h0=>by rw [← HZ.out,hA.out.1,allG_node,hq,h0]; simp
   rw [hq] at HC;clear hq hf1 hk1 hn1 hfb hks hA hG;obtain ⟨kd,tx,nu,nm,ps⟩:=h;unfold ndV at HC;simp only at k0 k1 k2 k3 k4 k5 HC
   cases q with
   | true=>
    go_wp2_with fail;refine HC.out.mono ?_;rintro e w1 ⟨rfl,hb⟩;have HB1:=zH (hbw.out.trans (hb.mono hbw.out.size));clear hb HC hbw;go_wp2_with fail;go_roundw
    case rel=>exact ⟨i+1,_,r,by go_num,by omega,HNX,HG1,HB1⟩
    case measure=>simp [intOf]; omega
   | false=>
    have HE:=zH (HG2.out rfl)
    go_wp2_with fail;refine HC.out.mono ?_;rintro e w1 ⟨rfl,hb⟩;have HB1:=zH (hbw.out.trans (hb.mono hbw.out.size));clear hb HC hbw;go_wp2_with fail;go_ret;exact ⟨by rw [HE.out]; rfl,HB1.out⟩
  ·have dlt:decide ((i:Int) < (n:Int))=false:=by simp; omega
   have HT:Hid (z=true):=by
    have hR:R=.nil:=by
     cases R with
     | nil=>rfl
     | cons h k r=>have h1:=hA.out.1; have h2:=HL.out; rw [h1,Fo.app_len,hA.out.2] at h2; simp only [Fo.len] at h2; omega
    show z=true
    rw [← HZ.out,hA.out.1,hR,Fo.app_nil,hG.out]
   clear hA hG;go_wp2_with fail;go_ret;exact ⟨by rw [HT.out]; rfl,hbw.out⟩
theorem blN25 {h:Hd} {k:Fo}:blN h k=(decide (h.kind=25)&&(plnP h false false false&&rt .st k)):=by
 unfold blN;by_cases hk:h.kind=25
 ·rw [st25 hk]
 ·simp [hk]
theorem rsix {w:World} {A:Nat} {t:TypeId} {a b c d e f:Value} (h:Hid (Blk w A t #[a,b,c,d,e,f])):
  w.cell? ⟨A,0,none⟩=some a∧w.cell? ⟨A,1,none⟩=some b∧w.cell? ⟨A,2,none⟩=some c∧w.cell? ⟨A,3,none⟩=some d∧w.cell? ⟨A,4,none⟩=some e∧w.cell? ⟨A,5,none⟩=some f:=
 ⟨h.out.cell 0,h.out.cell 1,h.out.cell 2,h.out.cell 3,h.out.cell 4,h.out.cell 5⟩
theorem rstp {w w0 w1:World} {A:Nat} {t:TypeId} {cs:Array Value} (hB:Hid (Below A w w0)) (hK:Hid (Blk w0 A t cs)) (hb:Below w0.heap.size w0 w1):Hid (Below A w w1)∧Hid (Blk w1 A t cs):=
 ⟨hB.out.trans (hb.mono (Nat.le_of_lt hK.out.lt)),(hb.block _ hK.out.lt).trans hK.out⟩
theorem rkf {kd c:Int} (h:kd=c):(kd==25)=(c==25)∧(kd==20)=(c==20)∧(kd==21)=(c==21)∧(kd==24)=(c==24)∧(kd==26)=(c==26)∧(kd==22)=(c==22)∧(kd==23)=(c==23)∧(kd==27)=(c==27)∧(kd==28)=(c==28)∧(kd==29)=(c==29):=by
 subst h;simp
theorem rkfn {kd:Int} (h:¬ (20≤kd∧kd≤29)):(kd==25)=false∧(kd==20)=false∧(kd==21)=false∧(kd==24)=false∧(kd==26)=false∧(kd==22)=false∧(kd==23)=false∧(kd==27)=false∧(kd==28)=false∧(kd==29)=false:=by
 simp
 omega
theorem kid_at {w:World} {x:Option Addr} {n c:Nat} {A:Fo} {h:Hd} {k r:Fo} (hf:FRow w (.slice x n c) (A.app (.cons h k r))):
  ∃b off xn cn xk ck,x=some ⟨b,off,none⟩∧(∀w',Below w.heap.size w w'→w'.cell? ⟨b,off+A.len*6,none⟩=some (.int .i64 h.kind)∧w'.cell? ⟨b,off+A.len*6+1,none⟩=some (.string ⟨h.text.toArray⟩)∧w'.cell? ⟨b,off+A.len*6+2,none⟩=some (.int .i64 h.num)∧
   w'.cell? ⟨b,off+A.len*6+3,none⟩=some (.slice xn h.names.length cn)∧w'.cell? ⟨b,off+A.len*6+4,none⟩=some (.slice xk k.len ck)∧w'.cell? ⟨b,off+A.len*6+5,none⟩=some (.int .i64 h.pos))∧NmRow w (.slice xn h.names.length cn) h.names∧FRow w (.slice xk k.len ck) k:=by
 obtain ⟨b,off,xn,cn,xk,ck,e,⟨d0,d1,d2,d3,d4,d5⟩,hn,hk⟩:=hf.node
 refine ⟨b,off,xn,cn,xk,ck,e,fun w' hb=>?_,hn,hk⟩
 have tr:=fun o v (h:w.cell? ⟨b,o,none⟩=some v)=>(hb.cell (p:=⟨b,o,none⟩) (World.block_lt_of_cell? w _ h)).trans h
 exact ⟨tr _ _ d0,tr _ _ d1,tr _ _ d2,tr _ _ d3,tr _ _ d4,tr _ _ d5⟩
theorem len_is0 {k:Fo} (h:k.len=0):k=.nil:=by cases k with
 | nil=>rfl
 | cons _ _ _=>simp [Fo.len] at h
theorem len_is1 {k:Fo} (h:k.len=1):∃a ka,k=.cons a ka .nil:=by cases k with
 | nil=>simp [Fo.len] at h
 | cons a ka r=>exact ⟨a,ka,by rw [len_is0 (k:=r) (by simpa [Fo.len] using h)]⟩
theorem len_is2 {k:Fo} (h:k.len=2):∃a ka b kb,k=.cons a ka (.cons b kb .nil):=by cases k with
 | nil=>simp [Fo.len] at h
 | cons a ka r=>obtain ⟨b,kb,rfl⟩:=len_is1 (k:=r) (by simpa [Fo.len] using h); exact ⟨a,ka,b,kb,rfl⟩
theorem len_is3 {k:Fo} (h:k.len=3):∃a ka b kb c kc,k=.cons a ka (.cons b kb (.cons c kc .nil)):=by cases k with
 | nil=>simp [Fo.len] at h
 | cons a ka r=>obtain ⟨b,kb,c,kc,rfl⟩:=len_is2 (k:=r) (by simpa [Fo.len] using h); exact ⟨a,ka,b,kb,c,kc,rfl⟩
theorem rbl_any {N:Nat} (ih:RSt N):RBl (N+1):=by
 intro h k xn xk cn ck w hN hF hkr;have HKB:=zH (Blk.new w 31 (ndV h (.slice xn h.names.length cn) (.slice xk k.len ck)));have HBA:=zH ((Below.refl w.heap.size w).alloc (Nat.le_refl _) (.cells (ndV h (.slice xn h.names.length cn) (.slice xk k.len ck)) 31));have HK:=zH (fun w' (hb:Below w.heap.size w w')=>rrights_any ih k _ w' (by omega) hF (hkr.below hb))
 have HP:=zH (fun w'=>rplain_any h false false false xn xk cn ck k.len w')
 have HZ:=zH (blN25 (h:=h) (k:=k))
 obtain ⟨z,hz⟩:∃z,blN h k=z:=⟨_,rfl⟩
 rw [hz] at HZ ⊢;obtain ⟨rk,hrk⟩:∃q,rt .st k=q:=⟨_,rfl⟩;rw [hrk] at HK HZ;obtain ⟨kl,hkl⟩:∃q,k.len=q:=⟨_,rfl⟩;rw [hkl] at HKB HBA HK HP ⊢;obtain ⟨p,hp⟩:∃q,plnP h false false false=q:=⟨_,rfl⟩;rw [hp] at HP HZ;obtain ⟨q0,hq0⟩:∃q,decide (h.kind=25)=q:=⟨_,rfl⟩;have n25:(h.kind==25)=q0:=by rw [← hq0]; rfl
 rw [hq0] at HZ;clear hN hF hkr hz hrk hkl hp hq0 ih;obtain ⟨kd,tx,nu,nm,ps⟩:=h;obtain ⟨nl,hnl⟩:∃l,nm.length=l:=⟨_,rfl⟩;unfold ndV at HKB HBA HP ⊢;simp only [hnl] at HKB HBA HP HZ n25 ⊢;clear hnl;go_enter Tryz.func74,Tryz.ntmps74;go_upto_region 1 with fail
 generalize w.alloc (.cells #[.int .i64 kd,.string ⟨tx.toArray⟩,.int .i64 nu,.slice xn nl cn,.slice xk kl ck,.int .i64 ps] 31)=wz at*;generalize hA:w.heap.size=A at*;have HA:=zH hA;clear hA;obtain ⟨y0,y1,y2,y3,y4,y5⟩:=rsix HKB
 cases q0 with
 | false=>
  go_wp2_with fail;go_ret;exact ⟨ret_bool (by rw [HZ.out] <;> rfl),by rw [HA.out]; exact HBA.out⟩
 | true=>
  go_wp2_with fail;refine (HP.out wz).mono ?_;rintro e w1 ⟨rfl,hb⟩;obtain ⟨HB1,HK1⟩:=rstp HBA HKB hb;clear hb y0 y1 y2 y3 y4 y5;obtain ⟨y0,y1,y2,y3,y4,y5⟩:=rsix HK1
  cases p with
  | false=>
   go_wp2_with fail;go_ret;exact ⟨ret_bool (by rw [HZ.out] <;> rfl),by rw [HA.out]; exact HB1.out⟩
  | true=>
   have HKK:=zH (HK.out w1 HB1.out)
   go_wp2_with fail;refine HKK.out.mono ?_;rintro e w2 ⟨rfl,hb⟩;have HB2:=zH (HB1.out.trans (hb.mono (Nat.le_of_lt HK1.out.lt)));clear hb;go_wp2_with fail;go_ret;exact ⟨ret_bool (by rw [HZ.out] <;> rfl),by rw [HA.out]; exact HB2.out⟩
theorem rst_step {N:Nat} (ih:RSt N):RSt (N+1):=by
 intro h k xn xk cn ck w hN htx hns hF hnr hkr;have hbl:RBl (N+1):=rbl_any ih;have HKB:=zH (Blk.new w 31 (ndV h (.slice xn h.names.length cn) (.slice xk k.len ck)));have HBA:=zH ((Below.refl w.heap.size w).alloc (Nat.le_refl _) (.cells (ndV h (.slice xn h.names.length cn) (.slice xk k.len ck)) 31));have HBL:=zH (fun w' (hb:Below w.heap.size w w')=>hbl h k xn xk cn ck w' hN hF (hkr.below hb))
 have HPL:=zH (fun t u m w'=>rplain_any h t u m xn xk cn ck k.len w')
 have htb:(⟨h.text.toArray⟩:ByteArray).size≤1048576:=by show h.text.toArray.size≤_; rw [List.size_toArray]; exact htx
 have HNM:=zH (fun w'=>rnamed_any ⟨h.text.toArray⟩ w' htb)
 have HP1:=zH (fun w'=>HPL.out true false false w')
 have HP2:=zH (fun w'=>HPL.out true false true w')
 have HP3:=zH (fun w'=>HPL.out false false false w')
 have HKR:=zH hkr
 have HFK:=zH hF
 have HSZ:=zH hN
 have HNR:=zH hnr
 have HNS:=zH hns
 have HIH:=zH ih
 have HIB:=zH hbl
 obtain ⟨z,hz⟩:∃z,stN h k=z:=⟨_,rfl⟩
 have HZZ:=zH hz
 rw [hz];rw [show (⟨h.text.toArray⟩:ByteArray).data.toList=h.text from rfl] at HNM
 obtain ⟨nq,hnq⟩:∃q,isNameP h.text=q:=⟨_,rfl⟩
 have HNQ:=zH hnq
 rw [hnq] at HNM;obtain ⟨p1,hp1⟩:∃q,plnP h true false false=q:=⟨_,rfl⟩;obtain ⟨p2,hp2⟩:∃q,plnP h true false true=q:=⟨_,rfl⟩;obtain ⟨p3,hp3⟩:∃q,plnP h false false false=q:=⟨_,rfl⟩;have HQ1:=zH hp1;have HQ2:=zH hp2;have HQ3:=zH hp3;rw [hp1] at HP1;rw [hp2] at HP2;rw [hp3] at HP3;clear hN htx hns hF hnr hkr htb hz hnq hp1 hp2 hp3 HPL ih hbl
 have hcases:h.kind=25∨(h.kind=20∨h.kind=21)∨h.kind=24∨h.kind=26∨h.kind=22∨h.kind=23∨h.kind=27∨h.kind=28∨h.kind=29∨¬ (20≤h.kind∧h.kind≤29):=by omega
 rcases hcases with hc | hc | hc | hc | hc | hc | hc | hc | hc | hc
 ·have HZ:Hid (z=blN h k):=by show _=_; rw [← HZZ.out]; unfold blN; simp [hc]
  obtain ⟨bq,hbq⟩:∃q,blN h k=q:=⟨_,rfl⟩
  rw [hbq] at HZ HBL;clear HKR HFK HSZ HNR HNS HIH HIB HZZ HNQ HQ1 HQ2 HQ3 hbq;generalize k.len=kl at*;obtain ⟨kd,tx,nu,nm,ps⟩:=h;obtain ⟨nl,hnl⟩:∃l,nm.length=l:=⟨_,rfl⟩;clear HP1 HP2 HP3 HNM;unfold ndV at HKB HBA HBL ⊢;simp only [hnl] at HKB HBA HBL hc ⊢;obtain ⟨n25,n20,n21,n24,n26,n22,n23,n27,n28,n29⟩:=rkf hc;clear hc;go_enter Tryz.func38,Tryz.ntmps38;go_upto_region 1 with fail
  generalize w.alloc (.cells #[.int .i64 kd,.string ⟨tx.toArray⟩,.int .i64 nu,.slice xn nl cn,.slice xk kl ck,.int .i64 ps] 31)=wz at*;generalize hA:w.heap.size=A at*;have HA:=zH hA;clear hA hnl;obtain ⟨y0,y1,y2,y3,y4,y5⟩:=rsix HKB;have HQ:=zH (HBL.out wz HBA.out);go_wp2_with fail;refine HQ.out.mono ?_;rintro e w1 ⟨rfl,hb⟩;have HB1:=zH (HBA.out.trans (hb.mono (Nat.le_of_lt HKB.out.lt)));clear hb
  go_wp2_with fail;go_ret;exact ⟨ret_bool (by rw [HZ.out]),by rw [HA.out]; exact HB1.out⟩
 ·have hcc:=hc
  rcases hc with hc | hc
  all_goals
   by_cases hl1:k.len=1
   ·have ht:=hl1
    obtain ⟨a,ka,rfl⟩:∃a ka,k=(.cons a ka .nil):=len_is1 (k:=k) (by assumption)
    obtain ⟨b0,off0,xn0,cn0,xk0,ck0,e0,hd0,m0,r0⟩:=kid_at (A:=.nil) (h:=a) (k:=ka) (r:=.nil) HKR.out
    subst e0;simp [Fo.len] at hd0;have hfk:=HFK.out;simp only [FoB] at hfk;have hsz:=HSZ.out;simp only [Fo.size] at hsz;have HC0:=zH hd0;have HE0:=zH (fun w' (hb:Below w.heap.size w w')=>rex_all _ a ka xn0 xk0 cn0 ck0 w' (Nat.lt_succ_self _) hfk.1 hfk.2.2.1 (r0.below hb))
    have HZ:Hid (z=_):=HZZ.out.symm.trans (st1 hcc)
    rw [HQ1.out,HNQ.out] at HZ;obtain ⟨q0,hq0⟩:∃q,exN a ka=q:=⟨_,rfl⟩;rw [hq0] at HZ HE0;clear hq0;clear HKR HFK HSZ HNR HNS HIH HIB HZZ HNQ HQ1 HQ2 HQ3 HBL hfk hsz r0 m0 hd0;unfold ndV at HE0;simp only [Fo.len,Nat.zero_add] at HKB HBA HP1 HP2 HP3 HE0 ⊢;obtain ⟨kd0,tx0,nu0,nm0,ps0⟩:=a;generalize hn0:nm0.length=nl0 at*;generalize hq0:ka.len=kl0 at*;clear hn0 hq0;simp only at HC0 HE0
    obtain ⟨kd,tx,nu,nm,ps⟩:=h
    obtain ⟨nl,hnl⟩:∃l,nm.length=l:=⟨_,rfl⟩
    clear HP2 HP3 hcc;unfold ndV at HKB HBA HP1 ⊢;simp only [hnl] at HKB HBA HP1 HNM hc ⊢;obtain ⟨n25,n20,n21,n24,n26,n22,n23,n27,n28,n29⟩:=rkf hc;clear hc;go_enter Tryz.func38,Tryz.ntmps38;go_upto_region 1 with fail
    generalize w.alloc (.cells #[.int .i64 kd,.string ⟨tx.toArray⟩,.int .i64 nu,.slice xn nl cn,.slice (some ⟨b0,off0,none⟩) 1 ck,.int .i64 ps] 31)=wz at*;generalize hA:w.heap.size=A at*;have HA:=zH hA;clear hA hnl;obtain ⟨y0,y1,y2,y3,y4,y5⟩:=rsix HKB;go_wp2_with fail;refine (HP1.out wz).mono ?_;rintro e w1 ⟨rfl,hb⟩;obtain ⟨HB1,HK1⟩:=rstp HBA HKB hb;clear hb y0 y1 y2 y3 y4 y5
    obtain ⟨y0,y1,y2,y3,y4,y5⟩:=rsix HK1
    cases p1 with
    | false=>
     go_wp2_with fail;go_ret;exact ⟨ret_bool (by rw [HZ.out] <;> rfl),by rw [HA.out]; exact HB1.out⟩
    | true=>
     go_wp2_with fail;refine (HNM.out w1).mono ?_;rintro e w2 ⟨rfl,rfl⟩
     cases nq with
     | false=>
      go_wp2_with fail;go_ret;exact ⟨ret_bool (by rw [HZ.out] <;> rfl),by rw [HA.out]; exact HB1.out⟩
     | true=>
      obtain ⟨z0,z1,z2,z3,z4,z5⟩:=HC0.out w1 HB1.out
      have HQ:=zH (HE0.out w1 HB1.out)
      go_wp2_with fail;refine HQ.out.mono ?_;rintro e w3 ⟨rfl,hb⟩;obtain ⟨HB3,HK3⟩:=rstp HB1 HK1 hb;clear hb y0 y1 y2 y3 y4 y5 z0 z1 z2 z3 z4 z5 HQ;obtain ⟨y0,y1,y2,y3,y4,y5⟩:=rsix HK3
      cases q0 with
      | false=>
       go_wp2_with fail;go_ret;exact ⟨ret_bool (by rw [HZ.out] <;> rfl),by rw [HA.out]; exact HB3.out⟩
      | true=>
       go_wp2_with fail;go_ret;exact ⟨ret_bool (by rw [HZ.out] <;> rfl),by rw [HA.out]; exact HB3.out⟩
   ·have ht:=hl1
    have HZ:Hid (z=false):=by show _=_; rw [← HZZ.out]; exact st1n hcc hl1
    obtain ⟨kl,hkl⟩:∃q,k.len=q:=⟨_,rfl⟩
    rw [hkl] at HKB HBA HP1 HP2 HP3 hl1 ⊢;clear HKR HFK HSZ HNR HNS HIH HIB HZZ HNQ HQ1 HQ2 HQ3 HBL hkl;obtain ⟨kd,tx,nu,nm,ps⟩:=h;obtain ⟨nl,hnl⟩:∃l,nm.length=l:=⟨_,rfl⟩;clear HP2 HP3 hcc;unfold ndV at HKB HBA HP1 ⊢;simp only [hnl] at HKB HBA HP1 HNM hc ⊢;obtain ⟨n25,n20,n21,n24,n26,n22,n23,n27,n28,n29⟩:=rkf hc;clear hc;have g1:((kl:Int)==1)=false:=by simp; omega
    clear hl1;go_enter Tryz.func38,Tryz.ntmps38;go_upto_region 1 with fail
    generalize w.alloc (.cells #[.int .i64 kd,.string ⟨tx.toArray⟩,.int .i64 nu,.slice xn nl cn,.slice xk kl ck,.int .i64 ps] 31)=wz at*;generalize hA:w.heap.size=A at*;have HA:=zH hA;clear hA hnl;obtain ⟨y0,y1,y2,y3,y4,y5⟩:=rsix HKB;go_wp2_with fail;refine (HP1.out wz).mono ?_;rintro e w4 ⟨rfl,hb⟩;obtain ⟨HB4,HK4⟩:=rstp HBA HKB hb;clear hb y0 y1 y2 y3 y4 y5;obtain ⟨y0,y1,y2,y3,y4,y5⟩:=rsix HK4
    cases p1 with
    | false=>
     go_wp2_with fail;go_ret;exact ⟨ret_bool (by rw [HZ.out] <;> rfl),by rw [HA.out]; exact HB4.out⟩
    | true=>
     go_wp2_with fail;refine (HNM.out w4).mono ?_;rintro e w5 ⟨rfl,rfl⟩
     cases nq with
     | false=>
      go_wp2_with fail;go_ret;exact ⟨ret_bool (by rw [HZ.out] <;> rfl),by rw [HA.out]; exact HB4.out⟩
     | true=>
      go_wp2_with fail;go_ret;exact ⟨ret_bool (by rw [HZ.out] <;> rfl),by rw [HA.out]; exact HB4.out⟩
 ·by_cases hl3:k.len=3
  ·have ht:=hl3
   obtain ⟨a,ka,b,kb,c,kc,rfl⟩:∃a ka b kb c kc,k=(.cons a ka (.cons b kb (.cons c kc .nil))):=len_is3 (k:=k) (by assumption)
   obtain ⟨b0,off0,xn0,cn0,xk0,ck0,e0,hd0,m0,r0⟩:=kid_at (A:=.nil) (h:=a) (k:=ka) (r:=(.cons b kb (.cons c kc .nil))) HKR.out
   subst e0;obtain ⟨b1,off1,xn1,cn1,xk1,ck1,e1,hd1,m1,r1⟩:=kid_at (A:=(.cons a ka .nil)) (h:=b) (k:=kb) (r:=(.cons c kc .nil)) HKR.out;injection e1 with e1
   injection e1 with e1 e1'
   subst e1 e1';obtain ⟨b2,off2,xn2,cn2,xk2,ck2,e2,hd2,m2,r2⟩:=kid_at (A:=(.cons a ka (.cons b kb .nil))) (h:=c) (k:=kc) (r:=.nil) HKR.out;injection e2 with e2
   injection e2 with e2 e2'
   subst e2 e2';simp [Fo.len] at hd0 hd1 hd2;have hfk:=HFK.out;simp only [FoB] at hfk;have hsz:=HSZ.out;simp only [Fo.size] at hsz;have HC0:=zH hd0;have HE0:=zH (fun w' (hb:Below w.heap.size w w')=>rex_all _ a ka xn0 xk0 cn0 ck0 w' (Nat.lt_succ_self _) hfk.1 hfk.2.2.1 (r0.below hb))
   have HC1:=zH hd1
   have HE1:=zH (fun w' (hb:Below w.heap.size w w')=>rex_all _ b kb xn1 xk1 cn1 ck1 w' (Nat.lt_succ_self _) hfk.2.2.2.1 hfk.2.2.2.2.2.1 (r1.below hb))
   have HC2:=zH hd2
   have HL2:=zH (fun w' (hb:Below w.heap.size w w')=>HIB.out c kc xn2 xk2 cn2 ck2 w' (by omega) hfk.2.2.2.2.2.2.2.2.1 (r2.below hb))
   have HZ:Hid (z=_):=HZZ.out.symm.trans (st24 hc)
   rw [HQ1.out,HNQ.out] at HZ;obtain ⟨q0,hq0⟩:∃q,exN a ka=q:=⟨_,rfl⟩;rw [hq0] at HZ HE0;clear hq0;obtain ⟨q1,hq1⟩:∃q,exN b kb=q:=⟨_,rfl⟩;rw [hq1] at HZ HE1;clear hq1;obtain ⟨q2,hq2⟩:∃q,blN c kc=q:=⟨_,rfl⟩;rw [hq2] at HZ HL2;clear hq2;clear HKR HFK HSZ HNR HNS HIH HIB HZZ HNQ HQ1 HQ2 HQ3 HBL hfk hsz r0 m0 hd0 r1 m1 hd1 r2 m2 hd2;unfold ndV at HE0 HE1 HL2
   simp only [Fo.len,Nat.zero_add,Nat.reduceAdd] at HKB HBA HP1 HP2 HP3 HE0 HE1 HL2 ⊢;obtain ⟨kd0,tx0,nu0,nm0,ps0⟩:=a;generalize hn0:nm0.length=nl0 at*;generalize hq0:ka.len=kl0 at*;clear hn0 hq0;obtain ⟨kd1,tx1,nu1,nm1,ps1⟩:=b;generalize hn1:nm1.length=nl1 at*;generalize hq1:kb.len=kl1 at*;clear hn1 hq1;obtain ⟨kd2,tx2,nu2,nm2,ps2⟩:=c;generalize hn2:nm2.length=nl2 at*
   generalize hq2:kc.len=kl2 at*;clear hn2 hq2;simp only at HC0 HE0 HC1 HE1 HC2 HL2;obtain ⟨kd,tx,nu,nm,ps⟩:=h;obtain ⟨nl,hnl⟩:∃l,nm.length=l:=⟨_,rfl⟩;clear HP2 HP3;unfold ndV at HKB HBA HP1 ⊢;simp only [hnl] at HKB HBA HP1 HNM hc ⊢;obtain ⟨n25,n20,n21,n24,n26,n22,n23,n27,n28,n29⟩:=rkf hc;clear hc;go_enter Tryz.func38,Tryz.ntmps38;go_upto_region 1 with fail
   generalize w.alloc (.cells #[.int .i64 kd,.string ⟨tx.toArray⟩,.int .i64 nu,.slice xn nl cn,.slice (some ⟨b0,off0,none⟩) 3 ck,.int .i64 ps] 31)=wz at*;generalize hA:w.heap.size=A at*;have HA:=zH hA;clear hA hnl;obtain ⟨y0,y1,y2,y3,y4,y5⟩:=rsix HKB;go_wp2_with fail;refine (HP1.out wz).mono ?_;rintro e w6 ⟨rfl,hb⟩;obtain ⟨HB6,HK6⟩:=rstp HBA HKB hb;clear hb y0 y1 y2 y3 y4 y5
   obtain ⟨y0,y1,y2,y3,y4,y5⟩:=rsix HK6
   cases p1 with
   | false=>
    go_wp2_with fail;go_ret;exact ⟨ret_bool (by rw [HZ.out] <;> rfl),by rw [HA.out]; exact HB6.out⟩
   | true=>
    go_wp2_with fail;refine (HNM.out w6).mono ?_;rintro e w7 ⟨rfl,rfl⟩
    cases nq with
    | false=>
     go_wp2_with fail;go_ret;exact ⟨ret_bool (by rw [HZ.out] <;> rfl),by rw [HA.out]; exact HB6.out⟩
    | true=>
     obtain ⟨z0,z1,z2,z3,z4,z5⟩:=HC0.out w6 HB6.out
     have HQ:=zH (HE0.out w6 HB6.out)
     go_wp2_with fail;refine HQ.out.mono ?_;rintro e w8 ⟨rfl,hb⟩;obtain ⟨HB8,HK8⟩:=rstp HB6 HK6 hb;clear hb y0 y1 y2 y3 y4 y5 z0 z1 z2 z3 z4 z5 HQ;obtain ⟨y0,y1,y2,y3,y4,y5⟩:=rsix HK8
     cases q0 with
     | false=>
      go_wp2_with fail;go_ret;exact ⟨ret_bool (by rw [HZ.out] <;> rfl),by rw [HA.out]; exact HB8.out⟩
     | true=>
      obtain ⟨z0,z1,z2,z3,z4,z5⟩:=HC1.out w8 HB8.out
      have HQ:=zH (HE1.out w8 HB8.out)
      go_wp2_with fail;refine HQ.out.mono ?_;rintro e w9 ⟨rfl,hb⟩;obtain ⟨HB9,HK9⟩:=rstp HB8 HK8 hb;clear hb y0 y1 y2 y3 y4 y5 z0 z1 z2 z3 z4 z5 HQ;obtain ⟨y0,y1,y2,y3,y4,y5⟩:=rsix HK9
      cases q1 with
      | false=>
       go_wp2_with fail;go_ret;exact ⟨ret_bool (by rw [HZ.out] <;> rfl),by rw [HA.out]; exact HB9.out⟩
      | true=>
       obtain ⟨z0,z1,z2,z3,z4,z5⟩:=HC2.out w9 HB9.out
       have HQ:=zH (HL2.out w9 HB9.out)
       go_wp2_with fail;refine HQ.out.mono ?_;rintro e w10 ⟨rfl,hb⟩;obtain ⟨HB10,HK10⟩:=rstp HB9 HK9 hb;clear hb y0 y1 y2 y3 y4 y5 z0 z1 z2 z3 z4 z5 HQ;obtain ⟨y0,y1,y2,y3,y4,y5⟩:=rsix HK10
       cases q2 with
       | false=>
        go_wp2_with fail;go_ret;exact ⟨ret_bool (by rw [HZ.out] <;> rfl),by rw [HA.out]; exact HB10.out⟩
       | true=>
        go_wp2_with fail;go_ret;exact ⟨ret_bool (by rw [HZ.out] <;> rfl),by rw [HA.out]; exact HB10.out⟩
  ·have ht:=hl3
   have HZ:Hid (z=false):=by show _=_; rw [← HZZ.out]; exact st24n hc hl3
   obtain ⟨kl,hkl⟩:∃q,k.len=q:=⟨_,rfl⟩
   rw [hkl] at HKB HBA HP1 HP2 HP3 hl3 ⊢;clear HKR HFK HSZ HNR HNS HIH HIB HZZ HNQ HQ1 HQ2 HQ3 HBL hkl;obtain ⟨kd,tx,nu,nm,ps⟩:=h;obtain ⟨nl,hnl⟩:∃l,nm.length=l:=⟨_,rfl⟩;clear HP2 HP3;unfold ndV at HKB HBA HP1 ⊢;simp only [hnl] at HKB HBA HP1 HNM hc ⊢;obtain ⟨n25,n20,n21,n24,n26,n22,n23,n27,n28,n29⟩:=rkf hc;clear hc;have g3:((kl:Int)==3)=false:=by simp; omega
   clear hl3;go_enter Tryz.func38,Tryz.ntmps38;go_upto_region 1 with fail
   generalize w.alloc (.cells #[.int .i64 kd,.string ⟨tx.toArray⟩,.int .i64 nu,.slice xn nl cn,.slice xk kl ck,.int .i64 ps] 31)=wz at*;generalize hA:w.heap.size=A at*;have HA:=zH hA;clear hA hnl;obtain ⟨y0,y1,y2,y3,y4,y5⟩:=rsix HKB;go_wp2_with fail;refine (HP1.out wz).mono ?_;rintro e w11 ⟨rfl,hb⟩;obtain ⟨HB11,HK11⟩:=rstp HBA HKB hb;clear hb y0 y1 y2 y3 y4 y5;obtain ⟨y0,y1,y2,y3,y4,y5⟩:=rsix HK11
   cases p1 with
   | false=>
    go_wp2_with fail;go_ret;exact ⟨ret_bool (by rw [HZ.out] <;> rfl),by rw [HA.out]; exact HB11.out⟩
   | true=>
    go_wp2_with fail;refine (HNM.out w11).mono ?_;rintro e w12 ⟨rfl,rfl⟩
    cases nq with
    | false=>
     go_wp2_with fail;go_ret;exact ⟨ret_bool (by rw [HZ.out] <;> rfl),by rw [HA.out]; exact HB11.out⟩
    | true=>
     go_wp2_with fail;go_ret;exact ⟨ret_bool (by rw [HZ.out] <;> rfl),by rw [HA.out]; exact HB11.out⟩
 ·obtain ⟨na,hna⟩:∃q,h.names.all isNameP=q:=⟨_,rfl⟩
  have HNA:=zH hna
  by_cases hl1:k.len=1
  ·have ht:=hl1
   obtain ⟨c,kc,rfl⟩:∃c kc,k=(.cons c kc .nil):=len_is1 (k:=k) (by assumption)
   obtain ⟨b0,off0,xn0,cn0,xk0,ck0,e0,hd0,m0,r0⟩:=kid_at (A:=.nil) (h:=c) (k:=kc) (r:=.nil) HKR.out
   subst e0;simp [Fo.len] at hd0;have hfk:=HFK.out;simp only [FoB] at hfk;have hsz:=HSZ.out;simp only [Fo.size] at hsz;have HC0:=zH hd0;have HL0:=zH (fun w' (hb:Below w.heap.size w w')=>HIB.out c kc xn0 xk0 cn0 ck0 w' (by omega) hfk.2.2.1 (r0.below hb))
   have HZ:Hid (z=_):=HZZ.out.symm.trans (st26 hc)
   rw [hna,HQ2.out,HNQ.out] at HZ;obtain ⟨q0,hq0⟩:∃q,blN c kc=q:=⟨_,rfl⟩;rw [hq0] at HZ HL0;clear hq0;clear HKR HFK HSZ HIH HIB HZZ HNQ HQ1 HQ2 HQ3 HBL hfk hsz r0 m0 hd0;unfold ndV at HL0;simp only [Fo.len,Nat.zero_add] at HKB HBA HP1 HP2 HP3 HL0 ⊢;obtain ⟨kd0,tx0,nu0,nm0,ps0⟩:=c;generalize hn0:nm0.length=nl0 at*;generalize hq0:kc.len=kl0 at*;clear hn0 hq0;simp only at HC0 HL0
   obtain ⟨kd,tx,nu,nm,ps⟩:=h
   obtain ⟨nl,hnl⟩:∃l,nm.length=l:=⟨_,rfl⟩
   clear HP1 HP3 hna;unfold ndV at HKB HBA HP2 ⊢;simp only [hnl] at HKB HBA HP2 HNM hc ⊢;simp only at HNR HNS HNA;obtain ⟨n25,n20,n21,n24,n26,n22,n23,n27,n28,n29⟩:=rkf hc;clear hc;go_enter Tryz.func38,Tryz.ntmps38;go_upto_region 1 with fail
   generalize w.alloc (.cells #[.int .i64 kd,.string ⟨tx.toArray⟩,.int .i64 nu,.slice xn nl cn,.slice (some ⟨b0,off0,none⟩) 1 ck,.int .i64 ps] 31)=wz at*;generalize hA:w.heap.size=A at*;have HA:=zH hA;have HNL:=zH hnl;clear hA hnl;obtain ⟨y0,y1,y2,y3,y4,y5⟩:=rsix HKB;have HNW:=zH (HNR.out.below (by rw [HA.out]; exact HBA.out))
   have HNLE:Hid (∀s∈nm,s.length≤1048576):=HNS.out
   clear HNR HNS;obtain ⟨_,_,hvn,hnle,hnc,-⟩:=id HNW.out;injection hvn with e1 e2 e3
   subst e1 e3;rw [HNL.out] at hnle;unfold maxLen at hnc;clear e2;go_wp2_with fail;go_loopw [4] (fun vi wr=>∃i:Nat,vi=.int .i64 i∧i≤nl∧Hid ((nm.take i).all isNameP=true)∧wr=wz) (fun vi _=>nl - (intOf vi).toNat)
   case atStart=>exact ⟨0,rfl,Nat.zero_le _,rfl,rfl⟩
   case round=>
    obtain ⟨i,rfl,hi,hta,rfl⟩:=hrel
    by_cases hlt:i < nl
    ·have dlt:decide ((i:Int) < (nl:Int))=true:=by simp; omega
     have i1:(i:Int) < (nl:Int):=by omega
     have hjl:i < nm.length:=by rw [HNL.out]; exact hlt
     obtain ⟨nb,no,rfl,-,c1⟩:=nm_cell HNW.out i hjl
     obtain ⟨y,hy⟩:∃y,nm[i]=y:=⟨_,rfl⟩
     have hysz:(⟨y.toArray⟩:ByteArray).size≤1048576:=by show y.toArray.size≤_; rw [List.size_toArray,← hy]; exact HNLE.out _ (List.getElem_mem hjl)
     have HNY:=zH (rnamed_any ⟨y.toArray⟩ wr hysz)
     rw [show (⟨y.toArray⟩:ByteArray).data.toList=y from rfl] at HNY
     obtain ⟨q,hq⟩:∃q,isNameP y=q:=⟨_,rfl⟩
     rw [hq] at HNY;have HT1:Hid ((nm.take (i+1)).all isNameP=q):=by show _=_; rw [List.take_succ_eq_append_getElem hjl,List.all_append,hta.out,hy]; simp [hq]
     have HT2:Hid (q=false→na=false):=fun h0=>by
      rw [← HNA.out]
      cases hall:nm.all isNameP with
      | false=>rfl
      | true=>have:=List.all_eq_true.1 hall _ (List.getElem_mem hjl); rw [hy,hq,h0] at this; cases this
     rw [hy] at c1;clear hy hjl hysz hq hta
     cases q with
     | true=>
      go_wp2_with fail;refine HNY.out.mono ?_;rintro e w1 ⟨rfl,rfl⟩;go_wp2_with fail;go_roundw
      case rel=>exact ⟨i+1,by go_num,by omega,HT1,by trivial⟩
      case measure=>simp [intOf]; omega
     | false=>
      have HNF:=zH (HT2.out rfl)
      go_wp2_with fail;refine HNY.out.mono ?_;rintro e w1 ⟨rfl,rfl⟩;go_wp2_with fail;go_ret;exact ⟨ret_bool (by rw [HZ.out,HNF.out] <;> rfl),by rw [HA.out]; exact HBA.out⟩
    ·have dlt:decide ((i:Int) < (nl:Int))=false:=by simp; omega
     have HNT:Hid (na=true):=by
      show _=_
      have h1:=hta.out
      rw [List.take_of_length_le (by rw [HNL.out]; omega)] at h1
      rw [← HNA.out,h1]
     clear hta;rw [HNT.out,Bool.true_and] at HZ;go_wp2_with fail;refine (HP2.out wr).mono ?_;rintro e w13 ⟨rfl,hb⟩;obtain ⟨HB13,HK13⟩:=rstp HBA HKB hb;clear hb y0 y1 y2 y3 y4 y5;obtain ⟨y0,y1,y2,y3,y4,y5⟩:=rsix HK13
     cases p2 with
     | false=>
      go_wp2_with fail;go_ret;exact ⟨ret_bool (by rw [HZ.out] <;> rfl),by rw [HA.out]; exact HB13.out⟩
     | true=>
      go_wp2_with fail;refine (HNM.out w13).mono ?_;rintro e w14 ⟨rfl,rfl⟩
      cases nq with
      | false=>
       go_wp2_with fail;go_ret;exact ⟨ret_bool (by rw [HZ.out] <;> rfl),by rw [HA.out]; exact HB13.out⟩
      | true=>
       obtain ⟨z0,z1,z2,z3,z4,z5⟩:=HC0.out w13 HB13.out
       have HQ:=zH (HL0.out w13 HB13.out)
       go_wp2_with fail;refine HQ.out.mono ?_;rintro e w15 ⟨rfl,hb⟩;obtain ⟨HB15,HK15⟩:=rstp HB13 HK13 hb;clear hb y0 y1 y2 y3 y4 y5 z0 z1 z2 z3 z4 z5 HQ;obtain ⟨y0,y1,y2,y3,y4,y5⟩:=rsix HK15
       cases q0 with
       | false=>
        go_wp2_with fail;go_ret;exact ⟨ret_bool (by rw [HZ.out] <;> rfl),by rw [HA.out]; exact HB15.out⟩
       | true=>
        go_wp2_with fail;go_ret;exact ⟨ret_bool (by rw [HZ.out] <;> rfl),by rw [HA.out]; exact HB15.out⟩
  ·have ht:=hl1
   have HZ:Hid (z=false):=by show _=_; rw [← HZZ.out]; exact st26n hc hl1
   obtain ⟨kl,hkl⟩:∃q,k.len=q:=⟨_,rfl⟩
   rw [hkl] at HKB HBA HP1 HP2 HP3 hl1 ⊢;clear HKR HFK HSZ HIH HIB HZZ HNQ HQ1 HQ2 HQ3 HBL hkl;obtain ⟨kd,tx,nu,nm,ps⟩:=h;obtain ⟨nl,hnl⟩:∃l,nm.length=l:=⟨_,rfl⟩;clear HP1 HP3 hna;unfold ndV at HKB HBA HP2 ⊢;simp only [hnl] at HKB HBA HP2 HNM hc ⊢;simp only at HNR HNS HNA;obtain ⟨n25,n20,n21,n24,n26,n22,n23,n27,n28,n29⟩:=rkf hc;clear hc;have g1:((kl:Int)==1)=false:=by simp; omega
   clear hl1;go_enter Tryz.func38,Tryz.ntmps38;go_upto_region 1 with fail
   generalize w.alloc (.cells #[.int .i64 kd,.string ⟨tx.toArray⟩,.int .i64 nu,.slice xn nl cn,.slice xk kl ck,.int .i64 ps] 31)=wz at*;generalize hA:w.heap.size=A at*;have HA:=zH hA;have HNL:=zH hnl;clear hA hnl;obtain ⟨y0,y1,y2,y3,y4,y5⟩:=rsix HKB;have HNW:=zH (HNR.out.below (by rw [HA.out]; exact HBA.out))
   have HNLE:Hid (∀s∈nm,s.length≤1048576):=HNS.out
   clear HNR HNS;obtain ⟨_,_,hvn,hnle,hnc,-⟩:=id HNW.out;injection hvn with e1 e2 e3
   subst e1 e3;rw [HNL.out] at hnle;unfold maxLen at hnc;clear e2;go_wp2_with fail;go_loopw [4] (fun vi wr=>∃i:Nat,vi=.int .i64 i∧i≤nl∧Hid ((nm.take i).all isNameP=true)∧wr=wz) (fun vi _=>nl - (intOf vi).toNat)
   case atStart=>exact ⟨0,rfl,Nat.zero_le _,rfl,rfl⟩
   case round=>
    obtain ⟨i,rfl,hi,hta,rfl⟩:=hrel
    by_cases hlt:i < nl
    ·have dlt:decide ((i:Int) < (nl:Int))=true:=by simp; omega
     have i1:(i:Int) < (nl:Int):=by omega
     have hjl:i < nm.length:=by rw [HNL.out]; exact hlt
     obtain ⟨nb,no,rfl,-,c1⟩:=nm_cell HNW.out i hjl
     obtain ⟨y,hy⟩:∃y,nm[i]=y:=⟨_,rfl⟩
     have hysz:(⟨y.toArray⟩:ByteArray).size≤1048576:=by show y.toArray.size≤_; rw [List.size_toArray,← hy]; exact HNLE.out _ (List.getElem_mem hjl)
     have HNY:=zH (rnamed_any ⟨y.toArray⟩ wr hysz)
     rw [show (⟨y.toArray⟩:ByteArray).data.toList=y from rfl] at HNY
     obtain ⟨q,hq⟩:∃q,isNameP y=q:=⟨_,rfl⟩
     rw [hq] at HNY;have HT1:Hid ((nm.take (i+1)).all isNameP=q):=by show _=_; rw [List.take_succ_eq_append_getElem hjl,List.all_append,hta.out,hy]; simp [hq]
     have HT2:Hid (q=false→na=false):=fun h0=>by
      rw [← HNA.out]
      cases hall:nm.all isNameP with
      | false=>rfl
      | true=>have:=List.all_eq_true.1 hall _ (List.getElem_mem hjl); rw [hy,hq,h0] at this; cases this
     rw [hy] at c1;clear hy hjl hysz hq hta
     cases q with
     | true=>
      go_wp2_with fail;refine HNY.out.mono ?_;rintro e w1 ⟨rfl,rfl⟩;go_wp2_with fail;go_roundw
      case rel=>exact ⟨i+1,by go_num,by omega,HT1,by trivial⟩
      case measure=>simp [intOf]; omega
     | false=>
      have HNF:=zH (HT2.out rfl)
      go_wp2_with fail;refine HNY.out.mono ?_;rintro e w1 ⟨rfl,rfl⟩;go_wp2_with fail;go_ret;exact ⟨ret_bool (by rw [HZ.out] <;> rfl),by rw [HA.out]; exact HBA.out⟩
    ·have dlt:decide ((i:Int) < (nl:Int))=false:=by simp; omega
     have HNT:Hid (na=true):=by
      show _=_
      have h1:=hta.out
      rw [List.take_of_length_le (by rw [HNL.out]; omega)] at h1
      rw [← HNA.out,h1]
     clear hta;go_wp2_with fail;refine (HP2.out wr).mono ?_;rintro e w16 ⟨rfl,hb⟩;obtain ⟨HB16,HK16⟩:=rstp HBA HKB hb;clear hb y0 y1 y2 y3 y4 y5;obtain ⟨y0,y1,y2,y3,y4,y5⟩:=rsix HK16
     cases p2 with
     | false=>
      go_wp2_with fail;go_ret;exact ⟨ret_bool (by rw [HZ.out] <;> rfl),by rw [HA.out]; exact HB16.out⟩
     | true=>
      go_wp2_with fail;refine (HNM.out w16).mono ?_;rintro e w17 ⟨rfl,rfl⟩
      cases nq with
      | false=>
       go_wp2_with fail;go_ret;exact ⟨ret_bool (by rw [HZ.out] <;> rfl),by rw [HA.out]; exact HB16.out⟩
      | true=>
       go_wp2_with fail;go_ret;exact ⟨ret_bool (by rw [HZ.out] <;> rfl),by rw [HA.out]; exact HB16.out⟩
 ·by_cases hl3:k.len=3
  ·have ht:=hl3
   obtain ⟨a,ka,b,kb,c,kc,rfl⟩:∃a ka b kb c kc,k=(.cons a ka (.cons b kb (.cons c kc .nil))):=len_is3 (k:=k) (by assumption)
   by_cases hc2:c.kind=22
   ·have m22:(c.kind==22)=true:=by simp [hc2]
    have m23:(c.kind != 22)=false:=by simp [hc2]
    obtain ⟨b0,off0,xn0,cn0,xk0,ck0,e0,hd0,m0,r0⟩:=kid_at (A:=.nil) (h:=a) (k:=ka) (r:=(.cons b kb (.cons c kc .nil))) HKR.out
    subst e0;obtain ⟨b1,off1,xn1,cn1,xk1,ck1,e1,hd1,m1,r1⟩:=kid_at (A:=(.cons a ka .nil)) (h:=b) (k:=kb) (r:=(.cons c kc .nil)) HKR.out;injection e1 with e1
    injection e1 with e1 e1'
    subst e1 e1';obtain ⟨b2,off2,xn2,cn2,xk2,ck2,e2,hd2,m2,r2⟩:=kid_at (A:=(.cons a ka (.cons b kb .nil))) (h:=c) (k:=kc) (r:=.nil) HKR.out;injection e2 with e2
    injection e2 with e2 e2'
    subst e2 e2';simp [Fo.len] at hd0 hd1 hd2;have hfk:=HFK.out;simp only [FoB] at hfk;have hsz:=HSZ.out;simp only [Fo.size] at hsz;have HC0:=zH hd0;have HE0:=zH (fun w' (hb:Below w.heap.size w w')=>rex_all _ a ka xn0 xk0 cn0 ck0 w' (Nat.lt_succ_self _) hfk.1 hfk.2.2.1 (r0.below hb))
    have HC1:=zH hd1
    have HL1:=zH (fun w' (hb:Below w.heap.size w w')=>HIB.out b kb xn1 xk1 cn1 ck1 w' (by omega) hfk.2.2.2.2.2.1 (r1.below hb))
    have HC2:=zH hd2
    have HS2:=zH (fun w' (hb:Below w.heap.size w w')=>HIH.out c kc xn2 xk2 cn2 ck2 w' (by omega) hfk.2.2.2.2.2.2.1 hfk.2.2.2.2.2.2.2.1 hfk.2.2.2.2.2.2.2.2.1 (m2.below hb) (r2.below hb))
    have HZ:Hid (z=_):=HZZ.out.symm.trans (st22b hc)
    rw [HQ3.out,if_pos hc2] at HZ;obtain ⟨q0,hq0⟩:∃q,exN a ka=q:=⟨_,rfl⟩;rw [hq0] at HZ HE0;clear hq0;obtain ⟨q1,hq1⟩:∃q,blN b kb=q:=⟨_,rfl⟩;rw [hq1] at HZ HL1;clear hq1;obtain ⟨q2,hq2⟩:∃q,stN c kc=q:=⟨_,rfl⟩;rw [hq2] at HZ HS2;clear hq2;clear HKR HFK HSZ HNR HNS HIH HIB HZZ HNQ HQ1 HQ2 HQ3 HBL hfk hsz r0 m0 hd0 r1 m1 hd1 r2 m2 hd2;unfold ndV at HE0 HL1 HS2
    simp only [Fo.len,Nat.zero_add,Nat.reduceAdd] at HKB HBA HP1 HP2 HP3 HE0 HL1 HS2 ⊢;obtain ⟨kd0,tx0,nu0,nm0,ps0⟩:=a;generalize hn0:nm0.length=nl0 at*;generalize hq0:ka.len=kl0 at*;clear hn0 hq0;obtain ⟨kd1,tx1,nu1,nm1,ps1⟩:=b;generalize hn1:nm1.length=nl1 at*;generalize hq1:kb.len=kl1 at*;clear hn1 hq1;obtain ⟨kd2,tx2,nu2,nm2,ps2⟩:=c;generalize hn2:nm2.length=nl2 at*
    generalize hq2:kc.len=kl2 at*;clear hn2 hq2;clear hc2;simp only at HC0 HE0 HC1 HL1 HC2 HS2 m22 m23;obtain ⟨kd,tx,nu,nm,ps⟩:=h;obtain ⟨nl,hnl⟩:∃l,nm.length=l:=⟨_,rfl⟩;clear HP1 HP2 HNM;unfold ndV at HKB HBA HP3 ⊢;simp only [hnl] at HKB HBA HP3 hc ⊢;obtain ⟨n25,n20,n21,n24,n26,n22,n23,n27,n28,n29⟩:=rkf hc;clear hc;go_enter Tryz.func38,Tryz.ntmps38;go_upto_region 1 with fail
    generalize w.alloc (.cells #[.int .i64 kd,.string ⟨tx.toArray⟩,.int .i64 nu,.slice xn nl cn,.slice (some ⟨b0,off0,none⟩) 3 ck,.int .i64 ps] 31)=wz at*;generalize hA:w.heap.size=A at*;have HA:=zH hA;clear hA hnl;obtain ⟨y0,y1,y2,y3,y4,y5⟩:=rsix HKB;go_wp2_with fail;refine (HP3.out wz).mono ?_;rintro e w18 ⟨rfl,hb⟩;obtain ⟨HB18,HK18⟩:=rstp HBA HKB hb;clear hb y0 y1 y2 y3 y4 y5
    obtain ⟨y0,y1,y2,y3,y4,y5⟩:=rsix HK18
    cases p3 with
    | false=>
     go_wp2_with fail;go_ret;exact ⟨ret_bool (by rw [HZ.out] <;> rfl),by rw [HA.out]; exact HB18.out⟩
    | true=>
     obtain ⟨z0,z1,z2,z3,z4,z5⟩:=HC2.out w18 HB18.out
     have zk:=(HC2.out w18 HB18.out).1
     have HQ:=zH (HS2.out w18 HB18.out)
     go_wp2_with fail;refine HQ.out.mono ?_;rintro e w19 ⟨rfl,hb⟩;obtain ⟨HB19,HK19⟩:=rstp HB18 HK18 hb;clear hb y0 y1 y2 y3 y4 y5 z0 z1 z2 z3 z4 z5 HQ zk;obtain ⟨y0,y1,y2,y3,y4,y5⟩:=rsix HK19
     cases q2 with
     | false=>
      go_wp2_with fail;go_ret;exact ⟨ret_bool (by rw [HZ.out] <;> rfl),by rw [HA.out]; exact HB19.out⟩
     | true=>
      obtain ⟨z0,z1,z2,z3,z4,z5⟩:=HC0.out w19 HB19.out
      have zk:=(HC2.out w19 HB19.out).1
      have HQ:=zH (HE0.out w19 HB19.out)
      go_wp2_with fail;refine HQ.out.mono ?_;rintro e w20 ⟨rfl,hb⟩;obtain ⟨HB20,HK20⟩:=rstp HB19 HK19 hb;clear hb y0 y1 y2 y3 y4 y5 z0 z1 z2 z3 z4 z5 HQ zk;obtain ⟨y0,y1,y2,y3,y4,y5⟩:=rsix HK20
      cases q0 with
      | false=>
       go_wp2_with fail;go_ret;exact ⟨ret_bool (by rw [HZ.out] <;> rfl),by rw [HA.out]; exact HB20.out⟩
      | true=>
       obtain ⟨z0,z1,z2,z3,z4,z5⟩:=HC1.out w20 HB20.out
       have zk:=(HC2.out w20 HB20.out).1
       have HQ:=zH (HL1.out w20 HB20.out)
       go_wp2_with fail;refine HQ.out.mono ?_;rintro e w21 ⟨rfl,hb⟩;obtain ⟨HB21,HK21⟩:=rstp HB20 HK20 hb;clear hb y0 y1 y2 y3 y4 y5 z0 z1 z2 z3 z4 z5 HQ zk;obtain ⟨y0,y1,y2,y3,y4,y5⟩:=rsix HK21
       cases q1 with
       | false=>
        go_wp2_with fail;go_ret;exact ⟨ret_bool (by rw [HZ.out] <;> rfl),by rw [HA.out]; exact HB21.out⟩
       | true=>
        go_wp2_with fail;go_ret;exact ⟨ret_bool (by rw [HZ.out] <;> rfl),by rw [HA.out]; exact HB21.out⟩
   ·have m22:(c.kind==22)=false:=by simp [hc2]
    have m23:(c.kind != 22)=true:=by simp [hc2]
    obtain ⟨b0,off0,xn0,cn0,xk0,ck0,e0,hd0,m0,r0⟩:=kid_at (A:=.nil) (h:=a) (k:=ka) (r:=(.cons b kb (.cons c kc .nil))) HKR.out
    subst e0;obtain ⟨b1,off1,xn1,cn1,xk1,ck1,e1,hd1,m1,r1⟩:=kid_at (A:=(.cons a ka .nil)) (h:=b) (k:=kb) (r:=(.cons c kc .nil)) HKR.out;injection e1 with e1
    injection e1 with e1 e1'
    subst e1 e1';obtain ⟨b2,off2,xn2,cn2,xk2,ck2,e2,hd2,m2,r2⟩:=kid_at (A:=(.cons a ka (.cons b kb .nil))) (h:=c) (k:=kc) (r:=.nil) HKR.out;injection e2 with e2
    injection e2 with e2 e2'
    subst e2 e2';simp [Fo.len] at hd0 hd1 hd2;have hfk:=HFK.out;simp only [FoB] at hfk;have hsz:=HSZ.out;simp only [Fo.size] at hsz;have HC0:=zH hd0;have HE0:=zH (fun w' (hb:Below w.heap.size w w')=>rex_all _ a ka xn0 xk0 cn0 ck0 w' (Nat.lt_succ_self _) hfk.1 hfk.2.2.1 (r0.below hb))
    have HC1:=zH hd1
    have HL1:=zH (fun w' (hb:Below w.heap.size w w')=>HIB.out b kb xn1 xk1 cn1 ck1 w' (by omega) hfk.2.2.2.2.2.1 (r1.below hb))
    have HC2:=zH hd2
    have HL2:=zH (fun w' (hb:Below w.heap.size w w')=>HIB.out c kc xn2 xk2 cn2 ck2 w' (by omega) hfk.2.2.2.2.2.2.2.2.1 (r2.below hb))
    have HZ:Hid (z=_):=HZZ.out.symm.trans (st22b hc)
    rw [HQ3.out,if_neg hc2] at HZ;obtain ⟨q0,hq0⟩:∃q,exN a ka=q:=⟨_,rfl⟩;rw [hq0] at HZ HE0;clear hq0;obtain ⟨q1,hq1⟩:∃q,blN b kb=q:=⟨_,rfl⟩;rw [hq1] at HZ HL1;clear hq1;obtain ⟨q2,hq2⟩:∃q,blN c kc=q:=⟨_,rfl⟩;rw [hq2] at HZ HL2;clear hq2;clear HKR HFK HSZ HNR HNS HIH HIB HZZ HNQ HQ1 HQ2 HQ3 HBL hfk hsz r0 m0 hd0 r1 m1 hd1 r2 m2 hd2;unfold ndV at HE0 HL1 HL2
    simp only [Fo.len,Nat.zero_add,Nat.reduceAdd] at HKB HBA HP1 HP2 HP3 HE0 HL1 HL2 ⊢;obtain ⟨kd0,tx0,nu0,nm0,ps0⟩:=a;generalize hn0:nm0.length=nl0 at*;generalize hq0:ka.len=kl0 at*;clear hn0 hq0;obtain ⟨kd1,tx1,nu1,nm1,ps1⟩:=b;generalize hn1:nm1.length=nl1 at*;generalize hq1:kb.len=kl1 at*;clear hn1 hq1;obtain ⟨kd2,tx2,nu2,nm2,ps2⟩:=c;generalize hn2:nm2.length=nl2 at*
    generalize hq2:kc.len=kl2 at*;clear hn2 hq2;clear hc2;simp only at HC0 HE0 HC1 HL1 HC2 HL2 m22 m23;obtain ⟨kd,tx,nu,nm,ps⟩:=h;obtain ⟨nl,hnl⟩:∃l,nm.length=l:=⟨_,rfl⟩;clear HP1 HP2 HNM;unfold ndV at HKB HBA HP3 ⊢;simp only [hnl] at HKB HBA HP3 hc ⊢;obtain ⟨n25,n20,n21,n24,n26,n22,n23,n27,n28,n29⟩:=rkf hc;clear hc;go_enter Tryz.func38,Tryz.ntmps38;go_upto_region 1 with fail
    generalize w.alloc (.cells #[.int .i64 kd,.string ⟨tx.toArray⟩,.int .i64 nu,.slice xn nl cn,.slice (some ⟨b0,off0,none⟩) 3 ck,.int .i64 ps] 31)=wz at*;generalize hA:w.heap.size=A at*;have HA:=zH hA;clear hA hnl;obtain ⟨y0,y1,y2,y3,y4,y5⟩:=rsix HKB;go_wp2_with fail;refine (HP3.out wz).mono ?_;rintro e w22 ⟨rfl,hb⟩;obtain ⟨HB22,HK22⟩:=rstp HBA HKB hb;clear hb y0 y1 y2 y3 y4 y5
    obtain ⟨y0,y1,y2,y3,y4,y5⟩:=rsix HK22
    cases p3 with
    | false=>
     go_wp2_with fail;go_ret;exact ⟨ret_bool (by rw [HZ.out] <;> rfl),by rw [HA.out]; exact HB22.out⟩
    | true=>
     obtain ⟨z0,z1,z2,z3,z4,z5⟩:=HC2.out w22 HB22.out
     have HQ:=zH (HL2.out w22 HB22.out)
     go_wp2_with fail;refine HQ.out.mono ?_;rintro e w23 ⟨rfl,hb⟩;obtain ⟨HB23,HK23⟩:=rstp HB22 HK22 hb;clear hb y0 y1 y2 y3 y4 y5 z0 z1 z2 z3 z4 z5 HQ;obtain ⟨y0,y1,y2,y3,y4,y5⟩:=rsix HK23
     cases q2 with
     | false=>
      go_wp2_with fail;go_ret;exact ⟨ret_bool (by rw [HZ.out] <;> rfl),by rw [HA.out]; exact HB23.out⟩
     | true=>
      obtain ⟨z0,z1,z2,z3,z4,z5⟩:=HC0.out w23 HB23.out
      have HQ:=zH (HE0.out w23 HB23.out)
      go_wp2_with fail;refine HQ.out.mono ?_;rintro e w24 ⟨rfl,hb⟩;obtain ⟨HB24,HK24⟩:=rstp HB23 HK23 hb;clear hb y0 y1 y2 y3 y4 y5 z0 z1 z2 z3 z4 z5 HQ;obtain ⟨y0,y1,y2,y3,y4,y5⟩:=rsix HK24
      cases q0 with
      | false=>
       go_wp2_with fail;go_ret;exact ⟨ret_bool (by rw [HZ.out] <;> rfl),by rw [HA.out]; exact HB24.out⟩
      | true=>
       obtain ⟨z0,z1,z2,z3,z4,z5⟩:=HC1.out w24 HB24.out
       have HQ:=zH (HL1.out w24 HB24.out)
       go_wp2_with fail;refine HQ.out.mono ?_;rintro e w25 ⟨rfl,hb⟩;obtain ⟨HB25,HK25⟩:=rstp HB24 HK24 hb;clear hb y0 y1 y2 y3 y4 y5 z0 z1 z2 z3 z4 z5 HQ;obtain ⟨y0,y1,y2,y3,y4,y5⟩:=rsix HK25
       cases q1 with
       | false=>
        go_wp2_with fail;go_ret;exact ⟨ret_bool (by rw [HZ.out] <;> rfl),by rw [HA.out]; exact HB25.out⟩
       | true=>
        go_wp2_with fail;go_ret;exact ⟨ret_bool (by rw [HZ.out] <;> rfl),by rw [HA.out]; exact HB25.out⟩
  ·by_cases hl2:k.len=2
   ·have ht:=hl2
    clear hl3;obtain ⟨a,ka,b,kb,rfl⟩:∃a ka b kb,k=(.cons a ka (.cons b kb .nil)):=len_is2 (k:=k) (by assumption)
    obtain ⟨b0,off0,xn0,cn0,xk0,ck0,e0,hd0,m0,r0⟩:=kid_at (A:=.nil) (h:=a) (k:=ka) (r:=(.cons b kb .nil)) HKR.out
    subst e0;obtain ⟨b1,off1,xn1,cn1,xk1,ck1,e1,hd1,m1,r1⟩:=kid_at (A:=(.cons a ka .nil)) (h:=b) (k:=kb) (r:=.nil) HKR.out;injection e1 with e1
    injection e1 with e1 e1'
    subst e1 e1';simp [Fo.len] at hd0 hd1;have hfk:=HFK.out;simp only [FoB] at hfk;have hsz:=HSZ.out;simp only [Fo.size] at hsz;have HC0:=zH hd0;have HE0:=zH (fun w' (hb:Below w.heap.size w w')=>rex_all _ a ka xn0 xk0 cn0 ck0 w' (Nat.lt_succ_self _) hfk.1 hfk.2.2.1 (r0.below hb))
    have HC1:=zH hd1
    have HL1:=zH (fun w' (hb:Below w.heap.size w w')=>HIB.out b kb xn1 xk1 cn1 ck1 w' (by omega) hfk.2.2.2.2.2.1 (r1.below hb))
    have HZ:Hid (z=_):=HZZ.out.symm.trans (st22a hc)
    rw [HQ3.out] at HZ;obtain ⟨q0,hq0⟩:∃q,exN a ka=q:=⟨_,rfl⟩;rw [hq0] at HZ HE0;clear hq0;obtain ⟨q1,hq1⟩:∃q,blN b kb=q:=⟨_,rfl⟩;rw [hq1] at HZ HL1;clear hq1;clear HKR HFK HSZ HNR HNS HIH HIB HZZ HNQ HQ1 HQ2 HQ3 HBL hfk hsz r0 m0 hd0 r1 m1 hd1;unfold ndV at HE0 HL1;simp only [Fo.len,Nat.zero_add,Nat.reduceAdd] at HKB HBA HP1 HP2 HP3 HE0 HL1 ⊢;obtain ⟨kd0,tx0,nu0,nm0,ps0⟩:=a
    generalize hn0:nm0.length=nl0 at*;generalize hq0:ka.len=kl0 at*;clear hn0 hq0;obtain ⟨kd1,tx1,nu1,nm1,ps1⟩:=b;generalize hn1:nm1.length=nl1 at*;generalize hq1:kb.len=kl1 at*;clear hn1 hq1;simp only at HC0 HE0 HC1 HL1;obtain ⟨kd,tx,nu,nm,ps⟩:=h;obtain ⟨nl,hnl⟩:∃l,nm.length=l:=⟨_,rfl⟩;clear HP1 HP2 HNM;unfold ndV at HKB HBA HP3 ⊢;simp only [hnl] at HKB HBA HP3 hc ⊢
    obtain ⟨n25,n20,n21,n24,n26,n22,n23,n27,n28,n29⟩:=rkf hc
    clear hc;go_enter Tryz.func38,Tryz.ntmps38;go_upto_region 1 with fail
    generalize w.alloc (.cells #[.int .i64 kd,.string ⟨tx.toArray⟩,.int .i64 nu,.slice xn nl cn,.slice (some ⟨b0,off0,none⟩) 2 ck,.int .i64 ps] 31)=wz at*;generalize hA:w.heap.size=A at*;have HA:=zH hA;clear hA hnl;obtain ⟨y0,y1,y2,y3,y4,y5⟩:=rsix HKB;go_wp2_with fail;refine (HP3.out wz).mono ?_;rintro e w26 ⟨rfl,hb⟩;obtain ⟨HB26,HK26⟩:=rstp HBA HKB hb;clear hb y0 y1 y2 y3 y4 y5
    obtain ⟨y0,y1,y2,y3,y4,y5⟩:=rsix HK26
    cases p3 with
    | false=>
     go_wp2_with fail;go_ret;exact ⟨ret_bool (by rw [HZ.out] <;> rfl),by rw [HA.out]; exact HB26.out⟩
    | true=>
     obtain ⟨z0,z1,z2,z3,z4,z5⟩:=HC0.out w26 HB26.out
     have HQ:=zH (HE0.out w26 HB26.out)
     go_wp2_with fail;refine HQ.out.mono ?_;rintro e w27 ⟨rfl,hb⟩;obtain ⟨HB27,HK27⟩:=rstp HB26 HK26 hb;clear hb y0 y1 y2 y3 y4 y5 z0 z1 z2 z3 z4 z5 HQ;obtain ⟨y0,y1,y2,y3,y4,y5⟩:=rsix HK27
     cases q0 with
     | false=>
      go_wp2_with fail;go_ret;exact ⟨ret_bool (by rw [HZ.out] <;> rfl),by rw [HA.out]; exact HB27.out⟩
     | true=>
      obtain ⟨z0,z1,z2,z3,z4,z5⟩:=HC1.out w27 HB27.out
      have HQ:=zH (HL1.out w27 HB27.out)
      go_wp2_with fail;refine HQ.out.mono ?_;rintro e w28 ⟨rfl,hb⟩;obtain ⟨HB28,HK28⟩:=rstp HB27 HK27 hb;clear hb y0 y1 y2 y3 y4 y5 z0 z1 z2 z3 z4 z5 HQ;obtain ⟨y0,y1,y2,y3,y4,y5⟩:=rsix HK28
      cases q1 with
      | false=>
       go_wp2_with fail;go_ret;exact ⟨ret_bool (by rw [HZ.out] <;> rfl),by rw [HA.out]; exact HB28.out⟩
      | true=>
       go_wp2_with fail;go_ret;exact ⟨ret_bool (by rw [HZ.out] <;> rfl),by rw [HA.out]; exact HB28.out⟩
   ·have ht:=hl2
    have HZ:Hid (z=false):=by show _=_; rw [← HZZ.out]; exact st22n hc hl2 hl3
    obtain ⟨kl,hkl⟩:∃q,k.len=q:=⟨_,rfl⟩
    rw [hkl] at HKB HBA HP1 HP2 HP3 hl2 hl3 ⊢;clear HKR HFK HSZ HNR HNS HIH HIB HZZ HNQ HQ1 HQ2 HQ3 HBL hkl;obtain ⟨kd,tx,nu,nm,ps⟩:=h;obtain ⟨nl,hnl⟩:∃l,nm.length=l:=⟨_,rfl⟩;clear HP1 HP2 HNM;unfold ndV at HKB HBA HP3 ⊢;simp only [hnl] at HKB HBA HP3 hc ⊢;obtain ⟨n25,n20,n21,n24,n26,n22,n23,n27,n28,n29⟩:=rkf hc;clear hc;have g2:((kl:Int)==2)=false:=by simp; omega
    have g3:((kl:Int)==3)=false:=by simp; omega
    clear hl2 hl3;go_enter Tryz.func38,Tryz.ntmps38;go_upto_region 1 with fail
    generalize w.alloc (.cells #[.int .i64 kd,.string ⟨tx.toArray⟩,.int .i64 nu,.slice xn nl cn,.slice xk kl ck,.int .i64 ps] 31)=wz at*;generalize hA:w.heap.size=A at*;have HA:=zH hA;clear hA hnl;obtain ⟨y0,y1,y2,y3,y4,y5⟩:=rsix HKB;go_wp2_with fail;refine (HP3.out wz).mono ?_;rintro e w29 ⟨rfl,hb⟩;obtain ⟨HB29,HK29⟩:=rstp HBA HKB hb;clear hb y0 y1 y2 y3 y4 y5
    obtain ⟨y0,y1,y2,y3,y4,y5⟩:=rsix HK29
    cases p3 with
    | false=>
     go_wp2_with fail;go_ret;exact ⟨ret_bool (by rw [HZ.out] <;> rfl),by rw [HA.out]; exact HB29.out⟩
    | true=>
     go_wp2_with fail;go_ret;exact ⟨ret_bool (by rw [HZ.out] <;> rfl),by rw [HA.out]; exact HB29.out⟩
 ·by_cases hl2:k.len=2
  ·have ht:=hl2
   obtain ⟨a,ka,b,kb,rfl⟩:∃a ka b kb,k=(.cons a ka (.cons b kb .nil)):=len_is2 (k:=k) (by assumption)
   obtain ⟨b0,off0,xn0,cn0,xk0,ck0,e0,hd0,m0,r0⟩:=kid_at (A:=.nil) (h:=a) (k:=ka) (r:=(.cons b kb .nil)) HKR.out
   subst e0;obtain ⟨b1,off1,xn1,cn1,xk1,ck1,e1,hd1,m1,r1⟩:=kid_at (A:=(.cons a ka .nil)) (h:=b) (k:=kb) (r:=.nil) HKR.out;injection e1 with e1
   injection e1 with e1 e1'
   subst e1 e1';simp [Fo.len] at hd0 hd1;have hfk:=HFK.out;simp only [FoB] at hfk;have hsz:=HSZ.out;simp only [Fo.size] at hsz;have HC0:=zH hd0;have HE0:=zH (fun w' (hb:Below w.heap.size w w')=>rex_all _ a ka xn0 xk0 cn0 ck0 w' (Nat.lt_succ_self _) hfk.1 hfk.2.2.1 (r0.below hb))
   have HC1:=zH hd1
   have HL1:=zH (fun w' (hb:Below w.heap.size w w')=>HIB.out b kb xn1 xk1 cn1 ck1 w' (by omega) hfk.2.2.2.2.2.1 (r1.below hb))
   have HZ:Hid (z=_):=HZZ.out.symm.trans (st23 hc)
   rw [HQ3.out] at HZ;obtain ⟨q0,hq0⟩:∃q,exN a ka=q:=⟨_,rfl⟩;rw [hq0] at HZ HE0;clear hq0;obtain ⟨q1,hq1⟩:∃q,blN b kb=q:=⟨_,rfl⟩;rw [hq1] at HZ HL1;clear hq1;clear HKR HFK HSZ HNR HNS HIH HIB HZZ HNQ HQ1 HQ2 HQ3 HBL hfk hsz r0 m0 hd0 r1 m1 hd1;unfold ndV at HE0 HL1;simp only [Fo.len,Nat.zero_add,Nat.reduceAdd] at HKB HBA HP1 HP2 HP3 HE0 HL1 ⊢;obtain ⟨kd0,tx0,nu0,nm0,ps0⟩:=a
   generalize hn0:nm0.length=nl0 at*;generalize hq0:ka.len=kl0 at*;clear hn0 hq0;obtain ⟨kd1,tx1,nu1,nm1,ps1⟩:=b;generalize hn1:nm1.length=nl1 at*;generalize hq1:kb.len=kl1 at*;clear hn1 hq1;simp only at HC0 HE0 HC1 HL1;obtain ⟨kd,tx,nu,nm,ps⟩:=h;obtain ⟨nl,hnl⟩:∃l,nm.length=l:=⟨_,rfl⟩;clear HP1 HP2 HNM;unfold ndV at HKB HBA HP3 ⊢;simp only [hnl] at HKB HBA HP3 hc ⊢
   obtain ⟨n25,n20,n21,n24,n26,n22,n23,n27,n28,n29⟩:=rkf hc
   clear hc;go_enter Tryz.func38,Tryz.ntmps38;go_upto_region 1 with fail
   generalize w.alloc (.cells #[.int .i64 kd,.string ⟨tx.toArray⟩,.int .i64 nu,.slice xn nl cn,.slice (some ⟨b0,off0,none⟩) 2 ck,.int .i64 ps] 31)=wz at*;generalize hA:w.heap.size=A at*;have HA:=zH hA;clear hA hnl;obtain ⟨y0,y1,y2,y3,y4,y5⟩:=rsix HKB;go_wp2_with fail;refine (HP3.out wz).mono ?_;rintro e w30 ⟨rfl,hb⟩;obtain ⟨HB30,HK30⟩:=rstp HBA HKB hb;clear hb y0 y1 y2 y3 y4 y5
   obtain ⟨y0,y1,y2,y3,y4,y5⟩:=rsix HK30
   cases p3 with
   | false=>
    go_wp2_with fail;go_ret;exact ⟨ret_bool (by rw [HZ.out] <;> rfl),by rw [HA.out]; exact HB30.out⟩
   | true=>
    obtain ⟨z0,z1,z2,z3,z4,z5⟩:=HC0.out w30 HB30.out
    have HQ:=zH (HE0.out w30 HB30.out)
    go_wp2_with fail;refine HQ.out.mono ?_;rintro e w31 ⟨rfl,hb⟩;obtain ⟨HB31,HK31⟩:=rstp HB30 HK30 hb;clear hb y0 y1 y2 y3 y4 y5 z0 z1 z2 z3 z4 z5 HQ;obtain ⟨y0,y1,y2,y3,y4,y5⟩:=rsix HK31
    cases q0 with
    | false=>
     go_wp2_with fail;go_ret;exact ⟨ret_bool (by rw [HZ.out] <;> rfl),by rw [HA.out]; exact HB31.out⟩
    | true=>
     obtain ⟨z0,z1,z2,z3,z4,z5⟩:=HC1.out w31 HB31.out
     have HQ:=zH (HL1.out w31 HB31.out)
     go_wp2_with fail;refine HQ.out.mono ?_;rintro e w32 ⟨rfl,hb⟩;obtain ⟨HB32,HK32⟩:=rstp HB31 HK31 hb;clear hb y0 y1 y2 y3 y4 y5 z0 z1 z2 z3 z4 z5 HQ;obtain ⟨y0,y1,y2,y3,y4,y5⟩:=rsix HK32
     cases q1 with
     | false=>
      go_wp2_with fail;go_ret;exact ⟨ret_bool (by rw [HZ.out] <;> rfl),by rw [HA.out]; exact HB32.out⟩
     | true=>
      go_wp2_with fail;go_ret;exact ⟨ret_bool (by rw [HZ.out] <;> rfl),by rw [HA.out]; exact HB32.out⟩
  ·have ht:=hl2
   have HZ:Hid (z=false):=by show _=_; rw [← HZZ.out]; exact st23n hc hl2
   obtain ⟨kl,hkl⟩:∃q,k.len=q:=⟨_,rfl⟩
   rw [hkl] at HKB HBA HP1 HP2 HP3 hl2 ⊢;clear HKR HFK HSZ HNR HNS HIH HIB HZZ HNQ HQ1 HQ2 HQ3 HBL hkl;obtain ⟨kd,tx,nu,nm,ps⟩:=h;obtain ⟨nl,hnl⟩:∃l,nm.length=l:=⟨_,rfl⟩;clear HP1 HP2 HNM;unfold ndV at HKB HBA HP3 ⊢;simp only [hnl] at HKB HBA HP3 hc ⊢;obtain ⟨n25,n20,n21,n24,n26,n22,n23,n27,n28,n29⟩:=rkf hc;clear hc;have g2:((kl:Int)==2)=false:=by simp; omega
   clear hl2;go_enter Tryz.func38,Tryz.ntmps38;go_upto_region 1 with fail
   generalize w.alloc (.cells #[.int .i64 kd,.string ⟨tx.toArray⟩,.int .i64 nu,.slice xn nl cn,.slice xk kl ck,.int .i64 ps] 31)=wz at*;generalize hA:w.heap.size=A at*;have HA:=zH hA;clear hA hnl;obtain ⟨y0,y1,y2,y3,y4,y5⟩:=rsix HKB;go_wp2_with fail;refine (HP3.out wz).mono ?_;rintro e w33 ⟨rfl,hb⟩;obtain ⟨HB33,HK33⟩:=rstp HBA HKB hb;clear hb y0 y1 y2 y3 y4 y5;obtain ⟨y0,y1,y2,y3,y4,y5⟩:=rsix HK33
   cases p3 with
   | false=>
    go_wp2_with fail;go_ret;exact ⟨ret_bool (by rw [HZ.out] <;> rfl),by rw [HA.out]; exact HB33.out⟩
   | true=>
    go_wp2_with fail;go_ret;exact ⟨ret_bool (by rw [HZ.out] <;> rfl),by rw [HA.out]; exact HB33.out⟩
 ·by_cases hl0:k.len=0
  ·have ht:=hl0
   obtain rfl:k=.nil:=len_is0 (by assumption)
   have HZ:Hid (z=_):=HZZ.out.symm.trans (st27a hc)
   rw [HQ3.out] at HZ;clear HKR HFK HSZ HNR HNS HIH HIB HZZ HNQ HQ1 HQ2 HQ3 HBL ;simp only [Fo.len] at HKB HBA HP1 HP2 HP3  ⊢;obtain ⟨kd,tx,nu,nm,ps⟩:=h;obtain ⟨nl,hnl⟩:∃l,nm.length=l:=⟨_,rfl⟩;clear HP1 HP2 HNM;unfold ndV at HKB HBA HP3 ⊢;simp only [hnl] at HKB HBA HP3 hc ⊢;obtain ⟨n25,n20,n21,n24,n26,n22,n23,n27,n28,n29⟩:=rkf hc;clear hc;go_enter Tryz.func38,Tryz.ntmps38
   go_upto_region 1 with fail
   generalize w.alloc (.cells #[.int .i64 kd,.string ⟨tx.toArray⟩,.int .i64 nu,.slice xn nl cn,.slice xk 0 ck,.int .i64 ps] 31)=wz at*;generalize hA:w.heap.size=A at*;have HA:=zH hA;clear hA hnl;obtain ⟨y0,y1,y2,y3,y4,y5⟩:=rsix HKB;go_wp2_with fail;refine (HP3.out wz).mono ?_;rintro e w34 ⟨rfl,hb⟩;obtain ⟨HB34,HK34⟩:=rstp HBA HKB hb;clear hb y0 y1 y2 y3 y4 y5;obtain ⟨y0,y1,y2,y3,y4,y5⟩:=rsix HK34
   cases p3 with
   | false=>
    go_wp2_with fail;go_ret;exact ⟨ret_bool (by rw [HZ.out] <;> rfl),by rw [HA.out]; exact HB34.out⟩
   | true=>
    go_wp2_with fail;go_ret;exact ⟨ret_bool (by rw [HZ.out] <;> rfl),by rw [HA.out]; exact HB34.out⟩
  ·by_cases hl1:k.len=1
   ·have ht:=hl1
    clear hl0;obtain ⟨a,ka,rfl⟩:∃a ka,k=(.cons a ka .nil):=len_is1 (k:=k) (by assumption)
    obtain ⟨b0,off0,xn0,cn0,xk0,ck0,e0,hd0,m0,r0⟩:=kid_at (A:=.nil) (h:=a) (k:=ka) (r:=.nil) HKR.out
    subst e0;simp [Fo.len] at hd0;have hfk:=HFK.out;simp only [FoB] at hfk;have hsz:=HSZ.out;simp only [Fo.size] at hsz;have HC0:=zH hd0;have HE0:=zH (fun w' (hb:Below w.heap.size w w')=>rex_all _ a ka xn0 xk0 cn0 ck0 w' (Nat.lt_succ_self _) hfk.1 hfk.2.2.1 (r0.below hb))
    have HZ:Hid (z=_):=HZZ.out.symm.trans (st27b hc)
    rw [HQ3.out] at HZ;obtain ⟨q0,hq0⟩:∃q,exN a ka=q:=⟨_,rfl⟩;rw [hq0] at HZ HE0;clear hq0;clear HKR HFK HSZ HNR HNS HIH HIB HZZ HNQ HQ1 HQ2 HQ3 HBL hfk hsz r0 m0 hd0;unfold ndV at HE0;simp only [Fo.len,Nat.zero_add] at HKB HBA HP1 HP2 HP3 HE0 ⊢;obtain ⟨kd0,tx0,nu0,nm0,ps0⟩:=a;generalize hn0:nm0.length=nl0 at*;generalize hq0:ka.len=kl0 at*;clear hn0 hq0;simp only at HC0 HE0
    obtain ⟨kd,tx,nu,nm,ps⟩:=h
    obtain ⟨nl,hnl⟩:∃l,nm.length=l:=⟨_,rfl⟩
    clear HP1 HP2 HNM;unfold ndV at HKB HBA HP3 ⊢;simp only [hnl] at HKB HBA HP3 hc ⊢;obtain ⟨n25,n20,n21,n24,n26,n22,n23,n27,n28,n29⟩:=rkf hc;clear hc;go_enter Tryz.func38,Tryz.ntmps38;go_upto_region 1 with fail
    generalize w.alloc (.cells #[.int .i64 kd,.string ⟨tx.toArray⟩,.int .i64 nu,.slice xn nl cn,.slice (some ⟨b0,off0,none⟩) 1 ck,.int .i64 ps] 31)=wz at*;generalize hA:w.heap.size=A at*;have HA:=zH hA;clear hA hnl;obtain ⟨y0,y1,y2,y3,y4,y5⟩:=rsix HKB;go_wp2_with fail;refine (HP3.out wz).mono ?_;rintro e w35 ⟨rfl,hb⟩;obtain ⟨HB35,HK35⟩:=rstp HBA HKB hb;clear hb y0 y1 y2 y3 y4 y5
    obtain ⟨y0,y1,y2,y3,y4,y5⟩:=rsix HK35
    cases p3 with
    | false=>
     go_wp2_with fail;go_ret;exact ⟨ret_bool (by rw [HZ.out] <;> rfl),by rw [HA.out]; exact HB35.out⟩
    | true=>
     obtain ⟨z0,z1,z2,z3,z4,z5⟩:=HC0.out w35 HB35.out
     have HQ:=zH (HE0.out w35 HB35.out)
     go_wp2_with fail;refine HQ.out.mono ?_;rintro e w36 ⟨rfl,hb⟩;obtain ⟨HB36,HK36⟩:=rstp HB35 HK35 hb;clear hb y0 y1 y2 y3 y4 y5 z0 z1 z2 z3 z4 z5 HQ;obtain ⟨y0,y1,y2,y3,y4,y5⟩:=rsix HK36
     cases q0 with
     | false=>
      go_wp2_with fail;go_ret;exact ⟨ret_bool (by rw [HZ.out] <;> rfl),by rw [HA.out]; exact HB36.out⟩
     | true=>
      go_wp2_with fail;go_ret;exact ⟨ret_bool (by rw [HZ.out] <;> rfl),by rw [HA.out]; exact HB36.out⟩
   ·have ht:=hl1
    have HZ:Hid (z=false):=by show _=_; rw [← HZZ.out]; exact st27n hc hl0 hl1
    obtain ⟨kl,hkl⟩:∃q,k.len=q:=⟨_,rfl⟩
    rw [hkl] at HKB HBA HP1 HP2 HP3 hl0 hl1 ⊢;clear HKR HFK HSZ HNR HNS HIH HIB HZZ HNQ HQ1 HQ2 HQ3 HBL hkl;obtain ⟨kd,tx,nu,nm,ps⟩:=h;obtain ⟨nl,hnl⟩:∃l,nm.length=l:=⟨_,rfl⟩;clear HP1 HP2 HNM;unfold ndV at HKB HBA HP3 ⊢;simp only [hnl] at HKB HBA HP3 hc ⊢;obtain ⟨n25,n20,n21,n24,n26,n22,n23,n27,n28,n29⟩:=rkf hc;clear hc;have g0:((kl:Int)==0)=false:=by simp; omega
    have g1:((kl:Int)==1)=false:=by simp; omega
    clear hl0 hl1;go_enter Tryz.func38,Tryz.ntmps38;go_upto_region 1 with fail
    generalize w.alloc (.cells #[.int .i64 kd,.string ⟨tx.toArray⟩,.int .i64 nu,.slice xn nl cn,.slice xk kl ck,.int .i64 ps] 31)=wz at*;generalize hA:w.heap.size=A at*;have HA:=zH hA;clear hA hnl;obtain ⟨y0,y1,y2,y3,y4,y5⟩:=rsix HKB;go_wp2_with fail;refine (HP3.out wz).mono ?_;rintro e w37 ⟨rfl,hb⟩;obtain ⟨HB37,HK37⟩:=rstp HBA HKB hb;clear hb y0 y1 y2 y3 y4 y5
    obtain ⟨y0,y1,y2,y3,y4,y5⟩:=rsix HK37
    cases p3 with
    | false=>
     go_wp2_with fail;go_ret;exact ⟨ret_bool (by rw [HZ.out] <;> rfl),by rw [HA.out]; exact HB37.out⟩
    | true=>
     go_wp2_with fail;go_ret;exact ⟨ret_bool (by rw [HZ.out] <;> rfl),by rw [HA.out]; exact HB37.out⟩
 ·by_cases hl1:k.len=1
  ·have ht:=hl1
   obtain ⟨a,ka,rfl⟩:∃a ka,k=(.cons a ka .nil):=len_is1 (k:=k) (by assumption)
   obtain ⟨b0,off0,xn0,cn0,xk0,ck0,e0,hd0,m0,r0⟩:=kid_at (A:=.nil) (h:=a) (k:=ka) (r:=.nil) HKR.out
   subst e0;simp [Fo.len] at hd0;have hfk:=HFK.out;simp only [FoB] at hfk;have hsz:=HSZ.out;simp only [Fo.size] at hsz;have HC0:=zH hd0;have HE0:=zH (fun w' (hb:Below w.heap.size w w')=>rex_all _ a ka xn0 xk0 cn0 ck0 w' (Nat.lt_succ_self _) hfk.1 hfk.2.2.1 (r0.below hb))
   have HZ:Hid (z=_):=HZZ.out.symm.trans (st28 hc)
   rw [HQ3.out] at HZ;obtain ⟨q0,hq0⟩:∃q,exN a ka=q:=⟨_,rfl⟩;rw [hq0] at HZ HE0;clear hq0;clear HKR HFK HSZ HNR HNS HIH HIB HZZ HNQ HQ1 HQ2 HQ3 HBL hfk hsz r0 m0 hd0;unfold ndV at HE0;simp only [Fo.len,Nat.zero_add] at HKB HBA HP1 HP2 HP3 HE0 ⊢;obtain ⟨kd0,tx0,nu0,nm0,ps0⟩:=a;generalize hn0:nm0.length=nl0 at*;generalize hq0:ka.len=kl0 at*;clear hn0 hq0;simp only at HC0 HE0
   obtain ⟨kd,tx,nu,nm,ps⟩:=h
   obtain ⟨nl,hnl⟩:∃l,nm.length=l:=⟨_,rfl⟩
   clear HP1 HP2 HNM;unfold ndV at HKB HBA HP3 ⊢;simp only [hnl] at HKB HBA HP3 hc ⊢;obtain ⟨n25,n20,n21,n24,n26,n22,n23,n27,n28,n29⟩:=rkf hc;clear hc;go_enter Tryz.func38,Tryz.ntmps38;go_upto_region 1 with fail
   generalize w.alloc (.cells #[.int .i64 kd,.string ⟨tx.toArray⟩,.int .i64 nu,.slice xn nl cn,.slice (some ⟨b0,off0,none⟩) 1 ck,.int .i64 ps] 31)=wz at*;generalize hA:w.heap.size=A at*;have HA:=zH hA;clear hA hnl;obtain ⟨y0,y1,y2,y3,y4,y5⟩:=rsix HKB;go_wp2_with fail;refine (HP3.out wz).mono ?_;rintro e w38 ⟨rfl,hb⟩;obtain ⟨HB38,HK38⟩:=rstp HBA HKB hb;clear hb y0 y1 y2 y3 y4 y5
   obtain ⟨y0,y1,y2,y3,y4,y5⟩:=rsix HK38
   cases p3 with
   | false=>
    go_wp2_with fail;go_ret;exact ⟨ret_bool (by rw [HZ.out] <;> rfl),by rw [HA.out]; exact HB38.out⟩
   | true=>
    obtain ⟨z0,z1,z2,z3,z4,z5⟩:=HC0.out w38 HB38.out
    have HQ:=zH (HE0.out w38 HB38.out)
    go_wp2_with fail;refine HQ.out.mono ?_;rintro e w39 ⟨rfl,hb⟩;obtain ⟨HB39,HK39⟩:=rstp HB38 HK38 hb;clear hb y0 y1 y2 y3 y4 y5 z0 z1 z2 z3 z4 z5 HQ;obtain ⟨y0,y1,y2,y3,y4,y5⟩:=rsix HK39
    cases q0 with
    | false=>
     go_wp2_with fail;go_ret;exact ⟨ret_bool (by rw [HZ.out] <;> rfl),by rw [HA.out]; exact HB39.out⟩
    | true=>
     go_wp2_with fail;go_ret;exact ⟨ret_bool (by rw [HZ.out] <;> rfl),by rw [HA.out]; exact HB39.out⟩
  ·have ht:=hl1
   have HZ:Hid (z=false):=by show _=_; rw [← HZZ.out]; exact st28n hc hl1
   obtain ⟨kl,hkl⟩:∃q,k.len=q:=⟨_,rfl⟩
   rw [hkl] at HKB HBA HP1 HP2 HP3 hl1 ⊢;clear HKR HFK HSZ HNR HNS HIH HIB HZZ HNQ HQ1 HQ2 HQ3 HBL hkl;obtain ⟨kd,tx,nu,nm,ps⟩:=h;obtain ⟨nl,hnl⟩:∃l,nm.length=l:=⟨_,rfl⟩;clear HP1 HP2 HNM;unfold ndV at HKB HBA HP3 ⊢;simp only [hnl] at HKB HBA HP3 hc ⊢;obtain ⟨n25,n20,n21,n24,n26,n22,n23,n27,n28,n29⟩:=rkf hc;clear hc;have g1:((kl:Int)==1)=false:=by simp; omega
   clear hl1;go_enter Tryz.func38,Tryz.ntmps38;go_upto_region 1 with fail
   generalize w.alloc (.cells #[.int .i64 kd,.string ⟨tx.toArray⟩,.int .i64 nu,.slice xn nl cn,.slice xk kl ck,.int .i64 ps] 31)=wz at*;generalize hA:w.heap.size=A at*;have HA:=zH hA;clear hA hnl;obtain ⟨y0,y1,y2,y3,y4,y5⟩:=rsix HKB;go_wp2_with fail;refine (HP3.out wz).mono ?_;rintro e w40 ⟨rfl,hb⟩;obtain ⟨HB40,HK40⟩:=rstp HBA HKB hb;clear hb y0 y1 y2 y3 y4 y5;obtain ⟨y0,y1,y2,y3,y4,y5⟩:=rsix HK40
   cases p3 with
   | false=>
    go_wp2_with fail;go_ret;exact ⟨ret_bool (by rw [HZ.out] <;> rfl),by rw [HA.out]; exact HB40.out⟩
   | true=>
    go_wp2_with fail;go_ret;exact ⟨ret_bool (by rw [HZ.out] <;> rfl),by rw [HA.out]; exact HB40.out⟩
 ·by_cases hl0:k.len=0
  ·have ht:=hl0
   have HZ:Hid (z=p3):=by show _=_; rw [← HZZ.out,st29 hc,HQ3.out,hl0]; simp
   obtain rfl:k=.nil:=len_is0 hl0
   clear HKR HFK HSZ HNR HNS HIH HIB HZZ HNQ HQ1 HQ2 HQ3 HBL hl0 ht;simp only [Fo.len] at HKB HBA HP1 HP2 HP3 ⊢;obtain ⟨kd,tx,nu,nm,ps⟩:=h;obtain ⟨nl,hnl⟩:∃l,nm.length=l:=⟨_,rfl⟩;clear HP1 HP2 HNM;unfold ndV at HKB HBA HP3 ⊢;simp only [hnl] at HKB HBA HP3 hc ⊢;obtain ⟨n25,n20,n21,n24,n26,n22,n23,n27,n28,n29⟩:=rkf hc;clear hc;go_enter Tryz.func38,Tryz.ntmps38;go_upto_region 1 with fail
   generalize w.alloc (.cells #[.int .i64 kd,.string ⟨tx.toArray⟩,.int .i64 nu,.slice xn nl cn,.slice xk 0 ck,.int .i64 ps] 31)=wz at*;generalize hA:w.heap.size=A at*;have HA:=zH hA;clear hA hnl;obtain ⟨y0,y1,y2,y3,y4,y5⟩:=rsix HKB;go_wp2_with fail;refine (HP3.out wz).mono ?_;rintro e w41 ⟨rfl,hb⟩;obtain ⟨HB41,HK41⟩:=rstp HBA HKB hb;clear hb y0 y1 y2 y3 y4 y5;obtain ⟨y0,y1,y2,y3,y4,y5⟩:=rsix HK41
   cases p3 with
   | false=>
    go_wp2_with fail;go_ret;exact ⟨ret_bool (by rw [HZ.out] <;> rfl),by rw [HA.out]; exact HB41.out⟩
   | true=>
    go_wp2_with fail;go_ret;exact ⟨ret_bool (by rw [HZ.out] <;> rfl),by rw [HA.out]; exact HB41.out⟩
  ·have ht:=hl0
   have HZ:Hid (z=false):=by show _=_; rw [← HZZ.out]; exact (show stN h k=false by rw [st29 hc]; simp [hl0])
   obtain ⟨kl,hkl⟩:∃q,k.len=q:=⟨_,rfl⟩
   rw [hkl] at HKB HBA HP1 HP2 HP3 hl0 ⊢;clear HKR HFK HSZ HNR HNS HIH HIB HZZ HNQ HQ1 HQ2 HQ3 HBL hkl;obtain ⟨kd,tx,nu,nm,ps⟩:=h;obtain ⟨nl,hnl⟩:∃l,nm.length=l:=⟨_,rfl⟩;clear HP1 HP2 HNM;unfold ndV at HKB HBA HP3 ⊢;simp only [hnl] at HKB HBA HP3 hc ⊢;obtain ⟨n25,n20,n21,n24,n26,n22,n23,n27,n28,n29⟩:=rkf hc;clear hc;have g0:((kl:Int)==0)=false:=by simp; omega
   clear hl0;go_enter Tryz.func38,Tryz.ntmps38;go_upto_region 1 with fail
   generalize w.alloc (.cells #[.int .i64 kd,.string ⟨tx.toArray⟩,.int .i64 nu,.slice xn nl cn,.slice xk kl ck,.int .i64 ps] 31)=wz at*;generalize hA:w.heap.size=A at*;have HA:=zH hA;clear hA hnl;obtain ⟨y0,y1,y2,y3,y4,y5⟩:=rsix HKB;go_wp2_with fail;refine (HP3.out wz).mono ?_;rintro e w42 ⟨rfl,hb⟩;obtain ⟨HB42,HK42⟩:=rstp HBA HKB hb;clear hb y0 y1 y2 y3 y4 y5;obtain ⟨y0,y1,y2,y3,y4,y5⟩:=rsix HK42
   cases p3 with
   | false=>
    go_wp2_with fail;go_ret;exact ⟨ret_bool (by rw [HZ.out] <;> rfl),by rw [HA.out]; exact HB42.out⟩
   | true=>
    go_wp2_with fail;go_ret;exact ⟨ret_bool (by rw [HZ.out] <;> rfl),by rw [HA.out]; exact HB42.out⟩
 ·have HZ:Hid (z=false):=by show _=_; rw [← HZZ.out]; exact stx0 hc
  obtain ⟨kl,hkl⟩:∃q,k.len=q:=⟨_,rfl⟩
  rw [hkl] at HKB HBA HP1 HP2 HP3 ⊢;clear HKR HFK HSZ HNR HNS HIH HIB HZZ HNQ HQ1 HQ2 HQ3 HBL hkl;obtain ⟨kd,tx,nu,nm,ps⟩:=h;obtain ⟨nl,hnl⟩:∃l,nm.length=l:=⟨_,rfl⟩;clear HP1 HP2 HNM;unfold ndV at HKB HBA HP3 ⊢;simp only [hnl] at HKB HBA HP3 hc ⊢;obtain ⟨n25,n20,n21,n24,n26,n22,n23,n27,n28,n29⟩:=rkfn hc;clear hc;go_enter Tryz.func38,Tryz.ntmps38;go_upto_region 1 with fail
  generalize w.alloc (.cells #[.int .i64 kd,.string ⟨tx.toArray⟩,.int .i64 nu,.slice xn nl cn,.slice xk kl ck,.int .i64 ps] 31)=wz at*;generalize hA:w.heap.size=A at*;have HA:=zH hA;clear hA hnl;obtain ⟨y0,y1,y2,y3,y4,y5⟩:=rsix HKB;go_wp2_with fail;refine (HP3.out wz).mono ?_;rintro e w43 ⟨rfl,hb⟩;obtain ⟨HB43,HK43⟩:=rstp HBA HKB hb;clear hb y0 y1 y2 y3 y4 y5;obtain ⟨y0,y1,y2,y3,y4,y5⟩:=rsix HK43
  cases p3 with
  | false=>
   go_wp2_with fail;go_ret;exact ⟨ret_bool (by rw [HZ.out] <;> rfl),by rw [HA.out]; exact HB43.out⟩
  | true=>
   go_wp2_with fail;go_ret;exact ⟨ret_bool (by rw [HZ.out] <;> rfl),by rw [HA.out]; exact HB43.out⟩
theorem rstt_all:∀N,RSt N:=by
 intro N;induction N with
 | zero=>intro h k _ _ _ _ _ hN; omega
 | succ N ih=>exact rst_step ih
theorem rright_any (F:Fo) (v:Value) (w:World) (hF:FoB F) (hr:FRow w v F):Calls Tryz.prog 19 #[v] w fun e w'=>e=.returned (.bool (rt .st F))∧Below w.heap.size w w':=rrights_any (rstt_all F.size) F v w (Nat.le_refl _) hF hr
end Go.Proofs.YtbaidkefobhipaaGreatDoor
