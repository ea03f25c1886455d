/-
  Walks: the reference's scope in memory; has, fail, use.
  Walks: the reference's use.
  An append of a row of names to an own row, whatever their lengths; in a region that draws its order.
-/
import Derived.Test.YtbaidkefobhipaaGreatDoorZS50
import Derived.Test.YtbaidkefobhipaaGreatDoorZS23
import Derived.BigQuiet
import Derived.Test.YtbaidkefobhipaaGreatDoorZRq6
import Derived.Deep.DeepCutAuto
import Derived.Maps.AppendAt
namespace Go.Proofs.YtbaidkefobhipaaGreatDoor
set_option maxHeartbeats 8000000
set_option maxRecDepth 100000
open Go.RowKit

def fsV (l:List Nm):List Value:=l.map fun x=>.string ⟨x.toArray⟩
structure RkW (B:Nat) (w:World) (S:Nat) (s:RS) (nv fv:Value):Prop where
 blk:Blk w S 49 #[nv,.int .i64 (s.out:Nat),.bool s.inF,.bool s.inL,.bool s.top,fv,.int .i64 s.pos,.int .i64 (s.e:Nat)]
 nm:NmRow (maskW (fun k=>decide (k≠S)&&decide (fv.ownBlock≠some k)) w) nv s.names
 fns:w.ownsRow B 9 1 fv s.fs.length (fsV s.fs)
 ge:B≤S
structure Cg (S:Nat) (fv:Value) (w w':World):Prop where
 os:w'.os=w.os
 tape:w'.tape=w.tape
 output:w'.output=w.output
 size:w.heap.size≤w'.heap.size
 block:∀k,k < w.heap.size→k≠S→fv.ownBlock≠some k→w'.heap[k]?=w.heap[k]?
theorem Cg.of_below {S:Nat} {fv:Value} {w w':World} (h:Below w.heap.size w w'):Cg S fv w w':=⟨h.os,h.tape,h.output,h.size,fun k hk _ _=>h.block k hk⟩
theorem Cg.refl (S:Nat) (fv:Value) (w:World):Cg S fv w w:=Cg.of_below (Below.refl _ _)
theorem Cg.trans {S:Nat} {fv fv':Value} {a b c:World} (h:Cg S fv a b) (h':Cg S fv' b c) (hv:∀g,fv'.ownBlock=some g→fv.ownBlock=some g∨a.heap.size≤g):Cg S fv a c:=
 ⟨h'.os.trans h.os,h'.tape.trans h.tape,h'.output.trans h.output,Nat.le_trans h.size h'.size,fun k hk h1 h2=>
  (h'.block k (Nat.lt_of_lt_of_le hk h.size) h1 (fun he=>(hv k he).elim h2 (fun hl=>by omega))).trans (h.block k hk h1 h2)⟩
theorem RkW.own_ge {B S:Nat} {w:World} {s:RS} {nv fv:Value} (h:RkW B w S s nv fv):∀g,fv.ownBlock=some g→B≤g∧g < w.heap.size:=fun g hg=>by have:=h.fns.lt g hg; omega
theorem Cg.below {B S:Nat} {w w':World} {s:RS} {nv fv:Value} (h:Cg S fv w w') (hr:RkW B w S s nv fv) (hB:B≤w.heap.size):Below B w w':=
 ⟨h.os,h.tape,h.output,h.size,fun k hk=>h.block k (by omega) (by have:=hr.ge; omega) (fun he=>by have:=(hr.own_ge k he).1; omega)⟩
theorem RkW.keep {B S:Nat} {w w':World} {s:RS} {nv fv:Value} (h:RkW B w S s nv fv) (hk:∀k,k < w.heap.size→w'.heap[k]?=w.heap[k]?):RkW B w' S s nv fv:=
 ⟨(hk S h.blk.lt).trans h.blk,h.nm.sub (MSub.csub fun k hl hS=>⟨hS,hk k hl⟩),own_keep h.fns fun g _ hl=>hk g hl,h.ge⟩
theorem RkW.below {B S:Nat} {w w':World} {s:RS} {nv fv:Value} (h:RkW B w S s nv fv) (hb:Below w.heap.size w w'):RkW B w' S s nv fv:=h.keep fun k hk=>hb.block k hk
theorem RkW.names {B S:Nat} {w:World} {s:RS} {nv fv:Value} (h:RkW B w S s nv fv):NmRow w nv s.names:=h.nm.sub (unmask _ _)
theorem RkW.shape {B S:Nat} {w:World} {s:RS} {nv fv:Value} (h:RkW B w S s nv fv):(∃x c,nv=.slice x s.names.length c∧s.names.length≤c)∧∃x c,fv=.slice x s.fs.length c∧s.fs.length≤c:=by
 obtain ⟨x,c,h1,h2,-⟩:=h.names
 refine ⟨⟨x,c,h1,h2⟩,?_⟩
 rcases h.fns.2 with ⟨h3,h4⟩ | ⟨g,cap,cur,h3,_,_,h4,_⟩
 ·exact ⟨none,0,by rw [h3,h4],by omega⟩
 ·exact ⟨_,_,h3,h4⟩
theorem RkW.own_ne {B S:Nat} {w:World} {s:RS} {nv fv:Value} (h:RkW B w S s nv fv):fv.ownBlock≠some S:=fun he=>own_blk_ne' h.blk h.fns.2 (by decide) he.symm
theorem RkW.put {B S:Nat} {w:World} {s:RS} {nv fv:Value} (h:RkW B w S s nv fv) (p:Int) (k:Nat):
  RkW B ((w.setCell ⟨S,6,none⟩ (.int .i64 p)).setCell ⟨S,7,none⟩ (.int .i64 (k:Nat))) S { s with pos:=p,e:=k } nv fv∧Cg S fv w ((w.setCell ⟨S,6,none⟩ (.int .i64 p)).setCell ⟨S,7,none⟩ (.int .i64 (k:Nat))):=by
 have key:∀j,j≠S→((w.setCell ⟨S,6,none⟩ (.int .i64 p)).setCell ⟨S,7,none⟩ (.int .i64 (k:Nat))).heap[j]?=w.heap[j]?:=fun j hj=>(Below.heap_setCell _ _ _ j hj).trans (Below.heap_setCell _ _ _ j hj)
 refine ⟨⟨(h.blk.put 6 (.int .i64 p)).put 7 (.int .i64 (k:Nat)),h.nm.sub (MSub.csub fun j _ hS=>⟨hS,key j (by simp at hS; exact hS.1)⟩),own_keep h.fns fun g hg _=>key g (fun he=>h.own_ne (by rw [← he]; exact hg)),h.ge⟩,⟨rfl,rfl,rfl,?_,fun j _ hj _=>key j hj⟩⟩
 simp [World.setCell]
theorem scope_eight {w:World} {S:Nat} {t:TypeId} {a b c d e f g h:Value} (hb:Blk w S t #[a,b,c,d,e,f,g,h]):
  w.cell? ⟨S,0,none⟩=some a∧w.cell? ⟨S,1,none⟩=some b∧w.cell? ⟨S,2,none⟩=some c∧w.cell? ⟨S,3,none⟩=some d∧w.cell? ⟨S,4,none⟩=some e∧w.cell? ⟨S,5,none⟩=some f∧w.cell? ⟨S,6,none⟩=some g∧w.cell? ⟨S,7,none⟩=some h:=
 ⟨hb.cell 0,hb.cell 1,hb.cell 2,hb.cell 3,hb.cell 4,hb.cell 5,hb.cell 6,hb.cell 7⟩
theorem rfail_any {B S:Nat} {s:RS} {nv fv:Value} (w:World) (h:RkW B w S s nv fv) (p:Int) (k:Nat):
  Calls Tryz.prog 80 #[.pointer (some ⟨S,0,none⟩),.int .i64 p,.int .i64 (k:Nat)] w fun e w'=>e=.returned (.tuple #[])∧RkW B w' S (s.fail p k) nv fv∧Cg S fv w w':=by
 have HR:=zH h
 obtain ⟨c0,c1,c2,c3,c4,c5,c6,c7⟩:=scope_eight h.blk
 have f6:w.frozen? ⟨S,6,none⟩=false:=h.blk.frozen 6
 have f7:(w.setCell ⟨S,6,none⟩ (.int .i64 p)).frozen? ⟨S,7,none⟩=false:=(h.blk.put 6 (.int .i64 p)).frozen 7
 have d7:(w.setCell ⟨S,6,none⟩ (.int .i64 p)).cell? ⟨S,7,none⟩=some (.int .i64 (s.e:Nat)):=(h.blk.put 6 (.int .i64 p)).cell 7
 obtain ⟨e0,he0⟩:∃q,s.e=q:=⟨_,rfl⟩
 have HE:=zH he0
 rw [he0] at c7 d7;clear h he0;by_cases hz:e0=0
 ·have HF:Hid (s.fail p k={ s with pos:=p,e:=k }):=by show _=_; unfold RS.fail; rw [if_pos (by rw [HE.out]; exact hz)]
  have g1:((e0:Int)==0)=true:=by simp [hz]
  have HP:=zH (HR.out.put p k)
  clear hz;go_enter Tryz.func80,Tryz.ntmps80;go_wp2_with fail;refine bodyPost_end (results_none rfl _ _ _) rfl ?_;exact ⟨rfl,by rw [HF.out]; exact HP.out.1,HP.out.2⟩
 ·have HF:Hid (s.fail p k=s):=by show _=_; unfold RS.fail; rw [if_neg (by rw [HE.out]; exact hz)]
  have g1:((e0:Int)==0)=false:=by simp [hz]
  clear hz;go_enter Tryz.func80,Tryz.ntmps80;go_wp2_with fail;refine bodyPost_end (results_none rfl _ _ _) rfl ?_;exact ⟨rfl,by rw [HF.out]; exact HR.out,Cg.refl _ _ _⟩
theorem has_any (l:List Nm) (v:Value) (i:Nat) (s:Nm) (w:World) (hr:NmRow w v l) (hln:l.length≤1099511627776):
  Calls Tryz.prog 81 #[v,.int .i64 (i:Nat),.string ⟨s.toArray⟩] w fun e w'=>e=.returned (.bool (decide (s∈l.drop i)))∧w'=w:=by
 have HR:=zH hr
 obtain ⟨x,c,rfl,hl,hc,-⟩:=id hr
 unfold maxLen at hc;obtain ⟨n,hn⟩:∃n,l.length=n:=⟨_,rfl⟩;have HL:=zH hn;rw [hn] at HR hl hln ⊢;obtain ⟨z,hz⟩:∃z,decide (s∈l.drop i)=z:=⟨_,rfl⟩;have HZ:=zH hz;rw [hz];clear hr hn hz;go_enter Tryz.func81,Tryz.ntmps81;go_wp2_with fail;go_loopw [7] (fun vi wr=>∃j:Nat,vi=.int .i64 j∧i≤j∧(j≤n∨j=i)∧Hid (∀k,i≤k→k < j→l[k]?≠some s)∧wr=w) (fun vi _=>n - (intOf vi).toNat)
 case atStart=>exact ⟨i,rfl,Nat.le_refl _,Or.inr rfl,fun k h1 h2=>by omega,rfl⟩
 case round=>
  obtain ⟨j,rfl,hij,hjn,hno,rfl⟩:=hrel
  by_cases hlt:j < n
  ·have dlt:decide ((j:Int) < (n:Int))=true:=by simp; omega
   have j1:(j:Int) < (n:Int):=by omega
   have hjl:j < l.length:=by rw [HL.out]; exact hlt
   obtain ⟨b,o,rfl,-,c1⟩:=nm_cell HR.out j hjl
   obtain ⟨y,hy⟩:∃y,l[j]=y:=⟨_,rfl⟩
   have hgy:l[j]?=some y:=by rw [List.getElem?_eq_getElem hjl,hy]
   rw [hy] at c1;clear hjn;by_cases hc2:y=s
   ·have e1:(y==s)=true:=by simp [hc2]
    have HT:Hid (z=true):=by
     show _=_
     rw [← HZ.out,decide_eq_true_eq,← hc2];refine List.mem_of_getElem? (i:=j - i) ?_;rw [List.getElem?_drop,show i+(j - i)=j by omega,hgy]
    clear hy hgy hc2 hno hjl;go_wp2_with fail;go_ret;exact ⟨by rw [HT.out]; rfl,rfl⟩
   ·have e1:(y==s)=false:=by simp [hc2]
    have HN:Hid (∀k,i≤k→k < j+1→l[k]?≠some s):=fun k h1 h2=>by
     by_cases hk:k < j
     ·exact hno.out k h1 hk
     ·obtain rfl:k=j:=by omega
      rw [hgy];intro he;injection he with he
      exact hc2 he
    clear hy hgy hc2 hno hjl;go_wp2_with fail;go_roundw
    case rel=>exact ⟨j+1,by go_num,by omega,Or.inl (by omega),HN,by trivial⟩
    case measure=>simp [intOf]; omega
  ·have dlt:decide ((j:Int) < (n:Int))=false:=by simp; omega
   have HT:Hid (z=false):=by
    show _=_
    rw [← HZ.out,decide_eq_false_iff_not];intro hm;obtain ⟨k,hk⟩:=List.mem_iff_getElem?.1 hm;rw [List.getElem?_drop] at hk;have h1:=(List.getElem?_eq_some_iff.1 hk).1;rw [HL.out] at h1;exact hno.out (i+k) (by omega) (by omega) hk
   clear hno;go_wp2_with fail;go_ret;exact ⟨by rw [HT.out]; rfl,rfl⟩
open Go.RowKit

theorem use_app:∀(A R:Fo) (s:RS),s.use (A.app R)=(s.use A).use R:=by
 intro A;induction A with
 | nil=>intro R s; rfl
 | cons h k r _ ih=>intro R s; simp only [Fo.app,RS.use,ih]
theorem fail_names (s:RS) (p:Int) (k:Nat):(s.fail p k).names=s.names:=by unfold RS.fail; split <;> rfl
theorem use_names:∀(F:Fo) (s:RS),(s.use F).names=s.names:=by
 intro F;induction F with
 | nil=>intro s; rfl
 | cons h k r ihk ihr=>
  intro s;simp only [RS.use];rw [ihr,ihk];split
  ·exact fail_names _ _ _
  ·rfl
def RUs (w0:World) (N:Nat):Prop:=∀(h:Hd) (k:Fo) (xn xk:Option Addr) (cn ck:Nat) (w:World) (S:Nat) (s:RS) (nv fv:Value),k.size < N→FRow w0 (.slice xk k.len ck) k→Below w0.heap.size w0 w→RkW w0.heap.size w S s nv fv→s.names.length≤1099511627776→
 Calls Tryz.prog 82 #[.pointer (some ⟨S,0,none⟩),.agg (ndV h (.slice xn h.names.length cn) (.slice xk k.len ck))] w fun e w'=>e=.returned (.tuple #[])∧RkW w0.heap.size w' S (s.use (.cons h k .nil)) nv fv∧Cg S fv w w'
theorem box_cg {S A:Nat} {fv:Value} {wr wx:World} {t:TypeId} {cs:Array Value} (hb:Blk wr A t cs) (hc:Cg S fv wr wx) (hS:A≠S) (hf:fv.ownBlock≠some A):Blk wx A t cs:=(hc.block A hb.lt hS hf).trans hb
theorem ruse_step {w0:World} {N:Nat} (ih:RUs w0 N):RUs w0 (N+1):=by
 intro h k xn xk cn ck w S s nv fv hN hkr hb0 hr hln;have HIH:=zH ih;have HN:=zH hN;have HKR:=zH hkr;have HB0:=zH hb0;have HLN:=zH hln;have hbz:=(Below.refl w.heap.size w).alloc (Nat.le_refl _) (.cells (ndV h (.slice xn h.names.length cn) (.slice xk k.len ck)) 31);have HKB:=zH (Blk.new w 31 (ndV h (.slice xn h.names.length cn) (.slice xk k.len ck)));have HRZ:=zH (hr.below hbz)
 have HCZ:Hid (Cg S fv w _):=Cg.of_below hbz
 have HSA:Hid (w.heap.size≠S):=by have:=hr.blk.lt; show _≠_; omega
 have HFA:Hid (fv.ownBlock≠some w.heap.size):=fun he=>by have:=(hr.own_ge _ he).2; omega
 have HBB:Hid (w0.heap.size≤w.heap.size):=hb0.size
 obtain ⟨⟨nx,nc,rfl,-⟩,⟨fx,fc,rfl,-⟩⟩:=hr.shape
 obtain ⟨s1,hs1⟩:∃s1,(if h.kind=3∧h.text∉s.names then s.fail h.pos 13 else s)=s1:=⟨_,rfl⟩
 have HS1:=zH hs1
 have HUS:Hid (s.use (.cons h k .nil)=s1.use k):=by show _=_; rw [← hs1]; rfl
 have HLN1:Hid (s1.names.length≤1099511627776):=by
  show _≤_
  rw [← hs1];split
  ·rw [fail_names]; exact hln
  ·exact hln
 rw [HUS.out];obtain ⟨kl,hkl⟩:∃q,k.len=q:=⟨_,rfl⟩;have HKL:=zH hkl;have hkc:kl≤ck∧ck≤maxLen:=by
  obtain ⟨_,_,e1,h2,h3,-⟩:=hkr
  injection e1 with _ e2 e3
  rw [e3,← hkl];exact ⟨h2,h3⟩
 rw [hkl] at HKB HRZ HCZ HKR hbz ⊢;clear hN hkr hb0 hr hln hs1 hkl ih hbz HUS;unfold maxLen at hkc;obtain ⟨hkc1,hkc2⟩:=hkc;obtain ⟨kd,tx,nu,nm,ps⟩:=h;obtain ⟨nl,hnl⟩:∃l,nm.length=l:=⟨_,rfl⟩;unfold ndV at HKB HRZ HCZ ⊢;simp only [hnl] at HKB HRZ HCZ HS1 ⊢;clear hnl;go_enter Tryz.func82,Tryz.ntmps82;go_upto_region 1 with fail
 generalize w.alloc (.cells #[.int .i64 kd,.string ⟨tx.toArray⟩,.int .i64 nu,.slice xn nl cn,.slice xk kl ck,.int .i64 ps] 31)=wz at*;generalize hA:w.heap.size=A at*;have HA:=zH hA;clear hA
 go_cut [17] from 5 to 16 (fun v17 wx=>∃b,v17=.bool b∧Hid (s1=if b=true then s.fail ps 13 else s)∧Hid (RkW w0.heap.size wx S s (.slice nx s.names.length nc) (.slice fx s.fs.length fc))∧Hid (Cg S (.slice fx s.fs.length fc) w wx)∧Hid (Blk wx A 31 #[.int .i64 kd,.string ⟨tx.toArray⟩,.int .i64 nu,.slice xn nl cn,.slice xk kl ck,.int .i64 ps]))
 case first=>
  obtain ⟨y0,y1,y2,y3,y4,y5⟩:=rsix HKB
  obtain ⟨c0,c1,c2,c3,c4,c5,c6,c7⟩:=scope_eight HRZ.out.blk
  have HBD:Hid (∀m,Below wz.heap.size wz (wz.drewN m)):=fun m=>drewN_below (Below.refl _ _) m
  have HKA:Hid (A < wz.heap.size):=HKB.out.lt
  by_cases h3:kd=3
  ·have n3:(kd==3)=true:=by simp [h3]
   have HH:=zH (fun m=>has_any s.names (.slice nx s.names.length nc) 0 tx (wz.drewN m) (HRZ.out.below (HBD.out m)).names HLN.out)
   obtain ⟨q,hq⟩:∃q,decide (tx∈s.names.drop 0)=q:=⟨_,rfl⟩
   rw [hq] at HH;have HE:Hid (s1=if (!q)=true then s.fail ps 13 else s):=by
    show _=_
    rw [← HS1.out,← hq,List.drop_zero];by_cases hm:tx∈s.names <;> simp [h3,hm]
   clear hq h3;go_quiet ((go_at_call 81; exact Calls.quiet_of_same (HH.out _)));go_wp2_with fail;go_meet
   case rel=>exact ⟨!q,rfl,HE,HRZ.out.below (HBD.out nq),HCZ.out.trans (Cg.of_below (HBD.out nq)) fun g hg=>Or.inl hg,((HBD.out nq).block A HKA.out).trans HKB.out⟩
  ·have n3:(kd==3)=false:=by simp [h3]
   have HE:Hid (s1=if false=true then s.fail ps 13 else s):=by
    show _=_
    rw [← HS1.out,if_neg (fun h2=>h3 h2.1)]
    simp
   clear h3;go_quiet (fail);go_wp2_with fail;go_meet
   case rel=>exact ⟨false,rfl,HE,HRZ.out.below (HBD.out nq),HCZ.out.trans (Cg.of_below (HBD.out nq)) fun g hg=>Or.inl hg,((HBD.out nq).block A HKA.out).trans HKB.out⟩
 case rest=>
 obtain ⟨bq,rfl,HE,hr1,hc1,hk1⟩:=hcut
 clear HRZ HCZ HKB HS1;go_upto_if 17 with fail
 go_cut [] from 18 to 21 (fun wx=>Hid (RkW w0.heap.size wx S s1 (.slice nx s.names.length nc) (.slice fx s.fs.length fc))∧Hid (Cg S (.slice fx s.fs.length fc) w wx)∧Hid (Blk wx A 31 #[.int .i64 kd,.string ⟨tx.toArray⟩,.int .i64 nu,.slice xn nl cn,.slice xk kl ck,.int .i64 ps]))
 case first=>
  obtain ⟨y0,y1,y2,y3,y4,y5⟩:=rsix hk1
  cases bq with
  | false=>
   go_wp2_with fail;go_meet
   case rel=>exact ⟨by rw [HE.out]; exact hr1.out,hc1,hk1⟩
  | true=>
   have HFL:=zH (rfail_any _ hr1.out ps 13)
   go_wp2_with fail;refine HFL.out.mono ?_;rintro e w1 ⟨rfl,hr2,hc2⟩;have HR1:Hid (RkW w0.heap.size w1 S s1 (.slice nx s.names.length nc) (.slice fx s.fs.length fc)):=by rw [HE.out]; exact hr2
   have HC1:=zH (hc1.out.trans hc2 fun g hg=>Or.inl hg)
   have HK1:=zH (box_cg hk1.out hc2 HSA.out HFA.out)
   clear hr2 hc2 HFL;go_wp2_with fail;go_meet
   case rel=>exact ⟨HR1,HC1,HK1⟩
 case rest=>
  clear hr1 hc1 hk1 HE;obtain ⟨hr1,hc1,hk1⟩:=hcut;go_wp2_with fail
  go_loopw [4] (fun vi wr=>∃(i:Nat) (F R:Fo),vi=.int .i64 i∧i≤kl∧Hid (k=F.app R∧F.len=i)∧Hid (RkW w0.heap.size wr S (s1.use F) (.slice nx s.names.length nc) (.slice fx s.fs.length fc))∧Hid (Cg S (.slice fx s.fs.length fc) w wr)∧Hid (Blk wr A 31 #[.int .i64 kd,.string ⟨tx.toArray⟩,.int .i64 nu,.slice xn nl cn,.slice xk kl ck,.int .i64 ps])) (fun vi _=>kl - (intOf vi).toNat)
  case atStart=>exact ⟨0,.nil,k,rfl,Nat.zero_le _,⟨rfl,rfl⟩,hr1,hc1,hk1⟩
  case round=>
   clear hr1 hc1 hk1;obtain ⟨i,F,R,rfl,hi,hF,hrr,hcr,hkr⟩:=hrel;obtain ⟨y0,y1,y2,y3,y4,y5⟩:=rsix hkr;by_cases hlt:i < kl
   ·have dlt:decide ((i:Int) < (kl:Int))=true:=by simp; omega
    have i1:(i:Int) < (kl:Int):=by omega
    obtain ⟨h2,k2,r2,rfl⟩:∃h k r,R=.cons h k r:=by
     cases R with
     | nil=>have h1:=hF.out.2; have h2:=HKL.out; rw [hF.out.1,Fo.app_nil] at h2; omega
     | cons h k r=>exact ⟨h,k,r,rfl⟩
    have hf1:FRow w0 (.slice xk kl ck) (F.app (.cons h2 k2 r2)):=by rw [← hF.out.1]; exact HKR.out
    have hbw:Below w0.heap.size w0 wr:=HB0.out.trans (by
     have hr0:=hcr.out
     exact ⟨hr0.os,hr0.tape,hr0.output,hr0.size,fun j hj=>hr0.block j (by have:=HBB.out; have:=HA.out; omega) (by have:=hrr.out.ge; omega) (fun he=>by have:=(hrr.out.own_ge j he).1; omega)⟩)
    obtain ⟨b,off,xn2,cn2,xk2,ck2,rfl,hcell,-,hk2⟩:=kid_at hf1
    rw [hF.out.2] at hcell;obtain ⟨k0,k1,k2',k3,k4,k5⟩:=hcell wr hbw;have hks:k2.size < N:=by
     have h1:=HN.out
     rw [hF.out.1] at h1;have:=Fo.kid_size F h2 k2 r2;omega
    have HC:=zH (HIH.out h2 k2 xn2 xk2 cn2 ck2 wr S (s1.use F) _ _ hks hk2 hbw hrr.out (by rw [use_names]; exact HLN1.out))
    have HNX:Hid (k=(F.app (.cons h2 k2 .nil)).app r2∧(F.app (.cons h2 k2 .nil)).len=i+1):=⟨by rw [← Fo.next]; exact hF.out.1,by rw [Fo.app_len,hF.out.2]; rfl⟩
    have HUA:Hid ((s1.use F).use (.cons h2 k2 .nil)=s1.use (F.app (.cons h2 k2 .nil))):=(use_app _ _ _).symm
    rw [HUA.out] at HC;have HCR:=zH hcr.out;have HKK:=zH hkr.out;clear hf1 hbw hcell hk2 hks hF hrr hcr hkr HUA;obtain ⟨kd2,tx2,nu2,nm2,ps2⟩:=h2;unfold ndV at HC;simp only at k0 k1 k2' k3 k4 k5 HC;go_wp2_with fail;refine HC.out.mono ?_;rintro e w1 ⟨rfl,hr1,hc1⟩;have HR1:=zH hr1;have HC1:=zH (HCR.out.trans hc1 fun g hg=>Or.inl hg)
    have HK1:=zH (box_cg HKK.out hc1 HSA.out HFA.out)
    clear hr1 hc1 HC HCR HKK;go_wp2_with fail;go_roundw
    case rel=>exact ⟨i+1,_,r2,by go_num,by omega,HNX,HR1,HC1,HK1⟩
    case measure=>simp [intOf]; omega
   ·have dlt:decide ((i:Int) < (kl:Int))=false:=by simp; omega
    have hR:R=.nil:=by
     cases R with
     | nil=>rfl
     | cons h k r=>have h1:=hF.out.1; have h2:=HKL.out; rw [h1,Fo.app_len,hF.out.2] at h2; simp only [Fo.len] at h2; omega
    have HFK:Hid (F=k):=by show _=_; rw [hF.out.1,hR,Fo.app_nil]
    clear hF hR;go_wp2_with fail;refine bodyPost_end (results_none rfl _ _ _) rfl ?_;exact ⟨rfl,by rw [← HFK.out]; exact hrr.out,hcr.out⟩
theorem ruse_all (w0:World):∀N,RUs w0 N:=by
 intro N;induction N with
 | zero=>intro h k _ _ _ _ _ _ _ _ _ hN; omega
 | succ N ih=>exact ruse_step ih
open Go.RowKit

theorem run_app_nil (w:World) (base n:Nat) (xs:List Value) (v:Value) (hown:w.ownsRow base 9 1 v n xs) (ty:TypeId):
  (Builtin.append_ #[29,29] ty #[v,.slice none 0 0]).run Tryz.prog w=.ok v w:=by
 rcases hown.2 with ⟨rfl,-⟩ | ⟨g,cap,cur,rfl,-,-,h4,-⟩
 ·go_simp
 ·have h5:n+0≤cap:=h4
  go_simp
theorem fsV_app (a b:List Nm):fsV (a++b)=fsV a++fsV b:=by simp [fsV]
theorem fsV_len (a:List Nm):(fsV a).length=a.length:=by simp [fsV]
theorem run_app_names (w:World) (base:Nat) (v u:Value) (acc l:List Nm) (hown:w.ownsRow base 9 1 v acc.length (fsV acc)) (hr:NmRow w u l) (hbase:base≤w.heap.size) (hln:acc.length+l.length≤1099511627776) (ty:TypeId):
  ∃v' w',(Builtin.append_ #[29,29] ty #[v,u]).run Tryz.prog w=.ok v' w'∧w'.ownsRow base 9 1 v' (acc.length+l.length) (fsV (acc++l))∧w.grownBy w' v.ownBlock∧(v'.ownBlock=v.ownBlock∨v'.ownBlock=some w.heap.size):=by
 obtain ⟨x,c,rfl,h2,h3,h4,h5⟩:=id hr
 cases x with
 | none=>
  obtain rfl:=h4 rfl
  have hl:l=[]:=List.eq_nil_of_length_eq_zero (by omega)
  subst hl;exact ⟨v,w,run_app_nil w base _ _ v hown ty,by simpa using hown,⟨rfl,rfl,rfl,Nat.le_refl _,fun _ _ _=>rfl⟩,Or.inl rfl⟩
 | some a=>
  obtain ⟨ht,⟨i,hi,hz,hsz,hby⟩,hzs,hp⟩:=el_str
  have hcells:∀j y,(fsV l)[j]?=some y→w.cell? (a.add j)=some y:=by
   intro j y hj;have hjl:j < l.length:=by
    have:=(List.getElem?_eq_some_iff.1 hj).1
    rwa [fsV_len] at this
   obtain ⟨b,o,hx,hc⟩:=h5 (by omega)
   cases hx
   have h6:=hc j hjl
   unfold fsV at hj;rw [List.getElem?_map,List.getElem?_eq_getElem hjl] at hj;injection hj with hj
   rw [Addr.add_lit,← hj];exact h6
  obtain ⟨v',w',e1,e2,e3,-,e5⟩:=run_append_own_at (P:=Tryz.prog) w base 29 ty 9 i (.string ⟨#[]⟩) 1 16 ht hi hz hsz hby hzs hp v acc.length (fsV acc) hown a l.length c (fsV l) (by rw [fsV_len,Nat.mul_one]) hcells (fun y hy=>by
   unfold fsV at hy;obtain ⟨q,_,rfl⟩:=List.mem_map.1 hy;rfl) (by unfold maxLen; omega) (by omega) hbase
  exact ⟨v',w',e1,by rw [fsV_app]; exact e2,e3,e5⟩
theorem pstep_apS {ops:Array Oper} {o:Oper} {a:Act} {K:Act→World→Prop} {Q:Exit→Act→World→Prop} {E:Prop} {s xx:Operand} {w:World} {base:Nat} {v u:Value} {acc l:List Nm}
  (hown:w.ownsRow base 9 1 v acc.length (fsV acc)) (hr:NmRow w u l) (hbase:base≤w.heap.size) (hln:acc.length+l.length≤1099511627776)
  (hgd:o.guard=none) (ho:o.op=.call { callee:=.builtin .append,args:=#[s,xx],argTypes:=#[29,29] }) (hs:a.eval s=v) (hx:a.eval xx=u)
  (h:∀v' w',w'.ownsRow base 9 1 v' (acc.length+l.length) (fsV (acc++l))→w.grownBy w' v.ownBlock→(v'.ownBlock=v.ownBlock∨v'.ownBlock=some w.heap.size)→K (a.put o.dst v') w'):
  if Region.wanted o (yielded ops a.tmps)=true then Oper.wp Tryz.prog o a w K Q else E:=by
 rw [if_pos (by simp [Region.wanted,hgd])]
 obtain ⟨v',w',e1,e2,e3,e4⟩:=run_app_names w base v u acc l hown hr hbase hln o.type
 unfold Oper.wp execOp;simp only [ho,resolve,invoke,builtin,Sem.run_bind,Sem.run_pure,Result.andThen_ok,List.map_toArray,List.map_cons,List.map_nil,hs,hx,e1];exact h v' w' e2 e3 e4
end Go.Proofs.YtbaidkefobhipaaGreatDoor
