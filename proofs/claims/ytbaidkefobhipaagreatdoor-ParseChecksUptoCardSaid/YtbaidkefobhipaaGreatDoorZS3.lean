/-
  Walk: Size, how many nodes a list of trees has.
  Walks: slices.Equal of names; Same, whether two lists of trees are equal but for their offsets.
  Walks: Same, whether two lists of trees are equal but for their offsets.
  Walks: the strength of an operator; whether a text is a name.
-/
import Derived.Test.YtbaidkefobhipaaGreatDoorProg
import Derived.Test.YtbaidkefobhipaaGreatDoorZS2
import Derived.StillTailTactics
import Derived.Deep.Cut
import Derived.Deep.CutBlock
import Derived.Deep.CutRange
import Derived.BigQuiet
namespace Go.Proofs.YtbaidkefobhipaaGreatDoor
set_option maxHeartbeats 8000000
set_option maxRecDepth 100000
open Go.RowKit

theorem wrap_sum (x y:Int):wrap64 (wrap64 x+wrap64 y)=wrap64 (x+y):=by unfold wrap64; omega
theorem wrap_nat (n:Nat) (h:n≤maxLen):wrap64 (n:Int)=(n:Int):=by unfold maxLen at h; unfold wrap64; omega

theorem size_all:∀(N:Nat) (F:Fo) (v:Value) (w:World),F.size < N→FRow w v F→
  Calls Tryz.prog 13 #[v] w fun e w'=>e=.returned (.int .i64 (wrap64 (F.size:Int)))∧Below w.heap.size w w':=by
 intro N;induction N with
 | zero=>intro F v w h; omega
 | succ N ih=>
  intro F v w hN hr;have HIH:=zH ih;have HN:=zH hN;clear ih hN;obtain ⟨x,c,rfl,hl,hc,-⟩:=id hr;have HR:=zH hr;have HB0:=zH (Below.refl w.heap.size w);have HFL:=zH (wrap_nat F.len (Nat.le_trans hl hc));unfold maxLen at hc;clear hr;obtain ⟨n,hn⟩:∃n,F.len=n:=⟨_,rfl⟩;rw [hn] at HR hl HFL ⊢;have HL:=zH hn;obtain ⟨w0,hw0⟩:∃w0,w0=w:=⟨_,rfl⟩;rw [← hw0] at HB0 HR ⊢;have HW:=zH hw0;clear hn hw0
  go_enter Tryz.func13,Tryz.ntmps13
  go_wp2_with fail;go_loopw [3,10] (fun va vi wr=>∃(i:Nat) (a:Int) (A R:Fo),va=.int .i64 a∧vi=.int .i64 i∧i≤n∧Hid (F=A.app R∧A.len=i∧a=wrap64 ((n:Int)+((A.size:Int) - (i:Int))))∧Hid (Below w0.heap.size w0 wr)) (fun _ vi _=>n - (intOf vi).toNat)
  case atStart=>exact ⟨0,n,.nil,F,rfl,rfl,Nat.zero_le _,⟨rfl,rfl,by simp [Fo.size,HFL.out]⟩,HB0.out⟩
  case round=>
   obtain ⟨i,a,A,R,rfl,rfl,hi,hA,hbw⟩:=hrel
   by_cases hlt:i < n
   ·have dlt:decide ((i:Int) < (n:Int))=true:=by simp; omega
    obtain ⟨h,k,r,rfl⟩:∃h k r,R=.cons h k r:=by
     cases R with
     | nil=>have h1:=hA.out.2.1; have h2:=HL.out; rw [hA.out.1,Fo.app_nil] at h2; omega
     | cons h k r=>exact ⟨h,k,r,rfl⟩
    have hfr:FRow wr (.slice x n c) (A.app (.cons h k r)):=by rw [← hA.out.1]; exact HR.out.below hbw.out
    obtain ⟨b,off,xn,cn,xk,ck,rfl,⟨k0,k1,k2,k3,k4,k5⟩,hn1,hk1⟩:=hfr.node
    rw [hA.out.2.1] at k0 k1 k2 k3 k4 k5;have hks:k.size < N:=by
     have h1:=HN.out
     rw [hA.out.1] at h1;have:=Fo.kid_size A h k r;omega
    obtain ⟨z,hz⟩:∃z,wrap64 (k.size:Int)=z:=⟨_,rfl⟩
    have HK:=zH (fun w' (hb:Below wr.heap.size wr w')=>HIH.out k (.slice xk k.len ck) w' hks (hk1.below hb))
    rw [hz] at HK;have HZ:=zH hz;have HBR:=zH (Below.refl wr.heap.size wr);clear hz hks hk1 hn1 hfr;go_upto_region 5 with fail
    have HBA:=zH (HBR.out.alloc (Nat.le_refl _) (.cells (ndV h (.slice xn h.names.length cn) (.slice xk k.len ck)) 31))
    have HKB:=zH (Blk.new wr 31 (ndV h (.slice xn h.names.length cn) (.slice xk k.len ck)))
    unfold ndV at HBA HKB;generalize wr.alloc (.cells #[.int .i64 h.kind,.string ⟨h.text.toArray⟩,.int .i64 h.num,.slice xn h.names.length cn,.slice xk k.len ck,.int .i64 h.pos] 31)=wz at*;have HSZ:Hid (w0.heap.size≤wr.heap.size):=hbw.out.size;generalize wr.heap.size=KB at*;have y4:wz.cell? ⟨KB,4,none⟩=some (.slice xk k.len ck):=HKB.out.cell 4;clear k0 k1 k2 k3 k4 k5;go_wp2_with fail
    refine (HK.out wz HBA.out).mono ?_
    rintro e w5 ⟨rfl,hb⟩;have HX:=zH (hbw.out.trans ((HBA.out.trans (hb.mono (Nat.le_of_lt HKB.out.lt))).mono HSZ.out));have HN1:Hid (F=(A.app (.cons h k .nil)).app r∧(A.app (.cons h k .nil)).len=i+1∧wrap64 (a+z)=wrap64 ((n:Int)+(((A.app (.cons h k .nil)).size:Int) - ((i+1:Nat):Int)))):=by
     refine ⟨by rw [← Fo.next]; exact hA.out.1,by rw [Fo.app_len,hA.out.2.1]; rfl,?_⟩
     rw [hA.out.2.2,← HZ.out,wrap_sum,Fo.app_size];congr 1;simp only [Fo.size];omega
    clear hb HK HBA HKB y4 HBR hA;go_wp2_with fail;go_roundw
    case rel=>exact ⟨i+1,wrap64 (a+z),A.app (.cons h k .nil),r,rfl,by go_num,by omega,HN1,HX⟩
    case measure=>simp [intOf]; omega
   ·have dlt:decide ((i:Int) < (n:Int))=false:=by simp; omega
    have hin:i=n:=by omega
    have HE:Hid (a=wrap64 (F.size:Int)):=by
     obtain ⟨h1,h2,h3⟩:=hA.out
     have hR:R=.nil:=by
      have h4:=HL.out
      rw [h1,Fo.app_len] at h4
      cases R with
      | nil=>rfl
      | cons h k r=>simp only [Fo.len] at h4; omega
     show _=_
     have h5:=HL.out
     rw [h1,hR,Fo.app_nil] at h5 ⊢;rw [h3];congr 1;omega
    clear hin hA;go_wp2_with fail;go_ret;exact ⟨congrArg (fun t=>Ending.returned (Value.int .i64 t)) HE.out,hbw.out⟩
theorem size_any (F:Fo) (v:Value) (w:World) (h:FRow w v F):
  Calls Tryz.prog 13 #[v] w fun e w'=>e=.returned (.int .i64 (wrap64 (F.size:Int)))∧Below w.heap.size w w':=size_all _ F v w (Nat.lt_succ_self _) h
open Go.RowKit

theorem below_drewS {B:Nat} {w w':World} (h:Below B w w') (n:Nat):Below B w (w'.drewN n):=⟨h.os,h.tape,h.output,h.size,h.block⟩
theorem nmEq_any (a b:List (List UInt8)) (v1 v2:Value) (w:World) (h1:NmRow w v1 a) (h2:NmRow w v2 b):
  Calls Tryz.prog 28 #[v1,v2] w fun e w'=>e=.returned (.bool (a==b))∧Below w.heap.size w w':=by
 obtain ⟨x1,c1,rfl,hl1,hc1,-⟩:=id h1
 obtain ⟨x2,c2,rfl,hl2,hc2,-⟩:=id h2
 have H1:=zH h1
 have H2:=zH h2
 unfold maxLen at hc1 hc2;clear h1 h2;obtain ⟨n,hn⟩:∃n,a.length=n:=⟨_,rfl⟩;obtain ⟨m,hm⟩:∃m,b.length=m:=⟨_,rfl⟩;rw [hn] at H1 hl1 ⊢;rw [hm] at H2 hl2 ⊢;have HN:=zH hn;have HM:=zH hm;clear hn hm;by_cases hnm:n=m
 ·have dnm:((n:Int) != (m:Int))=false:=by simp [hnm]
  have HNM:=zH hnm
  clear hnm;go_enter Tryz.func28,Tryz.ntmps28;go_wp2_with fail;go_loopw [13] (fun vi wr=>∃(i:Nat),vi=.int .i64 i∧i≤n∧Hid (a.take i=b.take i)∧Hid (Below w.heap.size w wr)) (fun vi _=>n - (intOf vi).toNat)
  case atStart=>exact ⟨0,rfl,Nat.zero_le _,rfl,Below.refl _ _⟩
  case round=>
   obtain ⟨i,rfl,hi,hch,hbw⟩:=hrel
   by_cases hlt:i < n
   ·have dlt:decide ((i:Int) < (n:Int))=true:=by simp; omega
    have him:i < m:=by have:=HNM.out; omega
    have i1:(i:Int) < (n:Int):=by omega
    have i2:(i:Int) < (m:Int):=by omega
    have ha:i < a.length:=by rw [HN.out]; exact hlt
    have hb:i < b.length:=by rw [HM.out]; exact him
    obtain ⟨x',c',hv,-,-,-,hcl⟩:=H1.out.below hbw.out
    cases hv
    obtain ⟨b1,o1,rfl,hp⟩:=hcl (by omega)
    have q1:=hp i ha
    clear hp hcl;obtain ⟨x',c',hv,-,-,-,hcl⟩:=H2.out.below hbw.out
    cases hv
    obtain ⟨b2,o2,rfl,hp⟩:=hcl (by omega)
    have q2:=hp i hb
    clear hp hcl;obtain ⟨s,hs⟩:∃s,a[i]=s:=⟨_,rfl⟩;obtain ⟨t,ht⟩:∃s,b[i]=s:=⟨_,rfl⟩;rw [hs] at q1;rw [ht] at q2;have HT:Hid (a.take (i+1)=a.take i++[s]∧b.take (i+1)=b.take i++[t]):=⟨by rw [List.take_succ_eq_append_getElem ha,hs],by rw [List.take_succ_eq_append_getElem hb,ht]⟩
    clear hs ht ha hb;go_wp2_with fail;obtain ⟨e,he⟩:∃e,(s==t)=e:=⟨_,rfl⟩;have heq:((⟨s.toArray⟩:ByteArray).data.toList==(⟨t.toArray⟩:ByteArray).data.toList)=e:=he;have heq2:(s==t)=e:=he;go_quiet (fail);have hbn:=zH (below_drewS hbw.out nq);clear q1 q2 heq
    cases e with
    | true=>
     have hN:Hid (a.take (i+1)=b.take (i+1)):=by
      show _=_
      rw [HT.out.1,HT.out.2,hch.out,beq_iff_eq.1 he]
     go_wp2_with fail;go_roundw
     case rel=>exact ⟨i+1,by go_num,by omega,hN,hbn⟩
     case measure=>simp [intOf]; omega
    | false=>
     have HE:Hid ((a==b)=false):=by
      show _=_
      rw [beq_eq_false_iff_ne];intro hab;have h1:=HT.out.1;have h2:=HT.out.2;rw [hab,h2,← hab,hch.out] at h1;have h3:=List.append_cancel_left h1;simp at h3;rw [h3] at he;simp at he
     go_wp2_with fail;go_ret;exact ⟨by rw [HE.out]; rfl,hbn.out⟩
   ·have dlt:decide ((i:Int) < (n:Int))=false:=by simp; omega
    have hin:i=n:=by omega
    have HE:Hid ((a==b)=true):=by
     show _=_
     have h1:=hch.out
     have h2:=HN.out; have h3:=HM.out; have h4:=HNM.out
     rw [List.take_of_length_le (by omega),List.take_of_length_le (by omega)] at h1
     rw [h1]; simp
    clear hin;go_wp2_with fail;go_ret;exact ⟨by rw [HE.out]; rfl,hbw.out⟩
 ·have dnm:((n:Int) != (m:Int))=true:=by simp; omega
  have HE:Hid ((a==b)=false):=by
   show _=_
   rw [beq_eq_false_iff_ne];rintro rfl;have:=HN.out; have:=HM.out; omega
  go_enter Tryz.func28,Tryz.ntmps28
  go_wp2_with fail;go_ret;exact ⟨by rw [HE.out]; rfl,Below.refl _ _⟩
open Go.RowKit

def sameN (h h':Hd) (e:Bool):Bool:=h.kind==h'.kind&&h.text==h'.text&&h.num==h'.num&&h.names==h'.names&&e

theorem same1_any (h h':Hd) (xn xk xn' xk':Option Addr) (cn m ck cn' m' ck':Nat) (e5:Bool) (w:World) (hn:NmRow w (.slice xn h.names.length cn) h.names) (hn':NmRow w (.slice xn' h'.names.length cn') h'.names)
  (hk:∀w',Below w.heap.size w w'→Calls Tryz.prog 11 #[.slice xk m ck,.slice xk' m' ck'] w' fun e w''=>e=.returned (.bool e5)∧Below w'.heap.size w' w''):
  Calls Tryz.prog 27 #[.agg (ndV h (.slice xn h.names.length cn) (.slice xk m ck)),.agg (ndV h' (.slice xn' h'.names.length cn') (.slice xk' m' ck'))] w fun e w'=>e=.returned (.bool (sameN h h' e5))∧Below w.heap.size w w':=by
 obtain ⟨k1,t1,n1,nm1,p1⟩:=h
 obtain ⟨k2,t2,n2,nm2,p2⟩:=h'
 unfold sameN;simp only at hn hn' ⊢;have hba:=(Below.refl w.heap.size w).alloc (Nat.le_refl _) (.cells (ndV ⟨k1,t1,n1,nm1,p1⟩ (.slice xn nm1.length cn) (.slice xk m ck)) 31);have hbb:=hba.alloc (by simp) (.cells (ndV ⟨k2,t2,n2,nm2,p2⟩ (.slice xn' nm2.length cn') (.slice xk' m' ck')) 31)
 have HB1:=zH ((Blk.new w 31 (ndV ⟨k1,t1,n1,nm1,p1⟩ (.slice xn nm1.length cn) (.slice xk m ck))).alloc (.cells (ndV ⟨k2,t2,n2,nm2,p2⟩ (.slice xn' nm2.length cn') (.slice xk' m' ck')) 31))
 have hb2:Blk ((w.alloc (.cells (ndV ⟨k1,t1,n1,nm1,p1⟩ (.slice xn nm1.length cn) (.slice xk m ck)) 31)).alloc (.cells (ndV ⟨k2,t2,n2,nm2,p2⟩ (.slice xn' nm2.length cn') (.slice xk' m' ck')) 31)) (w.heap.size+1) 31 (ndV ⟨k2,t2,n2,nm2,p2⟩ (.slice xn' nm2.length cn') (.slice xk' m' ck')):=Blk.new_at (by simp) _ _
 have HB2:=zH hb2
 have HBE:=zH hbb
 have HNE:=zH (fun w' (hb:Below w.heap.size w w')=>nmEq_any nm1 nm2 _ _ w' (hn.below hb) (hn'.below hb))
 have HK:=zH hk
 have HSZ:Hid (w.heap.size≤((w.alloc (.cells (ndV ⟨k1,t1,n1,nm1,p1⟩ (.slice xn nm1.length cn) (.slice xk m ck)) 31)).alloc (.cells (ndV ⟨k2,t2,n2,nm2,p2⟩ (.slice xn' nm2.length cn') (.slice xk' m' ck')) 31)).heap.size):=hbb.size
 clear hba hbb hb2 hk hn hn';unfold ndV at HB1 HB2 HBE HSZ ⊢;simp only at HB1 HB2 HBE HSZ ⊢;obtain ⟨e1,h1⟩:∃e,(k1==k2)=e:=⟨_,rfl⟩;obtain ⟨e2,h2⟩:∃e,(t1==t2)=e:=⟨_,rfl⟩;obtain ⟨e3,h3⟩:∃e,(n1==n2)=e:=⟨_,rfl⟩;obtain ⟨e4,h4⟩:∃e,(nm1==nm2)=e:=⟨_,rfl⟩;rw [h4] at HNE;rw [h1,h2,h3,h4];have h22:((⟨t1.toArray⟩:ByteArray).data.toList==(⟨t2.toArray⟩:ByteArray).data.toList)=e2:=h2;clear h4
 go_enter Tryz.func27,Tryz.ntmps27
 go_upto_region 1 with fail
 generalize (w.alloc (.cells #[.int .i64 k1,.string ⟨t1.toArray⟩,.int .i64 n1,.slice xn nm1.length cn,.slice xk m ck,.int .i64 p1] 31)).alloc (.cells #[.int .i64 k2,.string ⟨t2.toArray⟩,.int .i64 n2,.slice xn' nm2.length cn',.slice xk' m' ck',.int .i64 p2] 31)=wz at*;generalize hB:w.heap.size=B at*;have HBB:=zH hB;clear hB;have a0:wz.cell? ⟨B,0,none⟩=some (.int .i64 k1):=HB1.out.cell 0
 have a1:wz.cell? ⟨B,1,none⟩=some (.string ⟨t1.toArray⟩):=HB1.out.cell 1
 have a2:wz.cell? ⟨B,2,none⟩=some (.int .i64 n1):=HB1.out.cell 2
 have a3:wz.cell? ⟨B,3,none⟩=some (.slice xn nm1.length cn):=HB1.out.cell 3
 have b0:wz.cell? ⟨B+1,0,none⟩=some (.int .i64 k2):=HB2.out.cell 0
 have b1:wz.cell? ⟨B+1,1,none⟩=some (.string ⟨t2.toArray⟩):=HB2.out.cell 1
 have b2:wz.cell? ⟨B+1,2,none⟩=some (.int .i64 n2):=HB2.out.cell 2
 have b3:wz.cell? ⟨B+1,3,none⟩=some (.slice xn' nm2.length cn'):=HB2.out.cell 3
 cases e1 with
 | false=>
  go_wp2_with fail;go_ret;exact ⟨rfl,by rw [HBB.out]; exact HBE.out⟩
 | true=>
  cases e2 with
  | false=>
   go_wp2_with fail;go_ret;exact ⟨rfl,by rw [HBB.out]; exact HBE.out⟩
  | true=>
   cases e3 with
   | false=>
    go_wp2_with fail;go_ret;exact ⟨rfl,by rw [HBB.out]; exact HBE.out⟩
   | true=>
    go_wp2_with fail;refine (HNE.out _ HBE.out).mono ?_;rintro e w1 ⟨rfl,hb⟩;have HX1:=zH (HBE.out.trans (hb.mono HSZ.out));have c4:w1.cell? ⟨B,4,none⟩=some (.slice xk m ck):=(hb.cell (p:=⟨B,4,none⟩) HB1.out.lt).trans (HB1.out.cell 4);have d4:w1.cell? ⟨B+1,4,none⟩=some (.slice xk' m' ck'):=(hb.cell (p:=⟨B+1,4,none⟩) HB2.out.lt).trans (HB2.out.cell 4)
    have HS1:Hid (B≤w1.heap.size):=Nat.le_trans HSZ.out hb.size
    clear hb a0 a1 a2 a3 b0 b1 b2 b3
    cases e4 with
    | false=>
     go_wp2_with fail;go_ret;exact ⟨rfl,by rw [HBB.out]; exact HX1.out⟩
    | true=>
     go_wp2_with fail;refine (HK.out _ HX1.out).mono ?_;rintro e w2 ⟨rfl,hb⟩;have HX2:=zH (HX1.out.trans (hb.mono HS1.out));clear hb c4 d4;go_wp2_with fail;go_ret;exact ⟨rfl,by rw [HBB.out]; exact HX2.out⟩

theorem Fo.same_len:∀(F G:Fo),Fo.sameF F G=true→F.len=G.len:=by
 intro F;induction F with
 | nil=>intro G h; cases G with
  | nil=>rfl
  | cons _ _ _=>simp [Fo.sameF] at h
 | cons h k r _ ih=>intro G hs; cases G with
  | nil=>simp [Fo.sameF] at hs
  | cons h' k' r'=>simp [Fo.sameF] at hs; simp [Fo.len,ih r' hs.2]
theorem Fo.same_app:∀(A A' R R':Fo),A.len=A'.len→Fo.sameF (A.app R) (A'.app R')=(Fo.sameF A A'&&Fo.sameF R R'):=by
 intro A;induction A with
 | nil=>intro A' R R' h; cases A' with
  | nil=>simp [Fo.app,Fo.sameF]
  | cons _ _ _=>simp [Fo.len] at h
 | cons h k r _ ih=>intro A' R R' hl; cases A' with
  | nil=>simp [Fo.len] at hl
  | cons h' k' r'=>simp only [Fo.app,Fo.sameF,ih r' R R' (by simp only [Fo.len] at hl; omega),Bool.and_assoc]

theorem equalFunc_all (N:Nat) (ih:∀(F G:Fo) (v1 v2:Value) (w:World),F.size < N→FRow w v1 F→FRow w v2 G→
   Calls Tryz.prog 11 #[v1,v2] w fun e w'=>e=.returned (.bool (Fo.sameF F G))∧Below w.heap.size w w')
  (F G:Fo) (v1 v2:Value) (w:World) (hN:F.size < N+1) (h1:FRow w v1 F) (h2:FRow w v2 G):
  Calls Tryz.prog 26 #[v1,v2,.func (.func 27) #[] #[]] w fun e w'=>e=.returned (.bool (Fo.sameF F G))∧Below w.heap.size w w':=by
 obtain ⟨x1,c1,rfl,hl1,hc1,-⟩:=id h1
 obtain ⟨x2,c2,rfl,hl2,hc2,-⟩:=id h2
 have H1:=zH h1
 have H2:=zH h2
 have HIH:=zH ih
 have HNN:=zH hN
 unfold maxLen at hc1 hc2;clear h1 h2 ih hN;obtain ⟨n,hn⟩:∃n,F.len=n:=⟨_,rfl⟩;obtain ⟨m,hm⟩:∃m,G.len=m:=⟨_,rfl⟩;rw [hn] at H1 hl1 ⊢;rw [hm] at H2 hl2 ⊢;have HN:=zH hn;have HM:=zH hm;clear hn hm;by_cases hnm:n=m
 ·have dnm:((n:Int) != (m:Int))=false:=by simp [hnm]
  have HNM:=zH hnm
  clear hnm;go_enter Tryz.func26,Tryz.ntmps26;go_wp2_with fail;go_loopw [17] (fun vi wr=>∃(i:Nat) (A R A' R':Fo),vi=.int .i64 i∧i≤n∧Hid (F=A.app R∧G=A'.app R'∧A.len=i∧A'.len=i∧Fo.sameF A A'=true)∧Hid (Below w.heap.size w wr)) (fun vi _=>n - (intOf vi).toNat)
  case atStart=>exact ⟨0,.nil,F,.nil,G,rfl,Nat.zero_le _,⟨rfl,rfl,rfl,rfl,rfl⟩,Below.refl _ _⟩
  case round=>
   obtain ⟨i,A,R,A',R',rfl,hi,hA,hbw⟩:=hrel
   by_cases hlt:i < n
   ·have dlt:decide ((i:Int) < (n:Int))=true:=by simp; omega
    have him:i < m:=by have:=HNM.out; omega
    have i1:(i:Int) < (n:Int):=by omega
    have i2:(i:Int) < (m:Int):=by omega
    obtain ⟨h,k,r,rfl⟩:∃h k r,R=.cons h k r:=by
     cases R with
     | nil=>have h1:=hA.out.2.2.1; have h2:=HN.out; rw [hA.out.1,Fo.app_nil] at h2; omega
     | cons h k r=>exact ⟨h,k,r,rfl⟩
    obtain ⟨h',k',r',rfl⟩:∃h k r,R'=.cons h k r:=by
     cases R' with
     | nil=>have h1:=hA.out.2.2.2.1; have h2:=HM.out; rw [hA.out.2.1,Fo.app_nil] at h2; omega
     | cons h k r=>exact ⟨h,k,r,rfl⟩
    have hf1:FRow wr (.slice x1 n c1) (A.app (.cons h k r)):=by rw [← hA.out.1]; exact H1.out.below hbw.out
    have hf2:FRow wr (.slice x2 m c2) (A'.app (.cons h' k' r')):=by rw [← hA.out.2.1]; exact H2.out.below hbw.out
    obtain ⟨b,off,xn,cn,xk,ck,rfl,⟨k0,k1,k2,k3,k4,k5⟩,hn1,hk1⟩:=hf1.node
    obtain ⟨b',off',xn',cn',xk',ck',rfl,⟨l0,l1,l2,l3,l4,l5⟩,hn2,hk2⟩:=hf2.node
    rw [hA.out.2.2.1] at k0 k1 k2 k3 k4 k5;rw [hA.out.2.2.2.1] at l0 l1 l2 l3 l4 l5;have hks:k.size < N:=by
     have h1:=HNN.out
     rw [hA.out.1] at h1;have:=Fo.kid_size A h k r;omega
    have HS1:=zH (fun w' (hb:Below wr.heap.size wr w')=>same1_any h h' xn xk xn' xk' cn k.len ck cn' k'.len ck' (Fo.sameF k k') w' (hn1.below hb) (hn2.below hb) (fun w'' hb2=>HIH.out k k' _ _ w'' hks (hk1.below (hb.trans (hb2.mono hb.size))) (hk2.below (hb.trans (hb2.mono hb.size)))))
    have HSA:Hid (∀e,sameN h h' (Fo.sameF k k')=e→Fo.sameF F G=(e&&Fo.sameF r r')):=by
     intro e he;rw [hA.out.1,hA.out.2.1,Fo.same_app _ _ _ _ (by rw [hA.out.2.2.1,hA.out.2.2.2.1]),hA.out.2.2.2.2,← he]
     simp only [Fo.sameF,sameN,Bool.true_and,Bool.and_assoc]
    have HSB:Hid (∀e,sameN h h' (Fo.sameF k k')=e→Fo.sameF (A.app (.cons h k .nil)) (A'.app (.cons h' k' .nil))=e):=by
     intro e he;rw [Fo.same_app _ _ _ _ (by rw [hA.out.2.2.1,hA.out.2.2.2.1]),hA.out.2.2.2.2,← he]
     simp only [Fo.sameF,sameN,Bool.true_and,Bool.and_true]
    have hba:=(Below.refl wr.heap.size wr).alloc (Nat.le_refl _) (.cells (ndV h (.slice xn h.names.length cn) (.slice xk k.len ck)) 31)
    have hbb:=hba.alloc (by simp) (.cells (ndV h' (.slice xn' h'.names.length cn') (.slice xk' k'.len ck')) 31)
    have HBB:=zH hbb
    obtain ⟨e,he⟩:∃e,sameN h h' (Fo.sameF k k')=e:=⟨_,rfl⟩
    rw [he] at HS1;have HSA:=zH (HSA.out e he);have HSB:=zH (HSB.out e he);have HSZ:Hid (w.heap.size≤wr.heap.size):=hbw.out.size;have HBA:=zH hba;have HKA:=zH (Blk.new wr 31 (ndV h (.slice xn h.names.length cn) (.slice xk k.len ck)));clear hba hbb HBB hks hk1 hk2 hn1 hn2 hf1 hf2 he;unfold ndV at HBA HKA HS1;have hb':b' < wr.heap.size:=World.block_lt_of_cell? wr _ l0;have HLT:=zH hb'
    go_upto_region 6 with fail
    generalize wr.alloc (.cells #[.int .i64 h.kind,.string ⟨h.text.toArray⟩,.int .i64 h.num,.slice xn h.names.length cn,.slice xk k.len ck,.int .i64 h.pos] 31)=wa at*;have m0:wa.cell? ⟨b',off'+i*6,none⟩=some (.int .i64 h'.kind):=(HBA.out.cell (p:=⟨b',_,none⟩) HLT.out).trans l0;have m1:wa.cell? ⟨b',off'+i*6+1,none⟩=some (.string ⟨h'.text.toArray⟩):=(HBA.out.cell (p:=⟨b',_,none⟩) HLT.out).trans l1
    have m2:wa.cell? ⟨b',off'+i*6+2,none⟩=some (.int .i64 h'.num):=(HBA.out.cell (p:=⟨b',_,none⟩) HLT.out).trans l2
    have m3:wa.cell? ⟨b',off'+i*6+3,none⟩=some (.slice xn' h'.names.length cn'):=(HBA.out.cell (p:=⟨b',_,none⟩) HLT.out).trans l3
    have m4:wa.cell? ⟨b',off'+i*6+4,none⟩=some (.slice xk' k'.len ck'):=(HBA.out.cell (p:=⟨b',_,none⟩) HLT.out).trans l4
    have m5:wa.cell? ⟨b',off'+i*6+5,none⟩=some (.int .i64 h'.pos):=(HBA.out.cell (p:=⟨b',_,none⟩) HLT.out).trans l5
    generalize wr.heap.size=KA at*;have HLA:Hid (KA≤wa.heap.size):=Nat.le_of_lt HKA.out.lt;have HBC:=zH (HBA.out.alloc HLA.out (.cells (ndV h' (.slice xn' h'.names.length cn') (.slice xk' k'.len ck')) 31));have HKC:=zH (Blk.new wa 31 (ndV h' (.slice xn' h'.names.length cn') (.slice xk' k'.len ck')))
    have HKD:=zH (HKA.out.alloc (.cells (ndV h' (.slice xn' h'.names.length cn') (.slice xk' k'.len ck')) 31))
    unfold ndV at HBC HKC HKD;clear k0 k1 k2 k3 k4 k5 l0 l1 l2 l3 l4 l5 hb' HKA;go_upto_region 7 with fail
    generalize wa.alloc (.cells #[.int .i64 h'.kind,.string ⟨h'.text.toArray⟩,.int .i64 h'.num,.slice xn' h'.names.length cn',.slice xk' k'.len ck',.int .i64 h'.pos] 31)=wc at*;generalize wa.heap.size=KC at*;clear m0 m1 m2 m3 m4 m5;have y0:wc.cell? ⟨KA,0,none⟩=some (.int .i64 h.kind):=HKD.out.cell 0;have y1:wc.cell? ⟨KA,1,none⟩=some (.string ⟨h.text.toArray⟩):=HKD.out.cell 1
    have y2:wc.cell? ⟨KA,2,none⟩=some (.int .i64 h.num):=HKD.out.cell 2
    have y3:wc.cell? ⟨KA,3,none⟩=some (.slice xn h.names.length cn):=HKD.out.cell 3
    have y4:wc.cell? ⟨KA,4,none⟩=some (.slice xk k.len ck):=HKD.out.cell 4
    have y5:wc.cell? ⟨KA,5,none⟩=some (.int .i64 h.pos):=HKD.out.cell 5
    have z0:wc.cell? ⟨KC,0,none⟩=some (.int .i64 h'.kind):=HKC.out.cell 0
    have z1:wc.cell? ⟨KC,1,none⟩=some (.string ⟨h'.text.toArray⟩):=HKC.out.cell 1
    have z2:wc.cell? ⟨KC,2,none⟩=some (.int .i64 h'.num):=HKC.out.cell 2
    have z3:wc.cell? ⟨KC,3,none⟩=some (.slice xn' h'.names.length cn'):=HKC.out.cell 3
    have z4:wc.cell? ⟨KC,4,none⟩=some (.slice xk' k'.len ck'):=HKC.out.cell 4
    have z5:wc.cell? ⟨KC,5,none⟩=some (.int .i64 h'.pos):=HKC.out.cell 5
    go_wp2_with fail;refine (HS1.out wc HBC.out).mono ?_;rintro e2 w5 ⟨rfl,hb⟩;have HX5:=zH (hbw.out.trans ((HBC.out.trans (hb.mono (Nat.le_of_lt HKD.out.lt))).mono HSZ.out));clear y0 y1 y2 y3 y4 y5 z0 z1 z2 z3 z4 z5 hb HS1
    cases e with
    | false=>
     have HE:Hid (Fo.sameF F G=false):=by show _=_; rw [HSA.out]; rfl
     go_wp2_with fail;go_ret;exact ⟨by rw [HE.out]; rfl,HX5.out⟩
    | true=>
     have HNX:Hid (F=(A.app (.cons h k .nil)).app r∧G=(A'.app (.cons h' k' .nil)).app r'∧(A.app (.cons h k .nil)).len=i+1∧(A'.app (.cons h' k' .nil)).len=i+1∧Fo.sameF (A.app (.cons h k .nil)) (A'.app (.cons h' k' .nil))=true):=
      ⟨by rw [← Fo.next]; exact hA.out.1,by rw [← Fo.next]; exact hA.out.2.1,by rw [Fo.app_len,hA.out.2.2.1]; rfl,by rw [Fo.app_len,hA.out.2.2.2.1]; rfl,HSB.out⟩
     clear hA;go_wp2_with fail;go_roundw
     case rel=>exact ⟨i+1,_,r,_,r',by go_num,by omega,HNX,HX5⟩
     case measure=>simp [intOf]; omega
   ·have dlt:decide ((i:Int) < (n:Int))=false:=by simp; omega
    have HE:Hid (Fo.sameF F G=true):=by
     obtain ⟨g1,g2,g3,g4,g5⟩:=hA.out
     have q1:=HN.out
     have q2:=HM.out
     have q3:=HNM.out
     rw [g1,Fo.app_len] at q1;rw [g2,Fo.app_len] at q2;show _=_
     rw [g1,g2,Fo.same_app _ _ _ _ (by omega),g5]
     cases R with
     | nil=>cases R' with
      | nil=>rfl
      | cons _ _ _=>simp only [Fo.len] at q2; omega
     | cons _ _ _=>simp only [Fo.len] at q1; omega
    clear hA;go_wp2_with fail;go_ret;exact ⟨by rw [HE.out]; rfl,hbw.out⟩
 ·have dnm:((n:Int) != (m:Int))=true:=by simp; omega
  have HE:Hid (Fo.sameF F G=false):=by
   show _=_
   cases hs:Fo.sameF F G with
   | false=>rfl
   | true=>have h1:=Fo.same_len F G hs; have:=HN.out; have:=HM.out; omega
  go_enter Tryz.func26,Tryz.ntmps26
  go_wp2_with fail;go_ret;exact ⟨by rw [HE.out]; rfl,Below.refl _ _⟩

theorem same_all:∀(N:Nat) (F G:Fo) (v1 v2:Value) (w:World),F.size < N→FRow w v1 F→FRow w v2 G→
  Calls Tryz.prog 11 #[v1,v2] w fun e w'=>e=.returned (.bool (Fo.sameF F G))∧Below w.heap.size w w':=by
 intro N;induction N with
 | zero=>intro F G v1 v2 w h; omega
 | succ N ih=>
  intro F G v1 v2 w hN h1 h2;have H:=zH (equalFunc_all N ih F G v1 v2 w hN h1 h2);clear ih hN h1 h2;go_enter Tryz.func11,Tryz.ntmps11;go_wp2_with fail;refine H.out.mono ?_;rintro e w1 ⟨rfl,hb⟩;go_wp2_with fail;go_ret;exact ⟨rfl,hb⟩
theorem same_any (F G:Fo) (v1 v2:Value) (w:World) (h1:FRow w v1 F) (h2:FRow w v2 G):
  Calls Tryz.prog 11 #[v1,v2] w fun e w'=>e=.returned (.bool (Fo.sameF F G))∧Below w.heap.size w w':=same_all _ F G v1 v2 w (Nat.lt_succ_self _) h1 h2
open Go.RowKit

theorem stren_any (s:ByteArray) (w:World):Calls Tryz.prog 105 #[.string s] w fun e w'=>e=.returned (.int .i64 (stren s.data.toList:Nat))∧w=w':=by
 go_enter Tryz.func105,Tryz.ntmps105
 go_wp2
 all_goals
  go_ret
  refine ⟨?_,rfl⟩
  rw [stren,← ByteArray.toList_eq];simp_all [bytes]

def nmC (i:Nat) (c:UInt8):Bool:=let8 c||(dig c&&decide (i≠0))
def nmG:Nat→List UInt8→Bool
 | _,[]=>true
 | i,c::t=>nmC i c&&nmG (i+1) t
theorem nmG_more (l:List UInt8):∀i,nmG (i+1) l=l.all fun c=>let8 c||dig c:=by
 induction l with
 | nil=>intro i; rfl
 | cons c t ih=>intro i; simp [nmG,ih,nmC]
theorem nmG_take (l:List UInt8):∀(k i:Nat) (h:i < l.length),nmG k (l.take (i+1))=(nmG k (l.take i)&&nmC (k+i) l[i]):=by
 induction l with
 | nil=>intro k i h; simp at h
 | cons c t ih=>
  intro k i h
  cases i with
  | zero=>simp [nmG]
  | succ i=>
   simp only [List.take_succ_cons,nmG,List.getElem_cons_succ];rw [ih (k+1) i (by simp at h; omega),Bool.and_assoc,show k+1+i=k+(i+1) by omega]
theorem nmG_bad (l:List UInt8) (i:Nat) (h:i < l.length) (hc:nmC i l[i]=false):nmG 0 l=false:=by
 have key:∀(l:List UInt8) (k i:Nat) (h:i < l.length),nmC (k+i) l[i]=false→nmG k l=false:=by
  intro l;induction l with
  | nil=>intro k i h; simp at h
  | cons c t ih=>
   intro k i h hc
   cases i with
   | zero=>simp only [nmG]; rw [show nmC k c=false from hc]; rfl
   | succ i=>
    simp only [nmG];rw [ih (k+1) i (by simp at h; omega) (by rw [show k+1+i=k+(i+1) by omega]; exact hc),Bool.and_false]
 exact key l 0 i h (by rw [Nat.zero_add]; exact hc)
theorem isNameP_eq (l:List UInt8):isNameP l=(decide (1≤l.length)&&nmG 0 l&&decide (l.length≤32)&&!resv l):=by
 unfold isNameP
 cases l with
 | nil=>rfl
 | cons c t=>simp [nmG,nmG_more,nmC]

theorem isName_any (s:ByteArray) (w:World) (hs:s.size≤1048576):Calls Tryz.prog 65 #[.string s] w fun e w'=>e=.returned (.bool (isNameP s.data.toList))∧w=w':=by
 have hlen:s.data.toList.length=s.size:=by simp
 have HL:=zH hlen
 have HR:=zH (fun w=>reserved_any s w)
 have HE:Hid (isNameP s.data.toList=(decide (1≤s.size)&&nmG 0 s.data.toList&&decide (s.size≤32)&&!resv s.data.toList)):=by show _=_; rw [isNameP_eq,hlen]
 clear hlen;obtain ⟨rv,hrv⟩:∃r,resv s.data.toList=r:=⟨_,rfl⟩;rw [hrv] at HR HE;clear hrv;obtain ⟨z,hz⟩:∃z,isNameP s.data.toList=z:=⟨_,rfl⟩;rw [hz] at HE ⊢;clear hz;go_enter Tryz.func65,Tryz.ntmps65;go_wp2_with fail;go_loop [9] (fun vi=>∃i:Nat,vi=.int .i64 i∧i≤s.size∧Hid (nmG 0 (s.data.toList.take i)=true)) (fun vi=>s.size - (intOf vi).toNat)
 case atStart=>exact ⟨0,rfl,Nat.zero_le _,rfl⟩
 case round=>
  obtain ⟨i,rfl,hi,ha⟩:=hrel
  by_cases hlt:i < s.size
  ·have hcl:decide ((i:Int) < (s.size:Int))=true:=by simp; omega
   have HT:=zH (nmG_take s.data.toList 0 i (by rw [HL.out]; exact hlt))
   have HB:=zH (nmG_bad s.data.toList i (by rw [HL.out]; exact hlt))
   rw [Nat.zero_add] at HT;have hi0:(((i:Nat):Int)==0)=decide (i=0):=by by_cases h:i=0 <;> simp [h]
   have hcb:=(s[i]).toNat_lt
   have hgi:s.data.toList[i]'(by rw [HL.out]; exact hlt)=s[i]:=rfl
   obtain ⟨q,hq⟩:∃q,nmC i s[i]=q:=⟨_,rfl⟩
   rw [hgi,hq] at HT HB;have hcases:(s[i]).toNat≤47∨(48≤(s[i]).toNat∧(s[i]).toNat≤57)∨(58≤(s[i]).toNat∧(s[i]).toNat≤64)∨(65≤(s[i]).toNat∧(s[i]).toNat≤90)∨(91≤(s[i]).toNat∧(s[i]).toNat≤94)∨(s[i]).toNat=95∨(s[i]).toNat=96∨(97≤(s[i]).toNat∧(s[i]).toNat≤122)∨123≤(s[i]).toNat:=by omega
   rcases hcases with hc | hc | hc | hc | hc | hc | hc | hc | hc
   ·have hd0:decide ((48:Int)≤((s[i]).toNat:Int))=false:=by simp; omega
    have hd1:decide (((s[i]).toNat:Int)≤57)=true:=by simp; omega
    have hd2:decide ((97:Int)≤((s[i]).toNat:Int))=false:=by simp; omega
    have hd3:decide (((s[i]).toNat:Int)≤122)=true:=by simp; omega
    have hd4:decide ((65:Int)≤((s[i]).toNat:Int))=false:=by simp; omega
    have hd5:decide (((s[i]).toNat:Int)≤90)=true:=by simp; omega
    have hd6:(((s[i]).toNat:Int)==95)=false:=by simp; omega
    have HQ:Hid (q=false):=by show _=_; rw [← hq]; simp [nmC,let8,dig]; omega
    rw [HQ.out] at HB;have HZ:=zH (HB.out rfl);clear hq hc hgi hi0 HQ HT HB;go_wp2_with fail;go_ret;exact ⟨ret_bool (by rw [HE.out,HZ.out]; simp),rfl⟩
   ·have hd0:decide ((48:Int)≤((s[i]).toNat:Int))=true:=by simp; omega
    have hd1:decide (((s[i]).toNat:Int)≤57)=true:=by simp; omega
    have hd2:decide ((97:Int)≤((s[i]).toNat:Int))=false:=by simp; omega
    have hd3:decide (((s[i]).toNat:Int)≤122)=true:=by simp; omega
    have hd4:decide ((65:Int)≤((s[i]).toNat:Int))=false:=by simp; omega
    have hd5:decide (((s[i]).toNat:Int)≤90)=true:=by simp; omega
    have hd6:(((s[i]).toNat:Int)==95)=false:=by simp; omega
    by_cases h0:i=0
    ·have HQ:Hid (q=false):=by show _=_; rw [← hq]; unfold nmC; rw [decide_eq_false (show ¬ (i≠0) by omega)]; simp [let8]; omega
     have hz0:((i:Int)==0)=true:=by simp [h0]
     rw [HQ.out] at HB;have HZ:=zH (HB.out rfl);clear hq hc h0 hgi hi0 HQ HT HB;go_wp2_with fail;go_ret;exact ⟨ret_bool (by rw [HE.out,HZ.out]; simp),rfl⟩
    ·have HQ:Hid (q=true):=by show _=_; rw [← hq]; simp [nmC,let8,dig,h0]; omega
     have hz0:((i:Int)==0)=false:=by simp [h0]
     rw [HQ.out] at HT;clear hq hc h0 hgi hi0 HQ HB;go_wp2_with fail;go_round
     case rel=>exact ⟨i+1,by go_num,by omega,by show _=_; rw [HT.out,ha.out]; rfl⟩
     case measure=>simp [intOf]; omega
   ·have hd0:decide ((48:Int)≤((s[i]).toNat:Int))=true:=by simp; omega
    have hd1:decide (((s[i]).toNat:Int)≤57)=false:=by simp; omega
    have hd2:decide ((97:Int)≤((s[i]).toNat:Int))=false:=by simp; omega
    have hd3:decide (((s[i]).toNat:Int)≤122)=true:=by simp; omega
    have hd4:decide ((65:Int)≤((s[i]).toNat:Int))=false:=by simp; omega
    have hd5:decide (((s[i]).toNat:Int)≤90)=true:=by simp; omega
    have hd6:(((s[i]).toNat:Int)==95)=false:=by simp; omega
    have HQ:Hid (q=false):=by show _=_; rw [← hq]; simp [nmC,let8,dig]; omega
    rw [HQ.out] at HB;have HZ:=zH (HB.out rfl);clear hq hc hgi hi0 HQ HT HB;go_wp2_with fail;go_ret;exact ⟨ret_bool (by rw [HE.out,HZ.out]; simp),rfl⟩
   ·have hd0:decide ((48:Int)≤((s[i]).toNat:Int))=true:=by simp; omega
    have hd1:decide (((s[i]).toNat:Int)≤57)=false:=by simp; omega
    have hd2:decide ((97:Int)≤((s[i]).toNat:Int))=false:=by simp; omega
    have hd3:decide (((s[i]).toNat:Int)≤122)=true:=by simp; omega
    have hd4:decide ((65:Int)≤((s[i]).toNat:Int))=true:=by simp; omega
    have hd5:decide (((s[i]).toNat:Int)≤90)=true:=by simp; omega
    have hd6:(((s[i]).toNat:Int)==95)=false:=by simp; omega
    have HQ:Hid (q=true):=by show _=_; rw [← hq]; simp [nmC,let8,dig]; omega
    rw [HQ.out] at HT;clear hq hc hgi hi0 HQ HB;go_wp2_with fail;go_round
    case rel=>exact ⟨i+1,by go_num,by omega,by show _=_; rw [HT.out,ha.out]; rfl⟩
    case measure=>simp [intOf]; omega
   ·have hd0:decide ((48:Int)≤((s[i]).toNat:Int))=true:=by simp; omega
    have hd1:decide (((s[i]).toNat:Int)≤57)=false:=by simp; omega
    have hd2:decide ((97:Int)≤((s[i]).toNat:Int))=false:=by simp; omega
    have hd3:decide (((s[i]).toNat:Int)≤122)=true:=by simp; omega
    have hd4:decide ((65:Int)≤((s[i]).toNat:Int))=true:=by simp; omega
    have hd5:decide (((s[i]).toNat:Int)≤90)=false:=by simp; omega
    have hd6:(((s[i]).toNat:Int)==95)=false:=by simp; omega
    have HQ:Hid (q=false):=by show _=_; rw [← hq]; simp [nmC,let8,dig]; omega
    rw [HQ.out] at HB;have HZ:=zH (HB.out rfl);clear hq hc hgi hi0 HQ HT HB;go_wp2_with fail;go_ret;exact ⟨ret_bool (by rw [HE.out,HZ.out]; simp),rfl⟩
   ·have hd0:decide ((48:Int)≤((s[i]).toNat:Int))=true:=by simp; omega
    have hd1:decide (((s[i]).toNat:Int)≤57)=false:=by simp; omega
    have hd2:decide ((97:Int)≤((s[i]).toNat:Int))=false:=by simp; omega
    have hd3:decide (((s[i]).toNat:Int)≤122)=true:=by simp; omega
    have hd4:decide ((65:Int)≤((s[i]).toNat:Int))=true:=by simp; omega
    have hd5:decide (((s[i]).toNat:Int)≤90)=false:=by simp; omega
    have hd6:(((s[i]).toNat:Int)==95)=true:=by simp; omega
    have HQ:Hid (q=true):=by show _=_; rw [← hq]; simp [nmC,let8,dig]; omega
    rw [HQ.out] at HT;clear hq hc hgi hi0 HQ HB;go_wp2_with fail;go_round
    case rel=>exact ⟨i+1,by go_num,by omega,by show _=_; rw [HT.out,ha.out]; rfl⟩
    case measure=>simp [intOf]; omega
   ·have hd0:decide ((48:Int)≤((s[i]).toNat:Int))=true:=by simp; omega
    have hd1:decide (((s[i]).toNat:Int)≤57)=false:=by simp; omega
    have hd2:decide ((97:Int)≤((s[i]).toNat:Int))=false:=by simp; omega
    have hd3:decide (((s[i]).toNat:Int)≤122)=true:=by simp; omega
    have hd4:decide ((65:Int)≤((s[i]).toNat:Int))=true:=by simp; omega
    have hd5:decide (((s[i]).toNat:Int)≤90)=false:=by simp; omega
    have hd6:(((s[i]).toNat:Int)==95)=false:=by simp; omega
    have HQ:Hid (q=false):=by show _=_; rw [← hq]; simp [nmC,let8,dig]; omega
    rw [HQ.out] at HB;have HZ:=zH (HB.out rfl);clear hq hc hgi hi0 HQ HT HB;go_wp2_with fail;go_ret;exact ⟨ret_bool (by rw [HE.out,HZ.out]; simp),rfl⟩
   ·have hd0:decide ((48:Int)≤((s[i]).toNat:Int))=true:=by simp; omega
    have hd1:decide (((s[i]).toNat:Int)≤57)=false:=by simp; omega
    have hd2:decide ((97:Int)≤((s[i]).toNat:Int))=true:=by simp; omega
    have hd3:decide (((s[i]).toNat:Int)≤122)=true:=by simp; omega
    have hd4:decide ((65:Int)≤((s[i]).toNat:Int))=true:=by simp; omega
    have hd5:decide (((s[i]).toNat:Int)≤90)=false:=by simp; omega
    have hd6:(((s[i]).toNat:Int)==95)=false:=by simp; omega
    have HQ:Hid (q=true):=by show _=_; rw [← hq]; simp [nmC,let8,dig]; omega
    rw [HQ.out] at HT;clear hq hc hgi hi0 HQ HB;go_wp2_with fail;go_round
    case rel=>exact ⟨i+1,by go_num,by omega,by show _=_; rw [HT.out,ha.out]; rfl⟩
    case measure=>simp [intOf]; omega
   ·have hd0:decide ((48:Int)≤((s[i]).toNat:Int))=true:=by simp; omega
    have hd1:decide (((s[i]).toNat:Int)≤57)=false:=by simp; omega
    have hd2:decide ((97:Int)≤((s[i]).toNat:Int))=true:=by simp; omega
    have hd3:decide (((s[i]).toNat:Int)≤122)=false:=by simp; omega
    have hd4:decide ((65:Int)≤((s[i]).toNat:Int))=true:=by simp; omega
    have hd5:decide (((s[i]).toNat:Int)≤90)=false:=by simp; omega
    have hd6:(((s[i]).toNat:Int)==95)=false:=by simp; omega
    have HQ:Hid (q=false):=by show _=_; rw [← hq]; simp [nmC,let8,dig]; omega
    rw [HQ.out] at HB;have HZ:=zH (HB.out rfl);clear hq hc hgi hi0 HQ HT HB;go_wp2_with fail;go_ret;exact ⟨ret_bool (by rw [HE.out,HZ.out]; simp),rfl⟩
  ·have hcl:decide ((i:Int) < (s.size:Int))=false:=by simp; omega
   have ha2:Hid (nmG 0 s.data.toList=true):=by have:=ha.out; rwa [List.take_of_length_le (by rw [HL.out]; omega)] at this
   rw [ha2.out,Bool.and_true] at HE;by_cases h1:1≤s.size
   ·have e1:decide ((1:Int)≤(s.size:Int))=true:=by simp; omega
    by_cases h2:s.size≤32
    ·have e2:decide ((s.size:Int)≤32)=true:=by simp; omega
     have HZ:Hid (z=!rv):=by show _=_; rw [HE.out]; simp [h1,h2]
     clear h1 h2;go_wp2_with fail;refine (HR.out _).mono ?_;rintro e w1 ⟨rfl,rfl⟩;go_wp2_with fail;go_ret;exact ⟨ret_bool HZ.out.symm,rfl⟩
    ·have e2:decide ((s.size:Int)≤32)=false:=by simp; omega
     have HZ:Hid (z=false):=by show _=_; rw [HE.out]; simp [h2]
     clear h1 h2;go_wp2_with fail;go_ret;exact ⟨ret_bool HZ.out.symm,rfl⟩
   ·have e1:decide ((1:Int)≤(s.size:Int))=false:=by simp; omega
    have HZ:Hid (z=false):=by show _=_; rw [HE.out]; simp [h1]
    clear h1;go_wp2_with fail;go_ret;exact ⟨ret_bool HZ.out.symm,rfl⟩
end Go.Proofs.YtbaidkefobhipaaGreatDoor
