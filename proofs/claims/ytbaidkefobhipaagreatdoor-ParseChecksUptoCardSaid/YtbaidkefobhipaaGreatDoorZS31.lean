/-
  Walk: parse.Print.
  Walk: the law's equal, of a list of trees with itself.
  Walk: the checker's statements of every size; the deferred closure of parse.Check.
  Walk: parse.Check.
  Walks: the law's fails, finds and prints.
-/
import Derived.Test.YtbaidkefobhipaaGreatDoorZPt7
import Derived.Test.YtbaidkefobhipaaGreatDoorZCb4
import Derived.Test.YtbaidkefobhipaaGreatDoorZS8
namespace Go.Proofs.YtbaidkefobhipaaGreatDoor
set_option maxHeartbeats 16000000
set_option maxRecDepth 100000
open Go.RowKit

def prtV (F:Fo):Value:=match prtP F with | .error k=>.tuple #[.string ⟨#[]⟩,.int .i64 (k:Nat)] | .ok t=>.tuple #[.string ⟨t.toArray⟩,.int .i64 0]
theorem proP_long {s:List UInt8} (h:16384 < s.length):proP s=.error (0,3):=by
 unfold proP toksP;rw [if_pos h]
theorem cut_res {F:Fo} {l:List UInt8} (hc:Cut l (txF F)) (hr:rt .st F=true):prtP F=match proP l with | .error x=>.error x.2 | .ok _=>.ok l:=by
 unfold prtP;rw [if_neg (by rw [hr]; decide)]
 rcases hc with rfl | ⟨h1,h2⟩
 ·split
  ·rename_i h3
   rw [proP_long h3]
  ·rfl
 ·rw [if_pos (by omega),proP_long h1]

theorem print_any (F:Fo) (v:Value) (w:World) (hr:FRow w v F) (hF:FoB F) (hln:(txF F).length≤Mw) (hnz:∀s x,proP s=.error x→x.2≠0) (htab:Lib.TabIs Tryz.prog w "internal/strconv.uint64pow10" .u64 Lib.pow10Tab):
  Calls Tryz.prog 14 #[v] w fun e w'=>e=.returned (prtV F)∧Below w.heap.size w w':=by
 have HRG:=zH (right_any F v _ hr hF)
 have HR0:=zH hr
 obtain ⟨x,c,rfl,-⟩:=id hr
 have HLN:=zH hln
 have HTAB:=zH htab
 have HNZ:=zH hnz
 clear hr hF hln htab hnz;obtain ⟨R,hR⟩:∃r,prtV F=r:=⟨_,rfl⟩;have HRR:=zH hR;rw [hR];clear hR;go_enter Tryz.func14,Tryz.ntmps14;go_wp2_with fail;refine HRG.out.mono ?_;rintro e w1 ⟨rfl,hb⟩;have HR1:=zH (HR0.out.below hb);have HT1:=zH (tab_below HTAB.out hb);have HB1:=zH hb;clear hb HRG HR0;rcases hq:rt .st F with _ | _
 ·have HRE:Hid (R=.tuple #[.string ⟨#[]⟩,.int .i64 1]):=by show _=_; rw [← HRR.out]; unfold prtV prtP; rw [if_pos hq]; rfl
  clear hq HRR;go_wp2_with fail;go_ret2;exact ⟨by rw [HRE.out]; rfl,HB1.out⟩
 ·have HRT:=zH hq
  clear hq;go_upto_region 4 with fail
  have hpr:Prt w1.heap.size w1.heap.size [] (w1.alloc (.cells #[.pointer none,.slice none 0 0] 63)):=Lib.fresh_isBuilder 63 5 w1
  have hba:=(Below.refl w1.heap.size w1).alloc (Nat.le_refl _) (.cells #[.pointer none,.slice none 0 0] 63)
  have HC:=zH ((psl_all w1 w1.heap.size HT1.out F.size).2 F (.slice x F.len c) 0 _ [] (Nat.lt_succ_self _) HRT.out HR1.out hba hpr (Nat.zero_le _) (by have h1:=HLN.out; unfold txF at h1; simpa using h1))
  have HBA:=zH hba
  have HP0:Hid (w1.heap.size≤(w1.alloc (.cells #[.pointer none,.slice none 0 0] 63)).heap.size):=hba.size
  clear hpr hba;generalize w1.alloc (.cells #[.pointer none,.slice none 0 0] 63)=w2 at*;generalize hPe:w1.heap.size=P at*;go_wp2_with fail;refine HC.out.mono ?_;rintro e w3 ⟨rfl,l',hcut,hpr,hfr⟩;have HSTR:=zH (pstring_any P P l' w3 hpr (Nat.le_trans HP0.out hfr.size));have HB3:=zH (HBA.out.trans (hfr.below HP0.out));have HSZ3:Hid (P≤w3.heap.size):=Nat.le_trans HP0.out hfr.size
  have hll:l'.length≤140737488355328:=by
   have h1:=hcut.le
   have h2:=HLN.out
   unfold txF Mw at h2;simp only [List.nil_append] at h1;omega
  have hres:=cut_res (F:=F) (by unfold txF; simpa using hcut) HRT.out
  have hrr:prtV F=R:=HRR.out
  unfold prtV at hrr;rw [hres] at hrr;have HPV:=zH hrr;clear hcut hpr hfr HC HLN hres hrr HRR;go_wp2_with fail;refine HSTR.out.mono ?_;rintro e w4 ⟨rfl,hb4⟩;have HB4:=zH (HB3.out.trans hb4);have HSZ4:Hid (P≤w4.heap.size):=Nat.le_trans HSZ3.out hb4.size;have hpg:=program_any ⟨l'.toArray⟩ w4 (by show l'.toArray.size≤_; rw [List.size_toArray]; unfold maxLen; omega)
  rw [show (⟨l'.toArray⟩:ByteArray).data.toList=l' from rfl] at hpg
  rcases hq:proP l' with y | F2
  ·rw [hq] at hpg HPV
   have hnz:=HNZ.out _ _ hq
   obtain ⟨a,k⟩:=y
   have e1:((k:Int) != 0)=true:=by simp at hnz ⊢; omega
   have HPG:=zH hpg
   clear hq hpg hnz hb4 HSTR;unfold ProOk at HPG;go_wp2_with fail;refine HPG.out.mono ?_;rintro e w5 ⟨rfl,hb5⟩;have HB5:=zH (HB4.out.trans (hb5.mono HSZ4.out));clear hb5 HPG;go_wp2_with fail;go_ret2;exact ⟨by rw [← HPV.out]; rfl,HB1.out.trans (HB5.out.mono (by rw [← hPe]; exact HB1.out.size))⟩
  ·rw [hq] at hpg HPV
   have HPG:=zH hpg
   clear hq hpg hb4 HSTR;unfold ProOk at HPG;go_wp2_with fail;refine HPG.out.mono ?_;rintro e w5 ⟨⟨v5,rfl,-⟩,hb5⟩;have HB5:=zH (HB4.out.trans (hb5.mono HSZ4.out));clear hb5 HPG;go_wp2_with fail;go_ret2;exact ⟨by rw [← HPV.out]; rfl,HB1.out.trans (HB5.out.mono (by rw [← hPe]; exact HB1.out.size))⟩
open Go.RowKit

theorem equal_all:∀(N:Nat) (F:Fo) (v1 v2:Value) (w:World),F.size < N→FRow w v1 F→FRow w v2 F→
  Calls Tryz.prog 21 #[v1,v2] w fun e w'=>e=.returned (.bool true)∧Below w.heap.size w w':=by
 intro N;induction N with
 | zero=>intro F v1 v2 w h; omega
 | succ N ih=>
  intro F v1 v2 w hN hr hr';have HIH:=zH ih;have HN:=zH hN;clear ih hN;obtain ⟨x,c,rfl,hl,hc,-⟩:=id hr;obtain ⟨x',c',rfl,hl',hc',-⟩:=id hr';have HR:=zH hr;have HR':=zH hr';have HB0:=zH (Below.refl w.heap.size w);unfold maxLen at hc hc';clear hr hr';obtain ⟨n,hn⟩:∃n,F.len=n:=⟨_,rfl⟩;rw [hn] at HR HR' hl hl' ⊢;have HL:=zH hn;obtain ⟨w0,hw0⟩:∃w0,w0=w:=⟨_,rfl⟩;rw [← hw0] at HB0 HR HR' ⊢;clear hn hw0
  go_enter Tryz.func21,Tryz.ntmps21
  go_wp2_with fail;go_loopw [16] (fun vi wr=>∃(i:Nat) (A R:Fo),vi=.int .i64 i∧i≤n∧Hid (F=A.app R∧A.len=i)∧Hid (Below w0.heap.size w0 wr)) (fun vi _=>n - (intOf vi).toNat)
  case atStart=>exact ⟨0,.nil,F,rfl,Nat.zero_le _,⟨rfl,rfl⟩,HB0.out⟩
  case round=>
   obtain ⟨i,A,R,rfl,hi,hA,hbw⟩:=hrel
   by_cases hlt:i < n
   ·have dlt:decide ((i:Int) < (n:Int))=true:=by simp; omega
    have i1:(i:Int) < (n:Int):=by omega
    obtain ⟨h,k,r,rfl⟩:∃h k r,R=.cons h k r:=by
     cases R with
     | nil=>have h1:=hA.out.2; have h2:=HL.out; rw [hA.out.1,Fo.app_nil] at h2; omega
     | cons h k r=>exact ⟨h,k,r,rfl⟩
    have hf1:FRow wr (.slice x n c) (A.app (.cons h k r)):=by rw [← hA.out.1]; exact HR.out.below hbw.out
    have hf2:FRow wr (.slice x' n c') (A.app (.cons h k r)):=by rw [← hA.out.1]; exact HR'.out.below hbw.out
    obtain ⟨b,off,xn,cn,xk,ck,rfl,⟨k0,k1,k2,k3,k4,k5⟩,hn1,hk1⟩:=hf1.node
    obtain ⟨b',off',xn',cn',xk',ck',rfl,⟨q0,q1,q2,q3,q4,q5⟩,hn2,hk2⟩:=hf2.node
    rw [hA.out.2] at k0 k1 k2 k3 k4 k5 q0 q1 q2 q3 q4 q5;have hks:k.size < N:=by
     have h1:=HN.out
     rw [hA.out.1] at h1;have:=Fo.kid_size A h k r;omega
    have HK:=zH (fun w' (hb:Below wr.heap.size wr w')=>HIH.out k _ _ w' hks (hk1.below hb) (hk2.below hb))
    have HNN:=zH hn1
    have HNM:=zH hn2
    have HNX:Hid (F=(A.app (.cons h k .nil)).app r∧(A.app (.cons h k .nil)).len=i+1):=⟨by rw [← Fo.next]; exact hA.out.1,by rw [Fo.app_len,hA.out.2]; rfl⟩
    obtain ⟨_,_,hvn,hnl,hnc,-⟩:=id hn1
    injection hvn with e1 e2 e3
    subst e1 e3;obtain ⟨_,_,hvn2,hnl2,hnc2,-⟩:=id hn2;injection hvn2 with e4 e5 e6
    subst e4 e6;unfold maxLen at hnc hnc2;obtain ⟨kd,tx,nu,nm,ps⟩:=h;simp only at k0 k1 k2 k3 k4 k5 q0 q1 q2 q3 q4 q5 hnl hnl2 HNN HNM;obtain ⟨m,hm⟩:∃m,nm.length=m:=⟨_,rfl⟩;have HM:=zH hm;rw [hm] at k3 q3 hnl hnl2 HNN HNM;clear hks hk1 hk2 hn1 hn2 hf1 hf2 hA e2 e5 hm
    have hb1:=(Below.refl wr.heap.size wr).alloc (Nat.le_refl _) (.cells #[.int .i64 kd,.string ⟨tx.toArray⟩,.int .i64 nu,.slice xn m cn,.slice xk k.len ck,.int .i64 ps] 31)
    have tr:=fun o u (h:wr.cell? ⟨b',o,none⟩=some u)=>(hb1.cell (p:=⟨b',o,none⟩) (World.block_lt_of_cell? wr _ h)).trans h
    replace q0:=tr _ _ q0
    replace q1:=tr _ _ q1
    replace q2:=tr _ _ q2
    replace q3:=tr _ _ q3
    replace q4:=tr _ _ q4
    replace q5:=tr _ _ q5
    have HKB:=zH (Blk.new wr 31 #[.int .i64 kd,.string ⟨tx.toArray⟩,.int .i64 nu,.slice xn m cn,.slice xk k.len ck,.int .i64 ps])
    have HB1:=zH hb1
    clear tr hb1;go_upto_region 6 with fail
    clear k0 k1 k2 k3 k4 k5;generalize wr.alloc (.cells #[.int .i64 kd,.string ⟨tx.toArray⟩,.int .i64 nu,.slice xn m cn,.slice xk k.len ck,.int .i64 ps] 31)=wy at*;generalize hKB1:wr.heap.size=KB at*;go_upto_region 7 with fail
    have hb2:=(Below.refl wy.heap.size wy).alloc (Nat.le_refl _) (.cells #[.int .i64 kd,.string ⟨tx.toArray⟩,.int .i64 nu,.slice xn' m cn',.slice xk' k.len ck',.int .i64 ps] 31)
    have HKC:=zH (Blk.new wy 31 #[.int .i64 kd,.string ⟨tx.toArray⟩,.int .i64 nu,.slice xn' m cn',.slice xk' k.len ck',.int .i64 ps])
    have HKB2:=zH (HKB.out.alloc (.cells #[.int .i64 kd,.string ⟨tx.toArray⟩,.int .i64 nu,.slice xn' m cn',.slice xk' k.len ck',.int .i64 ps] 31))
    have HB2:=zH (HB1.out.trans (hb2.mono (Nat.le_of_lt HKB.out.lt)))
    have HLT:Hid (KB < wy.heap.size):=HKB.out.lt
    clear hb2 q0 q1 q2 q3 q4 q5 HB1 HKB;generalize wy.alloc (.cells #[.int .i64 kd,.string ⟨tx.toArray⟩,.int .i64 nu,.slice xn' m cn',.slice xk' k.len ck',.int .i64 ps] 31)=wz at*;generalize wy.heap.size=KC at*;have y0:wz.cell? ⟨KB,0,none⟩=some (.int .i64 kd):=HKB2.out.cell 0;have y1:wz.cell? ⟨KB,1,none⟩=some (.string ⟨tx.toArray⟩):=HKB2.out.cell 1
    have y2:wz.cell? ⟨KB,2,none⟩=some (.int .i64 nu):=HKB2.out.cell 2
    have y3:wz.cell? ⟨KB,3,none⟩=some (.slice xn m cn):=HKB2.out.cell 3
    have y4:wz.cell? ⟨KB,4,none⟩=some (.slice xk k.len ck):=HKB2.out.cell 4
    have y5:wz.cell? ⟨KB,5,none⟩=some (.int .i64 ps):=HKB2.out.cell 5
    have z0:wz.cell? ⟨KC,0,none⟩=some (.int .i64 kd):=HKC.out.cell 0
    have z1:wz.cell? ⟨KC,1,none⟩=some (.string ⟨tx.toArray⟩):=HKC.out.cell 1
    have z2:wz.cell? ⟨KC,2,none⟩=some (.int .i64 nu):=HKC.out.cell 2
    have z3:wz.cell? ⟨KC,3,none⟩=some (.slice xn' m cn'):=HKC.out.cell 3
    have z4:wz.cell? ⟨KC,4,none⟩=some (.slice xk' k.len ck'):=HKC.out.cell 4
    have z5:wz.cell? ⟨KC,5,none⟩=some (.int .i64 ps):=HKC.out.cell 5
    have HKK:=zH (HK.out wz HB2.out)
    clear HK;go_wp2_with fail;refine HKK.out.mono ?_;rintro e w5 ⟨rfl,hb⟩;have HZB:Hid (KB < wz.heap.size):=HKB2.out.lt;have HZC:Hid (KC < wz.heap.size):=HKC.out.lt;have HKB5:Hid (Blk w5 KB 31 #[.int .i64 kd,.string ⟨tx.toArray⟩,.int .i64 nu,.slice xn m cn,.slice xk k.len ck,.int .i64 ps]):=(hb.block _ HZB.out).trans HKB2.out
    have HKC5:Hid (Blk w5 KC 31 #[.int .i64 kd,.string ⟨tx.toArray⟩,.int .i64 nu,.slice xn' m cn',.slice xk' k.len ck',.int .i64 ps]):=(hb.block _ HZC.out).trans HKC.out
    have HB5:=zH (HB2.out.trans (hb.mono (Nat.le_of_lt HZB.out)))
    have HW5:=zH (hbw.out.trans (HB5.out.mono (by rw [← hKB1]; exact hbw.out.size)))
    have HN5:=zH (HNN.out.below (by rw [hKB1]; exact HB5.out))
    have HM5:=zH (HNM.out.below (by rw [hKB1]; exact HB5.out))
    clear hb HKK HKB2 HKC HB2 HNN HNM y0 y1 y2 y3 y4 y5 z0 z1 z2 z3 z4 z5 HZB HZC HB5 hbw;have y3:w5.cell? ⟨KB,3,none⟩=some (.slice xn m cn):=HKB5.out.cell 3;have z3:w5.cell? ⟨KC,3,none⟩=some (.slice xn' m cn'):=HKC5.out.cell 3;go_wp2_with fail;go_loopw [71] (fun vj wj=>∃(j d:Nat),vj=.int .i64 j∧j≤m∧Hid (wj=w5.drewN d)) (fun vj _=>m - (intOf vj).toNat)
    case atStart=>exact ⟨0,0,rfl,Nat.zero_le _,rfl⟩
    case round=>
     obtain ⟨j,d,rfl,hj,hwj⟩:=hrel
     obtain rfl:=hwj.out
     clear hwj;have y3:(w5.drewN d).cell? ⟨KB,3,none⟩=some (.slice xn m cn):=HKB5.out.cell 3;have z3:(w5.drewN d).cell? ⟨KC,3,none⟩=some (.slice xn' m cn'):=HKC5.out.cell 3;by_cases hltj:j < m
     ·have dltj:decide ((j:Int) < (m:Int))=true:=by simp; omega
      have j1:(j:Int) < (m:Int):=by omega
      have hjl:j < nm.length:=by rw [HM.out]; exact hltj
      obtain ⟨b1,o1,rfl,-,c1⟩:=nm_cell HN5.out j hjl
      obtain ⟨b2,o2,rfl,-,c2⟩:=nm_cell HM5.out j hjl
      obtain ⟨y,hy⟩:∃y,nm[j]=y:=⟨_,rfl⟩
      rw [hy] at c1 c2;clear hy hjl;go_upto_region 12 with fail
      go_region_law fail
      all_goals
       go_wp2_with fail;go_roundw
       case rel=>exact ⟨j+1,d+1,by go_num,by omega,rfl⟩
       case measure=>simp [intOf]; omega
     ·have dltj:decide ((j:Int) < (m:Int))=false:=by simp; omega
      have HWJ:Hid (Below w0.heap.size w0 (w5.drewN d)):=below_drewN HW5.out d
      clear y3 z3;go_wp2_with fail;go_roundw
      case rel=>exact ⟨i+1,_,r,by go_num,by omega,HNX,HWJ⟩
      case measure=>simp [intOf]; omega
   ·have dlt:decide ((i:Int) < (n:Int))=false:=by simp; omega
    clear hA;go_wp2_with fail;go_ret;exact ⟨rfl,hbw.out⟩
theorem equal_same (F:Fo) (v1 v2:Value) (w:World) (h1:FRow w v1 F) (h2:FRow w v2 F):
  Calls Tryz.prog 21 #[v1,v2] w fun e w'=>e=.returned (.bool true)∧Below w.heap.size w w':=equal_all _ F v1 v2 w (Nat.lt_succ_self _) h1 h2
open Go.RowKit

theorem stOk_all (w0:World):∀N,StOk w0 N:=by
 intro N;induction N with
 | zero=>intro h k p xn xk cn ck w C s v bs fb hN; omega
 | succ N ih=>exact st_step w0 N ih (block_step w0 N ih)
theorem cblock_any (w0:World) (F:Fo) (xv:Value) (p:Bool) (nv:Value) (names:List Nm) (w:World) (C:Nat) (s:CS) (v:Value) (bs:List Nat) (fb:Nat) (hrt:rt .st F=true) (hx:FRow w0 xv F) (hn:NmRow w nv names)
  (hb:Below w0.heap.size w0 w) (hc:CkW w0.heap.size w C s v bs fb) (hlo:s.lo+F.size≤Mx) (hbs:bs.length+F.size+1≤Mx):
  Calls Tryz.prog 18 #[.pointer (some ⟨C,0,none⟩),xv,nv,.bool p] w fun e w'=>CkR w0.heap.size C v bs fb (blD p s names F) w e w':=
 block_step w0 F.size (stOk_all w0 F.size) F xv p nv names w C s v bs fb (Nat.lt_succ_self _) hrt hx hn hb hc hlo hbs

theorem ta_failZ (x:Int) (y:Nat) (w:World):(Instr.typeAssert (.iface 40 (.agg #[.int .i64 x,.int .i64 (y:Nat)])) 20 40 true).run Tryz.prog w=.ok (.tuple #[.agg #[.int .i64 x,.int .i64 (y:Nat)],.bool true]) w:=by kernel_rfl
theorem ex_ta_failZ {ρ:Operand→Value} {o:Oper} {x:Operand} (a:Int) (b:Nat) (w:World) (ho:o.op=.typeAssert x 20 40 true) (hx:ρ x=.iface 40 (.agg #[.int .i64 a,.int .i64 (b:Nat)])):(execOp ρ o).run Tryz.prog w=.ok (.value (.tuple #[.agg #[.int .i64 a,.int .i64 (b:Nat)],.bool true])) w:=by
 have h:=ta_failZ a b w
 simp only [execOp,ho,hx];generalize Instr.typeAssert _ _ _ _=q at h;simp only [Sem.run_bind,h,Result.andThen_ok,Sem.run_pure]
structure But2 (a b:Nat) (w w':World):Prop where
 os:w'.os=w.os
 tape:w'.tape=w.tape
 output:w'.output=w.output
 size:w.heap.size≤w'.heap.size
 block:∀k,k < w.heap.size→k≠a→k≠b→w'.heap[k]?=w.heap[k]?

theorem ccatch (pa pe:Nat) (a0 e0:Int) (x:Int) (y:Nat) (older:List PanicEntry) (w:World) (ha:Blk w pa 3 #[.int .i64 a0]) (he:Blk w pe 23 #[.int .i64 e0]) (hae:pa≠pe):
  CallsD Tryz.prog 16 #[.pointer (some ⟨pa,0,none⟩),.pointer (some ⟨pe,0,none⟩)] (.panicking (failZ x y++older)) w fun e u' w'=>
   e=.returned (.tuple #[])∧u'=.panicking ({ v:=.iface 40 (.agg #[.int .i64 x,.int .i64 (y:Nat)]),recovered:=true }::older)∧
   Blk w' pa 3 #[.int .i64 x]∧Blk w' pe 23 #[.int .i64 (y:Nat)]∧But2 pa pe w w':=by
 refine callsD_of_wpS Tryz.func16 rfl fun c₀ cs hu=>?_
 have hrec:recoverD (c₀::cs)=some (.iface 40 (.agg #[.int .i64 x,.int .i64 (y:Nat)]),{ c₀ with mode:=.panicking ({ v:=.iface 40 (.agg #[.int .i64 x,.int .i64 (y:Nat)]),recovered:=true }::older) }::cs):=by
  unfold failZ at hu;simp [recoverD,hu]
 simp only [Tryz.ntmps16];have htm:(#[Value.pointer (some ⟨pa,0,none⟩),.pointer (some ⟨pe,0,none⟩)]++Array.replicate (14 - #[Value.pointer (some ⟨pa,0,none⟩),.pointer (some ⟨pe,0,none⟩)].size) undef:Array Value)=#[.pointer (some ⟨pa,0,none⟩),.pointer (some ⟨pe,0,none⟩),undef,undef,undef,undef,undef,undef,undef,undef,undef,undef,undef,undef]:=rfl;rw [htm];clear htm;apply wpS_seq
 apply wpS_region_lit
 refine wpLs_recover (w':=w) rfl (by simp [go_sem]) hrec ?_
 generalize hcs:({ c₀ with mode:=.panicking ({ v:=.iface 40 (.agg #[.int .i64 x,.int .i64 (y:Nat)]),recovered:=true }::older) }:Frame)::cs=cs'
 simp only [Act.put,List.setIfInBounds_toArray,List.set_cons_succ,List.set_cons_zero];refine wpLs_of_list _ _ _ ?_ ?_
 ·rintro ⟨a,w,h⟩
  simp [Exit.thenS,bodyPostS] at h
 refine wpList_value rfl (ex_ta_failZ x y w rfl rfl) ?_
 simp only [Act.put,List.setIfInBounds_toArray,List.set_cons_succ,List.set_cons_zero];clear hrec;refine hide fun Q0 hQ=>?_
 go_wp2_with fail;obtain rfl:=hQ.out;clear hQ;simp only [Exit.thenS];have hN:=Blk.new w 40 #[.int .i64 x,.int .i64 (y:Nat)];have ha1:=ha.alloc (.cells #[.int .i64 x,.int .i64 (y:Nat)] 40);have he1:=he.alloc (.cells #[.int .i64 x,.int .i64 (y:Nat)] 40);have hb1:=zH (Below.alloc (Below.refl w.heap.size w) (Nat.le_refl _) (.cells #[.int .i64 x,.int .i64 (y:Nat)] 40));have hna:=ha.lt;have hne:=he.lt
 generalize w.alloc (.cells #[.int .i64 x,.int .i64 (y:Nat)] 40)=w1 at hN ha1 he1 hb1 ⊢;have cn0:w1.cell? ⟨w.heap.size,0,none⟩=some (.int .i64 x):=hN.cell 0;have cn1:w1.cell? ⟨w.heap.size,1,none⟩=some (.int .i64 (y:Nat)):=hN.cell 1;have ca:w1.cell? ⟨pa,0,none⟩=some (.int .i64 a0):=ha1.cell 0;have ce:w1.cell? ⟨pe,0,none⟩=some (.int .i64 e0):=he1.cell 0;have fa:=ha1.frozen 0;have fe:=he1.frozen 0
 have HN:=zH hN
 have HA1:=zH ha1
 have HE1:=zH he1
 have HU:=zH hu
 have HCS:=zH hcs
 clear ha he hN ha1 he1 hu hcs;have n2:w.heap.size≠pa:=by omega
 have n3:w.heap.size≠pe:=by omega
 refine wpS_of_wp ?_
 refine hideR fun R0 hR=>?_
 go_wp2_with fail;have HAW:=zH (((HA1.out.put 0 (.int .i64 x)).other (p:=⟨pe,0,none⟩) hae (.int .i64 (y:Nat))).drew);have HEW:=zH (((HE1.out.other (p:=⟨pa,0,none⟩) (Ne.symm hae) (.int .i64 x)).put 0 (.int .i64 (y:Nat))).drew);have HBW:Hid (But2 pa pe w (((w1.setCell ⟨pa,0,none⟩ (.int .i64 x)).setCell ⟨pe,0,none⟩ (.int .i64 (y:Nat))).drew)):=
  ⟨hb1.out.os,hb1.out.tape,hb1.out.output,by simpa [World.setCell,World.drew] using hb1.out.size,fun k hk h2 h3=>by
   refine (Below.heap_setCell _ _ _ _ h3).trans ((Below.heap_setCell _ _ _ _ h2).trans (hb1.out.block k hk))⟩
 go_region_law fail
 all_goals
  generalize ((w1.setCell ⟨pa,0,none⟩ (.int .i64 x)).setCell ⟨pe,0,none⟩ (.int .i64 (y:Nat))).drew=wz at HAW HEW HBW ⊢;refine ⟨rfl,_,HCS.out.symm,.tuple #[],by simp [results,Tryz.results16,go_sem],?_⟩
  rw [← hR.out];exact ⟨rfl,rfl,HAW.out,HEW.out,HBW.out⟩

theorem cidle (pa pe:Nat) (w:World):
  CallsD Tryz.prog 16 #[.pointer (some ⟨pa,0,none⟩),.pointer (some ⟨pe,0,none⟩)] .returning w fun e u' w'=>
   e=.returned (.tuple #[])∧u'=.returning∧Below w.heap.size w w':=by
 refine callsD_of_wpS Tryz.func16 rfl fun c₀ cs hu=>?_
 have hrec:recoverD (c₀::cs)=none:=by simp [recoverD,hu]
 have hcs0:c₀::cs={ c₀ with mode:=.returning }::cs:=by rw [← hu]
 simp only [Tryz.ntmps16];have htm:(#[Value.pointer (some ⟨pa,0,none⟩),.pointer (some ⟨pe,0,none⟩)]++Array.replicate (14 - #[Value.pointer (some ⟨pa,0,none⟩),.pointer (some ⟨pe,0,none⟩)].size) undef:Array Value)=#[.pointer (some ⟨pa,0,none⟩),.pointer (some ⟨pe,0,none⟩),undef,undef,undef,undef,undef,undef,undef,undef,undef,undef,undef,undef]:=rfl;rw [htm];clear htm;apply wpS_seq
 apply wpS_region_lit
 refine wpLs_norecover (w':=w) rfl (by simp [go_sem]) hrec ?_
 generalize hcs:c₀::cs=cs' at hcs0 ⊢;simp only [Act.put,List.setIfInBounds_toArray,List.set_cons_succ,List.set_cons_zero];refine wpLs_of_list _ _ _ ?_ ?_
 ·rintro ⟨a,w,h⟩
  simp [Exit.thenS,bodyPostS] at h
 refine wpList_value rfl (ex_ta_nil w rfl rfl) ?_
 simp only [Act.put,List.setIfInBounds_toArray,List.set_cons_succ,List.set_cons_zero];have HCS:=zH hcs0;clear hrec hu hcs hcs0;refine hide fun Q0 hQ=>?_
 go_wp2_with fail;obtain rfl:=hQ.out;clear hQ;simp only [Exit.thenS];refine wpS_of_wp ?_;refine hideR fun R0 hR=>?_
 go_wp2_with fail;refine ⟨rfl,_,HCS.out,.tuple #[],by simp [results,Tryz.results16,go_sem],?_⟩
 rw [← hR.out];exact ⟨rfl,rfl,(Below.refl _ _).alloc (Nat.le_refl _) _⟩
open Go.RowKit

def chkV (F:Fo):Value:=.tuple #[.int .i64 (chkL F).1,.int .i64 ((chkL F).2:Nat)]
def chkDf (PA:Nat):Deferred:={ target:=.fn (.func 16) #[.pointer (some ⟨PA,0,none⟩),.pointer (some ⟨PA+1,0,none⟩)],args:=#[] }
theorem chk_results {tm:Array Value} {w:World} {PA:Nat} {a e:Int} (h2:tm[2]?=some (.pointer (some ⟨PA,0,none⟩))) (h3:tm[3]?=some (.pointer (some ⟨PA+1,0,none⟩)))
  (ha:Blk w PA 3 #[.int .i64 a]) (he:Blk w (PA+1) 23 #[.int .i64 e]):
  (results Tryz.f8 tm).run Tryz.prog w=.ok (.tuple #[.int .i64 a,.int .i64 e]) w:=by
 have c2:w.cell? ⟨PA,0,none⟩=some (.int .i64 a):=ha.cell 0
 have c3:w.cell? ⟨PA+1,0,none⟩=some (.int .i64 e):=he.cell 0
 simp [results,Tryz.results8,go_sem,h2,h3,c2,c3]
theorem chk_ret {R:Ending→World→Prop} {tm:Array Value} {w:World} {PA:Nat} {a e:Int} (h2:tm[2]?=some (.pointer (some ⟨PA,0,none⟩))) (h3:tm[3]?=some (.pointer (some ⟨PA+1,0,none⟩)))
  (ha:Blk w PA 3 #[.int .i64 a]) (he:Blk w (PA+1) 23 #[.int .i64 e])
  (h:∀w',Below w.heap.size w w'→R (.returned (.tuple #[.int .i64 a,.int .i64 e])) w'):
  bodyPostD Tryz.prog Tryz.f8 R .ret { tmps:=tm,defers:=[chkDf PA] } w:=by
 refine leaves_cons (f:=16) (args:=#[.pointer (some ⟨PA,0,none⟩),.pointer (some ⟨PA+1,0,none⟩)]) (by simp) (by simp [go_sem]) ?_
 refine (cidle PA (PA+1) w).mono ?_
 rintro e' u' w' ⟨rfl,rfl,hb⟩;exact ⟨_,chk_results h2 h3 (Blk.below hb ha ha.lt) (Blk.below hb he he.lt),h w' hb⟩
theorem chk_panic {R:Ending→World→Prop} {tm:Array Value} {w:World} {PA y:Nat} {x a e:Int} (h2:tm[2]?=some (.pointer (some ⟨PA,0,none⟩))) (h3:tm[3]?=some (.pointer (some ⟨PA+1,0,none⟩)))
  (ha:Blk w PA 3 #[.int .i64 a]) (he:Blk w (PA+1) 23 #[.int .i64 e])
  (h:∀w',But2 PA (PA+1) w w'→R (.returned (.tuple #[.int .i64 x,.int .i64 (y:Nat)])) w'):
  bodyPostD Tryz.prog Tryz.f8 R (.panic (failZ x y)) { tmps:=tm,defers:=[chkDf PA] } w:=by
 refine leaves_cons (f:=16) (args:=#[.pointer (some ⟨PA,0,none⟩),.pointer (some ⟨PA+1,0,none⟩)]) (by simp) (by simp [go_sem]) ?_
 have hc:=ccatch PA (PA+1) a e x y [] w ha he (by omega)
 rw [List.append_nil] at hc;refine hc.mono ?_;rintro e' u' w' ⟨rfl,rfl,h6,h7,hb⟩;exact ⟨_,chk_results h2 h3 h6 h7,h w' hb⟩
theorem But2.below {PA:Nat} {w w' w'':World} (h:Below PA w w') (hPA:PA≤w'.heap.size) (hb:But2 PA (PA+1) w' w''):Below PA w w'':=
 h.trans ⟨hb.os,hb.tape,hb.output,hb.size,fun k hk=>hb.block k (by omega) (by omega) (by omega)⟩

theorem check_any (F:Fo) (v:Value) (w:World) (hr:FRow w v F) (hF:FoB F) (hsz:F.size+1≤Mx):
  Calls Tryz.prog 8 #[v] w fun e w'=>e=.returned (chkV F)∧Below w.heap.size w w':=by
 have hmf:∀(fn:Fn) (first cap:Array Value) (w:World),(Instr.makeFunc fn first cap).run Tryz.prog w=.ok (.func fn first cap) w:=fun _ _ _ _=>rfl
 have hmm:=@run_makeMap Tryz.prog
 have hb1:Below w.heap.size w (w.alloc (.cells #[.int .i64 0] 3)):=(Below.refl w.heap.size w).alloc (Nat.le_refl _) _
 have hba:Below w.heap.size w ((w.alloc (.cells #[.int .i64 0] 3)).alloc (.cells #[.int .i64 0] 23)):=hb1.alloc hb1.size _
 have ha:=(Blk.new w 3 #[.int .i64 0]).alloc (.cells #[.int .i64 0] 23)
 have he:=Blk.new (w.alloc (.cells #[.int .i64 0] 3)) 23 #[.int .i64 0]
 rw [show (w.alloc (.cells #[.int .i64 0] 3)).heap.size=w.heap.size+1 by simp] at he
 have HRG:=zH (right_any F v _ (hr.below hba) hF)
 have HR0:=zH (hr.below hba)
 obtain ⟨x,c,rfl,-⟩:=id hr
 have HBA:=zH hba
 have HA:=zH ha
 have HE:=zH he
 have HSZ:=zH hsz
 clear hb1 hba ha he hr hF hsz;obtain ⟨R,hR⟩:∃r,chkV F=r:=⟨_,rfl⟩;have HRR:=zH hR;rw [hR];clear hR;go_enter_defers Tryz.func8,Tryz.ntmps8;go_wp2_with fail;generalize (w.alloc (.cells #[.int .i64 0] 3)).alloc (.cells #[.int .i64 0] 23)=wa at*;refine HRG.out.mono ?_;rintro e w1 ⟨rfl,hb⟩;have HB1:=zH (HBA.out.trans (hb.mono HBA.out.size));have HA1:=zH (Blk.below hb HA.out HA.out.lt)
 have HE1:=zH (Blk.below hb HE.out HE.out.lt)
 have HR1:=zH (HR0.out.below hb)
 obtain ⟨PA,hPA⟩:∃n,w.heap.size=n:=⟨_,rfl⟩
 have HPA:=zH hPA
 rw [hPA] at HA1 HE1 HB1 ⊢;clear hb HRG HR0 HBA HA HE hPA;have ca:w1.cell? ⟨PA,0,none⟩=some (.int .i64 0):=HA1.out.cell 0;have fa:w1.frozen? ⟨PA,0,none⟩=false:=HA1.out.frozen 0;have ce:w1.cell? ⟨PA+1,0,none⟩=some (.int .i64 0):=HE1.out.cell 0;have fe:w1.frozen? ⟨PA+1,0,none⟩=false:=HE1.out.frozen 0;rcases hq:rt .st F with _ | _
 ·have HRE:Hid (R=.tuple #[.int .i64 0,.int .i64 1]):=by show _=_; rw [← HRR.out]; unfold chkV chkL; rw [if_pos hq]; rfl
  clear hq HRR;go_wp2_with fail;have HA9:=zH ((HA1.out.put 0 (.int .i64 0)).other (p:=⟨PA+1,0,none⟩) (by simp) (.int .i64 1))
  have HE9:=zH ((HE1.out.other (p:=⟨PA,0,none⟩) (by simp) (.int .i64 0)).put 0 (.int .i64 1))
  have HB9:Hid (Below PA w ((w1.setCell ⟨PA,0,none⟩ (.int .i64 0)).setCell ⟨PA+1,0,none⟩ (.int .i64 1))):=
   below_put (below_put HB1.out (p:=⟨PA,0,none⟩) (by simp) _) (p:=⟨PA+1,0,none⟩) (by simp) _
  clear ca ce fa fe HA1 HE1 HB1;generalize (w1.setCell ⟨PA,0,none⟩ (.int .i64 0)).setCell ⟨PA+1,0,none⟩ (.int .i64 1)=w9 at*;refine chk_ret rfl rfl HA9.out HE9.out fun w' hb=>⟨by rw [HRE.out],?_⟩
  rw [HPA.out];exact HB9.out.trans (hb.mono (by have h1:=HB9.out.size; rw [HPA.out] at h1; exact h1))
 ·have HRE:Hid (R=(match blD true ⟨[],[],0,false⟩ [] F with | .error x=>.tuple #[.int .i64 x.1,.int .i64 (x.2:Nat)] | .ok _=>.tuple #[.int .i64 0,.int .i64 0])):=by
   show _=_
   rw [← HRR.out];unfold chkV chkL;rw [if_neg (by rw [hq]; decide)]
   unfold blD;rw [show (⟨[],[],0,false⟩:CS).push []=⟨[[]],[],0,false⟩ from rfl]
   cases ckC (.st true) ⟨[[]],[],0,false⟩ F <;> rfl
  have HRT:=zH hq
  clear hq HRR;go_upto_region 5 with fail
  obtain ⟨FB,hFB⟩:∃n,w1.heap.size=n:=⟨_,rfl⟩
  have HFB:=zH hFB
  have hba:=(Below.refl w1.heap.size w1).alloc (Nat.le_refl _) (.map #[] 0)
  have hbb:=hba.alloc (by simp) (.cells #[.slice none 0 0,.map (some w1.heap.size),.int .i64 0,.bool false] 46)
  have hc:CkW w1.heap.size ((w1.alloc (.map #[] 0)).alloc (.cells #[.slice none 0 0,.map (some w1.heap.size),.int .i64 0,.bool false] 46)) (w1.heap.size+1) ⟨[],[],0,false⟩ (.slice none 0 0) [] w1.heap.size:=by
   have hn:=Blk.new (w1.alloc (.map #[] 0)) 46 #[.slice none 0 0,.map (some w1.heap.size),.int .i64 0,.bool false]
   rw [show (w1.alloc (.map #[] 0)).heap.size=w1.heap.size+1 by simp] at hn
   exact ⟨hn,World.ownsRow_nil _ _ _ _,by simp,(setAt_made w1).keep (Below.heap_alloc _ _ _ (by simp)),trivial,by omega,Nat.le_refl _,fun b hb=>by cases hb⟩
  have hcall:=cblock_any w1 F (.slice x F.len c) true (.slice none 0 0) [] _ _ _ _ _ _ HRT.out HR1.out (nmrow_nil _) hbb hc (by have h1:=HSZ.out; show 0+F.size≤Mx; omega) (by have h1:=HSZ.out; show 0+F.size+1≤Mx; omega)
  have HA2:=zH ((HA1.out.alloc (.map #[] 0)).alloc (.cells #[.slice none 0 0,.map (some w1.heap.size),.int .i64 0,.bool false] 46))
  have HE2:=zH ((HE1.out.alloc (.map #[] 0)).alloc (.cells #[.slice none 0 0,.map (some w1.heap.size),.int .i64 0,.bool false] 46))
  have HLA:Hid (PA < FB):=by rw [← hFB]; exact HA1.out.lt
  have HLE:Hid (PA+1 < FB):=by rw [← hFB]; exact HE1.out.lt
  have HBB:=zH (HB1.out.trans (hbb.mono (by have:=HA1.out.lt; omega)))
  have HCW:=zH hc
  have HSB:=zH hbb.size
  clear hba hbb ca ce fa fe HA1 HE1 HB1 HR1 hc;simp only [hFB] at hcall HA2 HE2 HBB HCW HSB ⊢;clear hFB;generalize (w1.alloc (.map #[] 0)).alloc (.cells #[.slice none 0 0,.map (some FB),.int .i64 0,.bool false] 46)=w2 at*;have hch:∀w3,Ch (FB+1) (.slice none 0 0) [] FB w2 w3→Blk w3 PA 3 #[.int .i64 0]∧Blk w3 (PA+1) 23 #[.int .i64 0]∧Below PA w w3:=fun w3 h=>by
   have hb:=h.below HCW.out HSB.out
   exact ⟨Blk.below hb HA2.out HLA.out,Blk.below hb HE2.out HLE.out,HBB.out.trans (hb.mono (Nat.le_of_lt HLA.out))⟩
  have HCH:=zH hch
  clear hch;rcases hq:blD true ⟨[],[],0,false⟩ [] F with y | s2
  ·rw [hq] at hcall HRE
   have HCC:=zH hcall
   clear hq hcall;go_wp2_with fail;refine HCC.out.mono ?_;rintro e w5 ⟨hch5,rfl⟩;obtain ⟨h1,h2,h3⟩:=HCH.out _ hch5;have H1:=zH h1;have H2:=zH h2;have H3:=zH h3;clear h1 h2 h3 hch5 HCC;go_wp2_with fail;refine chk_panic rfl rfl H1.out H2.out fun wq hb=>⟨by rw [HRE.out],?_⟩
   rw [HPA.out];exact But2.below H3.out (Nat.le_of_lt H1.out.lt) hb
  ·rw [hq] at hcall HRE
   have HCC:=zH hcall
   clear hq hcall;go_upto_region 6 with fail
   refine HCC.out.mono ?_
   rintro e w5 ⟨hch5,rfl,-⟩;obtain ⟨h1,h2,h3⟩:=HCH.out _ hch5;have H1:=zH h1;have H2:=zH h2;have H3:=zH h3;have ca:w5.cell? ⟨PA,0,none⟩=some (.int .i64 0):=h1.cell 0;have fa:w5.frozen? ⟨PA,0,none⟩=false:=h1.frozen 0;have ce:w5.cell? ⟨PA+1,0,none⟩=some (.int .i64 0):=h2.cell 0;have fe:w5.frozen? ⟨PA+1,0,none⟩=false:=h2.frozen 0;clear h1 h2 h3 hch5 HCC;go_wp2_with fail
   have HA9:=zH ((H1.out.put 0 (.int .i64 0)).other (p:=⟨PA+1,0,none⟩) (by simp) (.int .i64 0))
   have HE9:=zH ((H2.out.other (p:=⟨PA,0,none⟩) (by simp) (.int .i64 0)).put 0 (.int .i64 0))
   have HB9:Hid (Below PA w ((w5.setCell ⟨PA,0,none⟩ (.int .i64 0)).setCell ⟨PA+1,0,none⟩ (.int .i64 0))):=
    below_put (below_put H3.out (p:=⟨PA,0,none⟩) (by simp) _) (p:=⟨PA+1,0,none⟩) (by simp) _
   clear ca ce fa fe H1 H2 H3;generalize (w5.setCell ⟨PA,0,none⟩ (.int .i64 0)).setCell ⟨PA+1,0,none⟩ (.int .i64 0)=w9 at*;refine chk_ret rfl rfl HA9.out HE9.out fun w' hb=>⟨by rw [HRE.out],?_⟩
   rw [HPA.out];exact HB9.out.trans (hb.mono (by have h1:=HB9.out.size; rw [HPA.out] at h1; exact h1))
open Go.RowKit

theorem prog_run (s:ByteArray) (w:World) (hmax:s.size≤maxLen):Calls Tryz.prog 15 #[.string s] w fun e w'=>
  (match proP s.data.toList with
   | .error x=>e=.returned (.tuple #[.slice none 0 0,.int .i64 (x.1:Nat),.int .i64 (x.2:Nat)])
   | .ok F=>∃x c,e=.returned (.tuple #[.slice x F.len c,.int .i64 0,.int .i64 0])∧FRow w' (.slice x F.len c) F)∧Below w.heap.size w w':=
 (program_any s w hmax).mono fun e w' ⟨h,hb⟩=>by
  refine ⟨?_,hb⟩
  unfold ProOk at h
  cases hp:proP s.data.toList with
  | error x=>rw [hp] at h; exact h
  | ok F=>
   rw [hp] at h;obtain ⟨v,he,hf⟩:=h;have hf2:=hf.sub (unmask _ _);obtain ⟨x,c,rfl,-⟩:=id hf2;exact ⟨x,c,he,hf2⟩
theorem prog_err {s:ByteArray} {x:Nat×Nat} (h:proP s.data.toList=.error x) (w:World) (hmax:s.size≤maxLen):Calls Tryz.prog 15 #[.string s] w fun e w'=>
  e=.returned (.tuple #[.slice none 0 0,.int .i64 (x.1:Nat),.int .i64 (x.2:Nat)])∧Below w.heap.size w w':=by
 have:=prog_run s w hmax
 rw [h] at this;exact this
theorem prog_ok {s:ByteArray} {F:Fo} (h:proP s.data.toList=.ok F) (w:World) (hmax:s.size≤maxLen):Calls Tryz.prog 15 #[.string s] w fun e w'=>
  (∃x c,e=.returned (.tuple #[.slice x F.len c,.int .i64 0,.int .i64 0])∧FRow w' (.slice x F.len c) F)∧Below w.heap.size w w':=by
 have:=prog_run s w hmax
 rw [h] at this;exact this
theorem fob_of {s:List UInt8} {F:Fo} (h:proP s=.ok F):FoB F:=FoB_wt F 20480 (proP_ok h).2 (by decide)
theorem size_of {s:List UInt8} {F:Fo} (h:proP s=.ok F):F.size+1≤Mx:=by
 have h1:=size_wt F
 have h2:=(proP_ok h).2
 unfold Mx;omega
theorem tx_of {s:List UInt8} {F:Fo} (h:proP s=.ok F):(txF F).length≤Mw:=by
 obtain ⟨h1,h2⟩:=proP_ok h
 exact txF_small h1 (by omega)
theorem nz_all:∀s x,proP s=.error x→x.2≠0:=fun _ _ h=>(proP_bad h).1

theorem fails_err (s:ByteArray) (p k:Nat) (h:proP s.data.toList=.error (p,k)) (w:World) (hmax:s.size≤maxLen):
  Calls Tryz.prog 22 #[.string s,.int .i64 (p:Nat),.int .i64 (k:Nat)] w fun e w'=>e=.returned (.bool true)∧Below w.heap.size w w':=by
 have HP:=zH (prog_err h w hmax)
 clear h hmax;go_enter Tryz.func22,Tryz.ntmps22;go_wp2_with fail;refine HP.out.mono ?_;rintro e w1 ⟨rfl,hb⟩;have HB:=zH hb;clear hb HP;go_wp2_with fail;go_ret;exact ⟨by simp,HB.out⟩
theorem fails_ok (s:ByteArray) (F:Fo) (h:proP s.data.toList=.ok F) (hF:F.len≠0) (w:World) (hmax:s.size≤maxLen):
  Calls Tryz.prog 22 #[.string s,.int .i64 0,.int .i64 0] w fun e w'=>e=.returned (.bool false)∧Below w.heap.size w w':=by
 have HP:=zH (prog_ok h w hmax)
 obtain ⟨n,hn⟩:∃n,F.len=n+1:=⟨F.len - 1,by omega⟩
 rw [hn] at HP;clear h hmax hF hn;go_enter Tryz.func22,Tryz.ntmps22;go_wp2_with fail;refine HP.out.mono ?_;rintro e w1 ⟨⟨x,c,rfl,-⟩,hb⟩;have HB:=zH hb;have e1:((n:Int)+1==0)=false:=by simp; omega
 clear hb HP;go_wp2_with fail;go_ret;exact ⟨by simp,HB.out⟩
theorem finds_any (s:ByteArray) (p:Int) (k:Nat) (h:ckB s.data.toList p k=true) (w:World) (hmax:s.size≤maxLen):
  Calls Tryz.prog 25 #[.string s,.int .i64 p,.int .i64 (k:Nat)] w fun e w'=>e=.returned (.bool true)∧Below w.heap.size w w':=by
 obtain ⟨F,hF,hc⟩:=ckB_ok h
 have HP:=zH (prog_ok hF w hmax)
 have HCK:=zH (fun v w' hr=>check_any F v w' hr (fob_of hF) (size_of hF))
 have hv:chkV F=.tuple #[.int .i64 p,.int .i64 (k:Nat)]:=by unfold chkV; rw [hc]
 rw [hv] at HCK;clear h hmax hF hc hv;go_enter Tryz.func25,Tryz.ntmps25;go_wp2_with fail;refine HP.out.mono ?_;rintro e w1 ⟨⟨x,c,rfl,hr⟩,hb⟩;have HB:=zH hb;have HC:=zH (HCK.out _ w1 hr);clear hb HP hr HCK;go_wp2_with fail;refine HC.out.mono ?_;rintro e w2 ⟨rfl,hb⟩;have HB2:=zH (HB.out.trans (hb.mono HB.out.size));clear hb HC;go_wp2_with fail;go_ret;exact ⟨by simp,HB2.out⟩
theorem prints_any (s t:ByteArray) (h:prB s.data.toList t.data.toList=true) (w:World) (hmax:s.size≤maxLen) (htab:Lib.TabIs Tryz.prog w "internal/strconv.uint64pow10" .u64 Lib.pow10Tab):
  Calls Tryz.prog 24 #[.string s,.string t] w fun e w'=>e=.returned (.bool true)∧Below w.heap.size w w':=by
 obtain ⟨F,hF,hc⟩:=prB_ok h
 have HP:=zH (prog_ok hF w hmax)
 have HCK:=zH (fun v w' hr ht=>print_any F v w' hr (fob_of hF) (tx_of hF) nz_all ht)
 have hv:prtV F=.tuple #[.string t,.int .i64 0]:=by unfold prtV; rw [hc]
 rw [hv] at HCK;have HT:=zH htab;clear h hmax hF hc hv htab;go_enter Tryz.func24,Tryz.ntmps24;go_wp2_with fail;refine HP.out.mono ?_;rintro e w1 ⟨⟨x,c,rfl,hr⟩,hb⟩;have HB:=zH hb;have HC:=zH (HCK.out _ w1 hr (tab_below HT.out hb));clear hb HP hr HCK;go_wp2_with fail;refine HC.out.mono ?_;rintro e w2 ⟨rfl,hb⟩;have HB2:=zH (HB.out.trans (hb.mono HB.out.size));clear hb HC;go_wp2_with fail;go_ret
 exact ⟨by simp,HB2.out⟩
end Go.Proofs.YtbaidkefobhipaaGreatDoor
