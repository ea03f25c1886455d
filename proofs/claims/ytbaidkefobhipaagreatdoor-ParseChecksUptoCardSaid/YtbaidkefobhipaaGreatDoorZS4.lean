/-
  Walks: parse.all, whether a test holds for all trees of a list.
  Walk: rightExpression.
  Plain: the first trees of a list and the ones behind them; what a statement's kids must be, place by place.
  Walk: rightBlock, with what rightStatement answers.
  Walk: rightIf.
-/
import Derived.Test.YtbaidkefobhipaaGreatDoorZS3
namespace Go.Proofs.YtbaidkefobhipaaGreatDoor
set_option maxHeartbeats 8000000
set_option maxRecDepth 100000
open Go.RowKit

def allG (p:Hd→Fo→Bool):Fo→Bool
 | .nil=>true
 | .cons h k r=>p h k&&allG p r
theorem allG_app (p:Hd→Fo→Bool) (A R:Fo):allG p (A.app R)=(allG p A&&allG p R):=by
 induction A with
 | nil=>simp [Fo.app,allG]
 | cons h k r _ ih=>simp only [Fo.app,allG,ih,Bool.and_assoc]
def TestOk (T:Nat) (h:Hd) (k:Fo) (xn xk:Option Addr) (cn ck:Nat) (b:Bool) (w:World):Prop:=
 ∀w',Below w.heap.size w w'→Calls Tryz.prog T #[.agg (ndV h (.slice xn h.names.length cn) (.slice xk k.len ck))] w' fun e w''=>e=.returned (.bool b)∧Below w'.heap.size w' w''

def EnterT (T:Nat):Prop:=∀(args:Array Value) (w:World),Sem.run Tryz.prog (callFunc T args) w=.ok (.enter T args) w

theorem all1_any (T:Nat) (hT:EnterT T) (h:Hd) (k:Fo) (xn xk:Option Addr) (cn ck:Nat) (b:Bool) (kb:Nat) (w:World) (hc:w.cell? ⟨kb,0,none⟩=some (.func (.func T) #[] #[])) (ht:TestOk T h k xn xk cn ck b w):
  Calls Tryz.prog 63 #[.agg (ndV h (.slice xn h.names.length cn) (.slice xk k.len ck)),.pointer (some ⟨kb,0,none⟩)] w fun e w'=>e=.returned (.bool (!b))∧Below w.heap.size w w':=by
 have hba:=(Below.refl w.heap.size w).alloc (Nat.le_refl _) (.cells (ndV h (.slice xn h.names.length cn) (.slice xk k.len ck)) 31)
 have HKB:=zH (Blk.new w 31 (ndV h (.slice xn h.names.length cn) (.slice xk k.len ck)))
 have HBA:=zH hba
 have HT:=zH (ht _ hba)
 have hcz:=(hba.cell (p:=⟨kb,0,none⟩) (World.block_lt_of_cell? w _ hc)).trans hc
 clear hba ht hc;unfold EnterT at hT;unfold ndV at HKB HBA HT hcz ⊢;go_enter Tryz.func63,Tryz.ntmps63;go_upto_region 1 with fail
 generalize w.alloc (.cells #[.int .i64 h.kind,.string ⟨h.text.toArray⟩,.int .i64 h.num,.slice xn h.names.length cn,.slice xk k.len ck,.int .i64 h.pos] 31)=wz at*;generalize hB:w.heap.size=B at*;have HBB:=zH hB;clear hB;have y0:wz.cell? ⟨B,0,none⟩=some (.int .i64 h.kind):=HKB.out.cell 0;have y1:wz.cell? ⟨B,1,none⟩=some (.string ⟨h.text.toArray⟩):=HKB.out.cell 1
 have y2:wz.cell? ⟨B,2,none⟩=some (.int .i64 h.num):=HKB.out.cell 2
 have y3:wz.cell? ⟨B,3,none⟩=some (.slice xn h.names.length cn):=HKB.out.cell 3
 have y4:wz.cell? ⟨B,4,none⟩=some (.slice xk k.len ck):=HKB.out.cell 4
 have y5:wz.cell? ⟨B,5,none⟩=some (.int .i64 h.pos):=HKB.out.cell 5
 go_wp2_with fail;refine HT.out.mono ?_;rintro e w1 ⟨rfl,hb⟩;have HX:=zH (HBA.out.trans (hb.mono (Nat.le_of_lt HKB.out.lt)));clear y0 y1 y2 y3 y4 y5 hb HT hcz;go_wp2_with fail;go_ret;exact ⟨rfl,by rw [HBB.out]; exact HX.out⟩

theorem indexT_any (T:Nat) (hT:EnterT T) (p:Hd→Fo→Bool) (F:Fo) (v:Value) (kb:Nat) (w:World) (hr:FRow w v F) (hc:w.cell? ⟨kb,0,none⟩=some (.func (.func T) #[] #[]))
  (ht:∀(A:Fo) (h:Hd) (k r:Fo) (xn xk:Option Addr) (cn ck:Nat) (w':World),F=A.app (.cons h k r)→Below w.heap.size w w'→NmRow w' (.slice xn h.names.length cn) h.names→FRow w' (.slice xk k.len ck) k→TestOk T h k xn xk cn ck (p h k) w'):
  Calls Tryz.prog 102 #[v,.func (.func 63) #[] #[.pointer (some ⟨kb,0,none⟩)]] w fun e w'=>(∃n:Int,e=.returned (.int .i64 n)∧decide (0≤n)=!allG p F)∧Below w.heap.size w w':=by
 obtain ⟨x,c,rfl,hl,hcc,-⟩:=id hr
 have HR:=zH hr
 have HT:=zH ht
 have HC:=zH hc
 have HLT:=zH (World.block_lt_of_cell? w _ hc)
 unfold maxLen at hcc;clear hr ht hc;obtain ⟨n,hn⟩:∃n,F.len=n:=⟨_,rfl⟩;rw [hn] at HR hl ⊢;have HN:=zH hn;clear hn;go_enter Tryz.func102,Tryz.ntmps102;go_wp2_with fail;go_loopw [8] (fun vi wr=>∃(i:Nat) (A R:Fo),vi=.int .i64 i∧i≤n∧Hid (F=A.app R∧A.len=i∧allG p A=true)∧Hid (Below w.heap.size w wr)) (fun vi _=>n - (intOf vi).toNat)
 case atStart=>exact ⟨0,.nil,F,rfl,Nat.zero_le _,⟨rfl,rfl,rfl⟩,Below.refl _ _⟩
 case round=>
  obtain ⟨i,A,R,rfl,hi,hA,hbw⟩:=hrel
  by_cases hlt:i < n
  ·have dlt:decide ((i:Int) < (n:Int))=true:=by simp; omega
   have i1:(i:Int) < (n:Int):=by omega
   obtain ⟨h,k,r,rfl⟩:∃h k r,R=.cons h k r:=by
    cases R with
    | nil=>have h1:=hA.out.2.1; have h2:=HN.out; rw [hA.out.1,Fo.app_nil] at h2; omega
    | cons h k r=>exact ⟨h,k,r,rfl⟩
   have hf1:FRow wr (.slice x n c) (A.app (.cons h k r)):=by rw [← hA.out.1]; exact HR.out.below hbw.out
   obtain ⟨b,off,xn,cn,xk,ck,rfl,⟨k0,k1,k2,k3,k4,k5⟩,hn1,hk1⟩:=hf1.node
   rw [hA.out.2.1] at k0 k1 k2 k3 k4 k5;have hcw:wr.cell? ⟨kb,0,none⟩=some (.func (.func T) #[] #[]):=(hbw.out.cell (p:=⟨kb,0,none⟩) HLT.out).trans HC.out;obtain ⟨q,hq⟩:∃q,p h k=q:=⟨_,rfl⟩;have HS:=zH (all1_any T hT h k xn xk cn ck q kb wr hcw (by rw [← hq]; exact HT.out A h k r xn xk cn ck wr hA.out.1 hbw.out hn1 hk1))
   have HQ:=zH hq
   clear hq hn1 hk1 hf1 hcw;unfold ndV at HS;go_wp2_with fail;refine HS.out.mono ?_;rintro e w5 ⟨rfl,hb⟩;have HX5:=zH (hbw.out.trans (hb.mono hbw.out.size));clear k0 k1 k2 k3 k4 k5 hb HS
   cases q with
   | false=>
    have HE:Hid (allG p F=false):=by show _=_; rw [hA.out.1,allG_app]; simp only [allG]; rw [HQ.out]; simp
    go_wp2_with fail;go_ret;exact ⟨⟨i,rfl,by rw [HE.out]; simp⟩,HX5.out⟩
   | true=>
    have HNX:Hid (F=(A.app (.cons h k .nil)).app r∧(A.app (.cons h k .nil)).len=i+1∧allG p (A.app (.cons h k .nil))=true):=
     ⟨by rw [← Fo.next]; exact hA.out.1,by rw [Fo.app_len,hA.out.2.1]; rfl,by rw [allG_app,hA.out.2.2]; simp only [allG]; rw [HQ.out]; rfl⟩
    clear hA;go_wp2_with fail;go_roundw
    case rel=>exact ⟨i+1,_,r,by go_num,by omega,HNX,HX5⟩
    case measure=>simp [intOf]; omega
  ·have dlt:decide ((i:Int) < (n:Int))=false:=by simp; omega
   have HE:Hid (allG p F=true):=by
    obtain ⟨g1,g2,g3⟩:=hA.out
    have q1:=HN.out
    rw [g1,Fo.app_len] at q1;show _=_
    rw [g1,allG_app,g3]
    cases R with
    | nil=>rfl
    | cons _ _ _=>simp only [Fo.len] at q1; omega
   clear hA;go_wp2_with fail;go_ret;exact ⟨⟨-1,rfl,by rw [HE.out]; rfl⟩,hbw.out⟩

theorem containsT_any (T:Nat) (hT:EnterT T) (p:Hd→Fo→Bool) (F:Fo) (v:Value) (kb:Nat) (w:World) (hr:FRow w v F) (hc:w.cell? ⟨kb,0,none⟩=some (.func (.func T) #[] #[]))
  (ht:∀(A:Fo) (h:Hd) (k r:Fo) (xn xk:Option Addr) (cn ck:Nat) (w':World),F=A.app (.cons h k r)→Below w.heap.size w w'→NmRow w' (.slice xn h.names.length cn) h.names→FRow w' (.slice xk k.len ck) k→TestOk T h k xn xk cn ck (p h k) w'):
  Calls Tryz.prog 62 #[v,.func (.func 63) #[] #[.pointer (some ⟨kb,0,none⟩)]] w fun e w'=>e=.returned (.bool (!allG p F))∧Below w.heap.size w w':=by
 have H:=zH (indexT_any T hT p F v kb w hr hc ht)
 clear hr hc ht;go_enter Tryz.func62,Tryz.ntmps62;go_wp2_with fail;refine H.out.mono ?_;rintro e w1 ⟨⟨n,rfl,hn⟩,hb⟩;have HB:=zH hb;have HN:=zH hn;clear hn hb;go_wp2_with fail;go_ret;exact ⟨ret_bool HN.out,HB.out⟩

theorem all_any (T:Nat) (hT:EnterT T) (p:Hd→Fo→Bool) (F:Fo) (v:Value) (w:World) (hr:FRow w v F)
  (ht:∀(A:Fo) (h:Hd) (k r:Fo) (xn xk:Option Addr) (cn ck:Nat) (w':World),F=A.app (.cons h k r)→Below w.heap.size w w'→NmRow w' (.slice xn h.names.length cn) h.names→FRow w' (.slice xk k.len ck) k→TestOk T h k xn xk cn ck (p h k) w'):
  Calls Tryz.prog 35 #[v,.func (.func T) #[] #[]] w fun e w'=>e=.returned (.bool (allG p F))∧Below w.heap.size w w':=by
 have hmf:∀(fn:Fn) (first cap:Array Value) (w:World),(Instr.makeFunc fn first cap).run Tryz.prog w=.ok (.func fn first cap) w:=fun _ _ _ _=>rfl
 have hba:=(Below.refl w.heap.size w).alloc (Nat.le_refl _) (.cells #[.func (.func T) #[] #[]] 77)
 have HKB:=Blk.new w 77 #[.func (.func T) #[] #[]]
 have H:=zH (containsT_any T hT p F v w.heap.size _ (hr.below hba) (HKB.cell 0) (fun A h k r xn xk cn ck w' h1 h2=>ht A h k r xn xk cn ck w' h1 (hba.trans (h2.mono (Nat.le_of_lt HKB.lt)))))
 have HBA:=zH hba
 have HLE:=zH (Nat.le_of_lt HKB.lt)
 clear hr ht hba HKB;go_enter Tryz.func35,Tryz.ntmps35;go_wp2_with fail;refine H.out.mono ?_;rintro e w1 ⟨rfl,hb⟩;have HX:=zH (HBA.out.trans (hb.mono HLE.out));clear hb;go_wp2_with fail;go_ret;exact ⟨ret_bool (by simp),HX.out⟩
theorem enter_of {T:Nat} {fn:Func} (hf:Tryz.prog.funcs[T]?=some fn) (hname:(fn.name == "runtime.NumGoroutine")=false) (hb:fn.body.isNone=false):EnterT T:=by
 intro args w;have h1:¬ fn.name = "runtime.NumGoroutine" := by simpa using hname
 have h2:¬ fn.body=none:=by intro h; rw [h] at hb; cases hb
 simp [callFunc,go_sem,hf]
 rw [if_neg h1,if_neg h2]
theorem enter_ex:EnterT 66:=enter_of Tryz.func66 (by kernel_rfl) (by kernel_rfl)
theorem enter_bl:EnterT 67:=enter_of Tryz.func67 (by kernel_rfl) (by kernel_rfl)
theorem enter_st:EnterT 36:=enter_of Tryz.func36 (by kernel_rfl) (by kernel_rfl)
open Go.RowKit

def FoB:Fo→Prop
 | .nil=>True
 | .cons h k r=>h.text.length≤1048576∧(∀s∈h.names,s.length≤1048576)∧FoB k∧FoB r
theorem FoB_app (A R:Fo):FoB (A.app R)↔FoB A∧FoB R:=by
 induction A with
 | nil=>simp [Fo.app,FoB]
 | cons h k r _ ih=>simp only [Fo.app,FoB,ih]; constructor <;> (intro h; simp_all)
def exN (h:Hd) (k:Fo):Bool:=exH h k.len&&rt .ex k
theorem rt_ex (F:Fo):rt .ex F=allG exN F:=by
 induction F with
 | nil=>rfl
 | cons h k r _ ih=>simp only [rt,allG,exN,ih]
theorem lit_run (s:ByteArray) (w:World) (hs:s.size≤1048576):Calls Tryz.prog 104 #[.string s] w fun e w'=>(∃(t:ByteArray) (x:Nat),e=.returned (.tuple #[.string t,.int .i64 (x:Nat)])∧((x:Int)==0)=litOk s.data.toList)∧Below w.heap.size w w':=
 (quote_any s w hs).mono fun e w' ⟨h,hb⟩=>by
  refine ⟨?_,hb⟩
  subst h;unfold litOk
  cases hl:litP s.data.toList with
  | ok l=>exact ⟨⟨l.toArray⟩,0,rfl,rfl⟩
  | error x=>
   refine ⟨⟨#[]⟩,x,rfl,?_⟩
   unfold litP at hl;split at hl
   ·cases hl; rfl
   ·split at hl
    ·cases hl; rfl
    ·cases hl

theorem rexp_all:∀(N:Nat) (h:Hd) (k:Fo) (xn xk:Option Addr) (cn ck:Nat) (w:World),k.size < N→h.text.length≤1048576→FoB k→NmRow w (.slice xn h.names.length cn) h.names→FRow w (.slice xk k.len ck) k→
  Calls Tryz.prog 66 #[.agg (ndV h (.slice xn h.names.length cn) (.slice xk k.len ck))] w fun e w'=>e=.returned (.bool (exN h k))∧Below w.heap.size w w':=by
 intro N;induction N with
 | zero=>intro h k xn xk cn ck w hN; omega
 | succ N ih=>
  intro h k xn xk cn ck w hN htx hFB hnr hkr;have hba:=(Below.refl w.heap.size w).alloc (Nat.le_refl _) (.cells (ndV h (.slice xn h.names.length cn) (.slice xk k.len ck)) 31);have HKB:=zH (Blk.new w 31 (ndV h (.slice xn h.names.length cn) (.slice xk k.len ck)));have HBA:=zH hba
  have HALL:Hid (∀w',Below w.heap.size w w'→Calls Tryz.prog 35 #[.slice xk k.len ck,.func (.func 66) #[] #[]] w' fun e w''=>e=.returned (.bool (rt .ex k))∧Below w'.heap.size w' w''):=by
   intro w' hb;rw [rt_ex];refine all_any 66 enter_ex exN k _ w' (hkr.below hb) ?_;intro A h' k' r' xn' xk' cn' ck' w2 hF hb2 hn2 hk2 w3 hb3;rw [hF] at hFB hN;have:=Fo.kid_size A h' k' r';have hfb:=(FoB_app _ _).1 hFB;exact ih h' k' xn' xk' cn' ck' w3 (by omega) hfb.2.1 hfb.2.2.2.1 (hn2.below hb3) (hk2.below hb3)
  clear ih hN hFB hnr hkr hba;obtain ⟨kd,tx,nu,nm,ps⟩:=h;simp only at htx HKB HBA ⊢;obtain ⟨q,hq⟩:∃q,rt .ex k=q:=⟨_,rfl⟩;rw [hq] at HALL;obtain ⟨n,hn⟩:∃n,k.len=n:=⟨_,rfl⟩;obtain ⟨m,hm⟩:∃m,nm.length=m:=⟨_,rfl⟩;obtain ⟨z,hz⟩:∃z,exN ⟨kd,tx,nu,nm,ps⟩ k=z:=⟨_,rfl⟩;unfold ndV at HKB HBA ⊢;simp only at HKB HBA ⊢;rw [hm,hn] at HKB HBA ⊢;rw [hn] at HALL;rw [hz]
  have HZ:Hid (z=(exH ⟨kd,tx,nu,nm,ps⟩ n&&q)):=by show _=_; rw [← hz,exN,hq,hn]
  have HNE:Hid (nm.isEmpty=decide (m=0)):=by show _=_; rw [← hm]; cases nm <;> simp
  obtain ⟨TX,hTX⟩:∃s:ByteArray,s=⟨tx.toArray⟩:=⟨_,rfl⟩
  have HTL:Hid (TX.data.toList=tx):=by show _=_; rw [hTX]
  have hts:TX.size≤1048576:=by rw [hTX]; simpa [ByteArray.size] using htx
  rw [← hTX] at HKB HBA ⊢;have HLI:=zH (fun w=>lit_run TX w hts)
  have HNA:=zH (fun w=>isName_any TX w hts)
  have HSR:=zH (fun w=>stren_any TX w)
  rw [HTL.out] at HLI HNA HSR;clear hq hn hm hz hTX htx hts;obtain ⟨li,hli⟩:∃b,litOk tx=b:=⟨_,rfl⟩;obtain ⟨na,hna⟩:∃b,isNameP tx=b:=⟨_,rfl⟩;obtain ⟨sr,hsr⟩:∃b,stren tx=b:=⟨_,rfl⟩;rw [hli] at HLI;rw [hna] at HNA;rw [hsr] at HSR;obtain ⟨te,hte⟩:∃b,tx.isEmpty=b:=⟨_,rfl⟩;have HTE:Hid (tx.isEmpty=te∧litOk tx=li∧isNameP tx=na∧stren tx=sr):=⟨hte,hli,hna,hsr⟩
  have hem:TX.data.toList.isEmpty=te:=by rw [HTL.out]; exact hte
  have hem2:(TX.data.toList==[])=te:=by rw [HTL.out,← hte]; cases tx <;> rfl
  clear hli hna hsr hte;go_enter Tryz.func66,Tryz.ntmps66;go_upto_region 1 with fail
  generalize w.alloc (.cells #[.int .i64 kd,.string TX,.int .i64 nu,.slice xn m cn,.slice xk n ck,.int .i64 ps] 31)=wz at*;generalize hB:w.heap.size=B at*;have HBB:=zH hB;clear hB;have y0:wz.cell? ⟨B,0,none⟩=some (.int .i64 kd):=HKB.out.cell 0;have y1:wz.cell? ⟨B,1,none⟩=some (.string TX):=HKB.out.cell 1;have y2:wz.cell? ⟨B,2,none⟩=some (.int .i64 nu):=HKB.out.cell 2
  have y3:wz.cell? ⟨B,3,none⟩=some (.slice xn m cn):=HKB.out.cell 3
  have y4:wz.cell? ⟨B,4,none⟩=some (.slice xk n ck):=HKB.out.cell 4
  by_cases hbad:(nu≠0∧kd≠1)∨0 < m
  ·have HE:Hid (z=false):=by
    show _=_
    rw [HZ.out];unfold exH;simp only;rw [HNE.out];rcases hbad with ⟨h1,h2⟩ | h1
    ·simp [h1,h2]
    ·have:¬ m=0:=by omega
     simp [this]
   by_cases hnu:nu=0
   ·have e1:(nu != 0)=false:=by simp [hnu]
    have e4:0 < m:=by
     rcases hbad with ⟨h1,h2⟩ | h1
     ·exact absurd hnu h1
     ·omega
    have e3:decide ((0:Int) < (m:Int))=true:=by simp; omega
    have e5:decide (0 < m)=true:=by simp; omega
    clear hbad hnu;go_wp2_with fail;go_ret;exact ⟨ret_bool HE.out.symm,by rw [HBB.out]; exact HBA.out⟩
   ·have e1:(nu != 0)=true:=by simp [hnu]
    by_cases hkd:kd=1
    ·have e2:(kd != 1)=false:=by simp [hkd]
     have e4:0 < m:=by
      rcases hbad with ⟨h1,h2⟩ | h1
      ·exact absurd hkd h2
      ·omega
     have e3:decide ((0:Int) < (m:Int))=true:=by simp; omega
     have e5:decide (0 < m)=true:=by simp; omega
     clear hbad hnu hkd;go_wp2_with fail;go_ret;exact ⟨ret_bool HE.out.symm,by rw [HBB.out]; exact HBA.out⟩
    ·have e2:(kd != 1)=true:=by simp [hkd]
     clear hbad hnu hkd;go_wp2_with fail;go_ret;exact ⟨ret_bool HE.out.symm,by rw [HBB.out]; exact HBA.out⟩
  ·have hm0:m=0:=by omega
   have hnk:nu=0∨kd=1:=by
    by_cases h1:nu=0
    ·exact .inl h1
    ·by_cases h2:kd=1
     ·exact .inr h2
     ·exact absurd (.inl ⟨h1,h2⟩) hbad
   have e4:¬ 0 < m:=by omega
   have e3:decide ((0:Int) < (m:Int))=false:=by simp; omega
   have e5:decide (0 < m)=false:=by simp; omega
   have HZ2:Hid (z=(exH ⟨kd,[],if kd=1 then nu else 0,[],0⟩ n&&q)∨True):=.inr trivial
   have HNK:=zH hnk
   have HM0:=zH hm0
   clear hbad hnk hm0 HZ2;go_cut [20] from 7 to 19 (fun v20 wx=>v20=.bool false∧wx=wz)
   case first=>
    by_cases hnu:nu=0
    ·have e1:(nu != 0)=false:=by simp [hnu]
     clear hnu;go_wp2_with fail;go_meet
     case rel=>exact ⟨rfl,rfl⟩
    ·have e1:(nu != 0)=true:=by simp [hnu]
     have e2:(kd != 1)=false:=by
      rcases HNK.out with h1 | h1
      ·exact absurd h1 hnu
      ·simp [h1]
     clear hnu;go_wp2_with fail;go_meet
     case rel=>exact ⟨rfl,rfl⟩
   case rest=>
   obtain ⟨rfl,hwc⟩:=hcut
   subst hwc;clear e3 e4 e5;obtain ⟨m1,hm1⟩:∃b,(TX.data.toList==[45])=b:=⟨_,rfl⟩;obtain ⟨m2,hm2⟩:∃b,(TX.data.toList==[33])=b:=⟨_,rfl⟩;have HEX:Hid (exH ⟨kd,tx,nu,nm,ps⟩ n=(if kd=1 then decide (0≤nu∧nu≤4611686018427387904)&&te&&decide (n=0) else if kd=2 then li&&decide (n=0) else if kd=3 then na&&decide (n=0) else if kd=4 then te
     else if kd=5 then (m1||m2)&&decide (n=1) else if kd=6 then decide (0 < sr)&&decide (n=2) else if kd=7 then na else if kd=8 then te&&decide (n=2) else (decide (kd=9)||decide (kd=10))&&te&&decide (n=0))):=by
    show _=_
    obtain ⟨g1,g2,g3,g4⟩:=HTE.out
    have h1:(decide (nu=0)||decide (kd=1))=true:=by rcases HNK.out with h | h <;> simp [h]
    have h2:nm.isEmpty=true:=by rw [HNE.out,HM0.out]; rfl
    have h3:decide (tx=bytes [45])=m1:=by rw [← hm1,HTL.out,Bool.eq_iff_iff]; simp [bytes]
    have h4:decide (tx=bytes [33])=m2:=by rw [← hm2,HTL.out,Bool.eq_iff_iff]; simp [bytes]
    unfold exH;simp only [h1,h2,h3,h4,g1,g2,g3,g4,Bool.true_and]
   have hem3:TX.toList.isEmpty=te:=by rw [ByteArray.toList_eq]; exact hem
   have hm1b:(TX.toList==[45])=m1:=by rw [ByteArray.toList_eq]; exact hm1
   have hm2b:(TX.toList==[33])=m2:=by rw [ByteArray.toList_eq]; exact hm2
   clear HTE HNE;go_wp2_with fail;go_quiet (fail);generalize hwd:wc.drewN nq=wd at*;have z0:wd.cell? ⟨B,0,none⟩=some (.int .i64 kd):=by rw [← hwd]; exact y0
   have z1:wd.cell? ⟨B,1,none⟩=some (.string TX):=by rw [← hwd]; exact y1
   have z2:wd.cell? ⟨B,2,none⟩=some (.int .i64 nu):=by rw [← hwd]; exact y2
   have z4:wd.cell? ⟨B,4,none⟩=some (.slice xk n ck):=by rw [← hwd]; exact y4
   have HBD:Hid (Below B w wd):=by rw [← hwd]; exact below_drewS HBA.out nq
   have HLD:Hid (B < wd.heap.size):=by rw [← hwd]; exact HKB.out.lt
   clear y0 y1 y2 y3 y4 hwd;go_upto_block 0 with fail
   go_cut [3,4,5,6] from 26 to 84 (fun v3 v4 v5 v6 wx=>∃(mm:Nat) (b:Bool),v3=.int .i64 mm∧v4=.bool b∧Hid (exH ⟨kd,tx,nu,nm,ps⟩ n=(b&&decide (n=mm)))∧Hid (Below wd.heap.size wd wx))
   case first=>
    have HRF:Hid (Below wd.heap.size wd wd):=Below.refl _ _
    by_cases hk:kd=1
    ·subst hk
     by_cases hr:0≤nu∧nu≤4611686018427387904
     ·have e1:decide (nu < 0)=false:=by simp; omega
      have e2:decide ((4611686018427387904:Int) < nu)=false:=by simp; omega
      have HP:Hid (exH ⟨1,tx,nu,nm,ps⟩ n=(te&&decide (n=0))):=by show _=_; rw [HEX.out]; simp [hr]
      clear hr;go_wp2_with fail;go_meet
      case rel=>exact ⟨0,te,rfl,rfl,HP,HRF⟩
     ·have HP:Hid (z=false):=by show _=_; rw [HZ.out,HEX.out]; simp [hr]
      by_cases h1:nu < 0
      ·have e1:decide (nu < 0)=true:=by simp; omega
       clear h1 hr;go_wp2_with fail;go_ret;exact ⟨ret_bool HP.out.symm,by rw [HBB.out]; exact HBD.out⟩
      ·have e1:decide (nu < 0)=false:=by simp; omega
       have e2:decide ((4611686018427387904:Int) < nu)=true:=by simp; omega
       clear h1 hr;go_wp2_with fail;go_ret;exact ⟨ret_bool HP.out.symm,by rw [HBB.out]; exact HBD.out⟩
    have n1:(kd==1)=false:=by simp [hk]
    by_cases hk2:kd=2
    ·subst hk2
     clear hk;have HP:Hid (exH ⟨2,tx,nu,nm,ps⟩ n=(li&&decide (n=0))):=by show _=_; rw [HEX.out]; simp
     go_wp2_with fail;refine (HLI.out _).mono ?_;rintro e w5 ⟨⟨t,x,rfl,hx⟩,hb⟩;have HX5:=zH hb;clear hb;go_wp2_with fail;go_meet
     case rel=>exact ⟨0,li,rfl,rfl,HP,HX5⟩
    have n2:(kd==2)=false:=by simp [hk2]
    by_cases hk3:kd=3
    ·subst hk3
     clear hk hk2;have HP:Hid (exH ⟨3,tx,nu,nm,ps⟩ n=(na&&decide (n=0))):=by show _=_; rw [HEX.out]; simp
     go_wp2_with fail;refine (HNA.out _).mono ?_;rintro e w5 ⟨rfl,rfl⟩;go_wp2_with fail;go_meet
     case rel=>exact ⟨0,na,rfl,rfl,HP,HRF⟩
    have n3:(kd==3)=false:=by simp [hk3]
    by_cases hk4:kd=4
    ·subst hk4
     clear hk hk2 hk3;have HP:Hid (exH ⟨4,tx,nu,nm,ps⟩ n=te):=by show _=_; rw [HEX.out]; simp
     go_wp2_with fail;go_meet
     case rel=>exact ⟨n,te,rfl,rfl,by show _=_; rw [HP.out]; simp,HRF⟩
    have n4:(kd==4)=false:=by simp [hk4]
    by_cases hk5:kd=5
    ·subst hk5
     clear hk hk2 hk3 hk4;have HP:Hid (exH ⟨5,tx,nu,nm,ps⟩ n=((m1||m2)&&decide (n=1))):=by show _=_; rw [HEX.out]; simp
     go_wp2_with fail
     cases m1 with
     | true=>
      go_quiet (fail)
      go_wp2_with fail;go_meet
      case rel=>exact ⟨1,_,rfl,rfl,HP,zH (below_drewS HRF.out nq)⟩
     | false=>
      go_quiet (fail)
      go_wp2_with fail;go_meet
      case rel=>exact ⟨1,_,rfl,rfl,HP,zH (below_drewS HRF.out nq)⟩
    have n5:(kd==5)=false:=by simp [hk5]
    by_cases hk6:kd=6
    ·subst hk6
     clear hk hk2 hk3 hk4 hk5;have HP:Hid (exH ⟨6,tx,nu,nm,ps⟩ n=(decide (0 < sr)&&decide (n=2))):=by show _=_; rw [HEX.out]; simp
     go_wp2_with fail;refine (HSR.out _).mono ?_;rintro e w5 ⟨rfl,rfl⟩;go_wp2_with fail;go_meet
     case rel=>exact ⟨2,_,rfl,rfl,HP,HRF⟩
    have n6:(kd==6)=false:=by simp [hk6]
    by_cases hk7:kd=7
    ·subst hk7
     clear hk hk2 hk3 hk4 hk5 hk6;have HP:Hid (exH ⟨7,tx,nu,nm,ps⟩ n=na):=by show _=_; rw [HEX.out]; simp
     go_wp2_with fail;go_quiet ((go_at_call 65; exact Calls.quiet_of_same ((HNA.out _).mono fun _ _ h=>⟨h.1,h.2.symm⟩)))
     go_wp2_with fail;go_meet
     case rel=>exact ⟨n,na,rfl,rfl,by show _=_; rw [HP.out]; simp,zH (below_drewS HRF.out nq)⟩
    have n7:(kd==7)=false:=by simp [hk7]
    by_cases hk8:kd=8
    ·subst hk8
     clear hk hk2 hk3 hk4 hk5 hk6 hk7;have HP:Hid (exH ⟨8,tx,nu,nm,ps⟩ n=(te&&decide (n=2))):=by show _=_; rw [HEX.out]; simp
     go_wp2_with fail;go_meet
     case rel=>exact ⟨2,te,rfl,rfl,HP,HRF⟩
    have n8:(kd==8)=false:=by simp [hk8]
    by_cases hk9:kd=9
    ·subst hk9
     clear hk hk2 hk3 hk4 hk5 hk6 hk7 hk8;have HP:Hid (exH ⟨9,tx,nu,nm,ps⟩ n=(te&&decide (n=0))):=by show _=_; rw [HEX.out]; simp
     go_wp2_with fail;go_meet
     case rel=>exact ⟨0,te,rfl,rfl,HP,HRF⟩
    have n9:(kd==9)=false:=by simp [hk9]
    by_cases hk10:kd=10
    ·subst hk10
     clear hk hk2 hk3 hk4 hk5 hk6 hk7 hk8 hk9;have HP:Hid (exH ⟨10,tx,nu,nm,ps⟩ n=(te&&decide (n=0))):=by show _=_; rw [HEX.out]; simp
     go_wp2_with fail;go_meet
     case rel=>exact ⟨0,te,rfl,rfl,HP,HRF⟩
    have n10:(kd==10)=false:=by simp [hk10]
    have HP:Hid (z=false):=by show _=_; rw [HZ.out,HEX.out]; simp [hk,hk2,hk3,hk4,hk5,hk6,hk7,hk8,hk9,hk10]
    clear hk hk2 hk3 hk4 hk5 hk6 hk7 hk8 hk9 hk10;go_wp2_with fail;go_ret;exact ⟨ret_bool HP.out.symm,by rw [HBB.out]; exact HBD.out⟩
   case rest=>
   obtain ⟨mm,b,rfl,rfl,HP,hbx⟩:=hcut
   have hBw:Below B w wc:=HBD.out.trans (hbx.out.mono (Nat.le_of_lt HLD.out))
   have HBW:=zH hBw
   have x4:wc.cell? ⟨B,4,none⟩=some (.slice xk n ck):=(hbx.out.cell (p:=⟨B,4,none⟩) HLD.out).trans z4
   have HLW:Hid (B≤wc.heap.size):=Nat.le_trans (Nat.le_of_lt HLD.out) hbx.out.size
   clear hBw z0 z1 z2 z4
   cases b with
   | false=>
    have HE:Hid (z=false):=by show _=_; rw [HZ.out,HP.out]; rfl
    go_wp2_with fail;go_ret;exact ⟨ret_bool HE.out.symm,by rw [HBB.out]; exact HBW.out⟩
   | true=>
    by_cases hnm:n=mm
    ·have en:((n:Int)==(mm:Int))=true:=by simp [hnm]
     have HE:Hid (z=q):=by show _=_; rw [HZ.out,HP.out]; simp [hnm]
     clear hnm;go_wp2_with fail;refine (HALL.out _ HBW.out).mono ?_;rintro e w5 ⟨rfl,hb⟩;have HX5:=zH (HBW.out.trans (hb.mono HLW.out));clear hb;go_wp2_with fail;go_ret;exact ⟨ret_bool HE.out.symm,by rw [HBB.out]; exact HX5.out⟩
    ·have en:((n:Int)==(mm:Int))=false:=by simp; omega
     have HE:Hid (z=false):=by show _=_; rw [HZ.out,HP.out]; simp [hnm]
     clear hnm;go_wp2_with fail;go_ret;exact ⟨ret_bool HE.out.symm,by rw [HBB.out]; exact HBW.out⟩
open Go.RowKit

def stN (h:Hd) (k:Fo):Bool:=stH h&&rt (kidM h k.len) k
def blN (h:Hd) (k:Fo):Bool:=decide (h.kind=25)&&stN h k
def biN (h:Hd) (k:Fo):Bool:=(decide (h.kind=25)||decide (h.kind=22))&&stN h k
theorem rt_st (F:Fo):rt .st F=allG stN F:=by
 induction F with
 | nil=>rfl
 | cons h k r _ ih=>simp only [rt,allG,stN,ih]
theorem Fo.first (F:Fo) (m:Nat) (h:m≤F.len):∃A R:Fo,F=A.app R∧A.len=m∧R.len=F.len - m:=by
 obtain ⟨A,R,rfl,hA⟩:=Fo.split F m h
 exact ⟨A,R,rfl,hA,by rw [Fo.app_len]; omega⟩
theorem rt_exs (A R:Fo) (t:List Ro):rt (.sq (List.replicate A.len .ex++t)) (A.app R)=(allG exN A&&rt (.sq t) R):=by
 induction A with
 | nil=>simp [Fo.len,Fo.app,allG]
 | cons h k r _ ih=>simp only [Fo.len,List.replicate_succ,List.cons_append,Fo.app,rt,ih,allG,exN,Bool.and_assoc]
theorem rt_bls (A:Fo):rt (.sq (List.replicate A.len .bl)) A=allG blN A:=by
 induction A with
 | nil=>simp [Fo.len,allG,rt]
 | cons h k r _ ih=>simp only [Fo.len,List.replicate_succ,rt,ih,allG,blN,stN,Bool.and_assoc]
theorem rt_len:∀(l:List Ro) (F:Fo),rt (.sq l) F=true→F.len=l.length:=by
 intro l F;induction F generalizing l with
 | nil=>intro h; simp [rt] at h; simp [h,Fo.len]
 | cons hd k r _ ih=>
  intro h
  cases l with
  | nil=>simp [rt] at h
  | cons x t=>
   have:rt (.sq t) r=true:=by cases x <;> (simp [rt] at h; exact h.2)
   simp [Fo.len,ih t this]
theorem rt_parts (A R:Fo) (e b:Nat) (hA:A.len=e) (hR:R.len=b):rt (.sq (List.replicate e .ex++List.replicate b .bl)) (A.app R)=(allG exN A&&allG blN R):=by
 subst hA hR;rw [rt_exs,rt_bls]
theorem rt_parts_no (F:Fo) (e b:Nat) (h:F.len≠e+b):rt (.sq (List.replicate e .ex++List.replicate b .bl)) F=false:=by
 cases hr:rt (.sq (List.replicate e .ex++List.replicate b .bl)) F with
 | false=>rfl
 | true=>exact absurd (rt_len _ _ hr) (by simpa using h)

/-! Rows of the parts. -/
theorem FRow.head {w:World} {x:Option Addr} {n c:Nat} {A R:Fo} (h:FRow w (.slice x n c) (A.app R)):FRow w (.slice x A.len c) A:=by
 obtain ⟨x',c',h1,h2,h3,h4,h5⟩:=h
 injection h1 with e1 e2 e3
 subst e1 e3;rw [Fo.app_len] at h2 h5;refine ⟨x,c,rfl,by omega,h3,h4,fun hn=>?_⟩
 obtain ⟨b,o,hx,hp⟩:=h5 (by omega)
 exact ⟨b,o,hx,((FAt.app _ _ _ _).1 hp).1⟩
theorem FRow.tail {w:World} {b off n c:Nat} {A R:Fo} (h:FRow w (.slice (some ⟨b,off,none⟩) n c) (A.app R)):FRow w (.slice (some ⟨b,off+A.len*6,none⟩) R.len (c - A.len)) R:=by
 obtain ⟨x',c',h1,h2,h3,h4,h5⟩:=h
 injection h1 with e1 e2 e3
 subst e1 e3;rw [Fo.app_len] at h2 h5;refine ⟨_,_,rfl,by omega,by omega,(fun h=>by cases h),fun hn=>?_⟩
 obtain ⟨b',o',hx,hp⟩:=h5 (by omega)
 injection hx with hx
 injection hx with q1 q2
 subst q1 q2;exact ⟨b,_,rfl,((FAt.app _ _ _ _).1 hp).2⟩
open Go.RowKit

theorem rblock_any (h:Hd) (k:Fo) (xn xk:Option Addr) (cn ck:Nat) (b:Bool) (w:World) (ht:TestOk 36 h k xn xk cn ck b w):
  Calls Tryz.prog 67 #[.agg (ndV h (.slice xn h.names.length cn) (.slice xk k.len ck))] w fun e w'=>e=.returned (.bool (decide (h.kind=25)&&b))∧Below w.heap.size w w':=by
 have hba:=(Below.refl w.heap.size w).alloc (Nat.le_refl _) (.cells (ndV h (.slice xn h.names.length cn) (.slice xk k.len ck)) 31)
 have HKB:=zH (Blk.new w 31 (ndV h (.slice xn h.names.length cn) (.slice xk k.len ck)))
 have HBA:=zH hba
 have HT:=zH (ht _ hba)
 clear hba ht;unfold ndV at HKB HBA HT ⊢;go_enter Tryz.func67,Tryz.ntmps67;go_upto_region 1 with fail
 generalize w.alloc (.cells #[.int .i64 h.kind,.string ⟨h.text.toArray⟩,.int .i64 h.num,.slice xn h.names.length cn,.slice xk k.len ck,.int .i64 h.pos] 31)=wz at*;generalize hB:w.heap.size=B at*;have HBB:=zH hB;clear hB;have y0:wz.cell? ⟨B,0,none⟩=some (.int .i64 h.kind):=HKB.out.cell 0;have y1:wz.cell? ⟨B,1,none⟩=some (.string ⟨h.text.toArray⟩):=HKB.out.cell 1
 have y2:wz.cell? ⟨B,2,none⟩=some (.int .i64 h.num):=HKB.out.cell 2
 have y3:wz.cell? ⟨B,3,none⟩=some (.slice xn h.names.length cn):=HKB.out.cell 3
 have y4:wz.cell? ⟨B,4,none⟩=some (.slice xk k.len ck):=HKB.out.cell 4
 have y5:wz.cell? ⟨B,5,none⟩=some (.int .i64 h.pos):=HKB.out.cell 5
 by_cases hk:h.kind=25
 ·have e1:(h.kind==25)=true:=by simp [hk]
  have HE:Hid ((decide (h.kind=25)&&b)=b):=by show _=_; simp [hk]
  clear hk;go_wp2_with fail;refine HT.out.mono ?_;rintro e w1 ⟨rfl,hb⟩;have HX:=zH (HBA.out.trans (hb.mono (Nat.le_of_lt HKB.out.lt)));clear y0 y1 y2 y3 y4 y5 hb HT;go_wp2_with fail;go_ret;exact ⟨ret_bool HE.out.symm,by rw [HBB.out]; exact HX.out⟩
 ·have e1:(h.kind==25)=false:=by simp [hk]
  have HE:Hid ((decide (h.kind=25)&&b)=false):=by show _=_; simp [hk]
  clear hk;go_wp2_with fail;go_ret;exact ⟨ret_bool HE.out.symm,by rw [HBB.out]; exact HBA.out⟩
open Go.RowKit

theorem rif_any (h0 h1 h2:Hd) (k0 k1 k2:Fo) (x:Option Addr) (c:Nat) (w:World) (hr:FRow w (.slice x 3 c) (.cons h0 k0 (.cons h1 k1 (.cons h2 k2 .nil)))) (hb0:h0.text.length≤1048576∧FoB k0)
  (ih1:∀xn xk cn ck w',Below w.heap.size w w'→NmRow w' (.slice xn h1.names.length cn) h1.names→FRow w' (.slice xk k1.len ck) k1→TestOk 36 h1 k1 xn xk cn ck (stN h1 k1) w')
  (ih2:∀xn xk cn ck w',Below w.heap.size w w'→NmRow w' (.slice xn h2.names.length cn) h2.names→FRow w' (.slice xk k2.len ck) k2→TestOk 36 h2 k2 xn xk cn ck (stN h2 k2) w'):
  Calls Tryz.prog 64 #[.slice x 3 c] w fun e w'=>e=.returned (.bool (exN h0 k0&&blN h1 k1&&biN h2 k2))∧Below w.heap.size w w':=by
 obtain ⟨b,off,xn0,cn0,xk0,ck0,rfl,⟨a0,a1,a2,a3,a4,a5⟩,hn0,hk0⟩:=FRow.node (A:=.nil) hr
 obtain ⟨b',off',xn1,cn1,xk1,ck1,hx,⟨b0,b1,b2,b3,b4,b5⟩,hn1,hk1⟩:=FRow.node (A:=.cons h0 k0 .nil) (h:=h1) (k:=k1) (r:=.cons h2 k2 .nil) hr
 cases hx
 obtain ⟨b',off',xn2,cn2,xk2,ck2,hx,⟨c0,c1,c2,c3,c4,c5⟩,hn2,hk2⟩:=FRow.node (A:=.cons h0 k0 (.cons h1 k1 .nil)) (h:=h2) (k:=k2) (r:=.nil) hr
 cases hx
 simp only [Fo.len,Nat.zero_mul,Nat.add_zero,Nat.zero_add,Nat.one_mul,Nat.reduceMul,Nat.reduceAdd,Nat.add_assoc] at a0 a1 a2 a3 a4 a5 b0 b1 b2 b3 b4 b5 c0 c1 c2 c3 c4 c5;have hcw:3≤c:=by obtain ⟨_,_,hv,hl,-⟩:=hr; cases hv; simpa [Fo.len] using hl
 have HLT:=zH (World.block_lt_of_cell? w _ a0)
 have HE0:=zH (rexp_all _ h0 k0 xn0 xk0 cn0 ck0 w (Nat.lt_succ_self _) hb0.1 hb0.2 hn0 hk0)
 have HE1:=zH (fun w' (hb:Below w.heap.size w w')=>rblock_any h1 k1 xn1 xk1 cn1 ck1 (stN h1 k1) w' (ih1 _ _ _ _ w' hb (hn1.below hb) (hk1.below hb)))
 have HE2:=zH (fun w' (hb:Below w.heap.size w w')=>ih2 xn2 xk2 cn2 ck2 w' hb (hn2.below hb) (hk2.below hb) w' (Below.refl _ _))
 have HBB:=zH (⟨b0,b1,b2,b3,b4,b5⟩:_∧_∧_∧_∧_∧_)
 have HCC:=zH (⟨c0,c1,c2,c3,c4,c5⟩:_∧_∧_∧_∧_∧_)
 clear hr hb0 ih1 ih2 hn0 hn1 hn2 hk0 hk1 hk2 b0 b1 b2 b3 b4 b5 c0 c1 c2 c3 c4 c5;obtain ⟨q0,hq0⟩:∃q,exN h0 k0=q:=⟨_,rfl⟩;obtain ⟨q1,hq1⟩:∃q,blN h1 k1=q:=⟨_,rfl⟩;obtain ⟨q2,hq2⟩:∃q,stN h2 k2=q:=⟨_,rfl⟩;have HQ1:Hid ((decide (h1.kind=25)&&stN h1 k1)=q1):=hq1;rw [hq0] at HE0;rw [HQ1.out] at HE1;rw [hq2] at HE2;unfold biN;rw [hq0,hq1,hq2];clear hq0 hq1 hq2 HQ1;unfold ndV at HE0 HE1 HE2
 go_enter Tryz.func64,Tryz.ntmps64
 go_wp2_with fail;refine HE0.out.mono ?_;rintro e w1 ⟨rfl,hb⟩;have HX1:=zH hb;have d0:=(hb.cell (p:=⟨b,off+6,none⟩) HLT.out).trans HBB.out.1;have d1:=(hb.cell (p:=⟨b,off+7,none⟩) HLT.out).trans HBB.out.2.1;have d2:=(hb.cell (p:=⟨b,off+8,none⟩) HLT.out).trans HBB.out.2.2.1;have d3:=(hb.cell (p:=⟨b,off+9,none⟩) HLT.out).trans HBB.out.2.2.2.1
 have d4:=(hb.cell (p:=⟨b,off+10,none⟩) HLT.out).trans HBB.out.2.2.2.2.1
 have d5:=(hb.cell (p:=⟨b,off+11,none⟩) HLT.out).trans HBB.out.2.2.2.2.2
 clear a0 a1 a2 a3 a4 a5 hb HE0
 cases q0 with
 | false=>
  go_wp2_with fail;go_ret;exact ⟨rfl,HX1.out⟩
 | true=>
  go_wp2_with fail;refine (HE1.out _ HX1.out).mono ?_;rintro e w2 ⟨rfl,hb⟩;have HX2:=zH (HX1.out.trans (hb.mono HX1.out.size));have g0:=(HX2.out.cell (p:=⟨b,off+12,none⟩) HLT.out).trans HCC.out.1;have g1:=(HX2.out.cell (p:=⟨b,off+13,none⟩) HLT.out).trans HCC.out.2.1;have g2:=(HX2.out.cell (p:=⟨b,off+14,none⟩) HLT.out).trans HCC.out.2.2.1
  have g3:=(HX2.out.cell (p:=⟨b,off+15,none⟩) HLT.out).trans HCC.out.2.2.2.1
  have g4:=(HX2.out.cell (p:=⟨b,off+16,none⟩) HLT.out).trans HCC.out.2.2.2.2.1
  have g5:=(HX2.out.cell (p:=⟨b,off+17,none⟩) HLT.out).trans HCC.out.2.2.2.2.2
  clear d0 d1 d2 d3 d4 d5 hb HE1
  cases q1 with
  | false=>
   go_wp2_with fail;go_ret;exact ⟨rfl,HX2.out⟩
  | true=>
   by_cases h25:h2.kind=25
   ·have e1:(h2.kind==25)=true:=by simp [h25]
    have HQ:Hid (((decide (h2.kind=25)||decide (h2.kind=22))&&q2)=q2):=by show _=_; simp [h25]
    clear h25;go_wp2_with fail;refine (HE2.out _ HX2.out).mono ?_;rintro e w3 ⟨rfl,hb⟩;have HX3:=zH (HX2.out.trans (hb.mono HX2.out.size));clear g0 g1 g2 g3 g4 g5 hb HE2;go_wp2_with fail;go_ret;exact ⟨ret_bool (by rw [HQ.out]; rfl),HX3.out⟩
   ·have e1:(h2.kind==25)=false:=by simp [h25]
    by_cases h22:h2.kind=22
    ·have e2:(h2.kind==22)=true:=by simp [h22]
     have HQ:Hid (((decide (h2.kind=25)||decide (h2.kind=22))&&q2)=q2):=by show _=_; simp [h22]
     clear h25 h22;go_wp2_with fail;refine (HE2.out _ HX2.out).mono ?_;rintro e w3 ⟨rfl,hb⟩;have HX3:=zH (HX2.out.trans (hb.mono HX2.out.size));clear g0 g1 g2 g3 g4 g5 hb HE2;go_wp2_with fail;go_ret;exact ⟨ret_bool (by rw [HQ.out]; rfl),HX3.out⟩
    ·have e2:(h2.kind==22)=false:=by simp [h22]
     have HQ:Hid (((decide (h2.kind=25)||decide (h2.kind=22))&&q2)=false):=by show _=_; simp [h25,h22]
     clear h25 h22;go_wp2_with fail;go_ret;exact ⟨ret_bool (by rw [HQ.out]; rfl),HX2.out⟩
end Go.Proofs.YtbaidkefobhipaaGreatDoor
