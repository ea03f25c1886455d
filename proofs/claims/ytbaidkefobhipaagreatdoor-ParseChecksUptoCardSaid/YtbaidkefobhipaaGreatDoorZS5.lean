/-
  Plain: when a statement is right, kind by kind.
  Walk: rightStatement.
  Walk: rightStatement.
  Walk: right, whether a list of trees is a right program.
  Plain lemmas on whole rows: a row stored at once, results that are rows.
-/
import Derived.Test.YtbaidkefobhipaaGreatDoorZS4
import Derived.Test.YtbaidkefobhipaaGreatDoorZS0
import Derived.Laws.Rows
import Derived.Laws.Tables
import Derived.Great.BuildSlice
namespace Go.Proofs.YtbaidkefobhipaaGreatDoor
set_option maxHeartbeats 8000000
set_option maxRecDepth 100000
open Go.RowKit

def parOk (h:Hd) (k:Fo) (nd:Bool) (E B:Nat):Bool:=
 (if nd then isNameP h.text else h.text.isEmpty)&&h.names.all isNameP&&rt (.sq (List.replicate E .ex++List.replicate B .bl)) k
theorem stN_named {h:Hd} {k:Fo} (hn:h.num=0) (hm:h.names=[]) (hk:h.kind=20∨h.kind=21):stN h k=parOk h k true 1 0:=by
 unfold stN stH parOk kidM;rcases hk with hk | hk <;> simp [hk,hn,hm]
theorem stN_if2 {h:Hd} {k:Fo} (hn:h.num=0) (hm:h.names=[]) (hk:h.kind=22) (h3:k.len≠3):stN h k=parOk h k false 1 1:=by
 unfold stN stH parOk kidM;simp [hk,hn,hm,h3]
theorem stN_if3 {h:Hd} {k:Fo} (hn:h.num=0) (hm:h.names=[]) (hk:h.kind=22) (h3:k.len=3):stN h k=(h.text.isEmpty&&rt (.sq [.ex,.bl,.bi]) k):=by
 unfold stN stH kidM;simp [hk,hn,hm,h3]
theorem stN_while {h:Hd} {k:Fo} (hn:h.num=0) (hm:h.names=[]) (hk:h.kind=23):stN h k=parOk h k false 1 1:=by
 unfold stN stH parOk kidM;simp [hk,hn,hm]
theorem stN_for {h:Hd} {k:Fo} (hn:h.num=0) (hm:h.names=[]) (hk:h.kind=24):stN h k=parOk h k true 2 1:=by
 unfold stN stH parOk kidM;simp [hk,hn,hm]
theorem stN_block {h:Hd} {k:Fo} (hn:h.num=0) (hm:h.names=[]) (hk:h.kind=25):stN h k=(h.text.isEmpty&&rt .st k):=by
 unfold stN stH kidM;simp [hk,hn,hm]
theorem stN_fn {h:Hd} {k:Fo} (hn:h.num=0) (hk:h.kind=26):stN h k=parOk h k true 0 1:=by
 unfold stN stH parOk kidM;simp [hk,hn]
theorem stN_return {h:Hd} {k:Fo} (hn:h.num=0) (hm:h.names=[]) (hk:h.kind=27):stN h k=parOk h k false (min k.len 1) 0:=by
 unfold stN stH parOk kidM;by_cases h0:k.len=0
 ·simp [hk,hn,hm,h0]
 ·have h1:min k.len 1=1:=by omega
  simp [hk,hn,hm,h0,h1]
theorem stN_expr {h:Hd} {k:Fo} (hn:h.num=0) (hm:h.names=[]) (hk:h.kind=28):stN h k=parOk h k false 1 0:=by
 unfold stN stH parOk kidM;simp [hk,hn,hm]
theorem stN_break {h:Hd} {k:Fo} (hn:h.num=0) (hm:h.names=[]) (hk:h.kind=29):stN h k=parOk h k false 0 0:=by
 unfold stN stH parOk kidM;simp [hk,hn,hm]
theorem stN_other {h:Hd} {k:Fo} (hk:h.kind < 20∨29 < h.kind):stN h k=false:=by
 unfold stN stH;have:¬ (20≤h.kind∧h.kind≤29):=by omega
 simp [this]
theorem stN_bad {h:Hd} {k:Fo} (hb:h.num≠0∨(h.kind≠26∧h.names≠[])):stN h k=false:=by
 unfold stN stH;rcases hb with h1 | ⟨h1,h2⟩
 ·simp [h1]
 ·simp [h1,h2]
theorem rt_if3 (h0 h1 h2:Hd) (k0 k1 k2:Fo):rt (.sq [.ex,.bl,.bi]) (.cons h0 k0 (.cons h1 k1 (.cons h2 k2 .nil)))=(exN h0 k0&&blN h1 k1&&biN h2 k2):=by
 simp only [rt,exN,blN,biN,stN,List.isEmpty_nil,Bool.and_true,Bool.and_assoc]
theorem Fo.three (F:Fo) (h:F.len=3):∃h0 k0 h1 k1 h2 k2,F=.cons h0 k0 (.cons h1 k1 (.cons h2 k2 .nil)):=by
 match F,h with
 | .cons h0 k0 (.cons h1 k1 (.cons h2 k2 .nil)),_=>exact ⟨h0,k0,h1,k1,h2,k2,rfl⟩
 | .cons h0 k0 (.cons h1 k1 (.cons h2 k2 (.cons h3 k3 r))),h=>simp only [Fo.len] at h; omega
 | .cons h0 k0 (.cons h1 k1 .nil),h=>simp only [Fo.len] at h; omega
 | .cons h0 k0 .nil,h=>simp only [Fo.len] at h; omega
 | .nil,h=>simp only [Fo.len] at h; omega
open Go.RowKit

theorem exs_run (F:Fo) (v:Value) (w:World) (hr:FRow w v F) (hb:FoB F):
  Calls Tryz.prog 35 #[v,.func (.func 66) #[] #[]] w fun e w'=>e=.returned (.bool (allG exN F))∧Below w.heap.size w w':=by
 refine all_any 66 enter_ex exN F _ w hr ?_
 intro A h' k' r' xn' xk' cn' ck' w2 hF hb2 hn2 hk2 w3 hb3;rw [hF] at hb;have hfb:=(FoB_app _ _).1 hb;exact rexp_all _ h' k' xn' xk' cn' ck' w3 (Nat.lt_succ_self _) hfb.2.1 hfb.2.2.2.1 (hn2.below hb3) (hk2.below hb3)
def StAll (F:Fo) (w:World):Prop:=∀(A:Fo) (h:Hd) (k r:Fo) (xn xk:Option Addr) (cn ck:Nat) (w':World),F=A.app (.cons h k r)→Below w.heap.size w w'→NmRow w' (.slice xn h.names.length cn) h.names→FRow w' (.slice xk k.len ck) k→TestOk 36 h k xn xk cn ck (stN h k) w'
theorem bls_run (F:Fo) (v:Value) (w:World) (hr:FRow w v F) (hs:StAll F w):
  Calls Tryz.prog 35 #[v,.func (.func 67) #[] #[]] w fun e w'=>e=.returned (.bool (allG blN F))∧Below w.heap.size w w':=by
 refine all_any 67 enter_bl blN F _ w hr ?_
 intro A h' k' r' xn' xk' cn' ck' w2 hF hb2 hn2 hk2 w3 hb3;exact rblock_any h' k' xn' xk' cn' ck' (stN h' k') w3 (hs A h' k' r' xn' xk' cn' ck' w3 hF (hb2.trans (hb3.mono hb2.size)) (hn2.below hb3) (hk2.below hb3))
theorem sts_run (F:Fo) (v:Value) (w:World) (hr:FRow w v F) (hs:StAll F w):
  Calls Tryz.prog 17 #[v] w fun e w'=>e=.returned (.bool (rt .st F))∧Below w.heap.size w w':=by
 have H:=zH (all_any 36 enter_st stN F v w hr hs)
 rw [← rt_st] at H;clear hr hs;go_enter Tryz.func17,Tryz.ntmps17;go_wp2_with fail;refine H.out.mono ?_;rintro e w1 ⟨rfl,hb⟩;go_wp2_with fail;go_ret;exact ⟨rfl,hb⟩
theorem StAll.tail {A R:Fo} {w:World} (h:StAll (A.app R) w):StAll R w:=fun A' h' k' r' xn xk cn ck w' hF hb hn hk=>h (A.app A') h' k' r' xn xk cn ck w' (by rw [hF,Fo.app_assoc]) hb hn hk
theorem StAll.later {F:Fo} {w w':World} (h:StAll F w) (hb:Below w.heap.size w w'):StAll F w':=fun A h' k' r' xn xk cn ck w2 hF hb2 hn hk=>h A h' k' r' xn xk cn ck w2 hF (hb.trans (hb2.mono hb.size)) hn hk
theorem ifs_run (F:Fo) (x:Option Addr) (c:Nat) (w:World) (hr:FRow w (.slice x 3 c) F) (hb:FoB F) (hs:StAll F w):
  Calls Tryz.prog 64 #[.slice x 3 c] w fun e w'=>e=.returned (.bool (rt (.sq [.ex,.bl,.bi]) F))∧Below w.heap.size w w':=by
 obtain ⟨h0,k0,h1,k1,h2,k2,rfl⟩:=Fo.three F hr.len_eq.symm
 rw [rt_if3];exact rif_any h0 h1 h2 k0 k1 k2 x c w hr ⟨hb.1,hb.2.2.1⟩ (fun xn xk cn ck w' hb' hn hk=>hs (.cons h0 k0 .nil) h1 k1 (.cons h2 k2 .nil) xn xk cn ck w' rfl hb' hn hk) (fun xn xk cn ck w' hb' hn hk=>hs (.cons h0 k0 (.cons h1 k1 .nil)) h2 k2 .nil xn xk cn ck w' rfl hb' hn hk)
open Go.RowKit

def SameW (a b:World):Prop:=a=b

theorem rst_one (h:Hd) (k:Fo) (xn xk:Option Addr) (cn ck:Nat) (w:World) (htx:h.text.length≤1048576) (hns:∀s∈h.names,s.length≤1048576) (hFB:FoB k) (hnr:NmRow w (.slice xn h.names.length cn) h.names) (hkr:FRow w (.slice xk k.len ck) k) (hst:StAll k w):
  Calls Tryz.prog 36 #[.agg (ndV h (.slice xn h.names.length cn) (.slice xk k.len ck))] w fun e w'=>e=.returned (.bool (stN h k))∧Below w.heap.size w w':=by
 have hba:=(Below.refl w.heap.size w).alloc (Nat.le_refl _) (.cells (ndV h (.slice xn h.names.length cn) (.slice xk k.len ck)) 31)
 have HKB:=zH (Blk.new w 31 (ndV h (.slice xn h.names.length cn) (.slice xk k.len ck)))
 have HBA:=zH hba
 have HKR:=zH hkr
 have HNR:=zH hnr
 have HST:=zH hst
 have HFB:=zH hFB
 have HNS:=zH hns
 clear hFB hnr hkr hba hst hns;have HNB:=zH (fun (hb:h.num≠0∨(h.kind≠26∧h.names≠[]))=>stN_bad (k:=k) hb)
 obtain ⟨kd,tx,nu,nm,ps⟩:=h
 simp only at htx HKB HBA HNR HNS HNB ⊢;obtain ⟨n,hn⟩:∃n,k.len=n:=⟨_,rfl⟩;obtain ⟨m,hm⟩:∃m,nm.length=m:=⟨_,rfl⟩;obtain ⟨z,hz⟩:∃z,stN ⟨kd,tx,nu,nm,ps⟩ k=z:=⟨_,rfl⟩;have HZ:=zH hz;unfold ndV at HKB HBA ⊢;simp only at HKB HBA ⊢;rw [hm,hn] at HKB HBA ⊢;rw [hn] at HKR;rw [hm] at HNR;rw [hz] at HNB ⊢;have HN:=zH hn;have HM:=zH hm;obtain ⟨TX,hTX⟩:∃s:ByteArray,s=⟨tx.toArray⟩:=⟨_,rfl⟩
 have HTL:Hid (TX.data.toList=tx):=by show _=_; rw [hTX]
 have hts:TX.size≤1048576:=by rw [hTX]; simpa [ByteArray.size] using htx
 rw [← hTX] at HKB HBA ⊢;have HNA:=zH (fun w=>isName_any TX w hts)
 rw [HTL.out] at HNA;clear hn hm hz hTX htx hts;obtain ⟨na,hna⟩:∃b,isNameP tx=b:=⟨_,rfl⟩;rw [hna] at HNA;obtain ⟨te,hte⟩:∃b,tx.isEmpty=b:=⟨_,rfl⟩;have HTE:Hid (tx.isEmpty=te∧isNameP tx=na):=⟨hte,hna⟩;have HNT:Hid (te=true→na=false):=by
  intro h1;rw [← hna];rw [← hte,List.isEmpty_iff] at h1;rw [h1]; rfl
 have hem:TX.data.toList.isEmpty=te:=by rw [HTL.out]; exact hte
 have hem2:(TX.data.toList==[])=te:=by rw [HTL.out,← hte]; cases tx <;> rfl
 have hem3:TX.toList.isEmpty=te:=by rw [ByteArray.toList_eq]; exact hem
 clear hna hte;go_enter Tryz.func36,Tryz.ntmps36;go_upto_region 1 with fail
 generalize w.alloc (.cells #[.int .i64 kd,.string TX,.int .i64 nu,.slice xn m cn,.slice xk n ck,.int .i64 ps] 31)=wz at*;generalize hB:w.heap.size=B at*;have HBB:=zH hB;clear hB;have y0:wz.cell? ⟨B,0,none⟩=some (.int .i64 kd):=HKB.out.cell 0;have y1:wz.cell? ⟨B,1,none⟩=some (.string TX):=HKB.out.cell 1;have y2:wz.cell? ⟨B,2,none⟩=some (.int .i64 nu):=HKB.out.cell 2
 have y3:wz.cell? ⟨B,3,none⟩=some (.slice xn m cn):=HKB.out.cell 3
 have y4:wz.cell? ⟨B,4,none⟩=some (.slice xk n ck):=HKB.out.cell 4
 by_cases hnu:nu=0
 ·have e1:(nu != 0)=false:=by simp [hnu]
  by_cases hbad:kd≠26∧0 < m
  ·have e2:(kd != 26)=true:=by simp [hbad.1]
   have e3:0 < m:=hbad.2
   have e4:decide (0 < m)=true:=by simp; omega
   have e5:decide ((0:Int) < (m:Int))=true:=by simp; omega
   have HE:Hid (z=false):=HNB.out (.inr ⟨hbad.1,by intro h0; have h1:=HM.out; rw [h0] at h1; simp at h1; omega⟩)
   clear hbad hnu;go_wp2_with fail;go_ret;exact ⟨ret_bool HE.out.symm,by rw [HBB.out]; exact HBA.out⟩
  ·have HOK:Hid (kd=26∨m=0):=by
    show _∨_
    by_cases h1:kd=26
    ·exact .inl h1
    ·exact .inr (by omega)
   have HNU:=zH hnu
   clear hbad hnu HNB;go_cut [21] from 8 to 20 (fun v21 wx=>v21=.bool false∧wx=wz)
   case first=>
    by_cases h26:kd=26
    ·have e2:(kd != 26)=false:=by simp [h26]
     clear h26;go_wp2_with fail;go_meet
     case rel=>exact ⟨rfl,rfl⟩
    ·have e2:(kd != 26)=true:=by simp [h26]
     have e3:¬ 0 < m:=by rcases HOK.out with h | h <;> omega
     have e4:decide (0 < m)=false:=by simp; omega
     have e5:decide ((0:Int) < (m:Int))=false:=by simp; omega
     clear h26;go_wp2_with fail;go_meet
     case rel=>exact ⟨rfl,rfl⟩
   case rest=>
   obtain ⟨rfl,hwc⟩:=hcut
   subst hwc;go_upto_block 0 with fail
   have HNM:Hid (kd≠26→nm=[]):=by
    intro h1;have h2:=HOK.out.resolve_left h1;have h3:=HM.out;rw [h2] at h3;exact List.eq_nil_of_length_eq_zero h3
   go_cut [3,4,5] from 24 to 66 (fun v3 v4 v5 wx=>∃(nd:Bool) (E B:Nat),v3=.bool nd∧v4=.int .i64 E∧v5=.int .i64 B∧E≤2∧B≤2∧Hid (z=parOk ⟨kd,tx,nu,nm,ps⟩ k nd E B)∧wx=wc)
   case first=>
    by_cases h20:kd=20
    ·subst h20
     have HP:Hid (z=parOk ⟨20,tx,nu,nm,ps⟩ k true 1 0):=by show _=_; rw [← HZ.out]; exact stN_named HNU.out (HNM.out (by decide)) (.inl rfl)
     go_wp2_with fail;go_meet
     case rel=>exact ⟨true,1,0,rfl,by go_num,by go_num,by omega,by omega,HP,rfl⟩
    have n20:(kd==20)=false:=by simp [h20]
    by_cases h21:kd=21
    ·subst h21
     clear h20;have HP:Hid (z=parOk ⟨21,tx,nu,nm,ps⟩ k true 1 0):=by show _=_; rw [← HZ.out]; exact stN_named HNU.out (HNM.out (by decide)) (.inr rfl)
     go_wp2_with fail;go_meet
     case rel=>exact ⟨true,1,0,rfl,by go_num,by go_num,by omega,by omega,HP,rfl⟩
    have n21:(kd==21)=false:=by simp [h21]
    by_cases h22:kd=22
    ·subst h22
     clear h20 h21;by_cases h3:n=3
     ·subst h3
      have hbw:Below w.heap.size w wc:=by rw [HBB.out]; exact HBA.out
      have HS:=zH (ifs_run k xk ck wc (HKR.out.below hbw) HFB.out (HST.out.later hbw))
      have HP:Hid (z=(te&&rt (.sq [.ex,.bl,.bi]) k)):=by show _=_; rw [← HZ.out,← HTE.out.1]; exact stN_if3 HNU.out (HNM.out (by decide)) rfl HN.out
      clear hbw
      cases te with
      | false=>
       go_wp2_with fail;go_ret;exact ⟨ret_bool (by rw [HP.out]; rfl),by rw [HBB.out]; exact HBA.out⟩
      | true=>
       go_wp2_with fail;refine HS.out.mono ?_;rintro e w1 ⟨rfl,hb⟩;have HX:=zH (HBA.out.trans (hb.mono (Nat.le_of_lt HKB.out.lt)));clear hb HS;go_wp2_with fail;go_ret;exact ⟨ret_bool (by rw [HP.out]; rfl),by rw [HBB.out]; exact HX.out⟩
     ·have e3:((n:Int)==3)=false:=by simp; omega
      have HP:Hid (z=parOk ⟨22,tx,nu,nm,ps⟩ k false 1 1):=by show _=_; rw [← HZ.out]; exact stN_if2 HNU.out (HNM.out (by decide)) rfl (by rw [HN.out]; exact h3)
      clear h3;go_wp2_with fail;go_meet
      case rel=>exact ⟨false,1,1,rfl,by go_num,by go_num,by omega,by omega,HP,rfl⟩
    have n22:(kd==22)=false:=by simp [h22]
    by_cases h23:kd=23
    ·subst h23
     clear h20 h21 h22;have HP:Hid (z=parOk ⟨23,tx,nu,nm,ps⟩ k false 1 1):=by show _=_; rw [← HZ.out]; exact stN_while HNU.out (HNM.out (by decide)) rfl
     go_wp2_with fail;go_meet
     case rel=>exact ⟨false,1,1,rfl,by go_num,by go_num,by omega,by omega,HP,rfl⟩
    have n23:(kd==23)=false:=by simp [h23]
    by_cases h24:kd=24
    ·subst h24
     clear h20 h21 h22 h23;have HP:Hid (z=parOk ⟨24,tx,nu,nm,ps⟩ k true 2 1):=by show _=_; rw [← HZ.out]; exact stN_for HNU.out (HNM.out (by decide)) rfl
     go_wp2_with fail;go_meet
     case rel=>exact ⟨true,2,1,rfl,by go_num,by go_num,by omega,by omega,HP,rfl⟩
    have n24:(kd==24)=false:=by simp [h24]
    by_cases h25:kd=25
    ·subst h25
     clear h20 h21 h22 h23 h24;have hbw:Below w.heap.size w wc:=by rw [HBB.out]; exact HBA.out
     have HS:=zH (sts_run k (.slice xk n ck) wc (HKR.out.below hbw) (HST.out.later hbw))
     have HP:Hid (z=(te&&rt .st k)):=by show _=_; rw [← HZ.out,← HTE.out.1]; exact stN_block HNU.out (HNM.out (by decide)) rfl
     clear hbw;have HBA2:=HBA
     cases te with
     | false=>
      go_wp2_with fail;go_ret;exact ⟨ret_bool (by rw [HP.out]; rfl),by rw [HBB.out]; exact HBA.out⟩
     | true=>
      go_wp2_with fail;refine HS.out.mono ?_;rintro e w1 ⟨rfl,hb⟩;have HX:=zH (HBA.out.trans (hb.mono (Nat.le_of_lt HKB.out.lt)));clear hb HS;go_wp2_with fail;go_ret;exact ⟨ret_bool (by rw [HP.out]; rfl),by rw [HBB.out]; exact HX.out⟩
    have n25:(kd==25)=false:=by simp [h25]
    by_cases h26:kd=26
    ·subst h26
     clear h20 h21 h22 h23 h24 h25;have HP:Hid (z=parOk ⟨26,tx,nu,nm,ps⟩ k true 0 1):=by show _=_; rw [← HZ.out]; exact stN_fn HNU.out rfl
     go_wp2_with fail;go_meet
     case rel=>exact ⟨true,0,1,rfl,by go_num,by go_num,by omega,by omega,HP,rfl⟩
    have n26:(kd==26)=false:=by simp [h26]
    by_cases h27:kd=27
    ·subst h27
     clear h20 h21 h22 h23 h24 h25 h26;by_cases h0:n=0
     ·subst h0
      have HP:Hid (z=parOk ⟨27,tx,nu,nm,ps⟩ k false 0 0):=by show _=_; rw [← HZ.out,stN_return HNU.out (HNM.out (by decide)) rfl,HN.out]; rfl
      go_wp2_with fail;go_meet
      case rel=>exact ⟨false,0,0,rfl,by go_num,by go_num,by omega,by omega,HP,rfl⟩
     ·have hmi:min (n:Int) 1=1:=by omega
      have HP:Hid (z=parOk ⟨27,tx,nu,nm,ps⟩ k false 1 0):=by show _=_; rw [← HZ.out,stN_return HNU.out (HNM.out (by decide)) rfl,HN.out,show min n 1=1 by omega]
      have hle:¬ (n:Int)≤0:=by omega
      have h1n:1≤n:=by omega
      clear h0;go_wp2_with fail
      all_goals
       go_meet
       case rel=>exact ⟨false,1,0,rfl,by first | go_num | (congr 1; omega),by go_num,by omega,by omega,HP,rfl⟩
    have n27:(kd==27)=false:=by simp [h27]
    by_cases h28:kd=28
    ·subst h28
     clear h20 h21 h22 h23 h24 h25 h26 h27;have HP:Hid (z=parOk ⟨28,tx,nu,nm,ps⟩ k false 1 0):=by show _=_; rw [← HZ.out]; exact stN_expr HNU.out (HNM.out (by decide)) rfl
     go_wp2_with fail;go_meet
     case rel=>exact ⟨false,1,0,rfl,by go_num,by go_num,by omega,by omega,HP,rfl⟩
    have n28:(kd==28)=false:=by simp [h28]
    by_cases h29:kd=29
    ·subst h29
     clear h20 h21 h22 h23 h24 h25 h26 h27 h28;have HP:Hid (z=parOk ⟨29,tx,nu,nm,ps⟩ k false 0 0):=by show _=_; rw [← HZ.out]; exact stN_break HNU.out (HNM.out (by decide)) rfl
     go_wp2_with fail;go_meet
     case rel=>exact ⟨false,0,0,rfl,by go_num,by go_num,by omega,by omega,HP,rfl⟩
    have n29:(kd==29)=false:=by simp [h29]
    have HP:Hid (z=false):=by show _=_; rw [← HZ.out]; exact stN_other (by simp only; omega)
    clear h20 h21 h22 h23 h24 h25 h26 h27 h28 h29;go_wp2_with fail;go_ret;exact ⟨ret_bool HP.out.symm,by rw [HBB.out]; exact HBA.out⟩
   case rest=>
   obtain ⟨nd,E,BL,rfl,rfl,rfl,hE,hBL,HP,hwc⟩:=hcut
   subst hwc;go_upto_region 27 with fail
   go_cut [89] from 67 to 88 (fun v89 wx=>v89=.bool (!((if nd then na else te)&&decide (n=E+BL)))∧Hid (Below wc.heap.size wc wx))
   case first=>
    obtain ⟨q,hq⟩:∃q,((n:Int) != ((E:Int)+(BL:Int)))=q:=⟨_,rfl⟩
    have hq2:((n:Int) != wrap64 ((E:Int)+(BL:Int)))=q:=by rw [← hq,show wrap64 ((E:Int)+(BL:Int))=(E:Int)+(BL:Int) by unfold wrap64; omega]
    have HQ:Hid (decide (n=E+BL)=!q):=by
     show _=_
     rw [← hq];by_cases h:n=E+BL
     ·subst h; simp
     ·have h2:¬ ((n:Int)=(E:Int)+(BL:Int)):=by omega
      simp [h,h2]
    have HRF:Hid (Below wc.heap.size wc wc):=Below.refl _ _
    have hem4:(TX.toList==[])=te:=by rw [ByteArray.toList_eq]; exact hem2
    cases nd <;> cases na <;> cases te
    all_goals first
     | (exact absurd (HNT.out rfl) (by decide))
     | (
       go_wp2_with fail;refine (HNA.out _).mono ?_;rintro e w5 ⟨rfl,rfl⟩;go_wp2_with fail;go_meet
       case rel=>exact ⟨by rw [HQ.out]; cases q <;> rfl,HRF⟩)
   case rest=>
   obtain ⟨rfl,hbx⟩:=hcut
   have HX:=zH (HBA.out.trans (hbx.out.mono (Nat.le_of_lt HKB.out.lt)))
   have HLW:Hid (B < wc.heap.size):=Nat.lt_of_lt_of_le HKB.out.lt hbx.out.size
   have x3:wc.cell? ⟨B,3,none⟩=some (.slice xn m cn):=(hbx.out.cell (p:=⟨B,3,none⟩) HKB.out.lt).trans y3
   have x4:wc.cell? ⟨B,4,none⟩=some (.slice xk n ck):=(hbx.out.cell (p:=⟨B,4,none⟩) HKB.out.lt).trans y4
   clear y0 y1 y2 y3 y4;obtain ⟨ok,hok⟩:∃b,((if nd then na else te)&&decide (n=E+BL))=b:=⟨_,rfl⟩
   rw [hok];have HP2:Hid (z=((if nd then na else te)&&nm.all isNameP&&rt (.sq (List.replicate E .ex++List.replicate BL .bl)) k)):=by
    show _=_
    rw [HP.out,parOk];simp only;rw [HTE.out.1,HTE.out.2]
   have HOK2:=zH hok
   clear hok HP
   cases ok with
   | false=>
    have HE:Hid (z=false):=by
     show _=_
     rw [HP2.out];by_cases hl:n=E+BL
     ·have h1:=HOK2.out
      rw [decide_eq_true hl,Bool.and_true] at h1;rw [h1]; rfl
     ·rw [rt_parts_no k E BL (by rw [HN.out]; exact hl),Bool.and_false]
    go_wp2_with fail;go_ret;exact ⟨ret_bool HE.out.symm,by rw [HBB.out]; exact HX.out⟩
   | true=>
    have HNL:Hid (n=E+BL):=by
     have h1:=HOK2.out
     simp only [Bool.and_eq_true,decide_eq_true_eq] at h1;exact h1.2
    have HE:Hid (z=(nm.all isNameP&&rt (.sq (List.replicate E .ex++List.replicate BL .bl)) k)):=by
     have h1:=HOK2.out
     simp only [Bool.and_eq_true,decide_eq_true_eq] at h1;show _=_
     rw [HP2.out,h1.1,Bool.true_and]
    clear HP2 HOK2;have hbw:Below w.heap.size w wc:=by rw [HBB.out]; exact HX.out
    have HNW:=zH (HNR.out.below hbw)
    have HKW:=zH (HKR.out.below hbw)
    have HSW:=zH (HST.out.later hbw)
    obtain ⟨x',c',hv,hlm,hcm,-⟩:=id HNW.out
    injection hv with v1 v2 v3
    subst v1 v3;clear v2;obtain ⟨x',c',hv,hln,hcn,hxn,-⟩:=id HKW.out;injection hv with v1 v2 v3
    subst v1 v3;clear v2;rw [HM.out] at hlm;rw [HN.out] at hln;unfold maxLen at hcm hcn;clear hbw hbx;go_wp2_with fail;go_loopw [93] (fun vi wr=>∃(i:Nat),vi=.int .i64 i∧i≤m∧Hid ((nm.take i).all isNameP=true)∧SameW wr wc) (fun vi _=>m - (intOf vi).toNat)
    case atStart=>exact ⟨0,rfl,Nat.zero_le _,rfl,rfl⟩
    case round=>
     obtain ⟨i,rfl,hi,hch,hww⟩:=hrel
     have hw2:wr=wc:=hww
     subst hw2;clear hww;by_cases hlt:i < m
     ·have dlt:decide ((i:Int) < (m:Int))=true:=by simp; omega
      have i1:(i:Int) < (m:Int):=by omega
      have him:i < nm.length:=by rw [HM.out]; exact hlt
      obtain ⟨x',c',hv,-,-,-,hcl⟩:=HNW.out
      injection hv with v1 v2 v3
      subst v1 v3;clear v2;obtain ⟨b1,o1,rfl,hp⟩:=hcl (by omega)
      have q1:=hp i him
      obtain ⟨s,hs⟩:∃s,nm[i]=s:=⟨_,rfl⟩
      rw [hs] at q1;obtain ⟨SX,hSX⟩:∃x:ByteArray,x=⟨s.toArray⟩:=⟨_,rfl⟩;have hsl:SX.size≤1048576:=by rw [hSX]; have:=HNS.out s (by rw [← hs]; exact List.getElem_mem him); simpa [ByteArray.size] using this
      have HIN:=zH (fun w=>isName_any SX w hsl)
      rw [show SX.data.toList=s by rw [hSX]] at HIN
      rw [← hSX] at q1;obtain ⟨qn,hqn⟩:∃b,isNameP s=b:=⟨_,rfl⟩;rw [hqn] at HIN;have HT:Hid (((nm.take (i+1)).all isNameP)=qn):=by show _=_; rw [List.take_succ_eq_append_getElem him,List.all_append,hch.out,hs]; simp [hqn]
      have HF:Hid (qn=false→z=false):=by
       intro hf;rw [HE.out,show nm.all isNameP=false from List.all_eq_false.2 ⟨s,by rw [← hs]; exact List.getElem_mem him,by rw [hqn,hf]; decide⟩]
       rfl
      clear hs hSX hsl hqn hp hcl him;go_wp2_with fail;refine (HIN.out _).mono ?_;rintro e w5 ⟨rfl,rfl⟩
      cases qn with
      | false=>
       have HZF:Hid (z=false):=HF.out rfl
       go_wp2_with fail;go_ret;exact ⟨ret_bool HZF.out.symm,by rw [HBB.out]; exact HX.out⟩
      | true=>
       go_wp2_with fail;go_roundw
       case rel=>exact ⟨_,_,_,_,_,_,_,_,_,_,⟨i+1,by go_num,by omega,HT,rfl⟩,rfl⟩
       case measure=>simp [intOf]; omega
     ·have dlt:decide ((i:Int) < (m:Int))=false:=by simp; omega
      have him:i=m:=by omega
      have HZ2:Hid (z=rt (.sq (List.replicate E .ex++List.replicate BL .bl)) k):=by
       have h1:=hch.out
       rw [List.take_of_length_le (by rw [HM.out]; omega)] at h1
       show _=_
       rw [HE.out,h1,Bool.true_and]
      clear him hch HE;have hEn:E≤n:=by have:=HNL.out; omega
      have hEc:E≤ck:=by omega
      obtain ⟨A,R,hAR,hA,hR⟩:=Fo.first k E (by rw [HN.out]; exact hEn)
      have HRB:Hid (R.len=BL):=by
       show _=_
       have h1:=HN.out; have h2:=HNL.out
       omega
      have HQZ:Hid (z=(allG exN A&&allG blN R)):=by
       show _=_
       rw [HZ2.out,hAR];exact rt_parts A R E BL hA HRB.out
      have hka:FRow wr (.slice xk n ck) (A.app R):=by rw [← hAR]; exact HKW.out
      have hfb:FoB A∧FoB R:=(FoB_app _ _).1 (by rw [← hAR]; exact HFB.out)
      have hsr:StAll R wr:=StAll.tail (A:=A) (by rw [← hAR]; exact HSW.out)
      have HEX:=zH (exs_run A (.slice xk E ck) wr (by rw [← hA]; exact hka.head) hfb.1)
      have HBL2:Hid (∀(y:Option Addr) (d:Nat) w',(y=if ck=E then xk else Option.map (fun x=>x.add (E*6)) xk)→d=ck - E→Below wr.heap.size wr w'→Calls Tryz.prog 35 #[.slice y (n - E) d,.func (.func 67) #[] #[]] w' fun e w''=>e=.returned (.bool (allG blN R))∧Below w'.heap.size w' w''):=by
       intro y d w' hy hd hb;subst hd;have hnE:n - E=R.len:=by have h1:=HN.out; omega
       rw [hnE];refine bls_run R _ w' ?_ (hsr.later hb);refine FRow.below ?_ hb;by_cases hc0:ck=E
       ·have hR0:R=.nil:=by
         cases R with
         | nil=>rfl
         | cons _ _ _=>have h1:=HN.out; simp only [Fo.len] at hnE; omega
        subst hR0;refine ⟨_,_,rfl,Nat.zero_le _,by unfold maxLen; omega,fun hn=>by omega,fun h=>absurd rfl h⟩
       ·rw [if_neg hc0] at hy
        cases hxk:xk with
        | none=>have h1:=hxn hxk; omega
        | some p=>
         obtain ⟨x',c',hv,g1,g2,g3,g4⟩:=id hka
         injection hv with v1 v2 v3
         by_cases hn0:n=0
         ·have hR0:R=.nil:=by
           cases R with
           | nil=>rfl
           | cons _ _ _=>have h1:=HN.out; simp only [Fo.len] at hnE; omega
          subst hR0;rw [hxk] at hy;subst hy;exact ⟨_,_,rfl,Nat.zero_le _,by unfold maxLen; omega,fun hn=>by simp at hn,fun h=>absurd rfl h⟩
         ·obtain ⟨b,o,hx,-⟩:=g4 (by rw [← v2]; exact hn0)
          rw [← v1,hxk] at hx;injection hx with hx
          subst hx;rw [hxk] at hka hy;have h5:=hka.tail;rw [hA] at h5;subst hy;have hadd:(⟨b,o,none⟩:Addr).add (E*6)=⟨b,o+E*6,none⟩:=by unfold Addr.add; split <;> simp_all
          rw [Option.map_some,hadd];exact h5
      clear hAR hA hR HRB HZ2 hka hfb hsr HKW HSW;obtain ⟨qa,hqa⟩:∃b,allG exN A=b:=⟨_,rfl⟩;obtain ⟨qb,hqb⟩:∃b,allG blN R=b:=⟨_,rfl⟩;rw [hqa] at HEX HQZ;rw [hqb] at HBL2 HQZ;clear hqa hqb hxn hlm hcm hln;go_wp2_with fail;refine HEX.out.mono ?_;rintro e w5 ⟨rfl,hb⟩;have HX5:=zH (HX.out.trans (hb.mono (Nat.le_of_lt HLW.out)));have HY5:=zH hb
      have z4:w5.cell? ⟨B,4,none⟩=some (.slice xk n ck):=(hb.cell (p:=⟨B,4,none⟩) HLW.out).trans x4
      have HS5:Hid (B≤w5.heap.size):=Nat.le_trans (Nat.le_of_lt HLW.out) hb.size
      clear hb x3 x4 HEX
      cases qa with
      | false=>
       go_wp2_with fail;go_ret;exact ⟨ret_bool (by rw [HQZ.out]; rfl),by rw [HBB.out]; exact HX5.out⟩
      | true=>
       by_cases hc0:ck=E
       ·subst hc0
        go_wp2_with fail;refine (HBL2.out xk 0 _ (by simp) (by omega) HY5.out).mono ?_
        rintro e w6 ⟨rfl,hb⟩;have HX6:=zH (HX5.out.trans (hb.mono HS5.out));clear hb z4 HBL2;go_wp2_with fail;go_ret;exact ⟨ret_bool (by rw [HQZ.out]; rfl),by rw [HBB.out]; exact HX6.out⟩
       ·go_wp2_with fail
        refine (HBL2.out _ _ _ (by rw [if_neg hc0]) rfl HY5.out).mono ?_
        rintro e w6 ⟨rfl,hb⟩;have HX6:=zH (HX5.out.trans (hb.mono HS5.out));clear hb z4 HBL2;go_wp2_with fail;go_ret;exact ⟨ret_bool (by rw [HQZ.out]; rfl),by rw [HBB.out]; exact HX6.out⟩
 ·have e1:(nu != 0)=true:=by simp [hnu]
  have HE:Hid (z=false):=HNB.out (.inl hnu)
  clear hnu;go_wp2_with fail;go_ret;exact ⟨ret_bool HE.out.symm,by rw [HBB.out]; exact HBA.out⟩
open Go.RowKit

theorem rst_all:∀(N:Nat) (h:Hd) (k:Fo) (xn xk:Option Addr) (cn ck:Nat) (w:World),k.size < N→h.text.length≤1048576→(∀s∈h.names,s.length≤1048576)→FoB k→NmRow w (.slice xn h.names.length cn) h.names→FRow w (.slice xk k.len ck) k→
  Calls Tryz.prog 36 #[.agg (ndV h (.slice xn h.names.length cn) (.slice xk k.len ck))] w fun e w'=>e=.returned (.bool (stN h k))∧Below w.heap.size w w':=by
 intro N;induction N with
 | zero=>intro h k xn xk cn ck w hN; omega
 | succ N ih=>
  intro h k xn xk cn ck w hN htx hns hFB hnr hkr;refine rst_one h k xn xk cn ck w htx hns hFB hnr hkr ?_;intro A h' k' r' xn' xk' cn' ck' w' hF hb hn' hk' w'' hb'';rw [hF] at hFB hN;have:=Fo.kid_size A h' k' r';have hfb:=(FoB_app _ _).1 hFB;exact ih h' k' xn' xk' cn' ck' w'' (by omega) hfb.2.1 hfb.2.2.1 hfb.2.2.2.1 (hn'.below hb'') (hk'.below hb'')
theorem right_any (F:Fo) (v:Value) (w:World) (hr:FRow w v F) (hb:FoB F):
  Calls Tryz.prog 17 #[v] w fun e w'=>e=.returned (.bool (rt .st F))∧Below w.heap.size w w':=by
 refine sts_run F v w hr ?_
 intro A h k r xn xk cn ck w' hF hbw hn hk w'' hb'';rw [hF] at hb;have hfb:=(FoB_app _ _).1 hb;exact rst_all _ h k xn xk cn ck w'' (Nat.lt_succ_self _) hfb.2.1 hfb.2.2.1 hfb.2.2.2.1 (hn.below hb'') (hk.below hb'')
open Go.RowKit

theorem Blk.rset {w:World} {k:Nat} {t:TypeId} {cs:Array Value} (h:Blk w k t cs) (cs':Array Value):Blk (w.setRow k cs') k t cs':=by
 unfold Blk at h ⊢;simp [World.setRow,Array.getElem?_modify,h]
theorem heap_rset_ne (w:World) (g k:Nat) (cs':Array Value) (hk:k≠g):(w.setRow g cs').heap[k]?=w.heap[k]?:=by
 simp only [World.setRow,Array.getElem?_modify];rw [if_neg (fun e=>hk e.symm)]
theorem Blk.rset_ne {w:World} {k g:Nat} {t:TypeId} {cs:Array Value} (h:Blk w k t cs) (cs':Array Value) (hk:k≠g):Blk (w.setRow g cs') k t cs:=(heap_rset_ne w g k cs' hk).trans h
theorem rset_size (w:World) (g:Nat) (cs:Array Value):(w.setRow g cs).heap.size=w.heap.size:=by simp [World.setRow]
theorem below_rset {B:Nat} {w w':World} (h:Below B w w') {g:Nat} (hg:B≤g) (cs:Array Value):Below B w (w'.setRow g cs):=
 ⟨h.os,h.tape,h.output,by rw [rset_size]; exact h.size,fun k hk=>(heap_rset_ne w' g k cs (by omega)).trans (h.block k hk)⟩
theorem below_put {B:Nat} {w w':World} (h:Below B w w') {p:Addr} (hg:B≤p.block) (u:Value):Below B w (w'.setCell p u):=
 ⟨h.os,h.tape,h.output,by simp only [World.setCell,Array.size_modify]; exact h.size,fun k hk=>(Below.heap_setCell w' p u k (by omega)).trans (h.block k hk)⟩
end Go.Proofs.YtbaidkefobhipaaGreatDoor
