/-
  Walk: the reference's one, for statements with kids. (Printed by gen_rq14.py.)
-/
import Derived.Test.YtbaidkefobhipaaGreatDoorZS53
namespace Go.Proofs.YtbaidkefobhipaaGreatDoor
set_option maxHeartbeats 32000000
set_option maxRecDepth 100000
open Go.RowKit

theorem rone_ot {w0:World} {N:Nat} (ha:RAl w0 (N+1)) (ho:ROn w0 N) (h:Hd) (k:Fo) (xn xk:Option Addr) (cn ck:Nat) (w:World) (S:Nat) (s:RS) (nv fv:Value) (hN:k.size < N+1) (hst:stN h k=true) (hkr:FRow w0 (.slice xk k.len ck) k)
  (hb0:Below w0.heap.size w0 w) (hr:RkW w0.heap.size w S s nv fv) (hln:s.nl+h.wt+k.wt≤1099511627776) (h25:h.kind≠25) (h26:h.kind≠26):
  Calls Tryz.prog 39 #[.pointer (some ⟨S,0,none⟩),.agg (ndV h (.slice xn h.names.length cn) (.slice xk k.len ck))] w fun e w'=>RRes w0.heap.size S (rO s h k) fv w e w':=by
 have hbz:=(Below.refl w.heap.size w).alloc (Nat.le_refl _) (.cells (ndV h (.slice xn h.names.length cn) (.slice xk k.len ck)) 31)
 have HF0:=zH (Fst.start hr hbz (Blk.new w 31 (ndV h (.slice xn h.names.length cn) (.slice xk k.len ck))))
 have HLO:Hid (∀wx s' nv' fv' C,Fst w0.heap.size S w.heap.size fv C w wx s' nv' fv'→Below w0.heap.size w0 wx):=fun wx s' nv' fv' C hf=>hb0.trans (hf.low hr hb0.size)
 have HIN:=zH (rinner_any ha)
 have HON:=zH ho
 have HKR:=zH hkr
 have HNN:=zH hN
 have HKO:Hid (∀(A:Fo) (y:Hd) (ky R:Fo),k=A.app (.cons y ky R)→KidOk y ky):=fun A y ky R e=>st_kid (A:=A) (R:=R) (by rw [← e]; exact hst) h25
 obtain ⟨s1,hs1⟩:∃q,s.pre1 h=q:=⟨_,rfl⟩
 obtain ⟨s2,hs2⟩:∃q,s1.pre2 h=q:=⟨_,rfl⟩
 obtain ⟨s3,hs3⟩:∃q,rC (.kids h) s2 k=q:=⟨_,rfl⟩
 have hpre:s.pre h=s2:=by rw [← hs2,← hs1]; rfl
 have HRO:Hid (rO s h k=s3.post h):=by show _=_; unfold rO; rw [if_neg h26,if_neg h25,hpre,hs3]
 rw [HRO.out];have hw1:=hd_wt h;have HN1:Hid (s1.names.length≤1099511627776):=by
  have h1:s1.names=s.names:=by rw [← hs1]; exact ite_names _ _ _ _
  unfold RS.nl at hln;show _≤_; rw [h1]; omega
 have HLN:Hid (s2.nl+1+k.wt≤1099511627776):=by
  have h1:=pre_nl s h
  rw [hpre] at h1;show _≤_; omega
 have HN3:Hid (s3.names.length+1≤1099511627776):=by
  have h1:=rC_nl k (.kids h) s2
  have h2:=HLN.out
  rw [hs3] at h1;unfold RS.nl at h1 h2;show _≤_
  omega
 have HS1:=zH hs1
 have HS2:=zH hs2
 have HS3:=zH hs3
 have n26:(h.kind==26)=false:=by simp [h26]
 have n25:(h.kind==25)=false:=by simp [h25]
 obtain ⟨kl,hkl⟩:∃q,k.len=q:=⟨_,rfl⟩
 have HKL:=zH hkl
 have hkc:kl≤ck∧ck≤maxLen:=by
  obtain ⟨_,_,e1,h2,h3,-⟩:=hkr
  injection e1 with _ e2 e3
  rw [e3,← hkl];exact ⟨h2,h3⟩
 unfold maxLen at hkc;obtain ⟨hkc1,hkc2⟩:=hkc;rw [hkl] at HF0 HKR ⊢;clear hkl hN hst hkr hb0 hr hln ha ho hbz h25 h26 HRO hs1 hs2 hs3 hpre hw1;obtain ⟨kd,tx,nu,nm,ps⟩:=h;simp only at n26 n25 HKO;obtain ⟨nl,hnl⟩:∃l,nm.length=l:=⟨_,rfl⟩;unfold ndV at HF0 ⊢;simp only [hnl] at HF0 ⊢;clear hnl;obtain ⟨y0,y1,y2,y3,y4,y5⟩:=rsix (zH HF0.out.k);go_enter Tryz.func39,Tryz.ntmps39;go_upto_region 5 with fail
 clear y0 y1 y2 y3 y4 y5;generalize w.alloc (.cells #[.int .i64 kd,.string ⟨tx.toArray⟩,.int .i64 nu,.slice xn nl cn,.slice xk kl ck,.int .i64 ps] 31)=wz at*;generalize hA:w.heap.size=A at*;clear hA
 go_cut [39] from 18 to 38 (fun v39 wx=>∃q,v39=.bool q∧Hid (s1=if q=true then s.fail ps 14 else s)∧Hid (Fst w0.heap.size S A fv #[.int .i64 kd,.string ⟨tx.toArray⟩,.int .i64 nu,.slice xn nl cn,.slice xk kl ck,.int .i64 ps] w wx s nv fv))
 case first=>
  obtain ⟨y0,y1,y2,y3,y4,y5⟩:=rsix (zH HF0.out.k)
  have c2:wz.cell? ⟨S,2,none⟩=some (.bool s.inF):=HF0.out.r.blk.cell 2
  have c3:wz.cell? ⟨S,3,none⟩=some (.bool s.inL):=HF0.out.r.blk.cell 3
  obtain ⟨iF,hiF⟩:∃q,s.inF=q:=⟨_,rfl⟩
  obtain ⟨iL,hiL⟩:∃q,s.inL=q:=⟨_,rfl⟩
  rw [hiF] at c2;rw [hiL] at c3;have HE:Hid (∀q:Bool,(q=true↔(kd=29∧iL=false∨kd=27∧iF=false))→s1=if q=true then s.fail ps 14 else s):=fun q hq=>by
   rw [← HS1.out];unfold RS.pre1;simp only [hiF,hiL];by_cases hc:kd=29∧iL=false∨kd=27∧iF=false
   ·rw [if_pos hc,if_pos (hq.2 hc)]
   ·rw [if_neg hc,if_neg (fun h=>hc (hq.1 h))]
  clear hiF hiL;by_cases h29:kd=29
  ·have n29:(kd==29)=true:=by simp [h29]
   have n27:(kd==27)=false:=by simp [h29]
   have HQ:Hid ((!iL)=true↔(kd=29∧iL=false∨kd=27∧iF=false)):=by show _↔_; simp [h29]
   clear h29
   cases iL
   all_goals
    go_wp2_with fail;go_meet;exact ⟨_,rfl,HE.out _ HQ.out,HF0⟩
  ·by_cases h27:kd=27
   ·have n29:(kd==29)=false:=by simp [h27]
    have n27:(kd==27)=true:=by simp [h27]
    have HQ:Hid ((!iF)=true↔(kd=29∧iL=false∨kd=27∧iF=false)):=by show _↔_; simp [h27]
    clear h29 h27
    cases iF
    all_goals
     go_wp2_with fail;go_meet;exact ⟨_,rfl,HE.out _ HQ.out,HF0⟩
   ·have n29:(kd==29)=false:=by simp [h29]
    have n27:(kd==27)=false:=by simp [h27]
    have HQ:Hid (false=true↔(kd=29∧iL=false∨kd=27∧iF=false)):=by show _↔_; simp [h29,h27]
    clear h29 h27;go_wp2_with fail;go_meet;exact ⟨_,rfl,HE.out _ HQ.out,HF0⟩
 case rest=>
 obtain ⟨q,rfl,HE,HF1⟩:=hcut
 clear HF0;go_upto_if 39 with fail
 go_cut [] from 40 to 43 (fun wx=>Hid (Fst w0.heap.size S A fv #[.int .i64 kd,.string ⟨tx.toArray⟩,.int .i64 nu,.slice xn nl cn,.slice xk kl ck,.int .i64 ps] w wx s1 nv fv))
 case first=>
  obtain ⟨y0,y1,y2,y3,y4,y5⟩:=rsix (zH HF1.out.k)
  cases q with
  | false=>
   go_wp2_with fail;go_meet
   case rel=>rw [HE.out]; exact HF1
  | true=>
   have HFL:=zH (rfail_any _ HF1.out.r ps 14)
   go_wp2_with fail;refine HFL.out.mono ?_;rintro e w1 ⟨rfl,hr2,hc2⟩;have HF2:Hid (Fst w0.heap.size S A fv #[.int .i64 kd,.string ⟨tx.toArray⟩,.int .i64 nu,.slice xn nl cn,.slice xk kl ck,.int .i64 ps] w w1 s1 nv fv):=by rw [HE.out]; exact HF1.out.same hr2 hc2
   clear hr2 hc2 HFL;go_wp2_with fail;go_meet
   case rel=>exact HF2
 case rest=>
 have HF2:=hcut
 clear HF1 HE hcut;go_upto_region 7 with fail
 go_cut [56] from 44 to 55 (fun v56 wx=>∃q,v56=.bool q∧Hid (s2=if q=true then s1.fail ps 13 else s1)∧Hid (Fst w0.heap.size S A fv #[.int .i64 kd,.string ⟨tx.toArray⟩,.int .i64 nu,.slice xn nl cn,.slice xk kl ck,.int .i64 ps] w wx s1 nv fv))
 case first=>
  obtain ⟨y0,y1,y2,y3,y4,y5⟩:=rsix (zH HF2.out.k)
  have c0:wc.cell? ⟨S,0,none⟩=some nv:=HF2.out.r.blk.cell 0
  have HB:Hid (∀m,Below wc.heap.size wc (wc.drewN m)):=fun m=>drewN_below (Below.refl _ _) m
  by_cases h21:kd=21
  ·have n21:(kd==21)=true:=by simp [h21]
   have HH:=zH (fun m=>has_any s1.names nv 0 tx (wc.drewN m) (HF2.out.below (HB.out m)).r.names HN1.out)
   obtain ⟨q,hq⟩:∃q,decide (tx∈s1.names.drop 0)=q:=⟨_,rfl⟩
   rw [hq] at HH;have HE:Hid (s2=if (!q)=true then s1.fail ps 13 else s1):=by
    show _=_
    rw [← HS2.out,← hq,List.drop_zero];unfold RS.pre2;by_cases hm:tx∈s1.names <;> simp [h21,hm]
   clear hq h21;go_quiet ((go_at_call 81; exact Calls.quiet_of_same (HH.out _)));go_wp2_with fail;go_meet
   case rel=>exact ⟨!q,rfl,HE,HF2.out.below (HB.out nq)⟩
  ·have n21:(kd==21)=false:=by simp [h21]
   have HE:Hid (s2=if false=true then s1.fail ps 13 else s1):=by
    show _=_
    rw [← HS2.out];unfold RS.pre2;rw [if_neg (fun h2=>h21 h2.1)]
    simp
   clear h21;go_quiet (fail);go_wp2_with fail;go_meet
   case rel=>exact ⟨false,rfl,HE,HF2.out.below (HB.out nq)⟩
 case rest=>
 obtain ⟨q,rfl,HE,HF3⟩:=hcut
 clear HF2;go_upto_if 56 with fail
 go_cut [] from 57 to 60 (fun wx=>Hid (Fst w0.heap.size S A fv #[.int .i64 kd,.string ⟨tx.toArray⟩,.int .i64 nu,.slice xn nl cn,.slice xk kl ck,.int .i64 ps] w wx s2 nv fv))
 case first=>
  obtain ⟨y0,y1,y2,y3,y4,y5⟩:=rsix (zH HF3.out.k)
  cases q with
  | false=>
   go_wp2_with fail;go_meet
   case rel=>rw [HE.out]; exact HF3
  | true=>
   have HFL:=zH (rfail_any _ HF3.out.r ps 13)
   go_wp2_with fail;refine HFL.out.mono ?_;rintro e w1 ⟨rfl,hr2,hc2⟩;have HF2:Hid (Fst w0.heap.size S A fv #[.int .i64 kd,.string ⟨tx.toArray⟩,.int .i64 nu,.slice xn nl cn,.slice xk kl ck,.int .i64 ps] w w1 s2 nv fv):=by rw [HE.out]; exact HF3.out.same hr2 hc2
   clear hr2 hc2 HFL;go_wp2_with fail;go_meet
   case rel=>exact HF2
 case rest=>
 have HF4:=hcut
 clear HF3 HE hcut HS1 HS2 HN1;go_wp2_with fail;go_loopw [4] (fun vi wr=>∃(i:Nat) (F R:Fo) (nvr fvr:Value),vi=.int .i64 i∧i≤kl∧Hid (k=F.app R∧F.len=i)∧Hid (Fst w0.heap.size S A fv #[.int .i64 kd,.string ⟨tx.toArray⟩,.int .i64 nu,.slice xn nl cn,.slice xk kl ck,.int .i64 ps] w wr (rC (.kids ⟨kd,tx,nu,nm,ps⟩) s2 F) nvr fvr)) (fun vi _=>kl - (intOf vi).toNat)
 case atStart=>exact ⟨0,.nil,k,nv,fv,rfl,Nat.zero_le _,⟨rfl,rfl⟩,HF4⟩
 case round=>
  clear HF4;obtain ⟨i,F,R,nvr,fvr,rfl,hi,hF,HFR⟩:=hrel;obtain ⟨y0,y1,y2,y3,y4,y5⟩:=rsix (zH HFR.out.k);by_cases hlt:i < kl
  ·have dlt:decide ((i:Int) < (kl:Int))=true:=by simp; omega
   have i1:(i:Int) < (kl:Int):=by omega
   obtain ⟨y,ky,r2,rfl⟩:∃h k r,R=.cons h k r:=by
    cases R with
    | nil=>have h1:=hF.out.2; have h2:=HKL.out; rw [hF.out.1,Fo.app_nil] at h2; omega
    | cons h k r=>exact ⟨h,k,r,rfl⟩
   have hf1:FRow w0 (.slice xk kl ck) (F.app (.cons y ky r2)):=by rw [← hF.out.1]; exact HKR.out
   obtain ⟨b,off,xn2,cn2,xk2,ck2,rfl,hcell,hn2,hk2⟩:=kid_at hf1
   rw [hF.out.2] at hcell;obtain ⟨k0,k1,k2,k3,k4,k5⟩:=hcell wr (HLO.out _ _ _ _ _ HFR.out);have hks:ky.size < N:=by
    have h1:=HNN.out
    rw [hF.out.1] at h1;have:=Fo.kid_size F y ky r2;omega
   have HKK:=zH (HKO.out F y ky r2 hF.out.1)
   obtain ⟨sr,hsr⟩:∃q,rC (.kids ⟨kd,tx,nu,nm,ps⟩) s2 F=q:=⟨_,rfl⟩
   rw [hsr] at HFR;have hnl:sr.nl+1+(y.wt+ky.wt)≤1099511627776:=by
    have h1:=rC_nl F (.kids ⟨kd,tx,nu,nm,ps⟩) s2
    have h2:=HLN.out
    rw [hsr] at h1;rw [hF.out.1,Fo.wt_app] at h2;simp only [Fo.wt] at h2;omega
   have HRC:Hid (rC (.kids ⟨kd,tx,nu,nm,ps⟩) s2 (F.app (.cons y ky .nil))=rK ⟨kd,tx,nu,nm,ps⟩ sr y ky):=by show _=_; rw [rC_appK,rK_cons,hsr]; rfl
   have HU:Hid (∀wy,Below w0.heap.size w0 wy→RkW w0.heap.size wy S sr nvr fvr→Calls Tryz.prog 82 #[.pointer (some ⟨S,0,none⟩),.agg (ndV y (.slice xn2 y.names.length cn2) (.slice xk2 ky.len ck2))] wy fun e w'=>e=.returned (.tuple #[])∧RkW w0.heap.size w' S (sr.use (.cons y ky .nil)) nvr fvr∧Cg S fvr wy w'):=
    fun wy h1 h2=>ruse_all w0 (ky.size+1) y ky xn2 xk2 cn2 ck2 wy S sr nvr fvr (Nat.lt_succ_self _) hk2 h1 h2 (by unfold RS.nl at hnl; omega)
   have HO:Hid (∀wy,stN y ky=true→Below w0.heap.size w0 wy→RkW w0.heap.size wy S sr nvr fvr→Calls Tryz.prog 39 #[.pointer (some ⟨S,0,none⟩),.agg (ndV y (.slice xn2 y.names.length cn2) (.slice xk2 ky.len ck2))] wy fun e w'=>RRes w0.heap.size S (rO sr y ky) fvr wy e w'):=
    fun wy hs h1 h2=>HON.out y ky xn2 xk2 cn2 ck2 wy S sr nvr fvr hks hs hk2 hn2 h1 h2 (by omega)
   have HI:Hid (∀wy nv2 ns lp,rt .st ky=true→Below w0.heap.size w0 wy→RkW w0.heap.size wy S sr nvr fvr→NmRow wy nv2 ns→ns.length≤1→Calls Tryz.prog 79 #[.pointer (some ⟨S,0,none⟩),.agg (ndV y (.slice xn2 y.names.length cn2) (.slice xk2 ky.len ck2)),nv2,.bool lp] wy fun e w'=>e=.returned (.tuple #[])∧RkW w0.heap.size w' S (sr.join (rC .all (sr.sub ns lp) ky)) nvr fvr∧Cg S fvr wy w'):=
    fun wy nv2 ns lp hs h1 h2 h3 h4=>HIN.out y ky xn2 xk2 cn2 ck2 wy S sr nvr fvr nv2 ns lp (by omega) hs hk2 h1 h2 h3 (by omega)
   have HNX:Hid (k=(F.app (.cons y ky .nil)).app r2∧(F.app (.cons y ky .nil)).len=i+1):=⟨by rw [← Fo.next]; exact hF.out.1,by rw [Fo.app_len,hF.out.2]; rfl⟩
   have hbz:=(Below.refl wr.heap.size wr).alloc (Nat.le_refl _) (.cells (ndV y (.slice xn2 y.names.length cn2) (.slice xk2 ky.len ck2)) 31)
   have HKB:=zH (Blk.new wr 31 (ndV y (.slice xn2 y.names.length cn2) (.slice xk2 ky.len ck2)))
   have HFY:=zH (HFR.out.below hbz)
   clear hf1 hcell hn2 hk2 hks hnl hbz hF hsr HFR;obtain ⟨kd2,tx2,nu2,nm2,ps2⟩:=y;unfold ndV at HU HO HI HKB HFY;simp only at k0 k1 k2 k3 k4 k5 HU HO HI HKB HFY HKK;obtain ⟨nl2,hnl2⟩:∃l,nm2.length=l:=⟨_,rfl⟩;obtain ⟨kl2,hkl2⟩:∃l,ky.len=l:=⟨_,rfl⟩;rw [hnl2] at k3;rw [hkl2] at k4;simp only [hnl2,hkl2] at HU HO HI HKB HFY;clear hnl2 hkl2;go_upto_region 13 with fail
   clear k0 k1 k2 k3 k4 k5 y0 y1 y2 y3 y4 y5;generalize wr.alloc (.cells #[.int .i64 kd2,.string ⟨tx2.toArray⟩,.int .i64 nu2,.slice xn2 nl2 cn2,.slice xk2 kl2 ck2,.int .i64 ps2] 31)=wy at*;generalize wr.heap.size=X at*;obtain ⟨z0,z1,z2,z3,z4,z5⟩:=rsix HKB;obtain ⟨y0,y1,y2,y3,y4,y5⟩:=rsix (zH HFY.out.k);have HBY:=zH (HLO.out _ _ _ _ _ HFY.out);by_cases hq:kd2 < 20
   ·have n20:decide (kd2 < 20)=true:=by simp [hq]
    have HC:=zH (HU.out wy HBY.out HFY.out.r)
    have HK:Hid (rK ⟨kd,tx,nu,nm,ps⟩ sr ⟨kd2,tx2,nu2,nm2,ps2⟩ ky=sr.use (.cons ⟨kd2,tx2,nu2,nm2,ps2⟩ ky .nil)):=rK_ex hq
    go_wp2_with fail;refine HC.out.mono ?_;rintro e w1 ⟨rfl,hr1,hc1⟩;have HF1:Hid (Fst w0.heap.size S A fv #[.int .i64 kd,.string ⟨tx.toArray⟩,.int .i64 nu,.slice xn nl cn,.slice (some ⟨b,off,none⟩) kl ck,.int .i64 ps] w w1 (rC (.kids ⟨kd,tx,nu,nm,ps⟩) s2 (F.app (.cons ⟨kd2,tx2,nu2,nm2,ps2⟩ ky .nil))) nvr fvr):=by rw [HRC.out,HK.out]; exact HFY.out.same hr1 hc1
    clear hr1 hc1 HC HU HO HI z0 z1 z2 z3 z4 z5 y0 y1 y2 y3 y4 y5 HFY;go_wp2_with fail;go_roundw
    case rel=>exact ⟨i+1,_,r2,nvr,fvr,by go_num,by omega,HNX,HF1⟩
    case measure=>simp [intOf]; omega
   ·have n20:decide (kd2 < 20)=false:=by simp [hq]
    by_cases h22:kd2=22
    ·have n22:(kd2==22)=true:=by simp [h22]
     have hst2:stN ⟨kd2,tx2,nu2,nm2,ps2⟩ ky=true:=by
      rcases HKK.out with h | h | h
      ·exact absurd h hq
      ·exact h.2
      ·exact absurd h22 h.2.1
     have HC:=zH (HO.out wy hst2 HBY.out HFY.out.r)
     have HK:Hid (rK ⟨kd,tx,nu,nm,ps⟩ sr ⟨kd2,tx2,nu2,nm2,ps2⟩ ky=rO sr ⟨kd2,tx2,nu2,nm2,ps2⟩ ky):=by
      show _=_
      unfold rK rO;rw [if_neg hq,if_pos h22,if_neg (show ¬ kd2=26 by omega),if_neg (show ¬ kd2=25 by omega)]
     clear h22 hst2 hq;go_wp2_with fail;refine HC.out.mono ?_;rintro e w1 hq;obtain ⟨rfl,nv1,fv1,hf1⟩:=HFY.out.ends hq;have HF1:Hid (Fst w0.heap.size S A fv #[.int .i64 kd,.string ⟨tx.toArray⟩,.int .i64 nu,.slice xn nl cn,.slice (some ⟨b,off,none⟩) kl ck,.int .i64 ps] w w1 (rC (.kids ⟨kd,tx,nu,nm,ps⟩) s2 (F.app (.cons ⟨kd2,tx2,nu2,nm2,ps2⟩ ky .nil))) nv1 fv1):=by rw [HRC.out,HK.out]; exact hf1
     clear hq hf1 HC HU HO HI z0 z1 z2 z3 z4 z5 y0 y1 y2 y3 y4 y5 HFY;go_wp2_with fail;go_roundw
     case rel=>exact ⟨i+1,_,r2,nv1,fv1,by go_num,by omega,HNX,HF1⟩
     case measure=>simp [intOf]; omega
    ·have n22:(kd2==22)=false:=by simp [h22]
     have hst2:rt .st ky=true:=by
      rcases HKK.out with h | h | h
      ·exact absurd h hq
      ·exact absurd h.1 h22
      ·exact h.2.2
     by_cases h24:kd=24
     ·have n24:(kd==24)=true:=by simp [h24]
      have HK:Hid (rK ⟨kd,tx,nu,nm,ps⟩ sr ⟨kd2,tx2,nu2,nm2,ps2⟩ ky=sr.join (rC .all (sr.sub [tx] true) ky)):=by
       show _=_
       unfold rK;rw [if_neg hq,if_neg h22,if_pos h24]
      have HFZ:=zH (HFY.out.below ((Below.refl wy.heap.size wy).alloc (Nat.le_refl _) (.cells #[.string ⟨tx.toArray⟩] 9)))
      have HC:=zH (HI.out (wy.alloc (.cells #[.string ⟨tx.toArray⟩] 9)) _ [tx] true hst2 (HLO.out _ _ _ _ _ HFZ.out) HFZ.out.r (nm_one wy tx) (Nat.le_refl _))
      clear h22 hst2 hq h24;go_wp2_with fail;refine HC.out.mono ?_;rintro e w1 ⟨rfl,hr1,hc1⟩;have HF1:Hid (Fst w0.heap.size S A fv #[.int .i64 kd,.string ⟨tx.toArray⟩,.int .i64 nu,.slice xn nl cn,.slice (some ⟨b,off,none⟩) kl ck,.int .i64 ps] w w1 (rC (.kids ⟨kd,tx,nu,nm,ps⟩) s2 (F.app (.cons ⟨kd2,tx2,nu2,nm2,ps2⟩ ky .nil))) nvr fvr):=by rw [HRC.out,HK.out]; exact HFZ.out.same hr1 hc1
      clear hr1 hc1 HC HU HO HI z0 z1 z2 z3 z4 z5 y0 y1 y2 y3 y4 y5 HFY HFZ;go_wp2_with fail;go_roundw
      case rel=>exact ⟨i+1,_,r2,nvr,fvr,by go_num,by omega,HNX,HF1⟩
      case measure=>simp [intOf]; omega
     ·have n24:(kd==24)=false:=by simp [h24]
      obtain ⟨q3,hq3⟩:∃q,decide (kd=23)=q:=⟨_,rfl⟩
      have n23:(kd==23)=q3:=by rw [← hq3]; rfl
      have HK:Hid (rK ⟨kd,tx,nu,nm,ps⟩ sr ⟨kd2,tx2,nu2,nm2,ps2⟩ ky=sr.join (rC .all (sr.sub [] q3) ky)):=by
       show _=_
       unfold rK;rw [if_neg hq,if_neg h22,if_neg h24];simp only [hq3]
      have HC:=zH (HI.out wy (.slice none 0 0) [] q3 hst2 HBY.out HFY.out.r (nmrow_nil _) (Nat.zero_le _))
      clear h22 hst2 hq h24 hq3;go_wp2_with fail;refine HC.out.mono ?_;rintro e w1 ⟨rfl,hr1,hc1⟩;have HF1:Hid (Fst w0.heap.size S A fv #[.int .i64 kd,.string ⟨tx.toArray⟩,.int .i64 nu,.slice xn nl cn,.slice (some ⟨b,off,none⟩) kl ck,.int .i64 ps] w w1 (rC (.kids ⟨kd,tx,nu,nm,ps⟩) s2 (F.app (.cons ⟨kd2,tx2,nu2,nm2,ps2⟩ ky .nil))) nvr fvr):=by rw [HRC.out,HK.out]; exact HFY.out.same hr1 hc1
      clear hr1 hc1 HC HU HO HI z0 z1 z2 z3 z4 z5 y0 y1 y2 y3 y4 y5 HFY;go_wp2_with fail;go_roundw
      case rel=>exact ⟨i+1,_,r2,nvr,fvr,by go_num,by omega,HNX,HF1⟩
      case measure=>simp [intOf]; omega
  ·have dlt:decide ((i:Int) < (kl:Int))=false:=by simp; omega
   have hR:R=.nil:=by
    cases R with
    | nil=>rfl
    | cons h k r=>have h1:=hF.out.1; have h2:=HKL.out; rw [h1,Fo.app_len,hF.out.2] at h2; simp only [Fo.len] at h2; omega
   have HF5:Hid (Fst w0.heap.size S A fv #[.int .i64 kd,.string ⟨tx.toArray⟩,.int .i64 nu,.slice xn nl cn,.slice xk kl ck,.int .i64 ps] w wr s3 nvr fvr):=by
    rw [← HS3.out,hF.out.1,hR,Fo.app_nil];exact HFR.out
   clear hF hR HFR;by_cases h20:kd=20
   ·have n20:(kd==20)=true:=by simp [h20]
    obtain ⟨sp,hsp⟩:∃q,s3.po1 ⟨kd,tx,nu,nm,ps⟩=q:=⟨_,rfl⟩
    have HP:Hid (s3.post ⟨kd,tx,nu,nm,ps⟩={ sp with names:=s3.names++[tx] }):=by show _=_; unfold RS.post; rw [if_pos h20,hsp]
    have HPN:Hid (sp.names=s3.names):=by show _=_; rw [← hsp]; exact ite_names _ _ _ _
    have HSP:=zH hsp
    clear h20 hsp;go_upto_region 21 with fail
    clear dlt hlt y0 y1 y2 y3 y4 y5;go_cut [113] from 103 to 112 (fun v113 wx=>∃q,v113=.bool q∧Hid (q=decide (tx∈s3.names.drop s3.out))∧Hid (Fst w0.heap.size S A fv #[.int .i64 kd,.string ⟨tx.toArray⟩,.int .i64 nu,.slice xn nl cn,.slice xk kl ck,.int .i64 ps] w wx s3 nvr fvr))
    case first=>
     obtain ⟨y0,y1,y2,y3,y4,y5⟩:=rsix (zH HF5.out.k)
     have c0:wr.cell? ⟨S,0,none⟩=some nvr:=HF5.out.r.blk.cell 0
     have c1:wr.cell? ⟨S,1,none⟩=some (.int .i64 (s3.out:Nat)):=HF5.out.r.blk.cell 1
     have HB:Hid (∀m,Below wr.heap.size wr (wr.drewN m)):=fun m=>drewN_below (Below.refl _ _) m
     have HH:=zH (fun m=>has_any s3.names nvr s3.out tx (wr.drewN m) (HF5.out.below (HB.out m)).r.names (by have:=HN3.out; omega))
     obtain ⟨q,hq⟩:∃q,decide (tx∈s3.names.drop s3.out)=q:=⟨_,rfl⟩
     have HQ:Hid (q=decide (tx∈s3.names.drop s3.out)):=hq.symm
     rw [hq] at HH;clear hq;go_quiet ((go_at_call 81; exact Calls.quiet_of_same (HH.out _)));go_wp2_with fail;go_meet
     case rel=>exact ⟨q,rfl,HQ,HF5.out.below (HB.out nq)⟩
    case rest=>
    obtain ⟨q,rfl,HQ,HF6⟩:=hcut
    clear HF5;go_upto_if 113 with fail
    go_cut [] from 114 to 117 (fun wx=>Hid (Fst w0.heap.size S A fv #[.int .i64 kd,.string ⟨tx.toArray⟩,.int .i64 nu,.slice xn nl cn,.slice xk kl ck,.int .i64 ps] w wx sp nvr fvr))
    case first=>
     obtain ⟨y0,y1,y2,y3,y4,y5⟩:=rsix (zH HF6.out.k)
     cases q with
     | false=>
      have HE:Hid (sp=s3):=by show _=_; rw [← HSP.out]; unfold RS.po1; rw [if_neg (of_decide_eq_false HQ.out.symm)]
      go_wp2_with fail;go_meet
      case rel=>rw [HE.out]; exact HF6
     | true=>
      have HE:Hid (sp=s3.fail ps 10):=by show _=_; rw [← HSP.out]; unfold RS.po1; rw [if_pos (of_decide_eq_true HQ.out.symm)]
      have HFL:=zH (rfail_any _ HF6.out.r ps 10)
      go_wp2_with fail;refine HFL.out.mono ?_;rintro e w1 ⟨rfl,hr2,hc2⟩;have HF1:Hid (Fst w0.heap.size S A fv #[.int .i64 kd,.string ⟨tx.toArray⟩,.int .i64 nu,.slice xn nl cn,.slice xk kl ck,.int .i64 ps] w w1 sp nvr fvr):=by rw [HE.out]; exact HF6.out.same hr2 hc2
      clear hr2 hc2 HFL;go_wp2_with fail;go_meet
      case rel=>exact HF1
    case rest=>
    have HF7:=hcut
    clear HF6 HQ hcut HSP;go_upto_region 23 with fail
    have HFD:Hid (Fst w0.heap.size S A fv #[.int .i64 kd,.string ⟨tx.toArray⟩,.int .i64 nu,.slice xn nl cn,.slice xk kl ck,.int .i64 ps] w wc.drew sp nvr fvr):=HF7.out.below (drewN_below (Below.refl _ _) 1)
    refine wp_region_held_drew (S:=fun _=>True) (by kernel_rfl) trivial (fun hHeld=>?_)
    clear hHeld HF7;generalize wc.drew=wd at*;have HBD:=zH (Below.refl wd.heap.size wd);have HNM:Hid (∀W,Below wd.heap.size wd W→NmRow W nvr s3.names):=fun W hb=>by rw [← HPN.out]; exact (HFD.out.below hb).r.names
    have HAC:Hid (∀W,Below wd.heap.size wd W→W.cell? ⟨A,1,none⟩=some (.string ⟨tx.toArray⟩)):=fun W hb=>(HFD.out.below hb).k.cell 1
    have hS0:wd.cell? ⟨S,0,none⟩=some nvr:=HFD.out.r.blk.cell 0
    have hS:=HAC.out _ HBD.out
    refine wpAnyH_weaken (S2:=fun W=>W.cell? ⟨A,1,none⟩=some (.string ⟨tx.toArray⟩)) (fun _ _=>trivial) ?_
    refine zT 0 hS ?_;try simp only [Act.put,zs1,zs2,zs3]
    refine zT 1 hS ?_;try simp only [Act.put,zs1,zs2,zs3]
    refine zT 2 hS ?_;try simp only [Act.put,zs1,zs2,zs3]
    refine zT 3 hS ?_;try simp only [Act.put,zs1,zs2,zs3]
    refine zT 6 hS ?_;try simp only [Act.put,zs1,zs2,zs3]
    refine zT 7 hS ?_;try simp only [Act.put,zs1,zs2,zs3]
    refine zF 4 8 (fun K hK=>?sac7) (fun K hK=>?sbc7)
    case sac7=>
     go_simp;refine hK.out _ _ ?_ fun hT=>?_
     ·exact hS
     replace hS:=hT;clear hT hK K;try simp only [Act.put,zs1,zs2,zs3]
     refine zF 5 8 (fun K hK=>?sac8) (fun K hK=>?sbc8)
     case sac8=>
      refine pstep_apS (base:=wd.heap.size) (acc:=[]) (l:=s3.names) ⟨rfl,.inl ⟨rfl,rfl⟩⟩ (HNM.out _ HBD.out) HBD.out.size (by have:=HN3.out; simp only [List.length_nil]; omega) rfl rfl (by rfl) (by rfl) ?_
      intro v5 w5 h1 h2 h3;have HB5:=zH (HBD.out.grown h2 HBD.out.size (fun g hg=>by cases hg))
      have HO5:Hid (w5.ownsRow wd.heap.size 9 1 v5 s3.names.length (fsV s3.names)):=by show w5.ownsRow _ _ 1 v5 _ _; simpa using h1
      clear h1 h2 h3;refine hK.out _ _ ?_ fun hT=>?_
      ·exact HAC.out _ HB5.out
      replace hS:=hT;clear hT hK K;try simp only [Act.put,zs1,zs2,zs3]
      refine zR 8 fun K hK=>?_
      go_simp;have HN8:=zH (nm_one w5 tx);have HB8:=zH (HB5.out.alloc HB5.out.size (.cells #[.string ⟨tx.toArray⟩] 9));have HO8:=zH (own_alloc HO5.out (.cells #[.string ⟨tx.toArray⟩] 9));generalize w5.alloc (.cells #[.string ⟨tx.toArray⟩] 9)=wa at*;refine hK.out _ _ ?_ fun hT=>?_
      ·exact HAC.out _ HB8.out
      replace hS:=hT;clear hT hK K;try simp only [Act.put,zs1,zs2,zs3]
      refine zR 9 fun K hK=>?_
      refine pstep_apS (base:=wd.heap.size) (acc:=s3.names) (l:=[tx]) HO8.out HN8.out HB8.out.size (by have:=HN3.out; simp only [List.length_cons,List.length_nil]; omega) rfl rfl (by rfl) (by rfl) ?_
      intro v9 w9 h1 h2 h3;obtain ⟨x9,c9,rfl⟩:=own_slice h1;have HB9:=zH (HB8.out.grown h2 HB8.out.size (fun g hg=>(World.ownsRow.lt (HO8.out) g hg).1))
      have hg:=HFD.out.r.renames (l:=s3.names++[tx]) HB9.out h1 (by simp)
      have HF9:=zH (HFD.out.step hg.1 hg.2 (fun _ hg=>Or.inl hg))
      have hb9:=(HFD.out.r.below HB9.out).blk
      have c0:w9.cell? ⟨S,0,none⟩=some nvr:=hb9.cell 0
      have f0:w9.frozen? ⟨S,0,none⟩=false:=hb9.frozen 0
      clear h1 h2 h3 hg hb9;refine hK.out _ _ ?_ fun hT=>?_
      ·exact HAC.out _ HB9.out
      replace hS:=hT;clear hT hK K;try simp only [Act.put,zs1,zs2,zs3]
      refine zT 10 hS ?_;try simp only [Act.put,zs1,zs2,zs3]
      refine zT 11 hS ?_;try simp only [Act.put,zs1,zs2,zs3]
      refine zR 12 fun K hK=>?_
      go_simp;refine hK.out _ _ ?_ fun hT=>?_
      ·exact HF9.out.k.cell 1
      replace hS:=hT;clear hT hK K;try simp only [Act.put,zs1,zs2,zs3]
      refine wpAnyH_done (by kernel_rfl) ?_ _
      go_wp2_with fail;refine bodyPost_end (results_none rfl _ _ _) rfl ?_;exact ⟨rfl,_,fvr,by rw [HP.out]; exact HF9.out.r,HF9.out.c,HF9.out.o⟩
     case sbc8=>
      go_simp;have HN8:=zH (nm_one wd tx);have HB8:=zH (HBD.out.alloc HBD.out.size (.cells #[.string ⟨tx.toArray⟩] 9));generalize wd.alloc (.cells #[.string ⟨tx.toArray⟩] 9)=wa at*;refine hK.out _ _ ?_ fun hT=>?_
      ·exact HAC.out _ HB8.out
      replace hS:=hT;clear hT hK K;try simp only [Act.put,zs1,zs2,zs3]
      refine zR 5 fun K hK=>?_
      refine pstep_apS (base:=wd.heap.size) (acc:=[]) (l:=s3.names) ⟨rfl,.inl ⟨rfl,rfl⟩⟩ (HNM.out _ HB8.out) HB8.out.size (by have:=HN3.out; simp only [List.length_nil]; omega) rfl rfl (by rfl) (by rfl) ?_
      intro v5 w5 h1 h2 h3;have HB5:=zH (HB8.out.grown h2 HB8.out.size (fun g hg=>by cases hg))
      have HO5:Hid (w5.ownsRow wd.heap.size 9 1 v5 s3.names.length (fsV s3.names)):=by show w5.ownsRow _ _ 1 v5 _ _; simpa using h1
      have HN9:=zH (HN8.out.below ((Below.refl wa.heap.size wa).grown h2 (Nat.le_refl _) (fun g hg=>by cases hg)))
      clear h1 h2 h3;refine hK.out _ _ ?_ fun hT=>?_
      ·exact HAC.out _ HB5.out
      replace hS:=hT;clear hT hK K;try simp only [Act.put,zs1,zs2,zs3]
      refine zR 9 fun K hK=>?_
      refine pstep_apS (base:=wd.heap.size) (acc:=s3.names) (l:=[tx]) HO5.out HN9.out HB5.out.size (by have:=HN3.out; simp only [List.length_cons,List.length_nil]; omega) rfl rfl (by rfl) (by rfl) ?_
      intro v9 w9 h1 h2 h3;obtain ⟨x9,c9,rfl⟩:=own_slice h1;have HB9:=zH (HB5.out.grown h2 HB5.out.size (fun g hg=>(World.ownsRow.lt (HO5.out) g hg).1))
      have hg:=HFD.out.r.renames (l:=s3.names++[tx]) HB9.out h1 (by simp)
      have HF9:=zH (HFD.out.step hg.1 hg.2 (fun _ hg=>Or.inl hg))
      have hb9:=(HFD.out.r.below HB9.out).blk
      have c0:w9.cell? ⟨S,0,none⟩=some nvr:=hb9.cell 0
      have f0:w9.frozen? ⟨S,0,none⟩=false:=hb9.frozen 0
      clear h1 h2 h3 hg hb9;refine hK.out _ _ ?_ fun hT=>?_
      ·exact HAC.out _ HB9.out
      replace hS:=hT;clear hT hK K;try simp only [Act.put,zs1,zs2,zs3]
      refine zT 10 hS ?_;try simp only [Act.put,zs1,zs2,zs3]
      refine zT 11 hS ?_;try simp only [Act.put,zs1,zs2,zs3]
      refine zR 12 fun K hK=>?_
      go_simp;refine hK.out _ _ ?_ fun hT=>?_
      ·exact HF9.out.k.cell 1
      replace hS:=hT;clear hT hK K;try simp only [Act.put,zs1,zs2,zs3]
      refine wpAnyH_done (by kernel_rfl) ?_ _
      go_wp2_with fail;refine bodyPost_end (results_none rfl _ _ _) rfl ?_;exact ⟨rfl,_,fvr,by rw [HP.out]; exact HF9.out.r,HF9.out.c,HF9.out.o⟩
    case sbc7=>
     go_simp;have HN8:=zH (nm_one wd tx);have HB8:=zH (HBD.out.alloc HBD.out.size (.cells #[.string ⟨tx.toArray⟩] 9));generalize wd.alloc (.cells #[.string ⟨tx.toArray⟩] 9)=wa at*;refine hK.out _ _ ?_ fun hT=>?_
     ·exact HAC.out _ HB8.out
     replace hS:=hT;clear hT hK K;try simp only [Act.put,zs1,zs2,zs3]
     have hS1:wa.cell? ⟨S,0,none⟩=some nvr:=(HFD.out.below HB8.out).r.blk.cell 0
     refine zR 4 fun K hK=>?_
     go_simp;refine hK.out _ _ ?_ fun hT=>?_
     ·exact hS
     replace hS:=hT;clear hT hK K;try simp only [Act.put,zs1,zs2,zs3]
     refine zR 5 fun K hK=>?_
     refine pstep_apS (base:=wd.heap.size) (acc:=[]) (l:=s3.names) ⟨rfl,.inl ⟨rfl,rfl⟩⟩ (HNM.out _ HB8.out) HB8.out.size (by have:=HN3.out; simp only [List.length_nil]; omega) rfl rfl (by rfl) (by rfl) ?_
     intro v5 w5 h1 h2 h3;have HB5:=zH (HB8.out.grown h2 HB8.out.size (fun g hg=>by cases hg))
     have HO5:Hid (w5.ownsRow wd.heap.size 9 1 v5 s3.names.length (fsV s3.names)):=by show w5.ownsRow _ _ 1 v5 _ _; simpa using h1
     have HN9:=zH (HN8.out.below ((Below.refl wa.heap.size wa).grown h2 (Nat.le_refl _) (fun g hg=>by cases hg)))
     clear h1 h2 h3;refine hK.out _ _ ?_ fun hT=>?_
     ·exact HAC.out _ HB5.out
     replace hS:=hT;clear hT hK K;try simp only [Act.put,zs1,zs2,zs3]
     refine zR 9 fun K hK=>?_
     refine pstep_apS (base:=wd.heap.size) (acc:=s3.names) (l:=[tx]) HO5.out HN9.out HB5.out.size (by have:=HN3.out; simp only [List.length_cons,List.length_nil]; omega) rfl rfl (by rfl) (by rfl) ?_
     intro v9 w9 h1 h2 h3;obtain ⟨x9,c9,rfl⟩:=own_slice h1;have HB9:=zH (HB5.out.grown h2 HB5.out.size (fun g hg=>(World.ownsRow.lt (HO5.out) g hg).1))
     have hg:=HFD.out.r.renames (l:=s3.names++[tx]) HB9.out h1 (by simp)
     have HF9:=zH (HFD.out.step hg.1 hg.2 (fun _ hg=>Or.inl hg))
     have hb9:=(HFD.out.r.below HB9.out).blk
     have c0:w9.cell? ⟨S,0,none⟩=some nvr:=hb9.cell 0
     have f0:w9.frozen? ⟨S,0,none⟩=false:=hb9.frozen 0
     clear h1 h2 h3 hg hb9;refine hK.out _ _ ?_ fun hT=>?_
     ·exact HAC.out _ HB9.out
     replace hS:=hT;clear hT hK K;try simp only [Act.put,zs1,zs2,zs3]
     refine zT 10 hS ?_;try simp only [Act.put,zs1,zs2,zs3]
     refine zT 11 hS ?_;try simp only [Act.put,zs1,zs2,zs3]
     refine zR 12 fun K hK=>?_
     go_simp;refine hK.out _ _ ?_ fun hT=>?_
     ·exact HF9.out.k.cell 1
     replace hS:=hT;clear hT hK K;try simp only [Act.put,zs1,zs2,zs3]
     refine wpAnyH_done (by kernel_rfl) ?_ _
     go_wp2_with fail;refine bodyPost_end (results_none rfl _ _ _) rfl ?_;exact ⟨rfl,_,fvr,by rw [HP.out]; exact HF9.out.r,HF9.out.c,HF9.out.o⟩
   ·have n20:(kd==20)=false:=by simp [h20]
    have HP:Hid (s3.post ⟨kd,tx,nu,nm,ps⟩=s3):=post_id h20
    clear h20;go_wp2_with fail;refine bodyPost_end (results_none rfl _ _ _) rfl ?_;exact ⟨rfl,nvr,fvr,by rw [HP.out]; exact HF5.out.r,HF5.out.c,HF5.out.o⟩
end Go.Proofs.YtbaidkefobhipaaGreatDoor
