/-
  Walks: the reference's all and Check.
  Walk: the reference's Check.
-/
import Derived.Test.YtbaidkefobhipaaGreatDoorZRq14
import Derived.Test.YtbaidkefobhipaaGreatDoorZS31
namespace Go.Proofs.YtbaidkefobhipaaGreatDoor
set_option maxHeartbeats 8000000
set_option maxRecDepth 100000
open Go.RowKit

theorem rone_step {w0:World} {N:Nat} (ha:RAl w0 (N+1)) (ho:ROn w0 N):ROn w0 (N+1):=by
 intro h k xn xk cn ck w S s nv fv hN hst hkr hnr hb0 hr hln;by_cases h26:h.kind=26
 ·exact rone_fn ha h k xn xk cn ck w S s nv fv hN hst hkr hnr hb0 hr hln h26
 ·by_cases h25:h.kind=25
  ·exact rone_bl ha h k xn xk cn ck w S s nv fv hN hst hkr hb0 hr hln h25
  ·exact rone_ot ha ho h k xn xk cn ck w S s nv fv hN hst hkr hb0 hr hln h25 h26
theorem rall_step {w0:World} {N:Nat} (ho:ROn w0 N):RAl w0 (N+1):=by
 intro Q xv w S s nv fv hN hrt hkr hb0 hr hln;obtain ⟨xk,ck,rfl,hkc1,hkc2,-⟩:=id hkr;have HON:=zH ho;have HN:=zH hN;have HKR:=zH hkr;have HST:Hid (allG stN Q=true):=by rw [← rt_st]; exact hrt
 have HLN:=zH hln
 have HLO:Hid (∀wx,Cg S fv w wx→Below w0.heap.size w0 wx):=fun wx hc=>hb0.trans (hc.below hr hb0.size)
 have HR:=zH hr
 obtain ⟨kl,hkl⟩:∃q,Q.len=q:=⟨_,rfl⟩
 have HKL:=zH hkl
 rw [hkl] at HKR hkc1 ⊢;unfold maxLen at hkc2;clear hkl hN hrt hkr hb0 hr hln ho;go_enter Tryz.func20,Tryz.ntmps20;go_wp2_with fail;go_loopw [4] (fun vi wr=>∃(i:Nat) (F R:Fo) (nvr fvr:Value),vi=.int .i64 i∧i≤kl∧Hid (Q=F.app R∧F.len=i)∧Hid (RkW w0.heap.size wr S (rC .all s F) nvr fvr)∧Hid (Cg S fv w wr)∧Hid (∀g,fvr.ownBlock=some g→fv.ownBlock=some g∨w.heap.size≤g)) (fun vi _=>kl - (intOf vi).toNat)
 case atStart=>exact ⟨0,.nil,Q,nv,fv,rfl,Nat.zero_le _,⟨rfl,rfl⟩,HR,Cg.refl _ _ _,fun _ h=>Or.inl h⟩
 case round=>
  clear HR;obtain ⟨i,F,R,nvr,fvr,rfl,hi,hF,hrr,hcr,hor⟩:=hrel;by_cases hlt:i < kl
  ·have dlt:decide ((i:Int) < (kl:Int))=true:=by simp; omega
   have i1:(i:Int) < (kl:Int):=by omega
   obtain ⟨y,ky,r2,rfl⟩:∃h k r,R=.cons h k r:=by
    cases R with
    | nil=>have h1:=hF.out.2; have h2:=HKL.out; rw [hF.out.1,Fo.app_nil] at h2; omega
    | cons h k r=>exact ⟨h,k,r,rfl⟩
   have hf1:FRow w0 (.slice xk kl ck) (F.app (.cons y ky r2)):=by rw [← hF.out.1]; exact HKR.out
   obtain ⟨b,off,xn2,cn2,xk2,ck2,rfl,hcell,hn2,hk2⟩:=kid_at hf1
   rw [hF.out.2] at hcell;obtain ⟨k0,k1,k2,k3,k4,k5⟩:=hcell wr (HLO.out _ hcr.out);have hks:ky.size < N:=by
    have h1:=HN.out
    rw [hF.out.1] at h1;have:=Fo.kid_size F y ky r2;omega
   have hst:stN y ky=true:=by
    have h1:=HST.out
    rw [hF.out.1,← rt_st,rt_app,rt_st,rt_st] at h1;simp only [allG,Bool.and_eq_true] at h1;exact h1.2.1
   have hnl:(rC .all s F).nl+y.wt+ky.wt≤1099511627776:=by
    have h1:=rC_nl F .all s
    have h2:=HLN.out
    rw [hF.out.1,Fo.wt_app] at h2;simp only [Fo.wt] at h2;omega
   have HC:=zH (HON.out y ky xn2 xk2 cn2 ck2 wr S (rC .all s F) nvr fvr hks hst hk2 hn2 (HLO.out _ hcr.out) hrr.out hnl)
   have HNX:Hid (Q=(F.app (.cons y ky .nil)).app r2∧(F.app (.cons y ky .nil)).len=i+1):=⟨by rw [← Fo.next]; exact hF.out.1,by rw [Fo.app_len,hF.out.2]; rfl⟩
   have HRA:Hid (rO (rC .all s F) y ky=rC .all s (F.app (.cons y ky .nil))):=by show _=_; rw [rC_app,rC_cons]; rfl
   rw [HRA.out] at HC;clear hf1 hcell hk2 hn2 hks hst hnl hF hrr HRA;obtain ⟨kd2,tx2,nu2,nm2,ps2⟩:=y;unfold ndV at HC;simp only at k0 k1 k2 k3 k4 k5 HC;go_wp2_with fail;refine HC.out.mono ?_;rintro e w1 ⟨rfl,nv1,fv1,hr1,hc1,ho1⟩;have HR1:=zH hr1;have HC1:=zH (hcr.out.trans hc1 hor.out)
   have HO1:Hid (∀g,fv1.ownBlock=some g→fv.ownBlock=some g∨w.heap.size≤g):=fun g hg=>(ho1 g hg).elim (hor.out g) (fun hl=>Or.inr (Nat.le_trans hcr.out.size hl))
   clear hr1 hc1 ho1 HC hcr hor;go_wp2_with fail;go_roundw
   case rel=>exact ⟨i+1,_,r2,nv1,fv1,by go_num,by omega,HNX,HR1,HC1,HO1⟩
   case measure=>simp [intOf]; omega
  ·have dlt:decide ((i:Int) < (kl:Int))=false:=by simp; omega
   have hR:R=.nil:=by
    cases R with
    | nil=>rfl
    | cons h k r=>have h1:=hF.out.1; have h2:=HKL.out; rw [h1,Fo.app_len,hF.out.2] at h2; simp only [Fo.len] at h2; omega
   have HFK:Hid (F=Q):=by show _=_; rw [hF.out.1,hR,Fo.app_nil]
   clear hF hR;go_wp2_with fail;refine bodyPost_end (results_none rfl _ _ _) rfl ?_;exact ⟨rfl,nvr,fvr,by rw [← HFK.out]; exact hrr.out,hcr.out,hor.out⟩
theorem rall_all (w0:World):∀N,RAl w0 (N+1)∧ROn w0 N:=by
 intro N;induction N with
 | zero=>
  have h:ROn w0 0:=by intro h k _ _ _ _ _ _ _ _ _ hN; omega
  exact ⟨rall_step h,h⟩
 | succ N ih=>
  have h:=rone_step ih.1 ih.2
  exact ⟨rall_step h,h⟩
open Go.RowKit

theorem rcheck_any (F:Fo) (v:Value) (w:World) (hr:FRow w v F) (hF:FoB F) (hw:F.wt≤1099511627776):
  Calls Tryz.prog 9 #[v] w fun e w'=>e=.returned (chkV F)∧Below w.heap.size w w':=by
 have HRG:=zH (rright_any F v w hF hr)
 have HR:=zH (fun w' hb=>hr.below (w':=w') hb)
 have HW:=zH hw
 obtain ⟨R,hR⟩:∃r,chkV F=r:=⟨_,rfl⟩
 have HRR:=zH hR
 rw [hR];obtain ⟨x,c,rfl,-⟩:=id hr;clear hR hr hF hw;go_enter Tryz.func9,Tryz.ntmps9;go_wp2_with fail;refine HRG.out.mono ?_;rintro e w1 ⟨rfl,hb⟩;have HB1:=zH hb;have HR1:=zH (HR.out w1 hb);clear hb HRG HR;rcases hq:rt .st F with _ | _
 ·have HRE:Hid (R=.tuple #[.int .i64 0,.int .i64 1]):=by show _=_; rw [← HRR.out]; unfold chkV chkL; rw [if_pos hq]; rfl
  clear hq HRR;go_wp2_with fail;go_ret2;exact ⟨by rw [HRE.out]; rfl,HB1.out⟩
 ·have HEQ:=zH (rchk_eq F hq)
  have hba:=(Below.refl w1.heap.size w1).alloc (Nat.le_refl _) (.cells #[.slice none 0 0,.int .i64 0,.bool false,.bool false,.bool true,.slice none 0 0,.int .i64 0,.int .i64 0] 49)
  have hrk:RkW w1.heap.size (w1.alloc (.cells #[.slice none 0 0,.int .i64 0,.bool false,.bool false,.bool true,.slice none 0 0,.int .i64 0,.int .i64 0] 49)) w1.heap.size ⟨[],0,false,false,true,[],0,0⟩ (.slice none 0 0) (.slice none 0 0):=
   ⟨Blk.new w1 49 _,nmrow_nil _,⟨rfl,.inl ⟨rfl,rfl⟩⟩,Nat.le_refl _⟩
  have HAL:=zH ((rall_all w1 F.size).1 F _ _ _ _ _ _ (Nat.lt_succ_self _) hq HR1.out hba hrk (by show 0+_≤_; have:=HW.out; omega))
  have HRK:=zH hrk
  have HBA:=zH hba
  clear hq hba hrk;go_upto_region 4 with fail
  generalize w1.alloc (.cells #[.slice none 0 0,.int .i64 0,.bool false,.bool false,.bool true,.slice none 0 0,.int .i64 0,.int .i64 0] 49)=wa at*;go_wp2_with fail;refine HAL.out.mono ?_;rintro e w2 ⟨rfl,nv,fv,hr2,hc2,-⟩;have HB2:Hid (Below w.heap.size w w2):=HB1.out.trans ((HBA.out.trans (hc2.below HRK.out HBA.out.size)).mono HB1.out.size);obtain ⟨sq,hsq⟩:∃q,rChk F=q:=⟨_,rfl⟩
  have HRE:Hid (R=.tuple #[.int .i64 sq.pos,.int .i64 (sq.e:Nat)]):=by
   show _=_
   rw [← HRR.out,← hsq];unfold chkV;rw [← HEQ.out]
  have hr3:RkW w1.heap.size w2 w1.heap.size sq nv fv:=by rw [← hsq]; exact hr2
  have c6:w2.cell? ⟨w1.heap.size,6,none⟩=some (.int .i64 sq.pos):=hr3.blk.cell 6
  have c7:w2.cell? ⟨w1.heap.size,7,none⟩=some (.int .i64 (sq.e:Nat)):=hr3.blk.cell 7
  have HB9:Hid (∀m,Below w.heap.size w (w2.drewN m)):=fun m=>drewN_below HB2.out m
  clear hr2 hr3 hc2 hsq HAL HRK HBA HRR HEQ HB2;go_upto_region 5 with fail
  go_quiet (fail)
  go_wp2_with fail;go_ret2;exact ⟨by rw [HRE.out]; rfl,HB9.out nq⟩
end Go.Proofs.YtbaidkefobhipaaGreatDoor
