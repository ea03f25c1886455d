/-
  Walk: ParseSames.
-/
import Derived.Test.YtbaidkefobhipaaGreatDoorZS32
import Derived.Test.YtbaidkefobhipaaGreatDoorZS44
import Derived.Test.YtbaidkefobhipaaGreatDoorZOp
namespace Go.Proofs.YtbaidkefobhipaaGreatDoor
set_option maxHeartbeats 16000000
set_option maxRecDepth 100000
open Go.RowKit

theorem lawSames (v1 v2:Value) (a:Int) (W:World) (hd:Ldd W) (h1:FArg W v1) (h2:FArg W v2) (_:(Lit.int IntKind.i64 a).wf=true):Calls Tryz.prog 4 #[v1,v2,.int .i64 a] W fun e W'=>e=.returned (.bool true)∧Below W.heap.size W W':=by
 obtain ⟨F,hr,hw⟩:=h1
 obtain ⟨G,hr2,hw2⟩:=h2
 have HAW:=zH (fun w' (hb:Below W.heap.size W w')=>hd.awake hb)
 have HR:=zH (fun w' (hb:Below W.heap.size W w')=>hr.below hb)
 have HR2:=zH (fun w' (hb:Below W.heap.size W w')=>hr2.below hb)
 have HA0:=zH (HAW.out W (Below.refl _ _))
 have HM2:Hid (∀w' (v:Value),Below W.heap.size W w'→(∀k,v.ownBlock=some k→W.heap.size≤k)→FRow (maskW (fun k=>decide (v.ownBlock≠some k)) w') v2 G):=fun w' v hb hv=>
  hr2.sub (csub_below hb fun k hk=>by simp only [decide_eq_true_eq]; intro he; have:=hv k he; omega)
 have HM1:Hid (∀w',Below W.heap.size W w'→FRow (maskW (fun k=>decide ((.slice none 0 0:Value).ownBlock≠some k)) w') v1 F):=fun w' hb=>hr.sub (csub_below hb fun k _=>by simp [Value.ownBlock])
 obtain ⟨x,c,rfl,hl,hc,-⟩:=id hr
 obtain ⟨x2,c2,rfl,hl2,hc2,-⟩:=id hr2
 obtain ⟨Z,hZ⟩:∃b,Fo.sameF F G=b:=⟨_,rfl⟩
 have HS1:=zH (fun w' hb=>same_any F G _ _ w' (HR.out w' hb) (HR2.out w' hb))
 have HS2:=zH (fun w' hb=>rsame_any F G _ _ w' (HR.out w' hb) (HR2.out w' hb))
 have HS3:=zH (fun w' hb=>same_any G F _ _ w' (HR2.out w' hb) (HR.out w' hb))
 have HS4:=zH (fun w' hb=>same_any F F _ _ w' (HR.out w' hb) (HR.out w' hb))
 rw [hZ] at HS1 HS2
 rw [Fo.sameF_comm,hZ] at HS3
 rw [Fo.sameF_refl] at HS4
 have hfs:=size_wt F
 have hgs:=size_wt G
 have hfl:=len_le_size F
 have hgl:=len_le_size G
 obtain ⟨n,hn⟩:∃n,F.len=n:=⟨_,rfl⟩
 obtain ⟨m,hm⟩:∃n,G.len=n:=⟨_,rfl⟩
 rw [hn] at HR HM1 HS1 HS2 HS3 HS4 hl hfl ⊢
 rw [hm] at HR2 HM2 HS1 HS2 HS3 hl2 hgl ⊢
 have HL:=zH hn
 have HL2:=zH hm
 have HFS:Hid (F.size≤1048576):=Nat.le_trans hfs hw
 have HGS:Hid (G.size≤1048576):=Nat.le_trans hgs hw2
 have hn2:n≤1048576:=by omega
 have hm2:m≤1048576:=by omega
 unfold maxLen at hc hc2
 clear hd hr hr2 hw hw2 hZ hfs hgs hfl hgl hn hm
 go_enter Tryz.func4,Tryz.ntmps4
 go_wp2_with fail
 refine HA0.out.mono ?_
 rintro e w1 ⟨rfl,hb⟩
 have HB1:=zH hb
 have HC:=zH (HS1.out w1 HB1.out)
 clear hb HA0
 go_wp2_with fail
 refine HC.out.mono ?_
 rintro e w2 ⟨rfl,hb⟩
 have HB2:=zH (HB1.out.trans (hb.mono HB1.out.size))
 clear hb HC
 have HC:=zH (HS2.out w2 HB2.out)
 go_wp2_with fail
 refine HC.out.mono ?_
 rintro e w3 ⟨rfl,hb⟩
 have HB3:=zH (HB2.out.trans (hb.mono HB2.out.size))
 clear hb HC HB1
 have HC:=zH (HS1.out w3 HB3.out)
 go_wp2_with fail
 refine HC.out.mono ?_
 rintro e w4 ⟨rfl,hb⟩
 have HB4:=zH (HB3.out.trans (hb.mono HB3.out.size))
 clear hb HC HB2
 have HC:=zH (HS3.out w4 HB4.out)
 go_wp2_with fail
 refine HC.out.mono ?_
 rintro e w5 ⟨rfl,hb⟩
 have HB5:=zH (HB4.out.trans (hb.mono HB4.out.size))
 clear hb HC HB3
 have HC:=zH (HS4.out w5 HB5.out)
 go_wp2_with fail
 refine HC.out.mono ?_
 rintro e w6 ⟨rfl,hb⟩
 have HB6:=zH (HB5.out.trans (hb.mono HB5.out.size))
 clear hb HC HB4 HB5 HS1 HS2 HS3 HS4
 have HM6:=zH (HM1.out w6 HB6.out)
 clear HM1
 go_upto_region 3 with fail
 go_cut [7] from 35 to 36 (fun v7 wx=>∃(xr:Option Addr) (cap:Nat),v7=.slice xr n cap∧Hid (KRow (fun _=>true) wx W.heap.size (.slice xr n cap) F)∧Hid (Below W.heap.size W wx))
 case first=>
  by_cases h0:n=0
  ·subst h0
   have hF:F=.nil:=by
    have h1:=HL.out
    cases F with
    | nil=>rfl
    | cons _ _ _=>simp [Fo.len] at h1
   have HKN:Hid (KRow (fun _=>true) w6 W.heap.size (.slice none 0 0) F):=by rw [hF]; exact krow_nil _ _ _
   clear hF
   rcases x with _ | x
   ·go_wp2_with fail
    go_meet
    case rel=>exact ⟨none,0,rfl,HKN,HB6⟩
   ·go_wp2_with fail
    go_meet
    case rel=>exact ⟨none,0,rfl,HKN,HB6⟩
  ·go_wp2_with (refine wpList_appF el_syn (c:=c) (x:=x) (krow_nil (fun _=>true) w6 W.heap.size) (n:=0) (by rfl) (by exact HM6.out) (by omega) HB6.out.size rfl rfl (by rfl) (by rfl) (by omega) (by unfold maxLen; omega) ?_)
   intro r cap w7 hk hg hr
   have HK7:Hid (KRow (fun _=>true) w7 W.heap.size (.slice (some ⟨r,0,none⟩) n cap) F):=hk
   have HB7:Hid (Below W.heap.size W w7):=⟨hg.os.trans HB6.out.os,hg.tape.trans HB6.out.tape,hg.output.trans HB6.out.output,Nat.le_trans HB6.out.size hg.size,fun k hk=>(hg.block k (Nat.lt_of_lt_of_le hk HB6.out.size) (by simp [Value.ownBlock])).trans (HB6.out.block k hk)⟩
   clear hk hg hr
   go_wp2_with fail
   go_meet
   case rel=>exact ⟨_,cap,rfl,HK7,HB7⟩
 case rest=>
 obtain ⟨xr,cap,rfl,hkr,hbw⟩:=hcut
 clear HB6 HM6
 go_wp2_with fail
 go_loopw [39] (fun vi wr=>∃(i:Nat) (K:Fo),vi=.int .i64 i∧i≤n∧Hid (Fo.sameF F K=true∧K.len=n∧K.size=F.size)∧Hid (KRow (fun _=>true) wr W.heap.size (.slice xr n cap) K)∧Hid (Below W.heap.size W wr)) (fun vi _=>n - (intOf vi).toNat)
 case atStart=>exact ⟨0,F,rfl,Nat.zero_le _,⟨Fo.sameF_refl F,HL.out,rfl⟩,hkr,hbw⟩
 case round=>
  clear hkr hbw
  obtain ⟨i,K,rfl,hi,hK,hkr,hbw⟩:=hrel
  by_cases hlt:i < n
  ·have dlt:decide ((i:Int) < (n:Int))=true:=by simp; omega
   have i1:(i:Int) < (n:Int):=by omega
   obtain ⟨r,rfl⟩:∃r,xr=some ⟨r,0,none⟩:=by
    obtain ⟨xs,h1,-⟩:=hkr.out
    rw [hK.out.2.1] at h1
    obtain ⟨g,cap',hv,-⟩:=h1.form (by omega)
    injection hv with e1
    exact ⟨g,e1⟩
   obtain ⟨u0,t0⟩:∃u0,wr.cell? ⟨r,i*6+5,none⟩=some u0:=by
    obtain ⟨xs,h1,-⟩:=hkr.out
    rw [hK.out.2.1] at h1
    rw [World.ownsRow.cellAt h1 _ (by omega)]
    exact ⟨_,List.getElem?_eq_getElem (by rw [h1.1]; omega)⟩
   have f0:wr.frozen? ⟨r,i*6+5,none⟩=false:=by
    obtain ⟨xs,h1,-⟩:=hkr.out
    rw [hK.out.2.1] at h1
    exact World.ownsRow.frozenAt h1 _
   have HK2:Hid (Fo.sameF F (setP a i K)=true∧(setP a i K).len=n∧(setP a i K).size=F.size):=⟨setP_same a F K i hK.out.1,by rw [setP_len]; exact hK.out.2.1,by rw [setP_size]; exact hK.out.2.2⟩
   have HR9:=zH (hkr.out.setP a i)
   have HB9:=zH (hkr.out.setP_below hbw.out a i)
   clear hK hkr hbw
   go_wp2_with fail
   go_roundw
   case rel=>exact ⟨i+1,setP a i K,by go_num,by omega,HK2,HR9,HB9⟩
   case measure=>simp [intOf]; omega
  ·have dlt:decide ((i:Int) < (n:Int))=false:=by simp; omega
   have HSM:=zH (same_any F K _ _ wr (HR.out wr hbw.out) (hkr.out.frow.sub (unmask _ _)))
   rw [hK.out.1] at HSM
   go_wp2_with fail
   refine HSM.out.mono ?_
   rintro e w8 ⟨rfl,hb⟩
   have HB8:=zH (hbw.out.trans (hb.mono hbw.out.size))
   have HK8:Hid (KRow (fun _=>true) w8 W.heap.size (.slice xr n cap) K):=hkr.out.keep fun k hk _=>⟨rfl,hb.block k hk⟩
   clear hb HSM hkr hbw
   have HM8:=zH (HM2.out w8 (.slice xr n cap) HB8.out (by
    intro k hk
    obtain ⟨xs,h1,-⟩:=HK8.out
    rcases h1.2 with ⟨h',_⟩ | ⟨g',cap',cur,h',hbs,_⟩
    ·rw [h'] at hk; simp [Value.ownBlock] at hk
    ·rw [h'] at hk; simp [Value.ownBlock] at hk; omega))
   obtain ⟨s1,hs1⟩:∃s,F.size=s:=⟨_,rfl⟩
   obtain ⟨s2,hs2⟩:∃s,G.size=s:=⟨_,rfl⟩
   have g1:s1≤1048576:=by rw [← hs1]; exact HFS.out
   have g2:s2≤1048576:=by rw [← hs2]; exact HGS.out
   have E1:Hid (wrap64 (F.size:Int)=(s1:Int)):=by show _=_; rw [hs1]; unfold wrap64; omega
   have E2:Hid (wrap64 (G.size:Int)=(s2:Int)):=by show _=_; rw [hs2]; unfold wrap64; omega
   have E3:Hid (wrap64 ((F.size+G.size:Nat):Int)=(s1:Int)+(s2:Int)):=by show _=_; rw [hs1,hs2]; unfold wrap64; omega
   clear hs1 hs2
   by_cases h0:m=0
   ·subst h0
    have HS1:Hid (Calls Tryz.prog 13 #[.slice xr n cap] w8 fun e w'=>e=.returned (.int .i64 ((s1:Int)+(s2:Int)))∧Below w8.heap.size w8 w'):=by
     have h1:G=.nil:=by
      have h1:=HL2.out
      cases G with
      | nil=>rfl
      | cons _ _ _=>simp [Fo.len] at h1
     have h2:=size_any K (.slice xr n cap) w8 (HK8.out.frow.sub (unmask _ _))
     rw [hK.out.2.2] at h2
     rw [← E3.out,h1]
     exact h2
    have hnc:n≤cap:=by
     obtain ⟨x',c',e1,e2,-⟩:=HK8.out.frow
     injection e1 with _ e3 e4
     rw [e4,e3]
     exact e2
    have HB9:=zH HB8.out
    clear HK8 HB8 HM8 hK
    rcases xr with _ | xr
    ·rcases x2 with _ | x2
     ·go_wp2_with fail
      refine HS1.out.mono ?_
      rintro e w10 ⟨rfl,hb⟩
      have HB10:=zH (HB9.out.trans (hb.mono HB9.out.size))
      have HS2:=zH (size_any F _ w10 (HR.out w10 HB10.out))
      rw [E1.out] at HS2
      clear hb HS1
      go_wp2_with fail
      refine HS2.out.mono ?_
      rintro e w11 ⟨rfl,hb⟩
      have HB11:=zH (HB10.out.trans (hb.mono HB10.out.size))
      have HS3:=zH (size_any G _ w11 (HR2.out w11 HB11.out))
      rw [E2.out] at HS3
      clear hb HS2
      go_wp2_with fail
      refine HS3.out.mono ?_
      rintro e w12 ⟨rfl,hb⟩
      have HB12:=zH (HB11.out.trans (hb.mono HB11.out.size))
      clear hb HS3
      clear HR HR2 HM2
      go_wp2_with fail
      go_ret
      exact ⟨by simp,HB12.out⟩
     ·go_wp2_with fail
      refine HS1.out.mono ?_
      rintro e w10 ⟨rfl,hb⟩
      have HB10:=zH (HB9.out.trans (hb.mono HB9.out.size))
      have HS2:=zH (size_any F _ w10 (HR.out w10 HB10.out))
      rw [E1.out] at HS2
      clear hb HS1
      go_wp2_with fail
      refine HS2.out.mono ?_
      rintro e w11 ⟨rfl,hb⟩
      have HB11:=zH (HB10.out.trans (hb.mono HB10.out.size))
      have HS3:=zH (size_any G _ w11 (HR2.out w11 HB11.out))
      rw [E2.out] at HS3
      clear hb HS2
      go_wp2_with fail
      refine HS3.out.mono ?_
      rintro e w12 ⟨rfl,hb⟩
      have HB12:=zH (HB11.out.trans (hb.mono HB11.out.size))
      clear hb HS3
      clear HR HR2 HM2
      go_wp2_with fail
      go_ret
      exact ⟨by simp,HB12.out⟩
    ·rcases x2 with _ | x2
     ·go_wp2_with fail
      refine HS1.out.mono ?_
      rintro e w10 ⟨rfl,hb⟩
      have HB10:=zH (HB9.out.trans (hb.mono HB9.out.size))
      have HS2:=zH (size_any F _ w10 (HR.out w10 HB10.out))
      rw [E1.out] at HS2
      clear hb HS1
      go_wp2_with fail
      refine HS2.out.mono ?_
      rintro e w11 ⟨rfl,hb⟩
      have HB11:=zH (HB10.out.trans (hb.mono HB10.out.size))
      have HS3:=zH (size_any G _ w11 (HR2.out w11 HB11.out))
      rw [E2.out] at HS3
      clear hb HS2
      go_wp2_with fail
      refine HS3.out.mono ?_
      rintro e w12 ⟨rfl,hb⟩
      have HB12:=zH (HB11.out.trans (hb.mono HB11.out.size))
      clear hb HS3
      clear HR HR2 HM2
      go_wp2_with fail
      go_ret
      exact ⟨by simp,HB12.out⟩
     ·go_wp2_with fail
      refine HS1.out.mono ?_
      rintro e w10 ⟨rfl,hb⟩
      have HB10:=zH (HB9.out.trans (hb.mono HB9.out.size))
      have HS2:=zH (size_any F _ w10 (HR.out w10 HB10.out))
      rw [E1.out] at HS2
      clear hb HS1
      go_wp2_with fail
      refine HS2.out.mono ?_
      rintro e w11 ⟨rfl,hb⟩
      have HB11:=zH (HB10.out.trans (hb.mono HB10.out.size))
      have HS3:=zH (size_any G _ w11 (HR2.out w11 HB11.out))
      rw [E2.out] at HS3
      clear hb HS2
      go_wp2_with fail
      refine HS3.out.mono ?_
      rintro e w12 ⟨rfl,hb⟩
      have HB12:=zH (HB11.out.trans (hb.mono HB11.out.size))
      clear hb HS3
      clear HR HR2 HM2
      go_wp2_with fail
      go_ret
      exact ⟨by simp,HB12.out⟩
   ·go_wp2_with (refine wpList_appG el_syn (c:=c2) (x:=x2) (m:=m) HK8.out (n:=n) (by exact hK.out.2.1) (by exact HM8.out) (by omega) HB8.out.size (by rfl) rfl (by rfl) (by rfl) (by omega) (by unfold maxLen; omega) ?_)
    intro r cap2 w9 hk hg hrr
    have hbx:∀k,(.slice xr n cap:Value).ownBlock=some k→W.heap.size≤k:=by
     intro k hk
     obtain ⟨xs,h1,-⟩:=HK8.out
     rcases h1.2 with ⟨h',_⟩ | ⟨g',cap',cur,h',hbs,_⟩
     ·rw [h'] at hk; simp [Value.ownBlock] at hk
     ·rw [h'] at hk; simp [Value.ownBlock] at hk; omega
    have HB9:Hid (Below W.heap.size W w9):=⟨hg.os.trans HB8.out.os,hg.tape.trans HB8.out.tape,hg.output.trans HB8.out.output,Nat.le_trans HB8.out.size hg.size,fun k hk=>(hg.block k (Nat.lt_of_lt_of_le hk HB8.out.size) (fun e=>by have:=hbx k e.symm; omega)).trans (HB8.out.block k hk)⟩
    have HS1:Hid (Calls Tryz.prog 13 #[.slice (some ⟨r,0,none⟩) (n+m) cap2] w9 fun e w'=>e=.returned (.int .i64 ((s1:Int)+(s2:Int)))∧Below w9.heap.size w9 w'):=by
     have h2:=size_any (K.app G) (.slice (some ⟨r,0,none⟩) (n+m) cap2) w9 (hk.frow.sub (unmask _ _))
     rw [Fo.app_size,hK.out.2.2,E3.out] at h2
     exact h2
    clear HK8 HB8 HM8 hK hk hg hrr hbx
    go_wp2_with fail
    refine HS1.out.mono ?_
    rintro e w10 ⟨rfl,hb⟩
    have HB10:=zH (HB9.out.trans (hb.mono HB9.out.size))
    have HS2:=zH (size_any F _ w10 (HR.out w10 HB10.out))
    rw [E1.out] at HS2
    clear hb HS1
    go_wp2_with fail
    refine HS2.out.mono ?_
    rintro e w11 ⟨rfl,hb⟩
    have HB11:=zH (HB10.out.trans (hb.mono HB10.out.size))
    have HS3:=zH (size_any G _ w11 (HR2.out w11 HB11.out))
    rw [E2.out] at HS3
    clear hb HS2
    go_wp2_with fail
    refine HS3.out.mono ?_
    rintro e w12 ⟨rfl,hb⟩
    have HB12:=zH (HB11.out.trans (hb.mono HB11.out.size))
    clear hb HS3
    clear HR HR2 HM2
    go_wp2_with fail
    go_ret
    exact ⟨by simp,HB12.out⟩
end Go.Proofs.YtbaidkefobhipaaGreatDoor
