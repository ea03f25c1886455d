/-
  Walk: ParseScopes. (Printed by gen_sc.py.)
-/
import Derived.Test.YtbaidkefobhipaaGreatDoorZS32
import Derived.Test.YtbaidkefobhipaaGreatDoorZS33
import Derived.Test.YtbaidkefobhipaaGreatDoorZPra
import Derived.Deep.DeepCutAuto
namespace Go.Proofs.YtbaidkefobhipaaGreatDoor
set_option maxHeartbeats 16000000
set_option maxRecDepth 100000
open Go.RowKit

theorem fob_dup {A r k:Fo} {h:Hd} (hf:FoB (A.app (.cons h k r))):FoB ((A.app (.cons h k r)).app (.cons h k .nil)):=by
 rw [FoB_app]
 refine ⟨hf,?_⟩
 rw [FoB_app] at hf
 exact ⟨hf.2.1,hf.2.2.1,hf.2.2.2.1,trivial⟩
theorem Fo.len_size:∀F:Fo,F.len≤F.size:=by
 intro F
 induction F with
 | nil=>exact Nat.le_refl _
 | cons h k r _ ih=>simp only [Fo.len,Fo.size]; omega
theorem lawScopes (s:ByteArray) (W:World) (hd:Ldd W) (hs:s.size≤maxLen):Calls Tryz.prog 7 #[.string s] W fun e W'=>e=.returned (.bool true)∧Below W.heap.size W W':=by
 have HPR:=zH (prog_run s W hs)
 have HAW:=zH (fun w' (hb:Below W.heap.size W w')=>hd.awake hb)
 clear hd hs
 go_enter Tryz.func7,Tryz.ntmps7
 go_wp2_with fail
 refine HPR.out.mono ?_
 rintro e w1 ⟨h,hb⟩
 have HB1:=zH hb
 clear HPR hb
 have HA1:=zH (HAW.out w1 HB1.out)
 cases hp:proP s.data.toList with
 | error x=>
  have HX:=zH ((proP_bad hp).1)
  rw [hp] at h
  dsimp only at h
  subst h
  clear hp
  obtain ⟨x1,x2⟩:=x
  have e1:((x2:Int) != 0)=true:=by have:=HX.out; simp at this ⊢; omega
  dsimp only
  go_wp2_with fail
  refine HA1.out.mono ?_
  rintro e w2 ⟨rfl,hb⟩
  have HB2:=zH (HB1.out.trans (hb.mono HB1.out.size))
  have HA2:=zH (HAW.out w2 HB2.out)
  clear hb HA1
  go_wp2_with fail
  refine HA2.out.mono ?_
  rintro e w3 ⟨rfl,hb⟩
  have HB3:=zH (HB2.out.trans (hb.mono HB2.out.size))
  clear hb HA2
  go_wp2_with fail
  go_ret
  exact ⟨by simp,HB3.out⟩
 | ok F=>
  have HFB:=zH (fob_of hp)
  have HSZ:=zH (proP_ok hp).2
  rw [hp] at h
  obtain ⟨x,c,rfl,hr⟩:=h
  clear hp
  go_wp2_with fail
  refine HA1.out.mono ?_
  rintro e w2 ⟨rfl,hb⟩
  have HB2:=zH (HB1.out.trans (hb.mono HB1.out.size))
  have HR2:=zH (hr.below hb)
  clear hb HA1 hr HAW
  have HWS:Hid (F.size≤20480):=Nat.le_trans (size_wt F) HSZ.out
  have HCK:=zH (check_any F _ w2 HR2.out HFB.out (by have:=HWS.out; unfold Mx; omega))
  unfold chkV at HCK
  obtain ⟨⟨q1,q2⟩,hq⟩:∃q,chkL F=q:=⟨_,rfl⟩
  have HQ:=zH hq
  rw [hq] at HCK
  clear hq
  go_wp2_with fail
  refine HCK.out.mono ?_
  rintro e w3 ⟨rfl,hb⟩
  have HB3:=zH (HB2.out.trans (hb.mono HB2.out.size))
  have HR3:=zH (HR2.out.below hb)
  clear hb HCK HR2 HB2 HB1
  by_cases h0:q2=0
  case neg=>
   have e1:((q2:Int) != 0)=true:=by simp; omega
   go_wp2_with fail
   go_ret
   exact ⟨by simp,HB3.out⟩
  case pos=>
  subst h0
  have HC0:Hid ((chkL F).2=0):=by show _=_; rw [HQ.out]
  obtain ⟨n,hn⟩:∃n,F.len=n:=⟨_,rfl⟩
  rw [hn] at HR3
  have HL:=zH hn
  have hn2:n≤20480:=by have h1:=HWS.out; have h2:F.len≤F.size:=Fo.len_size F; omega
  clear HQ
  go_wp2_with fail
  go_loopw [8,36] (fun vf vi wr=>∃(i:Nat) (A R:Fo),vi=.int .i64 i∧i≤n∧vf=.bool (hasFn A)∧Hid (F=A.app R∧A.len=i)∧Hid (Below W.heap.size W wr)∧Hid (FRow wr (.slice x n c) F)) (fun _ vi _=>n - (intOf vi).toNat)
  case atStart=>exact ⟨0,.nil,F,rfl,Nat.zero_le _,rfl,⟨rfl,rfl⟩,HB3.out,HR3.out⟩
  case round=>
   clear HB3 HR3
   obtain ⟨i,A,R,rfl,hi,rfl,hA,hbw,hfr⟩:=hrel
   by_cases hlt:i < n
   case neg=>
    have dlt:decide ((i:Int) < (n:Int))=false:=by simp; omega
    obtain rfl:R=.nil:=by
     cases R with
     | nil=>rfl
     | cons h k r=>have h1:=hA.out.1; have h2:=HL.out; rw [h1,Fo.app_len,hA.out.2] at h2; simp only [Fo.len] at h2; omega
    have HAF:Hid (A=F):=by show _=_; rw [hA.out.1,Fo.app_nil]
    obtain ⟨hf,hhf⟩:∃b,hasFn A=b:=⟨_,rfl⟩
    rw [hhf]
    have HHF:=zH hhf
    clear hhf hA
    cases hf with
    | true=>
     go_wp2_with fail
     go_ret
     exact ⟨by simp,hbw.out⟩
    | false=>
     have hb1:=(Below.refl wr.heap.size wr).alloc (Nat.le_refl _) (.cells #[.int .i64 25,.string ⟨#[]⟩,.int .i64 0,.slice none 0 0,.slice x n c,.int .i64 0] 31)
     have hk:=Blk.new wr 31 #[.int .i64 25,.string ⟨#[]⟩,.int .i64 0,.slice none 0 0,.slice x n c,.int .i64 0]
     have hrow:FRow (wr.alloc (.cells #[.int .i64 25,.string ⟨#[]⟩,.int .i64 0,.slice none 0 0,.slice x n c,.int .i64 0] 31)) (.slice (some ⟨wr.heap.size,0,none⟩) 1 1) (.cons (hdT 25 [] 0 0) F .nil):=by
      have p1:=frow_blk (S:=fun _=>true) (F:=.cons (hdT 25 [] 0 0) F .nil) hk rfl (FCl.one (aw_kid 25 0 0 [] HL.out.symm (FRow.sub (fun b o v hc=>(mask_cell _ _ b o v).2 ⟨rfl,hc⟩) (hfr.out.below hb1)))) (by simp [Fo.len])
      exact p1.sub (unmask _ _)
     have HCB:=zH (check_any _ _ _ hrow ⟨by decide,fun _ h=>by simp [hdT] at h,HFB.out,trivial⟩ (by have:=HWS.out; simp only [Fo.size]; unfold Mx; omega))
     unfold chkV at HCB
     rw [chkL_block (by rw [← HAF.out]; exact HHF.out) HC0.out] at HCB
     have HB9:=zH (hbw.out.trans (hb1.mono hbw.out.size))
     clear hb1 hk hrow
     go_wp2_with fail
     refine HCB.out.mono ?_
     rintro e w8 ⟨rfl,hb⟩
     have HB8:=zH (HB9.out.trans (hb.mono HB9.out.size))
     clear hb HCB HB9
     go_wp2_with fail
     go_ret
     exact ⟨by simp,HB8.out⟩
   case pos=>
   have dlt:decide ((i:Int) < (n:Int))=true:=by simp; omega
   have i1:(i:Int) < (n:Int):=by omega
   obtain ⟨h,k,r,rfl⟩:∃h k r,R=.cons h k r:=by
    cases R with
    | nil=>have h1:=hA.out.2; have h2:=HL.out; rw [hA.out.1,Fo.app_nil] at h2; omega
    | cons h k r=>exact ⟨h,k,r,rfl⟩
   have hf1:FRow wr (.slice x n c) (A.app (.cons h k r)):=by rw [← hA.out.1]; exact hfr.out
   obtain ⟨b,off,xn,cn,xk,ck,rfl,⟨k0,k1,k2,k3,k4,k5⟩,hn1,hk1⟩:=hf1.node
   rw [hA.out.2] at k0 k1 k2 k3 k4 k5
   have HNX:Hid (F=(A.app (.cons h k .nil)).app r∧(A.app (.cons h k .nil)).len=i+1):=⟨by rw [← Fo.next]; exact hA.out.1,by rw [Fo.app_len,hA.out.2]; rfl⟩
   have hb1:=(Below.refl wr.heap.size wr).alloc (Nat.le_refl _) (.cells (ndV h (.slice xn h.names.length cn) (.slice xk k.len ck)) 31)
   have HND:Hid (NdV (wr.alloc (.cells (ndV h (.slice xn h.names.length cn) (.slice xk k.len ck)) 31)) (ndV h (.slice xn h.names.length cn) (.slice xk k.len ck)) (h,k)):=ndv_mk h k rfl rfl (hn1.below hb1) (hk1.below hb1)
   have HKB:=zH (Blk.new wr 31 (ndV h (.slice xn h.names.length cn) (.slice xk k.len ck)))
   have HB4:=zH (hbw.out.trans (hb1.mono hbw.out.size))
   have HR4:Hid (FRow (wr.alloc (.cells (ndV h (.slice xn h.names.length cn) (.slice xk k.len ck)) 31)) (.slice (some ⟨b,off,none⟩) n c) F):=hfr.out.below hb1
   have HFN:Hid (hasFn (A.app (.cons h k .nil))=(hasFn A||decide (h.kind=26))):=by show _=_; rw [hasFn_app]; simp only [hasFn,Bool.or_false]
   clear hf1 hn1 hk1 hb1 hbw hfr
   obtain ⟨kd,tx,nu,nm,ps⟩:=h
   unfold ndV at HND HKB HB4 HR4
   simp only at k0 k1 k2 k3 k4 k5 HND HKB HB4 HR4 HFN
   obtain ⟨m,hm⟩:∃m,nm.length=m:=⟨_,rfl⟩
   have HM:=zH hm
   rw [hm] at k3 HND HKB HB4 HR4
   clear hm
   obtain ⟨vf,hvf⟩:∃b,hasFn A=b:=⟨_,rfl⟩
   rw [hvf] at HFN ⊢
   clear hvf
   go_upto_region 11 with fail
   clear k0 k1 k2 k3 k4 k5
   generalize wr.alloc (.cells #[.int .i64 kd,.string ⟨tx.toArray⟩,.int .i64 nu,.slice xn m cn,.slice xk k.len ck,.int .i64 ps] 31)=wy at*
   generalize hKB1:wr.heap.size=KB at*
   have y0:wy.cell? ⟨KB,0,none⟩=some (.int .i64 kd):=HKB.out.cell 0
   have y5:wy.cell? ⟨KB,5,none⟩=some (.int .i64 ps):=HKB.out.cell 5
   go_cut [8] from 40 to 45 (fun v8 wx=>v8=.bool (vf||decide (kd=26))∧wy=wx)
   case first=>
    cases vf with
    | true=>
     go_wp2_with fail
     go_meet
     case rel=>exact ⟨by simp,rfl⟩
    | false=>
     go_wp2_with fail
     go_meet
     case rel=>exact ⟨by simp; rfl,rfl⟩
   case rest=>
   obtain ⟨rfl,rfl⟩:=hcut
   have HN2:Hid (hasFn (A.app (.cons ⟨kd,tx,nu,nm,ps⟩ k .nil))=(vf||decide (kd=26))):=HFN
   obtain ⟨vg,hvg⟩:∃b,(vf||decide (kd=26))=b:=⟨_,rfl⟩
   rw [hvg] at HN2 ⊢
   clear hvg HFN
   by_cases c20:kd=20
   case neg=>
    have e20:(kd != 20)=true:=by simp; exact c20
    go_wp2_with fail
    go_roundw
    case rel=>exact ⟨i+1,_,r,by go_num,by omega,by rw [HN2.out],HNX,HB4.out,HR4.out⟩
    case measure=>simp [intOf]; omega
   case pos=>
   subst c20
   have HFA:Hid (F=A.app (.cons ⟨20,tx,nu,nm,ps⟩ k r)):=hA.out.1
   have HDU:Hid (chkL (F.app (.cons ⟨20,tx,nu,nm,ps⟩ k .nil))=(ps,10)):=by show _=_; rw [HFA.out]; exact chkL_dup rfl (by rw [← HFA.out]; exact HC0.out)
   have HFO:Hid (FoB (F.app (.cons ⟨20,tx,nu,nm,ps⟩ k .nil))):=by show FoB _; rw [HFA.out]; exact fob_dup (by rw [← HFA.out]; exact HFB.out)
   have HMX:Hid ((F.app (.cons ⟨20,tx,nu,nm,ps⟩ k .nil)).size+1≤Mx):=by
    have h1:=HWS.out
    have h2:k.size < F.size:=by rw [HFA.out]; exact Fo.kid_size A _ k r
    show _≤_
    rw [Fo.app_size]
    simp only [Fo.size]
    unfold Mx
    omega
   go_upto_region 13 with fail
   refine wp_region_held_drew (S:=fun _=>True) (by kernel_rfl) trivial (fun hS=>?_)
   have HBD:Hid (Below W.heap.size W wy.drew):=drewN_below HB4.out 1
   have HKD:Hid (Blk wy.drew KB 31 #[.int .i64 20,.string ⟨tx.toArray⟩,.int .i64 nu,.slice xn m cn,.slice xk k.len ck,.int .i64 ps]):=HKB.out.drew
   have HRD:Hid (FRow wy.drew (.slice (some ⟨b,off,none⟩) n c) F):=HR4.out.below (drewN_below (Below.refl _ _) 1)
   have HTD:Hid (NdV wy.drew #[.int .i64 20,.string ⟨tx.toArray⟩,.int .i64 nu,.slice xn m cn,.slice xk k.len ck,.int .i64 ps] (⟨20,tx,nu,nm,ps⟩,k)):=HND.out.sub (show CSub wy wy.drew from fun _ _ _ hc=>hc)
   clear hA HKB HND y0 y5
   generalize wy.drew=wd at*
   refine wpAnyH_take (i:=0) (oi:=⟨some 50,Op.move (Operand.tmp 3),22,_,_,none⟩) (v:=?vs1) rfl (by kernel_rfl) (by kernel_rfl) (by kernel_rfl) (fun _ _ _ h=>h) (Or.inl ⟨by rfl,?ys1⟩) hS ?rs1
   case ys1=>(intro w hSw; (try dsimp only at hSw); go_simp; try with_reducible rfl)
   try simp only [Act.put,zs1,zs2,zs3]
   refine wpAnyH_ready (rs:=[1,2]) (by kernel_rfl) (by simp) ?rs2
   refine AllReadyH.cons (o:=⟨some 51,Op.call { callee:=Callee.builtin Builtin.append,args:=#[Operand.const (Value.slice none 0 0),Operand.tmp 50],argTypes:=#[22,22] },22,_,_,none⟩) rfl (fun K hK=>?sas2) (AllReadyH.cons (o:=⟨some 52,Op.load 31 (Operand.tmp 10),31,_,_,none⟩) rfl (fun K hK=>?sbs2) AllReadyH.nil)
   case sas2=>
    refine pstep_appF el_syn (x:=some ⟨b,off,none⟩) (c:=c) HRD.out (by omega) (Nat.zero_le _) rfl rfl (by rfl) (by rfl) (by omega) ?_
    intro r1 cap1 w5 hk5 hb5 hr5
    refine hK.out _ _ trivial (fun _=>?_)
    clear hK K
    try simp only [Act.put,zs1,zs2,zs3]
    have HB5:=zH hb5
    have HKR:=zH hk5
    have HR5:=zH hr5
    have HK5B:Hid (Blk w5 KB 31 #[.int .i64 20,.string ⟨tx.toArray⟩,.int .i64 nu,.slice xn m cn,.slice xk k.len ck,.int .i64 ps]):=(hb5.block _ HKD.out.lt).trans HKD.out
    clear hb5 hk5 hr5
    refine wpAnyH_ready (rs:=[2]) (by kernel_rfl) (by simp) ?rs3
    refine AllReadyH.cons (o:=⟨some 52,Op.load 31 (Operand.tmp 10),31,_,_,none⟩) rfl (fun K hK=>?ss3) AllReadyH.nil
    refine pstep_load rfl 31 (.tmp 10) rfl KB (by rfl) 31 #[.int .i64 20,.string ⟨tx.toArray⟩,.int .i64 nu,.slice xn m cn,.slice xk k.len ck,.int .i64 ps] (0,0) _ (by exact HK5B.out) Tryz.underlying31 rfl (by exact syn_info) ?_
    refine hK.out _ _ trivial (fun _=>?_)
    clear hK K
    try simp only [Act.put,zs1,zs2,zs3]
    have hb51:=(Below.refl w5.heap.size w5).alloc (Nat.le_refl _) (.cells #[.int .i64 20,.string ⟨tx.toArray⟩,.int .i64 nu,.slice xn m cn,.slice xk k.len ck,.int .i64 ps] 31)
    have HBX:=zH (HB5.out.trans (hb51.mono HB5.out.size))
    have HK5:Hid (KRow (fun _=>true) (w5.alloc (.cells #[.int .i64 20,.string ⟨tx.toArray⟩,.int .i64 nu,.slice xn m cn,.slice xk k.len ck,.int .i64 ps] 31)) 0 (.slice (some ⟨r1,0,none⟩) n cap1) F):=HKR.out.keep fun k hk hS=>⟨rfl,hb51.block k hk⟩
    have HT5:Hid (NdV (maskW (fun k=>true&&decide ((.slice (some ⟨r1,0,none⟩) n cap1:Value).ownBlock≠some k)) (w5.alloc (.cells #[.int .i64 20,.string ⟨tx.toArray⟩,.int .i64 nu,.slice xn m cn,.slice xk k.len ck,.int .i64 ps] 31))) #[.int .i64 20,.string ⟨tx.toArray⟩,.int .i64 nu,.slice xn m cn,.slice xk k.len ck,.int .i64 ps] (⟨20,tx,nu,nm,ps⟩,k)):=HTD.out.sub (csub_below HBX.out fun k hk=>by have h1:=HR5.out; simp [Value.ownBlock]; omega)
    have HRG:Hid (wd.heap.size≤r1):=Nat.le_of_eq HR5.out.symm
    have HZ5:=zH (Blk.new w5 31 #[.int .i64 20,.string ⟨tx.toArray⟩,.int .i64 nu,.slice xn m cn,.slice xk k.len ck,.int .i64 ps])
    clear hb51 HB5 HKR HR5 HK5B
    refine wpAnyH_ready (rs:=[3]) (by kernel_rfl) (by simp) ?rs4
    refine AllReadyH.cons (o:=⟨some 53,Op.buildSlice 22 1 #[(0,Operand.tmp 52)],22,_,_,none⟩) rfl (fun K hK=>?ss4) AllReadyH.nil
    refine pstep_oneN el_syn rfl rfl (T:=#[.int .i64 20,.string ⟨tx.toArray⟩,.int .i64 nu,.slice xn m cn,.slice xk k.len ck,.int .i64 ps]) rfl (by rfl) ?_
    refine hK.out _ _ trivial (fun _=>?_)
    clear hK K
    try simp only [Act.put,zs1,zs2,zs3]
    generalize w5.alloc (.cells #[.int .i64 20,.string ⟨tx.toArray⟩,.int .i64 nu,.slice xn m cn,.slice xk k.len ck,.int .i64 ps] 31)=wx at*
    generalize w5.heap.size=KZ at*
    refine wpAnyH_ready (rs:=[4]) (by kernel_rfl) (by simp) ?rs5
    refine AllReadyH.cons (o:=⟨some 54,Op.call { callee:=Callee.builtin Builtin.append,args:=#[Operand.tmp 51,Operand.tmp 53],argTypes:=#[22,22] },22,_,_,none⟩) rfl (fun K hK=>?ss5) AllReadyH.nil
    refine pstep_appB (n:=n) el_syn HK5.out HL.out (fun _ _=>rfl) HT5.out (Nat.zero_le _) HZ5.out rfl rfl (by rfl) (by rfl) (by omega) (by unfold maxLen; omega) ?_
    intro r2 cap2 w6 hk6 hg6
    refine hK.out _ _ trivial (fun _=>?_)
    clear hK K
    try simp only [Act.put,zs1,zs2,zs3]
    have HB6:Hid (Below wd.heap.size wd w6):=below_grown HBX.out hg6 (r:=r1) rfl HRG.out HBX.out.size
    have HF6:Hid (FRow w6 (.slice (some ⟨r2,0,none⟩) (n+1) cap2) (F.app (.cons ⟨20,tx,nu,nm,ps⟩ k .nil))):=(hk6.frow).sub (unmask _ _)
    have HCQ:=zH (check_any _ _ w6 HF6.out HFO.out HMX.out)
    unfold chkV at HCQ
    rw [HDU.out] at HCQ
    clear hk6 hg6 HK5 HT5 HBX HRG HF6
    refine wpAnyH_ready (rs:=[5]) (by kernel_rfl) (by simp) ?rs6
    refine AllReadyH.cons (o:=⟨some 55,Op.call { callee:=Callee.value (Operand.func 8),args:=#[Operand.tmp 54],argTypes:=#[22] },24,_,_,none⟩) rfl (fun K hK=>?ss6) AllReadyH.nil
    go_simp
    refine HCQ.out.mono ?_
    rintro e w7 ⟨rfl,hb7⟩
    have HB7:=zH (HB6.out.trans (hb7.mono HB6.out.size))
    clear hb7 HCQ HB6
    refine hK.out _ _ trivial (fun _=>?_)
    clear hK K
    refine wpAnyH_take (i:=6) (oi:=⟨some 49,Op.move (Operand.tmp 55),24,_,_,none⟩) (v:=?vs7) rfl (by kernel_rfl) (by kernel_rfl) (by kernel_rfl) (fun _ _ _ h=>h) (Or.inl ⟨by rfl,?ys7⟩) hS ?rs7
    case ys7=>(intro w hSw; (try dsimp only at hSw); go_simp; try with_reducible rfl)
    try simp only [Act.put,zs1,zs2,zs3]
    refine wpAnyH_take (i:=7) (oi:=⟨some 56,Op.extract (Operand.tmp 49) 0,3,_,_,none⟩) (v:=?vs8) rfl (by kernel_rfl) (by kernel_rfl) (by kernel_rfl) (fun _ _ _ h=>h) (Or.inl ⟨by rfl,?ys8⟩) hS ?rs8
    case ys8=>(intro w hSw; (try dsimp only at hSw); go_simp; try with_reducible rfl)
    try simp only [Act.put,zs1,zs2,zs3]
    refine wpAnyH_take (i:=8) (oi:=⟨some 57,Op.extract (Operand.tmp 49) 1,23,_,_,none⟩) (v:=?vs9) rfl (by kernel_rfl) (by kernel_rfl) (by kernel_rfl) (fun _ _ _ h=>h) (Or.inl ⟨by rfl,?ys9⟩) hS ?rs9
    case ys9=>(intro w hSw; (try dsimp only at hSw); go_simp; try with_reducible rfl)
    try simp only [Act.put,zs1,zs2,zs3]
    refine wpAnyH_take (i:=9) (oi:=⟨some 11,Op.assign (Operand.tmp 56),3,_,_,none⟩) (v:=?vs10) rfl (by kernel_rfl) (by kernel_rfl) (by kernel_rfl) (fun _ _ _ h=>h) (Or.inl ⟨by rfl,?ys10⟩) hS ?rs10
    case ys10=>(intro w hSw; (try dsimp only at hSw); go_simp; try with_reducible rfl)
    try simp only [Act.put,zs1,zs2,zs3]
    refine wpAnyH_take (i:=10) (oi:=⟨some 12,Op.assign (Operand.tmp 57),23,_,_,none⟩) (v:=?vs11) rfl (by kernel_rfl) (by kernel_rfl) (by kernel_rfl) (fun _ _ _ h=>h) (Or.inl ⟨by rfl,?ys11⟩) hS ?rs11
    case ys11=>(intro w hSw; (try dsimp only at hSw); go_simp; try with_reducible rfl)
    try simp only [Act.put,zs1,zs2,zs3]
    refine wpAnyH_done (by kernel_rfl) ?_ _
    have HBZ:=zH (HBD.out.trans (HB7.out.mono HBD.out.size))
    have HRZ:=zH (HRD.out.below HB7.out)
    have HKZ:Hid (Blk w7 KB 31 #[.int .i64 20,.string ⟨tx.toArray⟩,.int .i64 nu,.slice xn m cn,.slice xk k.len ck,.int .i64 ps]):=(HB7.out.block _ HKD.out.lt).trans HKD.out
    have y5:w7.cell? ⟨KB,5,none⟩=some (.int .i64 ps):=HKZ.out.cell 5
    clear HB7 HBD HRD HKD HTD
    go_wp2_with fail
    go_roundw
    case rel=>exact ⟨i+1,_,r,by go_num,by omega,by rw [HN2.out],HNX,HBZ.out,HRZ.out⟩
    case measure=>simp [intOf]; omega
   case sbs2=>
    refine pstep_load rfl 31 (.tmp 10) rfl KB (by rfl) 31 #[.int .i64 20,.string ⟨tx.toArray⟩,.int .i64 nu,.slice xn m cn,.slice xk k.len ck,.int .i64 ps] (0,0) _ (by exact HKD.out) Tryz.underlying31 rfl (by exact syn_info) ?_
    refine hK.out _ _ trivial (fun _=>?_)
    clear hK K
    try simp only [Act.put,zs1,zs2,zs3]
    refine wpAnyH_ready (rs:=[1,3]) (by kernel_rfl) (by simp) ?rs12
    refine AllReadyH.cons (o:=⟨some 51,Op.call { callee:=Callee.builtin Builtin.append,args:=#[Operand.const (Value.slice none 0 0),Operand.tmp 50],argTypes:=#[22,22] },22,_,_,none⟩) rfl (fun K hK=>?sas12) (AllReadyH.cons (o:=⟨some 53,Op.buildSlice 22 1 #[(0,Operand.tmp 52)],22,_,_,none⟩) rfl (fun K hK=>?sbs12) AllReadyH.nil)
    case sas12=>
     refine pstep_appF el_syn (x:=some ⟨b,off,none⟩) (c:=c) HRD.out (by omega) (Nat.zero_le _) rfl rfl (by rfl) (by rfl) (by omega) ?_
     intro r1 cap1 w5 hk5 hb5 hr5
     refine hK.out _ _ trivial (fun _=>?_)
     clear hK K
     try simp only [Act.put,zs1,zs2,zs3]
     have HB5:=zH hb5
     have HKR:=zH hk5
     have HR5:=zH hr5
     have HK5B:Hid (Blk w5 KB 31 #[.int .i64 20,.string ⟨tx.toArray⟩,.int .i64 nu,.slice xn m cn,.slice xk k.len ck,.int .i64 ps]):=(hb5.block _ HKD.out.lt).trans HKD.out
     clear hb5 hk5 hr5
     have hb51:=(Below.refl w5.heap.size w5).alloc (Nat.le_refl _) (.cells #[.int .i64 20,.string ⟨tx.toArray⟩,.int .i64 nu,.slice xn m cn,.slice xk k.len ck,.int .i64 ps] 31)
     have HBX:=zH (HB5.out.trans (hb51.mono HB5.out.size))
     have HK5:Hid (KRow (fun _=>true) (w5.alloc (.cells #[.int .i64 20,.string ⟨tx.toArray⟩,.int .i64 nu,.slice xn m cn,.slice xk k.len ck,.int .i64 ps] 31)) 0 (.slice (some ⟨r1,0,none⟩) n cap1) F):=HKR.out.keep fun k hk hS=>⟨rfl,hb51.block k hk⟩
     have HT5:Hid (NdV (maskW (fun k=>true&&decide ((.slice (some ⟨r1,0,none⟩) n cap1:Value).ownBlock≠some k)) (w5.alloc (.cells #[.int .i64 20,.string ⟨tx.toArray⟩,.int .i64 nu,.slice xn m cn,.slice xk k.len ck,.int .i64 ps] 31))) #[.int .i64 20,.string ⟨tx.toArray⟩,.int .i64 nu,.slice xn m cn,.slice xk k.len ck,.int .i64 ps] (⟨20,tx,nu,nm,ps⟩,k)):=HTD.out.sub (csub_below HBX.out fun k hk=>by have h1:=HR5.out; simp [Value.ownBlock]; omega)
     have HRG:Hid (wd.heap.size≤r1):=Nat.le_of_eq HR5.out.symm
     have HZ5:=zH (Blk.new w5 31 #[.int .i64 20,.string ⟨tx.toArray⟩,.int .i64 nu,.slice xn m cn,.slice xk k.len ck,.int .i64 ps])
     clear hb51 HB5 HKR HR5 HK5B
     refine wpAnyH_ready (rs:=[3]) (by kernel_rfl) (by simp) ?rs13
     refine AllReadyH.cons (o:=⟨some 53,Op.buildSlice 22 1 #[(0,Operand.tmp 52)],22,_,_,none⟩) rfl (fun K hK=>?ss13) AllReadyH.nil
     refine pstep_oneN el_syn rfl rfl (T:=#[.int .i64 20,.string ⟨tx.toArray⟩,.int .i64 nu,.slice xn m cn,.slice xk k.len ck,.int .i64 ps]) rfl (by rfl) ?_
     refine hK.out _ _ trivial (fun _=>?_)
     clear hK K
     try simp only [Act.put,zs1,zs2,zs3]
     generalize w5.alloc (.cells #[.int .i64 20,.string ⟨tx.toArray⟩,.int .i64 nu,.slice xn m cn,.slice xk k.len ck,.int .i64 ps] 31)=wx at*
     generalize w5.heap.size=KZ at*
     refine wpAnyH_ready (rs:=[4]) (by kernel_rfl) (by simp) ?rs14
     refine AllReadyH.cons (o:=⟨some 54,Op.call { callee:=Callee.builtin Builtin.append,args:=#[Operand.tmp 51,Operand.tmp 53],argTypes:=#[22,22] },22,_,_,none⟩) rfl (fun K hK=>?ss14) AllReadyH.nil
     refine pstep_appB (n:=n) el_syn HK5.out HL.out (fun _ _=>rfl) HT5.out (Nat.zero_le _) HZ5.out rfl rfl (by rfl) (by rfl) (by omega) (by unfold maxLen; omega) ?_
     intro r2 cap2 w6 hk6 hg6
     refine hK.out _ _ trivial (fun _=>?_)
     clear hK K
     try simp only [Act.put,zs1,zs2,zs3]
     have HB6:Hid (Below wd.heap.size wd w6):=below_grown HBX.out hg6 (r:=r1) rfl HRG.out HBX.out.size
     have HF6:Hid (FRow w6 (.slice (some ⟨r2,0,none⟩) (n+1) cap2) (F.app (.cons ⟨20,tx,nu,nm,ps⟩ k .nil))):=(hk6.frow).sub (unmask _ _)
     have HCQ:=zH (check_any _ _ w6 HF6.out HFO.out HMX.out)
     unfold chkV at HCQ
     rw [HDU.out] at HCQ
     clear hk6 hg6 HK5 HT5 HBX HRG HF6
     refine wpAnyH_ready (rs:=[5]) (by kernel_rfl) (by simp) ?rs15
     refine AllReadyH.cons (o:=⟨some 55,Op.call { callee:=Callee.value (Operand.func 8),args:=#[Operand.tmp 54],argTypes:=#[22] },24,_,_,none⟩) rfl (fun K hK=>?ss15) AllReadyH.nil
     go_simp
     refine HCQ.out.mono ?_
     rintro e w7 ⟨rfl,hb7⟩
     have HB7:=zH (HB6.out.trans (hb7.mono HB6.out.size))
     clear hb7 HCQ HB6
     refine hK.out _ _ trivial (fun _=>?_)
     clear hK K
     refine wpAnyH_take (i:=6) (oi:=⟨some 49,Op.move (Operand.tmp 55),24,_,_,none⟩) (v:=?vs16) rfl (by kernel_rfl) (by kernel_rfl) (by kernel_rfl) (fun _ _ _ h=>h) (Or.inl ⟨by rfl,?ys16⟩) hS ?rs16
     case ys16=>(intro w hSw; (try dsimp only at hSw); go_simp; try with_reducible rfl)
     try simp only [Act.put,zs1,zs2,zs3]
     refine wpAnyH_take (i:=7) (oi:=⟨some 56,Op.extract (Operand.tmp 49) 0,3,_,_,none⟩) (v:=?vs17) rfl (by kernel_rfl) (by kernel_rfl) (by kernel_rfl) (fun _ _ _ h=>h) (Or.inl ⟨by rfl,?ys17⟩) hS ?rs17
     case ys17=>(intro w hSw; (try dsimp only at hSw); go_simp; try with_reducible rfl)
     try simp only [Act.put,zs1,zs2,zs3]
     refine wpAnyH_take (i:=8) (oi:=⟨some 57,Op.extract (Operand.tmp 49) 1,23,_,_,none⟩) (v:=?vs18) rfl (by kernel_rfl) (by kernel_rfl) (by kernel_rfl) (fun _ _ _ h=>h) (Or.inl ⟨by rfl,?ys18⟩) hS ?rs18
     case ys18=>(intro w hSw; (try dsimp only at hSw); go_simp; try with_reducible rfl)
     try simp only [Act.put,zs1,zs2,zs3]
     refine wpAnyH_take (i:=9) (oi:=⟨some 11,Op.assign (Operand.tmp 56),3,_,_,none⟩) (v:=?vs19) rfl (by kernel_rfl) (by kernel_rfl) (by kernel_rfl) (fun _ _ _ h=>h) (Or.inl ⟨by rfl,?ys19⟩) hS ?rs19
     case ys19=>(intro w hSw; (try dsimp only at hSw); go_simp; try with_reducible rfl)
     try simp only [Act.put,zs1,zs2,zs3]
     refine wpAnyH_take (i:=10) (oi:=⟨some 12,Op.assign (Operand.tmp 57),23,_,_,none⟩) (v:=?vs20) rfl (by kernel_rfl) (by kernel_rfl) (by kernel_rfl) (fun _ _ _ h=>h) (Or.inl ⟨by rfl,?ys20⟩) hS ?rs20
     case ys20=>(intro w hSw; (try dsimp only at hSw); go_simp; try with_reducible rfl)
     try simp only [Act.put,zs1,zs2,zs3]
     refine wpAnyH_done (by kernel_rfl) ?_ _
     have HBZ:=zH (HBD.out.trans (HB7.out.mono HBD.out.size))
     have HRZ:=zH (HRD.out.below HB7.out)
     have HKZ:Hid (Blk w7 KB 31 #[.int .i64 20,.string ⟨tx.toArray⟩,.int .i64 nu,.slice xn m cn,.slice xk k.len ck,.int .i64 ps]):=(HB7.out.block _ HKD.out.lt).trans HKD.out
     have y5:w7.cell? ⟨KB,5,none⟩=some (.int .i64 ps):=HKZ.out.cell 5
     clear HB7 HBD HRD HKD HTD
     go_wp2_with fail
     go_roundw
     case rel=>exact ⟨i+1,_,r,by go_num,by omega,by rw [HN2.out],HNX,HBZ.out,HRZ.out⟩
     case measure=>simp [intOf]; omega
    case sbs12=>
     refine pstep_oneN el_syn rfl rfl (T:=#[.int .i64 20,.string ⟨tx.toArray⟩,.int .i64 nu,.slice xn m cn,.slice xk k.len ck,.int .i64 ps]) rfl (by rfl) ?_
     refine hK.out _ _ trivial (fun _=>?_)
     clear hK K
     try simp only [Act.put,zs1,zs2,zs3]
     have hbz:=(Below.refl wd.heap.size wd).alloc (Nat.le_refl _) (.cells #[.int .i64 20,.string ⟨tx.toArray⟩,.int .i64 nu,.slice xn m cn,.slice xk k.len ck,.int .i64 ps] 31)
     have HBQ:=zH hbz
     have HRQ:=zH (HRD.out.below hbz)
     have HZQ:=zH (Blk.new wd 31 #[.int .i64 20,.string ⟨tx.toArray⟩,.int .i64 nu,.slice xn m cn,.slice xk k.len ck,.int .i64 ps])
     have HSQ:Hid ((wd.alloc (.cells #[.int .i64 20,.string ⟨tx.toArray⟩,.int .i64 nu,.slice xn m cn,.slice xk k.len ck,.int .i64 ps] 31)).heap.size=wd.heap.size+1):=by show _=_; simp
     clear hbz
     generalize wd.alloc (.cells #[.int .i64 20,.string ⟨tx.toArray⟩,.int .i64 nu,.slice xn m cn,.slice xk k.len ck,.int .i64 ps] 31)=wq at*
     obtain ⟨KZ,hKZ⟩:∃KZ,wd.heap.size=KZ:=⟨_,rfl⟩
     rw [hKZ] at HZQ HSQ ⊢
     refine wpAnyH_ready (rs:=[1]) (by kernel_rfl) (by simp) ?rs21
     refine AllReadyH.cons (o:=⟨some 51,Op.call { callee:=Callee.builtin Builtin.append,args:=#[Operand.const (Value.slice none 0 0),Operand.tmp 50],argTypes:=#[22,22] },22,_,_,none⟩) rfl (fun K hK=>?ss21) AllReadyH.nil
     refine pstep_appF el_syn (x:=some ⟨b,off,none⟩) (c:=c) HRQ.out (by omega) (Nat.zero_le _) rfl rfl (by rfl) (by rfl) (by omega) ?_
     intro r1 cap1 w5 hk5 hb5 hr5
     refine hK.out _ _ trivial (fun _=>?_)
     clear hK K
     try simp only [Act.put,zs1,zs2,zs3]
     have HBX:Hid (Below wd.heap.size wd w5):=HBQ.out.trans (hb5.mono (by have h1:=HSQ.out; omega))
     have HK5:=zH hk5
     have HT5:Hid (NdV (maskW (fun k=>true&&decide ((.slice (some ⟨r1,0,none⟩) n cap1:Value).ownBlock≠some k)) w5) #[.int .i64 20,.string ⟨tx.toArray⟩,.int .i64 nu,.slice xn m cn,.slice xk k.len ck,.int .i64 ps] (⟨20,tx,nu,nm,ps⟩,k)):=HTD.out.sub (csub_below HBX.out fun k hk=>by have h1:=HSQ.out; have h2:=hr5; simp [Value.ownBlock]; omega)
     have HRG:Hid (wd.heap.size≤r1):=by have h1:=HSQ.out; have h2:=hr5; show _≤_; omega
     have HZ5:Hid (Blk w5 KZ 31 #[.int .i64 20,.string ⟨tx.toArray⟩,.int .i64 nu,.slice xn m cn,.slice xk k.len ck,.int .i64 ps]):=(hb5.block _ HZQ.out.lt).trans HZQ.out
     clear hb5 hk5 hr5 HBQ HRQ HZQ HSQ hKZ
     refine wpAnyH_ready (rs:=[4]) (by kernel_rfl) (by simp) ?rs22
     refine AllReadyH.cons (o:=⟨some 54,Op.call { callee:=Callee.builtin Builtin.append,args:=#[Operand.tmp 51,Operand.tmp 53],argTypes:=#[22,22] },22,_,_,none⟩) rfl (fun K hK=>?ss22) AllReadyH.nil
     refine pstep_appB (n:=n) el_syn HK5.out HL.out (fun _ _=>rfl) HT5.out (Nat.zero_le _) HZ5.out rfl rfl (by rfl) (by rfl) (by omega) (by unfold maxLen; omega) ?_
     intro r2 cap2 w6 hk6 hg6
     refine hK.out _ _ trivial (fun _=>?_)
     clear hK K
     try simp only [Act.put,zs1,zs2,zs3]
     have HB6:Hid (Below wd.heap.size wd w6):=below_grown HBX.out hg6 (r:=r1) rfl HRG.out HBX.out.size
     have HF6:Hid (FRow w6 (.slice (some ⟨r2,0,none⟩) (n+1) cap2) (F.app (.cons ⟨20,tx,nu,nm,ps⟩ k .nil))):=(hk6.frow).sub (unmask _ _)
     have HCQ:=zH (check_any _ _ w6 HF6.out HFO.out HMX.out)
     unfold chkV at HCQ
     rw [HDU.out] at HCQ
     clear hk6 hg6 HK5 HT5 HBX HRG HF6
     refine wpAnyH_ready (rs:=[5]) (by kernel_rfl) (by simp) ?rs23
     refine AllReadyH.cons (o:=⟨some 55,Op.call { callee:=Callee.value (Operand.func 8),args:=#[Operand.tmp 54],argTypes:=#[22] },24,_,_,none⟩) rfl (fun K hK=>?ss23) AllReadyH.nil
     go_simp
     refine HCQ.out.mono ?_
     rintro e w7 ⟨rfl,hb7⟩
     have HB7:=zH (HB6.out.trans (hb7.mono HB6.out.size))
     clear hb7 HCQ HB6
     refine hK.out _ _ trivial (fun _=>?_)
     clear hK K
     refine wpAnyH_take (i:=6) (oi:=⟨some 49,Op.move (Operand.tmp 55),24,_,_,none⟩) (v:=?vs24) rfl (by kernel_rfl) (by kernel_rfl) (by kernel_rfl) (fun _ _ _ h=>h) (Or.inl ⟨by rfl,?ys24⟩) hS ?rs24
     case ys24=>(intro w hSw; (try dsimp only at hSw); go_simp; try with_reducible rfl)
     try simp only [Act.put,zs1,zs2,zs3]
     refine wpAnyH_take (i:=7) (oi:=⟨some 56,Op.extract (Operand.tmp 49) 0,3,_,_,none⟩) (v:=?vs25) rfl (by kernel_rfl) (by kernel_rfl) (by kernel_rfl) (fun _ _ _ h=>h) (Or.inl ⟨by rfl,?ys25⟩) hS ?rs25
     case ys25=>(intro w hSw; (try dsimp only at hSw); go_simp; try with_reducible rfl)
     try simp only [Act.put,zs1,zs2,zs3]
     refine wpAnyH_take (i:=8) (oi:=⟨some 57,Op.extract (Operand.tmp 49) 1,23,_,_,none⟩) (v:=?vs26) rfl (by kernel_rfl) (by kernel_rfl) (by kernel_rfl) (fun _ _ _ h=>h) (Or.inl ⟨by rfl,?ys26⟩) hS ?rs26
     case ys26=>(intro w hSw; (try dsimp only at hSw); go_simp; try with_reducible rfl)
     try simp only [Act.put,zs1,zs2,zs3]
     refine wpAnyH_take (i:=9) (oi:=⟨some 11,Op.assign (Operand.tmp 56),3,_,_,none⟩) (v:=?vs27) rfl (by kernel_rfl) (by kernel_rfl) (by kernel_rfl) (fun _ _ _ h=>h) (Or.inl ⟨by rfl,?ys27⟩) hS ?rs27
     case ys27=>(intro w hSw; (try dsimp only at hSw); go_simp; try with_reducible rfl)
     try simp only [Act.put,zs1,zs2,zs3]
     refine wpAnyH_take (i:=10) (oi:=⟨some 12,Op.assign (Operand.tmp 57),23,_,_,none⟩) (v:=?vs28) rfl (by kernel_rfl) (by kernel_rfl) (by kernel_rfl) (fun _ _ _ h=>h) (Or.inl ⟨by rfl,?ys28⟩) hS ?rs28
     case ys28=>(intro w hSw; (try dsimp only at hSw); go_simp; try with_reducible rfl)
     try simp only [Act.put,zs1,zs2,zs3]
     refine wpAnyH_done (by kernel_rfl) ?_ _
     have HBZ:=zH (HBD.out.trans (HB7.out.mono HBD.out.size))
     have HRZ:=zH (HRD.out.below HB7.out)
     have HKZ:Hid (Blk w7 KB 31 #[.int .i64 20,.string ⟨tx.toArray⟩,.int .i64 nu,.slice xn m cn,.slice xk k.len ck,.int .i64 ps]):=(HB7.out.block _ HKD.out.lt).trans HKD.out
     have y5:w7.cell? ⟨KB,5,none⟩=some (.int .i64 ps):=HKZ.out.cell 5
     clear HB7 HBD HRD HKD HTD
     go_wp2_with fail
     go_roundw
     case rel=>exact ⟨i+1,_,r,by go_num,by omega,by rw [HN2.out],HNX,HBZ.out,HRZ.out⟩
     case measure=>simp [intOf]; omega
end Go.Proofs.YtbaidkefobhipaaGreatDoor
