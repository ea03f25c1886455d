/-
  Walk: the checker's statement. (Printed by gen_cb4.py.)
-/
import Derived.Test.YtbaidkefobhipaaGreatDoorZS24
namespace Go.Proofs.YtbaidkefobhipaaGreatDoor
set_option maxHeartbeats 32000000
set_option maxRecDepth 100000
open Go.RowKit

theorem FRow.node0 {w:World} {x:Option Addr} {n c:Nat} {h:Hd} {k r:Fo} (hf:FRow w (.slice x n c) (.cons h k r)):
  ∃b off xn cn xk ck,x=some ⟨b,off,none⟩∧b < w.heap.size∧(w.cell? ⟨b,off,none⟩=some (.int .i64 h.kind)∧w.cell? ⟨b,off+1,none⟩=some (.string ⟨h.text.toArray⟩)∧w.cell? ⟨b,off+2,none⟩=some (.int .i64 h.num)∧
   w.cell? ⟨b,off+3,none⟩=some (.slice xn h.names.length cn)∧w.cell? ⟨b,off+4,none⟩=some (.slice xk k.len ck)∧w.cell? ⟨b,off+5,none⟩=some (.int .i64 h.pos))∧FRow w (.slice xk k.len ck) k:=by
 obtain ⟨b,off,xn,cn,xk,ck,rfl,⟨k0,k1,k2,k3,k4,k5⟩,hn1,hk1⟩:=FRow.node (A:=.nil) hf
 simp only [Fo.len,Nat.zero_mul,Nat.add_zero] at k0 k1 k2 k3 k4 k5;exact ⟨b,off,xn,cn,xk,ck,rfl,World.block_lt_of_cell? w _ k0,⟨k0,k1,k2,k3,k4,k5⟩,hk1⟩

theorem st_step (w0:World) (N:Nat) (hst:StOk w0 N) (hbl:BlOk w0 (N+1)):StOk w0 (N+1):=by
 intro h k p xn xk cn ck w C s v bs fb hN hsn hnr hxr hbw hck hlo hbs hne;have hlp:=loop_step w0 N (hbl.less (Nat.le_succ N));have hfn:=fn_step w0 N (hbl.less (Nat.le_succ N));have HST:=zH hst;have HBL:=zH hbl;have HLP:=zH hlp;have HFN:=zH hfn;have HN:=zH hN;have HSN:=zH hsn;have HLO:=zH hlo;have HBS:=zH hbs;have HNR:=zH hnr;have HXR:=zH hxr;obtain ⟨B,hB⟩:∃B,w0.heap.size=B:=⟨_,rfl⟩;have HB:=zH hB
 have HBle:Hid (B≤w.heap.size):=by rw [← hB]; exact hbw.size
 rw [hB] at hbw hck ⊢;have HBWW:=zH hbw;obtain ⟨nb,bs,rfl⟩:∃nb t,bs=nb::t:=by
  cases bs with
  | nil=>exact absurd rfl hne
  | cons a t=>exact ⟨a,t,rfl⟩
 have hsh:=hck.shape
 obtain ⟨vx,vc,rfl,hv1,hv2,-⟩:=hsh
 generalize hqq:(nb::bs).length=qv at hck hv1 ⊢;have HQQ:=zH hqq;have HCK:=zH hck;have HBle2:=HBle;unfold maxLen at hv2;obtain ⟨RR,hRR⟩:∃RR,stD p s h k=RR:=⟨_,rfl⟩;rw [hRR];have hba:=(Below.refl w.heap.size w).alloc (Nat.le_refl _) (.cells (ndV h (.slice xn h.names.length cn) (.slice xk k.len ck)) 31);have HKB:=zH (Blk.new w 31 (ndV h (.slice xn h.names.length cn) (.slice xk k.len ck)))
 have HC:=zH (hck.below hba)
 have HCH:=zH (Ch.of_below (C:=C) (v:=.slice vx qv vc) (bs:=nb::bs) (fb:=fb) hba)
 have HBW:=zH (hbw.trans (hba.mono HBle.out))
 have HF:=zH (fun x w'=>cfail_any x (.pointer (some ⟨C,0,none⟩)) h xn xk cn ck k.len w')
 have hkd2:=st_kind hsn
 have HSZ:Hid (w.heap.size≤w.heap.size):=Nat.le_refl _
 clear hst hbl hlp hfn hN hsn hnr hxr hlo hbs hne hB hba hbw hqq;have hne:True:=trivial;obtain ⟨kd,tx,nu,nm,ps⟩:=h;unfold stD at hRR;simp only at hRR HNR HKB HF hkd2 ⊢;have HRR:=zH hRR;clear hRR;unfold ndV at HKB HC HCH HBW HF ⊢;simp only at HC HCH HBW;go_enter Tryz.func37,Tryz.ntmps37;go_upto_region 1 with fail
 generalize w.alloc (.cells #[.int .i64 kd,.string ⟨tx.toArray⟩,.int .i64 nu,.slice xn nm.length cn,.slice xk k.len ck,.int .i64 ps] 31)=wz at*;generalize hKBe:w.heap.size=KB at*;have HKE:=zH hKBe;clear hKBe hck;have y0:wz.cell? ⟨KB,0,none⟩=some (.int .i64 kd):=HKB.out.cell 0;have y1:wz.cell? ⟨KB,1,none⟩=some (.string ⟨tx.toArray⟩):=HKB.out.cell 1
 have y2:wz.cell? ⟨KB,2,none⟩=some (.int .i64 nu):=HKB.out.cell 2
 have y3:wz.cell? ⟨KB,3,none⟩=some (.slice xn nm.length cn):=HKB.out.cell 3
 have y4:wz.cell? ⟨KB,4,none⟩=some (.slice xk k.len ck):=HKB.out.cell 4
 have y5:wz.cell? ⟨KB,5,none⟩=some (.int .i64 ps):=HKB.out.cell 5
 rcases (by omega:kd=20∨kd=21∨kd=22∨kd=23∨kd=24∨kd=25∨kd=26∨kd=27∨kd=28∨kd=29) with hkd | hkd | hkd | hkd | hkd | hkd | hkd | hkd | hkd | hkd
 ·-- 20
  obtain rfl:kd=20:=hkd
  clear hkd2 hne;obtain ⟨h0,k0,rfl⟩:=st_one HSN.out (by simp)
  obtain ⟨b0,off,xn0,cn0,xk0,ck0,rfl,hb0,⟨z0,z1,z2,z3,z4,z5⟩,hk0⟩:=HXR.out.node0
  have trz:∀o u,w0.cell? ⟨b0,o,none⟩=some u→wz.cell? ⟨b0,o,none⟩=some u:=fun o u h=>(HBW.out.cell (p:=⟨b0,o,none⟩) (by rw [← HB.out]; exact hb0)).trans h
  replace z0:=trz _ _ z0
  replace z1:=trz _ _ z1
  replace z2:=trz _ _ z2
  replace z3:=trz _ _ z3
  replace z4:=trz _ _ z4
  replace z5:=trz _ _ z5
  have HTZ:=zH trz
  have HX:=zH (expr1_any h0 k0 xn0 xk0 cn0 ck0 wz HC.out (hk0.below (by rw [HB.out]; exact HBW.out)))
  have HHK:=zH hk0
  have HB0:=zH hb0
  clear hk0 hb0 trz;unfold ndV at HX;simp only [Fo.len,Nat.zero_add] at y4 HKB HF z4 HX;have HRR2:Hid ((exD s.ss h0 k0).then (fun _=>if tx∈s.ss.headD [] then (.error (ps,10):CE CS) else .ok (s.decl tx))=RR):=by show _=_; rw [← HRR.out,if_pos rfl,exC_one]
  clear HRR;rcases hq:exD s.ss h0 k0 with y | u
  ·rw [hq] at HX
   have HRE:Hid (RR=.error y):=by show _=_; rw [← HRR2.out,hq]; rfl
   clear hq;go_wp2_with fail;refine HX.out.mono ?_;rintro e w9 ⟨rfl,hb9⟩;have HCH9:=zH (HCH.out.step hb9);clear hb9;go_wp2_with fail;exact ⟨rfl,CkR.bad HRE.out HCH9.out rfl⟩
  rw [hq] at HX;have HEQ:=zH hq;clear hq;go_wp2_with fail;refine HX.out.mono ?_;rintro e w2 ⟨rfl,hb9⟩;have HC2:=zH (HC.out.below hb9);have HCH2:=zH (HCH.out.step hb9);have HBW2:=zH (HBW.out.trans (hb9.mono (by have h1:=HBW.out.size; rw [HB.out] at h1; exact h1)))
  have HKB2:Hid (Blk w2 KB 31 #[.int .i64 20,.string ⟨tx.toArray⟩,.int .i64 nu,.slice xn nm.length cn,.slice (some ⟨b0,off,none⟩) 1 ck,.int .i64 ps]):=(hb9.block _ HKB.out.lt).trans HKB.out
  clear HC HCH HBW HKB y0 y1 y2 y3 y4 y5;have HC:=HC2;have HCH:=HCH2;have HBW:=HBW2;have HKB:=HKB2;clear HC2 HCH2 HBW2 HKB2;have y0:w2.cell? ⟨KB,0,none⟩=some (.int .i64 20):=HKB.out.cell 0;have y1:w2.cell? ⟨KB,1,none⟩=some (.string ⟨tx.toArray⟩):=HKB.out.cell 1;have y2:w2.cell? ⟨KB,2,none⟩=some (.int .i64 nu):=HKB.out.cell 2
  have y3:w2.cell? ⟨KB,3,none⟩=some (.slice xn nm.length cn):=HKB.out.cell 3
  have y4:w2.cell? ⟨KB,4,none⟩=some (.slice (some ⟨b0,off,none⟩) 1 ck):=HKB.out.cell 4
  have y5:w2.cell? ⟨KB,5,none⟩=some (.int .i64 ps):=HKB.out.cell 5
  clear hb9 HX;have HRR3:Hid ((if tx∈s.ss.headD [] then (.error (ps,10):CE CS) else .ok (s.decl tx))=RR):=by show _=_; rw [← HRR2.out,HEQ.out]; rfl
  clear HRR2 HEQ z0 z1 z2 z3 z4 z5;obtain ⟨l,ls,hls⟩:∃l ls,s.ss=l::ls:=by
   have h1:=HC.out.sets
   cases hs:s.ss with
   | nil=>rw [hs] at h1; exact h1.elim
   | cons l ls=>exact ⟨l,ls,rfl⟩
  have HLS:=zH hls
  have hsets:=HC.out.sets
  rw [hls] at hsets;have HSA:=zH hsets.1;rw [hls] at HRR3;clear hls hsets;simp only [List.headD_cons] at HRR3;have k0c:w2.cell? ⟨C,0,none⟩=some (.slice vx qv vc):=HC.out.blk.cell 0;obtain ⟨x',c',hvv,-,-,hnil,hsm⟩:=HC.out.shape;obtain ⟨q,hq⟩:∃q,bs.length=q:=⟨_,rfl⟩;obtain rfl:qv=q+1:=by rw [← HQQ.out,List.length_cons,hq]
  injection hvv with e1 e2 e3
  subst e1 e3;clear e2;obtain ⟨ra,rfl⟩:∃a,vx=some a:=by
   cases vx with
   | none=>exact absurd (hnil rfl).2 (by simp)
   | some a=>exact ⟨a,rfl⟩
  obtain ⟨gr,rfl,hrow⟩:=hsm ra rfl
  have rcell:w2.cell? ⟨gr,q,none⟩=some (.map (some nb)):=by
   have h1:=hrow q (by rw [List.length_cons,hq]; omega)
   rw [h1];have:(nb::bs).reverse[q]'(by simp [hq])=nb:=by
    rw [List.getElem_reverse];simp [hq]
   rw [this];rfl
  clear hrow hsm hnil hq;have hwq:IntKind.i64.wrap (q:Int)=(q:Int):=by rw [IntKind.wrap_i64]; omega
  have hq0:(0:Int)≤(q:Int)∧(q:Int) < (q:Int)+1:=by omega
  go_upto_region 4 with fail
  go_region_law fail
  all_goals
   have HC3:Hid (CkW B w2.drew C s (.slice (some ⟨gr,0,none⟩) (q+1) vc) (nb::bs) fb):=HC.out.keep fun _ _=>rfl
   have HCH3:=zH HCH.out.drew
   have HKB3:Hid (Blk w2.drew KB 31 #[.int .i64 20,.string ⟨tx.toArray⟩,.int .i64 nu,.slice xn nm.length cn,.slice (some ⟨b0,off,none⟩) 1 ck,.int .i64 ps]):=HKB.out
   have HSA3:Hid (SetAt w2.drew nb l):=HSA.out
   clear HC HCH HKB HSA HBW y0 y1 y2 y3 y4 y5 k0c rcell hwq hq0;generalize w2.drew=w3 at*;have HC:=HC3;have HCH:=HCH3;have HKB:=HKB3;have HSA:=HSA3;clear HC3 HCH3 HKB3 HSA3;have y0:w3.cell? ⟨KB,0,none⟩=some (.int .i64 20):=HKB.out.cell 0;have y1:w3.cell? ⟨KB,1,none⟩=some (.string ⟨tx.toArray⟩):=HKB.out.cell 1;have y2:w3.cell? ⟨KB,2,none⟩=some (.int .i64 nu):=HKB.out.cell 2
   have y3:w3.cell? ⟨KB,3,none⟩=some (.slice xn nm.length cn):=HKB.out.cell 3
   have y4:w3.cell? ⟨KB,4,none⟩=some (.slice (some ⟨b0,off,none⟩) 1 ck):=HKB.out.cell 4
   have y5:w3.cell? ⟨KB,5,none⟩=some (.int .i64 ps):=HKB.out.cell 5
   by_cases hd:tx∈l
   ·have HRE:Hid (RR=.error (ps,10)):=by show _=_; rw [← HRR3.out]; simp [hd]
    have hd2:decide (tx∈l)=true:=decide_eq_true hd
    clear hd;go_upto_region 6 with (first | (at_lookup; refine wpList_lookup_set rfl _ _ rfl nb l tx rfl rfl HSA.out ?_; rw [hd2]) | fail)
    go_wp2_with fail;refine (HF.out 10 w3).mono ?_;rintro e w9 ⟨rfl,hb9⟩;have HCH9:=zH (HCH.out.step hb9);clear hb9;go_wp2_with fail;exact ⟨rfl,CkR.bad HRE.out HCH9.out rfl⟩
   ·have HRE:Hid (RR=.ok (s.decl tx)):=by show _=_; rw [← HRR3.out]; simp [hd]
    have hd2:decide (tx∈l)=false:=decide_eq_false hd
    clear hd;go_upto_region 7 with (first | (at_lookup; refine wpList_lookup_set rfl _ _ rfl nb l tx rfl rfl HSA.out ?_; rw [hd2]) | fail)
    go_wp2_with (first | (at_mapUpdate; refine wpList_mapUpdate_set rfl _ _ _ rfl nb l tx rfl rfl rfl HSA.out ?_; intro w4 hs4 hg4) | fail)
    have HC4:=zH (HC.out.declare HLS.out hs4 hg4)
    have HCH4:=zH (HCH.out.declare hg4)
    clear hs4 hg4;go_wp2_with fail;refine bodyPost_ret (results_none rfl _ _ _) rfl ?_;exact CkR.good HRE.out HCH4.out rfl HC4.out (fun g hg=>Or.inl hg)
 ·-- 21
  obtain rfl:kd=21:=hkd
  clear hkd2 hne;obtain ⟨h0,k0,rfl⟩:=st_one HSN.out (by simp)
  obtain ⟨b0,off,xn0,cn0,xk0,ck0,rfl,hb0,⟨z0,z1,z2,z3,z4,z5⟩,hk0⟩:=HXR.out.node0
  have trz:∀o u,w0.cell? ⟨b0,o,none⟩=some u→wz.cell? ⟨b0,o,none⟩=some u:=fun o u h=>(HBW.out.cell (p:=⟨b0,o,none⟩) (by rw [← HB.out]; exact hb0)).trans h
  replace z0:=trz _ _ z0
  replace z1:=trz _ _ z1
  replace z2:=trz _ _ z2
  replace z3:=trz _ _ z3
  replace z4:=trz _ _ z4
  replace z5:=trz _ _ z5
  have HTZ:=zH trz
  have HX:=zH (expr1_any h0 k0 xn0 xk0 cn0 ck0 wz HC.out (hk0.below (by rw [HB.out]; exact HBW.out)))
  have HHK:=zH hk0
  have HB0:=zH hb0
  clear hk0 hb0 trz;unfold ndV at HX;simp only [Fo.len,Nat.zero_add] at y4 HKB HF z4 HX;have HV:=zH (visible_any tx wz HC.out);obtain ⟨qb,hqb⟩:∃qb,visC s.ss tx=qb:=⟨_,rfl⟩;rw [hqb] at HV;have HQB:=zH hqb;clear hqb;have HRR2:Hid ((if qb=false then (.error (ps,13):CE CS) else (exD s.ss h0 k0).then fun _=>.ok s)=RR):=by show _=_; rw [← HRR.out,← HQB.out]; simp [exC_one]
  clear HRR HX;go_upto_region 9 with fail
  go_wp2_with fail;refine HV.out.mono ?_;rintro e w1 ⟨rfl,hb9⟩;have trz:∀o u,wz.cell? ⟨b0,o,none⟩=some u→w1.cell? ⟨b0,o,none⟩=some u:=fun o u h=>(hb9.cell (p:=⟨b0,o,none⟩) (by have h1:=HBW.out.size; have h2:=HB0.out; show b0 < _; omega)).trans h
  replace z0:=trz _ _ z0
  replace z1:=trz _ _ z1
  replace z2:=trz _ _ z2
  replace z3:=trz _ _ z3
  replace z4:=trz _ _ z4
  replace z5:=trz _ _ z5
  clear trz HTZ;have HC2:=zH (HC.out.below hb9);have HCH2:=zH (HCH.out.step hb9);have HBW2:=zH (HBW.out.trans (hb9.mono (by have h1:=HBW.out.size; rw [HB.out] at h1; exact h1)))
  have HKB2:Hid (Blk w1 KB 31 #[.int .i64 21,.string ⟨tx.toArray⟩,.int .i64 nu,.slice xn nm.length cn,.slice (some ⟨b0,off,none⟩) 1 ck,.int .i64 ps]):=(hb9.block _ HKB.out.lt).trans HKB.out
  clear HC HCH HBW HKB y0 y1 y2 y3 y4 y5;have HC:=HC2;have HCH:=HCH2;have HBW:=HBW2;have HKB:=HKB2;clear HC2 HCH2 HBW2 HKB2;have y0:w1.cell? ⟨KB,0,none⟩=some (.int .i64 21):=HKB.out.cell 0;have y1:w1.cell? ⟨KB,1,none⟩=some (.string ⟨tx.toArray⟩):=HKB.out.cell 1;have y2:w1.cell? ⟨KB,2,none⟩=some (.int .i64 nu):=HKB.out.cell 2
  have y3:w1.cell? ⟨KB,3,none⟩=some (.slice xn nm.length cn):=HKB.out.cell 3
  have y4:w1.cell? ⟨KB,4,none⟩=some (.slice (some ⟨b0,off,none⟩) 1 ck):=HKB.out.cell 4
  have y5:w1.cell? ⟨KB,5,none⟩=some (.int .i64 ps):=HKB.out.cell 5
  clear hb9 HV
  cases qb with
  | false=>
   have HRE:Hid (RR=.error (ps,13)):=by show _=_; rw [← HRR2.out,if_pos rfl]
   clear HRR2;go_wp2_with fail;refine (HF.out 13 w1).mono ?_;rintro e w9 ⟨rfl,hb9⟩;have HCH9:=zH (HCH.out.step hb9);clear hb9;go_wp2_with fail;exact ⟨rfl,CkR.bad HRE.out HCH9.out rfl⟩
  | true=>
   have HRR3:Hid (((exD s.ss h0 k0).then fun _=>(.ok s:CE CS))=RR):=by show _=_; rw [← HRR2.out,if_neg (by decide)]
   clear HRR2;have HX:=zH (expr1_any h0 k0 xn0 xk0 cn0 ck0 w1 HC.out (HHK.out.below (by rw [HB.out]; exact HBW.out)))
   unfold ndV at HX;rcases hq:exD s.ss h0 k0 with y | u
   ·rw [hq] at HX
    have HRE:Hid (RR=.error y):=by show _=_; rw [← HRR3.out,hq]; rfl
    clear hq;go_wp2_with fail;refine HX.out.mono ?_;rintro e w9 ⟨rfl,hb9⟩;have HCH9:=zH (HCH.out.step hb9);clear hb9;go_wp2_with fail;exact ⟨rfl,CkR.bad HRE.out HCH9.out rfl⟩
   rw [hq] at HX;have HEQ:=zH hq;clear hq;go_wp2_with fail;refine HX.out.mono ?_;rintro e w2 ⟨rfl,hb9⟩;have HC2:=zH (HC.out.below hb9);have HCH2:=zH (HCH.out.step hb9);have HBW2:=zH (HBW.out.trans (hb9.mono (by have h1:=HBW.out.size; rw [HB.out] at h1; exact h1)))
   have HKB2:Hid (Blk w2 KB 31 #[.int .i64 21,.string ⟨tx.toArray⟩,.int .i64 nu,.slice xn nm.length cn,.slice (some ⟨b0,off,none⟩) 1 ck,.int .i64 ps]):=(hb9.block _ HKB.out.lt).trans HKB.out
   clear HC HCH HBW HKB y0 y1 y2 y3 y4 y5;have HC:=HC2;have HCH:=HCH2;have HBW:=HBW2;have HKB:=HKB2;clear HC2 HCH2 HBW2 HKB2;have y0:w2.cell? ⟨KB,0,none⟩=some (.int .i64 21):=HKB.out.cell 0;have y1:w2.cell? ⟨KB,1,none⟩=some (.string ⟨tx.toArray⟩):=HKB.out.cell 1;have y2:w2.cell? ⟨KB,2,none⟩=some (.int .i64 nu):=HKB.out.cell 2
   have y3:w2.cell? ⟨KB,3,none⟩=some (.slice xn nm.length cn):=HKB.out.cell 3
   have y4:w2.cell? ⟨KB,4,none⟩=some (.slice (some ⟨b0,off,none⟩) 1 ck):=HKB.out.cell 4
   have y5:w2.cell? ⟨KB,5,none⟩=some (.int .i64 ps):=HKB.out.cell 5
   clear hb9 HX;have HRE:Hid (RR=.ok s):=by show _=_; rw [← HRR3.out,HEQ.out]; rfl
   go_wp2_with fail;refine bodyPost_ret (results_none rfl _ _ _) rfl ?_;exact CkR.good HRE.out HCH.out rfl HC.out (fun g hg=>Or.inl hg)
 ·-- 22
  obtain rfl:kd=22:=hkd
  clear hkd2 hne;obtain ⟨h0,k0,R0,rfl,hal,hrn⟩:=st_if HSN.out rfl;obtain ⟨b0,off,xn0,cn0,xk0,ck0,rfl,hb0,⟨z0,z1,z2,z3,z4,z5⟩,hk0⟩:=HXR.out.node0;have trz:∀o u,w0.cell? ⟨b0,o,none⟩=some u→wz.cell? ⟨b0,o,none⟩=some u:=fun o u h=>(HBW.out.cell (p:=⟨b0,o,none⟩) (by rw [← HB.out]; exact hb0)).trans h
  replace z0:=trz _ _ z0
  replace z1:=trz _ _ z1
  replace z2:=trz _ _ z2
  replace z3:=trz _ _ z3
  replace z4:=trz _ _ z4
  replace z5:=trz _ _ z5
  have HX:=zH (expr1_any h0 k0 xn0 xk0 cn0 ck0 wz HC.out (hk0.below (by rw [HB.out]; exact HBW.out)))
  have HXT:=zH (FRow.tail (A:=.cons h0 k0 .nil) (R:=R0) HXR.out)
  obtain ⟨_,c',hvv,hlc,hlm,-⟩:=id HXR.out
  injection hvv with e1 e2 e3
  subst e1 e3;clear e2;unfold maxLen at hlm;simp only [Fo.len,Nat.zero_add,Nat.one_mul] at HXT hlc;obtain ⟨n,hn⟩:∃n,R0.len=n:=⟨_,rfl⟩;have HL:=zH hn;have HAL:=zH hal;have HSZ0:Hid (R0.size+1≤(Fo.cons h0 k0 R0).size):=by show _≤_; simp only [Fo.size]; omega
  have HB0:=zH hb0
  rw [hn] at hlc hrn HXT;have hn1:(Fo.cons h0 k0 R0).len=n+1:=by simp only [Fo.len]; rw [hn]
  rw [hn1] at y4 HKB HF;clear hk0 hb0 trz hn hal hn1;unfold ndV at HX;have HRR2:Hid ((exD s.ss h0 k0).then (fun _=>ckC (.st false) s R0)=RR):=by
   show _=_
   rw [← HRR.out];simp only [Int.reduceEq,reduceIte,ckC,exD];split <;> rfl
  clear HRR;rcases hq:exD s.ss h0 k0 with y | u
  ·rw [hq] at HX
   have HRE:Hid (RR=.error y):=by show _=_; rw [← HRR2.out,hq]; rfl
   clear hq;go_wp2_with fail;refine HX.out.mono ?_;rintro e w9 ⟨rfl,hb9⟩;have HCH9:=zH (HCH.out.step hb9);clear hb9;go_wp2_with fail;exact ⟨rfl,CkR.bad HRE.out HCH9.out rfl⟩
  rw [hq] at HX;have HEQ:=zH hq;clear hq;go_wp2_with fail;refine HX.out.mono ?_;rintro e w2 ⟨rfl,hb9⟩;have HC2:=zH (HC.out.below hb9);have HCH2:=zH (HCH.out.step hb9);have HBW2:=zH (HBW.out.trans (hb9.mono (by have h1:=HBW.out.size; rw [HB.out] at h1; exact h1)))
  have HKB2:Hid (Blk w2 KB 31 #[.int .i64 22,.string ⟨tx.toArray⟩,.int .i64 nu,.slice xn nm.length cn,.slice (some ⟨b0,off,none⟩) (n+1) ck,.int .i64 ps]):=(hb9.block _ HKB.out.lt).trans HKB.out
  clear HC HCH HBW HKB y0 y1 y2 y3 y4 y5;have HC:=HC2;have HCH:=HCH2;have HBW:=HBW2;have HKB:=HKB2;clear HC2 HCH2 HBW2 HKB2;have y0:w2.cell? ⟨KB,0,none⟩=some (.int .i64 22):=HKB.out.cell 0;have y1:w2.cell? ⟨KB,1,none⟩=some (.string ⟨tx.toArray⟩):=HKB.out.cell 1;have y2:w2.cell? ⟨KB,2,none⟩=some (.int .i64 nu):=HKB.out.cell 2
  have y3:w2.cell? ⟨KB,3,none⟩=some (.slice xn nm.length cn):=HKB.out.cell 3
  have y4:w2.cell? ⟨KB,4,none⟩=some (.slice (some ⟨b0,off,none⟩) (n+1) ck):=HKB.out.cell 4
  have y5:w2.cell? ⟨KB,5,none⟩=some (.int .i64 ps):=HKB.out.cell 5
  clear hb9 HX;have HRR3:Hid (ckC (.st false) s R0=RR):=by show _=_; rw [← HRR2.out,HEQ.out]; rfl
  clear HRR2 HEQ z0 z1 z2 z3 z4 z5;have hsl:(1:Int)≤(n:Int)+1∧(n:Int)+1≤(ck:Int):=by omega
  have hck1:¬ ck=1:=by omega
  have hck2:¬ (1=ck):=by omega
  go_wp2_with fail;clear y0 y1 y2 y3 y4 y5 HKB HF hsl hck1 hck2;go_loopw [69] (fun vi wr=>∃(i:Nat) (A R:Fo) (s1:CS) (v1:Value),vi=.int .i64 i∧i≤n∧Hid (R0=A.app R∧A.len=i∧ckC (.st false) s A=.ok s1)∧Hid (CkW B wr C s1 v1 (nb::bs) fb)∧Hid (Ch C (.slice vx qv vc) (nb::bs) fb w wr)∧
   Hid (∀g,v1.ownBlock=some g→(Value.slice vx qv vc).ownBlock=some g∨w.heap.size≤g)∧Hid (Below B w0 wr)) (fun vi _=>n - (intOf vi).toNat)
  case atStart=>exact ⟨0,.nil,R0,s,_,rfl,Nat.zero_le _,⟨rfl,rfl,rfl⟩,HC.out,HCH.out,(fun g hg=>Or.inl hg),HBW.out⟩
  case round=>
   clear HC HCH HBW;obtain ⟨i,A,R,s1,v1,rfl,hi,hA,hcw,hch,how,hbw2⟩:=hrel;by_cases hlt:i < n
   ·have dlt:decide ((i:Int) < (n:Int))=true:=by simp; omega
    have i1:(i:Int) < (n:Int):=by omega
    obtain ⟨h,k,r9,rfl⟩:∃h k r,R=.cons h k r:=by
     cases R with
     | nil=>have h1:=hA.out.2.1; have h2:=HL.out; rw [hA.out.1,Fo.app_nil] at h2; omega
     | cons h k r=>exact ⟨h,k,r,rfl⟩
    have hf0:FRow w0 (.slice (some ⟨b0,off+6,none⟩) n (ck - 1)) (A.app (.cons h k r9)):=by rw [← hA.out.1]; exact HXT.out
    obtain ⟨b1,off1,xn1,cn1,xk1,ck1,he1,⟨k0,k1,k2,k3,k4,k5⟩,hn1,hk1⟩:=hf0.node
    injection he1 with he1
    injection he1 with he1 he2
    subst he1 he2;rw [hA.out.2.1] at k0 k1 k2 k3 k4 k5;have tr:∀o u,w0.cell? ⟨b0,o,none⟩=some u→wr.cell? ⟨b0,o,none⟩=some u:=fun o u h=>(hbw2.out.cell (p:=⟨b0,o,none⟩) (by rw [← HB.out]; exact HB0.out)).trans h
    replace k0:=tr _ _ k0
    replace k1:=tr _ _ k1
    replace k2:=tr _ _ k2
    replace k3:=tr _ _ k3
    replace k4:=tr _ _ k4
    replace k5:=tr _ _ k5
    have HSN2:Hid (stN h k=true):=by
     have h1:=HAL.out
     rw [hA.out.1,allG_app] at h1;simp only [allG,Bool.and_eq_true] at h1;exact h1.2.1
    have hszk:k.size+1≤R0.size:=by rw [hA.out.1]; exact FRow.size_le
    have hsz0:=HSZ0.out
    have HKS:Hid (k.size < N):=by have h1:=HN.out; show _ < _; omega
    have hlo1:s1.lo=s.lo:=by
     have h1:=ckC_lo _ _ _ _ hA.out.2.2
     exact h1
    have HLO1:Hid (s1.lo+k.size≤Mx):=by have h1:=HLO.out; show _≤_; omega
    have HBS1:Hid ((nb::bs).length+k.size+1≤Mx):=by have h1:=HBS.out; show _≤_; omega
    have HSTEP:Hid (R0=(A.app (.cons h k .nil)).app r9∧(A.app (.cons h k .nil)).len=i+1):=⟨by rw [← Fo.next]; exact hA.out.1,by rw [Fo.app_len,hA.out.2.1]; rfl⟩
    have HEA:Hid (ckC (.st false) s (A.app (.cons h k .nil))=stD false s1 h k):=by show _=_; rw [ckC_app,hA.out.2.2]; exact ckC_one _ _ _ _
    have HEF:Hid (RR=((stD false s1 h k).then fun s'=>ckC (.st false) s' r9)):=by
     show _=_
     rw [← HRR3.out,hA.out.1];rw [ckC_app,hA.out.2.2];simp only [CE.then]
     rw [ckC_cons];rfl
    have HNN:=zH hn1
    have HNK:=zH hk1
    clear hf0 tr hszk hsz0 hlo1 hn1 hk1 hA;go_upto_region 17 with fail
    have hba:=(Below.refl wr.heap.size wr).alloc (Nat.le_refl _) (.cells (ndV h (.slice xn1 h.names.length cn1) (.slice xk1 k.len ck1)) 31)
    have HKB:=zH (Blk.new wr 31 (ndV h (.slice xn1 h.names.length cn1) (.slice xk1 k.len ck1)))
    have HCZ:=zH (hcw.out.below hba)
    have HCHZ:=zH (hch.out.step hba)
    have HBZ:=zH (hbw2.out.trans (hba.mono (by have h1:=hbw2.out.size; rw [HB.out] at h1; exact h1)))
    clear hba k0 k1 k2 k3 k4 k5 hcw hch hbw2;unfold ndV at HKB HCZ HCHZ HBZ;generalize wr.alloc (.cells #[.int .i64 h.kind,.string ⟨h.text.toArray⟩,.int .i64 h.num,.slice xn1 h.names.length cn1,.slice xk1 k.len ck1,.int .i64 h.pos] 31)=wq at*;generalize hKBe:wr.heap.size=KC at*;have y0:wq.cell? ⟨KC,0,none⟩=some (.int .i64 h.kind):=HKB.out.cell 0
    have y1:wq.cell? ⟨KC,1,none⟩=some (.string ⟨h.text.toArray⟩):=HKB.out.cell 1
    have y2:wq.cell? ⟨KC,2,none⟩=some (.int .i64 h.num):=HKB.out.cell 2
    have y3:wq.cell? ⟨KC,3,none⟩=some (.slice xn1 h.names.length cn1):=HKB.out.cell 3
    have y4:wq.cell? ⟨KC,4,none⟩=some (.slice xk1 k.len ck1):=HKB.out.cell 4
    have y5:wq.cell? ⟨KC,5,none⟩=some (.int .i64 h.pos):=HKB.out.cell 5
    have hcall:=HST.out h k false xn1 xk1 cn1 ck1 wq C s1 v1 (nb::bs) fb HKS.out HSN2.out HNN.out HNK.out (by rw [HB.out]; exact HBZ.out) (by rw [HB.out]; exact HCZ.out) HLO1.out HBS1.out (by simp)
    rw [HB.out] at hcall;unfold ndV at hcall;have HZS:Hid (w.heap.size≤wq.heap.size):=HCHZ.out.size;clear hKBe;rcases hq:stD false s1 h k with y | s2
    ·rw [hq] at hcall HEF
     have HC1:=zH hcall
     clear hq HEA hcall;go_wp2_with fail;refine HC1.out.mono ?_;rintro e w5 ⟨hch5,rfl⟩;have HCH5:=zH (HCHZ.out.trans hch5 how.out (fun g hg=>Or.inl hg))
     clear hch5 HC1;go_wp2_with fail;exact ⟨rfl,CkR.bad HEF.out HCH5.out rfl⟩
    ·rw [hq] at hcall HEA
     have HC1:=zH hcall
     clear hq HEF hcall;go_wp2_with fail;refine HC1.out.mono ?_;rintro e w5 ⟨hch5,rfl,v2,hcw5,how5⟩;have HCH5:=zH (HCHZ.out.trans hch5 how.out (fun g hg=>Or.inl hg))
     have HCW5:=zH hcw5
     have HOW5:Hid (∀g,v2.ownBlock=some g→(Value.slice vx qv vc).ownBlock=some g∨w.heap.size≤g):=fun g hg=>(how5 g hg).elim (how.out g) (fun h1=>Or.inr (Nat.le_trans HZS.out h1))
     have HBW5:Hid (Below B w0 w5):=HBWW.out.trans (HCH5.out.below HCK.out (by rw [HKE.out]; exact HBle2.out))
     clear hch5 HC1 hcw5 how5 y0 y1 y2 y3 y4 y5 HKB HCZ HCHZ HBZ how;go_wp2_with fail;go_roundw
     case rel=>exact ⟨i+1,A.app (.cons h k .nil),r9,s2,v2,by go_num,by omega,⟨HSTEP.out.1,HSTEP.out.2,HEA.out⟩,HCW5,HCH5,HOW5,HBW5⟩
     case measure=>simp [intOf]; omega
   ·have dlt:decide ((i:Int) < (n:Int))=false:=by simp; omega
    have HE:Hid (RR=.ok s1):=by
     obtain ⟨h1,h2,h3⟩:=hA.out
     have hR:R=.nil:=by
      have h4:=HL.out
      rw [h1,Fo.app_len] at h4
      cases R with
      | nil=>rfl
      | cons h k r=>simp only [Fo.len] at h4; omega
     show _=_
     rw [← HRR3.out,h1,hR,Fo.app_nil];exact h3
    clear hA;go_wp2_with fail;refine bodyPost_ret (results_none rfl _ _ _) rfl ?_;exact CkR.good HE.out hch.out rfl hcw.out how.out
 ·-- 23
  obtain rfl:kd=23:=hkd
  clear hkd2 hne;obtain ⟨A0,hb,kb,rfl,hrk⟩:=st_loop HSN.out (by simp)
  have hcall:=HLP.out ⟨23,tx,nu,nm,ps⟩ A0 hb kb xn xk cn _ ck wz C s _ (nb::bs) fb HN.out hrk HXR.out (by rw [HB.out]; exact HBW.out) (by rw [HB.out]; exact HC.out) HLO.out HBS.out
  rw [HB.out] at hcall;unfold ndV at hcall;have hr2:ckC (.loop []) s (A0.app (.cons hb kb .nil))=RR:=by rw [← HRR.out]; simp
  simp only [Int.reduceEq,reduceIte] at hcall;rw [hr2] at hcall;clear hr2 hrk HRR;rcases hq:RR with y | s2
  ·rw [hq] at hcall
   have HRE:=zH hq
   have HCC:=zH hcall
   clear hq hcall;go_wp2_with fail;refine HCC.out.mono ?_;rintro e w8 ⟨hch8,rfl⟩;have HCH8:=zH (HCH.out.trans hch8 (fun g hg=>Or.inl hg) (fun g hg=>Or.inl hg))
   clear hch8 HCC;go_wp2_with fail;exact ⟨rfl,CkR.bad HRE.out HCH8.out rfl⟩
  ·rw [hq] at hcall
   have HRE:=zH hq
   have HCC:=zH hcall
   have HSZ2:Hid (w.heap.size≤wz.heap.size):=HCH.out.size
   clear hq hcall;go_wp2_with fail;refine HCC.out.mono ?_;rintro e w8 ⟨hch8,rfl,v2,hcw8,how8⟩;have HCH8:=zH (HCH.out.trans hch8 (fun g hg=>Or.inl hg) (fun g hg=>Or.inl hg))
   have HC8:=zH hcw8
   have HOW8:Hid (∀g,v2.ownBlock=some g→(Value.slice vx qv vc).ownBlock=some g∨w.heap.size≤g):=fun g hg=>(how8 g hg).elim Or.inl (fun h1=>Or.inr (Nat.le_trans HSZ2.out h1))
   clear hch8 HCC hcw8 how8;go_wp2_with fail;refine bodyPost_ret (results_none rfl _ _ _) rfl ?_;exact CkR.good HRE.out HCH8.out rfl HC8.out HOW8.out
 ·-- 24
  obtain rfl:kd=24:=hkd
  clear hkd2 hne;obtain ⟨A0,hb,kb,rfl,hrk⟩:=st_loop HSN.out (by simp)
  have hcall:=HLP.out ⟨24,tx,nu,nm,ps⟩ A0 hb kb xn xk cn _ ck wz C s _ (nb::bs) fb HN.out hrk HXR.out (by rw [HB.out]; exact HBW.out) (by rw [HB.out]; exact HC.out) HLO.out HBS.out
  rw [HB.out] at hcall;unfold ndV at hcall;have hr2:ckC (.loop [tx]) s (A0.app (.cons hb kb .nil))=RR:=by rw [← HRR.out]; simp
  simp only [reduceIte] at hcall;rw [hr2] at hcall;clear hr2 hrk HRR;rcases hq:RR with y | s2
  ·rw [hq] at hcall
   have HRE:=zH hq
   have HCC:=zH hcall
   clear hq hcall;go_wp2_with fail;refine HCC.out.mono ?_;rintro e w8 ⟨hch8,rfl⟩;have HCH8:=zH (HCH.out.trans hch8 (fun g hg=>Or.inl hg) (fun g hg=>Or.inl hg))
   clear hch8 HCC;go_wp2_with fail;exact ⟨rfl,CkR.bad HRE.out HCH8.out rfl⟩
  ·rw [hq] at hcall
   have HRE:=zH hq
   have HCC:=zH hcall
   have HSZ2:Hid (w.heap.size≤wz.heap.size):=HCH.out.size
   clear hq hcall;go_wp2_with fail;refine HCC.out.mono ?_;rintro e w8 ⟨hch8,rfl,v2,hcw8,how8⟩;have HCH8:=zH (HCH.out.trans hch8 (fun g hg=>Or.inl hg) (fun g hg=>Or.inl hg))
   have HC8:=zH hcw8
   have HOW8:Hid (∀g,v2.ownBlock=some g→(Value.slice vx qv vc).ownBlock=some g∨w.heap.size≤g):=fun g hg=>(how8 g hg).elim Or.inl (fun h1=>Or.inr (Nat.le_trans HSZ2.out h1))
   clear hch8 HCC hcw8 how8;go_wp2_with fail;refine bodyPost_ret (results_none rfl _ _ _) rfl ?_;exact CkR.good HRE.out HCH8.out rfl HC8.out HOW8.out
 ·-- 25
  obtain rfl:kd=25:=hkd
  clear hkd2 hne;have hrk:=st_blk HSN.out rfl;have hcall:=HBL.out k (.slice xk k.len ck) false (.slice none 0 0) [] wz C s _ (nb::bs) fb HN.out hrk HXR.out (nmrow_nil _) (by rw [HB.out]; exact HBW.out) (by rw [HB.out]; exact HC.out) HLO.out HBS.out
  rw [HB.out] at hcall;have hr2:blD false s [] k=RR:=by rw [← HRR.out]; simp [blD]
  rw [hr2] at hcall;clear hr2 hrk HRR;rcases hq:RR with y | s2
  ·rw [hq] at hcall
   have HRE:=zH hq
   have HCC:=zH hcall
   clear hq hcall;go_wp2_with fail;refine HCC.out.mono ?_;rintro e w8 ⟨hch8,rfl⟩;have HCH8:=zH (HCH.out.trans hch8 (fun g hg=>Or.inl hg) (fun g hg=>Or.inl hg))
   clear hch8 HCC;go_wp2_with fail;exact ⟨rfl,CkR.bad HRE.out HCH8.out rfl⟩
  ·rw [hq] at hcall
   have HRE:=zH hq
   have HCC:=zH hcall
   have HSZ2:Hid (w.heap.size≤wz.heap.size):=HCH.out.size
   clear hq hcall;go_wp2_with fail;refine HCC.out.mono ?_;rintro e w8 ⟨hch8,rfl,v2,hcw8,how8⟩;have HCH8:=zH (HCH.out.trans hch8 (fun g hg=>Or.inl hg) (fun g hg=>Or.inl hg))
   have HC8:=zH hcw8
   have HOW8:Hid (∀g,v2.ownBlock=some g→(Value.slice vx qv vc).ownBlock=some g∨w.heap.size≤g):=fun g hg=>(how8 g hg).elim Or.inl (fun h1=>Or.inr (Nat.le_trans HSZ2.out h1))
   clear hch8 HCC hcw8 how8;go_wp2_with fail;refine bodyPost_ret (results_none rfl _ _ _) rfl ?_;exact CkR.good HRE.out HCH8.out rfl HC8.out HOW8.out
 ·-- 26
  obtain rfl:kd=26:=hkd
  clear hkd2 hne;obtain ⟨hb,kb,rfl,hrk⟩:=st_fn HSN.out rfl;have hN2:kb.size < N:=by have h1:=HN.out; simp only [Fo.size] at h1; omega
  have hlo2:s.lo+kb.size≤Mx:=by have h1:=HLO.out; simp only [Fo.size] at h1; omega
  have hbs2:kb.size+1≤Mx:=by have h1:=HBS.out; simp only [Fo.size] at h1; omega
  have hcall:=HFN.out ⟨26,tx,nu,nm,ps⟩ hb kb p xn xk cn _ ck wz C s _ (nb::bs) fb hN2 hrk HNR.out HXR.out (by rw [HB.out]; exact HBW.out) (by rw [HB.out]; exact HC.out) hlo2 hbs2
  rw [HB.out] at hcall;unfold ndV at hcall;have hr2:fnD p s ⟨26,tx,nu,nm,ps⟩ (.cons hb kb .nil)=RR:=by rw [← HRR.out]; simp [fnD]
  rw [hr2] at hcall;simp only at hcall;clear hr2 hrk hN2 hlo2 hbs2 HRR;rcases hq:RR with y | s2
  ·rw [hq] at hcall
   have HRE:=zH hq
   have HCC:=zH hcall
   clear hq hcall;go_wp2_with fail;refine HCC.out.mono ?_;rintro e w8 ⟨hch8,rfl⟩;have HCH8:=zH (HCH.out.trans hch8 (fun g hg=>Or.inl hg) (fun g hg=>Or.inl hg))
   clear hch8 HCC;go_wp2_with fail;exact ⟨rfl,CkR.bad HRE.out HCH8.out rfl⟩
  ·rw [hq] at hcall
   have HRE:=zH hq
   have HCC:=zH hcall
   have HSZ2:Hid (w.heap.size≤wz.heap.size):=HCH.out.size
   clear hq hcall;go_wp2_with fail;refine HCC.out.mono ?_;rintro e w8 ⟨hch8,rfl,v2,hcw8,how8⟩;have HCH8:=zH (HCH.out.trans hch8 (fun g hg=>Or.inl hg) (fun g hg=>Or.inl hg))
   have HC8:=zH hcw8
   have HOW8:Hid (∀g,v2.ownBlock=some g→(Value.slice vx qv vc).ownBlock=some g∨w.heap.size≤g):=fun g hg=>(how8 g hg).elim Or.inl (fun h1=>Or.inr (Nat.le_trans HSZ2.out h1))
   clear hch8 HCC hcw8 how8;go_wp2_with fail;refine bodyPost_ret (results_none rfl _ _ _) rfl ?_;exact CkR.good HRE.out HCH8.out rfl HC8.out HOW8.out
 ·-- 27
  obtain rfl:kd=27:=hkd
  clear hkd2 hne;have k3c:wz.cell? ⟨C,3,none⟩=some (.bool s.inF):=HC.out.blk.cell 3;have HX:=zH (exprs_any k _ wz HC.out (HXR.out.below (by rw [HB.out]; exact HBW.out)))
  have HRR2:Hid ((if s.inF=false then (.error (ps,14):CE CS) else (exC s.ss k).then fun _=>.ok s)=RR):=by show _=_; rw [← HRR.out]; simp
  clear HRR;obtain ⟨qb,hqb⟩:∃qb,s.inF=qb:=⟨_,rfl⟩;rw [hqb] at k3c HRR2;clear hqb
  cases qb with
  | false=>
   have HRE:Hid (RR=.error (ps,14)):=by show _=_; rw [← HRR2.out,if_pos rfl]
   clear HRR2;go_wp2_with fail;refine (HF.out 14 wz).mono ?_;rintro e w9 ⟨rfl,hb9⟩;have HCH9:=zH (HCH.out.step hb9);clear hb9;go_wp2_with fail;exact ⟨rfl,CkR.bad HRE.out HCH9.out rfl⟩
  | true=>
   have HRR3:Hid (((exC s.ss k).then fun _=>(.ok s:CE CS))=RR):=by show _=_; rw [← HRR2.out,if_neg (by decide)]
   clear HRR2;rcases hq:exC s.ss k with y | u
   ·rw [hq] at HX
    have HRE:Hid (RR=.error y):=by show _=_; rw [← HRR3.out,hq]; rfl
    clear hq;go_wp2_with fail;refine HX.out.mono ?_;rintro e w9 ⟨rfl,hb9⟩;have HCH9:=zH (HCH.out.step hb9);clear hb9;go_wp2_with fail;exact ⟨rfl,CkR.bad HRE.out HCH9.out rfl⟩
   rw [hq] at HX;have HEQ:=zH hq;clear hq;go_wp2_with fail;refine HX.out.mono ?_;rintro e w2 ⟨rfl,hb9⟩;have HC2:=zH (HC.out.below hb9);have HCH2:=zH (HCH.out.step hb9);have HBW2:=zH (HBW.out.trans (hb9.mono (by have h1:=HBW.out.size; rw [HB.out] at h1; exact h1)))
   have HKB2:Hid (Blk w2 KB 31 #[.int .i64 27,.string ⟨tx.toArray⟩,.int .i64 nu,.slice xn nm.length cn,.slice xk k.len ck,.int .i64 ps]):=(hb9.block _ HKB.out.lt).trans HKB.out
   clear HC HCH HBW HKB y0 y1 y2 y3 y4 y5;have HC:=HC2;have HCH:=HCH2;have HBW:=HBW2;have HKB:=HKB2;clear HC2 HCH2 HBW2 HKB2;have y0:w2.cell? ⟨KB,0,none⟩=some (.int .i64 27):=HKB.out.cell 0;have y1:w2.cell? ⟨KB,1,none⟩=some (.string ⟨tx.toArray⟩):=HKB.out.cell 1;have y2:w2.cell? ⟨KB,2,none⟩=some (.int .i64 nu):=HKB.out.cell 2
   have y3:w2.cell? ⟨KB,3,none⟩=some (.slice xn nm.length cn):=HKB.out.cell 3
   have y4:w2.cell? ⟨KB,4,none⟩=some (.slice xk k.len ck):=HKB.out.cell 4
   have y5:w2.cell? ⟨KB,5,none⟩=some (.int .i64 ps):=HKB.out.cell 5
   clear hb9 HX;have HRE:Hid (RR=.ok s):=by show _=_; rw [← HRR3.out,HEQ.out]; rfl
   clear k3c;go_wp2_with fail;refine bodyPost_ret (results_none rfl _ _ _) rfl ?_;exact CkR.good HRE.out HCH.out rfl HC.out (fun g hg=>Or.inl hg)
 ·-- 28
  obtain rfl:kd=28:=hkd
  clear hkd2 hne;have HX:=zH (exprs_any k _ wz HC.out (HXR.out.below (by rw [HB.out]; exact HBW.out)))
  have HRR3:Hid (((exC s.ss k).then fun _=>(.ok s:CE CS))=RR):=by show _=_; rw [← HRR.out]; simp
  clear HRR;rcases hq:exC s.ss k with y | u
  ·rw [hq] at HX
   have HRE:Hid (RR=.error y):=by show _=_; rw [← HRR3.out,hq]; rfl
   clear hq;go_wp2_with fail;refine HX.out.mono ?_;rintro e w9 ⟨rfl,hb9⟩;have HCH9:=zH (HCH.out.step hb9);clear hb9;go_wp2_with fail;exact ⟨rfl,CkR.bad HRE.out HCH9.out rfl⟩
  rw [hq] at HX;have HEQ:=zH hq;clear hq;go_wp2_with fail;refine HX.out.mono ?_;rintro e w2 ⟨rfl,hb9⟩;have HC2:=zH (HC.out.below hb9);have HCH2:=zH (HCH.out.step hb9);have HBW2:=zH (HBW.out.trans (hb9.mono (by have h1:=HBW.out.size; rw [HB.out] at h1; exact h1)))
  have HKB2:Hid (Blk w2 KB 31 #[.int .i64 28,.string ⟨tx.toArray⟩,.int .i64 nu,.slice xn nm.length cn,.slice xk k.len ck,.int .i64 ps]):=(hb9.block _ HKB.out.lt).trans HKB.out
  clear HC HCH HBW HKB y0 y1 y2 y3 y4 y5;have HC:=HC2;have HCH:=HCH2;have HBW:=HBW2;have HKB:=HKB2;clear HC2 HCH2 HBW2 HKB2;have y0:w2.cell? ⟨KB,0,none⟩=some (.int .i64 28):=HKB.out.cell 0;have y1:w2.cell? ⟨KB,1,none⟩=some (.string ⟨tx.toArray⟩):=HKB.out.cell 1;have y2:w2.cell? ⟨KB,2,none⟩=some (.int .i64 nu):=HKB.out.cell 2
  have y3:w2.cell? ⟨KB,3,none⟩=some (.slice xn nm.length cn):=HKB.out.cell 3
  have y4:w2.cell? ⟨KB,4,none⟩=some (.slice xk k.len ck):=HKB.out.cell 4
  have y5:w2.cell? ⟨KB,5,none⟩=some (.int .i64 ps):=HKB.out.cell 5
  clear hb9 HX;have HRE:Hid (RR=.ok s):=by show _=_; rw [← HRR3.out,HEQ.out]; rfl
  go_wp2_with fail;refine bodyPost_ret (results_none rfl _ _ _) rfl ?_;exact CkR.good HRE.out HCH.out rfl HC.out (fun g hg=>Or.inl hg)
 ·-- 29
  obtain rfl:kd=29:=hkd
  clear hkd2 hne;have k2c:wz.cell? ⟨C,2,none⟩=some (.int .i64 (s.lo:Nat)):=HC.out.blk.cell 2;have HRR2:Hid ((if s.lo=0 then (.error (ps,14):CE CS) else .ok s)=RR):=by show _=_; rw [← HRR.out]; simp
  clear HRR;by_cases hlz:s.lo=0
  ·have HRE:Hid (RR=.error (ps,14)):=by show _=_; rw [← HRR2.out,if_pos hlz]
   have elz:((s.lo:Int)==0)=true:=by simp [hlz]
   clear HRR2 hlz;go_wp2_with fail;refine (HF.out 14 wz).mono ?_;rintro e w9 ⟨rfl,hb9⟩;have HCH9:=zH (HCH.out.step hb9);clear hb9;go_wp2_with fail;exact ⟨rfl,CkR.bad HRE.out HCH9.out rfl⟩
  ·have HRE:Hid (RR=.ok s):=by show _=_; rw [← HRR2.out,if_neg hlz]
   have elz:((s.lo:Int)==0)=false:=by simp; omega
   clear HRR2 hlz;go_wp2_with fail;refine bodyPost_ret (results_none rfl _ _ _) rfl ?_;exact CkR.good HRE.out HCH.out rfl HC.out (fun g hg=>Or.inl hg)
end Go.Proofs.YtbaidkefobhipaaGreatDoor
