/-
  Walk: the reference's function. (Printed by gen_rq11.py.)
-/
import Derived.Test.YtbaidkefobhipaaGreatDoorZRq10
import Derived.Test.YtbaidkefobhipaaGreatDoorZS33
namespace Go.Proofs.YtbaidkefobhipaaGreatDoor
set_option maxHeartbeats 16000000
set_option maxRecDepth 100000
open Go.RowKit

structure Fst (B S A:Nat) (fv0:Value) (C:Array Value) (w wx:World) (s:RS) (nv fv:Value):Prop where
 r:RkW B wx S s nv fv
 c:Cg S fv0 w wx
 k:Blk wx A 31 C
 o:∀g,fv.ownBlock=some g→fv0.ownBlock=some g∨w.heap.size≤g
theorem Fst.start {B S A:Nat} {fv:Value} {C:Array Value} {w wx:World} {s:RS} {nv:Value} (hr:RkW B w S s nv fv) (hb:Below w.heap.size w wx) (hk:Blk wx A 31 C):Fst B S A fv C w wx s nv fv:=
 ⟨hr.below hb,Cg.of_below hb,hk,fun _ h=>Or.inl h⟩
theorem Fst.step {B S A:Nat} {fv0 fv fv':Value} {C:Array Value} {w wx wy:World} {s s':RS} {nv nv':Value} (h:Fst B S A fv0 C w wx s nv fv) (hr:RkW B wy S s' nv' fv') (hc:Cg S fv wx wy) (ho:∀g,fv'.ownBlock=some g→fv.ownBlock=some g∨wx.heap.size≤g):Fst B S A fv0 C w wy s' nv' fv':=
 ⟨hr,h.c.trans hc h.o,box_cg h.k hc (fun he=>by subst he; exact Blk.apart h.k h.r.blk (by decide) rfl) (fun he=>own_blk_ne' h.k h.r.fns.2 (by decide) he.symm),fun g hg=>(ho g hg).elim (h.o g) (fun hl=>Or.inr (Nat.le_trans h.c.size hl))⟩
theorem Fst.below {B S A:Nat} {fv0 fv:Value} {C:Array Value} {w wx wy:World} {s:RS} {nv:Value} (h:Fst B S A fv0 C w wx s nv fv) (hb:Below wx.heap.size wx wy):Fst B S A fv0 C w wy s nv fv:=h.step (h.r.below hb) (Cg.of_below hb) fun _ hg=>Or.inl hg
theorem Fst.same {B S A:Nat} {fv0 fv:Value} {C:Array Value} {w wx wy:World} {s s':RS} {nv:Value} (h:Fst B S A fv0 C w wx s nv fv) (hr:RkW B wy S s' nv fv) (hc:Cg S fv wx wy):Fst B S A fv0 C w wy s' nv fv:=h.step hr hc fun _ hg=>Or.inl hg
theorem Fst.low {B S A:Nat} {fv0 fv:Value} {C:Array Value} {w wx:World} {s s0:RS} {nv nv0:Value} (h:Fst B S A fv0 C w wx s nv fv) (hr:RkW B w S s0 nv0 fv0) (hB:B≤w.heap.size):Below B w wx:=h.c.below hr hB
theorem nm_one (w:World) (x:Nm):NmRow (w.alloc (.cells #[.string ⟨x.toArray⟩] 9)) (.slice (some ⟨w.heap.size,0,none⟩) 1 1) [x]:=by
 refine ⟨_,_,rfl,Nat.le_refl _,by unfold maxLen; decide,fun h=>by (cases h),fun _=>⟨_,_,rfl,fun i hi=>?_⟩⟩
 have:i=0:=by simp at hi; omega
 subst this;exact (Blk.new w 9 #[.string ⟨x.toArray⟩]).cell 0
theorem RkW.grow {B S:Nat} {w w8:World} {s:RS} {nv fv v':Value} {x:Nm} (h:RkW B w S s nv fv) (_hB:B≤w.heap.size) (how:w8.ownsRow B 9 1 v' (s.fs.length+1) (fsV (s.fs++[x]))) (hg:w.grownBy w8 fv.ownBlock) (hv:v'.ownBlock=fv.ownBlock∨v'.ownBlock=some w.heap.size):
  RkW B (w8.setCell ⟨S,5,none⟩ v') S { s with fs:=s.fs++[x] } nv v'∧Cg S fv w (w8.setCell ⟨S,5,none⟩ v'):=by
 have hb8:Blk w8 S 49 _:=(hg.block S h.blk.lt (fun he=>h.own_ne he.symm)).trans h.blk
 have key:∀j,j≠S→(w8.setCell ⟨S,5,none⟩ v').heap[j]?=w8.heap[j]?:=fun j hj=>Below.heap_setCell _ _ _ j hj
 have hvs:v'.ownBlock≠some S:=fun he=>own_blk_ne' hb8 how.2 (by decide) he.symm
 refine ⟨⟨hb8.put 5 v',h.nm.sub (MSub.csub fun j hl hS=>?_),?_,h.ge⟩,⟨hg.os,hg.tape,hg.output,?_,fun j hj h1 h2=>(key j h1).trans (hg.block j hj (fun he=>h2 he.symm))⟩⟩
 ·simp only [Bool.and_eq_true,decide_eq_true_eq] at hS ⊢
  refine ⟨⟨hS.1,fun he=>?_⟩,(key j hS.1).trans (hg.block j hl (fun he=>hS.2 he.symm))⟩
  rcases hv with hv | hv
  ·exact hS.2 (by rw [← hv]; exact he)
  ·rw [hv] at he; injection he with he; omega
 ·refine own_keep (by simpa using how) fun g hg2 _=>key g (fun he=>hvs (by rw [← he]; exact hg2))
 ·have:=hg.size; simp [World.setCell]; omega
theorem new_scope2 {T:Nat} {w0 w:World} {ns:List Nm} {v:Value} {k:Nat} {a b:Bool} {e:Nat} (hT:Blk w T 49 #[v,.int .i64 (k:Nat),.bool a,.bool b,.bool false,.slice none 0 0,.int .i64 0,.int .i64 (e:Nat)]) (hn:NmRow w0 v ns) (hb:Below w0.heap.size w0 w) (hB:w0.heap.size≤T):
  RkW w0.heap.size w T ⟨ns,k,a,b,false,[],0,e⟩ v (.slice none 0 0):=
 ⟨hT,hn.sub (csub_below hb fun k hk=>by simp [Value.ownBlock]; omega),⟨rfl,.inl ⟨rfl,rfl⟩⟩,hB⟩
theorem own_nm {w:World} {B:Nat} {v:Value} {l:List Nm} (h:w.ownsRow B 9 1 v l.length (fsV l)):NmRow w v l:=(names_row (S:=fun _=>true) h (fun _ _=>rfl)).sub (unmask _ _)
theorem nm_at {w:World} {x:Option Addr} {n c:Nat} {l:List Nm} (h:∀m,NmRow (w.drewN m) (.slice x n c) l) (i:Nat) (hi:i < l.length):∃b off,x=some ⟨b,off,none⟩∧∀m,(w.drewN m).cell? ⟨b,off+i,none⟩=some (.string ⟨l[i].toArray⟩):=by
 obtain ⟨x',c',hv,-,-,-,h4⟩:=h 0
 injection hv with v1
 subst v1;obtain ⟨b,o,hx,hc⟩:=h4 (by omega)
 exact ⟨b,o,hx,fun _=>hc i hi⟩
theorem fail_fail (s:RS) (p:Int) (k:Nat) (hk:k≠0):(s.fail p k).fail p k=s.fail p k:=by
 unfold RS.fail;by_cases h:s.e=0
 ·rw [if_pos h,if_neg hk]
 ·rw [if_neg h,if_neg h]
theorem fail_fs (s:RS) (p:Int) (k:Nat):(s.fail p k).fs=s.fs:=by unfold RS.fail; split <;> rfl
theorem rfun_any {w0:World} {N:Nat} (ih:RAl w0 N) (h b:Hd) (kb:Fo) (xn xk:Option Addr) (cn ck:Nat) (w:World) (S:Nat) (s:RS) (nv fv:Value) (hN:kb.size < N) (hrt:rt .st kb=true)
  (hkr:FRow w0 (.slice xk 1 ck) (.cons b kb .nil)) (hnr:NmRow w0 (.slice xn h.names.length cn) h.names) (hb0:Below w0.heap.size w0 w) (hr:RkW w0.heap.size w S s nv fv) (hln:s.nl+1+h.names.length+kb.wt≤1099511627776):
  Calls Tryz.prog 78 #[.pointer (some ⟨S,0,none⟩),.agg (ndV h (.slice xn h.names.length cn) (.slice xk 1 ck))] w fun e w'=>
   RRes w0.heap.size S ((s.funH h).join (rC .all ((s.funH h).fnb h.names) kb)) fv w e w':=by
 have hbz:=(Below.refl w.heap.size w).alloc (Nat.le_refl _) (.cells (ndV h (.slice xn h.names.length cn) (.slice xk 1 ck)) 31)
 have HF0:=zH (Fst.start hr hbz (Blk.new w 31 (ndV h (.slice xn h.names.length cn) (.slice xk 1 ck))))
 have HLO:Hid (∀wx s' nv' fv' C,Fst w0.heap.size S w.heap.size fv C w wx s' nv' fv'→Below w0.heap.size w0 wx):=fun wx s' nv' fv' C hf=>hb0.trans (hf.low hr hb0.size)
 have HLF:Hid (s.fs.length≤1099511627775):=by unfold RS.nl at hln; show _≤_; omega
 have HLN:Hid (h.names.length≤1099511627776):=by show _≤_; omega
 have HA:Hid (∀xv w S nv fv,FRow w0 xv kb→Below w0.heap.size w0 w→RkW w0.heap.size w S ((s.funH h).fnb h.names) nv fv→Calls Tryz.prog 20 #[.pointer (some ⟨S,0,none⟩),xv] w fun e w'=>RRes w0.heap.size S (rC .all ((s.funH h).fnb h.names) kb) fv w e w'):=fun xv w S nv fv h1 h2 h3=>ih kb xv w S _ nv fv hN hrt h1 h2 h3 (by unfold RS.nl at hln ⊢; simp only [RS.fnb,List.length_nil]; omega)
 obtain ⟨b2,o2,xn2,cn2,xk2,ck2,rfl,hcell,-,hk2⟩:=kid_at (A:=.nil) hkr
 have HKC:Hid (∀w',Below w0.heap.size w0 w'→w'.cell? ⟨b2,o2+4,none⟩=some (.slice xk2 kb.len ck2)):=fun w' hb=>by
  have:=(hcell w' hb).2.2.2.2.1
  simpa only [Fo.len,Nat.zero_mul,Nat.add_zero] using this
 have HK2:=zH hk2
 have hck:1≤ck∧ck≤maxLen:=by
  obtain ⟨_,_,e1,h2,h3,-⟩:=hkr
  injection e1 with _ e2 e3
  rw [e3];exact ⟨h2,h3⟩
 unfold maxLen at hck;obtain ⟨hck1,hck2⟩:=hck;have HNR:=zH hnr;obtain ⟨s1,hs1⟩:∃q,s.fh1 h=q:=⟨_,rfl⟩;obtain ⟨s2,hs2⟩:∃q,s1.fh2 h=q:=⟨_,rfl⟩;obtain ⟨s3,hs3⟩:∃q,s2.fh3 h=q:=⟨_,rfl⟩;obtain ⟨s4,hs4⟩:∃q,s3.fh4 h=q:=⟨_,rfl⟩;obtain ⟨t1,ht1⟩:∃q,rC .all (s4.fnb h.names) kb=q:=⟨_,rfl⟩;have hfu:s.funH h=s4:=by rw [← hs4,← hs3,← hs2,← hs1]; rfl
 have HFS:Hid (s1.fs=s.fs∧s2.fs=s.fs):=by
  have h1:s1.fs=s.fs:=by rw [← hs1]; unfold RS.fh1; split <;> simp only [fail_fs]
  exact ⟨h1,by rw [← hs2,← h1]; unfold RS.fh2; split <;> simp only [fail_fs]⟩
 rw [hfu,ht1] at HA ⊢;have HS1:=zH hs1;have HS2:=zH hs2;have HS3:=zH hs3;have HS4:=zH hs4;have HSZ:=zH hb0.size;clear hcell hk2 hN hrt hkr hnr hb0 hr hln ih hbz hs1 hs2 hs3 hs4 ht1 hfu;obtain ⟨kd,tx,nu,nm,ps⟩:=h;simp only at HLN HNR HA HS1 HS2 HS3 HS4;obtain ⟨nl,hnl⟩:∃l,nm.length=l:=⟨_,rfl⟩;have HNL:=zH hnl;unfold ndV at HF0 ⊢;simp only [hnl] at HF0 HNR HLN ⊢;clear hnl
 go_enter Tryz.func78,Tryz.ntmps78
 obtain ⟨y0,y1,y2,y3,y4,y5⟩:=rsix (zH HF0.out.k)
 have c4:=HF0.out.r.blk.cell 4
 obtain ⟨tb,htb⟩:∃q,s.top=q:=⟨_,rfl⟩
 have HTB:=zH htb
 rw [htb] at c4;clear htb;go_upto_if 10 with fail
 clear y0 y1 y2 y3 y4 y5 c4;generalize w.alloc (.cells #[.int .i64 kd,.string ⟨tx.toArray⟩,.int .i64 nu,.slice xn nl cn,.slice (some ⟨b2,o2,none⟩) 1 ck,.int .i64 ps] 31)=wz at*;generalize hA:w.heap.size=A at*;have HSW:Hid (w0.heap.size≤w.heap.size):=by rw [hA]; exact HSZ.out
 clear hA;go_cut [] from 11 to 14 (fun wx=>Hid (Fst w0.heap.size S A fv #[.int .i64 kd,.string ⟨tx.toArray⟩,.int .i64 nu,.slice xn nl cn,.slice (some ⟨b2,o2,none⟩) 1 ck,.int .i64 ps] w wx s1 nv fv))
 case first=>
  obtain ⟨y0,y1,y2,y3,y4,y5⟩:=rsix (zH HF0.out.k)
  cases tb with
  | true=>
   have HE:Hid (s1=s):=by show _=_; rw [← HS1.out]; unfold RS.fh1; rw [HTB.out,if_neg (by simp)]
   go_wp2_with fail;go_meet
   case rel=>rw [HE.out]; exact HF0
  | false=>
   have HE:Hid (s1=s.fail ps 14):=by show _=_; rw [← HS1.out]; unfold RS.fh1; rw [HTB.out,if_pos rfl]
   have HFL:=zH (rfail_any _ HF0.out.r ps 14)
   go_wp2_with fail;refine HFL.out.mono ?_;rintro e w1 ⟨rfl,hr2,hc2⟩;have HF1:Hid (Fst w0.heap.size S A fv #[.int .i64 kd,.string ⟨tx.toArray⟩,.int .i64 nu,.slice xn nl cn,.slice (some ⟨b2,o2,none⟩) 1 ck,.int .i64 ps] w w1 s1 nv fv):=by rw [HE.out]; exact HF0.out.same hr2 hc2
   clear hr2 hc2 HFL;go_wp2_with fail;go_meet
   case rel=>exact HF1
 case rest=>
 have HF1:=hcut
 clear HF0 hcut;go_upto_region 3 with fail
 go_cut [21] from 15 to 20 (fun v21 wx=>∃q,v21=.bool q∧Hid (q=decide (tx∈s1.fs))∧Hid (Fst w0.heap.size S A fv #[.int .i64 kd,.string ⟨tx.toArray⟩,.int .i64 nu,.slice xn nl cn,.slice (some ⟨b2,o2,none⟩) 1 ck,.int .i64 ps] w wx s1 nv fv))
 case first=>
  obtain ⟨y0,y1,y2,y3,y4,y5⟩:=rsix (zH HF1.out.k)
  have c5:wc.cell? ⟨S,5,none⟩=some fv:=HF1.out.r.blk.cell 5
  have HB:Hid (∀m,Below wc.heap.size wc (wc.drewN m)):=fun m=>drewN_below (Below.refl _ _) m
  have HH:=zH (fun m=>has_any s1.fs fv 0 tx (wc.drewN m) (own_nm (HF1.out.below (HB.out m)).r.fns) (by rw [HFS.out.1]; have:=HLF.out; omega))
  obtain ⟨q,hq⟩:∃q,decide (tx∈s1.fs.drop 0)=q:=⟨_,rfl⟩
  have HQ:Hid (q=decide (tx∈s1.fs)):=by show _=_; rw [← hq,List.drop_zero]
  rw [hq] at HH;clear hq;go_quiet ((go_at_call 81; exact Calls.quiet_of_same (HH.out _)));go_wp2_with fail;go_meet
  case rel=>exact ⟨q,rfl,HQ,HF1.out.below (HB.out nq)⟩
 case rest=>
 obtain ⟨q,rfl,HQ,HF2⟩:=hcut
 clear HF1;go_upto_if 21 with fail
 go_cut [] from 22 to 25 (fun wx=>Hid (Fst w0.heap.size S A fv #[.int .i64 kd,.string ⟨tx.toArray⟩,.int .i64 nu,.slice xn nl cn,.slice (some ⟨b2,o2,none⟩) 1 ck,.int .i64 ps] w wx s2 nv fv))
 case first=>
  obtain ⟨y0,y1,y2,y3,y4,y5⟩:=rsix (zH HF2.out.k)
  cases q with
  | false=>
   have HE:Hid (s2=s1):=by show _=_; rw [← HS2.out]; unfold RS.fh2; rw [if_neg (of_decide_eq_false HQ.out.symm)]
   go_wp2_with fail;go_meet
   case rel=>rw [HE.out]; exact HF2
  | true=>
   have HE:Hid (s2=s1.fail ps 10):=by show _=_; rw [← HS2.out]; unfold RS.fh2; rw [if_pos (of_decide_eq_true HQ.out.symm)]
   have HFL:=zH (rfail_any _ HF2.out.r ps 10)
   go_wp2_with fail;refine HFL.out.mono ?_;rintro e w1 ⟨rfl,hr2,hc2⟩;have HF1:Hid (Fst w0.heap.size S A fv #[.int .i64 kd,.string ⟨tx.toArray⟩,.int .i64 nu,.slice xn nl cn,.slice (some ⟨b2,o2,none⟩) 1 ck,.int .i64 ps] w w1 s2 nv fv):=by rw [HE.out]; exact HF2.out.same hr2 hc2
   clear hr2 hc2 HFL;go_wp2_with fail;go_meet
   case rel=>exact HF1
 case rest=>
 have HF3:=hcut
 clear HF2 HQ hcut;go_upto_region 5 with fail
 go_cut [] from 26 to 36 (fun wx=>∃fv3,Hid (Fst w0.heap.size S A fv #[.int .i64 kd,.string ⟨tx.toArray⟩,.int .i64 nu,.slice xn nl cn,.slice (some ⟨b2,o2,none⟩) 1 ck,.int .i64 ps] w wx s3 nv fv3))
 case first=>
  have HFD:Hid (Fst w0.heap.size S A fv #[.int .i64 kd,.string ⟨tx.toArray⟩,.int .i64 nu,.slice xn nl cn,.slice (some ⟨b2,o2,none⟩) 1 ck,.int .i64 ps] w wc.drew s2 nv fv):=HF3.out.below (drewN_below (Below.refl _ _) 1)
  refine wp_region_held_drew (S:=fun _=>True) (by kernel_rfl) trivial (fun hHeld=>?_)
  clear hHeld;generalize wc.drew=wd at*;have hA1:wd.cell? ⟨A,1,none⟩=some (.string ⟨tx.toArray⟩):=HFD.out.k.cell 1;have hS5:wd.cell? ⟨S,5,none⟩=some fv:=HFD.out.r.blk.cell 5;have HSZD:Hid (w0.heap.size≤wd.heap.size):=Nat.le_trans HSW.out HFD.out.c.size;refine wpAnyH_weaken (S2:=fun W=>W.cell? ⟨A,1,none⟩=some (.string ⟨tx.toArray⟩)) (fun _ _=>trivial) ?_
  have hS:=hA1
  clear hA1;refine zT 0 hS ?_;try simp only [Act.put,zs1,zs2,zs3]
  refine zT 1 hS ?_;try simp only [Act.put,zs1,zs2,zs3]
  refine zT 2 hS ?_;try simp only [Act.put,zs1,zs2,zs3]
  refine zT 3 hS ?_;try simp only [Act.put,zs1,zs2,zs3]
  refine zT 5 hS ?_;try simp only [Act.put,zs1,zs2,zs3]
  refine zT 6 hS ?_;try simp only [Act.put,zs1,zs2,zs3]
  refine zF 4 7 (fun K hK=>?saa7) (fun K hK=>?sba7)
  case saa7=>
   go_simp;refine hK.out _ _ ?_ fun hT=>?_
   ·exact hS
   replace hS:=hT;clear hT hK K;try simp only [Act.put,zs1,zs2,zs3]
   refine zR 7 fun K hK=>?_
   go_simp;have HFA:=zH (HFD.out.below ((Below.refl wd.heap.size wd).alloc (Nat.le_refl _) (.cells #[.string ⟨tx.toArray⟩] 9)));have HN1:=zH (nm_one wd tx);generalize wd.alloc (.cells #[.string ⟨tx.toArray⟩] 9)=wa at*;generalize wd.heap.size=TT at*;refine hK.out _ _ ?_ fun hT=>?_
   ·exact HFA.out.k.cell 1
   replace hS:=hT;clear hT hK K;try simp only [Act.put,zs1,zs2,zs3]
   refine zR 8 fun K hK=>?_
   refine pstep_apS (base:=w0.heap.size) (acc:=s2.fs) (l:=[tx]) HFA.out.r.fns HN1.out (Nat.le_trans HSW.out HFA.out.c.size) (by rw [HFS.out.2]; have:=HLF.out; simp only [List.length_cons,List.length_nil]; omega) rfl rfl (by rfl) (by rfl) ?_
   intro v8 w8 h1 h2 h3;obtain ⟨x8,c8,rfl⟩:=own_slice h1;have HG:=zH (HFA.out.r.grow (Nat.le_trans HSW.out HFA.out.c.size) h1 h2 h3);have HF8:=zH (HFA.out.step HG.out.1 HG.out.2 (fun g hg=>h3.elim (fun he=>Or.inl (he ▸ hg)) (fun he=>Or.inr (by rw [he] at hg; injection hg with hg; omega))))
   have hb8:Blk w8 S 49 _:=(h2.block S HFA.out.r.blk.lt (fun he=>HFA.out.r.own_ne he.symm)).trans HFA.out.r.blk
   have ha8:Blk w8 A 31 _:=(h2.block A HFA.out.k.lt (own_blk_ne' HFA.out.k HFA.out.r.fns.2 (by decide))).trans HFA.out.k
   have c5:w8.cell? ⟨S,5,none⟩=some fv:=hb8.cell 5
   have f5:w8.frozen? ⟨S,5,none⟩=false:=hb8.frozen 5
   have a1:w8.cell? ⟨A,1,none⟩=some (.string ⟨tx.toArray⟩):=ha8.cell 1
   clear hb8 ha8 h1 h2 h3 HG;refine hK.out _ _ ?_ fun hT=>?_
   ·exact a1
   replace hS:=hT;clear hT hK K;try simp only [Act.put,zs1,zs2,zs3]
   refine zT 9 hS ?_;try simp only [Act.put,zs1,zs2,zs3]
   refine zT 10 hS ?_;try simp only [Act.put,zs1,zs2,zs3]
   refine zR 11 fun K hK=>?_
   go_simp;refine hK.out _ _ ?_ fun hT=>?_
   ·exact HF8.out.k.cell 1
   replace hS:=hT;clear hT hK K;try simp only [Act.put,zs1,zs2,zs3]
   refine wpAnyH_done (by kernel_rfl) ?_ _
   go_wp2_with fail;go_meet
   case rel=>exact ⟨_,by rw [← HS3.out]; exact HF8⟩
  case sba7=>
   go_simp;have HFA:=zH (HFD.out.below ((Below.refl wd.heap.size wd).alloc (Nat.le_refl _) (.cells #[.string ⟨tx.toArray⟩] 9)));have HN1:=zH (nm_one wd tx);generalize wd.alloc (.cells #[.string ⟨tx.toArray⟩] 9)=wa at*;generalize wd.heap.size=TT at*;refine hK.out _ _ ?_ fun hT=>?_
   ·exact HFA.out.k.cell 1
   replace hS:=hT;clear hT hK K;try simp only [Act.put,zs1,zs2,zs3]
   have hA5:wa.cell? ⟨S,5,none⟩=some fv:=HFA.out.r.blk.cell 5
   refine zR 4 fun K hK=>?_
   go_simp;refine hK.out _ _ ?_ fun hT=>?_
   ·exact hS
   replace hS:=hT;clear hT hK K;try simp only [Act.put,zs1,zs2,zs3]
   refine zR 8 fun K hK=>?_
   refine pstep_apS (base:=w0.heap.size) (acc:=s2.fs) (l:=[tx]) HFA.out.r.fns HN1.out (Nat.le_trans HSW.out HFA.out.c.size) (by rw [HFS.out.2]; have:=HLF.out; simp only [List.length_cons,List.length_nil]; omega) rfl rfl (by rfl) (by rfl) ?_
   intro v8 w8 h1 h2 h3;obtain ⟨x8,c8,rfl⟩:=own_slice h1;have HG:=zH (HFA.out.r.grow (Nat.le_trans HSW.out HFA.out.c.size) h1 h2 h3);have HF8:=zH (HFA.out.step HG.out.1 HG.out.2 (fun g hg=>h3.elim (fun he=>Or.inl (he ▸ hg)) (fun he=>Or.inr (by rw [he] at hg; injection hg with hg; omega))))
   have hb8:Blk w8 S 49 _:=(h2.block S HFA.out.r.blk.lt (fun he=>HFA.out.r.own_ne he.symm)).trans HFA.out.r.blk
   have ha8:Blk w8 A 31 _:=(h2.block A HFA.out.k.lt (own_blk_ne' HFA.out.k HFA.out.r.fns.2 (by decide))).trans HFA.out.k
   have c5:w8.cell? ⟨S,5,none⟩=some fv:=hb8.cell 5
   have f5:w8.frozen? ⟨S,5,none⟩=false:=hb8.frozen 5
   have a1:w8.cell? ⟨A,1,none⟩=some (.string ⟨tx.toArray⟩):=ha8.cell 1
   clear hb8 ha8 h1 h2 h3 HG;refine hK.out _ _ ?_ fun hT=>?_
   ·exact a1
   replace hS:=hT;clear hT hK K;try simp only [Act.put,zs1,zs2,zs3]
   refine zT 9 hS ?_;try simp only [Act.put,zs1,zs2,zs3]
   refine zT 10 hS ?_;try simp only [Act.put,zs1,zs2,zs3]
   refine zR 11 fun K hK=>?_
   go_simp;refine hK.out _ _ ?_ fun hT=>?_
   ·exact HF8.out.k.cell 1
   replace hS:=hT;clear hT hK K;try simp only [Act.put,zs1,zs2,zs3]
   refine wpAnyH_done (by kernel_rfl) ?_ _
   go_wp2_with fail;go_meet
   case rel=>exact ⟨_,by rw [← HS3.out]; exact HF8⟩
 case rest=>
 obtain ⟨fv3,HF4⟩:=hcut
 clear HF3 HFS HLF
 -- names twice
 go_wp2_with fail;go_loopw [4] (fun vi wr=>∃(i:Nat) (q:Bool),vi=.int .i64 i∧i≤nl∧Hid (¬ nm.Nodup↔(q=true∨¬ (nm.drop i).Nodup))∧Hid (Fst w0.heap.size S A fv #[.int .i64 kd,.string ⟨tx.toArray⟩,.int .i64 nu,.slice xn nl cn,.slice (some ⟨b2,o2,none⟩) 1 ck,.int .i64 ps] w wr (if q=true then s3.fail ps 10 else s3) nv fv3)) (fun vi _=>nl - (intOf vi).toNat)
 case atStart=>exact ⟨0,false,rfl,Nat.zero_le _,by show _↔_; simp,HF4⟩
 case round=>
  clear HF4;obtain ⟨i,q,rfl,hi,HQ,HFR⟩:=hrel;obtain ⟨y0,y1,y2,y3,y4,y5⟩:=rsix (zH HFR.out.k);by_cases hlt:i < nl
  ·have dlt:decide ((i:Int) < (nl:Int))=true:=by simp; omega
   have i1:(i:Int) < (nl:Int):=by omega
   have hin:i < nm.length:=by rw [HNL.out]; exact hlt
   have HNW:Hid (∀m,NmRow (wr.drewN m) (.slice xn nl cn) nm):=fun m=>HNR.out.below (drewN_below (HLO.out _ _ _ _ _ HFR.out) m)
   obtain ⟨b,off,rfl,hcell⟩:∃b off,xn=some ⟨b,off,none⟩∧∀m,(wr.drewN m).cell? ⟨b,off+i,none⟩=some (.string ⟨nm[i].toArray⟩):=nm_at HNW.out i hin
   obtain ⟨g,hg⟩:∃g,nm[i]=g:=⟨_,rfl⟩
   rw [hg] at hcell;have hdr:nm.drop i=g::nm.drop (i+1):=by rw [← hg]; exact List.drop_eq_getElem_cons hin
   have HB:Hid (∀m,Below wr.heap.size wr (wr.drewN m)):=fun m=>drewN_below (Below.refl _ _) m
   have HH:Hid (∀m,Calls Tryz.prog 81 #[.slice (some ⟨b,off,none⟩) nl cn,.int .i64 ((i:Int)+1),.string ⟨g.toArray⟩] (wr.drewN m) fun e w'=>e=.returned (.bool (decide (g∈nm.drop (i+1))))∧w'=wr.drewN m):=fun m=>(has_any nm (.slice (some ⟨b,off,none⟩) nl cn) (i+1) g (wr.drewN m) (HNW.out m) (by rw [HNL.out]; exact HLN.out))
   obtain ⟨p,hp⟩:∃p,decide (g∈nm.drop (i+1))=p:=⟨_,rfl⟩
   rw [hp] at HH;have HQ2:Hid (¬ nm.Nodup↔((q||p)=true∨¬ (nm.drop (i+1)).Nodup)):=by
    show _↔_
    rw [HQ.out,hdr,List.nodup_cons,← hp];simp only [Bool.or_eq_true,decide_eq_true_eq,Classical.not_and_iff_not_or_not,Classical.not_not];exact or_assoc.symm
   have hil:(i:Int) < 1099511627776:=by have:=HLN.out; omega
   clear hdr hp hg hin HQ HNW;go_upto_region 9 with fail
   go_cut [53] from 44 to 52 (fun v53 wx=>v53=.bool p∧Hid (Fst w0.heap.size S A fv #[.int .i64 kd,.string ⟨tx.toArray⟩,.int .i64 nu,.slice (some ⟨b,off,none⟩) nl cn,.slice (some ⟨b2,o2,none⟩) 1 ck,.int .i64 ps] w wx (if q=true then s3.fail ps 10 else s3) nv fv3))
   case first=>
    go_quiet ((go_at_call 81; exact Calls.quiet_of_same (HH.out _)))
    go_wp2_with fail;go_meet
    case rel=>exact ⟨rfl,HFR.out.below (HB.out nq)⟩
   case rest=>
   obtain ⟨rfl,HF5⟩:=hcut
   clear HFR HH y0 y1 y2 y3 y4 y5;go_upto_if 53 with fail
   obtain ⟨y0,y1,y2,y3,y4,y5⟩:=rsix (zH HF5.out.k)
   cases p with
   | false=>
    have HE:Hid ((if (q||false)=true then s3.fail ps 10 else s3)=if q=true then s3.fail ps 10 else s3):=by show _=_; rw [Bool.or_false]
    go_wp2_with fail;go_roundw
    case rel=>exact ⟨i+1,q||false,by go_num,by omega,HQ2,by rw [HE.out]; exact HF5⟩
    case measure=>simp [intOf]; omega
   | true=>
    have HE:Hid ((if (q||true)=true then s3.fail ps 10 else s3)=(if q=true then s3.fail ps 10 else s3).fail ps 10):=by
     show _=_
     cases q
     ·rfl
     ·exact (fail_fail s3 ps 10 (by decide)).symm
    have HFL:=zH (rfail_any _ HF5.out.r ps 10)
    go_wp2_with fail;refine HFL.out.mono ?_;rintro e w1 ⟨rfl,hr2,hc2⟩;have HF6:Hid (Fst w0.heap.size S A fv #[.int .i64 kd,.string ⟨tx.toArray⟩,.int .i64 nu,.slice (some ⟨b,off,none⟩) nl cn,.slice (some ⟨b2,o2,none⟩) 1 ck,.int .i64 ps] w w1 (if (q||true)=true then s3.fail ps 10 else s3) nv fv3):=by rw [HE.out]; exact HF5.out.same hr2 hc2
    clear hr2 hc2 HFL;go_wp2_with fail;go_roundw
    case rel=>exact ⟨i+1,q||true,by go_num,by omega,HQ2,HF6⟩
    case measure=>simp [intOf]; omega
  ·have dlt:decide ((i:Int) < (nl:Int))=false:=by simp; omega
   have HE:Hid (s4=if q=true then s3.fail ps 10 else s3):=by
    show _=_
    have hd:nm.drop i=[]:=List.drop_eq_nil_of_le (by have:=HNL.out; omega)
    have hq:¬ nm.Nodup↔q=true:=by rw [HQ.out,hd]; simp
    rw [← HS4.out];unfold RS.fh4
    cases q
    ·rw [if_neg (fun h=>by simpa using hq.1 h)]; rfl
    ·rw [if_pos (hq.2 rfl)]; rfl
   have HF5:Hid (Fst w0.heap.size S A fv #[.int .i64 kd,.string ⟨tx.toArray⟩,.int .i64 nu,.slice xn nl cn,.slice (some ⟨b2,o2,none⟩) 1 ck,.int .i64 ps] w wr s4 nv fv3):=by rw [HE.out]; exact HFR.out
   clear HQ HE hi HNL;go_upto_region 11 with fail
   clear dlt hlt y0 y1 y2 y3 y4 y5 HFR;generalize wr=wv at*
   go_cut [5] from 58 to 64 (fun v5 wx=>∃(T:Nat),v5=.pointer (some ⟨T,0,none⟩)∧Hid (w0.heap.size≤T∧wv.heap.size≤T)∧Hid (RkW w0.heap.size wx T (s4.fnb nm) (.slice xn nl cn) (.slice none 0 0))∧Hid (Fst w0.heap.size S A fv #[.int .i64 kd,.string ⟨tx.toArray⟩,.int .i64 nu,.slice xn nl cn,.slice (some ⟨b2,o2,none⟩) 1 ck,.int .i64 ps] w wx s4 nv fv3)∧Hid (Below wv.heap.size wv wx))
   case first=>
    have HFD:Hid (Fst w0.heap.size S A fv #[.int .i64 kd,.string ⟨tx.toArray⟩,.int .i64 nu,.slice xn nl cn,.slice (some ⟨b2,o2,none⟩) 1 ck,.int .i64 ps] w wv.drew s4 nv fv3):=HF5.out.below (drewN_below (Below.refl _ _) 1)
    have HBD:Hid (Below wv.heap.size wv wv.drew):=drewN_below (Below.refl _ _) 1
    have HSV:Hid (w0.heap.size≤wv.heap.size):=Nat.le_trans HSW.out HF5.out.c.size
    obtain ⟨e4,he4⟩:∃q,s4.e=q:=⟨_,rfl⟩
    have HE4:=zH he4
    have hA1:wv.drew.cell? ⟨A,3,none⟩=some (.slice xn nl cn)∧wv.drew.cell? ⟨S,7,none⟩=some (.int .i64 (e4:Nat)):=⟨HFD.out.k.cell 3,by rw [← he4]; exact HFD.out.r.blk.cell 7⟩
    clear he4;refine wp_region_held_drew (S:=fun _=>True) (by kernel_rfl) trivial (fun hHeld=>?_)
    clear hHeld;generalize wv.drew=wd at*;refine wpAnyH_weaken (S2:=fun W=>W.cell? ⟨A,3,none⟩=some (.slice xn nl cn)∧W.cell? ⟨S,7,none⟩=some (.int .i64 (e4:Nat))) (fun _ _=>trivial) ?_
    have hS:=hA1
    clear hA1;refine zT 0 hS ?_;try simp only [Act.put,zs1,zs2,zs3]
    refine zT 1 hS ?_;try simp only [Act.put,zs1,zs2,zs3]
    refine zT 2 hS ?_;try simp only [Act.put,zs1,zs2,zs3]
    refine zT 3 hS ?_;try simp only [Act.put,zs1,zs2,zs3]
    refine zT 4 hS ?_;try simp only [Act.put,zs1,zs2,zs3]
    refine zT 5 hS ?_;try simp only [Act.put,zs1,zs2,zs3]
    refine zT 6 hS ?_;try simp only [Act.put,zs1,zs2,zs3]
    refine zR 7 fun K hK=>?_
    go_simp;have HTT:=zH (Blk.new wd 49 #[.slice none 0 0,.int .i64 0,.bool false,.bool false,.bool false,.slice none 0 0,.int .i64 0,.int .i64 0]);have HTB:Hid (wv.heap.size≤wd.heap.size):=HBD.out.size
    have HFA:=zH (HFD.out.below ((Below.refl wd.heap.size wd).alloc (Nat.le_refl _) (.cells #[.slice none 0 0,.int .i64 0,.bool false,.bool false,.bool false,.slice none 0 0,.int .i64 0,.int .i64 0] 49)))
    have HFB:=zH (HFD.out.below (below_rset ((Below.refl wd.heap.size wd).alloc (Nat.le_refl _) (.cells #[.slice none 0 0,.int .i64 0,.bool false,.bool false,.bool false,.slice none 0 0,.int .i64 0,.int .i64 0] 49)) (Nat.le_refl _) #[.slice xn nl cn,.int .i64 0,.bool true,.bool false,.bool false,.slice none 0 0,.int .i64 0,.int .i64 (e4:Nat)]))
    have HBB:=zH (below_rset (HBD.out.alloc HBD.out.size (.cells #[.slice none 0 0,.int .i64 0,.bool false,.bool false,.bool false,.slice none 0 0,.int .i64 0,.int .i64 0] 49)) HBD.out.size #[.slice xn nl cn,.int .i64 0,.bool true,.bool false,.bool false,.slice none 0 0,.int .i64 0,.int .i64 (e4:Nat)])
    generalize wd.alloc (.cells #[.slice none 0 0,.int .i64 0,.bool false,.bool false,.bool false,.slice none 0 0,.int .i64 0,.int .i64 0] 49)=wa at*;generalize wd.heap.size=TT at*;refine hK.out _ _ ?_ fun hT=>?_
    ·exact ⟨HFA.out.k.cell 3,by have h:=HFA.out.r.blk.cell 7; rw [HE4.out] at h; exact h⟩
    replace hS:=hT;clear hT hK K;try simp only [Act.put,zs1,zs2,zs3]
    refine zR 8 fun K hK=>?_
    refine pstep_store rfl 49 (.tmp 5) (.tmp 64) rfl rfl TT #[.slice xn nl cn,.int .i64 0,.bool true,.bool false,.bool false,.slice none 0 0,.int .i64 0,.int .i64 (e4:Nat)] (by rfl) (by rfl) 49 _ HTT.out (by rfl) rfl (by simp [Value.oneCell']) ?_
    refine hK.out _ _ ?_ fun hT=>?_
    ·exact ⟨HFB.out.k.cell 3,by have h:=HFB.out.r.blk.cell 7; rw [HE4.out] at h; exact h⟩
    replace hS:=hT;clear hT hK K;try simp only [Act.put,zs1,zs2,zs3]
    refine wpAnyH_done (by kernel_rfl) ?_ _
    go_wp2_with fail;go_meet
    case rel=>exact ⟨TT,rfl,⟨Nat.le_trans HSV.out HTB.out,HTB.out⟩,by unfold RS.fnb; rw [HE4.out]; exact new_scope2 (HTT.out.rset _) HNR.out (HLO.out _ _ _ _ _ HFB.out) (Nat.le_trans HSV.out HTB.out),HFB,HBB⟩
   case rest=>
   obtain ⟨TT,rfl,HTB,HRT,HFV,HBV⟩:=hcut
   obtain ⟨y0,y1,y2,y3,y4,y5⟩:=rsix (zH HFV.out.k)
   have k4:=HKC.out _ (HLO.out _ _ _ _ _ HFV.out)
   have HAL:=zH (HA.out _ _ TT _ _ HK2.out (HLO.out _ _ _ _ _ HFV.out) HRT.out)
   go_wp2_with fail;refine HAL.out.mono ?_;rintro e w1 ⟨rfl,nvt',fvt',hrt,hct,-⟩;have hb1:Below wv.heap.size wv w1:=HBV.out.trans ⟨hct.os,hct.tape,hct.output,hct.size,fun k hk=>hct.block k (by have:=HBV.out.size; omega) (by have:=HTB.out.2; omega) (by simp [Value.ownBlock])⟩
   have HF7:=zH (HF5.out.below hb1)
   have s7:w1.cell? ⟨S,7,none⟩=some (.int .i64 (s4.e:Nat)):=HF7.out.r.blk.cell 7
   have t6:w1.cell? ⟨TT,6,none⟩=some (.int .i64 t1.pos):=hrt.blk.cell 6
   have t7:w1.cell? ⟨TT,7,none⟩=some (.int .i64 (t1.e:Nat)):=hrt.blk.cell 7
   clear hrt hct hb1 HAL HA HRT HBV y0 y1 y2 y3 y4 y5 k4 HFV;obtain ⟨es,hes⟩:∃q,s4.e=q:=⟨_,rfl⟩;obtain ⟨et,het⟩:∃q,t1.e=q:=⟨_,rfl⟩;have HES:=zH hes;have HET:=zH het;rw [hes] at s7;rw [het] at t7;clear hes het;by_cases hz:es=0
   ·have g1:((es:Int)==0)=true:=by simp [hz]
    by_cases hq:et=0
    ·have g2:((et:Int) != 0)=false:=by simp [hq]
     have HJ:Hid (s4.join t1=s4):=by show _=_; unfold RS.join; rw [if_neg (by rw [HET.out]; intro h; exact h.2 hq)]
     clear hz hq;go_wp2_with fail;refine bodyPost_end (results_none rfl _ _ _) rfl ?_;exact ⟨rfl,nv,fv3,by rw [HJ.out]; exact HF7.out.r,HF7.out.c,HF7.out.o⟩
    ·have g2:((et:Int) != 0)=true:=by simp [hq]
     have HJ:Hid (s4.join t1=s4.fail t1.pos et):=by show _=_; unfold RS.join; rw [if_pos (by rw [HET.out,HES.out]; exact ⟨hz,hq⟩),HET.out]
     have HF:=zH (rfail_any w1 HF7.out.r t1.pos et)
     clear hz hq;go_wp2_with fail;refine HF.out.mono ?_;rintro e w2 ⟨rfl,hr2,hc2⟩;have HF8:=zH (HF7.out.same hr2 hc2);clear hr2 hc2 HF;go_wp2_with fail;refine bodyPost_end (results_none rfl _ _ _) rfl ?_;exact ⟨rfl,nv,fv3,by rw [HJ.out]; exact HF8.out.r,HF8.out.c,HF8.out.o⟩
   ·have g1:((es:Int)==0)=false:=by simp [hz]
    have HJ:Hid (s4.join t1=s4):=by show _=_; unfold RS.join; rw [if_neg (by rw [HES.out]; intro h; exact hz h.1)]
    clear hz;go_wp2_with fail;refine bodyPost_end (results_none rfl _ _ _) rfl ?_;exact ⟨rfl,nv,fv3,by rw [HJ.out]; exact HF7.out.r,HF7.out.c,HF7.out.o⟩
end Go.Proofs.YtbaidkefobhipaaGreatDoor
