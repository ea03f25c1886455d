/-
  Walk: the checker's loop.
  A region that draws its order, whose callees may make memory of their own, and whose last operations write: the head is walked once, for every order; the tail comes behind it, in a world of the class.
  Walk: the checker's function.
-/
import Derived.Test.YtbaidkefobhipaaGreatDoorZS23
import Derived.Test.YtbaidkefobhipaaGreatDoorZS21
import Derived.StillTail
namespace Go.Proofs.YtbaidkefobhipaaGreatDoor
set_option maxHeartbeats 16000000
set_option maxRecDepth 100000
open Go.RowKit

theorem heap_setC (w:World) (C i:Nat) (u:Value) (k:Nat) (h:k≠C):(w.setCell ⟨C,i,none⟩ u).heap[k]?=w.heap[k]?:=Below.heap_setCell _ _ _ k h
theorem Ch.putC {C:Nat} {v:Value} {bs:List Nat} {fb:Nat} {w w':World} (h:Ch C v bs fb w w') (i:Nat) (u:Value):Ch C v bs fb w (w'.setCell ⟨C,i,none⟩ u):=
 ⟨h.os,h.tape,h.output,by simpa [World.setCell] using h.size,fun k hk h1 h2 h3 h4=>(heap_setC _ _ _ _ k h1).trans (h.block k hk h1 h2 h3 h4)⟩
theorem CkW.inC {B:Nat} {w w':World} {C:Nat} {s s':CS} {v:Value} {bs:List Nat} {fb:Nat} (h:CkW B w C s v bs fb) (hk:∀k,k≠C→w'.heap[k]?=w.heap[k]?) (hb:Blk w' C 46 #[v,.map (some fb),.int .i64 (s'.lo:Nat),.bool s'.inF]) (hs:s'.ss=s.ss) (hf:s'.fs=s.fs):CkW B w' C s' v bs fb:=
 ⟨hb,own_keep h.row fun g hg _=>hk g fun he=>h.own_ne (he ▸ hg),h.nd,by rw [hf]; exact h.fset.keep (hk _ fun he=>(he ▸ h.fset).noblk h.blk),by rw [hs]; exact h.sets.keep fun b hm=>hk b fun he=>SetsAt.noblk h.blk h.sets (he ▸ hm),h.ge⟩
theorem CkW.setLo {B:Nat} {w:World} {C:Nat} {s:CS} {v:Value} {bs:List Nat} {fb:Nat} (h:CkW B w C s v bs fb) (m:Nat):CkW B (w.setCell ⟨C,2,none⟩ (.int .i64 (m:Nat))) C { s with lo:=m } v bs fb:=
 h.inC (fun k hk=>heap_setC _ _ _ _ k hk) (h.blk.put 2 _) rfl rfl
theorem CkW.setInF {B:Nat} {w:World} {C:Nat} {s:CS} {v:Value} {bs:List Nat} {fb:Nat} (h:CkW B w C s v bs fb) (b:Bool):CkW B (w.setCell ⟨C,3,none⟩ (.bool b)) C { s with inF:=b } v bs fb:=
 h.inC (fun k hk=>heap_setC _ _ _ _ k hk) (h.blk.put 3 _) rfl rfl
theorem CkW.blank {B:Nat} {w:World} {C:Nat} {s:CS} {v:Value} {bs:List Nat} {fb:Nat} (h:CkW B w C s v bs fb):CkW B (w.setCell ⟨C,0,none⟩ (.slice none 0 0)) C { s with ss:=[] } (.slice none 0 0) [] fb:=
 ⟨h.blk.put 0 _,World.ownsRow_nil _ _ _ _,by simp,h.fset.keep (heap_setC _ _ _ _ _ fun he=>(he ▸ h.fset).noblk h.blk),trivial,h.ge.1,h.ge.2.1,fun b hb=>by cases hb⟩
theorem CkW.back {B:Nat} {w w1 w':World} {C:Nat} {s s':CS} {v vv:Value} {bs:List Nat} {fb:Nat} (h:CkW B w C s v bs fb) (h1:CkW B w' C s' vv [] fb) (h2:∀k,k≠C→k≠fb→k < w.heap.size→w1.heap[k]?=w.heap[k]?) (hsz:w.heap.size≤w1.heap.size)
  (hc:Ch C (.slice none 0 0) [] fb w1 w'):CkW B (w'.setCell ⟨C,0,none⟩ v) C { s' with ss:=s.ss } v bs fb:=by
 have key:∀k,k < w.heap.size→k≠C→k≠fb→(w'.setCell ⟨C,0,none⟩ v).heap[k]?=w.heap[k]?:=fun k hk h3 h4=>
  (heap_setC _ _ _ _ k h3).trans ((hc.block k (by omega) h3 (by simp [Value.ownBlock]) (by simp) h4).trans (h2 k h3 h4 hk))
 refine ⟨h1.blk.put 0 _,own_keep h.row fun g hg hl=>key g hl (fun he=>h.own_ne (he ▸ hg)) (fun he=>h.fset.own_ne h.row (he ▸ hg)),h.nd,h1.fset.keep (heap_setC _ _ _ _ _ fun he=>(he ▸ h1.fset).noblk h1.blk),h.sets.keep fun b hm=>key b (h.sets.lt b hm) (fun he=>SetsAt.noblk h.blk h.sets (he ▸ hm)) (fun he=>?_),h.ge⟩
 have:=h.nd
 rw [List.nodup_cons] at this;exact this.1 (he ▸ hm)
theorem nmrow_one {w:World} {k:Nat} {ty:TypeId} {t:Nm} (h:Blk w k ty #[.string ⟨t.toArray⟩]):NmRow w (.slice (some ⟨k,0,none⟩) 1 1) [t]:=
 ⟨_,_,rfl,Nat.le_refl _,by unfold maxLen; decide,(fun h=>by cases h),fun _=>⟨k,0,rfl,fun i hi=>by
  have:i=0:=by simpa using hi
  subst this;exact h.cell 0⟩⟩
theorem NmRow.cellsame {w:World} {v:Value} {l:List Nm} (h:NmRow w v l) (C:Nat) {x:Value} {a b c:Value} (hc:Blk w C 46 #[x,a,b,c]) (hx:∀s,x≠.string s) (ha:∀s,a≠.string s) (hb:∀s,b≠.string s) (hd:∀s,c≠.string s) (i:Nat) (u:Value):NmRow (w.setCell ⟨C,i,none⟩ u) v l:=
 RowW.mono h fun b1 o1 hp j hj=>by
  have h1:=hp j hj
  have hne:b1≠C:=by
   rintro rfl;have h2:=h1;rw [hc.cell] at h2;generalize o1+j=m at h2;match m,h2 with
   | 0,h2=>exact hx _ (by simpa using h2)
   | 1,h2=>exact ha _ (by simpa using h2)
   | 2,h2=>exact hb _ (by simpa using h2)
   | 3,h2=>exact hd _ (by simpa using h2)
   | n+4,h2=>simp at h2
  unfold World.cell? at h1 ⊢;rw [heap_setC w C i u b1 hne];exact h1
theorem CkW.names {B:Nat} {w:World} {C:Nat} {s:CS} {v:Value} {bs:List Nat} {fb:Nat} (h:CkW B w C s v bs fb) {nv:Value} {l:List Nm} (hn:NmRow w nv l) (i:Nat) (u:Value):NmRow (w.setCell ⟨C,i,none⟩ u) nv l:=by
 obtain ⟨x,c,rfl,-⟩:=h.shape
 exact hn.cellsame C h.blk (fun s h=>by cases h) (fun s h=>by cases h) (fun s h=>by cases h) (fun s h=>by cases h) i u
theorem ckC_loop (ns:List Nm) (s:CS) (hb:Hd) (kb:Fo):∀A:Fo,ckC (.loop ns) s (A.app (.cons hb kb .nil))=(exC s.ss A).then fun _=>(blD false { s with lo:=s.lo+1 } ns kb).then fun s'=>.ok { s' with lo:=s.lo }:=by
 intro A;induction A with
 | nil=>
  show (ckC (.st false) ({ s with lo:=s.lo+1 }.push ns) kb).then _=_
  unfold blD;rw [show (exC s.ss .nil)=.ok () from rfl]
  simp only [CE.then]
  cases ckC (.st false) ({ s with lo:=s.lo+1 }.push ns) kb <;> rfl
 | cons h k r _ ih=>
  have e1:∃h2 k2 r2,r.app (.cons hb kb .nil)=.cons h2 k2 r2:=by cases r with
   | nil=>exact ⟨_,_,_,rfl⟩
   | cons h2 k2 r2=>exact ⟨_,_,_,rfl⟩
  obtain ⟨h2,k2,r2,e1⟩:=e1
  simp only [Fo.app];rw [e1];simp only [ckC];rw [← e1,ih,exC_cons,exD];split
  ·rfl
  ·cases exC s.ss k <;> rfl

def LpOk (w0:World) (N:Nat):Prop:=∀(h:Hd) (A:Fo) (hb:Hd) (kb:Fo) (xn xk:Option Addr) (cn n ck:Nat) (w:World) (C:Nat) (s:CS) (v:Value) (bs:List Nat) (fb:Nat),(A.app (.cons hb kb .nil)).size < N+1→rt .st kb=true→
 FRow w0 (.slice xk n ck) (A.app (.cons hb kb .nil))→Below w0.heap.size w0 w→CkW w0.heap.size w C s v bs fb→s.lo+(A.app (.cons hb kb .nil)).size≤Mx→bs.length+(A.app (.cons hb kb .nil)).size+1≤Mx→
 Calls Tryz.prog 71 #[.pointer (some ⟨C,0,none⟩),.agg (ndV h (.slice xn h.names.length cn) (.slice xk n ck))] w fun e w'=>CkR w0.heap.size C v bs fb (ckC (.loop (if h.kind=24 then [h.text] else [])) s (A.app (.cons hb kb .nil))) w e w'

theorem loop_step (w0:World) (N:Nat) (hbl:BlOk w0 N):LpOk w0 N:=by
 intro h A hb kb xn xk cn nk ck w C s v bs fb hN hrt hxr hbw hck hlo hbs;have hszk:=FRow.size_le (A:=A) (h:=hb) (k:=kb) (r:=.nil);have HBL:=zH hbl;have HN:Hid (kb.size < N):=by show _ < _; omega
 have HRT:=zH hrt
 have HLO:Hid (s.lo+1+kb.size≤Mx):=by show _≤_; omega
 have HBS:Hid (bs.length+kb.size+1≤Mx):=by show _≤_; omega
 obtain rfl:nk=A.len+1:=by rw [hxr.len_eq,Fo.app_len]; rfl
 have hlm:s.lo+1≤1099511627776:=by unfold Mx at hlo; omega
 obtain ⟨b0,off,xn1,cn1,xk1,ck1,rfl,⟨-,-,-,-,k4,-⟩,hn1,hk1⟩:=hxr.node
 have HXH:=zH hxr.head
 have HXK:=zH hk1
 have HK4:=zH k4
 obtain ⟨x',c',hv,hal,hac,-⟩:=id hxr
 injection hv with v1 v2 v3
 subst v1 v3;clear v2;unfold maxLen at hac;have hal2:A.len+1≤ck:=by rw [Fo.app_len] at hal; exact hal
 obtain ⟨B,hB⟩:∃B,w0.heap.size=B:=⟨_,rfl⟩
 have HB:=zH hB
 have HBle:Hid (B≤w.heap.size):=by rw [← hB]; exact hbw.size
 rw [hB] at hbw hck ⊢;have HBW:=zH hbw;have HCK:=zH hck;have hlt0:Hid (b0 < w0.heap.size):=World.block_lt_of_cell? w0 _ k4;obtain ⟨n,hn⟩:∃n,A.len=n:=⟨_,rfl⟩;have HL:=zH hn;rw [hn] at HXH HK4 hal2 ⊢;clear hn;obtain ⟨RR,hRR⟩:∃RR,ckC (.loop (if h.kind=24 then [h.text] else [])) s (A.app (.cons hb kb .nil))=RR:=⟨_,rfl⟩
 have HRR:=zH hRR
 rw [hRR];have hba:=(Below.refl w.heap.size w).alloc (Nat.le_refl _) (.cells (ndV h (.slice xn h.names.length cn) (.slice (some ⟨b0,off,none⟩) (n+1) ck)) 31);have HKB:=zH (Blk.new w 31 (ndV h (.slice xn h.names.length cn) (.slice (some ⟨b0,off,none⟩) (n+1) ck)));have HCZ:=zH (hck.below hba);have HCHZ:=zH (Ch.of_below (C:=C) (v:=v) (bs:=bs) (fb:=fb) hba);have HBZ:=zH (hbw.trans (hba.mono HBle.out))
 clear hszk hbl hN hrt hlo hbs hxr k4 hn1 hk1 hal hB hbw hck hRR hba;obtain ⟨kd,tx,nu,nm,ps⟩:=h;simp only at HRR HKB HCZ HCHZ HBZ ⊢;unfold ndV at HKB HCZ HCHZ HBZ ⊢;go_enter Tryz.func71,Tryz.ntmps71;go_upto_region 1 with fail
 generalize w.alloc (.cells #[.int .i64 kd,.string ⟨tx.toArray⟩,.int .i64 nu,.slice xn nm.length cn,.slice (some ⟨b0,off,none⟩) (n+1) ck,.int .i64 ps] 31)=wz at*;generalize hKBe:w.heap.size=KB at*;have HKE:=zH hKBe;clear hKBe;have y0:wz.cell? ⟨KB,0,none⟩=some (.int .i64 kd):=HKB.out.cell 0;have y1:wz.cell? ⟨KB,1,none⟩=some (.string ⟨tx.toArray⟩):=HKB.out.cell 1
 have y4:wz.cell? ⟨KB,4,none⟩=some (.slice (some ⟨b0,off,none⟩) (n+1) ck):=HKB.out.cell 4
 have hnn:(0:Int)≤(n:Int)∧(n:Int)≤(ck:Int):=by omega
 have HEX:=zH (exprs_any A _ wz HCZ.out (HXH.out.below (by rw [HB.out]; exact HBZ.out)))
 rcases hq:exC s.ss A with y | u
 ·rw [hq] at HEX
  have HRE:Hid (RR=.error y):=by show _=_; rw [← HRR.out,ckC_loop,hq]; rfl
  clear hq HRR;go_wp2_with fail;refine HEX.out.mono ?_;rintro e w5 ⟨rfl,hb5⟩;have HCH5:=zH (HCHZ.out.trans (Ch.of_below (C:=C) (v:=v) (bs:=bs) (fb:=fb) hb5) (fun g hg=>Or.inl hg) (fun g hg=>Or.inl hg))
  clear hb5;go_wp2_with fail;exact ⟨rfl,CkR.bad HRE.out HCH5.out rfl⟩
 rw [hq] at HEX;have HRR2:Hid ((blD false { s with lo:=s.lo+1 } (if kd=24 then [tx] else []) kb).then (fun s'=>.ok { s' with lo:=s.lo })=RR):=by show _=_; rw [← HRR.out,ckC_loop,hq]; rfl
 clear hq HRR;go_wp2_with fail;refine HEX.out.mono ?_;rintro e w5 ⟨rfl,hb5⟩;have HCH5:=zH (HCHZ.out.trans (Ch.of_below (C:=C) (v:=v) (bs:=bs) (fb:=fb) hb5) (fun g hg=>Or.inl hg) (fun g hg=>Or.inl hg))
 have HC5:=zH (HCZ.out.below hb5)
 have HB5:=zH (HBZ.out.trans (hb5.mono (by have h1:=HBZ.out.size; rw [HB.out] at h1; exact h1)))
 have HKB5:Hid (Blk w5 KB 31 #[.int .i64 kd,.string ⟨tx.toArray⟩,.int .i64 nu,.slice xn nm.length cn,.slice (some ⟨b0,off,none⟩) (n+1) ck,.int .i64 ps]):=(hb5.block _ HKB.out.lt).trans HKB.out
 clear hb5 HEX HCHZ HCZ HBZ HKB y0 y1 y4;have y0:w5.cell? ⟨KB,0,none⟩=some (.int .i64 kd):=HKB5.out.cell 0;have y1:w5.cell? ⟨KB,1,none⟩=some (.string ⟨tx.toArray⟩):=HKB5.out.cell 1;have y4:w5.cell? ⟨KB,4,none⟩=some (.slice (some ⟨b0,off,none⟩) (n+1) ck):=HKB5.out.cell 4;go_upto_region 4 with fail
 by_cases h24:kd=24
 all_goals first
  | (
    have e24:(kd==24)=true:=by simp [h24]
    rw [if_pos h24] at HRR2;clear h24;go_upto_region 6 with fail
    have hbn:=(Below.refl w5.heap.size w5).alloc (Nat.le_refl _) (.cells #[.string ⟨tx.toArray⟩] 9)
    have HNV:=zH (nmrow_one (Blk.new w5 9 #[.string ⟨tx.toArray⟩]))
    have HCH6:=zH (HCH5.out.trans (Ch.of_below (C:=C) (v:=v) (bs:=bs) (fb:=fb) hbn) (fun g hg=>Or.inl hg) (fun g hg=>Or.inl hg))
    have HC6:=zH (HC5.out.below hbn)
    have HB6:=zH (HB5.out.trans (hbn.mono (by have h1:=HB5.out.size; rw [HB.out] at h1; exact h1)))
    have HKB6:=zH (HKB5.out.alloc (.cells #[.string ⟨tx.toArray⟩] 9))
    obtain ⟨ns,hns⟩:∃ns,ns=[tx]:=⟨_,rfl⟩
    rw [← hns] at HNV HRR2;clear hns hbn HCH5 HC5 HB5 HKB5 y0 y1 y4;generalize w5.alloc (.cells #[.string ⟨tx.toArray⟩] 9)=w6 at*;generalize w5.heap.size=K5 at *)
  | (
    have e24:(kd==24)=false:=by simp [h24]
    rw [if_neg h24] at HRR2;clear h24;go_upto_region 6 with fail
    have HNV:=zH (nmrow_nil w5)
    have HCH6:=HCH5
    have HC6:=HC5
    have HB6:=HB5
    have HKB6:=HKB5
    obtain ⟨ns,hns⟩:∃ns,ns=([]:List Nm):=⟨_,rfl⟩
    rw [← hns] at HNV HRR2;clear hns HCH5 HC5 HB5 HKB5 y0 y1 y4;generalize w5=w6 at *)
 all_goals
  have hcb:=HC6.out.blk
  have HKC:Hid (KB≠C):=Blk.apart HKB6.out hcb (by decide)
  have k2:w6.cell? ⟨C,2,none⟩=some (.int .i64 (s.lo:Nat)):=hcb.cell 2
  have f2:w6.frozen? ⟨C,2,none⟩=false:=hcb.frozen 2
  have hwl:wrap64 ((s.lo:Int)+1)=(s.lo:Int)+1:=by unfold wrap64; omega
  have hcl:=HC6.out.setLo (s.lo+1)
  rw [show ((s.lo+1:Nat):Int)=(s.lo:Int)+1 by omega] at hcl
  have HC7:=zH hcl
  have HCH7:=zH (HCH6.out.putC 2 (.int .i64 ((s.lo:Int)+1)))
  have HKB7:=zH (HKB6.out.other (p:=⟨C,2,none⟩) HKC.out (.int .i64 ((s.lo:Int)+1)))
  have HBC:Hid (B≤C):=HCK.out.ge.1
  have HB7:=zH (HB6.out.setCell (p:=⟨C,2,none⟩) HBC.out (.int .i64 ((s.lo:Int)+1)))
  have HNV7:Hid (NmRow (w6.setCell ⟨C,2,none⟩ (.int .i64 ((s.lo:Int)+1))) _ ns):=HC6.out.names HNV.out 2 _
  clear hcb hcl;go_upto_region 7 with fail
  have hs7:w6.heap.size≤(w6.setCell ⟨C,2,none⟩ (.int .i64 ((s.lo:Int)+1))).heap.size:=by simp [World.setCell]
  have HS7:Hid (w.heap.size≤(w6.setCell ⟨C,2,none⟩ (.int .i64 ((s.lo:Int)+1))).heap.size):=HCH7.out.size
  clear k2 f2 hwl HCH6 HC6 HKB6 HB6 HNV hs7;generalize w6.setCell ⟨C,2,none⟩ (.int .i64 ((s.lo:Int)+1))=w7 at*;have y4:w7.cell? ⟨KB,4,none⟩=some (.slice (some ⟨b0,off,none⟩) (n+1) ck):=HKB7.out.cell 4;have z4:w7.cell? ⟨b0,off+n*6+4,none⟩=some (.slice xk1 kb.len ck1):=(HB7.out.cell (p:=⟨b0,off+n*6+4,none⟩) (by rw [← HB.out]; exact hlt0.out)).trans HK4.out
  have hidx:(0:Int)≤(n:Int)∧(n:Int) < (n:Int)+1:=by omega
  have hcall:=HBL.out kb _ false _ ns w7 C _ v bs fb HN.out HRT.out HXK.out HNV7.out (by rw [HB.out]; exact HB7.out) (by rw [HB.out]; exact HC7.out) HLO.out HBS.out
  rw [HB.out] at hcall;rcases hq:blD false { s with lo:=s.lo+1 } ns kb with y | s2
  ·rw [hq] at hcall HRR2
   have HC1:=zH hcall
   clear hq hcall;go_wp2_with fail;refine HC1.out.mono ?_;rintro e w8 ⟨hch8,rfl⟩;have HCH8:=zH (HCH7.out.trans hch8 (fun g hg=>Or.inl hg) (fun g hg=>Or.inl hg))
   clear hch8 HC1;go_wp2_with fail;exact ⟨rfl,CkR.bad HRR2.out.symm HCH8.out rfl⟩
  ·rw [hq] at hcall HRR2
   have HC1:=zH hcall
   have hlo2:s2.lo=s.lo+1:=by
    unfold blD at hq
    cases he:ckC (.st false) ({ s with lo:=s.lo+1 }.push ns) kb with
    | error x=>rw [he] at hq; cases hq
    | ok s3=>rw [he] at hq; cases hq; exact ckC_lo _ _ _ _ he
   clear hq hcall;go_upto_region 8 with fail
   refine HC1.out.mono ?_
   rintro e w8 ⟨hch8,rfl,v2,hcw8,how8⟩;have HCH8:=zH ((HCH7.out.trans hch8 (fun g hg=>Or.inl hg) (fun g hg=>Or.inl hg)).putC 2 (.int .i64 (s.lo:Nat)))
   have HC8:=zH (hcw8.setLo s.lo)
   have HOW8:Hid (∀g,v2.ownBlock=some g→v.ownBlock=some g∨w.heap.size≤g):=fun g hg=>(how8 g hg).elim Or.inl (fun h1=>Or.inr (Nat.le_trans HS7.out h1))
   have k2:w8.cell? ⟨C,2,none⟩=some (.int .i64 ((s.lo:Int)+1)):=by
    have h1:=hcw8.blk.cell 2
    rw [hlo2] at h1;exact h1.trans (by simp)
   have f2:w8.frozen? ⟨C,2,none⟩=false:=hcw8.blk.frozen 2
   have hwl:wrap64 ((s.lo:Int)+1 - 1)=(s.lo:Int):=by unfold wrap64; omega
   clear hch8 HC1 hcw8 how8 hlo2;go_wp2_with fail;refine bodyPost_ret (results_none rfl _ _ _) rfl ?_;exact CkR.good HRR2.out.symm HCH8.out rfl HC8.out HOW8.out
open Go.RowKit

section
variable {P:Program} {ops:Array Oper} {md:Region.Mode} {C:World→Prop}
def headQ (P:Program) (md:Region.Mode) (ops:Array Oper) (C:World→Prop) (n:Nat) (L:Array Bool→Act→Prop):Nat→Array Bool→Act→Prop
 | 0,listed,a=>L listed a
 | f+1,listed,a=>
  Region.ready md ops listed≠[]∧∀i∈Region.ready md ops listed,i < n∧qOp P ops C i (headQ P md ops C n L f (listed.setIfInBounds i true)) a
theorem any_of_headQ {n g:Nat} {L:Array Bool→Act→Prop} {Q':Exit→Act→World→Prop} (hL:∀listed a w,C w→L listed a→wpAny P md ops Q' g listed a w):
  ∀(f:Nat) (listed:Array Bool) (a:Act) (w:World),C w→headQ P md ops C n L f listed a→wpAny P md ops Q' (f+g) listed a w
 | 0,listed,a,w,hw,h=>by rw [Nat.zero_add]; exact hL _ _ _ hw h
 | f+1,listed,a,w,hw,h=>by
  rw [show f+1+g=(f+g)+1 by omega]
  exact ⟨fun h0=>absurd h0 h.1,fun i hi=>wpOp_of_qOp hw (fun a' w' hw' h'=>any_of_headQ hL f _ a' w' hw' h') (h.2 i hi).2⟩
theorem headQ_first {n i:Nat} {oi:Oper} {v:Value} {L:Array Bool→Act→Prop} (hi:ops[i]?=some oi) (hsel:∀(j:Nat) (o:Oper) cs b,ops[j]?=some o→o.op≠.select cs b)
  (hs:Region.sinkB md ops n=true) (hc:Region.chainB md ops n=true) (hn:n < ops.size) (hin:i < n)
  (hdone:∀listed a,L listed a→∀j∈Region.ready md ops listed,n≤j):
  ∀(f:Nat) (listed:Array Bool) (a:Act),HeadInv md ops n listed→
   (∀j oj,ops[j]?=some oj→j≠i→listed.getD j true=false→(∀e∈oj.after,Region.binds md e=true→e.on≠i)→oi.apart ops oj=true)→
   i∈Region.ready md ops listed→YieldsIn P ops C oi v a→
   headQ P md ops C n L f (listed.setIfInBounds i true) (a.put oi.dst v)→headQ P md ops C n L (f+1) listed a:=by
 intro f;induction f with
 | zero=>
  intro listed a inv _ hr hy H;have hun:=(mem_ready.1 hr).1;refine ⟨fun h=>(by rw [h] at hr; cases hr),fun j hj=>?_⟩
  have hjn:j < n:=by
   rcases Nat.lt_or_ge j n with h | h
   ·exact h
   ·exact absurd hj (tail_waits hs hc hn inv _ i rfl hin hun j h)
  refine ⟨hjn,?_⟩
  by_cases hji:j=i
  ·subst hji; exact hy.qOp hi H
  ·have:=hdone _ _ H j (ready_mono hj hji)
   omega
 | succ f ih=>
  intro listed a inv hfree hr hy H;have hun:=(mem_ready.1 hr).1;refine ⟨fun h=>(by rw [h] at hr; cases hr),fun j hj=>?_⟩
  have hjn:j < n:=by
   rcases Nat.lt_or_ge j n with h | h
   ·exact h
   ·exact absurd hj (tail_waits hs hc hn inv _ i rfl hin hun j h)
  refine ⟨hjn,?_⟩
  by_cases hji:j=i
  ·subst hji; exact hy.qOp hi H
  ·have h1:=(H.2 j (ready_mono hj hji)).2
   obtain ⟨hjun,oj,hoj,hall⟩:=mem_ready.1 hj
   have hnot:∀e∈oj.after,Region.binds md e=true→e.on≠i:=fun e he hb heq=>by
    have h1:=hall e he hb
    rw [heq,getD_both hun] at h1
    cases h1
   have h2:=qOp_put hoj (hfree j oj hoj hji hjun hnot) (fun cs b=>hsel i oi cs b hi) (fun cs b=>hsel j oj cs b hoj) hy h1
   have hfree':∀k ok,ops[k]?=some ok→k≠i→(listed.setIfInBounds j true).getD k true=false→
     (∀e∈ok.after,Region.binds md e=true→e.on≠i)→oi.apart ops ok=true:=fun k ok hk hki hun hno=>by
    refine hfree k ok hk hki ?_ hno
    by_cases hjk:j=k
    ·subst hjk; exact hjun
    ·rw [getD_set_ne true hjk] at hun; exact hun
   refine qOp_mono (fun a' h3=>ih (listed.setIfInBounds j true) a' (inv.set hj hjn) hfree' (ready_mono hr (Ne.symm hji)) h3.1 ?_) h2
   rw [Array.setIfInBounds_comm _ _ hji];exact h3.2
theorem headQ_lex {n g:Nat} {Lq:Act→Prop} (hsel:Region.noSelect ops=true) (hs:Region.sinkB md ops n=true) (hc:Region.chainB md ops n=true) (hn:n < ops.size):
  ∀(l:List Oper) (k:Nat) (listed:Array Bool) (a:Act),(∀j,j < l.length→l[j]?=ops[k+j]?)→k+l.length=n→HeadInv md ops n listed→
  Region.lexHead md ops g l.length k listed=true→wpQuiet P ops C Lq l a→
  headQ P md ops C n (fun listed' a'=>Region.seqB md ops g n listed'=true∧Lq a') l.length listed a
 | [],k,listed,a,_,hk,_,hB,h=>by
  have:k=n:=by simpa using hk
  subst this;exact ⟨by simpa [Region.lexHead] using hB,h⟩
 | o::l,k,listed,a,hl,hk,inv,hB,h=>by
  have h0:ops[k]?=some o:=by simpa using (hl 0 (by simp)).symm
  simp only [List.length_cons,Region.lexHead,Bool.and_eq_true] at hB;obtain ⟨⟨hr,hf⟩,hB'⟩:=hB;have hkn:k < n:=by simp only [List.length_cons] at hk; omega
  have hr':k∈Region.ready md ops listed:=by simpa using hr
  have hst:qOp P ops C k (wpQuiet P ops C Lq l) a:=by unfold qOp; simp only [h0]; exact h
  obtain ⟨v,hy,hK⟩:=yieldsIn_of_qOp h0 hst
  exact headQ_first h0 (Region.noSelect_spec hsel) hs hc hn hkn (fun listed' a' hL=>seqB_ready hL.1) l.length listed a inv (Region.free_spec h0 hf) hr' hy
   (headQ_lex hsel hs hc hn l (k+1) _ _ (fun j hj=>by have:=hl (j+1) (by simp; omega); simpa [Nat.add_assoc,Nat.add_comm 1 j] using this) (by simp only [List.length_cons] at hk; omega) (inv.set hr' hkn) hB' hK)
theorem wp_region_quiet_tail {id:Nat} {Q:Exit→Act→World→Prop} {a:Act} {w:World} {l:List Oper} (n:Nat) (hm:P.follows .mixedOrders=true) (hB:Region.lexTailB .any l.toArray n=true) (hC:C { w with drawn:=w.drawn+1 })
  (h:wpQuiet P l.toArray C (fun a'=>∀w',C w'→wpList P l.toArray Q (l.drop n) a' w') (l.take n) a):(Code.region id l.toArray true).wp P Q a w:=by
 simp only [Region.lexTailB,Bool.and_eq_true,decide_eq_true_eq] at hB;obtain ⟨⟨⟨⟨hsel,hn⟩,hs⟩,hc⟩,hlex⟩:=hB;have hn':n < l.length:=by simpa using hn
 have htl:(l.take n).length=n:=by simp; omega
 have hdl:(l.drop n).length=l.toArray.size - n:=by simp
 have inv0:HeadInv .any l.toArray n (Array.replicate l.toArray.size false):=
  ⟨by simp,fun j oj _ hl=>(by rw [getD_replicate_false] at hl; cases hl),fun t _ ht=>getD_in (by simpa using ht) (getD_replicate_false _ _)⟩
 have H:=headQ_lex (md:=.any) (g:=l.toArray.size - n) hsel hs hc hn (l.take n) 0 _ a (fun j hj=>by
  have hj':j < n:=by rw [htl] at hj; exact hj
  simp [hj']) (by simpa using htl) inv0 (by rw [htl]; exact hlex) h
 refine wp_region_any hm ?_
 have:=any_of_headQ (Q':=Q) (g:=l.toArray.size - n) (fun listed a' w' hw hL=>by
  have:=wpAny_of_seq (md:=.any) (Q':=Q) (l.drop n) n listed a' w' (fun j=>by simp [List.getElem?_drop]) (by rw [hdl]; exact hL.1) (hL.2 w' hw)
  rwa [hdl] at this) _ _ _ _ hC H
 rw [htl,show n+(l.toArray.size - n)=l.toArray.size by omega] at this
 exact this
theorem wp_region_bw_tail (B:Nat) (w0:World) {id:Nat} {Q:Exit→Act→World→Prop} {a:Act} {l:List Oper} {w:World} (n:Nat) (hb:Below B w0 w) (hm:P.follows .mixedOrders=true) (hB:Region.lexTailB .any l.toArray n=true)
  (h:wpQuiet P l.toArray (fun w'=>∃u:BW B w0,w'=u.w) (fun a'=>∀w',(∃u:BW B w0,w'=u.w)→wpList P l.toArray Q (l.drop n) a' w') (l.take n) a):(Code.region id l.toArray true).wp P Q a w:=
 wp_region_quiet_tail (C:=fun w'=>∃u:BW B w0,w'=u.w) n hm hB ⟨⟨_,hb.drew⟩,rfl⟩ h
end
open Go.RowKit

theorem NmRow.take {w:World} {x:Option Addr} {n c:Nat} {l:List Nm} (h:NmRow w (.slice x n c) l) (i:Nat) (hi:i≤l.length):NmRow w (.slice x i c) (l.take i):=by
 obtain ⟨x',c',hv,h1,h2,h3,h4⟩:=h
 injection hv with v1 v2 v3
 subst v1 v3;have e1:(l.take i).length=i:=by rw [List.length_take]; omega
 refine ⟨x,c,by rw [e1],by omega,h2,h3,fun hn=>?_⟩
 obtain ⟨b,o,hx,hp⟩:=h4 (by omega)
 refine ⟨b,o,hx,fun j hj=>?_⟩
 rw [List.getElem_take];exact hp j (by omega)
theorem nodup_step {l:List Nm} {i:Nat} (hi:i < l.length):(l.take (i+1)).Nodup↔(l.take i).Nodup∧l[i]∉l.take i:=by
 rw [List.take_succ_eq_append_getElem hi,List.nodup_append];simp only [List.nodup_cons,List.not_mem_nil,not_false_eq_true,List.nodup_nil,and_self,List.mem_singleton,true_and];constructor
 ·rintro ⟨h1,h2⟩; exact ⟨h1,fun hm=>h2 _ hm _ rfl rfl⟩
 ·rintro ⟨h1,h2⟩; exact ⟨h1,fun a ha b hb he=>h2 (by rw [← hb,← he]; exact ha)⟩
theorem any_eq_mem (l:List Nm) (s:Nm):(l.any fun x=>s==x)=decide (s∈l):=by
 induction l with
 | nil=>simp
 | cons a l ih=>
  simp only [List.any_cons,ih,List.mem_cons];by_cases h:s=a <;> simp [h]
theorem CkW.addF {B:Nat} {w w1:World} {C:Nat} {s:CS} {v:Value} {bs:List Nat} {fb:Nat} (h:CkW B w C s v bs fb) {t:Nm} (hs:SetAt w1 fb (t::s.fs)) (hg:w.grownBy w1 (some fb)):CkW B w1 C { s with fs:=t::s.fs } v bs fb:=by
 have key:∀k,k < w.heap.size→k≠fb→w1.heap[k]?=w.heap[k]?:=fun k hk hn=>hg.block k hk (fun he=>hn (by injection he))
 refine ⟨(key C h.blk.lt fun he=>(he ▸ h.fset).noblk h.blk).trans h.blk,own_keep h.row fun g hg hl=>key g hl fun he=>h.fset.own_ne h.row (he ▸ hg),h.nd,hs,h.sets.keep fun b hm=>key b (h.sets.lt b hm) fun he=>?_,h.ge⟩
 have:=h.nd
 rw [List.nodup_cons] at this;exact this.1 (he ▸ hm)
theorem Ch.addF {C:Nat} {v:Value} {bs:List Nat} {fb:Nat} {w w1 w2:World} (h:Ch C v bs fb w w1) (hg:w1.grownBy w2 (some fb)):Ch C v bs fb w w2:=
 ⟨hg.os.trans h.os,hg.tape.trans h.tape,hg.output.trans h.output,Nat.le_trans h.size hg.size,fun k hk h1 h2 h3 h4=>(hg.block k (Nat.lt_of_lt_of_le hk h.size) (fun he=>h4 (by injection he))).trans (h.block k hk h1 h2 h3 h4)⟩
def fnD (p:Bool) (s:CS) (h:Hd) (k:Fo):CE CS:=
 if p=false then .error (h.pos,14) else if h.text∈s.fs then .error (h.pos,10) else if ¬ h.names.Nodup then .error (h.pos,10)
  else ckC (.fnb h.names) { s with fs:=h.text::s.fs } k
theorem ckC_fnb (ns:List Nm) (s:CS) (hb:Hd) (kb:Fo):ckC (.fnb ns) s (.cons hb kb .nil)=(blD false { s with ss:=[],inF:=true } ns kb).then fun s'=>.ok { s' with ss:=s.ss,inF:=false }:=by
 show (ckC (.st false) { s with ss:=[ns],inF:=true } kb).then _=_
 unfold blD;rw [show ({ s with ss:=[],inF:=true }:CS).push ns={ s with ss:=[ns],inF:=true } from rfl]
 cases ckC (.st false) { s with ss:=[ns],inF:=true } kb <;> rfl
def FnOk (w0:World) (N:Nat):Prop:=∀(h:Hd) (hb:Hd) (kb:Fo) (p:Bool) (xn xk:Option Addr) (cn n ck:Nat) (w:World) (C:Nat) (s:CS) (v:Value) (bs:List Nat) (fb:Nat),kb.size < N→rt .st kb=true→
 NmRow w0 (.slice xn h.names.length cn) h.names→FRow w0 (.slice xk n ck) (.cons hb kb .nil)→Below w0.heap.size w0 w→CkW w0.heap.size w C s v bs fb→s.lo+kb.size≤Mx→kb.size+1≤Mx→
 Calls Tryz.prog 72 #[.pointer (some ⟨C,0,none⟩),.agg (ndV h (.slice xn h.names.length cn) (.slice xk n ck)),.bool p] w fun e w'=>CkR w0.heap.size C v bs fb (fnD p s h (.cons hb kb .nil)) w e w'

theorem fn_step (w0:World) (N:Nat) (hbl:BlOk w0 N):FnOk w0 N:=by
 intro h hb kb p xn xk cn nk ck w C s v bs fb hN hrt hnr hxr hbw hck hlo hbs;have HBL:=zH hbl;have HN:=zH hN;have HRT:=zH hrt;have HLO:=zH hlo;have HBS:=zH hbs;have HNR:=zH hnr;obtain rfl:nk=1:=hxr.len_eq;obtain ⟨b0,off,xn1,cn1,xk1,ck1,rfl,⟨-,-,-,-,k4,-⟩,hn1,hk1⟩:=FRow.node (A:=.nil) hxr;have HXK:=zH hk1;have k4:w0.cell? ⟨b0,off+4,none⟩=some (.slice xk1 kb.len ck1):=by simpa [Fo.len] using k4
 have HK4:=zH k4
 have hlt0:Hid (b0 < w0.heap.size):=World.block_lt_of_cell? w0 _ k4
 obtain ⟨_,_,hv,hnl,hncc,-⟩:=id hnr
 injection hv with v1 v2 v3
 subst v1 v3;clear v2;unfold maxLen at hncc;obtain ⟨B,hB⟩:∃B,w0.heap.size=B:=⟨_,rfl⟩;have HB:=zH hB;have HBle:Hid (B≤w.heap.size):=by rw [← hB]; exact hbw.size
 rw [hB] at hbw hck ⊢;have HCK:=zH hck;obtain ⟨RR,hRR⟩:∃RR,fnD p s h (.cons hb kb .nil)=RR:=⟨_,rfl⟩;rw [hRR];obtain ⟨vx,vc,rfl,-⟩:=hck.shape;generalize hqq:bs.length=qv at hck ⊢;clear hqq;have hba:=(Below.refl w.heap.size w).alloc (Nat.le_refl _) (.cells (ndV h (.slice xn h.names.length cn) (.slice (some ⟨b0,off,none⟩) 1 ck)) 31)
 have HKB:=zH (Blk.new w 31 (ndV h (.slice xn h.names.length cn) (.slice (some ⟨b0,off,none⟩) 1 ck)))
 have HCZ:=zH (hck.below hba)
 have HCHZ:=zH (Ch.of_below (C:=C) (v:=.slice vx qv vc) (bs:=bs) (fb:=fb) hba)
 have HBZ:=zH (hbw.trans (hba.mono HBle.out))
 have HF:=zH (fun x w'=>cfail_any x (.pointer (some ⟨C,0,none⟩)) h xn (some ⟨b0,off,none⟩) cn ck 1 w')
 have hN2:Hid (NmRow (w.alloc (.cells (ndV h (.slice xn h.names.length cn) (.slice (some ⟨b0,off,none⟩) 1 ck)) 31)) (.slice xn h.names.length cn) h.names):=hnr.below (by rw [HB.out]; exact HBZ.out)
 clear hbl hN hrt hlo hbs hnr hxr k4 hn1 hk1 hB hbw hck hba;obtain ⟨kd,tx,nu,nm,ps⟩:=h;unfold fnD at hRR;simp only at hRR HNR HKB HCZ HCHZ HBZ HF hN2 hnl ⊢;have HRR:=zH hRR;clear hRR;unfold ndV at HKB HCZ HCHZ HBZ HF hN2 ⊢;go_enter Tryz.func72,Tryz.ntmps72;go_upto_region 1 with fail
 generalize w.alloc (.cells #[.int .i64 kd,.string ⟨tx.toArray⟩,.int .i64 nu,.slice xn nm.length cn,.slice (some ⟨b0,off,none⟩) 1 ck,.int .i64 ps] 31)=wz at*;generalize hKBe:w.heap.size=KB at*;have HKE:=zH hKBe;clear hKBe;have y0:wz.cell? ⟨KB,0,none⟩=some (.int .i64 kd):=HKB.out.cell 0;have y1:wz.cell? ⟨KB,1,none⟩=some (.string ⟨tx.toArray⟩):=HKB.out.cell 1
 have y2:wz.cell? ⟨KB,2,none⟩=some (.int .i64 nu):=HKB.out.cell 2
 have y3:wz.cell? ⟨KB,3,none⟩=some (.slice xn nm.length cn):=HKB.out.cell 3
 have y4:wz.cell? ⟨KB,4,none⟩=some (.slice (some ⟨b0,off,none⟩) 1 ck):=HKB.out.cell 4
 have y5:wz.cell? ⟨KB,5,none⟩=some (.int .i64 ps):=HKB.out.cell 5
 cases p with
 | false=>
  have HRE:Hid (RR=.error (ps,14)):=by show _=_; rw [← HRR.out]; rfl
  clear HRR;go_wp2_with fail;refine (HF.out 14 wz).mono ?_;rintro e w5 ⟨rfl,hb5⟩;have HCH5:=zH (HCHZ.out.trans (Ch.of_below (C:=C) (v:=.slice vx qv vc) (bs:=bs) (fb:=fb) hb5) (fun g hg=>Or.inl hg) (fun g hg=>Or.inl hg))
  clear hb5;go_wp2_with fail;exact ⟨rfl,CkR.bad HRE.out HCH5.out rfl⟩
 | true=>
 have HRR2:Hid ((if tx∈s.fs then (.error (ps,10):CE CS) else if ¬ nm.Nodup then .error (ps,10) else ckC (.fnb nm) { s with fs:=tx::s.fs } (.cons hb kb .nil))=RR):=by show _=_; rw [← HRR.out]; rfl
 clear HRR;have c1:wz.cell? ⟨C,1,none⟩=some (.map (some fb)):=HCZ.out.blk.cell 1;obtain ⟨q,hq⟩:∃q,decide (tx∈s.fs)=q:=⟨_,rfl⟩;have hlk:(Instr.lookup 43 (.map (some fb)) (.string ⟨tx.toArray⟩) false).run Tryz.prog wz.drew=.ok (.bool q) wz.drew:=by rw [← hq]; exact set_lookup (w:=wz.drew) (show SetAt wz.drew fb s.fs from HCZ.out.fset) tx
 have HQ:=zH hq
 clear hq;go_upto_region 3 with fail
 go_region_law fail
 all_goals
  have HCHD:Hid (Ch C (.slice vx qv vc) bs fb w wz.drew):=⟨HCHZ.out.os,HCHZ.out.tape,HCHZ.out.output,HCHZ.out.size,HCHZ.out.block⟩
  have HCD:Hid (CkW B wz.drew C s (.slice vx qv vc) bs fb):=HCZ.out.keep fun _ _=>rfl
  have HBD:Hid (Below B w0 wz.drew):=⟨HBZ.out.os,HBZ.out.tape,HBZ.out.output,HBZ.out.size,HBZ.out.block⟩
  have HKD:Hid (Blk wz.drew KB 31 #[.int .i64 kd,.string ⟨tx.toArray⟩,.int .i64 nu,.slice xn nm.length cn,.slice (some ⟨b0,off,none⟩) 1 ck,.int .i64 ps]):=HKB.out
  have HND:Hid (NmRow wz.drew (.slice xn nm.length cn) nm):=hN2.out
  clear HCHZ HCZ HBZ HKB hN2 y0 y1 y2 y3 y4 y5 c1 hlk;generalize wz.drew=wd at*;have y0:wd.cell? ⟨KB,0,none⟩=some (.int .i64 kd):=HKD.out.cell 0;have y1:wd.cell? ⟨KB,1,none⟩=some (.string ⟨tx.toArray⟩):=HKD.out.cell 1;have y2:wd.cell? ⟨KB,2,none⟩=some (.int .i64 nu):=HKD.out.cell 2;have y3:wd.cell? ⟨KB,3,none⟩=some (.slice xn nm.length cn):=HKD.out.cell 3
  have y4:wd.cell? ⟨KB,4,none⟩=some (.slice (some ⟨b0,off,none⟩) 1 ck):=HKD.out.cell 4
  have y5:wd.cell? ⟨KB,5,none⟩=some (.int .i64 ps):=HKD.out.cell 5
  cases q with
  | true=>
   have HRE:Hid (RR=.error (ps,10)):=by show _=_; rw [← HRR2.out,if_pos (of_decide_eq_true HQ.out)]
   clear HRR2;go_wp2_with fail;refine (HF.out 10 wd).mono ?_;rintro e w5 ⟨rfl,hb5⟩;have HCH5:=zH (HCHD.out.trans (Ch.of_below (C:=C) (v:=.slice vx qv vc) (bs:=bs) (fb:=fb) hb5) (fun g hg=>Or.inl hg) (fun g hg=>Or.inl hg))
   clear hb5;go_wp2_with fail;exact ⟨rfl,CkR.bad HRE.out HCH5.out rfl⟩
  | false=>
   have HRR3:Hid ((if ¬ nm.Nodup then (.error (ps,10):CE CS) else ckC (.fnb nm) { s with fs:=tx::s.fs } (.cons hb kb .nil))=RR):=by show _=_; rw [← HRR2.out,if_neg (of_decide_eq_false HQ.out)]
   clear HRR2;obtain ⟨m,hm⟩:∃m,nm.length=m:=⟨_,rfl⟩;have HM:=zH hm;rw [hm] at y3 HND hnl HF HKD;clear hm;go_upto_region 6 with fail
   go_loopw [27] (fun vi wr=>∃(i:Nat),vi=.int .i64 i∧i≤m∧Hid ((nm.take i).Nodup)∧wr=wd) (fun vi _=>m - (intOf vi).toNat)
   case atStart=>exact ⟨0,rfl,Nat.zero_le _,by simp [Hid],rfl⟩
   case round=>
    obtain ⟨i,rfl,hi,hA,rfl⟩:=hrel
    by_cases hlt:i < m
    ·have dlt:decide ((i:Int) < (m:Int))=true:=by simp; omega
     have i1:(i:Int) < (m:Int):=by omega
     have hil:i < nm.length:=by rw [HM.out]; exact hlt
     obtain ⟨b1,o1,rfl,hb1,hc1⟩:=nm_cell HND.out i hil
     have hcn:=contains_any (nm.take i) (.slice (some ⟨b1,o1,none⟩) i cn) ⟨nm[i].toArray⟩ wr (HND.out.take i (by omega))
     rw [show ((nm.take i).any fun x=>(ByteArray.mk nm[i].toArray).data.toList==x)=decide (nm[i]∈nm.take i) from any_eq_mem _ _] at hcn
     have hst:=nodup_step hil
     obtain ⟨y,hy⟩:∃y,nm[i]=y:=⟨_,rfl⟩
     rw [hy] at hc1 hcn hst;obtain ⟨d,hd⟩:∃d,decide (y∈nm.take i)=d:=⟨_,rfl⟩;rw [hd] at hcn;have HST:=zH hst;have HD:=zH hd;have HCN:=zH hcn;have hin:(0:Int)≤(i:Int)∧(i:Int)≤(cn:Int):=by omega
     clear hst hd hy hcn hil hb1;go_wp2_with fail;refine HCN.out.mono ?_;rintro e w5 ⟨rfl,rfl⟩
     cases d with
     | true=>
      have HRE:Hid (RR=.error (ps,10)):=by
       show _=_
       rw [← HRR3.out,if_pos];intro hnd;have h1:=(HST.out.1 (hnd.sublist (List.take_sublist _ _))).2;exact h1 (of_decide_eq_true HD.out)
      clear HRR3;go_wp2_with fail;refine (HF.out 10 wr).mono ?_;rintro e w5 ⟨rfl,hb5⟩;have HCH5:=zH (HCHD.out.trans (Ch.of_below (C:=C) (v:=.slice vx qv vc) (bs:=bs) (fb:=fb) hb5) (fun g hg=>Or.inl hg) (fun g hg=>Or.inl hg))
      clear hb5;go_wp2_with fail;exact ⟨rfl,CkR.bad HRE.out HCH5.out rfl⟩
     | false=>
      have HNX:Hid ((nm.take (i+1)).Nodup):=HST.out.2 ⟨hA.out,of_decide_eq_false HD.out⟩
      clear hA HST HD HCN;go_wp2_with fail;go_roundw
      case rel=>exact ⟨i+1,by go_num,by omega,HNX,trivial⟩
      case measure=>simp [intOf]; omega
    ·have dlt:decide ((i:Int) < (m:Int))=false:=by simp; omega
     have HND2:Hid (nm.Nodup):=by
      have h1:=hA.out
      rwa [List.take_of_length_le (by rw [HM.out]; omega)] at h1
     have HRR4:Hid (((blD false { s with fs:=tx::s.fs,ss:=[],inF:=true } nm kb).then (fun s'=>.ok { s' with ss:=s.ss,inF:=false }))=RR):=by
      show _=_
      rw [← HRR3.out,if_neg (by simpa using HND2.out),ckC_fnb]
     clear HRR3 hA;have c1:wr.cell? ⟨C,1,none⟩=some (.map (some fb)):=HCD.out.blk.cell 1;go_upto_region 11 with fail
     obtain ⟨w1,hmu,hs1,hg1⟩:=set_store (w:=wr.drew) (show SetAt wr.drew fb s.fs from HCD.out.fset) tx
     have HC1:Hid (CkW B w1 C { s with fs:=tx::s.fs } (.slice vx qv vc) bs fb):=(show CkW B wr.drew C s (.slice vx qv vc) bs fb from HCD.out.keep fun _ _=>rfl).addF hs1 hg1
     have HCH1:Hid (Ch C (.slice vx qv vc) bs fb w w1):=(show Ch C (.slice vx qv vc) bs fb w wr.drew from ⟨HCHD.out.os,HCHD.out.tape,HCHD.out.output,HCHD.out.size,HCHD.out.block⟩).addF hg1
     have HB1:Hid (Below B w0 w1):=(show Below B w0 wr.drew from ⟨HBD.out.os,HBD.out.tape,HBD.out.output,HBD.out.size,HBD.out.block⟩).grown hg1 (Nat.le_of_lt (Nat.lt_of_le_of_lt HCD.out.ge.2.1 HCD.out.fset.lt)) (fun k hk=>by injection hk with hk; have:=HCD.out.ge.2.1; omega)
     have HK1:Hid (Blk w1 KB 31 #[.int .i64 kd,.string ⟨tx.toArray⟩,.int .i64 nu,.slice xn m cn,.slice (some ⟨b0,off,none⟩) 1 ck,.int .i64 ps]):=
      (hg1.block KB HKD.out.lt (fun he=>by injection he with he; exact (show SetAt wr fb s.fs from HCD.out.fset).noblk (he ▸ HKD.out))).trans HKD.out
     clear hs1 hg1;go_region_law fail
     all_goals
      clear hmu;have k0:w1.cell? ⟨C,0,none⟩=some (.slice vx qv vc):=HC1.out.blk.cell 0;have f0:w1.frozen? ⟨C,0,none⟩=false:=HC1.out.blk.frozen 0;have k3:∀u,(w1.setCell ⟨C,0,none⟩ u).cell? ⟨C,3,none⟩=some (.bool s.inF):=fun u=>(HC1.out.blk.put 0 u).cell 3
      have f3:∀u,(w1.setCell ⟨C,0,none⟩ u).frozen? ⟨C,3,none⟩=false:=fun u=>(HC1.out.blk.put 0 u).frozen 3
      have hc2:=(HC1.out.blank.setInF true)
      have HCH2:=zH ((HCH1.out.putC 0 (.slice none 0 0)).putC 3 (.bool true))
      have HKC:Hid (KB≠C):=Blk.apart HK1.out HC1.out.blk (by decide)
      have HK2:=zH ((HK1.out.other (p:=⟨C,0,none⟩) HKC.out (.slice none 0 0)).other (p:=⟨C,3,none⟩) HKC.out (.bool true))
      have HBC:Hid (B≤C):=HCK.out.ge.1
      have HB2:=zH ((HB1.out.setCell (p:=⟨C,0,none⟩) HBC.out (.slice none 0 0)).setCell (p:=⟨C,3,none⟩) HBC.out (.bool true))
      have HC2:Hid (CkW B _ C { s with fs:=tx::s.fs,ss:=[],inF:=true } (.slice none 0 0) [] fb):=hc2
      have HSAME:Hid (∀k,k≠C→k≠fb→k < w1.heap.size→((w1.setCell ⟨C,0,none⟩ (.slice none 0 0)).setCell ⟨C,3,none⟩ (.bool true)).heap[k]?=w1.heap[k]?):=fun k h1 _ _=>(heap_setC _ _ _ _ k h1).trans (heap_setC _ _ _ _ k h1)
      have HSZ:Hid (w1.heap.size≤((w1.setCell ⟨C,0,none⟩ (.slice none 0 0)).setCell ⟨C,3,none⟩ (.bool true)).heap.size):=by show _≤_; simp [World.setCell]
      clear hc2;go_upto_region 14 with fail
      clear k0 f0 k3 f3 HK1;generalize (w1.setCell ⟨C,0,none⟩ (.slice none 0 0)).setCell ⟨C,3,none⟩ (.bool true)=w2 at*;obtain ⟨K0,hK0⟩:∃K0,K0=w2.heap.size:=⟨_,rfl⟩;have HK0:=zH hK0;have HLB:Hid (b0 < K0):=by have h1:=HB2.out.size; have h2:=hlt0.out; show _ < _; rw [hK0]; omega
      have HLK:Hid (KB < K0):=by rw [hK0]; exact HK2.out.lt
      have u3:∀u:BW K0 w2,u.w.cell? ⟨KB,3,none⟩=some (.slice xn m cn):=fun u=>(u.b.cell (p:=⟨KB,3,none⟩) HLK.out).trans (HK2.out.cell 3)
      have u4:∀u:BW K0 w2,u.w.cell? ⟨KB,4,none⟩=some (.slice (some ⟨b0,off,none⟩) 1 ck):=fun u=>(u.b.cell (p:=⟨KB,4,none⟩) HLK.out).trans (HK2.out.cell 4)
      have u5:∀u:BW K0 w2,u.w.cell? ⟨b0,off+4,none⟩=some (.slice xk1 kb.len ck1):=fun u=>(u.b.cell (p:=⟨b0,off+4,none⟩) HLB.out).trans ((HB2.out.cell (p:=⟨b0,off+4,none⟩) (by have h2:=hlt0.out; rw [HB.out] at h2; exact h2)).trans HK4.out)
      clear hK0;refine wp_region_bw_tail K0 w2 8 (Below.refl _ _) (by kernel_rfl) (by kernel_rfl) ?_
      simp only [List.take_succ_cons,List.take_zero,List.drop_succ_cons,List.drop_zero];repeat (go_big_quiet_step (fail))
      refine wpQuiet_nil ?_
      rintro _ ⟨v9,rfl⟩;have hb9:Below w2.heap.size w2 v9.w:=v9.b.mono (Nat.le_of_eq HK0.out.symm);have HC9:=zH (HC2.out.below hb9);have HCH9:=zH (HCH2.out.trans (Ch.of_below (C:=C) (v:=.slice vx qv vc) (bs:=bs) (fb:=fb) hb9) (fun g hg=>Or.inl hg) (fun g hg=>Or.inl hg))
      have HB9:=zH (HB2.out.trans (hb9.mono (by have h1:=HB2.out.size; rw [HB.out] at h1; exact h1)))
      have HN9:Hid (NmRow v9.w (.slice xn m cn) nm):=by
       have h1:=HNR.out
       rw [HM.out] at h1;exact h1.below (by rw [HB.out]; exact HB9.out)
      have HS9:Hid (∀k,k≠C→k≠fb→k < w1.heap.size→v9.w.heap[k]?=w1.heap[k]?):=fun k h1 h2 h3=>(hb9.block k (by have:=HSZ.out; omega)).trans (HSAME.out k h1 h2 h3)
      have HZ9:Hid (w1.heap.size≤v9.w.heap.size):=Nat.le_trans HSZ.out hb9.size
      clear hb9 u3 u4 u5 HC2 HCH2 HB2 HSAME HSZ HK2;generalize v9.w=w3 at*;have hcall:=HBL.out kb _ false _ nm w3 C { s with fs:=tx::s.fs,ss:=[],inF:=true } (.slice none 0 0) [] fb HN.out HRT.out HXK.out HN9.out (by rw [HB.out]; exact HB9.out) (by rw [HB.out]; exact HC9.out) HLO.out (by have h1:=HBS.out; simp only [List.length_nil]; omega)
      rw [HB.out] at hcall;rcases hq:blD false { s with fs:=tx::s.fs,ss:=[],inF:=true } nm kb with y | s2
      ·rw [hq] at hcall HRR4
       have HC0:=zH hcall
       clear hq hcall;go_wp2_with fail;refine HC0.out.mono ?_;rintro e w8 ⟨hch8,rfl⟩;have HCH8:=zH (HCH9.out.trans hch8 (fun g hg=>by cases hg) (fun g hg=>by cases hg))
       clear hch8 HC0;go_wp2_with fail;exact ⟨rfl,CkR.bad HRR4.out.symm HCH8.out rfl⟩
      ·rw [hq] at hcall HRR4
       have HC0:=zH hcall
       clear hq hcall;go_wp2_with fail;refine HC0.out.mono ?_;rintro e w8 ⟨hch8,rfl,v2,hcw8,-⟩;have HC8:=zH ((HC1.out.back hcw8 HS9.out HZ9.out hch8).setInF false);have HCH8:=zH (((HCH9.out.trans hch8 (fun g hg=>by cases hg) (fun g hg=>by cases hg)).putC 0 (.slice vx qv vc)).putC 3 (.bool false))
       have k0:w8.cell? ⟨C,0,none⟩=some v2:=hcw8.blk.cell 0
       obtain ⟨x2,c2,rfl,-⟩:=hcw8.shape
       have f0:w8.frozen? ⟨C,0,none⟩=false:=hcw8.blk.frozen 0
       have k3:∀u,(w8.setCell ⟨C,0,none⟩ u).cell? ⟨C,3,none⟩=some (.bool s2.inF):=fun u=>(hcw8.blk.put 0 u).cell 3
       have f3:∀u,(w8.setCell ⟨C,0,none⟩ u).frozen? ⟨C,3,none⟩=false:=fun u=>(hcw8.blk.put 0 u).frozen 3
       clear hch8 HC0 hcw8;go_wp2_with fail;refine bodyPost_ret (results_none rfl _ _ _) rfl ?_;exact CkR.good HRR4.out.symm HCH8.out rfl HC8.out (fun g hg=>Or.inl hg)
end Go.Proofs.YtbaidkefobhipaaGreatDoor
