/-
  Plain: how many names a scope holds, and what the kids of a right statement are.
  Walk: the reference's one. (Printed by gen_rq13.py.)
-/
import Derived.Test.YtbaidkefobhipaaGreatDoorZRq11
namespace Go.Proofs.YtbaidkefobhipaaGreatDoor
set_option maxHeartbeats 16000000
set_option maxRecDepth 100000

theorem fail_nl (s:RS) (p:Int) (k:Nat):(s.fail p k).nl=s.nl:=by unfold RS.fail; split <;> rfl
theorem join_nl (s t:RS):(s.join t).nl=s.nl:=by unfold RS.join; split; exact fail_nl _ _ _; rfl
theorem ite_nl (c:Prop) [Decidable c] (s:RS) (p:Int) (k:Nat):(if c then s.fail p k else s).nl=s.nl:=by split; exact fail_nl _ _ _; rfl
theorem ite_names (c:Prop) [Decidable c] (s:RS) (p:Int) (k:Nat):(if c then s.fail p k else s).names=s.names:=by split; exact fail_names _ _ _; rfl
theorem use_nl:∀(F:Fo) (s:RS),(s.use F).nl=s.nl:=by
 intro F;induction F with
 | nil=>intro s; rfl
 | cons h k r ihk ihr=>
  intro s;simp only [RS.use];rw [ihr,ihk];exact ite_nl _ _ _ _
theorem funH_nl (s:RS) (h:Hd):(s.funH h).nl=s.nl+1:=by
 unfold RS.funH RS.fh4;rw [ite_nl];have h1:(s.fh1 h).nl=s.nl:=ite_nl _ _ _ _;have h2:((s.fh1 h).fh2 h).nl=s.nl:=(ite_nl _ _ _ _).trans h1;show ((s.fh1 h).fh2 h).names.length+(((s.fh1 h).fh2 h).fs++[h.text]).length=_
 rw [List.length_append,List.length_singleton,← Nat.add_assoc];exact congrArg (·+1) h2
theorem pre_nl (s:RS) (h:Hd):(s.pre h).nl=s.nl:=(ite_nl _ _ _ _).trans (ite_nl _ _ _ _)
theorem post_nl (s:RS) (h:Hd):(s.post h).nl≤s.nl+1:=by
 unfold RS.post;split
 ·have h1:(s.po1 h).nl=s.nl:=ite_nl _ _ _ _
  have h2:(s.po1 h).names=s.names:=ite_names _ _ _ _
  unfold RS.nl at h1 ⊢;rw [h2] at h1;show (s.names++[h.text]).length+(s.po1 h).fs.length≤_
  rw [List.length_append,List.length_singleton];omega
 ·omega
theorem hd_wt (h:Hd):1+h.names.length≤h.wt:=by
 have:∀l:List (List UInt8),l.length≤(l.map fun n=>1+n.length).sum:=by
  intro l;induction l with
  | nil=>simp
  | cons a t ih=>simp only [List.length_cons,List.map_cons,List.sum_cons]; omega
 have:=this h.names
 unfold Hd.wt;omega
theorem rC_nl:∀(F:Fo) (m:Rm) (s:RS),(rC m s F).nl≤s.nl+F.wt:=by
 intro F;induction F with
 | nil=>intro m s; cases m <;> exact Nat.le_add_right _ _
 | cons h k r ihk ihr=>
  intro m s;have hw:=hd_wt h;have hd:∀s:RS,((rC (.kids h) (s.pre h) k).post h).nl≤s.nl+k.wt+1:=fun s=>by
   have h1:=post_nl (rC (.kids h) (s.pre h) k) h
   have h2:=ihk (.kids h) (s.pre h)
   rw [pre_nl] at h2;omega
  cases m with
  | all=>
   rw [rC_cons];have h1:(rO s h k).nl≤s.nl+h.wt+k.wt:=by
    unfold rO;split
    ·rw [join_nl,funH_nl]; omega
    ·split
     ·rw [join_nl]; omega
     ·have:=hd s; omega
   have:=ihr .all (rO s h k)
   simp only [Fo.wt];omega
  | kids x=>
   rw [rK_cons];have h1:(rK x s h k).nl≤s.nl+h.wt+k.wt:=by
    unfold rK;split
    ·rw [use_nl]; omega
    ·split
     ·have:=hd s; omega
     ·split <;> rw [join_nl] <;> omega
   have:=ihr (.kids x) (rK x s h k)
   simp only [Fo.wt];omega
  | fnb=>
   have:=ihk .all s
   simp only [rC,Fo.wt];omega
theorem rC_app:∀(A R:Fo) (s:RS),rC .all s (A.app R)=rC .all (rC .all s A) R:=by
 intro A;induction A with
 | nil=>intro R s; rfl
 | cons h k r _ ih=>intro R s; simp only [Fo.app]; rw [rC_cons,rC_cons,ih]
theorem rC_appK (x:Hd):∀(A R:Fo) (s:RS),rC (.kids x) s (A.app R)=rC (.kids x) (rC (.kids x) s A) R:=by
 intro A;induction A with
 | nil=>intro R s; rfl
 | cons h k r _ ih=>intro R s; simp only [Fo.app]; rw [rK_cons,rK_cons,ih]
def KidOk (y:Hd) (ky:Fo):Prop:=y.kind < 20∨(y.kind=22∧stN y ky=true)∨(¬ y.kind < 20∧y.kind≠22∧rt .st ky=true)
theorem kid_bl {y:Hd} {ky:Fo} (h:y.kind=25) (hs:stN y ky=true):rt .st ky=true:=by
 unfold stN kidM at hs;rw [if_neg (by omega),if_neg (by omega),if_neg (by omega),if_neg (by omega),if_pos h] at hs
 exact (Bool.and_eq_true_iff.1 hs).2
theorem sq_kid:∀(A:Fo) (l:List Ro) (y:Hd) (ky R:Fo),rt (.sq l) (A.app (.cons y ky R))=true→KidOk y ky:=by
 have key:∀(l:List Ro) (y:Hd) (ky R:Fo),rt (.sq l) (.cons y ky R)=true→KidOk y ky∧∃t,rt (.sq t) R=true:=by
  intro l y ky R h;rcases l with _ | ⟨m,t⟩
  ·simp [rt] at h
  ·cases m with
   | ex=>obtain ⟨h0,k0,r,e,h1,-,h3⟩:=rq_ex h; injection e with e1 e2 e3; subst e1 e2 e3; exact ⟨Or.inl (exH_lt h1),t,h3⟩
   | bl=>obtain ⟨h0,k0,r,e,h1,h2,h3⟩:=rq_bl h; injection e with e1 e2 e3; subst e1 e2 e3; exact ⟨Or.inr (Or.inr ⟨by omega,by omega,kid_bl h1 h2⟩),t,h3⟩
   | bi=>
    obtain ⟨h0,k0,r,e,h1,h2,h3⟩:=rq_bi h; injection e with e1 e2 e3; subst e1 e2 e3
    rcases h1 with h1 | h1
    ·exact ⟨Or.inr (Or.inr ⟨by omega,by omega,kid_bl h1 h2⟩),t,h3⟩
    ·exact ⟨Or.inr (Or.inl ⟨h1,h2⟩),t,h3⟩
 intro A;induction A with
 | nil=>intro l y ky R h; exact (key l y ky R h).1
 | cons h k r _ ih=>
  intro l y ky R hh;obtain ⟨t,h2⟩:=(key l h k _ hh).2;exact ih t y ky R h2
theorem st_kid {h:Hd} {A ky R:Fo} {y:Hd} (hs:stN h (A.app (.cons y ky R))=true) (h1:h.kind≠25):KidOk y ky:=by
 unfold stN at hs;have h2:=(Bool.and_eq_true_iff.1 hs).2;unfold kidM at h2;rw [if_neg h1] at h2;split at h2
 ·exact sq_kid A _ y ky R h2
 ·split at h2
  ·split at h2 <;> exact sq_kid A _ y ky R h2
  ·split at h2
   ·exact sq_kid A _ y ky R h2
   ·split at h2
    ·exact sq_kid A _ y ky R h2
    ·split at h2
     ·exact sq_kid A _ y ky R h2
     ·split at h2
      ·split at h2 <;> exact sq_kid A _ y ky R h2
      ·exact sq_kid A _ y ky R h2
theorem st_fnk {h:Hd} {k:Fo} (hs:stN h k=true) (h1:h.kind=26):∃b kb,k=.cons b kb .nil∧rt .st kb=true:=by
 unfold stN kidM at hs;rw [if_neg (by omega),if_neg (by omega),if_neg (by omega),if_neg (by omega),if_neg (by omega),if_pos h1] at hs
 obtain ⟨b,kb,r,rfl,h2,h3,h4⟩:=rq_bl (Bool.and_eq_true_iff.1 hs).2
 obtain rfl:=rq_nil h4
 exact ⟨b,kb,rfl,kid_bl h2 h3⟩
open Go.RowKit

def ROn (w0:World) (N:Nat):Prop:=∀(h:Hd) (k:Fo) (xn xk:Option Addr) (cn ck:Nat) (w:World) (S:Nat) (s:RS) (nv fv:Value),k.size < N→stN h k=true→FRow w0 (.slice xk k.len ck) k→NmRow w0 (.slice xn h.names.length cn) h.names→
 Below w0.heap.size w0 w→RkW w0.heap.size w S s nv fv→s.nl+h.wt+k.wt≤1099511627776→
 Calls Tryz.prog 39 #[.pointer (some ⟨S,0,none⟩),.agg (ndV h (.slice xn h.names.length cn) (.slice xk k.len ck))] w fun e w'=>RRes w0.heap.size S (rO s h k) fv w e w'
theorem Fst.ends {B S A:Nat} {fv0 fv:Value} {C:Array Value} {w wx wy:World} {s s':RS} {nv:Value} {e:Ending} (h:Fst B S A fv0 C w wx s nv fv) (hr:RRes B S s' fv wx e wy):e=.returned (.tuple #[])∧∃nv' fv',Fst B S A fv0 C w wy s' nv' fv':=by
 obtain ⟨h1,nv',fv',h2,h3,h4⟩:=hr
 exact ⟨h1,nv',fv',h.step h2 h3 h4⟩
theorem RkW.renames {B S:Nat} {w w8:World} {s:RS} {nv fv v':Value} {l:List Nm} {n:Nat} (h:RkW B w S s nv fv) (hb:Below w.heap.size w w8) (how:w8.ownsRow w.heap.size 9 1 v' n (fsV l)) (hn:n=l.length):
  RkW B (w8.setCell ⟨S,0,none⟩ v') S { s with names:=l } v' fv∧Cg S fv w (w8.setCell ⟨S,0,none⟩ v'):=by
 subst hn;have key:∀j,j≠S→(w8.setCell ⟨S,0,none⟩ v').heap[j]?=w8.heap[j]?:=fun j hj=>Below.heap_setCell _ _ _ j hj
 have h8:=h.below hb
 have hlt:∀g,v'.ownBlock=some g→w.heap.size≤g:=fun g hg=>(World.ownsRow.lt how g hg).1
 refine ⟨⟨h8.blk.put 0 v',?_,own_keep h8.fns fun g hg _=>key g (fun he=>h.own_ne (by rw [← he]; exact hg)),h.ge⟩,⟨hb.os,hb.tape,hb.output,?_,fun j hj h1 _=>(key j h1).trans (hb.block j hj)⟩⟩
 ·refine (names_row (S:=fun k=>decide (k≠S)&&decide (fv.ownBlock≠some k)) how fun g hg=>?_).sub (MSub.csub fun j _ hS=>⟨hS,key j (by simp at hS; exact hS.1)⟩)
  have h1:=hlt g hg
  have h2:=h.blk.lt
  simp only [Bool.and_eq_true,decide_eq_true_eq];exact ⟨by omega,fun he=>by have:=(h.own_ge g he).2; omega⟩
 ·have:=hb.size; simp [World.setCell]; omega
theorem rone_fn {w0:World} {N:Nat} (ha:RAl w0 (N+1)) (h:Hd) (k:Fo) (xn xk:Option Addr) (cn ck:Nat) (w:World) (S:Nat) (s:RS) (nv fv:Value) (hN:k.size < N+1) (hst:stN h k=true) (hkr:FRow w0 (.slice xk k.len ck) k) (hnr:NmRow w0 (.slice xn h.names.length cn) h.names)
  (hb0:Below w0.heap.size w0 w) (hr:RkW w0.heap.size w S s nv fv) (hln:s.nl+h.wt+k.wt≤1099511627776) (h26:h.kind=26):
  Calls Tryz.prog 39 #[.pointer (some ⟨S,0,none⟩),.agg (ndV h (.slice xn h.names.length cn) (.slice xk k.len ck))] w fun e w'=>RRes w0.heap.size S (rO s h k) fv w e w':=by
 obtain ⟨b,kb,rfl,hkb⟩:=st_fnk hst h26
 have hbz:=(Below.refl w.heap.size w).alloc (Nat.le_refl _) (.cells (ndV h (.slice xn h.names.length cn) (.slice xk 1 ck)) 31)
 have HF0:=zH (Fst.start hr hbz (Blk.new w 31 (ndV h (.slice xn h.names.length cn) (.slice xk 1 ck))))
 have hwt:=hd_wt h
 have HFN:=zH (rfun_any ha h b kb xn xk cn ck _ S s nv fv (Nat.lt_of_le_of_lt (show kb.size≤(Fo.cons b kb .nil).size by simp only [Fo.size]; omega) (by omega)) hkb hkr hnr (hb0.trans (HF0.out.low hr hb0.size)) HF0.out.r (by simp only [Fo.wt] at hln; omega))
 have HRO:Hid (rO s h (.cons b kb .nil)=(s.funH h).join (rC .all ((s.funH h).fnb h.names) kb)):=by show _=_; unfold rO; rw [if_pos h26]; rfl
 rw [HRO.out];have n26:(h.kind==26)=true:=by simp [h26]
 show Calls Tryz.prog _ #[.pointer (some ⟨S,0,none⟩),.agg (ndV h (.slice xn h.names.length cn) (.slice xk 1 ck))] w _
 clear hN hst hkr hnr hb0 hr hln ha hbz hwt hkb h26;generalize (s.funH h).join (rC .all ((s.funH h).fnb h.names) kb)=sq at*;obtain ⟨kd,tx,nu,nm,ps⟩:=h;obtain ⟨nl,hnl⟩:∃l,nm.length=l:=⟨_,rfl⟩;unfold ndV at HF0 HFN ⊢;simp only [hnl] at HF0 HFN n26 ⊢;clear hnl;obtain ⟨y0,y1,y2,y3,y4,y5⟩:=rsix (zH HF0.out.k);go_enter Tryz.func39,Tryz.ntmps39;go_wp2_with fail;refine HFN.out.mono ?_;rintro e w1 hq
 obtain ⟨rfl,nv1,fv1,HF1⟩:=HF0.out.ends hq
 have HF2:=zH HF1
 clear hq HF1 HFN HF0 y0 y1 y2 y3 y4 y5;go_wp2_with fail;refine bodyPost_ret (results_none rfl _ _ _) rfl ?_;exact ⟨rfl,nv1,fv1,HF2.out.r,HF2.out.c,HF2.out.o⟩
theorem rone_bl {w0:World} {N:Nat} (ha:RAl w0 (N+1)) (h:Hd) (k:Fo) (xn xk:Option Addr) (cn ck:Nat) (w:World) (S:Nat) (s:RS) (nv fv:Value) (hN:k.size < N+1) (hst:stN h k=true) (hkr:FRow w0 (.slice xk k.len ck) k)
  (hb0:Below w0.heap.size w0 w) (hr:RkW w0.heap.size w S s nv fv) (hln:s.nl+h.wt+k.wt≤1099511627776) (h25:h.kind=25):
  Calls Tryz.prog 39 #[.pointer (some ⟨S,0,none⟩),.agg (ndV h (.slice xn h.names.length cn) (.slice xk k.len ck))] w fun e w'=>RRes w0.heap.size S (rO s h k) fv w e w':=by
 have hbz:=(Below.refl w.heap.size w).alloc (Nat.le_refl _) (.cells (ndV h (.slice xn h.names.length cn) (.slice xk k.len ck)) 31)
 have HF0:=zH (Fst.start hr hbz (Blk.new w 31 (ndV h (.slice xn h.names.length cn) (.slice xk k.len ck))))
 have HFN:=zH (rinner_any ha h k xn xk cn ck _ S s nv fv (.slice none 0 0) [] false hN (kid_bl h25 hst) hkr (hb0.trans (HF0.out.low hr hb0.size)) HF0.out.r (nmrow_nil _) (by simp only [List.length_nil]; omega))
 have HRO:Hid (rO s h k=s.join (rC .all (s.sub [] false) k)):=by show _=_; unfold rO; rw [if_neg (by omega),if_pos h25]
 rw [HRO.out];have n26:(h.kind==26)=false:=by simp [h25]
 have n25:(h.kind==25)=true:=by simp [h25]
 clear hN hst hkr hb0 hr hln ha hbz h25 HRO;generalize s.join (rC .all (s.sub [] false) k)=sq at*;generalize k.len=kl at*;obtain ⟨kd,tx,nu,nm,ps⟩:=h;obtain ⟨nl,hnl⟩:∃l,nm.length=l:=⟨_,rfl⟩;unfold ndV at HF0 HFN ⊢;simp only [hnl] at HF0 HFN n26 n25 ⊢;clear hnl;obtain ⟨y0,y1,y2,y3,y4,y5⟩:=rsix (zH HF0.out.k);go_enter Tryz.func39,Tryz.ntmps39;go_wp2_with fail;refine HFN.out.mono ?_
 rintro e w1 ⟨rfl,hr1,hc1⟩;have HF2:=zH (HF0.out.same hr1 hc1);clear hr1 hc1 HFN HF0 y0 y1 y2 y3 y4 y5;go_wp2_with fail;refine bodyPost_ret (results_none rfl _ _ _) rfl ?_;exact ⟨rfl,nv,fv,HF2.out.r,HF2.out.c,HF2.out.o⟩
end Go.Proofs.YtbaidkefobhipaaGreatDoor
