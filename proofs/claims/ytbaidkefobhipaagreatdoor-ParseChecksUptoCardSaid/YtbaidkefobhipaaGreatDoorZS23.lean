/-
  The checker's statements: contracts, and what stands between them.
  Walk: the checker's block.
-/
import Derived.Test.YtbaidkefobhipaaGreatDoorZS22
import Derived.Test.YtbaidkefobhipaaGreatDoorZS5
namespace Go.Proofs.YtbaidkefobhipaaGreatDoor
set_option maxHeartbeats 8000000
set_option maxRecDepth 100000
open Go.RowKit

def stD (p:Bool) (s:CS) (h:Hd) (k:Fo):CE CS:=
 if h.kind=20 then (exC s.ss k).then fun _=>if h.text∈s.ss.headD [] then .error (h.pos,10) else .ok (s.decl h.text)
 else if h.kind=21 then if visC s.ss h.text=false then .error (h.pos,13) else (exC s.ss k).then fun _=>.ok s
 else if h.kind=22 then ckC .iff s k
 else if h.kind=23 then ckC (.loop []) s k
 else if h.kind=24 then ckC (.loop [h.text]) s k
 else if h.kind=25 then (ckC (.st false) (s.push []) k).then fun s'=>.ok s'.pop
 else if h.kind=26 then
  if p=false then .error (h.pos,14) else if h.text∈s.fs then .error (h.pos,10) else if ¬ h.names.Nodup then .error (h.pos,10)
  else ckC (.fnb h.names) { s with fs:=h.text::s.fs } k
 else if h.kind=27 then if s.inF=false then .error (h.pos,14) else (exC s.ss k).then fun _=>.ok s
 else if h.kind=28 then (exC s.ss k).then fun _=>.ok s
 else if h.kind=29 then if s.lo=0 then .error (h.pos,14) else .ok s
 else .ok s
theorem ckC_cons (p:Bool) (s:CS) (h:Hd) (k r:Fo):ckC (.st p) s (.cons h k r)=(stD p s h k).then fun s'=>ckC (.st p) s' r:=by
 simp only [ckC,stD]
theorem then_assoc {α β γ:Type} (r:CE α) (f:α→CE β) (g:β→CE γ):(r.then f).then g=r.then fun a=>(f a).then g:=by cases r <;> rfl
theorem then_id {α:Type} (r:CE α):(r.then fun a=>.ok a)=r:=by cases r <;> rfl
theorem ckC_app (p:Bool) (A R:Fo):∀s,ckC (.st p) s (A.app R)=(ckC (.st p) s A).then fun s'=>ckC (.st p) s' R:=by
 induction A with
 | nil=>intro s; rfl
 | cons h k r _ ih=>
  intro s;simp only [Fo.app,ckC_cons,then_assoc,ih]
theorem ckC_one (p:Bool) (s:CS) (h:Hd) (k:Fo):ckC (.st p) s (.cons h k .nil)=stD p s h k:=by
 rw [ckC_cons];exact then_id _
def blD (p:Bool) (s:CS) (names:List Nm) (F:Fo):CE CS:=(ckC (.st p) (s.push names) F).then fun s'=>.ok s'.pop

def Mx:Nat:=1099511627776
def CkR (B C:Nat) (v:Value) (bs:List Nat) (fb:Nat) (R:CE CS) (w:World) (e:Ending) (w':World):Prop:=
 Ch C v bs fb w w'∧match R with
 | .error x=>e=.panicked (failZ x.1 x.2)
 | .ok s'=>e=.returned (.tuple #[])∧∃v',CkW B w' C s' v' bs fb∧∀g,v'.ownBlock=some g→v.ownBlock=some g∨w.heap.size≤g
theorem CkR.bad {B C:Nat} {v:Value} {bs:List Nat} {fb:Nat} {R:CE CS} {w w':World} {e:Ending} {x:Int×Nat} (hR:R=.error x) (hc:Ch C v bs fb w w') (he:e=.panicked (failZ x.1 x.2)):CkR B C v bs fb R w e w':=by
 subst hR; exact ⟨hc,he⟩
theorem CkR.good {B C:Nat} {v:Value} {bs:List Nat} {fb:Nat} {R:CE CS} {w w':World} {e:Ending} {s':CS} (hR:R=.ok s') (hc:Ch C v bs fb w w') (he:e=.returned (.tuple #[])) {v':Value} (hk:CkW B w' C s' v' bs fb)
  (ho:∀g,v'.ownBlock=some g→v.ownBlock=some g∨w.heap.size≤g):CkR B C v bs fb R w e w':=by
 subst hR; exact ⟨hc,he,v',hk,ho⟩
def StOk (w0:World) (N:Nat):Prop:=∀(h:Hd) (k:Fo) (p:Bool) (xn xk:Option Addr) (cn ck:Nat) (w:World) (C:Nat) (s:CS) (v:Value) (bs:List Nat) (fb:Nat),k.size < N→stN h k=true→
 NmRow w0 (.slice xn h.names.length cn) h.names→FRow w0 (.slice xk k.len ck) k→Below w0.heap.size w0 w→CkW w0.heap.size w C s v bs fb→s.lo+k.size≤Mx→bs.length+k.size+1≤Mx→bs≠[]→
 Calls Tryz.prog 37 #[.pointer (some ⟨C,0,none⟩),.agg (ndV h (.slice xn h.names.length cn) (.slice xk k.len ck)),.bool p] w fun e w'=>CkR w0.heap.size C v bs fb (stD p s h k) w e w'
def BlOk (w0:World) (N:Nat):Prop:=∀(F:Fo) (xv:Value) (p:Bool) (nv:Value) (names:List Nm) (w:World) (C:Nat) (s:CS) (v:Value) (bs:List Nat) (fb:Nat),F.size < N→rt .st F=true→
 FRow w0 xv F→NmRow w nv names→Below w0.heap.size w0 w→CkW w0.heap.size w C s v bs fb→s.lo+F.size≤Mx→bs.length+F.size+1≤Mx→
 Calls Tryz.prog 18 #[.pointer (some ⟨C,0,none⟩),xv,nv,.bool p] w fun e w'=>CkR w0.heap.size C v bs fb (blD p s names F) w e w'

theorem SetAt.congr {w:World} {b:Nat} {l l':List Nm} (h:SetAt w b l) (hl:∀x,x∈l↔x∈l'):SetAt w b l':=by
 obtain ⟨es,clock,h1,h2,h3⟩:=h
 refine ⟨es,clock,h1,fun e he=>?_,fun s hs=>h3 s ((hl s).2 hs)⟩
 obtain ⟨hv,s,hk,hm⟩:=h2 e he
 exact ⟨hv,s,hk,(hl s).1 hm⟩
theorem el_map:Elem Tryz.prog 44 43 (.map none) 1 8:=by
 refine ⟨Tryz.underlying44,?_,rfl,by decide⟩
 obtain ⟨i,hi,h⟩:=Option.map_eq_some_iff.1 (show (Tryz.prog.info? 43).map (fun i=>(i.zero,i.size,i.bytes))=some (some (.map none),1,8) by kernel_rfl)
 simp only [Prod.mk.injEq] at h;exact ⟨i,hi,h.1,h.2.1,h.2.2⟩
theorem own_pop {w:World} {base:Nat} {e:TypeId} {x:Option Addr} {n c:Nat} {xs:List Value} {y:Value} (h:w.ownsRow base e 1 (.slice x (n+1) c) (n+1) (xs++[y])):w.ownsRow base e 1 (.slice x n c) n xs:=by
 have hl:xs.length=n:=by have:=h.1; simpa using this
 refine ⟨by simpa using hl,?_⟩
 rcases h.2 with ⟨h1,h2⟩ | ⟨g,cap,cur,h1,h2,h3,h4,h5,h6,h7⟩
 ·omega
 ·injection h1 with e1 e2 e3
  subst e1 e3;refine .inr ⟨g,c,cur,rfl,h2,h3,by omega,h5,h6,?_⟩
  have:=congrArg (List.take n) h7
  rw [List.take_take,List.take_left' hl,Nat.min_eq_left (by omega)] at this
  simpa using this
theorem FRow.size_le {A:Fo} {h:Hd} {k r:Fo}:k.size+1≤(A.app (.cons h k r)).size:=by have:=Fo.kid_size A h k r; omega
theorem SetAt.own_ne {w:World} {b:Nat} {l:List Nm} (h:SetAt w b l) {base:Nat} {e:TypeId} {size:Nat} {v:Value} {n:Nat} {xs:List Value} (ho:w.ownsRow base e size v n xs):v.ownBlock≠some b:=by
 intro he;rcases ho.2 with ⟨rfl,-⟩ | ⟨g,cap,cur,rfl,-,hg,-⟩
 ·cases he
 ·injection he with he
  obtain ⟨es,clock,hb,-⟩:=h
  simp only at he;rw [← he,hg] at hb;injection hb with hb
  cases hb
theorem CkW.own_ne {B:Nat} {w:World} {C:Nat} {s:CS} {v:Value} {bs:List Nat} {fb:Nat} (h:CkW B w C s v bs fb):v.ownBlock≠some C:=fun he=>own_blk_ne' h.blk h.row.2 (by decide) he.symm
theorem CkW.pushed {B:Nat} {w wr w1:World} {C:Nat} {s:CS} {v:Value} {bs:List Nat} {fb NB r cap q:Nat} {names:List Nm} {o:Obj} (hc:CkW B w C s v bs fb) (hNB:NB=w.heap.size) (hB:B≤NB) (hb:Below NB w wr) (hs:SetAt wr NB names) (hq:bs.length=q)
  (ho:w1.ownsRow B 43 1 (.slice (some ⟨r,0,none⟩) (q+1) cap) (q+1) (bs.reverse.map mref++[.map (some NB)])) (hg:(wr.alloc o).grownBy w1 v.ownBlock) (hr:v.ownBlock=some r∨r=wr.heap.size+1):
  CkW B (w1.setCell ⟨C,0,none⟩ (.slice (some ⟨r,0,none⟩) (q+1) cap)) C (s.push names) (.slice (some ⟨r,0,none⟩) (q+1) cap) (NB::bs) fb∧Ch C v bs fb w (w1.setCell ⟨C,0,none⟩ (.slice (some ⟨r,0,none⟩) (q+1) cap))∧(v.ownBlock=some r∨w.heap.size≤r):=by
 subst hNB;subst hq;have hc1:=hc.below hb;have hsz:=hb.size;have hlt:∀k,k < wr.heap.size→some k≠v.ownBlock→w1.heap[k]?=wr.heap[k]?:=fun k hk hne=>(hg.block k (by simp; omega) hne).trans (Below.heap_alloc wr o k hk)
 have hne:=hc1.own_ne
 have hcb:Blk w1 C 46 #[v,.map (some fb),.int .i64 (s.lo:Nat),.bool s.inF]:=(hlt C hc1.blk.lt (Ne.symm hne)).trans hc1.blk
 have hrC:C≠r:=Go.Proofs.YtbaidkefobhipaaGreatDoor.own_ne hcb ho (by decide)
 have key:∀k,k < wr.heap.size→some k≠v.ownBlock→k≠C→(w1.setCell ⟨C,0,none⟩ (.slice (some ⟨r,0,none⟩) (bs.length+1) cap)).heap[k]?=wr.heap[k]?:=fun k hk h1 h2=>(Below.heap_setCell _ _ _ k h2).trans (hlt k hk h1)
 have kset:∀b l,SetAt wr b l→SetAt (w1.setCell ⟨C,0,none⟩ (.slice (some ⟨r,0,none⟩) (bs.length+1) cap)) b l:=fun b l h=>h.keep (key b h.lt (Ne.symm (h.own_ne hc1.row)) (fun he=>(he ▸ h).noblk hc1.blk))
 have klt:∀b∈bs,SetsAt wr bs s.ss→b < wr.heap.size:=fun b hb h=>h.lt b hb
 refine ⟨⟨hcb.put 0 _,?_,?_,kset _ _ hc1.fset,⟨kset _ _ hs,?_⟩,⟨hc.ge.1,hc.ge.2.1,?_⟩⟩,⟨?_,?_,?_,?_,?_⟩,?_⟩
 ·rw [List.reverse_cons,List.map_append]
  exact own_keep ho fun g hg _=>Below.heap_setCell _ _ _ g (by simp [Value.ownBlock] at hg; simp only; omega)
 ·have h1:=hc.nd
  rw [List.nodup_cons] at h1 ⊢;refine ⟨fun hm=>?_,List.nodup_cons.2 ⟨fun hm=>?_,h1.2⟩⟩
  ·rcases List.mem_cons.1 hm with he | hm
   ·have:=hc.fset.lt; omega
   ·exact h1.1 hm
  ·have:=hc.sets.lt _ hm; omega
 ·refine hc1.sets.keep fun b hm=>?_
  obtain ⟨i,hi,rfl⟩:=List.getElem_of_mem hm
  have h:=hc1.sets.get i hi
  exact key _ h.lt (Ne.symm (h.own_ne hc1.row)) (fun he=>(he ▸ h).noblk hc1.blk)
 ·intro b hm
  rcases List.mem_cons.1 hm with rfl | hm
  ·exact hB
  ·exact hc.ge.2.2 b hm
 ·exact hg.os.trans hb.os
 ·exact hg.tape.trans hb.tape
 ·exact hg.output.trans hb.output
 ·have:=hg.size; simp [World.setCell] at this ⊢; omega
 ·intro k hk h1 h2 h3 h4
  exact (key k (by omega) (fun he=>h2 he.symm) h1).trans (hb.block k hk)
 ·rcases hr with h | h
  ·exact Or.inl h
  ·right; omega
theorem CkW.popped {B:Nat} {w:World} {C:Nat} {s:CS} {x:Option Addr} {c q:Nat} {NB:Nat} {bs:List Nat} {fb:Nat} (h:CkW B w C s (.slice x (q+1) c) (NB::bs) fb) (hq:bs.length=q):
  CkW B (w.setCell ⟨C,0,none⟩ (.slice x q c)) C s.pop (.slice x q c) bs fb:=by
 subst hq;have key:∀k,k≠C→(w.setCell ⟨C,0,none⟩ (.slice x bs.length c)).heap[k]?=w.heap[k]?:=fun k hk=>Below.heap_setCell _ _ _ k hk
 have hr:=h.row
 rw [List.reverse_cons,List.map_append] at hr;have hss:=h.sets;obtain ⟨l,ls,hls⟩:∃l ls,s.ss=l::ls:=by
  cases hs:s.ss with
  | nil=>rw [hs] at hss; exact hss.elim
  | cons l ls=>exact ⟨l,ls,rfl⟩
 rw [hls] at hss;refine ⟨h.blk.put 0 _,?_,?_,h.fset.keep (key _ fun he=>(he ▸ h.fset).noblk h.blk),?_,h.ge.1,h.ge.2.1,fun b hb=>h.ge.2.2 b (List.mem_cons_of_mem _ hb)⟩
 ·have hne:=h.own_ne
  exact own_keep (own_pop hr) fun g hg _=>key g (fun he=>by
   cases x with
   | none=>cases hg
   | some a=>exact hne (he ▸ hg))
 ·have h1:=h.nd
  rw [List.nodup_cons] at h1 ⊢;exact ⟨fun hm=>h1.1 (List.mem_cons_of_mem _ hm),(List.nodup_cons.1 h1.2).2⟩
 ·show SetsAt _ bs s.ss.tail
  rw [hls];exact hss.2.keep fun b hm=>key b fun he=>SetsAt.noblk h.blk hss.2 (he ▸ hm)
theorem ckC_lo:∀(F:Fo) (m:Cm) (s s':CS),ckC m s F=.ok s'→s'.lo=s.lo:=by
 intro F;induction F with
 | nil=>intro m s s' h; cases m <;> (injection (show (Except.ok s:CE CS)=.ok s' from h) with h; rw [h])
 | cons h k r ihk ihr=>
  have hst:∀p s s',stD p s h k=.ok s'→s'.lo=s.lo:=by
   intro p s s' hs;have hex:∀(r:CE Unit) (s1:CS),(r.then fun _=>.ok s1)=.ok s'→s1=s':=fun r s1 h=>by
    cases r with
    | error x=>cases h
    | ok u=>cases h; rfl
   unfold stD at hs;by_cases h0:h.kind=20
   ·rw [if_pos h0] at hs
    cases he:exC s.ss k with
    | error x=>rw [he] at hs; cases hs
    | ok u=>
     rw [he] at hs;simp only [CE.then] at hs
     split at hs
     ·cases hs
     ·cases hs; rfl
   rw [if_neg h0] at hs;by_cases h1:h.kind=21
   ·rw [if_pos h1] at hs
    split at hs
    ·cases hs
    ·rw [hex _ _ hs]
   rw [if_neg h1] at hs;by_cases h2:h.kind=22
   ·rw [if_pos h2] at hs
    exact ihk _ _ _ hs
   rw [if_neg h2] at hs;by_cases h3:h.kind=23
   ·rw [if_pos h3] at hs
    exact ihk _ _ _ hs
   rw [if_neg h3] at hs;by_cases h4:h.kind=24
   ·rw [if_pos h4] at hs
    exact ihk _ _ _ hs
   rw [if_neg h4] at hs;by_cases h5:h.kind=25
   ·rw [if_pos h5] at hs
    cases he:ckC (.st false) (s.push []) k with
    | error x=>rw [he] at hs; cases hs
    | ok s1=>
     rw [he] at hs
     cases hs
     have h1:=ihk _ _ _ he
     exact h1
   rw [if_neg h5] at hs;by_cases h6:h.kind=26
   ·rw [if_pos h6] at hs
    by_cases q1:p=false
    ·rw [if_pos q1] at hs; cases hs
    rw [if_neg q1] at hs;by_cases q2:h.text∈s.fs
    ·rw [if_pos q2] at hs; cases hs
    rw [if_neg q2] at hs;by_cases q3:¬ h.names.Nodup
    ·rw [if_pos q3] at hs; cases hs
    rw [if_neg q3] at hs;have h1:=ihk _ _ _ hs;exact h1
   rw [if_neg h6] at hs;by_cases h7:h.kind=27
   ·rw [if_pos h7] at hs
    split at hs
    ·cases hs
    ·rw [hex _ _ hs]
   rw [if_neg h7] at hs;by_cases h8:h.kind=28
   ·rw [if_pos h8] at hs
    rw [hex _ _ hs]
   rw [if_neg h8] at hs;by_cases h9:h.kind=29
   ·rw [if_pos h9] at hs
    split at hs
    ·cases hs
    ·cases hs; rfl
   rw [if_neg h9] at hs
   cases hs
   rfl
  intro m s s' hs
  cases m with
  | st p=>
   rw [ckC_cons] at hs
   cases he:stD p s h k with
   | error x=>rw [he] at hs; cases hs
   | ok s1=>rw [he] at hs; rw [ihr _ _ _ hs,hst p s s1 he]
  | iff=>
   simp only [ckC] at hs;split at hs
   ·cases hs
   ·cases he:exC s.ss k with
    | error x=>rw [he] at hs; cases hs
    | ok u=>rw [he] at hs; exact ihr _ _ _ hs
  | loop ns=>
   cases r with
   | nil=>
    simp only [ckC] at hs
    cases he:ckC (.st false) ({ s with lo:=s.lo+1 }.push ns) k with
    | error x=>rw [he] at hs; cases hs
    | ok s1=>rw [he] at hs; cases hs; rfl
   | cons h2 k2 r2=>
    simp only [ckC] at hs;split at hs
    ·cases hs
    ·cases he:exC s.ss k with
     | error x=>rw [he] at hs; cases hs
     | ok u=>rw [he] at hs; exact ihr _ _ _ hs
  | fnb ns=>
   simp only [ckC] at hs
   cases he:ckC (.st false) { s with ss:=[ns],inF:=true } k with
   | error x=>rw [he] at hs; cases hs
   | ok s1=>
    rw [he] at hs
    cases hs
    have h1:=ihk _ _ _ he
    exact h1
theorem BlOk.less {w0:World} {N M:Nat} (h:BlOk w0 N) (hM:M≤N):BlOk w0 M:=fun F xv p nv names w C s v bs fb hN=>h F xv p nv names w C s v bs fb (Nat.lt_of_lt_of_le hN hM)
theorem blN_st {h:Hd} {k:Fo} (hb:blN h k=true):rt .st k=true∧stN h k=true:=by
 unfold blN at hb;simp only [Bool.and_eq_true,decide_eq_true_eq] at hb;refine ⟨?_,hb.2⟩;have h2:=hb.2;unfold stN at h2;simp only [Bool.and_eq_true] at h2;have h3:=h2.2;simp only [kidM,hb.1] at h3;simpa using h3
theorem biN_st {h:Hd} {k:Fo} (hb:biN h k=true):stN h k=true:=by
 unfold biN at hb;simp only [Bool.and_eq_true] at hb;exact hb.2
theorem st_kids {h:Hd} {k:Fo} (hs:stN h k=true):rt (kidM h k.len) k=true:=by
 unfold stN at hs;simp only [Bool.and_eq_true] at hs;exact hs.2
theorem st_kind {h:Hd} {k:Fo} (hs:stN h k=true):20≤h.kind∧h.kind≤29:=by
 unfold stN stH at hs;simp only [Bool.and_eq_true,decide_eq_true_eq] at hs;exact hs.1.1.1.1.1
theorem Fo.one_of {k:Fo} (h:k.len=1):∃h0 k0,k=.cons h0 k0 .nil:=by
 cases k with
 | nil=>cases h
 | cons h0 k0 r=>cases r with
  | nil=>exact ⟨h0,k0,rfl⟩
  | cons _ _ _=>simp [Fo.len] at h
theorem st_one {h:Hd} {k:Fo} (hs:stN h k=true) (hk:h.kind=20∨h.kind=21∨h.kind=28):∃h0 k0,k=.cons h0 k0 .nil:=by
 have h1:=st_kids hs
 unfold kidM at h1;rw [if_pos hk] at h1;exact Fo.one_of (rt_len _ _ h1)
theorem st_if {h:Hd} {k:Fo} (hs:stN h k=true) (hk:h.kind=22):∃h0 k0 R,k=.cons h0 k0 R∧allG stN R=true∧R.len≠0:=by
 have h1:=st_kids hs
 unfold kidM at h1;rw [if_neg (by omega),if_pos hk] at h1
 by_cases h3:k.len=3
 ·rw [if_pos h3] at h1
  obtain ⟨h0,k0,h4,k4,h5,k5,rfl⟩:=Fo.three k h3
  rw [rt_if3] at h1;simp only [Bool.and_eq_true] at h1;exact ⟨h0,k0,_,rfl,by simp only [allG,Bool.and_true,Bool.and_eq_true]; exact ⟨(blN_st h1.1.2).2,biN_st h1.2⟩,by simp [Fo.len]⟩
 ·rw [if_neg h3] at h1
  have hl:=rt_len _ _ h1
  cases k with
  | nil=>cases hl
  | cons h0 k0 r=>
   obtain ⟨h4,k4,rfl⟩:=Fo.one_of (k:=r) (by simpa [Fo.len] using hl)
   refine ⟨h0,k0,_,rfl,?_,by simp [Fo.len]⟩
   simp only [rt,Bool.and_eq_true,decide_eq_true_eq,List.isEmpty_nil,and_true] at h1;simp only [allG,Bool.and_true,stN,Bool.and_eq_true];exact ⟨h1.2.1.2,h1.2.2⟩
theorem st_loop {h:Hd} {k:Fo} (hs:stN h k=true) (hk:h.kind=23∨h.kind=24):∃(A:Fo) (hb:Hd) (kb:Fo),k=A.app (.cons hb kb .nil)∧rt .st kb=true:=by
 have h1:=st_kids hs
 unfold kidM at h1;rw [if_neg (by omega),if_neg (by omega)] at h1
 rcases hk with hk | hk
 ·rw [if_pos hk] at h1
  have hl:=rt_len _ _ h1
  cases k with
  | nil=>cases hl
  | cons h0 k0 r=>
   obtain ⟨h4,k4,rfl⟩:=Fo.one_of (k:=r) (by simpa [Fo.len] using hl)
   refine ⟨.cons h0 k0 .nil,h4,k4,rfl,(blN_st (h:=h4) ?_).1⟩
   simp only [rt,Bool.and_eq_true,decide_eq_true_eq,List.isEmpty_nil,and_true] at h1;simp only [blN,stN,Bool.and_eq_true,decide_eq_true_eq];exact ⟨h1.2.1.1,h1.2.1.2,h1.2.2⟩
 ·rw [if_neg (by omega),if_pos hk] at h1
  have hl:=rt_len _ _ h1
  obtain ⟨h0,k0,h4,k4,h5,k5,rfl⟩:=Fo.three k hl
  refine ⟨.cons h0 k0 (.cons h4 k4 .nil),h5,k5,rfl,(blN_st (h:=h5) ?_).1⟩
  simp only [rt,Bool.and_eq_true,decide_eq_true_eq,List.isEmpty_nil,and_true] at h1;simp only [blN,stN,Bool.and_eq_true,decide_eq_true_eq];exact ⟨h1.2.2.1.1,h1.2.2.1.2,h1.2.2.2⟩
theorem st_blk {h:Hd} {k:Fo} (hs:stN h k=true) (hk:h.kind=25):rt .st k=true:=by
 have h1:=st_kids hs
 unfold kidM at h1;rwa [if_neg (by omega),if_neg (by omega),if_neg (by omega),if_neg (by omega),if_pos hk] at h1
theorem st_fn {h:Hd} {k:Fo} (hs:stN h k=true) (hk:h.kind=26):∃hb kb,k=.cons hb kb .nil∧rt .st kb=true:=by
 have h1:=st_kids hs
 unfold kidM at h1;rw [if_neg (by omega),if_neg (by omega),if_neg (by omega),if_neg (by omega),if_neg (by omega),if_pos hk] at h1
 obtain ⟨h4,k4,rfl⟩:=Fo.one_of (rt_len _ _ h1)
 refine ⟨h4,k4,rfl,(blN_st (h:=h4) ?_).1⟩
 simp only [rt,Bool.and_eq_true,decide_eq_true_eq,List.isEmpty_nil,and_true] at h1;simp only [blN,stN,Bool.and_eq_true,decide_eq_true_eq];exact ⟨h1.1.1,h1.1.2,h1.2⟩
theorem CkW.declare {B:Nat} {w w1:World} {C:Nat} {s:CS} {v:Value} {nb:Nat} {bs:List Nat} {fb:Nat} {t:Nm} {l:List Nm} {ls:List (List Nm)} (h:CkW B w C s v (nb::bs) fb) (hss:s.ss=l::ls) (hs:SetAt w1 nb (t::l)) (hg:w.grownBy w1 (some nb)):CkW B w1 C (s.decl t) v (nb::bs) fb:=by
 have key:∀k,k < w.heap.size→k≠nb→w1.heap[k]?=w.heap[k]?:=fun k hk hn=>hg.block k hk (fun he=>hn (by injection he))
 have hss2:=h.sets
 rw [hss] at hss2;have hnd:=h.nd;rw [List.nodup_cons,List.nodup_cons] at hnd;refine ⟨(key C h.blk.lt fun he=>(he ▸ hss2.1).noblk h.blk).trans h.blk,own_keep h.row fun g hg hl=>key g hl fun he=>hss2.1.own_ne h.row (he ▸ hg),h.nd,h.fset.keep (key _ h.fset.lt fun he=>hnd.1 (he ▸ List.mem_cons_self ..)),?_,h.ge⟩
 show SetsAt w1 (nb::bs) (s.decl t).ss
 unfold CS.decl;rw [hss];exact ⟨hs,hss2.2.keep fun b hm=>key b (hss2.2.lt b hm) fun he=>hnd.2.1 (he ▸ hm)⟩
theorem Ch.declare {C:Nat} {v:Value} {nb:Nat} {bs:List Nat} {fb:Nat} {w w1 w2:World} (h:Ch C v (nb::bs) fb w w1) (hg:w1.grownBy w2 (some nb)):Ch C v (nb::bs) fb w w2:=
 ⟨hg.os.trans h.os,hg.tape.trans h.tape,hg.output.trans h.output,Nat.le_trans h.size hg.size,fun k hk h1 h2 h3 h4=>(hg.block k (Nat.lt_of_lt_of_le hk h.size) (fun he=>h3 (by injection he with he; rw [he]; exact List.mem_cons_self ..))).trans (h.block k hk h1 h2 h3 h4)⟩
theorem Ch.step {C:Nat} {v:Value} {bs:List Nat} {fb:Nat} {w w1 w2:World} (h:Ch C v bs fb w w1) (hb:Below w1.heap.size w1 w2):Ch C v bs fb w w2:=h.trans (Ch.of_below (C:=C) (v:=v) (bs:=bs) (fb:=fb) hb) (fun _ hg=>Or.inl hg) (fun _ hg=>Or.inl hg)
theorem Ch.drew {C:Nat} {v:Value} {bs:List Nat} {fb:Nat} {w w1:World} (h:Ch C v bs fb w w1):Ch C v bs fb w w1.drew:=⟨h.os,h.tape,h.output,h.size,h.block⟩
open Go.RowKit

theorem nm_cell {w:World} {x:Option Addr} {n c:Nat} {l:List Nm} (h:NmRow w (.slice x n c) l) (i:Nat) (hi:i < l.length):∃b o,x=some ⟨b,o,none⟩∧b < w.heap.size∧w.cell? ⟨b,o+i,none⟩=some (.string ⟨l[i].toArray⟩):=by
 obtain ⟨x',c',hv,-,-,-,hcl⟩:=h
 injection hv with v1 v2 v3
 subst v1 v3;obtain ⟨b,o,rfl,hp⟩:=hcl (by omega)
 exact ⟨b,o,rfl,World.block_lt_of_cell? w _ (hp i hi),hp i hi⟩
theorem take_mem {l:List Nm} {i:Nat} (hi:i < l.length) {m:List Nm} (hm:∀x,x∈m↔x∈l.take i):∀x,x∈l[i]::m↔x∈l.take (i+1):=by
 intro x;rw [List.take_succ_eq_append_getElem hi,List.mem_append,List.mem_singleton,List.mem_cons,hm];exact Or.comm

theorem block_step (w0:World) (N:Nat) (hst:StOk w0 N):BlOk w0 (N+1):=by
 intro F xv p nv names w C s v bs fb hN hrt hxr hnr hbw hck hlo hbs;obtain ⟨vx,vc,rfl,hv1,hv2,-,-⟩:=hck.shape;obtain ⟨q,hq⟩:∃q,bs.length=q:=⟨_,rfl⟩;have HQ:=zH hq;have HQM:Hid (q+1≤1099511627776):=by unfold Mx at hbs; show _≤_; omega
 have hqm:q≤1099511627776:=by have:=HQM.out; omega
 unfold maxLen at hv2;rw [hq] at hck hv1 ⊢;clear hq;have HST:=zH hst;have HN:=zH hN;have HRT:=zH hrt;have HXR:=zH hxr;have HBW:=zH hbw;have HCK:=zH hck;have HLO:=zH hlo;have HBS:=zH hbs;have HNR:=zH hnr;obtain ⟨nx,nc,rfl,hnl,hnc,-⟩:=id hnr;obtain ⟨x,c,rfl,hl,hcc,-⟩:=id hxr;obtain ⟨B,hB⟩:∃B,w0.heap.size=B:=⟨_,rfl⟩;have HB:=zH hB;have HBle:Hid (B≤w.heap.size):=by rw [← hB]; exact hbw.size
 rw [hB] at HBW HCK ⊢;clear hst hN hrt hxr hnr hbw hck hlo hbs hB;unfold maxLen at hnc hcc;obtain ⟨m,hm⟩:∃m,names.length=m:=⟨_,rfl⟩;have HM:=zH hm;rw [hm] at HNR hnl ⊢;clear hm;obtain ⟨n,hn⟩:∃n,F.len=n:=⟨_,rfl⟩;have HL:=zH hn;rw [hn] at HXR hl ⊢;clear hn;obtain ⟨NB,hNB⟩:∃NB,NB=w.heap.size:=⟨_,rfl⟩;have HNB:=zH hNB;have HBA:=zH ((Below.refl w.heap.size w).alloc (Nat.le_refl _) (.map #[] 0))
 have HSA:=zH (setAt_made w)
 have hmm:=@run_makeMap Tryz.prog
 obtain ⟨RR,hRR⟩:∃RR,blD p s names F=RR:=⟨_,rfl⟩
 have HRR:=zH hRR
 rw [hRR];rw [← hNB] at HBA HSA;clear hRR;go_enter Tryz.func18,Tryz.ntmps18;go_wp2_with fail;rw [← hNB];clear hNB;generalize w.alloc (.map #[] 0)=wa at*;go_loopw [16] (fun vi wr=>∃(i:Nat) (l:List Nm),vi=.int .i64 i∧i≤m∧Hid (∀x,x∈l↔x∈names.take i)∧Hid (SetAt wr NB l)∧Hid (Below NB w wr)) (fun vi _=>m - (intOf vi).toNat)
 case atStart=>exact ⟨0,[],rfl,Nat.zero_le _,(fun x=>by simp),HSA.out,HBA.out⟩
 case round=>
  clear HSA HBA;obtain ⟨i,l,rfl,hi,hml,hsl,hbw⟩:=hrel;by_cases hlt:i < m
  ·have dlt:decide ((i:Int) < (m:Int))=true:=by simp; omega
   have i1:(i:Int) < (m:Int):=by omega
   have hil:i < names.length:=by rw [HM.out]; exact hlt
   obtain ⟨b,o,rfl,hb,hc⟩:=nm_cell HNR.out i hil
   have kc:wr.cell? ⟨b,o+i,none⟩=some (.string ⟨names[i].toArray⟩):=(hbw.out.cell (p:=⟨b,o+i,none⟩) (by rw [HNB.out]; exact hb)).trans hc
   have HMX:=zH (take_mem hil hml.out)
   obtain ⟨y,hy⟩:∃y,names[i]=y:=⟨_,rfl⟩
   rw [hy] at kc HMX;clear hy hc hb hml hil;go_wp2_with (first | (at_mapUpdate; refine wpList_mapUpdate_set rfl _ _ _ rfl NB l y rfl rfl rfl hsl.out ?_; intro w1 hs1 hg1) | fail)
   have HS1:=zH hs1
   have HB1:Hid (Below NB w w1):=hbw.out.grown hg1 (Nat.le_of_lt hsl.out.lt) (fun k hk=>by injection hk with hk; omega)
   clear hs1 hg1 hsl kc;go_wp2_with fail;go_roundw
   case rel=>exact ⟨i+1,y::l,by go_num,by omega,HMX,HS1,HB1⟩
   case measure=>simp [intOf]; omega
  ·have dlt:decide ((i:Int) < (m:Int))=false:=by simp; omega
   have hnm:∀x,x∈l↔x∈names:=fun x=>by rw [hml.out x,List.take_of_length_le (by rw [HM.out]; omega)]
   have HS:=zH (hsl.out.congr hnm)
   clear hnm hml hsl;have hk1:=HCK.out.below (by rw [← HNB.out]; exact hbw.out)
   have k0:wr.cell? ⟨C,0,none⟩=some (.slice vx q vc):=hk1.blk.cell 0
   have hrow:=hk1.row
   rw [HQ.out] at hrow;have HROW:=zH hrow;have HK1:=zH hk1;have HWR:=zH (show B≤wr.heap.size by have h1:=hbw.out.size; have h2:=HBle.out; have h3:=HNB.out; have h4:=HS.out.lt; omega)
   clear hk1 hrow;go_wp2_with (at_builtin; refine wpList_app el_map HROW.out HWR.out rfl rfl rfl (cs:=#[.map (some NB)]) (m:=0) rfl (by simp [Value.oneCell']) rfl (by omega) (by unfold maxLen; omega) ?_)
   intro r cap w1 ho hg hr;rw [← List.map_reverse] at ho;obtain ⟨hcw,hch,hown⟩:=CkW.pushed HCK.out HNB.out (by rw [HNB.out]; exact HBle.out) hbw.out HS.out HQ.out ho hg hr
   have hcb:Blk w1 C 46 #[.slice vx q vc,.map (some fb),.int .i64 (s.lo:Nat),.bool s.inF]:=(hg.block C (by simp; have:=HK1.out.blk.lt; omega) (Ne.symm HK1.out.own_ne)).trans (HK1.out.blk.alloc _)
   have f0:w1.frozen? ⟨C,0,none⟩=false:=hcb.frozen 0
   have g0:w1.cell? ⟨C,0,none⟩=some (.slice vx q vc):=hcb.cell 0
   have HCW:=zH hcw
   have HCH:=zH hch
   have HOWN:=zH hown
   clear hcw hch hown ho hg hr k0 hcb HROW HWR HK1 HS hbw;go_upto_region 8 with fail
   have HBW2:Hid (Below B w0 (w1.setCell ⟨C,0,none⟩ (.slice (some ⟨r,0,none⟩) (q+1) cap))):=HBW.out.trans (HCH.out.below HCK.out HBle.out)
   clear f0 g0;generalize w1.setCell ⟨C,0,none⟩ (.slice (some ⟨r,0,none⟩) (q+1) cap)=w2 at*;go_loopw [35] (fun vi wr=>∃(i:Nat) (A R:Fo) (s1:CS) (v1:Value),vi=.int .i64 i∧i≤n∧Hid (F=A.app R∧A.len=i∧ckC (.st p) (s.push names) A=.ok s1)∧Hid (CkW B wr C s1 v1 (NB::bs) fb)∧Hid (Ch C (.slice vx q vc) bs fb w wr)∧
    Hid (∀g,v1.ownBlock=some g→(Value.slice vx q vc).ownBlock=some g∨w.heap.size≤g)∧Hid (Below B w0 wr)) (fun vi _=>n - (intOf vi).toNat)
   case atStart=>exact ⟨0,.nil,F,s.push names,_,rfl,Nat.zero_le _,⟨rfl,rfl,rfl⟩,HCW.out,HCH.out,(fun g hg=>by injection hg with hg; rw [← hg]; exact HOWN.out),HBW2.out⟩
   case round=>
    clear HCW HCH HOWN HBW2;obtain ⟨i,A,R,s1,v1,rfl,hi,hA,hcw,hch,how,hbw2⟩:=hrel;by_cases hlt:i < n
    ·have dlt:decide ((i:Int) < (n:Int))=true:=by simp; omega
     have i1:(i:Int) < (n:Int):=by omega
     obtain ⟨h,k,r9,rfl⟩:∃h k r,R=.cons h k r:=by
      cases R with
      | nil=>have h1:=hA.out.2.1; have h2:=HL.out; rw [hA.out.1,Fo.app_nil] at h2; omega
      | cons h k r=>exact ⟨h,k,r,rfl⟩
     have hf0:FRow w0 (.slice x n c) (A.app (.cons h k r9)):=by rw [← hA.out.1]; exact HXR.out
     obtain ⟨b0,off,xn,cn,xk,ck,rfl,⟨k0,k1,k2,k3,k4,k5⟩,hn1,hk1⟩:=hf0.node
     rw [hA.out.2.1] at k0 k1 k2 k3 k4 k5;have hlt0:b0 < w0.heap.size:=World.block_lt_of_cell? w0 _ k0;have tr:∀o u,w0.cell? ⟨b0,o,none⟩=some u→wr.cell? ⟨b0,o,none⟩=some u:=fun o u h=>(hbw2.out.cell (p:=⟨b0,o,none⟩) (by rw [← HB.out]; exact hlt0)).trans h
     replace k0:=tr _ _ k0
     replace k1:=tr _ _ k1
     replace k2:=tr _ _ k2
     replace k3:=tr _ _ k3
     replace k4:=tr _ _ k4
     replace k5:=tr _ _ k5
     have HSN:Hid (stN h k=true):=by
      have h1:=HRT.out
      rw [rt_st,hA.out.1,allG_app] at h1;simp only [allG,Bool.and_eq_true] at h1;exact h1.2.1
     have hszk:k.size+1≤F.size:=by rw [hA.out.1]; exact FRow.size_le
     have HKS:Hid (k.size < N):=by have h1:=HN.out; show _ < _; omega
     have hlo1:s1.lo=s.lo:=by
      have h1:=ckC_lo _ _ _ _ hA.out.2.2
      exact h1
     have HLO1:Hid (s1.lo+k.size≤Mx):=by have h1:=HLO.out; show _≤_; omega
     have HBS1:Hid ((NB::bs).length+k.size+1≤Mx):=by have h1:=HBS.out; have h2:=HQ.out; show _≤_; rw [List.length_cons]; omega
     have HSTEP:Hid (F=(A.app (.cons h k .nil)).app r9∧(A.app (.cons h k .nil)).len=i+1):=⟨by rw [← Fo.next]; exact hA.out.1,by rw [Fo.app_len,hA.out.2.1]; rfl⟩
     have HEA:Hid (ckC (.st p) (s.push names) (A.app (.cons h k .nil))=stD p s1 h k):=by show _=_; rw [ckC_app,hA.out.2.2]; exact ckC_one _ _ _ _
     have HEF:Hid (RR=((stD p s1 h k).then fun s'=>ckC (.st p) s' r9).then fun s'=>.ok s'.pop):=by
      show _=_
      rw [← HRR.out,hA.out.1];unfold blD;rw [ckC_app,hA.out.2.2];simp only [CE.then]
      rw [ckC_cons];rfl
     have HNN:=zH hn1
     have HNK:=zH hk1
     clear hf0 hlt0 tr hszk hlo1 hn1 hk1 hA;go_upto_region 10 with fail
     have hba:=(Below.refl wr.heap.size wr).alloc (Nat.le_refl _) (.cells (ndV h (.slice xn h.names.length cn) (.slice xk k.len ck)) 31)
     have HKB:=zH (Blk.new wr 31 (ndV h (.slice xn h.names.length cn) (.slice xk k.len ck)))
     have HCZ:=zH (hcw.out.below hba)
     have HCHZ:=zH (hch.out.trans (Ch.of_below (C:=C) (v:=v1) (bs:=NB::bs) (fb:=fb) hba) how.out (fun g hg=>by
      rcases List.mem_cons.1 hg with rfl | hg
      ·right; have:=HNB.out; omega
      ·exact Or.inl hg))
     have HBZ:=zH (hbw2.out.trans (hba.mono (by have h1:=hbw2.out.size; rw [HB.out] at h1; exact h1)))
     have HSZ:Hid (w.heap.size≤wr.heap.size):=hch.out.size
     clear hba k0 k1 k2 k3 k4 k5 hcw hch hbw2;unfold ndV at HKB HCZ HCHZ HBZ;generalize wr.alloc (.cells #[.int .i64 h.kind,.string ⟨h.text.toArray⟩,.int .i64 h.num,.slice xn h.names.length cn,.slice xk k.len ck,.int .i64 h.pos] 31)=wz at*;generalize hKBe:wr.heap.size=KB at*;have y0:wz.cell? ⟨KB,0,none⟩=some (.int .i64 h.kind):=HKB.out.cell 0
     have y1:wz.cell? ⟨KB,1,none⟩=some (.string ⟨h.text.toArray⟩):=HKB.out.cell 1
     have y2:wz.cell? ⟨KB,2,none⟩=some (.int .i64 h.num):=HKB.out.cell 2
     have y3:wz.cell? ⟨KB,3,none⟩=some (.slice xn h.names.length cn):=HKB.out.cell 3
     have y4:wz.cell? ⟨KB,4,none⟩=some (.slice xk k.len ck):=HKB.out.cell 4
     have y5:wz.cell? ⟨KB,5,none⟩=some (.int .i64 h.pos):=HKB.out.cell 5
     have hcall:=HST.out h k p xn xk cn ck wz C s1 v1 (NB::bs) fb HKS.out HSN.out HNN.out HNK.out (by rw [HB.out]; exact HBZ.out) (by rw [HB.out]; exact HCZ.out) HLO1.out HBS1.out (by simp)
     rw [HB.out] at hcall;unfold ndV at hcall;have hmem:∀g∈NB::bs,g∈bs∨w.heap.size≤g:=fun g hg=>by
      rcases List.mem_cons.1 hg with rfl | hg
      ·right; have:=HNB.out; omega
      ·exact Or.inl hg
     have HMEM:=zH hmem
     have HZS:Hid (w.heap.size≤wz.heap.size):=HCHZ.out.size
     clear hmem hKBe;rcases hq:stD p s1 h k with y | s2
     ·rw [hq] at hcall HEF
      have HC1:=zH hcall
      clear hq HEA hcall;go_wp2_with fail;refine HC1.out.mono ?_;rintro e w5 ⟨hch5,rfl⟩;have HCH5:=zH (HCHZ.out.trans hch5 how.out HMEM.out);clear hch5 HC1;go_wp2_with fail;exact ⟨rfl,CkR.bad HEF.out HCH5.out rfl⟩
     ·rw [hq] at hcall HEA
      have HC1:=zH hcall
      clear hq HEF hcall;go_wp2_with fail;refine HC1.out.mono ?_;rintro e w5 ⟨hch5,rfl,v2,hcw5,how5⟩;have HCH5:=zH (HCHZ.out.trans hch5 how.out HMEM.out);have HCW5:=zH hcw5;have HOW5:Hid (∀g,v2.ownBlock=some g→(Value.slice vx q vc).ownBlock=some g∨w.heap.size≤g):=fun g hg=>(how5 g hg).elim (how.out g) (fun h1=>Or.inr (Nat.le_trans HZS.out h1))
      have HBW5:Hid (Below B w0 w5):=HBW.out.trans (HCH5.out.below HCK.out HBle.out)
      clear hch5 HC1 hcw5 how5 y0 y1 y2 y3 y4 y5 HKB HCZ HCHZ HBZ how;go_wp2_with fail;go_roundw
      case rel=>exact ⟨i+1,A.app (.cons h k .nil),r9,s2,v2,by go_num,by omega,⟨HSTEP.out.1,HSTEP.out.2,HEA.out⟩,HCW5,HCH5,HOW5,HBW5⟩
      case measure=>simp [intOf]; omega
    ·have dlt:decide ((i:Int) < (n:Int))=false:=by simp; omega
     have HE:Hid (RR=.ok s1.pop):=by
      obtain ⟨h1,h2,h3⟩:=hA.out
      have hR:R=.nil:=by
       have h4:=HL.out
       rw [h1,Fo.app_len] at h4
       cases R with
       | nil=>rfl
       | cons h k r=>simp only [Fo.len] at h4; omega
      show _=_
      rw [← HRR.out,h1,hR,Fo.app_nil];unfold blD;rw [h3];rfl
     clear hA;obtain ⟨x1,c1,rfl,hl1,hc1,-,-⟩:=hcw.out.shape;have hln:(NB::bs).length=q+1:=by rw [List.length_cons,HQ.out]
     rw [hln] at hcw how hl1;unfold maxLen at hc1;have k0:wr.cell? ⟨C,0,none⟩=some (.slice x1 (q+1) c1):=hcw.out.blk.cell 0;have f0:wr.frozen? ⟨C,0,none⟩=false:=hcw.out.blk.frozen 0;have hwq:IntKind.i64.wrap (q:Int)=(q:Int):=by rw [IntKind.wrap_i64]; omega
     have hq0:(0:Int)≤(q:Int):=by omega
     have hq1:(q:Int)≤(c1:Int):=by omega
     have hpop:=(hcw.out.popped HQ.out).keep (w':=(wr.setCell ⟨C,0,none⟩ (.slice x1 q c1)).drew) (fun _ _=>rfl)
     have HPOP:=zH hpop
     have HCH3:Hid (Ch C (.slice vx q vc) bs fb w ((wr.setCell ⟨C,0,none⟩ (.slice x1 q c1)).drew)):=
      ⟨hch.out.os,hch.out.tape,hch.out.output,by simpa [World.setCell,World.drew] using hch.out.size,fun k hk h1 h2 h3 h4=>(Below.heap_setCell _ _ _ k h1).trans (hch.out.block k hk h1 h2 h3 h4)⟩
     have HOW:=zH (show ∀g,(Value.slice x1 q c1).ownBlock=some g→(Value.slice vx q vc).ownBlock=some g∨w.heap.size≤g from fun g hg=>how.out g (by cases x1 <;> exact hg))
     clear hpop hcw hch how hbw2;go_wp2_with fail;go_region_law fail
     all_goals
      go_wp2_with fail;refine bodyPost_ret (results_none rfl _ _ _) rfl ?_;exact CkR.good HE.out HCH3.out rfl HPOP.out HOW.out
end Go.Proofs.YtbaidkefobhipaaGreatDoor
