/-
  Plain laws: scopes: a program that is accepted is accepted as a block; a declaration once more is refused.
  An append of a row of nodes to nil; an append of one node that lies somewhere.
-/
import Derived.Test.YtbaidkefobhipaaGreatDoorZS8
import Derived.Test.YtbaidkefobhipaaGreatDoorZS19
import Derived.Test.YtbaidkefobhipaaGreatDoorZS7
namespace Go.Proofs.YtbaidkefobhipaaGreatDoor

theorem CE.then_ok {α β:Type} {r:CE α} {f:α→CE β} {b:β} (h:r.then f=.ok b):∃a,r=.ok a∧f a=.ok b:=by
 cases r with
 | error x=>cases h
 | ok a=>exact ⟨a,rfl,h⟩
def Ext:List (List Nm)→List (List Nm)→Prop
 | [],[]=>True
 | a::s,b::t=>(∀n∈a,n∈b)∧Ext s t
 | _,_=>False
theorem Ext.refl:∀s,Ext s s:=by
 intro s
 induction s with
 | nil=>exact True.intro
 | cons a s ih=>exact ⟨fun _ h=>h,ih⟩
theorem Ext.trans:∀{s t u},Ext s t→Ext t u→Ext s u:=by
 intro s
 induction s with
 | nil=>intro t u h1 h2; cases t with
  | nil=>exact h2
  | cons _ _=>exact h1.elim
 | cons a s ih=>
  intro t u h1 h2
  cases t with
  | nil=>exact h1.elim
  | cons b t=>
   cases u with
   | nil=>exact h2.elim
   | cons c u=>exact ⟨fun n hn=>h2.1 n (h1.1 n hn),ih h1.2 h2.2⟩
theorem Ext.tail {s t} (h:Ext s t):Ext s.tail t.tail:=by
 cases s with
 | nil=>cases t with
  | nil=>exact h
  | cons _ _=>exact h.elim
 | cons a s=>cases t with
  | nil=>exact h.elim
  | cons b t=>exact h.2
theorem Ext.head {s t} (h:Ext s t) {n:Nm} (hn:n∈s.headD []):n∈t.headD []:=by
 cases s with
 | nil=>simp at hn
 | cons a s=>cases t with
  | nil=>exact h.elim
  | cons b t=>exact h.1 n hn
theorem Ext.vis:∀{s t},Ext s t→∀n,visC s n=true→visC t n=true:=by
 intro s
 induction s with
 | nil=>intro t _ n h; simp [visC] at h
 | cons a s ih=>
  intro t h n hn
  cases t with
  | nil=>exact h.elim
  | cons b t=>
   unfold visC at hn ⊢
   simp only [List.any_cons,Bool.or_eq_true,decide_eq_true_eq] at hn ⊢
   rcases hn with h1 | h1
   ·exact .inl (h.1 n h1)
   ·exact .inr (ih h.2 n h1)
theorem exC_ext:∀(F:Fo) (s t:List (List Nm)),(∀n,visC s n=true→visC t n=true)→exC s F=.ok ()→exC t F=.ok ():=by
 intro F
 induction F with
 | nil=>intro s t _ _; rfl
 | cons h k r ihk ihr=>
  intro s t hv he
  simp only [exC] at he ⊢
  split at he
  ·cases he
  ·rename_i hn
   obtain ⟨_,h1,h2⟩:=CE.then_ok he
   rw [if_neg (fun hc=>hn ⟨hc.1,by
    cases hs:visC s h.text with
    | false=>rfl
    | true=>rw [hv _ hs] at hc; exact hc.2⟩),ihk s t hv h1]
   exact ihr s t hv h2
theorem decl_ext (s:CS) (n:Nm):Ext s.ss (s.decl n).ss:=by
 unfold CS.decl
 cases hs:s.ss with
 | nil=>exact True.intro
 | cons l t=>exact ⟨fun _ h=>List.mem_cons_of_mem _ h,Ext.refl t⟩
theorem ckC_ext:∀(F:Fo) (m:Cm) (s s':CS),ckC m s F=.ok s'→Ext s.ss s'.ss:=by
 intro F
 induction F with
 | nil=>
  intro m s s' h
  cases m <;> (simp only [ckC] at h; cases h; exact Ext.refl _)
 | cons h k r ihk ihr=>
  intro m s s' he
  cases m with
  | st p=>
   rw [ckC] at he
   obtain ⟨s1,h1,h2⟩:=CE.then_ok he
   refine Ext.trans ?_ (ihr _ _ _ h2)
   by_cases c20:h.kind=20
   ·rw [if_pos c20] at h1
    obtain ⟨_,-,h3⟩:=CE.then_ok h1
    split at h3
    ·cases h3
    ·cases h3; exact decl_ext s _
   rw [if_neg c20] at h1
   by_cases c21:h.kind=21
   ·rw [if_pos c21] at h1
    split at h1
    ·cases h1
    ·obtain ⟨_,-,h3⟩:=CE.then_ok h1; cases h3; exact Ext.refl _
   rw [if_neg c21] at h1
   by_cases c22:h.kind=22
   ·rw [if_pos c22] at h1
    exact ihk _ _ _ h1
   rw [if_neg c22] at h1
   by_cases c23:h.kind=23
   ·rw [if_pos c23] at h1
    exact ihk _ _ _ h1
   rw [if_neg c23] at h1
   by_cases c24:h.kind=24
   ·rw [if_pos c24] at h1
    exact ihk _ _ _ h1
   rw [if_neg c24] at h1
   by_cases c25:h.kind=25
   ·rw [if_pos c25] at h1
    obtain ⟨s2,h3,h4⟩:=CE.then_ok h1
    cases h4
    exact (ihk _ _ _ h3).tail
   rw [if_neg c25] at h1
   by_cases c26:h.kind=26
   ·rw [if_pos c26] at h1
    split at h1
    ·cases h1
    split at h1
    ·cases h1
    split at h1
    ·cases h1
    ·exact ihk _ { s with fs:=h.text::s.fs } _ h1
   rw [if_neg c26] at h1
   by_cases c27:h.kind=27
   ·rw [if_pos c27] at h1
    split at h1
    ·cases h1
    ·obtain ⟨_,-,h3⟩:=CE.then_ok h1; cases h3; exact Ext.refl _
   rw [if_neg c27] at h1
   by_cases c28:h.kind=28
   ·rw [if_pos c28] at h1
    obtain ⟨_,-,h3⟩:=CE.then_ok h1; cases h3; exact Ext.refl _
   rw [if_neg c28] at h1
   by_cases c29:h.kind=29
   ·rw [if_pos c29] at h1
    split at h1
    ·cases h1
    ·cases h1; exact Ext.refl _
   ·rw [if_neg c29] at h1
    cases h1; exact Ext.refl _
  | iff=>
   simp only [ckC] at he
   split at he
   ·cases he
   ·obtain ⟨_,-,h2⟩:=CE.then_ok he
    exact ihr _ _ _ h2
  | loop ns=>
   cases r with
   | nil=>
    simp only [ckC] at he
    obtain ⟨s2,h3,h4⟩:=CE.then_ok he
    cases h4
    exact (ihk _ _ _ h3).tail
   | cons h2 k2 r2=>
    simp only [ckC] at he
    split at he
    ·cases he
    ·obtain ⟨_,-,h2⟩:=CE.then_ok he
     exact ihr _ _ _ h2
  | fnb ns=>
   simp only [ckC] at he
   obtain ⟨s2,h3,h4⟩:=CE.then_ok he
   cases h4
   exact Ext.refl _
theorem ckC_appS (p:Bool):∀(A B:Fo) (s:CS),ckC (.st p) s (A.app B)=(ckC (.st p) s A).then fun s'=>ckC (.st p) s' B:=by
 intro A
 induction A with
 | nil=>intro B s; simp only [Fo.app,ckC,CE.then]
 | cons h k r _ ihr=>
  intro B s
  simp only [Fo.app]
  rw [ckC,ckC]
  generalize (if h.kind=20 then _ else _:CE CS)=R
  cases R with
  | error x=>rfl
  | ok s1=>exact ihr B s1
theorem ck_dup {p:Bool} {A r k:Fo} {h:Hd} {s s':CS} (hk:h.kind=20) (hss:s.ss≠[]) (hc:ckC (.st p) s (A.app (.cons h k r))=.ok s'):ckC (.st p) s ((A.app (.cons h k r)).app (.cons h k .nil))=.error (h.pos,10):=by
 rw [ckC_appS,hc]
 show ckC (.st p) s' _=_
 rw [ckC_appS] at hc
 obtain ⟨s1,h1,h2⟩:=CE.then_ok hc
 rw [ckC] at h2
 obtain ⟨s2,h3,h4⟩:=CE.then_ok h2
 rw [if_pos hk] at h3
 obtain ⟨_,h5,h6⟩:=CE.then_ok h3
 split at h6
 ·cases h6
 cases h6
 have e1:=ckC_ext _ _ _ _ h1
 have e2:=ckC_ext _ _ _ _ h4
 rw [ckC,if_pos hk,exC_ext k s1.ss s'.ss ((decl_ext s1 h.text).trans e2).vis h5]
 have hin:h.text∈(s1.decl h.text).ss.headD []:=by
  unfold CS.decl
  cases hs:s1.ss with
  | nil=>
   rw [hs] at e1
   cases hs2:s.ss with
   | nil=>exact absurd hs2 hss
   | cons a b=>rw [hs2] at e1; exact e1.elim
  | cons l t=>simp
 show CE.then (CE.then (.ok ()) _) _=_
 simp only [CE.then]
 rw [if_pos (e2.head hin)]

def CS.out (s:CS):CS:={ s with ss:=s.ss++[[]] }
theorem vis_out (ss:List (List Nm)) (n:Nm):visC (ss++[[]]) n=visC ss n:=by unfold visC; simp
theorem exC_out:∀(F:Fo) (ss:List (List Nm)),exC (ss++[[]]) F=exC ss F:=by
 intro F
 induction F with
 | nil=>intro _; rfl
 | cons h k r ihk ihr=>intro ss; simp only [exC,vis_out,ihk,ihr]
theorem head_out {ss:List (List Nm)} (h:ss≠[]):(ss++[[]]).headD []=ss.headD []:=by cases ss with
 | nil=>exact absurd rfl h
 | cons _ _=>rfl
theorem tail_out {ss:List (List Nm)} (h:ss≠[]):(ss++[[]]).tail=ss.tail++[[]]:=by cases ss with
 | nil=>exact absurd rfl h
 | cons _ _=>rfl
theorem Ext.ne {s t} (h:Ext s t) (hs:s≠[]):t≠[]:=by
 cases s with
 | nil=>exact absurd rfl hs
 | cons a s=>cases t with
  | nil=>exact h.elim
  | cons _ _=>simp
theorem decl_out {s:CS} (hs:s.ss≠[]) (n:Nm):s.out.decl n=(s.decl n).out:=by
 unfold CS.out CS.decl
 cases h:s.ss with
 | nil=>exact absurd h hs
 | cons _ _=>simp
def Cm.in:Cm→Bool
 | .st p=>!p
 | .fnb _=>false
 | _=>true
theorem ckC_out:∀(F:Fo) (m:Cm) (s s':CS),m.in=true→s.ss≠[]→ckC m s F=.ok s'→ckC m s.out F=.ok s'.out:=by
 intro F
 induction F with
 | nil=>
  intro m s s' _ _ h
  cases m <;> (simp only [ckC] at h ⊢; cases h; rfl)
 | cons h k r ihk ihr=>
  intro m s s' hm hs he
  cases m with
  | st p=>
   simp only [Cm.in,Bool.not_eq_true'] at hm
   subst hm
   rw [ckC] at he ⊢
   obtain ⟨s1,h1,h2⟩:=CE.then_ok he
   have hx:Ext s.ss s1.ss:=by
    have:=ckC_ext (.cons h k .nil) (.st false) s s1 (by rw [ckC,h1]; rfl)
    exact this
   have key:(if h.kind=20 then (exC s.out.ss k).then fun _=>if h.text∈s.out.ss.headD [] then .error (h.pos,10) else .ok (s.out.decl h.text)
   else if h.kind=21 then if visC s.out.ss h.text=false then .error (h.pos,13) else (exC s.out.ss k).then fun _=>.ok s.out
   else if h.kind=22 then ckC .iff s.out k
   else if h.kind=23 then ckC (.loop []) s.out k
   else if h.kind=24 then ckC (.loop [h.text]) s.out k
   else if h.kind=25 then (ckC (.st false) (s.out.push []) k).then fun s'=>.ok s'.pop
   else if h.kind=26 then
    if false=false then .error (h.pos,14) else if h.text∈s.out.fs then .error (h.pos,10) else if ¬ h.names.Nodup then .error (h.pos,10)
    else ckC (.fnb h.names) { s.out with fs:=h.text::s.out.fs } k
   else if h.kind=27 then if s.out.inF=false then .error (h.pos,14) else (exC s.out.ss k).then fun _=>.ok s.out
   else if h.kind=28 then (exC s.out.ss k).then fun _=>.ok s.out
   else if h.kind=29 then if s.out.lo=0 then .error (h.pos,14) else .ok s.out
   else .ok s.out:CE CS)=.ok s1.out:=by
    have eo:s.out.ss=s.ss++[[]]:=rfl
    rw [eo]
    simp only [exC_out,head_out hs,vis_out]
    by_cases h20:h.kind=20
    ·rw [if_pos h20] at h1 ⊢
     obtain ⟨_,h3,h4⟩:=CE.then_ok h1
     rw [h3]
     simp only [CE.then]
     split at h4
     ·cases h4
     ·rename_i hn
      rw [if_neg hn]
      cases h4
      rw [decl_out hs]
    rw [if_neg h20] at h1 ⊢
    by_cases h21:h.kind=21
    ·rw [if_pos h21] at h1 ⊢
     split at h1
     ·cases h1
     ·rename_i hn
      rw [if_neg hn]
      obtain ⟨_,h3,h4⟩:=CE.then_ok h1
      rw [h3]
      cases h4
      rfl
    rw [if_neg h21] at h1 ⊢
    by_cases h22:h.kind=22
    ·rw [if_pos h22] at h1 ⊢
     exact ihk _ _ _ rfl hs h1
    rw [if_neg h22] at h1 ⊢
    by_cases h23:h.kind=23
    ·rw [if_pos h23] at h1 ⊢
     exact ihk _ _ _ rfl hs h1
    rw [if_neg h23] at h1 ⊢
    by_cases h24:h.kind=24
    ·rw [if_pos h24] at h1 ⊢
     exact ihk _ _ _ rfl hs h1
    rw [if_neg h24] at h1 ⊢
    by_cases h25:h.kind=25
    ·rw [if_pos h25] at h1 ⊢
     obtain ⟨s2,h3,h4⟩:=CE.then_ok h1
     have:=ihk (.st false) (s.push []) s2 rfl (by simp [CS.push]) h3
     rw [show s.out.push []=(s.push []).out from rfl,this]
     cases h4
     have e2:=(ckC_ext _ _ _ _ h3).ne (by simp [CS.push])
     show Except.ok s2.out.pop=Except.ok s2.pop.out
     unfold CS.out CS.pop
     simp only [tail_out e2]
    rw [if_neg h25] at h1 ⊢
    by_cases h26:h.kind=26
    ·rw [if_pos h26] at h1; simp at h1
    rw [if_neg h26] at h1 ⊢
    by_cases h27:h.kind=27
    ·rw [if_pos h27] at h1 ⊢
     split at h1
     ·cases h1
     ·rename_i hn
      rw [if_neg (show ¬ s.out.inF=false from hn)]
      obtain ⟨_,h3,h4⟩:=CE.then_ok h1
      rw [h3]
      cases h4
      rfl
    rw [if_neg h27] at h1 ⊢
    by_cases h28:h.kind=28
    ·rw [if_pos h28] at h1 ⊢
     obtain ⟨_,h3,h4⟩:=CE.then_ok h1
     rw [h3]
     cases h4
     rfl
    rw [if_neg h28] at h1 ⊢
    by_cases h29:h.kind=29
    ·rw [if_pos h29] at h1 ⊢
     split at h1
     ·cases h1
     ·rename_i hn
      rw [if_neg (show ¬ s.out.lo=0 from hn)]
      cases h1
      rfl
    rw [if_neg h29] at h1 ⊢
    cases h1
    rfl
   rw [key]
   exact ihr _ _ _ rfl (hx.ne hs) h2
  | iff=>
   rw [ckC] at he ⊢
   rw [show s.out.ss=s.ss++[[]] from rfl,vis_out,exC_out]
   split at he
   ·cases he
   ·rename_i hn
    rw [if_neg hn]
    obtain ⟨_,h1,h2⟩:=CE.then_ok he
    rw [h1]
    exact ihr _ _ _ rfl hs h2
  | loop ns=>
   cases r with
   | nil=>
    rw [ckC] at he ⊢
    obtain ⟨s2,h3,h4⟩:=CE.then_ok he
    have:=ihk (.st false) ({ s with lo:=s.lo+1 }.push ns) s2 rfl (by simp [CS.push]) h3
    rw [show ({ s.out with lo:=s.out.lo+1 }:CS).push ns=(({ s with lo:=s.lo+1 }:CS).push ns).out from rfl,this]
    cases h4
    have e2:=(ckC_ext _ _ _ _ h3).ne (by simp [CS.push])
    show Except.ok _=Except.ok _
    unfold CS.out CS.pop
    simp only [tail_out e2]
   | cons h2 k2 r2=>
    rw [ckC] at he ⊢
    rw [show s.out.ss=s.ss++[[]] from rfl,vis_out,exC_out]
    split at he
    ·cases he
    ·rename_i hn
     rw [if_neg hn]
     obtain ⟨_,h1,h2⟩:=CE.then_ok he
     rw [h1]
     exact ihr _ _ _ rfl hs h2
  | fnb ns=>cases hm
def hasFn:Fo→Bool
 | .nil=>false
 | .cons h _ r=>decide (h.kind=26)||hasFn r
theorem ckC_top:∀(F:Fo) (s:CS),hasFn F=false→ckC (.st false) s F=ckC (.st true) s F:=by
 intro F
 induction F with
 | nil=>intro _ _; simp only [ckC]
 | cons h k r _ ihr=>
  intro s hf
  simp only [hasFn,Bool.or_eq_false_iff,decide_eq_false_iff_not] at hf
  rw [ckC,ckC]
  rw [if_neg (c:=h.kind=26) hf.1,if_neg (c:=h.kind=26) hf.1]
  congr 1
  funext s'
  exact ihr s' hf.2
theorem ck_block (F:Fo) (h:Hd) (hh:h.kind=25) (hf:hasFn F=false) {s':CS} (hc:ckC (.st true) ⟨[[]],[],0,false⟩ F=.ok s'):∃s2,ckC (.st true) ⟨[[]],[],0,false⟩ (.cons h F .nil)=.ok s2:=by
 rw [← ckC_top F _ hf] at hc
 have:=ckC_out F (.st false) _ _ rfl (by simp) hc
 refine ⟨s'.out.pop,?_⟩
 rw [ckC,if_neg (by rw [hh]; decide),if_neg (by rw [hh]; decide),if_neg (by rw [hh]; decide),if_neg (by rw [hh]; decide),if_neg (by rw [hh]; decide),if_pos hh]
 rw [show (⟨[[]],[],0,false⟩:CS).push []=(⟨[[]],[],0,false⟩:CS).out from rfl,this]
 simp only [CE.then,ckC]
open Go.RowKit

theorem FAt.cells {w:World} {b:Nat}:∀(F:Fo) (off:Nat),FAt w F b off→∃xs:List Value,xs.length=F.len*6∧FCl w xs F∧(∀i v,xs[i]?=some v→w.cell? ⟨b,off+i,none⟩=some v)∧∀u∈xs,u.oneCell'=true:=by
 intro F
 induction F with
 | nil=>intro off _; exact ⟨[],rfl,rfl,fun i v h=>by simp at h,fun u h=>by simp at h⟩
 | cons h k r _ ihr=>
  intro off ⟨h0,h1,h2,⟨u,h3,hn⟩,⟨v,h4,hk⟩,h5,hr⟩
  obtain ⟨xn,cn,rfl,-⟩:=id hn
  obtain ⟨xk,ck,rfl,-⟩:=id hk
  obtain ⟨ys,e1,e2,e3,e4⟩:=ihr _ hr
  have hT:NdV w (ndV h (.slice xn h.names.length cn) (.slice xk k.len ck)) (h,k):=ndv_mk h k rfl rfl hn hk
  refine ⟨(ndV h (.slice xn h.names.length cn) (.slice xk k.len ck)).toList++ys,by simp [ndV,e1,Fo.len]; omega,⟨_,ys,rfl,hT,e2⟩,fun i v hi=>?_,fun u hu=>?_⟩
  ·by_cases h6:i < 6
   ·rw [List.getElem?_append_left (by simpa [ndV] using h6)] at hi
    match i,h6 with
    | 0,_=>cases hi; exact h0
    | 1,_=>cases hi; exact h1
    | 2,_=>cases hi; exact h2
    | 3,_=>cases hi; exact h3
    | 4,_=>cases hi; exact h4
    | 5,_=>cases hi; exact h5
   ·rw [List.getElem?_append_right (by simp [ndV]; omega)] at hi
    have:=e3 (i - 6) v (by simpa [ndV] using hi)
    rwa [show off+6+(i - 6)=off+i by omega] at this
  ·rcases List.mem_append.1 hu with h7 | h7
   ·exact hT.one' u h7
   ·exact e4 u h7

theorem pstep_appF {P:Program} {ops:Array Oper} {o:Oper} {a:Act} {K:Act→World→Prop} {Q:Exit→Act→World→Prop} {E:Prop} {t:TypeId} {bytes:Nat} {z:Value} {s xx:Operand}
  (hE:Elem P t 31 z 6 bytes) {w:World} {base:Nat} {F:Fo} {m c:Nat} {x:Option Addr} (hf:FRow w (.slice x m c) F) (hm:0 < m) (hbase:base≤w.heap.size)
  (hgd:o.guard=none) (ho:o.op=.call { callee:=.builtin .append,args:=#[s,xx],argTypes:=#[t,t] }) (hs:a.eval s=.slice none 0 0) (hx:a.eval xx=.slice x m c)
  (hlen:m*bytes≤140737488355328)
  (h:∀r cap w',KRow (fun _=>true) w' base (.slice (some ⟨r,0,none⟩) m cap) F→Below w.heap.size w w'→r=w.heap.size→K (a.put o.dst (.slice (some ⟨r,0,none⟩) m cap)) w'):
  if Region.wanted o (yielded ops a.tmps)=true then Oper.wp P o a w K Q else E:=by
 obtain ⟨ht,⟨i,hi,hz,hsz,hby⟩,hzs,hp⟩:=hE
 obtain ⟨x',c',e1,hc1,hc2,-,h5⟩:=hf
 injection e1 with e2 e3 e4
 subst e2 e4
 rw [e3] at hx hm hlen h
 clear e3
 obtain ⟨b,off,rfl,hat⟩:=h5 (by omega)
 obtain ⟨xs,g1,g2,g3,g4⟩:=hat.cells
 refine step_append_lies _ hgd s xx t ho base 31 i z 6 bytes ht hi hz hsz hby hzs hp (.slice none 0 0) 0 [] hs ⟨rfl,.inl ⟨rfl,rfl⟩⟩ ⟨b,off,none⟩ F.len c xs hx g1 (fun j u hu=>by rw [Addr.add_lit]; exact g3 j u hu) g4 hm (by omega) (by rw [Nat.zero_add]; exact hlen) hbase w.heap.size rfl ?_
 intro r cap w' h1 h2 h3 _
 rw [Nat.zero_add] at h1 ⊢
 have hr:r=w.heap.size:=by
  rcases h3 with h4 | h4
  ·simp [Value.ownBlock] at h4
  ·exact h4
 have hbl:Below w.heap.size w w':=⟨h2.os,h2.tape,h2.output,h2.size,fun k hk=>h2.block k hk (by simp [Value.ownBlock])⟩
 refine h r cap w' ⟨xs,h1,?_,fun _ _=>rfl⟩ hbl hr
 refine FCl.sub (fun bb oo vv hcell=>?_) _ _ g2
 have hlt:=World.block_lt_of_cell? w _ hcell
 simp only at hlt
 refine (mask_cell _ w' bb oo vv).2 ⟨by simp [Value.ownBlock]; omega,?_⟩
 rw [hbl.cell (p:=⟨bb,oo,none⟩) hlt]
 exact hcell

theorem pstep_appB {P:Program} {ops:Array Oper} {o:Oper} {a:Act} {K:Act→World→Prop} {Q:Exit→Act→World→Prop} {E:Prop} {t:TypeId} {bytes:Nat} {z:Value} {s xx:Operand}
  (hE:Elem P t 31 z 6 bytes) {S:Nat→Bool} {w:World} {base kz:Nat} {v:Value} {acc:Fo} {n:Nat} {T:Array Value} {x:Nd} (hk:KRow S w base v acc) (hn:acc.len=n)
  (hfr:∀k,w.heap.size≤k→S k=true) (hT:NdV (maskW (fun k=>S k&&decide (v.ownBlock≠some k)) w) T x) (hbase:base≤w.heap.size) (hz0:Blk w kz 31 T)
  (hgd:o.guard=none) (ho:o.op=.call { callee:=.builtin .append,args:=#[s,xx],argTypes:=#[t,t] }) (hs:a.eval s=v) (hx:a.eval xx=.slice (some ⟨kz,0,none⟩) 1 1)
  (hlen:(n+1)*bytes≤140737488355328) (h63:n+1≤maxLen)
  (h:∀r cap w',KRow S w' base (.slice (some ⟨r,0,none⟩) (n+1) cap) (acc.app x.one)→w.grownBy w' v.ownBlock→K (a.put o.dst (.slice (some ⟨r,0,none⟩) (n+1) cap)) w'):
  if Region.wanted o (yielded ops a.tmps)=true then Oper.wp P o a w K Q else E:=by
 obtain ⟨ht,⟨i,hi,hz,hsz,hby⟩,hzs,hp⟩:=hE
 obtain ⟨xs,hown,hf,hS⟩:=hk
 rw [hn] at hown
 refine step_append_lies _ hgd s xx t ho base 31 i z 6 bytes ht hi hz hsz hby hzs hp v n xs hs hown ⟨kz,0,none⟩ 1 1 T.toList hx (by simp [hT.size]) (World.news_of_block hz0) hT.one' (by omega) h63 hlen hbase w.heap.size rfl ?_
 intro r cap w' h1 h2 h3 _
 have hSr:S r=true:=by
  rcases h3 with h4 | h4
  ·exact hS r h4
  ·exact hfr r (by omega)
 have hblk:∀k,k < w.heap.size→v.ownBlock≠some k→w'.heap[k]?=w.heap[k]?:=fun k hk hne=>h2.block k hk (fun e=>hne e.symm)
 refine h r cap w' (KRow.more (v:=v) (w:=w) hf hT (by rw [hn]) h1 hSr ?_ hblk) h2
 rcases h3 with h4 | h4
 ·exact .inl h4
 ·exact .inr (by omega)

theorem csub_below {S:Nat→Bool} {w w':World} (hb:Below w.heap.size w w') (hS:∀k,k < w.heap.size→S k=true):CSub w (maskW S w'):=fun b o v hc=>
 (mask_cell S w' b o v).2 ⟨hS b (World.block_lt_of_cell? w _ hc),(hb.cell (p:=⟨b,o,none⟩) (World.block_lt_of_cell? w _ hc)).trans hc⟩
theorem below_grown {B r:Nat} {w w' w'':World} {v:Value} (hb:Below B w w') (hg:w'.grownBy w'' v.ownBlock) (hv:v.ownBlock=some r) (hr:B≤r) (hB:B≤w'.heap.size):Below B w w'':=
 ⟨hg.os.trans hb.os,hg.tape.trans hb.tape,hg.output.trans hb.output,Nat.le_trans hb.size hg.size,fun k hk=>(hg.block k (by omega) (by rw [hv]; simp; omega)).trans (hb.block k hk)⟩

theorem rt_app:∀(A B:Fo),rt .st (A.app B)=(rt .st A&&rt .st B):=by
 intro A
 induction A with
 | nil=>intro B; simp [Fo.app,rt]
 | cons h k r _ ih=>intro B; simp only [Fo.app,rt,ih B,Bool.and_assoc]
def CE.Nz {α:Type} (r:CE α):Prop:=∀x,r=.error x→x.2≠0
theorem nz_ok {α:Type} (a:α):CE.Nz (.ok a):=fun _ h=>by cases h
theorem nz_err {α:Type} (p:Int) (n:Nat) (hn:n≠0):CE.Nz (.error (p,n):CE α):=fun _ h=>by cases h; exact hn
theorem nz_ite {α:Type} {c:Prop} [Decidable c] {a b:CE α} (ha:CE.Nz a) (hb:CE.Nz b):CE.Nz (if c then a else b):=by
 by_cases h:c
 ·rw [if_pos h]; exact ha
 ·rw [if_neg h]; exact hb
theorem nz_then {α β:Type} {r:CE α} {f:α→CE β} (hr:CE.Nz r) (hf:∀a,CE.Nz (f a)):CE.Nz (r.then f):=by
 cases r with
 | error x=>exact fun y h=>by cases h; exact hr x rfl
 | ok a=>exact hf a
theorem exC_nz:∀(F:Fo) (ss:List (List Nm)),CE.Nz (exC ss F):=by
 intro F
 induction F with
 | nil=>intro _; exact nz_ok _
 | cons h k r ihk ihr=>intro ss; simp only [exC]; exact nz_ite (nz_err _ _ (by decide)) (nz_then (ihk ss) fun _=>ihr ss)
theorem ckC_nz:∀(F:Fo) (m:Cm) (s:CS),CE.Nz (ckC m s F):=by
 intro F
 induction F with
 | nil=>intro m s; cases m <;> (simp only [ckC]; exact nz_ok _)
 | cons h k r ihk ihr=>
  intro m s
  have hex:=exC_nz k s.ss
  cases m with
  | st p=>
   rw [ckC]
   refine nz_then ?_ fun s'=>ihr _ _
   refine nz_ite (nz_then hex fun _=>nz_ite (nz_err _ _ (by decide)) (nz_ok _)) ?_
   refine nz_ite (nz_ite (nz_err _ _ (by decide)) (nz_then hex fun _=>nz_ok _)) ?_
   refine nz_ite (ihk _ _) (nz_ite (ihk _ _) (nz_ite (ihk _ _) ?_))
   refine nz_ite (nz_then (ihk _ _) fun _=>nz_ok _) ?_
   refine nz_ite (nz_ite (nz_err _ _ (by decide)) (nz_ite (nz_err _ _ (by decide)) (nz_ite (nz_err _ _ (by decide)) (ihk _ _)))) ?_
   refine nz_ite (nz_ite (nz_err _ _ (by decide)) (nz_then hex fun _=>nz_ok _)) ?_
   refine nz_ite (nz_then hex fun _=>nz_ok _) ?_
   exact nz_ite (nz_ite (nz_err _ _ (by decide)) (nz_ok _)) (nz_ok _)
  | iff=>rw [ckC]; exact nz_ite (nz_err _ _ (by decide)) (nz_then hex fun _=>ihr _ _)
  | loop ns=>
   cases r with
   | nil=>rw [ckC]; exact nz_then (ihk _ _) fun _=>nz_ok _
   | cons h2 k2 r2=>rw [ckC]; exact nz_ite (nz_err _ _ (by decide)) (nz_then hex fun _=>ihr _ _)
  | fnb ns=>rw [ckC]; exact nz_then (ihk _ _) fun _=>nz_ok _
theorem chkL_ok {F:Fo} (h:(chkL F).2=0):rt .st F=true∧∃s',ckC (.st true) ⟨[[]],[],0,false⟩ F=.ok s':=by
 unfold chkL at h
 by_cases hr:rt .st F=false
 ·rw [if_pos hr] at h; cases h
 ·rw [if_neg hr] at h
  refine ⟨by simpa using hr,?_⟩
  cases hc:ckC (.st true) ⟨[[]],[],0,false⟩ F with
  | error x=>rw [hc] at h; exact absurd h (ckC_nz _ _ _ _ hc)
  | ok s'=>exact ⟨s',rfl⟩
theorem chkL_dup {A r k:Fo} {h:Hd} (hk:h.kind=20) (hc:(chkL (A.app (.cons h k r))).2=0):chkL ((A.app (.cons h k r)).app (.cons h k .nil))=(h.pos,10):=by
 obtain ⟨h1,s',h2⟩:=chkL_ok hc
 have h3:=ck_dup hk (by simp) h2
 unfold chkL
 have h4:rt .st ((A.app (.cons h k r)).app (.cons h k .nil))=true:=by
  rw [rt_app,h1]
  rw [rt_app] at h1
  simp only [rt,Bool.and_eq_true] at h1 ⊢
  exact ⟨trivial,h1.2.1,trivial⟩
 rw [if_neg (by rw [h4]; decide),h3]
theorem chkL_block {F:Fo} (hf:hasFn F=false) (hc:(chkL F).2=0):chkL (.cons (hdT 25 [] 0 0) F .nil)=(0,0):=by
 obtain ⟨h1,s',h2⟩:=chkL_ok hc
 obtain ⟨s2,h3⟩:=ck_block F (hdT 25 [] 0 0) rfl hf h2
 unfold chkL
 have h4:rt .st (.cons (hdT 25 [] 0 0) F .nil)=true:=by
  simp only [rt,Bool.and_eq_true]
  exact ⟨⟨rfl,h1⟩,trivial⟩
 rw [if_neg (by rw [h4]; decide),h3]
theorem hasFn_app:∀(A B:Fo),hasFn (A.app B)=(hasFn A||hasFn B):=by
 intro A
 induction A with
 | nil=>intro B; simp [Fo.app,hasFn]
 | cons h k r _ ih=>intro B; simp only [Fo.app,hasFn,ih B,Bool.or_assoc]
end Go.Proofs.YtbaidkefobhipaaGreatDoor
