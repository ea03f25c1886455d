/-
  Plain laws: scopes: a program that is accepted is accepted as a block; a declaration once more is refused.
  An append of a row of nodes to nil; an append of one node that lies somewhere.
-/
import Derived.Test.YtbaidkefobhipaaGreatDoorZS8
import Derived.Test.YtbaidkefobhipaaGreatDoorZS19
import Derived.Test.YtbaidkefobhipaaGreatDoorZS7
namespace Go.Proofs.YtbaidkefobhipaaGreatDoor

def Ext:List (List Nm)→List (List Nm)→Prop
 | [],[]=>True
 | a::s,b::t=>(∀n∈a,n∈b)∧Ext s t
 | _,_=>False
theorem Ext.refl:∀s,Ext s s:=by
 intro s;induction s with
 | nil=>exact True.intro
 | cons a s ih=>exact ⟨fun _ h=>h,ih⟩
theorem Ext.trans:∀{s t u},Ext s t→Ext t u→Ext s u:=by
 intro s;induction s with
 | nil=>intro t u h1 h2; cases t with
  | nil=>exact h2
  | cons _ _=>exact h1.elim
 | cons a s ih=>
  intro t u h1 h2
  cases t with
  | nil=>exact h1.elim
  | cons b t=>
   cases u with
   | nil=>exact h2.elim
   | cons c u=>exact ⟨fun n hn=>h2.1 n (h1.1 n hn),ih h1.2 h2.2⟩
theorem Ext.tail {s t} (h:Ext s t):Ext s.tail t.tail:=by
 cases s with
 | nil=>cases t with
  | nil=>exact h
  | cons _ _=>exact h.elim
 | cons a s=>cases t with
  | nil=>exact h.elim
  | cons b t=>exact h.2
theorem Ext.head {s t} (h:Ext s t) {n:Nm} (hn:n∈s.headD []):n∈t.headD []:=by
 cases s with
 | nil=>simp at hn
 | cons a s=>cases t with
  | nil=>exact h.elim
  | cons b t=>exact h.1 n hn
theorem Ext.vis:∀{s t},Ext s t→∀n,visC s n=true→visC t n=true:=by
 intro s;induction s with
 | nil=>intro t _ n h; simp [visC] at h
 | cons a s ih=>
  intro t h n hn
  cases t with
  | nil=>exact h.elim
  | cons b t=>
   unfold visC at hn ⊢;simp only [List.any_cons,Bool.or_eq_true,decide_eq_true_eq] at hn ⊢;rcases hn with h1 | h1
   ·exact .inl (h.1 n h1)
   ·exact .inr (ih h.2 n h1)
def CS.out (s:CS):CS:={ s with ss:=s.ss++[[]] }
theorem Ext.ne {s t} (h:Ext s t) (hs:s≠[]):t≠[]:=by
 cases s with
 | nil=>exact absurd rfl hs
 | cons a s=>cases t with
  | nil=>exact h.elim
  | cons _ _=>simp
def Cm.in:Cm→Bool
 | .st p=>!p
 | .fnb _=>false
 | _=>true
def hasFn:Fo→Bool
 | .nil=>false
 | .cons h _ r=>decide (h.kind=26)||hasFn r
open Go.RowKit

theorem FAt.cells {w:World} {b:Nat}:∀(F:Fo) (off:Nat),FAt w F b off→∃xs:List Value,xs.length=F.len*6∧FCl w xs F∧(∀i v,xs[i]?=some v→w.cell? ⟨b,off+i,none⟩=some v)∧∀u∈xs,u.oneCell'=true:=by
 intro F;induction F with
 | nil=>intro off _; exact ⟨[],rfl,rfl,fun i v h=>by simp at h,fun u h=>by simp at h⟩
 | cons h k r _ ihr=>
  intro off ⟨h0,h1,h2,⟨u,h3,hn⟩,⟨v,h4,hk⟩,h5,hr⟩;obtain ⟨xn,cn,rfl,-⟩:=id hn;obtain ⟨xk,ck,rfl,-⟩:=id hk;obtain ⟨ys,e1,e2,e3,e4⟩:=ihr _ hr;have hT:NdV w (ndV h (.slice xn h.names.length cn) (.slice xk k.len ck)) (h,k):=ndv_mk h k rfl rfl hn hk;refine ⟨(ndV h (.slice xn h.names.length cn) (.slice xk k.len ck)).toList++ys,by simp [ndV,e1,Fo.len]; omega,⟨_,ys,rfl,hT,e2⟩,fun i v hi=>?_,fun u hu=>?_⟩
  ·by_cases h6:i < 6
   ·rw [List.getElem?_append_left (by simpa [ndV] using h6)] at hi
    match i,h6 with
    | 0,_=>cases hi; exact h0
    | 1,_=>cases hi; exact h1
    | 2,_=>cases hi; exact h2
    | 3,_=>cases hi; exact h3
    | 4,_=>cases hi; exact h4
    | 5,_=>cases hi; exact h5
   ·rw [List.getElem?_append_right (by simp [ndV]; omega)] at hi
    have:=e3 (i - 6) v (by simpa [ndV] using hi)
    rwa [show off+6+(i - 6)=off+i by omega] at this
  ·rcases List.mem_append.1 hu with h7 | h7
   ·exact hT.one' u h7
   ·exact e4 u h7

theorem csub_below {S:Nat→Bool} {w w':World} (hb:Below w.heap.size w w') (hS:∀k,k < w.heap.size→S k=true):CSub w (maskW S w'):=fun b o v hc=>
 (mask_cell S w' b o v).2 ⟨hS b (World.block_lt_of_cell? w _ hc),(hb.cell (p:=⟨b,o,none⟩) (World.block_lt_of_cell? w _ hc)).trans hc⟩
theorem rt_app:∀(A B:Fo),rt .st (A.app B)=(rt .st A&&rt .st B):=by
 intro A;induction A with
 | nil=>intro B; simp [Fo.app,rt]
 | cons h k r _ ih=>intro B; simp only [Fo.app,rt,ih B,Bool.and_assoc]
def CE.Nz {α:Type} (r:CE α):Prop:=∀x,r=.error x→x.2≠0
end Go.Proofs.YtbaidkefobhipaaGreatDoor
