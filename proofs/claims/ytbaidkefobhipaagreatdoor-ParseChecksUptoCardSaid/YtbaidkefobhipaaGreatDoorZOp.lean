/-
  How an argument []api.Syntax is read (of a narrowed row).
-/
import Derived.Test.YtbaidkefobhipaaGreatDoorZS2
import Derived.Test.YtbaidkefobhipaaGreatDoorZS6
import Derived.Deep.Strs
import Derived.ChangeArms
import Derived.Test.YtbaidkefobhipaaGreatDoorRows
namespace Go.Proofs.YtbaidkefobhipaaGreatDoor
set_option maxRecDepth 100000
open Go.RowKit Go.ChangeShapes Go.WideShapes

instance:Inhabited Hd:=⟨⟨0,[],0,[],0⟩⟩
instance:Inhabited Fo:=⟨.nil⟩
def ofL:List Nd→Fo
 | []=>.nil
 | x::l=>.cons x.1 x.2 (ofL l)
theorem ofL_len (l:List Nd):(ofL l).len=l.length:=by
 induction l with
 | nil=>rfl
 | cons x l ih=>simp only [ofL,Fo.len,ih,List.length_cons]
theorem ofL_wt (l:List Nd):(ofL l).wt=(l.map Nd.wt).sum:=by
 induction l with
 | nil=>rfl
 | cons x l ih=>simp only [ofL,Fo.wt,ih,List.map_cons,List.sum_cons,Nd.wt]
def NodeAt (w:World) (x:Nd) (b off:Nat):Prop:=
 w.cell? ⟨b,off,none⟩=some (.int .i64 x.1.kind)∧w.cell? ⟨b,off+1,none⟩=some (.string ⟨x.1.text.toArray⟩)∧w.cell? ⟨b,off+2,none⟩=some (.int .i64 x.1.num)∧
  (∃u,w.cell? ⟨b,off+3,none⟩=some u∧NmRow w u x.1.names)∧(∃u,w.cell? ⟨b,off+4,none⟩=some u∧FRow w u x.2)∧w.cell? ⟨b,off+5,none⟩=some (.int .i64 x.1.pos)
theorem ofL_at (w:World) (b:Nat):∀(l:List Nd) (off:Nat),(∀i (h:i < l.length),NodeAt w l[i] b (off+i*6))→FAt w (ofL l) b off:=by
 intro l;induction l with
 | nil=>intro _ _; trivial
 | cons x l ih=>
  intro off h;obtain ⟨h0,h1,h2,h3,h4,h5⟩:=h 0 (by simp)
  simp only [Nat.zero_mul,Nat.add_zero,List.getElem_cons_zero] at h0 h1 h2 h3 h4 h5;refine ⟨h0,h1,h2,h3,h4,h5,ih (off+6) fun i hi=>?_⟩
  have:=h (i+1) (by simpa using hi)
  rw [show off+(i+1)*6=off+6+i*6 by omega] at this
  simpa using this
section
variable {H:Type} {enc:TypeId×Value→H} {W:World}
theorem bulkAll_app (a b:List (DataW H)):Rows.uptoBulkAll (a++b)=Rows.uptoBulkAll a+Rows.uptoBulkAll b:=by
 induction a with
 | nil=>simp [Rows.uptoBulkAll]
 | cons d r ih=>simp only [List.cons_append,Rows.uptoBulkAll,ih]; omega
theorem bulkAll_sum (D:Nat→DataW H) (L:Nat→Nat):∀k,(∀i,i < k→L i≤Rows.uptoBulk (D i))→((List.range k).map L).sum≤Rows.uptoBulkAll ((List.range k).map D):=by
 intro k;induction k with
 | zero=>intro _; simp
 | succ k ih=>
  intro h;have h1:=ih (fun i hi=>h i (by omega))
  have h2:=h k (by omega)
  rw [List.range_succ,List.map_append,List.map_append,bulkAll_app,List.sum_append];simp only [List.map_cons,List.map_nil,Rows.uptoBulkAll,List.sum_cons,List.sum_nil];omega
theorem bulk_mem (D:Nat→DataW H):∀k i,i < k→Rows.uptoBulk (D i)≤Rows.uptoBulkAll ((List.range k).map D):=by
 intro k;induction k with
 | zero=>intro i hi; omega
 | succ k ih=>
  intro i hi;rw [List.range_succ,List.map_append,bulkAll_app];simp only [List.map_cons,List.map_nil,Rows.uptoBulkAll];by_cases h:i < k
  ·have:=ih i h; omega
  ·obtain rfl:i=k:=by omega
   omega
theorem open_names {fuel:Nat} {v:Value} {x:DataW H×List MemPlace} (h:DataW.trod enc Tryz.prog W 0 (fun _=>true) true fuel 29 [v]=some x):∃l,NmRow W v l∧(l.map fun n=>1+n.length).sum+1≤Rows.uptoBulk x.1:=by
 rcases Deep.open_strs Tryz.underlying29 Tryz.underlying9 (by kernel_rfl) h with ⟨hcs,rfl⟩ | ⟨a,len,cap,m,Sx,hcs,_,hl,hm,hmm,rfl,hx⟩
 ·simp only [List.cons.injEq,and_true] at hcs
  subst hcs;exact ⟨[],nmrow_nil W,by simp [Rows.uptoBulk]⟩
 ·simp only [List.cons.injEq,and_true] at hcs
  subst hcs;simp only [if_true] at hmm;subst hmm;refine ⟨(List.range len).map fun i=>(Sx i).data.toList,⟨some a,_,by simp,by simpa using hl,hm,(fun h=>by cases h),fun hne=>?_⟩,?_⟩
  ·have hlen:0 < len:=by
    rcases Nat.eq_zero_or_pos len with h0 | h0
    ·subst h0; simp at hne
    ·exact h0
   obtain ⟨b,off,spot⟩:=a
   have hspot:spot=none:=by
    have c0:=(hx 0 (by omega)).1
    simpa [Addr.add] using World.cell?_spot c0
   subst hspot;refine ⟨b,off,rfl,fun i hi=>?_⟩
   have hi':i < len:=by simpa using hi
   have:=(hx i (by omega)).1
   rw [Addr.add_lit] at this;simp only [List.getElem_map,List.getElem_range];exact this
  ·have:=bulkAll_sum (fun i=>(DataW.lit (.string (Sx i).data.toList):DataW H)) (fun i=>1+(Sx i).data.toList.length) len (fun i _=>by simp only [Rows.uptoBulk]; omega)
   simp only [Rows.uptoBulk];rw [List.map_map];show ((List.range len).map fun i=>1+(Sx i).data.toList.length).sum+1≤_
   omega
theorem open_fo:∀(N:Nat) (fuel:Nat) (v:Value) (x:DataW H×List MemPlace),Rows.uptoBulk x.1≤N→DataW.trod enc Tryz.prog W 0 (fun _=>true) true fuel 22 [v]=some x→∃F,FRow W v F∧F.wt+1≤Rows.uptoBulk x.1:=by
 intro N;induction N with
 | zero=>
  intro fuel v x hN h;exfalso;rcases Deep.open_slice Tryz.underlying22 h with ⟨_,rfl⟩ | ⟨_,_,_,_,_,_,_,_,_,_,_,_,rfl,_⟩ <;> simp [Rows.uptoBulk] at hN
 | succ N ih=>
  intro fuel v x hN h;rcases Deep.open_slice Tryz.underlying22 h with ⟨hcs,rfl⟩ | ⟨a,len,cap,m,n,D,Pl,hcs,_,hl,hm,hmm,rfl,hx⟩
  ·simp only [List.cons.injEq,and_true] at hcs
   subst hcs;exact ⟨.nil,frow_nil W,by simp [Rows.uptoBulk,Fo.wt]⟩
  ·simp only [List.cons.injEq,and_true] at hcs
   subst hcs;simp only [if_true] at hmm;subst hmm;have ce:Tryz.prog.cellsOf 31=6:=by kernel_rfl
   have ci:Tryz.prog.cellsOf 3=1:=by kernel_rfl
   have cs1:Tryz.prog.cellsOf 9=1:=by kernel_rfl
   have cn:Tryz.prog.cellsOf 29=1:=by kernel_rfl
   have ck:Tryz.prog.cellsOf 22=1:=by kernel_rfl
   simp only [Rows.uptoBulk] at hN;have key:∀i,i < len→∃y:Nd,(W.cell? (a.add (i*6))=some (.int .i64 y.1.kind)∧W.cell? (a.add (i*6+1))=some (.string ⟨y.1.text.toArray⟩)∧W.cell? (a.add (i*6+2))=some (.int .i64 y.1.num)∧
     (∃u,W.cell? (a.add (i*6+3))=some u∧NmRow W u y.1.names)∧(∃u,W.cell? (a.add (i*6+4))=some u∧FRow W u y.2)∧W.cell? (a.add (i*6+5))=some (.int .i64 y.1.pos))∧y.wt≤Rows.uptoBulk (D i):=by
    intro i hi;obtain ⟨cs',h1,h2⟩:=hx i (by omega)
    have hbi:=bulk_mem D len i hi
    rw [ce] at h1;obtain ⟨_,hlen,hcell⟩:=World.cells?_some h1;obtain ⟨xs,k,_,hxe,_,hxl,hf⟩:=DataW.trod_struct Tryz.underlying31 h2;have hx6:xs.length=6:=hxl;have hDi:D i=.agg (xs.map (·.1)):=congrArg Prod.fst hxe;have hxs:∃x0 x1 x2 x3 x4 x5,xs=[x0,x1,x2,x3,x4,x5]:=by
     match xs,hx6 with
     | [x0,x1,x2,x3,x4,x5],_=>exact ⟨x0,x1,x2,x3,x4,x5,rfl⟩
    obtain ⟨x0,x1,x2,x3,x4,x5,rfl⟩:=hxs
    have hcs:∃v0 v1 v2 v3 v4 v5,cs'=[v0,v1,v2,v3,v4,v5]:=by
     match cs',hlen with
     | [x0,x1,x2,x3,x4,x5],_=>exact ⟨x0,x1,x2,x3,x4,x5,rfl⟩
    obtain ⟨v0,v1,v2,v3,v4,v5,rfl⟩:=hcs
    have g0:DataW.trod enc Tryz.prog W 0 (fun _=>true) true k 3 (([v0,v1,v2,v3,v4,v5].drop 0).take (Tryz.prog.cellsOf 3))=some x0:=hf 0 _ rfl
    have g1:DataW.trod enc Tryz.prog W 0 (fun _=>true) true k 9 (([v0,v1,v2,v3,v4,v5].drop 1).take (Tryz.prog.cellsOf 9))=some x1:=hf 1 _ rfl
    have g2:DataW.trod enc Tryz.prog W 0 (fun _=>true) true k 3 (([v0,v1,v2,v3,v4,v5].drop 2).take (Tryz.prog.cellsOf 3))=some x2:=hf 2 _ rfl
    have g3:DataW.trod enc Tryz.prog W 0 (fun _=>true) true k 29 (([v0,v1,v2,v3,v4,v5].drop 3).take (Tryz.prog.cellsOf 29))=some x3:=hf 3 _ rfl
    have g4:DataW.trod enc Tryz.prog W 0 (fun _=>true) true k 22 (([v0,v1,v2,v3,v4,v5].drop 4).take (Tryz.prog.cellsOf 22))=some x4:=hf 4 _ rfl
    have g5:DataW.trod enc Tryz.prog W 0 (fun _=>true) true k 3 (([v0,v1,v2,v3,v4,v5].drop 5).take (Tryz.prog.cellsOf 3))=some x5:=hf 5 _ rfl
    rw [ci] at g0 g2 g5;rw [cs1] at g1;rw [cn] at g3;rw [ck] at g4;simp only [List.drop_zero,List.drop_succ_cons,List.take_succ_cons,List.take_zero] at g0 g1 g2 g3 g4 g5;obtain ⟨a0,e0,d0,_⟩:=DataW.trod_int Tryz.underlying3 g0;obtain ⟨s1,e1,d1,_⟩:=DataW.trod_string Tryz.underlying9 g1;obtain ⟨a2,e2,d2,_⟩:=DataW.trod_int Tryz.underlying3 g2;obtain ⟨a5,e5,d5,_⟩:=DataW.trod_int Tryz.underlying3 g5
    obtain ⟨ns,n1,n2⟩:=open_names g3
    simp only [List.map_cons,List.map_nil] at hDi;rw [hDi] at hbi;simp only [Rows.uptoBulk,Rows.uptoBulkAll] at hbi;obtain ⟨K,k1,k2⟩:=ih k v4 x4 (by omega) g4
    have c0:=hcell 0 (by omega)
    have c1:=hcell 1 (by omega)
    have c2:=hcell 2 (by omega)
    have c3:=hcell 3 (by omega)
    have c4:=hcell 4 (by omega)
    have c5:=hcell 5 (by omega)
    rw [Deep.add_add] at c0 c1 c2 c3 c4 c5;simp only [List.cons.injEq,and_true] at e0 e1 e2 e5;subst e0 e1 e2 e5;refine ⟨(⟨a0,s1.data.toList,a2,ns,a5⟩,K),⟨by simpa using c0,by simpa using c1,by simpa using c2,⟨v3,by simpa using c3,n1⟩,⟨v4,by simpa using c4,k1⟩,by simpa using c5⟩,?_⟩
    rw [hDi];subst d0 d1 d2 d5;simp only [Rows.uptoBulk,Rows.uptoBulkAll,Nd.wt,Hd.wt];omega
   obtain ⟨q,hq⟩:=Deep.choose_lt key
   refine ⟨ofL ((List.range len).map q),⟨some a,_,by rw [ofL_len]; simp,by rw [ofL_len]; simpa using hl,hm,(fun h=>by cases h),fun hne=>?_⟩,?_⟩
   ·have hlen:0 < len:=by
     rcases Nat.eq_zero_or_pos len with h0 | h0
     ·subst h0; simp [ofL_len] at hne
     ·exact h0
    obtain ⟨b,off,spot⟩:=a
    have hspot:spot=none:=by
     have c0:=(hq 0 hlen).1.1
     simpa [Addr.add] using World.cell?_spot c0
    subst hspot;refine ⟨b,off,rfl,ofL_at W b _ off fun i hi=>?_⟩
    have hi':i < len:=by simpa using hi
    obtain ⟨⟨c0,c1,c2,⟨u3,c3,n3⟩,⟨u4,c4,n4⟩,c5⟩,-⟩:=hq i hi'
    simp only [List.getElem_map,List.getElem_range];rw [Addr.add_lit] at c0 c1 c2 c3 c4 c5;exact ⟨c0,by rw [Nat.add_assoc]; exact c1,by rw [Nat.add_assoc]; exact c2,⟨u3,by rw [Nat.add_assoc]; exact c3,n3⟩,⟨u4,by rw [Nat.add_assoc]; exact c4,n4⟩,by rw [Nat.add_assoc]; exact c5⟩
   ·have:=bulkAll_sum D (fun i=>(q i).wt) len (fun i hi=>(hq i hi).2)
    rw [ofL_wt,List.map_map];simp only [Rows.uptoBulk];show ((List.range len).map fun i=>(q i).wt).sum+1≤_
    omega
def FArg (w:World) (v:Value):Prop:=∃F,FRow w v F∧F.wt≤1048576
theorem open_syntax_u {base:Nat} {v:Value} {d:DataW H} {p:List MemPlace} (hv:Value.okWide Tryz.prog W .any base 22 v)
  (h:DataW.Trod enc Tryz.prog W 0 (fun _=>true) true 22 v d p) (hb:Rows.uptoBulk d≤1048576):FArg W v:=by
 obtain ⟨a0,len,cap,rfl⟩:=okWide_slice Tryz.underlying22 hv
 obtain ⟨fuel,hf⟩:=h
 obtain ⟨F,h1,h2⟩:=open_fo _ fuel (.slice a0 len cap) (d,p) (Nat.le_refl _) (by simpa [Value.cells] using hf)
 exact ⟨F,h1,by simp only at h2; omega⟩
end
end Go.Proofs.YtbaidkefobhipaaGreatDoor
