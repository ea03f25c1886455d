/-
  Plain lemmas on worlds, blocks and rows of cells, used by the walks of this seat. Nothing here speaks of the program.
  Plain definitions: the tokens of a script.
  Walks: the classes of bytes, the reserved words, blanks and comments, in the program and in the reference.
  Walk: the reference's way over blanks and comments.
  Walks: numbers, in the program and in the reference.
  Walks: numbers in the reference, names.
-/
import Derived.WalkKit
import Derived.WalkSpells
import Derived.WalkLawsBesides
import Derived.Lib.Hide
import Derived.Lib.AppendStr
import Derived.Maps.AppendAt
import Derived.Deep.AppendLies
import Derived.Deep.Draws
import Derived.Deep.QuietTactic
import Derived.BigQuiet
import Derived.OrdersHeld
import Derived.Deep.RegionHeld
import Derived.Test.YtbaidkefobhipaaGreatDoorProg
namespace Go.Proofs.YtbaidkefobhipaaGreatDoor
set_option maxHeartbeats 2000000
set_option maxRecDepth 100000
theorem zs1 {α:Type} {l:List α} {i:Nat} {a:α}:l.toArray.setIfInBounds i a=(l.set i a).toArray:=List.setIfInBounds_toArray ..
theorem zs2 {α:Type} {x a:α} {xs:List α}:(x::xs).set 0 a=a::xs:=rfl
theorem zs3 {α:Type} {x a:α} {xs:List α} {n:Nat}:(x::xs).set (n+1) a=x::xs.set n a:=rfl
theorem zH {p:Prop} (h:p):Go.RowKit.Hid p:=h
theorem zT {P:Program} {ops:Array Oper} {Q:Exit→Act→World→Prop} {md:Region.Mode} {S:World→Prop} (i:Nat) {oi:Oper} {v:Value} {fuel:Nat} {listed:Array Bool} {a:Act} {w:World} (hS:S w)
  (h:wpAnyH P md ops Q S fuel (listed.setIfInBounds i true) (a.put oi.dst v) w) (hi:ops.toList[i]?=some oi:=by rfl) (hs:Region.noSelect ops=true:=by kernel_rfl) (hf:Region.free md ops listed i=true:=by kernel_rfl) (hr:(Region.ready md ops listed).contains i=true:=by kernel_rfl)
  (hQ:∀c a w,Q (.panic c) (a.put oi.dst v) w→Q (.panic c) a w:=by exact fun _ _ _ h=>h) (hw:Region.wanted oi (yielded ops a.tmps)=true:=by rfl) (hy:∀w,S w→(execOp a.eval oi).run P w=.ok (.value v) w:=by intro w hSw; (try dsimp only at hSw); go_simp; try with_reducible rfl):wpAnyH P md ops Q S (fuel+1) listed a w:=
 wpAnyH_take (by rw [← Array.getElem?_toList]; exact hi) hs hf hr hQ (Or.inl ⟨hw,hy⟩) hS h
theorem zR {P:Program} {ops:Array Oper} {Q:Exit→Act→World→Prop} {md:Region.Mode} {S:World→Prop} (i:Nat) {o:Oper} {fuel:Nat} {listed:Array Bool} {a:Act} {w:World}
  (h:∀K':Act→World→Prop,Shut (∀a w,S w→(S w→wpAnyH P md ops Q S fuel (listed.setIfInBounds i true) a w)→K' a w)→if Region.wanted o (yielded ops a.tmps)=true then Oper.wp P o a w K' Q else K' (a.put o.dst undef) w)
  (ho:ops.toList[i]?=some o:=by rfl) (hr:Region.ready md ops listed=[i]:=by kernel_rfl):wpAnyH P md ops Q S (fuel+1) listed a w:=
 wpAnyH_ready hr (by simp) (AllReadyH.cons (by rw [← Array.getElem?_toList]; exact ho) h AllReadyH.nil)
theorem zF {P:Program} {ops:Array Oper} {Q:Exit→Act→World→Prop} {md:Region.Mode} {S:World→Prop} (i j:Nat) {o q:Oper} {fuel:Nat} {listed:Array Bool} {a:Act} {w:World}
  (h:∀K':Act→World→Prop,Shut (∀a w,S w→(S w→wpAnyH P md ops Q S fuel (listed.setIfInBounds i true) a w)→K' a w)→if Region.wanted o (yielded ops a.tmps)=true then Oper.wp P o a w K' Q else K' (a.put o.dst undef) w)
  (h2:∀K':Act→World→Prop,Shut (∀a w,S w→(S w→wpAnyH P md ops Q S fuel (listed.setIfInBounds j true) a w)→K' a w)→if Region.wanted q (yielded ops a.tmps)=true then Oper.wp P q a w K' Q else K' (a.put q.dst undef) w)
  (ho:ops.toList[i]?=some o:=by rfl) (hq:ops.toList[j]?=some q:=by rfl) (hr:Region.ready md ops listed=[i,j]:=by kernel_rfl):wpAnyH P md ops Q S (fuel+1) listed a w:=
 wpAnyH_ready hr (by simp) (AllReadyH.cons (by rw [← Array.getElem?_toList]; exact ho) h (AllReadyH.cons (by rw [← Array.getElem?_toList]; exact hq) h2 AllReadyH.nil))
open Go.RowKit

def Blk (w:World) (k:Nat) (t:TypeId) (cs:Array Value):Prop:=w.heap[k]?=some (.cells cs t (0,0))

theorem Blk.lt {w:World} {k:Nat} {t:TypeId} {cs:Array Value} (h:Blk w k t cs):k < w.heap.size:=by
 unfold Blk at h;rcases Nat.lt_or_ge k w.heap.size with h1 | h1
 ·exact h1
 ·rw [Array.getElem?_eq_none h1] at h; cases h
theorem Blk.cell {w:World} {k:Nat} {t:TypeId} {cs:Array Value} (h:Blk w k t cs) (i:Nat):w.cell? ⟨k,i,none⟩=cs[i]?:=cell_of_row w k i cs t (0,0) h
theorem Blk.frozen {w:World} {k:Nat} {t:TypeId} {cs:Array Value} (h:Blk w k t cs) (i:Nat):w.frozen? ⟨k,i,none⟩=false:=by
 unfold Blk at h; simp [World.frozen?,h]
theorem Blk.new (w:World) (t:TypeId) (cs:Array Value):Blk (w.alloc (.cells cs t)) w.heap.size t cs:=heap_alloc_new w _
theorem Blk.alloc {w:World} {k:Nat} {t:TypeId} {cs:Array Value} (h:Blk w k t cs) (o:Obj):Blk (w.alloc o) k t cs:=(Below.heap_alloc w o k h.lt).trans h
theorem Blk.drew {w:World} {k:Nat} {t:TypeId} {cs:Array Value} (h:Blk w k t cs):Blk w.drew k t cs:=h
theorem Blk.drewN {w:World} {k:Nat} {t:TypeId} {cs:Array Value} (h:Blk w k t cs) (n:Nat):Blk (w.drewN n) k t cs:=h
theorem Blk.put {w:World} {k:Nat} {t:TypeId} {cs:Array Value} (h:Blk w k t cs) (i:Nat) (u:Value):Blk (w.setCell ⟨k,i,none⟩ u) k t (cs.setIfInBounds i u):=by
 unfold Blk at h ⊢;simp [World.setCell,Array.getElem?_modify,h]
theorem Blk.other {w:World} {k:Nat} {t:TypeId} {cs:Array Value} (h:Blk w k t cs) {p:Addr} (hp:k≠p.block) (u:Value):Blk (w.setCell p u) k t cs:=(Below.heap_setCell w p u k hp).trans h
theorem Blk.uniq {w:World} {k:Nat} {t t':TypeId} {cs cs':Array Value} (h:Blk w k t cs) (h':Blk w k t' cs'):t=t'∧cs=cs':=by
 unfold Blk at h h'; rw [h] at h'; injection h' with h'; injection h' with h1 h2; exact ⟨h2,h1⟩
theorem Blk.apart {w:World} {k k':Nat} {t t':TypeId} {cs cs':Array Value} (h:Blk w k t cs) (h':Blk w k' t' cs') (hne:t≠t'):k≠k':=by
 rintro rfl; exact hne (h.uniq h').1

structure Fr (B:Nat) (T:List TypeId) (w w':World):Prop where
 os:w'.os=w.os
 tape:w'.tape=w.tape
 output:w'.output=w.output
 size:w.heap.size≤w'.heap.size
 block:∀k,k < w.heap.size→(k < B∨∃cs t fr,w.heap[k]?=some (.cells cs t fr)∧t∉T)→w'.heap[k]?=w.heap[k]?

theorem Fr.refl (B:Nat) (T:List TypeId) (w:World):Fr B T w w:=⟨rfl,rfl,rfl,Nat.le_refl _,fun _ _ _=>rfl⟩
theorem Fr.trans {B:Nat} {T:List TypeId} {a b c:World} (h:Fr B T a b) (h':Fr B T b c):Fr B T a c:=
 ⟨h'.os.trans h.os,h'.tape.trans h.tape,h'.output.trans h.output,Nat.le_trans h.size h'.size,fun k hk hc=>by
  have e:=h.block k hk hc
  refine (h'.block k (Nat.lt_of_lt_of_le hk h.size) ?_).trans e
  rw [e]; exact hc⟩
theorem Fr.blk {B:Nat} {T:List TypeId} {w w':World} (h:Fr B T w w') {k:Nat} {t:TypeId} {cs:Array Value} (hb:Blk w k t cs) (ht:t∉T):Blk w' k t cs:=
 (h.block k hb.lt (.inr ⟨cs,t,(0,0),hb,ht⟩)).trans hb
theorem Fr.alloc {B:Nat} {T:List TypeId} {a w:World} (h:Fr B T a w) (o:Obj):Fr B T a (w.alloc o):=
 h.trans ⟨rfl,rfl,rfl,by simp,fun k hk _=>Below.heap_alloc _ _ _ hk⟩
theorem Fr.drew {B:Nat} {T:List TypeId} {a w:World} (h:Fr B T a w):Fr B T a w.drew:=⟨h.os,h.tape,h.output,h.size,h.block⟩
theorem Fr.drewN {B:Nat} {T:List TypeId} {a w:World} (h:Fr B T a w) (n:Nat):Fr B T a (w.drewN n):=⟨h.os,h.tape,h.output,h.size,h.block⟩
theorem Fr.put {B:Nat} {T:List TypeId} {a w:World} (h:Fr B T a w) {k:Nat} {t:TypeId} {cs:Array Value} (hb:Blk w k t cs) (hk:B≤k) (ht:t∈T) (i:Nat) (u:Value):Fr B T a (w.setCell ⟨k,i,none⟩ u):=
 h.trans ⟨rfl,rfl,rfl,by simp [World.setCell],fun j hj hc=>Below.heap_setCell _ _ _ _ (fun e=>by
  obtain rfl:k=j:=e.symm
  rcases hc with hc | ⟨cs',t',fr',e',ht'⟩
  ·have hc':k < B:=hc
   omega
  ·unfold Blk at hb
   rw [hb] at e'; injection e' with e'; injection e' with _ e2
   exact ht' (e2 ▸ ht))⟩
theorem Fr.grown {B:Nat} {T:List TypeId} {a w w':World} (h:Fr B T a w) {base:Nat} {e:TypeId} {size:Nat} {v:Value} {n:Nat} {xs:List Value} (ho:w.ownsRow base e size v n xs) (hB:B≤base) (he:e∈T) (hg:w.grownBy w' v.ownBlock):Fr B T a w':=
 h.trans ⟨hg.os,hg.tape,hg.output,hg.size,fun k hk hc=>hg.block k hk (fun eq=>by
  rcases ho.2 with ⟨rfl,_⟩ | ⟨g,cap,cur,rfl,hbg,hh,_⟩
  ·simp [Value.ownBlock] at eq
  ·have:k=g:=by simpa [Value.ownBlock] using eq
   subst this;rcases hc with hc | ⟨cs',t',fr',e',ht'⟩
   ·omega
   ·rw [hh] at e'; injection e' with e'; injection e' with _ e2
    exact ht' (e2 ▸ he))⟩
theorem Fr.below {B:Nat} {T:List TypeId} {w w':World} (h:Fr B T w w') (hB:B≤w.heap.size):Below B w w':=
 ⟨h.os,h.tape,h.output,h.size,fun k hk=>h.block k (by omega) (.inl hk)⟩
theorem Fr.of_below {B:Nat} {w w':World} (h:Below w.heap.size w w') (T:List TypeId):Fr B T w w':=
 ⟨h.os,h.tape,h.output,h.size,fun k hk _=>h.block k hk⟩
theorem Fr.mono {B B':Nat} {T T':List TypeId} {w w':World} (h:Fr B T w w') (hB:B'≤B) (hT:∀t∈T,t∈T'):Fr B' T' w w':=
 ⟨h.os,h.tape,h.output,h.size,fun k hk hc=>h.block k hk (by
  rcases hc with hc | ⟨cs,t,fr,e,ht⟩
  ·exact .inl (by omega)
  ·exact .inr ⟨cs,t,fr,e,fun hm=>ht (hT _ hm)⟩)⟩
theorem Fr.owns {B:Nat} {T:List TypeId} {w w':World} (h:Fr B T w w') {base:Nat} {e:TypeId} {size:Nat} {v:Value} {n:Nat} {xs:List Value} (ho:w.ownsRow base e size v n xs) (he:e∉T):w'.ownsRow base e size v n xs:=by
 refine ⟨ho.1,?_⟩
 rcases ho.2 with hn | ⟨g,cap,cur,rfl,hb,hgg,rest⟩
 ·exact .inl hn
 ·refine .inr ⟨g,cap,cur,rfl,hb,?_,rest⟩
  rw [h.block g (Array.getElem?_eq_some_iff.1 hgg).1 (.inr ⟨_,_,_,hgg,he⟩)]; exact hgg

def Elem (P:Program) (t e:TypeId) (z:Value) (size bytes:Nat):Prop:=
 P.underlying t=some (.slice e)∧(∃i,P.info? e=some i∧i.zero=some z∧i.size=size∧i.bytes=bytes)∧z.cells.size=size∧0 < size

def bcells (l:List UInt8):List Value:=l.map fun b=>Value.int .u8 b.toNat
theorem bcells_append (a b:List UInt8):bcells (a++b)=bcells a++bcells b:=by simp [bcells]
theorem bcells_get (l:List UInt8) (i:Nat) (h:i < l.length):(bcells l)[i]?=some (.int .u8 (l[i].toNat:Int)):=by simp [bcells,h]
def BRow (w:World) (base:Nat) (e:TypeId) (v:Value) (l:List UInt8):Prop:=w.ownsRow base e 1 v l.length (bcells l)

section
variable {P:Program} {w0:World}

theorem wpList_app {ops:Array Oper} {rest:List Oper} {o:Oper} {a:Act} {Q:Exit→Act→World→Prop} {s x:Operand} {t e:TypeId} {z:Value} {size bytes:Nat}
  (hE:Elem P t e z size bytes) {base:Nat} {v:Value} {n:Nat} {xs:List Value} (hown:w0.ownsRow base e size v n xs) (hbase:base≤w0.heap.size)
  (hgd:o.guard=none) (ho:o.op=.call { callee:=.builtin .append,args:=#[s,x],argTypes:=#[t,t] }) (hs:a.eval s=v)
  {cs:Array Value} {m:Nat} (hm:cs.size=(m+1)*size) (h1:∀u∈cs.toList,u.oneCell'=true) (hx:a.eval x=.slice (some ⟨w0.heap.size,0,none⟩) (m+1) (m+1))
  (hlen:(n+(m+1))*bytes≤140737488355328) (h63:n+(m+1)≤maxLen)
  (h:∀r cap w',w'.ownsRow base e size (.slice (some ⟨r,0,none⟩) (n+(m+1)) cap) (n+(m+1)) (xs++cs.toList)→(w0.alloc (.cells cs e)).grownBy w' v.ownBlock→(v.ownBlock=some r∨r=w0.heap.size+1)→
   wpList P ops Q rest (a.put o.dst (.slice (some ⟨r,0,none⟩) (n+(m+1)) cap)) w'):wpList P ops Q (o::rest) a (w0.alloc (.cells cs e)):=by
 obtain ⟨ht,⟨i,hi,hz,hsz,hby⟩,hzs,hp⟩:=hE
 refine wpList_append_lies _ hgd s x t ho base e i z size bytes ht hi hz hsz hby hzs hp v n xs hs (hown.alloc _) ⟨w0.heap.size,0,none⟩ (m+1) (m+1) cs.toList hx (by simpa using hm) (World.news_of_block (Blk.new w0 e cs)) h1 (by omega) h63 hlen (by simp; omega) (w0.heap.size+1) (by simp) ?_
 intro r cap w' h1 h2 h3 _;exact h r cap w' h1 h2 h3

theorem wpList_app_str {w:World} {ops:Array Oper} {rest:List Oper} {o:Oper} {a:Act} {Q:Exit→Act→World→Prop} {sl x:Operand} {t u e:TypeId}
  (hE:Elem P t e (.int .u8 0) 1 1) (hu:P.underlying u=some .string) {base:Nat} {v:Value} {l:List UInt8} (hown:BRow w base e v l) (hbase:base≤w.heap.size)
  (hgd:o.guard=none) (ho:o.op=.call { callee:=.builtin .append,args:=#[sl,x],argTypes:=#[t,u] }) (hs:a.eval sl=v)
  {s:ByteArray} (hx:a.eval x=.string s) (hlen:l.length+s.size≤140737488355328)
  (h:∀v' w',BRow w' base e v' (l++s.data.toList)→w.grownBy w' v.ownBlock→wpList P ops Q rest (a.put o.dst v') w'):wpList P ops Q (o::rest) a w:=by
 obtain ⟨ht,⟨i,hi,hz,hsz,hby⟩,_,_⟩:=hE
 refine Lib.wpList_append_own_string w hgd sl x t u ho base e i ht hu hi hz hsz hby v l.length (bcells l) hs hown s hx (by unfold maxLen; omega) hlen hbase ?_
 intro v' w' h2 h3 _;refine h v' w' ?_ h3;unfold BRow;rw [bcells_append,List.length_append];exact h2
end

theorem run_str_of {P:Program} {w:World} {src dst e:TypeId} (hs:P.underlying src=some (.slice e)) (he:P.underlying e=some (.int .u8)) (hd:P.underlying dst=some .string)
  {base:Nat} {v:Value} {l:List UInt8} (h:BRow w base e v l):(convert src dst v).run P w=.ok (.string ⟨l.toArray⟩) w:=by
 rcases h.2 with ⟨rfl,h0⟩ | ⟨g,cap,cur,rfl,_,hg,_,_,_,ht⟩
 ·have:l=[]:=List.eq_nil_of_length_eq_zero h0
  subst this;rw [run_convert_bytes_string w src dst e none 0 0 hs he hd];simp [Conv.bytesToString]; rfl
 ·refine run_convert_bytes_back w src dst e ⟨g,0,none⟩ cap l hs he hd fun j hj=>?_
  have:=World.ownsRow.cells h (g:=g) rfl j _ (bcells_get l j hj)
  exact this

theorem brow_more {w:World} {base:Nat} {e:TypeId} {v:Value} {n:Nat} {l:List UInt8} {xs:List Value} (h:w.ownsRow base e 1 v n (bcells l++xs)) (new:List UInt8) (hx:xs=bcells new) (hn:n=l.length+new.length):BRow w base e v (l++new):=by
 subst hx; subst hn;unfold BRow;rw [bcells_append,List.length_append];exact h

theorem below_app {B:Nat} {w wr w1:World} {e:TypeId} {size:Nat} {v:Value} {n:Nat} {xs:List Value} {o:Obj} (hb:Below B w wr) (hB:B≤wr.heap.size) (ho:wr.ownsRow B e size v n xs)
  (hg:(wr.alloc o).grownBy w1 v.ownBlock):Below B w w1∧B≤w1.heap.size:=by
 refine ⟨(hb.alloc hB o).grown hg (by simp; omega) (fun k hk=>(ho.lt k hk).1),?_⟩
 have:=hg.size; simp at this; omega
def strLen:Value→Nat | .string r=>r.size | _=>0
theorem extract_list (s:ByteArray) (a b:Nat):(s.extract a b).data.toList=(s.data.toList.take b).drop a:=by
 rw [ByteArray.data_extract]; simp [List.drop_take]

theorem own_ne {w:World} {g r n cap:Nat} {t e:TypeId} {cs:Array Value} {base size:Nat} {xs:List Value} (hb:Blk w g t cs) (ho:w.ownsRow base e size (.slice (some ⟨r,0,none⟩) n cap) n xs) (hne:t≠e):g≠r:=by
 rcases ho.2 with ⟨h,_⟩ | ⟨g',cap',cur,h,_,hg,_⟩
 ·cases h
 ·injection h with h1
  injection h1 with h1
  injection h1 with h1
  subst h1;exact Blk.apart hb hg hne

theorem own_blk_ne' {w:World} {g:Nat} {t e:TypeId} {cs:Array Value} {base n size:Nat} {v:Value} {xs:List Value} (hb:Blk w g t cs)
  (ho:(v=.slice none 0 0∧n=0)∨∃g cap cur,v=.slice (some ⟨g,0,none⟩) n cap∧base≤g∧w.heap[g]?=some (.cells cur e (0,0))∧n≤cap∧cap≤maxLen∧cur.size=cap*size∧cur.toList.take (n*size)=xs) (hne:t≠e):some g≠v.ownBlock:=by
 rcases ho with ⟨rfl,_⟩ | ⟨g',cap,cur,rfl,_,hg,_⟩
 ·simp [Value.ownBlock]
 ·intro h
  have:g=g':=by simpa [Value.ownBlock] using h
  subst this;exact Blk.apart hb hg hne rfl

theorem ret_int {k:IntKind} {a b:Int} (h:a=b):Ending.returned (.int k a)=.returned (.int k b):=by rw [h]
theorem wrap64_of (n:Int) (h:-9223372036854775808≤n∧n≤9223372036854775807):wrap64 n=n:=by unfold wrap64; omega
def mkRow (z:Value) (n:Nat):Array Value:=Array.replicate n z
theorem Blk.new_at {w:World} {k:Nat} (hk:k=w.heap.size) (t:TypeId) (cs:Array Value):Blk (w.alloc (.cells cs t)) k t cs:=by subst hk; exact Blk.new w t cs

theorem wpAnyH_weaken {P:Program} {md:Region.Mode} {ops:Array Oper} {Q:Exit→Act→World→Prop} {S S2:World→Prop} (hS:∀w,S2 w→S w):
  ∀{fuel:Nat} {listed:Array Bool} {a:Act} {w:World},wpAnyH P md ops Q S2 fuel listed a w→wpAnyH P md ops Q S fuel listed a w
 | 0,_,_,_,h=>h
 | _+1,_,_,_,h=>⟨h.1,fun i hi=>wpOp_mono (fun _ _ h'=>⟨hS _ h'.1,wpAnyH_weaken hS h'.2⟩) (h.2 i hi)⟩


def dig (c:UInt8):Bool:=48≤c.toNat&&c.toNat≤57
def let8 (c:UInt8):Bool:=(97≤c.toNat&&c.toNat≤122)||(65≤c.toNat&&c.toNat≤90)||c.toNat==95

def skipN:Bool→List UInt8→Nat
 | _,[]=>0
 | cm,c::t=>if c.toNat=10 then skipN false t+1 else if cm=true∨c.toNat=32∨c.toNat=9 then skipN cm t+1 else if c.toNat=35 then skipN true t+1 else 0
theorem skipN_le (cm:Bool) (l:List UInt8):skipN cm l≤l.length:=by
 induction l generalizing cm with
 | nil=>simp [skipN]
 | cons c t ih=>
  unfold skipN;split
  ·have:=ih false; simp; omega
  ·split
   ·have:=ih cm; simp; omega
   ·split
    ·have:=ih true; simp; omega
    ·simp

def numR:Nat→List UInt8→Option Nat
 | _,[]=>some 0
 | v,c::t=>if dig c then (if 4611686018427387904 < 10*v+(c.toNat - 48) then none else (numR (10*v+(c.toNat - 48)) t).map (·+1)) else some 0
def runN (p:UInt8→Bool):List UInt8→Nat
 | []=>0
 | c::t=>if p c then runN p t+1 else 0
theorem runN_le (p:UInt8→Bool) (l:List UInt8):runN p l≤l.length:=by
 induction l with
 | nil=>simp [runN]
 | cons c t ih=>unfold runN; split <;> simp <;> omega
theorem numR_run (v:Nat) (l:List UInt8) (n:Nat) (h:numR v l=some n):n=runN dig l:=by
 induction l generalizing v n with
 | nil=>simp [numR] at h; simp [runN,h]
 | cons c t ih=>
  unfold numR at h;unfold runN;by_cases hd:dig c
  ·simp only [hd,if_true] at h ⊢
   split at h
   ·cases h
   ·obtain ⟨m,hm,rfl⟩:=Option.map_eq_some_iff.1 h
    rw [ih _ _ hm]
  ·simp only [hd] at h ⊢
   simpa using h.symm

def quoR:List UInt8→Option (List UInt8×Nat)
 | []=>none
 | c::t=>
  if c.toNat=34 then some ([],1)
  else if c.toNat < 32∨126 < c.toNat then none
  else if c.toNat=92 then
   match t with
   | []=>none
   | d::u=>if d.toNat=92∨d.toNat=34 then (quoR u).map fun x=>(d::x.1,x.2+2) else if d.toNat=110 then (quoR u).map fun x=>(10::x.1,x.2+2) else none
  else (quoR t).map fun x=>(c::x.1,x.2+1)

def bytes (s:List Nat):List UInt8:=s.map UInt8.ofNat
def twos:List (List UInt8):=[bytes [61,61],bytes [33,61],bytes [60,61],bytes [62,61],bytes [38,38],bytes [124,124],bytes [46,46]]
def ones:List UInt8:=bytes [43,45,42,47,37,60,62,61,33,40,41,123,125,91,93,44,59]
def opR (l:List UInt8):Nat:=if (l.take 2)∈twos then 2 else match l with | []=>0 | c::_=>if c∈ones then 1 else 0

def words:List (List UInt8):=[bytes [108,101,116],bytes [105,102],bytes [101,108,115,101],bytes [119,104,105,108,101],bytes [102,111,114],bytes [105,110],bytes [102,110],bytes [114,101,116,117,114,110],
 bytes [98,114,101,97,107],bytes [116,114,117,101],bytes [102,97,108,115,101]]
def resv (l:List UInt8):Bool:=decide (l∈words)

structure Tk where
 kind:Nat
 text:List UInt8
 at_:Nat

def numT (u:List UInt8) (p:Nat):Except Nat (Tk×Nat):=
 match numR 0 u with
 | none=>.error 2
 | some n=>if n < u.length∧let8 (u.getD n 0)=true then .error 18 else .ok (⟨1,u.take n,p⟩,p+n)
def wordN (u:List UInt8):Nat:=runN (fun c=>let8 c||dig c) u
def nameT (u:List UInt8) (p:Nat):Except Nat (Tk×Nat):=
 if 32 < wordN u then .error 13 else .ok (⟨if resv (u.take (wordN u)) then 5 else 3,u.take (wordN u),p⟩,p+wordN u)
def quoT (t:List UInt8) (p:Nat):Except Nat (Tk×Nat):=
 match quoR t with
 | none=>.error 18
 | some (v,n)=>if 256 < v.length then .error 3 else .ok (⟨2,v,p⟩,p+1+n)
def opT (u:List UInt8) (p:Nat):Except Nat (Tk×Nat):=
 if opR u=0 then .error 18 else .ok (⟨4,u.take (opR u),p⟩,p+opR u)
def tokP (l:List UInt8) (p:Nat):Except Nat (Tk×Nat):=
 match l.drop p with
 | []=>.error 18
 | c::t=>if dig c then numT (c::t) p else if let8 c then nameT (c::t) p else if c.toNat=34 then quoT t p else opT (c::t) p

def toksGo (l:List UInt8):Nat→Nat→Nat→Except (Nat×Nat) (List Tk)
 | 0,_,p=>.error (p,3)
 | f+1,n,p=>
  if 4096≤n then .error (p,3)
  else if p=l.length then .ok [⟨0,[],p⟩]
  else match tokP l p with
   | .error e=>.error (p,e)
   | .ok (t,q)=>match toksGo l f (n+1) (q+skipN false (l.drop q)) with
    | .error x=>.error x
    | .ok r=>.ok (t::r)
def toksP (l:List UInt8):Except (Nat×Nat) (List Tk):=if 16384 < l.length then .error (0,3) else toksGo l (l.length+1) 0 (skipN false l)

open Go.RowKit

theorem ret_bool {a b:Bool} (h:a=b):Ending.returned (.bool a)=.returned (.bool b):=by rw [h]

theorem isDigit_any (c:UInt8) (w:World):Calls Tryz.prog 93 #[.int .u8 (c.toNat:Int)] w fun e w'=>e=.returned (.bool (dig c))∧w=w':=by
 have hb:=c.toNat_lt
 by_cases h1:48≤c.toNat
 ·go_enter Tryz.func93,Tryz.ntmps93
  go_wp2
  go_ret
  refine ⟨ret_bool ?_,rfl⟩
  simp [dig,h1]; omega
 ·have hd:decide ((48:Int)≤(c.toNat:Int))=false:=by simp; omega
  go_enter Tryz.func93,Tryz.ntmps93
  go_wp2
  go_ret
  refine ⟨ret_bool ?_,rfl⟩
  simp [dig,h1]
theorem isLetter_any (c:UInt8) (w:World):Calls Tryz.prog 95 #[.int .u8 (c.toNat:Int)] w fun e w'=>e=.returned (.bool (let8 c))∧w=w':=by
 have hb:=c.toNat_lt
 go_enter Tryz.func95,Tryz.ntmps95
 go_wp2
 all_goals
  go_ret
  refine ⟨ret_bool ?_,rfl⟩
  rw [Bool.eq_iff_iff];simp [let8];omega
theorem reserved_any (s:ByteArray) (w:World):Calls Tryz.prog 103 #[.string s] w fun e w'=>e=.returned (.bool (resv s.data.toList))∧w=w':=by
 go_enter Tryz.func103,Tryz.ntmps103
 go_wp2
 all_goals
  go_ret
  refine ⟨ret_bool ?_,rfl⟩
  rw [resv,← ByteArray.toList_eq];simp_all [words,bytes]
theorem rreserved_any (s:ByteArray) (w:World):Calls Tryz.prog 108 #[.string s] w fun e w'=>e=.returned (.bool (resv s.data.toList))∧w=w':=by
 go_enter Tryz.func108,Tryz.ntmps108
 go_wp2
 all_goals
  go_ret
  refine ⟨ret_bool ?_,rfl⟩
  rw [resv,← ByteArray.toList_eq];simp_all [words,bytes]

theorem drop_at (s:ByteArray) (k:Nat) (h:k < s.size):s.data.toList.drop k=s[k]::s.data.toList.drop (k+1):=by
 have h':k < s.data.toList.length:=by simpa using h
 rw [List.drop_eq_getElem_cons h']; rfl

theorem skip_any (s:ByteArray) (p:Nat) (w:World) (hp:p≤s.size) (hs:s.size < 1000000):
  Calls Tryz.prog 48 #[.string s,.int .i64 p] w fun e w'=>e=.returned (.int .i64 (p+skipN false (s.data.toList.drop p):Nat))∧w=w':=by
 go_enter Tryz.func48,Tryz.ntmps48
 go_wp2
 go_loop [1,5,6] (fun va vc _=>∃(k:Nat) (cm:Bool),va=.int .i64 k∧vc=.bool cm∧k≤s.size∧Hid (k+skipN cm (s.data.toList.drop k)=p+skipN false (s.data.toList.drop p))) (fun va _ _=>s.size - (intOf va).toNat)
 case atStart=>exact ⟨p,false,rfl,rfl,hp,rfl⟩
 case round=>
  obtain ⟨k,cm,rfl,rfl,hk,hg⟩:=hrel
  by_cases hlt:k < s.size
  ·have hd:=hg.out
   rw [drop_at s k hlt,skipN] at hd;have hb:=(s[k]).toNat_lt;have HD:=zH hd;clear hd hg;by_cases h10:(s[k]).toNat=10
   ·have e10:(((s[k]).toNat:Int)==10)=true:=by simp; omega
    have hd:=HD.out
    rw [if_pos h10] at hd;have HD2:=zH hd;clear hd HD;go_wp2;go_round
    case rel=>exact ⟨k+1,false,by go_num,rfl,by omega,by show _=_; have:=HD2.out; omega⟩
    case measure=>simp [intOf]; omega
   cases cm
   ·by_cases h32:(s[k]).toNat=32
    ·have e10:(((s[k]).toNat:Int)==10)=false:=by simp; omega
     have e32:(((s[k]).toNat:Int)==32)=true:=by simp; omega
     have hd:=HD.out
     rw [if_neg h10,if_pos (.inr (.inl h32))] at hd;have HD2:=zH hd;clear hd HD;go_wp2;go_round
     case rel=>exact ⟨k+1,false,by go_num,rfl,by omega,by show _=_; have:=HD2.out; omega⟩
     case measure=>simp [intOf]; omega
    by_cases h9:(s[k]).toNat=9
    ·have e10:(((s[k]).toNat:Int)==10)=false:=by simp; omega
     have e32:(((s[k]).toNat:Int)==32)=false:=by simp; omega
     have e9:(((s[k]).toNat:Int)==9)=true:=by simp; omega
     have hd:=HD.out
     rw [if_neg h10,if_pos (.inr (.inr h9))] at hd;have HD2:=zH hd;clear hd HD;go_wp2;go_round
     case rel=>exact ⟨k+1,false,by go_num,rfl,by omega,by show _=_; have:=HD2.out; omega⟩
     case measure=>simp [intOf]; omega
    by_cases h35:(s[k]).toNat=35
    ·have e10:(((s[k]).toNat:Int)==10)=false:=by simp; omega
     have e32:(((s[k]).toNat:Int)==32)=false:=by simp; omega
     have e9:(((s[k]).toNat:Int)==9)=false:=by simp; omega
     have e35:(((s[k]).toNat:Int)==35)=true:=by simp; omega
     have hd:=HD.out
     rw [if_neg h10,if_neg (by simp [h32,h9]),if_pos h35] at hd
     have HD2:=zH hd
     clear hd HD;go_wp2;go_round
     case rel=>exact ⟨k+1,true,by go_num,rfl,by omega,by show _=_; have:=HD2.out; omega⟩
     case measure=>simp [intOf]; omega
    have e10:(((s[k]).toNat:Int)==10)=false:=by simp; omega
    have e32:(((s[k]).toNat:Int)==32)=false:=by simp; omega
    have e9:(((s[k]).toNat:Int)==9)=false:=by simp; omega
    have e35:(((s[k]).toNat:Int)==35)=false:=by simp; omega
    have hd:=HD.out
    rw [if_neg h10,if_neg (by simp [h32,h9]),if_neg h35] at hd
    have HD2:=zH hd
    clear hd HD;go_wp2;go_ret;exact ⟨ret_int (by have:=HD2.out; omega),rfl⟩
   ·have e10:(((s[k]).toNat:Int)==10)=false:=by simp; omega
    have hd:=HD.out
    rw [if_neg h10,if_pos (.inl rfl)] at hd;have HD2:=zH hd;clear hd HD;go_wp2;go_round
    case rel=>exact ⟨k+1,true,by go_num,rfl,by omega,by show _=_; have:=HD2.out; omega⟩
    case measure=>simp [intOf]; omega
  ·have hend:Hid (p+skipN false (s.data.toList.drop p)=k):=by
    show _=_
    rw [← hg.out,List.drop_of_length_le (by simp; omega)]; simp [skipN]
   go_wp2
   go_ret
   exact ⟨ret_int (by have:=hend.out; omega),rfl⟩
open Go.RowKit

open Go.RowKit

def tkV (t:Tk):Value:=.agg #[.int .i64 t.kind,.string ⟨t.text.toArray⟩,.int .i64 t.at_]
def tk0:Value:=.agg #[.int .i64 0,.string ⟨#[]⟩,.int .i64 0]
def tokRes (r:Except Nat (Tk×Nat)):Value:=
 match r with
 | .error e=>.tuple #[tk0,.int .i64 0,.int .i64 e]
 | .ok (t,q)=>.tuple #[tkV t,.int .i64 q,.int .i64 0]

theorem extract_mk (s:ByteArray) (a b:Nat):s.extract a b=⟨((s.data.toList.take b).drop a).toArray⟩:=by
 apply ByteArray.ext
 rw [← Array.toList_inj];have:=extract_list s a b;simpa using this
theorem extract_take (s:ByteArray) (a n:Nat):s.extract a (a+n)=⟨((s.data.toList.drop a).take n).toArray⟩:=by
 rw [extract_mk,List.drop_take];simp

theorem number_any (s:ByteArray) (p:Nat) (w:World) (hp:p≤s.size) (hs:s.size < 1000000):
  Calls Tryz.prog 94 #[.string s,.int .i64 p] w fun e w'=>e=.returned (tokRes (numT (s.data.toList.drop p) p))∧Below w.heap.size w w':=by
 have hb0:Below w.heap.size w (w.alloc (.cells #[.int .i64 0,.string ⟨#[]⟩,.int .i64 0] 73)):=(Below.refl _ _).alloc (Nat.le_refl _) _
 go_enter Tryz.func94,Tryz.ntmps94
 go_wp2
 go_loop [7,8,9] (fun ve vv _=>∃(k v:Nat),ve=.int .i64 ((p+k:Nat):Int)∧vv=.int .i64 v∧p+k≤s.size∧v≤4611686018427387904∧Hid ((numR v (s.data.toList.drop (p+k))).map (·+k)=numR 0 (s.data.toList.drop p))) (fun ve _ _=>s.size - (intOf ve).toNat)
 case atStart=>exact ⟨0,0,rfl,rfl,hp,by omega,by show _=_; simp⟩
 case round=>
  obtain ⟨k,v,rfl,rfl,hk,hv,hg⟩:=hrel
  by_cases hlt:p+k < s.size
  ·have hd:=hg.out
   rw [drop_at s (p+k) hlt,numR] at hd;have hb:=(s[p+k]).toNat_lt;by_cases hdig:dig (s[p+k])=true
   ·have hd1:48≤(s[p+k]).toNat∧(s[p+k]).toNat≤57:=by simpa [dig] using hdig
    obtain ⟨d1,d2⟩:=hd1
    rw [if_pos hdig] at hd;have HD:=zH hd;clear hd hg;by_cases hr:4611686018427387904 < 10*v+((s[p+k]).toNat - 48)
    ·go_wp2_with fail
     refine (isDigit_any _ _).mono ?_
     rintro e w1 ⟨rfl,rfl⟩;rw [hdig];go_wp2_with fail;have hn:numT (s.data.toList.drop p) p=.error 2:=by
      have:=HD.out
      rw [if_pos hr] at this;rw [numT,← this]; rfl
     refine bodyPost_ret (v:=tokRes (.error 2)) (by simp [tokRes,tk0,results,Tryz.f94,go_sem]) rfl ⟨by first | rfl | rw [hn],?_⟩
     exact hb0
    ·go_wp2_with fail
     refine (isDigit_any _ _).mono ?_
     rintro e w1 ⟨rfl,rfl⟩;rw [hdig];go_wp2_with fail;refine ⟨⟨k+1,10*v+((s[p+k]).toNat - 48),by go_num,by go_num,by omega,by omega,?_⟩,?_⟩
     ·have:=HD.out
      rw [if_neg hr] at this;show _=_
      rw [← this,Option.map_map]; congr 1; funext x; simp; omega
     ·simp [intOf]; omega
   ·have hd2:Hid (numR 0 (s.data.toList.drop p)=some k):=by
     show _=_
     rw [if_neg hdig] at hd;rw [← hd]; simp
    clear hd hg;go_wp2_with fail;refine (isDigit_any _ _).mono ?_;rintro e w1 ⟨rfl,rfl⟩;rw [Bool.eq_false_iff.2 hdig];go_wp2_with fail;refine (isLetter_any _ _).mono ?_;rintro e w1 ⟨rfl,rfl⟩;have hget:(s.data.toList.drop p).getD k 0=s[p+k]:=by
     rw [List.getD_eq_getElem?_getD,List.getElem?_drop,List.getElem?_eq_getElem (by simpa using hlt)]; rfl
    by_cases hl:let8 (s[p+k])=true
    ·have hn:numT (s.data.toList.drop p) p=.error 18:=by
      rw [numT,hd2.out];simp only [hget];rw [if_pos ⟨by simp; omega,hl⟩]
     rw [hl];go_wp2_with fail;refine bodyPost_ret (v:=tokRes (.error 18)) (by simp [tokRes,tk0,results,Tryz.f94,go_sem]) rfl ⟨by first | rfl | rw [hn],?_⟩
     exact (Below.refl _ _).alloc (Nat.le_refl _) _
    ·have hn:numT (s.data.toList.drop p) p=.ok (⟨1,(s.data.toList.drop p).take k,p⟩,p+k):=by
      rw [numT,hd2.out];simp only [hget];rw [if_neg (by simp [hl])]
     rw [Bool.eq_false_iff.2 hl];go_wp2_with fail;refine bodyPost_ret (v:=tokRes (.ok (⟨1,(s.data.toList.drop p).take k,p⟩,p+k))) (by simp [tokRes,tkV,results,Tryz.f94,go_sem,extract_take]) rfl ⟨by first | rfl | rw [hn],?_⟩
     exact (Below.refl _ _).alloc (Nat.le_refl _) _
  ·have hd2:Hid (numR 0 (s.data.toList.drop p)=some k):=by
    show _=_
    have hd:=hg.out
    rw [List.drop_of_length_le (by simp; omega)] at hd
    rw [← hd]; simp [numR]
   clear hg;have hn:numT (s.data.toList.drop p) p=.ok (⟨1,(s.data.toList.drop p).take k,p⟩,p+k):=by
    rw [numT,hd2.out];simp only;rw [if_neg (by simp; omega)]
   go_wp2_with fail;refine bodyPost_ret (v:=tokRes (.ok (⟨1,(s.data.toList.drop p).take k,p⟩,p+k))) (by simp [tokRes,tkV,results,Tryz.f94,go_sem,extract_take]) rfl ⟨by first | rfl | rw [hn],?_⟩
   exact (Below.refl _ _).alloc (Nat.le_refl _) _
open Go.RowKit

theorem drop_end (s:ByteArray) (j:Nat) (h:s.size≤j):s.data.toList.drop j=[]:=List.drop_of_length_le (by simpa using h)
def errOf (r:Except Nat (Tk×Nat)):Nat:=match r with | .error e=>e | .ok _=>0

theorem name_any (s:ByteArray) (p:Nat) (w:World) (hp:p≤s.size) (hs:s.size < 1000000):
  Calls Tryz.prog 96 #[.string s,.int .i64 p] w fun e w'=>e=.returned (tokRes (nameT (s.data.toList.drop p) p))∧Below w.heap.size w w':=by
 go_enter Tryz.func96,Tryz.ntmps96
 go_wp2
 go_loop [7] (fun ve=>∃(k:Nat),ve=.int .i64 ((p+k:Nat):Int)∧p+k≤s.size∧
   Hid (wordN (s.data.toList.drop (p+k))+k=wordN (s.data.toList.drop p))) (fun ve=>s.size - (intOf ve).toNat)
 case atStart=>exact ⟨0,rfl,hp,by show _=_; simp⟩
 case round=>
  obtain ⟨k,rfl,hk,hrn⟩:=hrel
  by_cases hlt:p+k < s.size
  ·have hr0:=hrn.out
   rw [drop_at s (p+k) hlt,wordN,runN] at hr0;have hb:=(s[p+k]).toNat_lt;have hcl:decide (((p:Int)+(k:Int)) < (s.size:Int))=true:=by simp; omega
   by_cases hl:let8 (s[p+k])=true
   ·rw [if_pos (by simp [hl])] at hr0
    have HR:=zH hr0
    clear hr0 hrn;go_wp2_with fail;refine (isLetter_any _ _).mono ?_;rintro e w1 ⟨rfl,rfl⟩;rw [hl];go_wp2_with fail;refine ⟨⟨k+1,by go_num,by omega,?_⟩,?_⟩
    ·show _=_; have:=HR.out; rw [wordN,← Nat.add_assoc p k 1]; omega
    ·simp [intOf]; omega
   ·have hl':=Bool.eq_false_iff.2 hl
    by_cases hdig:dig (s[p+k])=true
    ·rw [if_pos (by simp [hdig])] at hr0
     have HR:=zH hr0
     clear hr0 hrn;go_wp2_with fail;refine (isLetter_any _ _).mono ?_;rintro e w1 ⟨rfl,rfl⟩;rw [hl'];go_wp2_with fail;refine (isDigit_any _ _).mono ?_;rintro e w1 ⟨rfl,rfl⟩;rw [hdig];go_wp2_with fail;refine ⟨⟨k+1,by go_num,by omega,?_⟩,?_⟩
     ·show _=_; have:=HR.out; rw [wordN,← Nat.add_assoc p k 1]; omega
     ·simp [intOf]; omega
    ·rw [if_neg (by simp [hdig,hl])] at hr0
     have HR:=zH hr0
     clear hr0 hrn;go_wp2_with fail;refine (isLetter_any _ _).mono ?_;rintro e w1 ⟨rfl,rfl⟩;rw [hl'];go_wp2_with fail;refine (isDigit_any _ _).mono ?_;rintro e w1 ⟨rfl,rfl⟩;rw [Bool.eq_false_iff.2 hdig];go_wp2_with fail;have hN:wordN (s.data.toList.drop p)=k:=by have:=HR.out; omega
     have HN:=zH hN
     clear hN HR;refine (reserved_any _ _).mono ?_;rintro e w1 ⟨rfl,rfl⟩;rw [extract_take s p k];have hlen:Hid (((s.data.toList.drop p).take k).length=k):=by show _=_; simp; omega
     generalize hU:(s.data.toList.drop p).take k=U at*;by_cases hrv:resv U=true
     ·simp only [hrv]
      by_cases h32:32 < U.length
      ·go_wp2_with fail
       have hn:nameT (s.data.toList.drop p) p=.error 13:=by rw [nameT,HN.out,if_pos (by have:=hlen.out; omega)]
       exact bodyPost_ret (v:=tokRes (.error 13)) (by simp [tokRes,tk0,results,Tryz.f96,go_sem]) rfl ⟨by first | rfl | rw [hn],((Below.refl _ _).alloc (Nat.le_refl _) _).alloc (by simp) _⟩
      ·go_wp2_with fail
       have hn:nameT (s.data.toList.drop p) p=.ok (⟨5,U,p⟩,p+k):=by rw [nameT,HN.out,if_neg (by have:=hlen.out; omega),hU]; simp [hrv]
       exact bodyPost_ret (v:=tokRes (.ok (⟨5,U,p⟩,p+k))) (by simp [tokRes,tkV,results,Tryz.f96,go_sem]) rfl ⟨by first | rfl | rw [hn],((Below.refl _ _).alloc (Nat.le_refl _) _).alloc (by simp) _⟩
     ·simp only [Bool.eq_false_iff.2 hrv]
      by_cases h32:32 < U.length
      ·go_wp2_with fail
       have hn:nameT (s.data.toList.drop p) p=.error 13:=by rw [nameT,HN.out,if_pos (by have:=hlen.out; omega)]
       exact bodyPost_ret (v:=tokRes (.error 13)) (by simp [tokRes,tk0,results,Tryz.f96,go_sem]) rfl ⟨by first | rfl | rw [hn],((Below.refl _ _).alloc (Nat.le_refl _) _).alloc (by simp) _⟩
      ·go_wp2_with fail
       have hn:nameT (s.data.toList.drop p) p=.ok (⟨3,U,p⟩,p+k):=by rw [nameT,HN.out,if_neg (by have:=hlen.out; omega),hU]; simp [hrv]
       exact bodyPost_ret (v:=tokRes (.ok (⟨3,U,p⟩,p+k))) (by simp [tokRes,tkV,results,Tryz.f96,go_sem]) rfl ⟨by first | rfl | rw [hn],((Below.refl _ _).alloc (Nat.le_refl _) _).alloc (by simp) _⟩
  ·have hcl:decide (((p:Int)+(k:Int)) < (s.size:Int))=false:=by simp; omega
   have hr0:=hrn.out
   rw [drop_end s (p+k) (by omega),wordN,runN] at hr0
   have HR:=zH hr0
   clear hr0 hrn;go_wp2_with fail;have hN:wordN (s.data.toList.drop p)=k:=by have:=HR.out; omega
   have HN:=zH hN
   clear hN HR;refine (reserved_any _ _).mono ?_;rintro e w1 ⟨rfl,rfl⟩;rw [extract_take s p k];have hlen:Hid (((s.data.toList.drop p).take k).length=k):=by show _=_; simp; omega
   generalize hU:(s.data.toList.drop p).take k=U at*;by_cases hrv:resv U=true
   ·simp only [hrv]
    by_cases h32:32 < U.length
    ·go_wp2_with fail
     have hn:nameT (s.data.toList.drop p) p=.error 13:=by rw [nameT,HN.out,if_pos (by have:=hlen.out; omega)]
     exact bodyPost_ret (v:=tokRes (.error 13)) (by simp [tokRes,tk0,results,Tryz.f96,go_sem]) rfl ⟨by first | rfl | rw [hn],((Below.refl _ _).alloc (Nat.le_refl _) _).alloc (by simp) _⟩
    ·go_wp2_with fail
     have hn:nameT (s.data.toList.drop p) p=.ok (⟨5,U,p⟩,p+k):=by rw [nameT,HN.out,if_neg (by have:=hlen.out; omega),hU]; simp [hrv]
     exact bodyPost_ret (v:=tokRes (.ok (⟨5,U,p⟩,p+k))) (by simp [tokRes,tkV,results,Tryz.f96,go_sem]) rfl ⟨by first | rfl | rw [hn],((Below.refl _ _).alloc (Nat.le_refl _) _).alloc (by simp) _⟩
   ·simp only [Bool.eq_false_iff.2 hrv]
    by_cases h32:32 < U.length
    ·go_wp2_with fail
     have hn:nameT (s.data.toList.drop p) p=.error 13:=by rw [nameT,HN.out,if_pos (by have:=hlen.out; omega)]
     exact bodyPost_ret (v:=tokRes (.error 13)) (by simp [tokRes,tk0,results,Tryz.f96,go_sem]) rfl ⟨by first | rfl | rw [hn],((Below.refl _ _).alloc (Nat.le_refl _) _).alloc (by simp) _⟩
    ·go_wp2_with fail
     have hn:nameT (s.data.toList.drop p) p=.ok (⟨3,U,p⟩,p+k):=by rw [nameT,HN.out,if_neg (by have:=hlen.out; omega),hU]; simp [hrv]
     exact bodyPost_ret (v:=tokRes (.ok (⟨3,U,p⟩,p+k))) (by simp [tokRes,tkV,results,Tryz.f96,go_sem]) rfl ⟨by first | rfl | rw [hn],((Below.refl _ _).alloc (Nat.le_refl _) _).alloc (by simp) _⟩
end Go.Proofs.YtbaidkefobhipaaGreatDoor
