/-
  Maps of names that a call makes: made, looked up, stored into.
  The checker's state in memory; walks of visible.
  Walks: how the checker goes through expressions.
  Walks: the checker's loop over expressions.
-/
import Derived.Test.YtbaidkefobhipaaGreatDoorZS19
import Derived.Maps.OwnOps
import Derived.Test.YtbaidkefobhipaaGreatDoorZS8
namespace Go.Proofs.YtbaidkefobhipaaGreatDoor
set_option maxHeartbeats 4000000
set_option maxRecDepth 100000
open Go.RowKit

def SetAt (w:World) (b:Nat) (l:List (List UInt8)):Prop:=
 ∃es clock,w.heap[b]?=some (.map es clock)∧(∀e∈es.toList,e.val=.bool true∧∃s,e.key=.string ⟨s.toArray⟩∧s∈l)∧∀s∈l,∃e∈es.toList,e.key=.string ⟨s.toArray⟩
theorem SetAt.lt {w:World} {b:Nat} {l:List (List UInt8)} (h:SetAt w b l):b < w.heap.size:=by
 obtain ⟨es,clock,hb,-⟩:=h
 exact (Array.getElem?_eq_some_iff.1 hb).1
theorem SetAt.keep {w w':World} {b:Nat} {l:List (List UInt8)} (h:SetAt w b l) (hb:w'.heap[b]?=w.heap[b]?):SetAt w' b l:=by
 obtain ⟨es,clock,h1,h2⟩:=h
 exact ⟨es,clock,hb.trans h1,h2⟩
theorem SetAt.noblk {w:World} {b:Nat} {l:List (List UInt8)} (h:SetAt w b l) {t:TypeId} {cs:Array Value} (hb:Blk w b t cs):False:=by
 obtain ⟨es,clock,h1,-⟩:=h
 unfold Blk at hb;rw [h1] at hb;simp at hb
theorem setAt_made (w:World):SetAt (w.alloc (.map #[] 0)) w.heap.size []:=
 ⟨#[],0,(MapKept.heap_alloc w _).1,by simp,by simp⟩

theorem str_inj {s t:List UInt8} (h:(Value.string ⟨s.toArray⟩:Value)=.string ⟨t.toArray⟩):s=t:=by
 injection h with h
 injection h with h
 exact congrArg Array.toList h
theorem run_checkKey_str (em:Bool) (s:ByteArray) (w:World):(Instr.checkKey em 10000 9 (.string s)).run Tryz.prog w=.ok () w:=by
 show (Instr.checkKey em (9999+1) 9 (.string s)).run Tryz.prog w=.ok () w
 unfold Instr.checkKey;simp [run_underlying Tryz.underlying9,Result.andThen]
theorem set_find {es:Array MapEntry} {l:List (List UInt8)} (h1:∀e∈es.toList,e.val=.bool true∧∃s,e.key=.string ⟨s.toArray⟩∧s∈l) (s:List UInt8) (w:World):
  ((Instr.findKey 9 (.string ⟨s.toArray⟩) es.toList).run Tryz.prog w=.ok none w∧∀e∈es.toList,e.key≠.string ⟨s.toArray⟩)∨
  ∃j e,es.toList[j]?=some e∧e.key=.string ⟨s.toArray⟩∧(Instr.findKey 9 (.string ⟨s.toArray⟩) es.toList).run Tryz.prog w=.ok (some (j,.bool true)) w:=by
 have hk:∀x∈es.toList,MapKept.IsKey .string x.key:=fun x hx=>by
  obtain ⟨-,t,ht,-⟩:=h1 x hx
  rw [ht];simp [MapKept.IsKey]
 rcases MapKept.findNow_spec (d:=.string) (k:=.string ⟨s.toArray⟩) (by simp [MapKept.IsKey]) es.toList 0 hk with ⟨h2,h3⟩ | ⟨j,e,h2,h3,h4⟩
 ·exact Or.inl ⟨by simp [Instr.findKey,run_underlying Tryz.underlying9,h2,Result.andThen],h3⟩
 ·have hv:=(h1 e (List.mem_of_getElem? h3)).1
  rw [hv,Nat.zero_add] at h2;exact Or.inr ⟨j,e,h3,h4,by simp [Instr.findKey,run_underlying Tryz.underlying9,h2,Result.andThen]⟩
theorem set_lookup {w:World} {b:Nat} {l:List (List UInt8)} (h:SetAt w b l) (s:List UInt8):
  (Instr.lookup 43 (.map (some b)) (.string ⟨s.toArray⟩) false).run Tryz.prog w=.ok (.bool (decide (s∈l))) w:=by
 obtain ⟨es,clock,hb,h1,h2⟩:=h
 have hz:(zeroValue 4).run Tryz.prog w=.ok (.bool false) w:=by kernel_rfl
 rcases set_find h1 s w with ⟨h3,h4⟩ | ⟨j,e,h3,h4,h5⟩
 ·have hn:s∉l:=fun hs=>by
   obtain ⟨e,he,hk⟩:=h2 s hs
   exact h4 e he hk
  simp [Instr.lookup,run_underlying Tryz.underlying43,MapKept.run_getObj_map hb,run_checkKey_str,h3,hz,hn,Result.andThen]
 ·have hn:s∈l:=by
   obtain ⟨-,t,ht,hm⟩:=h1 e (List.mem_of_getElem? h3)
   rw [h4] at ht;rw [str_inj ht];exact hm
  simp [Instr.lookup,run_underlying Tryz.underlying43,MapKept.run_getObj_map hb,run_checkKey_str,h5,hn,Result.andThen]
theorem set_store {w:World} {b:Nat} {l:List (List UInt8)} (h:SetAt w b l) (s:List UInt8):
  ∃w',(Instr.mapUpdate 43 (.map (some b)) (.string ⟨s.toArray⟩) (.bool true)).run Tryz.prog w=.ok () w'∧SetAt w' b (s::l)∧w.grownBy w' (some b):=by
 obtain ⟨es,clock,hb,h1,h2⟩:=h
 rcases set_find h1 s w with ⟨h3,h4⟩ | ⟨j,e,h3,h4,h5⟩
 ·refine ⟨{ w with heap:=w.heap.setIfInBounds b (.map (es.push { key:=.string ⟨s.toArray⟩,val:=.bool true,born:=clock }) (clock+1)) },?_,?_,?_⟩
  ·simp [Instr.mapUpdate,run_underlying Tryz.underlying43,MapKept.run_getObj_map hb,run_checkKey_str,h3,MapKept.run_setObj_map _ hb,Result.andThen]
  ·refine ⟨_,_,ChangeMaps.heap_setBlock_same hb _,?_,?_⟩
   ·intro e he
    simp only [Array.toList_push,List.mem_append,List.mem_singleton] at he;rcases he with he | rfl
    ·obtain ⟨hv,t,ht,hm⟩:=h1 e he
     exact ⟨hv,t,ht,List.mem_cons_of_mem _ hm⟩
    ·exact ⟨rfl,s,rfl,List.mem_cons_self ..⟩
   ·intro t ht
    rcases List.mem_cons.1 ht with rfl | ht
    ·exact ⟨_,by simp; exact Or.inr rfl,rfl⟩
    ·obtain ⟨e,he,hk⟩:=h2 t ht
     exact ⟨e,by simp; exact Or.inl (by simpa using he),hk⟩
  ·exact ⟨rfl,rfl,rfl,by simp,fun i _ hi=>ChangeMaps.heap_setBlock_other hb _ (fun e=>hi (by rw [e]))⟩
 ·have hj:es[j]?=some e:=by simpa using h3
  have hjl:j < es.size:=by rcases Array.getElem?_eq_some_iff.1 hj with ⟨h,-⟩; exact h
  have hs:∀w:World,(Instr.keyThatStays (.string ⟨s.toArray⟩) (.string ⟨s.toArray⟩)).run Tryz.prog w=.ok (.string ⟨s.toArray⟩) w:=fun w=>by
   have:Instr.sameBits 10000 (.string ⟨s.toArray⟩) (.string ⟨s.toArray⟩)=true:=MapKept.sameBits_self (d:=.string) (by simp [MapKept.IsKey]) 10000
   simp [Instr.keyThatStays,this]
  refine ⟨{ w with heap:=w.heap.setIfInBounds b (.map (es.modify j fun e=>{ e with key:=.string ⟨s.toArray⟩,val:=.bool true }) clock) },?_,?_,?_⟩
  ·simp [Instr.mapUpdate,run_underlying Tryz.underlying43,MapKept.run_getObj_map hb,run_checkKey_str,h5,hj,h4,hs,MapKept.run_setObj_map _ hb,Result.andThen]
  ·refine ⟨_,_,ChangeMaps.heap_setBlock_same hb _,?_,?_⟩
   ·intro x hx
    rw [Array.toList_modify,ChangeMaps.modify_eq_set _ _ _ _ h3] at hx;rcases List.mem_or_eq_of_mem_set hx with hx | rfl
    ·obtain ⟨hv,t,ht,hm⟩:=h1 x hx
     exact ⟨hv,t,ht,List.mem_cons_of_mem _ hm⟩
    ·exact ⟨rfl,s,rfl,List.mem_cons_self ..⟩
   ·intro t ht
    rw [Array.toList_modify,ChangeMaps.modify_eq_set _ _ _ _ h3];by_cases hts:t=s
    ·subst hts
     exact ⟨_,List.mem_set (by simpa using hjl) _,rfl⟩
    ·rcases List.mem_cons.1 ht with rfl | ht
     ·exact absurd rfl hts
     ·obtain ⟨x,hx,hk⟩:=h2 t ht
      obtain ⟨i,hi⟩:=List.getElem?_of_mem hx
      have hij:j≠i:=by
       rintro rfl;rw [h3] at hi;injection hi with hi
       subst hi;rw [h4] at hk;exact hts (str_inj hk).symm
      exact ⟨x,List.mem_of_getElem? (i:=i) (by rw [List.getElem?_set_ne hij]; exact hi),hk⟩
  ·exact ⟨rfl,rfl,rfl,by simp,fun i _ hi=>ChangeMaps.heap_setBlock_other hb _ (fun e=>hi (by rw [e]))⟩

theorem wpList_lookup_set {w:World} {ops:Array Oper} {rest:List Oper} {o:Oper} {a:Act} {Q:Exit→Act→World→Prop} (hg:o.guard=none) (m x:Operand) (hop:o.op=Op.lookup 43 m x false)
  (b:Nat) (l:List (List UInt8)) (s:List UInt8) (hm:a.eval m=.map (some b)) (hx:a.eval x=.string ⟨s.toArray⟩) (h:SetAt w b l) (hK:wpList Tryz.prog ops Q rest (a.put o.dst (.bool (decide (s∈l)))) w):
  wpList Tryz.prog ops Q (o::rest) a w:=by
 refine wpList_plain hg fun K' hK'=>?_
 have hrun:=set_lookup h s
 unfold Oper.wp;simp only [execOp,hop,hm,hx];generalize Instr.lookup _ _ _ _=q at hrun;simp only [Sem.run_bind,hrun,Result.andThen_ok,Sem.run_pure];exact hK' _ _ hK
theorem wpList_mapUpdate_set {w:World} {ops:Array Oper} {rest:List Oper} {o:Oper} {a:Act} {Q:Exit→Act→World→Prop} (hg:o.guard=none) (m x y:Operand) (hop:o.op=Op.mapUpdate 43 m x y)
  (b:Nat) (l:List (List UInt8)) (s:List UInt8) (hm:a.eval m=.map (some b)) (hx:a.eval x=.string ⟨s.toArray⟩) (hy:a.eval y=.bool true) (h:SetAt w b l)
  (hK:∀w',SetAt w' b (s::l)→w.grownBy w' (some b)→wpList Tryz.prog ops Q rest (a.put o.dst undef) w'):
  wpList Tryz.prog ops Q (o::rest) a w:=by
 refine wpList_plain hg fun K' hK'=>?_
 obtain ⟨w',hrun,h1,h2⟩:=set_store h s
 unfold Oper.wp;simp only [execOp,hop,hm,hx,hy];generalize Instr.mapUpdate _ _ _ _=q at hrun;simp only [Sem.run_bind,hrun,Result.andThen_ok,Sem.run_pure];exact hK' _ _ (hK w' h1 h2)
open Go.RowKit

def mref (b:Nat):Value:=.map (some b)
def SetsAt (w:World):List Nat→List (List Nm)→Prop
 | [],[]=>True
 | b::bs,l::ls=>SetAt w b l∧SetsAt w bs ls
 | _,_=>False
theorem SetsAt.len {w:World}:∀{bs:List Nat} {ss:List (List Nm)},SetsAt w bs ss→bs.length=ss.length:=by
 intro bs;induction bs with
 | nil=>intro ss h; cases ss with
  | nil=>rfl
  | cons _ _=>exact h.elim
 | cons b bs ih=>intro ss h; cases ss with
  | nil=>exact h.elim
  | cons l ls=>simp [ih h.2]
theorem SetsAt.lt {w:World}:∀{bs:List Nat} {ss:List (List Nm)},SetsAt w bs ss→∀b∈bs,b < w.heap.size:=by
 intro bs;induction bs with
 | nil=>intro ss _ b hb; cases hb
 | cons b bs ih=>intro ss h; cases ss with
  | nil=>exact h.elim
  | cons l ls=>
   intro x hx;rcases List.mem_cons.1 hx with rfl | hx
   ·exact h.1.lt
   ·exact ih h.2 x hx
theorem SetsAt.keep {w w':World}:∀{bs:List Nat} {ss:List (List Nm)},SetsAt w bs ss→(∀b∈bs,w'.heap[b]?=w.heap[b]?)→SetsAt w' bs ss:=by
 intro bs;induction bs with
 | nil=>intro ss h _; cases ss with
  | nil=>trivial
  | cons _ _=>exact h.elim
 | cons b bs ih=>intro ss h hk; cases ss with
  | nil=>exact h.elim
  | cons l ls=>exact ⟨h.1.keep (hk b (List.mem_cons_self ..)),ih h.2 fun x hx=>hk x (List.mem_cons_of_mem _ hx)⟩
theorem SetsAt.noblk {w:World} {k:Nat} {t:TypeId} {cs:Array Value} (hb:Blk w k t cs):∀{bs:List Nat} {ss:List (List Nm)},SetsAt w bs ss→k∉bs:=by
 intro bs;induction bs with
 | nil=>intro _ _ h; cases h
 | cons b bs ih=>intro ss h; cases ss with
  | nil=>exact h.elim
  | cons l ls=>
   intro hm;rcases List.mem_cons.1 hm with rfl | hm
   ·exact h.1.noblk hb
   ·exact ih h.2 hm
theorem SetsAt.get {w:World}:∀{bs:List Nat} {ss:List (List Nm)},SetsAt w bs ss→∀i (h:i < bs.length),SetAt w bs[i] (ss.getD i []):=by
 intro bs;induction bs with
 | nil=>intro _ _ i h; cases h
 | cons b bs ih=>intro ss h i hi; cases ss with
  | nil=>exact h.elim
  | cons l ls=>
   cases i with
   | zero=>exact h.1
   | succ i=>exact ih h.2 i (by simpa using hi)

structure CkW (B:Nat) (w:World) (C:Nat) (s:CS) (v:Value) (bs:List Nat) (fb:Nat):Prop where
 blk:Blk w C 46 #[v,.map (some fb),.int .i64 (s.lo:Nat),.bool s.inF]
 row:w.ownsRow B 43 1 v bs.length (bs.reverse.map mref)
 nd:(fb::bs).Nodup
 fset:SetAt w fb s.fs
 sets:SetsAt w bs s.ss
 ge:B≤C∧B≤fb∧∀b∈bs,B≤b
structure Ch (C:Nat) (v:Value) (bs:List Nat) (fb:Nat) (w w':World):Prop where
 os:w'.os=w.os
 tape:w'.tape=w.tape
 output:w'.output=w.output
 size:w.heap.size≤w'.heap.size
 block:∀k,k < w.heap.size→k≠C→v.ownBlock≠some k→k∉bs→k≠fb→w'.heap[k]?=w.heap[k]?
theorem Ch.refl (C:Nat) (v:Value) (bs:List Nat) (fb:Nat) (w:World):Ch C v bs fb w w:=⟨rfl,rfl,rfl,Nat.le_refl _,fun _ _ _ _ _ _=>rfl⟩
theorem Ch.of_below {C:Nat} {v:Value} {bs:List Nat} {fb:Nat} {w w':World} (h:Below w.heap.size w w'):Ch C v bs fb w w':=⟨h.os,h.tape,h.output,h.size,fun k hk _ _ _ _=>h.block k hk⟩
theorem Ch.trans {C:Nat} {v v':Value} {bs bs':List Nat} {fb:Nat} {a b c:World} (h:Ch C v bs fb a b) (h':Ch C v' bs' fb b c) (hv:∀g,v'.ownBlock=some g→v.ownBlock=some g∨a.heap.size≤g) (hb:∀g∈bs',g∈bs∨a.heap.size≤g):Ch C v bs fb a c:=
 ⟨h'.os.trans h.os,h'.tape.trans h.tape,h'.output.trans h.output,Nat.le_trans h.size h'.size,fun k hk h1 h2 h3 h4=>
  (h'.block k (Nat.lt_of_lt_of_le hk h.size) h1 (fun he=>(hv k he).elim h2 (fun hl=>by omega)) (fun hm=>(hb k hm).elim h3 (fun hl=>by omega)) h4).trans (h.block k hk h1 h2 h3 h4)⟩
theorem Ch.below {B C:Nat} {v:Value} {bs:List Nat} {fb:Nat} {w w':World} {s:CS} (h:Ch C v bs fb w w') (hc:CkW B w C s v bs fb) (hB:B≤w.heap.size):Below B w w':=
 ⟨h.os,h.tape,h.output,h.size,fun k hk=>h.block k (by omega) (by have:=hc.ge.1; omega) (fun he=>by have:=(hc.row.lt k he).1; omega) (fun hm=>by have:=hc.ge.2.2 k hm; omega) (by have:=hc.ge.2.1; omega)⟩
theorem CkW.keep {B:Nat} {w w':World} {C:Nat} {s:CS} {v:Value} {bs:List Nat} {fb:Nat} (h:CkW B w C s v bs fb) (hk:∀k,k < w.heap.size→w'.heap[k]?=w.heap[k]?):CkW B w' C s v bs fb:=
 ⟨(hk C h.blk.lt).trans h.blk,own_keep h.row fun g _ hl=>hk g hl,h.nd,h.fset.keep (hk fb h.fset.lt),h.sets.keep fun b hb=>hk b (h.sets.lt b hb),h.ge⟩
theorem CkW.below {B:Nat} {w w':World} {C:Nat} {s:CS} {v:Value} {bs:List Nat} {fb:Nat} (h:CkW B w C s v bs fb) (hb:Below w.heap.size w w'):CkW B w' C s v bs fb:=h.keep fun k hk=>hb.block k hk
theorem CkW.shape {B:Nat} {w:World} {C:Nat} {s:CS} {v:Value} {bs:List Nat} {fb:Nat} (h:CkW B w C s v bs fb):∃x c,v=.slice x bs.length c∧bs.length≤c∧c≤maxLen∧(x=none→c=0∧bs=[])∧(∀a,x=some a→∃g,a=⟨g,0,none⟩∧∀i (hi:i < bs.length),w.cell? ⟨g,i,none⟩=some (mref (bs.reverse[i]'(by simpa using hi)))):=by
 rcases h.row.2 with ⟨h1,h2⟩ | ⟨g,cap,cur,h1,h2,h3,h4,h5,h6,h7⟩
 ·exact ⟨none,0,by rw [h1,h2],by omega,Nat.zero_le _,fun _=>⟨rfl,List.eq_nil_of_length_eq_zero h2⟩,fun a ha=>by cases ha⟩
 ·refine ⟨some ⟨g,0,none⟩,cap,h1,h4,h5,fun h=>by (cases h),fun a ha=>⟨g,by injection ha with ha; exact ha.symm,fun i hi=>?_⟩⟩
  have hr:=h.row
  rw [h1] at hr;rw [World.ownsRow.cellAt hr i (by omega),List.getElem?_map,List.getElem?_eq_getElem (by simpa using hi)]
  rfl

theorem any_step {α:Type} (f:α→Bool) (l:List α) (i:Nat) (h:i < l.length):(l.take (i+1)).any f=((l.take i).any f||f l[i]):=by
 rw [List.take_succ_eq_append_getElem h,List.any_append];simp
theorem visC_rev (ss:List (List Nm)) (s:Nm):ss.reverse.any (fun l=>decide (s∈l))=visC ss s:=List.any_reverse

theorem vis1_any (b:Nat) (l:List Nm) (s:Nm) (kb:Nat) (w:World) (hc:w.cell? ⟨kb,0,none⟩=some (.string ⟨s.toArray⟩)) (hs:SetAt w b l):
  Calls Tryz.prog 107 #[.map (some b),.pointer (some ⟨kb,0,none⟩)] w fun e w'=>e=.returned (.bool (decide (s∈l)))∧w'=w:=by
 have HS:=zH hs
 clear hs;go_enter Tryz.func107,Tryz.ntmps107;go_wp2_with (first | (at_lookup; refine wpList_lookup_set rfl _ _ rfl b l s rfl rfl HS.out ?_) | fail)
 go_ret
 exact ⟨rfl,rfl⟩

def SRow (w:World) (v:Value) (rs:List (List Nm)):Prop:=
 ∃x c,v=.slice x rs.length c∧rs.length≤c∧c≤maxLen∧(rs.length≠0→∃g,x=some ⟨g,0,none⟩∧∀i (h:i < rs.length),∃b,w.cell? ⟨g,i,none⟩=some (.map (some b))∧SetAt w b rs[i])
theorem CkW.srow {B:Nat} {w:World} {C:Nat} {s:CS} {v:Value} {bs:List Nat} {fb:Nat} (h:CkW B w C s v bs fb):SRow w v s.ss.reverse:=by
 obtain ⟨x,c,rfl,h1,h2,h3,h4⟩:=h.shape
 have hl:=h.sets.len
 have hl2:s.ss.reverse.length=bs.length:=by rw [List.length_reverse,hl]
 refine ⟨x,c,by rw [hl2],by omega,h2,fun hn=>?_⟩
 rw [hl2] at hn
 cases x with
 | none=>exact absurd (h3 rfl).2 (by intro he; rw [he] at hn; exact hn rfl)
 | some a=>
  obtain ⟨g,rfl,h5⟩:=h4 a rfl
  refine ⟨g,rfl,fun i hi=>⟨_,h5 i (by omega),?_⟩⟩
  have hi2:i < bs.length:=by omega
  have h6:=h.sets.get (bs.length - 1 - i) (by omega)
  rw [List.getElem_reverse,List.getElem_reverse];have e1:s.ss.getD (bs.length - 1 - i) []=s.ss[s.ss.length - 1 - i]'(by omega):=by
   rw [List.getD_eq_getElem?_getD,List.getElem?_eq_getElem (by omega)]
   simp only [Option.getD_some,hl]
  rw [e1] at h6;exact h6

theorem indexS_any (s:Nm) (rs:List (List Nm)) (v:Value) (kb:Nat) (w:World) (hr:SRow w v rs) (hc:w.cell? ⟨kb,0,none⟩=some (.string ⟨s.toArray⟩)):
  Calls Tryz.prog 121 #[v,.func (.func 107) #[] #[.pointer (some ⟨kb,0,none⟩)]] w fun e w'=>
   (∃n:Int,e=.returned (.int .i64 n)∧decide (0≤n)=rs.any fun l=>decide (s∈l))∧w'=w:=by
 obtain ⟨x,c,rfl,hl,hcc,hrow⟩:=id hr
 have HR:=zH hrow
 have HC:=zH hc
 unfold maxLen at hcc;clear hr hc hrow;obtain ⟨n,hn⟩:∃n,rs.length=n:=⟨_,rfl⟩;rw [hn] at hl ⊢;have HN:=zH hn;clear hn;go_enter Tryz.func121,Tryz.ntmps121;go_wp2_with fail;go_loopw [8] (fun vi wr=>∃(i:Nat),vi=.int .i64 i∧i≤n∧Hid ((rs.take i).any (fun l=>decide (s∈l))=false)∧wr=w) (fun vi _=>n - (intOf vi).toNat)
 case atStart=>exact ⟨0,rfl,Nat.zero_le _,rfl,rfl⟩
 case round=>
  obtain ⟨i,rfl,hi,hA,rfl⟩:=hrel
  by_cases hlt:i < n
  ·have dlt:decide ((i:Int) < (n:Int))=true:=by simp; omega
   have i1:(i:Int) < (n:Int):=by omega
   have hi2:i < rs.length:=by rw [HN.out]; exact hlt
   obtain ⟨g,rfl,hrow⟩:=HR.out (by omega)
   obtain ⟨b,hb,hs⟩:=hrow i hi2
   obtain ⟨q,hq⟩:∃q,decide (s∈rs[i])=q:=⟨_,rfl⟩
   have HS:=vis1_any b rs[i] s kb wr HC.out hs
   rw [hq] at HS;have HS:=zH HS;have HQ:Hid ((rs.take (i+1)).any (fun l=>decide (s∈l))=q):=by show _=_; rw [any_step _ _ _ hi2,hA.out,Bool.false_or]; exact hq
   clear hq hrow hs hi2;go_wp2_with fail;refine HS.out.mono ?_;rintro e w5 ⟨rfl,rfl⟩;clear hb HS
   cases q with
   | true=>
    have HE:Hid (rs.any (fun l=>decide (s∈l))=true):=by
     show _=_
     rw [← List.take_append_drop (i+1) rs,List.any_append,HQ.out];rfl
    go_wp2_with fail;go_ret;exact ⟨⟨i,rfl,by rw [HE.out]; simp⟩,rfl⟩
   | false=>
    clear hA;go_wp2_with fail;go_roundw
    case rel=>exact ⟨i+1,by go_num,by omega,HQ,trivial⟩
    case measure=>simp [intOf]; omega
  ·have dlt:decide ((i:Int) < (n:Int))=false:=by simp; omega
   have HE:Hid (rs.any (fun l=>decide (s∈l))=false):=by
    have h1:=hA.out
    rw [List.take_of_length_le (by rw [HN.out]; omega)] at h1
    exact h1
   clear hA;go_wp2_with fail;go_ret;exact ⟨⟨-1,rfl,by rw [HE.out]; rfl⟩,rfl⟩

theorem containsS_any (s:Nm) (rs:List (List Nm)) (v:Value) (kb:Nat) (w:World) (hr:SRow w v rs) (hc:w.cell? ⟨kb,0,none⟩=some (.string ⟨s.toArray⟩)):
  Calls Tryz.prog 106 #[v,.func (.func 107) #[] #[.pointer (some ⟨kb,0,none⟩)]] w fun e w'=>
   e=.returned (.bool (rs.any fun l=>decide (s∈l)))∧w'=w:=by
 have H:=zH (indexS_any s rs v kb w hr hc)
 clear hr hc;go_enter Tryz.func106,Tryz.ntmps106;go_wp2_with fail;refine H.out.mono ?_;rintro e w1 ⟨⟨n,rfl,hn⟩,rfl⟩;have HN:=zH hn;clear hn;go_wp2_with fail;go_ret;exact ⟨ret_bool HN.out,rfl⟩

theorem visible_any {B C:Nat} {st:CS} {v:Value} {bs:List Nat} {fb:Nat} (s:Nm) (w:World) (h:CkW B w C st v bs fb):
  Calls Tryz.prog 70 #[.pointer (some ⟨C,0,none⟩),.string ⟨s.toArray⟩] w fun e w'=>e=.returned (.bool (visC st.ss s))∧Below w.heap.size w w':=by
 have hmf:∀(fn:Fn) (first cap:Array Value) (w:World),(Instr.makeFunc fn first cap).run Tryz.prog w=.ok (.func fn first cap) w:=fun _ _ _ _=>rfl
 have hba:=(Below.refl w.heap.size w).alloc (Nat.le_refl _) (.cells #[.string ⟨s.toArray⟩] 9)
 have h2:=h.below hba
 have hn:=Blk.new w 9 #[.string ⟨s.toArray⟩]
 have HV:=containsS_any s st.ss.reverse v w.heap.size _ h2.srow (hn.cell 0)
 rw [visC_rev] at HV;have HV:=zH HV;have k0:=h2.blk.cell 0;simp only [List.getElem?_toArray,List.getElem?_cons_zero] at k0;obtain ⟨x,c,rfl,-⟩:=h2.shape;have HBA:=zH hba;clear h h2 hn hba;go_enter Tryz.func70,Tryz.ntmps70;go_wp2_with fail;refine HV.out.mono ?_;rintro e w1 ⟨rfl,rfl⟩;go_wp2_with fail;go_ret;exact ⟨rfl,HBA.out⟩
open Go.RowKit

def failZ (p:Int) (e:Nat):List PanicEntry:=[{ v:=.iface 40 (.agg #[.int .i64 p,.int .i64 (e:Nat)]),recovered:=false }]
def ExR (r:CE Unit) (w:World) (e:Ending) (w':World):Prop:=
 (match r with | .error x=>e=.panicked (failZ x.1 x.2) | .ok _=>e=.returned (.tuple #[]))∧Below w.heap.size w w'
theorem exR_bad {r:CE Unit} {x:Int×Nat} {w:World} {e:Ending} {w':World} (hr:r=.error x) (he:e=.panicked (failZ x.1 x.2)) (hb:Below w.heap.size w w'):ExR r w e w':=by subst hr; exact ⟨he,hb⟩
theorem exR_good {r:CE Unit} {w:World} {e:Ending} {w':World} (hr:r=.ok ()) (he:e=.returned (.tuple #[])) (hb:Below w.heap.size w w'):ExR r w e w':=by subst hr; exact ⟨he,hb⟩
def exD (ss:List (List Nm)) (h:Hd) (k:Fo):CE Unit:=if h.kind=3∧visC ss h.text=false then .error (h.pos,13) else exC ss k
theorem exC_cons (ss:List (List Nm)) (h:Hd) (k r:Fo):exC ss (.cons h k r)=(exD ss h k).then fun _=>exC ss r:=by
 simp only [exC,exD];split <;> rfl
theorem exC_app (ss:List (List Nm)) (A R:Fo):exC ss (A.app R)=(exC ss A).then fun _=>exC ss R:=by
 induction A with
 | nil=>rfl
 | cons h k r _ ih=>
  simp only [Fo.app,exC_cons,ih]
  cases exD ss h k <;> rfl
theorem exC_one (ss:List (List Nm)) (h:Hd) (k:Fo):exC ss (.cons h k .nil)=exD ss h k:=by
 rw [exC_cons]
 cases exD ss h k with
 | error x=>rfl
 | ok u=>rfl
theorem cfail_any (x:Nat) (C:Value) (h:Hd) (xn xk:Option Addr) (cn ck n:Nat) (w:World):
  Calls Tryz.prog 69 #[C,.agg (ndV h (.slice xn h.names.length cn) (.slice xk n ck)),.int .i64 (x:Nat)] w fun e w'=>e=.panicked (failZ h.pos x)∧Below w.heap.size w w':=by
 have HKB:=zH (Blk.new w 31 (ndV h (.slice xn h.names.length cn) (.slice xk n ck)))
 have HBA:=zH ((Below.refl w.heap.size w).alloc (Nat.le_refl _) (.cells (ndV h (.slice xn h.names.length cn) (.slice xk n ck)) 31))
 unfold ndV at HKB HBA ⊢;go_enter Tryz.func69,Tryz.ntmps69;go_upto_region 1 with fail
 generalize w.alloc (.cells #[.int .i64 h.kind,.string ⟨h.text.toArray⟩,.int .i64 h.num,.slice xn h.names.length cn,.slice xk n ck,.int .i64 h.pos] 31)=wz at*;have y5:wz.cell? ⟨w.heap.size,5,none⟩=some (.int .i64 h.pos):=HKB.out.cell 5;go_wp2_with fail;exact ⟨rfl,rfl,HBA.out⟩

theorem expr_any {B C:Nat} {st:CS} {v:Value} {bs:List Nat} {fb:Nat} (h:Hd) (k:Fo) (xn xk:Option Addr) (cn ck:Nat) (w:World) (hc:CkW B w C st v bs fb)
  (hk:∀w',Below w.heap.size w w'→Calls Tryz.prog 73 #[.pointer (some ⟨C,0,none⟩),.slice xk k.len ck] w' fun e w''=>ExR (exC st.ss k) w' e w''):
  Calls Tryz.prog 68 #[.pointer (some ⟨C,0,none⟩),.agg (ndV h (.slice xn h.names.length cn) (.slice xk k.len ck))] w fun e w'=>ExR (exD st.ss h k) w e w':=by
 have hba:=(Below.refl w.heap.size w).alloc (Nat.le_refl _) (.cells (ndV h (.slice xn h.names.length cn) (.slice xk k.len ck)) 31)
 have HKB:=zH (Blk.new w 31 (ndV h (.slice xn h.names.length cn) (.slice xk k.len ck)))
 have HBA:=zH hba
 have HV:=zH (visible_any h.text _ (hc.below hba))
 have HK:=zH hk
 have HF:=zH (fun w'=>cfail_any 13 (.pointer (some ⟨C,0,none⟩)) h xn xk cn ck k.len w')
 clear hba hc hk;obtain ⟨R,hR⟩:∃R,exD st.ss h k=R:=⟨_,rfl⟩;rw [hR];unfold exD at hR;obtain ⟨q,hq⟩:∃q,visC st.ss h.text=q:=⟨_,rfl⟩;rw [hq] at HV hR;have HR:=zH hR;clear hR hq;obtain ⟨kd,tx,nu,nm,ps⟩:=h;simp only at HKB HBA HV HF HR ⊢;unfold ndV at HKB HBA HV HF ⊢;go_enter Tryz.func68,Tryz.ntmps68;go_upto_region 1 with fail
 generalize w.alloc (.cells #[.int .i64 kd,.string ⟨tx.toArray⟩,.int .i64 nu,.slice xn nm.length cn,.slice xk k.len ck,.int .i64 ps] 31)=wz at*;generalize hB:w.heap.size=A at*;have HAA:=zH hB;clear hB;have y0:wz.cell? ⟨A,0,none⟩=some (.int .i64 kd):=HKB.out.cell 0;have y1:wz.cell? ⟨A,1,none⟩=some (.string ⟨tx.toArray⟩):=HKB.out.cell 1;have y2:wz.cell? ⟨A,2,none⟩=some (.int .i64 nu):=HKB.out.cell 2
 have y3:wz.cell? ⟨A,3,none⟩=some (.slice xn nm.length cn):=HKB.out.cell 3
 have y4:wz.cell? ⟨A,4,none⟩=some (.slice xk k.len ck):=HKB.out.cell 4
 have y5:wz.cell? ⟨A,5,none⟩=some (.int .i64 ps):=HKB.out.cell 5
 by_cases h3:kd=3
 ·have e3:(kd==3)=true:=by simp [h3]
  have HR3:Hid (R=if q=false then .error (ps,13) else exC st.ss k):=by show _=_; rw [← HR.out]; simp [h3]
  clear h3 HR;go_upto_region 2 with fail
  refine HV.out.mono ?_
  rintro e w1 ⟨rfl,hb⟩;have HB1:=zH (HBA.out.trans (hb.mono (Nat.le_of_lt HKB.out.lt)));have HK1:Hid (Blk w1 A 31 #[.int .i64 kd,.string ⟨tx.toArray⟩,.int .i64 nu,.slice xn nm.length cn,.slice xk k.len ck,.int .i64 ps]):=(hb.block _ HKB.out.lt).trans HKB.out;clear hb y0 y1 y2 y3 y4 y5 HKB HBA HV;have y0:w1.cell? ⟨A,0,none⟩=some (.int .i64 kd):=HK1.out.cell 0
  have y1:w1.cell? ⟨A,1,none⟩=some (.string ⟨tx.toArray⟩):=HK1.out.cell 1
  have y2:w1.cell? ⟨A,2,none⟩=some (.int .i64 nu):=HK1.out.cell 2
  have y3:w1.cell? ⟨A,3,none⟩=some (.slice xn nm.length cn):=HK1.out.cell 3
  have y4:w1.cell? ⟨A,4,none⟩=some (.slice xk k.len ck):=HK1.out.cell 4
  have y5:w1.cell? ⟨A,5,none⟩=some (.int .i64 ps):=HK1.out.cell 5
  cases q with
  | false=>
   have HRE:Hid (R=.error (ps,13)):=by show _=_; rw [HR3.out]; rfl
   clear HR3;go_wp2_with fail;refine (HF.out w1).mono ?_;rintro e w2 ⟨rfl,hb⟩;have HB2:=zH (HB1.out.trans (hb.mono (by have:=HK1.out.lt; omega)))
   clear hb;go_wp2_with fail;exact ⟨rfl,exR_bad HRE.out rfl (by rw [HAA.out]; exact HB2.out)⟩
  | true=>
   have HRE:Hid (R=exC st.ss k):=by show _=_; rw [HR3.out]; rfl
   have HC1:=zH (HK.out w1 HB1.out)
   clear HR3 HK;rcases hq:exC st.ss k with x | u
   ·rw [hq] at HC1
    have HRE:=zH (HRE.out.trans hq)
    clear hq;go_wp2_with fail;refine HC1.out.mono ?_;rintro e w2 ⟨rfl,hb⟩;have HB2:=zH (HB1.out.trans (hb.mono (by have:=HK1.out.lt; omega)))
    clear hb;go_wp2_with fail;exact ⟨rfl,exR_bad HRE.out rfl (by rw [HAA.out]; exact HB2.out)⟩
   ·rw [hq] at HC1
    have HRE:=zH (HRE.out.trans hq)
    clear hq;go_wp2_with fail;refine HC1.out.mono ?_;rintro e w2 ⟨rfl,hb⟩;have HB2:=zH (HB1.out.trans (hb.mono (by have:=HK1.out.lt; omega)))
    clear hb;go_wp2_with fail;refine bodyPost_ret (results_none rfl _ _ _) rfl ?_;exact exR_good HRE.out rfl (by rw [HAA.out]; exact HB2.out)
 ·have e3:(kd==3)=false:=by simp [h3]
  have HRE:Hid (R=exC st.ss k):=by show _=_; rw [← HR.out,if_neg (fun h=>h3 h.1)]
  have HC1:=zH (HK.out wz HBA.out)
  clear h3 HR HV HK;rcases hq:exC st.ss k with x | u
  ·rw [hq] at HC1
   have HRE:=zH (HRE.out.trans hq)
   clear hq;go_wp2_with fail;refine HC1.out.mono ?_;rintro e w2 ⟨rfl,hb⟩;have HB2:=zH (HBA.out.trans (hb.mono (by have:=HKB.out.lt; omega)))
   clear hb;go_wp2_with fail;exact ⟨rfl,exR_bad HRE.out rfl (by rw [HAA.out]; exact HB2.out)⟩
  ·rw [hq] at HC1
   have HRE:=zH (HRE.out.trans hq)
   clear hq;go_wp2_with fail;refine HC1.out.mono ?_;rintro e w2 ⟨rfl,hb⟩;have HB2:=zH (HBA.out.trans (hb.mono (by have:=HKB.out.lt; omega)))
   clear hb;go_wp2_with fail;refine bodyPost_ret (results_none rfl _ _ _) rfl ?_;exact exR_good HRE.out rfl (by rw [HAA.out]; exact HB2.out)
open Go.RowKit

theorem exprs_step {B C:Nat} {st:CS} {v:Value} {bs:List Nat} {fb:Nat} (F:Fo) (xv:Value) (w:World) (_hc:CkW B w C st v bs fb) (hr:FRow w xv F)
  (hk:∀(A:Fo) (h:Hd) (k r:Fo) (xn xk:Option Addr) (cn ck:Nat) (w':World),F=A.app (.cons h k r)→Below w.heap.size w w'→FRow w' (.slice xk k.len ck) k→
   Calls Tryz.prog 68 #[.pointer (some ⟨C,0,none⟩),.agg (ndV h (.slice xn h.names.length cn) (.slice xk k.len ck))] w' fun e w''=>ExR (exD st.ss h k) w' e w''):
  Calls Tryz.prog 73 #[.pointer (some ⟨C,0,none⟩),xv] w fun e w'=>ExR (exC st.ss F) w e w':=by
 obtain ⟨x,c,rfl,hl,hcc,-⟩:=id hr
 have HR:=zH hr
 have HK:=zH hk
 have HB0:=zH (Below.refl w.heap.size w)
 unfold maxLen at hcc;clear hr hk;obtain ⟨n,hn⟩:∃n,F.len=n:=⟨_,rfl⟩;rw [hn] at HR hl ⊢;have HL:=zH hn;obtain ⟨w0,hw0⟩:∃w0,w0=w:=⟨_,rfl⟩;rw [← hw0] at HB0 HR HK ⊢;clear hn hw0;obtain ⟨RR,hRR⟩:∃RR,exC st.ss F=RR:=⟨_,rfl⟩;rw [hRR];have HRR:=zH hRR;clear hRR;go_enter Tryz.func73,Tryz.ntmps73;go_wp2_with fail
 go_loopw [8] (fun vi wr=>∃(i:Nat) (A R:Fo),vi=.int .i64 i∧i≤n∧Hid (F=A.app R∧A.len=i∧exC st.ss A=.ok ())∧Hid (Below w0.heap.size w0 wr)) (fun vi _=>n - (intOf vi).toNat)
 case atStart=>exact ⟨0,.nil,F,rfl,Nat.zero_le _,⟨rfl,rfl,rfl⟩,HB0.out⟩
 case round=>
  obtain ⟨i,A,R,rfl,hi,hA,hbw⟩:=hrel
  by_cases hlt:i < n
  ·have dlt:decide ((i:Int) < (n:Int))=true:=by simp; omega
   obtain ⟨h,k,r,rfl⟩:∃h k r,R=.cons h k r:=by
    cases R with
    | nil=>have h1:=hA.out.2.1; have h2:=HL.out; rw [hA.out.1,Fo.app_nil] at h2; omega
    | cons h k r=>exact ⟨h,k,r,rfl⟩
   have hfr:FRow wr (.slice x n c) (A.app (.cons h k r)):=by rw [← hA.out.1]; exact HR.out.below hbw.out
   obtain ⟨b,off,xn,cn,xk,ck,rfl,⟨k0,k1,k2,k3,k4,k5⟩,hn1,hk1⟩:=hfr.node
   rw [hA.out.2.1] at k0 k1 k2 k3 k4 k5;have HKK:=zH (fun w' (hb:Below wr.heap.size wr w')=>HK.out A h k r xn xk cn ck w' hA.out.1 (hbw.out.trans (hb.mono hbw.out.size)) (hk1.below hb))
   have HBR:=zH (Below.refl wr.heap.size wr)
   have HSTEP:Hid (F=(A.app (.cons h k .nil)).app r∧(A.app (.cons h k .nil)).len=i+1):=⟨by rw [← Fo.next]; exact hA.out.1,by rw [Fo.app_len,hA.out.2.1]; rfl⟩
   have HEA:Hid (exC st.ss (A.app (.cons h k .nil))=exD st.ss h k):=by show _=_; rw [exC_app,hA.out.2.2]; exact exC_one _ _ _
   have HEF:Hid (RR=(exD st.ss h k).then fun _=>exC st.ss r):=by show _=_; rw [← HRR.out,hA.out.1,exC_app,hA.out.2.2]; exact exC_cons _ _ _ _
   clear hk1 hn1 hfr hA;go_upto_region 3 with fail
   have HBA:=zH (HBR.out.alloc (Nat.le_refl _) (.cells (ndV h (.slice xn h.names.length cn) (.slice xk k.len ck)) 31))
   have HKB:=zH (Blk.new wr 31 (ndV h (.slice xn h.names.length cn) (.slice xk k.len ck)))
   unfold ndV at HBA HKB HKK;generalize wr.alloc (.cells #[.int .i64 h.kind,.string ⟨h.text.toArray⟩,.int .i64 h.num,.slice xn h.names.length cn,.slice xk k.len ck,.int .i64 h.pos] 31)=wz at*;have HSZ:Hid (w0.heap.size≤wr.heap.size):=hbw.out.size;generalize wr.heap.size=KB at*;have y0:wz.cell? ⟨KB,0,none⟩=some (.int .i64 h.kind):=HKB.out.cell 0
   have y1:wz.cell? ⟨KB,1,none⟩=some (.string ⟨h.text.toArray⟩):=HKB.out.cell 1
   have y2:wz.cell? ⟨KB,2,none⟩=some (.int .i64 h.num):=HKB.out.cell 2
   have y3:wz.cell? ⟨KB,3,none⟩=some (.slice xn h.names.length cn):=HKB.out.cell 3
   have y4:wz.cell? ⟨KB,4,none⟩=some (.slice xk k.len ck):=HKB.out.cell 4
   have y5:wz.cell? ⟨KB,5,none⟩=some (.int .i64 h.pos):=HKB.out.cell 5
   clear k0 k1 k2 k3 k4 k5;have HC1:=zH (HKK.out wz HBA.out);clear HKK;rcases hq:exD st.ss h k with y | u
   ·rw [hq] at HC1 HEF
    clear hq HEA;go_wp2_with fail;refine HC1.out.mono ?_;rintro e w5 ⟨rfl,hb⟩;have HX:=zH (hbw.out.trans ((HBA.out.trans (hb.mono (Nat.le_of_lt HKB.out.lt))).mono HSZ.out));clear hb HC1;go_wp2_with fail;exact ⟨rfl,exR_bad HEF.out rfl HX.out⟩
   ·rw [hq] at HC1 HEA
    clear hq HEF;go_wp2_with fail;refine HC1.out.mono ?_;rintro e w5 ⟨rfl,hb⟩;have HX:=zH (hbw.out.trans ((HBA.out.trans (hb.mono (Nat.le_of_lt HKB.out.lt))).mono HSZ.out));clear hb HC1 HBA HKB y0 y1 y2 y3 y4 y5 HBR;go_wp2_with fail;go_roundw
    case rel=>exact ⟨i+1,A.app (.cons h k .nil),r,by go_num,by omega,⟨HSTEP.out.1,HSTEP.out.2,HEA.out⟩,HX⟩
    case measure=>simp [intOf]; omega
  ·have dlt:decide ((i:Int) < (n:Int))=false:=by simp; omega
   have HE:Hid (RR=.ok ()):=by
    obtain ⟨h1,h2,h3⟩:=hA.out
    have hR:R=.nil:=by
     have h4:=HL.out
     rw [h1,Fo.app_len] at h4
     cases R with
     | nil=>rfl
     | cons h k r=>simp only [Fo.len] at h4; omega
    show _=_
    rw [← HRR.out,h1,hR,Fo.app_nil];exact h3
   clear hA;go_wp2_with fail;refine bodyPost_ret (results_none rfl _ _ _) rfl ?_;exact exR_good HE.out rfl hbw.out

theorem exprs_all:∀(N:Nat) {B C:Nat} {st:CS} {v:Value} {bs:List Nat} {fb:Nat} (F:Fo) (xv:Value) (w:World),F.size < N→CkW B w C st v bs fb→FRow w xv F→
  Calls Tryz.prog 73 #[.pointer (some ⟨C,0,none⟩),xv] w fun e w'=>ExR (exC st.ss F) w e w':=by
 intro N;induction N with
 | zero=>intro B C st v bs fb F xv w h; omega
 | succ N ih=>
  intro B C st v bs fb F xv w hN hc hr;refine exprs_step F xv w hc hr ?_;intro A h k r xn xk cn ck w' hF hb hk;have hks:k.size < N:=by
   rw [hF] at hN;have:=Fo.kid_size A h k r;omega
  exact expr_any h k xn xk cn ck w' (hc.below hb) fun w2 hb2=>ih k _ w2 hks ((hc.below hb).below hb2) (hk.below hb2)
theorem exprs_any {B C:Nat} {st:CS} {v:Value} {bs:List Nat} {fb:Nat} (F:Fo) (xv:Value) (w:World) (hc:CkW B w C st v bs fb) (hr:FRow w xv F):
  Calls Tryz.prog 73 #[.pointer (some ⟨C,0,none⟩),xv] w fun e w'=>ExR (exC st.ss F) w e w':=exprs_all _ F xv w (Nat.lt_succ_self _) hc hr
theorem expr1_any {B C:Nat} {st:CS} {v:Value} {bs:List Nat} {fb:Nat} (h:Hd) (k:Fo) (xn xk:Option Addr) (cn ck:Nat) (w:World) (hc:CkW B w C st v bs fb) (hk:FRow w (.slice xk k.len ck) k):
  Calls Tryz.prog 68 #[.pointer (some ⟨C,0,none⟩),.agg (ndV h (.slice xn h.names.length cn) (.slice xk k.len ck))] w fun e w'=>ExR (exD st.ss h k) w e w':=
 expr_any h k xn xk cn ck w hc fun w2 hb2=>exprs_any k _ w2 (hc.below hb2) (hk.below hb2)
end Go.Proofs.YtbaidkefobhipaaGreatDoor
