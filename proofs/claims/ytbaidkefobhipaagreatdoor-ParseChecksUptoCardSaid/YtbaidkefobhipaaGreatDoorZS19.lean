/-
  The parser's statements of every level.
  Steps of a deferred frame's region, over the region's list of operations.
  Walk: the deferred closure of parse.Program: what it does with a failure, and without one.
  An append of one zero node to a row, which a store of a node follows.
-/
import Derived.Test.YtbaidkefobhipaaGreatDoorZPra
import Derived.Test.YtbaidkefobhipaaGreatDoorZS5
import Derived.Defers
import Derived.Recover
import Derived.Test.YtbaidkefobhipaaGreatDoorZS13
import Derived.Deep.MidRow
namespace Go.Proofs.YtbaidkefobhipaaGreatDoor
set_option maxHeartbeats 4000000
set_option maxRecDepth 100000
open Go.RowKit

theorem shr_seq {α β:Type} {op:Pa α} {f:α→Pa β} (h:Shr op) (hf:∀a,Nsh (f a)):Shr (fun l=>thenT (op l) f):=fun l b l' he=>shr_then2 (l:=l) (fun a l1 h1=>h l a l1 h1) hf b l' he
theorem nsh_seq {α β:Type} {op:Pa α} {f:α→Pa β} (h:Nsh op) (hf:∀a,Nsh (f a)):Nsh (fun l=>thenT (op l) f):=fun l b l' he=>nsh_then (l:=l) (fun a l1 h1=>h l a l1 h1) hf b l' he
theorem nsh_end {α:Type} (a:α):Nsh (fun l=>.ok (a,l):Pa α):=fun _ _ _ h=>by cases h; exact Nat.le_refl _
theorem blkL_le (st:Pa Nd) (hs:Shr st):∀(n:Nat) (acc:Fo),Nsh (blkL st n acc):=by
 intro n;induction n with
 | zero=>intro acc l a l' h; cases l <;> simp [blkL,failT] at h
 | succ n ih=>
  intro acc l a l' h;simp only [blkL] at h;split at h
  ·cases h; simp
  ·exact nsh_then (l:=l) (r:=st l) (fun _ _ h1=>hs.nsh _ _ _ h1) (fun _=>ih _) _ _ h
theorem blkP_shr {st:Pa Nd} (hs:Shr st):Shr (blkP st):=shr_seq (expT_shr _) fun _=>fun l _ _ h=>nsh_then (l:=l) (r:=blkL st (l.length+1) .nil l) (fun _ _ h1=>blkL_le st hs _ _ _ _ _ h1) (fun _=>nsh_end _) _ _ h
theorem asgP_shr {ex:Pa Nd} (hx:Shr ex) (k:Int) (p:Nat):Shr (asgP ex k p):=shr_seq namT_shr fun _=>nsh_seq (expT_shr _).nsh fun _=>nsh_seq hx.nsh fun _=>nsh_seq (expT_shr _).nsh fun _=>nsh_end _
theorem parL_le:∀(n:Nat) (acc:List (List UInt8)),Nsh (parL n acc):=by
 intro n;induction n with
 | zero=>intro acc l a l' h; cases l <;> simp [parL,failT] at h
 | succ n ih=>
  intro acc l a l' h;simp only [parL] at h;split at h
  ·cases h; simp
  ·refine nsh_then (l:=l) (r:=if acc.length=0 then .ok ((),l) else thenT (expT (bytes [44]) l) fun _ l2=>.ok ((),l2)) ?_ (fun _=>nsh_seq namT_shr.nsh fun _=>ih _) _ _ h
   intro a l1 h1;split at h1
   ·cases h1; exact Nat.le_refl _
   ·exact nsh_then (l:=l) (r:=expT (bytes [44]) l) (fun _ _ h2=>(expT_shr _).nsh _ _ _ h2) (fun _=>nsh_end _) _ _ h1
theorem funP_shr {st:Pa Nd} (hs:Shr st):Shr (funP st):=shr_seq (expT_shr _) fun _=>nsh_seq namT_shr.nsh fun _=>nsh_seq (expT_shr _).nsh fun _=>fun l _ _ h=>
 nsh_then (l:=l) (r:=parL (l.length+1) [] l) (fun _ _ h1=>parL_le _ _ _ _ _ h1) (fun _=>nsh_seq (blkP_shr hs).nsh fun _=>nsh_end _) _ _ h
theorem forP_shr {ex st:Pa Nd} (hx:Shr ex) (hs:Shr st):Shr (forP ex st):=shr_seq (expT_shr _) fun _=>nsh_seq namT_shr.nsh fun _=>nsh_seq (expT_shr _).nsh fun _=>nsh_seq hx.nsh fun _=>nsh_seq (expT_shr _).nsh fun _=>nsh_seq hx.nsh fun _=>nsh_seq (blkP_shr hs).nsh fun _=>nsh_end _
theorem tail_nsh {α:Type} {op:Pa α} (h:Nsh op) (l:List Tk) (a:α) (l':List Tk) (he:op l.tail=.ok (a,l')):l'.length≤l.length:=Nat.le_trans (h _ _ _ he) (tail_le l)
theorem ifP_shr {ex st br:Pa Nd} (hx:Shr ex) (hs:Shr st) (hb:Nsh br):Shr (ifP ex st br):=shr_seq (expT_shr _) fun _=>nsh_seq hx.nsh fun _=>nsh_seq (blkP_shr hs).nsh fun _=>by
 intro l c l' h;dsimp only at h;split at h
 ·split at h
  ·exact nsh_then (l:=l) (r:=br l.tail) (fun a l1 h1=>tail_nsh hb l a l1 h1) (fun _=>nsh_end _) _ _ h
  ·exact nsh_then (l:=l) (r:=blkP st l.tail) (fun a l1 h1=>tail_nsh (blkP_shr hs).nsh l a l1 h1) (fun _=>nsh_end _) _ _ h
 ·cases h; exact Nat.le_refl _
theorem staP_eq (ex st br:Pa Nd) (t:Tk) (r:List Tk):staP ex st br (t::r)=if begT (t::r)=false then .error (t.at_,18)
  else if isT (bytes [108,101,116]) (t::r) then asgP ex 20 t.at_ r
  else if isT (bytes [105,102]) (t::r) then br (t::r)
  else if isT (bytes [119,104,105,108,101]) (t::r) then thenT (ex r) fun x l2=>thenT (blkP st l2) fun b l3=>.ok ((hdT 23 [] 0 t.at_,x.one.app b.one),l3)
  else if isT (bytes [102,111,114]) (t::r) then forP ex st (t::r)
  else if isT (bytes [102,110]) (t::r) then funP st (t::r)
  else if isT (bytes [123]) (t::r) then blkP st (t::r)
  else if isT (bytes [98,114,101,97,107]) (t::r) then thenT (expT (bytes [59]) r) fun _ l2=>.ok ((hdT 29 [] 0 t.at_,.nil),l2)
  else if isT (bytes [114,101,116,117,114,110]) (t::r) then
   (if isT (bytes [59]) r then .ok ((hdT 27 [] 0 t.at_,.nil),r.tail) else thenT (ex r) fun x l2=>thenT (expT (bytes [59]) l2) fun _ l3=>.ok ((hdT 27 [] 0 t.at_,x.one),l3))
  else if assT (t::r) then asgP ex 21 t.at_ (t::r)
  else thenT (ex (t::r)) fun x l2=>thenT (expT (bytes [59]) l2) fun _ l3=>.ok ((hdT 28 [] 0 t.at_,x.one),l3):=rfl
theorem staP_shr {ex st br:Pa Nd} (hx:Shr ex) (hs:Shr st) (hb:Shr br):Shr (staP ex st br):=by
 intro l a l' h
 cases l with
 | nil=>cases h
 | cons t r=>
  rw [staP_eq] at h;by_cases c1:begT (t::r)=false
  ·rw [if_pos c1] at h; cases h
  rw [if_neg c1] at h;by_cases c2:isT (bytes [108,101,116]) (t::r)=true
  ·rw [if_pos c2] at h
   have:=asgP_shr hx _ _ _ _ _ h; simp; omega
  rw [if_neg c2] at h;by_cases c3:isT (bytes [105,102]) (t::r)=true
  ·rw [if_pos c3] at h
   exact hb _ _ _ h
  rw [if_neg c3] at h;by_cases c4:isT (bytes [119,104,105,108,101]) (t::r)=true
  ·rw [if_pos c4] at h
   have:=nsh_then (l:=r) (r:=ex r) (fun _ _ h1=>hx.nsh _ _ _ h1) (fun _=>nsh_seq (blkP_shr hs).nsh fun _=>nsh_end _) _ _ h; simp; omega
  rw [if_neg c4] at h;by_cases c5:isT (bytes [102,111,114]) (t::r)=true
  ·rw [if_pos c5] at h
   exact forP_shr hx hs _ _ _ h
  rw [if_neg c5] at h;by_cases c6:isT (bytes [102,110]) (t::r)=true
  ·rw [if_pos c6] at h
   exact funP_shr hs _ _ _ h
  rw [if_neg c6] at h;by_cases c7:isT (bytes [123]) (t::r)=true
  ·rw [if_pos c7] at h
   exact blkP_shr hs _ _ _ h
  rw [if_neg c7] at h;by_cases c8:isT (bytes [98,114,101,97,107]) (t::r)=true
  ·rw [if_pos c8] at h
   have:=nsh_then (l:=r) (r:=expT (bytes [59]) r) (fun _ _ h1=>(expT_shr _).nsh _ _ _ h1) (fun _=>nsh_end _) _ _ h; simp; omega
  rw [if_neg c8] at h;by_cases c9:isT (bytes [114,101,116,117,114,110]) (t::r)=true
  ·rw [if_pos c9] at h
   by_cases c10:isT (bytes [59]) r=true
   ·rw [if_pos c10] at h
    cases h; have:=tail_le r; simp; omega
   ·rw [if_neg c10] at h
    have:=nsh_then (l:=r) (r:=ex r) (fun _ _ h1=>hx.nsh _ _ _ h1) (fun _=>nsh_seq (expT_shr _).nsh fun _=>nsh_end _) _ _ h; simp; omega
  rw [if_neg c9] at h;by_cases c11:assT (t::r)=true
  ·rw [if_pos c11] at h
   exact asgP_shr hx _ _ _ _ _ h
  ·rw [if_neg c11] at h
   exact shr_then2 (l:=t::r) (r:=ex (t::r)) (fun _ _ h1=>hx _ _ _ h1) (fun _=>nsh_seq (expT_shr _).nsh fun _=>nsh_end _) _ _ h
theorem failT_shr {α:Type} (e:Nat):Shr (failT e:Pa α):=by intro l a l' h; cases l <;> simp [failT] at h
theorem sbP_shr:∀d,Shr (sbP d).1∧Shr (sbP d).2:=by
 intro d;induction d with
 | zero=>
  refine ⟨fun l a l' h=>?_,failT_shr _⟩
  simp only [sbP] at h;split at h
  ·exact failT_shr _ _ _ _ h
  ·exact failT_shr _ _ _ _ h
 | succ d ih=>
  have h2:=ifP_shr (expP_shr d) ih.1 ih.2.nsh
  exact ⟨staP_shr (expP_shr d) ih.1 h2,h2⟩
theorem sta_all:∀(d L:Nat),L+d=65→OpOk 34 [.int .i64 (L:Nat)] (sbP d).1∧(L≤64→OpOk 55 [.int .i64 (L:Nat)] (sbP d).2):=by
 intro d;induction d with
 | zero=>
  intro L h;obtain rfl:L=65:=by omega
  exact ⟨sta_zero,fun h=>by omega⟩
 | succ d ih=>
  intro L h;obtain ⟨h1,h2⟩:=ih (L+1) (by omega)
  have hx:=exp_all d (L+1) (by omega)
  have hs:=(sbP_shr d).1
  rw [show ((L+1:Nat):Int)=(L:Int)+1 by omega] at h1 h2 hx
  have hbk:=blk_any ((L:Int)+1) (sbP d).1 h1 hs
  have hL:L≤64:=by omega
  have hbr:OpOk 55 [.int .i64 (L:Nat)] (ifP (expP d) (sbP d).1 (sbP d).2):=by
   refine if_any L hL _ _ _ hx hbk ?_
   rcases Nat.lt_or_ge L 64 with h3 | h3
   ·exact .inl ⟨h3,h2 (by omega)⟩
   ·obtain rfl:d=0:=by omega
    exact .inr ⟨by omega,rfl⟩
  refine ⟨?_,fun _=>hbr⟩
  exact sta_succ L hL (expP d) (sbP d).1 (ifP (expP d) (sbP d).1 (sbP d).2) hx hbk hbr (for_any L hL _ _ hx hbk) (fun_any L hL _ hbk) (fun k p=>asg_any L hL k p _ hx)
open Go.RowKit

def wpLs (P:Program) (ops:Array Oper) (Q:Exit→Act→List Frame→World→Prop):List Oper→Act→List Frame→World→Prop
 | [],a,cs,w=>Q .normal a cs w
 | o::rest,a,cs,w=>
  if Region.wanted o (yielded ops a.tmps) then
   match (execOp a.eval o).run P w with
   | .ok .recover w'=>
    match recoverD cs with
    | some (v,cs')=>wpLs P ops Q rest (a.put o.dst v) cs' w'
    | none=>wpLs P ops Q rest (a.put o.dst .nilIface) cs w'
   | r=>o.upon P a (fun a' w'=>wpLs P ops Q rest a' cs w') (fun e a' w'=>Q e a' cs w') r
  else wpLs P ops Q rest (a.put o.dst undef) cs w

section
variable {P:Program} {ops:Array Oper} {Q:Exit→Act→List Frame→World→Prop} {a:Act} {cs:List Frame} {w w':World} {rest:List Oper} {o:Oper}

theorem wpOpsS_eq_wpLs (l:List Oper):∀k,(∀j,l[j]?=ops[k+j]?)→wpOpsS P ops Q (List.range' k l.length)=wpLs P ops Q l:=by
 induction l with
 | nil=>intro k _; funext a cs w; simp [wpOpsS,wpLs]
 | cons o l ih=>
  intro k h;have h0:ops[k]?=some o:=by simpa using (h 0).symm
  have ih':=ih (k+1) (fun j=>by have:=h (j+1); simpa [Nat.add_assoc,Nat.add_comm 1 j] using this)
  funext a cs w
  simp only [List.length_cons,List.range'_succ,wpOpsS,h0,wpLs,ih'];rfl

theorem wpS_region_list {id:Nat} (h:wpLs P ops Q ops.toList a cs w):(Code.region id ops false).wpS P Q a cs w:=
 wpS_region (by rw [List.range_eq_range',← Array.length_toList,wpOpsS_eq_wpLs ops.toList 0 (by simp)]; exact h)

theorem wpS_region_lit {id:Nat} {l:List Oper} (h:wpLs P l.toArray Q l a cs w):(Code.region id l.toArray false).wpS P Q a cs w:=
 wpS_region_list (by simpa using h)

theorem wpLs_recover {v:Value} {cs':List Frame} (hg:o.guard=none) (hr:(execOp a.eval o).run P w=.ok .recover w') (hc:recoverD cs=some (v,cs')) (h:wpLs P ops Q rest (a.put o.dst v) cs' w'):wpLs P ops Q (o::rest) a cs w:=by
 have hw:Region.wanted o (yielded ops a.tmps)=true:=by simp [Region.wanted,hg]
 simp only [wpLs,hw,if_true,hr,hc];exact h

theorem wpLs_norecover (hg:o.guard=none) (hr:(execOp a.eval o).run P w=.ok .recover w') (hc:recoverD cs=none) (h:wpLs P ops Q rest (a.put o.dst .nilIface) cs w'):wpLs P ops Q (o::rest) a cs w:=by
 have hw:Region.wanted o (yielded ops a.tmps)=true:=by simp [Region.wanted,hg]
 simp only [wpLs,hw,if_true,hr,hc];exact h

theorem wpLs_of_list (l:List Oper):∀(a:Act) (w:World),¬ LetsOut (fun e a' w'=>Q e a' cs w')→wpList P ops (fun e a' w'=>Q e a' cs w') l a w→wpLs P ops Q l a cs w:=by
 induction l with
 | nil=>exact fun a w _ h=>h
 | cons o rest ih=>
  intro a w hl h;simp only [wpList] at h;simp only [wpLs];split
  ·rename_i hw
   rw [if_pos hw] at h;rcases h with h | h
   ·unfold Oper.wp at h
    generalize (execOp a.eval o).run P w=r at h;split
    ·exact h.elim
    ·simp only [Oper.upon] at h ⊢
     split at h
     ·exact ih _ _ hl h
     ·exact ih _ _ hl h
     ·exact ih _ _ hl h
     ·refine Calls.mono h fun e w'' hh=>?_
      cases e with
      | returned v=>exact ih _ _ hl hh
      | panicked chain=>exact hh
      | outgrown=>exact hh
     ·exact Rows.mono h fun v w'' hh=>ih _ _ hl hh
     ·exact h
     ·exact h.elim
   ·exact (hl h.2).elim
  ·rename_i hw
   rw [if_neg hw] at h;exact ih _ _ hl h
end
open Go.RowKit

theorem ta_fail (x y:Nat) (w:World):(Instr.typeAssert (.iface 40 (.agg #[.int .i64 (x:Nat),.int .i64 (y:Nat)])) 20 40 true).run Tryz.prog w=.ok (.tuple #[.agg #[.int .i64 (x:Nat),.int .i64 (y:Nat)],.bool true]) w:=by kernel_rfl
theorem ta_nil (w:World):(Instr.typeAssert .nilIface 20 40 true).run Tryz.prog w=.ok (.tuple #[.agg #[.int .i64 0,.int .i64 0],.bool false]) w:=by kernel_rfl
theorem ex_ta_fail {ρ:Operand→Value} {o:Oper} {x:Operand} (a b:Nat) (w:World) (ho:o.op=.typeAssert x 20 40 true) (hx:ρ x=.iface 40 (.agg #[.int .i64 (a:Nat),.int .i64 (b:Nat)])):(execOp ρ o).run Tryz.prog w=.ok (.value (.tuple #[.agg #[.int .i64 (a:Nat),.int .i64 (b:Nat)],.bool true])) w:=by
 have h:=ta_fail a b w
 simp only [execOp,ho,hx];generalize Instr.typeAssert _ _ _ _=q at h;simp only [Sem.run_bind,h,Result.andThen_ok,Sem.run_pure]
theorem ex_ta_nil {ρ:Operand→Value} {o:Oper} {x:Operand} (w:World) (ho:o.op=.typeAssert x 20 40 true) (hx:ρ x=.nilIface):(execOp ρ o).run Tryz.prog w=.ok (.value (.tuple #[.agg #[.int .i64 0,.int .i64 0],.bool false])) w:=by
 have h:=ta_nil w
 simp only [execOp,ho,hx];generalize Instr.typeAssert _ _ _ _=q at h;simp only [Sem.run_bind,h,Result.andThen_ok,Sem.run_pure]
theorem wpList_value {P:Program} {ops:Array Oper} {Q:Exit→Act→World→Prop} {l:List Oper} {a:Act} {w w':World} {o:Oper} {v:Value} (hg:o.guard=none) (hr:(execOp a.eval o).run P w=.ok (.value v) w') (h:wpList P ops Q l (a.put o.dst v) w'):wpList P ops Q (o::l) a w:=by
 refine wpList_plain hg fun K hK=>?_
 unfold Oper.wp;rw [hr];exact hK _ _ h
theorem hide {P:Program} {ops:Array Oper} {Q:Exit→Act→World→Prop} {l:List Oper} {a:Act} {w:World} (h:∀Q0,Hid (Q=Q0)→wpList P ops Q0 l a w):wpList P ops Q l a w:=h Q (zH rfl)
theorem hideR {P:Program} {fn:Func} {c₀:Frame} {cs cs':List Frame} {R:Ending→FrameMode→World→Prop} {c:Code} {a:Act} {w:World} (h:∀R0,Hid (R=R0)→c.wp P (fun e a' w'=>bodyPostS P fn c₀ cs R0 e a' cs' w') a w):c.wp P (fun e a' w'=>bodyPostS P fn c₀ cs R e a' cs' w') a w:=h R (zH rfl)
structure But3 (a b c:Nat) (w w':World):Prop where
 os:w'.os=w.os
 tape:w'.tape=w.tape
 output:w'.output=w.output
 size:w.heap.size≤w'.heap.size
 block:∀k,k < w.heap.size→k≠a→k≠b→k≠c→w'.heap[k]?=w.heap[k]?

theorem pcatch (pl pa pe:Nat) (v0:Value) (a0 e0:Int) (x y:Nat) (older:List PanicEntry) (w:World) (hl:Blk w pl 22 #[v0]) (ha:Blk w pa 3 #[.int .i64 a0]) (he:Blk w pe 23 #[.int .i64 e0]) (hla:pl≠pa) (hle:pl≠pe) (hae:pa≠pe):
  CallsD Tryz.prog 31 #[.pointer (some ⟨pl,0,none⟩),.pointer (some ⟨pa,0,none⟩),.pointer (some ⟨pe,0,none⟩)] (.panicking (failC x y++older)) w fun e u' w'=>
   e=.returned (.tuple #[])∧u'=.panicking ({ v:=.iface 40 (.agg #[.int .i64 (x:Nat),.int .i64 (y:Nat)]),recovered:=true }::older)∧
   Blk w' pl 22 #[.slice none 0 0]∧Blk w' pa 3 #[.int .i64 (x:Nat)]∧Blk w' pe 23 #[.int .i64 (y:Nat)]∧But3 pl pa pe w w':=by
 refine callsD_of_wpS Tryz.func31 rfl fun c₀ cs hu=>?_
 have hrec:recoverD (c₀::cs)=some (.iface 40 (.agg #[.int .i64 (x:Nat),.int .i64 (y:Nat)]),{ c₀ with mode:=.panicking ({ v:=.iface 40 (.agg #[.int .i64 (x:Nat),.int .i64 (y:Nat)]),recovered:=true }::older) }::cs):=by
  unfold failC at hu;simp [recoverD,hu]
 simp only [Tryz.ntmps31]
 have htm:(#[Value.pointer (some ⟨pl,0,none⟩),.pointer (some ⟨pa,0,none⟩),.pointer (some ⟨pe,0,none⟩)]++Array.replicate (15 - #[Value.pointer (some ⟨pl,0,none⟩),.pointer (some ⟨pa,0,none⟩),.pointer (some ⟨pe,0,none⟩)].size) undef:Array Value)=#[.pointer (some ⟨pl,0,none⟩),.pointer (some ⟨pa,0,none⟩),.pointer (some ⟨pe,0,none⟩),undef,undef,undef,undef,undef,undef,undef,undef,undef,undef,undef,undef]:=rfl
 rw [htm];clear htm;apply wpS_seq;apply wpS_region_lit;refine wpLs_recover (w':=w) rfl (by simp [go_sem]) hrec ?_
 generalize hcs:({ c₀ with mode:=.panicking ({ v:=.iface 40 (.agg #[.int .i64 (x:Nat),.int .i64 (y:Nat)]),recovered:=true }::older) }:Frame)::cs=cs'
 simp only [Act.put,List.setIfInBounds_toArray,List.set_cons_succ,List.set_cons_zero];refine wpLs_of_list _ _ _ ?_ ?_
 ·rintro ⟨a,w,h⟩
  simp [Exit.thenS,bodyPostS] at h
 refine wpList_value rfl (ex_ta_fail x y w rfl rfl) ?_
 simp only [Act.put,List.setIfInBounds_toArray,List.set_cons_succ,List.set_cons_zero];clear hrec;refine hide fun Q0 hQ=>?_
 go_wp2_with fail;obtain rfl:=hQ.out;clear hQ;simp only [Exit.thenS];have hN:=Blk.new w 40 #[.int .i64 (x:Nat),.int .i64 (y:Nat)];have hl1:=hl.alloc (.cells #[.int .i64 (x:Nat),.int .i64 (y:Nat)] 40);have ha1:=ha.alloc (.cells #[.int .i64 (x:Nat),.int .i64 (y:Nat)] 40);have he1:=he.alloc (.cells #[.int .i64 (x:Nat),.int .i64 (y:Nat)] 40)
 have hb1:=zH (Below.alloc (Below.refl w.heap.size w) (Nat.le_refl _) (.cells #[.int .i64 (x:Nat),.int .i64 (y:Nat)] 40))
 have hnl:=hl.lt
 have hna:=ha.lt
 have hne:=he.lt
 generalize w.alloc (.cells #[.int .i64 (x:Nat),.int .i64 (y:Nat)] 40)=w1 at hN hl1 ha1 he1 hb1 ⊢;have cn0:w1.cell? ⟨w.heap.size,0,none⟩=some (.int .i64 (x:Nat)):=hN.cell 0;have cn1:w1.cell? ⟨w.heap.size,1,none⟩=some (.int .i64 (y:Nat)):=hN.cell 1;have cl:w1.cell? ⟨pl,0,none⟩=some v0:=hl1.cell 0;have ca:w1.cell? ⟨pa,0,none⟩=some (.int .i64 a0):=ha1.cell 0
 have ce:w1.cell? ⟨pe,0,none⟩=some (.int .i64 e0):=he1.cell 0
 have fl:=hl1.frozen 0
 have fa:=ha1.frozen 0
 have fe:=he1.frozen 0
 have HN:=zH hN
 have HL1:=zH hl1
 have HA1:=zH ha1
 have HE1:=zH he1
 have HU:=zH hu
 have HCS:=zH hcs
 clear hl ha he hN hl1 ha1 he1 hu hcs;have n1:w.heap.size≠pl:=by omega
 have n2:w.heap.size≠pa:=by omega
 have n3:w.heap.size≠pe:=by omega
 refine wpS_of_wp ?_
 refine hideR fun R0 hR=>?_
 go_wp2_with fail;have c1:∀u,(w1.setCell ⟨pl,0,none⟩ u).cell? ⟨pa,0,none⟩=some (.int .i64 a0):=fun u=>((HA1.out.other (p:=⟨pl,0,none⟩) (Ne.symm hla) u).cell 0)
 have HLW:=zH ((((HL1.out.put 0 (.slice none 0 0)).other (p:=⟨pa,0,none⟩) hla (.int .i64 (x:Nat))).other (p:=⟨pe,0,none⟩) hle (.int .i64 (y:Nat))).drew)
 have HAW:=zH ((((HA1.out.other (p:=⟨pl,0,none⟩) (Ne.symm hla) (.slice none 0 0)).put 0 (.int .i64 (x:Nat))).other (p:=⟨pe,0,none⟩) hae (.int .i64 (y:Nat))).drew)
 have HEW:=zH ((((HE1.out.other (p:=⟨pl,0,none⟩) (Ne.symm hle) (.slice none 0 0)).other (p:=⟨pa,0,none⟩) (Ne.symm hae) (.int .i64 (x:Nat))).put 0 (.int .i64 (y:Nat))).drew)
 have HBW:Hid (But3 pl pa pe w ((((w1.setCell ⟨pl,0,none⟩ (.slice none 0 0)).setCell ⟨pa,0,none⟩ (.int .i64 (x:Nat))).setCell ⟨pe,0,none⟩ (.int .i64 (y:Nat))).drew)):=
  ⟨hb1.out.os,hb1.out.tape,hb1.out.output,by simpa [World.setCell,World.drew] using hb1.out.size,fun k hk h1 h2 h3=>by
   refine (Below.heap_setCell _ _ _ _ h3).trans ((Below.heap_setCell _ _ _ _ h2).trans ((Below.heap_setCell _ _ _ _ h1).trans (hb1.out.block k hk)))⟩
 go_region_law fail
 all_goals
  generalize (((w1.setCell ⟨pl,0,none⟩ (.slice none 0 0)).setCell ⟨pa,0,none⟩ (.int .i64 (x:Nat))).setCell ⟨pe,0,none⟩ (.int .i64 (y:Nat))).drew=wz at HLW HAW HEW HBW ⊢;refine ⟨rfl,_,HCS.out.symm,.tuple #[],by simp [results,Tryz.results31,go_sem],?_⟩
  rw [← hR.out];exact ⟨rfl,rfl,HLW.out,HAW.out,HEW.out,HBW.out⟩

theorem pidle (pl pa pe:Nat) (w:World):
  CallsD Tryz.prog 31 #[.pointer (some ⟨pl,0,none⟩),.pointer (some ⟨pa,0,none⟩),.pointer (some ⟨pe,0,none⟩)] .returning w fun e u' w'=>
   e=.returned (.tuple #[])∧u'=.returning∧Below w.heap.size w w':=by
 refine callsD_of_wpS Tryz.func31 rfl fun c₀ cs hu=>?_
 have hrec:recoverD (c₀::cs)=none:=by simp [recoverD,hu]
 have hcs0:c₀::cs={ c₀ with mode:=.returning }::cs:=by rw [← hu]
 simp only [Tryz.ntmps31]
 have htm:(#[Value.pointer (some ⟨pl,0,none⟩),.pointer (some ⟨pa,0,none⟩),.pointer (some ⟨pe,0,none⟩)]++Array.replicate (15 - #[Value.pointer (some ⟨pl,0,none⟩),.pointer (some ⟨pa,0,none⟩),.pointer (some ⟨pe,0,none⟩)].size) undef:Array Value)=#[.pointer (some ⟨pl,0,none⟩),.pointer (some ⟨pa,0,none⟩),.pointer (some ⟨pe,0,none⟩),undef,undef,undef,undef,undef,undef,undef,undef,undef,undef,undef,undef]:=rfl
 rw [htm];clear htm;apply wpS_seq;apply wpS_region_lit;refine wpLs_norecover (w':=w) rfl (by simp [go_sem]) hrec ?_
 generalize hcs:c₀::cs=cs' at hcs0 ⊢;simp only [Act.put,List.setIfInBounds_toArray,List.set_cons_succ,List.set_cons_zero];refine wpLs_of_list _ _ _ ?_ ?_
 ·rintro ⟨a,w,h⟩
  simp [Exit.thenS,bodyPostS] at h
 refine wpList_value rfl (ex_ta_nil w rfl rfl) ?_
 simp only [Act.put,List.setIfInBounds_toArray,List.set_cons_succ,List.set_cons_zero];have HCS:=zH hcs0;clear hrec hu hcs hcs0;refine hide fun Q0 hQ=>?_
 go_wp2_with fail;obtain rfl:=hQ.out;clear hQ;simp only [Exit.thenS];refine wpS_of_wp ?_;refine hideR fun R0 hR=>?_
 go_wp2_with fail;refine ⟨rfl,_,HCS.out,.tuple #[],by simp [results,Tryz.results31,go_sem],?_⟩
 rw [← hR.out];exact ⟨rfl,rfl,(Below.refl _ _).alloc (Nat.le_refl _) _⟩
open Go.RowKit

theorem own_put {base:Nat} {e:TypeId} {size g n cap:Nat}:∀(vs zs ys:List Value) (w:World),zs.length=vs.length→w.ownsRow base e size (.slice (some ⟨g,0,none⟩) n cap) n (ys++zs)→
  (w.setCells g ys.length vs).ownsRow base e size (.slice (some ⟨g,0,none⟩) n cap) n (ys++vs)∧w.grownBy (w.setCells g ys.length vs) (some g):=by
 intro vs;induction vs with
 | nil=>
  intro zs ys w hl h;have:zs=[]:=List.length_eq_zero_iff.1 hl;subst this;exact ⟨h,⟨rfl,rfl,rfl,Nat.le_refl _,fun _ _ _=>rfl⟩⟩
 | cons v r ih=>
  intro zs ys w hl h
  cases zs with
  | nil=>simp at hl
  | cons z zs=>
   obtain ⟨h1,h2⟩:=World.ownsRow.stored h ys.length v
   have e1:(ys++z::zs).set ys.length v=(ys++[v])++zs:=by simp
   rw [e1] at h1;obtain ⟨h3,h4⟩:=ih zs (ys++[v]) _ (by simpa using hl) h1
   rw [show (ys++[v]).length=ys.length+1 from by simp] at h3 h4
   rw [show ys++[v]++r=ys++v::r from by simp] at h3
   refine ⟨h3,⟨h4.os.trans h2.os,h4.tape.trans h2.tape,h4.output.trans h2.output,Nat.le_trans h2.size h4.size,fun k hk hn=>(h4.block k (Nat.lt_of_lt_of_le hk h2.size) hn).trans (h2.block k hk hn)⟩⟩

theorem own_there {w:World} {base:Nat} {e:TypeId} {g n cap m:Nat} {xs:List Value} (h:w.ownsRow base e 6 (.slice (some ⟨g,0,none⟩) n cap) n xs) (hm:m+6≤n*6):w.there g m 6:=by
 intro j hj;refine ⟨?_,World.ownsRow.frozenAt h (m+j)⟩;rw [World.ownsRow.cellAt h (m+j) (by omega),List.getElem?_eq_getElem (by rw [h.1]; omega)]
 rfl

theorem KRow.moreS {S:Nat→Bool} {w w':World} {base:Nat} {v:Value} {F:Fo} {xs:List Value} {T:Array Value} {x:Nd} {r cap:Nat} {n:Nat} (hf:FCl (maskW (fun k=>S k&&decide (v.ownBlock≠some k)) w) xs F)
  (hx:NdV (maskW (fun k=>S k&&decide (v.ownBlock≠some k)) w) T x) (hn:n=F.len+1) (ho:w'.ownsRow base 31 6 (.slice (some ⟨r,0,none⟩) n cap) n (xs++T.toList))
  (hS:S r=true) (hr:v.ownBlock=some r∨w.heap.size≤r) (hg:∀k,k < w.heap.size→S k=true→v.ownBlock≠some k→w'.heap[k]?=w.heap[k]?):KRow S w' base (.slice (some ⟨r,0,none⟩) n cap) (F.app x.one):=by
 subst hn;have hlen:(F.app x.one).len=F.len+1:=by rw [Fo.app_len]; rfl
 refine ⟨xs++T.toList,by rw [hlen]; exact ho,?_,fun g hg2=>by simp [Value.ownBlock] at hg2; rw [← hg2]; exact hS⟩
 refine FCl.sub (MSub.csub fun k hk hk2=>?_) _ _ (FCl.app hx F xs hf)
 simp only [Bool.and_eq_true,decide_eq_true_eq] at hk2 ⊢;refine ⟨⟨hk2.1,?_⟩,hg k hk hk2.1 hk2.2⟩;simp only [Value.ownBlock,ne_eq,Option.some.injEq];rintro rfl;rcases hr with h1 | h1
 ·exact hk2.2 h1
 ·omega

def zNd:List Value:=[.int .i64 0,.string ⟨#[]⟩,.int .i64 0,.slice none 0 0,.slice none 0 0,.int .i64 0]
theorem pstep_app0 {P:Program} {ops:Array Oper} {o:Oper} {a:Act} {K:Act→World→Prop} {Q:Exit→Act→World→Prop} {E:Prop} {t:TypeId} {bytes:Nat} {z:Value} {s xx:Operand}
  (hE:Elem P t 31 z 6 bytes) {S:Nat→Bool} {w:World} {base kz:Nat} {v:Value} {acc:Fo} {n:Nat} {T:Array Value} {x:Nd} (hk:KRow S w base v acc) (hn:acc.len=n)
  (hfr:∀k,w.heap.size≤k→S k=true) (hT:NdV (maskW (fun k=>S k&&decide (v.ownBlock≠some k)) w) T x) (hbase:base≤w.heap.size) (hz0:Blk w kz 31 zNd.toArray)
  (hgd:o.guard=none) (ho:o.op=.call { callee:=.builtin .append,args:=#[s,xx],argTypes:=#[t,t] }) (hs:a.eval s=v) (hx:a.eval xx=.slice (some ⟨kz,0,none⟩) 1 1)
  (hlen:(n+1)*bytes≤140737488355328) (h63:n+1≤maxLen)
  (h:∀r cap w' xs,xs.length=n*6→w'.ownsRow base 31 6 (.slice (some ⟨r,0,none⟩) (n+1) cap) (n+1) (xs++zNd)→Out S w w'→S r=true→
   (∀w2,w2.ownsRow base 31 6 (.slice (some ⟨r,0,none⟩) (n+1) cap) (n+1) (xs++T.toList)→(∀k,k < w'.heap.size→k≠r→S k=true→w2.heap[k]?=w'.heap[k]?)→KRow S w2 base (.slice (some ⟨r,0,none⟩) (n+1) cap) (acc.app x.one))→
   K (a.put o.dst (.slice (some ⟨r,0,none⟩) (n+1) cap)) w'):
  if Region.wanted o (yielded ops a.tmps)=true then Oper.wp P o a w K Q else E:=by
 obtain ⟨ht,⟨i,hi,hz,hsz,hby⟩,hzs,hp⟩:=hE
 obtain ⟨xs,hown,hf,hS⟩:=hk
 rw [hn] at hown;refine step_append_lies _ hgd s xx t ho base 31 i z 6 bytes ht hi hz hsz hby hzs hp v n xs hs hown ⟨kz,0,none⟩ 1 1 zNd hx rfl (World.news_of_block hz0) (by simp [zNd,Value.oneCell']) (by omega) h63 hlen (by omega) w.heap.size rfl ?_
 intro r cap w' h1 h2 h3 _;have hSr:S r=true:=by
  rcases h3 with h4 | h4
  ·exact hS r h4
  ·exact hfr r (by omega)
 have hblk:∀k,k < w.heap.size→v.ownBlock≠some k→w'.heap[k]?=w.heap[k]?:=fun k hk hne=>h2.block k hk (fun e=>hne e.symm)
 refine h r cap w' xs hown.1 h1 ⟨h2.os,h2.tape,h2.output,h2.size,fun k hk hSk=>hblk k hk (fun e=>by rw [hS k e] at hSk; cases hSk)⟩ hSr ?_
 intro w2 ho2 hb2;refine KRow.moreS (v:=v) (w:=w) hf hT (by rw [hn]) ho2 hSr ?_ fun k hk hSk hne=>?_
 ·rcases h3 with h4 | h4
  ·exact .inl h4
  ·exact .inr (by omega)
 ·refine (hb2 k (Nat.lt_of_lt_of_le hk h2.size) ?_ hSk).trans (hblk k hk hne)
  rintro rfl;rcases h3 with h4 | h4
  ·exact hne h4
  ·omega
theorem pstep_mid {P:Program} {w:World} {ops:Array Oper} {o:Oper} {a:Act} {K:Act→World→Prop} {Q:Exit→Act→World→Prop} {E:Prop} (hgd:o.guard=none) (ty:TypeId) (x y:Operand) (ho:o.op=.store ty x y)
  (hd:o.dst=none) (b m:Nat) (cells:Array Value) (hx:a.eval x=.pointer (some ⟨b,m,none⟩)) (hy:a.eval y=.agg cells)
  (ht:w.there b m cells.size) (hi:(P.info? ty).map (·.size)=some cells.size) (h1:cells.all (·.oneCell')=true)
  (h:K a (w.setCells b m cells.toList)):if Region.wanted o (yielded ops a.tmps)=true then Oper.wp P o a w K Q else E:=by
 have hw:Region.wanted o (yielded ops a.tmps)=true:=by simp [Region.wanted,hgd]
 rw [if_pos hw];exact wp_store_mid ty x y ho b m cells hx hy ht hi h1 (by rw [hd]; exact h)
end Go.Proofs.YtbaidkefobhipaaGreatDoor
