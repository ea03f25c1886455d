/-
  Walks: the parser's take, is, expect and name.
  Nodes as values, rows of nodes that a call has made; in which blocks their rows lie.
  Walks: the parser's binary and expression, with what its operand answers.
-/
import Derived.Test.YtbaidkefobhipaaGreatDoorZS6
namespace Go.Proofs.YtbaidkefobhipaaGreatDoor
set_option maxHeartbeats 4000000
set_option maxRecDepth 100000
open Go.RowKit

theorem But.put_new {P:Nat} {a w:World} (h:But P a w) {k:Nat} (hk:a.heap.size≤k) (i:Nat) (u:Value):But P a (w.setCell ⟨k,i,none⟩ u):=
 ⟨h.os,h.tape,h.output,by simp only [World.setCell,Array.size_modify]; exact h.size,fun j hj hn=>(Below.heap_setCell w ⟨k,i,none⟩ u j (by simp only; omega)).trans (h.block j hj hn)⟩
theorem But.rset_new {P:Nat} {a w:World} (h:But P a w) {k:Nat} (hk:a.heap.size≤k) (cs:Array Value):But P a (w.setRow k cs):=
 ⟨h.os,h.tape,h.output,by rw [rset_size]; exact h.size,fun j hj hn=>(heap_rset_ne w k j cs (by omega)).trans (h.block j hj hn)⟩
theorem But.alloc {P:Nat} {a w:World} (h:But P a w) (o:Obj):But P a (w.alloc o):=h.step ((Below.refl w.heap.size w).alloc (Nat.le_refl _) o)
theorem But.drewN {P:Nat} {a w:World} (h:But P a w) (n:Nat):But P a (w.drewN n):=⟨h.os,h.tape,h.output,h.size,h.block⟩
theorem PsW.adv {w w':World} {P b n c i:Nat} {t:Tk} {r:List Tk} (h2:i+(t::r).length=n) (h3:n≤4097) (h4:n≤c) (h5:TkAt w (t::r) b (i*3)) (h6:EndL (t::r)) (hne:b < P)
  (hk:t.kind≠0) (hb:But P w w') (h1:Blk w' P 71 #[.slice (some ⟨b,0,none⟩) n c,.int .i64 ((i+1:Nat):Int)]):PsW w' P r:=by
 refine ⟨b,n,c,i+1,h1,by simp at h2; omega,h3,h4,?_,h6.next hk,hne⟩
 have hlt:b < w.heap.size:=World.block_lt_of_cell? w _ h5.1
 rw [show (i+1)*3=i*3+3 by omega]
 exact TkAt.keep _ _ (fun o=>hb.cell (p:=⟨b,o,none⟩) hlt (Nat.ne_of_lt hne)) _ h5.2.2.2
theorem PsW.parts {w:World} {P:Nat} {t:Tk} {r:List Tk} (h:PsW w P (t::r)):∃b n c i,Blk w P 71 #[.slice (some ⟨b,0,none⟩) n c,.int .i64 (i:Nat)]∧i+(t::r).length=n∧n≤4097∧n≤c∧TkAt w (t::r) b (i*3)∧EndL (t::r)∧b < P:=h

theorem take_any (t:Tk) (r:List Tk) (P:Nat) (w:World) (hp:PsW w P (t::r)) (hk:t.kind≠0):
  Calls Tryz.prog 53 #[.pointer (some ⟨P,0,none⟩)] w fun e w'=>e=.returned (tkV t)∧PsW w' P r∧But P w w':=by
 have hba:=(Below.refl w.heap.size w).alloc (Nat.le_refl _) (.cells #[.int .i64 0,.string ⟨#[]⟩,.int .i64 0] 73)
 have HBA:=zH hba
 have HN:=zH (now_any t r P _ (hp.below hba))
 have HKA:=zH (Blk.new w 73 #[.int .i64 0,.string ⟨#[]⟩,.int .i64 0])
 have HP:=zH hp
 have HK:=zH hk
 clear hp hba hk;unfold tkV at HN ⊢;go_enter Tryz.func53,Tryz.ntmps53;go_upto_region 1 with fail
 generalize w.alloc (.cells #[.int .i64 0,.string ⟨#[]⟩,.int .i64 0] 73)=wa at*;generalize hA:w.heap.size=A at*;go_wp2_with fail;refine HN.out.mono ?_;rintro e w1 ⟨rfl,hb⟩;have HB1:=zH (HBA.out.trans (hb.mono (Nat.le_of_lt HKA.out.lt)));have HK1:Hid (Blk w1 A 73 #[.int .i64 0,.string ⟨#[]⟩,.int .i64 0]):=(hb.block A HKA.out.lt).trans HKA.out;clear hb HN HBA HKA;go_upto_region 2 with fail
 have HB2:=zH (HB1.out.alloc (Nat.le_of_lt HK1.out.lt) (.cells #[.int .i64 t.kind,.string ⟨t.text.toArray⟩,.int .i64 t.at_] 73))
 have HK2:=zH (HK1.out.alloc (.cells #[.int .i64 t.kind,.string ⟨t.text.toArray⟩,.int .i64 t.at_] 73))
 have HC2:=zH (Blk.new w1 73 #[.int .i64 t.kind,.string ⟨t.text.toArray⟩,.int .i64 t.at_])
 have HAC:=zH HK1.out.lt
 generalize w1.alloc (.cells #[.int .i64 t.kind,.string ⟨t.text.toArray⟩,.int .i64 t.at_] 73)=w2 at*;generalize w1.heap.size=C at*;obtain ⟨b,n,c,i,h1,h2,h3,h4,h5,h6,h7⟩:=HP.out.parts;have hPA:P < A:=by rw [← hA]; exact h1.lt
 have HPB:Hid (Blk w2 P 71 #[.slice (some ⟨b,0,none⟩) n c,.int .i64 (i:Nat)]):=(HB2.out.block P hPA).trans h1
 have HPA:=zH hPA
 have HH:=zH (And.intro h2 (And.intro h3 (And.intro h4 (And.intro h5 (And.intro h6 h7)))))
 have hi:i≤4097:=by simp at h2; omega
 have c1:w2.cell? ⟨P,1,none⟩=some (.int .i64 i):=HPB.out.cell 1
 have g1:w2.frozen? ⟨P,1,none⟩=false:=HPB.out.frozen 1
 have y0:w2.cell? ⟨C,0,none⟩=some (.int .i64 t.kind):=HC2.out.cell 0
 have y1:w2.cell? ⟨C,1,none⟩=some (.string ⟨t.text.toArray⟩):=HC2.out.cell 1
 have y2:w2.cell? ⟨C,2,none⟩=some (.int .i64 t.at_):=HC2.out.cell 2
 have z0:w2.cell? ⟨A,0,none⟩=some (.int .i64 0):=HK2.out.cell 0
 have z1:w2.cell? ⟨A,1,none⟩=some (.string ⟨#[]⟩):=HK2.out.cell 1
 have z2:w2.cell? ⟨A,2,none⟩=some (.int .i64 0):=HK2.out.cell 2
 have k0:w2.frozen? ⟨A,0,none⟩=false:=HK2.out.frozen 0
 have k1:w2.frozen? ⟨A,1,none⟩=false:=HK2.out.frozen 1
 have k2:w2.frozen? ⟨A,2,none⟩=false:=HK2.out.frozen 2
 have n1:C≠P:=by have:=HAC.out; omega
 have n2:A≠P:=by omega
 have n3:P≠C:=Ne.symm n1
 have n4:P≠A:=Ne.symm n2
 clear h1 h2 h3 h4 h5 h6 h7 hPA;go_wp2_with fail;have hb2:But P w w2:=But.of_below (by rw [hA]; exact HB2.out)
 have hb3:=((((hb2.put 1 (.int .i64 ((i:Int)+1))).put_new (k:=A) (Nat.le_of_eq hA) 0 (.int .i64 t.kind)).put_new (k:=A) (Nat.le_of_eq hA) 1 (.string ⟨t.text.toArray⟩)).put_new (k:=A) (Nat.le_of_eq hA) 2 (.int .i64 t.at_))
 have hblk:=(((HPB.out.put 1 (.int .i64 ((i:Int)+1))).other (p:=⟨A,0,none⟩) n4 (.int .i64 t.kind)).other (p:=⟨A,1,none⟩) n4 (.string ⟨t.text.toArray⟩)).other (p:=⟨A,2,none⟩) n4 (.int .i64 t.at_)
 obtain ⟨h2,h3,h4,h5,h6,h7⟩:=HH.out
 have hAk:=(HK2.out.other (p:=⟨P,1,none⟩) n2 (.int .i64 ((i:Int)+1)))
 refine bodyPost_ret (results_cell_row rfl _ _ A 73 _ (0,0) _ rfl (((hAk.put 0 _).put 1 _).put 2 _) Tryz.underlying73 rfl (by kernel_rfl)) rfl ⟨rfl,?_,hb3⟩
 exact PsW.adv h2 h3 h4 h5 h6 h7 HK.out hb3 (by rw [show ((i+1:Nat):Int)=(i:Int)+1 by omega]; exact hblk)

theorem nmrow_blk {w:World} {k:Nat} {l:List (List UInt8)} {t:TypeId} (h:Blk w k t ((l.map fun s=>Value.string ⟨s.toArray⟩).toArray)) (hl:l.length≤100):NmRow w (.slice (some ⟨k,0,none⟩) l.length l.length) l:=by
 refine ⟨_,_,rfl,Nat.le_refl _,by unfold maxLen; omega,(fun h=>by cases h),fun _=>⟨k,0,rfl,fun i hi=>?_⟩⟩
 rw [Nat.zero_add,h.cell i];simp [hi]

def isTs (ts:List (List UInt8)) (l:List Tk):Bool:=ts.any fun s=>isT s l
theorem isTs_cons (ts:List (List UInt8)) (t:Tk) (r:List Tk):isTs ts (t::r)=((decide (t.kind=4)||decide (t.kind=5))&&ts.any fun x=>t.text==x):=by
 unfold isTs
 cases hk:(decide (t.kind=4)||decide (t.kind=5)) with
 | false=>rw [Bool.false_and,List.any_eq_false]; intro x _; simp only [isT,hk,Bool.false_and]; decide
 | true=>
  rw [Bool.true_and];congr 1;funext x;simp only [isT,hk,Bool.true_and];rw [Bool.eq_iff_iff];simp
theorem is_any (ts:List (List UInt8)) (v:Value) (t:Tk) (r:List Tk) (P:Nat) (w:World) (hp:PsW w P (t::r)) (hv:NmRow w v ts):
  Calls Tryz.prog 52 #[.pointer (some ⟨P,0,none⟩),v] w fun e w'=>e=.returned (.bool (isTs ts (t::r)))∧Below w.heap.size w w':=by
 have HN:=zH (now_any t r P _ hp)
 obtain ⟨x,c,rfl,-⟩:=id hv
 have HV:=zH hv
 clear hp hv;obtain ⟨z,hz⟩:∃z,isTs ts (t::r)=z:=⟨_,rfl⟩;rw [hz];have HZ:=zH hz;clear hz;unfold tkV at HN;go_enter Tryz.func52,Tryz.ntmps52;go_wp2_with fail;refine HN.out.mono ?_;rintro e w1 ⟨rfl,hb⟩;have HB1:=zH hb;clear hb HN;go_upto_region 2 with fail
 have HB2:=zH (HB1.out.alloc HB1.out.size (.cells #[.int .i64 t.kind,.string ⟨t.text.toArray⟩,.int .i64 t.at_] 73))
 have HC2:=zH (Blk.new w1 73 #[.int .i64 t.kind,.string ⟨t.text.toArray⟩,.int .i64 t.at_])
 generalize w1.alloc (.cells #[.int .i64 t.kind,.string ⟨t.text.toArray⟩,.int .i64 t.at_] 73)=w2 at*;generalize w1.heap.size=C at*;have y0:w2.cell? ⟨C,0,none⟩=some (.int .i64 t.kind):=HC2.out.cell 0;have y1:w2.cell? ⟨C,1,none⟩=some (.string ⟨t.text.toArray⟩):=HC2.out.cell 1;have HCN:=zH (contains_any ts _ ⟨t.text.toArray⟩ w2 (HV.out.below HB2.out))
 have HE:Hid (z=((decide (t.kind=4)||decide (t.kind=5))&&ts.any fun x=>t.text==x)):=by
  show _=_
  rw [← HZ.out];exact isTs_cons ts t r
 obtain ⟨q,hq⟩:∃q,(ts.any fun x=>t.text==x)=q:=⟨_,rfl⟩
 rw [hq] at HE;have hcn2:Hid (Calls Tryz.prog 99 #[.slice x ts.length c,.string ⟨t.text.toArray⟩] w2 fun e w'=>e=.returned (.bool q)∧w2=w'):=by rw [← hq]; exact HCN.out
 clear hq HCN;by_cases h4:t.kind=4
 ·have e4:((t.kind:Int)==4)=true:=by simp [h4]
  have HE2:Hid (z=q):=by show _=_; rw [HE.out]; simp [h4]
  clear h4;go_wp2_with fail;refine hcn2.out.mono ?_;rintro e w3 ⟨rfl,rfl⟩;go_wp2_with fail;go_ret;exact ⟨ret_bool HE2.out.symm,HB2.out⟩
 ·have e4:((t.kind:Int)==4)=false:=by simp; omega
  by_cases h5:t.kind=5
  ·have e5:((t.kind:Int)==5)=true:=by simp [h5]
   have HE2:Hid (z=q):=by show _=_; rw [HE.out]; simp [h5]
   clear h4 h5;go_wp2_with fail;refine hcn2.out.mono ?_;rintro e w3 ⟨rfl,rfl⟩;go_wp2_with fail;go_ret;exact ⟨ret_bool HE2.out.symm,HB2.out⟩
  ·have e5:((t.kind:Int)==5)=false:=by simp; omega
   have HE2:Hid (z=false):=by show _=_; rw [HE.out]; simp [h4,h5]
   clear h4 h5;go_wp2_with fail;go_ret;exact ⟨ret_bool HE2.out.symm,HB2.out⟩
theorem is_one (s:List UInt8) (k:Nat) (t:Tk) (r:List Tk) (P:Nat) (w:World) (hp:PsW w P (t::r)) (hb:Blk w k 9 #[.string ⟨s.toArray⟩]):
  Calls Tryz.prog 52 #[.pointer (some ⟨P,0,none⟩),.slice (some ⟨k,0,none⟩) 1 1] w fun e w'=>e=.returned (.bool (isT s (t::r)))∧Below w.heap.size w w':=by
 have h:=is_any [s] _ t r P w hp (nmrow_blk (l:=[s]) hb (by simp))
 simpa [isTs] using h
def PaR {α:Type} (P:Nat) (V:Nat→World→α→Ending→Prop) (r:Except (Nat×Nat) (α×List Tk)) (w w':World) (e:Ending):Prop:=
 But P w w'∧match r with
  | .ok (a,l)=>V w.heap.size w' a e∧PsW w' P l
  | .error x=>e=.panicked (failC x.1 x.2)
theorem PaR.good {α:Type} {P:Nat} {V:Nat→World→α→Ending→Prop} {r:Except (Nat×Nat) (α×List Tk)} {w w':World} {e:Ending} {a:α} {l:List Tk} (hr:r=.ok (a,l)) (hb:But P w w') (hv:V w.heap.size w' a e) (hp:PsW w' P l):PaR P V r w w' e:=by
 subst hr; exact ⟨hb,hv,hp⟩
theorem PaR.bad {α:Type} {P:Nat} {V:Nat→World→α→Ending→Prop} {r:Except (Nat×Nat) (α×List Tk)} {w w':World} {x:Nat×Nat} (hr:r=.error x) (hb:But P w w'):PaR P V r w w' (.panicked (failC x.1 x.2)):=by
 subst hr; exact ⟨hb,rfl⟩
def TkR (_:Nat) (_:World) (t:Tk) (e:Ending):Prop:=e=.returned (tkV t)
def TxR (_:Nat) (_:World) (s:List UInt8) (e:Ending):Prop:=e=.returned (.string ⟨s.toArray⟩)
theorem isT_kind {s:List UInt8} {t:Tk} {r:List Tk} (h:isT s (t::r)=true):t.kind≠0:=by
 simp only [isT,Bool.and_eq_true,Bool.or_eq_true,decide_eq_true_eq] at h;omega

theorem expect_any (s:List UInt8) (t:Tk) (r:List Tk) (P:Nat) (w:World) (hp:PsW w P (t::r)):
  Calls Tryz.prog 60 #[.pointer (some ⟨P,0,none⟩),.string ⟨s.toArray⟩] w fun e w'=>PaR P TkR (expT s (t::r)) w w' e:=by
 have hba:=(Below.refl w.heap.size w).alloc (Nat.le_refl _) (.cells #[.int .i64 0,.string ⟨#[]⟩,.int .i64 0] 73)
 have HKA:=zH ((Blk.new w 73 #[.int .i64 0,.string ⟨#[]⟩,.int .i64 0]))
 have hsz:w.heap.size≤(w.alloc (.cells #[.int .i64 0,.string ⟨#[]⟩,.int .i64 0] 73)).heap.size:=hba.size
 have hbb:=hba.alloc hsz (.cells #[.string ⟨s.toArray⟩] 9)
 have HBB:=zH hbb
 have HKB:=zH (HKA.out.alloc (.cells #[.string ⟨s.toArray⟩] 9))
 have HIS:=zH (is_one s _ t r P _ (hp.below hbb) (Blk.new (w.alloc (.cells #[.int .i64 0,.string ⟨#[]⟩,.int .i64 0] 73)) 9 #[.string ⟨s.toArray⟩]))
 have HP:=zH hp
 have HE:Hid (expT s (t::r)=if isT s (t::r) then .ok (t,r) else .error (t.at_,18)):=rfl
 have HKN:=zH (fun h=>isT_kind (s:=s) (t:=t) (r:=r) h)
 obtain ⟨q,hq⟩:∃q,isT s (t::r)=q:=⟨_,rfl⟩
 rw [hq] at HIS HE HKN;obtain ⟨R,hR⟩:∃R,expT s (t::r)=R:=⟨_,rfl⟩;rw [hR] at HE ⊢;clear hp hba hbb hsz HKA hq hR;go_enter Tryz.func60,Tryz.ntmps60;go_upto_region 1 with fail
 have e1:(w.alloc (.cells #[.int .i64 0,.string ⟨#[]⟩,.int .i64 0] 73)).heap.size=w.heap.size+1:=by simp
 go_wp2_with fail;rw [e1] at HIS;generalize (w.alloc (.cells #[.int .i64 0,.string ⟨#[]⟩,.int .i64 0] 73)).alloc (.cells #[.string ⟨s.toArray⟩] 9)=wb at*;clear e1;refine HIS.out.mono ?_;rintro e w1 ⟨rfl,hb⟩;have HB1:=zH (HBB.out.trans (hb.mono HBB.out.size));have HK1:Hid (Blk w1 w.heap.size 73 #[.int .i64 0,.string ⟨#[]⟩,.int .i64 0]):=(hb.block _ HKB.out.lt).trans HKB.out;clear hb HIS HBB HKB
 cases q with
 | false=>
  have HF:=zH (fail_any 18 t r P w1 (HP.out.below HB1.out))
  have HR:Hid (R=.error (t.at_,18)):=HE.out
  go_wp2_with fail;refine HF.out.mono ?_;rintro e w2 ⟨rfl,hb⟩;have HB2:=zH ((But.of_below HB1.out).trans hb);clear hb HF;go_wp2_with fail;exact ⟨rfl,PaR.bad HR.out HB2.out⟩
 | true=>
  have HT:=zH (take_any t r P w1 (HP.out.below HB1.out) (HKN.out rfl))
  have HR:Hid (R=.ok (t,r)):=HE.out
  unfold tkV at HT;go_wp2_with fail;refine HT.out.mono ?_;rintro e w2 ⟨rfl,hp,hb⟩;have HP2:=zH hp;have HB2:=zH ((But.of_below HB1.out).trans hb);have hne:w.heap.size≠P:=by have:=HP.out.lt; omega
  have HK2:Hid (Blk w2 w.heap.size 73 #[.int .i64 0,.string ⟨#[]⟩,.int .i64 0]):=(hb.block _ HK1.out.lt hne).trans HK1.out
  clear hb HT hp hne;generalize hA:w.heap.size=A at*;have HA:=zH hA;clear hA;have z0:w2.cell? ⟨A,0,none⟩=some (.int .i64 0):=HK2.out.cell 0;have z1:w2.cell? ⟨A,1,none⟩=some (.string ⟨#[]⟩):=HK2.out.cell 1;have z2:w2.cell? ⟨A,2,none⟩=some (.int .i64 0):=HK2.out.cell 2;have k0:w2.frozen? ⟨A,0,none⟩=false:=HK2.out.frozen 0;have k1:w2.frozen? ⟨A,1,none⟩=false:=HK2.out.frozen 1
  have k2:w2.frozen? ⟨A,2,none⟩=false:=HK2.out.frozen 2
  go_wp2_with fail;have hlt:P < w.heap.size:=HP.out.lt;rw [HA.out] at hlt;refine bodyPost_ret (results_cell_row rfl _ _ A 73 _ (0,0) _ rfl (((HK2.out.put 0 _).put 1 _).put 2 _) Tryz.underlying73 rfl (by kernel_rfl)) rfl (PaR.good HR.out ?_ rfl ?_)
  ·exact ((HB2.out.put_new (k:=A) (Nat.le_of_eq HA.out) 0 _).put_new (k:=A) (Nat.le_of_eq HA.out) 1 _).put_new (k:=A) (Nat.le_of_eq HA.out) 2 _
  ·exact ((HP2.out.put hlt 0 _).put hlt 1 _).put hlt 2 _

theorem pname_any (t:Tk) (r:List Tk) (P:Nat) (w:World) (hp:PsW w P (t::r)):
  Calls Tryz.prog 100 #[.pointer (some ⟨P,0,none⟩)] w fun e w'=>PaR P TxR (namT (t::r)) w w' e:=by
 have HN:=zH (now_any t r P _ hp)
 have HP:=zH hp
 have HE:Hid (namT (t::r)=if t.kind=3 then .ok (t.text,r) else .error (t.at_,18)):=rfl
 obtain ⟨R,hR⟩:∃R,namT (t::r)=R:=⟨_,rfl⟩
 rw [hR] at HE ⊢;have hf0:=tk_f0 t.kind t.at_ ⟨t.text.toArray⟩;have hf1:=tk_f1 t.kind t.at_ ⟨t.text.toArray⟩;unfold tkV at HN;clear hp hR;go_enter Tryz.func100,Tryz.ntmps100;go_wp2_with fail;refine HN.out.mono ?_;rintro e w1 ⟨rfl,hb⟩;have HB1:=zH hb;clear hb HN;by_cases h3:t.kind=3
 ·have e3:((t.kind:Int) != 3)=false:=by simp [h3]
  have HT:=zH (take_any t r P w1 (HP.out.below HB1.out) (by omega))
  have HR:Hid (R=.ok (t.text,r)):=by show _=_; rw [HE.out,if_pos h3]
  unfold tkV at HT;clear h3;go_wp2_with fail;refine HT.out.mono ?_;rintro e w2 ⟨rfl,hp,hb⟩;have HP2:=zH hp;have HB2:=zH ((But.of_below HB1.out).trans hb);clear hb HT hp;go_wp2_with fail;go_ret;exact PaR.good HR.out HB2.out rfl HP2.out
 ·have e3:((t.kind:Int) != 3)=true:=by simp; omega
  have HF:=zH (fail_any 18 t r P w1 (HP.out.below HB1.out))
  have HR:Hid (R=.error (t.at_,18)):=by show _=_; rw [HE.out,if_neg h3]
  clear h3;go_wp2_with fail;refine HF.out.mono ?_;rintro e w2 ⟨rfl,hb⟩;have HB2:=zH ((But.of_below HB1.out).trans hb);clear hb HF;go_wp2_with fail;exact ⟨rfl,PaR.bad HR.out HB2.out⟩
open Go.RowKit

def maskW (S:Nat→Bool) (w:World):World:={ w with heap:=w.heap.mapIdx fun k o=>if S k then o else .cells #[] 0 }
theorem mask_cell (S:Nat→Bool) (w:World) (b o:Nat) (v:Value):(maskW S w).cell? ⟨b,o,none⟩=some v↔S b=true∧w.cell? ⟨b,o,none⟩=some v:=by
 unfold World.cell? maskW;simp only [Array.getElem?_mapIdx]
 cases hS:S b with
 | true=>
  simp only [true_and]
  cases w.heap[b]? <;> simp
 | false=>
  simp only [Bool.false_eq_true,false_and,iff_false]
  cases w.heap[b]? <;> simp
def MSub (S:Nat→Bool) (w:World) (S':Nat→Bool) (w':World):Prop:=∀k,k < w.heap.size→S k=true→S' k=true∧w'.heap[k]?=w.heap[k]?
theorem MSub.cell {S S':Nat→Bool} {w w':World} (h:MSub S w S' w') {b o:Nat} {v:Value} (hc:(maskW S w).cell? ⟨b,o,none⟩=some v):(maskW S' w').cell? ⟨b,o,none⟩=some v:=by
 obtain ⟨h1,h2⟩:=(mask_cell S w b o v).1 hc
 have hlt:b < w.heap.size:=World.block_lt_of_cell? w _ h2
 obtain ⟨h3,h4⟩:=h b hlt h1
 refine (mask_cell S' w' b o v).2 ⟨h3,?_⟩
 unfold World.cell? at h2 ⊢;rw [h4];exact h2
def CSub (w w':World):Prop:=∀b o v,w.cell? ⟨b,o,none⟩=some v→w'.cell? ⟨b,o,none⟩=some v
theorem NmRow.sub {w w':World} (h:CSub w w') {v:Value} {l:List (List UInt8)} (hr:NmRow w v l):NmRow w' v l:=RowW.mono hr fun b _ hc i hi=>h b _ _ (hc i hi)
theorem FAt.sub {w w':World} (h:CSub w w'):∀(F:Fo) (b off:Nat),FAt w F b off→FAt w' F b off:=by
 intro F;induction F with
 | nil=>intro _ _ _; exact True.intro
 | cons hd k r ihk ihr=>
  intro b off ⟨h0,h1,h2,⟨u,h3,hn⟩,⟨v,h4,hk⟩,h5,hr⟩;exact ⟨h _ _ _ h0,h _ _ _ h1,h _ _ _ h2,⟨u,h _ _ _ h3,hn.sub h⟩,⟨v,h _ _ _ h4,hk.mono ihk⟩,h _ _ _ h5,ihr _ _ hr⟩
theorem FRow.sub {w w':World} (h:CSub w w') {v:Value} {F:Fo} (hr:FRow w v F):FRow w' v F:=RowW.mono hr fun b o=>FAt.sub h F b o
theorem MSub.csub {S S':Nat→Bool} {w w':World} (h:MSub S w S' w'):CSub (maskW S w) (maskW S' w'):=fun _ _ _ hc=>h.cell hc
theorem unmask (S:Nat→Bool) (w:World):CSub (maskW S w) w:=fun b o v hc=>((mask_cell S w b o v).1 hc).2
def frS (B:Nat):Nat→Bool:=fun k=>decide (B≤k)

def NdV (w:World) (T:Array Value) (x:Nd):Prop:=
 ∃xn cn xk ck,T=ndV x.1 (.slice xn x.1.names.length cn) (.slice xk x.2.len ck)∧NmRow w (.slice xn x.1.names.length cn) x.1.names∧FRow w (.slice xk x.2.len ck) x.2
def NdR (B:Nat) (w:World) (x:Nd) (e:Ending):Prop:=∃T,e=.returned (.agg T)∧NdV (maskW (frS B) w) T x
theorem NdV.sub {w w':World} (hs:CSub w w') {T:Array Value} {x:Nd} (h:NdV w T x):NdV w' T x:=by
 obtain ⟨xn,cn,xk,ck,h1,h2,h3⟩:=h
 exact ⟨xn,cn,xk,ck,h1,h2.sub hs,h3.sub hs⟩
theorem NdV.size {w:World} {T:Array Value} {x:Nd} (h:NdV w T x):T.size=6:=by obtain ⟨_,_,_,_,rfl,_⟩:=h; rfl
theorem NdV.one {w:World} {T:Array Value} {x:Nd} (h:NdV w T x):T.all (·.oneCell')=true:=by obtain ⟨_,_,_,_,rfl,_⟩:=h; simp [ndV,Value.oneCell']
theorem NdV.one' {w:World} {T:Array Value} {x:Nd} (h:NdV w T x):∀u∈T.toList,u.oneCell'=true:=by obtain ⟨_,_,_,_,rfl,_⟩:=h; simp [ndV,Value.oneCell']
theorem syn_info:(Tryz.prog.info? 31).map (·.size)=some 6:=by kernel_rfl
theorem NdV.inf {w:World} {T:Array Value} {x:Nd} (h:NdV w T x):(Tryz.prog.info? 31).map (·.size)=some T.size:=by rw [h.size]; exact syn_info
theorem ndv_mk {w:World} (h:Hd) (k:Fo) {xn xk:Option Addr} {n m cn ck:Nat} (hn:n=h.names.length) (hm:m=k.len) (h2:NmRow w (.slice xn n cn) h.names) (h3:FRow w (.slice xk m ck) k):NdV w (ndV h (.slice xn n cn) (.slice xk m ck)) (h,k):=by
 subst hn hm;exact ⟨xn,cn,xk,ck,rfl,h2,h3⟩

theorem el_syn:Elem Tryz.prog 22 31 (.agg #[.int .i64 0,.string ⟨#[]⟩,.int .i64 0,.slice none 0 0,.slice none 0 0,.int .i64 0]) 6 88:=by
 refine ⟨Tryz.underlying22,?_,rfl,by decide⟩
 exact info_parts (by kernel_rfl)
theorem el_str:Elem Tryz.prog 29 9 (.string ⟨#[]⟩) 1 16:=by
 refine ⟨Tryz.underlying29,?_,rfl,by decide⟩
 exact info_parts (by kernel_rfl)

def FCl (w:World):List Value→Fo→Prop
 | xs,.nil=>xs=[]
 | xs,.cons h k r=>∃T ys,xs=T.toList++ys∧NdV w T (h,k)∧FCl w ys r
theorem FCl.sub {w w':World} (hs:CSub w w'):∀(F:Fo) (xs:List Value),FCl w xs F→FCl w' xs F:=by
 intro F;induction F with
 | nil=>intro xs h; exact h
 | cons h k r _ ih=>intro xs ⟨T,ys,h1,h2,h3⟩; exact ⟨T,ys,h1,h2.sub hs,ih _ h3⟩
theorem FCl.app {w:World} {T:Array Value} {x:Nd} (hx:NdV w T x):∀(F:Fo) (xs:List Value),FCl w xs F→FCl w (xs++T.toList) (F.app x.one):=by
 intro F;induction F with
 | nil=>intro xs h; subst h; exact ⟨T,[],by simp,hx,rfl⟩
 | cons h k r _ ih=>intro xs ⟨T',ys,h1,h2,h3⟩; exact ⟨T',ys++T.toList,by rw [h1,List.append_assoc],h2,ih _ h3⟩
theorem FCl.two {w:World} {T U:Array Value} {x y:Nd} (hx:NdV w T x) (hy:NdV w U y):FCl w (T++U).toList (x.one.app y.one):=
 ⟨T,U.toList,by simp,hx,U,[],by simp,hy,rfl⟩
theorem FCl.one {w:World} {T:Array Value} {x:Nd} (hx:NdV w T x):FCl w T.toList x.one:=⟨T,[],by simp,hx,rfl⟩
theorem FCl.at {w:World} {b:Nat}:∀(F:Fo) (xs:List Value) (off:Nat),FCl w xs F→(∀i v,xs[i]?=some v→w.cell? ⟨b,off+i,none⟩=some v)→FAt w F b off:=by
 intro F;induction F with
 | nil=>intro _ _ _ _; exact True.intro
 | cons h k r _ ih=>
  intro xs off ⟨T,ys,h1,h2,h3⟩ hc;obtain ⟨xn,cn,xk,ck,hT,h5,h6⟩:=h2;subst h1 hT;have key:∀i v,(ndV h (.slice xn h.names.length cn) (.slice xk k.len ck)).toList[i]?=some v→w.cell? ⟨b,off+i,none⟩=some v:=fun i v hi=>hc i v (by rw [List.getElem?_append_left (List.getElem?_eq_some_iff.1 hi).1]; exact hi)
  refine ⟨key 0 _ rfl,key 1 _ rfl,key 2 _ rfl,⟨_,key 3 _ rfl,h5⟩,⟨_,key 4 _ rfl,h6⟩,key 5 _ rfl,ih ys (off+6) h3 (fun i v hi=>?_)⟩
  have:=hc (6+i) v (by rw [List.getElem?_append_right (by simp [ndV])]; simp [ndV,hi])
  rwa [show off+(6+i)=off+6+i by omega] at this
theorem frow_blk {w:World} {S:Nat→Bool} {k:Nat} {cs:Array Value} {F:Fo} (hb:Blk w k 31 cs) (hS:S k=true) (hf:FCl (maskW S w) cs.toList F) (hl:F.len≤100):FRow (maskW S w) (.slice (some ⟨k,0,none⟩) F.len F.len) F:=by
 refine ⟨_,_,rfl,Nat.le_refl _,by unfold maxLen; omega,(fun h=>by cases h),fun _=>⟨k,0,rfl,?_⟩⟩
 refine FCl.at F _ 0 hf (fun i v hi=>?_)
 refine (mask_cell S w k _ v).2 ⟨hS,?_⟩
 rw [Nat.zero_add,hb.cell i];simpa using hi

def KRow (S:Nat→Bool) (w:World) (base:Nat) (v:Value) (F:Fo):Prop:=
 ∃xs,w.ownsRow base 31 6 v F.len xs∧FCl (maskW (fun k=>S k&&decide (v.ownBlock≠some k)) w) xs F∧∀g,v.ownBlock=some g→S g=true
theorem krow_nil (S:Nat→Bool) (w:World) (base:Nat):KRow S w base (.slice none 0 0) .nil:=⟨[],⟨rfl,.inl ⟨rfl,rfl⟩⟩,rfl,fun g h=>by simp [Value.ownBlock] at h⟩
theorem KRow.shape {S:Nat→Bool} {w:World} {base:Nat} {v:Value} {F:Fo} (h:KRow S w base v F):∃x c,v=.slice x F.len c:=by
 obtain ⟨xs,h,-⟩:=h
 rcases h.2 with ⟨rfl,h0⟩ | ⟨g,cap,cur,rfl,_⟩
 ·exact ⟨none,0,by rw [h0]⟩
 ·exact ⟨_,_,rfl⟩
theorem mask_less {S S':Nat→Bool} (h:∀k,S k=true→S' k=true) (w:World):CSub (maskW S w) (maskW S' w):=MSub.csub fun k _ hk=>⟨h k hk,rfl⟩
theorem KRow.frow {S:Nat→Bool} {w:World} {base:Nat} {v:Value} {F:Fo} (h:KRow S w base v F):FRow (maskW S w) v F:=by
 obtain ⟨xs,h,hf,hS⟩:=h
 rcases id h.2 with ⟨rfl,h0⟩ | ⟨g,cap,cur,rfl,_,hg,hc,hm,_⟩
 ·cases F with
  | nil=>exact frow_nil _
  | cons _ _ _=>simp [Fo.len] at h0
 ·refine ⟨_,cap,rfl,hc,hm,(fun h=>by cases h),fun _=>⟨g,0,rfl,?_⟩⟩
  refine FCl.at F xs 0 (FCl.sub (mask_less (fun k hk=>by simp at hk; exact hk.1) w) _ _ hf) (fun i v hi=>?_)
  have a1:=World.ownsRow.cells h (g:=g) rfl i v hi
  rw [Addr.add_lit] at a1;exact (mask_cell S w g _ v).2 ⟨hS g rfl,a1⟩
theorem own_keep {w w':World} {base:Nat} {e:TypeId} {size:Nat} {v:Value} {n:Nat} {xs:List Value} (ho:w.ownsRow base e size v n xs) (hk:∀(g:Nat),v.ownBlock=some g→g < w.heap.size→w'.heap[g]?=w.heap[g]?):w'.ownsRow base e size v n xs:=by
 refine ⟨ho.1,?_⟩
 rcases ho.2 with hn | ⟨g,cap,cur,rfl,hb,hgg,rest⟩
 ·exact .inl hn
 ·exact .inr ⟨g,cap,cur,rfl,hb,by rw [hk g rfl (Array.getElem?_eq_some_iff.1 hgg).1]; exact hgg,rest⟩
theorem KRow.own_lt {S:Nat→Bool} {w:World} {base:Nat} {v:Value} {F:Fo} (h:KRow S w base v F):∀g,v.ownBlock=some g→g < w.heap.size:=by
 obtain ⟨xs,h,-⟩:=h
 intro g hg;rcases h.2 with ⟨rfl,h0⟩ | ⟨g',cap,cur,rfl,_,hgg,_⟩
 ·simp [Value.ownBlock] at hg
 ·simp [Value.ownBlock] at hg; subst hg; exact (Array.getElem?_eq_some_iff.1 hgg).1
theorem KRow.keep {S S':Nat→Bool} {w w':World} {base:Nat} {v:Value} {F:Fo} (h:KRow S w base v F) (hk:MSub S w S' w'):KRow S' w' base v F:=by
 obtain ⟨xs,h,hf,hS⟩:=h
 have hlt:∀g,v.ownBlock=some g→g < w.heap.size:=by
  intro g hg;rcases h.2 with ⟨rfl,h0⟩ | ⟨g',cap,cur,rfl,_,hgg,_⟩
  ·simp [Value.ownBlock] at hg
  ·simp [Value.ownBlock] at hg; subst hg; exact (Array.getElem?_eq_some_iff.1 hgg).1
 refine ⟨xs,own_keep h (fun g hg hl=>(hk g hl (hS g hg)).2),FCl.sub (MSub.csub fun k hl hS2=>?_) _ _ hf,fun g hg=>(hk g (hlt g hg) (hS g hg)).1⟩
 simp only [Bool.and_eq_true] at hS2 ⊢;exact ⟨⟨(hk k hl hS2.1).1,hS2.2⟩,(hk k hl hS2.1).2⟩
theorem KRow.more {S:Nat→Bool} {w w':World} {base:Nat} {v:Value} {F:Fo} {xs:List Value} {T:Array Value} {x:Nd} {r cap:Nat} {n:Nat} (hf:FCl (maskW (fun k=>S k&&decide (v.ownBlock≠some k)) w) xs F)
  (hx:NdV (maskW (fun k=>S k&&decide (v.ownBlock≠some k)) w) T x) (hn:n=F.len+1) (ho:w'.ownsRow base 31 6 (.slice (some ⟨r,0,none⟩) n cap) n (xs++T.toList))
  (hS:S r=true) (hr:v.ownBlock=some r∨w.heap.size≤r) (hg:∀k,k < w.heap.size→v.ownBlock≠some k→w'.heap[k]?=w.heap[k]?):KRow S w' base (.slice (some ⟨r,0,none⟩) n cap) (F.app x.one):=by
 subst hn;have hlen:(F.app x.one).len=F.len+1:=by rw [Fo.app_len]; rfl
 refine ⟨xs++T.toList,by rw [hlen]; exact ho,?_,fun g hg2=>by simp [Value.ownBlock] at hg2; rw [← hg2]; exact hS⟩
 refine FCl.sub (MSub.csub fun k hk hk2=>?_) _ _ (FCl.app hx F xs hf)
 simp only [Bool.and_eq_true,decide_eq_true_eq] at hk2 ⊢;refine ⟨⟨hk2.1,?_⟩,hg k hk hk2.2⟩;simp only [Value.ownBlock,ne_eq,Option.some.injEq];rintro rfl;rcases hr with h1 | h1
 ·exact hk2.2 h1
 ·omega
open Go.RowKit

def lenOf (P:Nat) (w:World):Nat:=
 match w.cell? ⟨P,0,none⟩,w.cell? ⟨P,1,none⟩ with
 | some (.slice _ n _),some (.int _ i)=>n - i.toNat
 | _,_=>0
theorem PsW.len {w:World} {P:Nat} {l:List Tk} (h:PsW w P l):lenOf P w=l.length:=by
 obtain ⟨b,n,c,i,h1,h2,-⟩:=h
 unfold lenOf;rw [h1.cell 0,h1.cell 1];simp;omega
def zSyn:Array Value:=#[.int .i64 0,.string ⟨#[]⟩,.int .i64 0,.slice none 0 0,.slice none 0 0,.int .i64 0]
theorem thenT_ok {α β:Type} {r:Except (Nat×Nat) (α×List Tk)} {f:α→Pa β} {a:α} {l:List Tk} (h:r=.ok (a,l)):thenT r f=f a l:=by rw [h]; rfl
theorem thenT_err {α β:Type} {r:Except (Nat×Nat) (α×List Tk)} {f:α→Pa β} {x:Nat×Nat} (h:r=.error x):thenT r f=.error x:=by rw [h]; rfl
theorem PsW.apart {w:World} {P k:Nat} {l:List Tk} {t:TypeId} {cs:Array Value} (h:PsW w P l) (hb:Blk w k t cs) (ht:t≠71):k≠P:=by
 obtain ⟨b,n,c,i,h1,-⟩:=h
 exact hb.apart h1 ht
theorem But.blk {P:Nat} {w w':World} (h:But P w w') {k:Nat} {t:TypeId} {cs:Array Value} (hb:Blk w k t cs) (hn:k≠P):Blk w' k t cs:=(h.block k hb.lt hn).trans hb

def OpOk (F:Nat) (vs:List Value) (op:Pa Nd):Prop:=∀(P:Nat) (l:List Tk) (w:World),PsW w P l→Calls Tryz.prog F (.pointer (some ⟨P,0,none⟩)::vs).toArray w fun e w'=>PaR P NdR (op l) w w' e

theorem bin_zero (L:Nat) (op:Pa Nd) (hop:OpOk 120 [.int .i64 (L:Nat)] op):OpOk 101 [.int .i64 (L:Nat),.int .i64 6] op:=by
 intro P l w hp;have HKA:=zH (Blk.new w 31 zSyn);have HBA:=zH ((Below.refl w.heap.size w).alloc (Nat.le_refl _) (.cells zSyn 31));have HOP:=zH hop;have HP:=zH hp;have hlt:=zH hp.lt;clear hp hop;obtain ⟨R,hR⟩:∃R,op l=R:=⟨_,rfl⟩;rw [hR];have HR:=zH hR;clear hR;unfold zSyn at HKA HBA;show Calls _ _ #[_,_,_] _ _
 go_enter Tryz.func101,Tryz.ntmps101
 go_upto_region 1 with fail
 generalize w.alloc (.cells #[.int .i64 0,.string ⟨#[]⟩,.int .i64 0,.slice none 0 0,.slice none 0 0,.int .i64 0] 31)=wa at*;generalize hA:w.heap.size=A at*;have HA:=zH hA;clear hA;have HB:Hid (But P w wa):=But.of_below (by rw [HA.out]; exact HBA.out)
 have HPA:Hid (PsW wa P l):=HP.out.below (by rw [HA.out]; exact HBA.out)
 have HC:=zH (HOP.out P l wa HPA.out)
 go_wp2_with fail;refine HC.out.mono ?_;intro e w1 h;obtain ⟨hb,h⟩:=h;rw [HR.out] at h;have HB1:=zH (HB.out.trans hb)
 cases hRR:R with
 | error x=>
  rw [hRR] at h;obtain rfl:=h;have HRR:=zH hRR;clear hRR hb HC;go_wp2_with fail;exact ⟨rfl,PaR.bad HRR.out HB1.out⟩
 | ok y=>
  obtain ⟨x,l2⟩:=y
  rw [hRR] at h;obtain ⟨⟨T,rfl,hT⟩,hp2⟩:=h;have HRR:=zH hRR;have HT:=zH hT;have HP2:=zH hp2;have HK1:=zH (hb.blk HKA.out (HPA.out.apart HKA.out (by decide)))
  clear hRR hb HC hT hp2;go_wp2_with (refine wpList_store_rowTo rfl 31 (.tmp 6) (.tmp 14) rfl rfl A T (by rfl) (by rfl) 31 _ (by exact HK1.out) (by exact HT.out.inf) (by exact HT.out.size.symm) (by exact HT.out.one) ?_)
  refine bodyPost_ret (results_cell_row rfl _ _ A 31 _ (0,0) _ rfl (HK1.out.rset T) Tryz.underlying31 rfl HT.out.inf) rfl (PaR.good HRR.out ?_ ⟨T,rfl,?_⟩ ?_)
  ·exact HB1.out.rset_new (Nat.le_of_eq HA.out) T
  ·refine HT.out.sub (MSub.csub fun k hk hS=>?_)
   have h1:A < wa.heap.size:=HKA.out.lt
   have h2:=HA.out
   simp only [frS,decide_eq_true_eq] at hS ⊢;exact ⟨by omega,heap_rset_ne w1 A k T (by omega)⟩
  ·exact HP2.out.rset hlt.out T
end Go.Proofs.YtbaidkefobhipaaGreatDoor
