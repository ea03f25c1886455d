/-
  Walk: the reference's inner. (Printed by gen_rq10.py.)
-/
import Derived.Test.YtbaidkefobhipaaGreatDoorZS51
import Derived.Test.YtbaidkefobhipaaGreatDoorZS7
namespace Go.Proofs.YtbaidkefobhipaaGreatDoor
set_option maxHeartbeats 16000000
set_option maxRecDepth 100000
open Go.RowKit

def RRes (B S:Nat) (s':RS) (fv:Value) (w:World) (e:Ending) (w':World):Prop:=e=.returned (.tuple #[])∧∃nv' fv',RkW B w' S s' nv' fv'∧Cg S fv w w'∧∀g,fv'.ownBlock=some g→fv.ownBlock=some g∨w.heap.size≤g
def RS.nl (s:RS):Nat:=s.names.length+s.fs.length
def RAl (w0:World) (N:Nat):Prop:=∀(F:Fo) (xv:Value) (w:World) (S:Nat) (s:RS) (nv fv:Value),F.size < N→rt .st F=true→FRow w0 xv F→Below w0.heap.size w0 w→RkW w0.heap.size w S s nv fv→s.nl+F.wt≤1099511627776→
 Calls Tryz.prog 20 #[.pointer (some ⟨S,0,none⟩),xv] w fun e w'=>RRes w0.heap.size S (rC .all s F) fv w e w'
theorem sc4 {w:World} {S:Nat} {t:TypeId} {a b c d e f g h:Value} (hb:Blk w S t #[a,b,c,d,e,f,g,h]):w.cell? ⟨S,0,none⟩=some a∧w.cell? ⟨S,2,none⟩=some c∧w.cell? ⟨S,3,none⟩=some d∧w.cell? ⟨S,7,none⟩=some h:=
 ⟨hb.cell 0,hb.cell 2,hb.cell 3,hb.cell 7⟩
theorem names_row {w:World} {B:Nat} {v:Value} {l:List Nm} (h:w.ownsRow B 9 1 v l.length (fsV l)) {S:Nat→Bool} (hS:∀g,v.ownBlock=some g→S g=true):NmRow (maskW S w) v l:=
 NRow.row (base:=B) ⟨h,hS⟩
theorem new_scope {B B' T:Nat} {w:World} {ns:List Nm} {v:Value} {k:Nat} {a b:Bool} {e:Nat} (hT:Blk w T 49 #[v,.int .i64 (k:Nat),.bool a,.bool b,.bool false,.slice none 0 0,.int .i64 0,.int .i64 (e:Nat)]) (hn:w.ownsRow B' 9 1 v ns.length (fsV ns)) (hB:B≤T):
  RkW B w T ⟨ns,k,a,b,false,[],0,e⟩ v (.slice none 0 0):=by
 refine ⟨hT,names_row hn (fun g hg=>?_),⟨rfl,.inl ⟨rfl,rfl⟩⟩,hB⟩
 have:g≠T:=by
  rintro rfl;exact own_blk_ne' hT hn.2 (by decide) hg.symm
 simp [this,Value.ownBlock]
theorem own_slice {w:World} {base n k:Nat} {e:TypeId} {v:Value} {xs:List Value} (h:w.ownsRow base e k v n xs):∃x c,v=.slice x n c:=by
 rcases h.2 with ⟨rfl,rfl⟩ | ⟨g,cap,cur,rfl,-⟩
 ·exact ⟨_,_,rfl⟩
 ·exact ⟨_,_,rfl⟩
theorem own_alloc {w:World} {base n k:Nat} {e:TypeId} {v:Value} {xs:List Value} (h:w.ownsRow base e k v n xs) (ob:Obj):(w.alloc ob).ownsRow base e k v n xs:=own_keep h fun _ _ hl=>Below.heap_alloc _ _ _ hl
theorem blk_gr {w w':World} {T:Nat} {t:TypeId} {cs:Array Value} {b:Option Nat} (hb:Blk w T t cs) (hg:w.grownBy w' b) (hne:some T≠b):Blk w' T t cs:=(hg.block T hb.lt hne).trans hb
theorem inner_row {B b T k e:Nat} {a l:Bool} {w:World} {v:Value} {ns:List Nm} {cs:Array Value} (hT:Blk w T 49 cs) {n:Nat} (hO:w.ownsRow b 9 1 v n (fsV ns)) (hn:n=ns.length) (hB:B≤T):
  RkW B (w.setRow T #[v,.int .i64 (k:Nat),.bool a,.bool l,.bool false,.slice none 0 0,.int .i64 0,.int .i64 (e:Nat)]) T ⟨ns,k,a,l,false,[],0,e⟩ v (.slice none 0 0):=
 new_scope (hT.rset _) (own_keep (hn ▸ hO) fun g hg _=>heap_rset_ne _ _ _ _ (fun he=>own_blk_ne' hT hO.2 (by decide) (by rw [← he]; exact hg.symm))) hB
theorem rinner_any {w0:World} {N:Nat} (ih:RAl w0 N) (h:Hd) (k:Fo) (xn xk:Option Addr) (cn ck:Nat) (w:World) (S:Nat) (s:RS) (nv fv nv2:Value) (ns:List Nm) (lp:Bool) (hN:k.size < N) (hrt:rt .st k=true)
  (hkr:FRow w0 (.slice xk k.len ck) k) (hb0:Below w0.heap.size w0 w) (hr:RkW w0.heap.size w S s nv fv) (hnv:NmRow w nv2 ns) (hln:s.nl+ns.length+k.wt≤1099511627776):
  Calls Tryz.prog 79 #[.pointer (some ⟨S,0,none⟩),.agg (ndV h (.slice xn h.names.length cn) (.slice xk k.len ck)),nv2,.bool lp] w fun e w'=>
   e=.returned (.tuple #[])∧RkW w0.heap.size w' S (s.join (rC .all (s.sub ns lp) k)) nv fv∧Cg S fv w w':=by
 have hbz:=(Below.refl w.heap.size w).alloc (Nat.le_refl _) (.cells (ndV h (.slice xn h.names.length cn) (.slice xk k.len ck)) 31)
 have HKB:=zH (Blk.new w 31 (ndV h (.slice xn h.names.length cn) (.slice xk k.len ck)))
 have HRZ:=zH (hr.below hbz)
 have HNV:=zH (hnv.below hbz)
 have HBZ:=zH hbz
 have HSA:Hid (w.heap.size≠S):=by have:=hr.blk.lt; show _≠_; omega
 have HFA:Hid (fv.ownBlock≠some w.heap.size):=fun he=>by have:=(hr.own_ge _ he).2; omega
 have HBB:Hid (w0.heap.size≤w.heap.size):=hb0.size
 have HB0:=zH hb0
 have HLN:Hid (s.names.length+ns.length≤1099511627776):=by unfold RS.nl at hln; show _≤_; omega
 have HLM:Hid ((s.sub ns lp).nl+k.wt≤1099511627776):=by unfold RS.nl at hln ⊢; unfold RS.sub; show _≤_; simp only [List.length_append,List.length_nil]; omega
 have HA:Hid (∀xv w S nv fv,FRow w0 xv k→Below w0.heap.size w0 w→RkW w0.heap.size w S (s.sub ns lp) nv fv→Calls Tryz.prog 20 #[.pointer (some ⟨S,0,none⟩),xv] w fun e w'=>RRes w0.heap.size S (rC .all (s.sub ns lp) k) fv w e w'):=fun xv w S nv fv h1 h2 h3=>ih k xv w S _ nv fv hN hrt h1 h2 h3 HLM.out
 have HKR:=zH hkr
 have HOS:Hid (∀g,fv.ownBlock=some g→w0.heap.size≤g):=fun g hg=>(hr.own_ge g hg).1
 obtain ⟨⟨nx,nc,rfl,-⟩,⟨fx,fc,rfl,-⟩⟩:=hr.shape
 obtain ⟨nx2,nc2,rfl,-⟩:=id hnv
 obtain ⟨t0,ht0⟩:∃t0,s.sub ns lp=t0:=⟨_,rfl⟩
 have HT0:=zH ht0
 obtain ⟨t1,ht1⟩:∃t1,rC .all t0 k=t1:=⟨_,rfl⟩
 rw [ht0] at HA HLM ⊢;rw [ht1] at HA ⊢;obtain ⟨kl,hkl⟩:∃q,k.len=q:=⟨_,rfl⟩;rw [hkl] at HKB HRZ HNV HBZ HKR hbz ⊢;obtain ⟨sn,hsn⟩:∃q,s.names.length=q:=⟨_,rfl⟩;obtain ⟨sf,hsf⟩:∃q,s.fs.length=q:=⟨_,rfl⟩;obtain ⟨n2,hn2⟩:∃q,ns.length=q:=⟨_,rfl⟩;have HSN:=zH hsn;have HN2:=zH hn2;rw [hsn] at HRZ ⊢;rw [hsf] at HRZ HFA HOS ⊢;rw [hn2] at HNV ⊢
 clear hN hrt hkr hb0 hr hnv hln ih hbz ht0 ht1 hkl hsn hsf hn2 HLM;obtain ⟨kd,tx,nu,nm,ps⟩:=h;obtain ⟨nl,hnl⟩:∃l,nm.length=l:=⟨_,rfl⟩;unfold ndV at HKB HRZ HNV HBZ ⊢;simp only [hnl] at HKB HRZ HNV HBZ ⊢;clear hnl;go_enter Tryz.func79,Tryz.ntmps79;go_upto_region 1 with fail
 generalize w.alloc (.cells #[.int .i64 kd,.string ⟨tx.toArray⟩,.int .i64 nu,.slice xn nl cn,.slice xk kl ck,.int .i64 ps] 31)=wz at*;generalize hA:w.heap.size=A at*;have HAW:=zH hA;clear hA;go_cut [8] from 9 to 36 (fun v8 wx=>∃(T:Nat) (nvt:Value),v8=.pointer (some ⟨T,0,none⟩)∧Hid (wz.heap.size≤T)∧Hid (RkW w0.heap.size wx T t0 nvt (.slice none 0 0))∧Hid (Below wz.heap.size wz wx))
 case first=>
  have HT1:Hid (t0=⟨s.names++ns,sn,s.inF,s.inL||lp,false,[],0,s.e⟩):=by show _=_; rw [← HT0.out,← HSN.out]; rfl
  obtain ⟨names,out,iF,iL,top,fs,pos,e0⟩:=s
  simp only at HRZ HT1 HLN HSN;have hbd:Below wz.heap.size wz wz.drew:=drewN_below (Below.refl _ _) 1;have HSP:Hid (∀W,Below wz.heap.size wz W→W.cell? ⟨S,0,none⟩=some (.slice nx sn nc)∧W.cell? ⟨S,2,none⟩=some (.bool iF)∧W.cell? ⟨S,3,none⟩=some (.bool iL)∧W.cell? ⟨S,7,none⟩=some (.int .i64 (e0:Nat))):=fun W hb=>sc4 (HRZ.out.below hb).blk
  have HNM:Hid (∀W,Below wz.heap.size wz W→NmRow W (.slice nx sn nc) names):=fun W hb=>(HRZ.out.below hb).names
  have HNS:Hid (∀W,Below wz.heap.size wz W→NmRow W (.slice nx2 n2 nc2) ns):=fun W hb=>HNV.out.below hb
  have HBD:=zH hbd
  have HSZ:Hid (w0.heap.size≤wz.heap.size):=by have h1:=HBB.out; have h2:=HBZ.out.size; have h3:=HAW.out; show _≤_; omega
  have hS0:=HSP.out _ hbd
  clear hbd;refine wp_region_held_drew (S:=fun _=>True) (by kernel_rfl) trivial (fun hHeld=>?_)
  clear hHeld;generalize wz.drew=wd at*;refine wpAnyH_weaken (S2:=fun W=>W.cell? ⟨S,0,none⟩=some (.slice nx sn nc)∧W.cell? ⟨S,2,none⟩=some (.bool iF)∧W.cell? ⟨S,3,none⟩=some (.bool iL)∧W.cell? ⟨S,7,none⟩=some (.int .i64 (e0:Nat))) (fun _ _=>trivial) ?_
  have hS:=hS0
  clear hS0;refine zT 0 hS ?_;try simp only [Act.put,zs1,zs2,zs3]
  refine zT 1 hS ?_;try simp only [Act.put,zs1,zs2,zs3]
  refine zT 2 hS ?_;try simp only [Act.put,zs1,zs2,zs3]
  refine zT 3 hS ?_;try simp only [Act.put,zs1,zs2,zs3]
  refine zT 5 hS ?_;try simp only [Act.put,zs1,zs2,zs3]
  refine zT 7 hS ?_;try simp only [Act.put,zs1,zs2,zs3]
  refine zT 8 hS ?_;try simp only [Act.put,zs1,zs2,zs3]
  refine zT 9 hS ?_;try simp only [Act.put,zs1,zs2,zs3]
  refine zT 10 hS ?_;try simp only [Act.put,zs1,zs2,zs3]
  refine zT 11 hS ?_;try simp only [Act.put,zs1,zs2,zs3]
  refine zT 12 hS ?_;try simp only [Act.put,zs1,zs2,zs3]
  refine zT 13 hS ?_;try simp only [Act.put,zs1,zs2,zs3]
  refine zT 14 hS ?_;try simp only [Act.put,zs1,zs2,zs3]
  refine zT 15 hS ?_;try simp only [Act.put,zs1,zs2,zs3]
  refine zT 16 hS ?_;try simp only [Act.put,zs1,zs2,zs3]
  refine zT 17 hS ?_;try simp only [Act.put,zs1,zs2,zs3]
  refine zT 18 hS ?_;try simp only [Act.put,zs1,zs2,zs3]
  refine zT 19 hS ?_;try simp only [Act.put,zs1,zs2,zs3]
  refine zT 23 hS ?_;try simp only [Act.put,zs1,zs2,zs3]
  refine zT 24 hS ?_;try simp only [Act.put,zs1,zs2,zs3]
  refine zT 25 hS ?_;try simp only [Act.put,zs1,zs2,zs3]
  refine zT 26 hS ?_;try simp only [Act.put,zs1,zs2,zs3]
  refine zF 4 28 (fun K hK=>?saq23) (fun K hK=>?sbq23)
  case saq23=>
   refine pstep_apS (base:=wz.heap.size) (acc:=[]) (l:=names) ⟨rfl,.inl ⟨rfl,rfl⟩⟩ (HNM.out _ HBD.out) HBD.out.size (by have:=HLN.out; simp only [List.length_nil]; omega) rfl rfl (by rfl) (by rfl) ?_
   intro v1 w1 h1 h2 h3;have HB1:=zH (HBD.out.grown h2 HBD.out.size (fun g hg=>by cases hg))
   have HO1:Hid (w1.ownsRow wz.heap.size 9 1 v1 names.length (fsV names)):=by show w1.ownsRow _ _ 1 v1 _ _; simpa using h1
   clear h1 h2 h3;refine hK.out _ _ ?_ fun hT=>?_
   ·exact HSP.out _ HB1.out
   replace hS:=hT;clear hT hK K;try simp only [Act.put,zs1,zs2,zs3]
   refine zF 6 28 (fun K hK=>?saq24) (fun K hK=>?sbq24)
   case saq24=>
    refine pstep_apS (base:=wz.heap.size) (acc:=names) (l:=ns) HO1.out (HNS.out _ HB1.out) HB1.out.size (by have:=HLN.out; exact this) rfl rfl (by rfl) (by rfl) ?_
    intro v2 w2 h1 h2 h3;have HB2:=zH (HB1.out.grown h2 HB1.out.size (fun g hg=>(World.ownsRow.lt (HO1.out) g hg).1))
    have HO2:Hid (w2.ownsRow wz.heap.size 9 1 v2 (names.length+ns.length) (fsV (names++ns))):=h1
    clear h1 h2 h3;refine hK.out _ _ ?_ fun hT=>?_
    ·exact HSP.out _ HB2.out
    replace hS:=hT;clear hT hK K;try simp only [Act.put,zs1,zs2,zs3]
    refine zT 20 hS ?_;try simp only [Act.put,zs1,zs2,zs3]
    refine wpAnyH_take (i:=21) (oi:=⟨some 30,Op.move (Operand.tmp 3),4,_,_,some (20,false)⟩) (v:=bif iL then undef else .bool lp) rfl (by kernel_rfl) (by kernel_rfl) (by kernel_rfl) (fun _ _ _ h=>h) ?yq26 hS ?rq26
    case yq26=>(cases iL; exact Or.inl ⟨by rfl,fun w hSw=>by go_simp; try with_reducible rfl⟩; exact Or.inr ⟨by rfl,rfl⟩)
    try simp only [Act.put,zs1,zs2,zs3]
    refine wpAnyH_take (i:=22) (oi:=⟨some 31,Op.pick (Operand.tmp 29) (Operand.const (Value.bool true)) (Operand.tmp 30),4,_,_,none⟩) (v:=.bool (iL||lp)) rfl (by kernel_rfl) (by kernel_rfl) (by kernel_rfl) (fun _ _ _ h=>h) (Or.inl ⟨by rfl,?yq27⟩) hS ?rq27
    case yq27=>(intro w hSw; cases iL <;> go_simp <;> try with_reducible rfl)
    try simp only [Act.put,zs1,zs2,zs3]
    obtain ⟨x2,c2,hv2⟩:=own_slice HO2.out
    subst hv2;refine zT 27 hS ?_;try simp only [Act.put,zs1,zs2,zs3]
    refine zR 28 fun K hK=>?_
    go_simp;have HTT:=zH (Blk.new w2 49 #[.slice none 0 0,.int .i64 0,.bool false,.bool false,.bool false,.slice none 0 0,.int .i64 0,.int .i64 0]);have HTB:Hid (wz.heap.size≤w2.heap.size):=HB2.out.size;have HBA:=zH (HB2.out.alloc HTB.out (.cells #[.slice none 0 0,.int .i64 0,.bool false,.bool false,.bool false,.slice none 0 0,.int .i64 0,.int .i64 0] 49))
    have HOA:=zH (own_alloc HO2.out (.cells #[.slice none 0 0,.int .i64 0,.bool false,.bool false,.bool false,.slice none 0 0,.int .i64 0,.int .i64 0] 49))
    clear HO2 HB2;have HO2:=HOA;have HB2:=HBA;clear HOA HBA;generalize w2.alloc (.cells #[.slice none 0 0,.int .i64 0,.bool false,.bool false,.bool false,.slice none 0 0,.int .i64 0,.int .i64 0] 49)=wa at*;generalize w2.heap.size=TT at*;refine hK.out _ _ ?_ fun hT=>?_
    ·exact HSP.out _ HB2.out
    replace hS:=hT;clear hT hK K;try simp only [Act.put,zs1,zs2,zs3]
    refine zR 29 fun K hK=>?_
    refine pstep_store rfl 49 (.tmp 8) (.tmp 36) rfl rfl TT #[.slice x2 _ c2,.int .i64 (sn:Nat),.bool iF,.bool (iL||lp),.bool false,.slice none 0 0,.int .i64 0,.int .i64 (e0:Nat)] (by rfl) (by rfl) 49 _ HTT.out (by rfl) rfl (by simp [Value.oneCell']) ?_
    refine hK.out _ _ ?_ fun hT=>?_
    ·exact HSP.out _ (below_rset HB2.out HTB.out _)
    replace hS:=hT;clear hT hK K;try simp only [Act.put,zs1,zs2,zs3]
    refine wpAnyH_done (by kernel_rfl) ?_ _
    go_wp2_with fail;go_meet
    case rel=>exact ⟨TT,_,rfl,HTB,by rw [HT1.out]; exact inner_row HTT.out HO2.out (by simp) (Nat.le_trans HSZ.out HTB.out),below_rset HB2.out HTB.out _⟩
   case sbq24=>
    go_simp;have HTT:=zH (Blk.new w1 49 #[.slice none 0 0,.int .i64 0,.bool false,.bool false,.bool false,.slice none 0 0,.int .i64 0,.int .i64 0]);have HTB:Hid (wz.heap.size≤w1.heap.size):=HB1.out.size;have HBA:=zH (HB1.out.alloc HTB.out (.cells #[.slice none 0 0,.int .i64 0,.bool false,.bool false,.bool false,.slice none 0 0,.int .i64 0,.int .i64 0] 49))
    have HOA:=zH (own_alloc HO1.out (.cells #[.slice none 0 0,.int .i64 0,.bool false,.bool false,.bool false,.slice none 0 0,.int .i64 0,.int .i64 0] 49))
    clear HO1 HB1;have HO1:=HOA;have HB1:=HBA;clear HOA HBA;generalize w1.alloc (.cells #[.slice none 0 0,.int .i64 0,.bool false,.bool false,.bool false,.slice none 0 0,.int .i64 0,.int .i64 0] 49)=wa at*;generalize w1.heap.size=TT at*;refine hK.out _ _ ?_ fun hT=>?_
    ·exact HSP.out _ HB1.out
    replace hS:=hT;clear hT hK K;try simp only [Act.put,zs1,zs2,zs3]
    refine zR 6 fun K hK=>?_
    refine pstep_apS (base:=wz.heap.size) (acc:=names) (l:=ns) HO1.out (HNS.out _ HB1.out) HB1.out.size (by have:=HLN.out; exact this) rfl rfl (by rfl) (by rfl) ?_
    intro v2 w2 h1 h2 h3;have HB2:=zH (HB1.out.grown h2 HB1.out.size (fun g hg=>(World.ownsRow.lt (HO1.out) g hg).1))
    have HO2:Hid (w2.ownsRow wz.heap.size 9 1 v2 (names.length+ns.length) (fsV (names++ns))):=h1
    have HT2:=zH (blk_gr HTT.out h2 (own_blk_ne' HTT.out HO1.out.2 (by decide)))
    clear HTT;have HTT:=HT2;clear HT2;clear h1 h2 h3;refine hK.out _ _ ?_ fun hT=>?_
    ·exact HSP.out _ HB2.out
    replace hS:=hT;clear hT hK K;try simp only [Act.put,zs1,zs2,zs3]
    refine zT 20 hS ?_;try simp only [Act.put,zs1,zs2,zs3]
    refine wpAnyH_take (i:=21) (oi:=⟨some 30,Op.move (Operand.tmp 3),4,_,_,some (20,false)⟩) (v:=bif iL then undef else .bool lp) rfl (by kernel_rfl) (by kernel_rfl) (by kernel_rfl) (fun _ _ _ h=>h) ?yq33 hS ?rq33
    case yq33=>(cases iL; exact Or.inl ⟨by rfl,fun w hSw=>by go_simp; try with_reducible rfl⟩; exact Or.inr ⟨by rfl,rfl⟩)
    try simp only [Act.put,zs1,zs2,zs3]
    refine wpAnyH_take (i:=22) (oi:=⟨some 31,Op.pick (Operand.tmp 29) (Operand.const (Value.bool true)) (Operand.tmp 30),4,_,_,none⟩) (v:=.bool (iL||lp)) rfl (by kernel_rfl) (by kernel_rfl) (by kernel_rfl) (fun _ _ _ h=>h) (Or.inl ⟨by rfl,?yq34⟩) hS ?rq34
    case yq34=>(intro w hSw; cases iL <;> go_simp <;> try with_reducible rfl)
    try simp only [Act.put,zs1,zs2,zs3]
    obtain ⟨x2,c2,hv2⟩:=own_slice HO2.out
    subst hv2;refine zT 27 hS ?_;try simp only [Act.put,zs1,zs2,zs3]
    refine zR 29 fun K hK=>?_
    refine pstep_store rfl 49 (.tmp 8) (.tmp 36) rfl rfl TT #[.slice x2 _ c2,.int .i64 (sn:Nat),.bool iF,.bool (iL||lp),.bool false,.slice none 0 0,.int .i64 0,.int .i64 (e0:Nat)] (by rfl) (by rfl) 49 _ HTT.out (by rfl) rfl (by simp [Value.oneCell']) ?_
    refine hK.out _ _ ?_ fun hT=>?_
    ·exact HSP.out _ (below_rset HB2.out HTB.out _)
    replace hS:=hT;clear hT hK K;try simp only [Act.put,zs1,zs2,zs3]
    refine wpAnyH_done (by kernel_rfl) ?_ _
    go_wp2_with fail;go_meet
    case rel=>exact ⟨TT,_,rfl,HTB,by rw [HT1.out]; exact inner_row HTT.out HO2.out (by simp) (Nat.le_trans HSZ.out HTB.out),below_rset HB2.out HTB.out _⟩
  case sbq23=>
   go_simp;have HTT:=zH (Blk.new wd 49 #[.slice none 0 0,.int .i64 0,.bool false,.bool false,.bool false,.slice none 0 0,.int .i64 0,.int .i64 0]);have HTB:Hid (wz.heap.size≤wd.heap.size):=HBD.out.size;have HBA:=zH (HBD.out.alloc HTB.out (.cells #[.slice none 0 0,.int .i64 0,.bool false,.bool false,.bool false,.slice none 0 0,.int .i64 0,.int .i64 0] 49));clear HBD;have HBD:=HBA;clear HBA
   generalize wd.alloc (.cells #[.slice none 0 0,.int .i64 0,.bool false,.bool false,.bool false,.slice none 0 0,.int .i64 0,.int .i64 0] 49)=wa at*;generalize wd.heap.size=TT at*;refine hK.out _ _ ?_ fun hT=>?_
   ·exact HSP.out _ HBD.out
   replace hS:=hT;clear hT hK K;try simp only [Act.put,zs1,zs2,zs3]
   refine zR 4 fun K hK=>?_
   refine pstep_apS (base:=wz.heap.size) (acc:=[]) (l:=names) ⟨rfl,.inl ⟨rfl,rfl⟩⟩ (HNM.out _ HBD.out) HBD.out.size (by have:=HLN.out; simp only [List.length_nil]; omega) rfl rfl (by rfl) (by rfl) ?_
   intro v1 w1 h1 h2 h3;have HB1:=zH (HBD.out.grown h2 HBD.out.size (fun g hg=>by cases hg))
   have HO1:Hid (w1.ownsRow wz.heap.size 9 1 v1 names.length (fsV names)):=by show w1.ownsRow _ _ 1 v1 _ _; simpa using h1
   have HT2:=zH (blk_gr HTT.out h2 (by simp [Value.ownBlock]))
   clear HTT;have HTT:=HT2;clear HT2;clear h1 h2 h3;refine hK.out _ _ ?_ fun hT=>?_
   ·exact HSP.out _ HB1.out
   replace hS:=hT;clear hT hK K;try simp only [Act.put,zs1,zs2,zs3]
   refine zR 6 fun K hK=>?_
   refine pstep_apS (base:=wz.heap.size) (acc:=names) (l:=ns) HO1.out (HNS.out _ HB1.out) HB1.out.size (by have:=HLN.out; exact this) rfl rfl (by rfl) (by rfl) ?_
   intro v2 w2 h1 h2 h3;have HB2:=zH (HB1.out.grown h2 HB1.out.size (fun g hg=>(World.ownsRow.lt (HO1.out) g hg).1))
   have HO2:Hid (w2.ownsRow wz.heap.size 9 1 v2 (names.length+ns.length) (fsV (names++ns))):=h1
   have HT2:=zH (blk_gr HTT.out h2 (own_blk_ne' HTT.out HO1.out.2 (by decide)))
   clear HTT;have HTT:=HT2;clear HT2;clear h1 h2 h3;refine hK.out _ _ ?_ fun hT=>?_
   ·exact HSP.out _ HB2.out
   replace hS:=hT;clear hT hK K;try simp only [Act.put,zs1,zs2,zs3]
   refine zT 20 hS ?_;try simp only [Act.put,zs1,zs2,zs3]
   refine wpAnyH_take (i:=21) (oi:=⟨some 30,Op.move (Operand.tmp 3),4,_,_,some (20,false)⟩) (v:=bif iL then undef else .bool lp) rfl (by kernel_rfl) (by kernel_rfl) (by kernel_rfl) (fun _ _ _ h=>h) ?yq40 hS ?rq40
   case yq40=>(cases iL; exact Or.inl ⟨by rfl,fun w hSw=>by go_simp; try with_reducible rfl⟩; exact Or.inr ⟨by rfl,rfl⟩)
   try simp only [Act.put,zs1,zs2,zs3]
   refine wpAnyH_take (i:=22) (oi:=⟨some 31,Op.pick (Operand.tmp 29) (Operand.const (Value.bool true)) (Operand.tmp 30),4,_,_,none⟩) (v:=.bool (iL||lp)) rfl (by kernel_rfl) (by kernel_rfl) (by kernel_rfl) (fun _ _ _ h=>h) (Or.inl ⟨by rfl,?yq41⟩) hS ?rq41
   case yq41=>(intro w hSw; cases iL <;> go_simp <;> try with_reducible rfl)
   try simp only [Act.put,zs1,zs2,zs3]
   obtain ⟨x2,c2,hv2⟩:=own_slice HO2.out
   subst hv2;refine zT 27 hS ?_;try simp only [Act.put,zs1,zs2,zs3]
   refine zR 29 fun K hK=>?_
   refine pstep_store rfl 49 (.tmp 8) (.tmp 36) rfl rfl TT #[.slice x2 _ c2,.int .i64 (sn:Nat),.bool iF,.bool (iL||lp),.bool false,.slice none 0 0,.int .i64 0,.int .i64 (e0:Nat)] (by rfl) (by rfl) 49 _ HTT.out (by rfl) rfl (by simp [Value.oneCell']) ?_
   refine hK.out _ _ ?_ fun hT=>?_
   ·exact HSP.out _ (below_rset HB2.out HTB.out _)
   replace hS:=hT;clear hT hK K;try simp only [Act.put,zs1,zs2,zs3]
   refine wpAnyH_done (by kernel_rfl) ?_ _
   go_wp2_with fail;go_meet
   case rel=>exact ⟨TT,_,rfl,HTB,by rw [HT1.out]; exact inner_row HTT.out HO2.out (by simp) (Nat.le_trans HSZ.out HTB.out),below_rset HB2.out HTB.out _⟩
 case rest=>
  obtain ⟨TT,nvt,rfl,HTB,HRT,HBX⟩:=hcut
  have HKX:Hid (Blk wc A 31 #[.int .i64 kd,.string ⟨tx.toArray⟩,.int .i64 nu,.slice xn nl cn,.slice xk kl ck,.int .i64 ps]):=(HBX.out.block A HKB.out.lt).trans HKB.out
  obtain ⟨y0,y1,y2,y3,y4,y5⟩:=rsix HKX
  have hz:w0.heap.size≤wz.heap.size:=by have h1:=HBB.out; have h2:=HBZ.out.size; have h3:=HAW.out; omega
  have HAL:=zH (HA.out _ _ TT nvt _ HKR.out ((HB0.out.trans (HBZ.out.mono HBB.out)).trans (HBX.out.mono hz)) HRT.out)
  have HWZ:Hid (Below w.heap.size w wz):=by rw [HAW.out]; exact HBZ.out
  clear hz;go_wp2_with fail;refine HAL.out.mono ?_;rintro e w1 ⟨rfl,nvt',fvt',hrt,hct,-⟩;have hb1:Below wz.heap.size wz w1:=HBX.out.trans ⟨hct.os,hct.tape,hct.output,hct.size,fun k hk=>hct.block k (by have:=HBX.out.size; omega) (by have:=HTB.out; omega) (by simp [Value.ownBlock])⟩
  have HR1:=zH (HRZ.out.below hb1)
  have HC1:Hid (Cg S (.slice fx sf fc) w w1):=Cg.of_below (HWZ.out.trans (hb1.mono HWZ.out.size))
  have s7:w1.cell? ⟨S,7,none⟩=some (.int .i64 (s.e:Nat)):=HR1.out.blk.cell 7
  have t6:w1.cell? ⟨TT,6,none⟩=some (.int .i64 t1.pos):=hrt.blk.cell 6
  have t7:w1.cell? ⟨TT,7,none⟩=some (.int .i64 (t1.e:Nat)):=hrt.blk.cell 7
  clear hrt hct hb1 HAL HA HRT HBX HKX HKB HWZ;obtain ⟨es,hes⟩:∃q,s.e=q:=⟨_,rfl⟩;obtain ⟨et,het⟩:∃q,t1.e=q:=⟨_,rfl⟩;have HES:=zH hes;have HET:=zH het;rw [hes] at s7;rw [het] at t7;clear hes het;by_cases hz:es=0
  ·have g1:((es:Int)==0)=true:=by simp [hz]
   by_cases hq:et=0
   ·have g2:((et:Int) != 0)=false:=by simp [hq]
    have HJ:Hid (s.join t1=s):=by show _=_; unfold RS.join; rw [if_neg (by rw [HET.out]; intro h; exact h.2 hq)]
    clear hz hq;go_wp2_with fail;refine bodyPost_end (results_none rfl _ _ _) rfl ?_;exact ⟨rfl,by rw [HJ.out]; exact HR1.out,HC1.out⟩
   ·have g2:((et:Int) != 0)=true:=by simp [hq]
    have HJ:Hid (s.join t1=s.fail t1.pos et):=by show _=_; unfold RS.join; rw [if_pos (by rw [HET.out,HES.out]; exact ⟨hz,hq⟩),HET.out]
    have HF:=zH (rfail_any w1 HR1.out t1.pos et)
    clear hz hq;go_wp2_with fail;refine HF.out.mono ?_;rintro e w2 ⟨rfl,hr2,hc2⟩;have HR2:=zH hr2;have HC2:=zH hc2;clear hr2 hc2 HF;go_wp2_with fail;refine bodyPost_end (results_none rfl _ _ _) rfl ?_;exact ⟨rfl,by rw [HJ.out]; exact HR2.out,HC1.out.trans HC2.out fun g hg=>Or.inl hg⟩
  ·have g1:((es:Int)==0)=false:=by simp [hz]
   have HJ:Hid (s.join t1=s):=by show _=_; unfold RS.join; rw [if_neg (by rw [HES.out]; intro h; exact hz h.1)]
   clear hz;go_wp2_with fail;refine bodyPost_end (results_none rfl _ _ _) rfl ?_;exact ⟨rfl,by rw [HJ.out]; exact HR1.out,HC1.out⟩
end Go.Proofs.YtbaidkefobhipaaGreatDoor
