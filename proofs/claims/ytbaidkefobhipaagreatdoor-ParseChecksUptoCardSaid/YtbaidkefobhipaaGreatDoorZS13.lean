/-
  Walk: the parser's operand, with what it answers at the next level. (Printed by gen_ph.py.)
  The parser's operands and expressions of every level.
  Walks: the parser's begins and assigns.
  Rows of nodes and of names that grow by one, in a region that draws its order.
-/
import Derived.Test.YtbaidkefobhipaaGreatDoorZPg
namespace Go.Proofs.YtbaidkefobhipaaGreatDoor
set_option maxHeartbeats 8000000
set_option maxRecDepth 100000
open Go.RowKit

theorem idxL_stop (ex:Pa Nd) (n:Nat) (x:Nd) (t:Tk) (r:List Tk) (h:isT (bytes [91]) (t::r)=false):idxL ex n x (t::r)=.ok (x,t::r):=by
 cases n with
 | zero=>rfl
 | succ n=>simp only [idxL]; rw [if_neg (by rw [h]; decide)]
theorem idxL_go (ex:Pa Nd) (n:Nat) (x:Nd) (t:Tk) (r:List Tk) (h:isT (bytes [91]) (t::r)=true):idxL ex (n+1) x (t::r)=thenT (ex r) fun y l2=>thenT (expT (bytes [93]) l2) fun _ l3=>idxL ex n (hdT 8 [] 0 t.at_,x.one.app y.one) l3:=by
 simp only [idxL];rw [if_pos h]

theorem opd_zero:OpOk 120 [.int .i64 65] (opdP 0):=by
 intro P l w hp;obtain ⟨t,r,rfl⟩:=hp.ends.cons;have HB:=zH (But.of_below (P:=P) ((Below.refl w.heap.size w).alloc (Nat.le_refl _) (.cells zSyn 31)));have HF:=zH (fail_any 12 t r P _ (hp.below ((Below.refl w.heap.size w).alloc (Nat.le_refl _) (.cells zSyn 31))));unfold zSyn at HB HF;show Calls _ _ #[_,_] _ _
 go_enter Tryz.func120,Tryz.ntmps120
 go_wp2_with fail;refine HF.out.mono ?_;rintro e w2 ⟨rfl,hb⟩;have HB2:=zH (HB.out.trans hb);clear hb HF;go_wp2_with fail;exact ⟨rfl,PaR.bad rfl HB2.out⟩

theorem opd_succ (L d:Nat) (hL:L≤64) (hop:OpOk 120 [.int .i64 ((L:Int)+1)] (opdP d)) (hex:OpOk 56 [.int .i64 ((L:Int)+1)] (binP (opdP d) 5)) (hsh:Shr (binP (opdP d) 5)):
  OpOk 120 [.int .i64 (L:Nat)] (opdP (d+1)):=by
 intro P l w hp;obtain ⟨t,r,rfl⟩:=hp.ends.cons;have HKA0:=zH (Blk.new w 31 zSyn);have HBA:=zH ((Below.refl w.heap.size w).alloc (Nat.le_refl _) (.cells zSyn 31));have HOP:=zH hop;have HEX:=zH hex;have HSH:=zH hsh;have HPR:=zH (pri_any L hL _ hex hsh);have HP:=zH hp;have hlt:=zH hp.lt;clear hp hop hex hsh;obtain ⟨R,hR⟩:∃R,opdP (d+1) (t::r)=R:=⟨_,rfl⟩;rw [hR]
 have HR:Hid (R=if isT (bytes [45]) (t::r)||isT (bytes [33]) (t::r) then thenT (opdP d r) fun x l2=>.ok ((hdT 5 t.text 0 t.at_,x.one),l2)
   else thenT (priP (binP (opdP d) 5) (t::r)) fun x l2=>idxL (binP (opdP d) 5) l2.length x l2):=by show _=_; rw [← hR]; rfl
 obtain ⟨ex,hxe⟩:∃ex,binP (opdP d) 5=ex:=⟨_,rfl⟩
 obtain ⟨op,hoe⟩:∃op,opdP d=op:=⟨_,rfl⟩
 rw [hxe] at HEX HSH HPR HR;rw [hoe] at HOP HR;clear hR hxe hoe;unfold zSyn at HKA0 HBA;have eL:decide ((64:Int) < (L:Int))=false:=by simp; omega
 have hwL:IntKind.i64.wrap ((L:Int)+1)=(L:Int)+1:=IntWalk.i64_in _ (by omega)
 show Calls _ _ #[_,_] _ _
 go_enter Tryz.func120,Tryz.ntmps120
 go_upto_region 1 with fail
 generalize w.alloc (.cells #[.int .i64 0,.string ⟨#[]⟩,.int .i64 0,.slice none 0 0,.slice none 0 0,.int .i64 0] 31)=wa at*;generalize hA:w.heap.size=A at*;have HA:=zH hA;clear hA;have HB:Hid (But P w wa):=But.of_below (by rw [HA.out]; exact HBA.out)
 have HPA:Hid (PsW wa P (t::r)):=HP.out.below (by rw [HA.out]; exact HBA.out)
 have hbb:=(Below.refl wa.heap.size wa).alloc (Nat.le_refl _) (.cells #[.string ⟨#[45]⟩,.string ⟨#[33]⟩] 9)
 have HBB:=zH hbb
 have HIS:Hid (Calls Tryz.prog 52 #[.pointer (some ⟨P,0,none⟩),.slice (some ⟨wa.heap.size,0,none⟩) 2 2] (wa.alloc (.cells #[.string ⟨#[45]⟩,.string ⟨#[33]⟩] 9)) fun e w'=>e=.returned (.bool (isTs [bytes [45],bytes [33]] (t::r)))∧Below (wa.alloc (.cells #[.string ⟨#[45]⟩,.string ⟨#[33]⟩] 9)).heap.size (wa.alloc (.cells #[.string ⟨#[45]⟩,.string ⟨#[33]⟩] 9)) w'):=is_any [bytes [45],bytes [33]] _ t r P _ (HPA.out.below hbb) (nmrow_blk (l:=[bytes [45],bytes [33]]) (Blk.new wa 9 #[.string ⟨#[45]⟩,.string ⟨#[33]⟩]) (by simp))
 have hq0:isTs [bytes [45],bytes [33]] (t::r)=(isT (bytes [45]) (t::r)||isT (bytes [33]) (t::r)):=by simp [isTs]
 have HKI:Hid (isTs [bytes [45],bytes [33]] (t::r)=true→t.kind≠0):=by
  intro h;rw [hq0,Bool.or_eq_true] at h;rcases h with h | h
  ·exact isT_kind h
  ·exact isT_kind h
 rw [hq0] at HIS HKI;obtain ⟨q,hq⟩:∃q,(isT (bytes [45]) (t::r)||isT (bytes [33]) (t::r))=q:=⟨_,rfl⟩
 rw [hq] at HIS HR HKI;clear hbb hq hq0;go_wp2_with fail;generalize wa.alloc (.cells #[.string ⟨#[45]⟩,.string ⟨#[33]⟩] 9)=wb at*;refine HIS.out.mono ?_;rintro e w2 ⟨rfl,hb2⟩;have hb:=HBB.out.trans (hb2.mono HBB.out.size);have HP2:=zH (HPA.out.below hb);have HB2:=zH (HB.out.step hb)
 have HKA2:Hid (Blk w2 A 31 #[.int .i64 0,.string ⟨#[]⟩,.int .i64 0,.slice none 0 0,.slice none 0 0,.int .i64 0]):=(hb.block A HKA0.out.lt).trans HKA0.out
 have HSA:Hid (A < w2.heap.size):=HKA2.out.lt
 clear hb hb2 HBB HIS HPA HB HBA HKA0
 cases q with
 | true=>
  have HRT:Hid (R=thenT (op r) fun x l2=>.ok ((hdT 5 t.text 0 t.at_,x.one),l2)):=by show _=_; rw [HR.out]; rfl
  have HTK:=zH (take_any t r P w2 HP2.out (HKI.out rfl))
  unfold tkV at HTK;clear HR;go_wp2_with fail;refine HTK.out.mono ?_;rintro e w3 ⟨rfl,hp,hb⟩;have HP3:=zH hp;have HB3:=zH (HB2.out.trans hb);have HKA3:Hid (Blk w3 A 31 #[.int .i64 0,.string ⟨#[]⟩,.int .i64 0,.slice none 0 0,.slice none 0 0,.int .i64 0]):=hb.blk HKA2.out (HP2.out.apart HKA2.out (by decide))
  clear hp hb HTK HP2 HB2 HKA2;go_upto_region 5 with fail
  have HKT:=zH (Blk.new w3 73 #[.int .i64 t.kind,.string ⟨t.text.toArray⟩,.int .i64 t.at_])
  have HP4:Hid (PsW (w3.alloc (.cells #[.int .i64 t.kind,.string ⟨t.text.toArray⟩,.int .i64 t.at_] 73)) P r):=HP3.out.below ((Below.refl w3.heap.size w3).alloc (Nat.le_refl _) _)
  have HB4:=zH (HB3.out.alloc (.cells #[.int .i64 t.kind,.string ⟨t.text.toArray⟩,.int .i64 t.at_] 73))
  have HKA4:=zH (HKA3.out.alloc (.cells #[.int .i64 t.kind,.string ⟨t.text.toArray⟩,.int .i64 t.at_] 73))
  have HAK:=zH HKA3.out.lt
  generalize w3.alloc (.cells #[.int .i64 t.kind,.string ⟨t.text.toArray⟩,.int .i64 t.at_] 73)=w4 at*;generalize w3.heap.size=KT at*;clear HP3 HB3 HKA3;have c1:w4.cell? ⟨KT,1,none⟩=some (.string ⟨t.text.toArray⟩):=HKT.out.cell 1;have c2:w4.cell? ⟨KT,2,none⟩=some (.int .i64 t.at_):=HKT.out.cell 2
  have hS0:w4.drew.cell? ⟨KT,1,none⟩=some (.string ⟨t.text.toArray⟩)∧w4.drew.cell? ⟨KT,2,none⟩=some (.int .i64 t.at_):=⟨c1,c2⟩
  have HC:=zH (HOP.out P r w4.drew HP4.out.drew)
  have HPD:Hid (PsW w4.drew P r):=HP4.out.drew
  refine wp_region_held_drew (S:=fun _=>True) (by kernel_rfl) trivial (fun hHeld=>?_)
  clear hHeld;refine wpAnyH_weaken (S2:=fun W=>W.cell? ⟨KT,1,none⟩=some (.string ⟨t.text.toArray⟩)∧W.cell? ⟨KT,2,none⟩=some (.int .i64 t.at_)) (fun _ _=>trivial) ?_
  have hS:=hS0
  refine zT 0 hS ?_;try simp only [Act.put,zs1,zs2,zs3]
  refine zT 1 hS ?_;try simp only [Act.put,zs1,zs2,zs3]
  refine zT 2 hS ?_;try simp only [Act.put,zs1,zs2,zs3]
  refine zT 3 hS ?_;try simp only [Act.put,zs1,zs2,zs3]
  refine zT 4 hS ?_;try simp only [Act.put,zs1,zs2,zs3]
  refine zT 7 hS ?_;try simp only [Act.put,zs1,zs2,zs3]
  refine zT 8 hS ?_;try simp only [Act.put,zs1,zs2,zs3]
  refine zR 5 fun K hK=>?_
  go_simp;refine HC.out.mono ?_;intro e w8 h;obtain ⟨hb8,h⟩:=h;have HB8:Hid (But P w w8):=HB4.out.drew.trans hb8;rcases hRR:op r with y | ⟨x,l4⟩
  ·rw [hRR] at h
   obtain rfl:=h
   have HRE:Hid (R=.error y):=by show _=_; rw [HRT.out,hRR]; rfl
   clear hRR hb8 HC HRT;go_wp2_with fail;exact ⟨rfl,PaR.bad HRE.out HB8.out⟩
  rw [hRR] at h;obtain ⟨⟨T,rfl,hT⟩,hp8⟩:=h;have HRE:Hid (R=.ok ((hdT 5 t.text 0 t.at_,x.one),l4)):=by show _=_; rw [HRT.out,hRR]; rfl
  have HT:=zH hT
  have HP8:=zH hp8
  have HKT8:Hid (Blk w8 KT 73 #[.int .i64 t.kind,.string ⟨t.text.toArray⟩,.int .i64 t.at_]):=hb8.blk HKT.out.drew (HPD.out.apart HKT.out.drew (by decide))
  have HKA8:Hid (Blk w8 A 31 #[.int .i64 0,.string ⟨#[]⟩,.int .i64 0,.slice none 0 0,.slice none 0 0,.int .i64 0]):=hb8.blk HKA4.out.drew (HPD.out.apart HKA4.out.drew (by decide))
  clear hRR hb8 HC HRT hT hp8;refine hK.out _ _ ?_ fun hT=>?_
  ·exact ⟨HKT8.out.cell 1,HKT8.out.cell 2⟩
  replace hS:=hT;clear hT hK K;try simp only [Act.put,zs1,zs2,zs3]
  refine zR 6 fun K hK=>?_
  refine pstep_oneN el_syn rfl rfl HT.out.size (by rfl) ?_
  refine hK.out _ _ ?_ fun hT=>?_
  ·exact ⟨(HKT8.out.alloc _).cell 1,(HKT8.out.alloc _).cell 2⟩
  replace hS:=hT;clear hT hK K;try simp only [Act.put,zs1,zs2,zs3]
  refine zT 9 hS ?_;try simp only [Act.put,zs1,zs2,zs3]
  refine zR 10 fun K hK=>?_
  refine pstep_store rfl 31 (.tmp 4) (.tmp 27) rfl rfl A #[.int .i64 5,.string ⟨t.text.toArray⟩,.int .i64 0,.slice none 0 0,.slice (some ⟨w8.heap.size,0,none⟩) 1 1,.int .i64 t.at_] (by rfl) (by rfl) 31 _ (HKA8.out.alloc _) syn_info rfl (by simp [Value.oneCell']) ?_
  refine hK.out _ _ ?_ fun hT=>?_
  ·exact ⟨((HKT8.out.alloc _).rset_ne _ (Nat.ne_of_gt HAK.out)).cell 1,((HKT8.out.alloc _).rset_ne _ (Nat.ne_of_gt HAK.out)).cell 2⟩
  replace hS:=hT;clear hT hK K;try simp only [Act.put,zs1,zs2,zs3]
  refine wpAnyH_done (by kernel_rfl) ?_ _
  go_wp2_with fail;have hA8:A < w8.heap.size:=HKA8.out.lt;refine bodyPost_ret (results_cell_row rfl _ _ A 31 _ (0,0) _ rfl ((HKA8.out.alloc (.cells T 31)).rset #[.int .i64 5,.string ⟨t.text.toArray⟩,.int .i64 0,.slice none 0 0,.slice (some ⟨w8.heap.size,0,none⟩) 1 1,.int .i64 t.at_]) Tryz.underlying31 rfl syn_info) rfl (PaR.good HRE.out ?_ ⟨_,rfl,?_⟩ ?_)
  ·exact (HB8.out.alloc _).rset_new (Nat.le_of_eq HA.out) _
  ·have h1:KT < w4.heap.size:=HKT.out.lt
   have h2:=HAK.out; have h3:=HA.out
   have h4:w4.drew.heap.size=w4.heap.size:=rfl
   refine ndv_mk (hdT 5 t.text 0 t.at_) x.one rfl rfl (nmrow_nil _) (frow_blk (F:=x.one) ((Blk.new w8 31 T).rset_ne _ (Nat.ne_of_gt hA8)) (by simp only [frS,decide_eq_true_eq]; omega) (FCl.one (HT.out.sub (MSub.csub fun k hk hS=>?_))) (by show 1≤100; decide))
   simp only [frS,decide_eq_true_eq] at hS ⊢;refine ⟨by omega,?_⟩
   rw [heap_rset_ne _ _ _ _ (by omega)]
   exact Below.heap_alloc _ _ _ hk
  ·exact (HP8.out.below ((Below.refl w8.heap.size w8).alloc (Nat.le_refl _) _)).rset hlt.out _
 | false=>
  have HRT:Hid (R=thenT (priP ex (t::r)) fun x l2=>idxL ex l2.length x l2):=by show _=_; rw [HR.out]; rfl
  have HC:=zH (HPR.out P (t::r) w2 HP2.out)
  clear HR;go_wp2_with fail;refine HC.out.mono ?_;intro e w1 h;obtain ⟨hb,h⟩:=h;have HB1:=zH (HB2.out.trans hb);rcases hRR:priP ex (t::r) with y | ⟨x,l2⟩
  ·rw [hRR] at h
   obtain rfl:=h
   have HRE:Hid (R=.error y):=by show _=_; rw [HRT.out,hRR]; rfl
   clear hRR hb HC HRT;go_wp2_with fail;exact ⟨rfl,PaR.bad HRE.out HB1.out⟩
  rw [hRR] at h;obtain ⟨⟨T,rfl,hT⟩,hp2⟩:=h;have HRR:Hid (idxL ex l2.length x l2=R):=by show _=_; rw [HRT.out,hRR]; rfl
  have HT:=zH hT
  have HPQ:=zH hp2
  have HK1:=zH (hb.blk HKA2.out (HP2.out.apart HKA2.out (by decide)))
  have HSZ:Hid (A < w2.heap.size):=HKA2.out.lt
  clear hRR hb HC hT hp2 HRT HP2 HB2 HKA2;go_upto_region 7 with ((with_reducible show wpList _ _ _ (⟨_,Op.store _ _ _,_,_,_,_⟩::_) _ _); refine wpList_store_rowTo rfl 31 (.tmp 6) (.tmp 30) rfl rfl _ T (by rfl) (by rfl) 31 _ (by exact Blk.new _ _ _) (by exact HT.out.inf) (by exact HT.out.size.symm) (by exact HT.out.one) ?_)
  have HKX:=zH ((Blk.new w1 31 #[.int .i64 0,.string ⟨#[]⟩,.int .i64 0,.slice none 0 0,.slice none 0 0,.int .i64 0]).rset T)
  have HKA3:Hid (Blk ((w1.alloc (.cells #[.int .i64 0,.string ⟨#[]⟩,.int .i64 0,.slice none 0 0,.slice none 0 0,.int .i64 0] 31)).setRow w1.heap.size T) A 31 #[.int .i64 0,.string ⟨#[]⟩,.int .i64 0,.slice none 0 0,.slice none 0 0,.int .i64 0]):=(HK1.out.alloc _).rset_ne T (Nat.ne_of_lt HK1.out.lt)
  have hpx:P < w1.heap.size:=HPQ.out.lt
  have HP3:Hid (PsW ((w1.alloc (.cells #[.int .i64 0,.string ⟨#[]⟩,.int .i64 0,.slice none 0 0,.slice none 0 0,.int .i64 0] 31)).setRow w1.heap.size T) P l2):=(HPQ.out.below ((Below.refl w1.heap.size w1).alloc (Nat.le_refl _) _)).rset hpx T
  have HB3:=zH ((HB1.out.alloc (.cells #[.int .i64 0,.string ⟨#[]⟩,.int .i64 0,.slice none 0 0,.slice none 0 0,.int .i64 0] 31)).rset_new HB1.out.size T)
  have hax:A < w1.heap.size:=HK1.out.lt
  have HT3:Hid (NdV (maskW (fun k=>decide (A < k)&&decide (k≠w1.heap.size)) ((w1.alloc (.cells #[.int .i64 0,.string ⟨#[]⟩,.int .i64 0,.slice none 0 0,.slice none 0 0,.int .i64 0] 31)).setRow w1.heap.size T)) T x):=by
   refine HT.out.sub (MSub.csub fun k hk hS=>?_)
   have h1:=HSZ.out
   simp only [frS,decide_eq_true_eq] at hS;refine ⟨by simp; omega,?_⟩
   rw [heap_rset_ne _ _ _ _ (by omega)]
   exact Below.heap_alloc _ _ _ hk
  have HPX:=zH hpx
  have HAX:=zH hax
  clear hpx hax HT HPQ HK1 HB1;generalize (w1.alloc (.cells #[.int .i64 0,.string ⟨#[]⟩,.int .i64 0,.slice none 0 0,.slice none 0 0,.int .i64 0] 31)).setRow w1.heap.size T=w3 at*;generalize w1.heap.size=X at*;go_loopw [31] (fun _ wr=>∃(l2:List Tk) (x:Nd) (T:Array Value) (n:Nat),Hid (PsW wr P l2)∧Hid (Blk wr X 31 T)∧Hid (NdV (maskW (fun k=>decide (A < k)&&decide (k≠X)) wr) T x)∧
   Hid (Blk wr A 31 #[.int .i64 0,.string ⟨#[]⟩,.int .i64 0,.slice none 0 0,.slice none 0 0,.int .i64 0])∧Hid (But P w wr)∧Hid (idxL ex n x l2=R)∧Hid (l2.length≤n)) (fun _ wr=>lenOf P wr)
  case atStart=>exact ⟨l2,x,T,l2.length,HP3.out,HKX.out,HT3.out,HKA3.out,HB3.out,HRR.out,Nat.le_refl _⟩
  case round=>
   clear HP3 HKX HT3 HKA3 HB3 HRR;obtain ⟨l3,x3,T3,n,hp,hkx,ht,hka,hb,hr,hln⟩:=hrel;obtain ⟨t,r,rfl⟩:=hp.out.ends.cons;have hbb:=(Below.refl wr.heap.size wr).alloc (Nat.le_refl _) (.cells #[.string ⟨#[91]⟩] 9);have HBB:=zH hbb
   have HIS:Hid (Calls Tryz.prog 52 #[.pointer (some ⟨P,0,none⟩),.slice (some ⟨wr.heap.size,0,none⟩) 1 1] (wr.alloc (.cells #[.string ⟨#[91]⟩] 9)) fun e w'=>e=.returned (.bool (isT (bytes [91]) (t::r)))∧Below (wr.alloc (.cells #[.string ⟨#[91]⟩] 9)).heap.size (wr.alloc (.cells #[.string ⟨#[91]⟩] 9)) w'):=is_one (bytes [91]) _ t r P _ (hp.out.below hbb) (Blk.new wr 9 #[.string ⟨#[91]⟩])
   obtain ⟨q,hq⟩:∃q,isT (bytes [91]) (t::r)=q:=⟨_,rfl⟩
   rw [hq] at HIS;have HQ:=zH hq;clear hbb hq;go_wp2_with fail;generalize wr.alloc (.cells #[.string ⟨#[91]⟩] 9)=wb at*;refine HIS.out.mono ?_;rintro e w5 ⟨rfl,hb5⟩;have HB5:=zH (HBB.out.trans (hb5.mono HBB.out.size));have HBW:Hid (But P wr w5):=But.of_below HB5.out;have HPW:=zH (hp.out.below HB5.out);clear hb5 HBB HIS HB5
   cases q with
   | false=>
    have HRE:Hid (R=.ok (x3,t::r)):=by show _=_; rw [← hr.out]; exact idxL_stop ex n x3 t r HQ.out
    have HKX:Hid (Blk w5 X 31 T3):=HBW.out.blk hkx.out (hp.out.apart hkx.out (by decide))
    have HKA:Hid (Blk w5 A 31 #[.int .i64 0,.string ⟨#[]⟩,.int .i64 0,.slice none 0 0,.slice none 0 0,.int .i64 0]):=HBW.out.blk hka.out (hp.out.apart hka.out (by decide))
    have HB:=zH (hb.out.trans HBW.out)
    have HT:Hid (NdV (maskW (fun k=>decide (A < k)&&decide (k≠X)) w5) T3 x3):=ht.out.sub (MSub.csub fun k hk hS=>⟨hS,HBW.out.block k hk (by have:=hlt.out; simp at hS; omega)⟩)
    go_wp2_with (first | ((with_reducible show wpList _ _ _ (⟨_,Op.load _ _,_,_,_,_⟩::_) _ _); refine wpList_load_row rfl 31 (.tmp 6) rfl X (by rfl) 31 T3 (0,0) _ (by exact HKX.out) Tryz.underlying31 rfl (by exact HT.out.inf) ?_) | ((with_reducible show wpList _ _ _ (⟨_,Op.store _ _ _,_,_,_,_⟩::_) _ _); refine wpList_store_rowTo rfl 31 (.tmp 4) (.tmp 48) rfl rfl A T3 (by rfl) (by rfl) 31 _ (by exact HKA.out) (by exact HT.out.inf) (by exact HT.out.size.symm) (by exact HT.out.one) ?_))
    refine bodyPost_ret (results_cell_row rfl _ _ A 31 _ (0,0) _ rfl (HKA.out.rset T3) Tryz.underlying31 rfl HT.out.inf) rfl (PaR.good HRE.out ?_ ⟨T3,rfl,?_⟩ ?_)
    ·exact HB.out.rset_new (Nat.le_of_eq HA.out) T3
    ·refine HT.out.sub (MSub.csub fun k hk hS=>?_)
     have h2:=HA.out
     simp only [Bool.and_eq_true,decide_eq_true_eq] at hS;exact ⟨by simp only [frS,decide_eq_true_eq]; omega,heap_rset_ne w5 A k T3 (by omega)⟩
    ·exact HPW.out.rset hlt.out T3
   | true=>
    obtain ⟨m,hm⟩:∃m,n=m+1:=⟨n - 1,by have:=hln.out; simp at this; omega⟩
    have HGO:Hid (R=thenT (ex r) fun y l2=>thenT (expT (bytes [93]) l2) fun _ l3=>idxL ex m (hdT 8 [] 0 t.at_,x3.one.app y.one) l3):=by
     show _=_
     rw [← hr.out,hm,idxL_go ex m x3 t r HQ.out]
    have HLM:Hid (r.length≤m):=by have:=hln.out; simp at this; show _≤_; omega
    have HTK:=zH (take_any t r P w5 HPW.out (isT_kind HQ.out))
    have hf2:=tk_f2 t.kind t.at_ ⟨t.text.toArray⟩
    unfold tkV at HTK;clear hm hr hln;go_wp2_with fail;refine HTK.out.mono ?_;rintro e w7 ⟨rfl,hp7,hb7⟩;have HBW7:=zH (HBW.out.trans hb7);have HP7:=zH hp7;have HC:=zH (HEX.out P r w7 hp7);clear hp7 hb7 HTK HBW HPW;go_wp2_with fail;refine HC.out.mono ?_;intro e w9 h;obtain ⟨hb9,h⟩:=h;have HBW9:=zH (HBW7.out.trans hb9);rcases hRR:ex r with y | ⟨y,l4⟩
    ·rw [hRR] at h
     obtain rfl:=h
     have HRE:Hid (R=.error y):=by show _=_; rw [HGO.out,hRR]; rfl
     have HBE:=zH (hb.out.trans HBW9.out)
     clear hRR hb9 HC HGO;go_wp2_with fail;exact ⟨rfl,PaR.bad HRE.out HBE.out⟩
    rw [hRR] at h;obtain ⟨⟨U,rfl,hU⟩,hp9⟩:=h;have HG2:Hid (R=thenT (expT (bytes [93]) l4) fun _ l3=>idxL ex m (hdT 8 [] 0 t.at_,x3.one.app y.one) l3):=by show _=_; rw [HGO.out,hRR]; rfl
    have HU:=zH hU
    have HP9:=zH hp9
    have HX7:Hid (X < w7.heap.size):=Nat.lt_of_lt_of_le hkx.out.lt HBW7.out.size
    have HL9:Hid (l4.length < r.length):=HSH.out r y l4 hRR
    have HX9:Hid (w7.heap.size≤w9.heap.size):=hb9.size
    clear hRR hb9 HC hU hp9 HGO HP7 HBW7;go_upto_region 10 with ((with_reducible show wpList _ _ _ (⟨_,Op.store _ _ _,_,_,_,_⟩::_) _ _); refine wpList_store_rowTo rfl 31 (.tmp 8) (.tmp 40) rfl rfl _ U (by rfl) (by rfl) 31 _ (by exact Blk.new _ _ _) (by exact HU.out.inf) (by exact HU.out.size.symm) (by exact HU.out.one) ?_)
    have hbz:But P wr ((w9.alloc (.cells #[.int .i64 0,.string ⟨#[]⟩,.int .i64 0,.slice none 0 0,.slice none 0 0,.int .i64 0] 31)).setRow w9.heap.size U):=(HBW9.out.alloc _).rset_new HBW9.out.size U
    have HBZ:=zH hbz
    have HKX:Hid (Blk ((w9.alloc (.cells #[.int .i64 0,.string ⟨#[]⟩,.int .i64 0,.slice none 0 0,.slice none 0 0,.int .i64 0] 31)).setRow w9.heap.size U) X 31 T3):=hbz.blk hkx.out (hp.out.apart hkx.out (by decide))
    have HKU:=zH ((Blk.new w9 31 #[.int .i64 0,.string ⟨#[]⟩,.int .i64 0,.slice none 0 0,.slice none 0 0,.int .i64 0]).rset U)
    have HPZ:Hid (PsW ((w9.alloc (.cells #[.int .i64 0,.string ⟨#[]⟩,.int .i64 0,.slice none 0 0,.slice none 0 0,.int .i64 0] 31)).setRow w9.heap.size U) P l4):=(HP9.out.below ((Below.refl w9.heap.size w9).alloc (Nat.le_refl _) _)).rset HP9.out.lt U
    have HUZ:Hid (NdV (maskW (fun k=>decide (A < k)&&(decide (k≠X)&&decide (k≠w9.heap.size))) ((w9.alloc (.cells #[.int .i64 0,.string ⟨#[]⟩,.int .i64 0,.slice none 0 0,.slice none 0 0,.int .i64 0] 31)).setRow w9.heap.size U)) U y):=by
     refine HU.out.sub (MSub.csub fun k hk hS=>?_)
     have h1:=HX7.out; have h3:=HAX.out
     simp only [frS,decide_eq_true_eq] at hS;refine ⟨by simp; omega,?_⟩
     rw [heap_rset_ne _ _ _ _ (by omega)]
     exact Below.heap_alloc _ _ _ hk
    have HTZ0:Hid (NdV (maskW (fun k=>decide (A < k)&&decide (k≠X)) ((w9.alloc (.cells #[.int .i64 0,.string ⟨#[]⟩,.int .i64 0,.slice none 0 0,.slice none 0 0,.int .i64 0] 31)).setRow w9.heap.size U)) T3 x3):=ht.out.sub (MSub.csub fun k hk hS=>⟨hS,hbz.block k hk (by have:=hlt.out; simp at hS; omega)⟩)
    clear hbz HU HP9 HBW9;generalize (w9.alloc (.cells #[.int .i64 0,.string ⟨#[]⟩,.int .i64 0,.slice none 0 0,.slice none 0 0,.int .i64 0] 31)).setRow w9.heap.size U=wy at*;generalize w9.heap.size=K9 at*;obtain ⟨u3,r3,rfl⟩:=HPZ.out.ends.cons;have HEE:=zH (expect_any (bytes [93]) u3 r3 P wy HPZ.out);rcases hq2:expT (bytes [93]) (u3::r3) with y2 | ⟨v,l5⟩
    ·have HRE:Hid (R=.error y2):=by show _=_; rw [HG2.out,hq2]; rfl
     rw [hq2] at HEE;clear hq2 HG2;go_wp2_with fail;refine HEE.out.mono ?_;rintro e w11 ⟨hb11,rfl⟩;have HB11:=zH ((hb.out.trans HBZ.out).trans hb11);clear hb11 HEE;go_wp2_with fail;exact ⟨rfl,PaR.bad HRE.out HB11.out⟩
    have HG3:Hid (idxL ex m (hdT 8 [] 0 t.at_,x3.one.app y.one) l5=R):=by show _=_; rw [HG2.out,hq2]; rfl
    have HL5:Hid (l5.length < (u3::r3).length):=expT_shr _ _ _ _ hq2
    rw [hq2] at HEE;clear hq2 HG2;go_wp2_with fail;refine HEE.out.mono ?_;rintro e wz ⟨hb11,he11,hp11⟩;unfold TkR at he11;subst he11;have HPY:=zH hp11;have HBY:=zH (HBZ.out.trans hb11);have HKXY:Hid (Blk wz X 31 T3):=hb11.blk HKX.out (HPZ.out.apart HKX.out (by decide))
    have HKUY:Hid (Blk wz K9 31 U):=hb11.blk HKU.out (HPZ.out.apart HKU.out (by decide))
    have HTZ:Hid (NdV (maskW (fun k=>decide (A < k)&&decide (k≠X)) wz) T3 x3):=HTZ0.out.sub (MSub.csub fun k hk hS=>⟨hS,hb11.block k hk (by have:=hlt.out; simp at hS; omega)⟩)
    have HUY:Hid (NdV (maskW (fun k=>decide (A < k)&&decide (k≠X)) wz) U y):=HUZ.out.sub (MSub.csub fun k hk hS=>⟨by simp at hS ⊢; omega,hb11.block k hk (by have:=hlt.out; simp at hS; omega)⟩)
    clear hp11 hb11 HEE HKX HKU HPZ HUZ HTZ0 HBZ
    go_upto_region 7 with (first | ((with_reducible show wpList _ _ _ (⟨_,Op.load _ _,_,_,_,_⟩::_) _ _); refine wpList_load_row rfl 31 (.tmp 6) rfl X (by rfl) 31 T3 (0,0) _ (by exact HKXY.out) Tryz.underlying31 rfl (by exact HTZ.out.inf) ?_) | ((with_reducible show wpList _ _ _ (⟨_,Op.load _ _,_,_,_,_⟩::_) _ _); refine wpList_load_row rfl 31 (.tmp 8) rfl K9 (by rfl) 31 U (0,0) _ (by exact HKUY.out) Tryz.underlying31 rfl (by exact HUY.out.inf) ?_) | ((with_reducible show wpList _ _ _ (⟨_,Op.buildSlice _ _ _,_,_,_,_⟩::_) _ _); refine wpList_two el_syn rfl rfl (T:=T3) (U:=U) (by exact HTZ.out.size) (by exact HUY.out.size) (by rfl) (by rfl) ?_) | ((with_reducible show wpList _ _ _ (⟨_,Op.store _ _ _,_,_,_,_⟩::_) _ _); refine wpList_store_rowTo rfl 31 (.tmp 6) (.tmp 47) rfl rfl X #[.int .i64 8,.string ⟨#[]⟩,.int .i64 0,.slice none 0 0,.slice (some ⟨wz.heap.size,0,none⟩) 2 2,.int .i64 t.at_] (by rfl) (by rfl) 31 _ (by exact HKXY.out.alloc _) (by exact syn_info) (by exact HTZ.out.size) (by simp [Value.oneCell']) ?_))
    have HKN:=zH ((Blk.new wz 31 (T3++U)).rset_ne #[.int .i64 8,.string ⟨#[]⟩,.int .i64 0,.slice none 0 0,.slice (some ⟨wz.heap.size,0,none⟩) 2 2,.int .i64 t.at_] (Nat.ne_of_gt HKXY.out.lt))
    have HBN:=zH ((HBY.out.alloc (.cells (T3++U) 31)))
    have HXL:Hid (X < wz.heap.size):=HKXY.out.lt
    have HPN:Hid (PsW ((wz.alloc (.cells (T3++U) 31)).setRow X #[.int .i64 8,.string ⟨#[]⟩,.int .i64 0,.slice none 0 0,.slice (some ⟨wz.heap.size,0,none⟩) 2 2,.int .i64 t.at_]) P l5):=(HPY.out.below ((Below.refl wz.heap.size wz).alloc (Nat.le_refl _) _)).rset HPX.out _
    have hm:CSub (maskW (fun k=>decide (A < k)&&decide (k≠X)) wz) (maskW (fun k=>decide (A < k)&&decide (k≠X)) ((wz.alloc (.cells (T3++U) 31)).setRow X #[.int .i64 8,.string ⟨#[]⟩,.int .i64 0,.slice none 0 0,.slice (some ⟨wz.heap.size,0,none⟩) 2 2,.int .i64 t.at_])):=by
     refine MSub.csub fun k hk hS=>⟨hS,?_⟩
     rw [heap_rset_ne _ _ _ _ (by simp at hS; omega)]
     exact Below.heap_alloc _ _ _ hk
    have h1:=HAX.out; have h2:=HXL.out
    refine ⟨⟨l5,(hdT 8 [] 0 t.at_,x3.one.app y.one),_,m,HPN.out,(HKXY.out.alloc _).rset _,?_,?_,?_,HG3.out,?_⟩,?_⟩
    ·refine ndv_mk (hdT 8 [] 0 t.at_) (x3.one.app y.one) rfl rfl (nmrow_nil _) ?_
     exact frow_blk (F:=x3.one.app y.one) HKN.out (by simp; omega) (FCl.two (HTZ.out.sub hm) (HUY.out.sub hm)) (by show 2≤100; decide)
    ·exact (HBN.out.blk hka.out (hp.out.apart hka.out (by decide))).rset_ne _ (Nat.ne_of_lt HAX.out)
    ·exact (hb.out.trans HBN.out).rset_new (by rw [HA.out]; exact Nat.le_of_lt HAX.out) _
    ·have h3:=HL9.out; have h4:=HL5.out; have h5:=HLM.out; show _≤_; omega
    ·rw [HPN.out.len,hp.out.len]
     have h3:=HL9.out; have h4:=HL5.out
     simp only [List.length_cons] at h3 h4 ⊢;omega
open Go.RowKit

def Nsh {α:Type} (op:Pa α):Prop:=∀l a l',op l=.ok (a,l')→l'.length≤l.length
theorem Shr.nsh {α:Type} {op:Pa α} (h:Shr op):Nsh op:=fun l a l' he=>Nat.le_of_lt (h l a l' he)
theorem nsh_then {α β:Type} {r:Except (Nat×Nat) (α×List Tk)} {f:α→Pa β} {l:List Tk} (h:∀a l1,r=.ok (a,l1)→l1.length≤l.length) (hf:∀a,Nsh (f a)):∀b l',thenT r f=.ok (b,l')→l'.length≤l.length:=by
 intro b l' he
 cases r with
 | error x=>cases he
 | ok y=>
  obtain ⟨a,l1⟩:=y
  have h1:=h a l1 rfl
  have h2:=hf a l1 b l' he
  omega
theorem shr_then2 {α β:Type} {r:Except (Nat×Nat) (α×List Tk)} {f:α→Pa β} {l:List Tk} (h:∀a l1,r=.ok (a,l1)→l1.length < l.length) (hf:∀a,Nsh (f a)):∀b l',thenT r f=.ok (b,l')→l'.length < l.length:=by
 intro b l' he
 cases r with
 | error x=>cases he
 | ok y=>
  obtain ⟨a,l1⟩:=y
  have h1:=h a l1 rfl
  have h2:=hf a l1 b l' he
  omega
theorem tail_le (l:List Tk):l.tail.length≤l.length:=by simp
theorem lisL_le (ex:Pa Nd) (hx:Shr ex) (ends:List UInt8):∀(n:Nat) (acc:Fo) (l:List Tk) (F:Fo) (l':List Tk),lisL ex ends n acc l=.ok (F,l')→l'.length≤l.length:=by
 intro n;induction n with
 | zero=>intro acc l F l' h; simp only [lisL] at h; cases l <;> simp [failT] at h
 | succ n ih=>
  intro acc l F l' h;simp only [lisL] at h;split at h
  ·cases h; simp
  ·refine nsh_then (l:=l) (r:=if acc.len=0 then .ok ((),l) else thenT (expT (bytes [44]) l) fun _ l2=>.ok ((),l2)) ?_ ?_ _ _ h
   ·intro a l1 h1
    split at h1
    ·cases h1; exact Nat.le_refl _
    ·refine nsh_then (l:=l) (r:=expT (bytes [44]) l) (fun a l2 h2=>(expT_shr _).nsh _ _ _ h2) (fun _=>?_) _ _ h1
     intro l2 b l3 h3
     cases h3
     exact Nat.le_refl _
   ·intro _ l2 F2 l3 h2
    exact nsh_then (l:=l2) (r:=ex l2) (fun a l4 h4=>hx.nsh _ _ _ h4) (fun x l4 F4 l5 h5=>ih _ _ _ _ h5) _ _ h2
theorem priP_shr {ex:Pa Nd} (hx:Shr ex):Shr (priP ex):=by
 intro l a l' h
 cases l with
 | nil=>simp [priP] at h
 | cons t r=>
  simp only [priP] at h;split at h
  ·cases h; simp
  split at h
  ·cases h; simp
  split at h
  ·split at h
   ·refine shr_then2 (l:=t::r) (fun F l1 h1=>?_) (fun F l2 b l3 h3=>by cases h3; exact Nat.le_refl _) _ _ h
    have h2:=lisL_le ex hx _ _ _ _ _ _ h1
    have h3:=tail_le r
    simp
    omega
   ·cases h; simp
  split at h
  ·cases h; simp
  split at h
  ·cases h; simp
  split at h
  ·refine shr_then2 (l:=t::r) (fun F l1 h1=>?_) (fun F l2 b l3 h3=>by cases h3; exact Nat.le_refl _) _ _ h
   have h2:=lisL_le ex hx _ _ _ _ _ _ h1
   simp
   omega
  ·refine shr_then2 (l:=t::r) (r:=expT (bytes [40]) (t::r)) (fun u l1 h1=>expT_shr _ _ _ _ h1) (fun u l2 b l3 h3=>?_) _ _ h
   refine nsh_then (l:=l2) (r:=ex l2) (fun x l4 h4=>hx.nsh _ _ _ h4) (fun x l4 b l5 h5=>?_) _ _ h3
   exact nsh_then (l:=l4) (r:=expT (bytes [41]) l4) (fun x l6 h6=>(expT_shr _).nsh _ _ _ h6) (fun x l6 b l7 h7=>by cases h7; exact Nat.le_refl _) _ _ h5
theorem idxL_le (ex:Pa Nd) (hx:Shr ex):∀(n:Nat) (x:Nd) (l:List Tk) (y:Nd) (l':List Tk),idxL ex n x l=.ok (y,l')→l'.length≤l.length:=by
 intro n;induction n with
 | zero=>intro x l y l' h; simp only [idxL] at h; cases h; exact Nat.le_refl _
 | succ n ih=>
  intro x l y l' h
  cases l with
  | nil=>simp only [idxL] at h; cases h; exact Nat.le_refl _
  | cons t r=>
   simp only [idxL] at h;split at h
   ·refine nsh_then (l:=t::r) (r:=ex r) (fun a l1 h1=>?_) (fun a l2 b l3 h3=>?_) _ _ h
    ·have:=hx _ _ _ h1; simp; omega
    ·exact nsh_then (l:=l2) (r:=expT (bytes [93]) l2) (fun x l6 h6=>(expT_shr _).nsh _ _ _ h6) (fun x l6 b l7 h7=>ih _ _ _ _ h7) _ _ h3
   ·cases h; exact Nat.le_refl _
theorem opdP_shr:∀d,Shr (opdP d):=by
 intro d;induction d with
 | zero=>intro l a l' h; cases l <;> simp [opdP,failT] at h
 | succ d ih=>
  intro l a l' h
  cases l with
  | nil=>simp [opdP] at h
  | cons t r=>
   simp only [opdP] at h;split at h
   ·refine shr_then2 (l:=t::r) (r:=opdP d r) (fun a l1 h1=>?_) (fun x l2 b l3 h3=>by cases h3; exact Nat.le_refl _) _ _ h
    have:=ih _ _ _ h1; simp; omega
   ·refine shr_then2 (l:=t::r) (r:=priP (binP (opdP d) 5) (t::r)) (fun a l1 h1=>priP_shr (binP_shr ih 5) _ _ _ h1) (fun x l2 b l3 h3=>idxL_le _ (binP_shr ih 5) _ _ _ _ _ h3) _ _ h
theorem opd_all:∀(d L:Nat),L+d=65→OpOk 120 [.int .i64 (L:Nat)] (opdP d):=by
 intro d;induction d with
 | zero=>
  intro L h;obtain rfl:L=65:=by omega
  exact opd_zero
 | succ d ih=>
  intro L h;have h1:=ih (L+1) (by omega)
  have h2:=exp_of (L+1) (opdP d) h1 (opdP_shr d)
  rw [show ((L+1:Nat):Int)=(L:Int)+1 by omega] at h1 h2
  exact opd_succ L d (by omega) h1 h2 (binP_shr (opdP_shr d) 5)
theorem exp_all (d L:Nat) (h:L+d=65):OpOk 56 [.int .i64 (L:Nat)] (expP d):=exp_of L (opdP d) (opd_all d L h) (opdP_shr d)
theorem expP_shr (d:Nat):Shr (expP d):=binP_shr (opdP_shr d) 5
open Go.RowKit

def begW:List (List UInt8):=[bytes [108,101,116],bytes [105,102],bytes [119,104,105,108,101],bytes [102,111,114],bytes [102,110],bytes [114,101,116,117,114,110],bytes [98,114,101,97,107],bytes [123],bytes [45],bytes [33],bytes [40],bytes [91],
   bytes [116,114,117,101],bytes [102,97,108,115,101]]
theorem begins_any (t:Tk) (r:List Tk) (P:Nat) (w:World) (hp:PsW w P (t::r)):
  Calls Tryz.prog 50 #[.pointer (some ⟨P,0,none⟩)] w fun e w'=>e=.returned (.bool (begT (t::r)))∧Below w.heap.size w w':=by
 have HN:=zH (now_any t r P w hp)
 have HP:=zH hp
 clear hp;obtain ⟨z,hz⟩:∃z,begT (t::r)=z:=⟨_,rfl⟩;have HZ:Hid (z=(decide (t.kind=1∨t.kind=2∨t.kind=3)||isTs begW (t::r))):=by show _=_; rw [← hz]; rfl
 rw [hz];clear hz;have hf0:=tk_f0 t.kind t.at_ ⟨t.text.toArray⟩;unfold tkV at HN;go_enter Tryz.func50,Tryz.ntmps50;go_wp2_with fail;refine HN.out.mono ?_;rintro e w1 ⟨rfl,hb⟩;have HB1:=zH hb;clear hb HN;by_cases h1:t.kind=1
 ·have e1:((t.kind:Int)==1)=true:=by simp [h1]
  have HE:Hid (z=true):=by show _=_; rw [HZ.out]; simp [h1]
  clear h1;go_wp2_with fail;go_ret;exact ⟨ret_bool HE.out.symm,HB1.out⟩
 have n1:((t.kind:Int)==1)=false:=by simp; omega
 by_cases h2:t.kind=2
 ·have e1:((t.kind:Int)==2)=true:=by simp [h2]
  have HE:Hid (z=true):=by show _=_; rw [HZ.out]; simp [h2]
  clear h1 h2;go_wp2_with fail;go_ret;exact ⟨ret_bool HE.out.symm,HB1.out⟩
 have n2:((t.kind:Int)==2)=false:=by simp; omega
 by_cases h3:t.kind=3
 ·have e1:((t.kind:Int)==3)=true:=by simp [h3]
  have HE:Hid (z=true):=by show _=_; rw [HZ.out]; simp [h3]
  clear h1 h2 h3;go_wp2_with fail;go_ret;exact ⟨ret_bool HE.out.symm,HB1.out⟩
 have n3:((t.kind:Int)==3)=false:=by simp; omega
 have HE:Hid (z=isTs begW (t::r)):=by show _=_; rw [HZ.out]; simp [h1,h2,h3]
 have hbb:=HB1.out.alloc HB1.out.size (.cells (begW.map fun s=>Value.string ⟨s.toArray⟩).toArray 9)
 have HBB:=zH hbb
 have HIS:=zH (is_any begW _ t r P _ (HP.out.below hbb) (nmrow_blk (l:=begW) (Blk.new w1 9 _) (by simp [begW])))
 obtain ⟨q,hq⟩:∃q,isTs begW (t::r)=q:=⟨_,rfl⟩
 rw [hq] at HE HIS;clear h1 h2 h3 hbb hq HZ
 have HIS2:Hid (Calls Tryz.prog 52 #[.pointer (some ⟨P,0,none⟩),.slice (some ⟨w1.heap.size,0,none⟩) 14 14] (w1.alloc (.cells #[.string ⟨#[108,101,116]⟩,.string ⟨#[105,102]⟩,.string ⟨#[119,104,105,108,101]⟩,.string ⟨#[102,111,114]⟩,.string ⟨#[102,110]⟩,.string ⟨#[114,101,116,117,114,110]⟩,.string ⟨#[98,114,101,97,107]⟩,.string ⟨#[123]⟩,.string ⟨#[45]⟩,.string ⟨#[33]⟩,.string ⟨#[40]⟩,.string ⟨#[91]⟩,.string ⟨#[116,114,117,101]⟩,.string ⟨#[102,97,108,115,101]⟩] 9)) fun e w'=>e=.returned (.bool q)∧Below (w1.alloc (.cells #[.string ⟨#[108,101,116]⟩,.string ⟨#[105,102]⟩,.string ⟨#[119,104,105,108,101]⟩,.string ⟨#[102,111,114]⟩,.string ⟨#[102,110]⟩,.string ⟨#[114,101,116,117,114,110]⟩,.string ⟨#[98,114,101,97,107]⟩,.string ⟨#[123]⟩,.string ⟨#[45]⟩,.string ⟨#[33]⟩,.string ⟨#[40]⟩,.string ⟨#[91]⟩,.string ⟨#[116,114,117,101]⟩,.string ⟨#[102,97,108,115,101]⟩] 9)).heap.size (w1.alloc (.cells #[.string ⟨#[108,101,116]⟩,.string ⟨#[105,102]⟩,.string ⟨#[119,104,105,108,101]⟩,.string ⟨#[102,111,114]⟩,.string ⟨#[102,110]⟩,.string ⟨#[114,101,116,117,114,110]⟩,.string ⟨#[98,114,101,97,107]⟩,.string ⟨#[123]⟩,.string ⟨#[45]⟩,.string ⟨#[33]⟩,.string ⟨#[40]⟩,.string ⟨#[91]⟩,.string ⟨#[116,114,117,101]⟩,.string ⟨#[102,97,108,115,101]⟩] 9)) w'):=HIS.out
 have HBB2:Hid (Below w.heap.size w (w1.alloc (.cells #[.string ⟨#[108,101,116]⟩,.string ⟨#[105,102]⟩,.string ⟨#[119,104,105,108,101]⟩,.string ⟨#[102,111,114]⟩,.string ⟨#[102,110]⟩,.string ⟨#[114,101,116,117,114,110]⟩,.string ⟨#[98,114,101,97,107]⟩,.string ⟨#[123]⟩,.string ⟨#[45]⟩,.string ⟨#[33]⟩,.string ⟨#[40]⟩,.string ⟨#[91]⟩,.string ⟨#[116,114,117,101]⟩,.string ⟨#[102,97,108,115,101]⟩] 9))):=HBB.out
 clear HIS HBB;go_wp2_with fail
 generalize w1.alloc (.cells #[.string ⟨#[108,101,116]⟩,.string ⟨#[105,102]⟩,.string ⟨#[119,104,105,108,101]⟩,.string ⟨#[102,111,114]⟩,.string ⟨#[102,110]⟩,.string ⟨#[114,101,116,117,114,110]⟩,.string ⟨#[98,114,101,97,107]⟩,.string ⟨#[123]⟩,.string ⟨#[45]⟩,.string ⟨#[33]⟩,.string ⟨#[40]⟩,.string ⟨#[91]⟩,.string ⟨#[116,114,117,101]⟩,.string ⟨#[102,97,108,115,101]⟩] 9)=wb at*;refine HIS2.out.mono ?_
 rintro e w2 ⟨rfl,hb⟩;have HB2:=zH (HBB2.out.trans (hb.mono HBB2.out.size));clear hb HIS2;go_wp2_with fail;go_ret;exact ⟨ret_bool HE.out.symm,HB2.out⟩

theorem assigns_any (t:Tk) (r:List Tk) (P:Nat) (w:World) (hp:PsW w P (t::r)):
  Calls Tryz.prog 61 #[.pointer (some ⟨P,0,none⟩)] w fun e w'=>e=.returned (.bool (assT (t::r)))∧Below w.heap.size w w':=by
 have HN:=zH (now_any t r P w hp)
 have HP:=zH hp
 clear hp;obtain ⟨z,hz⟩:∃z,assT (t::r)=z:=⟨_,rfl⟩;rw [hz];have HZ:=zH hz;clear hz;have hf0:=tk_f0 t.kind t.at_ ⟨t.text.toArray⟩;unfold tkV at HN;go_enter Tryz.func61,Tryz.ntmps61;go_wp2_with fail;refine HN.out.mono ?_;rintro e w1 ⟨rfl,hb⟩;have HB1:=zH hb;clear hb HN;by_cases h3:t.kind=3
 ·have e1:((t.kind:Int) != 3)=false:=by simp [h3]
  obtain ⟨u,r2,rfl⟩:=(HP.out.ends.next (by omega)).cons
  have HE:Hid (z=(decide (u.kind=4)&&decide (u.text=bytes [61]))):=by show _=_; rw [← HZ.out]; simp only [assT,h3,decide_true,Bool.true_and]
  obtain ⟨b,n,c,i,g1,g2,g3,g4,⟨-,-,-,k0,k1,k2,-⟩,-,-⟩:=HP.out.below HB1.out
  simp only [List.length_cons] at g2;have p0:w1.cell? ⟨P,0,none⟩=some (.slice (some ⟨b,0,none⟩) n c):=g1.cell 0;have p1:w1.cell? ⟨P,1,none⟩=some (.int .i64 i):=g1.cell 1;have hin:i+1 < n:=by omega
  have hin2:(i:Int)+1 < (n:Int):=by omega
  have hwi:IntKind.i64.wrap ((i:Int)+1)=((i+1:Nat):Int):=by rw [IntWalk.i64_in _ (by omega)]; omega
  rw [show i*3+3=(i+1)*3 by omega] at k0 k1 k2
  have HBA:=zH (HB1.out.alloc HB1.out.size (.cells #[.int .i64 u.kind,.string ⟨u.text.toArray⟩,.int .i64 u.at_] 73))
  have hin0:0≤(i:Int)+1:=by omega
  have hba:=(Below.refl w1.heap.size w1).alloc (Nat.le_refl _) (.cells #[.int .i64 0,.string ⟨#[]⟩,.int .i64 0] 73)
  have hlb:b < w1.heap.size:=World.block_lt_of_cell? w1 _ k0
  have p0':=(hba.cell (p:=⟨P,0,none⟩) g1.lt).trans p0
  have p1':=(hba.cell (p:=⟨P,1,none⟩) g1.lt).trans p1
  have k0':=(hba.cell (p:=⟨b,(i+1)*3,none⟩) hlb).trans k0
  have k1':=(hba.cell (p:=⟨b,(i+1)*3+1,none⟩) hlb).trans k1
  have k2':=(hba.cell (p:=⟨b,(i+1)*3+2,none⟩) hlb).trans k2
  clear g1 h3 HP hba hlb;go_wp2_with fail;go_region;clear p0 p1 k0 k1 k2 p0' p1' k0' k1' k2';have HKU:=zH (Blk.new w1 73 #[.int .i64 u.kind,.string ⟨u.text.toArray⟩,.int .i64 u.at_]);generalize w1.alloc (.cells #[.int .i64 u.kind,.string ⟨u.text.toArray⟩,.int .i64 u.at_] 73)=w2 at*;generalize w1.heap.size=C at*;have y0:w2.cell? ⟨C,0,none⟩=some (.int .i64 u.kind):=HKU.out.cell 0
  have y1:w2.cell? ⟨C,1,none⟩=some (.string ⟨u.text.toArray⟩):=HKU.out.cell 1
  obtain ⟨q,hq⟩:∃q,(u.text==[61])=q:=⟨_,rfl⟩
  have HE2:Hid (z=(decide (u.kind=4)&&q)):=by
   show _=_
   rw [HE.out,← hq];congr 1;rw [Bool.eq_iff_iff];simp [bytes]
  clear HE;by_cases h4:u.kind=4
  ·have e4:((u.kind:Int)==4)=true:=by simp [h4]
   have HE3:Hid (z=q):=by show _=_; rw [HE2.out]; simp [h4]
   clear h4;go_wp2_with fail;go_ret;exact ⟨ret_bool HE3.out.symm,below_drewS HBA.out 1⟩
  ·have e4:((u.kind:Int)==4)=false:=by simp; omega
   have HE3:Hid (z=false):=by show _=_; rw [HE2.out]; simp [h4]
   clear h4;go_wp2_with fail;go_ret;exact ⟨ret_bool HE3.out.symm,below_drewS HBA.out 1⟩
 ·have e1:((t.kind:Int) != 3)=true:=by simp; omega
  have HE:Hid (z=false):=by
   show _=_
   rw [← HZ.out]
   cases r with
   | nil=>rfl
   | cons u r2=>simp [assT,h3]
  clear h3;go_wp2_with fail;go_ret;exact ⟨ret_bool HE.out.symm,HB1.out⟩
open Go.RowKit

structure Out (S:Nat→Bool) (w w':World):Prop where
 os:w'.os=w.os
 tape:w'.tape=w.tape
 output:w'.output=w.output
 size:w.heap.size≤w'.heap.size
 block:∀k,k < w.heap.size→S k=false→w'.heap[k]?=w.heap[k]?
theorem Out.but {S:Nat→Bool} {P:Nat} {a w w':World} (h:Out S w w') (hb:But P a w) (hS:∀k,k < a.heap.size→S k=false):But P a w':=
 ⟨h.os.trans hb.os,h.tape.trans hb.tape,h.output.trans hb.output,Nat.le_trans hb.size h.size,fun k hk hn=>(h.block k (Nat.lt_of_lt_of_le hk hb.size) (hS k hk)).trans (hb.block k hk hn)⟩
theorem Out.blk {S:Nat→Bool} {w w':World} (h:Out S w w') {k:Nat} {t:TypeId} {cs:Array Value} (hb:Blk w k t cs) (hS:S k=false):Blk w' k t cs:=(h.block k hb.lt hS).trans hb
theorem Out.psw {S:Nat→Bool} {w w':World} (h:Out S w w') {P:Nat} {l:List Tk} (hp:PsW w P l) (hS:∀k,k≤P→S k=false):PsW w' P l:=
 hp.keep fun k hk=>h.block k (Nat.lt_of_le_of_lt hk hp.lt) (hS k hk)

theorem pstep_app {P:Program} {ops:Array Oper} {o:Oper} {a:Act} {K:Act→World→Prop} {Q:Exit→Act→World→Prop} {E:Prop} {t:TypeId} {bytes:Nat} {z:Value} {s xx:Operand}
  (hE:Elem P t 31 z 6 bytes) {S:Nat→Bool} {w:World} {base:Nat} {v:Value} {acc:Fo} {n:Nat} {T:Array Value} {x:Nd} (hk:KRow S w base v acc) (hn:acc.len=n)
  (hfr:∀k,w.heap.size≤k→S k=true) (hT:NdV (maskW (fun k=>S k&&decide (v.ownBlock≠some k)) w) T x) (hbase:base≤w.heap.size)
  (hgd:o.guard=none) (ho:o.op=.call { callee:=.builtin .append,args:=#[s,xx],argTypes:=#[t,t] }) (hs:a.eval s=v) (hx:a.eval xx=.slice (some ⟨w.heap.size,0,none⟩) 1 1)
  (hlen:(n+1)*bytes≤140737488355328) (h63:n+1≤maxLen)
  (h:∀r cap w',KRow S w' base (.slice (some ⟨r,0,none⟩) (n+1) cap) (acc.app x.one)→Out S w w'→K (a.put o.dst (.slice (some ⟨r,0,none⟩) (n+1) cap)) w'):
  if Region.wanted o (yielded ops a.tmps)=true then Oper.wp P o a (w.alloc (.cells T 31)) K Q else E:=by
 obtain ⟨ht,⟨i,hi,hz,hsz,hby⟩,hzs,hp⟩:=hE
 obtain ⟨xs,hown,hf,hS⟩:=hk
 rw [hn] at hown;refine step_append_lies _ hgd s xx t ho base 31 i z 6 bytes ht hi hz hsz hby hzs hp v n xs hs (hown.alloc _) ⟨w.heap.size,0,none⟩ 1 1 T.toList hx (by simp [hT.size]) (World.news_of_block (Blk.new w _ T)) hT.one' (by omega) h63 hlen (by simp; omega) (w.heap.size+1) (by simp) ?_
 intro r cap w' h1 h2 h3 _;have hSr:S r=true:=by
  rcases h3 with h4 | h4
  ·exact hS r h4
  ·exact hfr r (by omega)
 have hblk:∀k,k < w.heap.size→v.ownBlock≠some k→w'.heap[k]?=w.heap[k]?:=fun k hk hne=>(h2.block k (by simp; omega) (fun e=>hne e.symm)).trans (Below.heap_alloc _ _ _ hk)
 refine h r cap w' ?_ ⟨h2.os,h2.tape,h2.output,by have:=h2.size; simp at this; omega,fun k hk hSk=>hblk k hk (fun e=>by rw [hS k e] at hSk; cases hSk)⟩
 refine KRow.more (v:=v) (w:=w) hf hT (by rw [hn]) h1 hSr ?_ hblk
 rcases h3 with h4 | h4
 ·exact .inl h4
 ·exact .inr (by omega)

def NRow (S:Nat→Bool) (w:World) (base:Nat) (v:Value) (l:List (List UInt8)):Prop:=
 w.ownsRow base 9 1 v l.length (l.map fun s=>.string ⟨s.toArray⟩)∧∀g,v.ownBlock=some g→S g=true
theorem nrow_nil (S:Nat→Bool) (w:World) (base:Nat):NRow S w base (.slice none 0 0) []:=⟨⟨rfl,.inl ⟨rfl,rfl⟩⟩,fun g h=>by simp [Value.ownBlock] at h⟩
theorem NRow.shape {S:Nat→Bool} {w:World} {base:Nat} {v:Value} {l:List (List UInt8)} (h:NRow S w base v l):∃x c,v=.slice x l.length c:=by
 rcases h.1.2 with ⟨rfl,h0⟩ | ⟨g,cap,cur,rfl,_⟩
 ·exact ⟨none,0,by rw [h0]⟩
 ·exact ⟨_,_,rfl⟩
theorem NRow.row {S:Nat→Bool} {w:World} {base:Nat} {v:Value} {l:List (List UInt8)} (h:NRow S w base v l):NmRow (maskW S w) v l:=by
 obtain ⟨h,hS⟩:=h
 rcases id h.2 with ⟨rfl,h0⟩ | ⟨g,cap,cur,rfl,_,hg,hc,hm,_⟩
 ·have:l=[]:=List.eq_nil_of_length_eq_zero h0
  subst this;exact nmrow_nil _
 ·refine ⟨_,cap,rfl,hc,hm,(fun h=>by cases h),fun _=>⟨g,0,rfl,fun i hi=>?_⟩⟩
  have a1:=World.ownsRow.cells h (g:=g) rfl i (.string ⟨l[i].toArray⟩) (by simp [hi])
  rw [Addr.add_lit] at a1;exact (mask_cell S w g _ _).2 ⟨hS g rfl,a1⟩
theorem NRow.keep {S S':Nat→Bool} {w w':World} {base:Nat} {v:Value} {l:List (List UInt8)} (h:NRow S w base v l) (hk:MSub S w S' w'):NRow S' w' base v l:=by
 obtain ⟨h,hS⟩:=h
 have hlt:∀g,v.ownBlock=some g→g < w.heap.size:=by
  intro g hg;rcases h.2 with ⟨rfl,h0⟩ | ⟨g',cap,cur,rfl,_,hgg,_⟩
  ·simp [Value.ownBlock] at hg
  ·simp [Value.ownBlock] at hg; subst hg; exact (Array.getElem?_eq_some_iff.1 hgg).1
 exact ⟨own_keep h (fun g hg hl=>(hk g hl (hS g hg)).2),fun g hg=>(hk g (hlt g hg) (hS g hg)).1⟩
theorem pstep_appN {P:Program} {ops:Array Oper} {o:Oper} {a:Act} {K:Act→World→Prop} {Q:Exit→Act→World→Prop} {E:Prop} {t:TypeId} {bytes:Nat} {z:Value} {s xx:Operand}
  (hE:Elem P t 9 z 1 bytes) {S:Nat→Bool} {w:World} {base:Nat} {v:Value} {acc:List (List UInt8)} {n:Nat} {x:List UInt8} (hk:NRow S w base v acc) (hn:acc.length=n)
  (hfr:∀k,w.heap.size≤k→S k=true) (hbase:base≤w.heap.size)
  (hgd:o.guard=none) (ho:o.op=.call { callee:=.builtin .append,args:=#[s,xx],argTypes:=#[t,t] }) (hs:a.eval s=v) (hx:a.eval xx=.slice (some ⟨w.heap.size,0,none⟩) 1 1)
  (hlen:(n+1)*bytes≤140737488355328) (h63:n+1≤maxLen)
  (h:∀r cap w',NRow S w' base (.slice (some ⟨r,0,none⟩) (n+1) cap) (acc++[x])→Out S w w'→K (a.put o.dst (.slice (some ⟨r,0,none⟩) (n+1) cap)) w'):
  if Region.wanted o (yielded ops a.tmps)=true then Oper.wp P o a (w.alloc (.cells #[.string ⟨x.toArray⟩] 9)) K Q else E:=by
 obtain ⟨ht,⟨i,hi,hz,hsz,hby⟩,hzs,hp⟩:=hE
 obtain ⟨hown,hS⟩:=hk
 rw [hn] at hown;refine step_append_lies _ hgd s xx t ho base 9 i z 1 bytes ht hi hz hsz hby hzs hp v n _ hs (hown.alloc _) ⟨w.heap.size,0,none⟩ 1 1 [.string ⟨x.toArray⟩] hx rfl (World.news_of_block (Blk.new w _ #[.string ⟨x.toArray⟩])) (by simp [Value.oneCell']) (by omega) h63 hlen (by simp; omega) (w.heap.size+1) (by simp) ?_
 intro r cap w' h1 h2 h3 _;have hSr:S r=true:=by
  rcases h3 with h4 | h4
  ·exact hS r h4
  ·exact hfr r (by omega)
 have hblk:∀k,k < w.heap.size→v.ownBlock≠some k→w'.heap[k]?=w.heap[k]?:=fun k hk hne=>(h2.block k (by simp; omega) (fun e=>hne e.symm)).trans (Below.heap_alloc _ _ _ hk)
 refine h r cap w' ⟨?_,fun g hg=>by simp [Value.ownBlock] at hg; rw [← hg]; exact hSr⟩ ⟨h2.os,h2.tape,h2.output,by have:=h2.size; simp at this; omega,fun k hk hSk=>hblk k hk (fun e=>by rw [hS k e] at hSk; cases hSk)⟩
 rw [List.length_append,List.map_append,hn];exact h1
end Go.Proofs.YtbaidkefobhipaaGreatDoor
