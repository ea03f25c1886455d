/-
  Walks: the parser's binary with a strength below the greatest; expression.
  Walks: the parser's expression, with what its operand answers.
  Walk: the parser's list, with what its expression answers. (Printed by gen_pf.py.)
-/
import Derived.Test.YtbaidkefobhipaaGreatDoorZS10
namespace Go.Proofs.YtbaidkefobhipaaGreatDoor
set_option maxHeartbeats 8000000
set_option maxRecDepth 100000
open Go.RowKit

theorem six (T:Array Value) (h:T.size=6):∃a b c d e f,T=#[a,b,c,d,e,f]:=by
 obtain ⟨l⟩:=T
 match l,h with
 | [a,b,c,d,e,f],_=>exact ⟨a,b,c,d,e,f,rfl⟩
theorem wpList_two {P:Program} {ops:Array Oper} {rest:List Oper} {o:Oper} {a:Act} {w:World} {Q:Exit→Act→World→Prop} {t e:TypeId} {bytes:Nat} {x y:Operand}
  (hE:Elem P t e (.agg #[.int .i64 0,.string ⟨#[]⟩,.int .i64 0,.slice none 0 0,.slice none 0 0,.int .i64 0]) 6 bytes) (hg:o.guard=none) (ho:o.op=.buildSlice t 2 #[(0,x),(1,y)])
  {T U:Array Value} (hT:T.size=6) (hU:U.size=6) (hx:a.eval x=.agg T) (hy:a.eval y=.agg U)
  (h:wpList P ops Q rest (a.put o.dst (.slice (some ⟨w.heap.size,0,none⟩) 2 2)) (w.alloc (.cells (T++U) e))):wpList P ops Q (o::rest) a w:=by
 obtain ⟨hu,⟨i,hi,hz,hs,-⟩,-,-⟩:=hE
 refine wpList_buildSlice hg t e 2 _ ho (T++U) i _ hu hi hz (by rw [hs]; decide) (by rw [hs]; decide) ?_ h
 obtain ⟨a0,a1,a2,a3,a4,a5,rfl⟩:=six T hT
 obtain ⟨b0,b1,b2,b3,b4,b5,rfl⟩:=six U hU
 rw [hs];simp only [List.map_toArray,List.map_cons,List.map_nil,hx,hy];kernel_rfl
theorem wpList_oneN {P:Program} {ops:Array Oper} {rest:List Oper} {o:Oper} {a:Act} {w:World} {Q:Exit→Act→World→Prop} {t e:TypeId} {bytes:Nat} {x:Operand}
  (hE:Elem P t e (.agg #[.int .i64 0,.string ⟨#[]⟩,.int .i64 0,.slice none 0 0,.slice none 0 0,.int .i64 0]) 6 bytes) (hg:o.guard=none) (ho:o.op=.buildSlice t 1 #[(0,x)])
  {T:Array Value} (hT:T.size=6) (hx:a.eval x=.agg T)
  (h:wpList P ops Q rest (a.put o.dst (.slice (some ⟨w.heap.size,0,none⟩) 1 1)) (w.alloc (.cells T e))):wpList P ops Q (o::rest) a w:=by
 obtain ⟨hu,⟨i,hi,hz,hs,-⟩,-,-⟩:=hE
 refine wpList_buildSlice hg t e 1 _ ho T i _ hu hi hz (by rw [hs]; decide) (by rw [hs]; decide) ?_ h
 obtain ⟨a0,a1,a2,a3,a4,a5,rfl⟩:=six T hT
 rw [hs];simp only [List.map_toArray,List.map_cons,List.map_nil,hx];kernel_rfl
def Shr {α:Type} (op:Pa α):Prop:=∀l a l',op l=.ok (a,l')→l'.length < l.length
theorem binL_stop (nx:Pa Nd) (s n:Nat) (x:Nd) (t:Tk) (r:List Tk) (h:¬ (t.kind=4∧stren t.text=s)):binL nx s n x (t::r)=.ok (x,t::r):=by
 cases n with
 | zero=>rfl
 | succ n=>simp only [binL]; rw [if_neg h]
theorem binL_go (nx:Pa Nd) (s n:Nat) (x:Nd) (t:Tk) (r:List Tk) (h:t.kind=4) (h2:stren t.text=s):binL nx s (n+1) x (t::r)=thenT (nx r) fun y l2=>
  if s=3 then .ok ((hdT 6 t.text 0 t.at_,x.one.app y.one),l2) else binL nx s n (hdT 6 t.text 0 t.at_,x.one.app y.one) l2:=by
 simp only [binL];rw [if_pos ⟨h,h2⟩]

theorem bin_succ (L s k:Nat) (op:Pa Nd) (hs:s+(k+1)=6) (hb:OpOk 101 [.int .i64 (L:Nat),.int .i64 ((s:Int)+1)] (binP op k)) (hsh:Shr (binP op k)):
  OpOk 101 [.int .i64 (L:Nat),.int .i64 (s:Nat)] (binP op (k+1)):=by
 intro P l w hp;have HKA:=zH (Blk.new w 31 zSyn);have HBA:=zH ((Below.refl w.heap.size w).alloc (Nat.le_refl _) (.cells zSyn 31));have HOP:=zH hb;have HP:=zH hp;have hlt:=zH hp.lt;clear hp hb;obtain ⟨nx,hnx⟩:∃nx,binP op k=nx:=⟨_,rfl⟩;obtain ⟨R,hR⟩:∃R,binP op (k+1) l=R:=⟨_,rfl⟩;rw [hR];have HR:Hid (R=thenT (nx l) fun x l2=>binL nx s l2.length x l2):=by
  show _=_
  rw [← hR,← hnx,show s=5 - k by omega]; rfl
 rw [hnx] at HOP hsh;have HSH:=zH hsh;clear hsh;clear hR hnx;have hs5:s≤5:=by omega
 have e5:decide ((5:Int) < (s:Int))=false:=by simp; omega
 clear hs;show Calls _ _ #[_,_,_] _ _
 go_enter Tryz.func101,Tryz.ntmps101
 go_upto_region 1 with fail
 unfold zSyn at HKA HBA;generalize w.alloc (.cells #[.int .i64 0,.string ⟨#[]⟩,.int .i64 0,.slice none 0 0,.slice none 0 0,.int .i64 0] 31)=wa at*;generalize hA:w.heap.size=A at*;have HA:=zH hA;clear hA;have HB:Hid (But P w wa):=But.of_below (by rw [HA.out]; exact HBA.out)
 have HPA:Hid (PsW wa P l):=HP.out.below (by rw [HA.out]; exact HBA.out)
 have HC:=zH (HOP.out P l wa HPA.out)
 go_wp2_with fail;refine HC.out.mono ?_;intro e w1 h;obtain ⟨hb,h⟩:=h;have HB1:=zH (HB.out.trans hb)
 cases hRR:nx l with
 | error x=>
  rw [hRR] at h;obtain rfl:=h;have HRR:Hid (R=.error x):=by show _=_; rw [HR.out,hRR]; rfl
  clear hRR hb HC HR;go_wp2_with fail;exact ⟨rfl,PaR.bad HRR.out HB1.out⟩
 | ok y=>
  obtain ⟨x,l2⟩:=y
  rw [hRR] at h;obtain ⟨⟨T,rfl,hT⟩,hp2⟩:=h;have HRR:Hid (binL nx s l2.length x l2=R):=by show _=_; rw [HR.out,hRR]; rfl
  have HT:=zH hT
  have HP2:=zH hp2
  have HK1:=zH (hb.blk HKA.out (HPA.out.apart HKA.out (by decide)))
  clear hRR hb HC hT hp2 HR;go_upto_region 4 with (refine wpList_store_rowTo rfl 31 (.tmp 7) (.tmp 19) rfl rfl _ T (by rfl) (by rfl) 31 _ (by exact Blk.new _ _ _) (by exact HT.out.inf) (by exact HT.out.size.symm) (by exact HT.out.one) ?_)
  have HKX:=zH ((Blk.new w1 31 #[.int .i64 0,.string ⟨#[]⟩,.int .i64 0,.slice none 0 0,.slice none 0 0,.int .i64 0]).rset T)
  have HKA2:Hid (Blk ((w1.alloc (.cells #[.int .i64 0,.string ⟨#[]⟩,.int .i64 0,.slice none 0 0,.slice none 0 0,.int .i64 0] 31)).setRow w1.heap.size T) A 31 #[.int .i64 0,.string ⟨#[]⟩,.int .i64 0,.slice none 0 0,.slice none 0 0,.int .i64 0]):=(HK1.out.alloc _).rset_ne T (Nat.ne_of_lt HK1.out.lt)
  have hpx:P < w1.heap.size:=HP2.out.lt
  have HP3:Hid (PsW ((w1.alloc (.cells #[.int .i64 0,.string ⟨#[]⟩,.int .i64 0,.slice none 0 0,.slice none 0 0,.int .i64 0] 31)).setRow w1.heap.size T) P l2):=(HP2.out.below ((Below.refl w1.heap.size w1).alloc (Nat.le_refl _) _)).rset hpx T
  have HB3:=zH ((HB1.out.alloc (.cells #[.int .i64 0,.string ⟨#[]⟩,.int .i64 0,.slice none 0 0,.slice none 0 0,.int .i64 0] 31)).rset_new HB1.out.size T)
  have hax:A < w1.heap.size:=HK1.out.lt
  have HT3:Hid (NdV (maskW (fun k=>decide (A < k)&&decide (k≠w1.heap.size)) ((w1.alloc (.cells #[.int .i64 0,.string ⟨#[]⟩,.int .i64 0,.slice none 0 0,.slice none 0 0,.int .i64 0] 31)).setRow w1.heap.size T)) T x):=by
   refine HT.out.sub (MSub.csub fun k hk hS=>?_)
   have h1:A < wa.heap.size:=HKA.out.lt
   simp only [frS,decide_eq_true_eq] at hS;refine ⟨by simp; omega,?_⟩
   rw [heap_rset_ne _ _ _ _ (by omega)]
   exact Below.heap_alloc _ _ _ hk
  have HPX:=zH hpx
  have HAX:=zH hax
  clear hpx hax HT HP2 HK1 HB1 HPA HB;generalize (w1.alloc (.cells #[.int .i64 0,.string ⟨#[]⟩,.int .i64 0,.slice none 0 0,.slice none 0 0,.int .i64 0] 31)).setRow w1.heap.size T=w3 at*;generalize w1.heap.size=X at*;have HLA:Hid (A < wa.heap.size):=HKA.out.lt;clear HBA HKA
  go_loopw [20] (fun _ wr=>∃(l2:List Tk) (x:Nd) (T:Array Value) (n:Nat),Hid (PsW wr P l2)∧Hid (Blk wr X 31 T)∧Hid (NdV (maskW (fun k=>decide (A < k)&&decide (k≠X)) wr) T x)∧
   Hid (Blk wr A 31 #[.int .i64 0,.string ⟨#[]⟩,.int .i64 0,.slice none 0 0,.slice none 0 0,.int .i64 0])∧Hid (But P w wr)∧Hid (binL nx s n x l2=R)∧Hid (l2.length≤n)) (fun _ wr=>lenOf P wr)
  case atStart=>exact ⟨l2,x,T,l2.length,HP3.out,HKX.out,HT3.out,HKA2.out,HB3.out,HRR.out,Nat.le_refl _⟩
  case round=>
   clear HP3 HKX HT3 HKA2 HB3 HRR;obtain ⟨l3,x3,T3,n,hp,hkx,ht,hka,hb,hr,hln⟩:=hrel;obtain ⟨t,r,rfl⟩:=hp.out.ends.cons;have HN:=zH (now_any t r P wr hp.out);have hf0:=tk_f0 t.kind t.at_ ⟨t.text.toArray⟩;have hf1:=tk_f1 t.kind t.at_ ⟨t.text.toArray⟩;unfold tkV at HN;go_wp2_with fail;refine HN.out.mono ?_;rintro e w4 ⟨rfl,hb4⟩;have HB4:=zH hb4;clear hb4 HN;by_cases h4:t.kind=4
   ·have e4:((t.kind:Int)==4)=true:=by simp [h4]
    have H4:=zH h4
    clear h4;have HN2:=zH (now_any t r P w4 (hp.out.below HB4.out));unfold tkV at HN2;go_wp2_with fail;refine HN2.out.mono ?_;rintro e w5 ⟨rfl,hb5⟩;have HB5:=zH (HB4.out.trans (hb5.mono HB4.out.size));clear hb5 HN2;go_wp2_with fail;refine (stren_any ⟨t.text.toArray⟩ w5).mono ?_;rintro e w6 ⟨rfl,rfl⟩;have HST:Hid ((⟨t.text.toArray⟩:ByteArray).data.toList=t.text):=rfl;rw [HST.out]
    have HBW:Hid (But P wr w5):=But.of_below HB5.out
    have HPW:=zH (hp.out.below HB5.out)
    obtain ⟨sr,hsr⟩:∃x,stren t.text=x:=⟨_,rfl⟩
    rw [hsr];have HSR:=zH hsr;clear hsr;by_cases hs:sr=s
    ·have es:((sr:Int)==(s:Int))=true:=by simp [hs]
     obtain ⟨m,hm⟩:∃m,n=m+1:=⟨n - 1,by have:=hln.out; simp at this; omega⟩
     have HGO:Hid (R=thenT (nx r) fun y l2=>if s=3 then .ok ((hdT 6 t.text 0 t.at_,x3.one.app y.one),l2) else binL nx s m (hdT 6 t.text 0 t.at_,x3.one.app y.one) l2):=by
      show _=_
      rw [← hr.out,hm,binL_go nx s m x3 t r H4.out (HSR.out.trans hs)]
     have HLM:Hid (r.length≤m):=by have:=hln.out; simp at this; show _≤_; omega
     have HTK:=zH (take_any t r P w5 HPW.out (by rw [H4.out]; decide))
     unfold tkV at HTK;clear hs hm hr hln;go_wp2_with fail;refine HTK.out.mono ?_;rintro e w7 ⟨rfl,hp7,hb7⟩;have HBW7:=zH (HBW.out.trans hb7);have HP7:=zH hp7;clear hp7 hb7 HTK;go_upto_region 6 with fail
     have HK8:=zH (Blk.new w7 73 #[.int .i64 t.kind,.string ⟨t.text.toArray⟩,.int .i64 t.at_])
     have HBW8:=zH (HBW7.out.alloc (.cells #[.int .i64 t.kind,.string ⟨t.text.toArray⟩,.int .i64 t.at_] 73))
     have HP8:Hid (PsW (w7.alloc (.cells #[.int .i64 t.kind,.string ⟨t.text.toArray⟩,.int .i64 t.at_] 73)) P r):=HP7.out.below ((Below.refl w7.heap.size w7).alloc (Nat.le_refl _) _)
     have HX8:Hid (X < w7.heap.size):=Nat.lt_of_lt_of_le hkx.out.lt HBW7.out.size
     generalize w7.alloc (.cells #[.int .i64 t.kind,.string ⟨t.text.toArray⟩,.int .i64 t.at_] 73)=w8 at*;generalize w7.heap.size=K8 at*;have HC:=zH (HOP.out P r w8 HP8.out);go_wp2_with fail;refine HC.out.mono ?_;intro e w9 h;obtain ⟨hb9,h⟩:=h;have HBW9:=zH (HBW8.out.trans hb9)
     cases hRR:nx r with
     | error y=>
      rw [hRR] at h;obtain rfl:=h;have HRE:Hid (R=.error y):=by show _=_; rw [HGO.out,hRR]; rfl
      have HBE:=zH (hb.out.trans HBW9.out)
      clear hRR hb9 HC HGO;go_wp2_with fail;exact ⟨rfl,PaR.bad HRE.out HBE.out⟩
     | ok y=>
      obtain ⟨y,l4⟩:=y
      rw [hRR] at h;obtain ⟨⟨U,rfl,hU⟩,hp9⟩:=h;have HG2:Hid (R=if s=3 then .ok ((hdT 6 t.text 0 t.at_,x3.one.app y.one),l4) else binL nx s m (hdT 6 t.text 0 t.at_,x3.one.app y.one) l4):=by show _=_; rw [HGO.out,hRR]; rfl
      have HU:=zH hU
      have HP9:=zH hp9
      have HK9:Hid (Blk w9 K8 73 #[.int .i64 t.kind,.string ⟨t.text.toArray⟩,.int .i64 t.at_]):=hb9.blk HK8.out (HP8.out.apart HK8.out (by decide))
      have HL8:Hid (K8 < w8.heap.size):=HK8.out.lt
      have HBS:Hid (w8.heap.size≤w9.heap.size):=hb9.size
      have HL9:Hid (l4.length < r.length):=HSH.out r y l4 hRR
      clear hRR hb9 HC hU hp9 HGO HK8 HBW8 HP8 HP7 HBW7 HPW HBW;go_upto_region 7 with (refine wpList_store_rowTo rfl 31 (.tmp 9) (.tmp 38) rfl rfl _ U (by rfl) (by rfl) 31 _ (by exact Blk.new _ _ _) (by exact HU.out.inf) (by exact HU.out.size.symm) (by exact HU.out.one) ?_)
      have HLX9:Hid (X < w9.heap.size):=by have h1:=HX8.out; have h2:=HL8.out; have h3:=HBS.out; show _ < _; omega
      have hbz:But P wr ((w9.alloc (.cells #[.int .i64 0,.string ⟨#[]⟩,.int .i64 0,.slice none 0 0,.slice none 0 0,.int .i64 0] 31)).setRow w9.heap.size U):=(HBW9.out.alloc _).rset_new HBW9.out.size U
      have HBZ:=zH hbz
      have HKX:Hid (Blk ((w9.alloc (.cells #[.int .i64 0,.string ⟨#[]⟩,.int .i64 0,.slice none 0 0,.slice none 0 0,.int .i64 0] 31)).setRow w9.heap.size U) X 31 T3):=hbz.blk hkx.out (hp.out.apart hkx.out (by decide))
      have HKU:=zH ((Blk.new w9 31 #[.int .i64 0,.string ⟨#[]⟩,.int .i64 0,.slice none 0 0,.slice none 0 0,.int .i64 0]).rset U)
      have HKT:Hid (Blk ((w9.alloc (.cells #[.int .i64 0,.string ⟨#[]⟩,.int .i64 0,.slice none 0 0,.slice none 0 0,.int .i64 0] 31)).setRow w9.heap.size U) K8 73 #[.int .i64 t.kind,.string ⟨t.text.toArray⟩,.int .i64 t.at_]):=(HK9.out.alloc _).rset_ne U (Nat.ne_of_lt HK9.out.lt)
      have HPZ:Hid (PsW ((w9.alloc (.cells #[.int .i64 0,.string ⟨#[]⟩,.int .i64 0,.slice none 0 0,.slice none 0 0,.int .i64 0] 31)).setRow w9.heap.size U) P l4):=(HP9.out.below ((Below.refl w9.heap.size w9).alloc (Nat.le_refl _) _)).rset HP9.out.lt U
      have HUZ:Hid (NdV (maskW (fun k=>decide (A < k)&&decide (k≠X)) ((w9.alloc (.cells #[.int .i64 0,.string ⟨#[]⟩,.int .i64 0,.slice none 0 0,.slice none 0 0,.int .i64 0] 31)).setRow w9.heap.size U)) U y):=by
       refine HU.out.sub (MSub.csub fun k hk hS=>?_)
       have h1:=HX8.out; have h2:=HL8.out; have h3:=HAX.out
       simp only [frS,decide_eq_true_eq] at hS;refine ⟨by simp; omega,?_⟩
       rw [heap_rset_ne _ _ _ _ (by omega)]
       exact Below.heap_alloc _ _ _ hk
      clear hbz HU HP9 HK9 HBW9;generalize (w9.alloc (.cells #[.int .i64 0,.string ⟨#[]⟩,.int .i64 0,.slice none 0 0,.slice none 0 0,.int .i64 0] 31)).setRow w9.heap.size U=wz at*;generalize w9.heap.size=K9 at*;have HTZ:Hid (NdV (maskW (fun k=>decide (A < k)&&decide (k≠X)) wz) T3 x3):=ht.out.sub (MSub.csub fun k hk hS=>⟨hS,HBZ.out.block k hk (by have:=hlt.out; simp at hS; omega)⟩)
      have z1:wz.cell? ⟨K8,1,none⟩=some (.string ⟨t.text.toArray⟩):=HKT.out.cell 1
      have z2:wz.cell? ⟨K8,2,none⟩=some (.int .i64 t.at_):=HKT.out.cell 2
      have zz1:∀cs,(wz.alloc (.cells cs 31)).cell? ⟨K8,2,none⟩=some (.int .i64 t.at_):=fun cs=>(HKT.out.alloc _).cell 2
      go_upto_region 8 with (first | ((with_reducible show wpList _ _ _ (⟨_,Op.load _ _,_,_,_,_⟩::_) _ _); refine wpList_load_row rfl 31 (.tmp 7) rfl X (by rfl) 31 T3 (0,0) _ (by exact HKX.out) Tryz.underlying31 rfl (by exact HTZ.out.inf) ?_) | ((with_reducible show wpList _ _ _ (⟨_,Op.load _ _,_,_,_,_⟩::_) _ _); refine wpList_load_row rfl 31 (.tmp 9) rfl K9 (by rfl) 31 U (0,0) _ (by exact HKU.out) Tryz.underlying31 rfl (by exact HUZ.out.inf) ?_) | ((with_reducible show wpList _ _ _ (⟨_,Op.buildSlice _ _ _,_,_,_,_⟩::_) _ _); refine wpList_two el_syn rfl rfl (T:=T3) (U:=U) (by exact HTZ.out.size) (by exact HUZ.out.size) (by rfl) (by rfl) ?_) | ((with_reducible show wpList _ _ _ (⟨_,Op.store _ _ _,_,_,_,_⟩::_) _ _); refine wpList_store_rowTo rfl 31 (.tmp 7) (.tmp 46) rfl rfl X #[.int .i64 6,.string ⟨t.text.toArray⟩,.int .i64 0,.slice none 0 0,.slice (some ⟨wz.heap.size,0,none⟩) 2 2,.int .i64 t.at_] (by rfl) (by rfl) 31 T3 (by exact HKX.out.alloc _) (by kernel_rfl) (by exact HTZ.out.size) (by simp [Value.oneCell']) ?_))
      have HKN:=zH ((Blk.new wz 31 (T3++U)).rset_ne #[.int .i64 6,.string ⟨t.text.toArray⟩,.int .i64 0,.slice none 0 0,.slice (some ⟨wz.heap.size,0,none⟩) 2 2,.int .i64 t.at_] (Nat.ne_of_gt HKX.out.lt))
      have HKM:=zH ((HKX.out.alloc (.cells (T3++U) 31)).rset #[.int .i64 6,.string ⟨t.text.toArray⟩,.int .i64 0,.slice none 0 0,.slice (some ⟨wz.heap.size,0,none⟩) 2 2,.int .i64 t.at_])
      have HBN:=zH ((HBZ.out.alloc (.cells (T3++U) 31)))
      have HPN:Hid (PsW ((wz.alloc (.cells (T3++U) 31)).setRow X #[.int .i64 6,.string ⟨t.text.toArray⟩,.int .i64 0,.slice none 0 0,.slice (some ⟨wz.heap.size,0,none⟩) 2 2,.int .i64 t.at_]) P l4):=(HPZ.out.below ((Below.refl wz.heap.size wz).alloc (Nat.le_refl _) _)).rset HPX.out _
      have HAN:Hid (Blk ((wz.alloc (.cells (T3++U) 31)).setRow X #[.int .i64 6,.string ⟨t.text.toArray⟩,.int .i64 0,.slice none 0 0,.slice (some ⟨wz.heap.size,0,none⟩) 2 2,.int .i64 t.at_]) A 31 #[.int .i64 0,.string ⟨#[]⟩,.int .i64 0,.slice none 0 0,.slice none 0 0,.int .i64 0]):=(HBN.out.blk hka.out (hp.out.apart hka.out (by decide))).rset_ne _ (Nat.ne_of_lt HAX.out)
      have HBM:Hid (But P w ((wz.alloc (.cells (T3++U) 31)).setRow X #[.int .i64 6,.string ⟨t.text.toArray⟩,.int .i64 0,.slice none 0 0,.slice (some ⟨wz.heap.size,0,none⟩) 2 2,.int .i64 t.at_])):=(hb.out.trans HBN.out).rset_new (by rw [HA.out]; exact Nat.le_of_lt HAX.out) _
      have HXL:Hid (X < wz.heap.size):=HKX.out.lt
      have HTN:Hid (NdV (maskW (fun k=>decide (A < k)&&decide (k≠X)) ((wz.alloc (.cells (T3++U) 31)).setRow X #[.int .i64 6,.string ⟨t.text.toArray⟩,.int .i64 0,.slice none 0 0,.slice (some ⟨wz.heap.size,0,none⟩) 2 2,.int .i64 t.at_])) #[.int .i64 6,.string ⟨t.text.toArray⟩,.int .i64 0,.slice none 0 0,.slice (some ⟨wz.heap.size,0,none⟩) 2 2,.int .i64 t.at_] (hdT 6 t.text 0 t.at_,x3.one.app y.one)):=by
       have hm:CSub (maskW (fun k=>decide (A < k)&&decide (k≠X)) wz) (maskW (fun k=>decide (A < k)&&decide (k≠X)) ((wz.alloc (.cells (T3++U) 31)).setRow X #[.int .i64 6,.string ⟨t.text.toArray⟩,.int .i64 0,.slice none 0 0,.slice (some ⟨wz.heap.size,0,none⟩) 2 2,.int .i64 t.at_])):=by
        refine MSub.csub fun k hk hS=>⟨hS,?_⟩
        rw [heap_rset_ne _ _ _ _ (by simp at hS; omega)]
        exact Below.heap_alloc _ _ _ hk
       refine ndv_mk (hdT 6 t.text 0 t.at_) (x3.one.app y.one) rfl rfl (nmrow_nil _) ?_
       have h1:=HAX.out; have h2:=HXL.out
       exact frow_blk (F:=x3.one.app y.one) HKN.out (by simp; omega) (FCl.two (HTZ.out.sub hm) (HUZ.out.sub hm)) (by show 2≤100; decide)
      clear HKT HPZ HUZ HKU HTZ z1 z2 zz1 HKX HBZ HBN HKN;obtain ⟨TN,hTN⟩:∃TN:Array Value,TN=#[.int .i64 6,.string ⟨t.text.toArray⟩,.int .i64 0,.slice none 0 0,.slice (some ⟨wz.heap.size,0,none⟩) 2 2,.int .i64 t.at_]:=⟨_,rfl⟩;rw [← hTN] at HKM HPN HAN HBM HTN ⊢;clear hTN;generalize (wz.alloc (.cells (T3++U) 31)).setRow X TN=wy at*;by_cases h3:s=3
      ·have e3:((s:Int)==3)=true:=by simp [h3]
       have HRE:Hid (R=.ok ((hdT 6 t.text 0 t.at_,x3.one.app y.one),l4)):=by show _=_; rw [HG2.out,if_pos h3]
       have HKX:=HKM; have HKA:=HAN; have HB:=HBM; have HT:=HTN; have HPW:=HPN
       clear h3 HG2;go_wp2_with (first | (refine wpList_load_row rfl 31 (.tmp 7) rfl X (by rfl) 31 TN (0,0) _ (by exact HKX.out) Tryz.underlying31 rfl (by exact HT.out.inf) ?_) | (refine wpList_store_rowTo rfl 31 (.tmp 6) (.tmp 49) rfl rfl A TN (by rfl) (by rfl) 31 _ (by exact HKA.out) (by exact HT.out.inf) (by exact HT.out.size.symm) (by exact HT.out.one) ?_))
       refine bodyPost_ret (results_cell_row rfl _ _ A 31 _ (0,0) _ rfl (HKA.out.rset TN) Tryz.underlying31 rfl HT.out.inf) rfl (PaR.good HRE.out ?_ ⟨TN,rfl,?_⟩ ?_)
       ·exact HB.out.rset_new (Nat.le_of_eq HA.out) TN
       ·refine HT.out.sub (MSub.csub fun k hk hS=>?_)
        have h2:=HA.out
        simp only [Bool.and_eq_true,decide_eq_true_eq] at hS;exact ⟨by simp only [frS,decide_eq_true_eq]; omega,heap_rset_ne wy A k TN (by omega)⟩
       ·exact HPW.out.rset hlt.out TN
      ·have e3:((s:Int)==3)=false:=by simp; omega
       have HRE:Hid (binL nx s m (hdT 6 t.text 0 t.at_,x3.one.app y.one) l4=R):=by show _=_; rw [HG2.out,if_neg h3]
       have HM1:Hid (lenOf P wy < lenOf P wr):=by show _ < _; rw [HPN.out.len,hp.out.len]; have:=HL9.out; simp; omega
       have HM2:Hid (l4.length≤m):=by have h1:=HL9.out; have h2:=HLM.out; show _≤_; omega
       clear h3 HG2;go_wp2_with fail;go_roundw
       case rel=>exact ⟨l4,_,TN,m,HPN.out,HKM.out,HTN.out,HAN.out,HBM.out,HRE.out,HM2.out⟩
       case measure=>exact HM1.out
    ·have es:((sr:Int)==(s:Int))=false:=by simp; omega
     have HRE:Hid (R=.ok (x3,t::r)):=by show _=_; rw [← hr.out]; exact binL_stop nx s n x3 t r (fun h=>hs (HSR.out.symm.trans h.2))
     clear hs;have HKX:Hid (Blk w5 X 31 T3):=HBW.out.blk hkx.out (hp.out.apart hkx.out (by decide))
     have HKA:Hid (Blk w5 A 31 #[.int .i64 0,.string ⟨#[]⟩,.int .i64 0,.slice none 0 0,.slice none 0 0,.int .i64 0]):=HBW.out.blk hka.out (hp.out.apart hka.out (by decide))
     have HB:=zH (hb.out.trans HBW.out)
     have HT:Hid (NdV (maskW (fun k=>decide (A < k)&&decide (k≠X)) w5) T3 x3):=ht.out.sub (MSub.csub fun k hk hS=>⟨hS,HBW.out.block k hk (by have:=hlt.out; simp at hS; omega)⟩)
     go_wp2_with (first | (refine wpList_load_row rfl 31 (.tmp 7) rfl X (by rfl) 31 T3 (0,0) _ (by exact HKX.out) Tryz.underlying31 rfl (by exact HT.out.inf) ?_) | (refine wpList_store_rowTo rfl 31 (.tmp 6) (.tmp 49) rfl rfl A T3 (by rfl) (by rfl) 31 _ (by exact HKA.out) (by exact HT.out.inf) (by exact HT.out.size.symm) (by exact HT.out.one) ?_))
     refine bodyPost_ret (results_cell_row rfl _ _ A 31 _ (0,0) _ rfl (HKA.out.rset T3) Tryz.underlying31 rfl HT.out.inf) rfl (PaR.good HRE.out ?_ ⟨T3,rfl,?_⟩ ?_)
     ·exact HB.out.rset_new (Nat.le_of_eq HA.out) T3
     ·refine HT.out.sub (MSub.csub fun k hk hS=>?_)
      have h2:=HA.out
      simp only [Bool.and_eq_true,decide_eq_true_eq] at hS;exact ⟨by simp only [frS,decide_eq_true_eq]; omega,heap_rset_ne w5 A k T3 (by omega)⟩
     ·exact HPW.out.rset hlt.out T3
   ·have e4:((t.kind:Int)==4)=false:=by simp; omega
    have HRE:Hid (R=.ok (x3,t::r)):=by show _=_; rw [← hr.out]; exact binL_stop nx s n x3 t r (fun h=>h4 h.1)
    have HBW:Hid (But P wr w4):=But.of_below HB4.out
    have HPW:=zH (hp.out.below HB4.out)
    clear h4;have HKX:Hid (Blk w4 X 31 T3):=HBW.out.blk hkx.out (hp.out.apart hkx.out (by decide))
    have HKA:Hid (Blk w4 A 31 #[.int .i64 0,.string ⟨#[]⟩,.int .i64 0,.slice none 0 0,.slice none 0 0,.int .i64 0]):=HBW.out.blk hka.out (hp.out.apart hka.out (by decide))
    have HB:=zH (hb.out.trans HBW.out)
    have HT:Hid (NdV (maskW (fun k=>decide (A < k)&&decide (k≠X)) w4) T3 x3):=ht.out.sub (MSub.csub fun k hk hS=>⟨hS,HBW.out.block k hk (by have:=hlt.out; simp at hS; omega)⟩)
    go_wp2_with (first | (refine wpList_load_row rfl 31 (.tmp 7) rfl X (by rfl) 31 T3 (0,0) _ (by exact HKX.out) Tryz.underlying31 rfl (by exact HT.out.inf) ?_) | (refine wpList_store_rowTo rfl 31 (.tmp 6) (.tmp 49) rfl rfl A T3 (by rfl) (by rfl) 31 _ (by exact HKA.out) (by exact HT.out.inf) (by exact HT.out.size.symm) (by exact HT.out.one) ?_))
    refine bodyPost_ret (results_cell_row rfl _ _ A 31 _ (0,0) _ rfl (HKA.out.rset T3) Tryz.underlying31 rfl HT.out.inf) rfl (PaR.good HRE.out ?_ ⟨T3,rfl,?_⟩ ?_)
    ·exact HB.out.rset_new (Nat.le_of_eq HA.out) T3
    ·refine HT.out.sub (MSub.csub fun k hk hS=>?_)
     have h2:=HA.out
     simp only [Bool.and_eq_true,decide_eq_true_eq] at hS;exact ⟨by simp only [frS,decide_eq_true_eq]; omega,heap_rset_ne w4 A k T3 (by omega)⟩
    ·exact HPW.out.rset hlt.out T3
open Go.RowKit

theorem pstep_store {P:Program} {w:World} {ops:Array Oper} {o:Oper} {a:Act} {K:Act→World→Prop} {Q:Exit→Act→World→Prop} {E:Prop} (hgd:o.guard=none) (ty:TypeId) (x y:Operand) (ho:o.op=.store ty x y)
  (hd:o.dst=none) (g:Nat) (cells:Array Value) (hx:a.eval x=.pointer (some ⟨g,0,none⟩)) (hy:a.eval y=.agg cells)
  (t:TypeId) (old:Array Value) (hg:w.heap[g]?=some (.cells old t (0,0))) (hi:(P.info? ty).map (·.size)=some cells.size)
  (hold:old.size=cells.size) (h1:cells.all (·.oneCell')=true)
  (h:K a (w.setRow g cells)):if Region.wanted o (yielded ops a.tmps)=true then Oper.wp P o a w K Q else E:=by
 have hw:Region.wanted o (yielded ops a.tmps)=true:=by simp [Region.wanted,hgd]
 rw [if_pos hw];exact wp_store_row ty x y ho g cells hx hy t old hg hi hold h1 (by rw [hd]; exact h)
theorem pstep_oneN {P:Program} {w:World} {ops:Array Oper} {o:Oper} {a:Act} {K:Act→World→Prop} {Q:Exit→Act→World→Prop} {E:Prop} {t e:TypeId} {bytes:Nat} {x:Operand}
  (hE:Elem P t e (.agg #[.int .i64 0,.string ⟨#[]⟩,.int .i64 0,.slice none 0 0,.slice none 0 0,.int .i64 0]) 6 bytes) (hgd:o.guard=none) (ho:o.op=.buildSlice t 1 #[(0,x)])
  {T:Array Value} (hT:T.size=6) (hx:a.eval x=.agg T)
  (h:K (a.put o.dst (.slice (some ⟨w.heap.size,0,none⟩) 1 1)) (w.alloc (.cells T e))):if Region.wanted o (yielded ops a.tmps)=true then Oper.wp P o a w K Q else E:=by
 have hw:Region.wanted o (yielded ops a.tmps)=true:=by simp [Region.wanted,hgd]
 rw [if_pos hw];obtain ⟨hu,⟨i,hi,hz,hs,-⟩,-,-⟩:=hE;refine wp_buildSlice t e 1 _ ho T i _ hu hi hz (by rw [hs]; decide) (by rw [hs]; decide) ?_ h
 obtain ⟨a0,a1,a2,a3,a4,a5,rfl⟩:=six T hT
 rw [hs];simp only [List.map_toArray,List.map_cons,List.map_nil,hx];kernel_rfl
theorem pstep_two {P:Program} {w:World} {ops:Array Oper} {o:Oper} {a:Act} {K:Act→World→Prop} {Q:Exit→Act→World→Prop} {E:Prop} {t e:TypeId} {bytes:Nat} {x y:Operand}
  (hE:Elem P t e (.agg #[.int .i64 0,.string ⟨#[]⟩,.int .i64 0,.slice none 0 0,.slice none 0 0,.int .i64 0]) 6 bytes) (hgd:o.guard=none) (ho:o.op=.buildSlice t 2 #[(0,x),(1,y)])
  {T U:Array Value} (hT:T.size=6) (hU:U.size=6) (hx:a.eval x=.agg T) (hy:a.eval y=.agg U)
  (h:K (a.put o.dst (.slice (some ⟨w.heap.size,0,none⟩) 2 2)) (w.alloc (.cells (T++U) e))):if Region.wanted o (yielded ops a.tmps)=true then Oper.wp P o a w K Q else E:=by
 have hw:Region.wanted o (yielded ops a.tmps)=true:=by simp [Region.wanted,hgd]
 rw [if_pos hw];obtain ⟨hu,⟨i,hi,hz,hs,-⟩,-,-⟩:=hE;refine wp_buildSlice t e 2 _ ho (T++U) i _ hu hi hz (by rw [hs]; decide) (by rw [hs]; decide) ?_ h
 obtain ⟨a0,a1,a2,a3,a4,a5,rfl⟩:=six T hT
 obtain ⟨b0,b1,b2,b3,b4,b5,rfl⟩:=six U hU
 rw [hs];simp only [List.map_toArray,List.map_cons,List.map_nil,hx,hy];kernel_rfl
theorem shr_then {α β:Type} {op:Pa α} {f:α→Pa β} (h:Shr op) (hf:∀a l b l',f a l=.ok (b,l')→l'.length≤l.length):Shr (fun l=>thenT (op l) f):=by
 intro l b l' he;simp only at he
 cases ho:op l with
 | error x=>rw [ho] at he; cases he
 | ok y=>
  obtain ⟨a,l1⟩:=y
  rw [ho] at he;have h1:=h l a l1 ho;have h2:=hf a l1 b l' he;omega
theorem binL_le (nx:Pa Nd) (hn:Shr nx) (s:Nat):∀(n:Nat) (x:Nd) (l:List Tk) (y:Nd) (l':List Tk),binL nx s n x l=.ok (y,l')→l'.length≤l.length:=by
 intro n;induction n with
 | zero=>intro x l y l' h; simp only [binL] at h; cases h; exact Nat.le_refl _
 | succ n ih=>
  intro x l y l' h
  cases l with
  | nil=>simp only [binL] at h; cases h; exact Nat.le_refl _
  | cons t r=>
   simp only [binL] at h;split at h
   ·cases ho:nx r with
    | error e=>rw [ho] at h; cases h
    | ok z=>
     obtain ⟨z,l2⟩:=z
     have h1:=hn r z l2 ho
     rw [ho] at h;simp only [thenT] at h;split at h
     ·cases h; simp; omega
     ·have:=ih _ _ _ _ h; simp; omega
   ·cases h; exact Nat.le_refl _
theorem binP_shr {op:Pa Nd} (h:Shr op):∀k,Shr (binP op k):=by
 intro k;induction k with
 | zero=>exact h
 | succ k ih=>exact shr_then ih fun a l b l' hb=>binL_le _ ih _ _ _ _ _ _ hb
theorem bin_all (L:Nat) (op:Pa Nd) (hop:OpOk 120 [.int .i64 (L:Nat)] op) (hs:Shr op):∀(k s:Nat),s+k=6→OpOk 101 [.int .i64 (L:Nat),.int .i64 (s:Nat)] (binP op k):=by
 intro k;induction k with
 | zero=>
  intro s h;obtain rfl:s=6:=by omega
  exact bin_zero L op hop
 | succ k ih=>
  intro s h;refine bin_succ L s k op h ?_ (binP_shr hs k);have:=ih (s+1) (by omega)
  rwa [show ((s+1:Nat):Int)=(s:Int)+1 by omega] at this

theorem exp_any (L:Nat) (op:Pa Nd) (hb:OpOk 101 [.int .i64 (L:Nat),.int .i64 1] op):OpOk 56 [.int .i64 (L:Nat)] op:=by
 intro P l w hp;have HKA:=zH (Blk.new w 31 zSyn);have HBA:=zH ((Below.refl w.heap.size w).alloc (Nat.le_refl _) (.cells zSyn 31));have HOP:=zH hb;have HP:=zH hp;have hlt:=zH hp.lt;clear hp hb;obtain ⟨R,hR⟩:∃R,op l=R:=⟨_,rfl⟩;rw [hR];have HR:=zH hR;clear hR;unfold zSyn at HKA HBA;show Calls _ _ #[_,_] _ _
 go_enter Tryz.func56,Tryz.ntmps56
 go_upto_region 1 with fail
 generalize w.alloc (.cells #[.int .i64 0,.string ⟨#[]⟩,.int .i64 0,.slice none 0 0,.slice none 0 0,.int .i64 0] 31)=wa at*;generalize hA:w.heap.size=A at*;have HA:=zH hA;clear hA;have HB:Hid (But P w wa):=But.of_below (by rw [HA.out]; exact HBA.out)
 have HPA:Hid (PsW wa P l):=HP.out.below (by rw [HA.out]; exact HBA.out)
 have HC:=zH (HOP.out P l wa HPA.out)
 go_wp2_with fail;refine HC.out.mono ?_;intro e w1 h;obtain ⟨hb,h⟩:=h;rw [HR.out] at h;have HB1:=zH (HB.out.trans hb)
 cases hRR:R with
 | error x=>
  rw [hRR] at h;obtain rfl:=h;have HRR:=zH hRR;clear hRR hb HC;go_wp2_with fail;exact ⟨rfl,PaR.bad HRR.out HB1.out⟩
 | ok y=>
  obtain ⟨x,l2⟩:=y
  rw [hRR] at h;obtain ⟨⟨T,rfl,hT⟩,hp2⟩:=h;have HRR:=zH hRR;have HT:=zH hT;have HP2:=zH hp2;have HK1:=zH (hb.blk HKA.out (HPA.out.apart HKA.out (by decide)))
  clear hRR hb HC hT hp2;go_wp2_with ((with_reducible show wpList _ _ _ (⟨_,Op.store _ _ _,_,_,_,_⟩::_) _ _); refine wpList_store_rowTo rfl 31 (.tmp 4) (.tmp 7) rfl rfl A T (by rfl) (by rfl) 31 _ (by exact HK1.out) (by exact HT.out.inf) (by exact HT.out.size.symm) (by exact HT.out.one) ?_)
  refine bodyPost_ret (results_cell_row rfl _ _ A 31 _ (0,0) _ rfl (HK1.out.rset T) Tryz.underlying31 rfl HT.out.inf) rfl (PaR.good HRR.out ?_ ⟨T,rfl,?_⟩ ?_)
  ·exact HB1.out.rset_new (Nat.le_of_eq HA.out) T
  ·refine HT.out.sub (MSub.csub fun k hk hS=>?_)
   have h1:A < wa.heap.size:=HKA.out.lt
   have h2:=HA.out
   simp only [frS,decide_eq_true_eq] at hS ⊢;exact ⟨by omega,heap_rset_ne w1 A k T (by omega)⟩
  ·exact HP2.out.rset hlt.out T
theorem exp_of (L:Nat) (op:Pa Nd) (hop:OpOk 120 [.int .i64 (L:Nat)] op) (hs:Shr op):OpOk 56 [.int .i64 (L:Nat)] (binP op 5):=exp_any L _ (bin_all L op hop hs 5 1 rfl)
open Go.RowKit

def LiR (B:Nat) (w:World) (F:Fo) (e:Ending):Prop:=∃v,e=.returned v∧FRow (maskW (frS B) w) v F
theorem PsW.le {w:World} {P:Nat} {l:List Tk} (h:PsW w P l):l.length≤4097:=by
 obtain ⟨b,n,c,i,h1,h2,h3,-⟩:=h
 omega
theorem lisL_end (ex:Pa Nd) (ends:List UInt8) (n:Nat) (acc:Fo) (l:List Tk) (hn:l.length≤n) (hl:l≠[]) (h:isT ends l=true):lisL ex ends n acc l=.ok (acc,l.tail):=by
 cases n with
 | zero=>cases l with
  | nil=>exact absurd rfl hl
  | cons _ _=>simp at hn
 | succ n=>simp only [lisL]; rw [if_pos h]
theorem lisL_go (ex:Pa Nd) (ends:List UInt8) (n:Nat) (acc:Fo) (l:List Tk) (h:isT ends l=false):lisL ex ends (n+1) acc l=thenT (if acc.len=0 then .ok ((),l) else thenT (expT (bytes [44]) l) fun _ l2=>.ok ((),l2)) fun _ l2=>
   thenT (ex l2) fun x l3=>lisL ex ends n (acc.app x.one) l3:=by
 simp only [lisL];rw [if_neg (by rw [h]; decide)]
theorem expT_shr (s:List UInt8):Shr (expT s):=by
 intro l a l' h
 cases l with
 | nil=>simp [expT] at h
 | cons t r=>
  simp only [expT] at h;split at h
  ·cases h; simp
  ·cases h

theorem list_any (L:Int) (ends:List UInt8) (ex:Pa Nd) (hex:OpOk 56 [.int .i64 L] ex) (hsh:Shr ex) (P:Nat) (l:List Tk) (n:Nat) (w:World) (hp:PsW w P l) (hn:l.length≤n):
  Calls Tryz.prog 129 #[.pointer (some ⟨P,0,none⟩),.int .i64 L,.string ⟨ends.toArray⟩] w fun e w'=>PaR P LiR (lisL ex ends n .nil l) w w' e:=by
 have HOP:=zH hex
 have HSH:=zH hsh
 have HP:=zH hp
 have HPW:Hid (P < w.heap.size):=hp.lt
 have HN:=zH hn
 clear hex hsh hp hn;obtain ⟨R,hR⟩:∃R,lisL ex ends n .nil l=R:=⟨_,rfl⟩;rw [hR];have HR:=zH hR;clear hR;go_enter Tryz.func129,Tryz.ntmps129;go_wp2_with fail
 go_loopw [7] (fun v wr=>∃(l:List Tk) (acc:Fo) (n:Nat) (x:Option Addr) (c:Nat),v=.slice x acc.len c∧Hid (PsW wr P l)∧Hid (KRow (frS w.heap.size) wr w.heap.size (.slice x acc.len c) acc)∧Hid (But P w wr)∧Hid (lisL ex ends n acc l=R)∧Hid (l.length≤n)∧Hid (acc.len+l.length≤4097)) (fun _ wr=>lenOf P wr)
 case atStart=>exact ⟨l,.nil,n,none,0,rfl,HP.out,krow_nil _ _ _,But.refl _ _,HR.out,HN.out,by have:=HP.out.le; show 0+_≤_; omega⟩
 case round=>
  obtain ⟨l1,acc,m,x,c,rfl,hp,hk,hb,hr,hm,hln⟩:=hrel
  clear HR HN HP;obtain ⟨t,r,rfl⟩:=hp.out.ends.cons;have hbb:=(Below.refl wr.heap.size wr).alloc (Nat.le_refl _) (.cells #[.string ⟨ends.toArray⟩] 9);have HBB:=zH hbb;have HIS:=zH (is_one ends _ t r P _ (hp.out.below hbb) (Blk.new wr 9 #[.string ⟨ends.toArray⟩]));have HKN:=zH (fun h=>isT_kind (s:=ends) (t:=t) (r:=r) h)
  obtain ⟨q,hq⟩:∃q,isT ends (t::r)=q:=⟨_,rfl⟩
  rw [hq] at HIS HKN;have HQ:=zH hq;clear hbb hq;go_wp2_with fail;generalize wr.alloc (.cells #[.string ⟨ends.toArray⟩] 9)=wb at*;refine HIS.out.mono ?_;rintro e w2 ⟨rfl,hb2⟩;have HB2:=zH (HBB.out.trans (hb2.mono HBB.out.size));have HP2:=zH (hp.out.below HB2.out);have HBT2:=zH (hb.out.step HB2.out)
  have HK2:Hid (KRow (frS w.heap.size) w2 w.heap.size (.slice x acc.len c) acc):=hk.out.keep fun k hk hS=>⟨hS,HB2.out.block k hk⟩
  clear hb2 HBB HIS;obtain ⟨a,ha⟩:∃a,acc.len=a:=⟨_,rfl⟩;have HA:=zH ha;rw [ha] at hk HK2 ⊢;have ha2:a≤4097:=by have:=hln.out; rw [ha] at this; omega
  clear ha
  cases q with
  | true=>
   have HT:=zH (take_any t r P w2 HP2.out (HKN.out rfl))
   have HRE:Hid (R=.ok (acc,r)):=by show _=_; rw [← hr.out,lisL_end ex ends m acc (t::r) hm.out (by simp) HQ.out]; rfl
   unfold tkV at HT;go_wp2_with fail;refine HT.out.mono ?_;rintro e w3 ⟨rfl,hp3,hb3⟩;have HP3:=zH hp3;have HB3:=zH (HBT2.out.trans hb3);have HK3:Hid (KRow (frS w.heap.size) w3 w.heap.size (.slice x a c) acc):=HK2.out.keep fun k hk hS=>⟨hS,hb3.block k hk (by have:=HPW.out; simp [frS] at hS; omega)⟩
   clear hp3 hb3 HT;go_wp2_with fail;go_ret;exact PaR.good HRE.out HB3.out ⟨_,rfl,HK3.out.frow⟩ HP3.out
  | false=>
   obtain ⟨m',hm'⟩:∃k,m=k+1:=⟨m - 1,by have:=hm.out; simp at this; omega⟩
   have HGO:Hid (R=thenT (if acc.len=0 then .ok ((),t::r) else thenT (expT (bytes [44]) (t::r)) fun _ l2=>.ok ((),l2)) fun _ l2=>thenT (ex l2) fun x l3=>lisL ex ends m' (acc.app x.one) l3):=by
    show _=_
    rw [← hr.out,hm',lisL_go ex ends m' acc (t::r) HQ.out]
   have HM:Hid (r.length≤m'):=by have:=hm.out; simp at this; show _≤_; omega
   rw [HA.out] at HGO hln;clear hm' hr hm;by_cases h0:a=0
   ·have e0:decide (0 < a)=false:=by simp; omega
    have e1:¬ 0 < a:=by omega
    have HG:Hid (R=thenT (ex (t::r)) fun x l3=>lisL ex ends m' (acc.app x.one) l3):=by show _=_; rw [HGO.out,if_pos h0]; rfl
    have HLL:Hid ((t::r).length≤m'+1):=by have:=HM.out; show _≤_; simp; omega
    have HLK:Hid ((t::r).length≤(t::r).length):=Nat.le_refl _
    clear h0 HGO;have HC:=zH (HOP.out P (t::r) w2 HP2.out);have HSZ:Hid (w.heap.size≤w2.heap.size):=HBT2.out.size;go_wp2_with fail;refine HC.out.mono ?_;intro e w4 h;obtain ⟨hb4,h⟩:=h;have HB4:=zH (HBT2.out.trans hb4);have HK4:Hid (KRow (frS w.heap.size) w4 w.heap.size (.slice x a c) acc):=HK2.out.keep fun k hk hS=>⟨hS,hb4.block k hk (by have:=HPW.out; simp [frS] at hS; omega)⟩
    cases hRR:ex (t::r) with
    | error y=>
     rw [hRR] at h;obtain rfl:=h;have HRE:Hid (R=.error y):=by show _=_; rw [HG.out,hRR]; rfl
     clear hRR hb4 HC HG;go_wp2_with fail;exact ⟨rfl,PaR.bad HRE.out HB4.out⟩
    | ok y=>
     obtain ⟨z,l4⟩:=y
     rw [hRR] at h;obtain ⟨⟨T,rfl,hT⟩,hp4⟩:=h;have HGN:Hid (lisL ex ends m' (acc.app z.one) l4=R):=by show _=_; rw [HG.out,hRR]; rfl
     have HL4:Hid (l4.length < (t::r).length):=HSH.out _ z l4 hRR
     have HT:=zH hT
     have HP4:=zH hp4
     have HWL:Hid (∀g,(Value.slice x a c).ownBlock=some g→g < w2.heap.size):=by
      intro g hg;obtain ⟨xs,ho,-⟩:=HK2.out;rcases ho.2 with ⟨h1,-⟩ | ⟨g',cap,cur,h1,_,hgg,_⟩
      ·rw [h1] at hg; simp [Value.ownBlock] at hg
      ·rw [h1] at hg; simp [Value.ownBlock] at hg; subst hg; exact (Array.getElem?_eq_some_iff.1 hgg).1
     have hk4:=HK4.out
     clear hRR hb4 HC HG hT hp4;obtain ⟨xs,ho,hf,hS⟩:=hk4;rw [HA.out] at ho;have HO:=zH ho;have HF:=zH hf;have HS:=zH hS;have HBS:Hid (w.heap.size≤w4.heap.size):=HB4.out.size;clear ho hf hS HK4
     go_wp2_with (first | ((with_reducible show wpList _ _ _ (⟨_,Op.buildSlice _ _ _,_,_,_,_⟩::_) _ _); refine wpList_oneN el_syn rfl rfl (T:=T) (by exact HT.out.size) (by rfl) ?_) | (at_builtin; refine wpList_app el_syn HO.out (by exact HBS.out) rfl rfl rfl (m:=0) (by rw [HT.out.size]) (by exact HT.out.one') rfl (by omega) (by unfold maxLen; omega) ?_))
     intro r2 cap2 w6 ho2 hg2 hr2;have HK6:Hid (KRow (frS w.heap.size) w6 w.heap.size (.slice (some ⟨r2,0,none⟩) (a+1) cap2) (acc.app z.one)):=by
      refine KRow.more (v:=.slice x a c) (w:=w4) HF.out (HT.out.sub (MSub.csub fun k hk hS2=>⟨?_,rfl⟩)) (by rw [HA.out]) ho2 ?_ ?_ ?_
      ·have h1:=HSZ.out
       simp only [frS,decide_eq_true_eq,Bool.and_eq_true] at hS2 ⊢;refine ⟨by omega,fun he=>?_⟩
       have:=HWL.out k he
       omega
      ·have h1:=HBS.out
       rcases hr2 with h2 | h2
       ·exact HS.out r2 h2
       ·simp only [frS,decide_eq_true_eq]; omega
      ·rcases hr2 with h2 | h2
       ·exact .inl h2
       ·exact .inr (by omega)
      ·intro k hk hne
       have h1:=hg2.block k (by simp; omega) (fun h=>hne h.symm)
       rw [h1];exact Below.heap_alloc _ _ _ hk
     have HPL:Hid (P < w.heap.size):=HPW.out
     have HPK:Hid (∀k,k≤P→w6.heap[k]?=w4.heap[k]?):=by
      intro k hk;have h0:=HPL.out; have h3:=HBS.out;have hne:(Value.slice x a c).ownBlock≠some k:=by
       intro he;have:=HS.out k he;simp [frS] at this;omega
      have h1:=hg2.block k (by simp; omega) (fun h=>hne h.symm)
      rw [h1];exact Below.heap_alloc _ _ _ (by omega)
     have HP6:=zH (HP4.out.keep HPK.out)
     have HB7:Hid (But P w w6):=by
      refine ⟨hg2.os.trans HB4.out.os,hg2.tape.trans HB4.out.tape,hg2.output.trans HB4.out.output,by have h1:=hg2.size; have h2:=HBS.out; simp at h1; omega,fun k hk hn=>?_⟩
      have h3:=HBS.out
      have hne:(Value.slice x a c).ownBlock≠some k:=by
       intro he;have:=HS.out k he;simp [frS] at this;omega
      have h1:=hg2.block k (by simp; omega) (fun h=>hne h.symm)
      rw [h1];exact (Below.heap_alloc _ _ _ (by omega)).trans (HB4.out.block k hk hn)
     have HM1:Hid (lenOf P w6 < lenOf P wr):=by show _ < _; rw [HP6.out.len,hp.out.len]; have h1:=HL4.out; have h2:=HLK.out; (try simp only [List.length_cons] at h1 h2 ⊢); omega
     have HM2:Hid (l4.length≤m'):=by have h1:=HL4.out; have h2:=HLL.out; show _≤_; (try simp only [List.length_cons] at h1 h2); omega
     have HM3:Hid ((acc.app z.one).len+l4.length≤4097):=by
      have h1:=HL4.out; have h2:=HLK.out; have h3:=hln.out
      show _≤_
      rw [Fo.app_len,HA.out];show a+1+_≤_
      (try simp only [List.length_cons] at h1 h2 h3)
      omega
     have HLN:Hid ((acc.app z.one).len=a+1):=by show _=_; rw [Fo.app_len,HA.out]; rfl
     clear ho2 hg2 hr2;go_wp2_with fail;go_roundw
     case rel=>exact ⟨l4,acc.app z.one,m',some ⟨r2,0,none⟩,cap2,by rw [HLN.out],HP6.out,by rw [HLN.out]; exact HK6.out,HB7.out,HGN.out,HM2.out,HM3.out⟩
     case measure=>exact HM1.out
   ·have e0:decide (0 < a)=true:=by simp; omega
    have e1:0 < a:=by omega
    have HEX:=zH (expect_any (bytes [44]) t r P w2 HP2.out)
    cases hq2:expT (bytes [44]) (t::r) with
    | error y=>
     have HRE:Hid (R=.error y):=by show _=_; rw [HGO.out,if_neg h0,hq2]; rfl
     rw [hq2] at HEX;clear h0 hq2 HGO;go_wp2_with fail;refine HEX.out.mono ?_;rintro e w3 ⟨hb3,rfl⟩;have HB3:=zH (HBT2.out.trans hb3);clear hb3 HEX;go_wp2_with fail;exact ⟨rfl,PaR.bad HRE.out HB3.out⟩
    | ok y=>
     obtain ⟨u,l2⟩:=y
     have HG:Hid (R=thenT (ex l2) fun x l3=>lisL ex ends m' (acc.app x.one) l3):=by show _=_; rw [HGO.out,if_neg h0,hq2]; rfl
     have HLL:Hid (l2.length≤m'+1):=by have h1:=HM.out; have h2:=expT_shr _ _ _ _ hq2; show _≤_; simp at h2; omega
     have HLK:Hid (l2.length≤(t::r).length):=Nat.le_of_lt (expT_shr _ _ _ _ hq2)
     rw [hq2] at HEX;clear h0 hq2 HGO;go_wp2_with fail;refine HEX.out.mono ?_;rintro e w3 ⟨hb3,he3,hp3⟩;unfold TkR at he3;subst he3;have HP3:=zH hp3;have HB3:=zH (HBT2.out.trans hb3);have HK3:Hid (KRow (frS w.heap.size) w3 w.heap.size (.slice x a c) acc):=HK2.out.keep fun k hk hS=>⟨hS,hb3.block k hk (by have:=HPW.out; simp [frS] at hS; omega)⟩
     clear hp3 hb3 HEX;have HC:=zH (HOP.out P l2 w3 HP3.out);have HSZ:Hid (w.heap.size≤w3.heap.size):=HB3.out.size;go_wp2_with fail;refine HC.out.mono ?_;intro e w4 h;obtain ⟨hb4,h⟩:=h;have HB4:=zH (HB3.out.trans hb4);have HK4:Hid (KRow (frS w.heap.size) w4 w.heap.size (.slice x a c) acc):=HK3.out.keep fun k hk hS=>⟨hS,hb4.block k hk (by have:=HPW.out; simp [frS] at hS; omega)⟩
     cases hRR:ex l2 with
     | error y=>
      rw [hRR] at h;obtain rfl:=h;have HRE:Hid (R=.error y):=by show _=_; rw [HG.out,hRR]; rfl
      clear hRR hb4 HC HG;go_wp2_with fail;exact ⟨rfl,PaR.bad HRE.out HB4.out⟩
     | ok y=>
      obtain ⟨z,l4⟩:=y
      rw [hRR] at h;obtain ⟨⟨T,rfl,hT⟩,hp4⟩:=h;have HGN:Hid (lisL ex ends m' (acc.app z.one) l4=R):=by show _=_; rw [HG.out,hRR]; rfl
      have HL4:Hid (l4.length < l2.length):=HSH.out _ z l4 hRR
      have HT:=zH hT
      have HP4:=zH hp4
      have HWL:Hid (∀g,(Value.slice x a c).ownBlock=some g→g < w3.heap.size):=by
       intro g hg;obtain ⟨xs,ho,-⟩:=HK3.out;rcases ho.2 with ⟨h1,-⟩ | ⟨g',cap,cur,h1,_,hgg,_⟩
       ·rw [h1] at hg; simp [Value.ownBlock] at hg
       ·rw [h1] at hg; simp [Value.ownBlock] at hg; subst hg; exact (Array.getElem?_eq_some_iff.1 hgg).1
      have hk4:=HK4.out
      clear hRR hb4 HC HG hT hp4;obtain ⟨xs,ho,hf,hS⟩:=hk4;rw [HA.out] at ho;have HO:=zH ho;have HF:=zH hf;have HS:=zH hS;have HBS:Hid (w.heap.size≤w4.heap.size):=HB4.out.size;clear ho hf hS HK4
      go_wp2_with (first | ((with_reducible show wpList _ _ _ (⟨_,Op.buildSlice _ _ _,_,_,_,_⟩::_) _ _); refine wpList_oneN el_syn rfl rfl (T:=T) (by exact HT.out.size) (by rfl) ?_) | (at_builtin; refine wpList_app el_syn HO.out (by exact HBS.out) rfl rfl rfl (m:=0) (by rw [HT.out.size]) (by exact HT.out.one') rfl (by omega) (by unfold maxLen; omega) ?_))
      intro r2 cap2 w6 ho2 hg2 hr2;have HK6:Hid (KRow (frS w.heap.size) w6 w.heap.size (.slice (some ⟨r2,0,none⟩) (a+1) cap2) (acc.app z.one)):=by
       refine KRow.more (v:=.slice x a c) (w:=w4) HF.out (HT.out.sub (MSub.csub fun k hk hS2=>⟨?_,rfl⟩)) (by rw [HA.out]) ho2 ?_ ?_ ?_
       ·have h1:=HSZ.out
        simp only [frS,decide_eq_true_eq,Bool.and_eq_true] at hS2 ⊢;refine ⟨by omega,fun he=>?_⟩
        have:=HWL.out k he
        omega
       ·have h1:=HBS.out
        rcases hr2 with h2 | h2
        ·exact HS.out r2 h2
        ·simp only [frS,decide_eq_true_eq]; omega
       ·rcases hr2 with h2 | h2
        ·exact .inl h2
        ·exact .inr (by omega)
       ·intro k hk hne
        have h1:=hg2.block k (by simp; omega) (fun h=>hne h.symm)
        rw [h1];exact Below.heap_alloc _ _ _ hk
      have HPL:Hid (P < w.heap.size):=HPW.out
      have HPK:Hid (∀k,k≤P→w6.heap[k]?=w4.heap[k]?):=by
       intro k hk;have h0:=HPL.out; have h3:=HBS.out;have hne:(Value.slice x a c).ownBlock≠some k:=by
        intro he;have:=HS.out k he;simp [frS] at this;omega
       have h1:=hg2.block k (by simp; omega) (fun h=>hne h.symm)
       rw [h1];exact Below.heap_alloc _ _ _ (by omega)
      have HP6:=zH (HP4.out.keep HPK.out)
      have HB7:Hid (But P w w6):=by
       refine ⟨hg2.os.trans HB4.out.os,hg2.tape.trans HB4.out.tape,hg2.output.trans HB4.out.output,by have h1:=hg2.size; have h2:=HBS.out; simp at h1; omega,fun k hk hn=>?_⟩
       have h3:=HBS.out
       have hne:(Value.slice x a c).ownBlock≠some k:=by
        intro he;have:=HS.out k he;simp [frS] at this;omega
       have h1:=hg2.block k (by simp; omega) (fun h=>hne h.symm)
       rw [h1];exact (Below.heap_alloc _ _ _ (by omega)).trans (HB4.out.block k hk hn)
      have HM1:Hid (lenOf P w6 < lenOf P wr):=by show _ < _; rw [HP6.out.len,hp.out.len]; have h1:=HL4.out; have h2:=HLK.out; (try simp only [List.length_cons] at h1 h2 ⊢); omega
      have HM2:Hid (l4.length≤m'):=by have h1:=HL4.out; have h2:=HLL.out; show _≤_; (try simp only [List.length_cons] at h1 h2); omega
      have HM3:Hid ((acc.app z.one).len+l4.length≤4097):=by
       have h1:=HL4.out; have h2:=HLK.out; have h3:=hln.out
       show _≤_
       rw [Fo.app_len,HA.out];show a+1+_≤_
       (try simp only [List.length_cons] at h1 h2 h3)
       omega
      have HLN:Hid ((acc.app z.one).len=a+1):=by show _=_; rw [Fo.app_len,HA.out]; rfl
      clear ho2 hg2 hr2;go_wp2_with fail;go_roundw
      case rel=>exact ⟨l4,acc.app z.one,m',some ⟨r2,0,none⟩,cap2,by rw [HLN.out],HP6.out,by rw [HLN.out]; exact HK6.out,HB7.out,HGN.out,HM2.out,HM3.out⟩
      case measure=>exact HM1.out
end Go.Proofs.YtbaidkefobhipaaGreatDoor
