/-
  What is known around 'x.Kids = append(x.Kids, p.F(..))'.
  Walk: the parser's block, with what its statement answers. (Printed by gen_pj.py.)
  Walk: the parser's assignment, with what its expression answers. (Printed by gen_pl.py.)
-/
import Derived.Test.YtbaidkefobhipaaGreatDoorZS13
import Derived.Deep.DeepCutAuto
namespace Go.Proofs.YtbaidkefobhipaaGreatDoor
set_option maxHeartbeats 16000000
set_option maxRecDepth 100000
open Go.RowKit

def GF (P:Nat) (w:World) (X A:Nat) (zc cs:Array Value) (v:Value) (acc:Fo) (l:List Tk) (wc:World):Prop:=
 Hid (PsW wc P l)∧Hid (But P w wc)∧Hid (Blk wc X 31 cs)∧Hid (KRow (frS (X+1)) wc (X+1) v acc)∧Hid (Blk wc A 31 zc)
section
variable {P X A:Nat} {w wd w8 w9:World} {zc cs cs':Array Value} {v:Value} {acc:Fo} {l l4:List Tk} {T:Array Value} {x1:Nd}
theorem GF.drew (h:GF P w X A zc cs v acc l wd):GF P w X A zc cs v acc l wd.drew:=
 ⟨h.1.out.drew,h.2.1.out.drew,h.2.2.1.out.drew,h.2.2.2.1.out.keep (fun _ _ h=>⟨h,rfl⟩),h.2.2.2.2.out.drew⟩
theorem GF.cell (h:GF P w X A zc cs v acc l wd) {u:Value} (h4:cs[4]?=some u):wd.cell? ⟨X,4,none⟩=some u:=(h.2.2.1.out.cell 4).trans h4
theorem GF.cella (h:GF P w X A zc cs v acc l wd) {u:Value} (h4:cs[4]?=some u) (o:Obj):(wd.alloc o).cell? ⟨X,4,none⟩=some u:=((h.2.2.1.out.alloc o).cell 4).trans h4
theorem GF.lt (h:GF P w X A zc cs v acc l wd):X+1≤wd.heap.size:=h.2.2.1.out.lt
theorem GF.fr (h:GF P w X A zc cs v acc l wd) (k:Nat) (hk:wd.heap.size≤k):frS (X+1) k=true:=by have:=h.lt; simp only [frS,decide_eq_true_eq]; omega
theorem GF.call (h:GF P w X A zc cs v acc l wd) (hP:Hid (P < X)) (hb:But P wd w8) (hp:PsW w8 P l4):GF P w X A zc cs v acc l4 w8:=
 ⟨hp,h.2.1.out.trans hb,hb.blk h.2.2.1.out (h.1.out.apart h.2.2.1.out (by decide)),
  h.2.2.2.1.out.keep (fun k hk hS=>⟨hS,hb.block k hk (by have h1:=hP.out; simp only [frS,decide_eq_true_eq] at hS; omega)⟩),hb.blk h.2.2.2.2.out (h.1.out.apart h.2.2.2.2.out (by decide))⟩
theorem GF.nd (h:GF P w X A zc cs v acc l wd) (hT:NdV (maskW (frS wd.heap.size) w8) T x1):Hid (NdV (maskW (fun k=>frS (X+1) k&&decide (v.ownBlock≠some k)) w8) T x1):=
 hT.sub (MSub.csub fun k _ hS=>⟨by
  have h1:=h.lt
  simp only [frS,decide_eq_true_eq,Bool.and_eq_true] at hS ⊢;refine ⟨by omega,fun he=>?_⟩
  have:=h.2.2.2.1.out.own_lt k he
  omega,rfl⟩)
theorem GF.app (h:GF P w X A zc cs v acc l w8) (hP:Hid (P < X)) (hA:Hid (A < X)) (hW:Hid (w.heap.size=A)) {u kv:Value} {acc':Fo} (hk:KRow (frS (X+1)) w9 (X+1) kv acc') (ho:Out (frS (X+1)) w8 w9)
  (h4:cs[4]?=some u) (h5:cs.setIfInBounds 4 kv=cs'):w9.cell? ⟨X,4,none⟩=some u∧w9.frozen? ⟨X,4,none⟩=false∧GF P w X A zc cs' kv acc' l (w9.setCell ⟨X,4,none⟩ kv):=by
 have h1:=hP.out
 have h2:=hA.out
 have h3:=hW.out
 have hx9:Blk w9 X 31 cs:=ho.blk h.2.2.1.out (by simp [frS])
 have hp9:=ho.psw h.1.out (fun k hk=>by simp only [frS,decide_eq_false_iff_not]; omega)
 have hb9:=ho.but h.2.1.out (fun k hk=>by simp only [frS,decide_eq_false_iff_not]; omega)
 have ha9:Blk w9 A 31 zc:=ho.blk h.2.2.2.2.out (by simp only [frS,decide_eq_false_iff_not]; omega)
 subst h5;exact ⟨(hx9.cell 4).trans h4,hx9.frozen 4,hp9.put h1 _ _,hb9.put_new (by omega) _ _,hx9.put 4 _,
  hk.keep (fun k _ hS=>⟨hS,Below.heap_setCell _ _ _ _ (by simp only [frS,decide_eq_true_eq] at hS; simp only; omega)⟩),ha9.other (p:=⟨X,4,none⟩) (Nat.ne_of_lt h2) _⟩
end
open Go.RowKit

theorem blkL_end (st:Pa Nd) (n:Nat) (acc:Fo) (l:List Tk) (hn:l.length≤n) (hl:l≠[]) (h:isT (bytes [125]) l=true):blkL st n acc l=.ok (acc,l.tail):=by
 cases n with
 | zero=>cases l with
  | nil=>exact absurd rfl hl
  | cons _ _=>simp at hn
 | succ n=>simp only [blkL]; rw [if_pos h]
theorem blkL_go (st:Pa Nd) (n:Nat) (acc:Fo) (l:List Tk) (h:isT (bytes [125]) l=false):blkL st (n+1) acc l=thenT (st l) fun x l2=>blkL st n (acc.app x.one) l2:=by
 simp only [blkL];rw [if_neg (by rw [h]; decide)]

theorem blk_any (M:Int) (st:Pa Nd) (hst:OpOk 34 [.int .i64 M] st) (hsh:Shr st):OpOk 57 [.int .i64 M] (blkP st):=by
 intro P l w hp;obtain ⟨t,r,rfl⟩:=hp.ends.cons;have HKA0:=zH (Blk.new w 31 zSyn);have HBA:=zH ((Below.refl w.heap.size w).alloc (Nat.le_refl _) (.cells zSyn 31));have HOP:=zH hst;have HSH:=zH hsh;have HPW:=zH hp;have hlt:=zH hp.lt;clear hp hst hsh;obtain ⟨R,hR⟩:∃R,blkP st (t::r)=R:=⟨_,rfl⟩;rw [hR]
 have HR:Hid (R=thenT (expT (bytes [123]) (t::r)) fun t l2=>thenT (blkL st (l2.length+1) .nil l2) fun k l3=>.ok ((hdT 25 [] 0 t.at_,k),l3)):=by show _=_; rw [← hR]; rfl
 clear hR;unfold zSyn at HKA0 HBA;show Calls _ _ #[_,_] _ _
 go_enter Tryz.func57,Tryz.ntmps57
 go_upto_region 1 with fail
 generalize w.alloc (.cells #[.int .i64 0,.string ⟨#[]⟩,.int .i64 0,.slice none 0 0,.slice none 0 0,.int .i64 0] 31)=wa at*;generalize hA:w.heap.size=A at*;have HWA:=zH hA;clear hA;have HB0:Hid (But P w wa):=But.of_below (by rw [HWA.out]; exact HBA.out)
 have HPA:Hid (PsW wa P (t::r)):=HPW.out.below (by rw [HWA.out]; exact HBA.out)
 have HEX:=zH (expect_any (bytes [123]) t r P wa HPA.out)
 rcases hq2:expT (bytes [123]) (t::r) with y | ⟨u,l2⟩
 ·have HRE:Hid (R=.error y):=by show _=_; rw [HR.out,hq2]; rfl
  rw [hq2] at HEX;clear hq2 HR;go_wp2_with fail;refine HEX.out.mono ?_;rintro e w6 ⟨hb6,rfl⟩;have HB6:=zH (HB0.out.trans hb6);clear hb6 HEX;go_wp2_with fail;exact ⟨rfl,PaR.bad HRE.out HB6.out⟩
 have HR2:Hid (R=thenT (blkL st (l2.length+1) .nil l2) fun k l3=>.ok ((hdT 25 [] 0 u.at_,k),l3)):=by show _=_; rw [HR.out,hq2]; rfl
 have hf2:=tk_f2 u.kind u.at_ ⟨u.text.toArray⟩
 rw [hq2] at HEX;clear hq2 HR;go_wp2_with fail;refine HEX.out.mono ?_;rintro e w6 ⟨hb6,he6,hp6⟩;unfold TkR tkV at he6;subst he6;have HP6:=zH hp6;have HB6:=zH (HB0.out.trans hb6);have HKA6:Hid (Blk w6 A 31 #[.int .i64 0,.string ⟨#[]⟩,.int .i64 0,.slice none 0 0,.slice none 0 0,.int .i64 0]):=hb6.blk HKA0.out (HPA.out.apart HKA0.out (by decide))
 clear hp6 hb6 HEX HB0 HPA HKA0 HBA;go_upto_region 2 with fail

 have HX7:=zH (Blk.new w6 31 #[.int .i64 25,.string ⟨#[]⟩,.int .i64 0,.slice none 0 0,.slice none 0 0,.int .i64 u.at_])
 have HKA7:=zH (HKA6.out.alloc (.cells #[.int .i64 25,.string ⟨#[]⟩,.int .i64 0,.slice none 0 0,.slice none 0 0,.int .i64 u.at_] 31))
 have HP7:Hid (PsW (w6.alloc (.cells #[.int .i64 25,.string ⟨#[]⟩,.int .i64 0,.slice none 0 0,.slice none 0 0,.int .i64 u.at_] 31)) P l2):=HP6.out.below ((Below.refl w6.heap.size w6).alloc (Nat.le_refl _) _)
 have HB7:=zH (HB6.out.alloc (.cells #[.int .i64 25,.string ⟨#[]⟩,.int .i64 0,.slice none 0 0,.slice none 0 0,.int .i64 u.at_] 31))
 have HXA:=zH HKA6.out.lt
 have HXP:Hid (P < w6.heap.size):=HP6.out.lt
 clear HP6 HB6 HKA6;generalize w6.alloc (.cells #[.int .i64 25,.string ⟨#[]⟩,.int .i64 0,.slice none 0 0,.slice none 0 0,.int .i64 u.at_] 31)=w7 at*;generalize w6.heap.size=X at*;obtain ⟨RB,hRB⟩:∃RB,blkL st (l2.length+1) .nil l2=RB:=⟨_,rfl⟩;have HRB:=zH hRB;rw [hRB] at HR2;clear hRB
 go_loopw [10] (fun _ wr=>∃(l:List Tk) (acc:Fo) (n:Nat) (x:Option Addr) (a c:Nat),Hid (acc.len=a)∧Hid (PsW wr P l)∧Hid (But P w wr)∧Hid (Blk wr X 31 #[.int .i64 25,.string ⟨#[]⟩,.int .i64 0,.slice none 0 0,.slice x a c,.int .i64 u.at_])∧Hid (KRow (frS (X+1)) wr (X+1) (.slice x a c) acc)∧Hid (Blk wr A 31 #[.int .i64 0,.string ⟨#[]⟩,.int .i64 0,.slice none 0 0,.slice none 0 0,.int .i64 0])∧Hid (blkL st n acc l=RB)∧Hid (l.length≤n)∧Hid (a+l.length≤4097)) (fun _ wr=>lenOf P wr)
 case atStart=>exact ⟨l2,.nil,_,none,0,0,rfl,HP7.out,HB7.out,HX7.out,krow_nil _ _ _,HKA7.out,HRB.out,by show _≤_; omega,by have:=HP7.out.le; show _≤_; omega⟩
 case round=>
  clear HP7 HX7 HKA7 HB7 HRB;obtain ⟨l1,acc,m,x,a,c,hacc,hp,hb,hx,hk,hka,hr,hm,hln⟩:=hrel;obtain ⟨t2,r2,rfl⟩:=hp.out.ends.cons;have hbb:=(Below.refl wr.heap.size wr).alloc (Nat.le_refl _) (.cells #[.string ⟨#[125]⟩] 9);have HBB:=zH hbb
  have HIS:Hid (Calls Tryz.prog 52 #[.pointer (some ⟨P,0,none⟩),.slice (some ⟨wr.heap.size,0,none⟩) 1 1] (wr.alloc (.cells #[.string ⟨#[125]⟩] 9)) fun e w'=>e=.returned (.bool (isT (bytes [125]) (t2::r2)))∧Below (wr.alloc (.cells #[.string ⟨#[125]⟩] 9)).heap.size (wr.alloc (.cells #[.string ⟨#[125]⟩] 9)) w'):=is_one (bytes [125]) _ t2 r2 P _ (hp.out.below hbb) (Blk.new wr 9 #[.string ⟨#[125]⟩])
  obtain ⟨q,hq⟩:∃q,isT (bytes [125]) (t2::r2)=q:=⟨_,rfl⟩
  rw [hq] at HIS;have HQ:=zH hq;clear hbb hq;go_wp2_with fail;generalize wr.alloc (.cells #[.string ⟨#[125]⟩] 9)=wb at*;refine HIS.out.mono ?_;rintro e w8 ⟨rfl,hb8⟩;have hbw:=HBB.out.trans (hb8.mono HBB.out.size);have HP:=zH (hp.out.below hbw);have HB:=zH (hb.out.step hbw)
  have HX:Hid (Blk w8 X 31 #[.int .i64 25,.string ⟨#[]⟩,.int .i64 0,.slice none 0 0,.slice x a c,.int .i64 u.at_]):=(hbw.block _ hx.out.lt).trans hx.out
  have HKA:Hid (Blk w8 A 31 #[.int .i64 0,.string ⟨#[]⟩,.int .i64 0,.slice none 0 0,.slice none 0 0,.int .i64 0]):=(hbw.block _ hka.out.lt).trans hka.out
  have HK:Hid (KRow (frS (X+1)) w8 (X+1) (.slice x a c) acc):=hk.out.keep fun k hk hS=>⟨hS,hbw.block k hk⟩
  have HLN:Hid (lenOf P wr=(t2::r2).length):=hp.out.len
  have ha:a≤4097:=by have:=hln.out; omega
  clear hb8 hbw HBB HIS hp hb hx hk hka
  cases q with
  | true=>
   have HRE:Hid (R=.ok ((hdT 25 [] 0 u.at_,acc),r2)):=by
    show _=_
    rw [HR2.out,← hr.out,blkL_end st m acc (t2::r2) hm.out (by simp) HQ.out]
    rfl
   have HTK:=zH (take_any t2 r2 P w8 HP.out (isT_kind HQ.out))
   unfold tkV at HTK;go_wp2_with fail;refine HTK.out.mono ?_;rintro e w9 ⟨rfl,hp9,hb9⟩;have HP9:=zH hp9;have HB9:=zH (HB.out.trans hb9);have HX9:Hid (Blk w9 X 31 #[.int .i64 25,.string ⟨#[]⟩,.int .i64 0,.slice none 0 0,.slice x a c,.int .i64 u.at_]):=hb9.blk HX.out (HP.out.apart HX.out (by decide))
   have HA9:Hid (Blk w9 A 31 #[.int .i64 0,.string ⟨#[]⟩,.int .i64 0,.slice none 0 0,.slice none 0 0,.int .i64 0]):=hb9.blk HKA.out (HP.out.apart HKA.out (by decide))
   have HK9:Hid (KRow (frS (X+1)) w9 (X+1) (.slice x a c) acc):=HK.out.keep fun k hk hS=>⟨hS,hb9.block k hk (by have h1:=HXP.out; simp only [frS,decide_eq_true_eq] at hS; omega)⟩
   clear hp9 hb9 HTK HP HB HX HKA HK
   go_wp2_with (first | ((with_reducible show wpList _ _ _ (⟨_,Op.load _ _,_,_,_,_⟩::_) _ _); refine wpList_load_row rfl 31 (.tmp 5) rfl X (by rfl) 31 #[.int .i64 25,.string ⟨#[]⟩,.int .i64 0,.slice none 0 0,.slice x a c,.int .i64 u.at_] (0,0) _ (by exact HX9.out) Tryz.underlying31 rfl (by exact syn_info) ?_) | ((with_reducible show wpList _ _ _ (⟨_,Op.store _ _ _,_,_,_,_⟩::_) _ _); refine wpList_store_rowTo rfl 31 (.tmp 4) (.tmp 24) rfl rfl A #[.int .i64 25,.string ⟨#[]⟩,.int .i64 0,.slice none 0 0,.slice x a c,.int .i64 u.at_] (by rfl) (by rfl) 31 _ (by exact HA9.out) (by exact syn_info) (by rfl) (by simp [Value.oneCell']) ?_))
   refine bodyPost_ret (results_cell_row rfl _ _ A 31 _ (0,0) _ rfl (HA9.out.rset #[.int .i64 25,.string ⟨#[]⟩,.int .i64 0,.slice none 0 0,.slice x a c,.int .i64 u.at_]) Tryz.underlying31 rfl syn_info) rfl (PaR.good HRE.out ?_ ⟨_,rfl,?_⟩ ?_)
   ·exact HB9.out.rset_new (Nat.le_of_eq HWA.out) _
   ·refine ndv_mk (hdT 25 [] 0 u.at_) acc rfl hacc.out.symm (nmrow_nil _) (HK9.out.frow.sub (MSub.csub fun k hk hS=>?_))
    have h1:=HXA.out; have h2:=HWA.out
    simp only [frS,decide_eq_true_eq] at hS ⊢;exact ⟨by omega,heap_rset_ne w9 A k _ (by omega)⟩
   ·exact HP9.out.rset hlt.out _
  | false=>
   obtain ⟨m',hm'⟩:∃k,m=k+1:=⟨m - 1,by have:=hm.out; simp at this; omega⟩
   have HRT:Hid (R=thenT (st (t2::r2)) fun x1 l3=>thenT (blkL st m' (acc.app x1.one) l3) fun k l3=>.ok ((hdT 25 [] 0 u.at_,k),l3)):=by
    show _=_
    rw [HR2.out,← hr.out,hm',blkL_go st m' acc (t2::r2) HQ.out]
    cases st (t2::r2) <;> rfl
   have HRB2:Hid (RB=thenT (st (t2::r2)) fun x1 l3=>blkL st m' (acc.app x1.one) l3):=by
    show _=_
    rw [← hr.out,hm',blkL_go st m' acc (t2::r2) HQ.out]
   have HM:Hid (r2.length≤m'):=by have:=hm.out; simp at this; show _≤_; omega
   clear hm' hr hm;go_upto_region 3 with fail
   have HG:GF P w X A #[.int .i64 0,.string ⟨#[]⟩,.int .i64 0,.slice none 0 0,.slice none 0 0,.int .i64 0] #[.int .i64 25,.string ⟨#[]⟩,.int .i64 0,.slice none 0 0,.slice x a c,.int .i64 u.at_] (.slice x a c) acc (t2::r2) w8:=⟨HP,HB,HX,HK,HKA⟩
   have HG:=HG.drew
   have HCON:=zH (HOP.out P (t2::r2) w8.drew HG.1.out)
   have k4:w8.drew.cell? ⟨X,4,none⟩=some (.slice x a c):=HG.cell rfl
   clear HP HX HKA HK HB;refine wp_region_held_drew (S:=fun _=>True) (by kernel_rfl) trivial (fun hS=>?_)
   refine zT 0 hS ?_;try simp only [Act.put,zs1,zs2,zs3]
   refine zT 2 hS ?_;try simp only [Act.put,zs1,zs2,zs3]
   refine zT 3 hS ?_;try simp only [Act.put,zs1,zs2,zs3]
   refine zF 1 4 (fun K hK=>?saa4) (fun K hK=>?sba4)
   case saa4=>
    go_simp;refine hK.out _ _ trivial (fun _=>?_)
    clear hK K;try simp only [Act.put,zs1,zs2,zs3]
    refine zR 4 fun K hK=>?_
    go_simp;refine HCON.out.mono ?_;intro e w8 h;obtain ⟨hb8,h⟩:=h;rcases hRR:st (t2::r2) with y | ⟨x1,l4⟩
    ·rw [hRR] at h
     obtain rfl:=h
     have HRE:Hid (R=.error y):=by show _=_; rw [HRT.out,hRR]; rfl
     have HB8:=zH (HG.2.1.out.trans hb8)
     clear hRR hb8 HCON HRT HG;go_wp2_with fail;exact ⟨rfl,PaR.bad HRE.out HB8.out⟩
    rw [hRR] at h;obtain ⟨⟨T,rfl,hT⟩,hp8⟩:=h;have HRR:=zH hRR;have HG8:=HG.call HXP hb8 hp8;have HTN:=HG.nd hT;have k48:w8.cell? ⟨X,4,none⟩=some (.slice x a c):=HG8.cell rfl;have k48a:(w8.alloc (.cells T 31)).cell? ⟨X,4,none⟩=some (.slice x a c):=HG8.cella rfl _;clear hRR hb8 HCON hT hp8 HG;have HRTT:=HRT;clear HRT;refine hK.out _ _ trivial (fun _=>?_)
    clear hK K;try simp only [Act.put,zs1,zs2,zs3]
    refine zR 5 fun K hK=>?_
    refine pstep_oneN el_syn rfl rfl HTN.out.size (by rfl) ?_
    refine hK.out _ _ trivial (fun _=>?_)
    clear hK K;try simp only [Act.put,zs1,zs2,zs3]
    refine zR 6 fun K hK=>?_
    refine pstep_app (n:=a) el_syn HG8.2.2.2.1.out hacc.out HG8.fr HTN.out HG8.lt rfl rfl (by rfl) (by rfl) (by omega) (by unfold maxLen; omega) ?_
    intro rA capA w9 hk9 ho9;refine hK.out _ _ trivial (fun _=>?_)
    clear hK K;try simp only [Act.put,zs1,zs2,zs3]
    obtain ⟨k49,f49,HG9⟩:=HG8.app HXP HXA HWA hk9 ho9 (cs':=#[.int .i64 25,.string ⟨#[]⟩,.int .i64 0,.slice none 0 0,.slice (some ⟨rA,0,none⟩) (a+1) capA,.int .i64 u.at_]) rfl rfl
    clear hk9 ho9 HG8 HTN k48 k48a;refine zT 7 hS ?_;try simp only [Act.put,zs1,zs2,zs3]
    refine zR 8 fun K hK=>?_
    go_simp;refine hK.out _ _ trivial (fun _=>?_)
    clear hK K;try simp only [Act.put,zs1,zs2,zs3]
    refine wpAnyH_done (by kernel_rfl) ?_ _
    clear k49 f49;generalize w9.setCell ⟨X,4,none⟩ (.slice (some ⟨rA,0,none⟩) (a+1) capA)=wc at*;obtain ⟨HP,HB,HX,HK,HKA⟩:=HG9;have HRES:Hid (R=thenT (blkL st m' (acc.app x1.one) l4) fun k l3=>.ok ((hdT 25 [] 0 u.at_,k),l3)):=by show _=_; rw [HRTT.out,HRR.out]; rfl
    have HRN:Hid (blkL st m' (acc.app x1.one) l4=RB):=by show _=_; rw [HRB2.out,HRR.out]; rfl
    have HLL:Hid (l4.length < (t2::r2).length):=HSH.out _ _ _ HRR.out
    have HM1:Hid (lenOf P wc < lenOf P wr):=by show _ < _; rw [HP.out.len,HLN.out]; exact HLL.out
    have HM2:Hid (l4.length≤m'):=by have h1:=HLL.out; have h2:=HM.out; simp only [List.length_cons] at h1; show _≤_; omega
    have HM3:Hid (a+1+l4.length≤4097):=by have h1:=HLL.out; have h2:=hln.out; show _≤_; omega
    have HAC:Hid ((acc.app x1.one).len=a+1):=by show _=_; rw [Fo.app_len,hacc.out]; rfl
    go_wp2_with fail;go_roundw
    case rel=>exact ⟨l4,acc.app x1.one,m',some ⟨rA,0,none⟩,a+1,capA,HAC.out,HP.out,HB.out,HX.out,HK.out,HKA.out,HRN.out,HM2.out,HM3.out⟩
    case measure=>exact HM1.out
   case sba4=>
    go_simp;refine HCON.out.mono ?_;intro e w8 h;obtain ⟨hb8,h⟩:=h;rcases hRR:st (t2::r2) with y | ⟨x1,l4⟩
    ·rw [hRR] at h
     obtain rfl:=h
     have HRE:Hid (R=.error y):=by show _=_; rw [HRT.out,hRR]; rfl
     have HB8:=zH (HG.2.1.out.trans hb8)
     clear hRR hb8 HCON HRT HG;go_wp2_with fail;exact ⟨rfl,PaR.bad HRE.out HB8.out⟩
    rw [hRR] at h;obtain ⟨⟨T,rfl,hT⟩,hp8⟩:=h;have HRR:=zH hRR;have HG8:=HG.call HXP hb8 hp8;have HTN:=HG.nd hT;have k48:w8.cell? ⟨X,4,none⟩=some (.slice x a c):=HG8.cell rfl;have k48a:(w8.alloc (.cells T 31)).cell? ⟨X,4,none⟩=some (.slice x a c):=HG8.cella rfl _;clear hRR hb8 HCON hT hp8 HG;have HRTT:=HRT;clear HRT;refine hK.out _ _ trivial (fun _=>?_)
    clear hK K;try simp only [Act.put,zs1,zs2,zs3]
    refine zF 1 5 (fun K hK=>?saa10) (fun K hK=>?sba10)
    case saa10=>
     go_simp;refine hK.out _ _ trivial (fun _=>?_)
     clear hK K;try simp only [Act.put,zs1,zs2,zs3]
     refine zR 5 fun K hK=>?_
     refine pstep_oneN el_syn rfl rfl HTN.out.size (by rfl) ?_
     refine hK.out _ _ trivial (fun _=>?_)
     clear hK K;try simp only [Act.put,zs1,zs2,zs3]
     refine zR 6 fun K hK=>?_
     refine pstep_app (n:=a) el_syn HG8.2.2.2.1.out hacc.out HG8.fr HTN.out HG8.lt rfl rfl (by rfl) (by rfl) (by omega) (by unfold maxLen; omega) ?_
     intro rA capA w9 hk9 ho9;refine hK.out _ _ trivial (fun _=>?_)
     clear hK K;try simp only [Act.put,zs1,zs2,zs3]
     obtain ⟨k49,f49,HG9⟩:=HG8.app HXP HXA HWA hk9 ho9 (cs':=#[.int .i64 25,.string ⟨#[]⟩,.int .i64 0,.slice none 0 0,.slice (some ⟨rA,0,none⟩) (a+1) capA,.int .i64 u.at_]) rfl rfl
     clear hk9 ho9 HG8 HTN k48 k48a;refine zT 7 hS ?_;try simp only [Act.put,zs1,zs2,zs3]
     refine zR 8 fun K hK=>?_
     go_simp;refine hK.out _ _ trivial (fun _=>?_)
     clear hK K;try simp only [Act.put,zs1,zs2,zs3]
     refine wpAnyH_done (by kernel_rfl) ?_ _
     clear k49 f49;generalize w9.setCell ⟨X,4,none⟩ (.slice (some ⟨rA,0,none⟩) (a+1) capA)=wc at*;obtain ⟨HP,HB,HX,HK,HKA⟩:=HG9;have HRES:Hid (R=thenT (blkL st m' (acc.app x1.one) l4) fun k l3=>.ok ((hdT 25 [] 0 u.at_,k),l3)):=by show _=_; rw [HRTT.out,HRR.out]; rfl
     have HRN:Hid (blkL st m' (acc.app x1.one) l4=RB):=by show _=_; rw [HRB2.out,HRR.out]; rfl
     have HLL:Hid (l4.length < (t2::r2).length):=HSH.out _ _ _ HRR.out
     have HM1:Hid (lenOf P wc < lenOf P wr):=by show _ < _; rw [HP.out.len,HLN.out]; exact HLL.out
     have HM2:Hid (l4.length≤m'):=by have h1:=HLL.out; have h2:=HM.out; simp only [List.length_cons] at h1; show _≤_; omega
     have HM3:Hid (a+1+l4.length≤4097):=by have h1:=HLL.out; have h2:=hln.out; show _≤_; omega
     have HAC:Hid ((acc.app x1.one).len=a+1):=by show _=_; rw [Fo.app_len,hacc.out]; rfl
     go_wp2_with fail;go_roundw
     case rel=>exact ⟨l4,acc.app x1.one,m',some ⟨rA,0,none⟩,a+1,capA,HAC.out,HP.out,HB.out,HX.out,HK.out,HKA.out,HRN.out,HM2.out,HM3.out⟩
     case measure=>exact HM1.out
    case sba10=>
     refine pstep_oneN el_syn rfl rfl HTN.out.size (by rfl) ?_
     refine hK.out _ _ trivial (fun _=>?_)
     clear hK K;try simp only [Act.put,zs1,zs2,zs3]
     refine zR 1 fun K hK=>?_
     go_simp;refine hK.out _ _ trivial (fun _=>?_)
     clear hK K;try simp only [Act.put,zs1,zs2,zs3]
     refine zR 6 fun K hK=>?_
     refine pstep_app (n:=a) el_syn HG8.2.2.2.1.out hacc.out HG8.fr HTN.out HG8.lt rfl rfl (by rfl) (by rfl) (by omega) (by unfold maxLen; omega) ?_
     intro rA capA w9 hk9 ho9;refine hK.out _ _ trivial (fun _=>?_)
     clear hK K;try simp only [Act.put,zs1,zs2,zs3]
     obtain ⟨k49,f49,HG9⟩:=HG8.app HXP HXA HWA hk9 ho9 (cs':=#[.int .i64 25,.string ⟨#[]⟩,.int .i64 0,.slice none 0 0,.slice (some ⟨rA,0,none⟩) (a+1) capA,.int .i64 u.at_]) rfl rfl
     clear hk9 ho9 HG8 HTN k48 k48a;refine zT 7 hS ?_;try simp only [Act.put,zs1,zs2,zs3]
     refine zR 8 fun K hK=>?_
     go_simp;refine hK.out _ _ trivial (fun _=>?_)
     clear hK K;try simp only [Act.put,zs1,zs2,zs3]
     refine wpAnyH_done (by kernel_rfl) ?_ _
     clear k49 f49;generalize w9.setCell ⟨X,4,none⟩ (.slice (some ⟨rA,0,none⟩) (a+1) capA)=wc at*;obtain ⟨HP,HB,HX,HK,HKA⟩:=HG9;have HRES:Hid (R=thenT (blkL st m' (acc.app x1.one) l4) fun k l3=>.ok ((hdT 25 [] 0 u.at_,k),l3)):=by show _=_; rw [HRTT.out,HRR.out]; rfl
     have HRN:Hid (blkL st m' (acc.app x1.one) l4=RB):=by show _=_; rw [HRB2.out,HRR.out]; rfl
     have HLL:Hid (l4.length < (t2::r2).length):=HSH.out _ _ _ HRR.out
     have HM1:Hid (lenOf P wc < lenOf P wr):=by show _ < _; rw [HP.out.len,HLN.out]; exact HLL.out
     have HM2:Hid (l4.length≤m'):=by have h1:=HLL.out; have h2:=HM.out; simp only [List.length_cons] at h1; show _≤_; omega
     have HM3:Hid (a+1+l4.length≤4097):=by have h1:=HLL.out; have h2:=hln.out; show _≤_; omega
     have HAC:Hid ((acc.app x1.one).len=a+1):=by show _=_; rw [Fo.app_len,hacc.out]; rfl
     go_wp2_with fail;go_roundw
     case rel=>exact ⟨l4,acc.app x1.one,m',some ⟨rA,0,none⟩,a+1,capA,HAC.out,HP.out,HB.out,HX.out,HK.out,HKA.out,HRN.out,HM2.out,HM3.out⟩
     case measure=>exact HM1.out
open Go.RowKit

theorem asg_any (L:Nat) (hL:L≤64) (kind:Int) (pos:Nat) (ex:Pa Nd) (hex:OpOk 56 [.int .i64 ((L:Int)+1)] ex):OpOk 54 [.int .i64 kind,.int .i64 (L:Nat),.int .i64 (pos:Nat)] (asgP ex kind pos):=by
 intro P l w hp;have HKA0:=zH (Blk.new w 31 zSyn);have HBA:=zH ((Below.refl w.heap.size w).alloc (Nat.le_refl _) (.cells zSyn 31));have HOP:=zH hex;have HPW:=zH hp;have hlt:=zH hp.lt;clear hp hex;obtain ⟨R,hR⟩:∃R,asgP ex kind pos l=R:=⟨_,rfl⟩;rw [hR]
 have HRT:Hid (R=thenT (namT l) fun n l2=>thenT (expT (bytes [61]) l2) fun _ l3=>thenT (ex l3) fun x l4=>thenT (expT (bytes [59]) l4) fun _ l5=>.ok ((hdT kind n 0 pos,x.one),l5)):=by show _=_; rw [← hR]; rfl
 clear hR;unfold zSyn at HKA0 HBA;show Calls _ _ #[_,_,_,_] _ _
 go_enter Tryz.func54,Tryz.ntmps54
 go_upto_region 1 with fail
 generalize w.alloc (.cells #[.int .i64 0,.string ⟨#[]⟩,.int .i64 0,.slice none 0 0,.slice none 0 0,.int .i64 0] 31)=wa at*;generalize hA:w.heap.size=A at*;have HWA:=zH hA;clear hA;have HB:Hid (But P w wa):=But.of_below (by rw [HWA.out]; exact HBA.out)
 have HP:Hid (PsW wa P l):=HPW.out.below (by rw [HWA.out]; exact HBA.out)
 have HKA:=HKA0
 clear HKA0 HBA;obtain ⟨ux,rx,hl⟩:=HP.out.ends.cons;have hex:=pname_any ux rx P wa (by rw [← hl]; exact HP.out)
 rw [← hl] at hex;have HEX:=zH hex;clear hex hl;rcases hq:namT l with y | ⟨nm,l2⟩
 ·have HRE:=zH (HRT.out.trans (thenT_err hq))
  rw [hq] at HEX;clear hq HRT;go_wp2_with fail;refine HEX.out.mono ?_;rintro e wE ⟨hbE,rfl⟩;have HBE:=zH (HB.out.trans hbE);clear hbE HEX;go_wp2_with fail;exact ⟨rfl,PaR.bad HRE.out HBE.out⟩
 have HRT2:=zH (HRT.out.trans (thenT_ok hq))
 rw [hq] at HEX;clear hq HRT;have HRT:=HRT2;clear HRT2;go_wp2_with fail;refine HEX.out.mono ?_;rintro e w2 ⟨hbN,heN,hpN⟩;unfold TxR at heN;subst heN;clear HEX;have HP2:=zH hpN;have HB2:=zH (HB.out.trans hbN);have HKA2:Hid (Blk w2 A 31 #[.int .i64 0,.string ⟨#[]⟩,.int .i64 0,.slice none 0 0,.slice none 0 0,.int .i64 0]):=hbN.blk HKA.out (HP.out.apart HKA.out (by decide))
 clear hpN hbN HP HB HKA;have HP:=HP2; have HB:=HB2; have HKA:=HKA2;clear HP2 HB2 HKA2;go_upto_region 2 with fail
 have HX:=zH (Blk.new w2 31 #[.int .i64 kind,.string ⟨nm.toArray⟩,.int .i64 0,.slice none 0 0,.slice none 0 0,.int .i64 (pos:Nat)])
 have HKA2:=zH (HKA.out.alloc (.cells #[.int .i64 kind,.string ⟨nm.toArray⟩,.int .i64 0,.slice none 0 0,.slice none 0 0,.int .i64 (pos:Nat)] 31))
 have HP2:Hid (PsW (w2.alloc (.cells #[.int .i64 kind,.string ⟨nm.toArray⟩,.int .i64 0,.slice none 0 0,.slice none 0 0,.int .i64 (pos:Nat)] 31)) P _):=HP.out.below ((Below.refl w2.heap.size w2).alloc (Nat.le_refl _) _)
 have HB2:=zH (HB.out.alloc (.cells #[.int .i64 kind,.string ⟨nm.toArray⟩,.int .i64 0,.slice none 0 0,.slice none 0 0,.int .i64 (pos:Nat)] 31))
 have HXA:=zH HKA.out.lt
 have HXP:Hid (P < w2.heap.size):=HP.out.lt
 clear HP HB HKA;have HP:=HP2; have HB:=HB2; have HKA:=HKA2;clear HP2 HB2 HKA2;generalize w2.alloc (.cells #[.int .i64 kind,.string ⟨nm.toArray⟩,.int .i64 0,.slice none 0 0,.slice none 0 0,.int .i64 (pos:Nat)] 31)=w3 at*;generalize w2.heap.size=X at*;obtain ⟨ux,rx,hl⟩:=HP.out.ends.cons;have hex:=expect_any (bytes [61]) ux rx P w3 (by rw [← hl]; exact HP.out)
 rw [← hl] at hex;have HEX:=zH hex;clear hex hl;rcases hq:expT (bytes [61]) l2 with y | ⟨v1,l3⟩
 ·have HRE:=zH (HRT.out.trans (thenT_err hq))
  rw [hq] at HEX;clear hq HRT;go_wp2_with fail;refine HEX.out.mono ?_;rintro e wE ⟨hbE,rfl⟩;have HBE:=zH (HB.out.trans hbE);clear hbE HEX;go_wp2_with fail;exact ⟨rfl,PaR.bad HRE.out HBE.out⟩
 have HRT2:=zH (HRT.out.trans (thenT_ok hq))
 have HLE_l3:Hid (l3.length < (l2).length):=expT_shr _ _ _ _ hq
 rw [hq] at HEX;clear hq HRT;have HRT:=HRT2;clear HRT2;have hf2:=tk_f2 v1.kind v1.at_ ⟨v1.text.toArray⟩;go_wp2_with fail;refine HEX.out.mono ?_;rintro e w4 ⟨hbN,heN,hpN⟩;unfold TkR tkV at heN;subst heN;clear HEX;have HP2:=zH hpN;have HB2:=zH (HB.out.trans hbN)
 have HKA2:Hid (Blk w4 A 31 #[.int .i64 0,.string ⟨#[]⟩,.int .i64 0,.slice none 0 0,.slice none 0 0,.int .i64 0]):=hbN.blk HKA.out (HP.out.apart HKA.out (by decide))
 have HX2:Hid (Blk w4 X 31 #[.int .i64 kind,.string ⟨nm.toArray⟩,.int .i64 0,.slice none 0 0,.slice none 0 0,.int .i64 (pos:Nat)]):=hbN.blk HX.out (HP.out.apart HX.out (by decide))
 clear hpN hbN HP HB HKA HX;have HP:=HP2; have HB:=HB2; have HKA:=HKA2; have HX:=HX2;clear HP2 HB2 HKA2 HX2;have HLX:Hid (X < w4.heap.size):=HX.out.lt;have HEX:=zH (HOP.out P l3 w4 HP.out);have HSZ_T:=zH (Nat.le_refl w4.heap.size);rcases hq:ex l3 with y | ⟨x,l4⟩
 ·have HRE:=zH (HRT.out.trans (thenT_err hq))
  rw [hq] at HEX;clear hq HRT;go_wp2_with fail;refine HEX.out.mono ?_;rintro e wE ⟨hbE,rfl⟩;have HBE:=zH (HB.out.trans hbE);clear hbE HEX;go_wp2_with fail;exact ⟨rfl,PaR.bad HRE.out HBE.out⟩
 have HRT2:=zH (HRT.out.trans (thenT_ok hq))
 rw [hq] at HEX;clear hq HRT;have HRT:=HRT2;clear HRT2;go_wp2_with fail;refine HEX.out.mono ?_;rintro e w5 ⟨hbN,⟨T,rfl,hT⟩,hpN⟩;have HT_T:=zH hT;clear HEX hT HSZ_T;have HP2:=zH hpN;have HB2:=zH (HB.out.trans hbN);have HKA2:Hid (Blk w5 A 31 #[.int .i64 0,.string ⟨#[]⟩,.int .i64 0,.slice none 0 0,.slice none 0 0,.int .i64 0]):=hbN.blk HKA.out (HP.out.apart HKA.out (by decide))
 have HX2:Hid (Blk w5 X 31 #[.int .i64 kind,.string ⟨nm.toArray⟩,.int .i64 0,.slice none 0 0,.slice none 0 0,.int .i64 (pos:Nat)]):=hbN.blk HX.out (HP.out.apart HX.out (by decide))
 clear hpN hbN HP HB HKA HX;have HP:=HP2; have HB:=HB2; have HKA:=HKA2; have HX:=HX2;clear HP2 HB2 HKA2 HX2;have x4:∀o,(w5.alloc o).cell? ⟨X,4,none⟩=some (.slice none 0 0):=fun o=>(HX.out.alloc o).cell 4
 have x4f:∀o,(w5.alloc o).frozen? ⟨X,4,none⟩=false:=fun o=>(HX.out.alloc o).frozen 4
 go_upto_region 4 with ((with_reducible show wpList _ _ _ (⟨_,Op.buildSlice _ _ _,_,_,_,_⟩::_) _ _); refine wpList_oneN el_syn rfl rfl (T:=T) (by exact HT_T.out.size) (by rfl) ?_)

 have HX2:Hid (Blk ((w5.alloc (.cells T 31)).setCell ⟨X,4,none⟩ (.slice (some ⟨w5.heap.size,0,none⟩) 1 1)) X 31 #[.int .i64 kind,.string ⟨nm.toArray⟩,.int .i64 0,.slice none 0 0,.slice (some ⟨w5.heap.size,0,none⟩) 1 1,.int .i64 (pos:Nat)]):=(HX.out.alloc _).put 4 _
 have HKA2:Hid (Blk ((w5.alloc (.cells T 31)).setCell ⟨X,4,none⟩ (.slice (some ⟨w5.heap.size,0,none⟩) 1 1)) A 31 #[.int .i64 0,.string ⟨#[]⟩,.int .i64 0,.slice none 0 0,.slice none 0 0,.int .i64 0]):=(HKA.out.alloc _).other (p:=⟨X,4,none⟩) (Nat.ne_of_lt HXA.out) _
 have HP2:Hid (PsW ((w5.alloc (.cells T 31)).setCell ⟨X,4,none⟩ (.slice (some ⟨w5.heap.size,0,none⟩) 1 1)) P _):=(HP.out.below ((Below.refl w5.heap.size w5).alloc (Nat.le_refl _) (.cells T 31))).put HXP.out 4 (.slice (some ⟨w5.heap.size,0,none⟩) 1 1)
 have HB2:Hid (But P w ((w5.alloc (.cells T 31)).setCell ⟨X,4,none⟩ (.slice (some ⟨w5.heap.size,0,none⟩) 1 1))):=(HB.out.alloc _).put_new (by have h1:=HXA.out; have h2:=HWA.out; omega) 4 _
 have HXW:Hid (X < w5.heap.size):=HX.out.lt
 have HF:Hid (FRow (maskW (frS (X+1)) ((w5.alloc (.cells T 31)).setCell ⟨X,4,none⟩ (.slice (some ⟨w5.heap.size,0,none⟩) 1 1))) (.slice (some ⟨w5.heap.size,0,none⟩) 1 1) x.one):=by
  have h1:=HLX.out; have h2:=HXW.out
  refine frow_blk (F:=x.one) ((Blk.new w5 31 T).other (p:=⟨X,4,none⟩) (Nat.ne_of_gt h2) _) (by simp only [frS,decide_eq_true_eq]; omega) (FCl.one (HT_T.out.sub (MSub.csub fun k hk hS=>?_))) (by show 1≤100; decide)
  simp only [frS,decide_eq_true_eq] at hS ⊢;exact ⟨by omega,(Below.heap_setCell _ _ _ _ (by simp only; omega)).trans (Below.heap_alloc _ _ _ hk)⟩
 clear HX HKA HP HB HT_T HXW HLX;have HX:=HX2; have HKA:=HKA2; have HP:=HP2; have HB:=HB2;clear HX2 HKA2 HP2 HB2;generalize ((w5.alloc (.cells T 31)).setCell ⟨X,4,none⟩ (.slice (some ⟨w5.heap.size,0,none⟩) 1 1))=w6 at*;generalize w5.heap.size=K6 at*;obtain ⟨ux,rx,hl⟩:=HP.out.ends.cons;have hex:=expect_any (bytes [59]) ux rx P w6 (by rw [← hl]; exact HP.out)
 rw [← hl] at hex;have HEX:=zH hex;clear hex hl;rcases hq:expT (bytes [59]) l4 with y | ⟨v2,l5⟩
 ·have HRE:=zH (HRT.out.trans (thenT_err hq))
  rw [hq] at HEX;clear hq HRT;go_wp2_with fail;refine HEX.out.mono ?_;rintro e wE ⟨hbE,rfl⟩;have HBE:=zH (HB.out.trans hbE);clear hbE HEX;go_wp2_with fail;exact ⟨rfl,PaR.bad HRE.out HBE.out⟩
 have HRT2:=zH (HRT.out.trans (thenT_ok hq))
 have HLE_l5:Hid (l5.length < (l4).length):=expT_shr _ _ _ _ hq
 rw [hq] at HEX;clear hq HRT;have HRT:=HRT2;clear HRT2;have hf2:=tk_f2 v2.kind v2.at_ ⟨v2.text.toArray⟩;go_wp2_with fail;refine HEX.out.mono ?_;rintro e w7 ⟨hbN,heN,hpN⟩;unfold TkR tkV at heN;subst heN;clear HEX;have HP2:=zH hpN;have HB2:=zH (HB.out.trans hbN)
 have HKA2:Hid (Blk w7 A 31 #[.int .i64 0,.string ⟨#[]⟩,.int .i64 0,.slice none 0 0,.slice none 0 0,.int .i64 0]):=hbN.blk HKA.out (HP.out.apart HKA.out (by decide))
 have HX2:Hid (Blk w7 X 31 #[.int .i64 kind,.string ⟨nm.toArray⟩,.int .i64 0,.slice none 0 0,.slice (some ⟨K6,0,none⟩) 1 1,.int .i64 (pos:Nat)]):=hbN.blk HX.out (HP.out.apart HX.out (by decide))
 have HF2:Hid (FRow (maskW (frS (X+1)) w7) (.slice (some ⟨K6,0,none⟩) 1 1) (x.one)):=HF.out.sub (MSub.csub fun k hk hS=>⟨hS,hbN.block k hk (by have h1:=HXP.out; simp only [frS,decide_eq_true_eq] at hS; omega)⟩)
 clear hpN hbN HP HB HKA HF HX;have HF:=HF2;clear HF2;have HP:=HP2; have HB:=HB2; have HKA:=HKA2; have HX:=HX2;clear HP2 HB2 HKA2 HX2;have HRE:Hid (R=.ok ((hdT kind nm 0 pos,x.one),l5)):=HRT.out
 go_wp2_with (first | ((with_reducible show wpList _ _ _ (⟨_,Op.load _ _,_,_,_,_⟩::_) _ _); refine wpList_load_row rfl 31 (.tmp 9) rfl X (by rfl) 31 #[.int .i64 kind,.string ⟨nm.toArray⟩,.int .i64 0,.slice none 0 0,.slice (some ⟨K6,0,none⟩) 1 1,.int .i64 (pos:Nat)] (0,0) _ (by exact HX.out) Tryz.underlying31 rfl (by exact syn_info) ?_) | ((with_reducible show wpList _ _ _ (⟨_,Op.store _ _ _,_,_,_,_⟩::_) _ _); refine wpList_store_rowTo rfl 31 (.tmp 8) (.tmp 25) rfl rfl A #[.int .i64 kind,.string ⟨nm.toArray⟩,.int .i64 0,.slice none 0 0,.slice (some ⟨K6,0,none⟩) 1 1,.int .i64 (pos:Nat)] (by rfl) (by rfl) 31 _ (by exact HKA.out) (by exact syn_info) (by rfl) (by simp [Value.oneCell']) ?_))
 refine bodyPost_ret (results_cell_row rfl _ _ A 31 _ (0,0) _ rfl (HKA.out.rset #[.int .i64 kind,.string ⟨nm.toArray⟩,.int .i64 0,.slice none 0 0,.slice (some ⟨K6,0,none⟩) 1 1,.int .i64 (pos:Nat)]) Tryz.underlying31 rfl syn_info) rfl (PaR.good HRE.out ?_ ⟨_,rfl,?_⟩ ?_)
 ·exact HB.out.rset_new (Nat.le_of_eq HWA.out) _
 ·exact ndv_mk (hdT kind nm 0 pos) x.one rfl rfl (nmrow_nil _) (HF.out.sub (MSub.csub fun k hk hS=>⟨by have h1:=HXA.out; have h2:=HWA.out; simp only [frS,decide_eq_true_eq] at hS ⊢; omega,heap_rset_ne _ A k _ (by have h1:=HXA.out; simp only [frS,decide_eq_true_eq] at hS; omega)⟩))
 ·exact HP.out.rset hlt.out _
end Go.Proofs.YtbaidkefobhipaaGreatDoor
