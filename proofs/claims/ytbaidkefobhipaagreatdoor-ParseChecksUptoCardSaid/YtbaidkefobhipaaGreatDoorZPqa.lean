/-
  Walk: the parser's function, with what its block answers. (Printed by gen_pq.py.)
-/
import Derived.Test.YtbaidkefobhipaaGreatDoorZPna
namespace Go.Proofs.YtbaidkefobhipaaGreatDoor
set_option maxHeartbeats 16000000
set_option maxRecDepth 100000
open Go.RowKit

theorem parL_end (n:Nat) (acc:List (List UInt8)) (l:List Tk) (hn:l.length≤n) (hl:l≠[]) (h:isT (bytes [41]) l=true):parL n acc l=.ok (acc,l.tail):=by
 cases n with
 | zero=>cases l with
  | nil=>exact absurd rfl hl
  | cons _ _=>simp at hn
 | succ n=>simp only [parL]; rw [if_pos h]
theorem parL_go (n:Nat) (acc:List (List UInt8)) (l:List Tk) (h:isT (bytes [41]) l=false):parL (n+1) acc l=thenT (if acc.length=0 then .ok ((),l) else thenT (expT (bytes [44]) l) fun _ l2=>.ok ((),l2)) fun _ l2=>thenT (namT l2) fun x l3=>parL n (acc++[x]) l3:=by
 simp only [parL];rw [if_neg (by rw [h]; decide)]
theorem namT_shr:Shr namT:=by
 intro l a l' h
 cases l with
 | nil=>simp [namT] at h
 | cons t r=>
  simp only [namT] at h;split at h
  ·cases h; simp
  ·cases h

theorem fun_any (L:Nat) (hL:L≤64) (st:Pa Nd) (hbk:OpOk 57 [.int .i64 ((L:Int)+1)] (blkP st)):OpOk 59 [.int .i64 (L:Nat)] (funP st):=by
 intro P l w hp;have HKA0:=zH (Blk.new w 31 zSyn);have HBA:=zH ((Below.refl w.heap.size w).alloc (Nat.le_refl _) (.cells zSyn 31));have HPW:=zH hp;have hlt:=zH hp.lt;clear hp;have HBK:=zH hbk;clear hbk;have hwL:IntKind.i64.wrap ((L:Int)+1)=(L:Int)+1:=IntWalk.i64_in _ (by omega)
 obtain ⟨R,hR⟩:∃R,funP st l=R:=⟨_,rfl⟩
 rw [hR];have HRT:Hid (R=thenT (expT (bytes [102,110]) l) fun t l2=>thenT (namT l2) fun n l3=>thenT (expT (bytes [40]) l3) fun _ l4=>
 thenT (parL (l4.length+1) [] l4) fun ps l5=>thenT (blkP st l5) fun b l6=>.ok ((⟨26,n,0,ps,(t.at_:Int)⟩,b.one),l6)):=by show _=_; rw [← hR]; rfl
 clear hR;unfold zSyn at HKA0 HBA;show Calls _ _ #[_,_] _ _
 go_enter Tryz.func59,Tryz.ntmps59
 go_upto_region 1 with fail
 generalize w.alloc (.cells #[.int .i64 0,.string ⟨#[]⟩,.int .i64 0,.slice none 0 0,.slice none 0 0,.int .i64 0] 31)=wa at*;generalize hA:w.heap.size=A at*;have HWA:=zH hA;clear hA;have HB:Hid (But P w wa):=But.of_below (by rw [HWA.out]; exact HBA.out)
 have HP:Hid (PsW wa P l):=HPW.out.below (by rw [HWA.out]; exact HBA.out)
 have HKA:=HKA0
 clear HKA0 HBA;obtain ⟨ux,rx,hl⟩:=HP.out.ends.cons;have hex:=expect_any (bytes [102,110]) ux rx P wa (by rw [← hl]; exact HP.out)
 rw [← hl] at hex;have HEX:=zH hex;clear hex hl;rcases hq:expT (bytes [102,110]) l with y | ⟨t,l2⟩
 ·have HRE:=zH (HRT.out.trans (thenT_err hq))
  rw [hq] at HEX;clear hq HRT;go_wp2_with fail;refine HEX.out.mono ?_;rintro e wE ⟨hbE,rfl⟩;have HBE:=zH (HB.out.trans hbE);clear hbE HEX;go_wp2_with fail;exact ⟨rfl,PaR.bad HRE.out HBE.out⟩
 have HRT2:=zH (HRT.out.trans (thenT_ok hq))
 have HLE_l2:Hid (l2.length < (l).length):=expT_shr _ _ _ _ hq
 rw [hq] at HEX;clear hq HRT;have HRT:=HRT2;clear HRT2;have hf2:=tk_f2 t.kind t.at_ ⟨t.text.toArray⟩;go_wp2_with fail;refine HEX.out.mono ?_;rintro e w2 ⟨hbN,heN,hpN⟩;unfold TkR tkV at heN;subst heN;clear HEX;have HP2:=zH hpN;have HB2:=zH (HB.out.trans hbN)
 have HKA2:Hid (Blk w2 A 31 #[.int .i64 0,.string ⟨#[]⟩,.int .i64 0,.slice none 0 0,.slice none 0 0,.int .i64 0]):=hbN.blk HKA.out (HP.out.apart HKA.out (by decide))
 clear hpN hbN HP HB HKA;have HP:=HP2; have HB:=HB2; have HKA:=HKA2;clear HP2 HB2 HKA2;go_upto_region 2 with fail
 have HX:=zH (Blk.new w2 31 #[.int .i64 26,.string ⟨#[]⟩,.int .i64 0,.slice none 0 0,.slice none 0 0,.int .i64 t.at_])
 have HKA2:=zH (HKA.out.alloc (.cells #[.int .i64 26,.string ⟨#[]⟩,.int .i64 0,.slice none 0 0,.slice none 0 0,.int .i64 t.at_] 31))
 have HP2:Hid (PsW (w2.alloc (.cells #[.int .i64 26,.string ⟨#[]⟩,.int .i64 0,.slice none 0 0,.slice none 0 0,.int .i64 t.at_] 31)) P _):=HP.out.below ((Below.refl w2.heap.size w2).alloc (Nat.le_refl _) _)
 have HB2:=zH (HB.out.alloc (.cells #[.int .i64 26,.string ⟨#[]⟩,.int .i64 0,.slice none 0 0,.slice none 0 0,.int .i64 t.at_] 31))
 have HXA:=zH HKA.out.lt
 have HXP:Hid (P < w2.heap.size):=HP.out.lt
 clear HP HB HKA;have HP:=HP2; have HB:=HB2; have HKA:=HKA2;clear HP2 HB2 HKA2;generalize w2.alloc (.cells #[.int .i64 26,.string ⟨#[]⟩,.int .i64 0,.slice none 0 0,.slice none 0 0,.int .i64 t.at_] 31)=w3 at*;generalize w2.heap.size=X at*;obtain ⟨ux,rx,hl⟩:=HP.out.ends.cons;have hex:=pname_any ux rx P w3 (by rw [← hl]; exact HP.out)
 rw [← hl] at hex;have HEX:=zH hex;clear hex hl;rcases hq:namT l2 with y | ⟨nm,l3⟩
 ·have HRE:=zH (HRT.out.trans (thenT_err hq))
  rw [hq] at HEX;clear hq HRT;go_wp2_with fail;refine HEX.out.mono ?_;rintro e wE ⟨hbE,rfl⟩;have HBE:=zH (HB.out.trans hbE);clear hbE HEX;go_wp2_with fail;exact ⟨rfl,PaR.bad HRE.out HBE.out⟩
 have HRT2:=zH (HRT.out.trans (thenT_ok hq))
 rw [hq] at HEX;clear hq HRT;have HRT:=HRT2;clear HRT2;go_wp2_with fail;refine HEX.out.mono ?_;rintro e w4 ⟨hbN,heN,hpN⟩;unfold TxR at heN;subst heN;clear HEX;have HP2:=zH hpN;have HB2:=zH (HB.out.trans hbN);have HKA2:Hid (Blk w4 A 31 #[.int .i64 0,.string ⟨#[]⟩,.int .i64 0,.slice none 0 0,.slice none 0 0,.int .i64 0]):=hbN.blk HKA.out (HP.out.apart HKA.out (by decide))
 have HX2:Hid (Blk w4 X 31 #[.int .i64 26,.string ⟨#[]⟩,.int .i64 0,.slice none 0 0,.slice none 0 0,.int .i64 t.at_]):=hbN.blk HX.out (HP.out.apart HX.out (by decide))
 clear hpN hbN HP HB HKA HX;have HP:=HP2; have HB:=HB2; have HKA:=HKA2; have HX:=HX2;clear HP2 HB2 HKA2 HX2;have x1:w4.cell? ⟨X,1,none⟩=some (.string ⟨#[]⟩):=HX.out.cell 1;have f1:w4.frozen? ⟨X,1,none⟩=false:=HX.out.frozen 1;go_upto_region 3 with fail
 have HX2:Hid (Blk (w4.setCell ⟨X,1,none⟩ (.string ⟨nm.toArray⟩)) X 31 #[.int .i64 26,.string ⟨nm.toArray⟩,.int .i64 0,.slice none 0 0,.slice none 0 0,.int .i64 t.at_]):=HX.out.put 1 _
 have HKA2:Hid (Blk (w4.setCell ⟨X,1,none⟩ (.string ⟨nm.toArray⟩)) A 31 #[.int .i64 0,.string ⟨#[]⟩,.int .i64 0,.slice none 0 0,.slice none 0 0,.int .i64 0]):=HKA.out.other (p:=⟨X,1,none⟩) (Nat.ne_of_lt HXA.out) _
 have HP2:Hid (PsW (w4.setCell ⟨X,1,none⟩ (.string ⟨nm.toArray⟩)) P l3):=HP.out.put HXP.out 1 _
 have HB2:Hid (But P w (w4.setCell ⟨X,1,none⟩ (.string ⟨nm.toArray⟩))):=HB.out.put_new (by have h1:=HXA.out; have h2:=HWA.out; omega) 1 _
 clear HX HKA HP HB x1 f1;have HX:=HX2; have HKA:=HKA2; have HP:=HP2; have HB:=HB2;clear HX2 HKA2 HP2 HB2;generalize w4.setCell ⟨X,1,none⟩ (.string ⟨nm.toArray⟩)=w5 at*;obtain ⟨ux,rx,hl⟩:=HP.out.ends.cons;have hex:=expect_any (bytes [40]) ux rx P w5 (by rw [← hl]; exact HP.out)
 rw [← hl] at hex;have HEX:=zH hex;clear hex hl;rcases hq:expT (bytes [40]) l3 with y | ⟨v1,l4⟩
 ·have HRE:=zH (HRT.out.trans (thenT_err hq))
  rw [hq] at HEX;clear hq HRT;go_wp2_with fail;refine HEX.out.mono ?_;rintro e wE ⟨hbE,rfl⟩;have HBE:=zH (HB.out.trans hbE);clear hbE HEX;go_wp2_with fail;exact ⟨rfl,PaR.bad HRE.out HBE.out⟩
 have HRT2:=zH (HRT.out.trans (thenT_ok hq))
 have HLE_l4:Hid (l4.length < (l3).length):=expT_shr _ _ _ _ hq
 rw [hq] at HEX;clear hq HRT;have HRT:=HRT2;clear HRT2;have hf2:=tk_f2 v1.kind v1.at_ ⟨v1.text.toArray⟩;go_wp2_with fail;refine HEX.out.mono ?_;rintro e w6 ⟨hbN,heN,hpN⟩;unfold TkR tkV at heN;subst heN;clear HEX;have HP2:=zH hpN;have HB2:=zH (HB.out.trans hbN)
 have HKA2:Hid (Blk w6 A 31 #[.int .i64 0,.string ⟨#[]⟩,.int .i64 0,.slice none 0 0,.slice none 0 0,.int .i64 0]):=hbN.blk HKA.out (HP.out.apart HKA.out (by decide))
 have HX2:Hid (Blk w6 X 31 #[.int .i64 26,.string ⟨nm.toArray⟩,.int .i64 0,.slice none 0 0,.slice none 0 0,.int .i64 t.at_]):=hbN.blk HX.out (HP.out.apart HX.out (by decide))
 clear hpN hbN HP HB HKA HX;have HP:=HP2; have HB:=HB2; have HKA:=HKA2; have HX:=HX2;clear HP2 HB2 HKA2 HX2;obtain ⟨RB,hRB⟩:∃RB,parL (l4.length+1) [] l4=RB:=⟨_,rfl⟩;have HRB:=zH hRB;have HR2:Hid (R=thenT RB fun ps l5=>thenT (blkP st l5) fun b l6=>.ok ((⟨26,nm,0,ps,(t.at_:Int)⟩,b.one),l6)):=by show _=_; rw [HRT.out,hRB]
 clear hRB HRT;have HNR:Hid (NRow (frS (X+1)) w6 (X+1) (.slice none 0 0) []):=nrow_nil _ _ _;go_wp2_with fail
 go_loopw [15] (fun _ wr=>∃(l:List Tk) (acc:List (List UInt8)) (n:Nat) (x:Option Addr) (a c:Nat),Hid (acc.length=a)∧Hid (PsW wr P l)∧Hid (But P w wr)∧Hid (Blk wr X 31 #[.int .i64 26,.string ⟨nm.toArray⟩,.int .i64 0,.slice x a c,.slice none 0 0,.int .i64 t.at_])∧Hid (NRow (frS (X+1)) wr (X+1) (.slice x a c) acc)∧Hid (Blk wr A 31 #[.int .i64 0,.string ⟨#[]⟩,.int .i64 0,.slice none 0 0,.slice none 0 0,.int .i64 0])∧Hid (parL n acc l=RB)∧Hid (l.length≤n)∧Hid (a+l.length≤4097)) (fun _ wr=>lenOf P wr)
 case atStart=>exact ⟨l4,[],_,none,0,0,rfl,HP.out,HB.out,HX.out,HNR.out,HKA.out,HRB.out,by show _≤_; omega,by have:=HP.out.le; show _≤_; omega⟩
 case round=>
  clear HP HX HKA HB HNR HRB;obtain ⟨l1,acc,m,x,a,c,hacc,HP,HB,HX,HNR,HKA,hr,hm,hln⟩:=hrel;have ha:a≤4097:=by have:=hln.out; omega
  have HLN:Hid (lenOf P wr=l1.length):=HP.out.len
  obtain ⟨ux,rx,hl⟩:=HP.out.ends.cons
  have hbb:=(Below.refl wr.heap.size wr).alloc (Nat.le_refl _) (.cells #[.string ⟨#[41]⟩] 9)
  have HBB:=zH hbb
  have his:Calls Tryz.prog 52 #[.pointer (some ⟨P,0,none⟩),.slice (some ⟨wr.heap.size,0,none⟩) 1 1] (wr.alloc (.cells #[.string ⟨#[41]⟩] 9)) fun e w'=>e=.returned (.bool (isT (bytes [41]) (ux::rx)))∧Below (wr.alloc (.cells #[.string ⟨#[41]⟩] 9)).heap.size (wr.alloc (.cells #[.string ⟨#[41]⟩] 9)) w':=is_one (bytes [41]) _ ux rx P _ (by rw [← hl]; exact HP.out.below hbb) (Blk.new wr 9 #[.string ⟨#[41]⟩])
  rw [← hl] at his;obtain ⟨q,hq⟩:∃q,isT (bytes [41]) (l1)=q:=⟨_,rfl⟩;rw [hq] at his;have HIS:=zH his;have HQq:=zH hq;clear hbb hq his hl;go_wp2_with fail;generalize wr.alloc (.cells #[.string ⟨#[41]⟩] 9)=wb at*;refine HIS.out.mono ?_;rintro e w8 ⟨rfl,hb2⟩;have hbw:=HBB.out.trans (hb2.mono HBB.out.size);have hbN:But P wr w8:=But.of_below hbw;have hpN:=HP.out.below hbw;clear hb2 HBB HIS hbw
  have HP2:=zH hpN
  have HB2:=zH (HB.out.trans hbN)
  have HKA2:Hid (Blk w8 A 31 #[.int .i64 0,.string ⟨#[]⟩,.int .i64 0,.slice none 0 0,.slice none 0 0,.int .i64 0]):=hbN.blk HKA.out (HP.out.apart HKA.out (by decide))
  have HX2:Hid (Blk w8 X 31 #[.int .i64 26,.string ⟨nm.toArray⟩,.int .i64 0,.slice x a c,.slice none 0 0,.int .i64 t.at_]):=hbN.blk HX.out (HP.out.apart HX.out (by decide))
  have HNR2:Hid (NRow (frS (X+1)) w8 (X+1) (.slice x a c) acc):=HNR.out.keep fun k hk hS=>⟨hS,hbN.block k hk (by have h1:=HXP.out; simp only [frS,decide_eq_true_eq] at hS; omega)⟩
  clear hpN hbN HP HB HKA HX HNR;have HP:=HP2; have HB:=HB2; have HKA:=HKA2; have HX:=HX2; have HNR:=HNR2;clear HP2 HB2 HKA2 HX2 HNR2
  cases q with
  | true=>
   have HRT:Hid (R=thenT (blkP st l1.tail) fun b l6=>.ok ((⟨26,nm,0,acc,(t.at_:Int)⟩,b.one),l6)):=by
    show _=_
    rw [HR2.out,← hr.out,parL_end m acc l1 hm.out (by rintro rfl; exact absurd HP.out.ends (by simp [EndL])) HQq.out]
    rfl
   clear HR2 hr;obtain ⟨ux,rx,hl⟩:=HP.out.ends.cons;have hkx:ux.kind≠0:=isT_kind (s:=bytes [41]) (r:=rx) (by rw [← hl]; exact HQq.out)
   have htk:=take_any ux rx P w8 (by rw [← hl]; exact HP.out) hkx
   have htl:rx=(l1).tail:=by rw [hl]; rfl
   rw [htl] at htk;have HTK:=zH htk;have HLT:Hid ((l1).tail.length < (l1).length):=by show _ < _; rw [hl]; simp
   unfold tkV at HTK;clear htk htl hkx hl;go_wp2_with fail;refine HTK.out.mono ?_;rintro e w9 ⟨rfl,hpN,hbN⟩;clear HTK;have HP2:=zH hpN;have HB2:=zH (HB.out.trans hbN);have HKA2:Hid (Blk w9 A 31 #[.int .i64 0,.string ⟨#[]⟩,.int .i64 0,.slice none 0 0,.slice none 0 0,.int .i64 0]):=hbN.blk HKA.out (HP.out.apart HKA.out (by decide))
   have HX2:Hid (Blk w9 X 31 #[.int .i64 26,.string ⟨nm.toArray⟩,.int .i64 0,.slice x a c,.slice none 0 0,.int .i64 t.at_]):=hbN.blk HX.out (HP.out.apart HX.out (by decide))
   have HNR2:Hid (NRow (frS (X+1)) w9 (X+1) (.slice x a c) acc):=HNR.out.keep fun k hk hS=>⟨hS,hbN.block k hk (by have h1:=HXP.out; simp only [frS,decide_eq_true_eq] at hS; omega)⟩
   clear hpN hbN HP HB HKA HX HNR;have HP:=HP2; have HB:=HB2; have HKA:=HKA2; have HX:=HX2; have HNR:=HNR2;clear HP2 HB2 HKA2 HX2 HNR2;have HLX:Hid (X < w9.heap.size):=HX.out.lt;have HEX:=zH (HBK.out P l1.tail w9 HP.out);have HSZ_T:=zH (Nat.le_refl w9.heap.size);rcases hq:blkP st l1.tail with y | ⟨b,l6⟩
   ·have HRE:=zH (HRT.out.trans (thenT_err hq))
    rw [hq] at HEX;clear hq HRT;go_wp2_with fail;refine HEX.out.mono ?_;rintro e wE ⟨hbE,rfl⟩;have HBE:=zH (HB.out.trans hbE);clear hbE HEX;go_wp2_with fail;exact ⟨rfl,PaR.bad HRE.out HBE.out⟩
   have HRT2:=zH (HRT.out.trans (thenT_ok hq))
   rw [hq] at HEX;clear hq HRT;have HRT:=HRT2;clear HRT2;go_wp2_with fail;refine HEX.out.mono ?_;rintro e w10 ⟨hbN,⟨T,rfl,hT⟩,hpN⟩;have HT_T:=zH hT;clear HEX hT HSZ_T;have HP2:=zH hpN;have HB2:=zH (HB.out.trans hbN);have HKA2:Hid (Blk w10 A 31 #[.int .i64 0,.string ⟨#[]⟩,.int .i64 0,.slice none 0 0,.slice none 0 0,.int .i64 0]):=hbN.blk HKA.out (HP.out.apart HKA.out (by decide))
   have HX2:Hid (Blk w10 X 31 #[.int .i64 26,.string ⟨nm.toArray⟩,.int .i64 0,.slice x a c,.slice none 0 0,.int .i64 t.at_]):=hbN.blk HX.out (HP.out.apart HX.out (by decide))
   have HNR2:Hid (NRow (frS (X+1)) w10 (X+1) (.slice x a c) acc):=HNR.out.keep fun k hk hS=>⟨hS,hbN.block k hk (by have h1:=HXP.out; simp only [frS,decide_eq_true_eq] at hS; omega)⟩
   clear hpN hbN HP HB HKA HX HNR;have HP:=HP2; have HB:=HB2; have HKA:=HKA2; have HX:=HX2; have HNR:=HNR2;clear HP2 HB2 HKA2 HX2 HNR2;have x4:∀o,(w10.alloc o).cell? ⟨X,4,none⟩=some (.slice none 0 0):=fun o=>(HX.out.alloc o).cell 4
   have x4f:∀o,(w10.alloc o).frozen? ⟨X,4,none⟩=false:=fun o=>(HX.out.alloc o).frozen 4
   go_upto_region 10 with ((with_reducible show wpList _ _ _ (⟨_,Op.buildSlice _ _ _,_,_,_,_⟩::_) _ _); refine wpList_oneN el_syn rfl rfl (T:=T) (by exact HT_T.out.size) (by rfl) ?_)
   have HNR2:Hid (NRow (frS (X+1)) ((w10.alloc (.cells T 31)).setCell ⟨X,4,none⟩ (.slice (some ⟨w10.heap.size,0,none⟩) 1 1)) (X+1) (.slice x a c) acc):=HNR.out.keep (fun k hk hS=>⟨hS,(Below.heap_setCell _ _ _ _ (by simp only [frS,decide_eq_true_eq] at hS; simp only; omega)).trans (Below.heap_alloc _ _ _ hk)⟩)
   clear HNR x4 x4f;have HX2:Hid (Blk ((w10.alloc (.cells T 31)).setCell ⟨X,4,none⟩ (.slice (some ⟨w10.heap.size,0,none⟩) 1 1)) X 31 #[.int .i64 26,.string ⟨nm.toArray⟩,.int .i64 0,.slice x a c,.slice (some ⟨w10.heap.size,0,none⟩) 1 1,.int .i64 t.at_]):=(HX.out.alloc _).put 4 _
   have HKA2:Hid (Blk ((w10.alloc (.cells T 31)).setCell ⟨X,4,none⟩ (.slice (some ⟨w10.heap.size,0,none⟩) 1 1)) A 31 #[.int .i64 0,.string ⟨#[]⟩,.int .i64 0,.slice none 0 0,.slice none 0 0,.int .i64 0]):=(HKA.out.alloc _).other (p:=⟨X,4,none⟩) (Nat.ne_of_lt HXA.out) _
   have HP2:Hid (PsW ((w10.alloc (.cells T 31)).setCell ⟨X,4,none⟩ (.slice (some ⟨w10.heap.size,0,none⟩) 1 1)) P _):=(HP.out.below ((Below.refl w10.heap.size w10).alloc (Nat.le_refl _) (.cells T 31))).put HXP.out 4 (.slice (some ⟨w10.heap.size,0,none⟩) 1 1)
   have HB2:Hid (But P w ((w10.alloc (.cells T 31)).setCell ⟨X,4,none⟩ (.slice (some ⟨w10.heap.size,0,none⟩) 1 1))):=(HB.out.alloc _).put_new (by have h1:=HXA.out; have h2:=HWA.out; omega) 4 _
   have HXW:Hid (X < w10.heap.size):=HX.out.lt
   have HF:Hid (FRow (maskW (frS (X+1)) ((w10.alloc (.cells T 31)).setCell ⟨X,4,none⟩ (.slice (some ⟨w10.heap.size,0,none⟩) 1 1))) (.slice (some ⟨w10.heap.size,0,none⟩) 1 1) b.one):=by
    have h1:=HLX.out; have h2:=HXW.out
    refine frow_blk (F:=b.one) ((Blk.new w10 31 T).other (p:=⟨X,4,none⟩) (Nat.ne_of_gt h2) _) (by simp only [frS,decide_eq_true_eq]; omega) (FCl.one (HT_T.out.sub (MSub.csub fun k hk hS=>?_))) (by show 1≤100; decide)
    simp only [frS,decide_eq_true_eq] at hS ⊢;exact ⟨by omega,(Below.heap_setCell _ _ _ _ (by simp only; omega)).trans (Below.heap_alloc _ _ _ hk)⟩
   clear HX HKA HP HB HT_T HXW HLX;have HX:=HX2; have HKA:=HKA2; have HP:=HP2; have HB:=HB2;clear HX2 HKA2 HP2 HB2;generalize ((w10.alloc (.cells T 31)).setCell ⟨X,4,none⟩ (.slice (some ⟨w10.heap.size,0,none⟩) 1 1))=w11 at*;generalize w10.heap.size=K6 at*;have HRE:Hid (R=.ok ((⟨26,nm,0,acc,(t.at_:Int)⟩,b.one),l6)):=HRT.out
   have HNM:Hid (NmRow (maskW (frS (X+1)) w11) (.slice x a c) acc):=by have h1:=HNR2.out.row; exact h1
   go_wp2_with (first | ((with_reducible show wpList _ _ _ (⟨_,Op.load _ _,_,_,_,_⟩::_) _ _); refine wpList_load_row rfl 31 (.tmp 5) rfl X (by rfl) 31 #[.int .i64 26,.string ⟨nm.toArray⟩,.int .i64 0,.slice x a c,.slice (some ⟨K6,0,none⟩) 1 1,.int .i64 t.at_] (0,0) _ (by exact HX.out) Tryz.underlying31 rfl (by exact syn_info) ?_) | ((with_reducible show wpList _ _ _ (⟨_,Op.store _ _ _,_,_,_,_⟩::_) _ _); refine wpList_store_rowTo rfl 31 (.tmp 4) (.tmp 40) rfl rfl A #[.int .i64 26,.string ⟨nm.toArray⟩,.int .i64 0,.slice x a c,.slice (some ⟨K6,0,none⟩) 1 1,.int .i64 t.at_] (by rfl) (by rfl) 31 _ (by exact HKA.out) (by exact syn_info) (by rfl) (by simp [Value.oneCell']) ?_))
   refine bodyPost_ret (results_cell_row rfl _ _ A 31 _ (0,0) _ rfl (HKA.out.rset #[.int .i64 26,.string ⟨nm.toArray⟩,.int .i64 0,.slice x a c,.slice (some ⟨K6,0,none⟩) 1 1,.int .i64 t.at_]) Tryz.underlying31 rfl syn_info) rfl (PaR.good HRE.out ?_ ⟨_,rfl,?_⟩ ?_)
   ·exact HB.out.rset_new (Nat.le_of_eq HWA.out) _
   ·exact ndv_mk ⟨26,nm,0,acc,(t.at_:Int)⟩ b.one hacc.out.symm rfl (HNM.out.sub (MSub.csub fun k hk hS=>⟨by have h1:=HXA.out; have h2:=HWA.out; simp only [frS,decide_eq_true_eq] at hS ⊢; omega,heap_rset_ne _ A k _ (by have h1:=HXA.out; simp only [frS,decide_eq_true_eq] at hS; omega)⟩)) (HF.out.sub (MSub.csub fun k hk hS=>⟨by have h1:=HXA.out; have h2:=HWA.out; simp only [frS,decide_eq_true_eq] at hS ⊢; omega,heap_rset_ne _ A k _ (by have h1:=HXA.out; simp only [frS,decide_eq_true_eq] at hS; omega)⟩))
   ·exact HP.out.rset hlt.out _
  | false=>
   obtain ⟨m',hm'⟩:∃k,m=k+1:=⟨m - 1,by have:=hm.out; have h2:=HP.out.ends.cons; obtain ⟨_,_,rfl⟩:=h2; simp at this; omega⟩
   have HRBB:Hid (RB=thenT (if a=0 then .ok ((),l1) else thenT (expT (bytes [44]) l1) fun _ l2=>.ok ((),l2)) fun _ l2=>thenT (namT l2) fun x l3=>parL m' (acc++[x]) l3):=by
    show _=_
    rw [← hr.out,hm',parL_go m' acc l1 HQq.out,hacc.out]
   have HM:Hid (l1.length≤m'+1):=by have:=hm.out; show _≤_; omega
   have k3:w8.cell? ⟨X,3,none⟩=some (.slice x a c):=HX.out.cell 3
   clear hr hm hm';by_cases h0:a=0
   ·have e0:decide (0 < a)=false:=by simp; omega
    have e1:¬ 0 < a:=by omega
    have HRB2:Hid (RB=thenT (namT l1) fun x l3=>parL m' (acc++[x]) l3):=by show _=_; rw [HRBB.out,if_pos h0]; rfl
    have HRT:Hid (R=thenT (namT l1) fun x l3=>thenT (parL m' (acc++[x]) l3) fun ps l5=>thenT (blkP st l5) fun b l6=>.ok ((⟨26,nm,0,ps,(t.at_:Int)⟩,b.one),l6)):=by
     show _=_
     rw [HR2.out,HRB2.out]
     cases namT l1 <;> rfl
    have HLQ:Hid (l1.length≤l1.length):=Nat.le_refl _
    clear h0 HRBB;go_upto_region 7 with fail
    clear k3;obtain ⟨ux,rx,hl⟩:=HP.out.ends.cons;have hcon:=pname_any ux rx P w8.drew (by rw [← hl]; exact HP.out.drew)
    rw [← hl] at hcon;have HCON:=zH hcon;clear hcon hl;have HPD:Hid (PsW w8.drew P (l1)):=HP.out.drew;have HXD:Hid (Blk w8.drew X 31 #[.int .i64 26,.string ⟨nm.toArray⟩,.int .i64 0,.slice x a c,.slice none 0 0,.int .i64 t.at_]):=HX.out;have HAD:Hid (Blk w8.drew A 31 #[.int .i64 0,.string ⟨#[]⟩,.int .i64 0,.slice none 0 0,.slice none 0 0,.int .i64 0]):=HKA.out
    have HKD:Hid (NRow (frS (X+1)) w8.drew (X+1) (.slice x a c) acc):=HNR.out.keep (fun _ _ h=>⟨h,rfl⟩)
    have HBD:Hid (But P w w8.drew):=HB.out.drew
    have k4:w8.drew.cell? ⟨X,3,none⟩=some (.slice x a c):=HXD.out.cell 3
    clear HP HX HKA HNR HB;refine wp_region_held_drew (S:=fun _=>True) (by kernel_rfl) trivial (fun hS=>?_)
    refine zT 0 hS ?_;try simp only [Act.put,zs1,zs2,zs3]
    refine zT 2 hS ?_;try simp only [Act.put,zs1,zs2,zs3]
    refine zF 1 3 (fun K hK=>?saa3) (fun K hK=>?sba3)
    case saa3=>
     go_simp;refine hK.out _ _ trivial (fun _=>?_)
     clear hK K;try simp only [Act.put,zs1,zs2,zs3]
     refine zR 3 fun K hK=>?_
     go_simp;refine HCON.out.mono ?_;intro e w8 h;obtain ⟨hb8,h⟩:=h;have HB8:Hid (But P w w8):=HBD.out.trans hb8;rcases hRR:namT (l1) with y | ⟨x1,l4⟩
     ·rw [hRR] at h
      obtain rfl:=h
      have HRE:Hid (R=.error y):=by show _=_; rw [HRT.out,hRR]; rfl
      clear hRR hb8 HCON HRT;go_wp2_with fail;exact ⟨rfl,PaR.bad HRE.out HB8.out⟩
     rw [hRR] at h;obtain ⟨hte,hp8⟩:=h;unfold TxR at hte;subst hte;have HRR:=zH hRR;have HP8:=zH hp8;have HX8:Hid (Blk w8 X 31 #[.int .i64 26,.string ⟨nm.toArray⟩,.int .i64 0,.slice x a c,.slice none 0 0,.int .i64 t.at_]):=hb8.blk HXD.out (HPD.out.apart HXD.out (by decide))
     have HA8:Hid (Blk w8 A 31 #[.int .i64 0,.string ⟨#[]⟩,.int .i64 0,.slice none 0 0,.slice none 0 0,.int .i64 0]):=hb8.blk HAD.out (HPD.out.apart HAD.out (by decide))
     have HK8:Hid (NRow (frS (X+1)) w8 (X+1) (.slice x a c) acc):=HKD.out.keep (fun k hk hS=>⟨hS,hb8.block k hk (by have h1:=HXP.out; simp only [frS,decide_eq_true_eq] at hS; omega)⟩)
     have k48:w8.cell? ⟨X,3,none⟩=some (.slice x a c):=HX8.out.cell 3
     have k48a:(w8.alloc (.cells #[.string ⟨x1.toArray⟩] 9)).cell? ⟨X,3,none⟩=some (.slice x a c):=(HX8.out.alloc _).cell 3
     have HL8:Hid (X < w8.heap.size):=HX8.out.lt
     have HRTT:=HRT
     clear hRR hb8 HCON hp8 HRT;refine hK.out _ _ trivial (fun _=>?_)
     clear hK K;try simp only [Act.put,zs1,zs2,zs3]
     refine zR 4 fun K hK=>?_
     go_simp;refine hK.out _ _ trivial (fun _=>?_)
     clear hK K;try simp only [Act.put,zs1,zs2,zs3]
     refine zR 5 fun K hK=>?_
     refine pstep_appN (n:=a) el_str HK8.out hacc.out (fun k hk=>by have h1:=HL8.out; simp only [frS,decide_eq_true_eq]; omega) (by have h1:=HL8.out; omega) rfl rfl (by rfl) (by rfl) (by omega) (by unfold maxLen; omega) ?_
     intro rA capA w9 hk9 ho9;refine hK.out _ _ trivial (fun _=>?_)
     clear hK K;try simp only [Act.put,zs1,zs2,zs3]
     have HX9:Hid (Blk w9 X 31 #[.int .i64 26,.string ⟨nm.toArray⟩,.int .i64 0,.slice x a c,.slice none 0 0,.int .i64 t.at_]):=ho9.blk HX8.out (by simp [frS])
     have HP9:=zH (ho9.psw HP8.out (fun k hk=>by have h1:=HXP.out; simp only [frS,decide_eq_false_iff_not]; omega))
     have HB9:=zH (ho9.but HB8.out (fun k hk=>by have h1:=HXA.out; have h2:=HWA.out; simp only [frS,decide_eq_false_iff_not]; omega))
     have HA9:Hid (Blk w9 A 31 #[.int .i64 0,.string ⟨#[]⟩,.int .i64 0,.slice none 0 0,.slice none 0 0,.int .i64 0]):=ho9.blk HA8.out (by have h1:=HXA.out; simp only [frS,decide_eq_false_iff_not]; omega)
     have k49:w9.cell? ⟨X,3,none⟩=some (.slice x a c):=HX9.out.cell 3
     have f49:w9.frozen? ⟨X,3,none⟩=false:=HX9.out.frozen 3
     have HK9:=zH hk9
     clear hk9 ho9 HX8 HP8 HB8 HA8 HK8 k48 k48a;refine zT 6 hS ?_;try simp only [Act.put,zs1,zs2,zs3]
     refine zR 7 fun K hK=>?_
     go_simp;refine hK.out _ _ trivial (fun _=>?_)
     clear hK K;try simp only [Act.put,zs1,zs2,zs3]
     refine wpAnyH_done (by kernel_rfl) ?_ _
     have HP:Hid (PsW (w9.setCell ⟨X,3,none⟩ (.slice (some ⟨rA,0,none⟩) (a+1) capA)) P l4):=HP9.out.put HXP.out _ _
     have HB:Hid (But P w (w9.setCell ⟨X,3,none⟩ (.slice (some ⟨rA,0,none⟩) (a+1) capA))):=HB9.out.put_new (by have h1:=HXA.out; have h2:=HWA.out; omega) _ _
     have HX:Hid (Blk (w9.setCell ⟨X,3,none⟩ (.slice (some ⟨rA,0,none⟩) (a+1) capA)) X 31 #[.int .i64 26,.string ⟨nm.toArray⟩,.int .i64 0,.slice (some ⟨rA,0,none⟩) (a+1) capA,.slice none 0 0,.int .i64 t.at_]):=HX9.out.put 3 _
     have HNR:Hid (NRow (frS (X+1)) (w9.setCell ⟨X,3,none⟩ (.slice (some ⟨rA,0,none⟩) (a+1) capA)) (X+1) (.slice (some ⟨rA,0,none⟩) (a+1) capA) (acc++[x1])):=HK9.out.keep (fun k hk hS=>⟨hS,Below.heap_setCell _ _ _ _ (by simp only [frS,decide_eq_true_eq] at hS; simp only; omega)⟩)
     have HKA:Hid (Blk (w9.setCell ⟨X,3,none⟩ (.slice (some ⟨rA,0,none⟩) (a+1) capA)) A 31 #[.int .i64 0,.string ⟨#[]⟩,.int .i64 0,.slice none 0 0,.slice none 0 0,.int .i64 0]):=HA9.out.other (p:=⟨X,3,none⟩) (Nat.ne_of_lt HXA.out) _
     clear HP9 HB9 HX9 HK9 HA9 k49 f49;generalize w9.setCell ⟨X,3,none⟩ (.slice (some ⟨rA,0,none⟩) (a+1) capA)=wc at*;have HRN:Hid (parL m' (acc++[x1]) l4=RB):=by show _=_; rw [HRB2.out,HRR.out]; rfl
     have HLL:Hid (l4.length < l1.length):=by have h1:=HLQ.out; have h2:=namT_shr _ _ _ HRR.out; show _ < _; omega
     have HM1:Hid (lenOf P wc < lenOf P wr):=by show _ < _; rw [HP.out.len,HLN.out]; exact HLL.out
     have HM2:Hid (l4.length≤m'):=by have h1:=HLL.out; have h2:=HM.out; show _≤_; omega
     have HM3:Hid (a+1+l4.length≤4097):=by have h1:=HLL.out; have h2:=hln.out; show _≤_; omega
     have HAC:Hid ((acc++[x1]).length=a+1):=by show _=_; rw [List.length_append,hacc.out]; rfl
     clear HRTT HRR;go_wp2_with fail;go_roundw
     case rel=>exact ⟨l4,acc++[x1],m',some ⟨rA,0,none⟩,a+1,capA,HAC.out,HP.out,HB.out,HX.out,HNR.out,HKA.out,HRN.out,HM2.out,HM3.out⟩
     case measure=>exact HM1.out
    case sba3=>
     go_simp;refine HCON.out.mono ?_;intro e w8 h;obtain ⟨hb8,h⟩:=h;have HB8:Hid (But P w w8):=HBD.out.trans hb8;rcases hRR:namT (l1) with y | ⟨x1,l4⟩
     ·rw [hRR] at h
      obtain rfl:=h
      have HRE:Hid (R=.error y):=by show _=_; rw [HRT.out,hRR]; rfl
      clear hRR hb8 HCON HRT;go_wp2_with fail;exact ⟨rfl,PaR.bad HRE.out HB8.out⟩
     rw [hRR] at h;obtain ⟨hte,hp8⟩:=h;unfold TxR at hte;subst hte;have HRR:=zH hRR;have HP8:=zH hp8;have HX8:Hid (Blk w8 X 31 #[.int .i64 26,.string ⟨nm.toArray⟩,.int .i64 0,.slice x a c,.slice none 0 0,.int .i64 t.at_]):=hb8.blk HXD.out (HPD.out.apart HXD.out (by decide))
     have HA8:Hid (Blk w8 A 31 #[.int .i64 0,.string ⟨#[]⟩,.int .i64 0,.slice none 0 0,.slice none 0 0,.int .i64 0]):=hb8.blk HAD.out (HPD.out.apart HAD.out (by decide))
     have HK8:Hid (NRow (frS (X+1)) w8 (X+1) (.slice x a c) acc):=HKD.out.keep (fun k hk hS=>⟨hS,hb8.block k hk (by have h1:=HXP.out; simp only [frS,decide_eq_true_eq] at hS; omega)⟩)
     have k48:w8.cell? ⟨X,3,none⟩=some (.slice x a c):=HX8.out.cell 3
     have k48a:(w8.alloc (.cells #[.string ⟨x1.toArray⟩] 9)).cell? ⟨X,3,none⟩=some (.slice x a c):=(HX8.out.alloc _).cell 3
     have HL8:Hid (X < w8.heap.size):=HX8.out.lt
     have HRTT:=HRT
     clear hRR hb8 HCON hp8 HRT;refine hK.out _ _ trivial (fun _=>?_)
     clear hK K;try simp only [Act.put,zs1,zs2,zs3]
     refine zF 1 4 (fun K hK=>?saa9) (fun K hK=>?sba9)
     case saa9=>
      go_simp;refine hK.out _ _ trivial (fun _=>?_)
      clear hK K;try simp only [Act.put,zs1,zs2,zs3]
      refine zR 4 fun K hK=>?_
      go_simp;refine hK.out _ _ trivial (fun _=>?_)
      clear hK K;try simp only [Act.put,zs1,zs2,zs3]
      refine zR 5 fun K hK=>?_
      refine pstep_appN (n:=a) el_str HK8.out hacc.out (fun k hk=>by have h1:=HL8.out; simp only [frS,decide_eq_true_eq]; omega) (by have h1:=HL8.out; omega) rfl rfl (by rfl) (by rfl) (by omega) (by unfold maxLen; omega) ?_
      intro rA capA w9 hk9 ho9;refine hK.out _ _ trivial (fun _=>?_)
      clear hK K;try simp only [Act.put,zs1,zs2,zs3]
      have HX9:Hid (Blk w9 X 31 #[.int .i64 26,.string ⟨nm.toArray⟩,.int .i64 0,.slice x a c,.slice none 0 0,.int .i64 t.at_]):=ho9.blk HX8.out (by simp [frS])
      have HP9:=zH (ho9.psw HP8.out (fun k hk=>by have h1:=HXP.out; simp only [frS,decide_eq_false_iff_not]; omega))
      have HB9:=zH (ho9.but HB8.out (fun k hk=>by have h1:=HXA.out; have h2:=HWA.out; simp only [frS,decide_eq_false_iff_not]; omega))
      have HA9:Hid (Blk w9 A 31 #[.int .i64 0,.string ⟨#[]⟩,.int .i64 0,.slice none 0 0,.slice none 0 0,.int .i64 0]):=ho9.blk HA8.out (by have h1:=HXA.out; simp only [frS,decide_eq_false_iff_not]; omega)
      have k49:w9.cell? ⟨X,3,none⟩=some (.slice x a c):=HX9.out.cell 3
      have f49:w9.frozen? ⟨X,3,none⟩=false:=HX9.out.frozen 3
      have HK9:=zH hk9
      clear hk9 ho9 HX8 HP8 HB8 HA8 HK8 k48 k48a;refine zT 6 hS ?_;try simp only [Act.put,zs1,zs2,zs3]
      refine zR 7 fun K hK=>?_
      go_simp;refine hK.out _ _ trivial (fun _=>?_)
      clear hK K;try simp only [Act.put,zs1,zs2,zs3]
      refine wpAnyH_done (by kernel_rfl) ?_ _
      have HP:Hid (PsW (w9.setCell ⟨X,3,none⟩ (.slice (some ⟨rA,0,none⟩) (a+1) capA)) P l4):=HP9.out.put HXP.out _ _
      have HB:Hid (But P w (w9.setCell ⟨X,3,none⟩ (.slice (some ⟨rA,0,none⟩) (a+1) capA))):=HB9.out.put_new (by have h1:=HXA.out; have h2:=HWA.out; omega) _ _
      have HX:Hid (Blk (w9.setCell ⟨X,3,none⟩ (.slice (some ⟨rA,0,none⟩) (a+1) capA)) X 31 #[.int .i64 26,.string ⟨nm.toArray⟩,.int .i64 0,.slice (some ⟨rA,0,none⟩) (a+1) capA,.slice none 0 0,.int .i64 t.at_]):=HX9.out.put 3 _
      have HNR:Hid (NRow (frS (X+1)) (w9.setCell ⟨X,3,none⟩ (.slice (some ⟨rA,0,none⟩) (a+1) capA)) (X+1) (.slice (some ⟨rA,0,none⟩) (a+1) capA) (acc++[x1])):=HK9.out.keep (fun k hk hS=>⟨hS,Below.heap_setCell _ _ _ _ (by simp only [frS,decide_eq_true_eq] at hS; simp only; omega)⟩)
      have HKA:Hid (Blk (w9.setCell ⟨X,3,none⟩ (.slice (some ⟨rA,0,none⟩) (a+1) capA)) A 31 #[.int .i64 0,.string ⟨#[]⟩,.int .i64 0,.slice none 0 0,.slice none 0 0,.int .i64 0]):=HA9.out.other (p:=⟨X,3,none⟩) (Nat.ne_of_lt HXA.out) _
      clear HP9 HB9 HX9 HK9 HA9 k49 f49;generalize w9.setCell ⟨X,3,none⟩ (.slice (some ⟨rA,0,none⟩) (a+1) capA)=wc at*;have HRN:Hid (parL m' (acc++[x1]) l4=RB):=by show _=_; rw [HRB2.out,HRR.out]; rfl
      have HLL:Hid (l4.length < l1.length):=by have h1:=HLQ.out; have h2:=namT_shr _ _ _ HRR.out; show _ < _; omega
      have HM1:Hid (lenOf P wc < lenOf P wr):=by show _ < _; rw [HP.out.len,HLN.out]; exact HLL.out
      have HM2:Hid (l4.length≤m'):=by have h1:=HLL.out; have h2:=HM.out; show _≤_; omega
      have HM3:Hid (a+1+l4.length≤4097):=by have h1:=HLL.out; have h2:=hln.out; show _≤_; omega
      have HAC:Hid ((acc++[x1]).length=a+1):=by show _=_; rw [List.length_append,hacc.out]; rfl
      clear HRTT HRR;go_wp2_with fail;go_roundw
      case rel=>exact ⟨l4,acc++[x1],m',some ⟨rA,0,none⟩,a+1,capA,HAC.out,HP.out,HB.out,HX.out,HNR.out,HKA.out,HRN.out,HM2.out,HM3.out⟩
      case measure=>exact HM1.out
     case sba9=>
      go_simp;refine hK.out _ _ trivial (fun _=>?_)
      clear hK K;try simp only [Act.put,zs1,zs2,zs3]
      refine zR 1 fun K hK=>?_
      go_simp;refine hK.out _ _ trivial (fun _=>?_)
      clear hK K;try simp only [Act.put,zs1,zs2,zs3]
      refine zR 5 fun K hK=>?_
      refine pstep_appN (n:=a) el_str HK8.out hacc.out (fun k hk=>by have h1:=HL8.out; simp only [frS,decide_eq_true_eq]; omega) (by have h1:=HL8.out; omega) rfl rfl (by rfl) (by rfl) (by omega) (by unfold maxLen; omega) ?_
      intro rA capA w9 hk9 ho9;refine hK.out _ _ trivial (fun _=>?_)
      clear hK K;try simp only [Act.put,zs1,zs2,zs3]
      have HX9:Hid (Blk w9 X 31 #[.int .i64 26,.string ⟨nm.toArray⟩,.int .i64 0,.slice x a c,.slice none 0 0,.int .i64 t.at_]):=ho9.blk HX8.out (by simp [frS])
      have HP9:=zH (ho9.psw HP8.out (fun k hk=>by have h1:=HXP.out; simp only [frS,decide_eq_false_iff_not]; omega))
      have HB9:=zH (ho9.but HB8.out (fun k hk=>by have h1:=HXA.out; have h2:=HWA.out; simp only [frS,decide_eq_false_iff_not]; omega))
      have HA9:Hid (Blk w9 A 31 #[.int .i64 0,.string ⟨#[]⟩,.int .i64 0,.slice none 0 0,.slice none 0 0,.int .i64 0]):=ho9.blk HA8.out (by have h1:=HXA.out; simp only [frS,decide_eq_false_iff_not]; omega)
      have k49:w9.cell? ⟨X,3,none⟩=some (.slice x a c):=HX9.out.cell 3
      have f49:w9.frozen? ⟨X,3,none⟩=false:=HX9.out.frozen 3
      have HK9:=zH hk9
      clear hk9 ho9 HX8 HP8 HB8 HA8 HK8 k48 k48a;refine zT 6 hS ?_;try simp only [Act.put,zs1,zs2,zs3]
      refine zR 7 fun K hK=>?_
      go_simp;refine hK.out _ _ trivial (fun _=>?_)
      clear hK K;try simp only [Act.put,zs1,zs2,zs3]
      refine wpAnyH_done (by kernel_rfl) ?_ _
      have HP:Hid (PsW (w9.setCell ⟨X,3,none⟩ (.slice (some ⟨rA,0,none⟩) (a+1) capA)) P l4):=HP9.out.put HXP.out _ _
      have HB:Hid (But P w (w9.setCell ⟨X,3,none⟩ (.slice (some ⟨rA,0,none⟩) (a+1) capA))):=HB9.out.put_new (by have h1:=HXA.out; have h2:=HWA.out; omega) _ _
      have HX:Hid (Blk (w9.setCell ⟨X,3,none⟩ (.slice (some ⟨rA,0,none⟩) (a+1) capA)) X 31 #[.int .i64 26,.string ⟨nm.toArray⟩,.int .i64 0,.slice (some ⟨rA,0,none⟩) (a+1) capA,.slice none 0 0,.int .i64 t.at_]):=HX9.out.put 3 _
      have HNR:Hid (NRow (frS (X+1)) (w9.setCell ⟨X,3,none⟩ (.slice (some ⟨rA,0,none⟩) (a+1) capA)) (X+1) (.slice (some ⟨rA,0,none⟩) (a+1) capA) (acc++[x1])):=HK9.out.keep (fun k hk hS=>⟨hS,Below.heap_setCell _ _ _ _ (by simp only [frS,decide_eq_true_eq] at hS; simp only; omega)⟩)
      have HKA:Hid (Blk (w9.setCell ⟨X,3,none⟩ (.slice (some ⟨rA,0,none⟩) (a+1) capA)) A 31 #[.int .i64 0,.string ⟨#[]⟩,.int .i64 0,.slice none 0 0,.slice none 0 0,.int .i64 0]):=HA9.out.other (p:=⟨X,3,none⟩) (Nat.ne_of_lt HXA.out) _
      clear HP9 HB9 HX9 HK9 HA9 k49 f49;generalize w9.setCell ⟨X,3,none⟩ (.slice (some ⟨rA,0,none⟩) (a+1) capA)=wc at*;have HRN:Hid (parL m' (acc++[x1]) l4=RB):=by show _=_; rw [HRB2.out,HRR.out]; rfl
      have HLL:Hid (l4.length < l1.length):=by have h1:=HLQ.out; have h2:=namT_shr _ _ _ HRR.out; show _ < _; omega
      have HM1:Hid (lenOf P wc < lenOf P wr):=by show _ < _; rw [HP.out.len,HLN.out]; exact HLL.out
      have HM2:Hid (l4.length≤m'):=by have h1:=HLL.out; have h2:=HM.out; show _≤_; omega
      have HM3:Hid (a+1+l4.length≤4097):=by have h1:=HLL.out; have h2:=hln.out; show _≤_; omega
      have HAC:Hid ((acc++[x1]).length=a+1):=by show _=_; rw [List.length_append,hacc.out]; rfl
      clear HRTT HRR;go_wp2_with fail;go_roundw
      case rel=>exact ⟨l4,acc++[x1],m',some ⟨rA,0,none⟩,a+1,capA,HAC.out,HP.out,HB.out,HX.out,HNR.out,HKA.out,HRN.out,HM2.out,HM3.out⟩
      case measure=>exact HM1.out
   ·have e0:decide (0 < a)=true:=by simp; omega
    have e1:0 < a:=by omega
    have HRT:Hid (R=thenT (expT (bytes [44]) l1) fun _ l2=>thenT (namT l2) fun x l3=>thenT (parL m' (acc++[x]) l3) fun ps l5=>thenT (blkP st l5) fun b l6=>.ok ((⟨26,nm,0,ps,(t.at_:Int)⟩,b.one),l6)):=by
     show _=_
     rw [HR2.out,HRBB.out,if_neg h0]
     cases expT (bytes [44]) l1 with
     | error _=>rfl
     | ok y=>
      obtain ⟨_,l2⟩:=y
      simp only [thenT]
      cases namT l2 <;> rfl
    have HRB1:Hid (RB=thenT (expT (bytes [44]) l1) fun _ l2=>thenT (namT l2) fun x l3=>parL m' (acc++[x]) l3):=by
     show _=_
     rw [HRBB.out,if_neg h0]
     cases expT (bytes [44]) l1 <;> rfl
    clear h0 HRBB;obtain ⟨ux,rx,hl⟩:=HP.out.ends.cons;have hex:=expect_any (bytes [44]) ux rx P w8 (by rw [← hl]; exact HP.out)
    rw [← hl] at hex;have HEX:=zH hex;clear hex hl;rcases hq:expT (bytes [44]) l1 with y | ⟨vv,l2c⟩
    ·have HRE:=zH (HRT.out.trans (thenT_err hq))
     rw [hq] at HEX;clear hq HRT;go_wp2_with fail;refine HEX.out.mono ?_;rintro e wE ⟨hbE,rfl⟩;have HBE:=zH (HB.out.trans hbE);clear hbE HEX;go_wp2_with fail;exact ⟨rfl,PaR.bad HRE.out HBE.out⟩
    have HRT2:=zH (HRT.out.trans (thenT_ok hq))
    have HRB2:=zH (HRB1.out.trans (thenT_ok hq))
    have HLE_l2c:Hid (l2c.length < (l1).length):=expT_shr _ _ _ _ hq
    rw [hq] at HEX;clear hq HRT;have HRT:=HRT2;clear HRT2;have hf2:=tk_f2 vv.kind vv.at_ ⟨vv.text.toArray⟩;go_wp2_with fail;refine HEX.out.mono ?_;rintro e w9 ⟨hbN,heN,hpN⟩;unfold TkR tkV at heN;subst heN;clear HEX;have HP2:=zH hpN;have HB2:=zH (HB.out.trans hbN)
    have HKA2:Hid (Blk w9 A 31 #[.int .i64 0,.string ⟨#[]⟩,.int .i64 0,.slice none 0 0,.slice none 0 0,.int .i64 0]):=hbN.blk HKA.out (HP.out.apart HKA.out (by decide))
    have HX2:Hid (Blk w9 X 31 #[.int .i64 26,.string ⟨nm.toArray⟩,.int .i64 0,.slice x a c,.slice none 0 0,.int .i64 t.at_]):=hbN.blk HX.out (HP.out.apart HX.out (by decide))
    have HNR2:Hid (NRow (frS (X+1)) w9 (X+1) (.slice x a c) acc):=HNR.out.keep fun k hk hS=>⟨hS,hbN.block k hk (by have h1:=HXP.out; simp only [frS,decide_eq_true_eq] at hS; omega)⟩
    clear hpN hbN HP HB HKA HX HNR;have HP:=HP2; have HB:=HB2; have HKA:=HKA2; have HX:=HX2; have HNR:=HNR2;clear HP2 HB2 HKA2 HX2 HNR2;have HLQ:Hid (l2c.length≤l1.length):=Nat.le_of_lt HLE_l2c.out;go_upto_region 7 with fail
    clear k3;obtain ⟨ux,rx,hl⟩:=HP.out.ends.cons;have hcon:=pname_any ux rx P w9.drew (by rw [← hl]; exact HP.out.drew)
    rw [← hl] at hcon;have HCON:=zH hcon;clear hcon hl;have HPD:Hid (PsW w9.drew P (l2c)):=HP.out.drew;have HXD:Hid (Blk w9.drew X 31 #[.int .i64 26,.string ⟨nm.toArray⟩,.int .i64 0,.slice x a c,.slice none 0 0,.int .i64 t.at_]):=HX.out;have HAD:Hid (Blk w9.drew A 31 #[.int .i64 0,.string ⟨#[]⟩,.int .i64 0,.slice none 0 0,.slice none 0 0,.int .i64 0]):=HKA.out
    have HKD:Hid (NRow (frS (X+1)) w9.drew (X+1) (.slice x a c) acc):=HNR.out.keep (fun _ _ h=>⟨h,rfl⟩)
    have HBD:Hid (But P w w9.drew):=HB.out.drew
    have k4:w9.drew.cell? ⟨X,3,none⟩=some (.slice x a c):=HXD.out.cell 3
    clear HP HX HKA HNR HB;refine wp_region_held_drew (S:=fun _=>True) (by kernel_rfl) trivial (fun hS=>?_)
    refine zT 0 hS ?_;try simp only [Act.put,zs1,zs2,zs3]
    refine zT 2 hS ?_;try simp only [Act.put,zs1,zs2,zs3]
    refine zF 1 3 (fun K hK=>?sab3) (fun K hK=>?sbb3)
    case sab3=>
     go_simp;refine hK.out _ _ trivial (fun _=>?_)
     clear hK K;try simp only [Act.put,zs1,zs2,zs3]
     refine zR 3 fun K hK=>?_
     go_simp;refine HCON.out.mono ?_;intro e w8 h;obtain ⟨hb8,h⟩:=h;have HB8:Hid (But P w w8):=HBD.out.trans hb8;rcases hRR:namT (l2c) with y | ⟨x1,l4⟩
     ·rw [hRR] at h
      obtain rfl:=h
      have HRE:Hid (R=.error y):=by show _=_; rw [HRT.out,hRR]; rfl
      clear hRR hb8 HCON HRT;go_wp2_with fail;exact ⟨rfl,PaR.bad HRE.out HB8.out⟩
     rw [hRR] at h;obtain ⟨hte,hp8⟩:=h;unfold TxR at hte;subst hte;have HRR:=zH hRR;have HP8:=zH hp8;have HX8:Hid (Blk w8 X 31 #[.int .i64 26,.string ⟨nm.toArray⟩,.int .i64 0,.slice x a c,.slice none 0 0,.int .i64 t.at_]):=hb8.blk HXD.out (HPD.out.apart HXD.out (by decide))
     have HA8:Hid (Blk w8 A 31 #[.int .i64 0,.string ⟨#[]⟩,.int .i64 0,.slice none 0 0,.slice none 0 0,.int .i64 0]):=hb8.blk HAD.out (HPD.out.apart HAD.out (by decide))
     have HK8:Hid (NRow (frS (X+1)) w8 (X+1) (.slice x a c) acc):=HKD.out.keep (fun k hk hS=>⟨hS,hb8.block k hk (by have h1:=HXP.out; simp only [frS,decide_eq_true_eq] at hS; omega)⟩)
     have k48:w8.cell? ⟨X,3,none⟩=some (.slice x a c):=HX8.out.cell 3
     have k48a:(w8.alloc (.cells #[.string ⟨x1.toArray⟩] 9)).cell? ⟨X,3,none⟩=some (.slice x a c):=(HX8.out.alloc _).cell 3
     have HL8:Hid (X < w8.heap.size):=HX8.out.lt
     have HRTT:=HRT
     clear hRR hb8 HCON hp8 HRT;refine hK.out _ _ trivial (fun _=>?_)
     clear hK K;try simp only [Act.put,zs1,zs2,zs3]
     refine zR 4 fun K hK=>?_
     go_simp;refine hK.out _ _ trivial (fun _=>?_)
     clear hK K;try simp only [Act.put,zs1,zs2,zs3]
     refine zR 5 fun K hK=>?_
     refine pstep_appN (n:=a) el_str HK8.out hacc.out (fun k hk=>by have h1:=HL8.out; simp only [frS,decide_eq_true_eq]; omega) (by have h1:=HL8.out; omega) rfl rfl (by rfl) (by rfl) (by omega) (by unfold maxLen; omega) ?_
     intro rA capA w9 hk9 ho9;refine hK.out _ _ trivial (fun _=>?_)
     clear hK K;try simp only [Act.put,zs1,zs2,zs3]
     have HX9:Hid (Blk w9 X 31 #[.int .i64 26,.string ⟨nm.toArray⟩,.int .i64 0,.slice x a c,.slice none 0 0,.int .i64 t.at_]):=ho9.blk HX8.out (by simp [frS])
     have HP9:=zH (ho9.psw HP8.out (fun k hk=>by have h1:=HXP.out; simp only [frS,decide_eq_false_iff_not]; omega))
     have HB9:=zH (ho9.but HB8.out (fun k hk=>by have h1:=HXA.out; have h2:=HWA.out; simp only [frS,decide_eq_false_iff_not]; omega))
     have HA9:Hid (Blk w9 A 31 #[.int .i64 0,.string ⟨#[]⟩,.int .i64 0,.slice none 0 0,.slice none 0 0,.int .i64 0]):=ho9.blk HA8.out (by have h1:=HXA.out; simp only [frS,decide_eq_false_iff_not]; omega)
     have k49:w9.cell? ⟨X,3,none⟩=some (.slice x a c):=HX9.out.cell 3
     have f49:w9.frozen? ⟨X,3,none⟩=false:=HX9.out.frozen 3
     have HK9:=zH hk9
     clear hk9 ho9 HX8 HP8 HB8 HA8 HK8 k48 k48a;refine zT 6 hS ?_;try simp only [Act.put,zs1,zs2,zs3]
     refine zR 7 fun K hK=>?_
     go_simp;refine hK.out _ _ trivial (fun _=>?_)
     clear hK K;try simp only [Act.put,zs1,zs2,zs3]
     refine wpAnyH_done (by kernel_rfl) ?_ _
     have HP:Hid (PsW (w9.setCell ⟨X,3,none⟩ (.slice (some ⟨rA,0,none⟩) (a+1) capA)) P l4):=HP9.out.put HXP.out _ _
     have HB:Hid (But P w (w9.setCell ⟨X,3,none⟩ (.slice (some ⟨rA,0,none⟩) (a+1) capA))):=HB9.out.put_new (by have h1:=HXA.out; have h2:=HWA.out; omega) _ _
     have HX:Hid (Blk (w9.setCell ⟨X,3,none⟩ (.slice (some ⟨rA,0,none⟩) (a+1) capA)) X 31 #[.int .i64 26,.string ⟨nm.toArray⟩,.int .i64 0,.slice (some ⟨rA,0,none⟩) (a+1) capA,.slice none 0 0,.int .i64 t.at_]):=HX9.out.put 3 _
     have HNR:Hid (NRow (frS (X+1)) (w9.setCell ⟨X,3,none⟩ (.slice (some ⟨rA,0,none⟩) (a+1) capA)) (X+1) (.slice (some ⟨rA,0,none⟩) (a+1) capA) (acc++[x1])):=HK9.out.keep (fun k hk hS=>⟨hS,Below.heap_setCell _ _ _ _ (by simp only [frS,decide_eq_true_eq] at hS; simp only; omega)⟩)
     have HKA:Hid (Blk (w9.setCell ⟨X,3,none⟩ (.slice (some ⟨rA,0,none⟩) (a+1) capA)) A 31 #[.int .i64 0,.string ⟨#[]⟩,.int .i64 0,.slice none 0 0,.slice none 0 0,.int .i64 0]):=HA9.out.other (p:=⟨X,3,none⟩) (Nat.ne_of_lt HXA.out) _
     clear HP9 HB9 HX9 HK9 HA9 k49 f49;generalize w9.setCell ⟨X,3,none⟩ (.slice (some ⟨rA,0,none⟩) (a+1) capA)=wc at*;have HRN:Hid (parL m' (acc++[x1]) l4=RB):=by show _=_; rw [HRB2.out,HRR.out]; rfl
     have HLL:Hid (l4.length < l1.length):=by have h1:=HLQ.out; have h2:=namT_shr _ _ _ HRR.out; show _ < _; omega
     have HM1:Hid (lenOf P wc < lenOf P wr):=by show _ < _; rw [HP.out.len,HLN.out]; exact HLL.out
     have HM2:Hid (l4.length≤m'):=by have h1:=HLL.out; have h2:=HM.out; show _≤_; omega
     have HM3:Hid (a+1+l4.length≤4097):=by have h1:=HLL.out; have h2:=hln.out; show _≤_; omega
     have HAC:Hid ((acc++[x1]).length=a+1):=by show _=_; rw [List.length_append,hacc.out]; rfl
     clear HRTT HRR;go_wp2_with fail;go_roundw
     case rel=>exact ⟨l4,acc++[x1],m',some ⟨rA,0,none⟩,a+1,capA,HAC.out,HP.out,HB.out,HX.out,HNR.out,HKA.out,HRN.out,HM2.out,HM3.out⟩
     case measure=>exact HM1.out
    case sbb3=>
     go_simp;refine HCON.out.mono ?_;intro e w8 h;obtain ⟨hb8,h⟩:=h;have HB8:Hid (But P w w8):=HBD.out.trans hb8;rcases hRR:namT (l2c) with y | ⟨x1,l4⟩
     ·rw [hRR] at h
      obtain rfl:=h
      have HRE:Hid (R=.error y):=by show _=_; rw [HRT.out,hRR]; rfl
      clear hRR hb8 HCON HRT;go_wp2_with fail;exact ⟨rfl,PaR.bad HRE.out HB8.out⟩
     rw [hRR] at h;obtain ⟨hte,hp8⟩:=h;unfold TxR at hte;subst hte;have HRR:=zH hRR;have HP8:=zH hp8;have HX8:Hid (Blk w8 X 31 #[.int .i64 26,.string ⟨nm.toArray⟩,.int .i64 0,.slice x a c,.slice none 0 0,.int .i64 t.at_]):=hb8.blk HXD.out (HPD.out.apart HXD.out (by decide))
     have HA8:Hid (Blk w8 A 31 #[.int .i64 0,.string ⟨#[]⟩,.int .i64 0,.slice none 0 0,.slice none 0 0,.int .i64 0]):=hb8.blk HAD.out (HPD.out.apart HAD.out (by decide))
     have HK8:Hid (NRow (frS (X+1)) w8 (X+1) (.slice x a c) acc):=HKD.out.keep (fun k hk hS=>⟨hS,hb8.block k hk (by have h1:=HXP.out; simp only [frS,decide_eq_true_eq] at hS; omega)⟩)
     have k48:w8.cell? ⟨X,3,none⟩=some (.slice x a c):=HX8.out.cell 3
     have k48a:(w8.alloc (.cells #[.string ⟨x1.toArray⟩] 9)).cell? ⟨X,3,none⟩=some (.slice x a c):=(HX8.out.alloc _).cell 3
     have HL8:Hid (X < w8.heap.size):=HX8.out.lt
     have HRTT:=HRT
     clear hRR hb8 HCON hp8 HRT;refine hK.out _ _ trivial (fun _=>?_)
     clear hK K;try simp only [Act.put,zs1,zs2,zs3]
     refine zF 1 4 (fun K hK=>?sab9) (fun K hK=>?sbb9)
     case sab9=>
      go_simp;refine hK.out _ _ trivial (fun _=>?_)
      clear hK K;try simp only [Act.put,zs1,zs2,zs3]
      refine zR 4 fun K hK=>?_
      go_simp;refine hK.out _ _ trivial (fun _=>?_)
      clear hK K;try simp only [Act.put,zs1,zs2,zs3]
      refine zR 5 fun K hK=>?_
      refine pstep_appN (n:=a) el_str HK8.out hacc.out (fun k hk=>by have h1:=HL8.out; simp only [frS,decide_eq_true_eq]; omega) (by have h1:=HL8.out; omega) rfl rfl (by rfl) (by rfl) (by omega) (by unfold maxLen; omega) ?_
      intro rA capA w9 hk9 ho9;refine hK.out _ _ trivial (fun _=>?_)
      clear hK K;try simp only [Act.put,zs1,zs2,zs3]
      have HX9:Hid (Blk w9 X 31 #[.int .i64 26,.string ⟨nm.toArray⟩,.int .i64 0,.slice x a c,.slice none 0 0,.int .i64 t.at_]):=ho9.blk HX8.out (by simp [frS])
      have HP9:=zH (ho9.psw HP8.out (fun k hk=>by have h1:=HXP.out; simp only [frS,decide_eq_false_iff_not]; omega))
      have HB9:=zH (ho9.but HB8.out (fun k hk=>by have h1:=HXA.out; have h2:=HWA.out; simp only [frS,decide_eq_false_iff_not]; omega))
      have HA9:Hid (Blk w9 A 31 #[.int .i64 0,.string ⟨#[]⟩,.int .i64 0,.slice none 0 0,.slice none 0 0,.int .i64 0]):=ho9.blk HA8.out (by have h1:=HXA.out; simp only [frS,decide_eq_false_iff_not]; omega)
      have k49:w9.cell? ⟨X,3,none⟩=some (.slice x a c):=HX9.out.cell 3
      have f49:w9.frozen? ⟨X,3,none⟩=false:=HX9.out.frozen 3
      have HK9:=zH hk9
      clear hk9 ho9 HX8 HP8 HB8 HA8 HK8 k48 k48a;refine zT 6 hS ?_;try simp only [Act.put,zs1,zs2,zs3]
      refine zR 7 fun K hK=>?_
      go_simp;refine hK.out _ _ trivial (fun _=>?_)
      clear hK K;try simp only [Act.put,zs1,zs2,zs3]
      refine wpAnyH_done (by kernel_rfl) ?_ _
      have HP:Hid (PsW (w9.setCell ⟨X,3,none⟩ (.slice (some ⟨rA,0,none⟩) (a+1) capA)) P l4):=HP9.out.put HXP.out _ _
      have HB:Hid (But P w (w9.setCell ⟨X,3,none⟩ (.slice (some ⟨rA,0,none⟩) (a+1) capA))):=HB9.out.put_new (by have h1:=HXA.out; have h2:=HWA.out; omega) _ _
      have HX:Hid (Blk (w9.setCell ⟨X,3,none⟩ (.slice (some ⟨rA,0,none⟩) (a+1) capA)) X 31 #[.int .i64 26,.string ⟨nm.toArray⟩,.int .i64 0,.slice (some ⟨rA,0,none⟩) (a+1) capA,.slice none 0 0,.int .i64 t.at_]):=HX9.out.put 3 _
      have HNR:Hid (NRow (frS (X+1)) (w9.setCell ⟨X,3,none⟩ (.slice (some ⟨rA,0,none⟩) (a+1) capA)) (X+1) (.slice (some ⟨rA,0,none⟩) (a+1) capA) (acc++[x1])):=HK9.out.keep (fun k hk hS=>⟨hS,Below.heap_setCell _ _ _ _ (by simp only [frS,decide_eq_true_eq] at hS; simp only; omega)⟩)
      have HKA:Hid (Blk (w9.setCell ⟨X,3,none⟩ (.slice (some ⟨rA,0,none⟩) (a+1) capA)) A 31 #[.int .i64 0,.string ⟨#[]⟩,.int .i64 0,.slice none 0 0,.slice none 0 0,.int .i64 0]):=HA9.out.other (p:=⟨X,3,none⟩) (Nat.ne_of_lt HXA.out) _
      clear HP9 HB9 HX9 HK9 HA9 k49 f49;generalize w9.setCell ⟨X,3,none⟩ (.slice (some ⟨rA,0,none⟩) (a+1) capA)=wc at*;have HRN:Hid (parL m' (acc++[x1]) l4=RB):=by show _=_; rw [HRB2.out,HRR.out]; rfl
      have HLL:Hid (l4.length < l1.length):=by have h1:=HLQ.out; have h2:=namT_shr _ _ _ HRR.out; show _ < _; omega
      have HM1:Hid (lenOf P wc < lenOf P wr):=by show _ < _; rw [HP.out.len,HLN.out]; exact HLL.out
      have HM2:Hid (l4.length≤m'):=by have h1:=HLL.out; have h2:=HM.out; show _≤_; omega
      have HM3:Hid (a+1+l4.length≤4097):=by have h1:=HLL.out; have h2:=hln.out; show _≤_; omega
      have HAC:Hid ((acc++[x1]).length=a+1):=by show _=_; rw [List.length_append,hacc.out]; rfl
      clear HRTT HRR;go_wp2_with fail;go_roundw
      case rel=>exact ⟨l4,acc++[x1],m',some ⟨rA,0,none⟩,a+1,capA,HAC.out,HP.out,HB.out,HX.out,HNR.out,HKA.out,HRN.out,HM2.out,HM3.out⟩
      case measure=>exact HM1.out
     case sbb9=>
      go_simp;refine hK.out _ _ trivial (fun _=>?_)
      clear hK K;try simp only [Act.put,zs1,zs2,zs3]
      refine zR 1 fun K hK=>?_
      go_simp;refine hK.out _ _ trivial (fun _=>?_)
      clear hK K;try simp only [Act.put,zs1,zs2,zs3]
      refine zR 5 fun K hK=>?_
      refine pstep_appN (n:=a) el_str HK8.out hacc.out (fun k hk=>by have h1:=HL8.out; simp only [frS,decide_eq_true_eq]; omega) (by have h1:=HL8.out; omega) rfl rfl (by rfl) (by rfl) (by omega) (by unfold maxLen; omega) ?_
      intro rA capA w9 hk9 ho9;refine hK.out _ _ trivial (fun _=>?_)
      clear hK K;try simp only [Act.put,zs1,zs2,zs3]
      have HX9:Hid (Blk w9 X 31 #[.int .i64 26,.string ⟨nm.toArray⟩,.int .i64 0,.slice x a c,.slice none 0 0,.int .i64 t.at_]):=ho9.blk HX8.out (by simp [frS])
      have HP9:=zH (ho9.psw HP8.out (fun k hk=>by have h1:=HXP.out; simp only [frS,decide_eq_false_iff_not]; omega))
      have HB9:=zH (ho9.but HB8.out (fun k hk=>by have h1:=HXA.out; have h2:=HWA.out; simp only [frS,decide_eq_false_iff_not]; omega))
      have HA9:Hid (Blk w9 A 31 #[.int .i64 0,.string ⟨#[]⟩,.int .i64 0,.slice none 0 0,.slice none 0 0,.int .i64 0]):=ho9.blk HA8.out (by have h1:=HXA.out; simp only [frS,decide_eq_false_iff_not]; omega)
      have k49:w9.cell? ⟨X,3,none⟩=some (.slice x a c):=HX9.out.cell 3
      have f49:w9.frozen? ⟨X,3,none⟩=false:=HX9.out.frozen 3
      have HK9:=zH hk9
      clear hk9 ho9 HX8 HP8 HB8 HA8 HK8 k48 k48a;refine zT 6 hS ?_;try simp only [Act.put,zs1,zs2,zs3]
      refine zR 7 fun K hK=>?_
      go_simp;refine hK.out _ _ trivial (fun _=>?_)
      clear hK K;try simp only [Act.put,zs1,zs2,zs3]
      refine wpAnyH_done (by kernel_rfl) ?_ _
      have HP:Hid (PsW (w9.setCell ⟨X,3,none⟩ (.slice (some ⟨rA,0,none⟩) (a+1) capA)) P l4):=HP9.out.put HXP.out _ _
      have HB:Hid (But P w (w9.setCell ⟨X,3,none⟩ (.slice (some ⟨rA,0,none⟩) (a+1) capA))):=HB9.out.put_new (by have h1:=HXA.out; have h2:=HWA.out; omega) _ _
      have HX:Hid (Blk (w9.setCell ⟨X,3,none⟩ (.slice (some ⟨rA,0,none⟩) (a+1) capA)) X 31 #[.int .i64 26,.string ⟨nm.toArray⟩,.int .i64 0,.slice (some ⟨rA,0,none⟩) (a+1) capA,.slice none 0 0,.int .i64 t.at_]):=HX9.out.put 3 _
      have HNR:Hid (NRow (frS (X+1)) (w9.setCell ⟨X,3,none⟩ (.slice (some ⟨rA,0,none⟩) (a+1) capA)) (X+1) (.slice (some ⟨rA,0,none⟩) (a+1) capA) (acc++[x1])):=HK9.out.keep (fun k hk hS=>⟨hS,Below.heap_setCell _ _ _ _ (by simp only [frS,decide_eq_true_eq] at hS; simp only; omega)⟩)
      have HKA:Hid (Blk (w9.setCell ⟨X,3,none⟩ (.slice (some ⟨rA,0,none⟩) (a+1) capA)) A 31 #[.int .i64 0,.string ⟨#[]⟩,.int .i64 0,.slice none 0 0,.slice none 0 0,.int .i64 0]):=HA9.out.other (p:=⟨X,3,none⟩) (Nat.ne_of_lt HXA.out) _
      clear HP9 HB9 HX9 HK9 HA9 k49 f49;generalize w9.setCell ⟨X,3,none⟩ (.slice (some ⟨rA,0,none⟩) (a+1) capA)=wc at*;have HRN:Hid (parL m' (acc++[x1]) l4=RB):=by show _=_; rw [HRB2.out,HRR.out]; rfl
      have HLL:Hid (l4.length < l1.length):=by have h1:=HLQ.out; have h2:=namT_shr _ _ _ HRR.out; show _ < _; omega
      have HM1:Hid (lenOf P wc < lenOf P wr):=by show _ < _; rw [HP.out.len,HLN.out]; exact HLL.out
      have HM2:Hid (l4.length≤m'):=by have h1:=HLL.out; have h2:=HM.out; show _≤_; omega
      have HM3:Hid (a+1+l4.length≤4097):=by have h1:=HLL.out; have h2:=hln.out; show _≤_; omega
      have HAC:Hid ((acc++[x1]).length=a+1):=by show _=_; rw [List.length_append,hacc.out]; rfl
      clear HRTT HRR;go_wp2_with fail;go_roundw
      case rel=>exact ⟨l4,acc++[x1],m',some ⟨rA,0,none⟩,a+1,capA,HAC.out,HP.out,HB.out,HX.out,HNR.out,HKA.out,HRN.out,HM2.out,HM3.out⟩
      case measure=>exact HM1.out
end Go.Proofs.YtbaidkefobhipaaGreatDoor
