/-
  Walk: the parser's loop, with what its expression and its block answer. (Printed by gen_pm.py.)
-/
import Derived.Test.YtbaidkefobhipaaGreatDoorZS14
namespace Go.Proofs.YtbaidkefobhipaaGreatDoor
set_option maxHeartbeats 16000000
set_option maxRecDepth 100000
open Go.RowKit

theorem for_any (L:Nat) (hL:L≤64) (ex st:Pa Nd) (hex:OpOk 56 [.int .i64 ((L:Int)+1)] ex) (hbk:OpOk 57 [.int .i64 ((L:Int)+1)] (blkP st)):OpOk 58 [.int .i64 (L:Nat)] (forP ex st):=by
 intro P l w hp;have HKA0:=zH (Blk.new w 31 zSyn);have HBA:=zH ((Below.refl w.heap.size w).alloc (Nat.le_refl _) (.cells zSyn 31));have HPW:=zH hp;have hlt:=zH hp.lt;clear hp;have HOP:=zH hex;have HBK:=zH hbk;clear hex hbk;have hwL:IntKind.i64.wrap ((L:Int)+1)=(L:Int)+1:=IntWalk.i64_in _ (by omega)
 obtain ⟨R,hR⟩:∃R,forP ex st l=R:=⟨_,rfl⟩
 rw [hR];have HRT:Hid (R=thenT (expT (bytes [102,111,114]) l) fun t l2=>thenT (namT l2) fun n l3=>thenT (expT (bytes [105,110]) l3) fun _ l4=>thenT (ex l4) fun x l5=>thenT (expT (bytes [46,46]) l5) fun _ l6=>thenT (ex l6) fun y l7=>thenT (blkP st l7) fun b l8=>.ok ((hdT 24 n 0 t.at_,(x.one.app y.one).app b.one),l8)):=by show _=_; rw [← hR]; rfl
 clear hR;unfold zSyn at HKA0 HBA;show Calls _ _ #[_,_] _ _
 go_enter Tryz.func58,Tryz.ntmps58
 go_upto_region 1 with fail
 generalize w.alloc (.cells #[.int .i64 0,.string ⟨#[]⟩,.int .i64 0,.slice none 0 0,.slice none 0 0,.int .i64 0] 31)=wa at*;generalize hA:w.heap.size=A at*;have HWA:=zH hA;clear hA;have HB:Hid (But P w wa):=But.of_below (by rw [HWA.out]; exact HBA.out)
 have HP:Hid (PsW wa P l):=HPW.out.below (by rw [HWA.out]; exact HBA.out)
 have HKA:=HKA0
 clear HKA0 HBA;obtain ⟨ux,rx,hl⟩:=HP.out.ends.cons;have hex:=expect_any (bytes [102,111,114]) ux rx P wa (by rw [← hl]; exact HP.out)
 rw [← hl] at hex;have HEX:=zH hex;clear hex hl;rcases hq:expT (bytes [102,111,114]) l with y | ⟨t,l2⟩
 ·have HRE:=zH (HRT.out.trans (thenT_err hq))
  rw [hq] at HEX;clear hq HRT;go_wp2_with fail;refine HEX.out.mono ?_;rintro e wE ⟨hbE,rfl⟩;have HBE:=zH (HB.out.trans hbE);clear hbE HEX;go_wp2_with fail;exact ⟨rfl,PaR.bad HRE.out HBE.out⟩
 have HRT2:=zH (HRT.out.trans (thenT_ok hq))
 have HLE_l2:Hid (l2.length < (l).length):=expT_shr _ _ _ _ hq
 rw [hq] at HEX;clear hq HRT;have HRT:=HRT2;clear HRT2;have hf2:=tk_f2 t.kind t.at_ ⟨t.text.toArray⟩;go_wp2_with fail;refine HEX.out.mono ?_;rintro e w2 ⟨hbN,heN,hpN⟩;unfold TkR tkV at heN;subst heN;clear HEX;have HP2:=zH hpN;have HB2:=zH (HB.out.trans hbN)
 have HKA2:Hid (Blk w2 A 31 #[.int .i64 0,.string ⟨#[]⟩,.int .i64 0,.slice none 0 0,.slice none 0 0,.int .i64 0]):=hbN.blk HKA.out (HP.out.apart HKA.out (by decide))
 clear hpN hbN HP HB HKA;have HP:=HP2; have HB:=HB2; have HKA:=HKA2;clear HP2 HB2 HKA2;go_upto_region 2 with fail
 have HX:=zH (Blk.new w2 31 #[.int .i64 24,.string ⟨#[]⟩,.int .i64 0,.slice none 0 0,.slice none 0 0,.int .i64 t.at_])
 have HKA2:=zH (HKA.out.alloc (.cells #[.int .i64 24,.string ⟨#[]⟩,.int .i64 0,.slice none 0 0,.slice none 0 0,.int .i64 t.at_] 31))
 have HP2:Hid (PsW (w2.alloc (.cells #[.int .i64 24,.string ⟨#[]⟩,.int .i64 0,.slice none 0 0,.slice none 0 0,.int .i64 t.at_] 31)) P _):=HP.out.below ((Below.refl w2.heap.size w2).alloc (Nat.le_refl _) _)
 have HB2:=zH (HB.out.alloc (.cells #[.int .i64 24,.string ⟨#[]⟩,.int .i64 0,.slice none 0 0,.slice none 0 0,.int .i64 t.at_] 31))
 have HXA:=zH HKA.out.lt
 have HXP:Hid (P < w2.heap.size):=HP.out.lt
 clear HP HB HKA;have HP:=HP2; have HB:=HB2; have HKA:=HKA2;clear HP2 HB2 HKA2;generalize w2.alloc (.cells #[.int .i64 24,.string ⟨#[]⟩,.int .i64 0,.slice none 0 0,.slice none 0 0,.int .i64 t.at_] 31)=w3 at*;generalize w2.heap.size=X at*;obtain ⟨ux,rx,hl⟩:=HP.out.ends.cons;have hex:=pname_any ux rx P w3 (by rw [← hl]; exact HP.out)
 rw [← hl] at hex;have HEX:=zH hex;clear hex hl;rcases hq:namT l2 with y | ⟨nm,l3⟩
 ·have HRE:=zH (HRT.out.trans (thenT_err hq))
  rw [hq] at HEX;clear hq HRT;go_wp2_with fail;refine HEX.out.mono ?_;rintro e wE ⟨hbE,rfl⟩;have HBE:=zH (HB.out.trans hbE);clear hbE HEX;go_wp2_with fail;exact ⟨rfl,PaR.bad HRE.out HBE.out⟩
 have HRT2:=zH (HRT.out.trans (thenT_ok hq))
 rw [hq] at HEX;clear hq HRT;have HRT:=HRT2;clear HRT2;go_wp2_with fail;refine HEX.out.mono ?_;rintro e w4 ⟨hbN,heN,hpN⟩;unfold TxR at heN;subst heN;clear HEX;have HP2:=zH hpN;have HB2:=zH (HB.out.trans hbN);have HKA2:Hid (Blk w4 A 31 #[.int .i64 0,.string ⟨#[]⟩,.int .i64 0,.slice none 0 0,.slice none 0 0,.int .i64 0]):=hbN.blk HKA.out (HP.out.apart HKA.out (by decide))
 have HX2:Hid (Blk w4 X 31 #[.int .i64 24,.string ⟨#[]⟩,.int .i64 0,.slice none 0 0,.slice none 0 0,.int .i64 t.at_]):=hbN.blk HX.out (HP.out.apart HX.out (by decide))
 clear hpN hbN HP HB HKA HX;have HP:=HP2; have HB:=HB2; have HKA:=HKA2; have HX:=HX2;clear HP2 HB2 HKA2 HX2;have x1:w4.cell? ⟨X,1,none⟩=some (.string ⟨#[]⟩):=HX.out.cell 1;have f1:w4.frozen? ⟨X,1,none⟩=false:=HX.out.frozen 1;go_upto_region 3 with fail
 have HX2:Hid (Blk (w4.setCell ⟨X,1,none⟩ (.string ⟨nm.toArray⟩)) X 31 #[.int .i64 24,.string ⟨nm.toArray⟩,.int .i64 0,.slice none 0 0,.slice none 0 0,.int .i64 t.at_]):=HX.out.put 1 _
 have HKA2:Hid (Blk (w4.setCell ⟨X,1,none⟩ (.string ⟨nm.toArray⟩)) A 31 #[.int .i64 0,.string ⟨#[]⟩,.int .i64 0,.slice none 0 0,.slice none 0 0,.int .i64 0]):=HKA.out.other (p:=⟨X,1,none⟩) (Nat.ne_of_lt HXA.out) _
 have HP2:Hid (PsW (w4.setCell ⟨X,1,none⟩ (.string ⟨nm.toArray⟩)) P l3):=HP.out.put HXP.out 1 _
 have HB2:Hid (But P w (w4.setCell ⟨X,1,none⟩ (.string ⟨nm.toArray⟩))):=HB.out.put_new (by have h1:=HXA.out; have h2:=HWA.out; omega) 1 _
 clear HX HKA HP HB x1 f1;have HX:=HX2; have HKA:=HKA2; have HP:=HP2; have HB:=HB2;clear HX2 HKA2 HP2 HB2;generalize w4.setCell ⟨X,1,none⟩ (.string ⟨nm.toArray⟩)=w5 at*;obtain ⟨ux,rx,hl⟩:=HP.out.ends.cons;have hex:=expect_any (bytes [105,110]) ux rx P w5 (by rw [← hl]; exact HP.out)
 rw [← hl] at hex;have HEX:=zH hex;clear hex hl;rcases hq:expT (bytes [105,110]) l3 with y | ⟨v1,l4⟩
 ·have HRE:=zH (HRT.out.trans (thenT_err hq))
  rw [hq] at HEX;clear hq HRT;go_wp2_with fail;refine HEX.out.mono ?_;rintro e wE ⟨hbE,rfl⟩;have HBE:=zH (HB.out.trans hbE);clear hbE HEX;go_wp2_with fail;exact ⟨rfl,PaR.bad HRE.out HBE.out⟩
 have HRT2:=zH (HRT.out.trans (thenT_ok hq))
 have HLE_l4:Hid (l4.length < (l3).length):=expT_shr _ _ _ _ hq
 rw [hq] at HEX;clear hq HRT;have HRT:=HRT2;clear HRT2;have hf2:=tk_f2 v1.kind v1.at_ ⟨v1.text.toArray⟩;go_wp2_with fail;refine HEX.out.mono ?_;rintro e w6 ⟨hbN,heN,hpN⟩;unfold TkR tkV at heN;subst heN;clear HEX;have HP2:=zH hpN;have HB2:=zH (HB.out.trans hbN)
 have HKA2:Hid (Blk w6 A 31 #[.int .i64 0,.string ⟨#[]⟩,.int .i64 0,.slice none 0 0,.slice none 0 0,.int .i64 0]):=hbN.blk HKA.out (HP.out.apart HKA.out (by decide))
 have HX2:Hid (Blk w6 X 31 #[.int .i64 24,.string ⟨nm.toArray⟩,.int .i64 0,.slice none 0 0,.slice none 0 0,.int .i64 t.at_]):=hbN.blk HX.out (HP.out.apart HX.out (by decide))
 clear hpN hbN HP HB HKA HX;have HP:=HP2; have HB:=HB2; have HKA:=HKA2; have HX:=HX2;clear HP2 HB2 HKA2 HX2;have HK:Hid (KRow (frS (X+1)) w6 (X+1) (.slice none 0 0) .nil):=krow_nil _ _ _;go_upto_region 4 with fail
 have HG:GF P w X A #[.int .i64 0,.string ⟨#[]⟩,.int .i64 0,.slice none 0 0,.slice none 0 0,.int .i64 0] #[.int .i64 24,.string ⟨nm.toArray⟩,.int .i64 0,.slice none 0 0,.slice none 0 0,.int .i64 t.at_] (.slice none 0 0) Fo.nil l4 w6:=⟨HP,HB,HX,HK,HKA⟩
 have HG:=HG.drew
 have HCON:=zH (HOP.out P l4 w6.drew HG.1.out)
 have k4:w6.drew.cell? ⟨X,4,none⟩=some (.slice none 0 0):=HG.cell rfl
 clear HP HX HKA HK HB;go_cut [23] from 15 to 23 (fun v17 wx=>∃(x1:Nd) (l1:List Tk) (r cap:Nat),Hid (ex l4=.ok (x1,l1))∧GF P w X A #[.int .i64 0,.string ⟨#[]⟩,.int .i64 0,.slice none 0 0,.slice none 0 0,.int .i64 0] #[.int .i64 24,.string ⟨nm.toArray⟩,.int .i64 0,.slice none 0 0,.slice (some ⟨r,0,none⟩) 1 cap,.int .i64 t.at_] (.slice (some ⟨r,0,none⟩) 1 cap) (Fo.nil.app x1.one) l1 wx)
 case first=>
  refine wp_region_held_drew (S:=fun _=>True) (by kernel_rfl) trivial (fun hS=>?_)
  refine zT 0 hS ?_;try simp only [Act.put,zs1,zs2,zs3]
  refine zT 2 hS ?_;try simp only [Act.put,zs1,zs2,zs3]
  refine zT 3 hS ?_;try simp only [Act.put,zs1,zs2,zs3]
  refine zT 4 hS ?_;try simp only [Act.put,zs1,zs2,zs3]
  refine zF 1 5 (fun K hK=>?saa5) (fun K hK=>?sba5)
  case saa5=>
   go_simp;refine hK.out _ _ trivial (fun _=>?_)
   clear hK K;try simp only [Act.put,zs1,zs2,zs3]
   refine zR 5 fun K hK=>?_
   go_simp;refine HCON.out.mono ?_;intro e w8 h;obtain ⟨hb8,h⟩:=h;rcases hRR:ex l4 with y | ⟨x1,l4⟩
   ·rw [hRR] at h
    obtain rfl:=h
    have HRE:Hid (R=.error y):=by show _=_; rw [HRT.out,hRR]; rfl
    have HB8:=zH (HG.2.1.out.trans hb8)
    clear hRR hb8 HCON HRT HG;go_wp2_with fail;exact ⟨rfl,PaR.bad HRE.out HB8.out⟩
   rw [hRR] at h;obtain ⟨⟨T,rfl,hT⟩,hp8⟩:=h;have HRR:=zH hRR;have HG8:=HG.call HXP hb8 hp8;have HTN:=HG.nd hT;have k48:w8.cell? ⟨X,4,none⟩=some (.slice none 0 0):=HG8.cell rfl;have k48a:(w8.alloc (.cells T 31)).cell? ⟨X,4,none⟩=some (.slice none 0 0):=HG8.cella rfl _;clear hRR hb8 HCON hT hp8 HG;have HRTT:=HRT;clear HRT;refine hK.out _ _ trivial (fun _=>?_)
   clear hK K;try simp only [Act.put,zs1,zs2,zs3]
   refine zR 6 fun K hK=>?_
   refine pstep_oneN el_syn rfl rfl HTN.out.size (by rfl) ?_
   refine hK.out _ _ trivial (fun _=>?_)
   clear hK K;try simp only [Act.put,zs1,zs2,zs3]
   refine zR 7 fun K hK=>?_
   refine pstep_app (n:=0) el_syn HG8.2.2.2.1.out rfl HG8.fr HTN.out HG8.lt rfl rfl (by rfl) (by rfl) (by omega) (by unfold maxLen; omega) ?_
   intro rA capA w9 hk9 ho9;refine hK.out _ _ trivial (fun _=>?_)
   clear hK K;try simp only [Act.put,zs1,zs2,zs3]
   obtain ⟨k49,f49,HG9⟩:=HG8.app HXP HXA HWA hk9 ho9 (cs':=#[.int .i64 24,.string ⟨nm.toArray⟩,.int .i64 0,.slice none 0 0,.slice (some ⟨rA,0,none⟩) 1 capA,.int .i64 t.at_]) rfl rfl
   clear hk9 ho9 HG8 HTN k48 k48a;refine zT 8 hS ?_;try simp only [Act.put,zs1,zs2,zs3]
   refine zR 9 fun K hK=>?_
   go_simp;refine hK.out _ _ trivial (fun _=>?_)
   clear hK K;try simp only [Act.put,zs1,zs2,zs3]
   refine wpAnyH_done (by kernel_rfl) ?_ _
   clear k49 f49;generalize w9.setCell ⟨X,4,none⟩ (.slice (some ⟨rA,0,none⟩) 1 capA)=wc at*;go_wp2_with fail;go_meet
   case rel=>exact ⟨x1,l4,rA,capA,HRR.out,HG9⟩
  case sba5=>
   go_simp;refine HCON.out.mono ?_;intro e w8 h;obtain ⟨hb8,h⟩:=h;rcases hRR:ex l4 with y | ⟨x1,l4⟩
   ·rw [hRR] at h
    obtain rfl:=h
    have HRE:Hid (R=.error y):=by show _=_; rw [HRT.out,hRR]; rfl
    have HB8:=zH (HG.2.1.out.trans hb8)
    clear hRR hb8 HCON HRT HG;go_wp2_with fail;exact ⟨rfl,PaR.bad HRE.out HB8.out⟩
   rw [hRR] at h;obtain ⟨⟨T,rfl,hT⟩,hp8⟩:=h;have HRR:=zH hRR;have HG8:=HG.call HXP hb8 hp8;have HTN:=HG.nd hT;have k48:w8.cell? ⟨X,4,none⟩=some (.slice none 0 0):=HG8.cell rfl;have k48a:(w8.alloc (.cells T 31)).cell? ⟨X,4,none⟩=some (.slice none 0 0):=HG8.cella rfl _;clear hRR hb8 HCON hT hp8 HG;have HRTT:=HRT;clear HRT;refine hK.out _ _ trivial (fun _=>?_)
   clear hK K;try simp only [Act.put,zs1,zs2,zs3]
   refine zF 1 6 (fun K hK=>?saa11) (fun K hK=>?sba11)
   case saa11=>
    go_simp;refine hK.out _ _ trivial (fun _=>?_)
    clear hK K;try simp only [Act.put,zs1,zs2,zs3]
    refine zR 6 fun K hK=>?_
    refine pstep_oneN el_syn rfl rfl HTN.out.size (by rfl) ?_
    refine hK.out _ _ trivial (fun _=>?_)
    clear hK K;try simp only [Act.put,zs1,zs2,zs3]
    refine zR 7 fun K hK=>?_
    refine pstep_app (n:=0) el_syn HG8.2.2.2.1.out rfl HG8.fr HTN.out HG8.lt rfl rfl (by rfl) (by rfl) (by omega) (by unfold maxLen; omega) ?_
    intro rA capA w9 hk9 ho9;refine hK.out _ _ trivial (fun _=>?_)
    clear hK K;try simp only [Act.put,zs1,zs2,zs3]
    obtain ⟨k49,f49,HG9⟩:=HG8.app HXP HXA HWA hk9 ho9 (cs':=#[.int .i64 24,.string ⟨nm.toArray⟩,.int .i64 0,.slice none 0 0,.slice (some ⟨rA,0,none⟩) 1 capA,.int .i64 t.at_]) rfl rfl
    clear hk9 ho9 HG8 HTN k48 k48a;refine zT 8 hS ?_;try simp only [Act.put,zs1,zs2,zs3]
    refine zR 9 fun K hK=>?_
    go_simp;refine hK.out _ _ trivial (fun _=>?_)
    clear hK K;try simp only [Act.put,zs1,zs2,zs3]
    refine wpAnyH_done (by kernel_rfl) ?_ _
    clear k49 f49;generalize w9.setCell ⟨X,4,none⟩ (.slice (some ⟨rA,0,none⟩) 1 capA)=wc at*;go_wp2_with fail;go_meet
    case rel=>exact ⟨x1,l4,rA,capA,HRR.out,HG9⟩
   case sba11=>
    refine pstep_oneN el_syn rfl rfl HTN.out.size (by rfl) ?_
    refine hK.out _ _ trivial (fun _=>?_)
    clear hK K;try simp only [Act.put,zs1,zs2,zs3]
    refine zR 1 fun K hK=>?_
    go_simp;refine hK.out _ _ trivial (fun _=>?_)
    clear hK K;try simp only [Act.put,zs1,zs2,zs3]
    refine zR 7 fun K hK=>?_
    refine pstep_app (n:=0) el_syn HG8.2.2.2.1.out rfl HG8.fr HTN.out HG8.lt rfl rfl (by rfl) (by rfl) (by omega) (by unfold maxLen; omega) ?_
    intro rA capA w9 hk9 ho9;refine hK.out _ _ trivial (fun _=>?_)
    clear hK K;try simp only [Act.put,zs1,zs2,zs3]
    obtain ⟨k49,f49,HG9⟩:=HG8.app HXP HXA HWA hk9 ho9 (cs':=#[.int .i64 24,.string ⟨nm.toArray⟩,.int .i64 0,.slice none 0 0,.slice (some ⟨rA,0,none⟩) 1 capA,.int .i64 t.at_]) rfl rfl
    clear hk9 ho9 HG8 HTN k48 k48a;refine zT 8 hS ?_;try simp only [Act.put,zs1,zs2,zs3]
    refine zR 9 fun K hK=>?_
    go_simp;refine hK.out _ _ trivial (fun _=>?_)
    clear hK K;try simp only [Act.put,zs1,zs2,zs3]
    refine wpAnyH_done (by kernel_rfl) ?_ _
    clear k49 f49;generalize w9.setCell ⟨X,4,none⟩ (.slice (some ⟨rA,0,none⟩) 1 capA)=wc at*;go_wp2_with fail;go_meet
    case rel=>exact ⟨x1,l4,rA,capA,HRR.out,HG9⟩
 case rest=>
 obtain ⟨x5,l5,r5,c5,hres,HP,HB,HX,HK,HKA⟩:=hcut
 have HRT2:=zH (HRT.out.trans (thenT_ok hres.out))
 clear HRT HG k4 HCON;have HRT:=HRT2;clear HRT2;obtain ⟨ux,rx,hl⟩:=HP.out.ends.cons;have hex:=expect_any (bytes [46,46]) ux rx P wc (by rw [← hl]; exact HP.out)
 rw [← hl] at hex;have HEX:=zH hex;clear hex hl;rcases hq:expT (bytes [46,46]) l5 with y | ⟨v2,l6⟩
 ·have HRE:=zH (HRT.out.trans (thenT_err hq))
  rw [hq] at HEX;clear hq HRT;go_wp2_with fail;refine HEX.out.mono ?_;rintro e wE ⟨hbE,rfl⟩;have HBE:=zH (HB.out.trans hbE);clear hbE HEX;go_wp2_with fail;exact ⟨rfl,PaR.bad HRE.out HBE.out⟩
 have HRT2:=zH (HRT.out.trans (thenT_ok hq))
 have HLE_l6:Hid (l6.length < (l5).length):=expT_shr _ _ _ _ hq
 rw [hq] at HEX;clear hq HRT;have HRT:=HRT2;clear HRT2;have hf2:=tk_f2 v2.kind v2.at_ ⟨v2.text.toArray⟩;go_wp2_with fail;refine HEX.out.mono ?_;rintro e w7 ⟨hbN,heN,hpN⟩;unfold TkR tkV at heN;subst heN;clear HEX;have HP2:=zH hpN;have HB2:=zH (HB.out.trans hbN)
 have HKA2:Hid (Blk w7 A 31 #[.int .i64 0,.string ⟨#[]⟩,.int .i64 0,.slice none 0 0,.slice none 0 0,.int .i64 0]):=hbN.blk HKA.out (HP.out.apart HKA.out (by decide))
 have HX2:Hid (Blk w7 X 31 #[.int .i64 24,.string ⟨nm.toArray⟩,.int .i64 0,.slice none 0 0,.slice (some ⟨r5,0,none⟩) 1 c5,.int .i64 t.at_]):=hbN.blk HX.out (HP.out.apart HX.out (by decide))
 have HK2:Hid (KRow (frS (X+1)) w7 (X+1) (.slice (some ⟨r5,0,none⟩) 1 c5) (Fo.nil.app x5.one)):=HK.out.keep fun k hk hS=>⟨hS,hbN.block k hk (by have h1:=HXP.out; simp only [frS,decide_eq_true_eq] at hS; omega)⟩
 clear hpN hbN HP HB HKA HX HK;have HP:=HP2; have HB:=HB2; have HKA:=HKA2; have HX:=HX2; have HK:=HK2;clear HP2 HB2 HKA2 HX2 HK2;go_upto_region 6 with fail
 have HG:GF P w X A #[.int .i64 0,.string ⟨#[]⟩,.int .i64 0,.slice none 0 0,.slice none 0 0,.int .i64 0] #[.int .i64 24,.string ⟨nm.toArray⟩,.int .i64 0,.slice none 0 0,.slice (some ⟨r5,0,none⟩) 1 c5,.int .i64 t.at_] (.slice (some ⟨r5,0,none⟩) 1 c5) (Fo.nil.app x5.one) l6 w7:=⟨HP,HB,HX,HK,HKA⟩
 have HG:=HG.drew
 have HCON:=zH (HOP.out P l6 w7.drew HG.1.out)
 have k4:w7.drew.cell? ⟨X,4,none⟩=some (.slice (some ⟨r5,0,none⟩) 1 c5):=HG.cell rfl
 clear HP HX HKA HK HB;go_cut [34] from 26 to 34 (fun v17 wx=>∃(x1:Nd) (l1:List Tk) (r cap:Nat),Hid (ex l6=.ok (x1,l1))∧GF P w X A #[.int .i64 0,.string ⟨#[]⟩,.int .i64 0,.slice none 0 0,.slice none 0 0,.int .i64 0] #[.int .i64 24,.string ⟨nm.toArray⟩,.int .i64 0,.slice none 0 0,.slice (some ⟨r,0,none⟩) 2 cap,.int .i64 t.at_] (.slice (some ⟨r,0,none⟩) 2 cap) ((Fo.nil.app x5.one).app x1.one) l1 wx)
 case first=>
  refine wp_region_held_drew (S:=fun _=>True) (by kernel_rfl) trivial (fun hS=>?_)
  refine zT 0 hS ?_;try simp only [Act.put,zs1,zs2,zs3]
  refine zT 2 hS ?_;try simp only [Act.put,zs1,zs2,zs3]
  refine zT 3 hS ?_;try simp only [Act.put,zs1,zs2,zs3]
  refine zT 4 hS ?_;try simp only [Act.put,zs1,zs2,zs3]
  refine zF 1 5 (fun K hK=>?sab5) (fun K hK=>?sbb5)
  case sab5=>
   go_simp;refine hK.out _ _ trivial (fun _=>?_)
   clear hK K;try simp only [Act.put,zs1,zs2,zs3]
   refine zR 5 fun K hK=>?_
   go_simp;refine HCON.out.mono ?_;intro e w8 h;obtain ⟨hb8,h⟩:=h;rcases hRR:ex l6 with y | ⟨x1,l4⟩
   ·rw [hRR] at h
    obtain rfl:=h
    have HRE:Hid (R=.error y):=by show _=_; rw [HRT.out,hRR]; rfl
    have HB8:=zH (HG.2.1.out.trans hb8)
    clear hRR hb8 HCON HRT HG;go_wp2_with fail;exact ⟨rfl,PaR.bad HRE.out HB8.out⟩
   rw [hRR] at h;obtain ⟨⟨T,rfl,hT⟩,hp8⟩:=h;have HRR:=zH hRR;have HG8:=HG.call HXP hb8 hp8;have HTN:=HG.nd hT;have k48:w8.cell? ⟨X,4,none⟩=some (.slice (some ⟨r5,0,none⟩) 1 c5):=HG8.cell rfl;have k48a:(w8.alloc (.cells T 31)).cell? ⟨X,4,none⟩=some (.slice (some ⟨r5,0,none⟩) 1 c5):=HG8.cella rfl _;clear hRR hb8 HCON hT hp8 HG;have HRTT:=HRT;clear HRT;refine hK.out _ _ trivial (fun _=>?_)
   clear hK K;try simp only [Act.put,zs1,zs2,zs3]
   refine zR 6 fun K hK=>?_
   refine pstep_oneN el_syn rfl rfl HTN.out.size (by rfl) ?_
   refine hK.out _ _ trivial (fun _=>?_)
   clear hK K;try simp only [Act.put,zs1,zs2,zs3]
   refine zR 7 fun K hK=>?_
   refine pstep_app (n:=1) el_syn HG8.2.2.2.1.out rfl HG8.fr HTN.out HG8.lt rfl rfl (by rfl) (by rfl) (by omega) (by unfold maxLen; omega) ?_
   intro rA capA w9 hk9 ho9;refine hK.out _ _ trivial (fun _=>?_)
   clear hK K;try simp only [Act.put,zs1,zs2,zs3]
   obtain ⟨k49,f49,HG9⟩:=HG8.app HXP HXA HWA hk9 ho9 (cs':=#[.int .i64 24,.string ⟨nm.toArray⟩,.int .i64 0,.slice none 0 0,.slice (some ⟨rA,0,none⟩) 2 capA,.int .i64 t.at_]) rfl rfl
   clear hk9 ho9 HG8 HTN k48 k48a;refine zT 8 hS ?_;try simp only [Act.put,zs1,zs2,zs3]
   refine zR 9 fun K hK=>?_
   go_simp;refine hK.out _ _ trivial (fun _=>?_)
   clear hK K;try simp only [Act.put,zs1,zs2,zs3]
   refine wpAnyH_done (by kernel_rfl) ?_ _
   clear k49 f49;generalize w9.setCell ⟨X,4,none⟩ (.slice (some ⟨rA,0,none⟩) 2 capA)=wc at*;go_wp2_with fail;go_meet
   case rel=>exact ⟨x1,l4,rA,capA,HRR.out,HG9⟩
  case sbb5=>
   go_simp;refine HCON.out.mono ?_;intro e w8 h;obtain ⟨hb8,h⟩:=h;rcases hRR:ex l6 with y | ⟨x1,l4⟩
   ·rw [hRR] at h
    obtain rfl:=h
    have HRE:Hid (R=.error y):=by show _=_; rw [HRT.out,hRR]; rfl
    have HB8:=zH (HG.2.1.out.trans hb8)
    clear hRR hb8 HCON HRT HG;go_wp2_with fail;exact ⟨rfl,PaR.bad HRE.out HB8.out⟩
   rw [hRR] at h;obtain ⟨⟨T,rfl,hT⟩,hp8⟩:=h;have HRR:=zH hRR;have HG8:=HG.call HXP hb8 hp8;have HTN:=HG.nd hT;have k48:w8.cell? ⟨X,4,none⟩=some (.slice (some ⟨r5,0,none⟩) 1 c5):=HG8.cell rfl;have k48a:(w8.alloc (.cells T 31)).cell? ⟨X,4,none⟩=some (.slice (some ⟨r5,0,none⟩) 1 c5):=HG8.cella rfl _;clear hRR hb8 HCON hT hp8 HG;have HRTT:=HRT;clear HRT;refine hK.out _ _ trivial (fun _=>?_)
   clear hK K;try simp only [Act.put,zs1,zs2,zs3]
   refine zF 1 6 (fun K hK=>?sab11) (fun K hK=>?sbb11)
   case sab11=>
    go_simp;refine hK.out _ _ trivial (fun _=>?_)
    clear hK K;try simp only [Act.put,zs1,zs2,zs3]
    refine zR 6 fun K hK=>?_
    refine pstep_oneN el_syn rfl rfl HTN.out.size (by rfl) ?_
    refine hK.out _ _ trivial (fun _=>?_)
    clear hK K;try simp only [Act.put,zs1,zs2,zs3]
    refine zR 7 fun K hK=>?_
    refine pstep_app (n:=1) el_syn HG8.2.2.2.1.out rfl HG8.fr HTN.out HG8.lt rfl rfl (by rfl) (by rfl) (by omega) (by unfold maxLen; omega) ?_
    intro rA capA w9 hk9 ho9;refine hK.out _ _ trivial (fun _=>?_)
    clear hK K;try simp only [Act.put,zs1,zs2,zs3]
    obtain ⟨k49,f49,HG9⟩:=HG8.app HXP HXA HWA hk9 ho9 (cs':=#[.int .i64 24,.string ⟨nm.toArray⟩,.int .i64 0,.slice none 0 0,.slice (some ⟨rA,0,none⟩) 2 capA,.int .i64 t.at_]) rfl rfl
    clear hk9 ho9 HG8 HTN k48 k48a;refine zT 8 hS ?_;try simp only [Act.put,zs1,zs2,zs3]
    refine zR 9 fun K hK=>?_
    go_simp;refine hK.out _ _ trivial (fun _=>?_)
    clear hK K;try simp only [Act.put,zs1,zs2,zs3]
    refine wpAnyH_done (by kernel_rfl) ?_ _
    clear k49 f49;generalize w9.setCell ⟨X,4,none⟩ (.slice (some ⟨rA,0,none⟩) 2 capA)=wc at*;go_wp2_with fail;go_meet
    case rel=>exact ⟨x1,l4,rA,capA,HRR.out,HG9⟩
   case sbb11=>
    refine pstep_oneN el_syn rfl rfl HTN.out.size (by rfl) ?_
    refine hK.out _ _ trivial (fun _=>?_)
    clear hK K;try simp only [Act.put,zs1,zs2,zs3]
    refine zR 1 fun K hK=>?_
    go_simp;refine hK.out _ _ trivial (fun _=>?_)
    clear hK K;try simp only [Act.put,zs1,zs2,zs3]
    refine zR 7 fun K hK=>?_
    refine pstep_app (n:=1) el_syn HG8.2.2.2.1.out rfl HG8.fr HTN.out HG8.lt rfl rfl (by rfl) (by rfl) (by omega) (by unfold maxLen; omega) ?_
    intro rA capA w9 hk9 ho9;refine hK.out _ _ trivial (fun _=>?_)
    clear hK K;try simp only [Act.put,zs1,zs2,zs3]
    obtain ⟨k49,f49,HG9⟩:=HG8.app HXP HXA HWA hk9 ho9 (cs':=#[.int .i64 24,.string ⟨nm.toArray⟩,.int .i64 0,.slice none 0 0,.slice (some ⟨rA,0,none⟩) 2 capA,.int .i64 t.at_]) rfl rfl
    clear hk9 ho9 HG8 HTN k48 k48a;refine zT 8 hS ?_;try simp only [Act.put,zs1,zs2,zs3]
    refine zR 9 fun K hK=>?_
    go_simp;refine hK.out _ _ trivial (fun _=>?_)
    clear hK K;try simp only [Act.put,zs1,zs2,zs3]
    refine wpAnyH_done (by kernel_rfl) ?_ _
    clear k49 f49;generalize w9.setCell ⟨X,4,none⟩ (.slice (some ⟨rA,0,none⟩) 2 capA)=wc at*;go_wp2_with fail;go_meet
    case rel=>exact ⟨x1,l4,rA,capA,HRR.out,HG9⟩
 case rest=>
 obtain ⟨x7,l7,r7,c7,hres,HP,HB,HX,HK,HKA⟩:=hcut
 have HRT2:=zH (HRT.out.trans (thenT_ok hres.out))
 clear HRT HG k4 HCON;have HRT:=HRT2;clear HRT2;go_upto_region 7 with fail
 have HG:GF P w X A #[.int .i64 0,.string ⟨#[]⟩,.int .i64 0,.slice none 0 0,.slice none 0 0,.int .i64 0] #[.int .i64 24,.string ⟨nm.toArray⟩,.int .i64 0,.slice none 0 0,.slice (some ⟨r7,0,none⟩) 2 c7,.int .i64 t.at_] (.slice (some ⟨r7,0,none⟩) 2 c7) ((Fo.nil.app x5.one).app x7.one) l7 wc:=⟨HP,HB,HX,HK,HKA⟩
 have HG:=HG.drew
 have HCON:=zH (HBK.out P l7 wc.drew HG.1.out)
 have k4:wc.drew.cell? ⟨X,4,none⟩=some (.slice (some ⟨r7,0,none⟩) 2 c7):=HG.cell rfl
 clear HP HX HKA HK HB
 go_cut [43] from 35 to 43 (fun v17 wx=>∃(x1:Nd) (l1:List Tk) (r cap:Nat),Hid (blkP st l7=.ok (x1,l1))∧GF P w X A #[.int .i64 0,.string ⟨#[]⟩,.int .i64 0,.slice none 0 0,.slice none 0 0,.int .i64 0] #[.int .i64 24,.string ⟨nm.toArray⟩,.int .i64 0,.slice none 0 0,.slice (some ⟨r,0,none⟩) 3 cap,.int .i64 t.at_] (.slice (some ⟨r,0,none⟩) 3 cap) (((Fo.nil.app x5.one).app x7.one).app x1.one) l1 wx)
 case first=>
  refine wp_region_held_drew (S:=fun _=>True) (by kernel_rfl) trivial (fun hS=>?_)
  refine zT 0 hS ?_;try simp only [Act.put,zs1,zs2,zs3]
  refine zT 2 hS ?_;try simp only [Act.put,zs1,zs2,zs3]
  refine zT 3 hS ?_;try simp only [Act.put,zs1,zs2,zs3]
  refine zT 4 hS ?_;try simp only [Act.put,zs1,zs2,zs3]
  refine zF 1 5 (fun K hK=>?sac5) (fun K hK=>?sbc5)
  case sac5=>
   go_simp;refine hK.out _ _ trivial (fun _=>?_)
   clear hK K;try simp only [Act.put,zs1,zs2,zs3]
   refine zR 5 fun K hK=>?_
   go_simp;refine HCON.out.mono ?_;intro e w8 h;obtain ⟨hb8,h⟩:=h;rcases hRR:blkP st l7 with y | ⟨x1,l4⟩
   ·rw [hRR] at h
    obtain rfl:=h
    have HRE:Hid (R=.error y):=by show _=_; rw [HRT.out,hRR]; rfl
    have HB8:=zH (HG.2.1.out.trans hb8)
    clear hRR hb8 HCON HRT HG;go_wp2_with fail;exact ⟨rfl,PaR.bad HRE.out HB8.out⟩
   rw [hRR] at h;obtain ⟨⟨T,rfl,hT⟩,hp8⟩:=h;have HRR:=zH hRR;have HG8:=HG.call HXP hb8 hp8;have HTN:=HG.nd hT;have k48:w8.cell? ⟨X,4,none⟩=some (.slice (some ⟨r7,0,none⟩) 2 c7):=HG8.cell rfl;have k48a:(w8.alloc (.cells T 31)).cell? ⟨X,4,none⟩=some (.slice (some ⟨r7,0,none⟩) 2 c7):=HG8.cella rfl _;clear hRR hb8 HCON hT hp8 HG;have HRTT:=HRT;clear HRT;refine hK.out _ _ trivial (fun _=>?_)
   clear hK K;try simp only [Act.put,zs1,zs2,zs3]
   refine zR 6 fun K hK=>?_
   refine pstep_oneN el_syn rfl rfl HTN.out.size (by rfl) ?_
   refine hK.out _ _ trivial (fun _=>?_)
   clear hK K;try simp only [Act.put,zs1,zs2,zs3]
   refine zR 7 fun K hK=>?_
   refine pstep_app (n:=2) el_syn HG8.2.2.2.1.out rfl HG8.fr HTN.out HG8.lt rfl rfl (by rfl) (by rfl) (by omega) (by unfold maxLen; omega) ?_
   intro rA capA w9 hk9 ho9;refine hK.out _ _ trivial (fun _=>?_)
   clear hK K;try simp only [Act.put,zs1,zs2,zs3]
   obtain ⟨k49,f49,HG9⟩:=HG8.app HXP HXA HWA hk9 ho9 (cs':=#[.int .i64 24,.string ⟨nm.toArray⟩,.int .i64 0,.slice none 0 0,.slice (some ⟨rA,0,none⟩) 3 capA,.int .i64 t.at_]) rfl rfl
   clear hk9 ho9 HG8 HTN k48 k48a;refine zT 8 hS ?_;try simp only [Act.put,zs1,zs2,zs3]
   refine zR 9 fun K hK=>?_
   go_simp;refine hK.out _ _ trivial (fun _=>?_)
   clear hK K;try simp only [Act.put,zs1,zs2,zs3]
   refine wpAnyH_done (by kernel_rfl) ?_ _
   clear k49 f49;generalize w9.setCell ⟨X,4,none⟩ (.slice (some ⟨rA,0,none⟩) 3 capA)=wc at*;go_wp2_with fail;go_meet
   case rel=>exact ⟨x1,l4,rA,capA,HRR.out,HG9⟩
  case sbc5=>
   go_simp;refine HCON.out.mono ?_;intro e w8 h;obtain ⟨hb8,h⟩:=h;rcases hRR:blkP st l7 with y | ⟨x1,l4⟩
   ·rw [hRR] at h
    obtain rfl:=h
    have HRE:Hid (R=.error y):=by show _=_; rw [HRT.out,hRR]; rfl
    have HB8:=zH (HG.2.1.out.trans hb8)
    clear hRR hb8 HCON HRT HG;go_wp2_with fail;exact ⟨rfl,PaR.bad HRE.out HB8.out⟩
   rw [hRR] at h;obtain ⟨⟨T,rfl,hT⟩,hp8⟩:=h;have HRR:=zH hRR;have HG8:=HG.call HXP hb8 hp8;have HTN:=HG.nd hT;have k48:w8.cell? ⟨X,4,none⟩=some (.slice (some ⟨r7,0,none⟩) 2 c7):=HG8.cell rfl;have k48a:(w8.alloc (.cells T 31)).cell? ⟨X,4,none⟩=some (.slice (some ⟨r7,0,none⟩) 2 c7):=HG8.cella rfl _;clear hRR hb8 HCON hT hp8 HG;have HRTT:=HRT;clear HRT;refine hK.out _ _ trivial (fun _=>?_)
   clear hK K;try simp only [Act.put,zs1,zs2,zs3]
   refine zF 1 6 (fun K hK=>?sac11) (fun K hK=>?sbc11)
   case sac11=>
    go_simp;refine hK.out _ _ trivial (fun _=>?_)
    clear hK K;try simp only [Act.put,zs1,zs2,zs3]
    refine zR 6 fun K hK=>?_
    refine pstep_oneN el_syn rfl rfl HTN.out.size (by rfl) ?_
    refine hK.out _ _ trivial (fun _=>?_)
    clear hK K;try simp only [Act.put,zs1,zs2,zs3]
    refine zR 7 fun K hK=>?_
    refine pstep_app (n:=2) el_syn HG8.2.2.2.1.out rfl HG8.fr HTN.out HG8.lt rfl rfl (by rfl) (by rfl) (by omega) (by unfold maxLen; omega) ?_
    intro rA capA w9 hk9 ho9;refine hK.out _ _ trivial (fun _=>?_)
    clear hK K;try simp only [Act.put,zs1,zs2,zs3]
    obtain ⟨k49,f49,HG9⟩:=HG8.app HXP HXA HWA hk9 ho9 (cs':=#[.int .i64 24,.string ⟨nm.toArray⟩,.int .i64 0,.slice none 0 0,.slice (some ⟨rA,0,none⟩) 3 capA,.int .i64 t.at_]) rfl rfl
    clear hk9 ho9 HG8 HTN k48 k48a;refine zT 8 hS ?_;try simp only [Act.put,zs1,zs2,zs3]
    refine zR 9 fun K hK=>?_
    go_simp;refine hK.out _ _ trivial (fun _=>?_)
    clear hK K;try simp only [Act.put,zs1,zs2,zs3]
    refine wpAnyH_done (by kernel_rfl) ?_ _
    clear k49 f49;generalize w9.setCell ⟨X,4,none⟩ (.slice (some ⟨rA,0,none⟩) 3 capA)=wc at*;go_wp2_with fail;go_meet
    case rel=>exact ⟨x1,l4,rA,capA,HRR.out,HG9⟩
   case sbc11=>
    refine pstep_oneN el_syn rfl rfl HTN.out.size (by rfl) ?_
    refine hK.out _ _ trivial (fun _=>?_)
    clear hK K;try simp only [Act.put,zs1,zs2,zs3]
    refine zR 1 fun K hK=>?_
    go_simp;refine hK.out _ _ trivial (fun _=>?_)
    clear hK K;try simp only [Act.put,zs1,zs2,zs3]
    refine zR 7 fun K hK=>?_
    refine pstep_app (n:=2) el_syn HG8.2.2.2.1.out rfl HG8.fr HTN.out HG8.lt rfl rfl (by rfl) (by rfl) (by omega) (by unfold maxLen; omega) ?_
    intro rA capA w9 hk9 ho9;refine hK.out _ _ trivial (fun _=>?_)
    clear hK K;try simp only [Act.put,zs1,zs2,zs3]
    obtain ⟨k49,f49,HG9⟩:=HG8.app HXP HXA HWA hk9 ho9 (cs':=#[.int .i64 24,.string ⟨nm.toArray⟩,.int .i64 0,.slice none 0 0,.slice (some ⟨rA,0,none⟩) 3 capA,.int .i64 t.at_]) rfl rfl
    clear hk9 ho9 HG8 HTN k48 k48a;refine zT 8 hS ?_;try simp only [Act.put,zs1,zs2,zs3]
    refine zR 9 fun K hK=>?_
    go_simp;refine hK.out _ _ trivial (fun _=>?_)
    clear hK K;try simp only [Act.put,zs1,zs2,zs3]
    refine wpAnyH_done (by kernel_rfl) ?_ _
    clear k49 f49;generalize w9.setCell ⟨X,4,none⟩ (.slice (some ⟨rA,0,none⟩) 3 capA)=wc at*;go_wp2_with fail;go_meet
    case rel=>exact ⟨x1,l4,rA,capA,HRR.out,HG9⟩
 case rest=>
 obtain ⟨x8,l8,r8,c8,hres,HP,HB,HX,HK,HKA⟩:=hcut
 have HRT2:=zH (HRT.out.trans (thenT_ok hres.out))
 clear HRT HG k4 HCON;have HRT:=HRT2;clear HRT2;have HRE:Hid (R=.ok ((hdT 24 nm 0 t.at_,(x5.one.app x7.one).app x8.one),l8)):=HRT.out;have HF:Hid (FRow (maskW (frS (X+1)) wc) (.slice (some ⟨r8,0,none⟩) 3 c8) ((x5.one.app x7.one).app x8.one)):=HK.out.frow
 go_wp2_with (first | ((with_reducible show wpList _ _ _ (⟨_,Op.load _ _,_,_,_,_⟩::_) _ _); refine wpList_load_row rfl 31 (.tmp 5) rfl X (by rfl) 31 #[.int .i64 24,.string ⟨nm.toArray⟩,.int .i64 0,.slice none 0 0,.slice (some ⟨r8,0,none⟩) 3 c8,.int .i64 t.at_] (0,0) _ (by exact HX.out) Tryz.underlying31 rfl (by exact syn_info) ?_) | ((with_reducible show wpList _ _ _ (⟨_,Op.store _ _ _,_,_,_,_⟩::_) _ _); refine wpList_store_rowTo rfl 31 (.tmp 4) (.tmp 44) rfl rfl A #[.int .i64 24,.string ⟨nm.toArray⟩,.int .i64 0,.slice none 0 0,.slice (some ⟨r8,0,none⟩) 3 c8,.int .i64 t.at_] (by rfl) (by rfl) 31 _ (by exact HKA.out) (by exact syn_info) (by rfl) (by simp [Value.oneCell']) ?_))
 refine bodyPost_ret (results_cell_row rfl _ _ A 31 _ (0,0) _ rfl (HKA.out.rset #[.int .i64 24,.string ⟨nm.toArray⟩,.int .i64 0,.slice none 0 0,.slice (some ⟨r8,0,none⟩) 3 c8,.int .i64 t.at_]) Tryz.underlying31 rfl syn_info) rfl (PaR.good HRE.out ?_ ⟨_,rfl,?_⟩ ?_)
 ·exact HB.out.rset_new (Nat.le_of_eq HWA.out) _
 ·exact ndv_mk (hdT 24 nm 0 t.at_) ((x5.one.app x7.one).app x8.one) rfl rfl (nmrow_nil _) (HF.out.sub (MSub.csub fun k hk hS=>⟨by have h1:=HXA.out; have h2:=HWA.out; simp only [frS,decide_eq_true_eq] at hS ⊢; omega,heap_rset_ne _ A k _ (by have h1:=HXA.out; simp only [frS,decide_eq_true_eq] at hS; omega)⟩))
 ·exact HP.out.rset hlt.out _
end Go.Proofs.YtbaidkefobhipaaGreatDoor
