/-
  Walk: the parser's primary, with what its expression answers. (Printed by gen_pg.py.)
-/
import Derived.Test.YtbaidkefobhipaaGreatDoorZS11
import Derived.Test.YtbaidkefobhipaaGreatDoorZPsh
import Derived.Deep.RegionHeld3
namespace Go.Proofs.YtbaidkefobhipaaGreatDoor
set_option maxHeartbeats 8000000
set_option maxRecDepth 100000
open Go.RowKit

theorem atoi_run (l:List UInt8) (v:Int) (hl:l.length≤16384) (h:Lib.atoiAll l=.ok v) (w:World):
  Calls Tryz.prog 128 #[.string ⟨l.toArray⟩] w fun e w'=>e=.returned (.tuple #[.int .i64 v,.nilIface])∧Below w.heap.size w w':=by
 refine (Tryz.strconv_Atoi_ok ⟨l.toArray⟩ (by simp [ByteArray.size]; omega) v (by simpa using h) w).mono ?_
 rintro e w' ⟨rfl,hw⟩;refine ⟨rfl,?_⟩;rcases hw with rfl | ⟨t,rfl⟩
 ·exact Below.refl _ _
 ·exact ⟨rfl,rfl,rfl,by rw [Lib.bytesWorld_size]; omega,fun j hj=>Lib.bytesWorld_at_old _ _ _ _ hj⟩
theorem PsW.drew {w:World} {P:Nat} {l:List Tk} (h:PsW w P l):PsW w.drew P l:=h.keep fun _ _=>rfl
theorem But.drew {P:Nat} {a w:World} (h:But P a w):But P a w.drew:=⟨h.os,h.tape,h.output,h.size,h.block⟩
theorem ndv_leaf (w:World) (k:Int) (s:List UInt8) (n:Int) (p:Nat):NdV w #[.int .i64 k,.string ⟨s.toArray⟩,.int .i64 n,.slice none 0 0,.slice none 0 0,.int .i64 (p:Nat)] (hdT k s n p,.nil):=
 ndv_mk (hdT k s n p) .nil rfl rfl (nmrow_nil _) (frow_nil _)

theorem pri_any (L:Nat) (hL:L≤64) (ex:Pa Nd) (hex:OpOk 56 [.int .i64 ((L:Int)+1)] ex) (hsh:Shr ex):OpOk 125 [.int .i64 (L:Nat)] (priP ex):=by
 intro P l w hp;obtain ⟨t,r,rfl⟩:=hp.ends.cons;have HKA0:=zH (Blk.new w 31 zSyn);have HBA:=zH ((Below.refl w.heap.size w).alloc (Nat.le_refl _) (.cells zSyn 31));have HOP:=zH hex;have HSH:=zH hsh;have HP:=zH hp;have hlt:=zH hp.lt;have HLI:=zH (fun ends P l n w hp hn=>list_any ((L:Int)+1) ends ex hex hsh P l n w hp hn)
 clear hp hex hsh;obtain ⟨R,hR⟩:∃R,priP ex (t::r)=R:=⟨_,rfl⟩;rw [hR];have HR:=zH hR;clear hR;have HN:=zH (now_any t r P _ (HP.out.below HBA.out));unfold tkV at HN;unfold zSyn at HKA0 HBA HN;show Calls _ _ #[_,_] _ _
 go_enter Tryz.func125,Tryz.ntmps125
 go_upto_region 1 with fail
 generalize w.alloc (.cells #[.int .i64 0,.string ⟨#[]⟩,.int .i64 0,.slice none 0 0,.slice none 0 0,.int .i64 0] 31)=wa at*;generalize hA:w.heap.size=A at*;have HA:=zH hA;clear hA;go_wp2_with fail;refine HN.out.mono ?_;rintro e w1 ⟨rfl,hb⟩;have HB1:=zH (HBA.out.trans (hb.mono (Nat.le_of_lt HKA0.out.lt)))
 have HK1:Hid (Blk w1 A 31 #[.int .i64 0,.string ⟨#[]⟩,.int .i64 0,.slice none 0 0,.slice none 0 0,.int .i64 0]):=(hb.block A HKA0.out.lt).trans HKA0.out
 clear hb HN HKA0 HBA;go_upto_region 2 with fail
 have HB2:=zH (HB1.out.alloc (Nat.le_of_lt HK1.out.lt) (.cells #[.int .i64 t.kind,.string ⟨t.text.toArray⟩,.int .i64 t.at_] 73))
 have HKA:=zH (HK1.out.alloc (.cells #[.int .i64 t.kind,.string ⟨t.text.toArray⟩,.int .i64 t.at_] 73))
 have HKT:=zH (Blk.new w1 73 #[.int .i64 t.kind,.string ⟨t.text.toArray⟩,.int .i64 t.at_])
 have HAK:=zH HK1.out.lt
 generalize w1.alloc (.cells #[.int .i64 t.kind,.string ⟨t.text.toArray⟩,.int .i64 t.at_] 73)=w2 at*;generalize w1.heap.size=KT at*;have HB:Hid (But P w w2):=But.of_below (by rw [HA.out]; exact HB2.out)
 have HPK:Hid (PsW w2 P (t::r)):=HP.out.below (by rw [HA.out]; exact HB2.out)
 have c0:w2.cell? ⟨KT,0,none⟩=some (.int .i64 t.kind):=HKT.out.cell 0
 have c1:w2.cell? ⟨KT,1,none⟩=some (.string ⟨t.text.toArray⟩):=HKT.out.cell 1
 have c2:w2.cell? ⟨KT,2,none⟩=some (.int .i64 t.at_):=HKT.out.cell 2
 clear HB1 HK1 HB2;by_cases h1:t.kind=1
 ·have e1:((t.kind:Int)==1)=true:=by simp [h1]
  have HNU:=zH (HPK.out.ends.num (by omega) h1)
  have HRE:Hid (R=.ok ((hdT 1 [] (numV t.text) t.at_,.nil),r)):=by show _=_; rw [← HR.out]; simp only [priP]; rw [if_pos h1]
  have HTK:=zH (take_any t r P w2 HPK.out (by omega))
  unfold tkV at HTK;have H1:=zH h1;clear h1 HR;go_wp2_with fail;refine HTK.out.mono ?_;rintro e w3 ⟨rfl,hp,hb⟩;have HPN:=zH hp;have HKT2:Hid (Blk w3 KT 73 #[.int .i64 t.kind,.string ⟨t.text.toArray⟩,.int .i64 t.at_]):=hb.blk HKT.out (HPK.out.apart HKT.out (by decide))
  have HKA2:Hid (Blk w3 A 31 #[.int .i64 0,.string ⟨#[]⟩,.int .i64 0,.slice none 0 0,.slice none 0 0,.int .i64 0]):=hb.blk HKA.out (HPK.out.apart HKA.out (by decide))
  have HB2:=zH (HB.out.trans hb)
  clear hp hb HTK c0 c1 c2 HKT HKA HB HPK;have HKT:=HKT2; have HKA:=HKA2; have HB:=HB2; have HPK:=HPN;clear HKT2 HKA2 HB2 HPN;have c0:w3.cell? ⟨KT,0,none⟩=some (.int .i64 t.kind):=HKT.out.cell 0;have c1:w3.cell? ⟨KT,1,none⟩=some (.string ⟨t.text.toArray⟩):=HKT.out.cell 1;have c2:w3.cell? ⟨KT,2,none⟩=some (.int .i64 t.at_):=HKT.out.cell 2;go_wp2_with fail
  refine (atoi_run t.text _ HNU.out.2 HNU.out.1 _).mono ?_
  rintro e w4 ⟨rfl,hb⟩;have HPN:=zH (HPK.out.below hb);have HKT2:Hid (Blk w4 KT 73 #[.int .i64 t.kind,.string ⟨t.text.toArray⟩,.int .i64 t.at_]):=(hb.block _ HKT.out.lt).trans HKT.out;have HKA2:Hid (Blk w4 A 31 #[.int .i64 0,.string ⟨#[]⟩,.int .i64 0,.slice none 0 0,.slice none 0 0,.int .i64 0]):=(hb.block _ HKA.out.lt).trans HKA.out;have HB2:=zH (HB.out.step hb);clear hb c0 c1 c2 HKT HKA HB HPK
  have HKT:=HKT2; have HKA:=HKA2; have HB:=HB2; have HPK:=HPN
  clear HKT2 HKA2 HB2 HPN;have c0:w4.cell? ⟨KT,0,none⟩=some (.int .i64 t.kind):=HKT.out.cell 0;have c1:w4.cell? ⟨KT,1,none⟩=some (.string ⟨t.text.toArray⟩):=HKT.out.cell 1;have c2:w4.cell? ⟨KT,2,none⟩=some (.int .i64 t.at_):=HKT.out.cell 2;obtain ⟨nv,hnv⟩:∃n,numV t.text=n:=⟨_,rfl⟩;rw [hnv] at HRE ⊢;clear hnv
  go_wp2_with ((with_reducible show wpList _ _ _ (⟨_,Op.store _ _ _,_,_,_,_⟩::_) _ _); refine wpList_store_rowTo rfl 31 (.tmp 4) (.tmp 26) rfl rfl A #[.int .i64 1,.string ⟨#[]⟩,.int .i64 nv,.slice none 0 0,.slice none 0 0,.int .i64 t.at_] (by rfl) (by rfl) 31 _ (by exact HKA.out) (by exact syn_info) (by rfl) (by simp [Value.oneCell']) ?_)
  refine bodyPost_ret (results_cell_row rfl _ _ A 31 _ (0,0) _ rfl (HKA.out.rset #[.int .i64 1,.string ⟨#[]⟩,.int .i64 nv,.slice none 0 0,.slice none 0 0,.int .i64 t.at_]) Tryz.underlying31 rfl syn_info) rfl (PaR.good HRE.out ?_ ⟨_,rfl,?_⟩ ?_)
  ·exact HB.out.rset_new (Nat.le_of_eq HA.out) _
  ·exact ndv_leaf _ _ _ _ _
  ·exact HPK.out.rset hlt.out _
 have n1:((t.kind:Int)==1)=false:=by simp; omega
 by_cases h2:t.kind=2
 ·have e1:((t.kind:Int)==2)=true:=by simp [h2]
  have HRE:Hid (R=.ok ((hdT 2 t.text 0 t.at_,.nil),r)):=by show _=_; rw [← HR.out]; simp only [priP]; rw [if_neg h1,if_pos h2]
  have HTK:=zH (take_any t r P w2 HPK.out (by omega))
  unfold tkV at HTK;clear h1 h2 HR;go_wp2_with fail;refine HTK.out.mono ?_;rintro e w3 ⟨rfl,hp,hb⟩;have HPN:=zH hp;have HKT2:Hid (Blk w3 KT 73 #[.int .i64 t.kind,.string ⟨t.text.toArray⟩,.int .i64 t.at_]):=hb.blk HKT.out (HPK.out.apart HKT.out (by decide))
  have HKA2:Hid (Blk w3 A 31 #[.int .i64 0,.string ⟨#[]⟩,.int .i64 0,.slice none 0 0,.slice none 0 0,.int .i64 0]):=hb.blk HKA.out (HPK.out.apart HKA.out (by decide))
  have HB2:=zH (HB.out.trans hb)
  clear hp hb HTK c0 c1 c2 HKT HKA HB HPK;have HKT:=HKT2; have HKA:=HKA2; have HB:=HB2; have HPK:=HPN;clear HKT2 HKA2 HB2 HPN;have c0:w3.cell? ⟨KT,0,none⟩=some (.int .i64 t.kind):=HKT.out.cell 0;have c1:w3.cell? ⟨KT,1,none⟩=some (.string ⟨t.text.toArray⟩):=HKT.out.cell 1;have c2:w3.cell? ⟨KT,2,none⟩=some (.int .i64 t.at_):=HKT.out.cell 2
  go_wp2_with ((with_reducible show wpList _ _ _ (⟨_,Op.store _ _ _,_,_,_,_⟩::_) _ _); refine wpList_store_rowTo rfl 31 (.tmp 4) (.tmp 37) rfl rfl A #[.int .i64 2,.string ⟨t.text.toArray⟩,.int .i64 0,.slice none 0 0,.slice none 0 0,.int .i64 t.at_] (by rfl) (by rfl) 31 _ (by exact HKA.out) (by exact syn_info) (by rfl) (by simp [Value.oneCell']) ?_)
  refine bodyPost_ret (results_cell_row rfl _ _ A 31 _ (0,0) _ rfl (HKA.out.rset #[.int .i64 2,.string ⟨t.text.toArray⟩,.int .i64 0,.slice none 0 0,.slice none 0 0,.int .i64 t.at_]) Tryz.underlying31 rfl syn_info) rfl (PaR.good HRE.out ?_ ⟨_,rfl,?_⟩ ?_)
  ·exact HB.out.rset_new (Nat.le_of_eq HA.out) _
  ·exact ndv_leaf _ _ _ _ _
  ·exact HPK.out.rset hlt.out _
 have n2:((t.kind:Int)==2)=false:=by simp; omega
 by_cases h3:t.kind=3
 ·have e1:((t.kind:Int)==3)=true:=by simp [h3]
  have HRN:Hid (R=if isT (bytes [40]) r then thenT (lisL ex (bytes [41]) r.length .nil r.tail) fun k l2=>.ok ((hdT 7 t.text 0 t.at_,k),l2) else .ok ((hdT 3 t.text 0 t.at_,.nil),r)):=by show _=_; rw [← HR.out]; simp only [priP]; rw [if_neg h1,if_neg h2,if_pos h3]
  have HTK:=zH (take_any t r P w2 HPK.out (by omega))
  unfold tkV at HTK;clear h1 h2 h3 HR;go_upto_region 11 with fail
  refine HTK.out.mono ?_
  rintro e w3 ⟨rfl,hp,hb⟩;have HPN:=zH hp;have HKT2:Hid (Blk w3 KT 73 #[.int .i64 t.kind,.string ⟨t.text.toArray⟩,.int .i64 t.at_]):=hb.blk HKT.out (HPK.out.apart HKT.out (by decide))
  have HKA2:Hid (Blk w3 A 31 #[.int .i64 0,.string ⟨#[]⟩,.int .i64 0,.slice none 0 0,.slice none 0 0,.int .i64 0]):=hb.blk HKA.out (HPK.out.apart HKA.out (by decide))
  have HB2:=zH (HB.out.trans hb)
  clear hp hb HTK c0 c1 c2 HKT HKA HB HPK;have HKT:=HKT2; have HKA:=HKA2; have HB:=HB2; have HPK:=HPN;clear HKT2 HKA2 HB2 HPN;have c0:w3.cell? ⟨KT,0,none⟩=some (.int .i64 t.kind):=HKT.out.cell 0;have c1:w3.cell? ⟨KT,1,none⟩=some (.string ⟨t.text.toArray⟩):=HKT.out.cell 1;have c2:w3.cell? ⟨KT,2,none⟩=some (.int .i64 t.at_):=HKT.out.cell 2;go_upto_region 11 with fail
  obtain ⟨u,r2,rfl⟩:=HPK.out.ends.cons
  have hbb:=(Below.refl w3.heap.size w3).alloc (Nat.le_refl _) (.cells #[.string ⟨#[40]⟩] 9)
  have HBB:=zH hbb
  have HIS:Hid (Calls Tryz.prog 52 #[.pointer (some ⟨P,0,none⟩),.slice (some ⟨w3.heap.size,0,none⟩) 1 1] (w3.alloc (.cells #[.string ⟨#[40]⟩] 9)) fun e w'=>e=.returned (.bool (isT (bytes [40]) (u::r2)))∧Below (w3.alloc (.cells #[.string ⟨#[40]⟩] 9)).heap.size (w3.alloc (.cells #[.string ⟨#[40]⟩] 9)) w'):=is_one (bytes [40]) _ u r2 P _ (HPK.out.below hbb) (Blk.new w3 9 #[.string ⟨#[40]⟩])
  obtain ⟨q,hq⟩:∃q,isT (bytes [40]) (u::r2)=q:=⟨_,rfl⟩
  rw [hq] at HIS;have HQq:=zH hq;clear hbb hq;go_wp2_with fail;generalize w3.alloc (.cells #[.string ⟨#[40]⟩] 9)=wb at*;refine HIS.out.mono ?_;rintro e w4 ⟨rfl,hb2⟩;have hb:=HBB.out.trans (hb2.mono HBB.out.size);clear hb2 HBB HIS;have HPN:=zH (HPK.out.below hb);have HKT2:Hid (Blk w4 KT 73 #[.int .i64 t.kind,.string ⟨t.text.toArray⟩,.int .i64 t.at_]):=(hb.block _ HKT.out.lt).trans HKT.out
  have HKA2:Hid (Blk w4 A 31 #[.int .i64 0,.string ⟨#[]⟩,.int .i64 0,.slice none 0 0,.slice none 0 0,.int .i64 0]):=(hb.block _ HKA.out.lt).trans HKA.out
  have HB2:=zH (HB.out.step hb)
  clear hb c0 c1 c2 HKT HKA HB HPK;have HKT:=HKT2; have HKA:=HKA2; have HB:=HB2; have HPK:=HPN;clear HKT2 HKA2 HB2 HPN;have c0:w4.cell? ⟨KT,0,none⟩=some (.int .i64 t.kind):=HKT.out.cell 0;have c1:w4.cell? ⟨KT,1,none⟩=some (.string ⟨t.text.toArray⟩):=HKT.out.cell 1;have c2:w4.cell? ⟨KT,2,none⟩=some (.int .i64 t.at_):=HKT.out.cell 2
  cases q with
  | false=>
   have HRE:Hid (R=.ok ((hdT 3 t.text 0 t.at_,.nil),u::r2)):=by show _=_; rw [HRN.out,HQq.out]; rfl
   clear HRN;go_wp2_with ((with_reducible show wpList _ _ _ (⟨_,Op.store _ _ _,_,_,_,_⟩::_) _ _); refine wpList_store_rowTo rfl 31 (.tmp 4) (.tmp 52) rfl rfl A #[.int .i64 3,.string ⟨t.text.toArray⟩,.int .i64 0,.slice none 0 0,.slice none 0 0,.int .i64 t.at_] (by rfl) (by rfl) 31 _ (by exact HKA.out) (by exact syn_info) (by rfl) (by simp [Value.oneCell']) ?_)
   refine bodyPost_ret (results_cell_row rfl _ _ A 31 _ (0,0) _ rfl (HKA.out.rset #[.int .i64 3,.string ⟨t.text.toArray⟩,.int .i64 0,.slice none 0 0,.slice none 0 0,.int .i64 t.at_]) Tryz.underlying31 rfl syn_info) rfl (PaR.good HRE.out ?_ ⟨_,rfl,?_⟩ ?_)
   ·exact HB.out.rset_new (Nat.le_of_eq HA.out) _
   ·exact ndv_leaf _ _ _ _ _
   ·exact HPK.out.rset hlt.out _
  | true=>
   have HRT:Hid (R=thenT (lisL ex (bytes [41]) (u::r2).length .nil r2) fun k l2=>.ok ((hdT 7 t.text 0 t.at_,k),l2)):=by show _=_; rw [HRN.out,HQq.out]; rfl
   have HTK:=zH (take_any u r2 P w4 HPK.out (isT_kind HQq.out))
   unfold tkV at HTK;clear HRN;go_upto_region 14 with fail
   refine HTK.out.mono ?_
   rintro e w5 ⟨rfl,hp,hb⟩;have HPN:=zH hp;have HKT2:Hid (Blk w5 KT 73 #[.int .i64 t.kind,.string ⟨t.text.toArray⟩,.int .i64 t.at_]):=hb.blk HKT.out (HPK.out.apart HKT.out (by decide))
   have HKA2:Hid (Blk w5 A 31 #[.int .i64 0,.string ⟨#[]⟩,.int .i64 0,.slice none 0 0,.slice none 0 0,.int .i64 0]):=hb.blk HKA.out (HPK.out.apart HKA.out (by decide))
   have HB2:=zH (HB.out.trans hb)
   clear hp hb HTK c0 c1 c2 HKT HKA HB HPK;have HKT:=HKT2; have HKA:=HKA2; have HB:=HB2; have HPK:=HPN;clear HKT2 HKA2 HB2 HPN;have c0:w5.cell? ⟨KT,0,none⟩=some (.int .i64 t.kind):=HKT.out.cell 0;have c1:w5.cell? ⟨KT,1,none⟩=some (.string ⟨t.text.toArray⟩):=HKT.out.cell 1;have c2:w5.cell? ⟨KT,2,none⟩=some (.int .i64 t.at_):=HKT.out.cell 2;go_upto_region 14 with fail
   have hwL:IntKind.i64.wrap ((L:Int)+1)=(L:Int)+1:=IntWalk.i64_in _ (by omega)
   have hS0:w5.drew.cell? ⟨KT,1,none⟩=some (.string ⟨t.text.toArray⟩)∧w5.drew.cell? ⟨KT,2,none⟩=some (.int .i64 t.at_):=⟨c1,c2⟩
   have HC:=zH (HLI.out (bytes [41]) P r2 ((u::r2).length) w5.drew HPK.out.drew (by simp))
   have HPD:Hid (PsW w5.drew P r2):=HPK.out.drew
   refine wp_region_held_drew (S:=fun _=>True) (by kernel_rfl) trivial (fun hHeld=>?_)
   clear hHeld;refine wpAnyH_weaken (S2:=fun W=>W.cell? ⟨KT,1,none⟩=some (.string ⟨t.text.toArray⟩)∧W.cell? ⟨KT,2,none⟩=some (.int .i64 t.at_)) (fun _ _=>trivial) ?_
   have hS:=hS0
   refine zT 0 hS ?_;try simp only [Act.put,zs1,zs2,zs3]
   refine zT 1 hS ?_;try simp only [Act.put,zs1,zs2,zs3]
   refine zT 2 hS ?_;try simp only [Act.put,zs1,zs2,zs3]
   refine zT 3 hS ?_;try simp only [Act.put,zs1,zs2,zs3]
   refine zT 4 hS ?_;try simp only [Act.put,zs1,zs2,zs3]
   refine zT 6 hS ?_;try simp only [Act.put,zs1,zs2,zs3]
   refine zT 7 hS ?_;try simp only [Act.put,zs1,zs2,zs3]
   refine zR 5 fun K hK=>?_
   go_simp;refine HC.out.mono ?_;intro e w8 h;obtain ⟨hb8,h⟩:=h;have HB8:Hid (But P w w8):=HB.out.drew.trans hb8;rcases hRR:lisL ex (bytes [41]) ((u::r2).length) .nil r2 with y | ⟨F,l4⟩
   ·rw [hRR] at h
    obtain rfl:=h
    have HRE:Hid (R=.error y):=by show _=_; rw [HRT.out,hRR]; rfl
    clear hRR hb8 HC HRT;go_wp2_with fail;exact ⟨rfl,PaR.bad HRE.out HB8.out⟩
   rw [hRR] at h;obtain ⟨⟨V,rfl,hV⟩,hp8⟩:=h;have HRE:Hid (R=.ok ((hdT 7 t.text 0 t.at_,F),l4)):=by show _=_; rw [HRT.out,hRR]; rfl
   have HV:=zH hV
   have HP8:=zH hp8
   have HKT8:Hid (Blk w8 KT 73 #[.int .i64 t.kind,.string ⟨t.text.toArray⟩,.int .i64 t.at_]):=hb8.blk HKT.out.drew (HPD.out.apart HKT.out.drew (by decide))
   have HKA8:Hid (Blk w8 A 31 #[.int .i64 0,.string ⟨#[]⟩,.int .i64 0,.slice none 0 0,.slice none 0 0,.int .i64 0]):=hb8.blk HKA.out.drew (HPD.out.apart HKA.out.drew (by decide))
   obtain ⟨vx,vc,hvs,-⟩:=id hV
   subst hvs;clear hRR hb8 HC HRT hV hp8;refine hK.out _ _ ?_ fun hT=>?_
   ·exact ⟨HKT8.out.cell 1,HKT8.out.cell 2⟩
   replace hS:=hT;clear hT hK K;try simp only [Act.put,zs1,zs2,zs3]
   refine zT 8 hS ?_;try simp only [Act.put,zs1,zs2,zs3]
   refine zR 9 fun K hK=>?_
   refine pstep_store rfl 31 (.tmp 4) (.tmp 63) rfl rfl A #[.int .i64 7,.string ⟨t.text.toArray⟩,.int .i64 0,.slice none 0 0,.slice vx F.len vc,.int .i64 t.at_] (by rfl) (by rfl) 31 _ HKA8.out syn_info rfl (by simp [Value.oneCell']) ?_
   refine hK.out _ _ ?_ fun hT=>?_
   ·exact ⟨(HKT8.out.rset_ne _ (Nat.ne_of_gt HAK.out)).cell 1,(HKT8.out.rset_ne _ (Nat.ne_of_gt HAK.out)).cell 2⟩
   replace hS:=hT;clear hT hK K;try simp only [Act.put,zs1,zs2,zs3]
   refine wpAnyH_done (by kernel_rfl) ?_ _
   go_wp2_with fail;refine bodyPost_ret (results_cell_row rfl _ _ A 31 _ (0,0) _ rfl (HKA8.out.rset #[.int .i64 7,.string ⟨t.text.toArray⟩,.int .i64 0,.slice none 0 0,.slice vx F.len vc,.int .i64 t.at_]) Tryz.underlying31 rfl syn_info) rfl (PaR.good HRE.out ?_ ⟨_,rfl,?_⟩ ?_)
   ·exact HB8.out.rset_new (Nat.le_of_eq HA.out) _
   ·refine ndv_mk (hdT 7 t.text 0 t.at_) F rfl rfl (nmrow_nil _) (HV.out.sub (MSub.csub fun k hk hS=>?_))
    have h1:KT < w5.heap.size:=HKT.out.lt
    have h2:=HAK.out; have h3:=HA.out
    have h4:w5.drew.heap.size=w5.heap.size:=rfl
    simp only [frS,decide_eq_true_eq] at hS ⊢;exact ⟨by omega,heap_rset_ne w8 A k _ (by omega)⟩
   ·exact HP8.out.rset hlt.out _
 have n3:((t.kind:Int)==3)=false:=by simp; omega
 have HRN:Hid (R=if isT (bytes [116,114,117,101]) (t::r) then .ok ((hdT 9 [] 0 t.at_,.nil),r)
   else if isT (bytes [102,97,108,115,101]) (t::r) then .ok ((hdT 10 [] 0 t.at_,.nil),r)
   else if isT (bytes [91]) (t::r) then thenT (lisL ex (bytes [93]) (r.length+1) .nil r) fun k l2=>.ok ((hdT 4 [] 0 t.at_,k),l2)
   else thenT (expT (bytes [40]) (t::r)) fun _ l2=>thenT (ex l2) fun x l3=>thenT (expT (bytes [41]) l3) fun _ l4=>.ok (x,l4)):=by show _=_; rw [← HR.out]; simp only [priP]; rw [if_neg h1,if_neg h2,if_neg h3]
 clear h1 h2 h3 HR;have hbb:=(Below.refl w2.heap.size w2).alloc (Nat.le_refl _) (.cells #[.string ⟨#[116,114,117,101]⟩] 9);have HBB:=zH hbb
 have HIS:Hid (Calls Tryz.prog 52 #[.pointer (some ⟨P,0,none⟩),.slice (some ⟨w2.heap.size,0,none⟩) 1 1] (w2.alloc (.cells #[.string ⟨#[116,114,117,101]⟩] 9)) fun e w'=>e=.returned (.bool (isT (bytes [116,114,117,101]) (t::r)))∧Below (w2.alloc (.cells #[.string ⟨#[116,114,117,101]⟩] 9)).heap.size (w2.alloc (.cells #[.string ⟨#[116,114,117,101]⟩] 9)) w'):=is_one (bytes [116,114,117,101]) _ t r P _ (HPK.out.below hbb) (Blk.new w2 9 #[.string ⟨#[116,114,117,101]⟩])
 obtain ⟨qt,hq⟩:∃q,isT (bytes [116,114,117,101]) (t::r)=q:=⟨_,rfl⟩
 rw [hq] at HIS;have HQqt:=zH hq;clear hbb hq;go_wp2_with fail;generalize w2.alloc (.cells #[.string ⟨#[116,114,117,101]⟩] 9)=wb at*;refine HIS.out.mono ?_;rintro e w3 ⟨rfl,hb2⟩;have hb:=HBB.out.trans (hb2.mono HBB.out.size);clear hb2 HBB HIS;have HPN:=zH (HPK.out.below hb)
 have HKT2:Hid (Blk w3 KT 73 #[.int .i64 t.kind,.string ⟨t.text.toArray⟩,.int .i64 t.at_]):=(hb.block _ HKT.out.lt).trans HKT.out
 have HKA2:Hid (Blk w3 A 31 #[.int .i64 0,.string ⟨#[]⟩,.int .i64 0,.slice none 0 0,.slice none 0 0,.int .i64 0]):=(hb.block _ HKA.out.lt).trans HKA.out
 have HB2:=zH (HB.out.step hb)
 clear hb c0 c1 c2 HKT HKA HB HPK;have HKT:=HKT2; have HKA:=HKA2; have HB:=HB2; have HPK:=HPN;clear HKT2 HKA2 HB2 HPN;have c0:w3.cell? ⟨KT,0,none⟩=some (.int .i64 t.kind):=HKT.out.cell 0;have c1:w3.cell? ⟨KT,1,none⟩=some (.string ⟨t.text.toArray⟩):=HKT.out.cell 1;have c2:w3.cell? ⟨KT,2,none⟩=some (.int .i64 t.at_):=HKT.out.cell 2
 cases qt with
 | true=>
  have HRE:Hid (R=.ok ((hdT 9 [] 0 t.at_,.nil),r)):=by show _=_; rw [HRN.out,HQqt.out]; rfl
  have HTK:=zH (take_any t r P w3 HPK.out (isT_kind HQqt.out))
  unfold tkV at HTK;clear HRN;go_wp2_with fail;refine HTK.out.mono ?_;rintro e w4 ⟨rfl,hp,hb⟩;have HPN:=zH hp;have HKT2:Hid (Blk w4 KT 73 #[.int .i64 t.kind,.string ⟨t.text.toArray⟩,.int .i64 t.at_]):=hb.blk HKT.out (HPK.out.apart HKT.out (by decide))
  have HKA2:Hid (Blk w4 A 31 #[.int .i64 0,.string ⟨#[]⟩,.int .i64 0,.slice none 0 0,.slice none 0 0,.int .i64 0]):=hb.blk HKA.out (HPK.out.apart HKA.out (by decide))
  have HB2:=zH (HB.out.trans hb)
  clear hp hb HTK c0 c1 c2 HKT HKA HB HPK;have HKT:=HKT2; have HKA:=HKA2; have HB:=HB2; have HPK:=HPN;clear HKT2 HKA2 HB2 HPN;have c0:w4.cell? ⟨KT,0,none⟩=some (.int .i64 t.kind):=HKT.out.cell 0;have c1:w4.cell? ⟨KT,1,none⟩=some (.string ⟨t.text.toArray⟩):=HKT.out.cell 1;have c2:w4.cell? ⟨KT,2,none⟩=some (.int .i64 t.at_):=HKT.out.cell 2
  go_wp2_with ((with_reducible show wpList _ _ _ (⟨_,Op.store _ _ _,_,_,_,_⟩::_) _ _); refine wpList_store_rowTo rfl 31 (.tmp 4) (.tmp 72) rfl rfl A #[.int .i64 9,.string ⟨#[]⟩,.int .i64 0,.slice none 0 0,.slice none 0 0,.int .i64 t.at_] (by rfl) (by rfl) 31 _ (by exact HKA.out) (by exact syn_info) (by rfl) (by simp [Value.oneCell']) ?_)
  refine bodyPost_ret (results_cell_row rfl _ _ A 31 _ (0,0) _ rfl (HKA.out.rset #[.int .i64 9,.string ⟨#[]⟩,.int .i64 0,.slice none 0 0,.slice none 0 0,.int .i64 t.at_]) Tryz.underlying31 rfl syn_info) rfl (PaR.good HRE.out ?_ ⟨_,rfl,?_⟩ ?_)
  ·exact HB.out.rset_new (Nat.le_of_eq HA.out) _
  ·exact ndv_leaf _ _ _ _ _
  ·exact HPK.out.rset hlt.out _
 | false=>
 have HRM:Hid (R=if isT (bytes [102,97,108,115,101]) (t::r) then .ok ((hdT 10 [] 0 t.at_,.nil),r) else if isT (bytes [91]) (t::r) then thenT (lisL ex (bytes [93]) (r.length+1) .nil r) fun k l2=>.ok ((hdT 4 [] 0 t.at_,k),l2) else thenT (expT (bytes [40]) (t::r)) fun _ l2=>thenT (ex l2) fun x l3=>thenT (expT (bytes [41]) l3) fun _ l4=>.ok (x,l4)):=by show _=_; rw [HRN.out,HQqt.out]; rfl
 clear HRN;have HRN:=HRM;clear HRM;have hbb:=(Below.refl w3.heap.size w3).alloc (Nat.le_refl _) (.cells #[.string ⟨#[102,97,108,115,101]⟩] 9);have HBB:=zH hbb
 have HIS:Hid (Calls Tryz.prog 52 #[.pointer (some ⟨P,0,none⟩),.slice (some ⟨w3.heap.size,0,none⟩) 1 1] (w3.alloc (.cells #[.string ⟨#[102,97,108,115,101]⟩] 9)) fun e w'=>e=.returned (.bool (isT (bytes [102,97,108,115,101]) (t::r)))∧Below (w3.alloc (.cells #[.string ⟨#[102,97,108,115,101]⟩] 9)).heap.size (w3.alloc (.cells #[.string ⟨#[102,97,108,115,101]⟩] 9)) w'):=is_one (bytes [102,97,108,115,101]) _ t r P _ (HPK.out.below hbb) (Blk.new w3 9 #[.string ⟨#[102,97,108,115,101]⟩])
 obtain ⟨qf,hq⟩:∃q,isT (bytes [102,97,108,115,101]) (t::r)=q:=⟨_,rfl⟩
 rw [hq] at HIS;have HQqf:=zH hq;clear hbb hq;go_wp2_with fail;generalize w3.alloc (.cells #[.string ⟨#[102,97,108,115,101]⟩] 9)=wb at*;refine HIS.out.mono ?_;rintro e w4 ⟨rfl,hb2⟩;have hb:=HBB.out.trans (hb2.mono HBB.out.size);clear hb2 HBB HIS;have HPN:=zH (HPK.out.below hb)
 have HKT2:Hid (Blk w4 KT 73 #[.int .i64 t.kind,.string ⟨t.text.toArray⟩,.int .i64 t.at_]):=(hb.block _ HKT.out.lt).trans HKT.out
 have HKA2:Hid (Blk w4 A 31 #[.int .i64 0,.string ⟨#[]⟩,.int .i64 0,.slice none 0 0,.slice none 0 0,.int .i64 0]):=(hb.block _ HKA.out.lt).trans HKA.out
 have HB2:=zH (HB.out.step hb)
 clear hb c0 c1 c2 HKT HKA HB HPK;have HKT:=HKT2; have HKA:=HKA2; have HB:=HB2; have HPK:=HPN;clear HKT2 HKA2 HB2 HPN;have c0:w4.cell? ⟨KT,0,none⟩=some (.int .i64 t.kind):=HKT.out.cell 0;have c1:w4.cell? ⟨KT,1,none⟩=some (.string ⟨t.text.toArray⟩):=HKT.out.cell 1;have c2:w4.cell? ⟨KT,2,none⟩=some (.int .i64 t.at_):=HKT.out.cell 2
 cases qf with
 | true=>
  have HRE:Hid (R=.ok ((hdT 10 [] 0 t.at_,.nil),r)):=by show _=_; rw [HRN.out,HQqf.out]; rfl
  have HTK:=zH (take_any t r P w4 HPK.out (isT_kind HQqf.out))
  unfold tkV at HTK;clear HRN;go_wp2_with fail;refine HTK.out.mono ?_;rintro e w5 ⟨rfl,hp,hb⟩;have HPN:=zH hp;have HKT2:Hid (Blk w5 KT 73 #[.int .i64 t.kind,.string ⟨t.text.toArray⟩,.int .i64 t.at_]):=hb.blk HKT.out (HPK.out.apart HKT.out (by decide))
  have HKA2:Hid (Blk w5 A 31 #[.int .i64 0,.string ⟨#[]⟩,.int .i64 0,.slice none 0 0,.slice none 0 0,.int .i64 0]):=hb.blk HKA.out (HPK.out.apart HKA.out (by decide))
  have HB2:=zH (HB.out.trans hb)
  clear hp hb HTK c0 c1 c2 HKT HKA HB HPK;have HKT:=HKT2; have HKA:=HKA2; have HB:=HB2; have HPK:=HPN;clear HKT2 HKA2 HB2 HPN;have c0:w5.cell? ⟨KT,0,none⟩=some (.int .i64 t.kind):=HKT.out.cell 0;have c1:w5.cell? ⟨KT,1,none⟩=some (.string ⟨t.text.toArray⟩):=HKT.out.cell 1;have c2:w5.cell? ⟨KT,2,none⟩=some (.int .i64 t.at_):=HKT.out.cell 2
  go_wp2_with ((with_reducible show wpList _ _ _ (⟨_,Op.store _ _ _,_,_,_,_⟩::_) _ _); refine wpList_store_rowTo rfl 31 (.tmp 4) (.tmp 81) rfl rfl A #[.int .i64 10,.string ⟨#[]⟩,.int .i64 0,.slice none 0 0,.slice none 0 0,.int .i64 t.at_] (by rfl) (by rfl) 31 _ (by exact HKA.out) (by exact syn_info) (by rfl) (by simp [Value.oneCell']) ?_)
  refine bodyPost_ret (results_cell_row rfl _ _ A 31 _ (0,0) _ rfl (HKA.out.rset #[.int .i64 10,.string ⟨#[]⟩,.int .i64 0,.slice none 0 0,.slice none 0 0,.int .i64 t.at_]) Tryz.underlying31 rfl syn_info) rfl (PaR.good HRE.out ?_ ⟨_,rfl,?_⟩ ?_)
  ·exact HB.out.rset_new (Nat.le_of_eq HA.out) _
  ·exact ndv_leaf _ _ _ _ _
  ·exact HPK.out.rset hlt.out _
 | false=>
 have HRM:Hid (R=if isT (bytes [91]) (t::r) then thenT (lisL ex (bytes [93]) (r.length+1) .nil r) fun k l2=>.ok ((hdT 4 [] 0 t.at_,k),l2) else thenT (expT (bytes [40]) (t::r)) fun _ l2=>thenT (ex l2) fun x l3=>thenT (expT (bytes [41]) l3) fun _ l4=>.ok (x,l4)):=by show _=_; rw [HRN.out,HQqf.out]; rfl
 clear HRN;have HRN:=HRM;clear HRM;have hbb:=(Below.refl w4.heap.size w4).alloc (Nat.le_refl _) (.cells #[.string ⟨#[91]⟩] 9);have HBB:=zH hbb
 have HIS:Hid (Calls Tryz.prog 52 #[.pointer (some ⟨P,0,none⟩),.slice (some ⟨w4.heap.size,0,none⟩) 1 1] (w4.alloc (.cells #[.string ⟨#[91]⟩] 9)) fun e w'=>e=.returned (.bool (isT (bytes [91]) (t::r)))∧Below (w4.alloc (.cells #[.string ⟨#[91]⟩] 9)).heap.size (w4.alloc (.cells #[.string ⟨#[91]⟩] 9)) w'):=is_one (bytes [91]) _ t r P _ (HPK.out.below hbb) (Blk.new w4 9 #[.string ⟨#[91]⟩])
 obtain ⟨ql,hq⟩:∃q,isT (bytes [91]) (t::r)=q:=⟨_,rfl⟩
 rw [hq] at HIS;have HQql:=zH hq;clear hbb hq;go_wp2_with fail;generalize w4.alloc (.cells #[.string ⟨#[91]⟩] 9)=wb at*;refine HIS.out.mono ?_;rintro e w5 ⟨rfl,hb2⟩;have hb:=HBB.out.trans (hb2.mono HBB.out.size);clear hb2 HBB HIS;have HPN:=zH (HPK.out.below hb);have HKT2:Hid (Blk w5 KT 73 #[.int .i64 t.kind,.string ⟨t.text.toArray⟩,.int .i64 t.at_]):=(hb.block _ HKT.out.lt).trans HKT.out
 have HKA2:Hid (Blk w5 A 31 #[.int .i64 0,.string ⟨#[]⟩,.int .i64 0,.slice none 0 0,.slice none 0 0,.int .i64 0]):=(hb.block _ HKA.out.lt).trans HKA.out
 have HB2:=zH (HB.out.step hb)
 clear hb c0 c1 c2 HKT HKA HB HPK;have HKT:=HKT2; have HKA:=HKA2; have HB:=HB2; have HPK:=HPN;clear HKT2 HKA2 HB2 HPN;have c0:w5.cell? ⟨KT,0,none⟩=some (.int .i64 t.kind):=HKT.out.cell 0;have c1:w5.cell? ⟨KT,1,none⟩=some (.string ⟨t.text.toArray⟩):=HKT.out.cell 1;have c2:w5.cell? ⟨KT,2,none⟩=some (.int .i64 t.at_):=HKT.out.cell 2
 cases ql with
 | true=>
  have HRT:Hid (R=thenT (lisL ex (bytes [93]) (r.length+1) .nil r) fun k l2=>.ok ((hdT 4 [] 0 t.at_,k),l2)):=by show _=_; rw [HRN.out,HQql.out]; rfl
  have HTK:=zH (take_any t r P w5 HPK.out (isT_kind HQql.out))
  unfold tkV at HTK;clear HRN;go_upto_region 23 with fail
  refine HTK.out.mono ?_
  rintro e w6 ⟨rfl,hp,hb⟩;have HPN:=zH hp;have HKT2:Hid (Blk w6 KT 73 #[.int .i64 t.kind,.string ⟨t.text.toArray⟩,.int .i64 t.at_]):=hb.blk HKT.out (HPK.out.apart HKT.out (by decide))
  have HKA2:Hid (Blk w6 A 31 #[.int .i64 0,.string ⟨#[]⟩,.int .i64 0,.slice none 0 0,.slice none 0 0,.int .i64 0]):=hb.blk HKA.out (HPK.out.apart HKA.out (by decide))
  have HB2:=zH (HB.out.trans hb)
  clear hp hb HTK c0 c1 c2 HKT HKA HB HPK;have HKT:=HKT2; have HKA:=HKA2; have HB:=HB2; have HPK:=HPN;clear HKT2 HKA2 HB2 HPN;have c0:w6.cell? ⟨KT,0,none⟩=some (.int .i64 t.kind):=HKT.out.cell 0;have c1:w6.cell? ⟨KT,1,none⟩=some (.string ⟨t.text.toArray⟩):=HKT.out.cell 1;have c2:w6.cell? ⟨KT,2,none⟩=some (.int .i64 t.at_):=HKT.out.cell 2;go_upto_region 23 with fail
  have hwL:IntKind.i64.wrap ((L:Int)+1)=(L:Int)+1:=IntWalk.i64_in _ (by omega)
  have hS0:w6.drew.cell? ⟨KT,1,none⟩=some (.string ⟨t.text.toArray⟩)∧w6.drew.cell? ⟨KT,2,none⟩=some (.int .i64 t.at_):=⟨c1,c2⟩
  have HC:=zH (HLI.out (bytes [93]) P r (r.length+1) w6.drew HPK.out.drew (by simp))
  have HPD:Hid (PsW w6.drew P r):=HPK.out.drew
  refine wp_region_held_drew (S:=fun _=>True) (by kernel_rfl) trivial (fun hHeld=>?_)
  clear hHeld;refine wpAnyH_weaken (S2:=fun W=>W.cell? ⟨KT,1,none⟩=some (.string ⟨t.text.toArray⟩)∧W.cell? ⟨KT,2,none⟩=some (.int .i64 t.at_)) (fun _ _=>trivial) ?_
  have hS:=hS0
  refine zT 0 hS ?_;try simp only [Act.put,zs1,zs2,zs3]
  refine zT 1 hS ?_;try simp only [Act.put,zs1,zs2,zs3]
  refine zT 2 hS ?_;try simp only [Act.put,zs1,zs2,zs3]
  refine zT 4 hS ?_;try simp only [Act.put,zs1,zs2,zs3]
  refine zT 5 hS ?_;try simp only [Act.put,zs1,zs2,zs3]
  refine zR 3 fun K hK=>?_
  go_simp;refine HC.out.mono ?_;intro e w8 h;obtain ⟨hb8,h⟩:=h;have HB8:Hid (But P w w8):=HB.out.drew.trans hb8;rcases hRR:lisL ex (bytes [93]) (r.length+1) .nil r with y | ⟨F,l4⟩
  ·rw [hRR] at h
   obtain rfl:=h
   have HRE:Hid (R=.error y):=by show _=_; rw [HRT.out,hRR]; rfl
   clear hRR hb8 HC HRT;go_wp2_with fail;exact ⟨rfl,PaR.bad HRE.out HB8.out⟩
  rw [hRR] at h;obtain ⟨⟨V,rfl,hV⟩,hp8⟩:=h;have HRE:Hid (R=.ok ((hdT 4 [] 0 t.at_,F),l4)):=by show _=_; rw [HRT.out,hRR]; rfl
  have HV:=zH hV
  have HP8:=zH hp8
  have HKT8:Hid (Blk w8 KT 73 #[.int .i64 t.kind,.string ⟨t.text.toArray⟩,.int .i64 t.at_]):=hb8.blk HKT.out.drew (HPD.out.apart HKT.out.drew (by decide))
  have HKA8:Hid (Blk w8 A 31 #[.int .i64 0,.string ⟨#[]⟩,.int .i64 0,.slice none 0 0,.slice none 0 0,.int .i64 0]):=hb8.blk HKA.out.drew (HPD.out.apart HKA.out.drew (by decide))
  obtain ⟨vx,vc,hvs,-⟩:=id hV
  subst hvs;clear hRR hb8 HC HRT hV hp8;refine hK.out _ _ ?_ fun hT=>?_
  ·exact ⟨HKT8.out.cell 1,HKT8.out.cell 2⟩
  replace hS:=hT;clear hT hK K;try simp only [Act.put,zs1,zs2,zs3]
  refine zT 6 hS ?_;try simp only [Act.put,zs1,zs2,zs3]
  refine zR 7 fun K hK=>?_
  refine pstep_store rfl 31 (.tmp 4) (.tmp 94) rfl rfl A #[.int .i64 4,.string ⟨#[]⟩,.int .i64 0,.slice none 0 0,.slice vx F.len vc,.int .i64 t.at_] (by rfl) (by rfl) 31 _ HKA8.out syn_info rfl (by simp [Value.oneCell']) ?_
  refine hK.out _ _ ?_ fun hT=>?_
  ·exact ⟨(HKT8.out.rset_ne _ (Nat.ne_of_gt HAK.out)).cell 1,(HKT8.out.rset_ne _ (Nat.ne_of_gt HAK.out)).cell 2⟩
  replace hS:=hT;clear hT hK K;try simp only [Act.put,zs1,zs2,zs3]
  refine wpAnyH_done (by kernel_rfl) ?_ _
  go_wp2_with fail;refine bodyPost_ret (results_cell_row rfl _ _ A 31 _ (0,0) _ rfl (HKA8.out.rset #[.int .i64 4,.string ⟨#[]⟩,.int .i64 0,.slice none 0 0,.slice vx F.len vc,.int .i64 t.at_]) Tryz.underlying31 rfl syn_info) rfl (PaR.good HRE.out ?_ ⟨_,rfl,?_⟩ ?_)
  ·exact HB8.out.rset_new (Nat.le_of_eq HA.out) _
  ·refine ndv_mk (hdT 4 [] 0 t.at_) F rfl rfl (nmrow_nil _) (HV.out.sub (MSub.csub fun k hk hS=>?_))
   have h1:KT < w6.heap.size:=HKT.out.lt
   have h2:=HAK.out; have h3:=HA.out
   have h4:w6.drew.heap.size=w6.heap.size:=rfl
   simp only [frS,decide_eq_true_eq] at hS ⊢;exact ⟨by omega,heap_rset_ne w8 A k _ (by omega)⟩
  ·exact HP8.out.rset hlt.out _
 | false=>
 have HRM:Hid (R=thenT (expT (bytes [40]) (t::r)) fun _ l2=>thenT (ex l2) fun x l3=>thenT (expT (bytes [41]) l3) fun _ l4=>.ok (x,l4)):=by show _=_; rw [HRN.out,HQql.out]; rfl
 have HEX:=zH (expect_any (bytes [40]) t r P w5 HPK.out)
 clear HRN;rcases hq2:expT (bytes [40]) (t::r) with y | ⟨u,l2⟩
 ·have HRE:Hid (R=.error y):=by show _=_; rw [HRM.out,hq2]; rfl
  rw [hq2] at HEX;clear hq2 HRM;go_wp2_with fail;refine HEX.out.mono ?_;rintro e w6 ⟨hb6,rfl⟩;have HB6:=zH (HB.out.trans hb6);clear hb6 HEX;go_wp2_with fail;exact ⟨rfl,PaR.bad HRE.out HB6.out⟩
 have HRM2:Hid (R=thenT (ex l2) fun x l3=>thenT (expT (bytes [41]) l3) fun _ l4=>.ok (x,l4)):=by show _=_; rw [HRM.out,hq2]; rfl
 rw [hq2] at HEX;clear hq2 HRM;go_wp2_with fail;refine HEX.out.mono ?_;rintro e w6 ⟨hb6,he6,hp6⟩;unfold TkR at he6;subst he6;have HP6:=zH hp6;have HB6:=zH (HB.out.trans hb6);have HKA6:Hid (Blk w6 A 31 #[.int .i64 0,.string ⟨#[]⟩,.int .i64 0,.slice none 0 0,.slice none 0 0,.int .i64 0]):=hb6.blk HKA.out (HPK.out.apart HKA.out (by decide))
 have HC:=zH (HOP.out P l2 w6 hp6)
 clear hp6 hb6 HEX HKA HB HPK HKT c0 c1 c2;go_wp2_with fail;refine HC.out.mono ?_;intro e w7 h;obtain ⟨hb7,h⟩:=h;have HB7:=zH (HB6.out.trans hb7);rcases hRR:ex l2 with y | ⟨z,l3⟩
 ·rw [hRR] at h
  obtain rfl:=h
  have HRE:Hid (R=.error y):=by show _=_; rw [HRM2.out,hRR]; rfl
  clear hRR hb7 HC HRM2;go_wp2_with fail;exact ⟨rfl,PaR.bad HRE.out HB7.out⟩
 rw [hRR] at h;obtain ⟨⟨T,rfl,hT⟩,hp7⟩:=h;have HRM3:Hid (R=thenT (expT (bytes [41]) l3) fun _ l4=>.ok (z,l4)):=by show _=_; rw [HRM2.out,hRR]; rfl
 have HT:=zH hT
 have HP7:=zH hp7
 have HS67:Hid (A < w6.heap.size):=HKA6.out.lt
 have HKA7:Hid (Blk w7 A 31 #[.int .i64 0,.string ⟨#[]⟩,.int .i64 0,.slice none 0 0,.slice none 0 0,.int .i64 0]):=hb7.blk HKA6.out (HP6.out.apart HKA6.out (by decide))
 clear hRR hb7 HC hT hp7 HRM2 HKA6;go_upto_region 26 with ((with_reducible show wpList _ _ _ (⟨_,Op.store _ _ _,_,_,_,_⟩::_) _ _); refine wpList_store_rowTo rfl 31 (.tmp 8) (.tmp 100) rfl rfl _ T (by rfl) (by rfl) 31 _ (by exact Blk.new _ _ _) (by exact HT.out.inf) (by exact HT.out.size.symm) (by exact HT.out.one) ?_)
 have HKX:=zH ((Blk.new w7 31 #[.int .i64 0,.string ⟨#[]⟩,.int .i64 0,.slice none 0 0,.slice none 0 0,.int .i64 0]).rset T)
 have HKA8:Hid (Blk ((w7.alloc (.cells #[.int .i64 0,.string ⟨#[]⟩,.int .i64 0,.slice none 0 0,.slice none 0 0,.int .i64 0] 31)).setRow w7.heap.size T) A 31 #[.int .i64 0,.string ⟨#[]⟩,.int .i64 0,.slice none 0 0,.slice none 0 0,.int .i64 0]):=(HKA7.out.alloc _).rset_ne T (Nat.ne_of_lt HKA7.out.lt)
 have HP8:Hid (PsW ((w7.alloc (.cells #[.int .i64 0,.string ⟨#[]⟩,.int .i64 0,.slice none 0 0,.slice none 0 0,.int .i64 0] 31)).setRow w7.heap.size T) P l3):=(HP7.out.below ((Below.refl w7.heap.size w7).alloc (Nat.le_refl _) _)).rset HP7.out.lt T
 have HB8:=zH ((HB7.out.alloc (.cells #[.int .i64 0,.string ⟨#[]⟩,.int .i64 0,.slice none 0 0,.slice none 0 0,.int .i64 0] 31)).rset_new HB7.out.size T)
 have hlA:A < w7.heap.size:=HKA7.out.lt
 have HT8:Hid (NdV (maskW (fun k=>decide (A < k)&&decide (k≠w7.heap.size)) ((w7.alloc (.cells #[.int .i64 0,.string ⟨#[]⟩,.int .i64 0,.slice none 0 0,.slice none 0 0,.int .i64 0] 31)).setRow w7.heap.size T)) T z):=by
  refine HT.out.sub (MSub.csub fun k hk hS=>?_)
  have h1:=HS67.out
  simp only [frS,decide_eq_true_eq] at hS;refine ⟨by simp; omega,?_⟩
  rw [heap_rset_ne _ _ _ _ (by omega)]
  exact Below.heap_alloc _ _ _ hk
 have HXA:Hid (A < w7.heap.size):=hlA
 clear hlA HT HP7 HKA7 HB7;generalize (w7.alloc (.cells #[.int .i64 0,.string ⟨#[]⟩,.int .i64 0,.slice none 0 0,.slice none 0 0,.int .i64 0] 31)).setRow w7.heap.size T=w8 at*;generalize w7.heap.size=X at*;obtain ⟨u3,r3,rfl⟩:=HP8.out.ends.cons;have HEX:=zH (expect_any (bytes [41]) u3 r3 P w8 HP8.out);rcases hq2:expT (bytes [41]) (u3::r3) with y | ⟨v,l4⟩
 ·have HRE:Hid (R=.error y):=by show _=_; rw [HRM3.out,hq2]; rfl
  rw [hq2] at HEX;clear hq2 HRM3;go_wp2_with fail;refine HEX.out.mono ?_;rintro e w9 ⟨hb9,rfl⟩;have HB9:=zH (HB8.out.trans hb9);clear hb9 HEX;go_wp2_with fail;exact ⟨rfl,PaR.bad HRE.out HB9.out⟩
 have HRE:Hid (R=.ok (z,l4)):=by show _=_; rw [HRM3.out,hq2]; rfl
 rw [hq2] at HEX;clear hq2 HRM3;go_wp2_with fail;refine HEX.out.mono ?_;rintro e w9 ⟨hb9,he9,hp9⟩;unfold TkR at he9;subst he9;have HP9:=zH hp9;have HB9:=zH (HB8.out.trans hb9);have HKA9:Hid (Blk w9 A 31 #[.int .i64 0,.string ⟨#[]⟩,.int .i64 0,.slice none 0 0,.slice none 0 0,.int .i64 0]):=hb9.blk HKA8.out (HP8.out.apart HKA8.out (by decide))
 have HKX9:Hid (Blk w9 X 31 T):=hb9.blk HKX.out (HP8.out.apart HKX.out (by decide))
 have HT9:Hid (NdV (maskW (fun k=>decide (A < k)&&decide (k≠X)) w9) T z):=HT8.out.sub (MSub.csub fun k hk hS=>⟨hS,hb9.block k hk (by have:=hlt.out; simp at hS; omega)⟩)
 clear hp9 hb9 HEX HT8 HKX HKA8 HP8 HB8
 go_wp2_with (first | ((with_reducible show wpList _ _ _ (⟨_,Op.load _ _,_,_,_,_⟩::_) _ _); refine wpList_load_row rfl 31 (.tmp 8) rfl X (by rfl) 31 T (0,0) _ (by exact HKX9.out) Tryz.underlying31 rfl (by exact HT9.out.inf) ?_) | ((with_reducible show wpList _ _ _ (⟨_,Op.store _ _ _,_,_,_,_⟩::_) _ _); refine wpList_store_rowTo rfl 31 (.tmp 4) (.tmp 103) rfl rfl A T (by rfl) (by rfl) 31 _ (by exact HKA9.out) (by exact HT9.out.inf) (by exact HT9.out.size.symm) (by exact HT9.out.one) ?_))
 refine bodyPost_ret (results_cell_row rfl _ _ A 31 _ (0,0) _ rfl (HKA9.out.rset T) Tryz.underlying31 rfl HT9.out.inf) rfl (PaR.good HRE.out ?_ ⟨T,rfl,?_⟩ ?_)
 ·exact HB9.out.rset_new (Nat.le_of_eq HA.out) T
 ·refine HT9.out.sub (MSub.csub fun k hk hS=>?_)
  have h2:=HA.out
  simp only [Bool.and_eq_true,decide_eq_true_eq] at hS;exact ⟨by simp only [frS,decide_eq_true_eq]; omega,heap_rset_ne w9 A k T (by omega)⟩
 ·exact HP9.out.rset hlt.out T
end Go.Proofs.YtbaidkefobhipaaGreatDoor
