/-
  Walks: strings, in the program and in the reference.
  Walk: strings in the reference.
  Walks: whether a string of one or two bytes is an operator.
  Walk: one token, in the program.
  Walk: the operator at a place, in the reference.
  Walk: one token, in the reference.
  Walk: the tokens of a script, in the program.
-/
import Derived.Test.YtbaidkefobhipaaGreatDoorZS0
import Derived.Lib.Bytealg
namespace Go.Proofs.YtbaidkefobhipaaGreatDoor
set_option maxHeartbeats 4000000
set_option maxRecDepth 100000
open Go.RowKit

theorem el_u8:Elem Tryz.prog 59 5 (.int .u8 0) 1 1:=by
 refine ⟨Tryz.underlying59,?_,rfl,by decide⟩
 exact info_parts (by kernel_rfl)

theorem row_shape {w:World} {b:Nat} {e:TypeId} {v:Value} {l:List UInt8} (h:BRow w b e v l):∃x c,v=.slice x l.length c:=by
 rcases h.2 with ⟨rfl,h0⟩ | ⟨g,cap,cur,rfl,_⟩
 ·exact ⟨none,0,by rw [h0]⟩
 ·exact ⟨_,_,rfl⟩
theorem put3 {w:World} {B:Nat} {t:TypeId} {a b c:Value} (h:Blk w B t #[a,b,c]) (x y z:Value):Blk (((w.setCell ⟨B,0,none⟩ x).setCell ⟨B,1,none⟩ y).setCell ⟨B,2,none⟩ z) B t #[x,y,z]:=by
 have:=((h.put 0 x).put 1 y).put 2 z
 simpa using this
theorem below3 {w0 w:World} {B:Nat} (h:Below B w0 w) (x y z:Value):Below B w0 (((w.setCell ⟨B,0,none⟩ x).setCell ⟨B,1,none⟩ y).setCell ⟨B,2,none⟩ z):=
 ((h.setCell (Nat.le_refl B) x).setCell (Nat.le_refl B) y).setCell (Nat.le_refl B) z

theorem quoR_end {c:UInt8} {t:List UInt8} (h:c.toNat=34):quoR (c::t)=some ([],1):=by unfold quoR; rw [if_pos h]
theorem quoR_bad {c:UInt8} {t:List UInt8} (h:c.toNat < 32∨126 < c.toNat):quoR (c::t)=none:=by unfold quoR; rw [if_neg (by omega),if_pos h]
theorem quoR_cut {c:UInt8} (h:c.toNat=92):quoR [c]=none:=by unfold quoR; rw [if_neg (by omega),if_neg (by omega),if_pos h]
theorem quoR_same {c d:UInt8} {u:List UInt8} (h:c.toNat=92) (hd:d.toNat=92∨d.toNat=34):quoR (c::d::u)=(quoR u).map fun x=>(d::x.1,x.2+2):=by
 conv=>lhs; unfold quoR
 rw [if_neg (by omega),if_neg (by omega),if_pos h]; simp only; rw [if_pos hd]
theorem quoR_line {c d:UInt8} {u:List UInt8} (h:c.toNat=92) (hd:d.toNat=110):quoR (c::d::u)=(quoR u).map fun x=>(10::x.1,x.2+2):=by
 conv=>lhs; unfold quoR
 rw [if_neg (by omega),if_neg (by omega),if_pos h]; simp only; rw [if_neg (by omega),if_pos hd]
theorem quoR_wrong {c d:UInt8} {u:List UInt8} (h:c.toNat=92) (h1:d.toNat≠92) (h2:d.toNat≠34) (h3:d.toNat≠110):quoR (c::d::u)=none:=by
 conv=>lhs; unfold quoR
 rw [if_neg (by omega),if_neg (by omega),if_pos h]; simp only; rw [if_neg (by omega),if_neg (by omega)]
theorem quoR_plain {c:UInt8} {t:List UInt8} (h1:32≤c.toNat) (h2:c.toNat≤126) (h3:c.toNat≠34) (h4:c.toNat≠92):quoR (c::t)=(quoR t).map fun x=>(c::x.1,x.2+1):=by
 conv=>lhs; unfold quoR
 rw [if_neg (by omega),if_neg (by omega),if_neg (by omega)]

theorem quoted_any (s:ByteArray) (p:Nat) (w:World) (hp:p < s.size) (hs:s.size < 1000000):
  Calls Tryz.prog 97 #[.string s,.int .i64 p] w fun e w'=>e=.returned (tokRes (quoT (s.data.toList.drop (p+1)) p))∧Below w.heap.size w w':=by
 go_enter Tryz.func97,Tryz.ntmps97
 go_wp2_with fail;have hblk:=Blk.new w 73 #[.int .i64 0,.string ⟨#[]⟩,.int .i64 0];have hbel0:Below w.heap.size w (w.alloc (.cells #[.int .i64 0,.string ⟨#[]⟩,.int .i64 0] 73)):=(Below.refl _ _).alloc (Nat.le_refl _) _;have hsz:(w.alloc (.cells #[.int .i64 0,.string ⟨#[]⟩,.int .i64 0] 73)).heap.size=w.heap.size+1:=by simp
 generalize w.alloc (.cells #[.int .i64 0,.string ⟨#[]⟩,.int .i64 0] 73)=w1 at*;obtain ⟨B,hB⟩:∃B,B=w.heap.size:=⟨_,rfl⟩;rw [← hB] at hblk hbel0 hsz ⊢;have HB:=zH hB;clear hB;go_loopw [7,8,9] (fun v vk _ wr=>∃(j:Nat) (acc:List UInt8),vk=.int .i64 ((p+1+j:Nat):Int)∧p+1+j≤s.size∧BRow wr (B+1) 5 v acc∧acc.length≤j∧
   Hid ((quoR (s.data.toList.drop (p+1+j))).map (fun x=>(acc++x.1,x.2+j))=quoR (s.data.toList.drop (p+1)))∧Fr (B+1) [5] w1 wr) (fun _ vk _ _=>s.size - (intOf vk).toNat)
 case atStart=>exact ⟨0,[],rfl,hp,⟨rfl,.inl ⟨rfl,rfl⟩⟩,Nat.zero_le _,by show _=_; simp,Fr.refl _ _ _⟩
 case round=>
  obtain ⟨j,acc,rfl,hj,hown,hacc,hg,hfr⟩:=hrel
  have hb1:=hfr.blk hblk (by decide)
  have hszr:B+1≤wr.heap.size:=by have:=hfr.size; omega
  have hc0:=hb1.cell 0
  have hc1:=hb1.cell 1
  have hc2:=hb1.cell 2
  have hf0:=hb1.frozen 0
  have hf1:=hb1.frozen 1
  have hf2:=hb1.frozen 2
  by_cases hlt:p+1+j < s.size
  ·have hd:=hg.out
   rw [drop_at s (p+1+j) hlt] at hd;have hb:=(s[p+1+j]).toNat_lt;have hcl:decide (((p:Int)+1+(j:Int)) < (s.size:Int))=true:=by simp; omega
   by_cases h34:(s[p+1+j]).toNat=34
   ·have e34:(((s[p+1+j]).toNat:Int)==34)=true:=by simp; omega
    rw [quoR_end h34] at hd;have HD:=zH hd;clear hd hg;by_cases hlen:256 < acc.length
    ·have HN:Hid (quoT (s.data.toList.drop (p+1)) p=.error 3):=by show _=_; rw [quoT,← HD.out]; simp [hlen]
     obtain ⟨x7,c7,rfl⟩:=row_shape hown
     go_wp2_with fail;have h3:=put3 hb1 (.int .i64 0) (.string ⟨#[]⟩) (.int .i64 0);have hb3:=below3 (hbel0.trans ((hfr.below (by omega)).mono (Nat.le_succ B))) (.int .i64 0) (.string ⟨#[]⟩) (.int .i64 0)
     exact bodyPost_ret (v:=tokRes (.error 3)) (by simp [tokRes,tk0,results,Tryz.f97,go_sem,h3.cell]) rfl ⟨by rw [HN.out],by rw [← HB.out]; exact hb3⟩
    ·have HN:Hid (quoT (s.data.toList.drop (p+1)) p=.ok (⟨2,acc,p⟩,p+1+(1+j))):=by show _=_; rw [quoT,← HD.out]; simp [hlen]
     obtain ⟨x7,c7,rfl⟩:=row_shape hown
     have hcv:=run_str_of Tryz.underlying59 Tryz.underlying5 Tryz.underlying9 hown
     go_wp2_with fail;have h3:=put3 hb1 (.int .i64 2) (.string ⟨acc.toArray⟩) (.int .i64 p);have hb3:=below3 (hbel0.trans ((hfr.below (by omega)).mono (Nat.le_succ B))) (.int .i64 2) (.string ⟨acc.toArray⟩) (.int .i64 p)
     exact bodyPost_ret (v:=tokRes (.ok (⟨2,acc,p⟩,p+1+(1+j)))) (by simp [tokRes,tkV,results,Tryz.f97,go_sem,h3.cell]; omega) rfl ⟨by rw [HN.out],by rw [← HB.out]; exact hb3⟩
   have e34:(((s[p+1+j]).toNat:Int)==34)=false:=by simp; omega
   by_cases hbad:(s[p+1+j]).toNat < 32∨126 < (s[p+1+j]).toNat
   ·rw [quoR_bad hbad] at hd
    have HN:Hid (quoT (s.data.toList.drop (p+1)) p=.error 18):=by show _=_; rw [quoT,← hd]; rfl
    clear hd hg;rcases hbad with hbad | hbad
    ·have e32:decide (((s[p+1+j]).toNat:Int) < 32)=true:=by simp; omega
     go_wp2_with fail;have h3:=put3 hb1 (.int .i64 0) (.string ⟨#[]⟩) (.int .i64 0);have hb3:=below3 (hbel0.trans ((hfr.below (by omega)).mono (Nat.le_succ B))) (.int .i64 0) (.string ⟨#[]⟩) (.int .i64 0)
     exact bodyPost_ret (v:=tokRes (.error 18)) (by simp [tokRes,tk0,results,Tryz.f97,go_sem,h3.cell]) rfl ⟨by rw [HN.out],by rw [← HB.out]; exact hb3⟩
    ·have e32:decide (((s[p+1+j]).toNat:Int) < 32)=false:=by simp; omega
     have e126:decide ((126:Int) < ((s[p+1+j]).toNat:Int))=true:=by simp; omega
     go_wp2_with fail;have h3:=put3 hb1 (.int .i64 0) (.string ⟨#[]⟩) (.int .i64 0);have hb3:=below3 (hbel0.trans ((hfr.below (by omega)).mono (Nat.le_succ B))) (.int .i64 0) (.string ⟨#[]⟩) (.int .i64 0)
     exact bodyPost_ret (v:=tokRes (.error 18)) (by simp [tokRes,tk0,results,Tryz.f97,go_sem,h3.cell]) rfl ⟨by rw [HN.out],by rw [← HB.out]; exact hb3⟩
   have e32:decide (((s[p+1+j]).toNat:Int) < 32)=false:=by simp; omega
   have e126:decide ((126:Int) < ((s[p+1+j]).toNat:Int))=false:=by simp; omega
   by_cases h92:(s[p+1+j]).toNat=92
   ·have e92:(((s[p+1+j]).toNat:Int)==92)=true:=by simp; omega
    by_cases hlt2:p+1+j+1 < s.size
    ·have hb2:=(s[p+1+j+1]).toNat_lt
     have hend:(((p+1+j+1:Nat):Int)==(s.size:Int))=false:=by simp; omega
     rw [drop_at s (p+1+j+1) hlt2] at hd;by_cases k92:(s[p+1+j+1]).toNat=92
     ·have f92:(((s[p+1+j+1]).toNat:Int)==92)=true:=by simp; omega
      rw [quoR_same h92 (.inl k92)] at hd;have HD:=zH hd;clear hd hg;go_wp2_with (at_builtin; refine wpList_app el_u8 hown hszr rfl rfl rfl (m:=0) rfl (by simp [Value.oneCell']) rfl (by omega) (by unfold maxLen; omega) ?_)
      intro r2 cap2 w2 ho2 hg2 _;have hown2:=brow_more ho2 [s[p+1+j+1]] (by simp [bcells,k92]) rfl
      have hfr2:=(hfr.alloc _).grown (hown.alloc _) (Nat.le_refl _) (by decide) hg2
      clear ho2 hg2 hown hfr hb1 hc0 hc1 hc2 hf0 hf1 hf2;go_wp2_with fail;go_roundw
      case rel=>
       refine ⟨j+2,acc++[s[p+1+j+1]],by go_num,by omega,hown2,by simp; omega,?_,hfr2⟩
       have:=HD.out
       show _=_
       rw [← this,Option.map_map,show p+1+(j+2)=p+1+j+1+1 from by omega]; congr 1; funext x; simp; omega
      case measure=>simp [intOf]; omega
     by_cases k34:(s[p+1+j+1]).toNat=34
     ·have f92:(((s[p+1+j+1]).toNat:Int)==92)=false:=by simp; omega
      have f34:(((s[p+1+j+1]).toNat:Int)==34)=true:=by simp; omega
      rw [quoR_same h92 (.inr k34)] at hd;have HD:=zH hd;clear hd hg;go_wp2_with (at_builtin; refine wpList_app el_u8 hown hszr rfl rfl rfl (m:=0) rfl (by simp [Value.oneCell']) rfl (by omega) (by unfold maxLen; omega) ?_)
      intro r2 cap2 w2 ho2 hg2 _;have hown2:=brow_more ho2 [s[p+1+j+1]] (by simp [bcells,k34]) rfl
      have hfr2:=(hfr.alloc _).grown (hown.alloc _) (Nat.le_refl _) (by decide) hg2
      clear ho2 hg2 hown hfr hb1 hc0 hc1 hc2 hf0 hf1 hf2;go_wp2_with fail;go_roundw
      case rel=>
       refine ⟨j+2,acc++[s[p+1+j+1]],by go_num,by omega,hown2,by simp; omega,?_,hfr2⟩
       have:=HD.out
       show _=_
       rw [← this,Option.map_map,show p+1+(j+2)=p+1+j+1+1 from by omega]; congr 1; funext x; simp; omega
      case measure=>simp [intOf]; omega
     have f92:(((s[p+1+j+1]).toNat:Int)==92)=false:=by simp; omega
     have f34:(((s[p+1+j+1]).toNat:Int)==34)=false:=by simp; omega
     by_cases k110:(s[p+1+j+1]).toNat=110
     ·have f110:(((s[p+1+j+1]).toNat:Int)==110)=true:=by simp; omega
      rw [quoR_line h92 k110] at hd;have HD:=zH hd;clear hd hg;go_wp2_with (at_builtin; refine wpList_app el_u8 hown hszr rfl rfl rfl (m:=0) rfl (by simp [Value.oneCell']) rfl (by omega) (by unfold maxLen; omega) ?_)
      intro r2 cap2 w2 ho2 hg2 _;have hown2:=brow_more ho2 [10] (by simp [bcells]) rfl
      have hfr2:=(hfr.alloc _).grown (hown.alloc _) (Nat.le_refl _) (by decide) hg2
      clear ho2 hg2 hown hfr hb1 hc0 hc1 hc2 hf0 hf1 hf2;go_wp2_with fail;go_roundw
      case rel=>
       refine ⟨j+2,acc++[10],by go_num,by omega,hown2,by simp; omega,?_,hfr2⟩
       have:=HD.out
       show _=_
       rw [← this,Option.map_map,show p+1+(j+2)=p+1+j+1+1 from by omega]; congr 1; funext x; simp; omega
      case measure=>simp [intOf]; omega
     ·have f110:(((s[p+1+j+1]).toNat:Int)==110)=false:=by simp; omega
      rw [quoR_wrong h92 k92 k34 k110] at hd;have HN:Hid (quoT (s.data.toList.drop (p+1)) p=.error 18):=by show _=_; rw [quoT,← hd]; rfl
      clear hd hg;go_wp2_with fail;have h3:=put3 hb1 (.int .i64 0) (.string ⟨#[]⟩) (.int .i64 0);have hb3:=below3 (hbel0.trans ((hfr.below (by omega)).mono (Nat.le_succ B))) (.int .i64 0) (.string ⟨#[]⟩) (.int .i64 0)
      exact bodyPost_ret (v:=tokRes (.error 18)) (by simp [tokRes,tk0,results,Tryz.f97,go_sem,h3.cell]) rfl ⟨by rw [HN.out],by rw [← HB.out]; exact hb3⟩
    ·have hend:(((p+1+j+1:Nat):Int)==(s.size:Int))=true:=by simp; omega
     rw [drop_end s (p+1+j+1) (by omega),quoR_cut h92] at hd
     have HN:Hid (quoT (s.data.toList.drop (p+1)) p=.error 18):=by show _=_; rw [quoT,← hd]; rfl
     clear hd hg;go_wp2_with fail;have h3:=put3 hb1 (.int .i64 0) (.string ⟨#[]⟩) (.int .i64 0);have hb3:=below3 (hbel0.trans ((hfr.below (by omega)).mono (Nat.le_succ B))) (.int .i64 0) (.string ⟨#[]⟩) (.int .i64 0)
     exact bodyPost_ret (v:=tokRes (.error 18)) (by simp [tokRes,tk0,results,Tryz.f97,go_sem,h3.cell]) rfl ⟨by rw [HN.out],by rw [← HB.out]; exact hb3⟩
   ·have e92:(((s[p+1+j]).toNat:Int)==92)=false:=by simp; omega
    rw [quoR_plain (by omega) (by omega) h34 h92] at hd
    have HD:=zH hd
    clear hd hg;go_wp2_with (at_builtin; refine wpList_app el_u8 hown hszr rfl rfl rfl (m:=0) rfl (by simp [Value.oneCell']) rfl (by omega) (by unfold maxLen; omega) ?_)
    intro r2 cap2 w2 ho2 hg2 _;have hown2:=brow_more ho2 [s[p+1+j]] (by simp [bcells]) rfl
    have hfr2:=(hfr.alloc _).grown (hown.alloc _) (Nat.le_refl _) (by decide) hg2
    clear ho2 hg2 hown hfr hb1 hc0 hc1 hc2 hf0 hf1 hf2;go_wp2_with fail;go_roundw
    case rel=>
     refine ⟨j+1,acc++[s[p+1+j]],by go_num,by omega,hown2,by simp; omega,?_,hfr2⟩
     have:=HD.out
     show _=_
     rw [← this,Option.map_map,show p+1+(j+1)=p+1+j+1 from by omega]; congr 1; funext x; simp; omega
    case measure=>simp [intOf]; omega
  ·have hcl:decide (((p:Int)+1+(j:Int)) < (s.size:Int))=false:=by simp; omega
   have hd:=hg.out
   rw [drop_end s (p+1+j) (by omega)] at hd
   have hn:quoT (s.data.toList.drop (p+1)) p=.error 18:=by rw [quoT,← hd]; rfl
   have HN:=zH hn
   clear hn hd hg;go_wp2_with fail;have h3:=put3 hb1 (.int .i64 0) (.string ⟨#[]⟩) (.int .i64 0);have hb3:=below3 (hbel0.trans ((hfr.below (by omega)).mono (Nat.le_succ B))) (.int .i64 0) (.string ⟨#[]⟩) (.int .i64 0)
   exact bodyPost_ret (v:=tokRes (.error 18)) (by simp [tokRes,tk0,results,Tryz.f97,go_sem,h3.cell]) rfl ⟨by rw [HN.out],by rw [← HB.out]; exact hb3⟩
open Go.RowKit

def TextOk (r:Except Nat (Tk×Nat)) (v:List UInt8) (q:Nat):Prop:=∀x,r=.ok x→x.1.text=v∧x.2=q

open Go.RowKit

theorem indexByte_any (s:ByteArray) (c:Int) (w:World):
  Calls Tryz.prog 134 #[.string s,.int .u8 c] w fun e w'=>e=.returned (.int .i64 (Lib.indexByte s.data.toList c.toNat.toUInt8))∧w'=w:=by
 go_enter Tryz.func134,Tryz.ntmps134
 go_wp2
 rw [run_callFunc_extern Tryz.func145 (by kernel_rfl) (by kernel_rfl) (by kernel_rfl) (e:=Extern.BytealgIndexByte.indexByte) (by kernel_rfl),Lib.run_indexByteString]
 simp only [Result.andThen];rw [Oper.upon_value];go_wp2;go_ret;exact ⟨rfl,rfl⟩

def onesS:ByteArray:=⟨#[43,45,42,47,37,60,62,61,33,40,41,123,125,91,93,44,59]⟩

theorem ones_has:∀c:UInt8,(0≤Lib.indexByte onesS.data.toList c)=(c∈ones):=by
 have h:∀n:Fin 256,decide (0≤Lib.indexByte onesS.data.toList (UInt8.ofNat n.val))=decide ((UInt8.ofNat n.val)∈ones):=by decide +kernel
 intro c;have:=h ⟨c.toNat,c.toNat_lt⟩;simpa using this

theorem index1_any (s t:ByteArray) (w:World) (ht:t.size=1) (hs:1 < s.size):
  Calls Tryz.prog 127 #[.string s,.string t] w fun e w'=>e=.returned (.int .i64 (Lib.indexByte s.data.toList t[0]))∧w'=w:=by
 have hne:(t.toList==s.toList)=false:=by
  rw [beq_eq_false_iff_ne];intro h;rw [ByteArray.toList_eq,ByteArray.toList_eq] at h;have h2:=congrArg List.length h;simp at h2;omega
 have e0:((t.size:Int)==0)=false:=by rw [ht]; rfl
 have e1:((t.size:Int)==1)=true:=by rw [ht]; rfl
 have hb:=(t[0]).toNat_lt
 go_enter Tryz.func127,Tryz.ntmps127
 go_wp2_with fail;refine (indexByte_any _ _ _).mono ?_;rintro e w1 ⟨rfl,rfl⟩;go_wp2_with fail;go_ret;refine ⟨?_,rfl⟩;simp

theorem contains1_any (s t:ByteArray) (w:World) (ht:t.size=1) (hs:1 < s.size):
  Calls Tryz.prog 118 #[.string s,.string t] w fun e w'=>e=.returned (.bool (decide (0≤Lib.indexByte s.data.toList t[0])))∧w'=w:=by
 have H:∀w,Hid (Calls Tryz.prog 124 #[.string s,.string t] w fun e w'=>e=.returned (.int .i64 (Lib.indexByte s.data.toList t[0]))∧w'=w):=by
  intro w;show Calls _ _ _ _ _
  go_enter Tryz.func124,Tryz.ntmps124
  go_wp2_with fail;refine (index1_any _ _ _ ht hs).mono ?_;rintro e w1 ⟨rfl,rfl⟩;go_wp2_with fail;go_ret;exact ⟨rfl,rfl⟩
 go_enter Tryz.func118,Tryz.ntmps118
 go_wp2_with fail;refine (H _).out.mono ?_;rintro e w1 ⟨rfl,rfl⟩;go_wp2_with fail;go_ret;exact ⟨rfl,rfl⟩

def isOp (l:List UInt8):Bool:=decide (l∈twos)||(l.length==1&&decide (l.getD 0 0∈ones))

theorem isOperator_any (s:ByteArray) (w:World):Calls Tryz.prog 98 #[.string s] w fun e w'=>e=.returned (.bool (isOp s.data.toList))∧w'=w:=by
 by_cases h1:s.size=1
 ·have e1:((s.size:Int)==1)=true:=by simp; omega
  have hs:s.data.toList=[s[0]]:=by have:=drop_at s 0 (by omega); rw [drop_end s (0+1) (by omega)] at this; simpa using this
  have q0:(s.toList==[61,61])=false:=by rw [ByteArray.toList_eq,hs]; simp
  have q1:(s.toList==[33,61])=false:=by rw [ByteArray.toList_eq,hs]; simp
  have q2:(s.toList==[60,61])=false:=by rw [ByteArray.toList_eq,hs]; simp
  have q3:(s.toList==[62,61])=false:=by rw [ByteArray.toList_eq,hs]; simp
  have q4:(s.toList==[38,38])=false:=by rw [ByteArray.toList_eq,hs]; simp
  have q5:(s.toList==[124,124])=false:=by rw [ByteArray.toList_eq,hs]; simp
  have q6:(s.toList==[46,46])=false:=by rw [ByteArray.toList_eq,hs]; simp
  go_enter Tryz.func98,Tryz.ntmps98
  go_wp2_with (go_at_call 118; refine (contains1_any onesS _ _ h1 (by decide)).mono ?_; rintro e w' ⟨rfl,rfl⟩)
  go_ret
  refine ⟨ret_bool ?_,rfl⟩
  rw [hs,isOp];have:=ones_has s[0];simp [this,twos,bytes]
 ·have e1:((s.size:Int)==1)=false:=by simp; omega
  have hl:s.toList.length≠1:=by rw [ByteArray.toList_eq]; simpa using h1
  go_enter Tryz.func98,Tryz.ntmps98
  go_wp2_with fail
  all_goals
   go_ret
   refine ⟨ret_bool ?_,rfl⟩
   rw [isOp,← ByteArray.toList_eq];simp_all [twos,bytes]
open Go.RowKit

theorem Blk.below {K:Nat} {w w':World} (h:Below K w w') {k:Nat} {t:TypeId} {cs:Array Value} (hb:Blk w k t cs) (hk:k < K):Blk w' k t cs:=(h.block k hk).trans hb

theorem twos_len (l:List UInt8) (h:l∈twos):l.length=2:=by
 simp [twos,bytes] at h
 rcases h with h | h | h | h | h | h | h <;> rw [h] <;> rfl
theorem isOp_two (l:List UInt8) (h:l.length=2):isOp l=decide (l∈twos):=by simp [isOp,h]
theorem isOp_one (c:UInt8):isOp [c]=decide (c∈ones):=by
 have:[c]∉twos:=fun h=>by have:=twos_len _ h; simp at this
 simp [isOp,this]

theorem opR_two {l:List UInt8} (h:l.take 2∈twos):opR l=2:=by unfold opR; rw [if_pos h]
theorem opR_one {c:UInt8} {t:List UInt8} (h:(c::t).take 2∉twos) (h1:c∈ones):opR (c::t)=1:=by unfold opR; rw [if_neg h]; simp [h1]
theorem opR_none {c:UInt8} {t:List UInt8} (h:(c::t).take 2∉twos) (h1:c∉ones):opR (c::t)=0:=by unfold opR; rw [if_neg h]; simp [h1]

theorem tokRes_parts (r:Except Nat (Tk×Nat)):∃x y z q e,tokRes r=.tuple #[.agg #[x,y,z],.int .i64 q,.int .i64 e]∧(∃n,x=.int .i64 n)∧(∃b,y=.string b)∧∃n,z=.int .i64 n:=by
 cases r with
 | error e=>exact ⟨_,_,_,_,_,rfl,⟨_,rfl⟩,⟨_,rfl⟩,_,rfl⟩
 | ok t=>exact ⟨_,_,_,_,_,rfl,⟨_,rfl⟩,⟨_,rfl⟩,_,rfl⟩

theorem token_any (s:ByteArray) (p:Nat) (w:World) (hp:p < s.size) (hs:s.size < 1000000):
  Calls Tryz.prog 49 #[.string s,.int .i64 p] w fun e w'=>e=.returned (tokRes (tokP s.data.toList p))∧Below w.heap.size w w':=by
 have hdr:=drop_at s p hp
 have hb:=(s[p]).toNat_lt
 have htk:Hid (tokP s.data.toList p=if dig s[p] then numT (s.data.toList.drop p) p else if let8 s[p] then nameT (s.data.toList.drop p) p else if (s[p]).toNat=34 then quoT (s.data.toList.drop (p+1)) p else opT (s.data.toList.drop p) p):=by
  show _=_
  rw [tokP,hdr]
 go_enter Tryz.func49,Tryz.ntmps49
 go_wp2_with fail;have hblk:=Blk.new w 73 #[.int .i64 0,.string ⟨#[]⟩,.int .i64 0];have hbel0:Below w.heap.size w (w.alloc (.cells #[.int .i64 0,.string ⟨#[]⟩,.int .i64 0] 73)):=(Below.refl _ _).alloc (Nat.le_refl _) _;have hsz:(w.alloc (.cells #[.int .i64 0,.string ⟨#[]⟩,.int .i64 0] 73)).heap.size=w.heap.size+1:=by simp
 generalize w.alloc (.cells #[.int .i64 0,.string ⟨#[]⟩,.int .i64 0] 73)=w1 at*;obtain ⟨B,hB⟩:∃B,B=w.heap.size:=⟨_,rfl⟩;rw [← hB] at hblk hbel0 hsz ⊢;have HB:=zH hB;clear hB;refine (isDigit_any _ _).mono ?_;rintro e w2 ⟨rfl,rfl⟩;by_cases hdig:dig s[p]=true
 ·rw [hdig]
  go_wp2_with fail;refine (number_any s p _ (by omega) hs).mono ?_
  rintro e w2 ⟨rfl,hb2⟩;have ht:=htk.out;rw [if_pos hdig] at ht;have HT:=zH ht;clear htk ht;generalize numT (s.data.toList.drop p) p=r at*;obtain ⟨x,y,z,q,e,hr,hx,hy,hz⟩:=tokRes_parts r;rw [hr];obtain ⟨n1,rfl⟩:=hx;obtain ⟨n2,rfl⟩:=hy;obtain ⟨n3,rfl⟩:=hz;have hb1:=hblk.below hb2 (by omega)
  have hc0:=hb1.cell 0
  have hc1:=hb1.cell 1
  have hc2:=hb1.cell 2
  have hf0:=hb1.frozen 0
  have hf1:=hb1.frozen 1
  have hf2:=hb1.frozen 2
  have hbel2:=hbel0.trans (hb2.mono (by omega))
  go_wp2_with fail;have h3:=put3 hb1 (.int .i64 n1) (.string n2) (.int .i64 n3);have hb3:=below3 hbel2 (.int .i64 n1) (.string n2) (.int .i64 n3);exact bodyPost_ret (v:=tokRes r) (by rw [hr]; simp [results,Tryz.f49,go_sem,h3.cell]) rfl ⟨by rw [HT.out],by rw [← HB.out]; exact hb3⟩
 rw [Bool.eq_false_iff.2 hdig];go_wp2_with fail;refine (isLetter_any _ _).mono ?_;rintro e w2 ⟨rfl,rfl⟩;by_cases hlet:let8 s[p]=true
 ·rw [hlet]
  go_wp2_with fail;refine (name_any s p _ (by omega) hs).mono ?_
  rintro e w2 ⟨rfl,hb2⟩;have ht:=htk.out;rw [if_neg hdig,if_pos hlet] at ht;have HT:=zH ht;clear htk ht;generalize nameT (s.data.toList.drop p) p=r at*;obtain ⟨x,y,z,q,e,hr,hx,hy,hz⟩:=tokRes_parts r;rw [hr];obtain ⟨n1,rfl⟩:=hx;obtain ⟨n2,rfl⟩:=hy;obtain ⟨n3,rfl⟩:=hz;have hb1:=hblk.below hb2 (by omega)
  have hc0:=hb1.cell 0
  have hc1:=hb1.cell 1
  have hc2:=hb1.cell 2
  have hf0:=hb1.frozen 0
  have hf1:=hb1.frozen 1
  have hf2:=hb1.frozen 2
  have hbel2:=hbel0.trans (hb2.mono (by omega))
  go_wp2_with fail;have h3:=put3 hb1 (.int .i64 n1) (.string n2) (.int .i64 n3);have hb3:=below3 hbel2 (.int .i64 n1) (.string n2) (.int .i64 n3);exact bodyPost_ret (v:=tokRes r) (by rw [hr]; simp [results,Tryz.f49,go_sem,h3.cell]) rfl ⟨by rw [HT.out],by rw [← HB.out]; exact hb3⟩
 rw [Bool.eq_false_iff.2 hlet];by_cases h34:(s[p]).toNat=34
 ·have e34:(((s[p]).toNat:Int)==34)=true:=by simp; omega
  go_wp2_with fail;refine (quoted_any s p _ hp hs).mono ?_;rintro e w2 ⟨rfl,hb2⟩;have ht:=htk.out;rw [if_neg hdig,if_neg hlet,if_pos h34] at ht;have HT:=zH ht;clear htk ht;generalize quoT (s.data.toList.drop (p+1)) p=r at*;obtain ⟨x,y,z,q,e,hr,hx,hy,hz⟩:=tokRes_parts r;rw [hr];obtain ⟨n1,rfl⟩:=hx;obtain ⟨n2,rfl⟩:=hy;obtain ⟨n3,rfl⟩:=hz;have hb1:=hblk.below hb2 (by omega)
  have hc0:=hb1.cell 0
  have hc1:=hb1.cell 1
  have hc2:=hb1.cell 2
  have hf0:=hb1.frozen 0
  have hf1:=hb1.frozen 1
  have hf2:=hb1.frozen 2
  have hbel2:=hbel0.trans (hb2.mono (by omega))
  go_wp2_with fail;have h3:=put3 hb1 (.int .i64 n1) (.string n2) (.int .i64 n3);have hb3:=below3 hbel2 (.int .i64 n1) (.string n2) (.int .i64 n3);exact bodyPost_ret (v:=tokRes r) (by rw [hr]; simp [results,Tryz.f49,go_sem,h3.cell]) rfl ⟨by rw [HT.out],by rw [← HB.out]; exact hb3⟩
 have e34:(((s[p]).toNat:Int)==34)=false:=by simp; omega
 have ht:=htk.out
 rw [if_neg hdig,if_neg hlet,if_neg h34,opT] at ht;have HT:=zH ht;clear htk ht;go_wp2_with fail;have hc0:=hblk.cell 0;have hc1:=hblk.cell 1;have hc2:=hblk.cell 2;have hf0:=hblk.frozen 0;have hf1:=hblk.frozen 1;have hf2:=hblk.frozen 2;go_loop [8] (fun v=>∃(n:Nat),v=.int .i64 n∧n≤2∧Hid (n < 2→(s.data.toList.drop p).take 2∉twos)∧Hid (n < 1→s[p]∉ones)) (fun v=>(intOf v).toNat)
 case atStart=>exact ⟨2,rfl,by omega,fun h=>absurd h (by decide),fun h=>absurd h (by decide)⟩
 case round=>
  obtain ⟨n,rfl,hn,H2,H1⟩:=hrel
  obtain rfl | rfl | rfl:n=2∨n=1∨n=0:=by omega
  ·clear H1 H2
   by_cases hin:p+2≤s.size
   ·go_wp2_with fail
    refine (isOperator_any _ _).mono ?_
    rintro e w2 ⟨rfl,rfl⟩;have hx:=extract_take s p 2;rw [hx,isOp_two _ (by simp; omega)]
    by_cases h2:(s.data.toList.drop p).take 2∈twos
    ·have H2:=zH h2
     rw [decide_eq_true h2];have HT2:Hid (tokP s.data.toList p=.ok (⟨4,(s.data.toList.drop p).take 2,p⟩,p+2)):=by
      show _=_
      have:opR (s.data.toList.drop p)=2:=opR_two h2
      rw [HT.out,this]; rfl
     clear h2 HT;generalize (s.data.toList.drop p).take 2=U at*;go_wp2_with fail;have h3:=put3 hblk (.int .i64 4) (.string ⟨U.toArray⟩) (.int .i64 p);have hb3:=below3 hbel0 (.int .i64 4) (.string ⟨U.toArray⟩) (.int .i64 p);exact bodyPost_ret (v:=tokRes (.ok (⟨4,U,p⟩,p+2))) (by simp [tokRes,tkV,results,Tryz.f49,go_sem,h3.cell]) rfl ⟨by rw [HT2.out],by rw [← HB.out]; exact hb3⟩
    ·rw [decide_eq_false h2]
     have H2:=zH h2
     clear h2;go_wp2_with fail;exact ⟨⟨1,rfl,by omega,fun _=>H2.out,fun h=>absurd h (by decide)⟩,by simp [intOf]⟩
   ·have H2:Hid ((s.data.toList.drop p).take 2∉twos):=by
     intro h;have:=twos_len _ h;simp at this;omega
    go_wp2_with fail;exact ⟨⟨1,rfl,by omega,fun _=>H2.out,fun h=>absurd h (by decide)⟩,by simp [intOf]⟩
  ·go_wp2_with fail
   refine (isOperator_any _ _).mono ?_
   rintro e w2 ⟨rfl,rfl⟩;have hx:=extract_take s p 1;have hU:(s.data.toList.drop p).take 1=[s[p]]:=by rw [hdr]; rfl
   rw [hU] at hx;rw [hx,isOp_one];by_cases h1:s[p]∈ones
   ·rw [decide_eq_true h1]
    have HT2:Hid (tokP s.data.toList p=.ok (⟨4,[s[p]],p⟩,p+1)):=by
     show _=_
     have:opR (s.data.toList.drop p)=1:=by have h:=H2.out (by decide); rw [hdr] at h ⊢; exact opR_one h h1
     rw [HT.out,this,hU]; rfl
    go_wp2_with fail;have h3:=put3 hblk (.int .i64 4) (.string ⟨#[s[p]]⟩) (.int .i64 p);have hb3:=below3 hbel0 (.int .i64 4) (.string ⟨#[s[p]]⟩) (.int .i64 p);exact bodyPost_ret (v:=tokRes (.ok (⟨4,[s[p]],p⟩,p+1))) (by simp [tokRes,tkV,results,Tryz.f49,go_sem,h3.cell]) rfl ⟨by rw [HT2.out],by rw [← HB.out]; exact hb3⟩
   ·rw [decide_eq_false h1]
    go_wp2_with fail;exact ⟨⟨0,rfl,by omega,fun _=>H2.out (by decide),fun _=>h1⟩,by simp [intOf]⟩
  ·have HT2:Hid (tokP s.data.toList p=.error 18):=by
    show _=_
    have:opR (s.data.toList.drop p)=0:=by have h:=H2.out (by decide); rw [hdr] at h ⊢; exact opR_none h (H1.out (by decide))
    rw [HT.out,this]; rfl
   go_wp2_with fail;have h3:=put3 hblk (.int .i64 0) (.string ⟨#[]⟩) (.int .i64 0);have hb3:=below3 hbel0 (.int .i64 0) (.string ⟨#[]⟩) (.int .i64 0);exact bodyPost_ret (v:=tokRes (.error 18)) (by simp [tokRes,tk0,results,Tryz.f49,go_sem,h3.cell]) rfl ⟨by rw [HT2.out],by rw [← HB.out]; exact hb3⟩
open Go.RowKit

def opF:List (List UInt8)→List UInt8→List UInt8
 | [],_=>[]
 | l::L,u=>if u.take l.length=l then l else opF L u
def opsL:List (List UInt8):=twos++ones.map fun c=>[c]
def opsA:Array Value:=(opsL.map fun l=>Value.string ⟨l.toArray⟩).toArray
theorem drewN_below {B:Nat} {a w:World} (h:Below B a w) (n:Nat):Below B a (w.drewN n):=⟨h.os,h.tape,h.output,h.size,h.block⟩

open Go.RowKit

def TokOk (r:Except Nat (Tk×Nat)) (e:Ending):Prop:=
 ∃(t:Tk) (q:Nat),e=.returned (.tuple #[tkV t,.int .i64 q,.int .i64 (errOf r:Nat)])∧∀x,r=.ok x→x=(t,q)

theorem numT_ok (u:List UInt8) (p:Nat) (x:Tk×Nat) (h:numT u p=.ok x):x=(⟨1,u.take (runN dig u),p⟩,p+runN dig u):=by
 unfold numT at h;split at h
 ·cases h
 ·rename_i n hn
  have:=numR_run _ _ _ hn
  subst this;split at h
  ·cases h
  ·cases h; rfl
theorem errOf_tok (l:List UInt8) (p:Nat) (h:errOf (tokP l p)=0):∃x,tokP l p=.ok x:=by
 cases hk:tokP l p with
 | ok x=>exact ⟨x,rfl⟩
 | error e=>
  rw [hk] at h;have h:e=0:=h;subst h;unfold tokP at hk;split at hk
  ·cases hk
  ·split at hk
   ·unfold numT at hk
    split at hk
    ·cases hk
    ·split at hk <;> cases hk
   ·split at hk
    ·unfold nameT at hk
     split at hk <;> cases hk
    ·split at hk
     ·unfold quoT at hk
      split at hk
      ·cases hk
      ·split at hk <;> cases hk
     ·unfold opT at hk
      split at hk <;> cases hk

open Go.RowKit

def tcell (t:Tk):List Value:=[.int .i64 t.kind,.string ⟨t.text.toArray⟩,.int .i64 t.at_]
def tcells (l:List Tk):List Value:=l.flatMap tcell
theorem tcells_snoc (l:List Tk) (t:Tk):tcells (l++[t])=tcells l++tcell t:=by simp [tcells]
def TRow (w:World) (base:Nat) (v:Value) (l:List Tk):Prop:=w.ownsRow base 73 3 v l.length (tcells l)
theorem trow_shape {w:World} {b:Nat} {v:Value} {l:List Tk} (h:TRow w b v l):∃x c,v=.slice x l.length c:=by
 rcases h.2 with ⟨rfl,h0⟩ | ⟨g,cap,cur,rfl,_⟩
 ·exact ⟨none,0,by rw [h0]⟩
 ·exact ⟨_,_,rfl⟩
theorem trow_more {w:World} {base:Nat} {v:Value} {n:Nat} {l:List Tk} {xs:List Value} (h:w.ownsRow base 73 3 v n (tcells l++xs)) (t:Tk) (hx:xs=tcell t) (hn:n=l.length+1):TRow w base v (l++[t]):=by
 subst hx; subst hn;unfold TRow;rw [tcells_snoc,List.length_append];exact h

theorem el_tok:Elem Tryz.prog 66 73 (.agg #[.int .i64 0,.string ⟨#[]⟩,.int .i64 0]) 3 32:=by
 refine ⟨Tryz.underlying66,?_,rfl,by decide⟩
 exact info_parts (by kernel_rfl)

def cont (done:List Tk):Except (Nat×Nat) (List Tk)→Except (Nat×Nat) (List Tk)
 | .error x=>.error x
 | .ok r=>.ok (done++r)
theorem cont_snoc (done:List Tk) (t:Tk) (r:Except (Nat×Nat) (List Tk)):cont (done++[t]) r=cont done (cont [t] r):=by
 cases r <;> simp [cont]
theorem toksGo_lim (l:List UInt8) (f n p:Nat) (h:4096≤n):toksGo l (f+1) n p=.error (p,3):=by rw [toksGo,if_pos h]
theorem toksGo_end (l:List UInt8) (f n:Nat) (h:¬ 4096≤n):toksGo l (f+1) n l.length=.ok [⟨0,[],l.length⟩]:=by rw [toksGo,if_neg h,if_pos rfl]
theorem toksGo_err (l:List UInt8) (f n p e:Nat) (h:¬ 4096≤n) (hp:p≠l.length) (ht:tokP l p=.error e):toksGo l (f+1) n p=.error (p,e):=by rw [toksGo,if_neg h,if_neg hp,ht]
theorem toksGo_step (l:List UInt8) (f n p:Nat) (t:Tk) (q:Nat) (h:¬ 4096≤n) (hp:p≠l.length) (ht:tokP l p=.ok (t,q)):toksGo l (f+1) n p=cont [t] (toksGo l f (n+1) (q+skipN false (l.drop q))):=by
 rw [toksGo,if_neg h,if_neg hp,ht];simp only
 cases toksGo l f (n+1) (q+skipN false (l.drop q)) <;> rfl

theorem quoR_pos (t:List UInt8) (v:List UInt8) (n:Nat) (h:quoR t=some (v,n)):0 < n∧n≤t.length:=by
 fun_induction quoR t generalizing v n with
 | case1=>cases h
 | case2=>cases h; simp
 | case3=>cases h
 | case4=>cases h
 | case5 c _ _ _ d u _ ih=>
  obtain ⟨⟨v',n'⟩,hm,he⟩:=Option.map_eq_some_iff.1 h
  cases he
  have:=ih _ _ hm
  simp; omega
 | case6 c _ _ _ d u _ _ ih=>
  obtain ⟨⟨v',n'⟩,hm,he⟩:=Option.map_eq_some_iff.1 h
  cases he
  have:=ih _ _ hm
  simp; omega
 | case7=>cases h
 | case8 c t _ _ _ ih=>
  obtain ⟨⟨v',n'⟩,hm,he⟩:=Option.map_eq_some_iff.1 h
  cases he
  have:=ih _ _ hm
  simp; omega
theorem tokP_step (l:List UInt8) (p:Nat) (t:Tk) (q:Nat) (h:tokP l p=.ok (t,q)):p < q∧q≤l.length:=by
 unfold tokP at h;split at h
 ·cases h
 ·rename_i c u hu
  have hl:l.length - p=u.length+1:=by have:=congrArg List.length hu; simpa using this
  split at h
  ·rename_i hd
   have:=numT_ok _ _ _ h
   cases this
   have h1:=runN_le dig (c::u)
   have h2:0 < runN dig (c::u):=by simp [runN,hd]
   simp at h1
   omega
  ·split at h
   ·rename_i hd
    unfold nameT at h;split at h
    ·cases h
    ·cases h
     have h1:=runN_le (fun c=>let8 c||dig c) (c::u)
     have h2:0 < runN (fun c=>let8 c||dig c) (c::u):=by simp [runN,hd]
     simp only [wordN];simp at h1;omega
   ·split at h
    ·unfold quoT at h
     split at h
     ·cases h
     ·rename_i v n hq
      have:=quoR_pos _ _ _ hq
      split at h
      ·cases h
      ·cases h; omega
    ·unfold opT at h
     split at h
     ·cases h
     ·cases h
      rename_i h0
      have:opR (c::u)≤(c::u).length:=by
       by_cases h2:(c::u).take 2∈twos
       ·have:=twos_len _ h2
        rw [opR_two h2]; simp at this; simp; omega
       ·by_cases h1:c∈ones
        ·rw [opR_one h2 h1]; simp
        ·rw [opR_none h2 h1]; simp
      simp at this
      omega

def TokensOk (r:Except (Nat×Nat) (List Tk)) (B:Nat) (e:Ending) (w:World):Prop:=
 match r with
 | .error (p,k)=>e=.returned (.tuple #[.slice none 0 0,.int .i64 p,.int .i64 k])
 | .ok l=>∃v,e=.returned (.tuple #[v,.int .i64 0,.int .i64 0])∧TRow w B v l
end Go.Proofs.YtbaidkefobhipaaGreatDoor
