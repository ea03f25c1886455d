/-
  Walk: the tokens of a script, in the program.
  Walks: literals of strings, in the program and in the reference.
  Plain definitions: syntax trees as forests; which are right; how tokens are parsed.
  How rows of names and syntax trees lie in memory.
-/
import Derived.Test.YtbaidkefobhipaaGreatDoorZS1
namespace Go.Proofs.YtbaidkefobhipaaGreatDoor
set_option maxHeartbeats 4000000
set_option maxRecDepth 100000
open Go.RowKit

theorem tokens_any (s:ByteArray) (w:World) (hmax:s.size≤maxLen):
  Calls Tryz.prog 32 #[.string s] w fun e w'=>TokensOk (toksP s.data.toList) w.heap.size e w'∧Below w.heap.size w w':=by
 unfold maxLen at hmax;have hlen:s.data.toList.length=s.size:=by simp
 by_cases hbig:16384 < s.size
 ·have hr:Hid (toksP s.data.toList=.error (0,3)):=by show _=_; rw [toksP,if_pos (by omega)]
  go_enter Tryz.func32,Tryz.ntmps32
  go_wp2_with fail;refine bodyPost_ret (v:=.tuple #[.slice none 0 0,.int .i64 0,.int .i64 3]) (by simp [results,Tryz.f32,go_sem]) rfl ⟨?_,Below.refl _ _⟩
  rw [hr.out]; rfl
 have hr:Hid (toksP s.data.toList=toksGo s.data.toList (s.size+1) 0 (skipN false s.data.toList)):=by show _=_; rw [toksP,if_neg (by omega),hlen]
 have hskl:=skipN_le false s.data.toList
 rw [hlen] at hskl;go_enter Tryz.func32,Tryz.ntmps32;go_wp2_with fail;refine (skip_any s 0 _ (by omega) (by omega)).mono ?_
 rintro e w1 ⟨rfl,rfl⟩;rw [List.drop_zero,Nat.zero_add];go_wp2_with fail;obtain ⟨B,hB⟩:∃B,B=w.heap.size:=⟨_,rfl⟩;have HB:=zH hB;clear hB;go_loopw [5,6] (fun v va wr=>∃(p:Nat) (done:List Tk),va=.int .i64 p∧p≤s.size∧done.length≤p∧TRow wr B v done∧
   Hid (cont done (toksGo s.data.toList (s.size+1 - done.length) done.length p)=toksP s.data.toList)∧Below B w wr∧B≤wr.heap.size) (fun _ va _=>s.size - (intOf va).toNat)
 case atStart=>
  refine ⟨_,[],rfl,hskl,Nat.zero_le _,⟨rfl,.inl ⟨rfl,rfl⟩⟩,?_,Below.refl _ _,by have:=HB.out; omega⟩
  show _=_
  rw [hr.out];show cont [] _=_
  generalize toksGo s.data.toList (s.size+1 - 0) 0 (skipN false s.data.toList)=r
  cases r <;> rfl
 case round=>
  clear hr;obtain ⟨p,done,rfl,hp,hdp,hrow,hg,hbel,hszr⟩:=hrel;obtain ⟨x5,c5,rfl⟩:=trow_shape hrow;obtain ⟨f,hf⟩:∃f,s.size+1 - done.length=f+1:=⟨s.size - done.length,by omega⟩
  have hd:=hg.out
  rw [hf] at hd;by_cases hlim:4096≤done.length
  ·rw [toksGo_lim _ _ _ _ hlim] at hd
   have HD:=zH hd
   clear hd hg;have hc1:decide ((4096:Int)≤(done.length:Int))=true:=by simp; omega
   go_wp2_with fail;refine bodyPost_ret (v:=.tuple #[.slice none 0 0,.int .i64 p,.int .i64 3]) (by simp [results,Tryz.f32,go_sem]) rfl ⟨?_,by rw [← HB.out]; exact hbel⟩
   rw [← HD.out]; rfl
  have hc1:decide ((4096:Int)≤(done.length:Int))=false:=by simp; omega
  by_cases hend:p=s.size
  ·have hpe:((p:Int)==(s.size:Int))=true:=by simp; omega
   rw [hend,← hlen,toksGo_end _ _ _ hlim] at hd;have HD:=zH hd;clear hd hg;go_wp2_with (at_builtin; refine wpList_app el_tok hrow hszr rfl rfl rfl (m:=0) rfl (by simp [Value.oneCell']) rfl (by omega) (by unfold maxLen; omega) ?_)
   intro r2 cap2 w2 ho2 hg2 _;have hrow2:=trow_more ho2 ⟨0,[],s.size⟩ rfl rfl;obtain ⟨hbel2,hsz2⟩:=below_app hbel hszr hrow hg2;clear ho2 hg2;go_wp2_with fail;refine bodyPost_ret (v:=.tuple #[_,.int .i64 0,.int .i64 0]) (by simp [results,Tryz.f32,go_sem]; rfl) rfl ⟨?_,by rw [← HB.out]; exact hbel2⟩
   rw [← HD.out,hlen,← HB.out];exact ⟨_,rfl,hrow2⟩
  have hpe:((p:Int)==(s.size:Int))=false:=by simp; omega
  go_wp2_with fail;refine (token_any s p _ (by omega) (by omega)).mono ?_
  rintro e w2 ⟨rfl,hb2⟩;have hrow2:TRow w2 B _ done:=(Fr.of_below (B:=0) hb2 []).owns hrow (by simp)
  have hbel2:=hbel.trans (hb2.mono hszr)
  have hsz2:B≤w2.heap.size:=Nat.le_trans hszr hb2.size
  cases htk:tokP s.data.toList p with
  | error e=>
   rw [toksGo_err _ _ _ _ _ hlim (by omega) htk] at hd
   have HD:=zH hd
   have hene:((e:Int) != 0)=true:=by
    have:e≠0:=fun h0=>by obtain ⟨x,hx⟩:=errOf_tok s.data.toList p (by rw [htk]; exact h0); rw [htk] at hx; cases hx
    simp; omega
   clear hd hg htk;simp only [tokRes,tk0];go_wp2_with fail;refine bodyPost_ret (v:=.tuple #[.slice none 0 0,.int .i64 p,.int .i64 e]) (by simp [results,Tryz.f32,go_sem]) rfl ⟨?_,by rw [← HB.out]; exact hbel2.alloc hsz2 _⟩
   rw [← HD.out]; rfl
  | ok x=>
   obtain ⟨t,q⟩:=x
   rw [toksGo_step _ _ _ _ _ _ hlim (by omega) htk] at hd
   obtain ⟨hq1,hq2⟩:=tokP_step _ _ _ _ htk
   rw [hlen] at hq2;have HD:=zH hd;clear hd hg htk;simp only [tokRes,tkV];have hrow3:=fun o=>World.ownsRow.alloc hrow2 o
   have hsa:∀o,(w2.alloc o).heap.size=w2.heap.size+1:=fun o=>by simp
   go_wp2_with (at_builtin; refine wpList_app el_tok (hrow3 _) (by simp; omega) rfl rfl rfl (m:=0) rfl (by simp [Value.oneCell']) (by rw [hsa]; rfl) (by omega) (by unfold maxLen; omega) ?_)
   intro r2 cap2 w3 ho2 hg2 _;have hrow4:=trow_more ho2 t rfl rfl;obtain ⟨hbel3,hsz3⟩:=below_app (hbel2.alloc hsz2 _) (by simp; omega) (hrow3 _) hg2
   clear ho2 hg2 hrow hrow2 hrow3;go_wp2_with fail;refine (skip_any s q _ hq2 (by omega)).mono ?_
   rintro e w4 ⟨rfl,rfl⟩;have hsk:=skipN_le false (s.data.toList.drop q);have hdl:(s.data.toList.drop q).length=s.size - q:=by simp
   rw [hdl] at hsk;go_wp2_with fail;refine ⟨⟨_,_,rfl,by omega,by simp; omega,hrow4,?_,hbel3,hsz3⟩,by simp [intOf]; omega⟩
   show _=_
   rw [← HD.out,← cont_snoc];have h1:(done++[t]).length=done.length+1:=by simp
   rw [h1,show s.size+1 - (done.length+1)=f from by omega]
open Go.RowKit

theorem take_snoc (s:ByteArray) (k:Nat) (h:k < s.size):s.data.toList.take (k+1)=s.data.toList.take k++[s[k]]:=by
 rw [List.take_succ_eq_append_getElem (by simpa using h)]; rfl
theorem extract_one (s:ByteArray) (k:Nat) (h:k < s.size):s.extract k (k+1)=⟨#[s[k]]⟩:=by
 apply ByteArray.ext
 rw [ByteArray.data_extract];have h':k < s.data.size:=h;apply Array.ext
 ·simp; omega
 ·intro i h1 h2
  have:i=0:=by simp at h2; omega
  subst this;simp; rfl
def badC (c:UInt8):Bool:=decide (c.toNat≠10∧(c.toNat < 32∨126 < c.toNat))
def escC (c:UInt8):List UInt8:=if c.toNat=10 then [92,110] else if c.toNat=34∨c.toNat=92 then [92,c] else [c]
def escL (l:List UInt8):List UInt8:=l.flatMap escC
def litP (l:List UInt8):Except Nat (List UInt8):=if l.any badC then .error 4 else if 256 < l.length then .error 3 else .ok ([34]++escL l++[34])
def litRes:Except Nat (List UInt8)→Value
 | .error e=>.tuple #[.string ⟨#[]⟩,.int .i64 e]
 | .ok l=>.tuple #[.string ⟨l.toArray⟩,.int .i64 0]
theorem escL_snoc (l:List UInt8) (c:UInt8):escL (l++[c])=escL l++escC c:=by simp [escL]
theorem escL_len (l:List UInt8):(escL l).length≤2*l.length:=by
 induction l with
 | nil=>simp [escL]
 | cons c l ih=>
  have:(escC c).length≤2:=by unfold escC; split <;> (try split) <;> simp
  simp [escL] at ih ⊢
  omega

theorem quote_any (s:ByteArray) (w:World) (hs:s.size≤1048576):
  Calls Tryz.prog 104 #[.string s] w fun e w'=>e=.returned (litRes (litP s.data.toList))∧Below w.heap.size w w':=by
 go_enter Tryz.func104,Tryz.ntmps104
 go_wp2_with fail;have hr0:BRow (w.alloc (.cells #[.int .u8 34] 5)) w.heap.size 5 (.slice (some ⟨w.heap.size,0,none⟩) 1 1) [34]:=
  ⟨rfl,.inr ⟨_,1,#[.int .u8 34],rfl,Nat.le_refl _,Blk.new w 5 #[.int .u8 34],Nat.le_refl _,by decide,rfl,rfl⟩⟩
 have hb0:Below w.heap.size w (w.alloc (.cells #[.int .u8 34] 5)):=(Below.refl _ _).alloc (Nat.le_refl _) _
 have hs0:w.heap.size≤(w.alloc (.cells #[.int .u8 34] 5)).heap.size:=by simp
 obtain ⟨B,hB⟩:∃B,B=w.heap.size:=⟨_,rfl⟩
 rw [← hB] at hr0 hb0 hs0 ⊢;have HB:=zH hB;clear hB;have hlen:s.data.toList.length=s.size:=by simp
 have HL:=zH hlen
 clear hlen;go_loopw [4,10] (fun v vi wr=>∃(i:Nat),vi=.int .i64 i∧i≤s.size∧BRow wr B 5 v (34::escL (s.data.toList.take i))∧Hid ((s.data.toList.take i).any badC=false)∧Below B w wr∧B≤wr.heap.size) (fun _ vi _=>s.size - (intOf vi).toNat)
 case atStart=>exact ⟨0,rfl,Nat.zero_le _,hr0,rfl,hb0,hs0⟩
 case round=>
  clear hr0 hb0 hs0;obtain ⟨i,rfl,hi,hown,hany,hbel,hszr⟩:=hrel;obtain ⟨x4,c4,rfl⟩:=row_shape hown;have hel:=escL_len (s.data.toList.take i);have htl:(s.data.toList.take i).length=i:=by rw [List.length_take,HL.out]; omega
  by_cases hlt:i < s.size
  ·have hsn:=take_snoc s i hlt
   have hb:=(s[i]).toNat_lt
   obtain ⟨acc,hacc⟩:∃acc,acc=escL (s.data.toList.take i):=⟨_,rfl⟩
   rw [← hacc] at hel hown ⊢;rw [htl] at hel;have HA:=zH hacc;have HS:=zH hsn;have hcl:decide ((i:Int) < (s.size:Int))=true:=by simp; omega
   clear hacc hsn htl;have hal:(34::acc).length=acc.length+1:=rfl;by_cases h10:(s[i]).toNat=10
   ·have e10:(((s[i]).toNat:Int)==10)=true:=by simp; omega
    go_wp2_with (at_builtin; refine wpList_app el_u8 hown hszr rfl rfl rfl (m:=1) rfl (by simp [Value.oneCell']) rfl (by simp; omega) (by unfold maxLen; simp; omega) ?_)
    intro r2 cap2 w2 ho2 hg2 _;have hown2:=brow_more ho2 [92,110] rfl rfl;obtain ⟨hbel2,hsz2⟩:=below_app hbel hszr hown hg2;clear ho2 hg2 hown;go_wp2_with fail;refine ⟨⟨i+1,by go_num,by omega,?_,?_,hbel2,hsz2⟩,by simp [intOf]; omega⟩
    ·rw [HS.out,escL_snoc,← HA.out,escC,if_pos h10]; exact hown2
    ·show _=_
     rw [HS.out,List.any_append,hany.out]; simp [badC,h10]
   have e10:(((s[i]).toNat:Int)==10)=false:=by simp; omega
   by_cases hbad:(s[i]).toNat < 32∨126 < (s[i]).toNat
   ·have HN:Hid (litP s.data.toList=.error 4):=by
     show _=_
     rw [litP,if_pos];rw [← List.take_append_drop (i+1) s.data.toList,HS.out];simp [badC,h10,hbad]
    rcases hbad with hbad | hbad
    ·have e32:decide (((s[i]).toNat:Int) < 32)=true:=by simp; omega
     go_wp2_with fail;go_ret2;exact ⟨by rw [HN.out]; rfl,by rw [← HB.out]; exact hbel⟩
    ·have e32:decide (((s[i]).toNat:Int) < 32)=false:=by simp; omega
     have e126:decide ((126:Int) < ((s[i]).toNat:Int))=true:=by simp; omega
     go_wp2_with fail;go_ret2;exact ⟨by rw [HN.out]; rfl,by rw [← HB.out]; exact hbel⟩
   have e32:decide (((s[i]).toNat:Int) < 32)=false:=by simp; omega
   have e126:decide ((126:Int) < ((s[i]).toNat:Int))=false:=by simp; omega
   have hgood:badC s[i]=false:=by simp [badC]; omega
   by_cases h34:(s[i]).toNat=34
   ·have e34:(((s[i]).toNat:Int)==34)=true:=by simp; omega
    go_wp2_with (at_builtin; refine wpList_app el_u8 hown hszr rfl rfl rfl (m:=1) rfl (by simp [Value.oneCell']) rfl (by simp; omega) (by unfold maxLen; simp; omega) ?_)
    intro r2 cap2 w2 ho2 hg2 _;have hown2:=brow_more ho2 [92,s[i]] (by simp [bcells,h34]) rfl
    obtain ⟨hbel2,hsz2⟩:=below_app hbel hszr hown hg2
    clear ho2 hg2 hown;go_wp2_with fail;refine ⟨⟨i+1,by go_num,by omega,?_,?_,hbel2,hsz2⟩,by simp [intOf]; omega⟩
    ·rw [HS.out,escL_snoc,← HA.out,escC,if_neg h10,if_pos (.inl h34)]; exact hown2
    ·show _=_
     rw [HS.out,List.any_append,hany.out]; simp [hgood]
   have e34:(((s[i]).toNat:Int)==34)=false:=by simp; omega
   by_cases h92:(s[i]).toNat=92
   ·have e92:(((s[i]).toNat:Int)==92)=true:=by simp; omega
    go_wp2_with (at_builtin; refine wpList_app el_u8 hown hszr rfl rfl rfl (m:=1) rfl (by simp [Value.oneCell']) rfl (by simp; omega) (by unfold maxLen; simp; omega) ?_)
    intro r2 cap2 w2 ho2 hg2 _;have hown2:=brow_more ho2 [92,s[i]] (by simp [bcells,h92]) rfl
    obtain ⟨hbel2,hsz2⟩:=below_app hbel hszr hown hg2
    clear ho2 hg2 hown;go_wp2_with fail;refine ⟨⟨i+1,by go_num,by omega,?_,?_,hbel2,hsz2⟩,by simp [intOf]; omega⟩
    ·rw [HS.out,escL_snoc,← HA.out,escC,if_neg h10,if_pos (.inr h92)]; exact hown2
    ·show _=_
     rw [HS.out,List.any_append,hany.out]; simp [hgood]
   ·have e92:(((s[i]).toNat:Int)==92)=false:=by simp; omega
    go_wp2_with (at_builtin; refine wpList_app el_u8 hown hszr rfl rfl rfl (m:=0) rfl (by simp [Value.oneCell']) rfl (by simp; omega) (by unfold maxLen; simp; omega) ?_)
    intro r2 cap2 w2 ho2 hg2 _;have hown2:=brow_more ho2 [s[i]] (by simp [bcells]) rfl
    obtain ⟨hbel2,hsz2⟩:=below_app hbel hszr hown hg2
    clear ho2 hg2 hown;go_wp2_with fail;refine ⟨⟨i+1,by go_num,by omega,?_,?_,hbel2,hsz2⟩,by simp [intOf]; omega⟩
    ·rw [HS.out,escL_snoc,← HA.out,escC,if_neg h10,if_neg (by omega)]; exact hown2
    ·show _=_
     rw [HS.out,List.any_append,hany.out]; simp [hgood]
  ·have hcl:decide ((i:Int) < (s.size:Int))=false:=by simp; omega
   have hall:s.data.toList.take i=s.data.toList:=List.take_of_length_le (by rw [HL.out]; omega)
   rw [hall] at hel hown htl ⊢;have ha2:Hid (s.data.toList.any badC=false):=by rw [hall] at hany; exact hany
   have HW:=zH hall
   clear hall hany htl;by_cases hbig:256 < s.size
   ·have HN:Hid (litP s.data.toList=.error 3):=by
     show _=_
     rw [litP,if_neg (by rw [ha2.out]; decide),if_pos (by rw [HL.out]; exact hbig)]
    go_wp2_with fail;go_ret2;exact ⟨by rw [HN.out]; rfl,by rw [← HB.out]; exact hbel⟩
   ·have HN:Hid (litP s.data.toList=.ok ([34]++escL s.data.toList++[34])):=by
     show _=_
     rw [litP,if_neg (by rw [ha2.out]; decide),if_neg (by rw [HL.out]; exact hbig)]
    obtain ⟨acc,hacc⟩:∃acc,acc=escL s.data.toList:=⟨_,rfl⟩
    rw [← hacc] at hel hown HN ⊢;rw [HL.out] at hel;clear hacc HW ha2;go_wp2_with (at_builtin; refine wpList_app el_u8 hown hszr rfl rfl rfl (m:=0) rfl (by simp [Value.oneCell']) rfl (by simp; omega) (by unfold maxLen; simp; omega) ?_)
    intro r2 cap2 w2 ho2 hg2 _;have hown2:=brow_more ho2 [34] rfl rfl;obtain ⟨hbel2,hsz2⟩:=below_app hbel hszr hown hg2;have hcv:=run_str_of Tryz.underlying59 Tryz.underlying5 Tryz.underlying9 hown2;clear ho2 hg2 hown;go_wp2_with fail;go_ret2;exact ⟨by rw [HN.out]; rfl,by rw [← HB.out]; exact hbel2⟩

theorem rquote_any (s:ByteArray) (w:World) (hs:s.size≤1048576):
  Calls Tryz.prog 109 #[.string s] w fun e w'=>e=.returned (litRes (litP s.data.toList))∧w=w':=by
 have hlen:s.data.toList.length=s.size:=by simp
 have HL:=zH hlen
 clear hlen;go_enter Tryz.func109,Tryz.ntmps109;go_wp2_with fail;go_loop [4] (fun vi=>∃(i:Nat),vi=.int .i64 i∧i≤s.size∧Hid ((s.data.toList.take i).any badC=false)) (fun vi=>s.size - (intOf vi).toNat)
 case atStart=>exact ⟨0,rfl,Nat.zero_le _,rfl⟩
 case round=>
  obtain ⟨i,rfl,hi,hany⟩:=hrel
  by_cases hlt:i < s.size
  ·have hcl:decide ((i:Int) < (s.size:Int))=true:=by simp; omega
   have HS:=zH (take_snoc s i hlt)
   by_cases hb:badC s[i]=true
   ·have HN:Hid (litP s.data.toList=.error 4):=by
     show _=_
     rw [litP,if_pos];rw [← List.take_append_drop (i+1) s.data.toList,HS.out];simp [hb]
    have hbc:(s[i]).toNat≠10∧((s[i]).toNat < 32∨126 < (s[i]).toNat):=by simpa [badC] using hb
    have e10:(((s[i]).toNat:Int) != 10)=true:=by simp; omega
    by_cases h32:(s[i]).toNat < 32
    ·have e32:decide (((s[i]).toNat:Int) < 32)=true:=by simp; omega
     go_wp2_with fail;go_ret2;exact ⟨by rw [HN.out]; rfl,rfl⟩
    ·have e32:decide (((s[i]).toNat:Int) < 32)=false:=by simp; omega
     have e126:decide ((126:Int) < ((s[i]).toNat:Int))=true:=by simp; omega
     go_wp2_with fail;go_ret2;exact ⟨by rw [HN.out]; rfl,rfl⟩
   ·have hbf:badC s[i]=false:=by simpa using hb
    have hbc:(s[i]).toNat=10∨(32≤(s[i]).toNat∧(s[i]).toNat≤126):=by
     have:¬ ((s[i]).toNat≠10∧((s[i]).toNat < 32∨126 < (s[i]).toNat)):=by simpa [badC] using hb
     omega
    by_cases h10:(s[i]).toNat=10
    ·have e10:(((s[i]).toNat:Int) != 10)=false:=by simp; omega
     go_wp2_with fail;go_round
     case rel=>exact ⟨i+1,by go_num,by omega,by show _=_; rw [HS.out,List.any_append,hany.out]; simp [hbf]⟩
     case measure=>simp [intOf]; omega
    ·have e10:(((s[i]).toNat:Int) != 10)=true:=by simp; omega
     have e32:decide (((s[i]).toNat:Int) < 32)=false:=by simp; omega
     have e126:decide ((126:Int) < ((s[i]).toNat:Int))=false:=by simp; omega
     go_wp2_with fail;go_round
     case rel=>exact ⟨i+1,by go_num,by omega,by show _=_; rw [HS.out,List.any_append,hany.out]; simp [hbf]⟩
     case measure=>simp [intOf]; omega
  ·have hcl:decide ((i:Int) < (s.size:Int))=false:=by simp; omega
   have ha2:Hid (s.data.toList.any badC=false):=by have:=hany.out; rwa [List.take_of_length_le (by rw [HL.out]; omega)] at this
   clear hany;by_cases hbig:256 < s.size
   ·have HN:Hid (litP s.data.toList=.error 3):=by
     show _=_
     rw [litP,if_neg (by rw [ha2.out]; decide),if_pos (by rw [HL.out]; exact hbig)]
    go_wp2_with fail;go_ret2;exact ⟨by rw [HN.out]; rfl,rfl⟩
   ·have HN:Hid (litP s.data.toList=.ok ([34]++escL s.data.toList++[34])):=by
     show _=_
     rw [litP,if_neg (by rw [ha2.out]; decide),if_neg (by rw [HL.out]; exact hbig)]
    go_wp2_with fail;go_loop [5,6] (fun v vk=>∃(k:Nat),vk=.int .i64 k∧k≤s.size∧v=.string ⟨(34::escL (s.data.toList.take k)).toArray⟩) (fun _ vk=>s.size - (intOf vk).toNat)
    case atStart=>exact ⟨0,rfl,Nat.zero_le _,rfl⟩
    case round=>
     obtain ⟨k,rfl,hk,rfl⟩:=hrel
     have hel:=escL_len (s.data.toList.take k)
     have htl:(s.data.toList.take k).length=k:=by rw [List.length_take,HL.out]; omega
     rw [htl] at hel;clear htl;by_cases hlt:k < s.size
     ·have hcl:decide ((k:Int) < (s.size:Int))=true:=by simp; omega
      have HS:=zH (take_snoc s k hlt)
      have hx:=extract_one s k hlt
      obtain ⟨acc,hacc⟩:∃acc,acc=escL (s.data.toList.take k):=⟨_,rfl⟩
      rw [← hacc] at hel ⊢;have HA:=zH hacc;clear hacc;by_cases h10:(s[k]).toNat=10
      ·have e10:(((s[k]).toNat:Int)==10)=true:=by simp; omega
       go_wp2_with fail;go_round
       case rel=>exact ⟨k+1,by go_num,by omega,by rw [HS.out,escL_snoc,← HA.out,escC,if_pos h10]; exact congrArg Value.string (ByteArray.ext (by simp))⟩
       case measure=>simp [intOf]; omega
      have e10:(((s[k]).toNat:Int)==10)=false:=by simp; omega
      by_cases h92:(s[k]).toNat=92
      ·have e92:(((s[k]).toNat:Int)==92)=true:=by simp; omega
       go_wp2_with fail;go_round
       case rel=>exact ⟨k+1,by go_num,by omega,by rw [HS.out,escL_snoc,← HA.out,escC,if_neg h10,if_pos (.inr h92)]; exact congrArg Value.string (ByteArray.ext (by simp))⟩
       case measure=>simp [intOf]; omega
      have e92:(((s[k]).toNat:Int)==92)=false:=by simp; omega
      by_cases h34:(s[k]).toNat=34
      ·have e34:(((s[k]).toNat:Int)==34)=true:=by simp; omega
       go_wp2_with fail;go_round
       case rel=>exact ⟨k+1,by go_num,by omega,by rw [HS.out,escL_snoc,← HA.out,escC,if_neg h10,if_pos (.inl h34)]; exact congrArg Value.string (ByteArray.ext (by simp))⟩
       case measure=>simp [intOf]; omega
      ·have e34:(((s[k]).toNat:Int)==34)=false:=by simp; omega
       go_wp2_with fail;go_round
       case rel=>exact ⟨k+1,by go_num,by omega,by rw [HS.out,escL_snoc,← HA.out,escC,if_neg h10,if_neg (by omega)]; exact congrArg Value.string (ByteArray.ext (by simp))⟩
       case measure=>simp [intOf]; omega
     ·have hcl:decide ((k:Int) < (s.size:Int))=false:=by simp; omega
      have hall:s.data.toList.take k=s.data.toList:=List.take_of_length_le (by rw [HL.out]; omega)
      rw [hall] at hel ⊢;clear hall;generalize escL s.data.toList=acc at*;go_wp2_with fail;go_ret2;exact ⟨by rw [HN.out]; simp [litRes]; exact ByteArray.ext (by simp),rfl⟩


structure Hd where
 kind:Int
 text:List UInt8
 num:Int
 names:List (List UInt8)
 pos:Int
inductive Fo where
 | nil
 | cons (h:Hd) (kids rest:Fo)
namespace Fo
def len:Fo→Nat
 | nil=>0
 | cons _ _ r=>r.len+1
def size:Fo→Nat
 | nil=>0
 | cons _ k r=>k.size+r.size+1
def app:Fo→Fo→Fo
 | nil,g=>g
 | cons h k r,g=>cons h k (r.app g)
def sameF:Fo→Fo→Bool
 | nil,nil=>true
 | cons h k r,cons h' k' r'=>h.kind==h'.kind&&h.text==h'.text&&h.num==h'.num&&h.names==h'.names&&sameF k k'&&sameF r r'
 | _,_=>false
theorem app_len (a b:Fo):(a.app b).len=a.len+b.len:=by
 induction a with
 | nil=>simp [app,len]
 | cons h k r _ ih=>simp only [app,len,ih]; omega
theorem app_nil (a:Fo):a.app nil=a:=by
 induction a with
 | nil=>rfl
 | cons h k r _ ih=>simp only [app,ih]
theorem app_assoc (a b c:Fo):(a.app b).app c=a.app (b.app c):=by
 induction a with
 | nil=>rfl
 | cons h k r _ ih=>simp only [app,ih]
theorem app_size (a b:Fo):(a.app b).size=a.size+b.size:=by
 induction a with
 | nil=>simp [app,size]
 | cons h k r _ ih=>simp only [app,size,ih]; omega
theorem sameF_refl (a:Fo):sameF a a=true:=by
 induction a with
 | nil=>rfl
 | cons h k r ihk ihr=>simp [sameF,ihk,ihr]
end Fo
abbrev Nd:=Hd×Fo
def Nd.one (x:Nd):Fo:=.cons x.1 x.2 .nil
def hdT (kind:Int) (text:List UInt8) (num:Int) (pos:Nat):Hd:=⟨kind,text,num,[],(pos:Int)⟩

def stren (t:List UInt8):Nat:=
 if t=bytes [124,124] then 1 else if t=bytes [38,38] then 2
 else if t=bytes [61,61]∨t=bytes [33,61]∨t=bytes [60]∨t=bytes [60,61]∨t=bytes [62]∨t=bytes [62,61] then 3
 else if t=bytes [43]∨t=bytes [45] then 4 else if t=bytes [42]∨t=bytes [47]∨t=bytes [37] then 5 else 0
def isNameP (l:List UInt8):Bool:=
 (match l with | []=>false | c::t=>let8 c&&t.all fun c=>let8 c||dig c)&&decide (l.length≤32)&&!resv l
def litOk (l:List UInt8):Bool:=match litP l with | .ok _=>true | .error _=>false

def exH (h:Hd) (n:Nat):Bool:=
 (decide (h.num=0)||decide (h.kind=1))&&h.names.isEmpty&&
 (if h.kind=1 then decide (0≤h.num∧h.num≤4611686018427387904)&&h.text.isEmpty&&decide (n=0)
  else if h.kind=2 then litOk h.text&&decide (n=0)
  else if h.kind=3 then isNameP h.text&&decide (n=0)
  else if h.kind=4 then h.text.isEmpty
  else if h.kind=5 then (decide (h.text=bytes [45])||decide (h.text=bytes [33]))&&decide (n=1)
  else if h.kind=6 then decide (0 < stren h.text)&&decide (n=2)
  else if h.kind=7 then isNameP h.text
  else if h.kind=8 then h.text.isEmpty&&decide (n=2)
  else (decide (h.kind=9)||decide (h.kind=10))&&h.text.isEmpty&&decide (n=0))
inductive Ro where
 | ex
 | bl
 | bi
inductive Md where
 | ex
 | st
 | sq (l:List Ro)
def kidM (h:Hd) (n:Nat):Md:=
 if h.kind=20∨h.kind=21∨h.kind=28 then .sq [.ex]
 else if h.kind=22 then (if n=3 then .sq [.ex,.bl,.bi] else .sq [.ex,.bl])
 else if h.kind=23 then .sq [.ex,.bl]
 else if h.kind=24 then .sq [.ex,.ex,.bl]
 else if h.kind=25 then .st
 else if h.kind=26 then .sq [.bl]
 else if h.kind=27 then (if n=0 then .sq [] else .sq [.ex])
 else .sq []
def stH (h:Hd):Bool:=
 decide (20≤h.kind∧h.kind≤29)&&decide (h.num=0)&&(decide (h.kind=26)||h.names.isEmpty)&&
 (if h.kind=20∨h.kind=21∨h.kind=24∨h.kind=26 then isNameP h.text else h.text.isEmpty)&&h.names.all isNameP
def rt:Md→Fo→Bool
 | .ex,.nil=>true
 | .st,.nil=>true
 | .sq l,.nil=>l.isEmpty
 | .ex,.cons h k r=>exH h k.len&&rt .ex k&&rt .ex r
 | .st,.cons h k r=>stH h&&rt (kidM h k.len) k&&rt .st r
 | .sq [],.cons _ _ _=>false
 | .sq (.ex::t),.cons h k r=>exH h k.len&&rt .ex k&&rt (.sq t) r
 | .sq (.bl::t),.cons h k r=>decide (h.kind=25)&&stH h&&rt (kidM h k.len) k&&rt (.sq t) r
 | .sq (.bi::t),.cons h k r=>(decide (h.kind=25)||decide (h.kind=22))&&stH h&&rt (kidM h k.len) k&&rt (.sq t) r

/-! How tokens are parsed. An error comes with its offset. -/
abbrev Pa (α:Type):=List Tk→Except (Nat×Nat) (α×List Tk)
def isT (s:List UInt8):List Tk→Bool
 | []=>false
 | t::_=>(decide (t.kind=4)||decide (t.kind=5))&&decide (t.text=s)
def failT {α:Type} (e:Nat):List Tk→Except (Nat×Nat) α
 | []=>.error (0,e)
 | t::_=>.error (t.at_,e)
def expT (s:List UInt8):Pa Tk:=fun l=>match l with
 | []=>.error (0,18)
 | t::r=>if isT s (t::r) then .ok (t,r) else .error (t.at_,18)
def namT:Pa (List UInt8):=fun l=>match l with
 | []=>.error (0,18)
 | t::r=>if t.kind=3 then .ok (t.text,r) else .error (t.at_,18)
def thenT {α β:Type} (r:Except (Nat×Nat) (α×List Tk)) (f:α→Pa β):Except (Nat×Nat) (β×List Tk):=match r with
 | .error x=>.error x
 | .ok (a,l)=>f a l
def numV (l:List UInt8):Int:=((l.foldl (fun n c=>10*n+(c.toNat - 48)) 0:Nat):Int)

def binL (nx:Pa Nd) (s:Nat):Nat→Nd→Pa Nd
 | 0,x,l=>.ok (x,l)
 | n+1,x,l=>match l with
  | []=>.ok (x,l)
  | t::r=>if t.kind=4∧stren t.text=s then thenT (nx r) fun y l2=>
    if s=3 then .ok ((hdT 6 t.text 0 t.at_,x.one.app y.one),l2) else binL nx s n (hdT 6 t.text 0 t.at_,x.one.app y.one) l2
   else .ok (x,l)
def binP (op:Pa Nd):Nat→Pa Nd
 | 0=>op
 | k+1=>fun l=>thenT (binP op k l) fun x l2=>binL (binP op k) (5 - k) l2.length x l2
def idxL (ex:Pa Nd):Nat→Nd→Pa Nd
 | 0,x,l=>.ok (x,l)
 | n+1,x,l=>match l with
  | []=>.ok (x,l)
  | t::r=>if isT (bytes [91]) (t::r) then thenT (ex r) fun y l2=>thenT (expT (bytes [93]) l2) fun _ l3=>idxL ex n (hdT 8 [] 0 t.at_,x.one.app y.one) l3
   else .ok (x,l)
def lisL (ex:Pa Nd) (ends:List UInt8):Nat→Fo→Pa Fo
 | 0,_,l=>failT 18 l
 | n+1,acc,l=>if isT ends l then .ok (acc,l.tail)
  else thenT (if acc.len=0 then .ok ((),l) else thenT (expT (bytes [44]) l) fun _ l2=>.ok ((),l2)) fun _ l2=>
   thenT (ex l2) fun x l3=>lisL ex ends n (acc.app x.one) l3
def priP (ex:Pa Nd):Pa Nd:=fun l=>match l with
 | []=>.error (0,18)
 | t::r=>
  if t.kind=1 then .ok ((hdT 1 [] (numV t.text) t.at_,.nil),r)
  else if t.kind=2 then .ok ((hdT 2 t.text 0 t.at_,.nil),r)
  else if t.kind=3 then (if isT (bytes [40]) r then thenT (lisL ex (bytes [41]) r.length .nil r.tail) fun k l2=>.ok ((hdT 7 t.text 0 t.at_,k),l2) else .ok ((hdT 3 t.text 0 t.at_,.nil),r))
  else if isT (bytes [116,114,117,101]) (t::r) then .ok ((hdT 9 [] 0 t.at_,.nil),r)
  else if isT (bytes [102,97,108,115,101]) (t::r) then .ok ((hdT 10 [] 0 t.at_,.nil),r)
  else if isT (bytes [91]) (t::r) then thenT (lisL ex (bytes [93]) (r.length+1) .nil r) fun k l2=>.ok ((hdT 4 [] 0 t.at_,k),l2)
  else thenT (expT (bytes [40]) (t::r)) fun _ l2=>thenT (ex l2) fun x l3=>thenT (expT (bytes [41]) l3) fun _ l4=>.ok (x,l4)
def opdP:Nat→Pa Nd
 | 0=>failT 12
 | d+1=>fun l=>match l with
  | []=>.error (0,18)
  | t::r=>if isT (bytes [45]) (t::r)||isT (bytes [33]) (t::r) then thenT (opdP d r) fun x l2=>.ok ((hdT 5 t.text 0 t.at_,x.one),l2)
   else thenT (priP (binP (opdP d) 5) (t::r)) fun x l2=>idxL (binP (opdP d) 5) l2.length x l2
def expP (d:Nat):Pa Nd:=binP (opdP d) 5

def begT:List Tk→Bool
 | []=>false
 | t::r=>decide (t.kind=1∨t.kind=2∨t.kind=3)||
  [bytes [108,101,116],bytes [105,102],bytes [119,104,105,108,101],bytes [102,111,114],bytes [102,110],bytes [114,101,116,117,114,110],bytes [98,114,101,97,107],bytes [123],bytes [45],bytes [33],bytes [40],bytes [91],
   bytes [116,114,117,101],bytes [102,97,108,115,101]].any fun s=>isT s (t::r)
def assT:List Tk→Bool
 | t::u::_=>decide (t.kind=3)&&decide (u.kind=4)&&decide (u.text=bytes [61])
 | _=>false
def blkL (st:Pa Nd):Nat→Fo→Pa Fo
 | 0,_,l=>failT 18 l
 | n+1,acc,l=>if isT (bytes [125]) l then .ok (acc,l.tail) else thenT (st l) fun x l2=>blkL st n (acc.app x.one) l2
def blkP (st:Pa Nd):Pa Nd:=fun l=>thenT (expT (bytes [123]) l) fun t l2=>thenT (blkL st (l2.length+1) .nil l2) fun k l3=>.ok ((hdT 25 [] 0 t.at_,k),l3)
def asgP (ex:Pa Nd) (kind:Int) (pos:Nat):Pa Nd:=fun l=>thenT (namT l) fun n l2=>thenT (expT (bytes [61]) l2) fun _ l3=>thenT (ex l3) fun x l4=>thenT (expT (bytes [59]) l4) fun _ l5=>.ok ((hdT kind n 0 pos,x.one),l5)
def parL:Nat→List (List UInt8)→Pa (List (List UInt8))
 | 0,_,l=>failT 18 l
 | n+1,acc,l=>if isT (bytes [41]) l then .ok (acc,l.tail)
  else thenT (if acc.length=0 then .ok ((),l) else thenT (expT (bytes [44]) l) fun _ l2=>.ok ((),l2)) fun _ l2=>thenT (namT l2) fun x l3=>parL n (acc++[x]) l3
def funP (st:Pa Nd):Pa Nd:=fun l=>thenT (expT (bytes [102,110]) l) fun t l2=>thenT (namT l2) fun n l3=>thenT (expT (bytes [40]) l3) fun _ l4=>
 thenT (parL (l4.length+1) [] l4) fun ps l5=>thenT (blkP st l5) fun b l6=>.ok ((⟨26,n,0,ps,(t.at_:Int)⟩,b.one),l6)
def forP (ex st:Pa Nd):Pa Nd:=fun l=>thenT (expT (bytes [102,111,114]) l) fun t l2=>thenT (namT l2) fun n l3=>thenT (expT (bytes [105,110]) l3) fun _ l4=>
 thenT (ex l4) fun x l5=>thenT (expT (bytes [46,46]) l5) fun _ l6=>thenT (ex l6) fun y l7=>thenT (blkP st l7) fun b l8=>.ok ((hdT 24 n 0 t.at_,(x.one.app y.one).app b.one),l8)
def ifP (ex st br:Pa Nd):Pa Nd:=fun l=>thenT (expT (bytes [105,102]) l) fun t l2=>thenT (ex l2) fun x l3=>thenT (blkP st l3) fun b l4=>
 if isT (bytes [101,108,115,101]) l4 then
  (if isT (bytes [105,102]) l4.tail then thenT (br l4.tail) fun c l5=>.ok ((hdT 22 [] 0 t.at_,(x.one.app b.one).app c.one),l5)
   else thenT (blkP st l4.tail) fun c l5=>.ok ((hdT 22 [] 0 t.at_,(x.one.app b.one).app c.one),l5))
 else .ok ((hdT 22 [] 0 t.at_,x.one.app b.one),l4)
def staP (ex st br:Pa Nd):Pa Nd:=fun l=>match l with
 | []=>.error (0,18)
 | t::r=>
  if begT (t::r)=false then .error (t.at_,18)
  else if isT (bytes [108,101,116]) (t::r) then asgP ex 20 t.at_ r
  else if isT (bytes [105,102]) (t::r) then br (t::r)
  else if isT (bytes [119,104,105,108,101]) (t::r) then thenT (ex r) fun x l2=>thenT (blkP st l2) fun b l3=>.ok ((hdT 23 [] 0 t.at_,x.one.app b.one),l3)
  else if isT (bytes [102,111,114]) (t::r) then forP ex st (t::r)
  else if isT (bytes [102,110]) (t::r) then funP st (t::r)
  else if isT (bytes [123]) (t::r) then blkP st (t::r)
  else if isT (bytes [98,114,101,97,107]) (t::r) then thenT (expT (bytes [59]) r) fun _ l2=>.ok ((hdT 29 [] 0 t.at_,.nil),l2)
  else if isT (bytes [114,101,116,117,114,110]) (t::r) then
   (if isT (bytes [59]) r then .ok ((hdT 27 [] 0 t.at_,.nil),r.tail) else thenT (ex r) fun x l2=>thenT (expT (bytes [59]) l2) fun _ l3=>.ok ((hdT 27 [] 0 t.at_,x.one),l3))
  else if assT (t::r) then asgP ex 21 t.at_ (t::r)
  else thenT (ex (t::r)) fun x l2=>thenT (expT (bytes [59]) l2) fun _ l3=>.ok ((hdT 28 [] 0 t.at_,x.one),l3)
def sbP:Nat→Pa Nd×Pa Nd
 | 0=>(fun l=>if begT l then failT 12 l else failT 18 l,failT 12)
 | d+1=>(staP (expP d) (sbP d).1 (ifP (expP d) (sbP d).1 (sbP d).2),ifP (expP d) (sbP d).1 (sbP d).2)
def proL (st:Pa Nd):Nat→Fo→List Tk→Except (Nat×Nat) Fo
 | 0,_,l=>failT 18 l
 | n+1,acc,l=>match l with
  | []=>.error (0,18)
  | t::r=>if t.kind=0 then .ok acc else match st (t::r) with
   | .error x=>.error x
   | .ok (x,l2)=>proL st n (acc.app x.one) l2
def proP (s:List UInt8):Except (Nat×Nat) Fo:=match toksP s with
 | .error x=>.error x
 | .ok l=>proL (sbP 64).1 l.length .nil l
open Go.RowKit

def RowW (n:Nat) (v:Value) (P:Nat→Nat→Prop):Prop:=
 ∃x c,v=.slice x n c∧n≤c∧c≤maxLen∧(x=none→c=0)∧(n≠0→∃b off,x=some ⟨b,off,none⟩∧P b off)
theorem RowW.mono {n:Nat} {v:Value} {P Q:Nat→Nat→Prop} (h:RowW n v P) (hq:∀b o,P b o→Q b o):RowW n v Q:=by
 obtain ⟨x,c,h1,h2,h3,h4,h5⟩:=h
 exact ⟨x,c,h1,h2,h3,h4,fun hn=>by obtain ⟨b,o,h6,h7⟩:=h5 hn; exact ⟨b,o,h6,hq _ _ h7⟩⟩
def NmRow (w:World) (v:Value) (l:List (List UInt8)):Prop:=
 RowW l.length v fun b off=>∀i (h:i < l.length),w.cell? ⟨b,off+i,none⟩=some (.string ⟨l[i].toArray⟩)
theorem NmRow.below {w w':World} {v:Value} {l:List (List UInt8)} (h:NmRow w v l) (hb:Below w.heap.size w w'):NmRow w' v l:=
 RowW.mono h fun b _ hc i hi=>(hb.cell (p:=⟨b,_,none⟩) (World.block_lt_of_cell? w _ (hc i hi))).trans (hc i hi)
theorem nmrow_nil (w:World):NmRow w (.slice none 0 0) []:=⟨none,0,rfl,Nat.le_refl _,Nat.zero_le _,fun _=>rfl,fun h=>absurd rfl h⟩
def FAt (w:World):Fo→Nat→Nat→Prop
 | .nil,_,_=>True
 | .cons h k r,b,off=>
  w.cell? ⟨b,off,none⟩=some (.int .i64 h.kind)∧w.cell? ⟨b,off+1,none⟩=some (.string ⟨h.text.toArray⟩)∧w.cell? ⟨b,off+2,none⟩=some (.int .i64 h.num)∧
  (∃u,w.cell? ⟨b,off+3,none⟩=some u∧NmRow w u h.names)∧(∃u,w.cell? ⟨b,off+4,none⟩=some u∧RowW k.len u (fun b o=>FAt w k b o))∧
  w.cell? ⟨b,off+5,none⟩=some (.int .i64 h.pos)∧FAt w r b (off+6)
def FRow (w:World) (v:Value) (F:Fo):Prop:=RowW F.len v (fun b o=>FAt w F b o)
theorem FAt.below {w w':World} (hb:Below w.heap.size w w'):∀(F:Fo) (b off:Nat),FAt w F b off→FAt w' F b off:=by
 intro F;induction F with
 | nil=>intro _ _ _; exact True.intro
 | cons h k r ihk ihr=>
  intro b off hf;obtain ⟨h0,h1,h2,⟨u,h3,hn⟩,⟨v,h4,hk⟩,h5,hr⟩:=hf;have hlt:b < w.heap.size:=World.block_lt_of_cell? w _ h0;have key:∀o,w'.cell? ⟨b,o,none⟩=w.cell? ⟨b,o,none⟩:=fun o=>hb.cell (p:=⟨b,o,none⟩) hlt
  exact ⟨(key _).trans h0,(key _).trans h1,(key _).trans h2,⟨u,(key _).trans h3,hn.below hb⟩,⟨v,(key _).trans h4,hk.mono ihk⟩,(key _).trans h5,ihr _ _ hr⟩
theorem FRow.below {w w':World} {v:Value} {F:Fo} (h:FRow w v F) (hb:Below w.heap.size w w'):FRow w' v F:=RowW.mono h fun b o=>FAt.below hb F b o
theorem frow_nil (w:World):FRow w (.slice none 0 0) .nil:=⟨none,0,rfl,Nat.le_refl _,Nat.zero_le _,fun _=>rfl,fun h=>absurd rfl h⟩
def ndV (h:Hd) (vn vk:Value):Array Value:=#[.int .i64 h.kind,.string ⟨h.text.toArray⟩,.int .i64 h.num,vn,vk,.int .i64 h.pos]
theorem Fo.split:∀(F:Fo) (i:Nat),i≤F.len→∃A R:Fo,F=A.app R∧A.len=i:=by
 intro F;induction F with
 | nil=>intro i hi; exact ⟨.nil,.nil,rfl,(Nat.le_zero.1 hi).symm⟩
 | cons h k r _ ih=>
  intro i hi
  cases i with
  | zero=>exact ⟨.nil,.cons h k r,rfl,rfl⟩
  | succ i=>
   obtain ⟨A,R,rfl,hA⟩:=ih i (by simp only [Fo.len] at hi; omega)
   exact ⟨.cons h k A,R,rfl,by simp [Fo.len,hA]⟩
theorem FAt.app {w:World}:∀(A R:Fo) (b off:Nat),FAt w (A.app R) b off↔FAt w A b off∧FAt w R b (off+A.len*6):=by
 intro A;induction A with
 | nil=>intro R b off; simp [Fo.app,FAt,Fo.len]
 | cons h k r _ ih=>
  intro R b off;simp only [Fo.app,FAt,ih,Fo.len,show off+6+r.len*6=off+(r.len+1)*6 by omega]
  constructor
  ·rintro ⟨a,b,c,d,e,f,g,i⟩; exact ⟨⟨a,b,c,d,e,f,g⟩,i⟩
  ·rintro ⟨⟨a,b,c,d,e,f,g⟩,i⟩; exact ⟨a,b,c,d,e,f,g,i⟩
theorem FRow.node {w:World} {x:Option Addr} {n c:Nat} {A:Fo} {h:Hd} {k r:Fo} (hf:FRow w (.slice x n c) (A.app (.cons h k r))):
  ∃b off xn cn xk ck,x=some ⟨b,off,none⟩∧(w.cell? ⟨b,off+A.len*6,none⟩=some (.int .i64 h.kind)∧w.cell? ⟨b,off+A.len*6+1,none⟩=some (.string ⟨h.text.toArray⟩)∧w.cell? ⟨b,off+A.len*6+2,none⟩=some (.int .i64 h.num)∧
   w.cell? ⟨b,off+A.len*6+3,none⟩=some (.slice xn h.names.length cn)∧w.cell? ⟨b,off+A.len*6+4,none⟩=some (.slice xk k.len ck)∧w.cell? ⟨b,off+A.len*6+5,none⟩=some (.int .i64 h.pos))∧NmRow w (.slice xn h.names.length cn) h.names∧FRow w (.slice xk k.len ck) k:=by
 obtain ⟨x',c',h1,h2,h3,h4,h5⟩:=hf
 injection h1 with e1 e2 e3
 subst e1;obtain ⟨b,off,rfl,hp⟩:=h5 (by rw [Fo.app_len]; simp [Fo.len])
 obtain ⟨-,g0,g1,g2,⟨u,g3,hn⟩,⟨v,g4,hk⟩,g5,-⟩:=(FAt.app _ _ _ _).1 hp
 obtain ⟨xn,cn,rfl,-⟩:=id hn
 obtain ⟨xk,ck,rfl,-⟩:=id hk
 exact ⟨b,off,xn,cn,xk,ck,rfl,⟨g0,g1,g2,g3,g4,g5⟩,hn,hk⟩
theorem FRow.len_eq {w:World} {x:Option Addr} {n c:Nat} {F:Fo} (h:FRow w (.slice x n c) F):n=F.len:=by
 obtain ⟨x',c',h1,-⟩:=h
 injection h1
theorem Fo.kid_size (A:Fo) (h:Hd) (k r:Fo):k.size < (A.app (.cons h k r)).size:=by rw [Fo.app_size]; simp only [Fo.size]; omega
theorem Fo.next (A:Fo) (h:Hd) (k r:Fo):A.app (.cons h k r)=(A.app (.cons h k .nil)).app r:=by rw [Fo.app_assoc]; rfl
end Go.Proofs.YtbaidkefobhipaaGreatDoor
