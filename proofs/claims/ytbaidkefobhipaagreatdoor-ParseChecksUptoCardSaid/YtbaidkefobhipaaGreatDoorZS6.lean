/-
  The parser's state in memory; walks of now, take and fail.
  The tokens of a script end as the parser needs it; a row of tokens is what the parser reads.
  Plain: what the parser makes of tokens is right and no heavier than they are; its errors.
-/
import Derived.Test.YtbaidkefobhipaaGreatDoorZS5
import Derived.Lib.AtoiAll
import Derived.Test.YtbaidkefobhipaaGreatDoorZS2
namespace Go.Proofs.YtbaidkefobhipaaGreatDoor
set_option maxHeartbeats 2000000
set_option maxRecDepth 100000
open Go.RowKit

structure But (P:Nat) (w w':World):Prop where
 os:w'.os=w.os
 tape:w'.tape=w.tape
 output:w'.output=w.output
 size:w.heap.size≤w'.heap.size
 block:∀k,k < w.heap.size→k≠P→w'.heap[k]?=w.heap[k]?
theorem But.refl (P:Nat) (w:World):But P w w:=⟨rfl,rfl,rfl,Nat.le_refl _,fun _ _ _=>rfl⟩
theorem But.trans {P:Nat} {a b c:World} (h:But P a b) (h':But P b c):But P a c:=
 ⟨h'.os.trans h.os,h'.tape.trans h.tape,h'.output.trans h.output,Nat.le_trans h.size h'.size,fun k hk hn=>(h'.block k (Nat.lt_of_lt_of_le hk h.size) hn).trans (h.block k hk hn)⟩
theorem But.of_below {P:Nat} {w w':World} (h:Below w.heap.size w w'):But P w w':=⟨h.os,h.tape,h.output,h.size,fun k hk _=>h.block k hk⟩
theorem But.step {P:Nat} {a w w':World} (h:But P a w) (hb:Below w.heap.size w w'):But P a w':=h.trans (But.of_below hb)
theorem But.below {P B:Nat} {w w':World} (h:But P w w') (hB:B≤w.heap.size) (hP:B≤P):Below B w w':=
 ⟨h.os,h.tape,h.output,h.size,fun k hk=>h.block k (by omega) (by omega)⟩
theorem But.put {P:Nat} {a w:World} (h:But P a w) (i:Nat) (u:Value):But P a (w.setCell ⟨P,i,none⟩ u):=
 h.trans ⟨rfl,rfl,rfl,by simp [World.setCell],fun k _ hn=>Below.heap_setCell _ _ _ _ hn⟩
theorem But.cell {P:Nat} {w w':World} (h:But P w w') {p:Addr} (hp:p.block < w.heap.size) (hn:p.block≠P):w'.cell? p=w.cell? p:=by
 unfold World.cell?;rw [h.block p.block hp hn]

def TkAt (w:World):List Tk→Nat→Nat→Prop
 | [],_,_=>True
 | t::r,b,off=>w.cell? ⟨b,off,none⟩=some (.int .i64 t.kind)∧w.cell? ⟨b,off+1,none⟩=some (.string ⟨t.text.toArray⟩)∧w.cell? ⟨b,off+2,none⟩=some (.int .i64 t.at_)∧TkAt w r b (off+3)
theorem TkAt.keep {w w':World} (l:List Tk) (b:Nat) (hc:∀o,w'.cell? ⟨b,o,none⟩=w.cell? ⟨b,o,none⟩):∀off,TkAt w l b off→TkAt w' l b off:=by
 induction l with
 | nil=>intro off _; trivial
 | cons t r ih=>intro off ⟨h1,h2,h3,h4⟩; exact ⟨(hc _).trans h1,(hc _).trans h2,(hc _).trans h3,ih _ h4⟩
def NumT (t:Tk):Prop:=t.kind=1→Lib.atoiAll t.text=.ok (numV t.text)∧t.text.length≤16384
def EndL:List Tk→Prop
 | []=>False
 | [t]=>t.kind=0
 | t::u::r=>t.kind≠0∧NumT t∧EndL (u::r)
theorem EndL.next {t:Tk} {r:List Tk} (h:EndL (t::r)) (ht:t.kind≠0):EndL r:=by
 cases r with
 | nil=>exact absurd h ht
 | cons u r=>exact h.2.2
theorem EndL.num {t:Tk} {r:List Tk} (h:EndL (t::r)) (ht:t.kind≠0):NumT t:=by
 cases r with
 | nil=>exact absurd h ht
 | cons u r=>exact h.2.1
theorem EndL.cons {l:List Tk} (h:EndL l):∃t r,l=t::r:=by
 cases l with
 | nil=>exact absurd h (by simp [EndL])
 | cons t r=>exact ⟨t,r,rfl⟩
def PsW (w:World) (P:Nat) (l:List Tk):Prop:=
 ∃b n c i,Blk w P 71 #[.slice (some ⟨b,0,none⟩) n c,.int .i64 (i:Nat)]∧i+l.length=n∧n≤4097∧n≤c∧TkAt w l b (i*3)∧EndL l∧b < P
theorem PsW.ends {w:World} {P:Nat} {l:List Tk} (h:PsW w P l):EndL l:=by obtain ⟨_,_,_,_,_,_,_,_,_,h,_⟩:=h; exact h
theorem PsW.lt {w:World} {P:Nat} {l:List Tk} (h:PsW w P l):P < w.heap.size:=by obtain ⟨_,_,_,_,h,_⟩:=h; exact h.lt
theorem PsW.below {w w':World} {P:Nat} {l:List Tk} (h:PsW w P l) (hb:Below w.heap.size w w'):PsW w' P l:=by
 obtain ⟨b,n,c,i,h1,h2,h3,h4,h5,h6,h7⟩:=h
 refine ⟨b,n,c,i,(hb.block P h1.lt).trans h1,h2,h3,h4,?_,h6,h7⟩
 obtain ⟨t,r,rfl⟩:=h6.cons
 have hlt:b < w.heap.size:=World.block_lt_of_cell? w _ h5.1
 exact TkAt.keep _ _ (fun o=>hb.cell (p:=⟨b,o,none⟩) hlt) _ h5

theorem PsW.keep {w w':World} {P:Nat} {l:List Tk} (h:PsW w P l) (hb:∀k,k≤P→w'.heap[k]?=w.heap[k]?):PsW w' P l:=by
 obtain ⟨b,n,c,i,h1,h2,h3,h4,h5,h6,h7⟩:=h
 refine ⟨b,n,c,i,(hb P (Nat.le_refl _)).trans h1,h2,h3,h4,?_,h6,h7⟩
 refine TkAt.keep _ _ (fun o=>?_) _ h5
 unfold World.cell?;rw [hb b (Nat.le_of_lt h7)]
theorem PsW.put {w:World} {P:Nat} {l:List Tk} (h:PsW w P l) {k:Nat} (hk:P < k) (i:Nat) (u:Value):PsW (w.setCell ⟨k,i,none⟩ u) P l:=
 h.keep fun j hj=>Below.heap_setCell w ⟨k,i,none⟩ u j (by simp only; omega)
theorem PsW.rset {w:World} {P:Nat} {l:List Tk} (h:PsW w P l) {k:Nat} (hk:P < k) (cs:Array Value):PsW (w.setRow k cs) P l:=
 h.keep fun j hj=>heap_rset_ne w k j cs (by omega)
/-! What lies elsewhere stays. -/
theorem PsW.no_string {w:World} {P:Nat} {l:List Tk} (h:PsW w P l) {o:Nat} {s:ByteArray} (hc:w.cell? ⟨P,o,none⟩=some (.string s)):False:=by
 obtain ⟨b,n,c,i,h1,-⟩:=h
 rw [h1.cell] at hc;match o with
 | 0=>simp at hc
 | 1=>simp at hc
 | o+2=>simp at hc
theorem NmRow.but {w w':World} {P:Nat} {l:List Tk} (hp:PsW w P l) {v:Value} {ns:List (List UInt8)} (h:NmRow w v ns) (hb:But P w w'):NmRow w' v ns:=
 RowW.mono h fun b o hc i hi=>(hb.cell (p:=⟨b,_,none⟩) (World.block_lt_of_cell? w _ (hc i hi)) (by rintro rfl; exact hp.no_string (hc i hi))).trans (hc i hi)
theorem FAt.but {w w':World} {P:Nat} {l:List Tk} (hp:PsW w P l) (hb:But P w w'):∀(F:Fo) (b off:Nat),FAt w F b off→FAt w' F b off:=by
 intro F;induction F with
 | nil=>intro _ _ _; exact True.intro
 | cons h k r ihk ihr=>
  intro b off hf;obtain ⟨h0,h1,h2,⟨u,h3,hn⟩,⟨v,h4,hk⟩,h5,hr⟩:=hf;have hlt:b < w.heap.size:=World.block_lt_of_cell? w _ h0;have hne:b≠P:=by rintro rfl; exact hp.no_string h1
  have key:∀o,w'.cell? ⟨b,o,none⟩=w.cell? ⟨b,o,none⟩:=fun o=>hb.cell (p:=⟨b,o,none⟩) hlt hne
  exact ⟨(key _).trans h0,(key _).trans h1,(key _).trans h2,⟨u,(key _).trans h3,hn.but hp hb⟩,⟨v,(key _).trans h4,hk.mono ihk⟩,(key _).trans h5,ihr _ _ hr⟩
theorem FRow.but {w w':World} {P:Nat} {l:List Tk} (hp:PsW w P l) {v:Value} {F:Fo} (h:FRow w v F) (hb:But P w w'):FRow w' v F:=RowW.mono h fun b o=>FAt.but hp hb F b o
def failC (p e:Nat):List PanicEntry:=[{ v:=.iface 40 (.agg #[.int .i64 (p:Nat),.int .i64 (e:Nat)]),recovered:=false }]

theorem now_any (t:Tk) (r:List Tk) (P:Nat) (w:World) (hp:PsW w P (t::r)):
  Calls Tryz.prog 33 #[.pointer (some ⟨P,0,none⟩)] w fun e w'=>e=.returned (tkV t)∧Below w.heap.size w w':=by
 obtain ⟨b,n,c,i,h1,h2,h3,h4,⟨g1,g2,g3,-⟩,-,-⟩:=hp
 have hba:=(Below.refl w.heap.size w).alloc (Nat.le_refl _) (.cells #[.int .i64 0,.string ⟨#[]⟩,.int .i64 0] 73)
 have HB:=zH (hba)
 have c0:=(hba.cell (p:=⟨P,0,none⟩) h1.lt).trans (h1.cell 0)
 have c1:=(hba.cell (p:=⟨P,1,none⟩) h1.lt).trans (h1.cell 1)
 have hlt:b < w.heap.size:=World.block_lt_of_cell? w _ g1
 have d0:=(hba.cell (p:=⟨b,i*3,none⟩) hlt).trans g1
 have d1:=(hba.cell (p:=⟨b,i*3+1,none⟩) hlt).trans g2
 have d2:=(hba.cell (p:=⟨b,i*3+2,none⟩) hlt).trans g3
 have HK:=zH (Blk.new w 73 #[.int .i64 0,.string ⟨#[]⟩,.int .i64 0])
 have hin:i < n:=by simp at h2; omega
 have hin2:(i:Int) < (n:Int):=by omega
 simp only [List.getElem?_toArray,List.getElem?_cons_zero,List.getElem?_cons_succ] at c0 c1;clear h1 h2 g1 g2 g3 hba hlt;go_enter Tryz.func33,Tryz.ntmps33;go_upto_region 1 with fail
 generalize w.alloc (.cells #[.int .i64 0,.string ⟨#[]⟩,.int .i64 0] 73)=wz at*;generalize hKB:w.heap.size=KB at*;have y0:wz.cell? ⟨KB,0,none⟩=some (.int .i64 0):=HK.out.cell 0;have y1:wz.cell? ⟨KB,1,none⟩=some (.string ⟨#[]⟩):=HK.out.cell 1;have y2:wz.cell? ⟨KB,2,none⟩=some (.int .i64 0):=HK.out.cell 2;have f0:wz.frozen? ⟨KB,0,none⟩=false:=HK.out.frozen 0
 have f1:wz.frozen? ⟨KB,1,none⟩=false:=HK.out.frozen 1
 have f2:wz.frozen? ⟨KB,2,none⟩=false:=HK.out.frozen 2
 go_still_tail 10,(by kernel_rfl)
 go_wp2_with fail;refine bodyPost_ret (results_cell_row rfl _ _ KB 73 _ (0,0) _ rfl (((HK.out.put 0 _).put 1 _).put 2 _) Tryz.underlying73 rfl (by kernel_rfl)) rfl ⟨rfl,?_⟩
 have hb:=below_put (below_put (below_put HB.out (p:=⟨KB,0,none⟩) (Nat.le_refl _) (.int .i64 t.kind)) (p:=⟨KB,1,none⟩) (Nat.le_refl _) (.string ⟨t.text.toArray⟩)) (p:=⟨KB,2,none⟩) (Nat.le_refl _) (.int .i64 t.at_)
 rw [hKB];exact below_drewS hb 1

theorem tk_f0 (k a:Nat) (s:ByteArray) (w:World):(Instr.field 73 (.agg #[.int .i64 k,.string s,.int .i64 a]) 0).run Tryz.prog w=.ok (.int .i64 k) w:=by kernel_rfl
theorem tk_f1 (k a:Nat) (s:ByteArray) (w:World):(Instr.field 73 (.agg #[.int .i64 k,.string s,.int .i64 a]) 1).run Tryz.prog w=.ok (.string s) w:=by kernel_rfl
theorem tk_f2 (k a:Nat) (s:ByteArray) (w:World):(Instr.field 73 (.agg #[.int .i64 k,.string s,.int .i64 a]) 2).run Tryz.prog w=.ok (.int .i64 a) w:=by kernel_rfl
def IsFail (P:Nat) (p:Nat×Nat) (e:Ending) (w w':World):Prop:=e=.panicked (failC p.1 p.2)∧But P w w'
theorem fail_any (x:Nat) (t:Tk) (r:List Tk) (P:Nat) (w:World) (hp:PsW w P (t::r)):
  Calls Tryz.prog 51 #[.pointer (some ⟨P,0,none⟩),.int .i64 (x:Nat)] w fun e w'=>IsFail P (t.at_,x) e w w':=by
 have HN:=zH (now_any t r P w hp)
 have hlt:=zH hp.lt
 clear hp;unfold tkV at HN;have hf2:=tk_f2 t.kind t.at_ ⟨t.text.toArray⟩;go_enter Tryz.func51,Tryz.ntmps51;go_wp2_with fail;refine HN.out.mono ?_;rintro e w1 ⟨rfl,hb⟩;have HB:=zH hb;clear hb;go_wp2_with fail;exact ⟨rfl,rfl,But.of_below HB.out⟩

theorem index_any (l:List (List UInt8)) (v:Value) (s:ByteArray) (w:World) (hr:NmRow w v l):
  Calls Tryz.prog 119 #[v,.string s] w fun e w'=>∃n:Int,e=.returned (.int .i64 n)∧decide (0≤n)=l.any (fun x=>s.data.toList==x)∧w=w':=by
 obtain ⟨x,c,rfl,hl,hc,-⟩:=id hr
 have HR:=zH hr
 unfold maxLen at hc;clear hr;obtain ⟨n,hn⟩:∃n,l.length=n:=⟨_,rfl⟩;rw [hn] at HR hl ⊢;have HN:=zH hn;clear hn;obtain ⟨S,hS⟩:∃S,s.data.toList=S:=⟨_,rfl⟩;rw [hS];have HS:=zH hS;clear hS;go_enter Tryz.func119,Tryz.ntmps119;go_wp2_with fail;go_loop [8] (fun vi=>∃(i:Nat),vi=.int .i64 i∧i≤n∧Hid ((l.take i).any (fun x=>S==x)=false)) (fun vi=>n - (intOf vi).toNat)
 case atStart=>exact ⟨0,rfl,Nat.zero_le _,rfl⟩
 case round=>
  obtain ⟨i,rfl,hi,hch⟩:=hrel
  by_cases hlt:i < n
  ·have dlt:decide ((i:Int) < (n:Int))=true:=by simp; omega
   have i1:(i:Int) < (n:Int):=by omega
   have hil:i < l.length:=by rw [HN.out]; exact hlt
   obtain ⟨x',c',hv,-,-,-,hcl⟩:=HR.out
   injection hv with v1 v2 v3
   subst v1 v3;clear v2;obtain ⟨b1,o1,rfl,hp⟩:=hcl (by omega)
   have q1:=hp i hil
   obtain ⟨y,hy⟩:∃y,l[i]=y:=⟨_,rfl⟩
   rw [hy] at q1;obtain ⟨e,he⟩:∃e,(S==y)=e:=⟨_,rfl⟩;have heq:(s.toList==y)=e:=by rw [ByteArray.toList_eq,HS.out]; exact he
   have HT:Hid (((l.take (i+1)).any fun x=>S==x)=e):=by show _=_; rw [List.take_succ_eq_append_getElem hil,List.any_append,hch.out,hy]; simp [he]
   have HF:Hid (e=true→(l.any fun x=>S==x)=true):=by
    intro h1;exact List.any_eq_true.2 ⟨y,by rw [← hy]; exact List.getElem_mem hil,by rw [he,h1]⟩
   clear hy he hp hcl hil
   cases e with
   | true=>
    have HZ:=zH (HF.out rfl)
    go_wp2_with fail;go_ret;exact ⟨_,rfl,by rw [HZ.out]; simp,rfl⟩
   | false=>
    go_wp2_with fail;go_round
    case rel=>exact ⟨i+1,by go_num,by omega,HT⟩
    case measure=>simp [intOf]; omega
  ·have dlt:decide ((i:Int) < (n:Int))=false:=by simp; omega
   have HZ:Hid ((l.any fun x=>S==x)=false):=by
    have h1:=hch.out
    rwa [List.take_of_length_le (by rw [HN.out]; omega)] at h1
   go_wp2_with fail;go_ret;exact ⟨_,rfl,by rw [HZ.out]; rfl,rfl⟩
theorem contains_any (l:List (List UInt8)) (v:Value) (s:ByteArray) (w:World) (hr:NmRow w v l):
  Calls Tryz.prog 99 #[v,.string s] w fun e w'=>e=.returned (.bool (l.any (fun x=>s.data.toList==x)))∧w=w':=by
 have HI:=zH (index_any l v s w hr)
 clear hr;obtain ⟨q,hq⟩:∃q,l.any (fun x=>s.data.toList==x)=q:=⟨_,rfl⟩
 rw [hq] at HI ⊢;clear hq;go_enter Tryz.func99,Tryz.ntmps99;go_wp2_with fail;refine HI.out.mono ?_;rintro e w1 ⟨n,rfl,hn,rfl⟩;go_wp2_with fail;go_ret;exact ⟨rfl,rfl⟩
open Go.RowKit

theorem pu_numR:∀(u:List UInt8) (v n:Nat),v≤4611686018427387904→numR v u=some n→
  Lib.parseUint10 v (u.take n)=.ok ((u.take n).foldl (fun n c=>10*n+(c.toNat - 48)) v)∧(u.take n).foldl (fun n c=>10*n+(c.toNat - 48)) v≤4611686018427387904:=by
 intro u;induction u with
 | nil=>intro v n hv h; simp [Lib.parseUint10]; exact hv
 | cons c t ih=>
  intro v n hv h;unfold numR at h;by_cases hd:dig c
  ·simp only [hd,if_true] at h
   split at h
   ·cases h
   ·rename_i hle
    obtain ⟨m,hm,rfl⟩:=Option.map_eq_some_iff.1 h
    obtain ⟨h1,h2⟩:=ih (10*v+(c.toNat - 48)) m (by omega) hm
    simp only [dig,Bool.and_eq_true,decide_eq_true_eq] at hd;refine ⟨?_,by simpa using h2⟩
    rw [List.take_succ_cons,Lib.parseUint10,if_pos hd,if_neg (by omega),if_neg (by omega),List.foldl_cons]
    rw [show v*10+(c.toNat - 48)=10*v+(c.toNat - 48) from by omega]
    exact h1
  ·simp only [hd] at h
   have:n=0:=by simpa using h.symm
   subst this;simp [Lib.parseUint10]; exact hv
theorem atoi_num {c:UInt8} {t:List UInt8} {n:Nat} (hd:dig c=true) (h:numR 0 (c::t)=some n):Lib.atoiAll ((c::t).take n)=.ok (numV ((c::t).take n)):=by
 obtain ⟨h1,h2⟩:=pu_numR (c::t) 0 n (by decide) h
 obtain ⟨m,rfl⟩:∃m,n=m+1:=by
  unfold numR at h;simp only [hd,if_true] at h;split at h
  ·cases h
  ·obtain ⟨m,-,rfl⟩:=Option.map_eq_some_iff.1 h
   exact ⟨m,rfl⟩
 rw [List.take_succ_cons] at h1 h2 ⊢;simp only [dig,Bool.and_eq_true,decide_eq_true_eq] at hd;unfold Lib.atoiAll;simp only;rw [if_neg (by omega)]
 unfold Lib.parseMag;rw [if_neg (by simp),h1]
 simp only;rw [if_neg (by omega),if_neg (by omega),if_neg (by omega)]
 rfl
theorem tokP_num {l:List UInt8} {p q:Nat} {t:Tk} (hl:l.length≤16384) (h:tokP l p=.ok (t,q)):t.kind≠0∧NumT t:=by
 unfold tokP at h;split at h
 ·cases h
 ·rename_i c u hu
  have hlu:(c::u).length≤16384:=by rw [← hu]; simp; omega
  split at h
  ·rename_i hd
   unfold numT at h;split at h
   ·cases h
   ·rename_i n hn
    split at h
    ·cases h
    ·cases h
     exact ⟨by simp,fun _=>⟨atoi_num hd hn,by simp at hlu ⊢; omega⟩⟩
  ·split at h
   ·unfold nameT at h
    split at h
    ·cases h
    ·cases h
     refine ⟨?_,fun hk=>?_⟩
     ·simp only; split <;> simp
     ·exfalso; revert hk; simp only; split <;> simp
   ·split at h
    ·unfold quoT at h
     split at h
     ·cases h
     ·split at h
      ·cases h
      ·cases h
       exact ⟨by simp,fun hk=>by simp at hk⟩
    ·unfold opT at h
     split at h
     ·cases h
     ·cases h
      exact ⟨by simp,fun hk=>by simp at hk⟩
theorem EndL.more {t:Tk} {r:List Tk} (h:EndL r) (ht:t.kind≠0) (hn:NumT t):EndL (t::r):=by
 obtain ⟨u,s,rfl⟩:=h.cons
 exact ⟨ht,hn,h⟩
theorem toksGo_endL {l:List UInt8} (hl:l.length≤16384):∀(f n p:Nat) (r:List Tk),toksGo l f n p=.ok r→EndL r∧n+r.length≤4096:=by
 intro f;induction f with
 | zero=>intro n p r h; cases h
 | succ f ih=>
  intro n p r h;unfold toksGo at h;split at h
  ·cases h
  ·split at h
   ·cases h; exact ⟨rfl,by simp; omega⟩
   ·split at h
    ·cases h
    ·rename_i t q ht
     split at h
     ·cases h
     ·rename_i r' hr
      cases h
      obtain ⟨h1,h2⟩:=ih _ _ _ hr
      obtain ⟨k1,k2⟩:=tokP_num hl ht
      exact ⟨h1.more k1 k2,by simp; omega⟩
theorem toksP_end {l:List UInt8} {r:List Tk} (h:toksP l=.ok r):EndL r∧r.length≤4096:=by
 unfold toksP at h;split at h
 ·cases h
 ·obtain ⟨h1,h2⟩:=toksGo_endL (by omega) _ _ _ _ h
  exact ⟨h1,by omega⟩
theorem tokP_err {l:List UInt8} {p e:Nat} (h:tokP l p=.error e):e≠0:=by
 unfold tokP at h;split at h
 ·cases h; decide
 ·split at h
  ·unfold numT at h
   split at h
   ·cases h; decide
   ·split at h
    ·cases h; decide
    ·cases h
  ·split at h
   ·unfold nameT at h
    split at h
    ·cases h; decide
    ·cases h
   ·split at h
    ·unfold quoT at h
     split at h
     ·cases h; decide
     ·split at h
      ·cases h; decide
      ·cases h
    ·unfold opT at h
     split at h
     ·cases h; decide
     ·cases h
theorem toksGo_errK {l:List UInt8}:∀(f n p:Nat) (x:Nat×Nat),toksGo l f n p=.error x→x.2≠0:=by
 intro f;induction f with
 | zero=>intro n p x h; cases h; simp
 | succ f ih=>
  intro n p x h;unfold toksGo at h;split at h
  ·cases h; simp
  ·split at h
   ·cases h
   ·split at h
    ·rename_i e he
     cases h
     exact tokP_err he
    ·split at h
     ·rename_i y hy
      cases h
      exact ih _ _ _ hy
     ·cases h
theorem toksP_err {l:List UInt8} {x:Nat×Nat} (h:toksP l=.error x):x.2≠0:=by
 unfold toksP at h;split at h
 ·cases h; simp
 ·exact toksGo_errK _ _ _ _ h
theorem tkat_of {w:World} {g:Nat}:∀(l:List Tk) (off:Nat),(∀j u,(tcells l)[j]?=some u→w.cell? ⟨g,off+j,none⟩=some u)→TkAt w l g off:=by
 intro l;induction l with
 | nil=>intro off _; trivial
 | cons t r ih=>
  intro off h;refine ⟨h 0 _ rfl,h 1 _ rfl,h 2 _ rfl,ih (off+3) fun j u hu=>?_⟩
  have:=h (3+j) u (by show (tcell t++tcells r)[3+j]?=some u; rw [List.getElem?_append_right (by simp [tcell])]; simpa [tcell] using hu)
  rwa [show off+3+j=off+(3+j) from by omega]
theorem trow_at {w:World} {B:Nat} {v:Value} {l:List Tk} (h:TRow w B v l) (hl:l≠[]):∃g c,v=.slice (some ⟨g,0,none⟩) l.length c∧l.length≤c∧B≤g∧g < w.heap.size∧TkAt w l g 0:=by
 have hpos:0 < l.length:=List.length_pos_iff.2 hl
 rcases (show w.ownsRow B 73 3 v l.length (tcells l) from h).2 with ⟨_,h0⟩ | ⟨g,cap,cur,rfl,hb,hg,hle,hm,-,-⟩
 ·omega
 have hlt:g < w.heap.size:=by
  rcases Nat.lt_or_ge g w.heap.size with hlt | hge
  ·exact hlt
  ·rw [Array.getElem?_eq_none hge] at hg; cases hg
 have hc:=World.ownsRow.cells h (g:=g) rfl
 refine ⟨g,cap,rfl,hle,hb,hlt,tkat_of _ _ fun j u hu=>?_⟩
 have h1:=hc j u hu
 have h2:((⟨g,0,none⟩:Addr).add j)=⟨g,0+j,none⟩:=by
  cases j with
  | zero=>simp [Addr.add]
  | succ j=>simp [Addr.add]
 rwa [h2] at h1

def Hd.wt (h:Hd):Nat:=1+h.text.length+(h.names.map fun n=>1+n.length).sum
def Fo.wt:Fo→Nat
 | .nil=>0
 | .cons h k r=>h.wt+k.wt+r.wt
theorem Fo.wt_app (a b:Fo):(a.app b).wt=a.wt+b.wt:=by
 induction a with
 | nil=>simp [Fo.app,Fo.wt]
 | cons h k r _ ih=>simp only [Fo.app,Fo.wt,ih]; omega
def Nd.wt (x:Nd):Nat:=x.1.wt+x.2.wt
theorem Nd.wt_one (x:Nd):x.one.wt=x.wt:=by simp [Nd.one,Fo.wt,Nd.wt]
def tw (l:List Tk):Nat:=(l.map fun t=>1+t.text.length).sum
theorem tw_cons (t:Tk) (r:List Tk):tw (t::r)=1+t.text.length+tw r:=by simp [tw]
def TkOk (t:Tk):Prop:=(t.kind=1→numV t.text≤4611686018427387904)∧(t.kind=2→litOk t.text=true)∧(t.kind=3→isNameP t.text=true)
def Good {α:Type} (Q:α→Prop) (m:α→Nat) (c:Nat) (l0:List Tk) (r:Except (Nat×Nat) (α×List Tk)):Prop:=
 match r with
 | .error x=>(x.2=12∨x.2=18)∧(x.1=0∨∃t∈l0,x.1=t.at_)
 | .ok (a,l')=>Q a∧m a+tw l'≤c+tw l0∧∀t∈l',t∈l0
theorem good_then {α β:Type} {Q1:α→Prop} {m1:α→Nat} {c1:Nat} {l1 l0:List Tk} {Q:β→Prop} {m:β→Nat} {c:Nat} {r:Except (Nat×Nat) (α×List Tk)} {f:α→Pa β} (hr:Good Q1 m1 c1 l1 r) (hs:∀t∈l1,t∈l0)
  (hf:∀a l',Q1 a→m1 a+tw l'≤c1+tw l1→(∀t∈l',t∈l0)→Good Q m c l0 (f a l')):Good Q m c l0 (thenT r f):=by
 cases r with
 | error x=>
  refine ⟨hr.1,hr.2.imp id ?_⟩
  rintro ⟨t,ht,he⟩;exact ⟨t,hs t ht,he⟩
 | ok y=>
  obtain ⟨a,l'⟩:=y
  exact hf a l' hr.1 hr.2.1 fun t ht=>hs t (hr.2.2 t ht)
theorem good_ok {α:Type} {Q:α→Prop} {m:α→Nat} {c:Nat} {l0 l:List Tk} {a:α} (hq:Q a) (hm:m a+tw l≤c+tw l0) (hs:∀t∈l,t∈l0):Good Q m c l0 (.ok (a,l)):=⟨hq,hm,hs⟩
theorem good_fail {α:Type} {Q:α→Prop} {m:α→Nat} {c:Nat} {l0 l:List Tk} (e:Nat) (he:e=12∨e=18) (hs:∀t∈l,t∈l0):Good Q m c l0 (failT (α:=α×List Tk) e l):=by
 cases l with
 | nil=>exact ⟨he,Or.inl rfl⟩
 | cons t r=>exact ⟨he,Or.inr ⟨t,hs t (List.mem_cons_self ..),rfl⟩⟩
theorem good_err {α:Type} {Q:α→Prop} {m:α→Nat} {c:Nat} {l0:List Tk}:Good (α:=α) Q m c l0 (.error (0,18)):=⟨Or.inr rfl,Or.inl rfl⟩
theorem good_at {α:Type} {Q:α→Prop} {m:α→Nat} {c:Nat} {l0:List Tk} {t:Tk} (ht:t∈l0):Good (α:=α) Q m c l0 (.error (t.at_,18)):=⟨Or.inr rfl,Or.inr ⟨t,ht,rfl⟩⟩
theorem sub_tail {t:Tk} {r l0:List Tk} (h:∀u∈t::r,u∈l0):∀u∈r,u∈l0:=fun u hu=>h u (List.mem_cons_of_mem _ hu)

def AOk (l:List Tk):Prop:=∀t∈l,TkOk t
theorem AOk.tail {t:Tk} {r:List Tk} (h:AOk (t::r)):AOk r:=fun u hu=>h u (List.mem_cons_of_mem _ hu)
theorem exp_good (s:List UInt8) (l:List Tk):Good (fun t:Tk=>t∈l∧t.text=s) (fun t=>1+t.text.length) 0 l (expT s l):=by
 unfold expT
 cases l with
 | nil=>exact good_err
 | cons t r=>
  simp only;split
  ·rename_i h
   refine good_ok ⟨List.mem_cons_self ..,?_⟩ (by rw [tw_cons]; omega) (sub_tail fun _ h=>h)
   simp only [isT,Bool.and_eq_true,decide_eq_true_eq] at h;exact h.2
  ·exact good_at (List.mem_cons_self ..)
theorem nam_good (l:List Tk) (ha:AOk l):Good (fun n:List UInt8=>isNameP n=true) (fun n=>1+n.length) 0 l (namT l):=by
 unfold namT
 cases l with
 | nil=>exact good_err
 | cons t r=>
  simp only;split
  ·rename_i h
   exact good_ok ((ha t (List.mem_cons_self ..)).2.2 h) (by rw [tw_cons]; omega) (sub_tail fun _ h=>h)
  ·exact good_at (List.mem_cons_self ..)
abbrev exQ (x:Nd):Prop:=exN x.1 x.2=true
abbrev stQ (x:Nd):Prop:=stN x.1 x.2=true
def GEx (op:Pa Nd):Prop:=∀l,AOk l→Good exQ Nd.wt 0 l (op l)
def GSt (op:Pa Nd):Prop:=∀l,AOk l→Good stQ Nd.wt 0 l (op l)
theorem wt_two (h:Hd) (x y:Nd):(Nd.wt (h,x.one.app y.one))=h.wt+x.wt+y.wt:=by
 simp only [Nd.wt,Fo.wt_app];have h1:=Nd.wt_one x;have h2:=Nd.wt_one y;simp only [Nd.wt] at h1 h2;omega
theorem exN_bin {t:List UInt8} {s:Nat} (hs:stren t=s) (h0:s≠0) {x y:Nd} (hx:exQ x) (hy:exQ y) (p:Nat):exQ (hdT 6 t 0 p,x.one.app y.one):=by
 have h1:rt .ex (x.one.app y.one)=true:=by
  rw [rt_ex,allG_app];simp only [Nd.one,allG,Bool.and_true,Bool.and_eq_true];exact ⟨hx,hy⟩
 show exN _ _=true
 unfold exN;rw [h1,Bool.and_true];show exH (hdT 6 t 0 p) 2=true
 unfold exH hdT;simp;omega
theorem binL_good {nx:Pa Nd} (hn:GEx nx) (s:Nat) (h0:s≠0):∀(n:Nat) (x:Nd) (l:List Tk),exQ x→AOk l→Good exQ Nd.wt x.wt l (binL nx s n x l):=by
 intro n;induction n with
 | zero=>intro x l hx _; exact good_ok hx (Nat.le_refl _) fun _ h=>h
 | succ n ih=>
  intro x l hx ha
  cases l with
  | nil=>exact good_ok hx (Nat.le_refl _) fun _ h=>h
  | cons t r=>
   simp only [binL];split
   ·rename_i h
    have hr:AOk r:=ha.tail
    refine good_then (hn r hr) (sub_tail fun _ h=>h) fun y l2 hy hm hs=>?_
    have hb:=exN_bin h.2 h0 hx hy t.at_
    have hw:(Nd.wt (hdT 6 t.text 0 t.at_,x.one.app y.one))=1+t.text.length+x.wt+y.wt:=by
     rw [wt_two];simp [Hd.wt,hdT]
    have htw:=tw_cons t r
    split
    ·exact good_ok hb (by rw [hw]; omega) hs
    ·have h3:=ih _ l2 hb (fun u hu=>ha u (hs u hu))
     generalize binL nx s n (hdT 6 t.text 0 t.at_,x.one.app y.one) l2=q at h3
     cases q with
     | error z=>exact ⟨h3.1,h3.2.imp id fun ⟨u,hu,he⟩=>⟨u,hs u hu,he⟩⟩
     | ok z=>exact ⟨h3.1,by have h4:=h3.2.1; rw [hw] at h4; omega,fun u hu=>hs u (h3.2.2 u hu)⟩
   ·exact good_ok hx (Nat.le_refl _) fun _ h=>h
theorem binP_good {op:Pa Nd} (hop:GEx op):∀k,k≤5→GEx (binP op k):=by
 intro k;induction k with
 | zero=>intro _; exact hop
 | succ k ih=>
  intro hk l ha;simp only [binP];refine good_then (ih (by omega) l ha) (fun _ h=>h) fun x l2 hx hm hs=>?_
  have h3:=binL_good (ih (by omega)) (5 - k) (by omega) l2.length x l2 hx (fun u hu=>ha u (hs u hu))
  generalize binL (binP op k) (5 - k) l2.length x l2=q at h3
  cases q with
  | error z=>exact ⟨h3.1,h3.2.imp id fun ⟨u,hu,he⟩=>⟨u,hs u hu,he⟩⟩
  | ok z=>exact ⟨h3.1,by have h4:=h3.2.1; omega,fun u hu=>hs u (h3.2.2 u hu)⟩
theorem good_from {α:Type} {Q:α→Prop} {m:α→Nat} {c c':Nat} {l l0:List Tk} {r:Except (Nat×Nat) (α×List Tk)} (h:Good Q m c l r) (hs:∀u∈l,u∈l0) (hc:c+tw l≤c'+tw l0):Good Q m c' l0 r:=by
 cases r with
 | error z=>exact ⟨h.1,h.2.imp id fun ⟨u,hu,he⟩=>⟨u,hs u hu,he⟩⟩
 | ok z=>exact ⟨h.1,by have h4:=h.2.1; omega,fun u hu=>hs u (h.2.2 u hu)⟩
theorem exN_idx {x y:Nd} (hx:exQ x) (hy:exQ y) (p:Nat):exQ (hdT 8 [] 0 p,x.one.app y.one):=by
 have h1:rt .ex (x.one.app y.one)=true:=by
  rw [rt_ex,allG_app];simp only [Nd.one,allG,Bool.and_true,Bool.and_eq_true];exact ⟨hx,hy⟩
 show exN _ _=true
 unfold exN;rw [h1,Bool.and_true];show exH (hdT 8 [] 0 p) 2=true
 unfold exH hdT;simp
theorem idxL_good {ex:Pa Nd} (hex:GEx ex):∀(n:Nat) (x:Nd) (l:List Tk),exQ x→AOk l→Good exQ Nd.wt x.wt l (idxL ex n x l):=by
 intro n;induction n with
 | zero=>intro x l hx _; exact good_ok hx (Nat.le_refl _) fun _ h=>h
 | succ n ih=>
  intro x l hx ha
  cases l with
  | nil=>exact good_ok hx (Nat.le_refl _) fun _ h=>h
  | cons t r=>
   simp only [idxL];split
   ·have hr:AOk r:=ha.tail
    have htw:=tw_cons t r
    refine good_then (hex r hr) (sub_tail fun _ h=>h) fun y l2 hy hm hs=>?_
    refine good_then (exp_good _ l2) hs fun u l3 _ hm3 hs3=>?_
    have hb:=exN_idx hx hy t.at_
    refine good_from (ih _ l3 hb fun u hu=>ha u (hs3 u hu)) hs3 ?_
    rw [wt_two];simp only [Hd.wt,hdT,List.map_nil,List.sum_nil,List.length_nil];omega
   ·exact good_ok hx (Nat.le_refl _) fun _ h=>h
theorem rt_snoc {F:Fo} {x:Nd} (hF:rt .ex F=true) (hx:exQ x):rt .ex (F.app x.one)=true:=by
 rw [rt_ex] at hF ⊢;rw [allG_app,hF];simp only [Nd.one,allG,Bool.and_true,Bool.true_and];exact hx
theorem rt_snocS {F:Fo} {x:Nd} (hF:rt .st F=true) (hx:stQ x):rt .st (F.app x.one)=true:=by
 rw [rt_st] at hF ⊢;rw [allG_app,hF];simp only [Nd.one,allG,Bool.and_true,Bool.true_and];exact hx
theorem isT_cons {s:List UInt8} {l:List Tk} (h:isT s l=true):∃t r,l=t::r∧t.text=s:=by
 cases l with
 | nil=>cases h
 | cons t r=>
  simp only [isT,Bool.and_eq_true,decide_eq_true_eq] at h;exact ⟨t,r,rfl,h.2⟩
theorem lisL_good {ex:Pa Nd} (hex:GEx ex) (ends:List UInt8):∀(n:Nat) (acc:Fo) (l:List Tk),rt .ex acc=true→AOk l→Good (fun F:Fo=>rt .ex F=true) Fo.wt acc.wt l (lisL ex ends n acc l):=by
 intro n;induction n with
 | zero=>intro acc l _ _; exact good_fail 18 (Or.inr rfl) fun _ h=>h
 | succ n ih=>
  intro acc l hacc ha;simp only [lisL];split
  ·rename_i h
   obtain ⟨t,r,rfl,-⟩:=isT_cons h
   have htw:=tw_cons t r
   exact good_ok hacc (by simp only [List.tail_cons]; omega) (sub_tail fun _ h=>h)
  ·have hc:Good (fun _:Unit=>True) (fun _=>0) 0 l (if acc.len=0 then .ok ((),l) else thenT (expT (bytes [44]) l) fun _ l2=>.ok ((),l2)):=by
    split
    ·exact good_ok trivial (by omega) fun _ h=>h
    ·refine good_then (exp_good _ l) (fun _ h=>h) fun u l2 _ hm hs=>good_ok trivial (by omega) hs
   refine good_then hc (fun _ h=>h) fun u l2 _ hm hs=>?_
   refine good_then (hex l2 fun u hu=>ha u (hs u hu)) hs fun x l3 hx hm3 hs3=>?_
   refine good_from (ih _ l3 (rt_snoc hacc hx) fun u hu=>ha u (hs3 u hu)) hs3 ?_
   rw [Fo.wt_app,Nd.wt_one];omega
theorem ex_leaf {h:Hd} (hh:exH h 0=true):exQ (h,.nil):=by
 show exN _ _=true
 unfold exN;simp [rt,Fo.len,hh]
theorem numV_nn (t:List UInt8):0≤numV t:=by unfold numV; omega
theorem priP_good {ex:Pa Nd} (hex:GEx ex):GEx (priP ex):=by
 intro l ha
 cases l with
 | nil=>exact good_err
 | cons t r=>
  have hr:AOk r:=ha.tail
  have htw:=tw_cons t r
  have ht:=ha t (List.mem_cons_self ..)
  have hsr:∀u∈r,u∈t::r:=sub_tail fun _ h=>h
  simp only [priP];split
  ·rename_i h
   refine good_ok (ex_leaf ?_) (by simp [Nd.wt,Hd.wt,hdT,Fo.wt]; omega) hsr
   have h1:=ht.1 h
   have h2:=numV_nn t.text
   unfold exH hdT;simp [h1,h2]
  split
  ·rename_i h
   refine good_ok (ex_leaf ?_) (by simp [Nd.wt,Hd.wt,hdT,Fo.wt]; omega) hsr
   have h1:=ht.2.1 h
   simp [exH,hdT,h1]
  split
  ·rename_i h
   have h1:=ht.2.2 h
   split
   ·rename_i hp
    obtain ⟨u,r2,rfl,-⟩:=isT_cons hp
    have htw2:=tw_cons u r2
    have hs2:∀v∈r2,v∈t::u::r2:=fun v hv=>List.mem_cons_of_mem _ (List.mem_cons_of_mem _ hv)
    refine good_then (lisL_good hex _ _ .nil r2 rfl fun v hv=>ha v (hs2 v hv)) hs2 fun k l2 hk hm hs=>?_
    refine good_ok ?_ (by simp only [Nd.wt,Hd.wt,hdT,List.map_nil,List.sum_nil]; simp only [Fo.wt] at hm; omega) hs
    show exN _ _=true
    unfold exN exH hdT;simp [h1,hk]
   ·refine good_ok (ex_leaf ?_) (by simp [Nd.wt,Hd.wt,hdT,Fo.wt]; omega) hsr
    simp [exH,hdT,h1]
  split
  ·refine good_ok (ex_leaf ?_) (by simp [Nd.wt,Hd.wt,hdT,Fo.wt]; omega) hsr
   simp [exH,hdT]
  split
  ·refine good_ok (ex_leaf ?_) (by simp [Nd.wt,Hd.wt,hdT,Fo.wt]; omega) hsr
   simp [exH,hdT]
  split
  ·refine good_then (lisL_good hex _ _ .nil r rfl hr) hsr fun k l2 hk hm hs=>?_
   refine good_ok ?_ (by simp only [Nd.wt,Hd.wt,hdT,List.map_nil,List.sum_nil,List.length_nil]; simp only [Fo.wt] at hm; omega) hs
   show exN _ _=true
   unfold exN exH hdT;simp [hk]
  ·refine good_then (exp_good _ (t::r)) (fun _ h=>h) fun u l2 _ hm hs=>?_
   refine good_then (hex l2 fun v hv=>ha v (hs v hv)) hs fun x l3 hx hm3 hs3=>?_
   refine good_then (exp_good _ l3) hs3 fun v l4 _ hm4 hs4=>?_
   exact good_ok hx (by omega) hs4
theorem opdP_good:∀d,GEx (opdP d):=by
 intro d;induction d with
 | zero=>intro l _; exact good_fail 12 (Or.inl rfl) fun _ h=>h
 | succ d ih=>
  intro l ha
  cases l with
  | nil=>exact good_err
  | cons t r=>
   have hr:AOk r:=ha.tail
   have htw:=tw_cons t r
   simp only [opdP];split
   ·rename_i h
    refine good_then (ih r hr) (sub_tail fun _ h=>h) fun x l2 hx hm hs=>?_
    refine good_ok ?_ (by have h1:=Nd.wt_one x; simp only [Nd.wt,Hd.wt,hdT,List.map_nil,List.sum_nil] at h1 hm ⊢; omega) hs
    have h1:rt .ex x.one=true:=by
     rw [rt_ex];simp only [Nd.one,allG,Bool.and_true];exact hx
    have h2:t.text=bytes [45]∨t.text=bytes [33]:=by
     simp only [isT,Bool.or_eq_true,Bool.and_eq_true,decide_eq_true_eq] at h;exact h.imp (fun h=>h.2) (fun h=>h.2)
    show exN _ _=true
    unfold exN;rw [h1,Bool.and_true];show exH (hdT 5 t.text 0 t.at_) 1=true
    unfold exH hdT;simp [h2]
   ·refine good_then (priP_good (binP_good ih 5 (Nat.le_refl _)) (t::r) ha) (fun _ h=>h) fun x l2 hx hm hs=>?_
    exact good_from (idxL_good (binP_good ih 5 (Nat.le_refl _)) _ x l2 hx fun u hu=>ha u (hs u hu)) hs (by omega)
theorem expP_good (d:Nat):GEx (expP d):=binP_good (opdP_good d) 5 (Nat.le_refl _)
end Go.Proofs.YtbaidkefobhipaaGreatDoor
