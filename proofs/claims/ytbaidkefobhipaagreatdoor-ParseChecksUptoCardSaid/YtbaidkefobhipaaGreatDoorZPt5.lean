/-
  Walks: the printer's statements, block, assignment and branch. (Printed by gen_pt5.py.)
-/
import Derived.Test.YtbaidkefobhipaaGreatDoorZPt4
namespace Go.Proofs.YtbaidkefobhipaaGreatDoor
set_option maxHeartbeats 8000000
set_option maxRecDepth 100000
open Go.RowKit

theorem Cut.app {a b:List UInt8} (h:Cut a b) (t:List UInt8):Cut (a++t) (b++t):=h.step (Cut.refl _)
def PrCut (B P:Nat) (l T:List UInt8) (w:World) (e:Ending) (w':World):Prop:=e=.returned (.tuple #[])∧∃l',Cut l' (l++T)∧Prt B P l' w'∧Fr B PT w w'
def PsOk (w0:World) (P N:Nat):Prop:=∀(h:Hd) (k:Fo) (d:Nat) (xn xk:Option Addr) (cn ck:Nat) (w:World) (l:List UInt8),k.size < N→stN h k=true→NmRow w0 (.slice xn h.names.length cn) h.names→FRow w0 (.slice xk k.len ck) k→
 Below w0.heap.size w0 w→Prt w0.heap.size P l w→l.length+(stOne h (ntT k) d).length≤Mw→
 Calls Tryz.prog 46 #[.pointer (some ⟨P,0,none⟩),.agg (ndV h (.slice xn h.names.length cn) (.slice xk k.len ck)),.int .i64 (d:Nat)] w (PrCut w0.heap.size P l (stOne h (ntT k) d) w)
def PlOk (w0:World) (P N:Nat):Prop:=∀(F:Fo) (xv:Value) (d:Nat) (w:World) (l:List UInt8),F.size < N→rt .st F=true→FRow w0 xv F→Below w0.heap.size w0 w→Prt w0.heap.size P l w→d≤Mw→l.length+(lnT (ntT F) d).length≤Mw→
 Calls Tryz.prog 29 #[.pointer (some ⟨P,0,none⟩),xv,.int .i64 (d:Nat)] w (PrCut w0.heap.size P l (lnT (ntT F) d) w)
def blkT (k:Fo) (d:Nat):List UInt8:=[123,10]++lnT (ntT k) (d+1)++ind d++[125]
def PkOk (w0:World) (P N:Nat):Prop:=∀(h:Hd) (k:Fo) (d:Nat) (xn xk:Option Addr) (cn ck:Nat) (w:World) (l:List UInt8),k.size < N→rt .st k=true→FRow w0 (.slice xk k.len ck) k→
 Below w0.heap.size w0 w→Prt w0.heap.size P l w→l.length+(blkT k d).length≤Mw→
 Calls Tryz.prog 91 #[.pointer (some ⟨P,0,none⟩),.agg (ndV h (.slice xn h.names.length cn) (.slice xk k.len ck)),.int .i64 (d:Nat)] w (PrCut w0.heap.size P l (blkT k d) w)
theorem lnT_app (a b:List Nt) (d:Nat):lnT (a++b) d=lnT a d++lnT b d:=by simp [lnT]
theorem lnT_one (k:Nt) (d:Nat):lnT [k] d=ind d++k.st d++[10]:=by simp [lnT]

theorem sts_step (w0:World) (P N:Nat) (hx:PsOk w0 P N):PlOk w0 P (N+1):=by
 intro F xv d w l hN hrt hxr hbw hp hd hln;obtain ⟨x,ca,rfl,hl,hcc,-⟩:=id hxr;obtain ⟨B,hB⟩:∃B,w0.heap.size=B:=⟨_,rfl⟩;have HB:=zH hB;have HX:=zH hx;have HN:=zH hN;have HRT:=zH hrt;have HXR:=zH hxr;have HD:=zH hd;have hsz:B≤w.heap.size:=by rw [← hB]; exact hbw.size
 rw [hB] at hbw hp ⊢;have HBND:=zH hln;unfold maxLen at hcc;have HS:=zH (PrS.mk hp hbw (Fr.refl B PT w) hsz);obtain ⟨n,hn⟩:∃n,F.len=n:=⟨_,rfl⟩;have HL:=zH hn;rw [hn] at HXR hl ⊢;clear hx hN hrt hxr hbw hp hd hln hsz hn hB;go_enter Tryz.func29,Tryz.ntmps29;go_wp2_with fail
 go_loopw [10] (fun vi wr=>∃(i:Nat) (A R:Fo) (a:List UInt8),vi=.int .i64 i∧i≤n∧Hid (F=A.app R∧A.len=i)∧Hid (Cut a (l++lnT (ntT A) d))∧Hid (PrS w0 B P w wr a)) (fun vi _=>n - (intOf vi).toNat)
 case atStart=>exact ⟨0,.nil,F,l,rfl,Nat.zero_le _,⟨rfl,rfl⟩,by show Cut _ _; simpa [ntT,lnT] using Cut.refl l,HS.out⟩
 case round=>
  clear HS;obtain ⟨i,A,R,a,rfl,hi,hA,HCUT,HS⟩:=hrel;by_cases hlt:i < n
  ·have dlt:decide ((i:Int) < (n:Int))=true:=by simp; omega
   have i1:(i:Int) < (n:Int):=by omega
   obtain ⟨h,k,r,rfl⟩:∃h k r,R=.cons h k r:=by
    cases R with
    | nil=>have h1:=hA.out.2; have h2:=HL.out; rw [hA.out.1,Fo.app_nil] at h2; omega
    | cons h k r=>exact ⟨h,k,r,rfl⟩
   have hfr0:FRow w0 (.slice x n ca) (A.app (.cons h k r)):=by rw [← hA.out.1]; exact HXR.out
   obtain ⟨b0,off,xn,cn,xk,ck,rfl,⟨k0,k1,k2,k3,k4,k5⟩,hn1,hk1⟩:=hfr0.node
   rw [hA.out.2] at k0 k1 k2 k3 k4 k5;have hlt0:b0 < w0.heap.size:=World.block_lt_of_cell? w0 _ k0;have tr:∀o u,w0.cell? ⟨b0,o,none⟩=some u→wr.cell? ⟨b0,o,none⟩=some u:=fun o u h=>(HS.out.bel.cell (p:=⟨b0,o,none⟩) (by rw [← HB.out]; exact hlt0)).trans h
   replace k0:=tr _ _ k0
   replace k1:=tr _ _ k1
   replace k2:=tr _ _ k2
   replace k3:=tr _ _ k3
   replace k4:=tr _ _ k4
   replace k5:=tr _ _ k5
   have HKN:Hid (k.size < N):=by
    have h1:=HN.out
    rw [hA.out.1] at h1;have:=Fo.kid_size A h k r;show _ < _
    omega
   have HEX:Hid (stN h k=true):=by
    have h1:=HRT.out
    rw [rt_st,hA.out.1,allG_app] at h1;simp only [allG,Bool.and_eq_true] at h1;exact h1.2.1
   have HPRE:Hid (lnT (ntT (A.app (.cons h k .nil))) d=lnT (ntT A) d++(ind d++stOne h (ntT k) d++[10])):=by show _=_; rw [ntT_app,lnT_app]; simp only [ntT,lnT_one]
   have HFULL:Hid (lnT (ntT F) d=lnT (ntT A) d++(ind d++stOne h (ntT k) d++[10])++lnT (ntT r) d):=by show _=_; rw [hA.out.1,Fo.next,ntT_app,lnT_app,HPRE.out]
   have HB2:Hid (l.length+(lnT (ntT A) d++(ind d++stOne h (ntT k) d++[10])).length≤Mw):=by
    have h1:=HBND.out
    rw [HFULL.out] at h1;show _≤_
    simp only [List.length_append] at h1 ⊢;omega
   have HNN:=zH hn1
   have HHK:=zH hk1
   have HNX:Hid (F=(A.app (.cons h k .nil)).app r∧(A.app (.cons h k .nil)).len=i+1):=⟨by rw [← Fo.next]; exact hA.out.1,by rw [Fo.app_len,hA.out.2]; rfl⟩
   have HLEN:=zH (fun w h=>plen_any B P a w h)
   clear hfr0 hn1 hk1 hA tr hlt0;go_upto_region 3 with fail
   have hba:=(Below.refl wr.heap.size wr).alloc (Nat.le_refl _) (.cells (ndV h (.slice xn h.names.length cn) (.slice xk k.len ck)) 31)
   have HKB:=zH (Blk.new wr 31 (ndV h (.slice xn h.names.length cn) (.slice xk k.len ck)))
   have HSZ:=zH (HS.out.below hba)
   have HCON:=zH (fun w2 l2 h1 h2 h3=>HX.out h k d xn xk cn ck w2 l2 HKN.out HEX.out HNN.out HHK.out h1 h2 h3)
   obtain ⟨E,hE⟩:∃E,stOne h (ntT k) d=E:=⟨_,rfl⟩
   rw [HB.out,hE] at HCON;rw [hE] at HPRE HFULL HB2;obtain ⟨kd,tx,nu,nm,ps⟩:=h;simp only at k0 k1 k2 k3 k4 k5 HKB HSZ HCON ⊢;unfold ndV at HKB HSZ HCON;clear hba hE HS k0 k1 k2 k3 k4 k5;have HS:=HSZ;clear HSZ;generalize wr.alloc (.cells #[.int .i64 kd,.string ⟨tx.toArray⟩,.int .i64 nu,.slice xn nm.length cn,.slice xk k.len ck,.int .i64 ps] 31)=wz at*;generalize wr.heap.size=KB at*
   have y0:wz.cell? ⟨KB,0,none⟩=some (.int .i64 kd):=HKB.out.cell 0
   have y1:wz.cell? ⟨KB,1,none⟩=some (.string ⟨tx.toArray⟩):=HKB.out.cell 1
   have y2:wz.cell? ⟨KB,2,none⟩=some (.int .i64 nu):=HKB.out.cell 2
   have y3:wz.cell? ⟨KB,3,none⟩=some (.slice xn nm.length cn):=HKB.out.cell 3
   have y4:wz.cell? ⟨KB,4,none⟩=some (.slice xk k.len ck):=HKB.out.cell 4
   have y5:wz.cell? ⟨KB,5,none⟩=some (.int .i64 ps):=HKB.out.cell 5
   have HLN:=zH (HLEN.out wz HS.out.prt)
   clear HLEN;by_cases hcutl:16384 < a.length
   ·have HRES:Hid (Cut a (l++lnT (ntT F) d)):=Or.inr ⟨hcutl,by have h1:=HCUT.out.le; rw [HFULL.out]; simp only [List.length_append] at h1 ⊢; omega⟩
    have j1:decide ((16384:Int) < (a.length:Int))=true:=by simp; omega
    have j2:(16384:Int) < (a.length:Int):=by omega
    clear hcutl;go_wp2_with fail;refine HLN.out.mono ?_;rintro e w3 ⟨rfl,rfl⟩;go_wp2_with fail;first
     | refine bodyPost_ret (results_none rfl _ _ _) rfl ⟨rfl,_,?_,HS.out.prt,HS.out.fr⟩
     | refine bodyPost_end (results_none rfl _ _ _) rfl ⟨rfl,_,?_,HS.out.prt,HS.out.fr⟩
    exact HRES.out
   ·have j1:decide ((16384:Int) < (a.length:Int))=false:=by simp; omega
    have j2:¬ (16384:Int) < (a.length:Int):=by omega
    clear hcutl;go_wp2_with fail;refine HLN.out.mono ?_;rintro e w3 ⟨rfl,rfl⟩;have HIND:=zH (indent_any B P a d w3 HS.out.prt (by have h1:=HB2.out; have c0:=HCUT.out.le; unfold Mw at h1; simp only [List.length_append] at h1 c0 ⊢; omega) HS.out.size)
    go_wp2_with fail;clear j1 j2;refine HIND.out.mono ?_;rintro e w4 ⟨rfl,hp1,hf1⟩;have HS2:=zH (HS.out.next (Below.refl _ _) hp1 hf1);have HKB2:=zH (hf1.blk HKB.out pt_syn);clear HS HKB y0 y1 y2 y3 y4 y5 hp1 hf1 HIND HLN;have HS:=HS2;have HKB:=HKB2;clear HS2 HKB2;have y0:w4.cell? ⟨KB,0,none⟩=some (.int .i64 kd):=HKB.out.cell 0
    have y1:w4.cell? ⟨KB,1,none⟩=some (.string ⟨tx.toArray⟩):=HKB.out.cell 1
    have y2:w4.cell? ⟨KB,2,none⟩=some (.int .i64 nu):=HKB.out.cell 2
    have y3:w4.cell? ⟨KB,3,none⟩=some (.slice xn nm.length cn):=HKB.out.cell 3
    have y4:w4.cell? ⟨KB,4,none⟩=some (.slice xk k.len ck):=HKB.out.cell 4
    have y5:w4.cell? ⟨KB,5,none⟩=some (.int .i64 ps):=HKB.out.cell 5
    have HC:=zH (HCON.out w4 (a++ind d) HS.out.bel HS.out.prt (by have h1:=HB2.out; have c0:=HCUT.out.le; unfold Mw at h1 ⊢; simp only [List.length_append,List.length_cons,List.length_nil] at h1 c0 ⊢; omega))
    have HCU:=zH (HCUT.out.app (ind d))
    go_wp2_with fail;refine HC.out.mono ?_;rintro e w5 ⟨rfl,a2,hc1,hp1,hf1⟩;have HS2:=zH (HS.out.next (Below.refl _ _) hp1 hf1);have HC2:Hid (Cut a2 ((l++lnT (ntT A) d++ind d)++E)):=HCU.out.step hc1;have HKB2:=zH (hf1.blk HKB.out pt_syn);clear HS HKB y0 y1 y2 y3 y4 y5 hp1 hf1 hc1 HC;have HS:=HS2;have HKB:=HKB2;clear HS2 HKB2;have y0:w5.cell? ⟨KB,0,none⟩=some (.int .i64 kd):=HKB.out.cell 0
    have y1:w5.cell? ⟨KB,1,none⟩=some (.string ⟨tx.toArray⟩):=HKB.out.cell 1
    have y2:w5.cell? ⟨KB,2,none⟩=some (.int .i64 nu):=HKB.out.cell 2
    have y3:w5.cell? ⟨KB,3,none⟩=some (.slice xn nm.length cn):=HKB.out.cell 3
    have y4:w5.cell? ⟨KB,4,none⟩=some (.slice xk k.len ck):=HKB.out.cell 4
    have y5:w5.cell? ⟨KB,5,none⟩=some (.int .i64 ps):=HKB.out.cell 5
    have hbn:=(Below.refl w5.heap.size w5).alloc (Nat.le_refl _) (.cells #[.string ⟨#[10]⟩] 9)
    have HPU:=zH (put_any B P a2 w5.heap.size [[10]] (w5.alloc (.cells #[.string ⟨#[10]⟩] 9)) (HS.out.prt.below hbn) (Blk.new w5 9 #[.string ⟨#[10]⟩]) (by simp) (by have h1:=HB2.out; have c0:=HC2.out.le; unfold Mw at h1; simp only [List.length_append,List.flatten_cons,List.flatten_nil,List.append_nil,List.length_cons,List.length_nil] at h1 c0 ⊢; omega) (by have h1:=HS.out.size; simp; omega))
    have e1:([[10]]:List Nm).length=1:=rfl
    rw [e1] at HPU;have HBN:=zH hbn;clear e1 hbn;go_wp2_with fail;refine HPU.out.mono ?_;rintro e w6 ⟨rfl,hp1,hf1⟩;have HS2:=zH (HS.out.next HBN.out hp1 hf1);have HKB2:=zH (hf1.blk (HKB.out.alloc _) pt_syn);clear HS HKB y0 y1 y2 y3 y4 y5 hp1 hf1 HPU HBN;have HS:=HS2;have HKB:=HKB2;clear HS2 HKB2;have y0:w6.cell? ⟨KB,0,none⟩=some (.int .i64 kd):=HKB.out.cell 0
    have y1:w6.cell? ⟨KB,1,none⟩=some (.string ⟨tx.toArray⟩):=HKB.out.cell 1
    have y2:w6.cell? ⟨KB,2,none⟩=some (.int .i64 nu):=HKB.out.cell 2
    have y3:w6.cell? ⟨KB,3,none⟩=some (.slice xn nm.length cn):=HKB.out.cell 3
    have y4:w6.cell? ⟨KB,4,none⟩=some (.slice xk k.len ck):=HKB.out.cell 4
    have y5:w6.cell? ⟨KB,5,none⟩=some (.int .i64 ps):=HKB.out.cell 5
    have HCF:Hid (Cut (a2++([[10]]:List Nm).flatten) (l++lnT (ntT (A.app (.cons ⟨kd,tx,nu,nm,ps⟩ k .nil))) d)):=by
     have h1:=HC2.out.app (([[10]]:List Nm).flatten)
     show Cut _ _
     rw [HPRE.out];simpa [List.append_assoc] using h1
    clear HKB y0 y1 y2 y3 y4 y5 HCON HCU HCUT HC2;go_wp2_with fail;go_roundw
    case rel=>exact ⟨i+1,_,r,_,by go_num,by omega,HNX,HCF,HS⟩
    case measure=>simp [intOf]; omega
  ·have dlt:decide ((i:Int) < (n:Int))=false:=by simp; omega
   have HRES:Hid (Cut a (l++lnT (ntT F) d)):=by
    have h1:=HCUT.out
    have hR:R=.nil:=by
     have h4:=HL.out
     rw [hA.out.1,Fo.app_len] at h4;have h5:=hA.out.2
     cases R with
     | nil=>rfl
     | cons h k r=>simp only [Fo.len] at h4; omega
    show Cut _ _
    rw [hA.out.1,hR,Fo.app_nil];exact h1
   clear HCUT hA;go_wp2_with fail;first
    | refine bodyPost_ret (results_none rfl _ _ _) rfl ⟨rfl,_,?_,HS.out.prt,HS.out.fr⟩
    | refine bodyPost_end (results_none rfl _ _ _) rfl ⟨rfl,_,?_,HS.out.prt,HS.out.fr⟩
   exact HRES.out

theorem pblock_any (w0:World) (P N:Nat) (hx:PlOk w0 P N):PkOk w0 P N:=by
 intro h k d xn xk cn ck w l hN hrt hkr hbw hp hln;have hdm:d+1≤70368744177664:=by unfold blkT Mw at hln; simp only [List.length_append,ind_len,List.length_cons,List.length_nil] at hln; omega
 have hX:=fun w l h1 h2 h3=>hx k (.slice xk k.len ck) (d+1) w l hN hrt hkr h1 h2 (by unfold Mw; omega) h3
 clear hx hN hrt hkr;obtain ⟨B,hB⟩:∃B,w0.heap.size=B:=⟨_,rfl⟩;have HB:=zH hB;rw [hB] at hbw hp ⊢;have hsz:B≤w.heap.size:=by rw [← hB]; exact (show Below w0.heap.size w0 w by rw [hB]; exact hbw).size
 have HBND:=zH hln
 have hba:=(Below.refl w.heap.size w).alloc (Nat.le_refl _) (.cells (ndV h (.slice xn h.names.length cn) (.slice xk k.len ck)) 31)
 have HKB:=zH (Blk.new w 31 (ndV h (.slice xn h.names.length cn) (.slice xk k.len ck)))
 have HS:=zH ((PrS.mk hp hbw (Fr.refl B PT w) hsz).below hba)
 rw [hB] at hX;have HX:=zH hX;clear hX;clear hbw hp hln hB hsz hba;obtain ⟨TT,hTT⟩:∃TT,blkT k d=TT:=⟨_,rfl⟩;have HTT:=zH hTT;rw [hTT] at HBND ⊢;clear hTT;obtain ⟨kd,tx,nu,nm,ps⟩:=h;simp only at HKB HS HTT ⊢;unfold ndV at HKB HS ⊢;go_enter Tryz.func91,Tryz.ntmps91;go_upto_region 1 with fail
 generalize w.alloc (.cells #[.int .i64 kd,.string ⟨tx.toArray⟩,.int .i64 nu,.slice xn nm.length cn,.slice xk k.len ck,.int .i64 ps] 31)=wz at*;generalize hKBe:w.heap.size=KB at*;clear hKBe;have y0:wz.cell? ⟨KB,0,none⟩=some (.int .i64 kd):=HKB.out.cell 0;have y1:wz.cell? ⟨KB,1,none⟩=some (.string ⟨tx.toArray⟩):=HKB.out.cell 1;have y2:wz.cell? ⟨KB,2,none⟩=some (.int .i64 nu):=HKB.out.cell 2
 have y3:wz.cell? ⟨KB,3,none⟩=some (.slice xn nm.length cn):=HKB.out.cell 3
 have y4:wz.cell? ⟨KB,4,none⟩=some (.slice xk k.len ck):=HKB.out.cell 4
 have y5:wz.cell? ⟨KB,5,none⟩=some (.int .i64 ps):=HKB.out.cell 5
 have hT:TT=[123,10]++lnT (ntT k) (d+1)++ind d++[125]:=HTT.out.symm
 rw [hT] at HBND;have HRT:=zH hT;clear hT HTT;have hd1:d≤70368744177664:=by omega
 have hbn:=(Below.refl wz.heap.size wz).alloc (Nat.le_refl _) (.cells #[.string ⟨#[123,10]⟩] 9)
 have HPU:=zH (put_any B P l wz.heap.size [[123,10]] (wz.alloc (.cells #[.string ⟨#[123,10]⟩] 9)) (HS.out.prt.below hbn) (Blk.new wz 9 #[.string ⟨#[123,10]⟩]) (by simp) (by have h1:=HBND.out; unfold Mw at h1; first | (simp only [List.length_append,List.length_cons,List.length_nil] at h1  ⊢; omega) | (simp only [List.length_append,List.flatten_cons,List.flatten_nil,List.append_nil,List.length_cons,List.length_nil] at h1  ⊢; omega)) (by have h1:=HS.out.size; simp; omega))
 have e1:([[123,10]]:List Nm).length=1:=rfl
 rw [e1] at HPU;have HBN:=zH hbn;clear e1 hbn;go_wp2_with fail;refine HPU.out.mono ?_;rintro e w1 ⟨rfl,hp1,hf1⟩;have HS2:=zH (HS.out.next HBN.out hp1 hf1);have HKB2:=zH (hf1.blk (HKB.out.alloc _) pt_syn);clear HS HKB y0 y1 y2 y3 y4 y5 hp1 hf1 HPU HBN;have HS:=HS2;have HKB:=HKB2;clear HS2 HKB2;have y0:w1.cell? ⟨KB,0,none⟩=some (.int .i64 kd):=HKB.out.cell 0
 have y1:w1.cell? ⟨KB,1,none⟩=some (.string ⟨tx.toArray⟩):=HKB.out.cell 1
 have y2:w1.cell? ⟨KB,2,none⟩=some (.int .i64 nu):=HKB.out.cell 2
 have y3:w1.cell? ⟨KB,3,none⟩=some (.slice xn nm.length cn):=HKB.out.cell 3
 have y4:w1.cell? ⟨KB,4,none⟩=some (.slice xk k.len ck):=HKB.out.cell 4
 have y5:w1.cell? ⟨KB,5,none⟩=some (.int .i64 ps):=HKB.out.cell 5
 have HC:=zH (HX.out w1 (l++([[123,10]]:List Nm).flatten) HS.out.bel HS.out.prt (by have h1:=HBND.out; unfold Mw at h1 ⊢; first | (simp only [List.length_append,List.length_cons,List.length_nil] at h1  ⊢; omega) | (simp only [List.length_append,List.flatten_cons,List.flatten_nil,List.append_nil,List.length_cons,List.length_nil] at h1  ⊢; omega)))
 rw [show ((d+1:Nat):Int)=(d:Int)+1 by omega] at HC
 go_wp2_with fail;refine HC.out.mono ?_;rintro e w2 ⟨rfl,a2,hc1,hp1,hf1⟩;have HS2:=zH (HS.out.next (Below.refl _ _) hp1 hf1);have HC2:=zH hc1;have HKB2:=zH (hf1.blk HKB.out pt_syn);clear HS HKB y0 y1 y2 y3 y4 y5 hp1 hf1 hc1 HC;have HS:=HS2;have HKB:=HKB2;clear HS2 HKB2;have y0:w2.cell? ⟨KB,0,none⟩=some (.int .i64 kd):=HKB.out.cell 0
 have y1:w2.cell? ⟨KB,1,none⟩=some (.string ⟨tx.toArray⟩):=HKB.out.cell 1
 have y2:w2.cell? ⟨KB,2,none⟩=some (.int .i64 nu):=HKB.out.cell 2
 have y3:w2.cell? ⟨KB,3,none⟩=some (.slice xn nm.length cn):=HKB.out.cell 3
 have y4:w2.cell? ⟨KB,4,none⟩=some (.slice xk k.len ck):=HKB.out.cell 4
 have y5:w2.cell? ⟨KB,5,none⟩=some (.int .i64 ps):=HKB.out.cell 5
 have HIND:=zH (indent_any B P a2 d w2 HS.out.prt (by have h1:=HBND.out; have c0:=HC2.out.le; unfold Mw at h1; first | (simp only [List.length_append,List.length_cons,List.length_nil] at h1 c0 ⊢; omega) | (simp only [List.length_append,List.flatten_cons,List.flatten_nil,List.append_nil,List.length_cons,List.length_nil] at h1 c0 ⊢; omega)) HS.out.size)
 go_wp2_with fail;refine HIND.out.mono ?_;rintro e w3 ⟨rfl,hp1,hf1⟩;have HS2:=zH (HS.out.next (Below.refl _ _) hp1 hf1);have HKB2:=zH (hf1.blk HKB.out pt_syn);clear HS HKB y0 y1 y2 y3 y4 y5 hp1 hf1 HIND;have HS:=HS2;have HKB:=HKB2;clear HS2 HKB2;have y0:w3.cell? ⟨KB,0,none⟩=some (.int .i64 kd):=HKB.out.cell 0;have y1:w3.cell? ⟨KB,1,none⟩=some (.string ⟨tx.toArray⟩):=HKB.out.cell 1
 have y2:w3.cell? ⟨KB,2,none⟩=some (.int .i64 nu):=HKB.out.cell 2
 have y3:w3.cell? ⟨KB,3,none⟩=some (.slice xn nm.length cn):=HKB.out.cell 3
 have y4:w3.cell? ⟨KB,4,none⟩=some (.slice xk k.len ck):=HKB.out.cell 4
 have y5:w3.cell? ⟨KB,5,none⟩=some (.int .i64 ps):=HKB.out.cell 5
 have hbn:=(Below.refl w3.heap.size w3).alloc (Nat.le_refl _) (.cells #[.string ⟨#[125]⟩] 9)
 have HPU:=zH (put_any B P (a2++ind d) w3.heap.size [[125]] (w3.alloc (.cells #[.string ⟨#[125]⟩] 9)) (HS.out.prt.below hbn) (Blk.new w3 9 #[.string ⟨#[125]⟩]) (by simp) (by have h1:=HBND.out; have c0:=HC2.out.le; unfold Mw at h1; first | (simp only [List.length_append,List.length_cons,List.length_nil] at h1 c0 ⊢; omega) | (simp only [List.length_append,List.flatten_cons,List.flatten_nil,List.append_nil,List.length_cons,List.length_nil] at h1 c0 ⊢; omega)) (by have h1:=HS.out.size; simp; omega))
 have e1:([[125]]:List Nm).length=1:=rfl
 rw [e1] at HPU;have HBN:=zH hbn;clear e1 hbn;go_wp2_with fail;refine HPU.out.mono ?_;rintro e w4 ⟨rfl,hp1,hf1⟩;have HS2:=zH (HS.out.next HBN.out hp1 hf1);clear HS hp1 hf1 HPU HBN HKB y0 y1 y2 y3 y4 y5;have HS:=HS2;clear HS2;go_wp2_with fail;first
  | refine bodyPost_ret (results_none rfl _ _ _) rfl ⟨rfl,_,?_,HS.out.prt,HS.out.fr⟩
  | refine bodyPost_end (results_none rfl _ _ _) rfl ⟨rfl,_,?_,HS.out.prt,HS.out.fr⟩
 have h1:=(HC2.out.app (ind d)).app ([[125]]:List Nm).flatten
 simpa [List.append_assoc,HRT.out] using h1

def asgT (tx:Nm) (E:List UInt8):List UInt8:=tx++[32,61,32]++E++[59]
theorem passign_any (w0:World) (P:Nat) (htab:Lib.TabIs Tryz.prog w0 "internal/strconv.uint64pow10" .u64 Lib.pow10Tab) (h h0:Hd) (k0 r:Fo) (xn xk:Option Addr) (cn n ck:Nat) (w:World) (l:List UInt8) (hen:exN h0 k0=true)
  (hkr:FRow w0 (.slice xk n ck) (.cons h0 k0 r)) (hbw:Below w0.heap.size w0 w) (hp:Prt w0.heap.size P l w) (hln:l.length+(asgT h.text (exOne h0 (exT k0))).length≤Mw):
  Calls Tryz.prog 88 #[.pointer (some ⟨P,0,none⟩),.agg (ndV h (.slice xn h.names.length cn) (.slice xk n ck))] w (PrR w0.heap.size P l (asgT h.text (exOne h0 (exT k0))) w):=by
 obtain ⟨m,rfl⟩:∃m,n=m+1:=⟨r.len,by rw [hkr.len_eq]; rfl⟩
 obtain ⟨b0,off,xn0,cn0,xk0,ck0,rfl,hb0,⟨z0,z1,z2,z3,z4,z5⟩,hk0⟩:=hkr.node0
 have hX:=fun w l h1 h2 h3=>px_all w0 P htab (k0.size+1) h0 k0 xn0 xk0 cn0 ck0 w l (Nat.lt_succ_self _) hen hk0 h1 h2 h3
 clear htab hen hkr hk0;obtain ⟨B,hB⟩:∃B,w0.heap.size=B:=⟨_,rfl⟩;have HB:=zH hB;rw [hB] at hbw hp ⊢;have hsz:B≤w.heap.size:=by rw [← hB]; exact (show Below w0.heap.size w0 w by rw [hB]; exact hbw).size
 have HBND:=zH hln
 have hba:=(Below.refl w.heap.size w).alloc (Nat.le_refl _) (.cells (ndV h (.slice xn h.names.length cn) (.slice (some ⟨b0,off,none⟩) (m+1) ck)) 31)
 have HKB:=zH (Blk.new w 31 (ndV h (.slice xn h.names.length cn) (.slice (some ⟨b0,off,none⟩) (m+1) ck)))
 have HS:=zH ((PrS.mk hp hbw (Fr.refl B PT w) hsz).below hba)
 rw [hB] at hX hb0;have HX:=zH hX;have HB0:=zH hb0;have HZ:=zH (And.intro z0 (And.intro z1 (And.intro z2 (And.intro z3 (And.intro z4 z5)))));clear hX hb0 z0 z1 z2 z3 z4 z5;clear hbw hp hln hB hsz hba;obtain ⟨TT,hTT⟩:∃TT,asgT h.text (exOne h0 (exT k0))=TT:=⟨_,rfl⟩;have HTT:=zH hTT;rw [hTT] at HBND ⊢;clear hTT;obtain ⟨kd,tx,nu,nm,ps⟩:=h;simp only at HKB HS HTT ⊢;unfold ndV at HKB HS ⊢
 go_enter Tryz.func88,Tryz.ntmps88
 go_upto_region 1 with fail
 generalize w.alloc (.cells #[.int .i64 kd,.string ⟨tx.toArray⟩,.int .i64 nu,.slice xn nm.length cn,.slice (some ⟨b0,off,none⟩) (m+1) ck,.int .i64 ps] 31)=wz at*;generalize hKBe:w.heap.size=KB at*;clear hKBe;have y0:wz.cell? ⟨KB,0,none⟩=some (.int .i64 kd):=HKB.out.cell 0;have y1:wz.cell? ⟨KB,1,none⟩=some (.string ⟨tx.toArray⟩):=HKB.out.cell 1
 have y2:wz.cell? ⟨KB,2,none⟩=some (.int .i64 nu):=HKB.out.cell 2
 have y3:wz.cell? ⟨KB,3,none⟩=some (.slice xn nm.length cn):=HKB.out.cell 3
 have y4:wz.cell? ⟨KB,4,none⟩=some (.slice (some ⟨b0,off,none⟩) (m+1) ck):=HKB.out.cell 4
 have y5:wz.cell? ⟨KB,5,none⟩=some (.int .i64 ps):=HKB.out.cell 5
 obtain ⟨E,hE⟩:∃E,exOne h0 (exT k0)=E:=⟨_,rfl⟩
 rw [hE] at HX HTT;have hT:TT=tx++[32,61,32]++E++[59]:=HTT.out.symm;rw [hT] at HBND;have HRT:=zH hT;clear hT HTT hE;unfold ndV at HX;have hm0:(0:Int) < (m:Int)+1:=by omega
 have hbn:=(Below.refl wz.heap.size wz).alloc (Nat.le_refl _) (.cells #[.string ⟨tx.toArray⟩,.string ⟨#[32,61,32]⟩] 9)
 have HPU:=zH (put_any B P l wz.heap.size [tx,[32,61,32]] (wz.alloc (.cells #[.string ⟨tx.toArray⟩,.string ⟨#[32,61,32]⟩] 9)) (HS.out.prt.below hbn) (Blk.new wz 9 #[.string ⟨tx.toArray⟩,.string ⟨#[32,61,32]⟩]) (by simp) (by have h1:=HBND.out; unfold Mw at h1; first | (simp only [List.length_append,List.length_cons,List.length_nil] at h1 ⊢; omega) | (simp only [List.length_append,List.flatten_cons,List.flatten_nil,List.append_nil,List.length_cons,List.length_nil] at h1 ⊢; omega)) (by have h1:=HS.out.size; simp; omega))
 have e1:([tx,[32,61,32]]:List Nm).length=2:=rfl
 rw [e1] at HPU;have HBN:=zH hbn;clear e1 hbn;go_wp2_with fail;refine HPU.out.mono ?_;rintro e w1 ⟨rfl,hp1,hf1⟩;have HS2:=zH (HS.out.next HBN.out hp1 hf1);have HKB2:=zH (hf1.blk (HKB.out.alloc _) pt_syn);clear HS HKB y0 y1 y2 y3 y4 y5 hp1 hf1 HPU HBN;have HS:=HS2;have HKB:=HKB2;clear HS2 HKB2;have y0:w1.cell? ⟨KB,0,none⟩=some (.int .i64 kd):=HKB.out.cell 0
 have y1:w1.cell? ⟨KB,1,none⟩=some (.string ⟨tx.toArray⟩):=HKB.out.cell 1
 have y2:w1.cell? ⟨KB,2,none⟩=some (.int .i64 nu):=HKB.out.cell 2
 have y3:w1.cell? ⟨KB,3,none⟩=some (.slice xn nm.length cn):=HKB.out.cell 3
 have y4:w1.cell? ⟨KB,4,none⟩=some (.slice (some ⟨b0,off,none⟩) (m+1) ck):=HKB.out.cell 4
 have y5:w1.cell? ⟨KB,5,none⟩=some (.int .i64 ps):=HKB.out.cell 5
 obtain ⟨z0,z1,z2,z3,z4,z5⟩:=HZ.out
 have trz:∀o u,w0.cell? ⟨b0,o,none⟩=some u→w1.cell? ⟨b0,o,none⟩=some u:=fun o u h=>(HS.out.bel.cell (p:=⟨b0,o,none⟩) HB0.out).trans h
 replace z0:=trz _ _ z0
 replace z1:=trz _ _ z1
 replace z2:=trz _ _ z2
 replace z3:=trz _ _ z3
 replace z4:=trz _ _ z4
 replace z5:=trz _ _ z5
 clear trz;have HC:=zH (HX.out w1 (l++([tx,[32,61,32]]:List Nm).flatten) HS.out.bel HS.out.prt (by have h1:=HBND.out; unfold Mw at h1 ⊢; first | (simp only [List.length_append,List.length_cons,List.length_nil] at h1  ⊢; omega) | (simp only [List.length_append,List.flatten_cons,List.flatten_nil,List.append_nil,List.length_cons,List.length_nil] at h1  ⊢; omega)))
 go_wp2_with fail;refine HC.out.mono ?_;rintro e w2 ⟨rfl,hp1,hf1⟩;have HS2:=zH (HS.out.next (Below.refl _ _) hp1 hf1);have HKB2:=zH (hf1.blk HKB.out pt_syn);clear HS HKB y0 y1 y2 y3 y4 y5 hp1 hf1 HC z0 z1 z2 z3 z4 z5;have HS:=HS2;have HKB:=HKB2;clear HS2 HKB2;have y0:w2.cell? ⟨KB,0,none⟩=some (.int .i64 kd):=HKB.out.cell 0;have y1:w2.cell? ⟨KB,1,none⟩=some (.string ⟨tx.toArray⟩):=HKB.out.cell 1
 have y2:w2.cell? ⟨KB,2,none⟩=some (.int .i64 nu):=HKB.out.cell 2
 have y3:w2.cell? ⟨KB,3,none⟩=some (.slice xn nm.length cn):=HKB.out.cell 3
 have y4:w2.cell? ⟨KB,4,none⟩=some (.slice (some ⟨b0,off,none⟩) (m+1) ck):=HKB.out.cell 4
 have y5:w2.cell? ⟨KB,5,none⟩=some (.int .i64 ps):=HKB.out.cell 5
 have hbn:=(Below.refl w2.heap.size w2).alloc (Nat.le_refl _) (.cells #[.string ⟨#[59]⟩] 9)
 have HPU:=zH (put_any B P ((l++([tx,[32,61,32]]:List Nm).flatten)++E) w2.heap.size [[59]] (w2.alloc (.cells #[.string ⟨#[59]⟩] 9)) (HS.out.prt.below hbn) (Blk.new w2 9 #[.string ⟨#[59]⟩]) (by simp) (by have h1:=HBND.out; unfold Mw at h1; first | (simp only [List.length_append,List.length_cons,List.length_nil] at h1 ⊢; omega) | (simp only [List.length_append,List.flatten_cons,List.flatten_nil,List.append_nil,List.length_cons,List.length_nil] at h1 ⊢; omega)) (by have h1:=HS.out.size; simp; omega))
 have e1:([[59]]:List Nm).length=1:=rfl
 rw [e1] at HPU;have HBN:=zH hbn;clear e1 hbn;go_wp2_with fail;refine HPU.out.mono ?_;rintro e w3 ⟨rfl,hp1,hf1⟩;have HS2:=zH (HS.out.next HBN.out hp1 hf1);clear HS hp1 hf1 HPU HBN HKB y0 y1 y2 y3 y4 y5;have HS:=HS2;clear HS2;go_wp2_with fail;first
  | refine bodyPost_ret (results_none rfl _ _ _) rfl ⟨rfl,?_,HS.out.fr⟩
  | refine bodyPost_end (results_none rfl _ _ _) rfl ⟨rfl,?_,HS.out.fr⟩
 have h1:=HS.out.prt
 simpa [List.append_assoc,HRT.out] using h1
end Go.Proofs.YtbaidkefobhipaaGreatDoor
