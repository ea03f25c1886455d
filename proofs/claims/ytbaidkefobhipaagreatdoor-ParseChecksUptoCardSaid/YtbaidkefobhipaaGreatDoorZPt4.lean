/-
  Walks: the printer's expression. (Printed by gen_pt4.py.)
-/
import Derived.Test.YtbaidkefobhipaaGreatDoorZPt3
namespace Go.Proofs.YtbaidkefobhipaaGreatDoor
set_option maxHeartbeats 32000000
set_option maxRecDepth 100000
open Go.RowKit

theorem ex_num {h:Hd} {k:Fo} (he:exN h k=true) (hk:h.kind=1):0≤h.num∧h.num≤4611686018427387904:=by
 unfold exN exH at he;simp [hk] at he;omega
theorem ex_lit {h:Hd} {k:Fo} (he:exN h k=true) (hk:h.kind=2):∃t,litP h.text=.ok t∧h.text.length≤256:=by
 unfold exN exH litOk at he;simp [hk] at he
 cases hl:litP h.text with
 | error x=>rw [hl] at he; simp at he
 | ok t=>
  refine ⟨t,rfl,?_⟩
  unfold litP at hl;split at hl
  ·cases hl
  ·split at hl
   ·cases hl
   ·omega
theorem ex_kids {h:Hd} {k:Fo} (he:exN h k=true):rt .ex k=true:=by
 unfold exN at he;simp only [Bool.and_eq_true] at he;exact he.2
theorem ex_one {h:Hd} {k:Fo} (he:exN h k=true) (hk:h.kind=5):∃h0 k0,k=.cons h0 k0 .nil∧exN h0 k0=true:=by
 have h1:=ex_kids he
 unfold exN exH at he;simp [hk] at he;obtain ⟨h0,k0,rfl⟩:=Fo.one_of he.1.2.2;rw [rt_ex] at h1;simp only [allG,Bool.and_true] at h1;exact ⟨h0,k0,rfl,h1⟩
theorem ex_two {h:Hd} {k:Fo} (he:exN h k=true) (hk:h.kind=6∨h.kind=8):∃h0 k0 h1 k1,k=.cons h0 k0 (.cons h1 k1 .nil)∧exN h0 k0=true∧exN h1 k1=true:=by
 have h1:=ex_kids he
 have hl:k.len=2:=by
  unfold exN exH at he;rcases hk with hk | hk <;> (simp [hk] at he; exact he.1.2.2)
 cases k with
 | nil=>cases hl
 | cons h0 k0 r=>
  obtain ⟨h2,k2,rfl⟩:=Fo.one_of (k:=r) (by simpa [Fo.len] using hl)
  rw [rt_ex] at h1;simp only [allG,Bool.and_true,Bool.and_eq_true] at h1;exact ⟨h0,k0,h2,k2,rfl,h1.1,h1.2⟩
theorem ex_kind {h:Hd} {k:Fo} (he:exN h k=true):1≤h.kind∧h.kind≤10:=by
 unfold exN exH at he;simp only [Bool.and_eq_true] at he;have h1:=he.1.2;by_cases a1:h.kind=1; omega;rw [if_neg a1] at h1;by_cases a2:h.kind=2; omega;rw [if_neg a2] at h1;by_cases a3:h.kind=3; omega;rw [if_neg a3] at h1;by_cases a4:h.kind=4; omega;rw [if_neg a4] at h1;by_cases a5:h.kind=5; omega;rw [if_neg a5] at h1;by_cases a6:h.kind=6; omega;rw [if_neg a6] at h1;by_cases a7:h.kind=7; omega
 rw [if_neg a7] at h1;by_cases a8:h.kind=8; omega;rw [if_neg a8] at h1;simp at h1;omega
theorem below_grow {w:World} (k:Nat) (os:Array Obj):Below w.heap.size w (Go.Sort.grow (w.drewN k) os):=
 ⟨rfl,rfl,rfl,by simp [Go.Sort.grow,World.drewN],fun j hj=>by
  show (w.heap++os)[j]?=w.heap[j]?
  exact Array.getElem?_append_left hj⟩

theorem expr_step (w0:World) (P N:Nat) (htab:Lib.TabIs Tryz.prog w0 "internal/strconv.uint64pow10" .u64 Lib.pow10Tab) (hx:PxOk w0 P N):PxOk w0 P (N+1):=by
 intro h k xn xk cn ck w l hN hen hkr hbw hp hln;have hin:=inner_any w0 P N hx;have hbi:=pbin_any w0 P N hx;have hli:=plist_any w0 P N hx;obtain ⟨B,hB⟩:∃B,w0.heap.size=B:=⟨_,rfl⟩;have HB:=zH hB;have HI:=zH hin;have HBI:=zH hbi;have HLI:=zH hli;have HN:=zH hN;have HEN:=zH hen;have HKR:=zH hkr;have HTAB:=zH htab;rw [hB] at hbw hp ⊢
 have hsz:B≤w.heap.size:=by rw [← hB]; exact (show Below w0.heap.size w0 w by rw [hB]; exact hbw).size
 have HBND:=zH hln
 have hba:=(Below.refl w.heap.size w).alloc (Nat.le_refl _) (.cells (ndV h (.slice xn h.names.length cn) (.slice xk k.len ck)) 31)
 have HKB:=zH (Blk.new w 31 (ndV h (.slice xn h.names.length cn) (.slice xk k.len ck)))
 have HS:=zH ((PrS.mk hp hbw (Fr.refl B PT w) hsz).below hba)
 have hkd2:=ex_kind hen
 clear hx hN hen hkr hbw hp hln hB hin hbi hli hsz hba htab;obtain ⟨kd,tx,nu,nm,ps⟩:=h;simp only at HKB HS hkd2 ⊢;unfold ndV at HKB HS ⊢;obtain ⟨TT,hTT⟩:∃TT,exOne ⟨kd,tx,nu,nm,ps⟩ (exT k)=TT:=⟨_,rfl⟩;have HTT:=zH hTT;rw [hTT] at HBND ⊢;clear hTT;go_enter Tryz.func90,Tryz.ntmps90;go_upto_region 1 with fail
 generalize w.alloc (.cells #[.int .i64 kd,.string ⟨tx.toArray⟩,.int .i64 nu,.slice xn nm.length cn,.slice xk k.len ck,.int .i64 ps] 31)=wz at*;generalize hKBe:w.heap.size=KB at*;clear hKBe;have y0:wz.cell? ⟨KB,0,none⟩=some (.int .i64 kd):=HKB.out.cell 0;have y1:wz.cell? ⟨KB,1,none⟩=some (.string ⟨tx.toArray⟩):=HKB.out.cell 1;have y2:wz.cell? ⟨KB,2,none⟩=some (.int .i64 nu):=HKB.out.cell 2
 have y3:wz.cell? ⟨KB,3,none⟩=some (.slice xn nm.length cn):=HKB.out.cell 3
 have y4:wz.cell? ⟨KB,4,none⟩=some (.slice xk k.len ck):=HKB.out.cell 4
 have y5:wz.cell? ⟨KB,5,none⟩=some (.int .i64 ps):=HKB.out.cell 5
 rcases (by omega:kd=1∨kd=2∨kd=3∨kd=4∨kd=5∨kd=6∨kd=7∨kd=8∨kd=9∨kd=10) with hkd | hkd | hkd | hkd | hkd | hkd | hkd | hkd | hkd | hkd
 ·-- 1
  obtain rfl:kd=1:=hkd
  clear hkd2;have hT:TT=Lib.itoa nu:=by rw [← HTT.out]; rfl
  rw [hT] at HBND;have HRT:=zH hT;clear hT HTT;have hnu:=ex_num HEN.out rfl;simp only at hnu;have HIT:=zH (Tryz.strconv_Itoa nu (by omega) (by omega) wz (tab_below HTAB.out (by rw [HB.out]; exact HS.out.bel)))
  obtain ⟨t,ht⟩:∃t,Lib.itoa nu=t:=⟨_,rfl⟩
  rw [ht] at HIT HBND HRT;clear hnu ht;go_wp2_with fail;refine HIT.out.mono ?_;rintro e w1 ⟨rfl,kk,os,rfl⟩;have hb9:=below_grow (w:=wz) kk os;have HS2:=zH (HS.out.below hb9);clear HS HKB y0 y1 y2 y3 y4 y5 hb9 HIT;have HS:=HS2;clear HS2;generalize Go.Sort.grow (wz.drewN kk) os=w1 at*;have hbn:=(Below.refl w1.heap.size w1).alloc (Nat.le_refl _) (.cells #[.string ⟨t.toArray⟩] 9)
  have HPU:=zH (put_any B P l w1.heap.size [t] (w1.alloc (.cells #[.string ⟨t.toArray⟩] 9)) (HS.out.prt.below hbn) (Blk.new w1 9 #[.string ⟨t.toArray⟩]) (by simp) (by have h1:=HBND.out; unfold Mw at h1; first | (simp only [List.length_append,List.length_cons,List.length_nil] at h1 ⊢; omega) | (simp only [List.flatten_cons,List.flatten_nil,List.append_nil] at h1 ⊢; omega)) (by have h1:=HS.out.size; simp; omega))
  have e1:([t]:List Nm).length=1:=rfl
  rw [e1] at HPU;have HBN:=zH hbn;clear e1 hbn;go_wp2_with fail;refine HPU.out.mono ?_;rintro e w2 ⟨rfl,hp1,hf1⟩;have HS2:=zH (HS.out.next HBN.out hp1 hf1);clear HS hp1 hf1 HPU HBN;have HS:=HS2;clear HS2;go_wp2_with fail;first
   | refine bodyPost_ret (results_none rfl _ _ _) rfl ⟨rfl,?_,HS.out.fr⟩
   | refine bodyPost_end (results_none rfl _ _ _) rfl ⟨rfl,?_,HS.out.fr⟩
  have h1:=HS.out.prt
  simpa [List.append_assoc,HRT.out] using h1
 ·-- 2
  obtain rfl:kd=2:=hkd
  clear hkd2;obtain ⟨t,ht,htl⟩:=ex_lit HEN.out rfl;simp only at ht htl;have hT:TT=t:=by rw [← HTT.out]; show litT tx=t; unfold litT; rw [ht]
  rw [hT] at HBND;have HRT:=zH hT;clear hT HTT;have HQU:=zH (quote_any ⟨tx.toArray⟩ wz (by show tx.toArray.size≤_; rw [List.size_toArray]; omega))
  rw [show (⟨tx.toArray⟩:ByteArray).data.toList=tx from rfl,ht] at HQU
  unfold litRes at HQU;clear ht htl;go_wp2_with fail;refine HQU.out.mono ?_;rintro e w1 ⟨rfl,hb9⟩;have HS2:=zH (HS.out.below hb9);clear HS HKB y0 y1 y2 y3 y4 y5 hb9 HQU;have HS:=HS2;clear HS2;have hbn:=(Below.refl w1.heap.size w1).alloc (Nat.le_refl _) (.cells #[.string ⟨t.toArray⟩] 9)
  have HPU:=zH (put_any B P l w1.heap.size [t] (w1.alloc (.cells #[.string ⟨t.toArray⟩] 9)) (HS.out.prt.below hbn) (Blk.new w1 9 #[.string ⟨t.toArray⟩]) (by simp) (by have h1:=HBND.out; unfold Mw at h1; first | (simp only [List.length_append,List.length_cons,List.length_nil] at h1 ⊢; omega) | (simp only [List.flatten_cons,List.flatten_nil,List.append_nil] at h1 ⊢; omega)) (by have h1:=HS.out.size; simp; omega))
  have e1:([t]:List Nm).length=1:=rfl
  rw [e1] at HPU;have HBN:=zH hbn;clear e1 hbn;go_wp2_with fail;refine HPU.out.mono ?_;rintro e w2 ⟨rfl,hp1,hf1⟩;have HS2:=zH (HS.out.next HBN.out hp1 hf1);clear HS hp1 hf1 HPU HBN;have HS:=HS2;clear HS2;go_wp2_with fail;first
   | refine bodyPost_ret (results_none rfl _ _ _) rfl ⟨rfl,?_,HS.out.fr⟩
   | refine bodyPost_end (results_none rfl _ _ _) rfl ⟨rfl,?_,HS.out.fr⟩
  have h1:=HS.out.prt
  simpa [List.append_assoc,HRT.out] using h1
 ·-- 3
  obtain rfl:kd=3:=hkd
  clear hkd2;have hT:TT=tx:=by rw [← HTT.out]; rfl
  rw [hT] at HBND;have HRT:=zH hT;clear hT HTT;have hbn:=(Below.refl wz.heap.size wz).alloc (Nat.le_refl _) (.cells #[.string ⟨tx.toArray⟩] 9)
  have HPU:=zH (put_any B P l wz.heap.size [tx] (wz.alloc (.cells #[.string ⟨tx.toArray⟩] 9)) (HS.out.prt.below hbn) (Blk.new wz 9 #[.string ⟨tx.toArray⟩]) (by simp) (by have h1:=HBND.out; unfold Mw at h1; first | (simp only [List.length_append,List.length_cons,List.length_nil] at h1 ⊢; omega) | (simp only [List.flatten_cons,List.flatten_nil,List.append_nil] at h1 ⊢; omega)) (by have h1:=HS.out.size; simp; omega))
  have e1:([tx]:List Nm).length=1:=rfl
  rw [e1] at HPU;have HBN:=zH hbn;clear e1 hbn;go_wp2_with fail;refine HPU.out.mono ?_;rintro e w2 ⟨rfl,hp1,hf1⟩;have HS2:=zH (HS.out.next HBN.out hp1 hf1);clear HS hp1 hf1 HPU HBN HKB y0 y1 y2 y3 y4 y5;have HS:=HS2;clear HS2;go_wp2_with fail;first
   | refine bodyPost_ret (results_none rfl _ _ _) rfl ⟨rfl,?_,HS.out.fr⟩
   | refine bodyPost_end (results_none rfl _ _ _) rfl ⟨rfl,?_,HS.out.fr⟩
  have h1:=HS.out.prt
  simpa [List.append_assoc,HRT.out] using h1
 ·-- 4
  obtain rfl:kd=4:=hkd
  clear hkd2;have hT:TT=lisT 91 (exT k) 93:=by rw [← HTT.out]; rfl
  rw [hT] at HBND;have HRT:=zH hT;clear hT HTT;have HC:=zH (HLI.out k (.slice xk k.len ck) 91 93 wz l HN.out (ex_kids HEN.out) HKR.out (by rw [HB.out]; exact HS.out.bel) (by rw [HB.out]; exact HS.out.prt) HBND.out)
  rw [HB.out] at HC;go_wp2_with fail;refine HC.out.mono ?_;rintro e w2 ⟨rfl,hp1,hf1⟩;have HS2:=zH (HS.out.next (Below.refl _ _) hp1 hf1);clear HS hp1 hf1 HC HKB y0 y1 y2 y3 y4 y5;have HS:=HS2;clear HS2;go_wp2_with fail;first
   | refine bodyPost_ret (results_none rfl _ _ _) rfl ⟨rfl,?_,HS.out.fr⟩
   | refine bodyPost_end (results_none rfl _ _ _) rfl ⟨rfl,?_,HS.out.fr⟩
  have h1:=HS.out.prt
  simpa [List.append_assoc,HRT.out] using h1
 ·-- 5
  obtain rfl:kd=5:=hkd
  clear hkd2;obtain ⟨h0,k0,rfl,hen0⟩:=ex_one HEN.out rfl;obtain ⟨b0,off,xn0,cn0,xk0,ck0,rfl,hb0,⟨z0,z1,z2,z3,z4,z5⟩,hk0⟩:=HKR.out.node0;have hB0:b0 < B:=by rw [← HB.out]; exact hb0
  have HB0:=zH hB0
  have HZ:=zH (And.intro z0 (And.intro z1 (And.intro z2 (And.intro z3 (And.intro z4 z5)))))
  clear z0 z1 z2 z3 z4 z5 hb0 hB0;have hks:k0.size < N:=by have h1:=HN.out; simp only [Fo.size] at h1; omega
  have hI0:=fun w l b h1 h2 h3=>HI.out h0 k0 b xn0 xk0 cn0 ck0 w l hks hen0 hk0 h1 h2 h3
  rw [HB.out] at hI0;have HI0:=zH hI0;clear hI0 hks hen0 hk0;simp only [Fo.len,Nat.zero_add] at HKB y4;obtain ⟨E0,hE0⟩:∃E,exOne h0 (exT k0)=E:=⟨_,rfl⟩;have hT:TT=tx++opW (decide (h0.kind=6)) E0:=by rw [← HTT.out,← hE0]; rfl
  rw [hE0] at HI0;rw [hT] at HBND;have HRT:=zH hT;clear hT HTT hE0;unfold ndV at HI0;obtain ⟨bq,hbq⟩:∃bq,decide (h0.kind=6)=bq:=⟨_,rfl⟩;have e6:(h0.kind==6)=bq:=by rw [← hbq]; rfl
  rw [hbq] at HBND HRT;clear hbq;have hbn:=(Below.refl wz.heap.size wz).alloc (Nat.le_refl _) (.cells #[.string ⟨tx.toArray⟩] 9)
  have HPU:=zH (put_any B P l wz.heap.size [tx] (wz.alloc (.cells #[.string ⟨tx.toArray⟩] 9)) (HS.out.prt.below hbn) (Blk.new wz 9 #[.string ⟨tx.toArray⟩]) (by simp) (by have h1:=HBND.out; unfold Mw at h1; first | (simp only [List.length_append] at h1 ⊢; omega) | (simp only [List.length_append,List.flatten_cons,List.flatten_nil,List.append_nil] at h1 ⊢; omega)) (by have h1:=HS.out.size; simp; omega))
  have e1:([tx]:List Nm).length=1:=rfl
  rw [e1] at HPU;have HBN:=zH hbn;clear e1 hbn;go_wp2_with fail;refine HPU.out.mono ?_;rintro e w2 ⟨rfl,hp1,hf1⟩;have HS2:=zH (HS.out.next HBN.out hp1 hf1);have HKB2:=zH (hf1.blk (HKB.out.alloc _) pt_syn);clear HS HKB y0 y1 y2 y3 y4 y5 hp1 hf1 HPU HBN;have HS:=HS2;have HKB:=HKB2;clear HS2 HKB2;have y0:w2.cell? ⟨KB,0,none⟩=some (.int .i64 5):=HKB.out.cell 0
  have y1:w2.cell? ⟨KB,1,none⟩=some (.string ⟨tx.toArray⟩):=HKB.out.cell 1
  have y2:w2.cell? ⟨KB,2,none⟩=some (.int .i64 nu):=HKB.out.cell 2
  have y3:w2.cell? ⟨KB,3,none⟩=some (.slice xn nm.length cn):=HKB.out.cell 3
  have y4:w2.cell? ⟨KB,4,none⟩=some (.slice (some ⟨b0,off,none⟩) 1 ck):=HKB.out.cell 4
  have y5:w2.cell? ⟨KB,5,none⟩=some (.int .i64 ps):=HKB.out.cell 5
  go_upto_region 20 with fail
  obtain ⟨K0,hK0⟩:∃K0,K0=w2.heap.size:=⟨_,rfl⟩
  have HK0:=zH hK0
  have HLB:Hid (b0 < K0):=by have h1:=HS.out.size; have h2:=HB0.out; show _ < _; rw [hK0]; omega
  have HLK:Hid (KB < K0):=by rw [hK0]; exact HKB.out.lt
  obtain ⟨z0,z1,z2,z3,z4,z5⟩:=HZ.out
  have tz:∀(u:BW K0 w2) o v,w0.cell? ⟨b0,o,none⟩=some v→u.w.cell? ⟨b0,o,none⟩=some v:=fun u o v h=>(u.b.cell (p:=⟨b0,o,none⟩) HLB.out).trans ((HS.out.bel.cell (p:=⟨b0,o,none⟩) HB0.out).trans h)
  have u4:∀u:BW K0 w2,u.w.cell? ⟨KB,4,none⟩=some (.slice (some ⟨b0,off,none⟩) 1 ck):=fun u=>(u.b.cell (p:=⟨KB,4,none⟩) HLK.out).trans (HKB.out.cell 4)
  have a0:=fun u=>tz u _ _ z0
  have a1:=fun u=>tz u _ _ z1
  have a2:=fun u=>tz u _ _ z2
  have a3:=fun u=>tz u _ _ z3
  have a4:=fun u=>tz u _ _ z4
  have a5:=fun u=>tz u _ _ z5
  clear hK0 z0 z1 z2 z3 z4 z5 tz y0 y1 y2 y3 y4 y5;refine wp_region_bw_tail K0 w2 11 (Below.refl _ _) (by kernel_rfl) (by kernel_rfl) ?_
  simp only [List.take_succ_cons,List.take_zero,List.drop_succ_cons,List.drop_zero];repeat (go_big_quiet_step (fail))
  refine wpQuiet_nil ?_
  rintro _ ⟨v9,rfl⟩;have hb9:Below w2.heap.size w2 v9.w:=v9.b.mono (Nat.le_of_eq HK0.out.symm);have HS2:=zH (HS.out.below hb9);have HKB2:=zH (show Blk v9.w KB 31 _ from (hb9.block _ HKB.out.lt).trans HKB.out)
  clear hb9 HS HKB u4 a0 a1 a2 a3 a4 a5 HLB HLK;have HS:=HS2;have HKB:=HKB2;clear HS2 HKB2;generalize v9.w=wv at*;clear v9 HK0
  have HC:=zH (HI0.out wv (l++([tx]:List Nm).flatten) bq HS.out.bel HS.out.prt (by have h1:=HBND.out; unfold Mw at h1 ⊢; first | (simp only [List.length_append] at h1 ⊢; omega) | (simp only [List.length_append,List.flatten_cons,List.flatten_nil,List.append_nil] at h1 ⊢; omega)))
  go_wp2_with fail;refine HC.out.mono ?_;rintro e w3 ⟨rfl,hp1,hf1⟩;have HS2:=zH (HS.out.next (Below.refl _ _) hp1 hf1);clear HS hp1 hf1 HC HKB;have HS:=HS2;clear HS2;go_wp2_with fail;first
   | refine bodyPost_ret (results_none rfl _ _ _) rfl ⟨rfl,?_,HS.out.fr⟩
   | refine bodyPost_end (results_none rfl _ _ _) rfl ⟨rfl,?_,HS.out.fr⟩
  have h1:=HS.out.prt
  simpa [List.append_assoc,HRT.out] using h1
 ·-- 6
  obtain rfl:kd=6:=hkd
  clear hkd2;obtain ⟨h0,k0,h1,k1,rfl,hen0,hen1⟩:=ex_two HEN.out (Or.inl rfl);have hks:k0.size < N∧k1.size < N:=by have h1:=HN.out; simp only [Fo.size] at h1; omega
  have hT:TT=binT tx h0 (exOne h0 (exT k0)) h1 (exOne h1 (exT k1)):=by rw [← HTT.out]; rfl
  rw [hT] at HBND;have HRT:=zH hT;have HC:=zH (HBI.out ⟨6,tx,nu,nm,ps⟩ h0 h1 k0 k1 xn xk cn ck wz l hks ⟨hen0,hen1⟩ HKR.out (by rw [HB.out]; exact HS.out.bel) (by rw [HB.out]; exact HS.out.prt) HBND.out)
  rw [HB.out] at HC;unfold ndV at HC;simp only at HC;simp only [Fo.len,Nat.zero_add,Nat.reduceAdd] at HKB y4;clear hks hT HTT hen0 hen1;go_wp2_with fail;refine HC.out.mono ?_;rintro e w2 ⟨rfl,hp1,hf1⟩;have HS2:=zH (HS.out.next (Below.refl _ _) hp1 hf1);clear HS hp1 hf1 HC HKB y0 y1 y2 y3 y4 y5;have HS:=HS2;clear HS2;go_wp2_with fail;first
   | refine bodyPost_ret (results_none rfl _ _ _) rfl ⟨rfl,?_,HS.out.fr⟩
   | refine bodyPost_end (results_none rfl _ _ _) rfl ⟨rfl,?_,HS.out.fr⟩
  have h1:=HS.out.prt
  simpa [List.append_assoc,HRT.out] using h1
 ·-- 7
  obtain rfl:kd=7:=hkd
  clear hkd2;have hT:TT=tx++lisT 40 (exT k) 41:=by rw [← HTT.out]; rfl
  rw [hT] at HBND;have HRT:=zH hT;clear hT HTT;have hbn:=(Below.refl wz.heap.size wz).alloc (Nat.le_refl _) (.cells #[.string ⟨tx.toArray⟩] 9)
  have HPU:=zH (put_any B P l wz.heap.size [tx] (wz.alloc (.cells #[.string ⟨tx.toArray⟩] 9)) (HS.out.prt.below hbn) (Blk.new wz 9 #[.string ⟨tx.toArray⟩]) (by simp) (by have h1:=HBND.out; unfold Mw at h1; first | (simp only [List.length_append] at h1 ⊢; omega) | (simp only [List.length_append,List.flatten_cons,List.flatten_nil,List.append_nil] at h1 ⊢; omega)) (by have h1:=HS.out.size; simp; omega))
  have e1:([tx]:List Nm).length=1:=rfl
  rw [e1] at HPU;have HBN:=zH hbn;clear e1 hbn;go_wp2_with fail;refine HPU.out.mono ?_;rintro e w2 ⟨rfl,hp1,hf1⟩;have HS2:=zH (HS.out.next HBN.out hp1 hf1);have HKB2:=zH (hf1.blk (HKB.out.alloc _) pt_syn);clear HS HKB y0 y1 y2 y3 y4 y5 hp1 hf1 HPU HBN;have HS:=HS2;have HKB:=HKB2;clear HS2 HKB2;have y0:w2.cell? ⟨KB,0,none⟩=some (.int .i64 7):=HKB.out.cell 0
  have y1:w2.cell? ⟨KB,1,none⟩=some (.string ⟨tx.toArray⟩):=HKB.out.cell 1
  have y2:w2.cell? ⟨KB,2,none⟩=some (.int .i64 nu):=HKB.out.cell 2
  have y3:w2.cell? ⟨KB,3,none⟩=some (.slice xn nm.length cn):=HKB.out.cell 3
  have y4:w2.cell? ⟨KB,4,none⟩=some (.slice xk k.len ck):=HKB.out.cell 4
  have y5:w2.cell? ⟨KB,5,none⟩=some (.int .i64 ps):=HKB.out.cell 5
  have HC:=zH (HLI.out k (.slice xk k.len ck) 40 41 w2 (l++([tx]:List Nm).flatten) HN.out (ex_kids HEN.out) HKR.out (by rw [HB.out]; exact HS.out.bel) (by rw [HB.out]; exact HS.out.prt) (by have h1:=HBND.out; unfold Mw at h1 ⊢; first | (simp only [List.length_append] at h1 ⊢; omega) | (simp only [List.length_append,List.flatten_cons,List.flatten_nil,List.append_nil] at h1 ⊢; omega)))
  rw [HB.out] at HC;go_wp2_with fail;refine HC.out.mono ?_;rintro e w3 ⟨rfl,hp1,hf1⟩;have HS2:=zH (HS.out.next (Below.refl _ _) hp1 hf1);clear HS hp1 hf1 HC HKB y0 y1 y2 y3 y4 y5;have HS:=HS2;clear HS2;go_wp2_with fail;first
   | refine bodyPost_ret (results_none rfl _ _ _) rfl ⟨rfl,?_,HS.out.fr⟩
   | refine bodyPost_end (results_none rfl _ _ _) rfl ⟨rfl,?_,HS.out.fr⟩
  have h1:=HS.out.prt
  simpa [List.append_assoc,HRT.out] using h1
 ·-- 8
  obtain rfl:kd=8:=hkd
  clear hkd2;obtain ⟨h0,k0,h1,k1,rfl,hen0,hen1⟩:=ex_two HEN.out (Or.inr rfl);obtain ⟨b0,off,xn0,cn0,xk0,ck0,rfl,hb0,⟨z0,z1,z2,z3,z4,z5⟩,hk0⟩:=HKR.out.node0;have hB0:b0 < B:=by rw [← HB.out]; exact hb0
  have HB0:=zH hB0
  have HZ:=zH (And.intro z0 (And.intro z1 (And.intro z2 (And.intro z3 (And.intro z4 z5)))))
  clear z0 z1 z2 z3 z4 z5 hb0 hB0;have hks:k0.size < N∧(Fo.cons h1 k1 .nil).size < N+1:=by have h1:=HN.out; simp only [Fo.size] at h1 ⊢; omega
  have hI0:=fun w l b h1 h2 h3=>HI.out h0 k0 b xn0 xk0 cn0 ck0 w l hks.1 hen0 hk0 h1 h2 h3
  rw [HB.out] at hI0;have HI0:=zH hI0;have hrt1:rt .ex (.cons h1 k1 .nil)=true:=by rw [rt_ex]; simp only [allG,Bool.and_true]; exact hen1
  have htl:=FRow.tail (A:=.cons h0 k0 .nil) (R:=.cons h1 k1 .nil) HKR.out
  simp only [Fo.len,Nat.zero_add,Nat.one_mul] at htl;have hL1:=fun w l h2 h3 h4=>HLI.out (.cons h1 k1 .nil) _ 91 93 w l hks.2 hrt1 htl h2 h3 h4
  rw [HB.out] at hL1;have HL1:=zH hL1;obtain ⟨_,_,hvv,hlc,hlm,-⟩:=id HKR.out;injection hvv with e1 e2 e3
  subst e1 e3;unfold maxLen at hlm;simp only [Fo.len,Nat.zero_add] at hlc;clear hI0 hks hen0 hk0 hrt1 htl hL1 hen1 e2;simp only [Fo.len,Nat.zero_add,Nat.reduceAdd] at HKB y4;obtain ⟨E0,hE0⟩:∃E,exOne h0 (exT k0)=E:=⟨_,rfl⟩;obtain ⟨E1,hE1⟩:∃E,lisT 91 (exT (.cons h1 k1 .nil)) 93=E:=⟨_,rfl⟩;have hT:TT=opW (decide (h0.kind=6)||decide (h0.kind=5)) E0++E1:=by rw [← HTT.out,← hE1,← hE0]; rfl
  rw [hE0] at HI0;rw [hE1] at HL1;rw [hT] at HBND;have HRT:=zH hT;clear hT HTT hE0 hE1;unfold ndV at HI0;have hck1:¬ ck=1:=by omega
  have hck2:¬ (1=ck):=by omega
  obtain ⟨b6,hb6⟩:∃b,decide (h0.kind=6)=b:=⟨_,rfl⟩
  obtain ⟨b5,hb5⟩:∃b,decide (h0.kind=5)=b:=⟨_,rfl⟩
  have e6:(h0.kind==6)=b6:=by rw [← hb6]; rfl
  have e5:(h0.kind==5)=b5:=by rw [← hb5]; rfl
  rw [hb6,hb5] at HBND HRT;clear hb6 hb5;go_upto_region 22 with fail
  cases b6
  case false=>
   rw [Bool.false_or] at HBND HRT;obtain ⟨K0,hK0⟩:∃K0,K0=wz.heap.size:=⟨_,rfl⟩;have HK0:=zH hK0;have HLB:Hid (b0 < K0):=by have h1:=HS.out.size; have h2:=HB0.out; show _ < _; rw [hK0]; omega
   have HLK:Hid (KB < K0):=by rw [hK0]; exact HKB.out.lt
   obtain ⟨z0,z1,z2,z3,z4,z5⟩:=HZ.out
   have tz:∀(u:BW K0 wz) o v,w0.cell? ⟨b0,o,none⟩=some v→u.w.cell? ⟨b0,o,none⟩=some v:=fun u o v h=>(u.b.cell (p:=⟨b0,o,none⟩) HLB.out).trans ((HS.out.bel.cell (p:=⟨b0,o,none⟩) HB0.out).trans h)
   have u4:∀u:BW K0 wz,u.w.cell? ⟨KB,4,none⟩=some (.slice (some ⟨b0,off,none⟩) 2 ck):=fun u=>(u.b.cell (p:=⟨KB,4,none⟩) HLK.out).trans (HKB.out.cell 4)
   have a0:=fun u=>tz u _ _ z0
   have a1:=fun u=>tz u _ _ z1
   have a2:=fun u=>tz u _ _ z2
   have a3:=fun u=>tz u _ _ z3
   have a4:=fun u=>tz u _ _ z4
   have a5:=fun u=>tz u _ _ z5
   clear hK0 z0 z1 z2 z3 z4 z5 tz y0 y1 y2 y3 y4 y5;refine wp_region_bw_tail K0 wz 19 (Below.refl _ _) (by kernel_rfl) (by kernel_rfl) ?_
   simp only [List.take_succ_cons,List.take_zero,List.drop_succ_cons,List.drop_zero];repeat (go_big_quiet_step (fail))
   refine wpQuiet_nil ?_
   rintro _ ⟨v9,rfl⟩;have hb9:Below wz.heap.size wz v9.w:=v9.b.mono (Nat.le_of_eq HK0.out.symm);have HS2:=zH (HS.out.below hb9);have HKB2:=zH (show Blk v9.w KB 31 _ from (hb9.block _ HKB.out.lt).trans HKB.out)
   clear hb9 HS HKB u4 a0 a1 a2 a3 a4 a5 HLB HLK;have HS:=HS2;have HKB:=HKB2;clear HS2 HKB2;generalize v9.w=wv at*;clear v9 HK0;have y0:wv.cell? ⟨KB,0,none⟩=some (.int .i64 8):=HKB.out.cell 0;have y1:wv.cell? ⟨KB,1,none⟩=some (.string ⟨tx.toArray⟩):=HKB.out.cell 1;have y2:wv.cell? ⟨KB,2,none⟩=some (.int .i64 nu):=HKB.out.cell 2
   have y3:wv.cell? ⟨KB,3,none⟩=some (.slice xn nm.length cn):=HKB.out.cell 3
   have y4:wv.cell? ⟨KB,4,none⟩=some (.slice (some ⟨b0,off,none⟩) 2 ck):=HKB.out.cell 4
   have y5:wv.cell? ⟨KB,5,none⟩=some (.int .i64 ps):=HKB.out.cell 5
   have HC:=zH (HI0.out wv l b5 HS.out.bel HS.out.prt (by have h1:=HBND.out; unfold Mw at h1 ⊢; first | (simp only [List.length_append] at h1 ⊢; omega) | (simp only [List.length_append,List.flatten_cons,List.flatten_nil,List.append_nil,List.length_cons,List.length_nil] at h1 ⊢; omega)))
   go_wp2_with fail;refine HC.out.mono ?_;rintro e w3 ⟨rfl,hp1,hf1⟩;have HS2:=zH (HS.out.next (Below.refl _ _) hp1 hf1);have HKB2:=zH (hf1.blk HKB.out pt_syn);clear HS HKB y0 y1 y2 y3 y4 y5 hp1 hf1 HC;have HS:=HS2;have HKB:=HKB2;clear HS2 HKB2;have y0:w3.cell? ⟨KB,0,none⟩=some (.int .i64 8):=HKB.out.cell 0;have y1:w3.cell? ⟨KB,1,none⟩=some (.string ⟨tx.toArray⟩):=HKB.out.cell 1
   have y2:w3.cell? ⟨KB,2,none⟩=some (.int .i64 nu):=HKB.out.cell 2
   have y3:w3.cell? ⟨KB,3,none⟩=some (.slice xn nm.length cn):=HKB.out.cell 3
   have y4:w3.cell? ⟨KB,4,none⟩=some (.slice (some ⟨b0,off,none⟩) 2 ck):=HKB.out.cell 4
   have y5:w3.cell? ⟨KB,5,none⟩=some (.int .i64 ps):=HKB.out.cell 5
   go_upto_region 23 with fail
   have HC:=zH (HL1.out w3 (l++(opW b5 E0)) HS.out.bel HS.out.prt (by have h1:=HBND.out; unfold Mw at h1 ⊢; first | (simp only [List.length_append] at h1 ⊢; omega) | (simp only [List.length_append,List.flatten_cons,List.flatten_nil,List.append_nil,List.length_cons,List.length_nil] at h1 ⊢; omega)))
   go_wp2_with fail;refine HC.out.mono ?_;rintro e w4 ⟨rfl,hp1,hf1⟩;have HS2:=zH (HS.out.next (Below.refl _ _) hp1 hf1);clear HS hp1 hf1 HC HKB y0 y1 y2 y3 y4 y5;have HS:=HS2;clear HS2;go_wp2_with fail;first
    | refine bodyPost_ret (results_none rfl _ _ _) rfl ⟨rfl,?_,HS.out.fr⟩
    | refine bodyPost_end (results_none rfl _ _ _) rfl ⟨rfl,?_,HS.out.fr⟩
   have h1:=HS.out.prt
   simpa [List.append_assoc,HRT.out] using h1
  case true=>
   rw [Bool.true_or] at HBND HRT;obtain ⟨K0,hK0⟩:∃K0,K0=wz.heap.size:=⟨_,rfl⟩;have HK0:=zH hK0;have HLB:Hid (b0 < K0):=by have h1:=HS.out.size; have h2:=HB0.out; show _ < _; rw [hK0]; omega
   have HLK:Hid (KB < K0):=by rw [hK0]; exact HKB.out.lt
   obtain ⟨z0,z1,z2,z3,z4,z5⟩:=HZ.out
   have tz:∀(u:BW K0 wz) o v,w0.cell? ⟨b0,o,none⟩=some v→u.w.cell? ⟨b0,o,none⟩=some v:=fun u o v h=>(u.b.cell (p:=⟨b0,o,none⟩) HLB.out).trans ((HS.out.bel.cell (p:=⟨b0,o,none⟩) HB0.out).trans h)
   have u4:∀u:BW K0 wz,u.w.cell? ⟨KB,4,none⟩=some (.slice (some ⟨b0,off,none⟩) 2 ck):=fun u=>(u.b.cell (p:=⟨KB,4,none⟩) HLK.out).trans (HKB.out.cell 4)
   have a0:=fun u=>tz u _ _ z0
   have a1:=fun u=>tz u _ _ z1
   have a2:=fun u=>tz u _ _ z2
   have a3:=fun u=>tz u _ _ z3
   have a4:=fun u=>tz u _ _ z4
   have a5:=fun u=>tz u _ _ z5
   clear hK0 z0 z1 z2 z3 z4 z5 tz y0 y1 y2 y3 y4 y5;refine wp_region_bw_tail K0 wz 19 (Below.refl _ _) (by kernel_rfl) (by kernel_rfl) ?_
   simp only [List.take_succ_cons,List.take_zero,List.drop_succ_cons,List.drop_zero];repeat (go_big_quiet_step (fail))
   refine wpQuiet_nil ?_
   rintro _ ⟨v9,rfl⟩;have hb9:Below wz.heap.size wz v9.w:=v9.b.mono (Nat.le_of_eq HK0.out.symm);have HS2:=zH (HS.out.below hb9);have HKB2:=zH (show Blk v9.w KB 31 _ from (hb9.block _ HKB.out.lt).trans HKB.out)
   clear hb9 HS HKB u4 a0 a1 a2 a3 a4 a5 HLB HLK;have HS:=HS2;have HKB:=HKB2;clear HS2 HKB2;generalize v9.w=wv at*;clear v9 HK0;have y0:wv.cell? ⟨KB,0,none⟩=some (.int .i64 8):=HKB.out.cell 0;have y1:wv.cell? ⟨KB,1,none⟩=some (.string ⟨tx.toArray⟩):=HKB.out.cell 1;have y2:wv.cell? ⟨KB,2,none⟩=some (.int .i64 nu):=HKB.out.cell 2
   have y3:wv.cell? ⟨KB,3,none⟩=some (.slice xn nm.length cn):=HKB.out.cell 3
   have y4:wv.cell? ⟨KB,4,none⟩=some (.slice (some ⟨b0,off,none⟩) 2 ck):=HKB.out.cell 4
   have y5:wv.cell? ⟨KB,5,none⟩=some (.int .i64 ps):=HKB.out.cell 5
   have HC:=zH (HI0.out wv l true HS.out.bel HS.out.prt (by have h1:=HBND.out; unfold Mw at h1 ⊢; first | (simp only [List.length_append] at h1 ⊢; omega) | (simp only [List.length_append,List.flatten_cons,List.flatten_nil,List.append_nil,List.length_cons,List.length_nil] at h1 ⊢; omega)))
   go_wp2_with fail;refine HC.out.mono ?_;rintro e w3 ⟨rfl,hp1,hf1⟩;have HS2:=zH (HS.out.next (Below.refl _ _) hp1 hf1);have HKB2:=zH (hf1.blk HKB.out pt_syn);clear HS HKB y0 y1 y2 y3 y4 y5 hp1 hf1 HC;have HS:=HS2;have HKB:=HKB2;clear HS2 HKB2;have y0:w3.cell? ⟨KB,0,none⟩=some (.int .i64 8):=HKB.out.cell 0;have y1:w3.cell? ⟨KB,1,none⟩=some (.string ⟨tx.toArray⟩):=HKB.out.cell 1
   have y2:w3.cell? ⟨KB,2,none⟩=some (.int .i64 nu):=HKB.out.cell 2
   have y3:w3.cell? ⟨KB,3,none⟩=some (.slice xn nm.length cn):=HKB.out.cell 3
   have y4:w3.cell? ⟨KB,4,none⟩=some (.slice (some ⟨b0,off,none⟩) 2 ck):=HKB.out.cell 4
   have y5:w3.cell? ⟨KB,5,none⟩=some (.int .i64 ps):=HKB.out.cell 5
   go_upto_region 23 with fail
   have HC:=zH (HL1.out w3 (l++(opW true E0)) HS.out.bel HS.out.prt (by have h1:=HBND.out; unfold Mw at h1 ⊢; first | (simp only [List.length_append] at h1 ⊢; omega) | (simp only [List.length_append,List.flatten_cons,List.flatten_nil,List.append_nil,List.length_cons,List.length_nil] at h1 ⊢; omega)))
   go_wp2_with fail;refine HC.out.mono ?_;rintro e w4 ⟨rfl,hp1,hf1⟩;have HS2:=zH (HS.out.next (Below.refl _ _) hp1 hf1);clear HS hp1 hf1 HC HKB y0 y1 y2 y3 y4 y5;have HS:=HS2;clear HS2;go_wp2_with fail;first
    | refine bodyPost_ret (results_none rfl _ _ _) rfl ⟨rfl,?_,HS.out.fr⟩
    | refine bodyPost_end (results_none rfl _ _ _) rfl ⟨rfl,?_,HS.out.fr⟩
   have h1:=HS.out.prt
   simpa [List.append_assoc,HRT.out] using h1
 ·-- 9
  obtain rfl:kd=9:=hkd
  clear hkd2;have hT:TT=[116,114,117,101]:=by rw [← HTT.out]; rfl
  rw [hT] at HBND;have HRT:=zH hT;clear hT HTT;have hbn:=(Below.refl wz.heap.size wz).alloc (Nat.le_refl _) (.cells #[.string ⟨#[116,114,117,101]⟩] 9)
  have HPU:=zH (put_any B P l wz.heap.size [[116,114,117,101]] (wz.alloc (.cells #[.string ⟨#[116,114,117,101]⟩] 9)) (HS.out.prt.below hbn) (Blk.new wz 9 #[.string ⟨#[116,114,117,101]⟩]) (by simp) (by have h1:=HBND.out; unfold Mw at h1; first | (simp only [List.length_cons,List.length_nil] at h1 ⊢; omega) | (simp only [List.flatten_cons,List.flatten_nil,List.append_nil,List.length_cons,List.length_nil] at h1 ⊢; omega)) (by have h1:=HS.out.size; simp; omega))
  have e1:([[116,114,117,101]]:List Nm).length=1:=rfl
  rw [e1] at HPU;have HBN:=zH hbn;clear e1 hbn;go_wp2_with fail;refine HPU.out.mono ?_;rintro e w2 ⟨rfl,hp1,hf1⟩;have HS2:=zH (HS.out.next HBN.out hp1 hf1);clear HS hp1 hf1 HPU HBN HKB y0 y1 y2 y3 y4 y5;have HS:=HS2;clear HS2;go_wp2_with fail;first
   | refine bodyPost_ret (results_none rfl _ _ _) rfl ⟨rfl,?_,HS.out.fr⟩
   | refine bodyPost_end (results_none rfl _ _ _) rfl ⟨rfl,?_,HS.out.fr⟩
  have h1:=HS.out.prt
  simpa [List.append_assoc,HRT.out] using h1
 ·-- 10
  obtain rfl:kd=10:=hkd
  clear hkd2;have hT:TT=[102,97,108,115,101]:=by rw [← HTT.out]; rfl
  rw [hT] at HBND;have HRT:=zH hT;clear hT HTT;have hbn:=(Below.refl wz.heap.size wz).alloc (Nat.le_refl _) (.cells #[.string ⟨#[102,97,108,115,101]⟩] 9)
  have HPU:=zH (put_any B P l wz.heap.size [[102,97,108,115,101]] (wz.alloc (.cells #[.string ⟨#[102,97,108,115,101]⟩] 9)) (HS.out.prt.below hbn) (Blk.new wz 9 #[.string ⟨#[102,97,108,115,101]⟩]) (by simp) (by have h1:=HBND.out; unfold Mw at h1; first | (simp only [List.length_cons,List.length_nil] at h1 ⊢; omega) | (simp only [List.flatten_cons,List.flatten_nil,List.append_nil,List.length_cons,List.length_nil] at h1 ⊢; omega)) (by have h1:=HS.out.size; simp; omega))
  have e1:([[102,97,108,115,101]]:List Nm).length=1:=rfl
  rw [e1] at HPU;have HBN:=zH hbn;clear e1 hbn;go_wp2_with fail;refine HPU.out.mono ?_;rintro e w2 ⟨rfl,hp1,hf1⟩;have HS2:=zH (HS.out.next HBN.out hp1 hf1);clear HS hp1 hf1 HPU HBN HKB y0 y1 y2 y3 y4 y5;have HS:=HS2;clear HS2;go_wp2_with fail;first
   | refine bodyPost_ret (results_none rfl _ _ _) rfl ⟨rfl,?_,HS.out.fr⟩
   | refine bodyPost_end (results_none rfl _ _ _) rfl ⟨rfl,?_,HS.out.fr⟩
  have h1:=HS.out.prt
  simpa [List.append_assoc,HRT.out] using h1
theorem px_all (w0:World) (P:Nat) (htab:Lib.TabIs Tryz.prog w0 "internal/strconv.uint64pow10" .u64 Lib.pow10Tab):∀N,PxOk w0 P N:=by
 intro N;induction N with
 | zero=>intro h k xn xk cn ck w l hN; omega
 | succ N ih=>exact expr_step w0 P N htab ih
end Go.Proofs.YtbaidkefobhipaaGreatDoor
